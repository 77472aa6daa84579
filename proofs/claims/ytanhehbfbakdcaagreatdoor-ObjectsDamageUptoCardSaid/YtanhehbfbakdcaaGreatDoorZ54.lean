/- ObjectsDamage: walk, printed by my gen.py out of annotations. -/
import Derived.Test.YtanhehbfbakdcaaGreatDoorZ53
import Derived.Laws.BytesArg
import Derived.Lib.ConvBytes
/- Print: printed by my gen.py out of annotations. -/
set_option linter.unusedSimpArgs false
set_option linter.unusedVariables false
namespace Go.Proofs.YtanhehbfbakdcaaGreatDoor
namespace Sl
open Go

set_option maxHeartbeats 1000000 in
theorem c_Print {ad : Option Addr} {c : Nat} {l : List PMod} {m : Mem} (G : Glob m) (hl : Lst MoR 4 m ad c l) (hsz : szFile l ≤ 100000000000) : Spec Tryz.prog 40 #[.agg #[.slice ad l.length c]] m [] (RetF fun _ v => match printP l with | some t => v = .tuple #[.string ⟨t.toArray⟩, .int .i64 0] | none => v = .tuple #[.string ⟨#[]⟩, .int .i64 90]) := by
  refine Spec.enter0 Tryz.func40 rfl 84 Tryz.ntmps40 rfl fun a w0 Lf A H => ?_
  have hM := Le.refl m
  have hcap := hl.cap
  have hmx : maxLen = 9223372036854775807 := rfl
  refine wp_seq ?_
  refine wp_region_lit ?_
  refine step_box A H rfl (by simp only [Value.cells, List.toList_toArray]; rfl) rfl ?_; intro b1 a w A H
  refine step (Runs.assign A rfl) A rfl ?_; clear A a; intro a A
  refine step (Runs.assign A rfl) A rfl ?_; clear A a; intro a A
  refine wpList_nil ?_
  refine wp_seq ?_
  refine wp_region_lit ?_
  refine step (Runs.build A rfl rfl rfl) A rfl ?_; clear A a; intro a A
  refine step_box A H rfl (by simp only [Value.cells, List.toList_toArray]; rfl) rfl ?_; intro b a w A H
  refine step (Runs.assign A rfl) A rfl ?_; clear A a; intro a A
  refine wpList_nil ?_
  refine wp_seq ?_
  refine wp_seq ?_
  have H := (H.row_nil 5 1).perm (List.Perm.swap _ _ _)
  have H := St.pr_close (t := []) (B := szFile (l.take 0)) H (.inl rfl) (fun _ => rfl) (by simp)
  refine wp_region_lit ?_
  refine step (Runs.fa A rfl) A rfl ?_; clear A a; intro a A
  refine step (Runs.ld1 A H rfl rfl) A rfl ?_; clear A a; intro a A
  refine step (Runs.lenL A rfl SlC.h) A rfl ?_; clear A a; intro a A
  refine step (Runs.move A rfl) A rfl ?_; clear A a; intro a A
  refine wpList_nil ?_
  refine wp_block ?_
  refine wp_loop_ghost (fun q a w => ∃ (i : Nat) (y : PS) (m' : Mem), q = l.length - i ∧ (i ≤ l.length ∧ y = (l.take i).foldl (fun x m => modP m x) ⟨[], true⟩) ∧ Le m m' ∧ Fr 84 a [(4, .pointer (some ⟨b, 0, none⟩)), (12, .slice ad l.length c), (13, .int .i64 l.length), (14, .int .i64 i)] [] ∧ St w0 w m' (prR b y (szFile (l.take i)) :: pt b1 [.slice ad l.length c] 38 :: Lf)) _ ⟨0, ⟨[], true⟩, m, rfl, ⟨by omega, rfl⟩, Le.refl m, (Fr.cons A rfl (Fr.cons A rfl (Fr.cons A rfl (Fr.cons A rfl (Fr.nil A))))), H.subH⟩ ?_
  clear A H; rintro q a w ⟨i, y, m, rfl, hinv, hm, A, H⟩
  have hM := hM.trans hm
  have G := G.mono hm
  have hl := hl.mono hm
  have hl1 := hm
  obtain ⟨hi, hy⟩ := hinv
  have hsl : szFile (l.take i) ≤ szFile l := szL_le i
  refine wp_seq ?_
  refine wp_region_lit ?_
  refine step (Runs.lss A rfl rfl) A rfl ?_; clear A a; intro a A
  refine wpList_nil ?_
  refine wp_seq ?_
  refine cond_split A rfl (fun h1 => ?_) (fun h1 => ?_)
  · have g1 := h1
    try simp only [decide_eq_true_eq, decide_eq_false_iff_not, Bool.not_eq_true', Bool.not_eq_false', ne_eq, Decidable.not_not, Int.not_lt, Int.not_le] at g1
    refine wp_skip ?_
    refine wp_seq ?_
    refine wp_block ?_
    refine wp_seq ?_
    refine wp_region_lit ?_
    obtain ⟨mo, hq⟩ := ex_at (l := l) (i := i) (by omega)
    obtain ⟨bb, off, cs, rfl, hfz, hcs⟩ := hl.all_ (by decide) (by omega)
    obtain ⟨us, hus, hR, hg⟩ := hcs _ _ hq
    obtain ⟨ap, cp, ai, ci, rfl, hmo⟩ := hR
    obtain ⟨hmp, hmi⟩ := hmo
    have hst : szFile (l.take (i + 1)) = szFile (l.take i) + szMod mo := szL_take hq
    have hsl2 : szFile (l.take (i + 1)) ≤ szFile l := szL_le (i + 1)
    have hszm : szMod mo = 100 + mo.name.size + mo.clock.size + szStrs mo.params + szL (fun i => 10 + szItem i) mo.items := rfl
    have hcpi := hmi.cap
    refine step (Runs.indexAddr A rfl rfl SlC.h (by omega) (by omega)) A rfl ?_; clear A a; intro a A
    refine step (Runs.ldN A H rfl (vs := moC mo ap cp ai ci) (by simpa using hg)) A rfl ?_; clear A a; intro a A
    refine step_alloc A H rfl ?_; clear A a; intro b6 a w A H
    refine step_store A H rfl rfl rfl rfl rfl rfl ?_; intro w H
    refine wpList_nil ?_
    refine wp_seq ?_
    refine wp_region_lit ?_
    refine step (Runs.move A rfl) A rfl ?_; clear A a; intro a A
    refine step (Runs.nilCheck A rfl) A rfl ?_; clear A a; intro a A
    refine step (Runs.fa A rfl) A rfl ?_; clear A a; intro a A
    refine step_callPr A rfl rfl (c_WriteString 7 (by decide)) H (by omega) ?_
    clear A a; rintro v5_3 a w m hm rfl A H
    simp only [List.cons_append, List.nil_append] at H
    have hM := hM.trans hm
    have hl1 := hl1.trans hm
    have G := G.mono hm
    have hl := hl.mono hm
    have hmp := hmp.mono hm
    have hmi := hmi.mono hm
    refine wpList_nil ?_
    refine wp_seq ?_
    refine wp_region_lit ?_
    refine step (Runs.move A rfl) A rfl ?_; clear A a; intro a A
    refine step (Runs.fa A rfl) A rfl ?_; clear A a; intro a A
    refine step (Runs.ld1 A H rfl rfl) A rfl ?_; clear A a; intro a A
    refine step_callPr A rfl rfl (c_syntax_printer_name G (by omega)) H (by omega) ?_
    clear A a; rintro v6_3 a w m hm rfl A H
    simp only [List.cons_append, List.nil_append] at H
    have hM := hM.trans hm
    have hl1 := hl1.trans hm
    have G := G.mono hm
    have hl := hl.mono hm
    have hmp := hmp.mono hm
    have hmi := hmi.mono hm
    refine wpList_nil ?_
    refine wp_seq ?_
    refine wp_region_lit ?_
    refine step (Runs.move A rfl) A rfl ?_; clear A a; intro a A
    refine step (Runs.fa A rfl) A rfl ?_; clear A a; intro a A
    refine step (Runs.ld1 A H rfl rfl) A rfl ?_; clear A a; intro a A
    refine step (Runs.move A rfl) A rfl ?_; clear A a; intro a A
    refine step (Runs.makeFuncB A rfl rfl) A rfl ?_; clear A a; intro a A
    refine step_callPr A rfl rfl (c_listS G hmp) H (by omega) ?_
    clear A a; rintro v7_5 a w m hm rfl A H
    simp only [List.cons_append, List.nil_append] at H
    have hM := hM.trans hm
    have hl1 := hl1.trans hm
    have G := G.mono hm
    have hl := hl.mono hm
    have hmp := hmp.mono hm
    have hmi := hmi.mono hm
    refine wpList_nil ?_
    refine wp_seq ?_
    refine wp_region_lit ?_
    refine step (Runs.move A rfl) A rfl ?_; clear A a; intro a A
    refine step (Runs.nilCheck A rfl) A rfl ?_; clear A a; intro a A
    refine step (Runs.fa A rfl) A rfl ?_; clear A a; intro a A
    refine step_callPr A rfl rfl (c_WriteString 3 (by decide)) H (by omega) ?_
    clear A a; rintro v8_3 a w m hm rfl A H
    simp only [List.cons_append, List.nil_append] at H
    have hM := hM.trans hm
    have hl1 := hl1.trans hm
    have G := G.mono hm
    have hl := hl.mono hm
    have hmp := hmp.mono hm
    have hmi := hmi.mono hm
    refine wpList_nil ?_
    refine wp_seq ?_
    refine wp_region_lit ?_
    refine step (Runs.move A rfl) A rfl ?_; clear A a; intro a A
    refine step (Runs.fa A rfl) A rfl ?_; clear A a; intro a A
    refine step (Runs.ld1 A H rfl rfl) A rfl ?_; clear A a; intro a A
    refine step_callPr A rfl rfl (c_syntax_printer_name G (by omega)) H (by omega) ?_
    clear A a; rintro v9_3 a w m hm rfl A H
    simp only [List.cons_append, List.nil_append] at H
    have hM := hM.trans hm
    have hl1 := hl1.trans hm
    have G := G.mono hm
    have hl := hl.mono hm
    have hmp := hmp.mono hm
    have hmi := hmi.mono hm
    refine wpList_nil ?_
    refine wp_seq ?_
    refine wp_region_lit ?_
    refine step (Runs.move A rfl) A rfl ?_; clear A a; intro a A
    refine step (Runs.nilCheck A rfl) A rfl ?_; clear A a; intro a A
    refine step (Runs.fa A rfl) A rfl ?_; clear A a; intro a A
    refine step_callPr A rfl rfl (c_WriteString 3 (by decide)) H (by omega) ?_
    clear A a; rintro v10_3 a w m hm rfl A H
    simp only [List.cons_append, List.nil_append] at H
    have hM := hM.trans hm
    have hl1 := hl1.trans hm
    have G := G.mono hm
    have hl := hl.mono hm
    have hmp := hmp.mono hm
    have hmi := hmi.mono hm
    refine wpList_nil ?_
    refine wp_seq ?_
    refine wp_seq ?_
    have H := H.pr_at (b := b) (y := wr [32, 123, 10] (nameP mo.clock (wr [32, 64, 32] (listP nameP mo.params (nameP mo.name (wr [109, 111, 100, 117, 108, 101, 32] y)))))) rfl
    obtain ⟨y0, hy0⟩ : ∃ z, z = wr [32, 123, 10] (nameP mo.clock (wr [32, 64, 32] (listP nameP mo.params (nameP mo.name (wr [109, 111, 100, 117, 108, 101, 32] y))))) := ⟨_, rfl⟩
    rw [← hy0] at H
    refine wp_region_lit ?_
    refine step (Runs.fa A rfl) A rfl ?_; clear A a; intro a A
    refine step (Runs.ld1 A H rfl rfl) A rfl ?_; clear A a; intro a A
    refine step (Runs.lenL A rfl SlC.h) A rfl ?_; clear A a; intro a A
    refine step (Runs.move A rfl) A rfl ?_; clear A a; intro a A
    refine wpList_nil ?_
    refine wp_block ?_
    have H := H.pr_le (b := b) (B' := (szFile (l.take i) + 50 + mo.name.size + mo.clock.size + szStrs mo.params) + szL (fun i => 10 + szItem i) (mo.items.take 0)) (by simp [szL]; omega)
    refine wp_loop_ghost (fun q a w => ∃ (k : Nat) (zz : PS) (m' : Mem), q = mo.items.length - k ∧ (k ≤ mo.items.length ∧ zz = (mo.items.take k).foldl (fun y i => wr [59, 10] (itemP i (wr [32, 32] y))) y0) ∧ Le m m' ∧ Fr 84 a [(4, .pointer (some ⟨b, 0, none⟩)), (12, .slice (some ⟨bb, off, none⟩) l.length c), (13, .int .i64 l.length), (14, .int .i64 i), (45, .slice ai mo.items.length ci), (46, .int .i64 mo.items.length), (47, .int .i64 k)] [] ∧ St w0 w m' (prR b zz ((szFile (l.take i) + 50 + mo.name.size + mo.clock.size + szStrs mo.params) + szL (fun i => 10 + szItem i) (mo.items.take k)) :: pt b6 [.string mo.name, .string mo.clock, .slice ap mo.params.length cp, .slice ai mo.items.length ci] 83 :: pt b1 [.slice (some ⟨bb, off, none⟩) l.length c] 38 :: Lf)) _ ⟨0, y0, m, rfl, ⟨by omega, rfl⟩, Le.refl m, (Fr.cons A rfl (Fr.cons A rfl (Fr.cons A rfl (Fr.cons A rfl (Fr.cons A rfl (Fr.cons A rfl (Fr.cons A rfl (Fr.nil A)))))))), H.subH⟩ ?_
    clear A H; rintro q a w ⟨k, zz, m, rfl, hinv, hm, A, H⟩
    have hM := hM.trans hm
    have hl1 := hl1.trans hm
    have G := G.mono hm
    have hl := hl.mono hm
    have hmp := hmp.mono hm
    have hmi := hmi.mono hm
    have hl2 := hm
    obtain ⟨hk, hzz⟩ := hinv
    refine wp_seq ?_
    refine wp_region_lit ?_
    refine step (Runs.lss A rfl rfl) A rfl ?_; clear A a; intro a A
    refine wpList_nil ?_
    refine wp_seq ?_
    refine cond_split A rfl (fun h2 => ?_) (fun h2 => ?_)
    · have g2 := h2
      try simp only [decide_eq_true_eq, decide_eq_false_iff_not, Bool.not_eq_true', Bool.not_eq_false', ne_eq, Decidable.not_not, Int.not_lt, Int.not_le] at g2
      refine wp_skip ?_
      refine wp_seq ?_
      refine wp_block ?_
      refine wp_seq ?_
      refine wp_region_lit ?_
      obtain ⟨z, hz⟩ := ex_at (l := mo.items) (i := k) (by omega)
      obtain ⟨b7, off7, cs7, rfl, hfz7, hcs7⟩ := hmi.all_ (by decide) (by omega)
      obtain ⟨us7, hus7, hR7, hg7⟩ := hcs7 _ _ hz
      obtain ⟨pi, rfl, hI⟩ := hR7
      have hsti : szL (fun i => 10 + szItem i) (mo.items.take (k + 1)) = szL (fun i => 10 + szItem i) (mo.items.take k) + (10 + szItem z) := szL_take hz
      have hsli : szL (fun i => 10 + szItem i) (mo.items.take (k + 1)) ≤ szL (fun i => 10 + szItem i) mo.items := szL_le (k + 1)
      refine step (Runs.indexAddr A rfl rfl SlC.h (by omega) (by omega)) A rfl ?_; clear A a; intro a A
      refine step (Runs.ldN A H rfl (vs := itC z pi) (by simpa using hg7)) A rfl ?_; clear A a; intro a A
      refine step_alloc A H rfl ?_; clear A a; intro b8 a w A H
      refine step_store A H rfl rfl rfl rfl rfl rfl ?_; intro w H
      refine wpList_nil ?_
      refine wp_seq ?_
      refine wp_region_lit ?_
      refine step (Runs.move A rfl) A rfl ?_; clear A a; intro a A
      refine step (Runs.nilCheck A rfl) A rfl ?_; clear A a; intro a A
      refine step (Runs.fa A rfl) A rfl ?_; clear A a; intro a A
      refine step_callPr A rfl rfl (c_WriteString 2 (by decide)) H (by omega) ?_
      clear A a; rintro v14_3 a w m hm rfl A H
      simp only [List.cons_append, List.nil_append] at H
      have hM := hM.trans hm
      have hl1 := hl1.trans hm
      have hl2 := hl2.trans hm
      have G := G.mono hm
      have hl := hl.mono hm
      have hmp := hmp.mono hm
      have hmi := hmi.mono hm
      have hI := hI.mono hm
      refine wpList_nil ?_
      refine wp_seq ?_
      refine wp_region_lit ?_
      refine step (Runs.move A rfl) A rfl ?_; clear A a; intro a A
      refine step (Runs.ldN A H rfl rfl) A rfl ?_; clear A a; intro a A
      refine step_callPr A rfl rfl (c_printer_item (p := pi) G hI) H (by omega) ?_
      clear A a; rintro v15_2 a w m hm rfl A H
      simp only [List.cons_append, List.nil_append] at H
      have hM := hM.trans hm
      have hl1 := hl1.trans hm
      have hl2 := hl2.trans hm
      have G := G.mono hm
      have hl := hl.mono hm
      have hmp := hmp.mono hm
      have hmi := hmi.mono hm
      have hI := hI.mono hm
      refine wpList_nil ?_
      refine wp_region_lit ?_
      refine step (Runs.move A rfl) A rfl ?_; clear A a; intro a A
      refine step (Runs.nilCheck A rfl) A rfl ?_; clear A a; intro a A
      refine step (Runs.fa A rfl) A rfl ?_; clear A a; intro a A
      refine step_callPr A rfl rfl (c_WriteString 2 (by decide)) H (by omega) ?_
      clear A a; rintro v16_3 a w m hm rfl A H
      simp only [List.cons_append, List.nil_append] at H
      have hM := hM.trans hm
      have hl1 := hl1.trans hm
      have hl2 := hl2.trans hm
      have G := G.mono hm
      have hl := hl.mono hm
      have hmp := hmp.mono hm
      have hmi := hmi.mono hm
      have hI := hI.mono hm
      refine wpList_nil ?_
      refine wp_region_lit ?_
      refine step (Runs.add A rfl rfl (by omega)) A rfl ?_; clear A a; intro a A
      refine step (Runs.move A rfl) A rfl ?_; clear A a; intro a A
      refine wpList_nil ?_
      have H := H.pr_le (b := b) (B' := (szFile (l.take i) + 50 + mo.name.size + mo.clock.size + szStrs mo.params) + szL (fun i => 10 + szItem i) (mo.items.take (k + 1))) (by omega)
      exact ⟨_, by omega, k + 1, wr [59, 10] (itemP z (wr [32, 32] zz)), m, rfl, ⟨by omega, by rw [List.take_add_one, hz, List.foldl_append, ← hzz]; rfl⟩, hl2, (Fr.cons A rfl (Fr.cons A rfl (Fr.cons A rfl (Fr.cons A rfl (Fr.cons A rfl (Fr.cons A rfl (Fr.cons A rfl (Fr.nil A)))))))), H.subH⟩
    · have g2 := h2
      try simp only [decide_eq_true_eq, decide_eq_false_iff_not, Bool.not_eq_true', Bool.not_eq_false', ne_eq, Decidable.not_not, Int.not_lt, Int.not_le] at g2
      refine wp_exit ?_
      have hsl3 : szL (fun i => 10 + szItem i) (mo.items.take k) ≤ szL (fun i => 10 + szItem i) mo.items := szL_le k
      refine wp_region_lit ?_
      refine step (Runs.move A rfl) A rfl ?_; clear A a; intro a A
      refine step (Runs.nilCheck A rfl) A rfl ?_; clear A a; intro a A
      refine step (Runs.fa A rfl) A rfl ?_; clear A a; intro a A
      refine step_callPr A rfl rfl (c_WriteString 2 (by decide)) H (by omega) ?_
      clear A a; rintro v18_3 a w m hm rfl A H
      simp only [List.cons_append, List.nil_append] at H
      have hM := hM.trans hm
      have hl1 := hl1.trans hm
      have G := G.mono hm
      have hl := hl.mono hm
      have hmp := hmp.mono hm
      have hmi := hmi.mono hm
      refine wpList_nil ?_
      refine wp_region_lit ?_
      refine step (Runs.add A rfl rfl (by omega)) A rfl ?_; clear A a; intro a A
      refine step (Runs.move A rfl) A rfl ?_; clear A a; intro a A
      refine wpList_nil ?_
      have hkl : k = mo.items.length := by omega
      rw [hkl, List.take_length] at hzz
      have H := H.pr_le (b := b) (B' := szFile (l.take (i + 1))) (by have : szL (fun i => 10 + szItem i) (mo.items.take k) ≤ szL (fun i => 10 + szItem i) mo.items := szL_le k; omega)
      exact ⟨_, by omega, i + 1, wr [125, 10] zz, m, rfl, ⟨by omega, by rw [List.take_add_one, hq, List.foldl_append, ← hy, hzz, hy0]; rfl⟩, hl1, (Fr.cons A rfl (Fr.cons A rfl (Fr.cons A rfl (Fr.cons A rfl (Fr.nil A))))), H.subH⟩
  · have g1 := h1
    try simp only [decide_eq_true_eq, decide_eq_false_iff_not, Bool.not_eq_true', Bool.not_eq_false', ne_eq, Decidable.not_not, Int.not_lt, Int.not_le] at g1
    refine wp_exit ?_
    refine wp_seq ?_
    refine wp_seq ?_
    have hil : i = l.length := by omega
    have hyf : y = fileP l := by rw [hy, hil, List.take_length]; rfl
    obtain ⟨pa, ad0, c0, hpa, had, hlen, H⟩ := H.pr_open (b := b)
    refine wp_region_lit ?_
    refine step (Runs.move A rfl) A rfl ?_; clear A a; intro a A
    refine step (Runs.nilCheck A rfl) A rfl ?_; clear A a; intro a A
    refine step (Runs.fa A rfl) A rfl ?_; clear A a; intro a A
    refine step (Runs.ld1 A H rfl rfl) A rfl ?_; clear A a; intro a A
    refine step (Runs.not A rfl) A rfl ?_; clear A a; intro a A
    refine step (Runs.move A rfl) A rfl ?_; clear A a; intro a A
    refine onBool A (dj := 73) rfl (fun h3 => ?_) (fun h3 => ?_)
    · have g3 := h3
      try simp only [decide_eq_true_eq, decide_eq_false_iff_not, Bool.not_eq_true', Bool.not_eq_false', ne_eq, Decidable.not_not, Int.not_lt, Int.not_le] at g3
      refine stepSkip (dj := 73) rfl rfl h3 A rfl ?_; clear A a; intro a A
      refine stepSkip (dj := 73) rfl rfl h3 A rfl ?_; clear A a; intro a A
      refine stepSkip (dj := 73) rfl rfl h3 A rfl ?_; clear A a; intro a A
      refine stepSkip (dj := 73) rfl rfl h3 A rfl ?_; clear A a; intro a A
      refine stepSkip (dj := 73) rfl rfl h3 A rfl ?_; clear A a; intro a A
      refine step (Runs.pickT A rfl h3 rfl) A rfl ?_; clear A a; intro a A
      refine wpList_nil ?_
      refine cond_true A rfl rfl ?_
      refine wp_seq ?_
      refine wp_region_lit ?_
      refine step (Runs.assign A rfl) A rfl ?_; clear A a; intro a A
      refine step (Runs.assign A rfl) A rfl ?_; clear A a; intro a A
      refine wpList_nil ?_
      refine wp_ret ?_
      have hp : printP l = none := by
        rw [printP, ← hyf, if_neg]
        have : y.ok = false := by simpa using h3
        simp [this]
      exact retF2 A rfl rfl rfl hM H (by simp only [hp])
    · have g3 := h3
      try simp only [decide_eq_true_eq, decide_eq_false_iff_not, Bool.not_eq_true', Bool.not_eq_false', ne_eq, Decidable.not_not, Int.not_lt, Int.not_le] at g3
      refine stepG (dj := 73) rfl rfl h3 (Runs.move A rfl) A rfl ?_; clear A a; intro a A
      refine stepG (dj := 73) rfl rfl h3 (Runs.nilCheck A rfl) A rfl ?_; clear A a; intro a A
      refine stepG (dj := 73) rfl rfl h3 (Runs.fa A rfl) A rfl ?_; clear A a; intro a A
      have H := (H.pr_close hpa had hlen).pr_at (b := b) (y := y) rfl
      refine step_callSG (dj := 73) rfl rfl h3 A rfl rfl (c_BuilderLen (b := b) (x := y) (B := szFile (l.take i))) H ?_
      rintro v20_9 a w m L' hm ⟨rfl, rfl, hlen9⟩ A H
      simp only [List.cons_append, List.nil_append] at H
      have hM := hM.trans hm
      have G := G.mono hm
      have hl := hl.mono hm
      refine stepG (dj := 73) rfl rfl h3 (Runs.gtr A rfl rfl) A rfl ?_; clear A a; intro a A
      refine step (Runs.pickF A rfl h3 rfl) A rfl ?_; clear A a; intro a A
      refine wpList_nil ?_
      refine cond_split A rfl (fun h4 => ?_) (fun h4 => ?_)
      · have g4 := h4
        try simp only [decide_eq_true_eq, decide_eq_false_iff_not, Bool.not_eq_true', Bool.not_eq_false', ne_eq, Decidable.not_not, Int.not_lt, Int.not_le] at g4
        refine wp_seq ?_
        refine wp_region_lit ?_
        refine step (Runs.assign A rfl) A rfl ?_; clear A a; intro a A
        refine step (Runs.assign A rfl) A rfl ?_; clear A a; intro a A
        refine wpList_nil ?_
        refine wp_ret ?_
        have hp : printP l = none := by
          rw [printP, ← hyf, if_neg]
          simp only [Bool.and_eq_true, decide_eq_true_eq]; omega
        exact retF2 A rfl rfl rfl hM H (by simp only [hp])
      · have g4 := h4
        try simp only [decide_eq_true_eq, decide_eq_false_iff_not, Bool.not_eq_true', Bool.not_eq_false', ne_eq, Decidable.not_not, Int.not_lt, Int.not_le] at g4
        refine wp_skip ?_
        refine wp_seq ?_
        refine wp_region_lit ?_
        refine step (Runs.move A rfl) A rfl ?_; clear A a; intro a A
        refine step (Runs.nilCheck A rfl) A rfl ?_; clear A a; intro a A
        refine step (Runs.fa A rfl) A rfl ?_; clear A a; intro a A
        refine step_callS A rfl rfl (c_BuilderString (b := b) (x := y) (B := szFile (l.take i)) (by have : szFile (l.take i) ≤ szFile l := szL_le i; omega)) H ?_
        rintro v22_3 a w m L' hm ⟨rfl, rfl⟩ A H
        simp only [List.cons_append, List.nil_append] at H
        have hM := hM.trans hm
        have G := G.mono hm
        have hl := hl.mono hm
        refine step (Runs.assign A rfl) A rfl ?_; clear A a; intro a A
        refine step (Runs.assign A rfl) A rfl ?_; clear A a; intro a A
        refine wpList_nil ?_
        refine wp_ret ?_
        have hok : y.ok = true := by simpa using (by assumption : (!y.ok) = false)
        have hp : printP l = some y.t := by
          rw [printP, ← hyf, if_pos]
          simp only [Bool.and_eq_true, decide_eq_true_eq]; exact ⟨hok, by omega⟩
        exact retF2 A rfl rfl rfl hM H (by simp only [hp])
end Sl
end Go.Proofs.YtanhehbfbakdcaaGreatDoor
/- Strings and bytes turned to one another; results in cells. Own work. -/
set_option linter.unusedVariables false
set_option linter.unusedSimpArgs false
namespace Go.Proofs.YtanhehbfbakdcaaGreatDoor
namespace Sl
open Go Go.RowKit
section
variable {P : Program} {n : Nat} {a : Act} {F : List (Nat × Value)} {D : List Deferred} {w0 w : World} {m m0 : Mem} {L Lf : List Res} {ops : Array Oper} {Q : Exit → Act → World → Prop} {rest : List Oper}
variable {d t : Nat} {pos : String} {after : Array Edge} {x : Operand}
theorem str_nums (l : List UInt8) : strOfNums (l.map fun c => (c.toNat : Int)) = ⟨l.toArray⟩ := by
  unfold strOfNums
  simp [Function.comp_def]
theorem Runs.bytesStr {src dst e : Nat} {v : Value} {l : List UInt8} [hs : SlC P src e 1] [hd : StrC P dst] [he : IntC P e .u8] (A : Fr n a F D) (H : St w0 w m L) (hx : ev F x = some v) (hv : Dat m v l) : Runs P a w (.convert src dst x) (.string ⟨l.toArray⟩) := by
  intro _ _ _ _ _
  obtain ⟨ad, k, c, rfl, hS, hk⟩ := hv
  obtain ⟨q, g1, g2, g3⟩ := slEl_spec hs.h
  have hl : l.length = k := hS.len8
  rcases Nat.eq_zero_or_pos k with h0 | h0
  · have hnil : l = [] := List.eq_nil_of_length_eq_zero (by omega)
    subst hnil; subst h0
    have : (convert src dst (.slice ad 0 c)).run P w = .ok (.string ⟨#[]⟩) w := by
      rw [run_convert_bytes_string w src dst e ad 0 c g1 he.h hd.h]
      cases ad with
      | none => rfl
      | some ad => rw [run_bytesToString w ad 0 c [] (by simp [loadCells, loadCellsFrom])]; rfl
    simp only [execOp, A.ev hx, Sem.run_bind, this, Result.andThen_ok, Sem.run_pure]
  · obtain ⟨b, off, cs, rfl, hf, hcs⟩ := hS.all8 h0
    have := run_convert_bytes_arg (P := P) w src e g1 he.h b off k c (l.map fun c => (c.toNat : Int)) (by simpa using hl) (fun i hi => by
      obtain ⟨o, ho⟩ := ex_at (l := l) (i := i) (by omega)
      rw [H.cell (Blk.fz hf.h), hcs i o ho, List.getD_eq_getElem?_getD, List.getElem?_map, ho]; rfl) dst hd.h
    rw [str_nums] at this
    simp only [execOp, A.ev hx, Sem.run_bind, this, Result.andThen_ok, Sem.run_pure]
theorem step_strBytes {src dst e ts : Nat} {s : ByteArray} [hs : StrC P src] [hd : SlC P dst e 1] [he : IntC P e .u8] (A : Fr n a F D) (H : St w0 w m L) (hx : ev F x = some (.string s)) (hn : s.size ≤ 1000000000) (hdn : Nat.blt d n = true)
    (K : ∀ v a' w' m', Le m m' → Dat m' v s.data.toList → Fr n a' ((d, v) :: F) D → St w0 w' m' L → wpList P ops Q rest a' w') :
    wpList P ops Q (⟨some d, .convert src dst x, ts, pos, after, none⟩ :: rest) a w := by
  obtain ⟨q, g1, g2, g3⟩ := slEl_spec hd.h
  have hr := Lib.run_convert_string_bytes (P := P) w src dst e s hs.h g1 he.h
  have hb := Lib.bytesWorld_below w e s
  have hnew := Lib.bytesWorld_at_new w e s
  have H1 : St w0 (Lib.bytesWorld w e s) m (ob w.heap.size (.cells (Lib.bytesCells w e s) e ((Lib.bytesCells w e s).size, (Lib.bytesCells w e s).size + 1)) :: L) :=
    H.new ⟨by simp [Lib.bytesWorld, World.freeze, World.alloc, World.drew, -World.alloc_eq, -World.drew_eq], by simp [Lib.bytesWorld, World.freeze, World.alloc, World.drew, -World.alloc_eq, -World.drew_eq], by simp [Lib.bytesWorld, World.freeze, World.alloc, World.drew, -World.alloc_eq, -World.drew_eq], by rw [Lib.bytesWorld_size]; omega⟩ hnew (Nat.le_refl _) fun k hk => Lib.bytesWorld_at_old w e s k hk
  obtain ⟨m', hm, hf, H2⟩ := H1.freezeO
  have hcap := grownCap_ge w s.size 0 e
  have hcm : grownCap w s.size 0 e ≤ maxLen := grownCap_le_maxLen w s.size 0 e (by simp only [maxLen]; omega)
  refine wpList_plain rfl fun K' hK => ?_
  unfold Oper.wp
  simp only [execOp, A.ev hx, Sem.run_bind, hr, Result.andThen_ok, Sem.run_pure]
  refine hK _ _ (K _ _ _ m' hm ⟨_, _, _, rfl, ⟨by simp, hcap, hcm, fun _ => ⟨w.heap.size, 0, (Lib.bytesCells w e s).toList, rfl, ⟨_, _, by simpa using hf⟩, ?_⟩⟩, hn⟩ (A.put hdn _) H2)
  rw [List.drop_zero, Nat.mul_one]
  have e1 : (Lib.bytesCells w e s).toList = s.data.toList.map u8 ++ List.replicate (grownCap w s.size 0 e - s.size) (.int .u8 0) := by simp [Lib.bytesCells, u8]
  rw [e1, show s.size = (s.data.toList.map u8).length by simp, List.take_left]
/-- what a function hands back: a slot, or the variable that a slot leads to -/
def rvR (P : Program) (w : World) (F : List (Nat × Value)) : ResultVar → Value → Prop
  | .tmp t, v => lk F t = some v
  | .cell s ty, v => ∃ p, lk F s = some (.pointer (some p)) ∧ (loadVar ty p).run P w = .ok v w
theorem rv1 {s ty bytes b off : Nat} {zs cs : List Value} {v : Value} (H : St w0 w m L) (hp : lk F s = some (.pointer (some ⟨b, off, none⟩))) [T : TyC P ty false 1 bytes zs] [hb : BlkC m L b cs] (hv : cs[off]? = some v) : rvR P w F (.cell s ty) v := by
  refine ⟨_, hp, ?_⟩
  have hc : w.cell? ⟨b, off, none⟩ = some v := (H.cell hb.h off).trans hv
  simp [loadVar, Sem.run_bind, T.h.runAgg, load, Sem.run, hc]
theorem rvN {s ty k bytes b off : Nat} {zs cs vs : List Value} (H : St w0 w m L) (hp : lk F s = some (.pointer (some ⟨b, off, none⟩))) [T : TyC P ty true k bytes zs] [hb : BlkC m L b cs] (hv : getN cs off k = some vs) : rvR P w F (.cell s ty) (.agg vs.toArray) := by
  refine ⟨_, hp, ?_⟩
  obtain ⟨h1, h2⟩ := getN_some hv
  have hl : vs.length = k := by rw [h2]; simp; omega
  have hc : (loadCells ⟨b, off, none⟩ vs.length).run P w = .ok vs.toArray w := run_loadCells_list w ⟨b, off, none⟩ vs fun j v hj => by
    rw [addr_add, H.cell hb.h]
    rw [h2] at hj
    have hlt : j < k := by
      have := (List.getElem?_eq_some_iff.1 hj).1
      simp at this; omega
    rw [List.getElem?_take_of_lt hlt, List.getElem?_drop] at hj
    exact hj
  rw [hl] at hc
  simp [loadVar, Sem.run_bind, T.h.runAgg, T.h.runSize, hc]
theorem mapM3 {g : ResultVar → Sem Value} {r1 r2 r3 : ResultVar} {v1 v2 v3 : Value} (h1 : (g r1).run P w = .ok v1 w) (h2 : (g r2).run P w = .ok v2 w) (h3 : (g r3).run P w = .ok v3 w) : (#[r1, r2, r3].mapM g).run P w = .ok #[v1, v2, v3] w := by
  rw [Array.mapM_eq_mapM_toList]
  simp only [List.mapM_cons, List.mapM_nil, Sem.run_bind, Sem.run_map, h1, h2, h3, Result.andThen_ok, Sem.run_pure]
theorem mapM2 {g : ResultVar → Sem Value} {r1 r2 : ResultVar} {v1 v2 : Value} (h1 : (g r1).run P w = .ok v1 w) (h2 : (g r2).run P w = .ok v2 w) : (#[r1, r2].mapM g).run P w = .ok #[v1, v2] w := by
  rw [Array.mapM_eq_mapM_toList]
  simp only [List.mapM_cons, List.mapM_nil, Sem.run_bind, Sem.run_map, h1, h2, Result.andThen_ok, Sem.run_pure]
theorem rv_tmp {A' : Act} {t : Nat} {v : Value} (A : Fr n A' F D) (h : rvR P w F (.tmp t) v) : (Pure.pure (A'.tmps.getD t undef) : Sem Value).run P w = .ok v w := by
  simp [Array.getD_eq_getD_getElem?, A.at_ t v h]
theorem rv_cell {A' : Act} {s ty : Nat} {v : Value} (A : Fr n A' F D) (h : rvR P w F (.cell s ty) v) : (do loadVar ty (← asAddr (A'.tmps.getD s undef)) : Sem Value).run P w = .ok v w := by
  obtain ⟨p, hp, hl⟩ := h
  have : A'.tmps.getD s undef = .pointer (some p) := by rw [Array.getD_eq_getD_getElem?, A.at_ s _ hp]; rfl
  simp only [this, asAddr, Sem.run_bind, Sem.run_pure, Result.andThen_ok, hl]
theorem results3 {fn : Func} {r1 r2 r3 : ResultVar} {v1 v2 v3 : Value} (A : Fr n a F D) (hr : fn.results = #[r1, r2, r3]) (h1 : rvR P w F r1 v1) (h2 : rvR P w F r2 v2) (h3 : rvR P w F r3 v3) : (results fn a.tmps).run P w = .ok (.tuple #[v1, v2, v3]) w := by
  unfold results
  rw [hr, Sem.run_bind, mapM3 (v1 := v1) (v2 := v2) (v3 := v3)]
  · rfl
  · cases r1 with
    | tmp t => exact rv_tmp A h1
    | cell s ty => exact rv_cell A h1
  · cases r2 with
    | tmp t => exact rv_tmp A h2
    | cell s ty => exact rv_cell A h2
  · cases r3 with
    | tmp t => exact rv_tmp A h3
    | cell s ty => exact rv_cell A h3
theorem results2 {fn : Func} {r1 r2 : ResultVar} {v1 v2 : Value} (A : Fr n a F D) (hr : fn.results = #[r1, r2]) (h1 : rvR P w F r1 v1) (h2 : rvR P w F r2 v2) : (results fn a.tmps).run P w = .ok (.tuple #[v1, v2]) w := by
  unfold results
  rw [hr, Sem.run_bind, mapM2 (v1 := v1) (v2 := v2)]
  · rfl
  · cases r1 with
    | tmp t => exact rv_tmp A h1
    | cell s ty => exact rv_cell A h1
  · cases r2 with
    | tmp t => exact rv_tmp A h2
    | cell s ty => exact rv_cell A h2
theorem retR3 {fn : Func} {r1 r2 r3 : ResultVar} {v1 v2 v3 : Value} {R : Mem → Value → Prop} (A : Fr n a F []) (hr : fn.results = #[r1, r2, r3]) (h1 : rvR P w F r1 v1) (h2 : rvR P w F r2 v2) (h3 : rvR P w F r3 v3) (hM : Le m0 m) (H : St w0 w m L) [SubH Lf L] (h : R m (.tuple #[v1, v2, v3])) :
    bodyPost P fn (fun e w' => ∃ m' L', Le m0 m' ∧ RetF R m' e L' ∧ St w0 w' m' (L' ++ Lf)) .ret a w :=
  ⟨A.defers, _, results3 A hr h1 h2 h3, m, [], hM, ⟨rfl, h⟩, St.sub (L' := Lf) H⟩
theorem retR2 {fn : Func} {r1 r2 : ResultVar} {v1 v2 : Value} {R : Mem → Value → Prop} (A : Fr n a F []) (hr : fn.results = #[r1, r2]) (h1 : rvR P w F r1 v1) (h2 : rvR P w F r2 v2) (hM : Le m0 m) (H : St w0 w m L) [SubH Lf L] (h : R m (.tuple #[v1, v2])) :
    bodyPost P fn (fun e w' => ∃ m' L', Le m0 m' ∧ RetF R m' e L' ∧ St w0 w' m' (L' ++ Lf)) .ret a w :=
  ⟨A.defers, _, results2 A hr h1 h2, m, [], hM, ⟨rfl, h⟩, St.sub (L' := Lf) H⟩
end
end Sl
end Go.Proofs.YtanhehbfbakdcaaGreatDoor
/- Save; Parse and Load where the text has no tokens: walks, printed by my gen.py out of annotations. -/
set_option linter.unusedSimpArgs false
set_option linter.unusedVariables false
namespace Go.Proofs.YtanhehbfbakdcaaGreatDoor
namespace Sl
open Go

def saveP (l : List Obj) (f : List PMod) : List Obj × UInt64 × Int := match printP f with
  | some t => (putP l t, dig t, 0)
  | none => ([], 0, 90)
theorem printP_len {f : List PMod} {t : List UInt8} (h : printP f = some t) : t.length ≤ 8000 := by
  unfold printP at h
  split at h
  · rename_i hh
    simp only [Bool.and_eq_true, decide_eq_true_eq] at hh
    cases h; exact hh.2
  · cases h
theorem lexAll_err {s : ByteArray} {pe : Nat × Int} (h : lexAll s = .error pe) : ¬ pe.2 = 0 := by
  unfold lexAll at h
  split at h
  · cases h; decide
  · split at h
    · cases h; show ¬ (5 : Int) = 0; decide
    · cases h

theorem c_objects_Save {ad : Option Addr} {n c : Nat} {l : List Obj} {adf : Option Addr} {cf : Nat} {lf : List PMod} {m : Mem} (hl : Objs m ad n c l) (hb : n ≤ 1100000) (hs : Srt l) (G : Glob m) (hlf : Lst MoR 4 m adf cf lf) (hsz : szFile lf ≤ 100000000000) : Spec Tryz.prog 48 #[.slice ad n c, .agg #[.slice adf lf.length cf]] m [] (RetF fun m' v => ∃ ad' c', v = .tuple #[.slice ad' (saveP l lf).1.length c', u64 (saveP l lf).2.1, .int .i64 (saveP l lf).2.2] ∧ Objs m' ad' (saveP l lf).1.length c' (saveP l lf).1) := by
  refine Spec.enter0 Tryz.func48 rfl 27 Tryz.ntmps48 rfl fun a w0 Lf A H => ?_
  have hM := Le.refl m
  refine wp_seq ?_
  refine wp_region_lit ?_
  refine step_box A H rfl (by simp only [Value.cells, List.toList_toArray]; rfl) rfl ?_; intro b1 a w A H
  refine step (Runs.assign A rfl) A rfl ?_; clear A a; intro a A
  refine step (Runs.assign A rfl) A rfl ?_; clear A a; intro a A
  refine step (Runs.assign A rfl) A rfl ?_; clear A a; intro a A
  refine wpList_nil ?_
  refine wp_seq ?_
  refine wp_region_lit ?_
  refine step (Runs.ldN A H rfl rfl) A rfl ?_; clear A a; intro a A
  refine step_callF A rfl rfl (c_Print G hlf (by omega)) H ?_
  rintro v1_1 a w m hm hprint A H
  have hM := hM.trans hm
  have hl := hl.mono hm
  have G := G.mono hm
  have hlf := hlf.mono hm
  rcases hpp : printP lf with _ | t <;> simp only [hpp] at hprint
  · subst hprint
    refine step (Runs.move A rfl) A rfl ?_; clear A a; intro a A
    refine step (Runs.extract A rfl rfl) A rfl ?_; clear A a; intro a A
    refine step (Runs.extract A rfl rfl) A rfl ?_; clear A a; intro a A
    refine step (Runs.assign A rfl) A rfl ?_; clear A a; intro a A
    refine step (Runs.assign A rfl) A rfl ?_; clear A a; intro a A
    refine wpList_nil ?_
    refine wp_seq ?_
    refine wp_seq ?_
    refine wp_region_lit ?_
    refine step (Runs.move A rfl) A rfl ?_; clear A a; intro a A
    refine step (Runs.neq A rfl rfl) A rfl ?_; clear A a; intro a A
    refine wpList_nil ?_
    refine cond_true A rfl rfl ?_
    refine wp_seq ?_
    refine wp_region_lit ?_
    refine step (Runs.move A rfl) A rfl ?_; clear A a; intro a A
    refine step (Runs.assign A rfl) A rfl ?_; clear A a; intro a A
    refine step (Runs.assign A rfl) A rfl ?_; clear A a; intro a A
    refine step (Runs.assign A rfl) A rfl ?_; clear A a; intro a A
    refine wpList_nil ?_
    refine wp_ret ?_
    have e : saveP l lf = ([], 0, 90) := by rw [saveP, hpp]
    exact retF3 A rfl rfl rfl rfl hM H ⟨none, 0, by rw [e]; rfl, by rw [e]; exact Objs.nil m⟩
  · subst hprint
    have htl := printP_len hpp
    refine step (Runs.move A rfl) A rfl ?_; clear A a; intro a A
    refine step (Runs.extract A rfl rfl) A rfl ?_; clear A a; intro a A
    refine step (Runs.extract A rfl rfl) A rfl ?_; clear A a; intro a A
    refine step (Runs.assign A rfl) A rfl ?_; clear A a; intro a A
    refine step (Runs.assign A rfl) A rfl ?_; clear A a; intro a A
    refine wpList_nil ?_
    refine wp_seq ?_
    refine wp_seq ?_
    refine wp_region_lit ?_
    refine step (Runs.move A rfl) A rfl ?_; clear A a; intro a A
    refine step (Runs.neq A rfl rfl) A rfl ?_; clear A a; intro a A
    refine wpList_nil ?_
    refine cond_false A rfl rfl ?_
    refine wp_skip ?_
    refine wp_seq ?_
    refine wp_region_lit ?_
    refine step (Runs.move A rfl) A rfl ?_; clear A a; intro a A
    refine step (Runs.move A rfl) A rfl ?_; clear A a; intro a A
    refine step_strBytes A H rfl (by first | omega | (show Array.size _ ≤ _; rw [List.size_toArray]; omega)) rfl ?_; clear A a; intro vd a w m hm hvd A H
    have hM := hM.trans hm
    have hl := hl.mono hm
    have G := G.mono hm
    have hlf := hlf.mono hm
    simp only [] at hvd
    refine step_callF A rfl rfl (c_objects_Put hl (by omega) hs hvd) H ?_
    rintro v4_3 a w m hm ⟨adp, cp, rfl, hput⟩ A H
    have hM := hM.trans hm
    have hl := hl.mono hm
    have G := G.mono hm
    have hlf := hlf.mono hm
    have hvd := hvd.mono hm
    refine step (Runs.move A rfl) A rfl ?_; clear A a; intro a A
    refine step (Runs.extract A rfl rfl) A rfl ?_; clear A a; intro a A
    refine step (Runs.extract A rfl rfl) A rfl ?_; clear A a; intro a A
    refine step (Runs.assign A rfl) A rfl ?_; clear A a; intro a A
    refine step (Runs.assign A rfl) A rfl ?_; clear A a; intro a A
    refine wpList_nil ?_
    refine wp_seq ?_
    refine wp_region_lit ?_
    refine step (Runs.move A rfl) A rfl ?_; clear A a; intro a A
    refine step (Runs.move A rfl) A rfl ?_; clear A a; intro a A
    refine step (Runs.assign A rfl) A rfl ?_; clear A a; intro a A
    refine step (Runs.assign A rfl) A rfl ?_; clear A a; intro a A
    refine step (Runs.assign A rfl) A rfl ?_; clear A a; intro a A
    refine wpList_nil ?_
    refine wp_ret ?_
    have e : saveP l lf = (putP l t, dig t, 0) := by rw [saveP, hpp]
    exact retF3 A rfl rfl rfl rfl hM H ⟨adp, cp, by rw [e], by rw [e]; exact hput⟩

theorem c_wireloomlaw18_save {ad : Option Addr} {n c : Nat} {l : List Obj} {adf : Option Addr} {cf : Nat} {lf : List PMod} {m : Mem} (hl : Objs m ad n c l) (hb : n ≤ 1100000) (hs : Srt l) (G : Glob m) (hlf : Lst MoR 4 m adf cf lf) (hsz : szFile lf ≤ 100000000000) : Spec Tryz.prog 18 #[.slice ad n c, .agg #[.slice adf lf.length cf]] m [] (RetF fun m' v => ∃ ad' c', v = .agg #[.slice ad' (saveP l lf).1.length c', u64 (saveP l lf).2.1, .int .i64 (saveP l lf).2.2] ∧ Objs m' ad' (saveP l lf).1.length c' (saveP l lf).1) := by
  refine Spec.enter0 Tryz.func18 rfl 19 Tryz.ntmps18 rfl fun a w0 Lf A H => ?_
  have hM := Le.refl m
  refine wp_seq ?_
  refine wp_region_lit ?_
  refine step_box A H rfl (by simp only [Value.cells, List.toList_toArray]; rfl) rfl ?_; intro b1 a w A H
  refine step_alloc A H rfl ?_; clear A a; intro b2 a w A H
  refine wpList_nil ?_
  refine wp_seq ?_
  refine wp_region_lit ?_
  refine step (Runs.move A rfl) A rfl ?_; clear A a; intro a A
  refine step (Runs.ldN A H rfl rfl) A rfl ?_; clear A a; intro a A
  refine step_callF A rfl rfl (c_objects_Save hl (by omega) hs G hlf (by omega)) H ?_
  rintro v1_2 a w m hm ⟨adp, cp, rfl, hput⟩ A H
  have hM := hM.trans hm
  have hl := hl.mono hm
  have G := G.mono hm
  have hlf := hlf.mono hm
  refine step (Runs.move A rfl) A rfl ?_; clear A a; intro a A
  refine step (Runs.extract A rfl rfl) A rfl ?_; clear A a; intro a A
  refine step (Runs.extract A rfl rfl) A rfl ?_; clear A a; intro a A
  refine step (Runs.extract A rfl rfl) A rfl ?_; clear A a; intro a A
  refine step (Runs.assign A rfl) A rfl ?_; clear A a; intro a A
  refine step (Runs.assign A rfl) A rfl ?_; clear A a; intro a A
  refine step (Runs.assign A rfl) A rfl ?_; clear A a; intro a A
  refine wpList_nil ?_
  refine wp_seq ?_
  refine wp_region_lit ?_
  refine step (Runs.move A rfl) A rfl ?_; clear A a; intro a A
  refine step (Runs.move A rfl) A rfl ?_; clear A a; intro a A
  refine step (Runs.move A rfl) A rfl ?_; clear A a; intro a A
  refine step (Runs.build A rfl rfl rfl) A rfl ?_; clear A a; intro a A
  refine step_store A H rfl rfl rfl rfl rfl rfl ?_; intro w H
  refine wpList_nil ?_
  refine wp_ret ?_
  exact retFc A rfl rfl hM H rfl ⟨_, _, rfl, hput⟩

theorem c_Parse_lex {s : ByteArray} {pe : Nat × Int} {m : Mem} (G : Glob m) (hs : s.size ≤ 140737488355328) (h : lexAll s = .error pe) : Spec Tryz.prog 81 #[.string s] m [] (RetE (.tuple #[.agg #[.slice none 0 0], .int .i64 pe.1, .int .i64 pe.2])) := by
  refine Spec.enter0 Tryz.func81 rfl 42 Tryz.ntmps81 rfl fun a w0 Lf A H => ?_
  have hM := Le.refl m
  have hne := lexAll_err h
  refine wp_seq ?_
  refine wp_region_lit ?_
  refine step_alloc A H rfl ?_; clear A a; intro b1 a w A H
  refine step_alloc A H rfl ?_; clear A a; intro b2 a w A H
  refine step_alloc A H rfl ?_; clear A a; intro b3 a w A H
  refine wpList_nil ?_
  refine wp_seq ?_
  refine wp_region_lit ?_
  refine step (Runs.move A rfl) A rfl ?_; clear A a; intro a A
  refine step_callF A rfl rfl (c_lexer_Lex G (by omega)) H ?_
  rintro v1_1 a w m hm hlex A H
  have hM := hM.trans hm
  have G := G.mono hm
  simp only [h] at hlex
  · subst hlex
    refine step (Runs.move A rfl) A rfl ?_; clear A a; intro a A
    refine step (Runs.extract A rfl rfl) A rfl ?_; clear A a; intro a A
    refine step (Runs.extract A rfl rfl) A rfl ?_; clear A a; intro a A
    refine step (Runs.extract A rfl rfl) A rfl ?_; clear A a; intro a A
    refine step_alloc A H rfl ?_; clear A a; intro b4 a w A H
    refine step_store A H rfl rfl rfl rfl rfl rfl ?_; intro w H
    refine step_store A H rfl rfl rfl rfl rfl rfl ?_; intro w H
    refine step_store A H rfl rfl rfl rfl rfl rfl ?_; intro w H
    refine wpList_nil ?_
    refine wp_seq ?_
    refine wp_seq ?_
    refine wp_region_lit ?_
    refine step (Runs.ld1 A H rfl rfl) A rfl ?_; clear A a; intro a A
    refine step (Runs.neq A rfl rfl) A rfl ?_; clear A a; intro a A
    refine wpList_nil ?_
    refine cond_true A rfl (decide_eq_true hne) ?_
    refine wp_seq ?_
    refine draw_begin (ms := m) (Ls := []) (by kernel_rfl) (N := 6) rfl (by kernel_rfl) H ?_; clear H; intro w H hR
    have hS : SW m [] w := H.sw (Le.refl m)
    have hL := Le.refl m
    refine dstep hR (i := 0) rfl (by kernel_rfl) (fun _ _ _ h => h) (fun _ _ H' => (Runs.build A rfl rfl rfl)) A rfl hS ?_; clear A a hR; intro a A hR
    refine draws_all hR (rs := [1, 2, 3]) (by kernel_rfl) (by decide) ?_
    simp only [List.mem_cons, List.not_mem_nil, or_false, forall_eq_or_imp, forall_eq]
    refine ⟨?_, ?_, ?_⟩
    · refine dalt (i := 1) rfl ?_
      have hR := hR.next (i := 1) (by kernel_rfl)
      refine step (Runs.ld1 A H rfl rfl) A rfl ?_; clear A a; intro a A
      refine wpList_nil ?_
      clear hS; refine and_keep (H.sw hL) fun hS => ?_
      refine draws_all hR (rs := [2, 3]) (by kernel_rfl) (by decide) ?_
      simp only [List.mem_cons, List.not_mem_nil, or_false, forall_eq_or_imp, forall_eq]
      refine ⟨?_, ?_⟩
      · refine dalt (i := 2) rfl ?_
        have hR := hR.next (i := 2) (by kernel_rfl)
        refine step (Runs.ld1 A H rfl rfl) A rfl ?_; clear A a; intro a A
        refine wpList_nil ?_
        clear hS; refine and_keep (H.sw hL) fun hS => ?_
        refine dlist hR (i := 3) rfl (by kernel_rfl) ?_
        have hR := hR.next (i := 3) (by kernel_rfl)
        refine step_store A H rfl rfl rfl rfl rfl rfl ?_; intro w H
        refine wpList_nil ?_
        clear hS; refine and_keep (H.sw hL) fun hS => ?_
        refine dlist hR (i := 4) rfl (by kernel_rfl) ?_
        have hR := hR.next (i := 4) (by kernel_rfl)
        refine step_store A H rfl rfl rfl rfl rfl rfl ?_; intro w H
        refine wpList_nil ?_
        clear hS; refine and_keep (H.sw hL) fun hS => ?_
        refine dlist hR (i := 5) rfl (by kernel_rfl) ?_
        have hR := hR.next (i := 5) (by kernel_rfl)
        refine step_store A H rfl rfl rfl rfl rfl rfl ?_; intro w H
        refine wpList_nil ?_
        refine and_last (by kernel_rfl) ?_
        refine draw_done hR (by kernel_rfl) ?_
        clear hS hL hR
        refine wp_ret ?_
        exact retR3 A rfl (rvN H rfl rfl) (rv1 H rfl rfl) (rv1 H rfl rfl) hM H rfl
      · refine dalt (i := 3) rfl ?_
        have hR := hR.next (i := 3) (by kernel_rfl)
        refine step_store A H rfl rfl rfl rfl rfl rfl ?_; intro w H
        refine wpList_nil ?_
        clear hS; refine and_keep (H.sw hL) fun hS => ?_
        refine draws_all hR (rs := [2, 4]) (by kernel_rfl) (by decide) ?_
        simp only [List.mem_cons, List.not_mem_nil, or_false, forall_eq_or_imp, forall_eq]
        refine ⟨?_, ?_⟩
        · refine dalt (i := 2) rfl ?_
          have hR := hR.next (i := 2) (by kernel_rfl)
          refine step (Runs.ld1 A H rfl rfl) A rfl ?_; clear A a; intro a A
          refine wpList_nil ?_
          clear hS; refine and_keep (H.sw hL) fun hS => ?_
          refine dlist hR (i := 4) rfl (by kernel_rfl) ?_
          have hR := hR.next (i := 4) (by kernel_rfl)
          refine step_store A H rfl rfl rfl rfl rfl rfl ?_; intro w H
          refine wpList_nil ?_
          clear hS; refine and_keep (H.sw hL) fun hS => ?_
          refine dlist hR (i := 5) rfl (by kernel_rfl) ?_
          have hR := hR.next (i := 5) (by kernel_rfl)
          refine step_store A H rfl rfl rfl rfl rfl rfl ?_; intro w H
          refine wpList_nil ?_
          refine and_last (by kernel_rfl) ?_
          refine draw_done hR (by kernel_rfl) ?_
          clear hS hL hR
          refine wp_ret ?_
          exact retR3 A rfl (rvN H rfl rfl) (rv1 H rfl rfl) (rv1 H rfl rfl) hM H rfl
        · refine dalt (i := 4) rfl ?_
          have hR := hR.next (i := 4) (by kernel_rfl)
          refine step_store A H rfl rfl rfl rfl rfl rfl ?_; intro w H
          refine wpList_nil ?_
          clear hS; refine and_keep (H.sw hL) fun hS => ?_
          refine dlist hR (i := 2) rfl (by kernel_rfl) ?_
          have hR := hR.next (i := 2) (by kernel_rfl)
          refine step (Runs.ld1 A H rfl rfl) A rfl ?_; clear A a; intro a A
          refine wpList_nil ?_
          clear hS; refine and_keep (H.sw hL) fun hS => ?_
          refine dlist hR (i := 5) rfl (by kernel_rfl) ?_
          have hR := hR.next (i := 5) (by kernel_rfl)
          refine step_store A H rfl rfl rfl rfl rfl rfl ?_; intro w H
          refine wpList_nil ?_
          refine and_last (by kernel_rfl) ?_
          refine draw_done hR (by kernel_rfl) ?_
          clear hS hL hR
          refine wp_ret ?_
          exact retR3 A rfl (rvN H rfl rfl) (rv1 H rfl rfl) (rv1 H rfl rfl) hM H rfl
    · refine dalt (i := 2) rfl ?_
      have hR := hR.next (i := 2) (by kernel_rfl)
      refine step (Runs.ld1 A H rfl rfl) A rfl ?_; clear A a; intro a A
      refine wpList_nil ?_
      clear hS; refine and_keep (H.sw hL) fun hS => ?_
      refine draws_all hR (rs := [1, 3]) (by kernel_rfl) (by decide) ?_
      simp only [List.mem_cons, List.not_mem_nil, or_false, forall_eq_or_imp, forall_eq]
      refine ⟨?_, ?_⟩
      · refine dalt (i := 1) rfl ?_
        have hR := hR.next (i := 1) (by kernel_rfl)
        refine step (Runs.ld1 A H rfl rfl) A rfl ?_; clear A a; intro a A
        refine wpList_nil ?_
        clear hS; refine and_keep (H.sw hL) fun hS => ?_
        refine dlist hR (i := 3) rfl (by kernel_rfl) ?_
        have hR := hR.next (i := 3) (by kernel_rfl)
        refine step_store A H rfl rfl rfl rfl rfl rfl ?_; intro w H
        refine wpList_nil ?_
        clear hS; refine and_keep (H.sw hL) fun hS => ?_
        refine dlist hR (i := 4) rfl (by kernel_rfl) ?_
        have hR := hR.next (i := 4) (by kernel_rfl)
        refine step_store A H rfl rfl rfl rfl rfl rfl ?_; intro w H
        refine wpList_nil ?_
        clear hS; refine and_keep (H.sw hL) fun hS => ?_
        refine dlist hR (i := 5) rfl (by kernel_rfl) ?_
        have hR := hR.next (i := 5) (by kernel_rfl)
        refine step_store A H rfl rfl rfl rfl rfl rfl ?_; intro w H
        refine wpList_nil ?_
        refine and_last (by kernel_rfl) ?_
        refine draw_done hR (by kernel_rfl) ?_
        clear hS hL hR
        refine wp_ret ?_
        exact retR3 A rfl (rvN H rfl rfl) (rv1 H rfl rfl) (rv1 H rfl rfl) hM H rfl
      · refine dalt (i := 3) rfl ?_
        have hR := hR.next (i := 3) (by kernel_rfl)
        refine step_store A H rfl rfl rfl rfl rfl rfl ?_; intro w H
        refine wpList_nil ?_
        clear hS; refine and_keep (H.sw hL) fun hS => ?_
        refine dlist hR (i := 1) rfl (by kernel_rfl) ?_
        have hR := hR.next (i := 1) (by kernel_rfl)
        refine step (Runs.ld1 A H rfl rfl) A rfl ?_; clear A a; intro a A
        refine wpList_nil ?_
        clear hS; refine and_keep (H.sw hL) fun hS => ?_
        refine dlist hR (i := 4) rfl (by kernel_rfl) ?_
        have hR := hR.next (i := 4) (by kernel_rfl)
        refine step_store A H rfl rfl rfl rfl rfl rfl ?_; intro w H
        refine wpList_nil ?_
        clear hS; refine and_keep (H.sw hL) fun hS => ?_
        refine dlist hR (i := 5) rfl (by kernel_rfl) ?_
        have hR := hR.next (i := 5) (by kernel_rfl)
        refine step_store A H rfl rfl rfl rfl rfl rfl ?_; intro w H
        refine wpList_nil ?_
        refine and_last (by kernel_rfl) ?_
        refine draw_done hR (by kernel_rfl) ?_
        clear hS hL hR
        refine wp_ret ?_
        exact retR3 A rfl (rvN H rfl rfl) (rv1 H rfl rfl) (rv1 H rfl rfl) hM H rfl
    · refine dalt (i := 3) rfl ?_
      have hR := hR.next (i := 3) (by kernel_rfl)
      refine step_store A H rfl rfl rfl rfl rfl rfl ?_; intro w H
      refine wpList_nil ?_
      clear hS; refine and_keep (H.sw hL) fun hS => ?_
      refine draws_all hR (rs := [1, 2]) (by kernel_rfl) (by decide) ?_
      simp only [List.mem_cons, List.not_mem_nil, or_false, forall_eq_or_imp, forall_eq]
      refine ⟨?_, ?_⟩
      · refine dalt (i := 1) rfl ?_
        have hR := hR.next (i := 1) (by kernel_rfl)
        refine step (Runs.ld1 A H rfl rfl) A rfl ?_; clear A a; intro a A
        refine wpList_nil ?_
        clear hS; refine and_keep (H.sw hL) fun hS => ?_
        refine draws_all hR (rs := [2, 4]) (by kernel_rfl) (by decide) ?_
        simp only [List.mem_cons, List.not_mem_nil, or_false, forall_eq_or_imp, forall_eq]
        refine ⟨?_, ?_⟩
        · refine dalt (i := 2) rfl ?_
          have hR := hR.next (i := 2) (by kernel_rfl)
          refine step (Runs.ld1 A H rfl rfl) A rfl ?_; clear A a; intro a A
          refine wpList_nil ?_
          clear hS; refine and_keep (H.sw hL) fun hS => ?_
          refine dlist hR (i := 4) rfl (by kernel_rfl) ?_
          have hR := hR.next (i := 4) (by kernel_rfl)
          refine step_store A H rfl rfl rfl rfl rfl rfl ?_; intro w H
          refine wpList_nil ?_
          clear hS; refine and_keep (H.sw hL) fun hS => ?_
          refine dlist hR (i := 5) rfl (by kernel_rfl) ?_
          have hR := hR.next (i := 5) (by kernel_rfl)
          refine step_store A H rfl rfl rfl rfl rfl rfl ?_; intro w H
          refine wpList_nil ?_
          refine and_last (by kernel_rfl) ?_
          refine draw_done hR (by kernel_rfl) ?_
          clear hS hL hR
          refine wp_ret ?_
          exact retR3 A rfl (rvN H rfl rfl) (rv1 H rfl rfl) (rv1 H rfl rfl) hM H rfl
        · refine dalt (i := 4) rfl ?_
          have hR := hR.next (i := 4) (by kernel_rfl)
          refine step_store A H rfl rfl rfl rfl rfl rfl ?_; intro w H
          refine wpList_nil ?_
          clear hS; refine and_keep (H.sw hL) fun hS => ?_
          refine dlist hR (i := 2) rfl (by kernel_rfl) ?_
          have hR := hR.next (i := 2) (by kernel_rfl)
          refine step (Runs.ld1 A H rfl rfl) A rfl ?_; clear A a; intro a A
          refine wpList_nil ?_
          clear hS; refine and_keep (H.sw hL) fun hS => ?_
          refine dlist hR (i := 5) rfl (by kernel_rfl) ?_
          have hR := hR.next (i := 5) (by kernel_rfl)
          refine step_store A H rfl rfl rfl rfl rfl rfl ?_; intro w H
          refine wpList_nil ?_
          refine and_last (by kernel_rfl) ?_
          refine draw_done hR (by kernel_rfl) ?_
          clear hS hL hR
          refine wp_ret ?_
          exact retR3 A rfl (rvN H rfl rfl) (rv1 H rfl rfl) (rv1 H rfl rfl) hM H rfl
      · refine dalt (i := 2) rfl ?_
        have hR := hR.next (i := 2) (by kernel_rfl)
        refine step (Runs.ld1 A H rfl rfl) A rfl ?_; clear A a; intro a A
        refine wpList_nil ?_
        clear hS; refine and_keep (H.sw hL) fun hS => ?_
        refine dlist hR (i := 1) rfl (by kernel_rfl) ?_
        have hR := hR.next (i := 1) (by kernel_rfl)
        refine step (Runs.ld1 A H rfl rfl) A rfl ?_; clear A a; intro a A
        refine wpList_nil ?_
        clear hS; refine and_keep (H.sw hL) fun hS => ?_
        refine dlist hR (i := 4) rfl (by kernel_rfl) ?_
        have hR := hR.next (i := 4) (by kernel_rfl)
        refine step_store A H rfl rfl rfl rfl rfl rfl ?_; intro w H
        refine wpList_nil ?_
        clear hS; refine and_keep (H.sw hL) fun hS => ?_
        refine dlist hR (i := 5) rfl (by kernel_rfl) ?_
        have hR := hR.next (i := 5) (by kernel_rfl)
        refine step_store A H rfl rfl rfl rfl rfl rfl ?_; intro w H
        refine wpList_nil ?_
        refine and_last (by kernel_rfl) ?_
        refine draw_done hR (by kernel_rfl) ?_
        clear hS hL hR
        refine wp_ret ?_
        exact retR3 A rfl (rvN H rfl rfl) (rv1 H rfl rfl) (rv1 H rfl rfl) hM H rfl

theorem c_Load_lex {ad : Option Addr} {n c : Nat} {l : List Obj} {id : UInt64} {m : Mem} (G : Glob m) (hl : Objs m ad n c l) (hb : n ≤ 1100000) (hs : Srt l) (hnl : ∀ d, getP l id = some d → ∃ pe, lexAll ⟨d.toArray⟩ = .error pe) : Spec Tryz.prog 54 #[.slice ad n c, u64 id] m [] (RetE (.tuple #[.agg #[.slice none 0 0], .int .i64 180])) := by
  refine Spec.enter0 Tryz.func54 rfl 47 Tryz.ntmps54 rfl fun a w0 Lf A H => ?_
  have hM := Le.refl m
  refine wp_seq ?_
  refine wp_region_lit ?_
  refine step_alloc A H rfl ?_; clear A a; intro b1 a w A H
  refine step (Runs.assign A rfl) A rfl ?_; clear A a; intro a A
  refine wpList_nil ?_
  refine wp_seq ?_
  refine wp_region_lit ?_
  refine step (Runs.move A rfl) A rfl ?_; clear A a; intro a A
  refine step (Runs.move A rfl) A rfl ?_; clear A a; intro a A
  refine step_callF A rfl rfl (c_objects_Get hl (by omega) hs) H ?_
  rintro v1_2 a w m hm hget A H
  have hM := hM.trans hm
  have hl := hl.mono hm
  have G := G.mono hm
  rcases hgp : getP l id with _ | d <;> simp only [hgp] at hget
  · subst hget
    refine step (Runs.move A rfl) A rfl ?_; clear A a; intro a A
    refine step (Runs.extract A rfl rfl) A rfl ?_; clear A a; intro a A
    refine step (Runs.extract A rfl rfl) A rfl ?_; clear A a; intro a A
    refine step (Runs.assign A rfl) A rfl ?_; clear A a; intro a A
    refine step (Runs.assign A rfl) A rfl ?_; clear A a; intro a A
    refine wpList_nil ?_
    refine wp_seq ?_
    refine wp_seq ?_
    refine wp_region_lit ?_
    refine step (Runs.move A rfl) A rfl ?_; clear A a; intro a A
    refine step (Runs.neq A rfl rfl) A rfl ?_; clear A a; intro a A
    refine wpList_nil ?_
    refine cond_true A rfl rfl ?_
    refine wp_seq ?_
    refine wp_region_lit ?_
    refine step (Runs.build A rfl rfl rfl) A rfl ?_; clear A a; intro a A
    refine step (Runs.move A rfl) A rfl ?_; clear A a; intro a A
    refine step_store A H rfl rfl rfl rfl rfl rfl ?_; intro w H
    refine step (Runs.assign A rfl) A rfl ?_; clear A a; intro a A
    refine wpList_nil ?_
    refine wp_ret ?_
    exact retR2 A rfl (rvN H rfl rfl) rfl hM H rfl
  · obtain ⟨u, rfl, hdu⟩ := hget
    obtain ⟨pe, hlx⟩ := hnl _ hgp
    have hne := lexAll_err hlx
    have hdl : d.length ≤ 1000000000 := by obtain ⟨_, _, _, _, hS, hh⟩ := hdu; rw [hS.len8]; exact hh
    refine step (Runs.move A rfl) A rfl ?_; clear A a; intro a A
    refine step (Runs.extract A rfl rfl) A rfl ?_; clear A a; intro a A
    refine step (Runs.extract A rfl rfl) A rfl ?_; clear A a; intro a A
    refine step (Runs.assign A rfl) A rfl ?_; clear A a; intro a A
    refine step (Runs.assign A rfl) A rfl ?_; clear A a; intro a A
    refine wpList_nil ?_
    refine wp_seq ?_
    refine wp_seq ?_
    refine wp_region_lit ?_
    refine step (Runs.move A rfl) A rfl ?_; clear A a; intro a A
    refine step (Runs.neq A rfl rfl) A rfl ?_; clear A a; intro a A
    refine wpList_nil ?_
    refine cond_false A rfl rfl ?_
    refine wp_skip ?_
    refine wp_seq ?_
    refine wp_region_lit ?_
    refine step (Runs.move A rfl) A rfl ?_; clear A a; intro a A
    refine step (Runs.bytesStr A H rfl hdu) A rfl ?_; clear A a; intro a A
    refine step_callF A rfl rfl (c_Parse_lex G (by show Array.size _ ≤ _; rw [List.size_toArray]; omega) hlx) H ?_
    rintro v4_2 a w m hm rfl A H
    have hM := hM.trans hm
    have hl := hl.mono hm
    have G := G.mono hm
    refine step (Runs.move A rfl) A rfl ?_; clear A a; intro a A
    refine step (Runs.extract A rfl rfl) A rfl ?_; clear A a; intro a A
    refine step (Runs.extract A rfl rfl) A rfl ?_; clear A a; intro a A
    refine step (Runs.extract A rfl rfl) A rfl ?_; clear A a; intro a A
    refine step_alloc A H rfl ?_; clear A a; intro b2 a w A H
    refine step_store A H rfl rfl rfl rfl rfl rfl ?_; intro w H
    refine step (Runs.assign A rfl) A rfl ?_; clear A a; intro a A
    refine step (Runs.assign A rfl) A rfl ?_; clear A a; intro a A
    refine wpList_nil ?_
    refine wp_seq ?_
    refine wp_seq ?_
    refine wp_region_lit ?_
    refine step (Runs.move A rfl) A rfl ?_; clear A a; intro a A
    refine step (Runs.neq A rfl rfl) A rfl ?_; clear A a; intro a A
    refine wpList_nil ?_
    refine cond_true A rfl (decide_eq_true hne) ?_
    refine wp_seq ?_
    refine wp_region_lit ?_
    refine step (Runs.build A rfl rfl rfl) A rfl ?_; clear A a; intro a A
    refine step_store A H rfl rfl rfl rfl rfl rfl ?_; intro w H
    refine step (Runs.assign A rfl) A rfl ?_; clear A a; intro a A
    refine wpList_nil ?_
    refine wp_ret ?_
    exact retR2 A rfl (rvN H rfl rfl) rfl hM H rfl

theorem c_load_lex {ad : Option Addr} {n c : Nat} {l : List Obj} {id : UInt64} {m : Mem} (G : Glob m) (hl : Objs m ad n c l) (hb : n ≤ 1100000) (hs : Srt l) (hnl : ∀ d, getP l id = some d → ∃ pe, lexAll ⟨d.toArray⟩ = .error pe) : Spec Tryz.prog 29 #[.slice ad n c, u64 id] m [] (RetE (.agg #[.slice none 0 0, .int .i64 180])) := by
  refine Spec.enter0 Tryz.func29 rfl 16 Tryz.ntmps29 rfl fun a w0 Lf A H => ?_
  have hM := Le.refl m
  refine wp_seq ?_
  refine wp_region_lit ?_
  refine step_alloc A H rfl ?_; clear A a; intro b1 a w A H
  refine wpList_nil ?_
  refine wp_seq ?_
  refine wp_region_lit ?_
  refine step (Runs.move A rfl) A rfl ?_; clear A a; intro a A
  refine step (Runs.move A rfl) A rfl ?_; clear A a; intro a A
  refine step_callF A rfl rfl (c_Load_lex G hl (by omega) hs hnl) H ?_
  rintro v1_2 a w m hm rfl A H
  have hM := hM.trans hm
  have hl := hl.mono hm
  have G := G.mono hm
  refine step (Runs.move A rfl) A rfl ?_; clear A a; intro a A
  refine step (Runs.extract A rfl rfl) A rfl ?_; clear A a; intro a A
  refine step (Runs.extract A rfl rfl) A rfl ?_; clear A a; intro a A
  refine step_alloc A H rfl ?_; clear A a; intro b2 a w A H
  refine step_store A H rfl rfl rfl rfl rfl rfl ?_; intro w H
  refine step (Runs.assign A rfl) A rfl ?_; clear A a; intro a A
  refine wpList_nil ?_
  refine wp_seq ?_
  refine wp_region_lit ?_
  refine step (Runs.ldN A H rfl rfl) A rfl ?_; clear A a; intro a A
  refine step (Runs.move A rfl) A rfl ?_; clear A a; intro a A
  refine step (Runs.build A rfl rfl rfl) A rfl ?_; clear A a; intro a A
  refine step_store A H rfl rfl rfl rfl rfl rfl ?_; intro w H
  refine wpList_nil ?_
  refine wp_ret ?_
  exact retFc A rfl rfl hM H rfl rfl
end Sl
end Go.Proofs.YtanhehbfbakdcaaGreatDoor
/- The law's own examples: walk, printed by my gen.py out of annotations. -/
set_option linter.unusedSimpArgs false
set_option linter.unusedVariables false
namespace Go.Proofs.YtanhehbfbakdcaaGreatDoor
namespace Sl
open Go

abbrev d12 : UInt64 := dig [1, 2]
def zMod : PMod := ⟨⟨#[]⟩, ⟨#[]⟩, [], []⟩
theorem srt_nil : Srt [] := List.Pairwise.nil
theorem srt_one (o : Obj) : Srt [o] := List.pairwise_singleton _ _
theorem ex_put : putP [] [1, 2] = [⟨d12, [1, 2]⟩] := by decide +kernel
theorem ex_get : getP [⟨d12, [1, 2]⟩] d12 = some [1, 2] := by decide +kernel
theorem ex_get0 : getP [] d12 = none := by decide +kernel
theorem ex_getb : getP [⟨d12, [1, 3]⟩] d12 = none := by decide +kernel
theorem ex_dmg : dmgP [⟨d12, [1, 3]⟩] = [d12] := by decide +kernel
theorem ex_dmg0 : dmgP [⟨d12, [1, 2]⟩] = [] := by decide +kernel
theorem ex_merge : mergeP [⟨d12, [1, 3]⟩] [⟨d12, [1, 2]⟩] = [⟨d12, [1, 2]⟩] := by decide +kernel
theorem ex_keep : keepP [⟨d12, [1, 2]⟩] [] = [] := by decide +kernel
theorem ex_lex : lexAll ⟨#[1, 2]⟩ = .error (0, 5) := by kernel_rfl
theorem ex_nl : ∀ d, getP [⟨d12, [1, 2]⟩] d12 = some d → ∃ pe, lexAll ⟨d.toArray⟩ = .error pe := fun d h => by
  rw [ex_get] at h; cases h; exact ⟨_, ex_lex⟩
theorem ex_print : printP [zMod] = none := by decide +kernel
theorem ex_sz : szFile [zMod] ≤ 100000000000 := by
  have : szFile [zMod] = 100 := by decide +kernel
  omega
theorem ex_save : saveP [] [zMod] = ([], 0, 90) := by rw [saveP, ex_print]

set_option maxHeartbeats 1100000 in
theorem c_law18_examples {m : Mem} (G : Glob m) : Spec Tryz.prog 9 #[] m [] (RetE (.bool true)) := by
  refine Spec.enter0 Tryz.func9 rfl 104 Tryz.ntmps9 rfl fun a w0 Lf A H => ?_
  have hM := Le.refl m
  refine wp_seq ?_
  refine wp_region_lit ?_
  refine step (Runs.assign A rfl) A rfl ?_; clear A a; intro a A
  refine wpList_nil ?_
  refine wp_seq ?_
  refine wp_region_lit ?_
  refine step_slice A H rfl rfl rfl rfl rfl rfl ?_; intro b1 a w A H
  obtain ⟨m, hm, hS1, H⟩ := (H.row_pt (n := 2) (size := 1) rfl (by decide)).row_freeze
  have hS1 : Slc m 1 (some ⟨b1, 0, none⟩) 2 2 (([1, 2] : List UInt8).map u8) := hS1
  have hM := hM.trans hm
  have G := G.mono hm
  refine step_callF A rfl rfl (c_digest_Bytes hS1 (by decide)) H ?_
  rintro v1_1 a w m hm rfl A H
  have hM := hM.trans hm
  have G := G.mono hm
  have hS1 := hS1.mono hm
  refine step (Runs.assign A rfl) A rfl ?_; clear A a; intro a A
  refine wpList_nil ?_
  refine wp_seq ?_
  refine wp_region_lit ?_
  refine step_slice A H rfl rfl rfl rfl rfl rfl ?_; intro b2 a w A H
  obtain ⟨m, hm, hS2, H⟩ := (H.row_pt (n := 2) (size := 1) rfl (by decide)).row_freeze
  have hS2 : Slc m 1 (some ⟨b2, 0, none⟩) 2 2 (([1, 2] : List UInt8).map u8) := hS2
  have hM := hM.trans hm
  have G := G.mono hm
  have hS1 := hS1.mono hm
  refine step_callF A rfl rfl (c_wireloomlaw18_put (Objs.nil m) (by decide) srt_nil ⟨_, _, _, rfl, hS2, by decide⟩) H ?_
  rintro v2_1 a w m hm ⟨adp, cp, rfl, hput⟩ A H
  have hM := hM.trans hm
  have G := G.mono hm
  have hS1 := hS1.mono hm
  have hS2 := hS2.mono hm
  rw [ex_put] at hput A
  refine step_alloc A H rfl ?_; clear A a; intro bs a w A H
  refine step_store A H rfl rfl rfl rfl rfl rfl ?_; intro w H
  refine wpList_nil ?_
  refine wp_seq ?_
  refine wp_seq ?_
  refine wp_region_lit ?_
  refine step (Runs.fa A rfl) A rfl ?_; clear A a; intro a A
  refine step (Runs.ld1 A H rfl rfl) A rfl ?_; clear A a; intro a A
  refine step (Runs.move A rfl) A rfl ?_; clear A a; intro a A
  refine step (Runs.neq A rfl rfl) A rfl ?_; clear A a; intro a A
  refine step (Runs.move A rfl) A rfl ?_; clear A a; intro a A
  refine stepG (dj := 12) rfl rfl (decide_eq_false fun h => h rfl) (Runs.fa A rfl) A rfl ?_; clear A a; intro a A
  refine stepG (dj := 12) rfl rfl (decide_eq_false fun h => h rfl) (Runs.ld1 A H rfl rfl) A rfl ?_; clear A a; intro a A
  refine stepG (dj := 12) rfl rfl (decide_eq_false fun h => h rfl) (Runs.move A rfl) A rfl ?_; clear A a; intro a A
  refine unguard (dj := 12) rfl rfl (decide_eq_false fun h => h rfl) A ?_
  refine step_slice A H rfl rfl rfl rfl rfl rfl ?_; intro b3 a w A H
  obtain ⟨m, hm, hS3, H⟩ := (H.row_pt (n := 2) (size := 1) rfl (by decide)).row_freeze
  have hS3 : Slc m 1 (some ⟨b3, 0, none⟩) 2 2 (([1, 2] : List UInt8).map u8) := hS3
  have hM := hM.trans hm
  have G := G.mono hm
  have hS1 := hS1.mono hm
  have hS2 := hS2.mono hm
  have hput := hput.mono hm
  refine stepG (dj := 12) rfl rfl (decide_eq_false fun h => h rfl) (Runs.build A rfl rfl rfl) A rfl ?_; clear A a; intro a A
  refine unguard (dj := 12) rfl rfl (decide_eq_false fun h => h rfl) A ?_
  refine step_slice A H rfl rfl rfl rfl rfl rfl ?_; intro b4 a w A H
  obtain ⟨m, hm, hSx, H⟩ := (H.row_pt (n := 1) (size := 2) rfl (by decide)).row_freeze
  have hM := hM.trans hm
  have G := G.mono hm
  have hS1 := hS1.mono hm
  have hS2 := hS2.mono hm
  have hput := hput.mono hm
  have hS3 := hS3.mono hm
  have hO4 : Objs m (some ⟨b4, 0, none⟩) 1 1 [⟨d12, [1, 2]⟩] := ⟨rfl, _, hSx, rfl, ⟨_, _, _, rfl, hS3, by decide⟩, trivial⟩
  refine step_callFG (dj := 12) rfl rfl (decide_eq_false fun h => h rfl) A rfl rfl (c_wireloomref18_Same hput hO4) H ?_
  rintro v3_11 a w m hm rfl A H
  have hM := hM.trans hm
  have G := G.mono hm
  have hS1 := hS1.mono hm
  have hS2 := hS2.mono hm
  have hput := hput.mono hm
  have hS3 := hS3.mono hm
  have hO4 := hO4.mono hm
  refine stepG (dj := 12) rfl rfl (decide_eq_false fun h => h rfl) (Runs.not A rfl) A rfl ?_; clear A a; intro a A
  refine step (Runs.pickF A rfl (decide_eq_false fun h => h rfl) rfl) A rfl ?_; clear A a; intro a A
  refine step (Runs.move A rfl) A rfl ?_; clear A a; intro a A
  refine stepG (dj := 22) rfl rfl (notT (decide_eq_true rfl)) (Runs.fa A rfl) A rfl ?_; clear A a; intro a A
  refine stepG (dj := 22) rfl rfl (notT (decide_eq_true rfl)) (Runs.ld1 A H rfl rfl) A rfl ?_; clear A a; intro a A
  refine stepG (dj := 22) rfl rfl (notT (decide_eq_true rfl)) (Runs.move A rfl) A rfl ?_; clear A a; intro a A
  refine step_callFG (dj := 22) rfl rfl (notT (decide_eq_true rfl)) A rfl rfl (c_wireloomlaw18_get hput (by decide) (srt_one _)) H ?_
  rintro v3_18 a w m hm hget A H
  have hM := hM.trans hm
  have G := G.mono hm
  have hS1 := hS1.mono hm
  have hS2 := hS2.mono hm
  have hput := hput.mono hm
  have hS3 := hS3.mono hm
  have hO4 := hO4.mono hm
  simp only [ex_get] at hget
  obtain ⟨u1, rfl, hdu⟩ := hget
  refine unguard (dj := 22) rfl rfl (notT (decide_eq_true rfl)) A ?_
  refine step_slice A H rfl rfl rfl rfl rfl rfl ?_; intro b5 a w A H
  obtain ⟨m, hm, hS5, H⟩ := (H.row_pt (n := 2) (size := 1) rfl (by decide)).row_freeze
  have hS5 : Slc m 1 (some ⟨b5, 0, none⟩) 2 2 (([1, 2] : List UInt8).map u8) := hS5
  have hM := hM.trans hm
  have G := G.mono hm
  have hS1 := hS1.mono hm
  have hS2 := hS2.mono hm
  have hput := hput.mono hm
  have hS3 := hS3.mono hm
  have hO4 := hO4.mono hm
  have hdu := hdu.mono hm
  refine stepG (dj := 22) rfl rfl (notT (decide_eq_true rfl)) (Runs.build A rfl rfl rfl) A rfl ?_; clear A a; intro a A
  refine step_callFG (dj := 22) rfl rfl (notT (decide_eq_true rfl)) A rfl rfl (c_law18_same hdu ⟨_, _, _, rfl, hS5, by decide⟩) H ?_
  rintro v3_21 a w m hm rfl A H
  have hM := hM.trans hm
  have G := G.mono hm
  have hS1 := hS1.mono hm
  have hS2 := hS2.mono hm
  have hput := hput.mono hm
  have hS3 := hS3.mono hm
  have hO4 := hO4.mono hm
  have hdu := hdu.mono hm
  have hS5 := hS5.mono hm
  refine stepG (dj := 22) rfl rfl (notT (decide_eq_true rfl)) (Runs.not A rfl) A rfl ?_; clear A a; intro a A
  refine step (Runs.pickF A rfl (notT (decide_eq_true rfl)) rfl) A rfl ?_; clear A a; intro a A
  refine step (Runs.move A rfl) A rfl ?_; clear A a; intro a A
  refine stepG (dj := 32) rfl rfl (notT (decide_eq_true ⟨rfl, rfl⟩)) (Runs.move A rfl) A rfl ?_; clear A a; intro a A
  refine step_callFG (dj := 32) rfl rfl (notT (decide_eq_true ⟨rfl, rfl⟩)) A rfl rfl (c_wireloomlaw18_get (Objs.nil m) (by decide) srt_nil) H ?_
  rintro v3_26 a w m hm hget A H
  have hM := hM.trans hm
  have G := G.mono hm
  have hS1 := hS1.mono hm
  have hS2 := hS2.mono hm
  have hput := hput.mono hm
  have hS3 := hS3.mono hm
  have hO4 := hO4.mono hm
  have hdu := hdu.mono hm
  have hS5 := hS5.mono hm
  simp only [ex_get0] at hget
  subst hget
  refine stepG (dj := 32) rfl rfl (notT (decide_eq_true ⟨rfl, rfl⟩)) (Runs.field1 (ty := 40) A rfl FldC.h (by kernel_rfl) TyC.h rfl) A rfl ?_; clear A a; intro a A
  refine stepG (dj := 32) rfl rfl (notT (decide_eq_true ⟨rfl, rfl⟩)) (Runs.neq A rfl rfl) A rfl ?_; clear A a; intro a A
  refine step (Runs.pickF A rfl (notT (decide_eq_true ⟨rfl, rfl⟩)) rfl) A rfl ?_; clear A a; intro a A
  refine wpList_nil ?_
  refine cond_false A rfl (decide_eq_false fun h => h rfl) ?_
  refine wp_skip ?_
  refine wp_seq ?_
  refine wp_region_lit ?_
  refine step (Runs.move A rfl) A rfl ?_; clear A a; intro a A
  refine step_slice A H rfl rfl rfl rfl rfl rfl ?_; intro b6 a w A H
  obtain ⟨m, hm, hS6, H⟩ := (H.row_pt (n := 2) (size := 1) rfl (by decide)).row_freeze
  have hS6 : Slc m 1 (some ⟨b6, 0, none⟩) 2 2 (([1, 3] : List UInt8).map u8) := hS6
  have hM := hM.trans hm
  have G := G.mono hm
  have hS1 := hS1.mono hm
  have hS2 := hS2.mono hm
  have hput := hput.mono hm
  have hS3 := hS3.mono hm
  have hO4 := hO4.mono hm
  have hdu := hdu.mono hm
  have hS5 := hS5.mono hm
  refine step (Runs.build A rfl rfl rfl) A rfl ?_; clear A a; intro a A
  refine step_slice A H rfl rfl rfl rfl rfl rfl ?_; intro b7 a w A H
  obtain ⟨m, hm, hSx, H⟩ := (H.row_pt (n := 1) (size := 2) rfl (by decide)).row_freeze
  have hM := hM.trans hm
  have G := G.mono hm
  have hS1 := hS1.mono hm
  have hS2 := hS2.mono hm
  have hput := hput.mono hm
  have hS3 := hS3.mono hm
  have hO4 := hO4.mono hm
  have hdu := hdu.mono hm
  have hS5 := hS5.mono hm
  have hS6 := hS6.mono hm
  have hO7 : Objs m (some ⟨b7, 0, none⟩) 1 1 [⟨d12, [1, 3]⟩] := ⟨rfl, _, hSx, rfl, ⟨_, _, _, rfl, hS6, by decide⟩, trivial⟩
  refine step (Runs.assign A rfl) A rfl ?_; clear A a; intro a A
  refine wpList_nil ?_
  refine wp_seq ?_
  refine draw_begin (ms := m) (Ls := [pt bs [.slice adp ([⟨d12, [1, 2]⟩] : List Obj).length cp, u64 d12, .int .i64 0] 42]) (by kernel_rfl) (N := 63) rfl (by kernel_rfl) H ?_; clear H; intro w H hR
  have hS : SW m [pt bs [.slice adp ([⟨d12, [1, 2]⟩] : List Obj).length cp, u64 d12, .int .i64 0] 42] w := H.sw (Le.refl m)
  have hL := Le.refl m
  refine dstep hR (i := 0) rfl (by kernel_rfl) (fun _ _ _ h => h) (fun _ _ H' => (Runs.move A rfl)) A rfl hS ?_; clear A a hR; intro a A hR
  refine dstep hR (i := 1) rfl (by kernel_rfl) (fun _ _ _ h => h) (fun _ _ H' => (Runs.move A rfl)) A rfl hS ?_; clear A a hR; intro a A hR
  refine dlist hR (i := 2) rfl (by kernel_rfl) ?_
  have hR := hR.next (i := 2) (by kernel_rfl)
  refine step_callF A rfl rfl (c_wireloomlaw18_get hO7 (by decide) (srt_one _)) H ?_
  rintro v6_2 a w m hm hget A H
  have hM := hM.trans hm
  have G := G.mono hm
  have hS1 := hS1.mono hm
  have hS2 := hS2.mono hm
  have hput := hput.mono hm
  have hS3 := hS3.mono hm
  have hO4 := hO4.mono hm
  have hdu := hdu.mono hm
  have hS5 := hS5.mono hm
  have hS6 := hS6.mono hm
  have hO7 := hO7.mono hm
  simp only [ex_getb] at hget
  subst hget
  have hL := hL.trans hm
  refine wpList_nil ?_
  clear hS; refine and_keep (H.sw hL) fun hS => ?_
  refine dstep hR (i := 3) rfl (by kernel_rfl) (fun _ _ _ h => h) (fun _ _ H' => (Runs.field1 (ty := 40) A rfl FldC.h (by kernel_rfl) TyC.h rfl)) A rfl hS ?_; clear A a hR; intro a A hR
  refine dstep hR (i := 4) rfl (by kernel_rfl) (fun _ _ _ h => h) (fun _ _ H' => (Runs.eql A rfl rfl)) A rfl hS ?_; clear A a hR; intro a A hR
  refine dstep hR (i := 5) rfl (by kernel_rfl) (fun _ _ _ h => h) (fun _ _ H' => (Runs.move A rfl)) A rfl hS ?_; clear A a hR; intro a A hR
  refine dstepG hR (i := 6) (dj := 47) rfl (by kernel_rfl) (fun _ _ _ h => h) rfl rfl (decide_eq_true rfl) (fun _ _ H' => (Runs.move A rfl)) A rfl hS ?_; clear A a hR; intro a A hR
  refine dstepG hR (i := 8) (dj := 47) rfl (by kernel_rfl) (fun _ _ _ h => h) rfl rfl (decide_eq_true rfl) (fun _ _ H' => (Runs.move A rfl)) A rfl hS ?_; clear A a hR; intro a A hR
  refine draws_all hR (rs := [7, 9]) (by kernel_rfl) (by decide) ?_
  simp only [List.mem_cons, List.not_mem_nil, or_false, forall_eq_or_imp, forall_eq]
  refine ⟨?_, ?_⟩
  · refine dalt (i := 7) rfl ?_
    have hR := hR.next (i := 7) (by kernel_rfl)
    refine step_callFG (dj := 47) rfl rfl (decide_eq_true rfl) A rfl rfl (c_objects_Damaged hO7 (by decide)) H ?_
    rintro v6_7 a w m hm ⟨adw, cw, rfl, hw⟩ A H
    have hM := hM.trans hm
    have G := G.mono hm
    have hS1 := hS1.mono hm
    have hS2 := hS2.mono hm
    have hput := hput.mono hm
    have hS3 := hS3.mono hm
    have hO4 := hO4.mono hm
    have hdu := hdu.mono hm
    have hS5 := hS5.mono hm
    have hS6 := hS6.mono hm
    have hO7 := hO7.mono hm
    rw [ex_dmg] at hw A
    have hL := hL.trans hm
    refine wpList_nil ?_
    clear hS; refine and_keep (H.sw hL) fun hS => ?_
    refine dlist hR (i := 9) rfl (by kernel_rfl) ?_
    have hR := hR.next (i := 9) (by kernel_rfl)
    refine unguard (dj := 47) rfl rfl (decide_eq_true rfl) A ?_
    refine step_slice A H rfl rfl rfl rfl rfl rfl ?_; intro b8 a w A H
    obtain ⟨m, hm, hW8, H⟩ := (H.row_pt (n := 1) (size := 1) rfl (by decide)).row_freeze
    have hW8 : Ws m (some ⟨b8, 0, none⟩) 1 1 [d12] := hW8
    have hM := hM.trans hm
    have G := G.mono hm
    have hS1 := hS1.mono hm
    have hS2 := hS2.mono hm
    have hput := hput.mono hm
    have hS3 := hS3.mono hm
    have hO4 := hO4.mono hm
    have hdu := hdu.mono hm
    have hS5 := hS5.mono hm
    have hS6 := hS6.mono hm
    have hO7 := hO7.mono hm
    have hw := hw.mono hm
    have hL := hL.trans hm
    refine wpList_nil ?_
    clear hS; refine and_keep (H.sw hL) fun hS => ?_
    refine dlist hR (i := 10) rfl (by kernel_rfl) ?_
    have hR := hR.next (i := 10) (by kernel_rfl)
    refine step_callFG (dj := 47) rfl rfl (decide_eq_true rfl) A rfl rfl (c_wireloomref01_Same hw hW8) H ?_
    rintro v6_10 a w m hm rfl A H
    have hM := hM.trans hm
    have G := G.mono hm
    have hS1 := hS1.mono hm
    have hS2 := hS2.mono hm
    have hput := hput.mono hm
    have hS3 := hS3.mono hm
    have hO4 := hO4.mono hm
    have hdu := hdu.mono hm
    have hS5 := hS5.mono hm
    have hS6 := hS6.mono hm
    have hO7 := hO7.mono hm
    have hw := hw.mono hm
    have hW8 := hW8.mono hm
    have hL := hL.trans hm
    refine wpList_nil ?_
    clear hS; refine and_keep (H.sw hL) fun hS => ?_
    refine dstep hR (i := 11) rfl (by kernel_rfl) (fun _ _ _ h => h) (fun _ _ H' => (Runs.pickT A rfl (decide_eq_true rfl) rfl)) A rfl hS ?_; clear A a hR; intro a A hR
    refine dstep hR (i := 12) rfl (by kernel_rfl) (fun _ _ _ h => h) (fun _ _ H' => (Runs.move A rfl)) A rfl hS ?_; clear A a hR; intro a A hR
    refine dstepG hR (i := 13) (dj := 54) rfl (by kernel_rfl) (fun _ _ _ h => h) rfl rfl (decide_eq_true rfl) (fun _ _ H' => (Runs.fa A rfl)) A rfl hS ?_; clear A a hR; intro a A hR
    refine dstepG hR (i := 14) (dj := 54) rfl (by kernel_rfl) (fun _ _ _ h => h) rfl rfl (decide_eq_true rfl) (fun _ _ H' => (Runs.ld1 A H' rfl rfl)) A rfl hS ?_; clear A a hR; intro a A hR
    refine dlist hR (i := 15) rfl (by kernel_rfl) ?_
    have hR := hR.next (i := 15) (by kernel_rfl)
    refine step_callFG (dj := 54) rfl rfl (decide_eq_true rfl) A rfl rfl (c_objects_Damaged hput (by decide)) H ?_
    rintro v6_15 a w m hm ⟨adw0, cw0, rfl, hw0⟩ A H
    have hM := hM.trans hm
    have G := G.mono hm
    have hS1 := hS1.mono hm
    have hS2 := hS2.mono hm
    have hput := hput.mono hm
    have hS3 := hS3.mono hm
    have hO4 := hO4.mono hm
    have hdu := hdu.mono hm
    have hS5 := hS5.mono hm
    have hS6 := hS6.mono hm
    have hO7 := hO7.mono hm
    have hw := hw.mono hm
    have hW8 := hW8.mono hm
    rw [ex_dmg0] at hw0 A
    have hL := hL.trans hm
    refine wpList_nil ?_
    clear hS; refine and_keep (H.sw hL) fun hS => ?_
    refine dstepG hR (i := 16) (dj := 54) rfl (by kernel_rfl) (fun _ _ _ h => h) rfl rfl (decide_eq_true rfl) (fun _ _ H' => (Runs.lenL A rfl SlC.h)) A rfl hS ?_; clear A a hR; intro a A hR
    refine dstepG hR (i := 17) (dj := 54) rfl (by kernel_rfl) (fun _ _ _ h => h) rfl rfl (decide_eq_true rfl) (fun _ _ H' => (Runs.eql A rfl rfl)) A rfl hS ?_; clear A a hR; intro a A hR
    refine dstep hR (i := 18) rfl (by kernel_rfl) (fun _ _ _ h => h) (fun _ _ H' => (Runs.pickT A rfl (decide_eq_true rfl) rfl)) A rfl hS ?_; clear A a hR; intro a A hR
    refine dstep hR (i := 19) rfl (by kernel_rfl) (fun _ _ _ h => h) (fun _ _ H' => (Runs.move A rfl)) A rfl hS ?_; clear A a hR; intro a A hR
    refine dstepG hR (i := 20) (dj := 61) rfl (by kernel_rfl) (fun _ _ _ h => h) rfl rfl (decide_eq_true rfl) (fun _ _ H' => (Runs.move A rfl)) A rfl hS ?_; clear A a hR; intro a A hR
    refine dstepG hR (i := 21) (dj := 61) rfl (by kernel_rfl) (fun _ _ _ h => h) rfl rfl (decide_eq_true rfl) (fun _ _ H' => (Runs.fa A rfl)) A rfl hS ?_; clear A a hR; intro a A hR
    refine dstepG hR (i := 22) (dj := 61) rfl (by kernel_rfl) (fun _ _ _ h => h) rfl rfl (decide_eq_true rfl) (fun _ _ H' => (Runs.ld1 A H' rfl rfl)) A rfl hS ?_; clear A a hR; intro a A hR
    refine dstepG hR (i := 24) (dj := 61) rfl (by kernel_rfl) (fun _ _ _ h => h) rfl rfl (decide_eq_true rfl) (fun _ _ H' => (Runs.fa A rfl)) A rfl hS ?_; clear A a hR; intro a A hR
    refine dstepG hR (i := 25) (dj := 61) rfl (by kernel_rfl) (fun _ _ _ h => h) rfl rfl (decide_eq_true rfl) (fun _ _ H' => (Runs.ld1 A H' rfl rfl)) A rfl hS ?_; clear A a hR; intro a A hR
    refine dlist hR (i := 23) rfl (by kernel_rfl) ?_
    have hR := hR.next (i := 23) (by kernel_rfl)
    refine step_callFG (dj := 61) rfl rfl (decide_eq_true rfl) A rfl rfl (c_objects_Union hO7 hput (by decide) (by decide)) H ?_
    rintro v6_23 a w m hm ⟨adm, cm, rfl, hmg⟩ A H
    have hM := hM.trans hm
    have G := G.mono hm
    have hS1 := hS1.mono hm
    have hS2 := hS2.mono hm
    have hput := hput.mono hm
    have hS3 := hS3.mono hm
    have hO4 := hO4.mono hm
    have hdu := hdu.mono hm
    have hS5 := hS5.mono hm
    have hS6 := hS6.mono hm
    have hO7 := hO7.mono hm
    have hw := hw.mono hm
    have hW8 := hW8.mono hm
    rw [ex_merge] at hmg A
    have hL := hL.trans hm
    refine wpList_nil ?_
    clear hS; refine and_keep (H.sw hL) fun hS => ?_
    refine dlist hR (i := 26) rfl (by kernel_rfl) ?_
    have hR := hR.next (i := 26) (by kernel_rfl)
    refine step_callFG (dj := 61) rfl rfl (decide_eq_true rfl) A rfl rfl (c_wireloomref18_Same hmg hput) H ?_
    rintro v6_26 a w m hm rfl A H
    have hM := hM.trans hm
    have G := G.mono hm
    have hS1 := hS1.mono hm
    have hS2 := hS2.mono hm
    have hput := hput.mono hm
    have hS3 := hS3.mono hm
    have hO4 := hO4.mono hm
    have hdu := hdu.mono hm
    have hS5 := hS5.mono hm
    have hS6 := hS6.mono hm
    have hO7 := hO7.mono hm
    have hw := hw.mono hm
    have hW8 := hW8.mono hm
    have hmg := hmg.mono hm
    have hL := hL.trans hm
    refine wpList_nil ?_
    clear hS; refine and_keep (H.sw hL) fun hS => ?_
    refine dstep hR (i := 27) rfl (by kernel_rfl) (fun _ _ _ h => h) (fun _ _ H' => (Runs.pickT A rfl (decide_eq_true rfl) rfl)) A rfl hS ?_; clear A a hR; intro a A hR
    refine dstep hR (i := 28) rfl (by kernel_rfl) (fun _ _ _ h => h) (fun _ _ H' => (Runs.move A rfl)) A rfl hS ?_; clear A a hR; intro a A hR
    refine dstepG hR (i := 29) (dj := 70) rfl (by kernel_rfl) (fun _ _ _ h => h) rfl rfl (decide_eq_true rfl) (fun _ _ H' => (Runs.fa A rfl)) A rfl hS ?_; clear A a hR; intro a A hR
    refine dstepG hR (i := 30) (dj := 70) rfl (by kernel_rfl) (fun _ _ _ h => h) rfl rfl (decide_eq_true rfl) (fun _ _ H' => (Runs.ld1 A H' rfl rfl)) A rfl hS ?_; clear A a hR; intro a A hR
    refine dlist hR (i := 31) rfl (by kernel_rfl) ?_
    have hR := hR.next (i := 31) (by kernel_rfl)
    refine step_callFG (dj := 70) rfl rfl (decide_eq_true rfl) A rfl rfl (c_objects_Keep hput (by decide) (show Ws m none 0 0 [] from Slc.nil m 1 none 0 (by decide))) H ?_
    rintro v6_31 a w m hm ⟨adk, ck, rfl, hk⟩ A H
    have hM := hM.trans hm
    have G := G.mono hm
    have hS1 := hS1.mono hm
    have hS2 := hS2.mono hm
    have hput := hput.mono hm
    have hS3 := hS3.mono hm
    have hO4 := hO4.mono hm
    have hdu := hdu.mono hm
    have hS5 := hS5.mono hm
    have hS6 := hS6.mono hm
    have hO7 := hO7.mono hm
    have hw := hw.mono hm
    have hW8 := hW8.mono hm
    have hmg := hmg.mono hm
    rw [ex_keep] at hk A
    have hL := hL.trans hm
    refine wpList_nil ?_
    clear hS; refine and_keep (H.sw hL) fun hS => ?_
    refine dstepG hR (i := 32) (dj := 70) rfl (by kernel_rfl) (fun _ _ _ h => h) rfl rfl (decide_eq_true rfl) (fun _ _ H' => (Runs.lenL A rfl SlC.h)) A rfl hS ?_; clear A a hR; intro a A hR
    refine dstepG hR (i := 33) (dj := 70) rfl (by kernel_rfl) (fun _ _ _ h => h) rfl rfl (decide_eq_true rfl) (fun _ _ H' => (Runs.eql A rfl rfl)) A rfl hS ?_; clear A a hR; intro a A hR
    refine dstep hR (i := 34) rfl (by kernel_rfl) (fun _ _ _ h => h) (fun _ _ H' => (Runs.pickT A rfl (decide_eq_true rfl) rfl)) A rfl hS ?_; clear A a hR; intro a A hR
    refine dstep hR (i := 35) rfl (by kernel_rfl) (fun _ _ _ h => h) (fun _ _ H' => (Runs.move A rfl)) A rfl hS ?_; clear A a hR; intro a A hR
    refine dstepG hR (i := 36) (dj := 77) rfl (by kernel_rfl) (fun _ _ _ h => h) rfl rfl (decide_eq_true rfl) (fun _ _ H' => (Runs.move A rfl)) A rfl hS ?_; clear A a hR; intro a A hR
    refine dlist hR (i := 37) rfl (by kernel_rfl) ?_
    have hR := hR.next (i := 37) (by kernel_rfl)
    refine step_callFG (dj := 77) rfl rfl (decide_eq_true rfl) A rfl rfl (c_objects_Is hO7) H ?_
    rintro v6_37 a w m hm rfl A H
    have hM := hM.trans hm
    have G := G.mono hm
    have hS1 := hS1.mono hm
    have hS2 := hS2.mono hm
    have hput := hput.mono hm
    have hS3 := hS3.mono hm
    have hO4 := hO4.mono hm
    have hdu := hdu.mono hm
    have hS5 := hS5.mono hm
    have hS6 := hS6.mono hm
    have hO7 := hO7.mono hm
    have hw := hw.mono hm
    have hW8 := hW8.mono hm
    have hmg := hmg.mono hm
    have hL := hL.trans hm
    refine wpList_nil ?_
    clear hS; refine and_keep (H.sw hL) fun hS => ?_
    refine dstep hR (i := 38) rfl (by kernel_rfl) (fun _ _ _ h => h) (fun _ _ H' => (Runs.pickT A rfl (decide_eq_true rfl) rfl)) A rfl hS ?_; clear A a hR; intro a A hR
    refine dstep hR (i := 39) rfl (by kernel_rfl) (fun _ _ _ h => h) (fun _ _ H' => (Runs.move A rfl)) A rfl hS ?_; clear A a hR; intro a A hR
    refine dstepG hR (i := 40) (dj := 81) rfl (by kernel_rfl) (fun _ _ _ h => h) rfl rfl (by decide +kernel) (fun _ _ H' => (Runs.build A rfl rfl rfl)) A rfl hS ?_; clear A a hR; intro a A hR
    refine dstepG hR (i := 41) (dj := 81) rfl (by kernel_rfl) (fun _ _ _ h => h) rfl rfl (by decide +kernel) (fun _ _ H' => (Runs.build A rfl rfl rfl)) A rfl hS ?_; clear A a hR; intro a A hR
    refine dlist hR (i := 42) rfl (by kernel_rfl) ?_
    have hR := hR.next (i := 42) (by kernel_rfl)
    refine unguard (dj := 81) rfl rfl (by decide +kernel) A ?_
    refine step_slice A H rfl rfl rfl rfl rfl rfl ?_; intro b9 a w A H
    obtain ⟨m, hm, hSx, H⟩ := (H.row_pt (n := 2) (size := 2) rfl (by decide)).row_freeze
    have hM := hM.trans hm
    have G := G.mono hm
    have hS1 := hS1.mono hm
    have hS2 := hS2.mono hm
    have hput := hput.mono hm
    have hS3 := hS3.mono hm
    have hO4 := hO4.mono hm
    have hdu := hdu.mono hm
    have hS5 := hS5.mono hm
    have hS6 := hS6.mono hm
    have hO7 := hO7.mono hm
    have hw := hw.mono hm
    have hW8 := hW8.mono hm
    have hmg := hmg.mono hm
    have hO9 : Objs m (some ⟨b9, 0, none⟩) 2 2 [⟨1, []⟩, ⟨1, []⟩] := ⟨rfl, _, hSx, rfl, Dat.nil m, rfl, Dat.nil m, trivial⟩
    have hL := hL.trans hm
    refine wpList_nil ?_
    clear hS; refine and_keep (H.sw hL) fun hS => ?_
    refine dlist hR (i := 43) rfl (by kernel_rfl) ?_
    have hR := hR.next (i := 43) (by kernel_rfl)
    refine step_callFG (dj := 81) rfl rfl (by decide +kernel) A rfl rfl (c_objects_Is hO9) H ?_
    rintro v6_43 a w m hm rfl A H
    have hM := hM.trans hm
    have G := G.mono hm
    have hS1 := hS1.mono hm
    have hS2 := hS2.mono hm
    have hput := hput.mono hm
    have hS3 := hS3.mono hm
    have hO4 := hO4.mono hm
    have hdu := hdu.mono hm
    have hS5 := hS5.mono hm
    have hS6 := hS6.mono hm
    have hO7 := hO7.mono hm
    have hw := hw.mono hm
    have hW8 := hW8.mono hm
    have hmg := hmg.mono hm
    have hO9 := hO9.mono hm
    have hL := hL.trans hm
    refine wpList_nil ?_
    clear hS; refine and_keep (H.sw hL) fun hS => ?_
    refine dstepG hR (i := 44) (dj := 81) rfl (by kernel_rfl) (fun _ _ _ h => h) rfl rfl (by decide +kernel) (fun _ _ H' => (Runs.not A rfl)) A rfl hS ?_; clear A a hR; intro a A hR
    refine dstep hR (i := 45) rfl (by kernel_rfl) (fun _ _ _ h => h) (fun _ _ H' => (Runs.pickT A rfl (by decide +kernel) rfl)) A rfl hS ?_; clear A a hR; intro a A hR
    refine dstep hR (i := 46) rfl (by kernel_rfl) (fun _ _ _ h => h) (fun _ _ H' => (Runs.move A rfl)) A rfl hS ?_; clear A a hR; intro a A hR
    refine dstepG hR (i := 47) (dj := 88) rfl (by kernel_rfl) (fun _ _ _ h => h) rfl rfl (notF (by decide +kernel)) (fun _ _ H' => (Runs.fa A rfl)) A rfl hS ?_; clear A a hR; intro a A hR
    refine dstepG hR (i := 48) (dj := 88) rfl (by kernel_rfl) (fun _ _ _ h => h) rfl rfl (notF (by decide +kernel)) (fun _ _ H' => (Runs.ld1 A H' rfl rfl)) A rfl hS ?_; clear A a hR; intro a A hR
    refine dstepG hR (i := 49) (dj := 88) rfl (by kernel_rfl) (fun _ _ _ h => h) rfl rfl (notF (by decide +kernel)) (fun _ _ H' => (Runs.move A rfl)) A rfl hS ?_; clear A a hR; intro a A hR
    refine dlist hR (i := 50) rfl (by kernel_rfl) ?_
    have hR := hR.next (i := 50) (by kernel_rfl)
    refine step_callFG (dj := 88) rfl rfl (notF (by decide +kernel)) A rfl rfl (c_load_lex G hput (by decide) (srt_one _) ex_nl) H ?_
    rintro v6_50 a w m hm rfl A H
    have hM := hM.trans hm
    have G := G.mono hm
    have hS1 := hS1.mono hm
    have hS2 := hS2.mono hm
    have hput := hput.mono hm
    have hS3 := hS3.mono hm
    have hO4 := hO4.mono hm
    have hdu := hdu.mono hm
    have hS5 := hS5.mono hm
    have hS6 := hS6.mono hm
    have hO7 := hO7.mono hm
    have hw := hw.mono hm
    have hW8 := hW8.mono hm
    have hmg := hmg.mono hm
    have hO9 := hO9.mono hm
    have hL := hL.trans hm
    refine wpList_nil ?_
    clear hS; refine and_keep (H.sw hL) fun hS => ?_
    refine dstepG hR (i := 51) (dj := 88) rfl (by kernel_rfl) (fun _ _ _ h => h) rfl rfl (notF (by decide +kernel)) (fun _ _ H' => (Runs.field1 (ty := 40) A rfl FldC.h (by kernel_rfl) TyC.h rfl)) A rfl hS ?_; clear A a hR; intro a A hR
    refine dstepG hR (i := 52) (dj := 88) rfl (by kernel_rfl) (fun _ _ _ h => h) rfl rfl (notF (by decide +kernel)) (fun _ _ H' => (Runs.eql A rfl rfl)) A rfl hS ?_; clear A a hR; intro a A hR
    refine dstep hR (i := 53) rfl (by kernel_rfl) (fun _ _ _ h => h) (fun _ _ H' => (Runs.pickT A rfl (notF (by decide +kernel)) rfl)) A rfl hS ?_; clear A a hR; intro a A hR
    refine dstep hR (i := 54) rfl (by kernel_rfl) (fun _ _ _ h => h) (fun _ _ H' => (Runs.move A rfl)) A rfl hS ?_; clear A a hR; intro a A hR
    refine dstepG hR (i := 55) (dj := 96) rfl (by kernel_rfl) (fun _ _ _ h => h) rfl rfl (decide_eq_true rfl) (fun _ _ H' => (Runs.build A rfl rfl rfl)) A rfl hS ?_; clear A a hR; intro a A hR
    refine dlist hR (i := 56) rfl (by kernel_rfl) ?_
    have hR := hR.next (i := 56) (by kernel_rfl)
    refine unguard (dj := 96) rfl rfl (decide_eq_true rfl) A ?_
    refine step_slice A H rfl rfl rfl rfl rfl rfl ?_; intro bm a w A H
    obtain ⟨m, hm, hSm, H⟩ := (H.row_pt (n := 1) (size := 4) rfl (by decide)).row_freeze
    have hLm : Lst MoR 4 m (some ⟨bm, 0, none⟩) 1 [zMod] := ⟨_, hSm, LR.one ⟨none, 0, none, 0, rfl, Lst.nil (by decide), Lst.nil (by decide)⟩ rfl⟩
    have hM := hM.trans hm
    have G := G.mono hm
    have hS1 := hS1.mono hm
    have hS2 := hS2.mono hm
    have hput := hput.mono hm
    have hS3 := hS3.mono hm
    have hO4 := hO4.mono hm
    have hdu := hdu.mono hm
    have hS5 := hS5.mono hm
    have hS6 := hS6.mono hm
    have hO7 := hO7.mono hm
    have hw := hw.mono hm
    have hW8 := hW8.mono hm
    have hmg := hmg.mono hm
    have hO9 := hO9.mono hm
    have hL := hL.trans hm
    refine wpList_nil ?_
    clear hS; refine and_keep (H.sw hL) fun hS => ?_
    refine dstepG hR (i := 57) (dj := 96) rfl (by kernel_rfl) (fun _ _ _ h => h) rfl rfl (decide_eq_true rfl) (fun _ _ H' => (Runs.build A rfl rfl rfl)) A rfl hS ?_; clear A a hR; intro a A hR
    refine dlist hR (i := 58) rfl (by kernel_rfl) ?_
    have hR := hR.next (i := 58) (by kernel_rfl)
    refine step_callFG (dj := 96) rfl rfl (decide_eq_true rfl) A rfl rfl (c_wireloomlaw18_save (lf := [zMod]) (Objs.nil m) (by decide) srt_nil G hLm ex_sz) H ?_
    rintro v6_58 a w m hm ⟨adsv, csv, rfl, hsave⟩ A H
    have hM := hM.trans hm
    have G := G.mono hm
    have hS1 := hS1.mono hm
    have hS2 := hS2.mono hm
    have hput := hput.mono hm
    have hS3 := hS3.mono hm
    have hO4 := hO4.mono hm
    have hdu := hdu.mono hm
    have hS5 := hS5.mono hm
    have hS6 := hS6.mono hm
    have hO7 := hO7.mono hm
    have hw := hw.mono hm
    have hW8 := hW8.mono hm
    have hmg := hmg.mono hm
    have hO9 := hO9.mono hm
    have hLm := hLm.mono hm
    rw [ex_save] at hsave A
    have hL := hL.trans hm
    refine wpList_nil ?_
    clear hS; refine and_keep (H.sw hL) fun hS => ?_
    refine dstepG hR (i := 59) (dj := 96) rfl (by kernel_rfl) (fun _ _ _ h => h) rfl rfl (decide_eq_true rfl) (fun _ _ H' => (Runs.field1 (ty := 40) A rfl FldC.h (by kernel_rfl) TyC.h rfl)) A rfl hS ?_; clear A a hR; intro a A hR
    refine dstepG hR (i := 60) (dj := 96) rfl (by kernel_rfl) (fun _ _ _ h => h) rfl rfl (decide_eq_true rfl) (fun _ _ H' => (Runs.eql A rfl rfl)) A rfl hS ?_; clear A a hR; intro a A hR
    refine dstep hR (i := 61) rfl (by kernel_rfl) (fun _ _ _ h => h) (fun _ _ H' => (Runs.pickT A rfl (decide_eq_true rfl) rfl)) A rfl hS ?_; clear A a hR; intro a A hR
    refine dstep hR (i := 62) rfl (by kernel_rfl) (fun _ _ _ h => h) (fun _ _ H' => (Runs.assign A rfl)) A rfl hS ?_; clear A a hR; intro a A hR
    refine draw_done hR (by kernel_rfl) ?_
    clear hS hL hR
    refine wp_ret ?_
    exact retF A rfl rfl hM H rfl
  · refine dalt (i := 9) rfl ?_
    have hR := hR.next (i := 9) (by kernel_rfl)
    refine unguard (dj := 47) rfl rfl (decide_eq_true rfl) A ?_
    refine step_slice A H rfl rfl rfl rfl rfl rfl ?_; intro b8 a w A H
    obtain ⟨m, hm, hW8, H⟩ := (H.row_pt (n := 1) (size := 1) rfl (by decide)).row_freeze
    have hW8 : Ws m (some ⟨b8, 0, none⟩) 1 1 [d12] := hW8
    have hM := hM.trans hm
    have G := G.mono hm
    have hS1 := hS1.mono hm
    have hS2 := hS2.mono hm
    have hput := hput.mono hm
    have hS3 := hS3.mono hm
    have hO4 := hO4.mono hm
    have hdu := hdu.mono hm
    have hS5 := hS5.mono hm
    have hS6 := hS6.mono hm
    have hO7 := hO7.mono hm
    have hL := hL.trans hm
    refine wpList_nil ?_
    clear hS; refine and_keep (H.sw hL) fun hS => ?_
    refine dlist hR (i := 7) rfl (by kernel_rfl) ?_
    have hR := hR.next (i := 7) (by kernel_rfl)
    refine step_callFG (dj := 47) rfl rfl (decide_eq_true rfl) A rfl rfl (c_objects_Damaged hO7 (by decide)) H ?_
    rintro v6_7 a w m hm ⟨adw, cw, rfl, hw⟩ A H
    have hM := hM.trans hm
    have G := G.mono hm
    have hS1 := hS1.mono hm
    have hS2 := hS2.mono hm
    have hput := hput.mono hm
    have hS3 := hS3.mono hm
    have hO4 := hO4.mono hm
    have hdu := hdu.mono hm
    have hS5 := hS5.mono hm
    have hS6 := hS6.mono hm
    have hO7 := hO7.mono hm
    have hW8 := hW8.mono hm
    rw [ex_dmg] at hw A
    have hL := hL.trans hm
    refine wpList_nil ?_
    clear hS; refine and_keep (H.sw hL) fun hS => ?_
    refine dlist hR (i := 10) rfl (by kernel_rfl) ?_
    have hR := hR.next (i := 10) (by kernel_rfl)
    refine step_callFG (dj := 47) rfl rfl (decide_eq_true rfl) A rfl rfl (c_wireloomref01_Same hw hW8) H ?_
    rintro v6_10 a w m hm rfl A H
    have hM := hM.trans hm
    have G := G.mono hm
    have hS1 := hS1.mono hm
    have hS2 := hS2.mono hm
    have hput := hput.mono hm
    have hS3 := hS3.mono hm
    have hO4 := hO4.mono hm
    have hdu := hdu.mono hm
    have hS5 := hS5.mono hm
    have hS6 := hS6.mono hm
    have hO7 := hO7.mono hm
    have hW8 := hW8.mono hm
    have hw := hw.mono hm
    have hL := hL.trans hm
    refine wpList_nil ?_
    clear hS; refine and_keep (H.sw hL) fun hS => ?_
    refine dstep hR (i := 11) rfl (by kernel_rfl) (fun _ _ _ h => h) (fun _ _ H' => (Runs.pickT A rfl (decide_eq_true rfl) rfl)) A rfl hS ?_; clear A a hR; intro a A hR
    refine dstep hR (i := 12) rfl (by kernel_rfl) (fun _ _ _ h => h) (fun _ _ H' => (Runs.move A rfl)) A rfl hS ?_; clear A a hR; intro a A hR
    refine dstepG hR (i := 13) (dj := 54) rfl (by kernel_rfl) (fun _ _ _ h => h) rfl rfl (decide_eq_true rfl) (fun _ _ H' => (Runs.fa A rfl)) A rfl hS ?_; clear A a hR; intro a A hR
    refine dstepG hR (i := 14) (dj := 54) rfl (by kernel_rfl) (fun _ _ _ h => h) rfl rfl (decide_eq_true rfl) (fun _ _ H' => (Runs.ld1 A H' rfl rfl)) A rfl hS ?_; clear A a hR; intro a A hR
    refine dlist hR (i := 15) rfl (by kernel_rfl) ?_
    have hR := hR.next (i := 15) (by kernel_rfl)
    refine step_callFG (dj := 54) rfl rfl (decide_eq_true rfl) A rfl rfl (c_objects_Damaged hput (by decide)) H ?_
    rintro v6_15 a w m hm ⟨adw0, cw0, rfl, hw0⟩ A H
    have hM := hM.trans hm
    have G := G.mono hm
    have hS1 := hS1.mono hm
    have hS2 := hS2.mono hm
    have hput := hput.mono hm
    have hS3 := hS3.mono hm
    have hO4 := hO4.mono hm
    have hdu := hdu.mono hm
    have hS5 := hS5.mono hm
    have hS6 := hS6.mono hm
    have hO7 := hO7.mono hm
    have hW8 := hW8.mono hm
    have hw := hw.mono hm
    rw [ex_dmg0] at hw0 A
    have hL := hL.trans hm
    refine wpList_nil ?_
    clear hS; refine and_keep (H.sw hL) fun hS => ?_
    refine dstepG hR (i := 16) (dj := 54) rfl (by kernel_rfl) (fun _ _ _ h => h) rfl rfl (decide_eq_true rfl) (fun _ _ H' => (Runs.lenL A rfl SlC.h)) A rfl hS ?_; clear A a hR; intro a A hR
    refine dstepG hR (i := 17) (dj := 54) rfl (by kernel_rfl) (fun _ _ _ h => h) rfl rfl (decide_eq_true rfl) (fun _ _ H' => (Runs.eql A rfl rfl)) A rfl hS ?_; clear A a hR; intro a A hR
    refine dstep hR (i := 18) rfl (by kernel_rfl) (fun _ _ _ h => h) (fun _ _ H' => (Runs.pickT A rfl (decide_eq_true rfl) rfl)) A rfl hS ?_; clear A a hR; intro a A hR
    refine dstep hR (i := 19) rfl (by kernel_rfl) (fun _ _ _ h => h) (fun _ _ H' => (Runs.move A rfl)) A rfl hS ?_; clear A a hR; intro a A hR
    refine dstepG hR (i := 20) (dj := 61) rfl (by kernel_rfl) (fun _ _ _ h => h) rfl rfl (decide_eq_true rfl) (fun _ _ H' => (Runs.move A rfl)) A rfl hS ?_; clear A a hR; intro a A hR
    refine dstepG hR (i := 21) (dj := 61) rfl (by kernel_rfl) (fun _ _ _ h => h) rfl rfl (decide_eq_true rfl) (fun _ _ H' => (Runs.fa A rfl)) A rfl hS ?_; clear A a hR; intro a A hR
    refine dstepG hR (i := 22) (dj := 61) rfl (by kernel_rfl) (fun _ _ _ h => h) rfl rfl (decide_eq_true rfl) (fun _ _ H' => (Runs.ld1 A H' rfl rfl)) A rfl hS ?_; clear A a hR; intro a A hR
    refine dstepG hR (i := 24) (dj := 61) rfl (by kernel_rfl) (fun _ _ _ h => h) rfl rfl (decide_eq_true rfl) (fun _ _ H' => (Runs.fa A rfl)) A rfl hS ?_; clear A a hR; intro a A hR
    refine dstepG hR (i := 25) (dj := 61) rfl (by kernel_rfl) (fun _ _ _ h => h) rfl rfl (decide_eq_true rfl) (fun _ _ H' => (Runs.ld1 A H' rfl rfl)) A rfl hS ?_; clear A a hR; intro a A hR
    refine dlist hR (i := 23) rfl (by kernel_rfl) ?_
    have hR := hR.next (i := 23) (by kernel_rfl)
    refine step_callFG (dj := 61) rfl rfl (decide_eq_true rfl) A rfl rfl (c_objects_Union hO7 hput (by decide) (by decide)) H ?_
    rintro v6_23 a w m hm ⟨adm, cm, rfl, hmg⟩ A H
    have hM := hM.trans hm
    have G := G.mono hm
    have hS1 := hS1.mono hm
    have hS2 := hS2.mono hm
    have hput := hput.mono hm
    have hS3 := hS3.mono hm
    have hO4 := hO4.mono hm
    have hdu := hdu.mono hm
    have hS5 := hS5.mono hm
    have hS6 := hS6.mono hm
    have hO7 := hO7.mono hm
    have hW8 := hW8.mono hm
    have hw := hw.mono hm
    rw [ex_merge] at hmg A
    have hL := hL.trans hm
    refine wpList_nil ?_
    clear hS; refine and_keep (H.sw hL) fun hS => ?_
    refine dlist hR (i := 26) rfl (by kernel_rfl) ?_
    have hR := hR.next (i := 26) (by kernel_rfl)
    refine step_callFG (dj := 61) rfl rfl (decide_eq_true rfl) A rfl rfl (c_wireloomref18_Same hmg hput) H ?_
    rintro v6_26 a w m hm rfl A H
    have hM := hM.trans hm
    have G := G.mono hm
    have hS1 := hS1.mono hm
    have hS2 := hS2.mono hm
    have hput := hput.mono hm
    have hS3 := hS3.mono hm
    have hO4 := hO4.mono hm
    have hdu := hdu.mono hm
    have hS5 := hS5.mono hm
    have hS6 := hS6.mono hm
    have hO7 := hO7.mono hm
    have hW8 := hW8.mono hm
    have hw := hw.mono hm
    have hmg := hmg.mono hm
    have hL := hL.trans hm
    refine wpList_nil ?_
    clear hS; refine and_keep (H.sw hL) fun hS => ?_
    refine dstep hR (i := 27) rfl (by kernel_rfl) (fun _ _ _ h => h) (fun _ _ H' => (Runs.pickT A rfl (decide_eq_true rfl) rfl)) A rfl hS ?_; clear A a hR; intro a A hR
    refine dstep hR (i := 28) rfl (by kernel_rfl) (fun _ _ _ h => h) (fun _ _ H' => (Runs.move A rfl)) A rfl hS ?_; clear A a hR; intro a A hR
    refine dstepG hR (i := 29) (dj := 70) rfl (by kernel_rfl) (fun _ _ _ h => h) rfl rfl (decide_eq_true rfl) (fun _ _ H' => (Runs.fa A rfl)) A rfl hS ?_; clear A a hR; intro a A hR
    refine dstepG hR (i := 30) (dj := 70) rfl (by kernel_rfl) (fun _ _ _ h => h) rfl rfl (decide_eq_true rfl) (fun _ _ H' => (Runs.ld1 A H' rfl rfl)) A rfl hS ?_; clear A a hR; intro a A hR
    refine dlist hR (i := 31) rfl (by kernel_rfl) ?_
    have hR := hR.next (i := 31) (by kernel_rfl)
    refine step_callFG (dj := 70) rfl rfl (decide_eq_true rfl) A rfl rfl (c_objects_Keep hput (by decide) (show Ws m none 0 0 [] from Slc.nil m 1 none 0 (by decide))) H ?_
    rintro v6_31 a w m hm ⟨adk, ck, rfl, hk⟩ A H
    have hM := hM.trans hm
    have G := G.mono hm
    have hS1 := hS1.mono hm
    have hS2 := hS2.mono hm
    have hput := hput.mono hm
    have hS3 := hS3.mono hm
    have hO4 := hO4.mono hm
    have hdu := hdu.mono hm
    have hS5 := hS5.mono hm
    have hS6 := hS6.mono hm
    have hO7 := hO7.mono hm
    have hW8 := hW8.mono hm
    have hw := hw.mono hm
    have hmg := hmg.mono hm
    rw [ex_keep] at hk A
    have hL := hL.trans hm
    refine wpList_nil ?_
    clear hS; refine and_keep (H.sw hL) fun hS => ?_
    refine dstepG hR (i := 32) (dj := 70) rfl (by kernel_rfl) (fun _ _ _ h => h) rfl rfl (decide_eq_true rfl) (fun _ _ H' => (Runs.lenL A rfl SlC.h)) A rfl hS ?_; clear A a hR; intro a A hR
    refine dstepG hR (i := 33) (dj := 70) rfl (by kernel_rfl) (fun _ _ _ h => h) rfl rfl (decide_eq_true rfl) (fun _ _ H' => (Runs.eql A rfl rfl)) A rfl hS ?_; clear A a hR; intro a A hR
    refine dstep hR (i := 34) rfl (by kernel_rfl) (fun _ _ _ h => h) (fun _ _ H' => (Runs.pickT A rfl (decide_eq_true rfl) rfl)) A rfl hS ?_; clear A a hR; intro a A hR
    refine dstep hR (i := 35) rfl (by kernel_rfl) (fun _ _ _ h => h) (fun _ _ H' => (Runs.move A rfl)) A rfl hS ?_; clear A a hR; intro a A hR
    refine dstepG hR (i := 36) (dj := 77) rfl (by kernel_rfl) (fun _ _ _ h => h) rfl rfl (decide_eq_true rfl) (fun _ _ H' => (Runs.move A rfl)) A rfl hS ?_; clear A a hR; intro a A hR
    refine dlist hR (i := 37) rfl (by kernel_rfl) ?_
    have hR := hR.next (i := 37) (by kernel_rfl)
    refine step_callFG (dj := 77) rfl rfl (decide_eq_true rfl) A rfl rfl (c_objects_Is hO7) H ?_
    rintro v6_37 a w m hm rfl A H
    have hM := hM.trans hm
    have G := G.mono hm
    have hS1 := hS1.mono hm
    have hS2 := hS2.mono hm
    have hput := hput.mono hm
    have hS3 := hS3.mono hm
    have hO4 := hO4.mono hm
    have hdu := hdu.mono hm
    have hS5 := hS5.mono hm
    have hS6 := hS6.mono hm
    have hO7 := hO7.mono hm
    have hW8 := hW8.mono hm
    have hw := hw.mono hm
    have hmg := hmg.mono hm
    have hL := hL.trans hm
    refine wpList_nil ?_
    clear hS; refine and_keep (H.sw hL) fun hS => ?_
    refine dstep hR (i := 38) rfl (by kernel_rfl) (fun _ _ _ h => h) (fun _ _ H' => (Runs.pickT A rfl (decide_eq_true rfl) rfl)) A rfl hS ?_; clear A a hR; intro a A hR
    refine dstep hR (i := 39) rfl (by kernel_rfl) (fun _ _ _ h => h) (fun _ _ H' => (Runs.move A rfl)) A rfl hS ?_; clear A a hR; intro a A hR
    refine dstepG hR (i := 40) (dj := 81) rfl (by kernel_rfl) (fun _ _ _ h => h) rfl rfl (by decide +kernel) (fun _ _ H' => (Runs.build A rfl rfl rfl)) A rfl hS ?_; clear A a hR; intro a A hR
    refine dstepG hR (i := 41) (dj := 81) rfl (by kernel_rfl) (fun _ _ _ h => h) rfl rfl (by decide +kernel) (fun _ _ H' => (Runs.build A rfl rfl rfl)) A rfl hS ?_; clear A a hR; intro a A hR
    refine dlist hR (i := 42) rfl (by kernel_rfl) ?_
    have hR := hR.next (i := 42) (by kernel_rfl)
    refine unguard (dj := 81) rfl rfl (by decide +kernel) A ?_
    refine step_slice A H rfl rfl rfl rfl rfl rfl ?_; intro b9 a w A H
    obtain ⟨m, hm, hSx, H⟩ := (H.row_pt (n := 2) (size := 2) rfl (by decide)).row_freeze
    have hM := hM.trans hm
    have G := G.mono hm
    have hS1 := hS1.mono hm
    have hS2 := hS2.mono hm
    have hput := hput.mono hm
    have hS3 := hS3.mono hm
    have hO4 := hO4.mono hm
    have hdu := hdu.mono hm
    have hS5 := hS5.mono hm
    have hS6 := hS6.mono hm
    have hO7 := hO7.mono hm
    have hW8 := hW8.mono hm
    have hw := hw.mono hm
    have hmg := hmg.mono hm
    have hO9 : Objs m (some ⟨b9, 0, none⟩) 2 2 [⟨1, []⟩, ⟨1, []⟩] := ⟨rfl, _, hSx, rfl, Dat.nil m, rfl, Dat.nil m, trivial⟩
    have hL := hL.trans hm
    refine wpList_nil ?_
    clear hS; refine and_keep (H.sw hL) fun hS => ?_
    refine dlist hR (i := 43) rfl (by kernel_rfl) ?_
    have hR := hR.next (i := 43) (by kernel_rfl)
    refine step_callFG (dj := 81) rfl rfl (by decide +kernel) A rfl rfl (c_objects_Is hO9) H ?_
    rintro v6_43 a w m hm rfl A H
    have hM := hM.trans hm
    have G := G.mono hm
    have hS1 := hS1.mono hm
    have hS2 := hS2.mono hm
    have hput := hput.mono hm
    have hS3 := hS3.mono hm
    have hO4 := hO4.mono hm
    have hdu := hdu.mono hm
    have hS5 := hS5.mono hm
    have hS6 := hS6.mono hm
    have hO7 := hO7.mono hm
    have hW8 := hW8.mono hm
    have hw := hw.mono hm
    have hmg := hmg.mono hm
    have hO9 := hO9.mono hm
    have hL := hL.trans hm
    refine wpList_nil ?_
    clear hS; refine and_keep (H.sw hL) fun hS => ?_
    refine dstepG hR (i := 44) (dj := 81) rfl (by kernel_rfl) (fun _ _ _ h => h) rfl rfl (by decide +kernel) (fun _ _ H' => (Runs.not A rfl)) A rfl hS ?_; clear A a hR; intro a A hR
    refine dstep hR (i := 45) rfl (by kernel_rfl) (fun _ _ _ h => h) (fun _ _ H' => (Runs.pickT A rfl (by decide +kernel) rfl)) A rfl hS ?_; clear A a hR; intro a A hR
    refine dstep hR (i := 46) rfl (by kernel_rfl) (fun _ _ _ h => h) (fun _ _ H' => (Runs.move A rfl)) A rfl hS ?_; clear A a hR; intro a A hR
    refine dstepG hR (i := 47) (dj := 88) rfl (by kernel_rfl) (fun _ _ _ h => h) rfl rfl (notF (by decide +kernel)) (fun _ _ H' => (Runs.fa A rfl)) A rfl hS ?_; clear A a hR; intro a A hR
    refine dstepG hR (i := 48) (dj := 88) rfl (by kernel_rfl) (fun _ _ _ h => h) rfl rfl (notF (by decide +kernel)) (fun _ _ H' => (Runs.ld1 A H' rfl rfl)) A rfl hS ?_; clear A a hR; intro a A hR
    refine dstepG hR (i := 49) (dj := 88) rfl (by kernel_rfl) (fun _ _ _ h => h) rfl rfl (notF (by decide +kernel)) (fun _ _ H' => (Runs.move A rfl)) A rfl hS ?_; clear A a hR; intro a A hR
    refine dlist hR (i := 50) rfl (by kernel_rfl) ?_
    have hR := hR.next (i := 50) (by kernel_rfl)
    refine step_callFG (dj := 88) rfl rfl (notF (by decide +kernel)) A rfl rfl (c_load_lex G hput (by decide) (srt_one _) ex_nl) H ?_
    rintro v6_50 a w m hm rfl A H
    have hM := hM.trans hm
    have G := G.mono hm
    have hS1 := hS1.mono hm
    have hS2 := hS2.mono hm
    have hput := hput.mono hm
    have hS3 := hS3.mono hm
    have hO4 := hO4.mono hm
    have hdu := hdu.mono hm
    have hS5 := hS5.mono hm
    have hS6 := hS6.mono hm
    have hO7 := hO7.mono hm
    have hW8 := hW8.mono hm
    have hw := hw.mono hm
    have hmg := hmg.mono hm
    have hO9 := hO9.mono hm
    have hL := hL.trans hm
    refine wpList_nil ?_
    clear hS; refine and_keep (H.sw hL) fun hS => ?_
    refine dstepG hR (i := 51) (dj := 88) rfl (by kernel_rfl) (fun _ _ _ h => h) rfl rfl (notF (by decide +kernel)) (fun _ _ H' => (Runs.field1 (ty := 40) A rfl FldC.h (by kernel_rfl) TyC.h rfl)) A rfl hS ?_; clear A a hR; intro a A hR
    refine dstepG hR (i := 52) (dj := 88) rfl (by kernel_rfl) (fun _ _ _ h => h) rfl rfl (notF (by decide +kernel)) (fun _ _ H' => (Runs.eql A rfl rfl)) A rfl hS ?_; clear A a hR; intro a A hR
    refine dstep hR (i := 53) rfl (by kernel_rfl) (fun _ _ _ h => h) (fun _ _ H' => (Runs.pickT A rfl (notF (by decide +kernel)) rfl)) A rfl hS ?_; clear A a hR; intro a A hR
    refine dstep hR (i := 54) rfl (by kernel_rfl) (fun _ _ _ h => h) (fun _ _ H' => (Runs.move A rfl)) A rfl hS ?_; clear A a hR; intro a A hR
    refine dstepG hR (i := 55) (dj := 96) rfl (by kernel_rfl) (fun _ _ _ h => h) rfl rfl (decide_eq_true rfl) (fun _ _ H' => (Runs.build A rfl rfl rfl)) A rfl hS ?_; clear A a hR; intro a A hR
    refine dlist hR (i := 56) rfl (by kernel_rfl) ?_
    have hR := hR.next (i := 56) (by kernel_rfl)
    refine unguard (dj := 96) rfl rfl (decide_eq_true rfl) A ?_
    refine step_slice A H rfl rfl rfl rfl rfl rfl ?_; intro bm a w A H
    obtain ⟨m, hm, hSm, H⟩ := (H.row_pt (n := 1) (size := 4) rfl (by decide)).row_freeze
    have hLm : Lst MoR 4 m (some ⟨bm, 0, none⟩) 1 [zMod] := ⟨_, hSm, LR.one ⟨none, 0, none, 0, rfl, Lst.nil (by decide), Lst.nil (by decide)⟩ rfl⟩
    have hM := hM.trans hm
    have G := G.mono hm
    have hS1 := hS1.mono hm
    have hS2 := hS2.mono hm
    have hput := hput.mono hm
    have hS3 := hS3.mono hm
    have hO4 := hO4.mono hm
    have hdu := hdu.mono hm
    have hS5 := hS5.mono hm
    have hS6 := hS6.mono hm
    have hO7 := hO7.mono hm
    have hW8 := hW8.mono hm
    have hw := hw.mono hm
    have hmg := hmg.mono hm
    have hO9 := hO9.mono hm
    have hL := hL.trans hm
    refine wpList_nil ?_
    clear hS; refine and_keep (H.sw hL) fun hS => ?_
    refine dstepG hR (i := 57) (dj := 96) rfl (by kernel_rfl) (fun _ _ _ h => h) rfl rfl (decide_eq_true rfl) (fun _ _ H' => (Runs.build A rfl rfl rfl)) A rfl hS ?_; clear A a hR; intro a A hR
    refine dlist hR (i := 58) rfl (by kernel_rfl) ?_
    have hR := hR.next (i := 58) (by kernel_rfl)
    refine step_callFG (dj := 96) rfl rfl (decide_eq_true rfl) A rfl rfl (c_wireloomlaw18_save (lf := [zMod]) (Objs.nil m) (by decide) srt_nil G hLm ex_sz) H ?_
    rintro v6_58 a w m hm ⟨adsv, csv, rfl, hsave⟩ A H
    have hM := hM.trans hm
    have G := G.mono hm
    have hS1 := hS1.mono hm
    have hS2 := hS2.mono hm
    have hput := hput.mono hm
    have hS3 := hS3.mono hm
    have hO4 := hO4.mono hm
    have hdu := hdu.mono hm
    have hS5 := hS5.mono hm
    have hS6 := hS6.mono hm
    have hO7 := hO7.mono hm
    have hW8 := hW8.mono hm
    have hw := hw.mono hm
    have hmg := hmg.mono hm
    have hO9 := hO9.mono hm
    have hLm := hLm.mono hm
    rw [ex_save] at hsave A
    have hL := hL.trans hm
    refine wpList_nil ?_
    clear hS; refine and_keep (H.sw hL) fun hS => ?_
    refine dstepG hR (i := 59) (dj := 96) rfl (by kernel_rfl) (fun _ _ _ h => h) rfl rfl (decide_eq_true rfl) (fun _ _ H' => (Runs.field1 (ty := 40) A rfl FldC.h (by kernel_rfl) TyC.h rfl)) A rfl hS ?_; clear A a hR; intro a A hR
    refine dstepG hR (i := 60) (dj := 96) rfl (by kernel_rfl) (fun _ _ _ h => h) rfl rfl (decide_eq_true rfl) (fun _ _ H' => (Runs.eql A rfl rfl)) A rfl hS ?_; clear A a hR; intro a A hR
    refine dstep hR (i := 61) rfl (by kernel_rfl) (fun _ _ _ h => h) (fun _ _ H' => (Runs.pickT A rfl (decide_eq_true rfl) rfl)) A rfl hS ?_; clear A a hR; intro a A hR
    refine dstep hR (i := 62) rfl (by kernel_rfl) (fun _ _ _ h => h) (fun _ _ H' => (Runs.assign A rfl)) A rfl hS ?_; clear A a hR; intro a A hR
    refine draw_done hR (by kernel_rfl) ?_
    clear hS hL hR
    refine wp_ret ?_
    exact retF A rfl rfl hM H rfl
end Sl
end Go.Proofs.YtanhehbfbakdcaaGreatDoor
/- The laws of stores, in plain Lean: lists of objects in order of their Ids. Own work; no program stands here. -/
set_option linter.unusedVariables false
set_option linter.unusedSimpArgs false
namespace Go.Proofs.YtanhehbfbakdcaaGreatDoor
namespace Sl
open Go
theorem srt_cons {x : Obj} {l : List Obj} : Srt (x :: l) ↔ (∀ y ∈ l, x.id < y.id) ∧ Srt l := List.pairwise_cons
/-- what a store has under an Id -/
def lkp : List Obj → UInt64 → Option (List UInt8)
  | [], _ => none
  | o :: l, id => if o.id = id then some o.data else lkp l id
theorem lkp_none {l : List Obj} {id : UInt64} (h : ∀ y ∈ l, y.id ≠ id) : lkp l id = none := by
  induction l with
  | nil => rfl
  | cons x l ih => rw [lkp, if_neg (h x (by simp)), ih fun y hy => h y (by simp [hy])]
theorem lkp_above {l : List Obj} {id : UInt64} (h : ∀ y ∈ l, id < y.id) : lkp l id = none := lkp_none fun y hy e => by
  have := h y hy; rw [e] at this; exact UInt64.lt_irrefl _ this
theorem mem_lkp {l : List Obj} (hs : Srt l) {o : Obj} (h : o ∈ l) : lkp l o.id = some o.data := by
  induction l with
  | nil => cases h
  | cons x l ih =>
    rcases List.mem_cons.1 h with rfl | h
    · rw [lkp, if_pos rfl]
    · have h1 := (srt_cons.1 hs).1 o h
      rw [lkp, if_neg (fun e => by rw [e] at h1; exact UInt64.lt_irrefl _ h1), ih (srt_cons.1 hs).2 h]
theorem lkp_isSome {l : List Obj} {id : UInt64} : (lkp l id).isSome = true ↔ id ∈ l.map (·.id) := by
  induction l with
  | nil => simp [lkp]
  | cons x l ih =>
    rw [lkp]
    split
    · rename_i e; simp [e]
    · rename_i e; rw [ih]; simp; exact fun h => absurd h.symm e
theorem srt_ext : ∀ {l l' : List Obj}, Srt l → Srt l' → (∀ id, lkp l id = lkp l' id) → l = l'
  | [], [], _, _, _ => rfl
  | [], y :: l', _, _, h => by have := h y.id; simp [lkp] at this
  | x :: l, [], _, _, h => by have := h x.id; simp [lkp] at this
  | x :: l, y :: l', hs, hs', h => by
    obtain ⟨a1, a2⟩ := srt_cons.1 hs
    obtain ⟨b1, b2⟩ := srt_cons.1 hs'
    have hid : x.id = y.id := by
      rcases Decidable.em (x.id = y.id) with e | ne
      · exact e
      · exfalso
        rcases UInt64.lt_or_lt_of_ne ne with hlt | hlt
        · have := h x.id
          rw [lkp, if_pos rfl, lkp, if_neg (Ne.symm ne), lkp_above fun z hz => UInt64.lt_trans hlt (b1 z hz)] at this
          cases this
        · have := h y.id
          rw [lkp, if_neg ne, lkp_above fun z hz => UInt64.lt_trans hlt (a1 z hz), lkp, if_pos rfl] at this
          cases this
    have hd : x.data = y.data := by
      have := h x.id
      rw [lkp, if_pos rfl, lkp, if_pos hid.symm] at this
      exact Option.some.inj this
    have hxy : x = y := by cases x; cases y; simp_all
    subst hxy
    rw [srt_ext a2 b2 fun id => ?_]
    have := h id
    rw [lkp, lkp] at this
    by_cases e : x.id = id
    · rw [← e, lkp_above a1, lkp_above b1]
    · rwa [if_neg e, if_neg e] at this

/-! ### Laying an object in its place -/
def insF (o : Obj) : List Obj → List Obj
  | [] => [o]
  | x :: l => if x.id < o.id then x :: insF o l else if x.id = o.id then o :: l else o :: x :: l
theorem insF_mem {o y : Obj} : ∀ {l : List Obj}, y ∈ insF o l → y = o ∨ y ∈ l
  | [], h => by simp [insF] at h; exact .inl h
  | x :: l, h => by
    rw [insF] at h
    split at h
    · rcases List.mem_cons.1 h with rfl | h
      · simp
      · rcases insF_mem h with e | e
        · exact .inl e
        · simp [e]
    · split at h
      · rcases List.mem_cons.1 h with rfl | h
        · simp
        · simp [h]
      · rcases List.mem_cons.1 h with rfl | h
        · simp
        · exact .inr h
theorem insF_srt {o : Obj} : ∀ {l : List Obj}, Srt l → Srt (insF o l)
  | [], _ => List.pairwise_singleton _ _
  | x :: l, h => by
    obtain ⟨h1, h2⟩ := srt_cons.1 h
    rw [insF]
    split
    · rename_i hlt
      refine srt_cons.2 ⟨fun y hy => ?_, insF_srt h2⟩
      rcases insF_mem hy with rfl | hy
      · exact hlt
      · exact h1 y hy
    · split
      · rename_i he
        exact srt_cons.2 ⟨fun y hy => by rw [← he]; exact h1 y hy, h2⟩
      · rename_i hlt he
        have hox : o.id < x.id := by
          rcases UInt64.lt_or_lt_of_ne he with h | h
          · exact absurd h hlt
          · exact h
        refine srt_cons.2 ⟨fun y hy => ?_, h⟩
        rcases List.mem_cons.1 hy with rfl | hy
        · exact hox
        · exact UInt64.lt_trans hox (h1 y hy)
theorem insF_lkp {o : Obj} {id : UInt64} : ∀ {l : List Obj}, Srt l → lkp (insF o l) id = if id = o.id then some o.data else lkp l id
  | [], _ => by
    show (if o.id = id then some o.data else none) = (if id = o.id then some o.data else none)
    by_cases e : id = o.id
    · rw [if_pos e.symm, if_pos e]
    · rw [if_neg (Ne.symm e), if_neg e]
  | x :: l, h => by
    obtain ⟨h1, h2⟩ := srt_cons.1 h
    rw [insF]
    split
    · rename_i hlt
      rw [lkp, insF_lkp h2, lkp]
      by_cases e : x.id = id
      · have : ¬ id = o.id := fun e2 => by rw [e, e2] at hlt; exact UInt64.lt_irrefl _ hlt
        rw [if_pos e, if_neg this, if_pos e]
      · rw [if_neg e, if_neg e]
    · split
      · rename_i he
        rw [lkp, lkp]
        by_cases e : id = o.id
        · rw [if_pos e.symm, if_pos e]
        · rw [if_neg (Ne.symm e), if_neg e, if_neg (fun e2 => e (by rw [← e2, he]))]
      · rw [lkp]
        by_cases e : id = o.id
        · rw [if_pos e.symm, if_pos e]
        · rw [if_neg (Ne.symm e), if_neg e]
theorem lbP_cons {x : Obj} {l : List Obj} {id : UInt64} : lbP (x :: l) id = if x.id < id then lbP l id + 1 else 0 := by
  unfold lbP
  by_cases h : x.id < id <;> simp [List.takeWhile_cons, h]
theorem atP_cons {x : Obj} {l : List Obj} {id : UInt64} : atP (x :: l) id = if x.id < id then atP l id else decide (x.id = id) := by
  unfold atP
  rw [lbP_cons]
  by_cases h : x.id < id <;> simp [h]
theorem withP_ins {o : Obj} : ∀ {l : List Obj}, withP l o = insF o l
  | [] => by simp [withP, insF, lbP, atP]
  | x :: l => by
    have ih := withP_ins (o := o) (l := l)
    unfold withP at ih ⊢
    rw [lbP_cons, atP_cons, insF]
    by_cases h : x.id < o.id
    · simp only [h, if_true]
      rw [List.take_succ_cons, show lbP l o.id + 1 + (if atP l o.id = true then 1 else 0) = (lbP l o.id + (if atP l o.id = true then 1 else 0)) + 1 by omega, List.drop_succ_cons, List.cons_append, List.cons_append, ih]
    · simp only [h, if_false]
      by_cases e : x.id = o.id <;> simp [e]
theorem atP_at {l : List Obj} (hs : Srt l) {id : UInt64} : (if atP l id then l[lbP l id]? else none) = (lkp l id).map fun d => ⟨id, d⟩ := by
  induction l with
  | nil => simp [atP, lbP, lkp]
  | cons x l ih =>
    obtain ⟨h1, h2⟩ := srt_cons.1 hs
    rw [lbP_cons, atP_cons, lkp]
    by_cases h : x.id < id
    · have hne : ¬ x.id = id := fun e => by rw [e] at h; exact UInt64.lt_irrefl _ h
      simp only [h, if_true, hne, if_false, List.getElem?_cons_succ]
      exact ih h2
    · simp only [h, if_false]
      by_cases e : x.id = id
      · simp only [e, decide_true, if_true, List.getElem?_cons_zero, Option.map_some]
        cases x; simp_all
      · have hlt : id < x.id := by
          rcases UInt64.lt_or_lt_of_ne e with k | k
          · exact absurd k h
          · exact k
        simp only [e, decide_false, if_false, Bool.false_eq_true]
        rw [lkp_above fun y hy => UInt64.lt_trans hlt (h1 y hy)]; rfl
/-- whether data are those of a digest -/
def soundB (id : UInt64) (d : List UInt8) : Bool := decide (id = dig d)
theorem soundB_self (d : List UInt8) : soundB (dig d) d = true := decide_eq_true rfl
theorem sndP_mk {i : UInt64} {d : List UInt8} : sndP ⟨i, d⟩ = soundB i d := rfl
theorem getP_lkp {l : List Obj} (hs : Srt l) {id : UInt64} : getP l id = (lkp l id).bind fun d => if soundB id d then some d else none := by
  have h := atP_at hs (id := id)
  unfold getP
  by_cases ha : atP l id = true
  · rw [if_pos ha] at h ⊢
    rw [h]
    cases lkp l id with
    | none => rfl
    | some d => rw [Option.map_some, Option.bind_some, Option.bind_some, sndP_mk]
  · rw [if_neg ha] at h ⊢
    cases hq : lkp l id with
    | none => rfl
    | some d => rw [hq] at h; cases h
/-- whether there is a sound object under an Id -/
def okAt (l : List Obj) (id : UInt64) : Bool := (lkp l id).any (soundB id)
theorem okAt_some {l : List Obj} {id : UInt64} {d : List UInt8} (h : lkp l id = some d) : okAt l id = soundB id d := by rw [okAt, h, Option.any_some]
theorem okAt_none {l : List Obj} {id : UInt64} (h : lkp l id = none) : okAt l id = false := by rw [okAt, h, Option.any_none]
theorem putP_ins {l : List Obj} (hs : Srt l) {d : List UInt8} : putP l d = if okAt l (dig d) then l else insF ⟨dig d, d⟩ l := by
  have h := atP_at hs (id := dig d)
  rw [← withP_ins]
  unfold putP withP
  by_cases ha : atP l (dig d) = true
  · rw [if_pos ha] at h ⊢
    rw [if_pos ha]
    cases hq : lkp l (dig d) with
    | none =>
      rw [hq] at h
      unfold atP at ha
      rw [h] at ha; cases ha
    | some e =>
      rw [hq] at h
      rw [h, okAt_some hq, Option.map_some, Option.any_some, sndP_mk]
      have hlt := (List.getElem?_eq_some_iff.1 h).1
      cases soundB (dig d) e with
      | true => rfl
      | false =>
        rw [if_neg Bool.false_ne_true, if_neg Bool.false_ne_true, List.set_eq_take_append_cons_drop, if_pos hlt, List.append_assoc]
        rfl
  · rw [if_neg ha] at h ⊢
    rw [if_neg ha]
    cases hq : lkp l (dig d) with
    | none => rw [okAt_none hq, if_neg Bool.false_ne_true, Nat.add_zero]
    | some e => rw [hq] at h; cases h
theorem putP_srt {l : List Obj} (hs : Srt l) {d : List UInt8} : Srt (putP l d) := by
  rw [putP_ins hs]; split
  · exact hs
  · exact insF_srt hs
theorem putP_lkp {l : List Obj} (hs : Srt l) {d : List UInt8} {id : UInt64} : lkp (putP l d) id = if id = dig d ∧ okAt l (dig d) = false then some d else lkp l id := by
  rw [putP_ins hs]
  cases h : okAt l (dig d) with
  | true => rw [if_pos rfl, if_neg (fun e => by cases e.2)]
  | false =>
    rw [if_neg Bool.false_ne_true, insF_lkp hs]
    by_cases e : id = dig d
    · rw [if_pos e, if_pos ⟨e, rfl⟩]
    · rw [if_neg e, if_neg (fun k => e k.1)]
theorem okAt_put {l : List Obj} (hs : Srt l) {d : List UInt8} {id : UInt64} : okAt (putP l d) id = (decide (id = dig d) || okAt l id) := by
  by_cases e : id = dig d
  · rw [decide_eq_true e, Bool.true_or]
    cases h : okAt l (dig d) with
    | true =>
      have : lkp (putP l d) id = lkp l id := by rw [putP_lkp hs, if_neg (fun k => by rw [h] at k; cases k.2)]
      rw [okAt, this, e]; exact h
    | false =>
      have : lkp (putP l d) id = some d := by rw [putP_lkp hs, if_pos ⟨e, h⟩]
      rw [okAt_some this, e]; exact soundB_self d
  · have : lkp (putP l d) id = lkp l id := by rw [putP_lkp hs, if_neg (fun k => e k.1)]
    rw [okAt, this, decide_eq_false e, Bool.false_or]; rfl
theorem getP_ok {l : List Obj} (hs : Srt l) {id : UInt64} : (getP l id).isSome = okAt l id := by
  rw [getP_lkp hs, okAt]
  cases lkp l id with
  | none => rfl
  | some d => rw [Option.bind_some, Option.any_some]; cases soundB id d <;> rfl
theorem findP_lkp {l : List Obj} {id : UInt64} : 0 ≤ findP l id ↔ (lkp l id).isSome = true := by
  rw [lkp_isSome]
  unfold findP
  split
  · rename_i i h
    obtain ⟨h1, h2, _⟩ := List.findIdx?_eq_some_iff_getElem.1 h
    exact ⟨fun _ => List.mem_map.2 ⟨_, List.getElem_mem h1, by simpa using h2⟩, fun _ => by omega⟩
  · rename_i h
    refine ⟨fun h => absurd h (by omega), fun hm => ?_⟩
    obtain ⟨o, ho, e⟩ := List.mem_map.1 hm
    have := List.findIdx?_eq_none_iff.1 h o ho
    simp [e] at this
theorem findP_at {l : List Obj} (hs : Srt l) {id : UInt64} (h : 0 ≤ findP l id) : l[(findP l id).toNat]? = (lkp l id).map fun d => ⟨id, d⟩ := by
  unfold findP at h ⊢
  split at h
  · rename_i i hi
    obtain ⟨h1, h2, _⟩ := List.findIdx?_eq_some_iff_getElem.1 hi
    have h2' : l[i].id = id := by simpa using h2
    have := mem_lkp hs (List.getElem_mem h1)
    rw [h2'] at this
    rw [this]
    simp only [Int.toNat_natCast, List.getElem?_eq_getElem h1, Option.map_some, Option.some.injEq]
    rw [← h2']
  · omega
theorem putR_put {l : List Obj} (hs : Srt l) {d : List UInt8} : putR l d = putP l d := by
  rw [putP_ins hs]
  unfold putR
  rw [withP_ins]
  by_cases h : 0 ≤ findP l (dig d)
  · have hat := findP_at hs h
    cases hq : lkp l (dig d) with
    | none => exact absurd (findP_lkp.1 h) (by rw [hq]; exact Bool.false_ne_true)
    | some e =>
      rw [hq, Option.map_some] at hat
      rw [okAt_some hq, hat, Option.any_some, sndP_mk]
      cases soundB (dig d) e with
      | true => rw [if_pos ⟨h, rfl⟩, if_pos rfl]
      | false => rw [if_neg (fun k => by cases k.2), if_neg Bool.false_ne_true]
  · have : lkp l (dig d) = none := by
      cases hq : lkp l (dig d) with
      | none => rfl
      | some e => exact absurd (findP_lkp.2 (by rw [hq]; rfl)) h
    rw [okAt_none this, if_neg (fun k => h k.1), if_neg Bool.false_ne_true]
theorem st1P_srt (ls : List (List UInt8)) : Srt (st1P ls) := by
  unfold st1P
  suffices h : ∀ (ls : List (List UInt8)) (s : List Obj), Srt s → Srt (ls.foldl (fun s d => putR s (d.take 40)) s) from h ls [] List.Pairwise.nil
  intro ls
  induction ls with
  | nil => exact fun s h => h
  | cons d ls ih => exact fun s h => ih _ (by show Srt (putR s (d.take 40)); rw [putR_put h]; exact putP_srt h)
theorem set_ids {l : List Obj} {i : Nat} {o : Obj} {d : List UInt8} (h : l[i]? = some o) : (l.set i ⟨o.id, d⟩).map (·.id) = l.map (·.id) := by
  rw [List.map_set]
  refine List.ext_getElem? fun k => ?_
  rw [List.getElem?_set]
  split
  · rename_i e; subst e
    simp only [List.getElem?_map, h, Option.map_some, List.length_map]
    split
    · rfl
    · rename_i hh; exact absurd (List.getElem?_eq_some_iff.1 h).1 hh
  · rfl
theorem srt_ids {l : List Obj} : Srt l ↔ (l.map (·.id)).Pairwise (· < ·) := by unfold Srt; rw [List.pairwise_map]
theorem dmg1P_srt {s : List Obj} {t : UInt8 × UInt8 × UInt8} (h : Srt s) : Srt (dmg1P s t) := by
  unfold dmg1P
  split
  · rename_i o ho; rw [srt_ids, set_ids ho]; exact srt_ids.1 h
  · exact h
theorem storeP_srt (ls : List (List UInt8)) (ts : List (UInt8 × UInt8 × UInt8)) : Srt (storeP ls ts) := by
  unfold storeP
  suffices h : ∀ (ts : List (UInt8 × UInt8 × UInt8)) (s : List Obj), Srt s → Srt (ts.foldl dmg1P s) from h _ _ (st1P_srt _)
  intro ts
  induction ts with
  | nil => exact fun s h => h
  | cons t ts ih => exact fun s h => ih _ (dmg1P_srt h)
theorem dmg1P_len (s : List Obj) (t : UInt8 × UInt8 × UInt8) : (dmg1P s t).length = s.length := by unfold dmg1P; split <;> simp
theorem storeP_len (ls : List (List UInt8)) (ts : List (UInt8 × UInt8 × UInt8)) : (storeP ls ts).length ≤ 8 := by
  have h1 : ∀ (ls : List (List UInt8)) (s : List Obj), (ls.foldl (fun s d => putR s (d.take 40)) s).length ≤ s.length + ls.length := by
    intro ls
    induction ls with
    | nil => simp
    | cons d ls ih => intro s; have := ih (putR s (d.take 40)); have := putR_len s (d.take 40); simp only [List.foldl_cons, List.length_cons]; omega
  have h2 : ∀ (ts : List (UInt8 × UInt8 × UInt8)) (s : List Obj), (ts.foldl dmg1P s).length = s.length := by
    intro ts
    induction ts with
    | nil => simp
    | cons t ts ih => intro s; rw [List.foldl_cons, ih, dmg1P_len]
  unfold storeP
  rw [h2]
  have := h1 (ls.take 8) []
  unfold st1P
  simp only [List.length_nil, List.length_take] at this
  omega
theorem putP_len (l : List Obj) (d : List UInt8) : (putP l d).length ≤ l.length + 1 := by
  have := lbP_le l (dig d)
  unfold putP; split
  · split <;> simp
  · simp only [List.length_append, List.length_take, List.length_drop, List.length_cons, List.length_nil]; omega

/-! ### ObjectsAddresses -/
end Sl
end Go.Proofs.YtanhehbfbakdcaaGreatDoor
/- ObjectsAddresses: walk, printed by my gen.py out of annotations. -/
set_option linter.unusedSimpArgs false
set_option linter.unusedVariables false
namespace Go.Proofs.YtanhehbfbakdcaaGreatDoor
namespace Sl
open Go

/-- the error and the data that a read gives -/
def gerr (l : List Obj) (id : UInt64) : Int := if (getP l id).isSome then 0 else 180
def gdat (l : List Obj) (id : UInt64) : List UInt8 := (getP l id).getD []
theorem c_law18_get {ad : Option Addr} {n c : Nat} {l : List Obj} {id : UInt64} {m : Mem} (hl : Objs m ad n c l) (hb : n ≤ 1100000) (hs : Srt l) : Spec Tryz.prog 32 #[.slice ad n c, u64 id] m [] (RetF fun m' v => ∃ u, v = .agg #[u, .int .i64 (gerr l id)] ∧ Dat m' u (gdat l id)) :=
  (c_wireloomlaw18_get hl hb hs).mono fun m' e L' _ h => by
    cases e with
    | returned v =>
      obtain ⟨h1, h2⟩ := h
      refine ⟨h1, ?_⟩
      unfold gerr gdat
      cases hg : getP l id with
      | none => simp only [hg] at h2; subst h2; exact ⟨_, rfl, Dat.nil m'⟩
      | some d => simp only [hg] at h2; exact h2
    | panicked _ => exact h
    | outgrown => exact h
theorem gerr_zero {l : List Obj} {id : UInt64} (h : (getP l id).isSome = true) : gerr l id = 0 := by rw [gerr, if_pos h]

end Sl
end Go.Proofs.YtanhehbfbakdcaaGreatDoor
/- More laws of stores, in plain Lean: damage, unions, what is kept. Own work; no program stands here. -/
set_option linter.unusedVariables false
set_option linter.unusedSimpArgs false
namespace Go.Proofs.YtanhehbfbakdcaaGreatDoor
namespace Sl
open Go
/-! ### Digests tell lists apart that differ at one place -/
theorem shx_inj {a b : UInt64} (h : a ^^^ (a >>> UInt64.ofNat 32) = b ^^^ (b >>> UInt64.ofNat 32)) : a = b := by
  have key : ∀ x : UInt64, (x ^^^ (x >>> UInt64.ofNat 32)) ^^^ ((x ^^^ (x >>> UInt64.ofNat 32)) >>> UInt64.ofNat 32) = x := by
    intro x
    rw [← UInt64.toBitVec_inj]
    apply BitVec.eq_of_getLsbD_eq
    intro i hi
    have e32 : ((UInt64.ofNat 32).toBitVec % 64) = 32#64 := by decide
    simp only [UInt64.toBitVec_xor, UInt64.toBitVec_shiftRight, BitVec.getLsbD_xor, e32, BitVec.ushiftRight_eq', BitVec.getLsbD_ushiftRight]
    have e : (32#64).toNat = 32 := rfl
    rw [e]
    have hz : x.toBitVec.getLsbD (32 + (32 + i)) = false := BitVec.getLsbD_of_ge _ _ (by omega)
    rw [hz]
    cases x.toBitVec.getLsbD i <;> cases x.toBitVec.getLsbD (32 + i) <;> rfl
  rw [← key a, ← key b, h]
theorem mulA_inj {a b : UInt64} (h : a * 15485907386658061715 = b * 15485907386658061715) : a = b := by
  have e : ∀ x : UInt64, x * 15485907386658061715 * 14982988110149298331 = x := fun x => by
    rw [UInt64.mul_assoc, show (15485907386658061715 : UInt64) * 14982988110149298331 = 1 by decide, UInt64.mul_one]
  rw [← e a, ← e b, h]
theorem mulB_inj {a b : UInt64} (h : a * 11562461410679940143 = b * 11562461410679940143) : a = b := by
  have e : ∀ x : UInt64, x * 11562461410679940143 * 10636502746458383055 = x := fun x => by
    rw [UInt64.mul_assoc, show (11562461410679940143 : UInt64) * 10636502746458383055 = 1 by decide, UInt64.mul_one]
  rw [← e a, ← e b, h]
theorem stp_inj {a b v w : UInt64} (h : stp a v = stp b w) : a ^^^ v = b ^^^ w := by
  unfold stp stp1 at h
  exact mulA_inj (shx_inj (mulB_inj h))
theorem xor_left {a v w : UInt64} (h : a ^^^ v = a ^^^ w) : v = w := by
  have := congrArg (a ^^^ ·) h
  simpa [← UInt64.xor_assoc] using this
theorem stp_injL {a b w : UInt64} (h : stp a w = stp b w) : a = b := by
  have := stp_inj h
  rw [UInt64.xor_comm a, UInt64.xor_comm b] at this
  exact xor_left this
theorem stp_injR {a v w : UInt64} (h : stp a v = stp a w) : v = w := xor_left (stp_inj h)
theorem fold_inj : ∀ {ws : List UInt64} {a b : UInt64}, ws.foldl stp a = ws.foldl stp b → a = b
  | [], _, _, h => h
  | _ :: ws, _, _, h => stp_injL (fold_inj (ws := ws) h)
theorem wrdN_toNat (l : List UInt8) : ∀ k, k ≤ 8 → (wrdN l k).toNat < 2 ^ (8 * k) ∧ ∀ j, j < k → (wrdN l k).toNat / 2 ^ (8 * j) % 256 = (l.getD j 0).toNat
  | 0, _ => ⟨by show (0 : UInt64).toNat < 1; decide, fun j h => absurd h (by omega)⟩
  | k + 1, hk => by
    obtain ⟨h1, h2⟩ := wrdN_toNat l k (by omega)
    have hb := UInt8.toNat_lt (l.getD k 0)
    have hp : 2 ^ (8 * k) * 256 ≤ 2 ^ 64 := by
      rw [show (256 : Nat) = 2 ^ 8 by rfl, ← Nat.pow_add]
      exact Nat.pow_le_pow_right (by omega) (by omega)
    have hlt : (l.getD k 0).toNat * 2 ^ (8 * k) < 2 ^ 64 := Nat.lt_of_lt_of_le (by rw [Nat.mul_comm]; exact Nat.mul_lt_mul_of_pos_left hb (Nat.two_pow_pos _)) hp
    have e : (wrdN l (k + 1)).toNat = (l.getD k 0).toNat * 2 ^ (8 * k) + (wrdN l k).toNat := by
      rw [wrdN, UInt64.toNat_or, UInt64.toNat_shiftLeft, UInt64.toNat_ofNat', UInt64.toNat_ofNat', Nat.mod_eq_of_lt (show (l.getD k 0).toNat < 2 ^ 64 by omega), Nat.mod_eq_of_lt (show 8 * k < 2 ^ 64 by omega), Nat.mod_eq_of_lt (show 8 * k < 64 by omega), Nat.shiftLeft_eq, Nat.mod_eq_of_lt hlt, Nat.or_comm, Nat.mul_comm]
      exact (Nat.two_pow_add_eq_or_of_lt h1 _).symm
    refine ⟨?_, fun j hj => ?_⟩
    · rw [e, show 8 * (k + 1) = 8 * k + 8 by omega, Nat.pow_add]
      have : (l.getD k 0).toNat * 2 ^ (8 * k) ≤ 255 * 2 ^ (8 * k) := Nat.mul_le_mul_right _ (by omega)
      omega
    · rw [e]
      rcases Nat.lt_or_ge j k with hjk | hjk
      · rw [← h2 j hjk]
        have : 2 ^ (8 * k) = 2 ^ (8 * j) * (256 * 2 ^ (8 * (k - j - 1))) := by
          rw [show (256 : Nat) = 2 ^ 8 by rfl, ← Nat.pow_add, ← Nat.pow_add]; congr 1; omega
        rw [this, Nat.mul_left_comm, Nat.add_comm, Nat.add_mul_div_left _ _ (Nat.two_pow_pos _), Nat.mul_left_comm, Nat.add_mul_mod_self_left]
      · obtain rfl : j = k := by omega
        rw [Nat.add_comm, Nat.add_mul_div_right _ _ (Nat.two_pow_pos _), Nat.div_eq_of_lt h1, Nat.zero_add, Nat.mod_eq_of_lt hb]
theorem wrdN_inj {l l' : List UInt8} {k j : Nat} (hk : k ≤ 8) (hj : j < k) (h : wrdN l k = wrdN l' k) : l.getD j 0 = l'.getD j 0 := by
  rw [← UInt8.toNat_inj, ← (wrdN_toNat l k hk).2 j hj, ← (wrdN_toNat l' k hk).2 j hj, h]
theorem grp_set_ne : ∀ (f : Nat) {l : List UInt8} {i : Nat} {x : UInt8} (a : UInt64), l.length ≤ f → i < l.length → l.getD i 0 ≠ x → (grp l).foldl stp a ≠ (grp (l.set i x)).foldl stp a
  | 0, l, i, x, a, hf, hi, _ => by omega
  | f + 1, l, i, x, a, hf, hi, hx => by
    intro he
    rw [grp_cons (by omega), grp_cons (l := l.set i x) (by rw [List.length_set]; omega), List.foldl_cons, List.foldl_cons, List.length_set] at he
    rcases Nat.lt_or_ge i 8 with h8 | h8
    · have hd : (l.set i x).drop 8 = l.drop 8 := by rw [List.drop_set_of_lt h8]
      rw [hd] at he
      have := wrdN_inj (l := l) (l' := l.set i x) (j := i) (Nat.min_le_left _ _) (by omega) (stp_injR (fold_inj he))
      rw [List.getD_eq_getElem?_getD (l := l.set i x), List.getElem?_set_self hi] at this
      exact hx this
    · have hw : wrdN (l.set i x) (min 8 l.length) = wrdN l (min 8 l.length) := by
        have : ∀ k, k ≤ 8 → wrdN (l.set i x) k = wrdN l k := by
          intro k
          induction k with
          | zero => exact fun _ => rfl
          | succ k ih =>
            intro hk
            rw [wrdN, wrdN, ih (by omega), List.getD_eq_getElem?_getD, List.getElem?_set_ne (by omega), ← List.getD_eq_getElem?_getD]
        exact this _ (Nat.min_le_left _ _)
      have hd : (l.set i x).drop 8 = (l.drop 8).set (i - 8) x := by rw [List.drop_set, if_neg (by omega)]
      rw [hw, hd] at he
      refine grp_set_ne f (l := l.drop 8) (i := i - 8) (x := x) _ (by rw [List.length_drop]; omega) (by rw [List.length_drop]; omega) ?_ he
      rw [List.getD_eq_getElem?_getD, List.getElem?_drop, show 8 + (i - 8) = i by omega, ← List.getD_eq_getElem?_getD]
      exact hx
theorem dig_set_ne {l : List UInt8} {i : Nat} {x : UInt8} (hi : i < l.length) (hx : l.getD i 0 ≠ x) : dig (l.set i x) ≠ dig l := by
  intro h
  unfold dig at h
  rw [List.length_set] at h
  exact grp_set_ne l.length dig0 (Nat.le_refl _) hi hx (stp_injL h).symm
theorem flip_ne (x : UInt8) (k : Nat) (hk : k < 8) : x ≠ x ^^^ (1 <<< UInt8.ofNat k) := by
  intro h
  have h0 : (1 : UInt8) <<< UInt8.ofNat k = 0 := by
    have := congrArg (x ^^^ ·) h
    simpa [← UInt8.xor_assoc] using this.symm
  have : ∀ k : Fin 8, ¬ (1 : UInt8) <<< UInt8.ofNat k.val = 0 := by decide
  exact this ⟨k, hk⟩ h0
theorem brk_ne {d : List UInt8} {k0 k1 : UInt8} (h : 0 < d.length) : dig (brkP d k0 k1) ≠ dig d := by
  unfold brkP
  rw [if_neg (by omega)]
  exact dig_set_ne (Nat.mod_lt _ h) (flip_ne _ _ (Nat.mod_lt _ (by decide)))

/-! ### Unions -/
/-- which of two data under one Id is taken -/
def pkD (id : UInt64) (x y : List UInt8) : List UInt8 := if (!soundB id x && soundB id y) = true then y else x
def pkO (id : UInt64) : Option (List UInt8) → Option (List UInt8) → Option (List UInt8)
  | none, r => r
  | some x, none => some x
  | some x, some y => some (pkD id x y)
theorem pkP_id {x y : Obj} (h : x.id = y.id) : (pkP x y).id = x.id := by unfold pkP; split <;> simp [h]
theorem pkP_data {x y : Obj} (h : x.id = y.id) : (pkP x y).data = pkD x.id x.data y.data := by
  have e1 : sndP x = soundB x.id x.data := rfl
  have e2 : sndP y = soundB x.id y.data := by rw [h]; rfl
  unfold pkP pkD; rw [e1, e2]; split <;> rfl
theorem id_eq {a b : UInt64} (h1 : ¬ a < b) (h2 : ¬ b < a) : a = b := UInt64.le_antisymm (UInt64.not_lt.1 h2) (UInt64.not_lt.1 h1)
theorem mergeP_mem {z : Obj} : ∀ {a b : List Obj}, z ∈ mergeP a b → (∃ x ∈ a, z.id = x.id) ∨ ∃ y ∈ b, z.id = y.id
  | [], b, h => by rw [mergeP_nil'] at h; exact .inr ⟨z, h, rfl⟩
  | x :: a, [], h => by rw [mergeP_nil] at h; exact .inl ⟨z, h, rfl⟩
  | x :: a, y :: b, h => by
    rw [mergeP] at h
    split at h
    · rcases List.mem_cons.1 h with rfl | h
      · exact .inl ⟨z, by simp, rfl⟩
      · rcases mergeP_mem h with ⟨w, h1, h2⟩ | ⟨w, h1, h2⟩
        · exact .inl ⟨w, by simp [h1], h2⟩
        · exact .inr ⟨w, h1, h2⟩
    · split at h
      · rcases List.mem_cons.1 h with rfl | h
        · exact .inr ⟨z, by simp, rfl⟩
        · rcases mergeP_mem h with ⟨w, h1, h2⟩ | ⟨w, h1, h2⟩
          · exact .inl ⟨w, h1, h2⟩
          · exact .inr ⟨w, by simp [h1], h2⟩
      · rename_i n1 n2
        rcases List.mem_cons.1 h with rfl | h
        · exact .inl ⟨x, by simp, pkP_id (id_eq n1 n2)⟩
        · rcases mergeP_mem h with ⟨w, h1, h2⟩ | ⟨w, h1, h2⟩
          · exact .inl ⟨w, by simp [h1], h2⟩
          · exact .inr ⟨w, by simp [h1], h2⟩
termination_by a b => a.length + b.length
theorem mergeP_srt : ∀ {a b : List Obj}, Srt a → Srt b → Srt (mergeP a b)
  | [], b, _, h => by rw [mergeP_nil']; exact h
  | x :: a, [], h, _ => by rw [mergeP_nil]; exact h
  | x :: a, y :: b, ha, hb => by
    obtain ⟨a1, a2⟩ := srt_cons.1 ha
    obtain ⟨b1, b2⟩ := srt_cons.1 hb
    rw [mergeP]
    split
    · rename_i hlt
      refine srt_cons.2 ⟨fun z hz => ?_, mergeP_srt a2 hb⟩
      rcases mergeP_mem hz with ⟨w, h1, h2⟩ | ⟨w, h1, h2⟩
      · rw [h2]; exact a1 w h1
      · rw [h2]
        rcases List.mem_cons.1 h1 with rfl | h1
        · exact hlt
        · exact UInt64.lt_trans hlt (b1 w h1)
    · split
      · rename_i hlt
        refine srt_cons.2 ⟨fun z hz => ?_, mergeP_srt ha b2⟩
        rcases mergeP_mem hz with ⟨w, h1, h2⟩ | ⟨w, h1, h2⟩
        · rw [h2]
          rcases List.mem_cons.1 h1 with rfl | h1
          · exact hlt
          · exact UInt64.lt_trans hlt (a1 w h1)
        · rw [h2]; exact b1 w h1
      · rename_i n1 n2
        have e := id_eq n1 n2
        refine srt_cons.2 ⟨fun z hz => ?_, mergeP_srt a2 b2⟩
        rw [pkP_id e]
        rcases mergeP_mem hz with ⟨w, h1, h2⟩ | ⟨w, h1, h2⟩
        · rw [h2]; exact a1 w h1
        · rw [h2, e]; exact b1 w h1
termination_by a b => a.length + b.length
theorem mergeP_lkp {id : UInt64} : ∀ {a b : List Obj}, Srt a → Srt b → lkp (mergeP a b) id = pkO id (lkp a id) (lkp b id)
  | [], b, _, _ => by rw [mergeP_nil']; rfl
  | x :: a, [], _, _ => by
    rw [mergeP_nil]
    show lkp (x :: a) id = pkO id (lkp (x :: a) id) none
    cases lkp (x :: a) id <;> rfl
  | x :: a, y :: b, ha, hb => by
    obtain ⟨a1, a2⟩ := srt_cons.1 ha
    obtain ⟨b1, b2⟩ := srt_cons.1 hb
    rw [mergeP]
    split
    · rename_i hlt
      rw [lkp, mergeP_lkp a2 hb]
      by_cases e : x.id = id
      · rw [if_pos e]
        have hy : lkp (y :: b) id = none := lkp_above fun z hz => by
          rw [← e]
          rcases List.mem_cons.1 hz with rfl | hz
          · exact hlt
          · exact UInt64.lt_trans hlt (b1 z hz)
        rw [hy, lkp, if_pos e]; rfl
      · rw [if_neg e, show lkp (x :: a) id = lkp a id by rw [lkp, if_neg e]]
    · split
      · rename_i hlt
        rw [lkp, mergeP_lkp ha b2]
        by_cases e : y.id = id
        · rw [if_pos e]
          have hx : lkp (x :: a) id = none := lkp_above fun z hz => by
            rw [← e]
            rcases List.mem_cons.1 hz with rfl | hz
            · exact hlt
            · exact UInt64.lt_trans hlt (a1 z hz)
          rw [hx, show lkp (y :: b) id = some y.data by rw [lkp, if_pos e]]; rfl
        · rw [if_neg e, show lkp (y :: b) id = lkp b id by rw [lkp, if_neg e]]
      · rename_i n1 n2
        have e := id_eq n1 n2
        rw [lkp, mergeP_lkp a2 b2, pkP_id e, pkP_data e]
        by_cases ei : x.id = id
        · rw [if_pos ei, show lkp (x :: a) id = some x.data by rw [lkp, if_pos ei], show lkp (y :: b) id = some y.data by rw [lkp, if_pos (by rw [← e]; exact ei)], ei]; rfl
        · rw [if_neg ei, show lkp (x :: a) id = lkp a id by rw [lkp, if_neg ei], show lkp (y :: b) id = lkp b id by rw [lkp, if_neg (by rw [← e]; exact ei)]]
termination_by a b => a.length + b.length
theorem pkD_self (id : UInt64) (x : List UInt8) : pkD id x x = x := by unfold pkD; split <;> rfl

/-! ### Damage -/
theorem lkp_set {l : List Obj} (hs : Srt l) {i : Nat} {o : Obj} {d : List UInt8} (h : l[i]? = some o) (id : UInt64) : lkp (l.set i ⟨o.id, d⟩) id = if id = o.id then some d else lkp l id := by
  have hs2 : Srt (l.set i ⟨o.id, d⟩) := by rw [srt_ids, set_ids h]; exact srt_ids.1 hs
  have hi := (List.getElem?_eq_some_iff.1 h).1
  by_cases e : id = o.id
  · rw [if_pos e, e]
    exact mem_lkp hs2 (o := ⟨o.id, d⟩) (List.mem_of_getElem? (List.getElem?_set_self hi))
  · rw [if_neg e]
    clear hs2 hs
    induction l generalizing i with
    | nil => simp at hi
    | cons x l ih =>
      cases i with
      | zero =>
        have : x = o := by simpa using h
        subst this
        rw [List.set_cons_zero, lkp, lkp, if_neg (Ne.symm e), if_neg (Ne.symm e)]
      | succ i =>
        rw [List.set_cons_succ, lkp, lkp, ih (by simpa using h) (by simpa using hi)]
theorem set_srt {l : List Obj} (hs : Srt l) {i : Nat} {o : Obj} {d : List UInt8} (h : l[i]? = some o) : Srt (l.set i ⟨o.id, d⟩) := by rw [srt_ids, set_ids h]; exact srt_ids.1 hs
/-- the store whose object under the digest of d is spoilt -/
structure Spoilt (p odd : List Obj) (d e : List UInt8) : Prop where
  at_ : ∃ i : Nat, findP p (dig d) = i ∧ p[i]? = some ⟨dig d, d⟩ ∧ odd = p.set i ⟨dig d, e⟩
  ne : dig e ≠ dig d
theorem Spoilt.srt {p odd : List Obj} {d e : List UInt8} (h : Spoilt p odd d e) (hs : Srt p) : Srt odd := by
  obtain ⟨⟨i, _, hi, rfl⟩, _⟩ := h
  exact set_srt hs (o := ⟨dig d, d⟩) hi
theorem Spoilt.lkp {p odd : List Obj} {d e : List UInt8} (h : Spoilt p odd d e) (hs : Srt p) (id : UInt64) : lkp odd id = if id = dig d then some e else Sl.lkp p id := by
  obtain ⟨⟨i, _, hi, rfl⟩, _⟩ := h
  exact lkp_set hs (o := ⟨dig d, d⟩) hi id
theorem Spoilt.old {p odd : List Obj} {d e : List UInt8} (h : Spoilt p odd d e) (hs : Srt p) : Sl.lkp p (dig d) = some d := by
  obtain ⟨⟨i, _, hi, _⟩, _⟩ := h
  exact mem_lkp hs (o := ⟨dig d, d⟩) (List.mem_of_getElem? hi)
theorem Spoilt.bad {p odd : List Obj} {d e : List UInt8} (h : Spoilt p odd d e) : soundB (dig d) e = false := decide_eq_false fun k => h.ne k.symm
theorem Spoilt.get {p odd : List Obj} {d e : List UInt8} (h : Spoilt p odd d e) (hs : Srt p) : getP odd (dig d) = none := by
  rw [getP_lkp (h.srt hs), h.lkp hs, if_pos rfl, Option.bind_some, h.bad]; rfl
theorem Spoilt.dmg {p odd : List Obj} {d e : List UInt8} (h : Spoilt p odd d e) : (dmgP odd).length = (dmgP p).length + 1 := by
  have hb := h.bad
  obtain ⟨⟨i, _, hi, rfl⟩, _⟩ := h
  obtain ⟨hl, he⟩ := List.getElem?_eq_some_iff.1 hi
  unfold dmgP
  rw [List.length_map, List.length_map, ← List.countP_eq_length_filter, ← List.countP_eq_length_filter, List.countP_set hl, he]
  have e1 : (!sndP ⟨dig d, d⟩) = false := by rw [sndP_mk, soundB_self]; rfl
  have e2 : (!sndP ⟨dig d, e⟩) = true := by rw [sndP_mk, hb]; rfl
  rw [e1, e2]; simp
theorem Spoilt.mem {p odd : List Obj} {d e : List UInt8} (h : Spoilt p odd d e) : dig d ∈ dmgP odd := by
  have hb := h.bad
  obtain ⟨⟨i, _, hi, rfl⟩, _⟩ := h
  obtain ⟨hl, he⟩ := List.getElem?_eq_some_iff.1 hi
  unfold dmgP
  refine List.mem_map.2 ⟨⟨dig d, e⟩, List.mem_filter.2 ⟨List.mem_of_getElem? (List.getElem?_set_self hl), ?_⟩, rfl⟩
  rw [sndP_mk, hb]; rfl
theorem Spoilt.put {p odd : List Obj} {d e : List UInt8} (h : Spoilt p odd d e) (hs : Srt p) : putP odd d = p := by
  have ho := h.srt hs
  have hk : okAt odd (dig d) = false := by rw [okAt_some (d := e) (by rw [h.lkp hs, if_pos rfl])]; exact h.bad
  refine srt_ext (putP_srt ho) hs fun id => ?_
  rw [putP_lkp ho, h.lkp hs]
  by_cases e0 : id = dig d
  · rw [if_pos ⟨e0, hk⟩, e0, h.old hs]
  · rw [if_neg (fun k => e0 k.1), if_neg e0]
theorem Spoilt.union {p odd : List Obj} {d e : List UInt8} (h : Spoilt p odd d e) (hs : Srt p) : mergeP odd p = p := by
  have ho := h.srt hs
  refine srt_ext (mergeP_srt ho hs) hs fun id => ?_
  rw [mergeP_lkp ho hs, h.lkp hs]
  by_cases e0 : id = dig d
  · rw [if_pos e0, e0, h.old hs]
    show some (pkD (dig d) e d) = some d
    unfold pkD
    rw [h.bad, soundB_self]; rfl
  · rw [if_neg e0]
    cases Sl.lkp p id with
    | none => rfl
    | some x => exact congrArg some (pkD_self id x)

/-! ### What is kept -/
end Sl
end Go.Proofs.YtanhehbfbakdcaaGreatDoor
/- ObjectsDamage: walk, printed by my gen.py out of annotations. -/
set_option linter.unusedSimpArgs false
set_option linter.unusedVariables false
namespace Go.Proofs.YtanhehbfbakdcaaGreatDoor
namespace Sl
open Go

set_option maxHeartbeats 1100000 in
theorem c_ObjectsDamage {adL adB ada : Option Addr} {nL cL nB cB na ca : Nat} {ls : List (List UInt8)} {ts : List (UInt8 × UInt8 × UInt8)} {da : List UInt8} {k0 k1 : UInt8} {m : Mem} (G : Glob m) (hLs : Dats m adL nL cL ls) (hB : Tris m adB nB cB ts) (hnL : nL ≤ 1100000) (hnB : nB ≤ 1100000) (hsa : Slc m 1 ada na ca (da.map u8)) (hna : na ≤ 1000000000) : Spec Tryz.prog 5 #[.agg #[.slice adL nL cL, .slice adB nB cB], .slice ada na ca, .agg #[u8 k0, u8 k1]] m [] (RetE (.bool true)) := by
  refine Spec.enter0 Tryz.func5 rfl 128 Tryz.ntmps5 rfl fun a w0 Lf A H => ?_
  have hM := Le.refl m
  have hmx : maxLen = 9223372036854775807 := rfl
  refine wp_seq ?_
  refine wp_region_lit ?_
  refine step_box A H rfl (by simp only [Value.cells, List.toList_toArray]; rfl) rfl ?_; intro b3 a w A H
  refine step_box A H rfl (by simp only [Value.cells, List.toList_toArray]; rfl) rfl ?_; intro b5 a w A H
  refine step (Runs.assign A rfl) A rfl ?_; clear A a; intro a A
  refine wpList_nil ?_
  refine wp_seq ?_
  refine wp_region_lit ?_
  refine step_callF A rfl rfl (c_law18_examples G) H ?_
  rintro v1_0 a w m hm rfl A H
  have hM := hM.trans hm
  have G := G.mono hm
  have hLs := hLs.mono hm
  have hB := hB.mono hm
  have hsa := hsa.mono hm
  refine step (Runs.assign A rfl) A rfl ?_; clear A a; intro a A
  refine wpList_nil ?_
  refine wp_seq ?_
  refine wp_seq ?_
  refine wp_region_lit ?_
  refine step (Runs.move A rfl) A rfl ?_; clear A a; intro a A
  refine step (Runs.not A rfl) A rfl ?_; clear A a; intro a A
  refine wpList_nil ?_
  refine cond_false A rfl rfl ?_
  refine wp_skip ?_
  refine wp_seq ?_
  refine wp_seq ?_
  refine wp_region_lit ?_
  refine step (Runs.move A rfl) A rfl ?_; clear A a; intro a A
  refine step (Runs.lenL A rfl SlC.h) A rfl ?_; clear A a; intro a A
  refine step (Runs.eql A rfl rfl) A rfl ?_; clear A a; intro a A
  refine step (Runs.move A rfl) A rfl ?_; clear A a; intro a A
  refine onBool A (dj := 18) rfl (fun h1 => ?_) (fun h1 => ?_)
  · have g1 := h1
    try simp only [decide_eq_true_eq, decide_eq_false_iff_not, Bool.not_eq_true', Bool.not_eq_false', ne_eq, Decidable.not_not, Int.not_lt, Int.not_le] at g1
    refine stepSkip (dj := 18) rfl rfl h1 A rfl ?_; clear A a; intro a A
    refine stepSkip (dj := 18) rfl rfl h1 A rfl ?_; clear A a; intro a A
    refine stepSkip (dj := 18) rfl rfl h1 A rfl ?_; clear A a; intro a A
    refine step (Runs.pickT A rfl h1 rfl) A rfl ?_; clear A a; intro a A
    refine wpList_nil ?_
    refine cond_true A rfl rfl ?_
    refine wp_seq ?_
    refine wp_region_lit ?_
    refine step (Runs.move A rfl) A rfl ?_; clear A a; intro a A
    refine step (Runs.assign A rfl) A rfl ?_; clear A a; intro a A
    refine wpList_nil ?_
    refine wp_ret ?_
    exact retF A rfl rfl hM H rfl
  · have g1 := h1
    try simp only [decide_eq_true_eq, decide_eq_false_iff_not, Bool.not_eq_true', Bool.not_eq_false', ne_eq, Decidable.not_not, Int.not_lt, Int.not_le] at g1
    refine stepG (dj := 18) rfl rfl h1 (Runs.move A rfl) A rfl ?_; clear A a; intro a A
    refine stepG (dj := 18) rfl rfl h1 (Runs.lenL A rfl SlC.h) A rfl ?_; clear A a; intro a A
    refine stepG (dj := 18) rfl rfl h1 (Runs.gtr A rfl rfl) A rfl ?_; clear A a; intro a A
    refine step (Runs.pickF A rfl h1 rfl) A rfl ?_; clear A a; intro a A
    refine wpList_nil ?_
    refine cond_split A rfl (fun h2 => ?_) (fun h2 => ?_)
    · have g2 := h2
      try simp only [decide_eq_true_eq, decide_eq_false_iff_not, Bool.not_eq_true', Bool.not_eq_false', ne_eq, Decidable.not_not, Int.not_lt, Int.not_le] at g2
      refine wp_seq ?_
      refine wp_region_lit ?_
      refine step (Runs.move A rfl) A rfl ?_; clear A a; intro a A
      refine step (Runs.assign A rfl) A rfl ?_; clear A a; intro a A
      refine wpList_nil ?_
      refine wp_ret ?_
      exact retF A rfl rfl hM H rfl
    · have g2 := h2
      try simp only [decide_eq_true_eq, decide_eq_false_iff_not, Bool.not_eq_true', Bool.not_eq_false', ne_eq, Decidable.not_not, Int.not_lt, Int.not_le] at g2
      refine wp_skip ?_
      refine wp_seq ?_
      refine wp_region_lit ?_
      refine step (Runs.ldN A H rfl rfl) A rfl ?_; clear A a; intro a A
      refine step_callF A rfl rfl (c_wireloomref18_Store hLs hB (by omega) (by omega)) H ?_
      rintro v6_1 a w m hm ⟨ads, cs0, rfl, hst⟩ A H
      have hM := hM.trans hm
      have G := G.mono hm
      have hLs := hLs.mono hm
      have hB := hB.mono hm
      have hsa := hsa.mono hm
      obtain ⟨s, hse⟩ : ∃ s, s = storeP ls ts := ⟨_, rfl⟩
      rw [← hse] at A hst
      have hss : Srt s := by rw [hse]; exact storeP_srt ls ts
      have hsl : s.length ≤ 8 := by rw [hse]; exact storeP_len ls ts
      refine step (Runs.move A rfl) A rfl ?_; clear A a; intro a A
      refine step_callF A rfl rfl (c_wireloomlaw18_put hst (by omega) hss ⟨_, _, _, rfl, hsa, hna⟩) H ?_
      rintro v6_3 a w m hm ⟨adp, cp, rfl, hp⟩ A H
      have hM := hM.trans hm
      have G := G.mono hm
      have hLs := hLs.mono hm
      have hB := hB.mono hm
      have hsa := hsa.mono hm
      have hst := hst.mono hm
      have hok : okAt (putP s da) (dig da) = true := by rw [okAt_put hss, decide_eq_true rfl]; rfl
      obtain ⟨p, hpe⟩ : ∃ p, p = putP s da := ⟨_, rfl⟩
      rw [← hpe] at A hp hok
      have hps : Srt p := by rw [hpe]; exact putP_srt hss
      have hpl : p.length ≤ 9 := by rw [hpe]; have := putP_len s da; omega
      have hps1 : (lkp p (dig da)).isSome = true := by
        unfold okAt at hok
        cases hq : lkp p (dig da) with
        | none => rw [hq] at hok; cases hok
        | some e => rfl
      refine step_alloc A H rfl ?_; clear A a; intro b9 a w A H
      refine step_store A H rfl rfl rfl rfl rfl rfl ?_; intro w H
      refine wpList_nil ?_
      refine wp_seq ?_
      refine wp_seq ?_
      refine wp_region_lit ?_
      refine step (Runs.fa A rfl) A rfl ?_; clear A a; intro a A
      refine step (Runs.ld1 A H rfl rfl) A rfl ?_; clear A a; intro a A
      refine step_callF A rfl rfl (c_wireloomref18_Is hp) H ?_
      rintro v7_2 a w m hm rfl A H
      have hM := hM.trans hm
      have G := G.mono hm
      have hLs := hLs.mono hm
      have hB := hB.mono hm
      have hsa := hsa.mono hm
      have hst := hst.mono hm
      have hp := hp.mono hm
      refine step (Runs.not A rfl) A rfl ?_; clear A a; intro a A
      refine wpList_nil ?_
      refine cond_false A rfl (notT (decide_eq_true hps)) ?_
      refine wp_skip ?_
      refine wp_seq ?_
      refine wp_region_lit ?_
      refine step (Runs.fa A rfl) A rfl ?_; clear A a; intro a A
      refine step (Runs.ld1 A H rfl rfl) A rfl ?_; clear A a; intro a A
      refine step (Runs.fa A rfl) A rfl ?_; clear A a; intro a A
      refine step (Runs.ld1 A H rfl rfl) A rfl ?_; clear A a; intro a A
      refine step_callF A rfl rfl (c_wireloomref18_Find hp) H ?_
      rintro v9_4 a w m hm rfl A H
      have hM := hM.trans hm
      have G := G.mono hm
      have hLs := hLs.mono hm
      have hB := hB.mono hm
      have hsa := hsa.mono hm
      have hst := hst.mono hm
      have hp := hp.mono hm
      have hfp : 0 ≤ findP p (dig da) := findP_lkp.2 hps1
      obtain ⟨i, x, hfi, hx⟩ := findP_ge hfp
      rw [hfi] at A
      have hil := (List.getElem?_eq_some_iff.1 hx).1
      have hxi : x.id = dig da := by
        have h1 := findP_at hps hfp
        rw [hfi, Int.toNat_natCast, hx] at h1
        cases hq : lkp p (dig da) with
        | none => rw [hq] at h1; cases h1
        | some e => rw [hq] at h1; cases h1; rfl
      obtain ⟨bb, off, cs, rfl, hfz, hcs⟩ := hp.all_ (by omega)
      obtain ⟨vx, hx1, hx2, hx3, adx, nx, cx, rfl, hsx, hnx⟩ := hcs _ _ hx
      refine step (Runs.assign A rfl) A rfl ?_; clear A a; intro a A
      refine wpList_nil ?_
      refine wp_seq ?_
      refine wp_seq ?_
      refine wp_region_lit ?_
      refine step (Runs.move A rfl) A rfl ?_; clear A a; intro a A
      refine step (Runs.lss A rfl rfl) A rfl ?_; clear A a; intro a A
      refine step (Runs.move A rfl) A rfl ?_; clear A a; intro a A
      refine stepG (dj := 39) rfl rfl (decide_eq_false (by omega)) (Runs.fa A rfl) A rfl ?_; clear A a; intro a A
      refine stepG (dj := 39) rfl rfl (decide_eq_false (by omega)) (Runs.ld1 A H rfl rfl) A rfl ?_; clear A a; intro a A
      refine stepG (dj := 39) rfl rfl (decide_eq_false (by omega)) (Runs.move A rfl) A rfl ?_; clear A a; intro a A
      refine stepG (dj := 39) rfl rfl (decide_eq_false (by omega)) (Runs.indexAddr A rfl rfl SlC.h (by omega) (by omega)) A rfl ?_; clear A a; intro a A
      refine stepG (dj := 39) rfl rfl (decide_eq_false (by omega)) (Runs.fa A rfl) A rfl ?_; clear A a; intro a A
      refine stepG (dj := 39) rfl rfl (decide_eq_false (by omega)) (Runs.ld1 A H rfl (v := .slice adx nx cx) (by simpa using hx2)) A rfl ?_; clear A a; intro a A
      refine stepG (dj := 39) rfl rfl (decide_eq_false (by omega)) (Runs.move A rfl) A rfl ?_; clear A a; intro a A
      refine step_callFG (dj := 39) rfl rfl (decide_eq_false (by omega)) A rfl rfl (c_wireloomref06_Same hsx hsa) H ?_
      rintro v10_10 a w m hm rfl A H
      have hM := hM.trans hm
      have G := G.mono hm
      have hLs := hLs.mono hm
      have hB := hB.mono hm
      have hsa := hsa.mono hm
      have hst := hst.mono hm
      have hp := hp.mono hm
      have hsx := hsx.mono hm
      have hfz := hfz.mono hm
      refine stepG (dj := 39) rfl rfl (decide_eq_false (by omega)) (Runs.not A rfl) A rfl ?_; clear A a; intro a A
      refine step (Runs.pickF A rfl (decide_eq_false (by omega)) rfl) A rfl ?_; clear A a; intro a A
      refine wpList_nil ?_
      refine cond_split A rfl (fun h3 => ?_) (fun h3 => ?_)
      · have g3 := h3
        try simp only [decide_eq_true_eq, decide_eq_false_iff_not, Bool.not_eq_true', Bool.not_eq_false', ne_eq, Decidable.not_not, Int.not_lt, Int.not_le] at g3
        refine wp_seq ?_
        refine wp_region_lit ?_
        refine step (Runs.move A rfl) A rfl ?_; clear A a; intro a A
        refine step (Runs.geq A rfl rfl) A rfl ?_; clear A a; intro a A
        refine step (Runs.move A rfl) A rfl ?_; clear A a; intro a A
        refine stepG (dj := 52) rfl rfl (decide_eq_true (by omega)) (Runs.fa A rfl) A rfl ?_; clear A a; intro a A
        refine stepG (dj := 52) rfl rfl (decide_eq_true (by omega)) (Runs.ld1 A H rfl rfl) A rfl ?_; clear A a; intro a A
        refine stepG (dj := 52) rfl rfl (decide_eq_true (by omega)) (Runs.fa A rfl) A rfl ?_; clear A a; intro a A
        refine stepG (dj := 52) rfl rfl (decide_eq_true (by omega)) (Runs.ld1 A H rfl rfl) A rfl ?_; clear A a; intro a A
        refine step_callFG (dj := 52) rfl rfl (decide_eq_true (by omega)) A rfl rfl (c_law18_get hp (by omega) hps) H ?_
        rintro v11_7 a w m hm ⟨u, rfl, hu⟩ A H
        have hM := hM.trans hm
        have G := G.mono hm
        have hLs := hLs.mono hm
        have hB := hB.mono hm
        have hsa := hsa.mono hm
        have hst := hst.mono hm
        have hp := hp.mono hm
        have hsx := hsx.mono hm
        have hfz := hfz.mono hm
        have hge : gerr p (dig da) = 0 := gerr_zero (by rw [getP_ok hps]; exact hok)
        rw [hge] at A
        refine stepG (dj := 52) rfl rfl (decide_eq_true (by omega)) (Runs.field1 (ty := 40) A rfl FldC.h (by kernel_rfl) TyC.h rfl) A rfl ?_; clear A a; intro a A
        refine stepG (dj := 52) rfl rfl (decide_eq_true (by omega)) (Runs.eql A rfl rfl) A rfl ?_; clear A a; intro a A
        refine step (Runs.pickT A rfl (decide_eq_true (by omega)) rfl) A rfl ?_; clear A a; intro a A
        refine step (Runs.move A rfl) A rfl ?_; clear A a; intro a A
        refine stepG (dj := 61) rfl rfl (decide_eq_true rfl) (Runs.move A rfl) A rfl ?_; clear A a; intro a A
        refine step (Runs.pickT A rfl (decide_eq_true rfl) rfl) A rfl ?_; clear A a; intro a A
        refine step (Runs.assign A rfl) A rfl ?_; clear A a; intro a A
        refine wpList_nil ?_
        refine wp_ret ?_
        exact retF A rfl rfl hM H rfl
      · have g3 := h3
        try simp only [decide_eq_true_eq, decide_eq_false_iff_not, Bool.not_eq_true', Bool.not_eq_false', ne_eq, Decidable.not_not, Int.not_lt, Int.not_le] at g3
        refine wp_skip ?_
        refine wp_seq ?_
        have hxd : x.data = da := by simpa using (by assumption : (!decide (x.data = da)) = false)
        refine wp_region_lit ?_
        refine step_slice A H rfl rfl rfl rfl rfl rfl ?_; intro b12 a w A H
        refine step (Runs.fa A rfl) A rfl ?_; clear A a; intro a A
        refine step (Runs.ld1 A H rfl rfl) A rfl ?_; clear A a; intro a A
        have H := H.row_pt (n := 0) (size := 2) rfl (by omega)
        have hp' := hp
        obtain ⟨_, ys, hS1, hO1⟩ := hp'
        refine step_appendR A H rfl rfl hS1 hO1.one (by decide) (by omega) (by omega) rfl rfl ?_; clear A a; intro ad1 c1 a w A H
        rw [Nat.zero_add] at A H
        rw [List.nil_append] at H
        refine step (Runs.assign A rfl) A rfl ?_; clear A a; intro a A
        refine wpList_nil ?_
        refine wp_seq ?_
        refine wp_region_lit ?_
        refine step (Runs.move A rfl) A rfl ?_; clear A a; intro a A
        refine step (Runs.move A rfl) A rfl ?_; clear A a; intro a A
        refine step (Runs.move A rfl) A rfl ?_; clear A a; intro a A
        refine step (Runs.ldN A H rfl rfl) A rfl ?_; clear A a; intro a A
        refine step_callF A rfl rfl (c_wireloomref18_Broken hsa hna) H ?_
        rintro v13_4 a w m hm ⟨adk, nk, ck, rfl, hsk, hnk⟩ A H
        have hM := hM.trans hm
        have G := G.mono hm
        have hLs := hLs.mono hm
        have hB := hB.mono hm
        have hsa := hsa.mono hm
        have hst := hst.mono hm
        have hp := hp.mono hm
        have hsx := hsx.mono hm
        have hfz := hfz.mono hm
        have hO1 := hO1.mono hm
        obtain ⟨hxl0, hsc, _⟩ := H.row_len
        obtain ⟨g, cur, rfl, hxl, hnc, hcm, hcl, hct, H⟩ := H.row_block (by omega)
        have hc1 : cur[i * 2]? = some (u64 x.id) := by
          obtain ⟨vq, hv1, _⟩ := hO1.at_ hx
          rw [← hct, List.getElem?_take_of_lt (by omega)] at hv1; exact hv1
        refine step (Runs.indexAddr A rfl rfl SlC.h (by omega) (by omega)) A rfl ?_; clear A a; intro a A
        refine step (Runs.fa A rfl) A rfl ?_; clear A a; intro a A
        refine step_store (cs' := (cur.take (i * 2) ++ [u64 x.id, .slice adk nk ck] ++ cur.drop (i * 2 + 2))) A H rfl rfl rfl rfl rfl (by rw [Int.toNat_natCast, Nat.zero_add]; have := setN_put (cs := cur) (vs := [.slice adk nk ck]) (o := i * 2 + 1) (by show _ + 1 ≤ _; omega); rw [List.take_add_one, hc1] at this; refine Eq.trans this ?_; simp) ?_; intro w H
        have hAl : (cur.take (i * 2)).length = i * 2 := by rw [List.length_take]; omega
        have H := H.block_row (k := p.length) (c := c1) (size := 2) (xs := ys.take (i * 2) ++ [u64 x.id, .slice adk nk ck] ++ ys.drop (i * 2 + 2)) (by simp only [List.length_append, List.length_take, List.length_drop, List.length_cons, List.length_nil]; omega) (by omega) (by omega) (by simp only [List.length_append, List.length_take, List.length_drop, List.length_cons, List.length_nil]; omega) (by rw [← ins_take1 hct (show i * 2 ≤ p.length * 2 by omega), ← ins_mid hct (show i * 2 + 2 ≤ p.length * 2 by omega)]; exact take_put hAl rfl (by omega))
        obtain ⟨odd, hode⟩ : ∃ z, z = p.set i ⟨x.id, brkP da k0 k1⟩ := ⟨_, rfl⟩
        have hol : odd.length = p.length := by rw [hode, List.length_set]
        obtain ⟨m, hm, hodd, H⟩ := H.row_objs (l := odd) (by rw [hode]; exact OR.set (o := ⟨x.id, brkP da k0 k1⟩) ⟨_, _, _, rfl, hsk, hnk⟩ i hil hO1)
        have hM := hM.trans hm
        have G := G.mono hm
        have hLs := hLs.mono hm
        have hB := hB.mono hm
        have hsa := hsa.mono hm
        have hst := hst.mono hm
        have hp := hp.mono hm
        have hsx := hsx.mono hm
        have hfz := hfz.mono hm
        have hO1 := hO1.mono hm
        have hsk := hsk.mono hm
        rw [← hol] at A
        have hsp : Spoilt p odd da (brkP da k0 k1) := ⟨⟨i, hfi, by rw [hx]; cases x; simp only at hxi hxd; rw [hxi, hxd], by rw [hode, hxi]⟩, brk_ne (by rw [hsa.len8]; omega)⟩
        have hods : Srt odd := hsp.srt hps
        have hdl : (dmgP p).length ≤ p.length := by rw [dmgP, List.length_map]; exact List.length_filter_le _ _
        refine wpList_nil ?_
        refine wp_seq ?_
        refine wp_region_lit ?_
        refine step (Runs.move A rfl) A rfl ?_; clear A a; intro a A
        refine step_callF A rfl rfl (c_objects_Damaged hodd (by omega)) H ?_
        rintro v14_1 a w m hm ⟨adw, cw, rfl, hbad⟩ A H
        have hM := hM.trans hm
        have G := G.mono hm
        have hLs := hLs.mono hm
        have hB := hB.mono hm
        have hsa := hsa.mono hm
        have hst := hst.mono hm
        have hp := hp.mono hm
        have hsx := hsx.mono hm
        have hfz := hfz.mono hm
        have hO1 := hO1.mono hm
        have hsk := hsk.mono hm
        have hodd := hodd.mono hm
        refine step (Runs.assign A rfl) A rfl ?_; clear A a; intro a A
        refine wpList_nil ?_
        refine wp_seq ?_
        refine wp_seq ?_
        refine wp_region_lit ?_
        refine step (Runs.move A rfl) A rfl ?_; clear A a; intro a A
        refine step (Runs.fa A rfl) A rfl ?_; clear A a; intro a A
        refine step (Runs.ld1 A H rfl rfl) A rfl ?_; clear A a; intro a A
        refine step_callF A rfl rfl (c_law18_get hodd (by omega) hods) H ?_
        rintro v15_3 a w m hm ⟨u, rfl, hu⟩ A H
        have hM := hM.trans hm
        have G := G.mono hm
        have hLs := hLs.mono hm
        have hB := hB.mono hm
        have hsa := hsa.mono hm
        have hst := hst.mono hm
        have hp := hp.mono hm
        have hsx := hsx.mono hm
        have hfz := hfz.mono hm
        have hO1 := hO1.mono hm
        have hsk := hsk.mono hm
        have hodd := hodd.mono hm
        have hbad := hbad.mono hm
        have hge : gerr odd (dig da) = 180 := by rw [gerr, hsp.get hps]; rfl
        rw [hge] at A
        refine step (Runs.field1 (ty := 40) A rfl FldC.h (by kernel_rfl) TyC.h rfl) A rfl ?_; clear A a; intro a A
        refine step (Runs.neq A rfl rfl) A rfl ?_; clear A a; intro a A
        refine step (Runs.move A rfl) A rfl ?_; clear A a; intro a A
        refine stepG (dj := 83) rfl rfl (decide_eq_false fun h => h rfl) (Runs.move A rfl) A rfl ?_; clear A a; intro a A
        refine stepG (dj := 83) rfl rfl (decide_eq_false fun h => h rfl) (Runs.fa A rfl) A rfl ?_; clear A a; intro a A
        refine stepG (dj := 83) rfl rfl (decide_eq_false fun h => h rfl) (Runs.ld1 A H rfl rfl) A rfl ?_; clear A a; intro a A
        refine step_callFG (dj := 83) rfl rfl (decide_eq_false fun h => h rfl) A rfl rfl (c_law18_get hodd (by omega) hods) H ?_
        rintro v15_10 a w m hm ⟨u, rfl, hu⟩ A H
        have hM := hM.trans hm
        have G := G.mono hm
        have hLs := hLs.mono hm
        have hB := hB.mono hm
        have hsa := hsa.mono hm
        have hst := hst.mono hm
        have hp := hp.mono hm
        have hsx := hsx.mono hm
        have hfz := hfz.mono hm
        have hO1 := hO1.mono hm
        have hsk := hsk.mono hm
        have hodd := hodd.mono hm
        have hbad := hbad.mono hm
        have hgd : gdat odd (dig da) = [] := by rw [gdat, hsp.get hps]; rfl
        rw [hgd] at hu
        obtain ⟨adu, nu, cu, rfl, hsu, hnu⟩ := hu
        obtain rfl : nu = 0 := by have := hsu.len8; simpa using this.symm
        refine stepG (dj := 83) rfl rfl (decide_eq_false fun h => h rfl) (Runs.field1 (ty := 28) A rfl FldC.h (by kernel_rfl) TyC.h rfl) A rfl ?_; clear A a; intro a A
        refine stepG (dj := 83) rfl rfl (decide_eq_false fun h => h rfl) (Runs.lenL A rfl SlC.h) A rfl ?_; clear A a; intro a A
        refine stepG (dj := 83) rfl rfl (decide_eq_false fun h => h rfl) (Runs.neq A rfl rfl) A rfl ?_; clear A a; intro a A
        refine step (Runs.pickF A rfl (decide_eq_false fun h => h rfl) rfl) A rfl ?_; clear A a; intro a A
        refine step (Runs.move A rfl) A rfl ?_; clear A a; intro a A
        refine stepG (dj := 92) rfl rfl (decide_eq_false fun h => h rfl) (Runs.move A rfl) A rfl ?_; clear A a; intro a A
        refine stepG (dj := 92) rfl rfl (decide_eq_false fun h => h rfl) (Runs.lenL A rfl SlC.h) A rfl ?_; clear A a; intro a A
        refine stepG (dj := 92) rfl rfl (decide_eq_false fun h => h rfl) (Runs.fa A rfl) A rfl ?_; clear A a; intro a A
        refine stepG (dj := 92) rfl rfl (decide_eq_false fun h => h rfl) (Runs.ld1 A H rfl rfl) A rfl ?_; clear A a; intro a A
        refine step_callFG (dj := 92) rfl rfl (decide_eq_false fun h => h rfl) A rfl rfl (c_objects_Damaged hp (by omega)) H ?_
        rintro v15_20 a w m hm ⟨adv, cv, rfl, hbad0⟩ A H
        have hM := hM.trans hm
        have G := G.mono hm
        have hLs := hLs.mono hm
        have hB := hB.mono hm
        have hsa := hsa.mono hm
        have hst := hst.mono hm
        have hp := hp.mono hm
        have hsx := hsx.mono hm
        have hfz := hfz.mono hm
        have hO1 := hO1.mono hm
        have hsk := hsk.mono hm
        have hodd := hodd.mono hm
        have hbad := hbad.mono hm
        refine stepG (dj := 92) rfl rfl (decide_eq_false fun h => h rfl) (Runs.lenL A rfl SlC.h) A rfl ?_; clear A a; intro a A
        refine stepG (dj := 92) rfl rfl (decide_eq_false fun h => h rfl) (Runs.add A rfl rfl (by omega)) A rfl ?_; clear A a; intro a A
        refine stepG (dj := 92) rfl rfl (decide_eq_false fun h => h rfl) (Runs.neq A rfl rfl) A rfl ?_; clear A a; intro a A
        refine step (Runs.pickF A rfl (decide_eq_false fun h => h rfl) rfl) A rfl ?_; clear A a; intro a A
        refine step (Runs.move A rfl) A rfl ?_; clear A a; intro a A
        refine stepG (dj := 102) rfl rfl (decide_eq_false fun h => h (by have := hsp.dmg; omega)) (Runs.move A rfl) A rfl ?_; clear A a; intro a A
        refine stepG (dj := 102) rfl rfl (decide_eq_false fun h => h (by have := hsp.dmg; omega)) (Runs.fa A rfl) A rfl ?_; clear A a; intro a A
        refine stepG (dj := 102) rfl rfl (decide_eq_false fun h => h (by have := hsp.dmg; omega)) (Runs.ld1 A H rfl rfl) A rfl ?_; clear A a; intro a A
        refine step_callFG (dj := 102) rfl rfl (decide_eq_false fun h => h (by have := hsp.dmg; omega)) A rfl rfl (c_wireloomref18_In hbad) H ?_
        rintro v15_29 a w m hm rfl A H
        have hM := hM.trans hm
        have G := G.mono hm
        have hLs := hLs.mono hm
        have hB := hB.mono hm
        have hsa := hsa.mono hm
        have hst := hst.mono hm
        have hp := hp.mono hm
        have hsx := hsx.mono hm
        have hfz := hfz.mono hm
        have hO1 := hO1.mono hm
        have hsk := hsk.mono hm
        have hodd := hodd.mono hm
        have hbad := hbad.mono hm
        have hbad0 := hbad0.mono hm
        refine stepG (dj := 102) rfl rfl (decide_eq_false fun h => h (by have := hsp.dmg; omega)) (Runs.not A rfl) A rfl ?_; clear A a; intro a A
        refine step (Runs.pickF A rfl (decide_eq_false fun h => h (by have := hsp.dmg; omega)) rfl) A rfl ?_; clear A a; intro a A
        refine wpList_nil ?_
        refine cond_false A rfl (notT (decide_eq_true hsp.mem)) ?_
        refine wp_skip ?_
        refine wp_seq ?_
        refine draw_begin (ms := m) (Ls := [pt b9 [.slice (some ⟨bb, off, none⟩) p.length cp, u64 (dig da), .int .i64 0] 42]) (by kernel_rfl) (N := 20) rfl (by kernel_rfl) H ?_; clear H; intro w H hR
        have hS : SW m [pt b9 [.slice (some ⟨bb, off, none⟩) p.length cp, u64 (dig da), .int .i64 0] 42] w := H.sw (Le.refl m)
        have hL := Le.refl m
        refine dstep hR (i := 0) rfl (by kernel_rfl) (fun _ _ _ h => h) (fun _ _ H' => (Runs.move A rfl)) A rfl hS ?_; clear A a hR; intro a A hR
        refine dstep hR (i := 1) rfl (by kernel_rfl) (fun _ _ _ h => h) (fun _ _ H' => (Runs.move A rfl)) A rfl hS ?_; clear A a hR; intro a A hR
        refine dstep hR (i := 4) rfl (by kernel_rfl) (fun _ _ _ h => h) (fun _ _ H' => (Runs.fa A rfl)) A rfl hS ?_; clear A a hR; intro a A hR
        refine dstep hR (i := 5) rfl (by kernel_rfl) (fun _ _ _ h => h) (fun _ _ H' => (Runs.ld1 A H' rfl rfl)) A rfl hS ?_; clear A a hR; intro a A hR
        refine dlist hR (i := 2) rfl (by kernel_rfl) ?_
        have hR := hR.next (i := 2) (by kernel_rfl)
        refine step_callF A rfl rfl (c_wireloomlaw18_put hodd (by omega) hods ⟨_, _, _, rfl, hsa, hna⟩) H ?_
        rintro v17_2 a w m hm ⟨ad2, c2, rfl, h2o⟩ A H
        have hM := hM.trans hm
        have G := G.mono hm
        have hLs := hLs.mono hm
        have hB := hB.mono hm
        have hsa := hsa.mono hm
        have hst := hst.mono hm
        have hp := hp.mono hm
        have hsx := hsx.mono hm
        have hfz := hfz.mono hm
        have hO1 := hO1.mono hm
        have hsk := hsk.mono hm
        have hodd := hodd.mono hm
        have hbad := hbad.mono hm
        have hbad0 := hbad0.mono hm
        rw [hsp.put hps] at A h2o
        have hL := hL.trans hm
        refine wpList_nil ?_
        clear hS; refine and_keep (H.sw hL) fun hS => ?_
        refine dstep hR (i := 3) rfl (by kernel_rfl) (fun _ _ _ h => h) (fun _ _ H' => (Runs.field1 (ty := 31) A rfl FldC.h (by kernel_rfl) TyC.h rfl)) A rfl hS ?_; clear A a hR; intro a A hR
        refine dlist hR (i := 6) rfl (by kernel_rfl) ?_
        have hR := hR.next (i := 6) (by kernel_rfl)
        refine step_callF A rfl rfl (c_wireloomref18_Same h2o hp) H ?_
        rintro v17_6 a w m hm rfl A H
        have hM := hM.trans hm
        have G := G.mono hm
        have hLs := hLs.mono hm
        have hB := hB.mono hm
        have hsa := hsa.mono hm
        have hst := hst.mono hm
        have hp := hp.mono hm
        have hsx := hsx.mono hm
        have hfz := hfz.mono hm
        have hO1 := hO1.mono hm
        have hsk := hsk.mono hm
        have hodd := hodd.mono hm
        have hbad := hbad.mono hm
        have hbad0 := hbad0.mono hm
        have h2o := h2o.mono hm
        have hL := hL.trans hm
        refine wpList_nil ?_
        clear hS; refine and_keep (H.sw hL) fun hS => ?_
        refine dstep hR (i := 7) rfl (by kernel_rfl) (fun _ _ _ h => h) (fun _ _ H' => (Runs.move A rfl)) A rfl hS ?_; clear A a hR; intro a A hR
        refine dstepG hR (i := 8) (dj := 116) rfl (by kernel_rfl) (fun _ _ _ h => h) rfl rfl (decide_eq_true rfl) (fun _ _ H' => (Runs.move A rfl)) A rfl hS ?_; clear A a hR; intro a A hR
        refine dstepG hR (i := 9) (dj := 116) rfl (by kernel_rfl) (fun _ _ _ h => h) rfl rfl (decide_eq_true rfl) (fun _ _ H' => (Runs.fa A rfl)) A rfl hS ?_; clear A a hR; intro a A hR
        refine dstepG hR (i := 10) (dj := 116) rfl (by kernel_rfl) (fun _ _ _ h => h) rfl rfl (decide_eq_true rfl) (fun _ _ H' => (Runs.ld1 A H' rfl rfl)) A rfl hS ?_; clear A a hR; intro a A hR
        refine dstepG hR (i := 12) (dj := 116) rfl (by kernel_rfl) (fun _ _ _ h => h) rfl rfl (decide_eq_true rfl) (fun _ _ H' => (Runs.fa A rfl)) A rfl hS ?_; clear A a hR; intro a A hR
        refine dstepG hR (i := 13) (dj := 116) rfl (by kernel_rfl) (fun _ _ _ h => h) rfl rfl (decide_eq_true rfl) (fun _ _ H' => (Runs.ld1 A H' rfl rfl)) A rfl hS ?_; clear A a hR; intro a A hR
        refine dlist hR (i := 11) rfl (by kernel_rfl) ?_
        have hR := hR.next (i := 11) (by kernel_rfl)
        refine step_callFG (dj := 116) rfl rfl (decide_eq_true rfl) A rfl rfl (c_objects_Union hodd hp (by omega) (by omega)) H ?_
        rintro v17_11 a w m hm ⟨ad3, c3, rfl, h3o⟩ A H
        have hM := hM.trans hm
        have G := G.mono hm
        have hLs := hLs.mono hm
        have hB := hB.mono hm
        have hsa := hsa.mono hm
        have hst := hst.mono hm
        have hp := hp.mono hm
        have hsx := hsx.mono hm
        have hfz := hfz.mono hm
        have hO1 := hO1.mono hm
        have hsk := hsk.mono hm
        have hodd := hodd.mono hm
        have hbad := hbad.mono hm
        have hbad0 := hbad0.mono hm
        have h2o := h2o.mono hm
        rw [hsp.union hps] at A h3o
        have hL := hL.trans hm
        refine wpList_nil ?_
        clear hS; refine and_keep (H.sw hL) fun hS => ?_
        refine dlist hR (i := 14) rfl (by kernel_rfl) ?_
        have hR := hR.next (i := 14) (by kernel_rfl)
        refine step_callFG (dj := 116) rfl rfl (decide_eq_true rfl) A rfl rfl (c_wireloomref18_Same h3o hp) H ?_
        rintro v17_14 a w m hm rfl A H
        have hM := hM.trans hm
        have G := G.mono hm
        have hLs := hLs.mono hm
        have hB := hB.mono hm
        have hsa := hsa.mono hm
        have hst := hst.mono hm
        have hp := hp.mono hm
        have hsx := hsx.mono hm
        have hfz := hfz.mono hm
        have hO1 := hO1.mono hm
        have hsk := hsk.mono hm
        have hodd := hodd.mono hm
        have hbad := hbad.mono hm
        have hbad0 := hbad0.mono hm
        have h2o := h2o.mono hm
        have h3o := h3o.mono hm
        have hL := hL.trans hm
        refine wpList_nil ?_
        clear hS; refine and_keep (H.sw hL) fun hS => ?_
        refine dstep hR (i := 15) rfl (by kernel_rfl) (fun _ _ _ h => h) (fun _ _ H' => (Runs.pickT A rfl (decide_eq_true rfl) rfl)) A rfl hS ?_; clear A a hR; intro a A hR
        refine dstep hR (i := 16) rfl (by kernel_rfl) (fun _ _ _ h => h) (fun _ _ H' => (Runs.move A rfl)) A rfl hS ?_; clear A a hR; intro a A hR
        refine dstepG hR (i := 17) (dj := 125) rfl (by kernel_rfl) (fun _ _ _ h => h) rfl rfl (decide_eq_true rfl) (fun _ _ H' => (Runs.move A rfl)) A rfl hS ?_; clear A a hR; intro a A hR
        refine dstep hR (i := 18) rfl (by kernel_rfl) (fun _ _ _ h => h) (fun _ _ H' => (Runs.pickT A rfl (decide_eq_true rfl) rfl)) A rfl hS ?_; clear A a hR; intro a A hR
        refine dstep hR (i := 19) rfl (by kernel_rfl) (fun _ _ _ h => h) (fun _ _ H' => (Runs.assign A rfl)) A rfl hS ?_; clear A a hR; intro a A hR
        refine draw_done hR (by kernel_rfl) ?_
        clear hS hL hR
        refine wp_ret ?_
        exact retF A rfl rfl hM H rfl
end Sl
end Go.Proofs.YtanhehbfbakdcaaGreatDoor
