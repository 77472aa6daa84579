/- Kind, isName, and the printer's small methods: printed by my gen.py out of annotations. -/
import Derived.Test.YtanhehbfbakdcaaGreatDoorPrW
set_option linter.unusedSimpArgs false
set_option linter.unusedVariables false
namespace Go.Proofs.YtanhehbfbakdcaaGreatDoor
namespace Sl
open Go

theorem c_lexer_Kind {s : ByteArray} {m : Mem} (G : Glob m) (hs : s.size ≤ 1000000000000) : Spec Tryz.prog 129 #[.string s] m [] (RetE (.int .i64 (kindP s))) := by
  refine Spec.enter0 Tryz.func129 rfl 34 Tryz.ntmps129 rfl fun a w0 Lf A H => ?_
  have hM := Le.refl m
  refine wp_seq ?_
  refine wp_region_lit ?_
  refine step (Runs.assign A rfl) A rfl ?_; clear A a; intro a A
  refine wpList_nil ?_
  refine wp_seq ?_
  refine wp_seq ?_
  refine wp_region_lit ?_
  refine step (Runs.buildArr A rfl rfl rfl) A rfl ?_; clear A a; intro a A
  refine step (Runs.move A rfl) A rfl ?_; clear A a; intro a A
  refine wpList_nil ?_
  refine wp_block ?_
  refine wp_loop_ghost (fun q a w => ∃ (j : Nat) (m' : Mem), q = 3 - j ∧ (j ≤ 2 ∧ (0 < j → ¬ (wkind (s.extract 0 (0 + wl s 0)) ≠ 0 ∧ wl s 0 = s.size)) ∧ (1 < j → ¬ (sgn s 0 ≠ 0 ∧ sgn s 0 = s.size))) ∧ Le m m' ∧ Fr 34 a [(0, .string s), (6, .agg #[.func (.func 148) #[] #[], .func (.func 149) #[] #[]]), (7, .int .i64 j)] [] ∧ St w0 w m' (Lf)) _ ⟨0, m, rfl, ⟨by omega, fun h => absurd h (by omega), fun h => absurd h (by omega)⟩, Le.refl m, (Fr.cons A rfl (Fr.cons A rfl (Fr.cons A rfl (Fr.nil A)))), H⟩ ?_
  clear A H; rintro q a w ⟨j, m, rfl, hinv, hm, A, H⟩
  have hM := hM.trans hm
  have G := G.mono hm
  have hl1 := hm
  obtain ⟨hj, hf0, hf1⟩ := hinv
  refine wp_seq ?_
  refine wp_region_lit ?_
  refine step (Runs.lss A rfl rfl) A rfl ?_; clear A a; intro a A
  refine wpList_nil ?_
  refine wp_seq ?_
  refine cond_split A rfl (fun h1 => ?_) (fun h1 => ?_)
  · have g1 := h1
    try simp only [decide_eq_true_eq, decide_eq_false_iff_not, Bool.not_eq_true', Bool.not_eq_false', ne_eq, Decidable.not_not, Int.not_lt, Int.not_le] at g1
    refine wp_skip ?_
    refine wp_seq ?_
    refine wp_block ?_
    refine wp_seq ?_
    refine wp_region_lit ?_
    obtain ⟨fv, hfv, hcase⟩ : ∃ v, ([.func (.func 148) #[] #[], .func (.func 149) #[] #[]] : List Value)[j]? = some v ∧ (j = 0 ∧ v = .func (.func 148) #[] #[] ∨ j = 1 ∧ v = .func (.func 149) #[] #[]) := by
      have : j = 0 ∨ j = 1 := by omega
      rcases this with rfl | rfl
      · exact ⟨_, rfl, .inl ⟨rfl, rfl⟩⟩
      · exact ⟨_, rfl, .inr ⟨rfl, rfl⟩⟩
    refine step (Runs.indexArrV A rfl rfl (v := fv) (by omega) (by omega) (by simpa using hfv)) A rfl ?_; clear A a; intro a A
    refine step (Runs.assign A rfl) A rfl ?_; clear A a; intro a A
    rcases hcase with ⟨hj0, rfl⟩ | ⟨hj0, rfl⟩
    · refine wpList_nil ?_
      refine wp_seq ?_
      refine wp_region_lit ?_
      refine step (Runs.move A rfl) A rfl ?_; clear A a; intro a A
      refine step_callF A rfl rfl (c_lexer_classOf) H ?_
      rintro v4_1 a w m hm rfl A H
      have hM := hM.trans hm
      have hl1 := hl1.trans hm
      have G := G.mono hm
      refine step (Runs.build A rfl rfl (scn_fill s)) A rfl ?_; clear A a; intro a A
      refine step_box A H rfl (by simp only [Value.cells, List.toList_toArray]; rfl) rfl ?_; intro b2 a w A H
      refine step (Runs.assign A rfl) A rfl ?_; clear A a; intro a A
      refine wpList_nil ?_
      refine wp_seq ?_
      refine wp_region_lit ?_
      refine step (Runs.move A rfl) A rfl ?_; clear A a; intro a A
      refine step (Runs.move A rfl) A rfl ?_; clear A a; intro a A
      have H := (H.row_nil 170 3).perm (List.Perm.swap _ _ _)
      have H : St _ _ _ (pt b2 (scn s ((0 : Nat) : Int) (.slice none ([] : List Tok).length 0)) 244 :: row 170 3 none ([] : List Tok).length 0 (tokCells []) :: Lf) := H
      refine step_cloS A rfl rfl rfl (c_lexer_scanner_word (b := b2) (i := 0) (s := s) (ad := none) (c := 0) (toks := []) G (by omega) (by omega) (by decide)) H ?_
      rintro v5_2 a w m L' hm hpost A H
      have hM := hM.trans hm
      have hl1 := hl1.trans hm
      have G := G.mono hm
      rcases hpost with hpost | hpost
      · obtain ⟨hz, rfl, ad', c', rfl⟩ := hpost
        simp only [List.cons_append, List.nil_append] at H
        refine step (Runs.move A rfl) A rfl ?_; clear A a; intro a A
        refine stepG (dj := 17) rfl rfl rfl (Runs.move A rfl) A rfl ?_; clear A a; intro a A
        refine stepG (dj := 17) rfl rfl rfl (Runs.nilCheck A rfl) A rfl ?_; clear A a; intro a A
        refine stepG (dj := 17) rfl rfl rfl (Runs.fa A rfl) A rfl ?_; clear A a; intro a A
        refine stepG (dj := 17) rfl rfl rfl (Runs.ld1 A H rfl rfl) A rfl ?_; clear A a; intro a A
        refine stepG (dj := 17) rfl rfl rfl (Runs.move A rfl) A rfl ?_; clear A a; intro a A
        refine stepG (dj := 17) rfl rfl rfl (Runs.lenS A rfl StrC.h) A rfl ?_; clear A a; intro a A
        refine stepG (dj := 17) rfl rfl rfl (Runs.eql A rfl rfl) A rfl ?_; clear A a; intro a A
        refine step (Runs.pickT A rfl rfl rfl) A rfl ?_; clear A a; intro a A
        refine wpList_nil ?_
        refine cond_split A rfl (fun h2 => ?_) (fun h2 => ?_)
        · have g2 := h2
          try simp only [decide_eq_true_eq, decide_eq_false_iff_not, Bool.not_eq_true', Bool.not_eq_false', ne_eq, Decidable.not_not, Int.not_lt, Int.not_le] at g2
          refine wp_seq ?_
          have H := H.perm (List.Perm.swap _ _ _)
          obtain ⟨_, hlc, _⟩ := H.row_len
          obtain ⟨g, cur, rfl, hxl, hnc, hcm, hcl, hct, H⟩ := H.row_block (by simp at hlc; omega)
          have hc0 := congrArg (fun l => l[0]?) hct
          simp only [List.getElem?_take_of_lt (show 0 < (([] : List Tok).length + 1) * 3 by decide), List.nil_append, tokCells, List.flatMap_cons, List.flatMap_nil, Tok.cells, List.append_nil, List.getElem?_cons_zero] at hc0
          refine wp_region_lit ?_
          refine step (Runs.move A rfl) A rfl ?_; clear A a; intro a A
          refine step (Runs.nilCheck A rfl) A rfl ?_; clear A a; intro a A
          refine step (Runs.fa A rfl) A rfl ?_; clear A a; intro a A
          refine step (Runs.ld1 A H rfl (scn_tok _ _ _)) A rfl ?_; clear A a; intro a A
          refine step (Runs.indexAddr A rfl rfl SlC.h (by omega) (by omega)) A rfl ?_; clear A a; intro a A
          refine step (Runs.fa A rfl) A rfl ?_; clear A a; intro a A
          refine step (Runs.ld1 A H rfl (v := .int .i64 (wkind (s.extract 0 (0 + wl s 0)))) (by simpa using hc0)) A rfl ?_; clear A a; intro a A
          refine step (Runs.assign A rfl) A rfl ?_; clear A a; intro a A
          refine wpList_nil ?_
          refine wp_ret ?_
          refine retF A rfl rfl hM H ?_
          have h2 : (0 : Int) + (wl s 0 : Int) = s.size := by first | exact g2 | exact g3 | exact g4
          unfold kindP
          rw [if_pos ⟨hz, by omega⟩]
        · have g2 := h2
          try simp only [decide_eq_true_eq, decide_eq_false_iff_not, Bool.not_eq_true', Bool.not_eq_false', ne_eq, Decidable.not_not, Int.not_lt, Int.not_le] at g2
          refine wp_skip ?_
          refine wp_region_lit ?_
          refine step (Runs.add A rfl rfl (by omega)) A rfl ?_; clear A a; intro a A
          refine step (Runs.move A rfl) A rfl ?_; clear A a; intro a A
          refine wpList_nil ?_
          have q0 : ¬ (wkind (s.extract 0 (0 + wl s 0)) ≠ 0 ∧ wl s 0 = s.size) := fun h => by omega
          have q1 : 1 < j + 1 → ¬ (sgn s 0 ≠ 0 ∧ sgn s 0 = s.size) := fun h => absurd h (by omega)
          exact ⟨_, by omega, j + 1, m, rfl, ⟨by omega, fun _ => q0, q1⟩, hl1, (Fr.cons A rfl (Fr.cons A rfl (Fr.cons A rfl (Fr.nil A)))), H.subH⟩
      · obtain ⟨hz, rfl, rfl⟩ := hpost
        simp only [List.cons_append, List.nil_append] at H
        have q0 : ¬ (wkind (s.extract 0 (0 + wl s 0)) ≠ 0 ∧ wl s 0 = s.size) := fun h => h.1 hz
        have q1 : 1 < j + 1 → ¬ (sgn s 0 ≠ 0 ∧ sgn s 0 = s.size) := fun h => absurd h (by omega)
        refine step (Runs.move A rfl) A rfl ?_; clear A a; intro a A
        refine stepSkip (dj := 17) rfl rfl rfl A rfl ?_; clear A a; intro a A
        refine stepSkip (dj := 17) rfl rfl rfl A rfl ?_; clear A a; intro a A
        refine stepSkip (dj := 17) rfl rfl rfl A rfl ?_; clear A a; intro a A
        refine stepSkip (dj := 17) rfl rfl rfl A rfl ?_; clear A a; intro a A
        refine stepSkip (dj := 17) rfl rfl rfl A rfl ?_; clear A a; intro a A
        refine stepSkip (dj := 17) rfl rfl rfl A rfl ?_; clear A a; intro a A
        refine stepSkip (dj := 17) rfl rfl rfl A rfl ?_; clear A a; intro a A
        refine step (Runs.pickF A rfl rfl rfl) A rfl ?_; clear A a; intro a A
        refine wpList_nil ?_
        refine cond_false A rfl rfl ?_
        refine wp_skip ?_
        refine wp_region_lit ?_
        refine step (Runs.add A rfl rfl (by omega)) A rfl ?_; clear A a; intro a A
        refine step (Runs.move A rfl) A rfl ?_; clear A a; intro a A
        refine wpList_nil ?_
        skip
        exact ⟨_, by omega, j + 1, m, rfl, ⟨by omega, fun _ => q0, q1⟩, hl1, (Fr.cons A rfl (Fr.cons A rfl (Fr.cons A rfl (Fr.nil A)))), H.subH⟩
    · refine wpList_nil ?_
      refine wp_seq ?_
      refine wp_region_lit ?_
      refine step (Runs.move A rfl) A rfl ?_; clear A a; intro a A
      refine step_callF A rfl rfl (c_lexer_classOf) H ?_
      rintro v4_1 a w m hm rfl A H
      have hM := hM.trans hm
      have hl1 := hl1.trans hm
      have G := G.mono hm
      refine step (Runs.build A rfl rfl (scn_fill s)) A rfl ?_; clear A a; intro a A
      refine step_box A H rfl (by simp only [Value.cells, List.toList_toArray]; rfl) rfl ?_; intro b2 a w A H
      refine step (Runs.assign A rfl) A rfl ?_; clear A a; intro a A
      refine wpList_nil ?_
      refine wp_seq ?_
      refine wp_region_lit ?_
      refine step (Runs.move A rfl) A rfl ?_; clear A a; intro a A
      refine step (Runs.move A rfl) A rfl ?_; clear A a; intro a A
      have H := (H.row_nil 170 3).perm (List.Perm.swap _ _ _)
      have H : St _ _ _ (pt b2 (scn s ((0 : Nat) : Int) (.slice none ([] : List Tok).length 0)) 244 :: row 170 3 none ([] : List Tok).length 0 (tokCells []) :: Lf) := H
      refine step_cloS A rfl rfl rfl (c_lexer_scanner_sign (b := b2) (i := 0) (s := s) (ad := none) (c := 0) (toks := []) (by omega) (by omega) (by decide)) H ?_
      rintro v5_2 a w m L' hm hpost A H
      have hM := hM.trans hm
      have hl1 := hl1.trans hm
      have G := G.mono hm
      rcases hpost with hpost | hpost
      · obtain ⟨hz, rfl, ad', c', rfl⟩ := hpost
        simp only [List.cons_append, List.nil_append] at H
        refine step (Runs.move A rfl) A rfl ?_; clear A a; intro a A
        refine stepG (dj := 17) rfl rfl rfl (Runs.move A rfl) A rfl ?_; clear A a; intro a A
        refine stepG (dj := 17) rfl rfl rfl (Runs.nilCheck A rfl) A rfl ?_; clear A a; intro a A
        refine stepG (dj := 17) rfl rfl rfl (Runs.fa A rfl) A rfl ?_; clear A a; intro a A
        refine stepG (dj := 17) rfl rfl rfl (Runs.ld1 A H rfl rfl) A rfl ?_; clear A a; intro a A
        refine stepG (dj := 17) rfl rfl rfl (Runs.move A rfl) A rfl ?_; clear A a; intro a A
        refine stepG (dj := 17) rfl rfl rfl (Runs.lenS A rfl StrC.h) A rfl ?_; clear A a; intro a A
        refine stepG (dj := 17) rfl rfl rfl (Runs.eql A rfl rfl) A rfl ?_; clear A a; intro a A
        refine step (Runs.pickT A rfl rfl rfl) A rfl ?_; clear A a; intro a A
        refine wpList_nil ?_
        refine cond_split A rfl (fun h3 => ?_) (fun h3 => ?_)
        · have g3 := h3
          try simp only [decide_eq_true_eq, decide_eq_false_iff_not, Bool.not_eq_true', Bool.not_eq_false', ne_eq, Decidable.not_not, Int.not_lt, Int.not_le] at g3
          refine wp_seq ?_
          have H := H.perm (List.Perm.swap _ _ _)
          obtain ⟨_, hlc, _⟩ := H.row_len
          obtain ⟨g, cur, rfl, hxl, hnc, hcm, hcl, hct, H⟩ := H.row_block (by simp at hlc; omega)
          have hc0 := congrArg (fun l => l[0]?) hct
          simp only [List.getElem?_take_of_lt (show 0 < (([] : List Tok).length + 1) * 3 by decide), List.nil_append, tokCells, List.flatMap_cons, List.flatMap_nil, Tok.cells, List.append_nil, List.getElem?_cons_zero] at hc0
          refine wp_region_lit ?_
          refine step (Runs.move A rfl) A rfl ?_; clear A a; intro a A
          refine step (Runs.nilCheck A rfl) A rfl ?_; clear A a; intro a A
          refine step (Runs.fa A rfl) A rfl ?_; clear A a; intro a A
          refine step (Runs.ld1 A H rfl (scn_tok _ _ _)) A rfl ?_; clear A a; intro a A
          refine step (Runs.indexAddr A rfl rfl SlC.h (by omega) (by omega)) A rfl ?_; clear A a; intro a A
          refine step (Runs.fa A rfl) A rfl ?_; clear A a; intro a A
          refine step (Runs.ld1 A H rfl (v := .int .i64 (3)) (by simpa using hc0)) A rfl ?_; clear A a; intro a A
          refine step (Runs.assign A rfl) A rfl ?_; clear A a; intro a A
          refine wpList_nil ?_
          refine wp_ret ?_
          refine retF A rfl rfl hM H ?_
          have h2 : (0 : Int) + (sgn s 0 : Int) = s.size := by first | exact g2 | exact g3 | exact g4
          unfold kindP
          rw [if_neg (hf0 (by omega)), if_pos ⟨hz, by omega⟩]
        · have g3 := h3
          try simp only [decide_eq_true_eq, decide_eq_false_iff_not, Bool.not_eq_true', Bool.not_eq_false', ne_eq, Decidable.not_not, Int.not_lt, Int.not_le] at g3
          refine wp_skip ?_
          refine wp_region_lit ?_
          refine step (Runs.add A rfl rfl (by omega)) A rfl ?_; clear A a; intro a A
          refine step (Runs.move A rfl) A rfl ?_; clear A a; intro a A
          refine wpList_nil ?_
          have q0 := hf0 (by omega)
          have q1 : 1 < j + 1 → ¬ (sgn s 0 ≠ 0 ∧ sgn s 0 = s.size) := fun _ h => by omega
          exact ⟨_, by omega, j + 1, m, rfl, ⟨by omega, fun _ => q0, q1⟩, hl1, (Fr.cons A rfl (Fr.cons A rfl (Fr.cons A rfl (Fr.nil A)))), H.subH⟩
      · obtain ⟨hz, rfl, rfl⟩ := hpost
        simp only [List.cons_append, List.nil_append] at H
        have q0 := hf0 (by omega)
        have q1 : 1 < j + 1 → ¬ (sgn s 0 ≠ 0 ∧ sgn s 0 = s.size) := fun _ h => h.1 hz
        refine step (Runs.move A rfl) A rfl ?_; clear A a; intro a A
        refine stepSkip (dj := 17) rfl rfl rfl A rfl ?_; clear A a; intro a A
        refine stepSkip (dj := 17) rfl rfl rfl A rfl ?_; clear A a; intro a A
        refine stepSkip (dj := 17) rfl rfl rfl A rfl ?_; clear A a; intro a A
        refine stepSkip (dj := 17) rfl rfl rfl A rfl ?_; clear A a; intro a A
        refine stepSkip (dj := 17) rfl rfl rfl A rfl ?_; clear A a; intro a A
        refine stepSkip (dj := 17) rfl rfl rfl A rfl ?_; clear A a; intro a A
        refine stepSkip (dj := 17) rfl rfl rfl A rfl ?_; clear A a; intro a A
        refine step (Runs.pickF A rfl rfl rfl) A rfl ?_; clear A a; intro a A
        refine wpList_nil ?_
        refine cond_false A rfl rfl ?_
        refine wp_skip ?_
        refine wp_region_lit ?_
        refine step (Runs.add A rfl rfl (by omega)) A rfl ?_; clear A a; intro a A
        refine step (Runs.move A rfl) A rfl ?_; clear A a; intro a A
        refine wpList_nil ?_
        skip
        exact ⟨_, by omega, j + 1, m, rfl, ⟨by omega, fun _ => q0, q1⟩, hl1, (Fr.cons A rfl (Fr.cons A rfl (Fr.cons A rfl (Fr.nil A)))), H.subH⟩
  · have g1 := h1
    try simp only [decide_eq_true_eq, decide_eq_false_iff_not, Bool.not_eq_true', Bool.not_eq_false', ne_eq, Decidable.not_not, Int.not_lt, Int.not_le] at g1
    refine wp_exit ?_
    refine wp_seq ?_
    refine wp_region_lit ?_
    refine step (Runs.assign A rfl) A rfl ?_; clear A a; intro a A
    refine wpList_nil ?_
    refine wp_ret ?_
    refine retF A rfl rfl hM H ?_
    unfold kindP
    rw [if_neg (hf0 (by omega)), if_neg (hf1 (by omega))]

theorem resV_nodup : (resV.map (·.1)).Nodup := by decide
theorem opsV_nodup : (opsV.map (·.1)).Nodup := by decide
theorem resV_get (s : ByteArray) : lookV resV s (.bool false) false = .bool (resB s) := by
  have h : mget resV s = if resB s then some (.bool true) else none := by
    unfold mget resV resB
    induction reservedL with
    | nil => rfl
    | cons k l ih =>
      simp only [List.map_cons, List.find?_cons, List.any_cons]
      by_cases hk : k = s
      · simp [hk]
      · simp only [hk, decide_false, Bool.false_or]; exact ih
  rw [lookV, h]
  cases resB s <;> rfl

theorem c_syntax_isName {s : ByteArray} {m : Mem} (G : Glob m) (hs : s.size ≤ 1000000000000) : Spec Tryz.prog 89 #[.string s] m [] (RetE (.bool (isNameB s))) := by
  refine Spec.enter0 Tryz.func89 rfl 12 Tryz.ntmps89 rfl fun a w0 Lf A H => ?_
  have hM := Le.refl m
  refine wp_seq ?_
  refine wp_region_lit ?_
  refine step (Runs.assign A rfl) A rfl ?_; clear A a; intro a A
  refine wpList_nil ?_
  refine wp_seq ?_
  refine wp_region_lit ?_
  refine step (Runs.move A rfl) A rfl ?_; clear A a; intro a A
  refine step_callF A rfl rfl (c_lexer_Kind G hs) H ?_
  rintro v1_1 a w m hm rfl A H
  have hM := hM.trans hm
  have G := G.mono hm
  refine step (Runs.eql A rfl rfl) A rfl ?_; clear A a; intro a A
  refine step (Runs.move A rfl) A rfl ?_; clear A a; intro a A
  refine onBool A (dj := 6) rfl (fun h1 => ?_) (fun h1 => ?_)
  · have g1 := h1
    try simp only [decide_eq_true_eq, decide_eq_false_iff_not, Bool.not_eq_true', Bool.not_eq_false', ne_eq, Decidable.not_not, Int.not_lt, Int.not_le] at g1
    obtain ⟨fe, ff, fr, hg0, hgm⟩ := G.res
    have hfz : Fz m _ _ := ⟨⟨_, _, hg0⟩⟩
    refine stepG (dj := 6) rfl rfl h1 (Runs.ld1 A H rfl rfl) A rfl ?_; clear A a; intro a A
    refine stepG (dj := 6) rfl rfl h1 (Runs.move A rfl) A rfl ?_; clear A a; intro a A
    refine stepG (dj := 6) rfl rfl h1 (Runs.look A H rfl rfl hgm resV_nodup) A rfl ?_; clear A a; intro a A
    rw [resV_get] at A
    refine stepG (dj := 6) rfl rfl h1 (Runs.not A rfl) A rfl ?_; clear A a; intro a A
    refine step (Runs.pickT A rfl h1 rfl) A rfl ?_; clear A a; intro a A
    refine step (Runs.assign A rfl) A rfl ?_; clear A a; intro a A
    refine wpList_nil ?_
    refine wp_ret ?_
    refine retF A rfl rfl hM H ?_
    rw [isNameB, h1]; rfl
  · have g1 := h1
    try simp only [decide_eq_true_eq, decide_eq_false_iff_not, Bool.not_eq_true', Bool.not_eq_false', ne_eq, Decidable.not_not, Int.not_lt, Int.not_le] at g1
    refine stepSkip (dj := 6) rfl rfl h1 A rfl ?_; clear A a; intro a A
    refine stepSkip (dj := 6) rfl rfl h1 A rfl ?_; clear A a; intro a A
    refine stepSkip (dj := 6) rfl rfl h1 A rfl ?_; clear A a; intro a A
    refine stepSkip (dj := 6) rfl rfl h1 A rfl ?_; clear A a; intro a A
    refine step (Runs.pickF A rfl h1 rfl) A rfl ?_; clear A a; intro a A
    refine step (Runs.assign A rfl) A rfl ?_; clear A a; intro a A
    refine wpList_nil ?_
    refine wp_ret ?_
    refine retF A rfl rfl hM H ?_
    rw [isNameB, h1]; rfl

theorem c_syntax_printer_name {b : Nat} {s : ByteArray} {m : Mem} (G : Glob m) (hs : s.size ≤ 1000000000000) : PrSpec Tryz.prog 61 [.pointer (some ⟨b, 0, none⟩), .string s] m b [] (nameP s) s.size (fun _ v => v = .tuple #[]) := by
  intro x B hB
  refine Spec.enter Tryz.func61 rfl 20 Tryz.ntmps61 rfl fun a w0 Lf A H => ?_
  simp only [List.cons_append, List.nil_append] at H
  have hM := Le.refl m
  obtain ⟨pa, ad, c, hpa, had, hlen, H⟩ := H.pr_open (b := b)
  refine wp_seq ?_
  refine wp_region_lit ?_
  refine step (Runs.move A rfl) A rfl ?_; clear A a; intro a A
  refine step (Runs.move A rfl) A rfl ?_; clear A a; intro a A
  refine step (Runs.nilCheck A rfl) A rfl ?_; clear A a; intro a A
  refine step (Runs.fa A rfl) A rfl ?_; clear A a; intro a A
  refine step (Runs.ld1 A H rfl rfl) A rfl ?_; clear A a; intro a A
  refine step (Runs.move A rfl) A rfl ?_; clear A a; intro a A
  refine joinSame 3 (fun F => (12, .bool (x.ok && isNameB s)) :: F) A H (fun key1 => ?_) ?_
  · have hJ1 := Le.refl m
    refine onBool A (dj := 9) rfl (fun h1 => ?_) (fun h1 => ?_)
    · have g1 := h1
      try simp only [decide_eq_true_eq, decide_eq_false_iff_not, Bool.not_eq_true', Bool.not_eq_false', ne_eq, Decidable.not_not, Int.not_lt, Int.not_le] at g1
      refine stepG (dj := 9) rfl rfl h1 (Runs.move A rfl) A rfl ?_; clear A a; intro a A
      refine step_callFG (dj := 9) rfl rfl h1 A rfl rfl (c_syntax_isName G (by omega)) H ?_
      rintro v0_7 a w m hm rfl A H
      have hM := hM.trans hm
      have hJ1 := hJ1.trans hm
      have G := G.mono hm
      refine step (Runs.pickT A rfl h1 rfl) A rfl ?_; clear A a; intro a A
      exact key1 _ _ _ hJ1 (Fr.with1 (Fr.suf A rfl) A rfl (by first | rfl | (simp [*]; done))) H.subH
    · have g1 := h1
      try simp only [decide_eq_true_eq, decide_eq_false_iff_not, Bool.not_eq_true', Bool.not_eq_false', ne_eq, Decidable.not_not, Int.not_lt, Int.not_le] at g1
      refine stepSkip (dj := 9) rfl rfl h1 A rfl ?_; clear A a; intro a A
      refine stepSkip (dj := 9) rfl rfl h1 A rfl ?_; clear A a; intro a A
      refine step (Runs.pickF A rfl h1 rfl) A rfl ?_; clear A a; intro a A
      exact key1 _ _ _ hJ1 (Fr.with1 (Fr.suf A rfl) A rfl (by first | rfl | (simp [*]; done))) H.subH
  clear A H; intro a w m hm A H
  have hM := hM.trans hm
  have G := G.mono hm
  refine step (Runs.nilCheck A rfl) A rfl ?_; clear A a; intro a A
  refine step (Runs.fa A rfl) A rfl ?_; clear A a; intro a A
  refine step_store A H rfl rfl rfl rfl rfl rfl ?_; intro w H
  refine wpList_nil ?_
  have H := H.pr_close hpa had hlen
  refine wp_region_lit ?_
  refine step (Runs.move A rfl) A rfl ?_; clear A a; intro a A
  refine step (Runs.nilCheck A rfl) A rfl ?_; clear A a; intro a A
  refine step (Runs.fa A rfl) A rfl ?_; clear A a; intro a A
  refine step (Runs.move A rfl) A rfl ?_; clear A a; intro a A
  refine step_callPr A rfl rfl (c_WriteString _ (Nat.le_refl _)) H (by omega) ?_
  clear A a; rintro v1_4 a w m hm rfl A H
  simp only [List.cons_append, List.nil_append] at H
  have hM := hM.trans hm
  have G := G.mono hm
  refine wpList_nil ?_
  exact endPr A rfl hM H rfl rfl (by omega)

theorem c_syntax_printer_number {b : Nat} {z : Int} {m : Mem} (G : Glob m) (hz : I64 z) : PrSpec Tryz.prog 130 [.pointer (some ⟨b, 0, none⟩), .int .i64 z] m b [] (numberP z) 21 (fun _ v => v = .tuple #[]) := by
  intro x B hB
  refine Spec.enter Tryz.func130 rfl 25 Tryz.ntmps130 rfl fun a w0 Lf A H => ?_
  simp only [List.cons_append, List.nil_append] at H
  have hM := Le.refl m
  obtain ⟨pa, ad, c, hpa, had, hlen, H⟩ := H.pr_open (b := b)
  obtain ⟨hz0, hz1⟩ := hz
  refine wp_seq ?_
  refine wp_region_lit ?_
  refine step (Runs.move A rfl) A rfl ?_; clear A a; intro a A
  refine step (Runs.move A rfl) A rfl ?_; clear A a; intro a A
  refine step (Runs.nilCheck A rfl) A rfl ?_; clear A a; intro a A
  refine step (Runs.fa A rfl) A rfl ?_; clear A a; intro a A
  refine step (Runs.ld1 A H rfl rfl) A rfl ?_; clear A a; intro a A
  refine step (Runs.move A rfl) A rfl ?_; clear A a; intro a A
  refine joinSame 7 (fun F => (16, .bool (x.ok && (decide (0 ≤ z) && decide (z ≤ 1000000)))) :: F) A H (fun key1 => ?_) ?_
  · have hJ1 := Le.refl m
    refine onBool A (dj := 9) rfl (fun h1 => ?_) (fun h1 => ?_)
    · have g1 := h1
      try simp only [decide_eq_true_eq, decide_eq_false_iff_not, Bool.not_eq_true', Bool.not_eq_false', ne_eq, Decidable.not_not, Int.not_lt, Int.not_le] at g1
      refine stepG (dj := 9) rfl rfl h1 (Runs.move A rfl) A rfl ?_; clear A a; intro a A
      refine stepG (dj := 9) rfl rfl h1 (Runs.geq A rfl rfl) A rfl ?_; clear A a; intro a A
      refine step (Runs.pickT A rfl h1 rfl) A rfl ?_; clear A a; intro a A
      refine step (Runs.move A rfl) A rfl ?_; clear A a; intro a A
      refine onBool A (dj := 13) rfl (fun h2 => ?_) (fun h2 => ?_)
      · have g2 := h2
        try simp only [decide_eq_true_eq, decide_eq_false_iff_not, Bool.not_eq_true', Bool.not_eq_false', ne_eq, Decidable.not_not, Int.not_lt, Int.not_le] at g2
        refine stepG (dj := 13) rfl rfl h2 (Runs.move A rfl) A rfl ?_; clear A a; intro a A
        refine stepG (dj := 13) rfl rfl h2 (Runs.leq A rfl rfl) A rfl ?_; clear A a; intro a A
        refine step (Runs.pickT A rfl h2 rfl) A rfl ?_; clear A a; intro a A
        exact key1 _ _ _ hJ1 (Fr.with1 (Fr.suf A rfl) A rfl (by first | rfl | (simp [*]; done))) H.subH
      · have g2 := h2
        try simp only [decide_eq_true_eq, decide_eq_false_iff_not, Bool.not_eq_true', Bool.not_eq_false', ne_eq, Decidable.not_not, Int.not_lt, Int.not_le] at g2
        refine stepSkip (dj := 13) rfl rfl h2 A rfl ?_; clear A a; intro a A
        refine stepSkip (dj := 13) rfl rfl h2 A rfl ?_; clear A a; intro a A
        refine step (Runs.pickF A rfl h2 rfl) A rfl ?_; clear A a; intro a A
        exact key1 _ _ _ hJ1 (Fr.with1 (Fr.suf A rfl) A rfl (by first | rfl | (simp [*]; done))) H.subH
    · have g1 := h1
      try simp only [decide_eq_true_eq, decide_eq_false_iff_not, Bool.not_eq_true', Bool.not_eq_false', ne_eq, Decidable.not_not, Int.not_lt, Int.not_le] at g1
      refine stepSkip (dj := 9) rfl rfl h1 A rfl ?_; clear A a; intro a A
      refine stepSkip (dj := 9) rfl rfl h1 A rfl ?_; clear A a; intro a A
      refine step (Runs.pickF A rfl h1 rfl) A rfl ?_; clear A a; intro a A
      refine step (Runs.move A rfl) A rfl ?_; clear A a; intro a A
      refine stepSkip (dj := 13) rfl rfl rfl A rfl ?_; clear A a; intro a A
      refine stepSkip (dj := 13) rfl rfl rfl A rfl ?_; clear A a; intro a A
      refine step (Runs.pickF A rfl rfl rfl) A rfl ?_; clear A a; intro a A
      exact key1 _ _ _ hJ1 (Fr.with1 (Fr.suf A rfl) A rfl (by first | rfl | (simp [*]; done))) H.subH
  clear A H; intro a w m hm A H
  have hM := hM.trans hm
  have G := G.mono hm
  refine step (Runs.nilCheck A rfl) A rfl ?_; clear A a; intro a A
  refine step (Runs.fa A rfl) A rfl ?_; clear A a; intro a A
  refine step_store A H rfl rfl rfl rfl rfl rfl ?_; intro w H
  refine wpList_nil ?_
  have H := H.pr_close hpa had hlen
  refine draw_begin (ms := m) (Ls := []) (by kernel_rfl) (N := 6) rfl (by kernel_rfl) H ?_; clear H; intro w H hR
  have hS : SW m [] w := H.sw (Le.refl m)
  have hL := Le.refl m
  refine dstep hR (i := 0) rfl (by kernel_rfl) (fun _ _ _ h => h) (fun _ _ H' => (Runs.move A rfl)) A rfl hS ?_; clear A a hR; intro a A hR
  refine dstep hR (i := 1) rfl (by kernel_rfl) (fun _ _ _ h => h) (fun _ _ H' => (Runs.nilCheck A rfl)) A rfl hS ?_; clear A a hR; intro a A hR
  refine dstep hR (i := 2) rfl (by kernel_rfl) (fun _ _ _ h => h) (fun _ _ H' => (Runs.fa A rfl)) A rfl hS ?_; clear A a hR; intro a A hR
  refine dstep hR (i := 3) rfl (by kernel_rfl) (fun _ _ _ h => h) (fun _ _ H' => (Runs.move A rfl)) A rfl hS ?_; clear A a hR; intro a A hR
  refine dlist hR (i := 4) rfl (by kernel_rfl) ?_
  have hR := hR.next (i := 4) (by kernel_rfl)
  refine step_callF A rfl rfl (c_Itoa G (by omega) (by omega)) H ?_
  rintro v1_4 a w m hm rfl A H
  have hM := hM.trans hm
  have G := G.mono hm
  have hL := hL.trans hm
  refine wpList_nil ?_
  clear hS; refine and_keep (H.sw hL) fun hS => ?_
  refine dlist hR (i := 5) rfl (by kernel_rfl) ?_
  have hR := hR.next (i := 5) (by kernel_rfl)
  refine step_callPr A rfl rfl (c_WriteString 21 (by change (Lib.itoa z).toArray.size ≤ 21; rw [List.size_toArray]; exact Lib.itoa_length_le z hz0 hz1)) H (by omega) ?_
  clear A a; rintro v1_5 a w m hm rfl A H
  simp only [List.cons_append, List.nil_append] at H
  have hM := hM.trans hm
  have G := G.mono hm
  have hL := hL.trans hm
  refine wpList_nil ?_
  clear hS; refine and_keep (H.sw hL) fun hS => ?_
  refine draw_done hR (by kernel_rfl) ?_
  clear hS hL hR
  exact endPr A rfl hM H rfl rfl (by omega)
end Sl
end Go.Proofs.YtanhehbfbakdcaaGreatDoor
