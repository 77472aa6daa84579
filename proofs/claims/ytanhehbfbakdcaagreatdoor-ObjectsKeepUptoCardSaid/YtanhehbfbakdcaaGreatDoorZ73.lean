/- The printer's items: printed by my gen.py out of annotations. -/
import Derived.Test.YtanhehbfbakdcaaGreatDoorZ72
/- Kind, isName, and the printer's small methods: printed by my gen.py out of annotations. -/
set_option linter.unusedSimpArgs false
set_option linter.unusedVariables false
namespace Go.Proofs.YtanhehbfbakdcaaGreatDoor
namespace Sl
open Go

theorem c_lexer_Kind {s : ByteArray} {m : Mem} (G : Glob m) (hs : s.size ≤ 1000000000000) : Spec Tryz.prog 129 #[.string s] m [] (RetE (.int .i64 (kindP s))) := by
  refine Spec.enter0 Tryz.func129 rfl 34 Tryz.ntmps129 rfl fun a w0 Lf A H => ?_
  have hM := Le.refl m
  refine wp_seq ?_
  refine wp_region_lit ?_
  refine step (Runs.assign A rfl) A rfl ?_; clear A a; intro a A
  refine wpList_nil ?_
  refine wp_seq ?_
  refine wp_seq ?_
  refine wp_region_lit ?_
  refine step (Runs.buildArr A rfl rfl rfl) A rfl ?_; clear A a; intro a A
  refine step (Runs.move A rfl) A rfl ?_; clear A a; intro a A
  refine wpList_nil ?_
  refine wp_block ?_
  refine wp_loop_ghost (fun q a w => ∃ (j : Nat) (m' : Mem), q = 3 - j ∧ (j ≤ 2 ∧ (0 < j → ¬ (wkind (s.extract 0 (0 + wl s 0)) ≠ 0 ∧ wl s 0 = s.size)) ∧ (1 < j → ¬ (sgn s 0 ≠ 0 ∧ sgn s 0 = s.size))) ∧ Le m m' ∧ Fr 34 a [(0, .string s), (6, .agg #[.func (.func 148) #[] #[], .func (.func 149) #[] #[]]), (7, .int .i64 j)] [] ∧ St w0 w m' (Lf)) _ ⟨0, m, rfl, ⟨by omega, fun h => absurd h (by omega), fun h => absurd h (by omega)⟩, Le.refl m, (Fr.cons A rfl (Fr.cons A rfl (Fr.cons A rfl (Fr.nil A)))), H⟩ ?_
  clear A H; rintro q a w ⟨j, m, rfl, hinv, hm, A, H⟩
  have hM := hM.trans hm
  have G := G.mono hm
  have hl1 := hm
  obtain ⟨hj, hf0, hf1⟩ := hinv
  refine wp_seq ?_
  refine wp_region_lit ?_
  refine step (Runs.lss A rfl rfl) A rfl ?_; clear A a; intro a A
  refine wpList_nil ?_
  refine wp_seq ?_
  refine cond_split A rfl (fun h1 => ?_) (fun h1 => ?_)
  · have g1 := h1
    try simp only [decide_eq_true_eq, decide_eq_false_iff_not, Bool.not_eq_true', Bool.not_eq_false', ne_eq, Decidable.not_not, Int.not_lt, Int.not_le] at g1
    refine wp_skip ?_
    refine wp_seq ?_
    refine wp_block ?_
    refine wp_seq ?_
    refine wp_region_lit ?_
    obtain ⟨fv, hfv, hcase⟩ : ∃ v, ([.func (.func 148) #[] #[], .func (.func 149) #[] #[]] : List Value)[j]? = some v ∧ (j = 0 ∧ v = .func (.func 148) #[] #[] ∨ j = 1 ∧ v = .func (.func 149) #[] #[]) := by
      have : j = 0 ∨ j = 1 := by omega
      rcases this with rfl | rfl
      · exact ⟨_, rfl, .inl ⟨rfl, rfl⟩⟩
      · exact ⟨_, rfl, .inr ⟨rfl, rfl⟩⟩
    refine step (Runs.indexArrV A rfl rfl (v := fv) (by omega) (by omega) (by simpa using hfv)) A rfl ?_; clear A a; intro a A
    refine step (Runs.assign A rfl) A rfl ?_; clear A a; intro a A
    rcases hcase with ⟨hj0, rfl⟩ | ⟨hj0, rfl⟩
    · refine wpList_nil ?_
      refine wp_seq ?_
      refine wp_region_lit ?_
      refine step (Runs.move A rfl) A rfl ?_; clear A a; intro a A
      refine step_callF A rfl rfl (c_lexer_classOf) H ?_
      rintro v4_1 a w m hm rfl A H
      have hM := hM.trans hm
      have hl1 := hl1.trans hm
      have G := G.mono hm
      refine step (Runs.build A rfl rfl (scn_fill s)) A rfl ?_; clear A a; intro a A
      refine step_box A H rfl (by simp only [Value.cells, List.toList_toArray]; rfl) rfl ?_; intro b2 a w A H
      refine step (Runs.assign A rfl) A rfl ?_; clear A a; intro a A
      refine wpList_nil ?_
      refine wp_seq ?_
      refine wp_region_lit ?_
      refine step (Runs.move A rfl) A rfl ?_; clear A a; intro a A
      refine step (Runs.move A rfl) A rfl ?_; clear A a; intro a A
      have H := (H.row_nil 170 3).perm (List.Perm.swap _ _ _)
      have H : St _ _ _ (pt b2 (scn s ((0 : Nat) : Int) (.slice none ([] : List Tok).length 0)) 244 :: row 170 3 none ([] : List Tok).length 0 (tokCells []) :: Lf) := H
      refine step_cloS A rfl rfl rfl (c_lexer_scanner_word (b := b2) (i := 0) (s := s) (ad := none) (c := 0) (toks := []) G (by omega) (by omega) (by decide)) H ?_
      rintro v5_2 a w m L' hm hpost A H
      have hM := hM.trans hm
      have hl1 := hl1.trans hm
      have G := G.mono hm
      rcases hpost with hpost | hpost
      · obtain ⟨hz, rfl, ad', c', rfl⟩ := hpost
        simp only [List.cons_append, List.nil_append] at H
        refine step (Runs.move A rfl) A rfl ?_; clear A a; intro a A
        refine stepG (dj := 17) rfl rfl rfl (Runs.move A rfl) A rfl ?_; clear A a; intro a A
        refine stepG (dj := 17) rfl rfl rfl (Runs.nilCheck A rfl) A rfl ?_; clear A a; intro a A
        refine stepG (dj := 17) rfl rfl rfl (Runs.fa A rfl) A rfl ?_; clear A a; intro a A
        refine stepG (dj := 17) rfl rfl rfl (Runs.ld1 A H rfl rfl) A rfl ?_; clear A a; intro a A
        refine stepG (dj := 17) rfl rfl rfl (Runs.move A rfl) A rfl ?_; clear A a; intro a A
        refine stepG (dj := 17) rfl rfl rfl (Runs.lenS A rfl StrC.h) A rfl ?_; clear A a; intro a A
        refine stepG (dj := 17) rfl rfl rfl (Runs.eql A rfl rfl) A rfl ?_; clear A a; intro a A
        refine step (Runs.pickT A rfl rfl rfl) A rfl ?_; clear A a; intro a A
        refine wpList_nil ?_
        refine cond_split A rfl (fun h2 => ?_) (fun h2 => ?_)
        · have g2 := h2
          try simp only [decide_eq_true_eq, decide_eq_false_iff_not, Bool.not_eq_true', Bool.not_eq_false', ne_eq, Decidable.not_not, Int.not_lt, Int.not_le] at g2
          refine wp_seq ?_
          have H := H.perm (List.Perm.swap _ _ _)
          obtain ⟨_, hlc, _⟩ := H.row_len
          obtain ⟨g, cur, rfl, hxl, hnc, hcm, hcl, hct, H⟩ := H.row_block (by simp at hlc; omega)
          have hc0 := congrArg (fun l => l[0]?) hct
          simp only [List.getElem?_take_of_lt (show 0 < (([] : List Tok).length + 1) * 3 by decide), List.nil_append, tokCells, List.flatMap_cons, List.flatMap_nil, Tok.cells, List.append_nil, List.getElem?_cons_zero] at hc0
          refine wp_region_lit ?_
          refine step (Runs.move A rfl) A rfl ?_; clear A a; intro a A
          refine step (Runs.nilCheck A rfl) A rfl ?_; clear A a; intro a A
          refine step (Runs.fa A rfl) A rfl ?_; clear A a; intro a A
          refine step (Runs.ld1 A H rfl (scn_tok _ _ _)) A rfl ?_; clear A a; intro a A
          refine step (Runs.indexAddr A rfl rfl SlC.h (by omega) (by omega)) A rfl ?_; clear A a; intro a A
          refine step (Runs.fa A rfl) A rfl ?_; clear A a; intro a A
          refine step (Runs.ld1 A H rfl (v := .int .i64 (wkind (s.extract 0 (0 + wl s 0)))) (by simpa using hc0)) A rfl ?_; clear A a; intro a A
          refine step (Runs.assign A rfl) A rfl ?_; clear A a; intro a A
          refine wpList_nil ?_
          refine wp_ret ?_
          refine retF A rfl rfl hM H ?_
          have h2 : (0 : Int) + (wl s 0 : Int) = s.size := by first | exact g2 | exact g3 | exact g4
          unfold kindP
          rw [if_pos ⟨hz, by omega⟩]
        · have g2 := h2
          try simp only [decide_eq_true_eq, decide_eq_false_iff_not, Bool.not_eq_true', Bool.not_eq_false', ne_eq, Decidable.not_not, Int.not_lt, Int.not_le] at g2
          refine wp_skip ?_
          refine wp_region_lit ?_
          refine step (Runs.add A rfl rfl (by omega)) A rfl ?_; clear A a; intro a A
          refine step (Runs.move A rfl) A rfl ?_; clear A a; intro a A
          refine wpList_nil ?_
          have q0 : ¬ (wkind (s.extract 0 (0 + wl s 0)) ≠ 0 ∧ wl s 0 = s.size) := fun h => by omega
          have q1 : 1 < j + 1 → ¬ (sgn s 0 ≠ 0 ∧ sgn s 0 = s.size) := fun h => absurd h (by omega)
          exact ⟨_, by omega, j + 1, m, rfl, ⟨by omega, fun _ => q0, q1⟩, hl1, (Fr.cons A rfl (Fr.cons A rfl (Fr.cons A rfl (Fr.nil A)))), H.subH⟩
      · obtain ⟨hz, rfl, rfl⟩ := hpost
        simp only [List.cons_append, List.nil_append] at H
        have q0 : ¬ (wkind (s.extract 0 (0 + wl s 0)) ≠ 0 ∧ wl s 0 = s.size) := fun h => h.1 hz
        have q1 : 1 < j + 1 → ¬ (sgn s 0 ≠ 0 ∧ sgn s 0 = s.size) := fun h => absurd h (by omega)
        refine step (Runs.move A rfl) A rfl ?_; clear A a; intro a A
        refine stepSkip (dj := 17) rfl rfl rfl A rfl ?_; clear A a; intro a A
        refine stepSkip (dj := 17) rfl rfl rfl A rfl ?_; clear A a; intro a A
        refine stepSkip (dj := 17) rfl rfl rfl A rfl ?_; clear A a; intro a A
        refine stepSkip (dj := 17) rfl rfl rfl A rfl ?_; clear A a; intro a A
        refine stepSkip (dj := 17) rfl rfl rfl A rfl ?_; clear A a; intro a A
        refine stepSkip (dj := 17) rfl rfl rfl A rfl ?_; clear A a; intro a A
        refine stepSkip (dj := 17) rfl rfl rfl A rfl ?_; clear A a; intro a A
        refine step (Runs.pickF A rfl rfl rfl) A rfl ?_; clear A a; intro a A
        refine wpList_nil ?_
        refine cond_false A rfl rfl ?_
        refine wp_skip ?_
        refine wp_region_lit ?_
        refine step (Runs.add A rfl rfl (by omega)) A rfl ?_; clear A a; intro a A
        refine step (Runs.move A rfl) A rfl ?_; clear A a; intro a A
        refine wpList_nil ?_
        skip
        exact ⟨_, by omega, j + 1, m, rfl, ⟨by omega, fun _ => q0, q1⟩, hl1, (Fr.cons A rfl (Fr.cons A rfl (Fr.cons A rfl (Fr.nil A)))), H.subH⟩
    · refine wpList_nil ?_
      refine wp_seq ?_
      refine wp_region_lit ?_
      refine step (Runs.move A rfl) A rfl ?_; clear A a; intro a A
      refine step_callF A rfl rfl (c_lexer_classOf) H ?_
      rintro v4_1 a w m hm rfl A H
      have hM := hM.trans hm
      have hl1 := hl1.trans hm
      have G := G.mono hm
      refine step (Runs.build A rfl rfl (scn_fill s)) A rfl ?_; clear A a; intro a A
      refine step_box A H rfl (by simp only [Value.cells, List.toList_toArray]; rfl) rfl ?_; intro b2 a w A H
      refine step (Runs.assign A rfl) A rfl ?_; clear A a; intro a A
      refine wpList_nil ?_
      refine wp_seq ?_
      refine wp_region_lit ?_
      refine step (Runs.move A rfl) A rfl ?_; clear A a; intro a A
      refine step (Runs.move A rfl) A rfl ?_; clear A a; intro a A
      have H := (H.row_nil 170 3).perm (List.Perm.swap _ _ _)
      have H : St _ _ _ (pt b2 (scn s ((0 : Nat) : Int) (.slice none ([] : List Tok).length 0)) 244 :: row 170 3 none ([] : List Tok).length 0 (tokCells []) :: Lf) := H
      refine step_cloS A rfl rfl rfl (c_lexer_scanner_sign (b := b2) (i := 0) (s := s) (ad := none) (c := 0) (toks := []) (by omega) (by omega) (by decide)) H ?_
      rintro v5_2 a w m L' hm hpost A H
      have hM := hM.trans hm
      have hl1 := hl1.trans hm
      have G := G.mono hm
      rcases hpost with hpost | hpost
      · obtain ⟨hz, rfl, ad', c', rfl⟩ := hpost
        simp only [List.cons_append, List.nil_append] at H
        refine step (Runs.move A rfl) A rfl ?_; clear A a; intro a A
        refine stepG (dj := 17) rfl rfl rfl (Runs.move A rfl) A rfl ?_; clear A a; intro a A
        refine stepG (dj := 17) rfl rfl rfl (Runs.nilCheck A rfl) A rfl ?_; clear A a; intro a A
        refine stepG (dj := 17) rfl rfl rfl (Runs.fa A rfl) A rfl ?_; clear A a; intro a A
        refine stepG (dj := 17) rfl rfl rfl (Runs.ld1 A H rfl rfl) A rfl ?_; clear A a; intro a A
        refine stepG (dj := 17) rfl rfl rfl (Runs.move A rfl) A rfl ?_; clear A a; intro a A
        refine stepG (dj := 17) rfl rfl rfl (Runs.lenS A rfl StrC.h) A rfl ?_; clear A a; intro a A
        refine stepG (dj := 17) rfl rfl rfl (Runs.eql A rfl rfl) A rfl ?_; clear A a; intro a A
        refine step (Runs.pickT A rfl rfl rfl) A rfl ?_; clear A a; intro a A
        refine wpList_nil ?_
        refine cond_split A rfl (fun h3 => ?_) (fun h3 => ?_)
        · have g3 := h3
          try simp only [decide_eq_true_eq, decide_eq_false_iff_not, Bool.not_eq_true', Bool.not_eq_false', ne_eq, Decidable.not_not, Int.not_lt, Int.not_le] at g3
          refine wp_seq ?_
          have H := H.perm (List.Perm.swap _ _ _)
          obtain ⟨_, hlc, _⟩ := H.row_len
          obtain ⟨g, cur, rfl, hxl, hnc, hcm, hcl, hct, H⟩ := H.row_block (by simp at hlc; omega)
          have hc0 := congrArg (fun l => l[0]?) hct
          simp only [List.getElem?_take_of_lt (show 0 < (([] : List Tok).length + 1) * 3 by decide), List.nil_append, tokCells, List.flatMap_cons, List.flatMap_nil, Tok.cells, List.append_nil, List.getElem?_cons_zero] at hc0
          refine wp_region_lit ?_
          refine step (Runs.move A rfl) A rfl ?_; clear A a; intro a A
          refine step (Runs.nilCheck A rfl) A rfl ?_; clear A a; intro a A
          refine step (Runs.fa A rfl) A rfl ?_; clear A a; intro a A
          refine step (Runs.ld1 A H rfl (scn_tok _ _ _)) A rfl ?_; clear A a; intro a A
          refine step (Runs.indexAddr A rfl rfl SlC.h (by omega) (by omega)) A rfl ?_; clear A a; intro a A
          refine step (Runs.fa A rfl) A rfl ?_; clear A a; intro a A
          refine step (Runs.ld1 A H rfl (v := .int .i64 (3)) (by simpa using hc0)) A rfl ?_; clear A a; intro a A
          refine step (Runs.assign A rfl) A rfl ?_; clear A a; intro a A
          refine wpList_nil ?_
          refine wp_ret ?_
          refine retF A rfl rfl hM H ?_
          have h2 : (0 : Int) + (sgn s 0 : Int) = s.size := by first | exact g2 | exact g3 | exact g4
          unfold kindP
          rw [if_neg (hf0 (by omega)), if_pos ⟨hz, by omega⟩]
        · have g3 := h3
          try simp only [decide_eq_true_eq, decide_eq_false_iff_not, Bool.not_eq_true', Bool.not_eq_false', ne_eq, Decidable.not_not, Int.not_lt, Int.not_le] at g3
          refine wp_skip ?_
          refine wp_region_lit ?_
          refine step (Runs.add A rfl rfl (by omega)) A rfl ?_; clear A a; intro a A
          refine step (Runs.move A rfl) A rfl ?_; clear A a; intro a A
          refine wpList_nil ?_
          have q0 := hf0 (by omega)
          have q1 : 1 < j + 1 → ¬ (sgn s 0 ≠ 0 ∧ sgn s 0 = s.size) := fun _ h => by omega
          exact ⟨_, by omega, j + 1, m, rfl, ⟨by omega, fun _ => q0, q1⟩, hl1, (Fr.cons A rfl (Fr.cons A rfl (Fr.cons A rfl (Fr.nil A)))), H.subH⟩
      · obtain ⟨hz, rfl, rfl⟩ := hpost
        simp only [List.cons_append, List.nil_append] at H
        have q0 := hf0 (by omega)
        have q1 : 1 < j + 1 → ¬ (sgn s 0 ≠ 0 ∧ sgn s 0 = s.size) := fun _ h => h.1 hz
        refine step (Runs.move A rfl) A rfl ?_; clear A a; intro a A
        refine stepSkip (dj := 17) rfl rfl rfl A rfl ?_; clear A a; intro a A
        refine stepSkip (dj := 17) rfl rfl rfl A rfl ?_; clear A a; intro a A
        refine stepSkip (dj := 17) rfl rfl rfl A rfl ?_; clear A a; intro a A
        refine stepSkip (dj := 17) rfl rfl rfl A rfl ?_; clear A a; intro a A
        refine stepSkip (dj := 17) rfl rfl rfl A rfl ?_; clear A a; intro a A
        refine stepSkip (dj := 17) rfl rfl rfl A rfl ?_; clear A a; intro a A
        refine stepSkip (dj := 17) rfl rfl rfl A rfl ?_; clear A a; intro a A
        refine step (Runs.pickF A rfl rfl rfl) A rfl ?_; clear A a; intro a A
        refine wpList_nil ?_
        refine cond_false A rfl rfl ?_
        refine wp_skip ?_
        refine wp_region_lit ?_
        refine step (Runs.add A rfl rfl (by omega)) A rfl ?_; clear A a; intro a A
        refine step (Runs.move A rfl) A rfl ?_; clear A a; intro a A
        refine wpList_nil ?_
        skip
        exact ⟨_, by omega, j + 1, m, rfl, ⟨by omega, fun _ => q0, q1⟩, hl1, (Fr.cons A rfl (Fr.cons A rfl (Fr.cons A rfl (Fr.nil A)))), H.subH⟩
  · have g1 := h1
    try simp only [decide_eq_true_eq, decide_eq_false_iff_not, Bool.not_eq_true', Bool.not_eq_false', ne_eq, Decidable.not_not, Int.not_lt, Int.not_le] at g1
    refine wp_exit ?_
    refine wp_seq ?_
    refine wp_region_lit ?_
    refine step (Runs.assign A rfl) A rfl ?_; clear A a; intro a A
    refine wpList_nil ?_
    refine wp_ret ?_
    refine retF A rfl rfl hM H ?_
    unfold kindP
    rw [if_neg (hf0 (by omega)), if_neg (hf1 (by omega))]

theorem resV_nodup : (resV.map (·.1)).Nodup := by decide
theorem resV_get (s : ByteArray) : lookV resV s (.bool false) false = .bool (resB s) := by
  have h : mget resV s = if resB s then some (.bool true) else none := by
    unfold mget resV resB
    induction reservedL with
    | nil => rfl
    | cons k l ih =>
      simp only [List.map_cons, List.find?_cons, List.any_cons]
      by_cases hk : k = s
      · simp [hk]
      · simp only [hk, decide_false, Bool.false_or]; exact ih
  rw [lookV, h]
  cases resB s <;> rfl

theorem c_syntax_isName {s : ByteArray} {m : Mem} (G : Glob m) (hs : s.size ≤ 1000000000000) : Spec Tryz.prog 89 #[.string s] m [] (RetE (.bool (isNameB s))) := by
  refine Spec.enter0 Tryz.func89 rfl 12 Tryz.ntmps89 rfl fun a w0 Lf A H => ?_
  have hM := Le.refl m
  refine wp_seq ?_
  refine wp_region_lit ?_
  refine step (Runs.assign A rfl) A rfl ?_; clear A a; intro a A
  refine wpList_nil ?_
  refine wp_seq ?_
  refine wp_region_lit ?_
  refine step (Runs.move A rfl) A rfl ?_; clear A a; intro a A
  refine step_callF A rfl rfl (c_lexer_Kind G hs) H ?_
  rintro v1_1 a w m hm rfl A H
  have hM := hM.trans hm
  have G := G.mono hm
  refine step (Runs.eql A rfl rfl) A rfl ?_; clear A a; intro a A
  refine step (Runs.move A rfl) A rfl ?_; clear A a; intro a A
  refine onBool A (dj := 6) rfl (fun h1 => ?_) (fun h1 => ?_)
  · have g1 := h1
    try simp only [decide_eq_true_eq, decide_eq_false_iff_not, Bool.not_eq_true', Bool.not_eq_false', ne_eq, Decidable.not_not, Int.not_lt, Int.not_le] at g1
    obtain ⟨fe, ff, fr, hg0, hgm⟩ := G.res
    have hfz : Fz m _ _ := ⟨⟨_, _, hg0⟩⟩
    refine stepG (dj := 6) rfl rfl h1 (Runs.ld1 A H rfl rfl) A rfl ?_; clear A a; intro a A
    refine stepG (dj := 6) rfl rfl h1 (Runs.move A rfl) A rfl ?_; clear A a; intro a A
    refine stepG (dj := 6) rfl rfl h1 (Runs.look A H rfl rfl hgm resV_nodup) A rfl ?_; clear A a; intro a A
    rw [resV_get] at A
    refine stepG (dj := 6) rfl rfl h1 (Runs.not A rfl) A rfl ?_; clear A a; intro a A
    refine step (Runs.pickT A rfl h1 rfl) A rfl ?_; clear A a; intro a A
    refine step (Runs.assign A rfl) A rfl ?_; clear A a; intro a A
    refine wpList_nil ?_
    refine wp_ret ?_
    refine retF A rfl rfl hM H ?_
    rw [isNameB, h1]; rfl
  · have g1 := h1
    try simp only [decide_eq_true_eq, decide_eq_false_iff_not, Bool.not_eq_true', Bool.not_eq_false', ne_eq, Decidable.not_not, Int.not_lt, Int.not_le] at g1
    refine stepSkip (dj := 6) rfl rfl h1 A rfl ?_; clear A a; intro a A
    refine stepSkip (dj := 6) rfl rfl h1 A rfl ?_; clear A a; intro a A
    refine stepSkip (dj := 6) rfl rfl h1 A rfl ?_; clear A a; intro a A
    refine stepSkip (dj := 6) rfl rfl h1 A rfl ?_; clear A a; intro a A
    refine step (Runs.pickF A rfl h1 rfl) A rfl ?_; clear A a; intro a A
    refine step (Runs.assign A rfl) A rfl ?_; clear A a; intro a A
    refine wpList_nil ?_
    refine wp_ret ?_
    refine retF A rfl rfl hM H ?_
    rw [isNameB, h1]; rfl

theorem c_syntax_printer_name {b : Nat} {s : ByteArray} {m : Mem} (G : Glob m) (hs : s.size ≤ 1000000000000) : PrSpec Tryz.prog 61 [.pointer (some ⟨b, 0, none⟩), .string s] m b [] (nameP s) s.size (fun _ v => v = .tuple #[]) := by
  intro x B hB
  refine Spec.enter Tryz.func61 rfl 20 Tryz.ntmps61 rfl fun a w0 Lf A H => ?_
  simp only [List.cons_append, List.nil_append] at H
  have hM := Le.refl m
  obtain ⟨pa, ad, c, hpa, had, hlen, H⟩ := H.pr_open (b := b)
  refine wp_seq ?_
  refine wp_region_lit ?_
  refine step (Runs.move A rfl) A rfl ?_; clear A a; intro a A
  refine step (Runs.move A rfl) A rfl ?_; clear A a; intro a A
  refine step (Runs.nilCheck A rfl) A rfl ?_; clear A a; intro a A
  refine step (Runs.fa A rfl) A rfl ?_; clear A a; intro a A
  refine step (Runs.ld1 A H rfl rfl) A rfl ?_; clear A a; intro a A
  refine step (Runs.move A rfl) A rfl ?_; clear A a; intro a A
  refine joinSame 3 (fun F => (12, .bool (x.ok && isNameB s)) :: F) A H (fun key1 => ?_) ?_
  · have hJ1 := Le.refl m
    refine onBool A (dj := 9) rfl (fun h1 => ?_) (fun h1 => ?_)
    · have g1 := h1
      try simp only [decide_eq_true_eq, decide_eq_false_iff_not, Bool.not_eq_true', Bool.not_eq_false', ne_eq, Decidable.not_not, Int.not_lt, Int.not_le] at g1
      refine stepG (dj := 9) rfl rfl h1 (Runs.move A rfl) A rfl ?_; clear A a; intro a A
      refine step_callFG (dj := 9) rfl rfl h1 A rfl rfl (c_syntax_isName G (by omega)) H ?_
      rintro v0_7 a w m hm rfl A H
      have hM := hM.trans hm
      have hJ1 := hJ1.trans hm
      have G := G.mono hm
      refine step (Runs.pickT A rfl h1 rfl) A rfl ?_; clear A a; intro a A
      exact key1 _ _ _ hJ1 (Fr.with1 (Fr.suf A rfl) A rfl (by first | rfl | (simp [*]; done))) H.subH
    · have g1 := h1
      try simp only [decide_eq_true_eq, decide_eq_false_iff_not, Bool.not_eq_true', Bool.not_eq_false', ne_eq, Decidable.not_not, Int.not_lt, Int.not_le] at g1
      refine stepSkip (dj := 9) rfl rfl h1 A rfl ?_; clear A a; intro a A
      refine stepSkip (dj := 9) rfl rfl h1 A rfl ?_; clear A a; intro a A
      refine step (Runs.pickF A rfl h1 rfl) A rfl ?_; clear A a; intro a A
      exact key1 _ _ _ hJ1 (Fr.with1 (Fr.suf A rfl) A rfl (by first | rfl | (simp [*]; done))) H.subH
  clear A H; intro a w m hm A H
  have hM := hM.trans hm
  have G := G.mono hm
  refine step (Runs.nilCheck A rfl) A rfl ?_; clear A a; intro a A
  refine step (Runs.fa A rfl) A rfl ?_; clear A a; intro a A
  refine step_store A H rfl rfl rfl rfl rfl rfl ?_; intro w H
  refine wpList_nil ?_
  have H := H.pr_close hpa had hlen
  refine wp_region_lit ?_
  refine step (Runs.move A rfl) A rfl ?_; clear A a; intro a A
  refine step (Runs.nilCheck A rfl) A rfl ?_; clear A a; intro a A
  refine step (Runs.fa A rfl) A rfl ?_; clear A a; intro a A
  refine step (Runs.move A rfl) A rfl ?_; clear A a; intro a A
  refine step_callPr A rfl rfl (c_WriteString _ (Nat.le_refl _)) H (by omega) ?_
  clear A a; rintro v1_4 a w m hm rfl A H
  simp only [List.cons_append, List.nil_append] at H
  have hM := hM.trans hm
  have G := G.mono hm
  refine wpList_nil ?_
  exact endPr A rfl hM H rfl rfl (by omega)

theorem c_syntax_printer_number {b : Nat} {z : Int} {m : Mem} (G : Glob m) (hz : I64 z) : PrSpec Tryz.prog 130 [.pointer (some ⟨b, 0, none⟩), .int .i64 z] m b [] (numberP z) 21 (fun _ v => v = .tuple #[]) := by
  intro x B hB
  refine Spec.enter Tryz.func130 rfl 25 Tryz.ntmps130 rfl fun a w0 Lf A H => ?_
  simp only [List.cons_append, List.nil_append] at H
  have hM := Le.refl m
  obtain ⟨pa, ad, c, hpa, had, hlen, H⟩ := H.pr_open (b := b)
  obtain ⟨hz0, hz1⟩ := hz
  refine wp_seq ?_
  refine wp_region_lit ?_
  refine step (Runs.move A rfl) A rfl ?_; clear A a; intro a A
  refine step (Runs.move A rfl) A rfl ?_; clear A a; intro a A
  refine step (Runs.nilCheck A rfl) A rfl ?_; clear A a; intro a A
  refine step (Runs.fa A rfl) A rfl ?_; clear A a; intro a A
  refine step (Runs.ld1 A H rfl rfl) A rfl ?_; clear A a; intro a A
  refine step (Runs.move A rfl) A rfl ?_; clear A a; intro a A
  refine joinSame 7 (fun F => (16, .bool (x.ok && (decide (0 ≤ z) && decide (z ≤ 1000000)))) :: F) A H (fun key1 => ?_) ?_
  · have hJ1 := Le.refl m
    refine onBool A (dj := 9) rfl (fun h1 => ?_) (fun h1 => ?_)
    · have g1 := h1
      try simp only [decide_eq_true_eq, decide_eq_false_iff_not, Bool.not_eq_true', Bool.not_eq_false', ne_eq, Decidable.not_not, Int.not_lt, Int.not_le] at g1
      refine stepG (dj := 9) rfl rfl h1 (Runs.move A rfl) A rfl ?_; clear A a; intro a A
      refine stepG (dj := 9) rfl rfl h1 (Runs.geq A rfl rfl) A rfl ?_; clear A a; intro a A
      refine step (Runs.pickT A rfl h1 rfl) A rfl ?_; clear A a; intro a A
      refine step (Runs.move A rfl) A rfl ?_; clear A a; intro a A
      refine onBool A (dj := 13) rfl (fun h2 => ?_) (fun h2 => ?_)
      · have g2 := h2
        try simp only [decide_eq_true_eq, decide_eq_false_iff_not, Bool.not_eq_true', Bool.not_eq_false', ne_eq, Decidable.not_not, Int.not_lt, Int.not_le] at g2
        refine stepG (dj := 13) rfl rfl h2 (Runs.move A rfl) A rfl ?_; clear A a; intro a A
        refine stepG (dj := 13) rfl rfl h2 (Runs.leq A rfl rfl) A rfl ?_; clear A a; intro a A
        refine step (Runs.pickT A rfl h2 rfl) A rfl ?_; clear A a; intro a A
        exact key1 _ _ _ hJ1 (Fr.with1 (Fr.suf A rfl) A rfl (by first | rfl | (simp [*]; done))) H.subH
      · have g2 := h2
        try simp only [decide_eq_true_eq, decide_eq_false_iff_not, Bool.not_eq_true', Bool.not_eq_false', ne_eq, Decidable.not_not, Int.not_lt, Int.not_le] at g2
        refine stepSkip (dj := 13) rfl rfl h2 A rfl ?_; clear A a; intro a A
        refine stepSkip (dj := 13) rfl rfl h2 A rfl ?_; clear A a; intro a A
        refine step (Runs.pickF A rfl h2 rfl) A rfl ?_; clear A a; intro a A
        exact key1 _ _ _ hJ1 (Fr.with1 (Fr.suf A rfl) A rfl (by first | rfl | (simp [*]; done))) H.subH
    · have g1 := h1
      try simp only [decide_eq_true_eq, decide_eq_false_iff_not, Bool.not_eq_true', Bool.not_eq_false', ne_eq, Decidable.not_not, Int.not_lt, Int.not_le] at g1
      refine stepSkip (dj := 9) rfl rfl h1 A rfl ?_; clear A a; intro a A
      refine stepSkip (dj := 9) rfl rfl h1 A rfl ?_; clear A a; intro a A
      refine step (Runs.pickF A rfl h1 rfl) A rfl ?_; clear A a; intro a A
      refine step (Runs.move A rfl) A rfl ?_; clear A a; intro a A
      refine stepSkip (dj := 13) rfl rfl rfl A rfl ?_; clear A a; intro a A
      refine stepSkip (dj := 13) rfl rfl rfl A rfl ?_; clear A a; intro a A
      refine step (Runs.pickF A rfl rfl rfl) A rfl ?_; clear A a; intro a A
      exact key1 _ _ _ hJ1 (Fr.with1 (Fr.suf A rfl) A rfl (by first | rfl | (simp [*]; done))) H.subH
  clear A H; intro a w m hm A H
  have hM := hM.trans hm
  have G := G.mono hm
  refine step (Runs.nilCheck A rfl) A rfl ?_; clear A a; intro a A
  refine step (Runs.fa A rfl) A rfl ?_; clear A a; intro a A
  refine step_store A H rfl rfl rfl rfl rfl rfl ?_; intro w H
  refine wpList_nil ?_
  have H := H.pr_close hpa had hlen
  refine draw_begin (ms := m) (Ls := []) (by kernel_rfl) (N := 6) rfl (by kernel_rfl) H ?_; clear H; intro w H hR
  have hS : SW m [] w := H.sw (Le.refl m)
  have hL := Le.refl m
  refine dstep hR (i := 0) rfl (by kernel_rfl) (fun _ _ _ h => h) (fun _ _ H' => (Runs.move A rfl)) A rfl hS ?_; clear A a hR; intro a A hR
  refine dstep hR (i := 1) rfl (by kernel_rfl) (fun _ _ _ h => h) (fun _ _ H' => (Runs.nilCheck A rfl)) A rfl hS ?_; clear A a hR; intro a A hR
  refine dstep hR (i := 2) rfl (by kernel_rfl) (fun _ _ _ h => h) (fun _ _ H' => (Runs.fa A rfl)) A rfl hS ?_; clear A a hR; intro a A hR
  refine dstep hR (i := 3) rfl (by kernel_rfl) (fun _ _ _ h => h) (fun _ _ H' => (Runs.move A rfl)) A rfl hS ?_; clear A a hR; intro a A hR
  refine dlist hR (i := 4) rfl (by kernel_rfl) ?_
  have hR := hR.next (i := 4) (by kernel_rfl)
  refine step_callF A rfl rfl (c_Itoa G (by omega) (by omega)) H ?_
  rintro v1_4 a w m hm rfl A H
  have hM := hM.trans hm
  have G := G.mono hm
  have hL := hL.trans hm
  refine wpList_nil ?_
  clear hS; refine and_keep (H.sw hL) fun hS => ?_
  refine dlist hR (i := 5) rfl (by kernel_rfl) ?_
  have hR := hR.next (i := 5) (by kernel_rfl)
  refine step_callPr A rfl rfl (c_WriteString 21 (by change (Lib.itoa z).toArray.size ≤ 21; rw [List.size_toArray]; exact Lib.itoa_length_le z hz0 hz1)) H (by omega) ?_
  clear A a; rintro v1_5 a w m hm rfl A H
  simp only [List.cons_append, List.nil_append] at H
  have hM := hM.trans hm
  have G := G.mono hm
  have hL := hL.trans hm
  refine wpList_nil ?_
  clear hS; refine and_keep (H.sw hL) fun hS => ?_
  refine draw_done hR (by kernel_rfl) ?_
  clear hS hL hR
  exact endPr A rfl hM H rfl rfl (by omega)
end Sl
end Go.Proofs.YtanhehbfbakdcaaGreatDoor
/- The printer's methods num, zero, rule, and what they look up: printed by my gen.py out of annotations. -/
set_option linter.unusedSimpArgs false
set_option linter.unusedVariables false
namespace Go.Proofs.YtanhehbfbakdcaaGreatDoor
namespace Sl
open Go

theorem c_syntax_printer_num {b : Nat} {z : PNum} {m : Mem} (G : Glob m) (hz : I64 z.n) : PrSpec Tryz.prog 93 [.pointer (some ⟨b, 0, none⟩), .agg #[.int .i64 z.n, .string z.p]] m b [] (numP z) (z.p.size + 60) (fun _ v => v = .tuple #[]) := by
  intro x B hB
  refine Spec.enter Tryz.func93 rfl 53 Tryz.ntmps93 rfl fun a w0 Lf A H => ?_
  simp only [List.cons_append, List.nil_append] at H
  have hM := Le.refl m
  have hz' := hz
  obtain ⟨hz0, hz1⟩ := hz
  refine wp_seq ?_
  refine wp_region_lit ?_
  refine step_box A H rfl (by simp only [Value.cells, List.toList_toArray]; rfl) rfl ?_; intro b1 a w A H
  refine wpList_nil ?_
  refine wp_seq ?_
  refine wp_seq ?_
  refine wp_region_lit ?_
  refine step (Runs.fa A rfl) A rfl ?_; clear A a; intro a A
  refine step (Runs.ld1 A H rfl rfl) A rfl ?_; clear A a; intro a A
  refine step (Runs.seql A rfl rfl) A rfl ?_; clear A a; intro a A
  refine wpList_nil ?_
  refine cond_split A rfl (fun h1 => ?_) (fun h1 => ?_)
  · have g1 := h1
    try simp only [decide_eq_true_eq, decide_eq_false_iff_not, Bool.not_eq_true', Bool.not_eq_false', ne_eq, Decidable.not_not, Int.not_lt, Int.not_le] at g1
    refine wp_seq ?_
    refine wp_region_lit ?_
    refine step (Runs.move A rfl) A rfl ?_; clear A a; intro a A
    refine step (Runs.fa A rfl) A rfl ?_; clear A a; intro a A
    refine step (Runs.ld1 A H rfl rfl) A rfl ?_; clear A a; intro a A
    refine step_callPr A rfl rfl (c_syntax_printer_number G ⟨by omega, by omega⟩) H (by omega) ?_
    clear A a; rintro v2_3 a w m hm rfl A H
    simp only [List.cons_append, List.nil_append] at H
    have hM := hM.trans hm
    have G := G.mono hm
    refine wpList_nil ?_
    refine wp_ret ?_
    exact retPr A rfl hM H rfl (by rw [numP, if_pos g1]) (by omega)
  · have g1 := h1
    try simp only [decide_eq_true_eq, decide_eq_false_iff_not, Bool.not_eq_true', Bool.not_eq_false', ne_eq, Decidable.not_not, Int.not_lt, Int.not_le] at g1
    refine wp_skip ?_
    refine wp_seq ?_
    refine wp_region_lit ?_
    refine step (Runs.move A rfl) A rfl ?_; clear A a; intro a A
    refine step (Runs.fa A rfl) A rfl ?_; clear A a; intro a A
    refine step (Runs.ld1 A H rfl rfl) A rfl ?_; clear A a; intro a A
    refine step_callPr A rfl rfl (c_syntax_printer_name G (by omega)) H (by omega) ?_
    clear A a; rintro v3_3 a w m hm rfl A H
    simp only [List.cons_append, List.nil_append] at H
    have hM := hM.trans hm
    have G := G.mono hm
    refine wpList_nil ?_
    refine wp_block ?_
    refine wp_seq ?_
    refine wp_region_lit ?_
    refine step (Runs.fa A rfl) A rfl ?_; clear A a; intro a A
    refine step (Runs.ld1 A H rfl rfl) A rfl ?_; clear A a; intro a A
    refine step (Runs.gtr A rfl rfl) A rfl ?_; clear A a; intro a A
    refine step (Runs.assign A rfl) A rfl ?_; clear A a; intro a A
    refine wpList_nil ?_
    refine cond_split A rfl (fun h2 => ?_) (fun h2 => ?_)
    · have g2 := h2
      try simp only [decide_eq_true_eq, decide_eq_false_iff_not, Bool.not_eq_true', Bool.not_eq_false', ne_eq, Decidable.not_not, Int.not_lt, Int.not_le] at g2
      refine wp_seq ?_
      refine wp_region_lit ?_
      refine step (Runs.move A rfl) A rfl ?_; clear A a; intro a A
      refine step (Runs.nilCheck A rfl) A rfl ?_; clear A a; intro a A
      refine step (Runs.fa A rfl) A rfl ?_; clear A a; intro a A
      refine step_callPr A rfl rfl (c_WriteString 3 (by decide)) H (by omega) ?_
      clear A a; rintro v5_3 a w m hm rfl A H
      simp only [List.cons_append, List.nil_append] at H
      have hM := hM.trans hm
      have G := G.mono hm
      refine wpList_nil ?_
      refine wp_region_lit ?_
      refine step (Runs.move A rfl) A rfl ?_; clear A a; intro a A
      refine step (Runs.fa A rfl) A rfl ?_; clear A a; intro a A
      refine step (Runs.ld1 A H rfl rfl) A rfl ?_; clear A a; intro a A
      refine step_callPr A rfl rfl (c_syntax_printer_number G ⟨by omega, by omega⟩) H (by omega) ?_
      clear A a; rintro v6_3 a w m hm rfl A H
      simp only [List.cons_append, List.nil_append] at H
      have hM := hM.trans hm
      have G := G.mono hm
      refine wpList_nil ?_
      exact endPr A rfl hM H rfl (by rw [numP, if_neg g1, if_pos (show 0 < z.n by omega)]) (by omega)
    · have g2 := h2
      try simp only [decide_eq_true_eq, decide_eq_false_iff_not, Bool.not_eq_true', Bool.not_eq_false', ne_eq, Decidable.not_not, Int.not_lt, Int.not_le] at g2
      refine wp_seq ?_
      refine wp_region_lit ?_
      refine step (Runs.fa A rfl) A rfl ?_; clear A a; intro a A
      refine step (Runs.ld1 A H rfl rfl) A rfl ?_; clear A a; intro a A
      refine step (Runs.lss A rfl rfl) A rfl ?_; clear A a; intro a A
      refine step (Runs.assign A rfl) A rfl ?_; clear A a; intro a A
      refine wpList_nil ?_
      refine cond_split A rfl (fun h3 => ?_) (fun h3 => ?_)
      · have g3 := h3
        try simp only [decide_eq_true_eq, decide_eq_false_iff_not, Bool.not_eq_true', Bool.not_eq_false', ne_eq, Decidable.not_not, Int.not_lt, Int.not_le] at g3
        refine wp_seq ?_
        obtain ⟨pa, ad, c, hpa, had, hlen, H⟩ := H.pr_open (b := b)
        refine wp_region_lit ?_
        refine step (Runs.move A rfl) A rfl ?_; clear A a; intro a A
        refine step (Runs.move A rfl) A rfl ?_; clear A a; intro a A
        refine step (Runs.nilCheck A rfl) A rfl ?_; clear A a; intro a A
        refine step (Runs.fa A rfl) A rfl ?_; clear A a; intro a A
        refine step (Runs.ld1 A H rfl rfl) A rfl ?_; clear A a; intro a A
        refine step (Runs.move A rfl) A rfl ?_; clear A a; intro a A
        refine joinSame 4 (fun F => (40, .bool ((nameP z.p x).ok && decide (-1000000 ≤ z.n))) :: F) A H (fun key1 => ?_) ?_
        · have hJ1 := Le.refl m
          refine onBool A (dj := 36) rfl (fun h4 => ?_) (fun h4 => ?_)
          · have g4 := h4
            try simp only [decide_eq_true_eq, decide_eq_false_iff_not, Bool.not_eq_true', Bool.not_eq_false', ne_eq, Decidable.not_not, Int.not_lt, Int.not_le] at g4
            refine stepG (dj := 36) rfl rfl h4 (Runs.fa A rfl) A rfl ?_; clear A a; intro a A
            refine stepG (dj := 36) rfl rfl h4 (Runs.ld1 A H rfl rfl) A rfl ?_; clear A a; intro a A
            refine stepG (dj := 36) rfl rfl h4 (Runs.geq A rfl rfl) A rfl ?_; clear A a; intro a A
            refine step (Runs.pickT A rfl h4 rfl) A rfl ?_; clear A a; intro a A
            exact key1 _ _ _ hJ1 (Fr.with1 (Fr.suf A rfl) A rfl (by first | rfl | (simp [*]; done))) H.subH
          · have g4 := h4
            try simp only [decide_eq_true_eq, decide_eq_false_iff_not, Bool.not_eq_true', Bool.not_eq_false', ne_eq, Decidable.not_not, Int.not_lt, Int.not_le] at g4
            refine stepSkip (dj := 36) rfl rfl h4 A rfl ?_; clear A a; intro a A
            refine stepSkip (dj := 36) rfl rfl h4 A rfl ?_; clear A a; intro a A
            refine stepSkip (dj := 36) rfl rfl h4 A rfl ?_; clear A a; intro a A
            refine step (Runs.pickF A rfl h4 rfl) A rfl ?_; clear A a; intro a A
            exact key1 _ _ _ hJ1 (Fr.with1 (Fr.suf A rfl) A rfl (by first | rfl | (simp [*]; done))) H.subH
        clear A H; intro a w m hm A H
        have hM := hM.trans hm
        have G := G.mono hm
        refine step (Runs.nilCheck A rfl) A rfl ?_; clear A a; intro a A
        refine step (Runs.fa A rfl) A rfl ?_; clear A a; intro a A
        refine step_store A H rfl rfl rfl rfl rfl rfl ?_; intro w H
        refine wpList_nil ?_
        refine wp_seq ?_
        have H := H.pr_close hpa had hlen
        refine wp_region_lit ?_
        refine step (Runs.move A rfl) A rfl ?_; clear A a; intro a A
        refine step (Runs.nilCheck A rfl) A rfl ?_; clear A a; intro a A
        refine step (Runs.fa A rfl) A rfl ?_; clear A a; intro a A
        refine step_callPr A rfl rfl (c_WriteString 3 (by decide)) H (by omega) ?_
        clear A a; rintro v9_3 a w m hm rfl A H
        simp only [List.cons_append, List.nil_append] at H
        have hM := hM.trans hm
        have G := G.mono hm
        refine wpList_nil ?_
        refine wp_region_lit ?_
        refine step (Runs.move A rfl) A rfl ?_; clear A a; intro a A
        refine step (Runs.fa A rfl) A rfl ?_; clear A a; intro a A
        refine step (Runs.ld1 A H rfl rfl) A rfl ?_; clear A a; intro a A
        refine step (Runs.negW A rfl) A rfl ?_; clear A a; intro a A
        refine step (Runs.max2 A rfl rfl) A rfl ?_; clear A a; intro a A
        refine step_callPr A rfl rfl (c_syntax_printer_number G (I64_max z.n)) H (by omega) ?_
        clear A a; rintro v10_5 a w m hm rfl A H
        simp only [List.cons_append, List.nil_append] at H
        have hM := hM.trans hm
        have G := G.mono hm
        refine wpList_nil ?_
        exact endPr A rfl hM H rfl (by rw [numP, if_neg g1, if_neg (show ¬ 0 < z.n by omega), if_pos (show z.n < 0 by omega)]; rfl) (by omega)
      · have g3 := h3
        try simp only [decide_eq_true_eq, decide_eq_false_iff_not, Bool.not_eq_true', Bool.not_eq_false', ne_eq, Decidable.not_not, Int.not_lt, Int.not_le] at g3
        refine wp_skip ?_
        exact endPr A rfl hM H rfl (by rw [numP, if_neg g1, if_neg (show ¬ 0 < z.n by omega), if_neg (show ¬ z.n < 0 by omega)]) (by omega)

theorem c_syntax_none {z : PNum} {m : Mem} : Spec Tryz.prog 91 #[.agg #[.int .i64 z.n, .string z.p]] m [] (RetE (.bool (noneB z))) := by
  refine Spec.enter0 Tryz.func91 rfl 6 Tryz.ntmps91 rfl fun a w0 Lf A H => ?_
  have hM := Le.refl m
  refine wp_seq ?_
  refine wp_region_lit ?_
  refine step_box A H rfl (by simp only [Value.cells, List.toList_toArray]; rfl) rfl ?_; intro b1 a w A H
  refine step (Runs.assign A rfl) A rfl ?_; clear A a; intro a A
  refine wpList_nil ?_
  refine wp_seq ?_
  refine wp_region_lit ?_
  refine step (Runs.ldN A H rfl rfl) A rfl ?_; clear A a; intro a A
  refine step (Runs.build A rfl rfl rfl) A rfl ?_; clear A a; intro a A
  refine step (Runs.aeql A rfl rfl rfl rfl) A rfl ?_; clear A a; intro a A
  refine step (Runs.assign A rfl) A rfl ?_; clear A a; intro a A
  refine wpList_nil ?_
  refine wp_ret ?_
  exact retF A rfl rfl hM H (by simp [noneB, eqL, eqV])

theorem c_syntax_absent {e : Ex} {ad : Option Addr} {c : Nat} {m : Mem} : Spec Tryz.prog 92 #[.agg (exC e ad c).toArray] m [] (RetE (.bool (absentB e))) := by
  refine Spec.enter0 Tryz.func92 rfl 27 Tryz.ntmps92 rfl fun a w0 Lf A H => ?_
  have hM := Le.refl m
  refine wp_seq ?_
  refine wp_region_lit ?_
  refine step_box A H rfl (by simp only [Value.cells, List.toList_toArray]; rfl) rfl ?_; intro b1 a w A H
  refine step (Runs.assign A rfl) A rfl ?_; clear A a; intro a A
  refine wpList_nil ?_
  refine wp_seq ?_
  refine wp_region_lit ?_
  refine step (Runs.fa A rfl) A rfl ?_; clear A a; intro a A
  refine step (Runs.ld1 A H rfl rfl) A rfl ?_; clear A a; intro a A
  refine step (Runs.eql A rfl rfl) A rfl ?_; clear A a; intro a A
  refine step (Runs.move A rfl) A rfl ?_; clear A a; intro a A
  refine onBool A (dj := 6) rfl (fun h1 => ?_) (fun h1 => ?_)
  · have g1 := h1
    try simp only [decide_eq_true_eq, decide_eq_false_iff_not, Bool.not_eq_true', Bool.not_eq_false', ne_eq, Decidable.not_not, Int.not_lt, Int.not_le] at g1
    refine stepG (dj := 6) rfl rfl h1 (Runs.fa A rfl) A rfl ?_; clear A a; intro a A
    refine stepG (dj := 6) rfl rfl h1 (Runs.ld1 A H rfl rfl) A rfl ?_; clear A a; intro a A
    refine stepG (dj := 6) rfl rfl h1 (Runs.seql A rfl rfl) A rfl ?_; clear A a; intro a A
    refine step (Runs.pickT A rfl h1 rfl) A rfl ?_; clear A a; intro a A
    refine step (Runs.move A rfl) A rfl ?_; clear A a; intro a A
    refine onBool A (dj := 11) rfl (fun h2 => ?_) (fun h2 => ?_)
    · have g2 := h2
      try simp only [decide_eq_true_eq, decide_eq_false_iff_not, Bool.not_eq_true', Bool.not_eq_false', ne_eq, Decidable.not_not, Int.not_lt, Int.not_le] at g2
      refine stepG (dj := 11) rfl rfl h2 (Runs.fa A rfl) A rfl ?_; clear A a; intro a A
      refine stepG (dj := 11) rfl rfl h2 (Runs.ldN A H rfl rfl) A rfl ?_; clear A a; intro a A
      refine step_callFG (dj := 11) rfl rfl h2 A rfl rfl (c_syntax_none (z := e.k)) H ?_
      rintro v1_11 a w m hm rfl A H
      have hM := hM.trans hm
      refine step (Runs.pickT A rfl h2 rfl) A rfl ?_; clear A a; intro a A
      refine step (Runs.move A rfl) A rfl ?_; clear A a; intro a A
      refine onBool A (dj := 16) rfl (fun h3 => ?_) (fun h3 => ?_)
      · have g3 := h3
        try simp only [decide_eq_true_eq, decide_eq_false_iff_not, Bool.not_eq_true', Bool.not_eq_false', ne_eq, Decidable.not_not, Int.not_lt, Int.not_le] at g3
        refine stepG (dj := 16) rfl rfl h3 (Runs.fa A rfl) A rfl ?_; clear A a; intro a A
        refine stepG (dj := 16) rfl rfl h3 (Runs.ldN A H rfl rfl) A rfl ?_; clear A a; intro a A
        refine step_callFG (dj := 16) rfl rfl h3 A rfl rfl (c_syntax_none (z := e.w)) H ?_
        rintro v1_16 a w m hm rfl A H
        have hM := hM.trans hm
        refine step (Runs.pickT A rfl h3 rfl) A rfl ?_; clear A a; intro a A
        refine step (Runs.move A rfl) A rfl ?_; clear A a; intro a A
        refine onBool A (dj := 21) rfl (fun h4 => ?_) (fun h4 => ?_)
        · have g4 := h4
          try simp only [decide_eq_true_eq, decide_eq_false_iff_not, Bool.not_eq_true', Bool.not_eq_false', ne_eq, Decidable.not_not, Int.not_lt, Int.not_le] at g4
          refine stepG (dj := 21) rfl rfl h4 (Runs.fa A rfl) A rfl ?_; clear A a; intro a A
          refine stepG (dj := 21) rfl rfl h4 (Runs.ld1 A H rfl rfl) A rfl ?_; clear A a; intro a A
          refine stepG (dj := 21) rfl rfl h4 (Runs.lenL A rfl SlC.h) A rfl ?_; clear A a; intro a A
          refine stepG (dj := 21) rfl rfl h4 (Runs.eql A rfl rfl) A rfl ?_; clear A a; intro a A
          refine step (Runs.pickT A rfl h4 rfl) A rfl ?_; clear A a; intro a A
          refine step (Runs.assign A rfl) A rfl ?_; clear A a; intro a A
          refine wpList_nil ?_
          refine wp_ret ?_
          exact retF A rfl rfl hM H (by simp [absentB, *])
        · have g4 := h4
          try simp only [decide_eq_true_eq, decide_eq_false_iff_not, Bool.not_eq_true', Bool.not_eq_false', ne_eq, Decidable.not_not, Int.not_lt, Int.not_le] at g4
          refine stepSkip (dj := 21) rfl rfl h4 A rfl ?_; clear A a; intro a A
          refine stepSkip (dj := 21) rfl rfl h4 A rfl ?_; clear A a; intro a A
          refine stepSkip (dj := 21) rfl rfl h4 A rfl ?_; clear A a; intro a A
          refine stepSkip (dj := 21) rfl rfl h4 A rfl ?_; clear A a; intro a A
          refine step (Runs.pickF A rfl h4 rfl) A rfl ?_; clear A a; intro a A
          refine step (Runs.assign A rfl) A rfl ?_; clear A a; intro a A
          refine wpList_nil ?_
          refine wp_ret ?_
          exact retF A rfl rfl hM H (by simp [absentB, *])
      · have g3 := h3
        try simp only [decide_eq_true_eq, decide_eq_false_iff_not, Bool.not_eq_true', Bool.not_eq_false', ne_eq, Decidable.not_not, Int.not_lt, Int.not_le] at g3
        refine stepSkip (dj := 16) rfl rfl h3 A rfl ?_; clear A a; intro a A
        refine stepSkip (dj := 16) rfl rfl h3 A rfl ?_; clear A a; intro a A
        refine stepSkip (dj := 16) rfl rfl h3 A rfl ?_; clear A a; intro a A
        refine step (Runs.pickF A rfl h3 rfl) A rfl ?_; clear A a; intro a A
        refine step (Runs.move A rfl) A rfl ?_; clear A a; intro a A
        refine stepSkip (dj := 21) rfl rfl rfl A rfl ?_; clear A a; intro a A
        refine stepSkip (dj := 21) rfl rfl rfl A rfl ?_; clear A a; intro a A
        refine stepSkip (dj := 21) rfl rfl rfl A rfl ?_; clear A a; intro a A
        refine stepSkip (dj := 21) rfl rfl rfl A rfl ?_; clear A a; intro a A
        refine step (Runs.pickF A rfl rfl rfl) A rfl ?_; clear A a; intro a A
        refine step (Runs.assign A rfl) A rfl ?_; clear A a; intro a A
        refine wpList_nil ?_
        refine wp_ret ?_
        exact retF A rfl rfl hM H (by simp [absentB, *])
    · have g2 := h2
      try simp only [decide_eq_true_eq, decide_eq_false_iff_not, Bool.not_eq_true', Bool.not_eq_false', ne_eq, Decidable.not_not, Int.not_lt, Int.not_le] at g2
      refine stepSkip (dj := 11) rfl rfl h2 A rfl ?_; clear A a; intro a A
      refine stepSkip (dj := 11) rfl rfl h2 A rfl ?_; clear A a; intro a A
      refine stepSkip (dj := 11) rfl rfl h2 A rfl ?_; clear A a; intro a A
      refine step (Runs.pickF A rfl h2 rfl) A rfl ?_; clear A a; intro a A
      refine step (Runs.move A rfl) A rfl ?_; clear A a; intro a A
      refine stepSkip (dj := 16) rfl rfl rfl A rfl ?_; clear A a; intro a A
      refine stepSkip (dj := 16) rfl rfl rfl A rfl ?_; clear A a; intro a A
      refine stepSkip (dj := 16) rfl rfl rfl A rfl ?_; clear A a; intro a A
      refine step (Runs.pickF A rfl rfl rfl) A rfl ?_; clear A a; intro a A
      refine step (Runs.move A rfl) A rfl ?_; clear A a; intro a A
      refine stepSkip (dj := 21) rfl rfl rfl A rfl ?_; clear A a; intro a A
      refine stepSkip (dj := 21) rfl rfl rfl A rfl ?_; clear A a; intro a A
      refine stepSkip (dj := 21) rfl rfl rfl A rfl ?_; clear A a; intro a A
      refine stepSkip (dj := 21) rfl rfl rfl A rfl ?_; clear A a; intro a A
      refine step (Runs.pickF A rfl rfl rfl) A rfl ?_; clear A a; intro a A
      refine step (Runs.assign A rfl) A rfl ?_; clear A a; intro a A
      refine wpList_nil ?_
      refine wp_ret ?_
      exact retF A rfl rfl hM H (by simp [absentB, *])
  · have g1 := h1
    try simp only [decide_eq_true_eq, decide_eq_false_iff_not, Bool.not_eq_true', Bool.not_eq_false', ne_eq, Decidable.not_not, Int.not_lt, Int.not_le] at g1
    refine stepSkip (dj := 6) rfl rfl h1 A rfl ?_; clear A a; intro a A
    refine stepSkip (dj := 6) rfl rfl h1 A rfl ?_; clear A a; intro a A
    refine stepSkip (dj := 6) rfl rfl h1 A rfl ?_; clear A a; intro a A
    refine step (Runs.pickF A rfl h1 rfl) A rfl ?_; clear A a; intro a A
    refine step (Runs.move A rfl) A rfl ?_; clear A a; intro a A
    refine stepSkip (dj := 11) rfl rfl rfl A rfl ?_; clear A a; intro a A
    refine stepSkip (dj := 11) rfl rfl rfl A rfl ?_; clear A a; intro a A
    refine stepSkip (dj := 11) rfl rfl rfl A rfl ?_; clear A a; intro a A
    refine step (Runs.pickF A rfl rfl rfl) A rfl ?_; clear A a; intro a A
    refine step (Runs.move A rfl) A rfl ?_; clear A a; intro a A
    refine stepSkip (dj := 16) rfl rfl rfl A rfl ?_; clear A a; intro a A
    refine stepSkip (dj := 16) rfl rfl rfl A rfl ?_; clear A a; intro a A
    refine stepSkip (dj := 16) rfl rfl rfl A rfl ?_; clear A a; intro a A
    refine step (Runs.pickF A rfl rfl rfl) A rfl ?_; clear A a; intro a A
    refine step (Runs.move A rfl) A rfl ?_; clear A a; intro a A
    refine stepSkip (dj := 21) rfl rfl rfl A rfl ?_; clear A a; intro a A
    refine stepSkip (dj := 21) rfl rfl rfl A rfl ?_; clear A a; intro a A
    refine stepSkip (dj := 21) rfl rfl rfl A rfl ?_; clear A a; intro a A
    refine stepSkip (dj := 21) rfl rfl rfl A rfl ?_; clear A a; intro a A
    refine step (Runs.pickF A rfl rfl rfl) A rfl ?_; clear A a; intro a A
    refine step (Runs.assign A rfl) A rfl ?_; clear A a; intro a A
    refine wpList_nil ?_
    refine wp_ret ?_
    exact retF A rfl rfl hM H (by simp [absentB, *])

def MapRaw (m : Mem) (r : Nat) (es : Array MapEntry) (c : Nat) : Prop := m r = some (.map es c)
theorem MapRaw.mono {m m' : Mem} {r c : Nat} {es : Array MapEntry} (h : MapRaw m r es c) (k : Le m m') : MapRaw m' r es c := k _ _ h
theorem ops_ent {es : Array MapEntry} {e : MapEntry} (hp : (es.toList.map fun e => (e.key, e.val)).Perm (ment opsV)) (he : e ∈ es.toList) : ∃ s z, e.key = .string s ∧ e.val = .int .i64 z ∧ (s, z) ∈ opsL := by
  have : (e.key, e.val) ∈ ment opsV := hp.mem_iff.1 (List.mem_map.2 ⟨e, he, rfl⟩)
  obtain ⟨s, h1, h2⟩ := mem_ment.1 this
  obtain ⟨p, hp, h3⟩ := List.mem_map.1 h2
  simp only [Prod.mk.injEq] at h3
  exact ⟨s, p.2, h1, h3.2.symm, by rw [← h3.1]; exact hp⟩
theorem sign_of {s : ByteArray} {z : Int} (h : (s, z) ∈ opsL) : signP z = s := by
  have : ∀ p ∈ opsL, signP p.2 = p.1 := by decide
  exact this _ h
theorem sign_none {op : Int} (h : ∀ s, (s, op) ∉ opsL) : signP op = ⟨#[]⟩ := by
  have : (opsL.find? fun p => decide (p.2 = op)) = none := List.find?_eq_none.2 fun p hp h2 => h p.1 (by rw [← of_decide_eq_true h2]; exact hp)
  rw [signP, this]

theorem c_syntax_sign {op : Int} {m : Mem} (G : Glob m) : Spec Tryz.prog 133 #[.int .i64 op] m [] (RetE (.string (signP op))) := by
  refine Spec.enter0 Tryz.func133 rfl 16 Tryz.ntmps133 rfl fun a w0 Lf A H => ?_
  have hM := Le.refl m
  obtain ⟨fe, ff, fr, hg0, es, cc, hmr0, hperm, hnd, hbc⟩ := G.ops
  have hmr : MapRaw m fr es cc := hmr0
  have hfz : Fz m _ _ := ⟨⟨_, _, hg0⟩⟩
  refine wp_seq ?_
  refine wp_region_lit ?_
  refine step (Runs.assign A rfl) A rfl ?_; clear A a; intro a A
  refine wpList_nil ?_
  refine wp_seq ?_
  refine wp_seq ?_
  refine wp_region_lit ?_
  refine step (Runs.ld1 A H rfl rfl) A rfl ?_; clear A a; intro a A
  refine step_rangeM A H rfl hmr0 rfl ?_; clear A a; intro b1 a w A H
  refine wpList_nil ?_
  refine wp_block ?_
  have hmr := hmr
  refine wp_loop_ghost (fun q a w => ∃ (seen : Array Nat) (m' : Mem), q = (leftOf es seen).size ∧ (∀ e ∈ es.toList, seen.contains e.born = true → e.val ≠ .int .i64 op) ∧ Le m m' ∧ Fr 16 a [(0, .int .i64 op), (6, .pointer (some ⟨b1, 0, none⟩))] [] ∧ St w0 w m' (ob b1 (.mapIter (some fr) cc seen cc) :: Lf)) _ ⟨#[], m, rfl, fun e _ h => by simp at h, Le.refl m, (Fr.cons A rfl (Fr.cons A rfl (Fr.nil A))), H⟩ ?_
  clear A H; rintro q a w ⟨seen, m, rfl, hinv, hm, A, H⟩
  have hM := hM.trans hm
  have G := G.mono hm
  have hl1 := hm
  have hmr : MapRaw m fr es cc := by first | exact hmr.mono hm | exact hmr
  refine wp_seq ?_
  refine wp_region_lit ?_
  refine step_nextMap A H rfl hmr hbc rfl (fun e he hns hsh a w A H => ?_) (fun hall a A => ?_)
  skip
  · obtain ⟨s, z, hkey, hval, hin⟩ := ops_ent hperm he
    rw [hkey, hval] at A
    refine step (Runs.extract A rfl rfl) A rfl ?_; clear A a; intro a A
    refine wpList_nil ?_
    refine wp_seq ?_
    refine cond_true A rfl rfl ?_
    refine wp_skip ?_
    refine wp_block ?_
    refine wp_seq ?_
    refine wp_region_lit ?_
    refine step (Runs.entry A H rfl hmr he hnd) A rfl ?_; clear A a; intro a A
    rw [hkey, hval] at A
    refine step (Runs.extract A rfl rfl) A rfl ?_; clear A a; intro a A
    refine step (Runs.extract A rfl rfl) A rfl ?_; clear A a; intro a A
    refine step (Runs.assign A rfl) A rfl ?_; clear A a; intro a A
    refine step (Runs.assign A rfl) A rfl ?_; clear A a; intro a A
    refine wpList_nil ?_
    refine wp_seq ?_
    refine wp_region_lit ?_
    refine step (Runs.move A rfl) A rfl ?_; clear A a; intro a A
    refine step (Runs.move A rfl) A rfl ?_; clear A a; intro a A
    refine step (Runs.eql A rfl rfl) A rfl ?_; clear A a; intro a A
    refine wpList_nil ?_
    refine cond_split A rfl (fun h1 => ?_) (fun h1 => ?_)
    · have g1 := h1
      try simp only [decide_eq_true_eq, decide_eq_false_iff_not, Bool.not_eq_true', Bool.not_eq_false', ne_eq, Decidable.not_not, Int.not_lt, Int.not_le] at g1
      refine wp_seq ?_
      refine wp_region_lit ?_
      refine step (Runs.move A rfl) A rfl ?_; clear A a; intro a A
      refine step (Runs.assign A rfl) A rfl ?_; clear A a; intro a A
      refine wpList_nil ?_
      refine wp_ret ?_
      exact retF A rfl rfl hM H (by rw [← g1, sign_of hin])
    · have g1 := h1
      try simp only [decide_eq_true_eq, decide_eq_false_iff_not, Bool.not_eq_true', Bool.not_eq_false', ne_eq, Decidable.not_not, Int.not_lt, Int.not_le] at g1
      refine wp_skip ?_
      have h2n : ¬ z = op := g1
      exact ⟨_, hsh, seen.push e.born, m, rfl, fun e' he' hs => by
        rw [contains_push, Bool.or_eq_true] at hs
        rcases hs with hs | hs
        · exact hinv e' he' hs
        · have : e' = e := born_inj hnd he' he (by simpa using hs)
          subst this; rw [hval]; intro hh; cases hh; exact h2n rfl, hl1, (Fr.cons A rfl (Fr.cons A rfl (Fr.nil A))), H⟩
  · refine step (Runs.extract A rfl rfl) A rfl ?_; clear A a; intro a A
    refine wpList_nil ?_
    refine wp_seq ?_
    refine cond_false A rfl rfl ?_
    refine wp_exit ?_
    refine wp_seq ?_
    refine wp_region_lit ?_
    refine step (Runs.assign A rfl) A rfl ?_; clear A a; intro a A
    refine wpList_nil ?_
    refine wp_ret ?_
    have hno : ∀ s, (s, op) ∉ opsL := fun s hs => by
      have h9 : ((.string s : Value), (.int .i64 op : Value)) ∈ ment opsV := mem_ment.2 ⟨_, rfl, List.mem_map.2 ⟨_, hs, rfl⟩⟩
      obtain ⟨e, he, hee⟩ := List.mem_map.1 (hperm.mem_iff.2 h9)
      simp only [Prod.mk.injEq] at hee
      exact hinv e he (hall e he) hee.2
    exact retF A rfl rfl hM H (by rw [sign_none hno])

theorem c_syntax_arity {op : Int} {m : Mem} (G : Glob m) : Spec Tryz.prog 131 #[.int .i64 op] m [] (RetE (.int .i64 (arityP op))) := by
  refine Spec.enter0 Tryz.func131 rfl 17 Tryz.ntmps131 rfl fun a w0 Lf A H => ?_
  have hM := Le.refl m
  refine wp_seq ?_
  refine wp_region_lit ?_
  refine step (Runs.assign A rfl) A rfl ?_; clear A a; intro a A
  refine wpList_nil ?_
  refine wp_seq ?_
  refine wp_seq ?_
  refine wp_region_lit ?_
  refine step (Runs.move A rfl) A rfl ?_; clear A a; intro a A
  refine wpList_nil ?_
  refine wp_block ?_
  refine wp_seq ?_
  refine wp_seq ?_
  refine wp_region_lit ?_
  refine step (Runs.eql A rfl rfl) A rfl ?_; clear A a; intro a A
  refine step (Runs.assign A rfl) A rfl ?_; clear A a; intro a A
  refine wpList_nil ?_
  refine cond_split A rfl (fun h1 => ?_) (fun h1 => ?_)
  · have g1 := h1
    try simp only [decide_eq_true_eq, decide_eq_false_iff_not, Bool.not_eq_true', Bool.not_eq_false', ne_eq, Decidable.not_not, Int.not_lt, Int.not_le] at g1
    refine wp_skip ?_
    refine cond_true A rfl h1 ?_
    refine wp_seq ?_
    refine wp_region_lit ?_
    refine step (Runs.assign A rfl) A rfl ?_; clear A a; intro a A
    refine wpList_nil ?_
    refine wp_ret ?_
    exact retF A rfl rfl hM H (by simp [arityP, *])
  · have g1 := h1
    try simp only [decide_eq_true_eq, decide_eq_false_iff_not, Bool.not_eq_true', Bool.not_eq_false', ne_eq, Decidable.not_not, Int.not_lt, Int.not_le] at g1
    refine wp_region_lit ?_
    refine step (Runs.eql A rfl rfl) A rfl ?_; clear A a; intro a A
    refine step (Runs.assign A rfl) A rfl ?_; clear A a; intro a A
    refine wpList_nil ?_
    refine cond_split A rfl (fun h2 => ?_) (fun h2 => ?_)
    · have g2 := h2
      try simp only [decide_eq_true_eq, decide_eq_false_iff_not, Bool.not_eq_true', Bool.not_eq_false', ne_eq, Decidable.not_not, Int.not_lt, Int.not_le] at g2
      refine wp_seq ?_
      refine wp_region_lit ?_
      refine step (Runs.assign A rfl) A rfl ?_; clear A a; intro a A
      refine wpList_nil ?_
      refine wp_ret ?_
      exact retF A rfl rfl hM H (by simp [arityP, *])
    · have g2 := h2
      try simp only [decide_eq_true_eq, decide_eq_false_iff_not, Bool.not_eq_true', Bool.not_eq_false', ne_eq, Decidable.not_not, Int.not_lt, Int.not_le] at g2
      refine wp_seq ?_
      refine wp_seq ?_
      refine wp_region_lit ?_
      refine step (Runs.eql A rfl rfl) A rfl ?_; clear A a; intro a A
      refine step (Runs.assign A rfl) A rfl ?_; clear A a; intro a A
      refine wpList_nil ?_
      refine cond_split A rfl (fun h3 => ?_) (fun h3 => ?_)
      · have g3 := h3
        try simp only [decide_eq_true_eq, decide_eq_false_iff_not, Bool.not_eq_true', Bool.not_eq_false', ne_eq, Decidable.not_not, Int.not_lt, Int.not_le] at g3
        refine wp_skip ?_
        refine cond_true A rfl h3 ?_
        refine wp_seq ?_
        refine wp_region_lit ?_
        refine step (Runs.assign A rfl) A rfl ?_; clear A a; intro a A
        refine wpList_nil ?_
        refine wp_ret ?_
        exact retF A rfl rfl hM H (by simp [arityP, *])
      · have g3 := h3
        try simp only [decide_eq_true_eq, decide_eq_false_iff_not, Bool.not_eq_true', Bool.not_eq_false', ne_eq, Decidable.not_not, Int.not_lt, Int.not_le] at g3
        refine wp_seq ?_
        refine wp_region_lit ?_
        refine step (Runs.eql A rfl rfl) A rfl ?_; clear A a; intro a A
        refine step (Runs.assign A rfl) A rfl ?_; clear A a; intro a A
        refine wpList_nil ?_
        refine cond_split A rfl (fun h4 => ?_) (fun h4 => ?_)
        · have g4 := h4
          try simp only [decide_eq_true_eq, decide_eq_false_iff_not, Bool.not_eq_true', Bool.not_eq_false', ne_eq, Decidable.not_not, Int.not_lt, Int.not_le] at g4
          refine wp_skip ?_
          refine cond_true A rfl h4 ?_
          refine wp_seq ?_
          refine wp_region_lit ?_
          refine step (Runs.assign A rfl) A rfl ?_; clear A a; intro a A
          refine wpList_nil ?_
          refine wp_ret ?_
          exact retF A rfl rfl hM H (by simp [arityP, *])
        · have g4 := h4
          try simp only [decide_eq_true_eq, decide_eq_false_iff_not, Bool.not_eq_true', Bool.not_eq_false', ne_eq, Decidable.not_not, Int.not_lt, Int.not_le] at g4
          refine wp_seq ?_
          refine wp_region_lit ?_
          refine step (Runs.eql A rfl rfl) A rfl ?_; clear A a; intro a A
          refine step (Runs.assign A rfl) A rfl ?_; clear A a; intro a A
          refine wpList_nil ?_
          refine cond_split A rfl (fun h5 => ?_) (fun h5 => ?_)
          · have g5 := h5
            try simp only [decide_eq_true_eq, decide_eq_false_iff_not, Bool.not_eq_true', Bool.not_eq_false', ne_eq, Decidable.not_not, Int.not_lt, Int.not_le] at g5
            refine wp_skip ?_
            refine cond_true A rfl h5 ?_
            refine wp_seq ?_
            refine wp_region_lit ?_
            refine step (Runs.assign A rfl) A rfl ?_; clear A a; intro a A
            refine wpList_nil ?_
            refine wp_ret ?_
            exact retF A rfl rfl hM H (by simp [arityP, *])
          · have g5 := h5
            try simp only [decide_eq_true_eq, decide_eq_false_iff_not, Bool.not_eq_true', Bool.not_eq_false', ne_eq, Decidable.not_not, Int.not_lt, Int.not_le] at g5
            refine wp_region_lit ?_
            refine step (Runs.eql A rfl rfl) A rfl ?_; clear A a; intro a A
            refine step (Runs.assign A rfl) A rfl ?_; clear A a; intro a A
            refine wpList_nil ?_
            refine cond_split A rfl (fun h6 => ?_) (fun h6 => ?_)
            · have g6 := h6
              try simp only [decide_eq_true_eq, decide_eq_false_iff_not, Bool.not_eq_true', Bool.not_eq_false', ne_eq, Decidable.not_not, Int.not_lt, Int.not_le] at g6
              refine wp_seq ?_
              refine wp_region_lit ?_
              refine step (Runs.assign A rfl) A rfl ?_; clear A a; intro a A
              refine wpList_nil ?_
              refine wp_ret ?_
              exact retF A rfl rfl hM H (by simp [arityP, *])
            · have g6 := h6
              try simp only [decide_eq_true_eq, decide_eq_false_iff_not, Bool.not_eq_true', Bool.not_eq_false', ne_eq, Decidable.not_not, Int.not_lt, Int.not_le] at g6
              refine wp_seq ?_
              refine wp_region_lit ?_
              refine step (Runs.eql A rfl rfl) A rfl ?_; clear A a; intro a A
              refine step (Runs.assign A rfl) A rfl ?_; clear A a; intro a A
              refine wpList_nil ?_
              refine cond_split A rfl (fun h7 => ?_) (fun h7 => ?_)
              · have g7 := h7
                try simp only [decide_eq_true_eq, decide_eq_false_iff_not, Bool.not_eq_true', Bool.not_eq_false', ne_eq, Decidable.not_not, Int.not_lt, Int.not_le] at g7
                refine wp_seq ?_
                refine wp_region_lit ?_
                refine step (Runs.assign A rfl) A rfl ?_; clear A a; intro a A
                refine wpList_nil ?_
                refine wp_ret ?_
                exact retF A rfl rfl hM H (by simp [arityP, *])
              · have g7 := h7
                try simp only [decide_eq_true_eq, decide_eq_false_iff_not, Bool.not_eq_true', Bool.not_eq_false', ne_eq, Decidable.not_not, Int.not_lt, Int.not_le] at g7
                refine wp_skip ?_
                refine wp_seq ?_
                refine wp_seq ?_
                refine wp_region_lit ?_
                refine step (Runs.move A rfl) A rfl ?_; clear A a; intro a A
                refine step_callF A rfl rfl (c_syntax_sign G) H ?_
                rintro v12_1 a w m hm rfl A H
                have hM := hM.trans hm
                have G := G.mono hm
                refine step (Runs.sneq A rfl rfl) A rfl ?_; clear A a; intro a A
                refine wpList_nil ?_
                refine cond_split A rfl (fun h8 => ?_) (fun h8 => ?_)
                · have g8 := h8
                  try simp only [decide_eq_true_eq, decide_eq_false_iff_not, Bool.not_eq_true', Bool.not_eq_false', ne_eq, Decidable.not_not, Int.not_lt, Int.not_le] at g8
                  refine wp_seq ?_
                  refine wp_region_lit ?_
                  refine step (Runs.assign A rfl) A rfl ?_; clear A a; intro a A
                  refine wpList_nil ?_
                  refine wp_ret ?_
                  exact retF A rfl rfl hM H (by simp [arityP, *])
                · have g8 := h8
                  try simp only [decide_eq_true_eq, decide_eq_false_iff_not, Bool.not_eq_true', Bool.not_eq_false', ne_eq, Decidable.not_not, Int.not_lt, Int.not_le] at g8
                  refine wp_skip ?_
                  refine wp_seq ?_
                  refine wp_region_lit ?_
                  refine step (Runs.assign A rfl) A rfl ?_; clear A a; intro a A
                  refine wpList_nil ?_
                  refine wp_ret ?_
                  exact retF A rfl rfl hM H (by simp [arityP, *])

theorem c_syntax_printer_zero {b bz n cz : Nat} {l : List Bool} {bcs : List Value} {m : Mem} (hb : bcs = l.map .bool) (hn : n = l.length) (hl : l.length ≤ 1000) : PrSpec Tryz.prog 90 [.pointer (some ⟨b, 0, none⟩), .slice (some ⟨bz, 0, none⟩) n cz] m b [pt bz bcs 4] (andOk (l.all id)) 0 (fun _ v => v = .tuple #[]) := by
  subst hb; subst hn
  intro x B hB
  refine Spec.enter Tryz.func90 rfl 23 Tryz.ntmps90 rfl fun a w0 Lf A H => ?_
  simp only [List.cons_append, List.nil_append] at H
  have hM := Le.refl m
  refine wp_seq ?_
  refine wp_region_lit ?_
  refine step (Runs.move A rfl) A rfl ?_; clear A a; intro a A
  refine step (Runs.lenL A rfl SlC.h) A rfl ?_; clear A a; intro a A
  refine step (Runs.move A rfl) A rfl ?_; clear A a; intro a A
  refine wpList_nil ?_
  refine wp_block ?_
  refine wp_loop_ghost (fun q a w => ∃ (i : Nat) (m' : Mem), q = l.length - i ∧ (i ≤ l.length) ∧ Le m m' ∧ Fr 23 a [(0, .pointer (some ⟨b, 0, none⟩)), (6, .slice (some ⟨bz, 0, none⟩) l.length cz), (7, .int .i64 l.length), (8, .int .i64 i)] [] ∧ St w0 w m' (prR b ⟨x.t, x.ok && (l.take i).all id⟩ B :: pt bz (l.map .bool) 4 :: Lf)) _ ⟨0, m, rfl, by omega, Le.refl m, (Fr.cons A rfl (Fr.cons A rfl (Fr.cons A rfl (Fr.cons A rfl (Fr.nil A))))), (H.pr_at (b := b) (y := ⟨x.t, x.ok && (l.take 0).all id⟩) (by simp)).subH⟩ ?_
  clear A H; rintro q a w ⟨i, m, rfl, hinv, hm, A, H⟩
  have hM := hM.trans hm
  have hl1 := hm
  have hi := hinv
  refine wp_seq ?_
  refine wp_region_lit ?_
  refine step (Runs.lss A rfl rfl) A rfl ?_; clear A a; intro a A
  refine wpList_nil ?_
  refine wp_seq ?_
  refine cond_split A rfl (fun h1 => ?_) (fun h1 => ?_)
  · have g1 := h1
    try simp only [decide_eq_true_eq, decide_eq_false_iff_not, Bool.not_eq_true', Bool.not_eq_false', ne_eq, Decidable.not_not, Int.not_lt, Int.not_le] at g1
    refine wp_skip ?_
    refine wp_seq ?_
    refine wp_block ?_
    refine wp_seq ?_
    refine wp_region_lit ?_
    obtain ⟨v, hv⟩ := ex_at (l := l) (i := i) (by omega)
    refine step (Runs.indexAddr A rfl rfl SlC.h (by omega) (by omega)) A rfl ?_; clear A a; intro a A
    refine step (Runs.ld1 A H rfl (v := .bool v) (by simp [hv])) A rfl ?_; clear A a; intro a A
    refine step (Runs.assign A rfl) A rfl ?_; clear A a; intro a A
    refine wpList_nil ?_
    obtain ⟨pa, ad, c, hpa, had, hlen, H⟩ := H.pr_open (b := b)
    refine wp_region_lit ?_
    refine step (Runs.move A rfl) A rfl ?_; clear A a; intro a A
    refine step (Runs.move A rfl) A rfl ?_; clear A a; intro a A
    refine step (Runs.nilCheck A rfl) A rfl ?_; clear A a; intro a A
    refine step (Runs.fa A rfl) A rfl ?_; clear A a; intro a A
    refine step (Runs.ld1 A H rfl rfl) A rfl ?_; clear A a; intro a A
    refine step (Runs.move A rfl) A rfl ?_; clear A a; intro a A
    refine joinSame 2 (fun F => (19, .bool (x.ok && (l.take (i + 1)).all id)) :: F) A H (fun key1 => ?_) ?_
    · have hJ1 := Le.refl m
      refine onBool A (dj := 17) rfl (fun h2 => ?_) (fun h2 => ?_)
      · have g2 := h2
        try simp only [decide_eq_true_eq, decide_eq_false_iff_not, Bool.not_eq_true', Bool.not_eq_false', ne_eq, Decidable.not_not, Int.not_lt, Int.not_le] at g2
        refine stepG (dj := 17) rfl rfl h2 (Runs.move A rfl) A rfl ?_; clear A a; intro a A
        refine step (Runs.pickT A rfl h2 rfl) A rfl ?_; clear A a; intro a A
        exact key1 _ _ _ hJ1 (Fr.with1 (Fr.suf A rfl) A rfl (by rw [all_take hv, ← Bool.and_assoc]; simp only [*]; rfl)) H.subH
      · have g2 := h2
        try simp only [decide_eq_true_eq, decide_eq_false_iff_not, Bool.not_eq_true', Bool.not_eq_false', ne_eq, Decidable.not_not, Int.not_lt, Int.not_le] at g2
        refine stepSkip (dj := 17) rfl rfl h2 A rfl ?_; clear A a; intro a A
        refine step (Runs.pickF A rfl h2 rfl) A rfl ?_; clear A a; intro a A
        exact key1 _ _ _ hJ1 (Fr.with1 (Fr.suf A rfl) A rfl (by rw [all_take hv, ← Bool.and_assoc]; simp only [*]; rfl)) H.subH
    clear A H; intro a w m hm A H
    have hM := hM.trans hm
    have hl1 := hl1.trans hm
    refine step (Runs.nilCheck A rfl) A rfl ?_; clear A a; intro a A
    refine step (Runs.fa A rfl) A rfl ?_; clear A a; intro a A
    refine step_store A H rfl rfl rfl rfl rfl rfl ?_; intro w H
    refine wpList_nil ?_
    refine wp_region_lit ?_
    refine step (Runs.add A rfl rfl (by omega)) A rfl ?_; clear A a; intro a A
    refine step (Runs.move A rfl) A rfl ?_; clear A a; intro a A
    refine wpList_nil ?_
    have H := H.pr_close hpa had hlen
    exact ⟨_, by omega, i + 1, m, rfl, by omega, hl1, (Fr.cons A rfl (Fr.cons A rfl (Fr.cons A rfl (Fr.cons A rfl (Fr.nil A))))), H.subH⟩
  · have g1 := h1
    try simp only [decide_eq_true_eq, decide_eq_false_iff_not, Bool.not_eq_true', Bool.not_eq_false', ne_eq, Decidable.not_not, Int.not_lt, Int.not_le] at g1
    refine wp_exit ?_
    have hil : i = l.length := by omega
    subst hil
    exact endPr A rfl hM H rfl (by rw [List.take_length]; rfl) (by omega)

theorem c_syntax_printer_rule {b : Nat} {r : PRule} {m : Mem} (G : Glob m) (hr : I64 r.n) : PrSpec Tryz.prog 99 [.pointer (some ⟨b, 0, none⟩), .agg #[.int .i64 r.kind, .string r.src, .int .i64 r.n]] m b [] (ruleP r) (r.src.size + 60) (fun _ v => v = .tuple #[]) := by
  intro x B hB
  refine Spec.enter Tryz.func99 rfl 68 Tryz.ntmps99 rfl fun a w0 Lf A H => ?_
  simp only [List.cons_append, List.nil_append] at H
  have hM := Le.refl m
  have hr' := hr
  refine wp_seq ?_
  refine wp_region_lit ?_
  refine step_box A H rfl (by simp only [Value.cells, List.toList_toArray]; rfl) rfl ?_; intro b1 a w A H
  refine wpList_nil ?_
  refine wp_seq ?_
  refine wp_region_lit ?_
  refine step (Runs.move A rfl) A rfl ?_; clear A a; intro a A
  refine step (Runs.fa A rfl) A rfl ?_; clear A a; intro a A
  refine step (Runs.ld1 A H rfl rfl) A rfl ?_; clear A a; intro a A
  refine step (Runs.seql A rfl rfl) A rfl ?_; clear A a; intro a A
  refine step (Runs.move A rfl) A rfl ?_; clear A a; intro a A
  refine joinSame 4 (fun F => (12, .bool (decide (r.src = ⟨#[]⟩) || decide (2 ≤ r.kind))) :: F) A H (fun key1 => ?_) ?_
  · have hJ1 := Le.refl m
    refine onBool A (dj := 8) rfl (fun h1 => ?_) (fun h1 => ?_)
    · have g1 := h1
      try simp only [decide_eq_true_eq, decide_eq_false_iff_not, Bool.not_eq_true', Bool.not_eq_false', ne_eq, Decidable.not_not, Int.not_lt, Int.not_le] at g1
      refine stepSkip (dj := 8) rfl rfl h1 A rfl ?_; clear A a; intro a A
      refine stepSkip (dj := 8) rfl rfl h1 A rfl ?_; clear A a; intro a A
      refine stepSkip (dj := 8) rfl rfl h1 A rfl ?_; clear A a; intro a A
      refine step (Runs.pickT A rfl h1 rfl) A rfl ?_; clear A a; intro a A
      exact key1 _ _ _ hJ1 (Fr.with1 (Fr.suf A rfl) A rfl (by first | rfl | (simp [*]; done))) H.subH
    · have g1 := h1
      try simp only [decide_eq_true_eq, decide_eq_false_iff_not, Bool.not_eq_true', Bool.not_eq_false', ne_eq, Decidable.not_not, Int.not_lt, Int.not_le] at g1
      refine stepG (dj := 8) rfl rfl h1 (Runs.fa A rfl) A rfl ?_; clear A a; intro a A
      refine stepG (dj := 8) rfl rfl h1 (Runs.ld1 A H rfl rfl) A rfl ?_; clear A a; intro a A
      refine stepG (dj := 8) rfl rfl h1 (Runs.geq A rfl rfl) A rfl ?_; clear A a; intro a A
      refine step (Runs.pickF A rfl h1 rfl) A rfl ?_; clear A a; intro a A
      exact key1 _ _ _ hJ1 (Fr.with1 (Fr.suf A rfl) A rfl (by first | rfl | (simp [*]; done))) H.subH
  clear A H; intro a w m hm A H
  have hM := hM.trans hm
  have G := G.mono hm
  refine step (Runs.fa A rfl) A rfl ?_; clear A a; intro a A
  refine step (Runs.ld1 A H rfl rfl) A rfl ?_; clear A a; intro a A
  refine step (Runs.eql A rfl rfl) A rfl ?_; clear A a; intro a A
  refine step (Runs.move A rfl) A rfl ?_; clear A a; intro a A
  refine joinSame 4 (fun F => (20, .bool (decide (r.n = 0) || decide (r.kind = 3))) :: F) A H (fun key2 => ?_) ?_
  · have hJ2 := Le.refl m
    refine onBool A (dj := 16) rfl (fun h2 => ?_) (fun h2 => ?_)
    · have g2 := h2
      try simp only [decide_eq_true_eq, decide_eq_false_iff_not, Bool.not_eq_true', Bool.not_eq_false', ne_eq, Decidable.not_not, Int.not_lt, Int.not_le] at g2
      refine stepSkip (dj := 16) rfl rfl h2 A rfl ?_; clear A a; intro a A
      refine stepSkip (dj := 16) rfl rfl h2 A rfl ?_; clear A a; intro a A
      refine stepSkip (dj := 16) rfl rfl h2 A rfl ?_; clear A a; intro a A
      refine step (Runs.pickT A rfl h2 rfl) A rfl ?_; clear A a; intro a A
      exact key2 _ _ _ hJ2 (Fr.with1 (Fr.suf A rfl) A rfl (by first | rfl | (simp [*]; done))) H.subH
    · have g2 := h2
      try simp only [decide_eq_true_eq, decide_eq_false_iff_not, Bool.not_eq_true', Bool.not_eq_false', ne_eq, Decidable.not_not, Int.not_lt, Int.not_le] at g2
      refine stepG (dj := 16) rfl rfl h2 (Runs.fa A rfl) A rfl ?_; clear A a; intro a A
      refine stepG (dj := 16) rfl rfl h2 (Runs.ld1 A H rfl rfl) A rfl ?_; clear A a; intro a A
      refine stepG (dj := 16) rfl rfl h2 (Runs.eql A rfl rfl) A rfl ?_; clear A a; intro a A
      refine step (Runs.pickF A rfl h2 rfl) A rfl ?_; clear A a; intro a A
      exact key2 _ _ _ hJ2 (Fr.with1 (Fr.suf A rfl) A rfl (by first | rfl | (simp [*]; done))) H.subH
  clear A H; intro a w m hm A H
  have hM := hM.trans hm
  have G := G.mono hm
  refine step_slice A H rfl rfl rfl rfl rfl rfl ?_; intro bz a w A H
  refine step_callPr A rfl rfl (c_syntax_printer_zero (bz := bz) (l := [(decide (r.src = ⟨#[]⟩) || decide (2 ≤ r.kind)), (decide (r.n = 0) || decide (r.kind = 3))]) (bcs := [.bool (decide (r.src = ⟨#[]⟩) || decide (2 ≤ r.kind)), .bool (decide (r.n = 0) || decide (r.kind = 3))]) rfl rfl (by simp)) H (by omega) ?_
  clear A a; rintro v1_18 a w m hm rfl A H
  simp only [List.cons_append, List.nil_append] at H
  have hM := hM.trans hm
  have G := G.mono hm
  have H := H.pr_at (b := b) (y := andOk ((decide (r.src = ⟨#[]⟩) || decide (2 ≤ r.kind)) && (decide (r.n = 0) || decide (r.kind = 3))) x) (by simp [andOk])
  refine wpList_nil ?_
  refine wp_seq ?_
  refine wp_region_lit ?_
  refine step (Runs.fa A rfl) A rfl ?_; clear A a; intro a A
  refine step (Runs.ld1 A H rfl rfl) A rfl ?_; clear A a; intro a A
  refine wpList_nil ?_
  refine wp_block ?_
  refine wp_seq ?_
  refine wp_region_lit ?_
  refine step (Runs.eql A rfl rfl) A rfl ?_; clear A a; intro a A
  refine step (Runs.assign A rfl) A rfl ?_; clear A a; intro a A
  refine wpList_nil ?_
  refine cond_split A rfl (fun h3 => ?_) (fun h3 => ?_)
  · have g3 := h3
    try simp only [decide_eq_true_eq, decide_eq_false_iff_not, Bool.not_eq_true', Bool.not_eq_false', ne_eq, Decidable.not_not, Int.not_lt, Int.not_le] at g3
    refine wp_region_lit ?_
    refine step (Runs.move A rfl) A rfl ?_; clear A a; intro a A
    refine step (Runs.nilCheck A rfl) A rfl ?_; clear A a; intro a A
    refine step (Runs.fa A rfl) A rfl ?_; clear A a; intro a A
    refine step_callPr A rfl rfl (c_WriteString 4 (by decide)) H (by omega) ?_
    clear A a; rintro v5_3 a w m hm rfl A H
    simp only [List.cons_append, List.nil_append] at H
    have hM := hM.trans hm
    have G := G.mono hm
    refine wpList_nil ?_
    exact endPr A rfl hM H rfl (by simp [ruleP, *]) (by omega)
  · have g3 := h3
    try simp only [decide_eq_true_eq, decide_eq_false_iff_not, Bool.not_eq_true', Bool.not_eq_false', ne_eq, Decidable.not_not, Int.not_lt, Int.not_le] at g3
    refine wp_seq ?_
    refine wp_region_lit ?_
    refine step (Runs.eql A rfl rfl) A rfl ?_; clear A a; intro a A
    refine step (Runs.assign A rfl) A rfl ?_; clear A a; intro a A
    refine wpList_nil ?_
    refine cond_split A rfl (fun h4 => ?_) (fun h4 => ?_)
    · have g4 := h4
      try simp only [decide_eq_true_eq, decide_eq_false_iff_not, Bool.not_eq_true', Bool.not_eq_false', ne_eq, Decidable.not_not, Int.not_lt, Int.not_le] at g4
      refine wp_region_lit ?_
      refine step (Runs.move A rfl) A rfl ?_; clear A a; intro a A
      refine step (Runs.nilCheck A rfl) A rfl ?_; clear A a; intro a A
      refine step (Runs.fa A rfl) A rfl ?_; clear A a; intro a A
      refine step_callPr A rfl rfl (c_WriteString 4 (by decide)) H (by omega) ?_
      clear A a; rintro v7_3 a w m hm rfl A H
      simp only [List.cons_append, List.nil_append] at H
      have hM := hM.trans hm
      have G := G.mono hm
      refine wpList_nil ?_
      exact endPr A rfl hM H rfl (by simp [ruleP, *]) (by omega)
    · have g4 := h4
      try simp only [decide_eq_true_eq, decide_eq_false_iff_not, Bool.not_eq_true', Bool.not_eq_false', ne_eq, Decidable.not_not, Int.not_lt, Int.not_le] at g4
      refine wp_seq ?_
      refine wp_region_lit ?_
      refine step (Runs.eql A rfl rfl) A rfl ?_; clear A a; intro a A
      refine step (Runs.assign A rfl) A rfl ?_; clear A a; intro a A
      refine wpList_nil ?_
      refine cond_split A rfl (fun h5 => ?_) (fun h5 => ?_)
      · have g5 := h5
        try simp only [decide_eq_true_eq, decide_eq_false_iff_not, Bool.not_eq_true', Bool.not_eq_false', ne_eq, Decidable.not_not, Int.not_lt, Int.not_le] at g5
        refine wp_seq ?_
        refine wp_region_lit ?_
        refine step (Runs.move A rfl) A rfl ?_; clear A a; intro a A
        refine step (Runs.nilCheck A rfl) A rfl ?_; clear A a; intro a A
        refine step (Runs.fa A rfl) A rfl ?_; clear A a; intro a A
        refine step_callPr A rfl rfl (c_WriteString 5 (by decide)) H (by omega) ?_
        clear A a; rintro v9_3 a w m hm rfl A H
        simp only [List.cons_append, List.nil_append] at H
        have hM := hM.trans hm
        have G := G.mono hm
        refine wpList_nil ?_
        refine wp_region_lit ?_
        refine step (Runs.move A rfl) A rfl ?_; clear A a; intro a A
        refine step (Runs.fa A rfl) A rfl ?_; clear A a; intro a A
        refine step (Runs.ld1 A H rfl rfl) A rfl ?_; clear A a; intro a A
        refine step_callPr A rfl rfl (c_syntax_printer_name G (by omega)) H (by omega) ?_
        clear A a; rintro v10_3 a w m hm rfl A H
        simp only [List.cons_append, List.nil_append] at H
        have hM := hM.trans hm
        have G := G.mono hm
        refine wpList_nil ?_
        exact endPr A rfl hM H rfl (by simp [ruleP, *]) (by omega)
      · have g5 := h5
        try simp only [decide_eq_true_eq, decide_eq_false_iff_not, Bool.not_eq_true', Bool.not_eq_false', ne_eq, Decidable.not_not, Int.not_lt, Int.not_le] at g5
        refine wp_seq ?_
        refine wp_region_lit ?_
        refine step (Runs.eql A rfl rfl) A rfl ?_; clear A a; intro a A
        refine step (Runs.assign A rfl) A rfl ?_; clear A a; intro a A
        refine wpList_nil ?_
        refine cond_split A rfl (fun h6 => ?_) (fun h6 => ?_)
        · have g6 := h6
          try simp only [decide_eq_true_eq, decide_eq_false_iff_not, Bool.not_eq_true', Bool.not_eq_false', ne_eq, Decidable.not_not, Int.not_lt, Int.not_le] at g6
          refine wp_seq ?_
          refine wp_region_lit ?_
          refine step (Runs.move A rfl) A rfl ?_; clear A a; intro a A
          refine step (Runs.nilCheck A rfl) A rfl ?_; clear A a; intro a A
          refine step (Runs.fa A rfl) A rfl ?_; clear A a; intro a A
          refine step_callPr A rfl rfl (c_WriteString 4 (by decide)) H (by omega) ?_
          clear A a; rintro v12_3 a w m hm rfl A H
          simp only [List.cons_append, List.nil_append] at H
          have hM := hM.trans hm
          have G := G.mono hm
          refine wpList_nil ?_
          refine wp_seq ?_
          refine wp_region_lit ?_
          refine step (Runs.move A rfl) A rfl ?_; clear A a; intro a A
          refine step (Runs.fa A rfl) A rfl ?_; clear A a; intro a A
          refine step (Runs.ld1 A H rfl rfl) A rfl ?_; clear A a; intro a A
          refine step_callPr A rfl rfl (c_syntax_printer_name G (by omega)) H (by omega) ?_
          clear A a; rintro v13_3 a w m hm rfl A H
          simp only [List.cons_append, List.nil_append] at H
          have hM := hM.trans hm
          have G := G.mono hm
          refine wpList_nil ?_
          refine wp_seq ?_
          refine wp_region_lit ?_
          refine step (Runs.move A rfl) A rfl ?_; clear A a; intro a A
          refine step (Runs.nilCheck A rfl) A rfl ?_; clear A a; intro a A
          refine step (Runs.fa A rfl) A rfl ?_; clear A a; intro a A
          refine step_callPr A rfl rfl (c_WriteString 1 (by decide)) H (by omega) ?_
          clear A a; rintro v14_3 a w m hm rfl A H
          simp only [List.cons_append, List.nil_append] at H
          have hM := hM.trans hm
          have G := G.mono hm
          refine wpList_nil ?_
          refine wp_region_lit ?_
          refine step (Runs.move A rfl) A rfl ?_; clear A a; intro a A
          refine step (Runs.fa A rfl) A rfl ?_; clear A a; intro a A
          refine step (Runs.ld1 A H rfl rfl) A rfl ?_; clear A a; intro a A
          refine step_callPr A rfl rfl (c_syntax_printer_number G hr') H (by omega) ?_
          clear A a; rintro v15_3 a w m hm rfl A H
          simp only [List.cons_append, List.nil_append] at H
          have hM := hM.trans hm
          have G := G.mono hm
          refine wpList_nil ?_
          exact endPr A rfl hM H rfl (by simp [ruleP, *]) (by omega)
        · have g6 := h6
          try simp only [decide_eq_true_eq, decide_eq_false_iff_not, Bool.not_eq_true', Bool.not_eq_false', ne_eq, Decidable.not_not, Int.not_lt, Int.not_le] at g6
          obtain ⟨pa, ad, c, hpa, had, hlen, H⟩ := H.pr_open (b := b)
          refine wp_region_lit ?_
          refine step (Runs.move A rfl) A rfl ?_; clear A a; intro a A
          refine step (Runs.nilCheck A rfl) A rfl ?_; clear A a; intro a A
          refine step (Runs.fa A rfl) A rfl ?_; clear A a; intro a A
          refine step_store A H rfl rfl rfl rfl rfl rfl ?_; intro w H
          refine wpList_nil ?_
          have H := H.pr_close hpa had hlen
          exact endPr A rfl hM H rfl (by simp [ruleP, *]) (by omega)
end Sl
end Go.Proofs.YtanhehbfbakdcaaGreatDoor
/- The printer's lists and bindings: printed by my gen.py out of annotations. -/
set_option linter.unusedSimpArgs false
set_option linter.unusedVariables false
namespace Go.Proofs.YtanhehbfbakdcaaGreatDoor
namespace Sl
open Go

theorem c_item_2 {b bw tw : Nat} {z : PBind} {m : Mem} (G : Glob m) (hz : z.port.size + z.chan.size ≤ 1000000000000) : PrSpec Tryz.prog 98 [.agg #[.string z.port, .string z.chan], .pointer (some ⟨bw, 0, none⟩)] m b [pt bw [.pointer (some ⟨b, 0, none⟩)] tw] (bindP z) (z.port.size + z.chan.size + 3) (fun _ v => v = .tuple #[]) := by
  intro x B hB
  refine Spec.enter Tryz.func98 rfl 15 Tryz.ntmps98 rfl fun a w0 Lf A H => ?_
  simp only [List.cons_append, List.nil_append] at H
  have hM := Le.refl m
  refine wp_seq ?_
  refine wp_region_lit ?_
  refine step_box A H rfl (by simp only [Value.cells, List.toList_toArray]; rfl) rfl ?_; intro b1 a w A H
  refine wpList_nil ?_
  refine wp_seq ?_
  refine wp_region_lit ?_
  refine step (Runs.ld1 A H rfl rfl) A rfl ?_; clear A a; intro a A
  refine step (Runs.fa A rfl) A rfl ?_; clear A a; intro a A
  refine step (Runs.ld1 A H rfl rfl) A rfl ?_; clear A a; intro a A
  refine step_callPr A rfl rfl (c_syntax_printer_name G (by omega)) H (by omega) ?_
  clear A a; rintro v1_3 a w m hm rfl A H
  simp only [List.cons_append, List.nil_append] at H
  have hM := hM.trans hm
  have G := G.mono hm
  refine wpList_nil ?_
  refine wp_seq ?_
  refine wp_region_lit ?_
  refine step (Runs.ld1 A H rfl rfl) A rfl ?_; clear A a; intro a A
  refine step (Runs.nilCheck A rfl) A rfl ?_; clear A a; intro a A
  refine step (Runs.fa A rfl) A rfl ?_; clear A a; intro a A
  refine step_callPr A rfl rfl (c_WriteString 3 (by decide)) H (by omega) ?_
  clear A a; rintro v2_3 a w m hm rfl A H
  simp only [List.cons_append, List.nil_append] at H
  have hM := hM.trans hm
  have G := G.mono hm
  refine wpList_nil ?_
  refine wp_region_lit ?_
  refine step (Runs.ld1 A H rfl rfl) A rfl ?_; clear A a; intro a A
  refine step (Runs.fa A rfl) A rfl ?_; clear A a; intro a A
  refine step (Runs.ld1 A H rfl rfl) A rfl ?_; clear A a; intro a A
  refine step_callPr A rfl rfl (c_syntax_printer_name G (by omega)) H (by omega) ?_
  clear A a; rintro v3_3 a w m hm rfl A H
  simp only [List.cons_append, List.nil_append] at H
  have hM := hM.trans hm
  have G := G.mono hm
  refine wpList_nil ?_
  exact endPr A rfl hM H rfl rfl (by omega)

theorem c_listS {b  : Nat} {ad : Option Addr} {c : Nat} {l : List ByteArray} {m : Mem} (G : Glob m) (hl : Lst StrR 1 m ad c l) : PrSpec Tryz.prog 62 [.pointer (some ⟨b, 0, none⟩), .slice ad l.length c, .func (.func 61) #[.pointer (some ⟨b, 0, none⟩)] #[]] m b [] (listP nameP l) (szStrs l + 2) (fun _ v => v = .tuple #[]) := by
  intro x B hB
  refine Spec.enter Tryz.func62 rfl 33 Tryz.ntmps62 rfl fun a w0 Lf A H => ?_
  simp only [List.cons_append, List.nil_append] at H
  have hM := Le.refl m
  have hcap := hl.cap
  have hmx : maxLen = 9223372036854775807 := rfl
  refine wp_seq ?_
  refine wp_region_lit ?_
  refine step (Runs.move A rfl) A rfl ?_; clear A a; intro a A
  refine step (Runs.nilCheck A rfl) A rfl ?_; clear A a; intro a A
  refine step (Runs.fa A rfl) A rfl ?_; clear A a; intro a A
  refine step_callPr A rfl rfl (c_WriteString 1 (by decide)) H (by omega) ?_
  clear A a; rintro v0_3 a w m hm rfl A H
  simp only [List.cons_append, List.nil_append] at H
  have hM := hM.trans hm
  have G := G.mono hm
  have hl := hl.mono hm
  refine wpList_nil ?_
  refine wp_seq ?_
  refine wp_seq ?_
  refine wp_region_lit ?_
  refine step (Runs.move A rfl) A rfl ?_; clear A a; intro a A
  refine step (Runs.lenL A rfl SlC.h) A rfl ?_; clear A a; intro a A
  refine step (Runs.move A rfl) A rfl ?_; clear A a; intro a A
  refine wpList_nil ?_
  refine wp_block ?_
  have H := H.pr_le (b := b) (B' := B + 1 + szStrs (l.take 0)) (by simp [szL])
  refine wp_loop_ghost (fun q a w => ∃ (i : Nat) (y : PS) (m' : Mem), q = l.length - i ∧ (i ≤ l.length ∧ listGo nameP (l.drop i) (decide (i = 0)) y = listGo nameP l true (wr [40] x)) ∧ Le m m' ∧ Fr 33 a [(0, .pointer (some ⟨b, 0, none⟩)), (2, .func (.func 61) #[.pointer (some ⟨b, 0, none⟩)] #[]), (12, .slice ad l.length c), (13, .int .i64 l.length), (14, .int .i64 i)] [] ∧ St w0 w m' (prR b y (B + 1 + szStrs (l.take i)) :: Lf)) _ ⟨0, wr [40] x, m, rfl, ⟨by omega, rfl⟩, Le.refl m, (Fr.cons A rfl (Fr.cons A rfl (Fr.cons A rfl (Fr.cons A rfl (Fr.cons A rfl (Fr.nil A)))))), H.subH⟩ ?_
  clear A H; rintro q a w ⟨i, y, m, rfl, hinv, hm, A, H⟩
  have hM := hM.trans hm
  have G := G.mono hm
  have hl := hl.mono hm
  have hl1 := hm
  obtain ⟨hi, hgo⟩ := hinv
  refine wp_seq ?_
  refine wp_region_lit ?_
  refine step (Runs.lss A rfl rfl) A rfl ?_; clear A a; intro a A
  refine wpList_nil ?_
  refine wp_seq ?_
  refine cond_split A rfl (fun h1 => ?_) (fun h1 => ?_)
  · have g1 := h1
    try simp only [decide_eq_true_eq, decide_eq_false_iff_not, Bool.not_eq_true', Bool.not_eq_false', ne_eq, Decidable.not_not, Int.not_lt, Int.not_le] at g1
    refine wp_skip ?_
    refine wp_seq ?_
    refine wp_block ?_
    refine wp_seq ?_
    refine wp_region_lit ?_
    refine step (Runs.move A rfl) A rfl ?_; clear A a; intro a A
    obtain ⟨q, hq⟩ := ex_at (l := l) (i := i) (by omega)
    obtain ⟨bb, off, cs, rfl, hfz, hcs⟩ := hl.all_ (by decide) (by omega)
    obtain ⟨us, hus, hR, hg⟩ := hcs _ _ hq
    have hR : us = [.string q] := hR
    subst hR
    have hst : szStrs (l.take (i + 1)) = szStrs (l.take i) + (4 + q.size) := szL_take hq
    have hsm : 4 + q.size ≤ szStrs l := szL_mem (g := fun x => 4 + x.size) hq
    have hsl : szStrs (l.take i) ≤ szStrs l := szL_le i
    have hsl2 : szStrs (l.take (i + 1)) ≤ szStrs l := szL_le (i + 1)
    refine step (Runs.indexAddr A rfl rfl SlC.h (by omega) (by omega)) A rfl ?_; clear A a; intro a A
    refine step (Runs.ld1 A H rfl (v := .string q) (getN_1 (by simpa using hg))) A rfl ?_; clear A a; intro a A
    refine step (Runs.assign A rfl) A rfl ?_; clear A a; intro a A
    refine step (Runs.assign A rfl) A rfl ?_; clear A a; intro a A
    refine wpList_nil ?_
    refine wp_seq ?_
    refine wp_seq ?_
    refine wp_region_lit ?_
    refine step (Runs.move A rfl) A rfl ?_; clear A a; intro a A
    refine step (Runs.gtr A rfl rfl) A rfl ?_; clear A a; intro a A
    refine wpList_nil ?_
    refine cond_split A rfl (fun h2 => ?_) (fun h2 => ?_)
    · have g2 := h2
      try simp only [decide_eq_true_eq, decide_eq_false_iff_not, Bool.not_eq_true', Bool.not_eq_false', ne_eq, Decidable.not_not, Int.not_lt, Int.not_le] at g2
      refine wp_region_lit ?_
      refine step (Runs.move A rfl) A rfl ?_; clear A a; intro a A
      refine step (Runs.nilCheck A rfl) A rfl ?_; clear A a; intro a A
      refine step (Runs.fa A rfl) A rfl ?_; clear A a; intro a A
      refine step_callPr A rfl rfl (c_WriteString 2 (by decide)) H (by omega) ?_
      clear A a; rintro v5_3 a w m hm rfl A H
      simp only [List.cons_append, List.nil_append] at H
      have hM := hM.trans hm
      have hl1 := hl1.trans hm
      have G := G.mono hm
      have hl := hl.mono hm
      refine wpList_nil ?_
      refine wp_region_lit ?_
      refine step (Runs.move A rfl) A rfl ?_; clear A a; intro a A
      refine step (Runs.move A rfl) A rfl ?_; clear A a; intro a A
      refine step_cloPrB (fs := [.pointer (some ⟨b, 0, none⟩)]) (cap := []) A rfl rfl rfl (c_syntax_printer_name G (by omega)) H (by omega) ?_
      clear A a; rintro v6_2 a w m hm rfl A H
      simp only [List.cons_append, List.nil_append] at H
      have hM := hM.trans hm
      have hl1 := hl1.trans hm
      have G := G.mono hm
      have hl := hl.mono hm
      refine wpList_nil ?_
      refine wp_region_lit ?_
      refine step (Runs.add A rfl rfl (by omega)) A rfl ?_; clear A a; intro a A
      refine step (Runs.move A rfl) A rfl ?_; clear A a; intro a A
      refine wpList_nil ?_
      have H := H.pr_le (b := b) (B' := B + 1 + szStrs (l.take (i + 1))) (by omega)
      exact ⟨_, by omega, i + 1, nameP q (wr [44, 32] y), m, rfl, ⟨by omega, by rw [← hgo, listGo_step hq, if_neg (by omega)]⟩, hl1, (Fr.cons A rfl (Fr.cons A rfl (Fr.cons A rfl (Fr.cons A rfl (Fr.cons A rfl (Fr.nil A)))))), H.subH⟩
    · have g2 := h2
      try simp only [decide_eq_true_eq, decide_eq_false_iff_not, Bool.not_eq_true', Bool.not_eq_false', ne_eq, Decidable.not_not, Int.not_lt, Int.not_le] at g2
      refine wp_skip ?_
      refine wp_region_lit ?_
      refine step (Runs.move A rfl) A rfl ?_; clear A a; intro a A
      refine step (Runs.move A rfl) A rfl ?_; clear A a; intro a A
      refine step_cloPrB (fs := [.pointer (some ⟨b, 0, none⟩)]) (cap := []) A rfl rfl rfl (c_syntax_printer_name G (by omega)) H (by omega) ?_
      clear A a; rintro v6_2 a w m hm rfl A H
      simp only [List.cons_append, List.nil_append] at H
      have hM := hM.trans hm
      have hl1 := hl1.trans hm
      have G := G.mono hm
      have hl := hl.mono hm
      refine wpList_nil ?_
      refine wp_region_lit ?_
      refine step (Runs.add A rfl rfl (by omega)) A rfl ?_; clear A a; intro a A
      refine step (Runs.move A rfl) A rfl ?_; clear A a; intro a A
      refine wpList_nil ?_
      have H := H.pr_le (b := b) (B' := B + 1 + szStrs (l.take (i + 1))) (by omega)
      exact ⟨_, by omega, i + 1, nameP q (y), m, rfl, ⟨by omega, by rw [← hgo, listGo_step hq, if_pos (by omega)]⟩, hl1, (Fr.cons A rfl (Fr.cons A rfl (Fr.cons A rfl (Fr.cons A rfl (Fr.cons A rfl (Fr.nil A)))))), H.subH⟩
  · have g1 := h1
    try simp only [decide_eq_true_eq, decide_eq_false_iff_not, Bool.not_eq_true', Bool.not_eq_false', ne_eq, Decidable.not_not, Int.not_lt, Int.not_le] at g1
    refine wp_exit ?_
    have hil : i = l.length := by omega
    have hsl9 : szStrs (l.take i) ≤ szStrs l := szL_le _
    refine wp_region_lit ?_
    refine step (Runs.move A rfl) A rfl ?_; clear A a; intro a A
    refine step (Runs.nilCheck A rfl) A rfl ?_; clear A a; intro a A
    refine step (Runs.fa A rfl) A rfl ?_; clear A a; intro a A
    refine step_callPr A rfl rfl (c_WriteString 1 (by decide)) H (by omega) ?_
    clear A a; rintro v8_3 a w m hm rfl A H
    simp only [List.cons_append, List.nil_append] at H
    have hM := hM.trans hm
    have G := G.mono hm
    have hl := hl.mono hm
    refine wpList_nil ?_
    subst hil
    rw [List.drop_length, listGo] at hgo
    have hsl : szStrs (l.take l.length) ≤ szStrs l := szL_le _
    exact endPr A rfl hM H rfl (by rw [hgo]; rfl) (by omega)

theorem c_listN {b  : Nat} {ad : Option Addr} {c : Nat} {l : List PNum} {m : Mem} (G : Glob m) (hl : Lst NumR 2 m ad c l) : PrSpec Tryz.prog 96 [.pointer (some ⟨b, 0, none⟩), .slice ad l.length c, .func (.func 93) #[.pointer (some ⟨b, 0, none⟩)] #[]] m b [] (listP numP l) (szNums l + 2) (fun _ v => v = .tuple #[]) := by
  intro x B hB
  refine Spec.enter Tryz.func96 rfl 33 Tryz.ntmps96 rfl fun a w0 Lf A H => ?_
  simp only [List.cons_append, List.nil_append] at H
  have hM := Le.refl m
  have hcap := hl.cap
  have hmx : maxLen = 9223372036854775807 := rfl
  refine wp_seq ?_
  refine wp_region_lit ?_
  refine step (Runs.move A rfl) A rfl ?_; clear A a; intro a A
  refine step (Runs.nilCheck A rfl) A rfl ?_; clear A a; intro a A
  refine step (Runs.fa A rfl) A rfl ?_; clear A a; intro a A
  refine step_callPr A rfl rfl (c_WriteString 1 (by decide)) H (by omega) ?_
  clear A a; rintro v0_3 a w m hm rfl A H
  simp only [List.cons_append, List.nil_append] at H
  have hM := hM.trans hm
  have G := G.mono hm
  have hl := hl.mono hm
  refine wpList_nil ?_
  refine wp_seq ?_
  refine wp_seq ?_
  refine wp_region_lit ?_
  refine step (Runs.move A rfl) A rfl ?_; clear A a; intro a A
  refine step (Runs.lenL A rfl SlC.h) A rfl ?_; clear A a; intro a A
  refine step (Runs.move A rfl) A rfl ?_; clear A a; intro a A
  refine wpList_nil ?_
  refine wp_block ?_
  have H := H.pr_le (b := b) (B' := B + 1 + szNums (l.take 0)) (by simp [szL])
  refine wp_loop_ghost (fun q a w => ∃ (i : Nat) (y : PS) (m' : Mem), q = l.length - i ∧ (i ≤ l.length ∧ listGo numP (l.drop i) (decide (i = 0)) y = listGo numP l true (wr [40] x)) ∧ Le m m' ∧ Fr 33 a [(0, .pointer (some ⟨b, 0, none⟩)), (2, .func (.func 93) #[.pointer (some ⟨b, 0, none⟩)] #[]), (12, .slice ad l.length c), (13, .int .i64 l.length), (14, .int .i64 i)] [] ∧ St w0 w m' (prR b y (B + 1 + szNums (l.take i)) :: Lf)) _ ⟨0, wr [40] x, m, rfl, ⟨by omega, rfl⟩, Le.refl m, (Fr.cons A rfl (Fr.cons A rfl (Fr.cons A rfl (Fr.cons A rfl (Fr.cons A rfl (Fr.nil A)))))), H.subH⟩ ?_
  clear A H; rintro q a w ⟨i, y, m, rfl, hinv, hm, A, H⟩
  have hM := hM.trans hm
  have G := G.mono hm
  have hl := hl.mono hm
  have hl1 := hm
  obtain ⟨hi, hgo⟩ := hinv
  refine wp_seq ?_
  refine wp_region_lit ?_
  refine step (Runs.lss A rfl rfl) A rfl ?_; clear A a; intro a A
  refine wpList_nil ?_
  refine wp_seq ?_
  refine cond_split A rfl (fun h1 => ?_) (fun h1 => ?_)
  · have g1 := h1
    try simp only [decide_eq_true_eq, decide_eq_false_iff_not, Bool.not_eq_true', Bool.not_eq_false', ne_eq, Decidable.not_not, Int.not_lt, Int.not_le] at g1
    refine wp_skip ?_
    refine wp_seq ?_
    refine wp_block ?_
    refine wp_seq ?_
    refine wp_region_lit ?_
    refine step (Runs.move A rfl) A rfl ?_; clear A a; intro a A
    obtain ⟨q, hq⟩ := ex_at (l := l) (i := i) (by omega)
    obtain ⟨bb, off, cs, rfl, hfz, hcs⟩ := hl.all_ (by decide) (by omega)
    obtain ⟨us, hus, hR, hg⟩ := hcs _ _ hq
    have hR' : us = [.int .i64 q.n, .string q.p] ∧ I64 q.n := hR
    obtain ⟨rfl, hqn⟩ := hR'
    have hst : szNums (l.take (i + 1)) = szNums (l.take i) + (70 + q.p.size) := szL_take hq
    have hsm : 70 + q.p.size ≤ szNums l := szL_mem (g := fun x => 70 + x.p.size) hq
    have hsl : szNums (l.take i) ≤ szNums l := szL_le i
    have hsl2 : szNums (l.take (i + 1)) ≤ szNums l := szL_le (i + 1)
    refine step (Runs.indexAddr A rfl rfl SlC.h (by omega) (by omega)) A rfl ?_; clear A a; intro a A
    refine step (Runs.ldN A H rfl (vs := [.int .i64 q.n, .string q.p]) (by simpa using hg)) A rfl ?_; clear A a; intro a A
    refine step_alloc A H rfl ?_; clear A a; intro b9 a w A H
    refine step (Runs.assign A rfl) A rfl ?_; clear A a; intro a A
    refine step_store A H rfl rfl rfl rfl rfl rfl ?_; intro w H
    refine wpList_nil ?_
    refine wp_seq ?_
    refine wp_seq ?_
    refine wp_region_lit ?_
    refine step (Runs.move A rfl) A rfl ?_; clear A a; intro a A
    refine step (Runs.gtr A rfl rfl) A rfl ?_; clear A a; intro a A
    refine wpList_nil ?_
    refine cond_split A rfl (fun h2 => ?_) (fun h2 => ?_)
    · have g2 := h2
      try simp only [decide_eq_true_eq, decide_eq_false_iff_not, Bool.not_eq_true', Bool.not_eq_false', ne_eq, Decidable.not_not, Int.not_lt, Int.not_le] at g2
      refine wp_region_lit ?_
      refine step (Runs.move A rfl) A rfl ?_; clear A a; intro a A
      refine step (Runs.nilCheck A rfl) A rfl ?_; clear A a; intro a A
      refine step (Runs.fa A rfl) A rfl ?_; clear A a; intro a A
      refine step_callPr A rfl rfl (c_WriteString 2 (by decide)) H (by omega) ?_
      clear A a; rintro v5_3 a w m hm rfl A H
      simp only [List.cons_append, List.nil_append] at H
      have hM := hM.trans hm
      have hl1 := hl1.trans hm
      have G := G.mono hm
      have hl := hl.mono hm
      refine wpList_nil ?_
      refine wp_region_lit ?_
      refine step (Runs.move A rfl) A rfl ?_; clear A a; intro a A
      refine step (Runs.ldN A H rfl rfl) A rfl ?_; clear A a; intro a A
      refine step_cloPrB (fs := [.pointer (some ⟨b, 0, none⟩)]) (cap := []) A rfl rfl rfl (c_syntax_printer_num G hqn) H (by omega) ?_
      clear A a; rintro v6_2 a w m hm rfl A H
      simp only [List.cons_append, List.nil_append] at H
      have hM := hM.trans hm
      have hl1 := hl1.trans hm
      have G := G.mono hm
      have hl := hl.mono hm
      refine wpList_nil ?_
      refine wp_region_lit ?_
      refine step (Runs.add A rfl rfl (by omega)) A rfl ?_; clear A a; intro a A
      refine step (Runs.move A rfl) A rfl ?_; clear A a; intro a A
      refine wpList_nil ?_
      have H := H.pr_le (b := b) (B' := B + 1 + szNums (l.take (i + 1))) (by omega)
      exact ⟨_, by omega, i + 1, numP q (wr [44, 32] y), m, rfl, ⟨by omega, by rw [← hgo, listGo_step hq, if_neg (by omega)]⟩, hl1, (Fr.cons A rfl (Fr.cons A rfl (Fr.cons A rfl (Fr.cons A rfl (Fr.cons A rfl (Fr.nil A)))))), H.subH⟩
    · have g2 := h2
      try simp only [decide_eq_true_eq, decide_eq_false_iff_not, Bool.not_eq_true', Bool.not_eq_false', ne_eq, Decidable.not_not, Int.not_lt, Int.not_le] at g2
      refine wp_skip ?_
      refine wp_region_lit ?_
      refine step (Runs.move A rfl) A rfl ?_; clear A a; intro a A
      refine step (Runs.ldN A H rfl rfl) A rfl ?_; clear A a; intro a A
      refine step_cloPrB (fs := [.pointer (some ⟨b, 0, none⟩)]) (cap := []) A rfl rfl rfl (c_syntax_printer_num G hqn) H (by omega) ?_
      clear A a; rintro v6_2 a w m hm rfl A H
      simp only [List.cons_append, List.nil_append] at H
      have hM := hM.trans hm
      have hl1 := hl1.trans hm
      have G := G.mono hm
      have hl := hl.mono hm
      refine wpList_nil ?_
      refine wp_region_lit ?_
      refine step (Runs.add A rfl rfl (by omega)) A rfl ?_; clear A a; intro a A
      refine step (Runs.move A rfl) A rfl ?_; clear A a; intro a A
      refine wpList_nil ?_
      have H := H.pr_le (b := b) (B' := B + 1 + szNums (l.take (i + 1))) (by omega)
      exact ⟨_, by omega, i + 1, numP q (y), m, rfl, ⟨by omega, by rw [← hgo, listGo_step hq, if_pos (by omega)]⟩, hl1, (Fr.cons A rfl (Fr.cons A rfl (Fr.cons A rfl (Fr.cons A rfl (Fr.cons A rfl (Fr.nil A)))))), H.subH⟩
  · have g1 := h1
    try simp only [decide_eq_true_eq, decide_eq_false_iff_not, Bool.not_eq_true', Bool.not_eq_false', ne_eq, Decidable.not_not, Int.not_lt, Int.not_le] at g1
    refine wp_exit ?_
    have hil : i = l.length := by omega
    have hsl9 : szNums (l.take i) ≤ szNums l := szL_le _
    refine wp_region_lit ?_
    refine step (Runs.move A rfl) A rfl ?_; clear A a; intro a A
    refine step (Runs.nilCheck A rfl) A rfl ?_; clear A a; intro a A
    refine step (Runs.fa A rfl) A rfl ?_; clear A a; intro a A
    refine step_callPr A rfl rfl (c_WriteString 1 (by decide)) H (by omega) ?_
    clear A a; rintro v8_3 a w m hm rfl A H
    simp only [List.cons_append, List.nil_append] at H
    have hM := hM.trans hm
    have G := G.mono hm
    have hl := hl.mono hm
    refine wpList_nil ?_
    subst hil
    rw [List.drop_length, listGo] at hgo
    have hsl : szNums (l.take l.length) ≤ szNums l := szL_le _
    exact endPr A rfl hM H rfl (by rw [hgo]; rfl) (by omega)

theorem c_listB {b bw tw : Nat} {ad : Option Addr} {c : Nat} {l : List PBind} {m : Mem} (G : Glob m) (hl : Lst BindR 2 m ad c l) : PrSpec Tryz.prog 97 [.pointer (some ⟨b, 0, none⟩), .slice ad l.length c, .func (.func 98) #[] #[.pointer (some ⟨bw, 0, none⟩)]] m b [pt bw [.pointer (some ⟨b, 0, none⟩)] tw] (listP bindP l) (szBinds l + 2) (fun _ v => v = .tuple #[]) := by
  intro x B hB
  refine Spec.enter Tryz.func97 rfl 33 Tryz.ntmps97 rfl fun a w0 Lf A H => ?_
  simp only [List.cons_append, List.nil_append] at H
  have hM := Le.refl m
  have hcap := hl.cap
  have hmx : maxLen = 9223372036854775807 := rfl
  refine wp_seq ?_
  refine wp_region_lit ?_
  refine step (Runs.move A rfl) A rfl ?_; clear A a; intro a A
  refine step (Runs.nilCheck A rfl) A rfl ?_; clear A a; intro a A
  refine step (Runs.fa A rfl) A rfl ?_; clear A a; intro a A
  refine step_callPr A rfl rfl (c_WriteString 1 (by decide)) H (by omega) ?_
  clear A a; rintro v0_3 a w m hm rfl A H
  simp only [List.cons_append, List.nil_append] at H
  have hM := hM.trans hm
  have G := G.mono hm
  have hl := hl.mono hm
  refine wpList_nil ?_
  refine wp_seq ?_
  refine wp_seq ?_
  refine wp_region_lit ?_
  refine step (Runs.move A rfl) A rfl ?_; clear A a; intro a A
  refine step (Runs.lenL A rfl SlC.h) A rfl ?_; clear A a; intro a A
  refine step (Runs.move A rfl) A rfl ?_; clear A a; intro a A
  refine wpList_nil ?_
  refine wp_block ?_
  have H := H.pr_le (b := b) (B' := B + 1 + szBinds (l.take 0)) (by simp [szL])
  refine wp_loop_ghost (fun q a w => ∃ (i : Nat) (y : PS) (m' : Mem), q = l.length - i ∧ (i ≤ l.length ∧ listGo bindP (l.drop i) (decide (i = 0)) y = listGo bindP l true (wr [40] x)) ∧ Le m m' ∧ Fr 33 a [(0, .pointer (some ⟨b, 0, none⟩)), (2, .func (.func 98) #[] #[.pointer (some ⟨bw, 0, none⟩)]), (12, .slice ad l.length c), (13, .int .i64 l.length), (14, .int .i64 i)] [] ∧ St w0 w m' (prR b y (B + 1 + szBinds (l.take i)) :: pt bw [.pointer (some ⟨b, 0, none⟩)] tw :: Lf)) _ ⟨0, wr [40] x, m, rfl, ⟨by omega, rfl⟩, Le.refl m, (Fr.cons A rfl (Fr.cons A rfl (Fr.cons A rfl (Fr.cons A rfl (Fr.cons A rfl (Fr.nil A)))))), H.subH⟩ ?_
  clear A H; rintro q a w ⟨i, y, m, rfl, hinv, hm, A, H⟩
  have hM := hM.trans hm
  have G := G.mono hm
  have hl := hl.mono hm
  have hl1 := hm
  obtain ⟨hi, hgo⟩ := hinv
  refine wp_seq ?_
  refine wp_region_lit ?_
  refine step (Runs.lss A rfl rfl) A rfl ?_; clear A a; intro a A
  refine wpList_nil ?_
  refine wp_seq ?_
  refine cond_split A rfl (fun h1 => ?_) (fun h1 => ?_)
  · have g1 := h1
    try simp only [decide_eq_true_eq, decide_eq_false_iff_not, Bool.not_eq_true', Bool.not_eq_false', ne_eq, Decidable.not_not, Int.not_lt, Int.not_le] at g1
    refine wp_skip ?_
    refine wp_seq ?_
    refine wp_block ?_
    refine wp_seq ?_
    refine wp_region_lit ?_
    refine step (Runs.move A rfl) A rfl ?_; clear A a; intro a A
    obtain ⟨q, hq⟩ := ex_at (l := l) (i := i) (by omega)
    obtain ⟨bb, off, cs, rfl, hfz, hcs⟩ := hl.all_ (by decide) (by omega)
    obtain ⟨us, hus, hR, hg⟩ := hcs _ _ hq
    have hR : us = [.string q.port, .string q.chan] := hR
    subst hR
    have hst : szBinds (l.take (i + 1)) = szBinds (l.take i) + (10 + q.port.size + q.chan.size) := szL_take hq
    have hsm : 10 + q.port.size + q.chan.size ≤ szBinds l := szL_mem (g := fun x => 10 + x.port.size + x.chan.size) hq
    have hsl : szBinds (l.take i) ≤ szBinds l := szL_le i
    have hsl2 : szBinds (l.take (i + 1)) ≤ szBinds l := szL_le (i + 1)
    refine step (Runs.indexAddr A rfl rfl SlC.h (by omega) (by omega)) A rfl ?_; clear A a; intro a A
    refine step (Runs.ldN A H rfl (vs := [.string q.port, .string q.chan]) (by simpa using hg)) A rfl ?_; clear A a; intro a A
    refine step_alloc A H rfl ?_; clear A a; intro b9 a w A H
    refine step (Runs.assign A rfl) A rfl ?_; clear A a; intro a A
    refine step_store A H rfl rfl rfl rfl rfl rfl ?_; intro w H
    refine wpList_nil ?_
    refine wp_seq ?_
    refine wp_seq ?_
    refine wp_region_lit ?_
    refine step (Runs.move A rfl) A rfl ?_; clear A a; intro a A
    refine step (Runs.gtr A rfl rfl) A rfl ?_; clear A a; intro a A
    refine wpList_nil ?_
    refine cond_split A rfl (fun h2 => ?_) (fun h2 => ?_)
    · have g2 := h2
      try simp only [decide_eq_true_eq, decide_eq_false_iff_not, Bool.not_eq_true', Bool.not_eq_false', ne_eq, Decidable.not_not, Int.not_lt, Int.not_le] at g2
      refine wp_region_lit ?_
      refine step (Runs.move A rfl) A rfl ?_; clear A a; intro a A
      refine step (Runs.nilCheck A rfl) A rfl ?_; clear A a; intro a A
      refine step (Runs.fa A rfl) A rfl ?_; clear A a; intro a A
      refine step_callPr A rfl rfl (c_WriteString 2 (by decide)) H (by omega) ?_
      clear A a; rintro v5_3 a w m hm rfl A H
      simp only [List.cons_append, List.nil_append] at H
      have hM := hM.trans hm
      have hl1 := hl1.trans hm
      have G := G.mono hm
      have hl := hl.mono hm
      refine wpList_nil ?_
      refine wp_region_lit ?_
      refine step (Runs.move A rfl) A rfl ?_; clear A a; intro a A
      refine step (Runs.ldN A H rfl rfl) A rfl ?_; clear A a; intro a A
      refine step_cloPr (cap := [.pointer (some ⟨bw, 0, none⟩)]) A rfl rfl rfl (c_item_2 (b := b) (tw := tw) (z := q) G (by omega)) H (by omega) ?_
      clear A a; rintro v6_2 a w m hm rfl A H
      simp only [List.cons_append, List.nil_append] at H
      have hM := hM.trans hm
      have hl1 := hl1.trans hm
      have G := G.mono hm
      have hl := hl.mono hm
      refine wpList_nil ?_
      refine wp_region_lit ?_
      refine step (Runs.add A rfl rfl (by omega)) A rfl ?_; clear A a; intro a A
      refine step (Runs.move A rfl) A rfl ?_; clear A a; intro a A
      refine wpList_nil ?_
      have H := H.pr_le (b := b) (B' := B + 1 + szBinds (l.take (i + 1))) (by omega)
      exact ⟨_, by omega, i + 1, bindP q (wr [44, 32] y), m, rfl, ⟨by omega, by rw [← hgo, listGo_step hq, if_neg (by omega)]⟩, hl1, (Fr.cons A rfl (Fr.cons A rfl (Fr.cons A rfl (Fr.cons A rfl (Fr.cons A rfl (Fr.nil A)))))), H.subH⟩
    · have g2 := h2
      try simp only [decide_eq_true_eq, decide_eq_false_iff_not, Bool.not_eq_true', Bool.not_eq_false', ne_eq, Decidable.not_not, Int.not_lt, Int.not_le] at g2
      refine wp_skip ?_
      refine wp_region_lit ?_
      refine step (Runs.move A rfl) A rfl ?_; clear A a; intro a A
      refine step (Runs.ldN A H rfl rfl) A rfl ?_; clear A a; intro a A
      refine step_cloPr (cap := [.pointer (some ⟨bw, 0, none⟩)]) A rfl rfl rfl (c_item_2 (b := b) (tw := tw) (z := q) G (by omega)) H (by omega) ?_
      clear A a; rintro v6_2 a w m hm rfl A H
      simp only [List.cons_append, List.nil_append] at H
      have hM := hM.trans hm
      have hl1 := hl1.trans hm
      have G := G.mono hm
      have hl := hl.mono hm
      refine wpList_nil ?_
      refine wp_region_lit ?_
      refine step (Runs.add A rfl rfl (by omega)) A rfl ?_; clear A a; intro a A
      refine step (Runs.move A rfl) A rfl ?_; clear A a; intro a A
      refine wpList_nil ?_
      have H := H.pr_le (b := b) (B' := B + 1 + szBinds (l.take (i + 1))) (by omega)
      exact ⟨_, by omega, i + 1, bindP q (y), m, rfl, ⟨by omega, by rw [← hgo, listGo_step hq, if_pos (by omega)]⟩, hl1, (Fr.cons A rfl (Fr.cons A rfl (Fr.cons A rfl (Fr.cons A rfl (Fr.cons A rfl (Fr.nil A)))))), H.subH⟩
  · have g1 := h1
    try simp only [decide_eq_true_eq, decide_eq_false_iff_not, Bool.not_eq_true', Bool.not_eq_false', ne_eq, Decidable.not_not, Int.not_lt, Int.not_le] at g1
    refine wp_exit ?_
    have hil : i = l.length := by omega
    have hsl9 : szBinds (l.take i) ≤ szBinds l := szL_le _
    refine wp_region_lit ?_
    refine step (Runs.move A rfl) A rfl ?_; clear A a; intro a A
    refine step (Runs.nilCheck A rfl) A rfl ?_; clear A a; intro a A
    refine step (Runs.fa A rfl) A rfl ?_; clear A a; intro a A
    refine step_callPr A rfl rfl (c_WriteString 1 (by decide)) H (by omega) ?_
    clear A a; rintro v8_3 a w m hm rfl A H
    simp only [List.cons_append, List.nil_append] at H
    have hM := hM.trans hm
    have G := G.mono hm
    have hl := hl.mono hm
    refine wpList_nil ?_
    subst hil
    rw [List.drop_length, listGo] at hgo
    have hsl : szBinds (l.take l.length) ≤ szBinds l := szL_le _
    exact endPr A rfl hM H rfl (by rw [hgo]; rfl) (by omega)
end Sl
end Go.Proofs.YtanhehbfbakdcaaGreatDoor
/- The printer's expressions: printed by my gen.py out of annotations. -/
set_option linter.unusedSimpArgs false
set_option linter.unusedVariables false
namespace Go.Proofs.YtanhehbfbakdcaaGreatDoor
namespace Sl
open Go

/-- what the printer makes of an expression of at most so great a depth -/
def ExSpec (d : Nat) : Prop := ∀ {b : Nat} {m : Mem} {e : Ex} {ad : Option Addr} {c : Nat}, Glob m → ExA m ad c e → PrSpec Tryz.prog 95 [.pointer (some ⟨b, 0, none⟩), .agg (exC e ad c).toArray, .int .i64 d] m b [] (exprP d e) (szEx e) (fun _ v => v = .tuple #[])
theorem list1 {l : List Ex} (h : l.length = 1) : ∃ a, l = [a] := by
  match l, h with
  | [a], _ => exact ⟨a, rfl⟩
theorem list2 {l : List Ex} (h : l.length = 2) : ∃ a b, l = [a, b] := by
  match l, h with
  | [a, b], _ => exact ⟨a, b, rfl⟩
theorem list3 {l : List Ex} (h : l.length = 3) : ∃ a b c, l = [a, b, c] := by
  match l, h with
  | [a, b, c], _ => exact ⟨a, b, c, rfl⟩
theorem arity_bin {op : Int} {n : Nat} (h : (n : Int) = arityP op) (h1 : ¬ op = 1) (h2 : ¬ op = 14) (h3 : ¬ op = 15) (h4 : ¬ op = 2) (h5 : ¬ op = 10) (h6 : ¬ op = 12) (h7 : ¬ op = 13) : n = 2 := by
  simp only [arityP, h1, h2, h3, h4, h5, h6, h7, or_self, if_false] at h
  split at h <;> omega

theorem c_expr_1 {b b2 b3 b4 i d ks : Nat} {iz : Int} {s : ByteArray} {e q : Ex} {ad : Option Addr} {c : Nat} {m : Mem} (hi : iz = (i : Int)) (ih : ExSpec d) (G : Glob m) (hA : ExA m ad c e) (hq : e.args[i]? = some q) (hd : d ≤ 100) (hks : s.size ≤ ks) : PrSpec Tryz.prog 132 [.string s, .int .i64 iz, .pointer (some ⟨b2, 0, none⟩), .pointer (some ⟨b3, 0, none⟩), .pointer (some ⟨b4, 0, none⟩)] m b [pt b2 [.pointer (some ⟨b, 0, none⟩)] 112, pt b3 (exC e ad c) 128, pt b4 [.int .i64 ((d + 1 : Nat) : Int)] 3] (fun x => exprP d q (wr (bl s) x)) (szEx q + ks) (fun _ v => v = .tuple #[]) := by
  subst hi
  intro x B hB
  refine Spec.enter Tryz.func132 rfl 21 Tryz.ntmps132 rfl fun a w0 Lf A H => ?_
  simp only [List.cons_append, List.nil_append] at H
  have hM := Le.refl m
  obtain ⟨hop, hk, hw, hargs⟩ := hA
  have hil := (List.getElem?_eq_some_iff.1 hq).1
  obtain ⟨bb, off, cs, rfl, hfz, hcs⟩ := hargs.all_ (by decide) (by omega)
  obtain ⟨us, hus, hR, hg⟩ := hcs _ _ hq
  obtain ⟨ad2, c2, rfl, hA2⟩ := hR.open_
  have hcp := hargs.cap
  have hmx : maxLen = 9223372036854775807 := rfl
  refine wp_seq ?_
  refine wp_region_lit ?_
  refine step (Runs.ld1 A H rfl rfl) A rfl ?_; clear A a; intro a A
  refine step (Runs.nilCheck A rfl) A rfl ?_; clear A a; intro a A
  refine step (Runs.fa A rfl) A rfl ?_; clear A a; intro a A
  refine step (Runs.move A rfl) A rfl ?_; clear A a; intro a A
  refine step_callPr A rfl rfl (c_WriteString _ (Nat.le_refl _)) H (by omega) ?_
  clear A a; rintro v0_4 a w m hm rfl A H
  simp only [List.cons_append, List.nil_append] at H
  have hM := hM.trans hm
  have G := G.mono hm
  have hfz := hfz.mono hm
  have hA2 := hA2.mono hm
  refine wpList_nil ?_
  refine draw_begin (ms := m) (Ls := [pt b2 [.pointer (some ⟨b, 0, none⟩)] 112, pt b3 (exC e (some ⟨bb, off, none⟩) c) 128, pt b4 [.int .i64 ((d + 1 : Nat) : Int)] 3]) (by kernel_rfl) (N := 9) rfl (by kernel_rfl) H ?_; clear H; intro w H hR
  have hS : SW m [pt b2 [.pointer (some ⟨b, 0, none⟩)] 112, pt b3 (exC e (some ⟨bb, off, none⟩) c) 128, pt b4 [.int .i64 ((d + 1 : Nat) : Int)] 3] w := H.sw (Le.refl m)
  have hL := Le.refl m
  refine dstep hR (i := 0) rfl (by kernel_rfl) (fun _ _ _ h => h) (fun _ _ H' => (Runs.ld1 A H' rfl rfl)) A rfl hS ?_; clear A a hR; intro a A hR
  refine dstep hR (i := 1) rfl (by kernel_rfl) (fun _ _ _ h => h) (fun _ _ H' => (Runs.fa A rfl)) A rfl hS ?_; clear A a hR; intro a A hR
  refine dstep hR (i := 2) rfl (by kernel_rfl) (fun _ _ _ h => h) (fun _ _ H' => (Runs.ld1 A H' rfl rfl)) A rfl hS ?_; clear A a hR; intro a A hR
  refine dstep hR (i := 3) rfl (by kernel_rfl) (fun _ _ _ h => h) (fun _ _ H' => (Runs.move A rfl)) A rfl hS ?_; clear A a hR; intro a A hR
  refine dstep hR (i := 4) rfl (by kernel_rfl) (fun _ _ _ h => h) (fun _ _ H' => (Runs.indexAddr A rfl rfl SlC.h (by omega) (by omega))) A rfl hS ?_; clear A a hR; intro a A hR
  refine dstep hR (i := 5) rfl (by kernel_rfl) (fun _ _ _ h => h) (fun _ _ H' => (Runs.ldN A H' rfl (vs := exC q ad2 c2) (by simpa using hg))) A rfl hS ?_; clear A a hR; intro a A hR
  refine dstep hR (i := 6) rfl (by kernel_rfl) (fun _ _ _ h => h) (fun _ _ H' => (Runs.ld1 A H' rfl rfl)) A rfl hS ?_; clear A a hR; intro a A hR
  refine dstep hR (i := 7) rfl (by kernel_rfl) (fun _ _ _ h => h) (fun _ _ H' => (Runs.sub A rfl rfl (by omega))) A rfl hS ?_; clear A a hR; intro a A hR
  refine dlist hR (i := 8) rfl (by kernel_rfl) ?_
  have hR := hR.next (i := 8) (by kernel_rfl)
  have ed : ((d + 1 : Nat) : Int) - 1 = (d : Int) := by omega
  rw [ed] at A
  refine step_callPr A rfl rfl (ih G hA2) H (by omega) ?_
  clear A a; rintro v1_8 a w m hm rfl A H
  simp only [List.cons_append, List.nil_append] at H
  have hM := hM.trans hm
  have G := G.mono hm
  have hfz := hfz.mono hm
  have hA2 := hA2.mono hm
  have hL := hL.trans hm
  refine wpList_nil ?_
  clear hS; refine and_keep (H.sw hL) fun hS => ?_
  refine draw_done hR (by kernel_rfl) ?_
  clear hS hL hR
  exact endPr A rfl hM H rfl rfl (by omega)

theorem c_expr_zero {b : Nat} {m : Mem} {e : Ex} {ad : Option Addr} {c : Nat} (G : Glob m) (hA : ExA m ad c e) : PrSpec Tryz.prog 95 [.pointer (some ⟨b, 0, none⟩), .agg (exC e ad c).toArray, .int .i64 0] m b [] (exprP 0 e) (szEx e) (fun _ v => v = .tuple #[]) := by
  intro x B hB
  refine Spec.enter Tryz.func95 rfl 173 Tryz.ntmps95 rfl fun a w0 Lf A H => ?_
  simp only [List.cons_append, List.nil_append] at H
  have hM := Le.refl m
  refine wp_seq ?_
  refine wp_region_lit ?_
  refine step_box A H rfl (by simp only [Value.cells, List.toList_toArray]; rfl) rfl ?_; intro b2 a w A H
  refine step_box A H rfl (by simp only [Value.cells, List.toList_toArray]; rfl) rfl ?_; intro b3 a w A H
  refine step_box A H rfl (by simp only [Value.cells, List.toList_toArray]; rfl) rfl ?_; intro b4 a w A H
  refine wpList_nil ?_
  refine wp_seq ?_
  refine wp_seq ?_
  refine draw_begin0 (by kernel_rfl) (N := 11) rfl (by kernel_rfl) H ?_; clear H; intro w H hR
  have hS : SW m _ w := ⟨_, H⟩
  have hL := Le.refl m
  refine dstep hR (i := 0) rfl (by kernel_rfl) (fun _ _ _ h => h) (fun _ _ H' => (Runs.ld1 A H' rfl rfl)) A rfl hS ?_; clear A a hR; intro a A hR
  refine dstep hR (i := 1) rfl (by kernel_rfl) (fun _ _ _ h => h) (fun _ _ H' => (Runs.lss A rfl rfl)) A rfl hS ?_; clear A a hR; intro a A hR
  refine dstep hR (i := 2) rfl (by kernel_rfl) (fun _ _ _ h => h) (fun _ _ H' => (Runs.move A rfl)) A rfl hS ?_; clear A a hR; intro a A hR
  refine dskip hR (i := 3) (dj := 9) rfl (by kernel_rfl) (fun _ _ _ h => h) rfl rfl rfl A rfl hS ?_; clear A a hR; intro a A hR
  refine dskip hR (i := 4) (dj := 9) rfl (by kernel_rfl) (fun _ _ _ h => h) rfl rfl rfl A rfl hS ?_; clear A a hR; intro a A hR
  refine dskip hR (i := 5) (dj := 9) rfl (by kernel_rfl) (fun _ _ _ h => h) rfl rfl rfl A rfl hS ?_; clear A a hR; intro a A hR
  refine dskip hR (i := 6) (dj := 9) rfl (by kernel_rfl) (fun _ _ _ h => h) rfl rfl rfl A rfl hS ?_; clear A a hR; intro a A hR
  refine dskip hR (i := 7) (dj := 9) rfl (by kernel_rfl) (fun _ _ _ h => h) rfl rfl rfl A rfl hS ?_; clear A a hR; intro a A hR
  refine dskip hR (i := 8) (dj := 9) rfl (by kernel_rfl) (fun _ _ _ h => h) rfl rfl rfl A rfl hS ?_; clear A a hR; intro a A hR
  refine dskip hR (i := 9) (dj := 9) rfl (by kernel_rfl) (fun _ _ _ h => h) rfl rfl rfl A rfl hS ?_; clear A a hR; intro a A hR
  refine dstep hR (i := 10) rfl (by kernel_rfl) (fun _ _ _ h => h) (fun _ _ H' => (Runs.pickT A rfl rfl rfl)) A rfl hS ?_; clear A a hR; intro a A hR
  refine draw_done hR (by kernel_rfl) ?_
  clear hS hL hR
  refine cond_true A rfl rfl ?_
  obtain ⟨pa, ad0, c0, hpa, had, hlen, H⟩ := H.pr_open (b := b)
  refine wp_region_lit ?_
  refine step (Runs.ld1 A H rfl rfl) A rfl ?_; clear A a; intro a A
  refine step (Runs.nilCheck A rfl) A rfl ?_; clear A a; intro a A
  refine step (Runs.fa A rfl) A rfl ?_; clear A a; intro a A
  refine step_store A H rfl rfl rfl rfl rfl rfl ?_; intro w H
  refine wpList_nil ?_
  refine wp_seq ?_
  refine wp_seq ?_
  refine wp_region_lit ?_
  refine step (Runs.ld1 A H rfl rfl) A rfl ?_; clear A a; intro a A
  refine step (Runs.nilCheck A rfl) A rfl ?_; clear A a; intro a A
  refine step (Runs.fa A rfl) A rfl ?_; clear A a; intro a A
  refine step (Runs.ld1 A H rfl rfl) A rfl ?_; clear A a; intro a A
  refine step (Runs.not A rfl) A rfl ?_; clear A a; intro a A
  refine wpList_nil ?_
  refine cond_true A rfl rfl ?_
  refine wp_ret ?_
  have H := H.pr_close hpa had hlen
  exact retPr A rfl hM H rfl rfl (by omega)

set_option maxHeartbeats 1000000 in
theorem c_expr_succ {b d : Nat} {m : Mem} {e : Ex} {ad : Option Addr} {c : Nat} (hd : d ≤ 100) (ih : ExSpec d) (G : Glob m) (hA : ExA m ad c e) : PrSpec Tryz.prog 95 [.pointer (some ⟨b, 0, none⟩), .agg (exC e ad c).toArray, .int .i64 ((d + 1 : Nat) : Int)] m b [] (exprP (d + 1) e) (szEx e) (fun _ v => v = .tuple #[]) := by
  intro x B hB
  refine Spec.enter Tryz.func95 rfl 173 Tryz.ntmps95 rfl fun a w0 Lf A H => ?_
  simp only [List.cons_append, List.nil_append] at H
  have hM := Le.refl m
  have hsz0 := szEx_eq e
  refine wp_seq ?_
  refine wp_region_lit ?_
  refine step_box A H rfl (by simp only [Value.cells, List.toList_toArray]; rfl) rfl ?_; intro b2 a w A H
  refine step_box A H rfl (by simp only [Value.cells, List.toList_toArray]; rfl) rfl ?_; intro b3 a w A H
  refine step_box A H rfl (by simp only [Value.cells, List.toList_toArray]; rfl) rfl ?_; intro b4 a w A H
  refine wpList_nil ?_
  refine wp_seq ?_
  refine wp_seq ?_
  refine draw_begin0 (by kernel_rfl) (N := 11) rfl (by kernel_rfl) H ?_; clear H; intro w H hR
  have hS : SW m _ w := ⟨_, H⟩
  have hL := Le.refl m
  refine dstep hR (i := 0) rfl (by kernel_rfl) (fun _ _ _ h => h) (fun _ _ H' => (Runs.ld1 A H' rfl rfl)) A rfl hS ?_; clear A a hR; intro a A hR
  refine dstep hR (i := 1) rfl (by kernel_rfl) (fun _ _ _ h => h) (fun _ _ H' => (Runs.lss A rfl rfl)) A rfl hS ?_; clear A a hR; intro a A hR
  refine dstep hR (i := 2) rfl (by kernel_rfl) (fun _ _ _ h => h) (fun _ _ H' => (Runs.move A rfl)) A rfl hS ?_; clear A a hR; intro a A hR
  refine dstepG hR (i := 3) (dj := 9) rfl (by kernel_rfl) (fun _ _ _ h => h) rfl rfl (decide_eq_false (by omega)) (fun _ _ H' => (Runs.fa A rfl)) A rfl hS ?_; clear A a hR; intro a A hR
  refine dstepG hR (i := 4) (dj := 9) rfl (by kernel_rfl) (fun _ _ _ h => h) rfl rfl (decide_eq_false (by omega)) (fun _ _ H' => (Runs.ld1 A H' rfl rfl)) A rfl hS ?_; clear A a hR; intro a A hR
  refine dstepG hR (i := 5) (dj := 9) rfl (by kernel_rfl) (fun _ _ _ h => h) rfl rfl (decide_eq_false (by omega)) (fun _ _ H' => (Runs.lenL A rfl SlC.h)) A rfl hS ?_; clear A a hR; intro a A hR
  refine dstepG hR (i := 6) (dj := 9) rfl (by kernel_rfl) (fun _ _ _ h => h) rfl rfl (decide_eq_false (by omega)) (fun _ _ H' => (Runs.fa A rfl)) A rfl hS ?_; clear A a hR; intro a A hR
  refine dstepG hR (i := 7) (dj := 9) rfl (by kernel_rfl) (fun _ _ _ h => h) rfl rfl (decide_eq_false (by omega)) (fun _ _ H' => (Runs.ld1 A H' rfl rfl)) A rfl hS ?_; clear A a hR; intro a A hR
  refine dlist hR (i := 8) rfl (by kernel_rfl) ?_
  have hR := hR.next (i := 8) (by kernel_rfl)
  refine step_callFG (dj := 9) rfl rfl (decide_eq_false (by omega)) A rfl rfl (c_syntax_arity G) H ?_
  rintro v1_8 a w m hm rfl A H
  have hM := hM.trans hm
  have G := G.mono hm
  have hA := hA.mono hm
  have hL := hL.trans hm
  refine wpList_nil ?_
  clear hS; refine and_keep (H.sw hL) fun hS => ?_
  refine dstepG hR (i := 9) (dj := 9) rfl (by kernel_rfl) (fun _ _ _ h => h) rfl rfl (decide_eq_false (by omega)) (fun _ _ H' => (Runs.neq A rfl rfl)) A rfl hS ?_; clear A a hR; intro a A hR
  refine dstep hR (i := 10) rfl (by kernel_rfl) (fun _ _ _ h => h) (fun _ _ H' => (Runs.pickF A rfl (decide_eq_false (by omega)) rfl)) A rfl hS ?_; clear A a hR; intro a A hR
  refine draw_done hR (by kernel_rfl) ?_
  clear hS hL hR
  refine cond_split A rfl (fun h1 => ?_) (fun h1 => ?_)
  · have g1 := h1
    try simp only [decide_eq_true_eq, decide_eq_false_iff_not, Bool.not_eq_true', Bool.not_eq_false', ne_eq, Decidable.not_not, Int.not_lt, Int.not_le] at g1
    obtain ⟨pa, ad0, c0, hpa, had, hlen, H⟩ := H.pr_open (b := b)
    refine wp_region_lit ?_
    refine step (Runs.ld1 A H rfl rfl) A rfl ?_; clear A a; intro a A
    refine step (Runs.nilCheck A rfl) A rfl ?_; clear A a; intro a A
    refine step (Runs.fa A rfl) A rfl ?_; clear A a; intro a A
    refine step_store A H rfl rfl rfl rfl rfl rfl ?_; intro w H
    refine wpList_nil ?_
    refine wp_seq ?_
    refine wp_seq ?_
    refine wp_region_lit ?_
    refine step (Runs.ld1 A H rfl rfl) A rfl ?_; clear A a; intro a A
    refine step (Runs.nilCheck A rfl) A rfl ?_; clear A a; intro a A
    refine step (Runs.fa A rfl) A rfl ?_; clear A a; intro a A
    refine step (Runs.ld1 A H rfl rfl) A rfl ?_; clear A a; intro a A
    refine step (Runs.not A rfl) A rfl ?_; clear A a; intro a A
    refine wpList_nil ?_
    refine cond_true A rfl rfl ?_
    refine wp_ret ?_
    have H := H.pr_close hpa had hlen
    exact retPr A rfl hM H rfl (by rw [exprP, if_pos (by assumption)]) (by omega)
  · have g1 := h1
    try simp only [decide_eq_true_eq, decide_eq_false_iff_not, Bool.not_eq_true', Bool.not_eq_false', ne_eq, Decidable.not_not, Int.not_lt, Int.not_le] at g1
    refine wp_skip ?_
    refine wp_seq ?_
    refine wp_seq ?_
    obtain ⟨pa, ad0, c0, hpa, had, hlen, H⟩ := H.pr_open (b := b)
    refine wp_region_lit ?_
    refine step (Runs.ld1 A H rfl rfl) A rfl ?_; clear A a; intro a A
    refine step (Runs.nilCheck A rfl) A rfl ?_; clear A a; intro a A
    refine step (Runs.fa A rfl) A rfl ?_; clear A a; intro a A
    refine step (Runs.ld1 A H rfl rfl) A rfl ?_; clear A a; intro a A
    refine step (Runs.not A rfl) A rfl ?_; clear A a; intro a A
    refine wpList_nil ?_
    refine cond_split A rfl (fun h2 => ?_) (fun h2 => ?_)
    · have g2 := h2
      try simp only [decide_eq_true_eq, decide_eq_false_iff_not, Bool.not_eq_true', Bool.not_eq_false', ne_eq, Decidable.not_not, Int.not_lt, Int.not_le] at g2
      refine wp_ret ?_
      have H := H.pr_close hpa had hlen
      have hok : x.ok = false := by simpa using h2
      exact retPr A rfl hM H rfl (by rw [exprP, if_neg (by rw [Decidable.not_not]; assumption), if_pos hok]) (by omega)
    · have g2 := h2
      try simp only [decide_eq_true_eq, decide_eq_false_iff_not, Bool.not_eq_true', Bool.not_eq_false', ne_eq, Decidable.not_not, Int.not_lt, Int.not_le] at g2
      refine wp_skip ?_
      refine wp_seq ?_
      have H := H.pr_close hpa had hlen
      have hlen2 : (e.args.length : Int) = arityP e.op := by assumption
      have hok : x.ok = true := by simpa using (by assumption : (!x.ok) = false)
      refine draw_begin (ms := m) (Ls := [pt b4 [.int .i64 ((d + 1 : Nat) : Int)] 3, pt b3 (exC e ad c) 128, pt b2 [.pointer (some ⟨b, 0, none⟩)] 112]) (by kernel_rfl) (N := 47) rfl (by kernel_rfl) H ?_; clear H; intro w H hR
      have hS : SW m [pt b4 [.int .i64 ((d + 1 : Nat) : Int)] 3, pt b3 (exC e ad c) 128, pt b2 [.pointer (some ⟨b, 0, none⟩)] 112] w := H.sw (Le.refl m)
      have hL := Le.refl m
      refine dstep hR (i := 0) rfl (by kernel_rfl) (fun _ _ _ h => h) (fun _ _ H' => (Runs.ld1 A H' rfl rfl)) A rfl hS ?_; clear A a hR; intro a A hR
      refine dstep hR (i := 1) rfl (by kernel_rfl) (fun _ _ _ h => h) (fun _ _ H' => (Runs.fa A rfl)) A rfl hS ?_; clear A a hR; intro a A hR
      refine dstep hR (i := 2) rfl (by kernel_rfl) (fun _ _ _ h => h) (fun _ _ H' => (Runs.ld1 A H' rfl rfl)) A rfl hS ?_; clear A a hR; intro a A hR
      refine dstep hR (i := 3) rfl (by kernel_rfl) (fun _ _ _ h => h) (fun _ _ H' => (Runs.seql A rfl rfl)) A rfl hS ?_; clear A a hR; intro a A hR
      refine dstep hR (i := 4) rfl (by kernel_rfl) (fun _ _ _ h => h) (fun _ _ H' => (Runs.move A rfl)) A rfl hS ?_; clear A a hR; intro a A hR
      refine dstep hR (i := 14) rfl (by kernel_rfl) (fun _ _ _ h => h) (fun _ _ H' => (Runs.fa A rfl)) A rfl hS ?_; clear A a hR; intro a A hR
      refine dstep hR (i := 15) rfl (by kernel_rfl) (fun _ _ _ h => h) (fun _ _ H' => (Runs.ldN A H' rfl rfl)) A rfl hS ?_; clear A a hR; intro a A hR
      refine dstep hR (i := 27) rfl (by kernel_rfl) (fun _ _ _ h => h) (fun _ _ H' => (Runs.fa A rfl)) A rfl hS ?_; clear A a hR; intro a A hR
      refine dstep hR (i := 28) rfl (by kernel_rfl) (fun _ _ _ h => h) (fun _ _ H' => (Runs.ldN A H' rfl rfl)) A rfl hS ?_; clear A a hR; intro a A hR
      refine joinD 34 [8, 7, 6, 5, 28, 27, 15, 14, 4, 3, 2, 1, 0] (fun F => (34, .bool (decide (e.name = ⟨#[]⟩) || decide (e.op = 14))) :: F) A (fun key1 => ?_) ?_
      · refine onBool A (dj := 30) rfl (fun h3 => ?_) (fun h3 => ?_)
        · have g3 := h3
          try simp only [decide_eq_true_eq, decide_eq_false_iff_not, Bool.not_eq_true', Bool.not_eq_false', ne_eq, Decidable.not_not, Int.not_lt, Int.not_le] at g3
          refine dskip hR (i := 5) (dj := 30) rfl (by kernel_rfl) (fun _ _ _ h => h) rfl rfl h3 A rfl hS ?_; clear A a hR; intro a A hR
          refine dskip hR (i := 6) (dj := 30) rfl (by kernel_rfl) (fun _ _ _ h => h) rfl rfl h3 A rfl hS ?_; clear A a hR; intro a A hR
          refine dskip hR (i := 7) (dj := 30) rfl (by kernel_rfl) (fun _ _ _ h => h) rfl rfl h3 A rfl hS ?_; clear A a hR; intro a A hR
          refine dstep hR (i := 8) rfl (by kernel_rfl) (fun _ _ _ h => h) (fun _ _ H' => (Runs.pickT A rfl h3 rfl)) A rfl hS ?_; clear A a hR; intro a A hR
          exact key1 _ (Fr.with1 (Fr.suf A rfl) A rfl (by first | rfl | (simp [*]; done))) hR
        · have g3 := h3
          try simp only [decide_eq_true_eq, decide_eq_false_iff_not, Bool.not_eq_true', Bool.not_eq_false', ne_eq, Decidable.not_not, Int.not_lt, Int.not_le] at g3
          refine dstepG hR (i := 5) (dj := 30) rfl (by kernel_rfl) (fun _ _ _ h => h) rfl rfl h3 (fun _ _ H' => (Runs.fa A rfl)) A rfl hS ?_; clear A a hR; intro a A hR
          refine dstepG hR (i := 6) (dj := 30) rfl (by kernel_rfl) (fun _ _ _ h => h) rfl rfl h3 (fun _ _ H' => (Runs.ld1 A H' rfl rfl)) A rfl hS ?_; clear A a hR; intro a A hR
          refine dstepG hR (i := 7) (dj := 30) rfl (by kernel_rfl) (fun _ _ _ h => h) rfl rfl h3 (fun _ _ H' => (Runs.eql A rfl rfl)) A rfl hS ?_; clear A a hR; intro a A hR
          refine dstep hR (i := 8) rfl (by kernel_rfl) (fun _ _ _ h => h) (fun _ _ H' => (Runs.pickF A rfl h3 rfl)) A rfl hS ?_; clear A a hR; intro a A hR
          exact key1 _ (Fr.with1 (Fr.suf A rfl) A rfl (by first | rfl | (simp [*]; done))) hR
      clear A hR; intro a A hR
      refine dstep hR (i := 9) rfl (by kernel_rfl) (fun _ _ _ h => h) (fun _ _ H' => (Runs.move A rfl)) A rfl hS ?_; clear A a hR; intro a A hR
      refine joinD 29 [13, 12, 11, 10, 9, 8, 7, 6, 5, 28, 27, 15, 14, 4, 3, 2, 1, 0] (fun F => (39, .bool ((decide (e.name = ⟨#[]⟩) || decide (e.op = 14)) || decide (e.op = 15))) :: F) A (fun key2 => ?_) ?_
      · refine onBool A (dj := 35) rfl (fun h4 => ?_) (fun h4 => ?_)
        · have g4 := h4
          try simp only [decide_eq_true_eq, decide_eq_false_iff_not, Bool.not_eq_true', Bool.not_eq_false', ne_eq, Decidable.not_not, Int.not_lt, Int.not_le] at g4
          refine dskip hR (i := 10) (dj := 35) rfl (by kernel_rfl) (fun _ _ _ h => h) rfl rfl h4 A rfl hS ?_; clear A a hR; intro a A hR
          refine dskip hR (i := 11) (dj := 35) rfl (by kernel_rfl) (fun _ _ _ h => h) rfl rfl h4 A rfl hS ?_; clear A a hR; intro a A hR
          refine dskip hR (i := 12) (dj := 35) rfl (by kernel_rfl) (fun _ _ _ h => h) rfl rfl h4 A rfl hS ?_; clear A a hR; intro a A hR
          refine dstep hR (i := 13) rfl (by kernel_rfl) (fun _ _ _ h => h) (fun _ _ H' => (Runs.pickT A rfl h4 rfl)) A rfl hS ?_; clear A a hR; intro a A hR
          exact key2 _ (Fr.with1 (Fr.suf A rfl) A rfl (by first | rfl | (simp [*]; done))) hR
        · have g4 := h4
          try simp only [decide_eq_true_eq, decide_eq_false_iff_not, Bool.not_eq_true', Bool.not_eq_false', ne_eq, Decidable.not_not, Int.not_lt, Int.not_le] at g4
          refine dstepG hR (i := 10) (dj := 35) rfl (by kernel_rfl) (fun _ _ _ h => h) rfl rfl h4 (fun _ _ H' => (Runs.fa A rfl)) A rfl hS ?_; clear A a hR; intro a A hR
          refine dstepG hR (i := 11) (dj := 35) rfl (by kernel_rfl) (fun _ _ _ h => h) rfl rfl h4 (fun _ _ H' => (Runs.ld1 A H' rfl rfl)) A rfl hS ?_; clear A a hR; intro a A hR
          refine dstepG hR (i := 12) (dj := 35) rfl (by kernel_rfl) (fun _ _ _ h => h) rfl rfl h4 (fun _ _ H' => (Runs.eql A rfl rfl)) A rfl hS ?_; clear A a hR; intro a A hR
          refine dstep hR (i := 13) rfl (by kernel_rfl) (fun _ _ _ h => h) (fun _ _ H' => (Runs.pickF A rfl h4 rfl)) A rfl hS ?_; clear A a hR; intro a A hR
          exact key2 _ (Fr.with1 (Fr.suf A rfl) A rfl (by first | rfl | (simp [*]; done))) hR
      clear A hR; intro a A hR
      refine dlist hR (i := 16) rfl (by kernel_rfl) ?_
      have hR := hR.next (i := 16) (by kernel_rfl)
      refine step_callF A rfl rfl (c_syntax_none (z := e.k)) H ?_
      rintro v4_16 a w m hm rfl A H
      have hM := hM.trans hm
      have G := G.mono hm
      have hA := hA.mono hm
      have hL := hL.trans hm
      refine wpList_nil ?_
      clear hS; refine and_keep (H.sw hL) fun hS => ?_
      refine dstep hR (i := 17) rfl (by kernel_rfl) (fun _ _ _ h => h) (fun _ _ H' => (Runs.move A rfl)) A rfl hS ?_; clear A a hR; intro a A hR
      refine joinD 23 [21, 20, 19, 18, 17, 16, 13, 12, 11, 10, 9, 8, 7, 6, 5, 28, 27, 15, 14, 4, 3, 2, 1, 0] (fun F => (47, .bool (noneB e.k || decide (e.op = 1))) :: F) A (fun key3 => ?_) ?_
      · refine onBool A (dj := 43) rfl (fun h5 => ?_) (fun h5 => ?_)
        · have g5 := h5
          try simp only [decide_eq_true_eq, decide_eq_false_iff_not, Bool.not_eq_true', Bool.not_eq_false', ne_eq, Decidable.not_not, Int.not_lt, Int.not_le] at g5
          refine dskip hR (i := 18) (dj := 43) rfl (by kernel_rfl) (fun _ _ _ h => h) rfl rfl h5 A rfl hS ?_; clear A a hR; intro a A hR
          refine dskip hR (i := 19) (dj := 43) rfl (by kernel_rfl) (fun _ _ _ h => h) rfl rfl h5 A rfl hS ?_; clear A a hR; intro a A hR
          refine dskip hR (i := 20) (dj := 43) rfl (by kernel_rfl) (fun _ _ _ h => h) rfl rfl h5 A rfl hS ?_; clear A a hR; intro a A hR
          refine dstep hR (i := 21) rfl (by kernel_rfl) (fun _ _ _ h => h) (fun _ _ H' => (Runs.pickT A rfl h5 rfl)) A rfl hS ?_; clear A a hR; intro a A hR
          exact key3 _ (Fr.with1 (Fr.suf A rfl) A rfl (by first | rfl | (simp [*]; done))) hR
        · have g5 := h5
          try simp only [decide_eq_true_eq, decide_eq_false_iff_not, Bool.not_eq_true', Bool.not_eq_false', ne_eq, Decidable.not_not, Int.not_lt, Int.not_le] at g5
          refine dstepG hR (i := 18) (dj := 43) rfl (by kernel_rfl) (fun _ _ _ h => h) rfl rfl h5 (fun _ _ H' => (Runs.fa A rfl)) A rfl hS ?_; clear A a hR; intro a A hR
          refine dstepG hR (i := 19) (dj := 43) rfl (by kernel_rfl) (fun _ _ _ h => h) rfl rfl h5 (fun _ _ H' => (Runs.ld1 A H' rfl rfl)) A rfl hS ?_; clear A a hR; intro a A hR
          refine dstepG hR (i := 20) (dj := 43) rfl (by kernel_rfl) (fun _ _ _ h => h) rfl rfl h5 (fun _ _ H' => (Runs.eql A rfl rfl)) A rfl hS ?_; clear A a hR; intro a A hR
          refine dstep hR (i := 21) rfl (by kernel_rfl) (fun _ _ _ h => h) (fun _ _ H' => (Runs.pickF A rfl h5 rfl)) A rfl hS ?_; clear A a hR; intro a A hR
          exact key3 _ (Fr.with1 (Fr.suf A rfl) A rfl (by first | rfl | (simp [*]; done))) hR
      clear A hR; intro a A hR
      refine dstep hR (i := 22) rfl (by kernel_rfl) (fun _ _ _ h => h) (fun _ _ H' => (Runs.move A rfl)) A rfl hS ?_; clear A a hR; intro a A hR
      refine joinD 18 [26, 25, 24, 23, 22, 21, 20, 19, 18, 17, 16, 13, 12, 11, 10, 9, 8, 7, 6, 5, 28, 27, 15, 14, 4, 3, 2, 1, 0] (fun F => (52, .bool ((noneB e.k || decide (e.op = 1)) || decide (e.op = 12))) :: F) A (fun key4 => ?_) ?_
      · refine onBool A (dj := 48) rfl (fun h6 => ?_) (fun h6 => ?_)
        · have g6 := h6
          try simp only [decide_eq_true_eq, decide_eq_false_iff_not, Bool.not_eq_true', Bool.not_eq_false', ne_eq, Decidable.not_not, Int.not_lt, Int.not_le] at g6
          refine dskip hR (i := 23) (dj := 48) rfl (by kernel_rfl) (fun _ _ _ h => h) rfl rfl h6 A rfl hS ?_; clear A a hR; intro a A hR
          refine dskip hR (i := 24) (dj := 48) rfl (by kernel_rfl) (fun _ _ _ h => h) rfl rfl h6 A rfl hS ?_; clear A a hR; intro a A hR
          refine dskip hR (i := 25) (dj := 48) rfl (by kernel_rfl) (fun _ _ _ h => h) rfl rfl h6 A rfl hS ?_; clear A a hR; intro a A hR
          refine dstep hR (i := 26) rfl (by kernel_rfl) (fun _ _ _ h => h) (fun _ _ H' => (Runs.pickT A rfl h6 rfl)) A rfl hS ?_; clear A a hR; intro a A hR
          exact key4 _ (Fr.with1 (Fr.suf A rfl) A rfl (by first | rfl | (simp [*]; done))) hR
        · have g6 := h6
          try simp only [decide_eq_true_eq, decide_eq_false_iff_not, Bool.not_eq_true', Bool.not_eq_false', ne_eq, Decidable.not_not, Int.not_lt, Int.not_le] at g6
          refine dstepG hR (i := 23) (dj := 48) rfl (by kernel_rfl) (fun _ _ _ h => h) rfl rfl h6 (fun _ _ H' => (Runs.fa A rfl)) A rfl hS ?_; clear A a hR; intro a A hR
          refine dstepG hR (i := 24) (dj := 48) rfl (by kernel_rfl) (fun _ _ _ h => h) rfl rfl h6 (fun _ _ H' => (Runs.ld1 A H' rfl rfl)) A rfl hS ?_; clear A a hR; intro a A hR
          refine dstepG hR (i := 25) (dj := 48) rfl (by kernel_rfl) (fun _ _ _ h => h) rfl rfl h6 (fun _ _ H' => (Runs.eql A rfl rfl)) A rfl hS ?_; clear A a hR; intro a A hR
          refine dstep hR (i := 26) rfl (by kernel_rfl) (fun _ _ _ h => h) (fun _ _ H' => (Runs.pickF A rfl h6 rfl)) A rfl hS ?_; clear A a hR; intro a A hR
          exact key4 _ (Fr.with1 (Fr.suf A rfl) A rfl (by first | rfl | (simp [*]; done))) hR
      clear A hR; intro a A hR
      refine dlist hR (i := 29) rfl (by kernel_rfl) ?_
      have hR := hR.next (i := 29) (by kernel_rfl)
      refine step_callF A rfl rfl (c_syntax_none (z := e.w)) H ?_
      rintro v4_29 a w m hm rfl A H
      have hM := hM.trans hm
      have G := G.mono hm
      have hA := hA.mono hm
      have hL := hL.trans hm
      refine wpList_nil ?_
      clear hS; refine and_keep (H.sw hL) fun hS => ?_
      refine dstep hR (i := 30) rfl (by kernel_rfl) (fun _ _ _ h => h) (fun _ _ H' => (Runs.move A rfl)) A rfl hS ?_; clear A a hR; intro a A hR
      refine joinD 12 [34, 33, 32, 31, 30, 29, 26, 25, 24, 23, 22, 21, 20, 19, 18, 17, 16, 13, 12, 11, 10, 9, 8, 7, 6, 5, 28, 27, 15, 14, 4, 3, 2, 1, 0] (fun F => (60, .bool (noneB e.w || decide (e.op = 1))) :: F) A (fun key5 => ?_) ?_
      · refine onBool A (dj := 56) rfl (fun h7 => ?_) (fun h7 => ?_)
        · have g7 := h7
          try simp only [decide_eq_true_eq, decide_eq_false_iff_not, Bool.not_eq_true', Bool.not_eq_false', ne_eq, Decidable.not_not, Int.not_lt, Int.not_le] at g7
          refine dskip hR (i := 31) (dj := 56) rfl (by kernel_rfl) (fun _ _ _ h => h) rfl rfl h7 A rfl hS ?_; clear A a hR; intro a A hR
          refine dskip hR (i := 32) (dj := 56) rfl (by kernel_rfl) (fun _ _ _ h => h) rfl rfl h7 A rfl hS ?_; clear A a hR; intro a A hR
          refine dskip hR (i := 33) (dj := 56) rfl (by kernel_rfl) (fun _ _ _ h => h) rfl rfl h7 A rfl hS ?_; clear A a hR; intro a A hR
          refine dstep hR (i := 34) rfl (by kernel_rfl) (fun _ _ _ h => h) (fun _ _ H' => (Runs.pickT A rfl h7 rfl)) A rfl hS ?_; clear A a hR; intro a A hR
          exact key5 _ (Fr.with1 (Fr.suf A rfl) A rfl (by first | rfl | (simp [*]; done))) hR
        · have g7 := h7
          try simp only [decide_eq_true_eq, decide_eq_false_iff_not, Bool.not_eq_true', Bool.not_eq_false', ne_eq, Decidable.not_not, Int.not_lt, Int.not_le] at g7
          refine dstepG hR (i := 31) (dj := 56) rfl (by kernel_rfl) (fun _ _ _ h => h) rfl rfl h7 (fun _ _ H' => (Runs.fa A rfl)) A rfl hS ?_; clear A a hR; intro a A hR
          refine dstepG hR (i := 32) (dj := 56) rfl (by kernel_rfl) (fun _ _ _ h => h) rfl rfl h7 (fun _ _ H' => (Runs.ld1 A H' rfl rfl)) A rfl hS ?_; clear A a hR; intro a A hR
          refine dstepG hR (i := 33) (dj := 56) rfl (by kernel_rfl) (fun _ _ _ h => h) rfl rfl h7 (fun _ _ H' => (Runs.eql A rfl rfl)) A rfl hS ?_; clear A a hR; intro a A hR
          refine dstep hR (i := 34) rfl (by kernel_rfl) (fun _ _ _ h => h) (fun _ _ H' => (Runs.pickF A rfl h7 rfl)) A rfl hS ?_; clear A a hR; intro a A hR
          exact key5 _ (Fr.with1 (Fr.suf A rfl) A rfl (by first | rfl | (simp [*]; done))) hR
      clear A hR; intro a A hR
      refine dstep hR (i := 35) rfl (by kernel_rfl) (fun _ _ _ h => h) (fun _ _ H' => (Runs.move A rfl)) A rfl hS ?_; clear A a hR; intro a A hR
      refine joinD 7 [39, 38, 37, 36, 35, 34, 33, 32, 31, 30, 29, 26, 25, 24, 23, 22, 21, 20, 19, 18, 17, 16, 13, 12, 11, 10, 9, 8, 7, 6, 5, 28, 27, 15, 14, 4, 3, 2, 1, 0] (fun F => (65, .bool ((noneB e.w || decide (e.op = 1)) || decide (e.op = 12))) :: F) A (fun key6 => ?_) ?_
      · refine onBool A (dj := 61) rfl (fun h8 => ?_) (fun h8 => ?_)
        · have g8 := h8
          try simp only [decide_eq_true_eq, decide_eq_false_iff_not, Bool.not_eq_true', Bool.not_eq_false', ne_eq, Decidable.not_not, Int.not_lt, Int.not_le] at g8
          refine dskip hR (i := 36) (dj := 61) rfl (by kernel_rfl) (fun _ _ _ h => h) rfl rfl h8 A rfl hS ?_; clear A a hR; intro a A hR
          refine dskip hR (i := 37) (dj := 61) rfl (by kernel_rfl) (fun _ _ _ h => h) rfl rfl h8 A rfl hS ?_; clear A a hR; intro a A hR
          refine dskip hR (i := 38) (dj := 61) rfl (by kernel_rfl) (fun _ _ _ h => h) rfl rfl h8 A rfl hS ?_; clear A a hR; intro a A hR
          refine dstep hR (i := 39) rfl (by kernel_rfl) (fun _ _ _ h => h) (fun _ _ H' => (Runs.pickT A rfl h8 rfl)) A rfl hS ?_; clear A a hR; intro a A hR
          exact key6 _ (Fr.with1 (Fr.suf A rfl) A rfl (by first | rfl | (simp [*]; done))) hR
        · have g8 := h8
          try simp only [decide_eq_true_eq, decide_eq_false_iff_not, Bool.not_eq_true', Bool.not_eq_false', ne_eq, Decidable.not_not, Int.not_lt, Int.not_le] at g8
          refine dstepG hR (i := 36) (dj := 61) rfl (by kernel_rfl) (fun _ _ _ h => h) rfl rfl h8 (fun _ _ H' => (Runs.fa A rfl)) A rfl hS ?_; clear A a hR; intro a A hR
          refine dstepG hR (i := 37) (dj := 61) rfl (by kernel_rfl) (fun _ _ _ h => h) rfl rfl h8 (fun _ _ H' => (Runs.ld1 A H' rfl rfl)) A rfl hS ?_; clear A a hR; intro a A hR
          refine dstepG hR (i := 38) (dj := 61) rfl (by kernel_rfl) (fun _ _ _ h => h) rfl rfl h8 (fun _ _ H' => (Runs.eql A rfl rfl)) A rfl hS ?_; clear A a hR; intro a A hR
          refine dstep hR (i := 39) rfl (by kernel_rfl) (fun _ _ _ h => h) (fun _ _ H' => (Runs.pickF A rfl h8 rfl)) A rfl hS ?_; clear A a hR; intro a A hR
          exact key6 _ (Fr.with1 (Fr.suf A rfl) A rfl (by first | rfl | (simp [*]; done))) hR
      clear A hR; intro a A hR
      refine dstep hR (i := 40) rfl (by kernel_rfl) (fun _ _ _ h => h) (fun _ _ H' => (Runs.move A rfl)) A rfl hS ?_; clear A a hR; intro a A hR
      refine joinD 2 [44, 43, 42, 41, 40, 39, 38, 37, 36, 35, 34, 33, 32, 31, 30, 29, 26, 25, 24, 23, 22, 21, 20, 19, 18, 17, 16, 13, 12, 11, 10, 9, 8, 7, 6, 5, 28, 27, 15, 14, 4, 3, 2, 1, 0] (fun F => (70, .bool (((noneB e.w || decide (e.op = 1)) || decide (e.op = 12)) || decide (e.op = 13))) :: F) A (fun key7 => ?_) ?_
      · refine onBool A (dj := 66) rfl (fun h9 => ?_) (fun h9 => ?_)
        · have g9 := h9
          try simp only [decide_eq_true_eq, decide_eq_false_iff_not, Bool.not_eq_true', Bool.not_eq_false', ne_eq, Decidable.not_not, Int.not_lt, Int.not_le] at g9
          refine dskip hR (i := 41) (dj := 66) rfl (by kernel_rfl) (fun _ _ _ h => h) rfl rfl h9 A rfl hS ?_; clear A a hR; intro a A hR
          refine dskip hR (i := 42) (dj := 66) rfl (by kernel_rfl) (fun _ _ _ h => h) rfl rfl h9 A rfl hS ?_; clear A a hR; intro a A hR
          refine dskip hR (i := 43) (dj := 66) rfl (by kernel_rfl) (fun _ _ _ h => h) rfl rfl h9 A rfl hS ?_; clear A a hR; intro a A hR
          refine dstep hR (i := 44) rfl (by kernel_rfl) (fun _ _ _ h => h) (fun _ _ H' => (Runs.pickT A rfl h9 rfl)) A rfl hS ?_; clear A a hR; intro a A hR
          exact key7 _ (Fr.with1 (Fr.suf A rfl) A rfl (by first | rfl | (simp [*]; done))) hR
        · have g9 := h9
          try simp only [decide_eq_true_eq, decide_eq_false_iff_not, Bool.not_eq_true', Bool.not_eq_false', ne_eq, Decidable.not_not, Int.not_lt, Int.not_le] at g9
          refine dstepG hR (i := 41) (dj := 66) rfl (by kernel_rfl) (fun _ _ _ h => h) rfl rfl h9 (fun _ _ H' => (Runs.fa A rfl)) A rfl hS ?_; clear A a hR; intro a A hR
          refine dstepG hR (i := 42) (dj := 66) rfl (by kernel_rfl) (fun _ _ _ h => h) rfl rfl h9 (fun _ _ H' => (Runs.ld1 A H' rfl rfl)) A rfl hS ?_; clear A a hR; intro a A hR
          refine dstepG hR (i := 43) (dj := 66) rfl (by kernel_rfl) (fun _ _ _ h => h) rfl rfl h9 (fun _ _ H' => (Runs.eql A rfl rfl)) A rfl hS ?_; clear A a hR; intro a A hR
          refine dstep hR (i := 44) rfl (by kernel_rfl) (fun _ _ _ h => h) (fun _ _ H' => (Runs.pickF A rfl h9 rfl)) A rfl hS ?_; clear A a hR; intro a A hR
          exact key7 _ (Fr.with1 (Fr.suf A rfl) A rfl (by first | rfl | (simp [*]; done))) hR
      clear A hR; intro a A hR
      refine dlist hR (i := 45) rfl (by kernel_rfl) ?_
      have hR := hR.next (i := 45) (by kernel_rfl)
      refine step_slice A H rfl rfl rfl rfl rfl rfl ?_; intro bz a w A H
      refine wpList_nil ?_
      clear hS; refine and_keep (H.sw hL) fun hS => ?_
      refine dlist hR (i := 46) rfl (by kernel_rfl) ?_
      have hR := hR.next (i := 46) (by kernel_rfl)
      refine step_callPr A rfl rfl (c_syntax_printer_zero (bz := bz) (l := [((decide (e.name = ⟨#[]⟩) || decide (e.op = 14)) || decide (e.op = 15)), ((noneB e.k || decide (e.op = 1)) || decide (e.op = 12)), (((noneB e.w || decide (e.op = 1)) || decide (e.op = 12)) || decide (e.op = 13))]) (bcs := [.bool ((decide (e.name = ⟨#[]⟩) || decide (e.op = 14)) || decide (e.op = 15)), .bool ((noneB e.k || decide (e.op = 1)) || decide (e.op = 12)), .bool (((noneB e.w || decide (e.op = 1)) || decide (e.op = 12)) || decide (e.op = 13))]) rfl rfl (by simp)) H (by omega) ?_
      clear A a; rintro v4_46 a w m hm rfl A H
      simp only [List.cons_append, List.nil_append] at H
      have hM := hM.trans hm
      have G := G.mono hm
      have hA := hA.mono hm
      have H := H.pr_at (b := b) (y := andOk ((decide (e.name = ⟨#[]⟩) || isOp e [14, 15]) && ((noneB e.k || isOp e [1, 12]) && (noneB e.w || isOp e [1, 12, 13]))) x) (by simp [andOk, isOp, Bool.or_assoc])
      have hL := hL.trans hm
      refine wpList_nil ?_
      clear hS; refine and_keep (H.sw hL) fun hS => ?_
      refine draw_done hR (by kernel_rfl) ?_
      clear hS hL hR
      refine wp_seq ?_
      refine wp_region_lit ?_
      refine step (Runs.makeFunc A rfl) A rfl ?_; clear A a; intro a A
      refine step (Runs.assign A rfl) A rfl ?_; clear A a; intro a A
      refine wpList_nil ?_
      refine wp_seq ?_
      refine wp_region_lit ?_
      refine step (Runs.fa A rfl) A rfl ?_; clear A a; intro a A
      refine step (Runs.ld1 A H rfl rfl) A rfl ?_; clear A a; intro a A
      refine wpList_nil ?_
      refine wp_block ?_
      refine wp_seq ?_
      refine wp_region_lit ?_
      refine step (Runs.eql A rfl rfl) A rfl ?_; clear A a; intro a A
      refine step (Runs.assign A rfl) A rfl ?_; clear A a; intro a A
      refine wpList_nil ?_
      refine cond_split A rfl (fun h10 => ?_) (fun h10 => ?_)
      · have g10 := h10
        try simp only [decide_eq_true_eq, decide_eq_false_iff_not, Bool.not_eq_true', Bool.not_eq_false', ne_eq, Decidable.not_not, Int.not_lt, Int.not_le] at g10
        refine wp_seq ?_
        have hsz := szEx_eq e
        refine wp_region_lit ?_
        refine step (Runs.ld1 A H rfl rfl) A rfl ?_; clear A a; intro a A
        refine step (Runs.nilCheck A rfl) A rfl ?_; clear A a; intro a A
        refine step (Runs.fa A rfl) A rfl ?_; clear A a; intro a A
        refine step_callPr A rfl rfl (c_WriteString 1 (by decide)) H (by omega) ?_
        clear A a; rintro v11_3 a w m hm rfl A H
        simp only [List.cons_append, List.nil_append] at H
        have hM := hM.trans hm
        have G := G.mono hm
        have hA := hA.mono hm
        refine wpList_nil ?_
        refine wp_seq ?_
        refine wp_region_lit ?_
        refine step (Runs.ld1 A H rfl rfl) A rfl ?_; clear A a; intro a A
        refine step (Runs.fa A rfl) A rfl ?_; clear A a; intro a A
        refine step (Runs.ldN A H rfl rfl) A rfl ?_; clear A a; intro a A
        refine step_callPr A rfl rfl (c_syntax_printer_num (z := e.k) G hA.2.1) H (by omega) ?_
        clear A a; rintro v12_3 a w m hm rfl A H
        simp only [List.cons_append, List.nil_append] at H
        have hM := hM.trans hm
        have G := G.mono hm
        have hA := hA.mono hm
        refine wpList_nil ?_
        refine wp_seq ?_
        refine wp_region_lit ?_
        refine step (Runs.ld1 A H rfl rfl) A rfl ?_; clear A a; intro a A
        refine step (Runs.nilCheck A rfl) A rfl ?_; clear A a; intro a A
        refine step (Runs.fa A rfl) A rfl ?_; clear A a; intro a A
        refine step_callPr A rfl rfl (c_WriteString 3 (by decide)) H (by omega) ?_
        clear A a; rintro v13_3 a w m hm rfl A H
        simp only [List.cons_append, List.nil_append] at H
        have hM := hM.trans hm
        have G := G.mono hm
        have hA := hA.mono hm
        refine wpList_nil ?_
        refine wp_seq ?_
        refine wp_region_lit ?_
        refine step (Runs.ld1 A H rfl rfl) A rfl ?_; clear A a; intro a A
        refine step (Runs.fa A rfl) A rfl ?_; clear A a; intro a A
        refine step (Runs.ldN A H rfl rfl) A rfl ?_; clear A a; intro a A
        refine step_callPr A rfl rfl (c_syntax_printer_num (z := e.w) G hA.2.2.1) H (by omega) ?_
        clear A a; rintro v14_3 a w m hm rfl A H
        simp only [List.cons_append, List.nil_append] at H
        have hM := hM.trans hm
        have G := G.mono hm
        have hA := hA.mono hm
        refine wpList_nil ?_
        refine wp_region_lit ?_
        refine step (Runs.ld1 A H rfl rfl) A rfl ?_; clear A a; intro a A
        refine step (Runs.nilCheck A rfl) A rfl ?_; clear A a; intro a A
        refine step (Runs.fa A rfl) A rfl ?_; clear A a; intro a A
        refine step_callPr A rfl rfl (c_WriteString 1 (by decide)) H (by omega) ?_
        clear A a; rintro v15_3 a w m hm rfl A H
        simp only [List.cons_append, List.nil_append] at H
        have hM := hM.trans hm
        have G := G.mono hm
        have hA := hA.mono hm
        refine wpList_nil ?_
        exact endPr A rfl hM H rfl (by rw [exprP, if_neg (by rw [Decidable.not_not]; exact hlen2), if_neg (by rw [hok]; decide)]; simp [*]) (by omega)
      · have g10 := h10
        try simp only [decide_eq_true_eq, decide_eq_false_iff_not, Bool.not_eq_true', Bool.not_eq_false', ne_eq, Decidable.not_not, Int.not_lt, Int.not_le] at g10
        refine wp_seq ?_
        refine wp_region_lit ?_
        refine step (Runs.eql A rfl rfl) A rfl ?_; clear A a; intro a A
        refine step (Runs.assign A rfl) A rfl ?_; clear A a; intro a A
        refine wpList_nil ?_
        refine cond_split A rfl (fun h11 => ?_) (fun h11 => ?_)
        · have g11 := h11
          try simp only [decide_eq_true_eq, decide_eq_false_iff_not, Bool.not_eq_true', Bool.not_eq_false', ne_eq, Decidable.not_not, Int.not_lt, Int.not_le] at g11
          have hsz := szEx_eq e
          refine wp_region_lit ?_
          refine step (Runs.ld1 A H rfl rfl) A rfl ?_; clear A a; intro a A
          refine step (Runs.fa A rfl) A rfl ?_; clear A a; intro a A
          refine step (Runs.ld1 A H rfl rfl) A rfl ?_; clear A a; intro a A
          refine step_callPr A rfl rfl (c_syntax_printer_name G (by omega)) H (by omega) ?_
          clear A a; rintro v17_3 a w m hm rfl A H
          simp only [List.cons_append, List.nil_append] at H
          have hM := hM.trans hm
          have G := G.mono hm
          have hA := hA.mono hm
          refine wpList_nil ?_
          exact endPr A rfl hM H rfl (by rw [exprP, if_neg (by rw [Decidable.not_not]; exact hlen2), if_neg (by rw [hok]; decide)]; simp [*]) (by omega)
        · have g11 := h11
          try simp only [decide_eq_true_eq, decide_eq_false_iff_not, Bool.not_eq_true', Bool.not_eq_false', ne_eq, Decidable.not_not, Int.not_lt, Int.not_le] at g11
          refine wp_seq ?_
          refine wp_region_lit ?_
          refine step (Runs.eql A rfl rfl) A rfl ?_; clear A a; intro a A
          refine step (Runs.assign A rfl) A rfl ?_; clear A a; intro a A
          refine wpList_nil ?_
          refine cond_split A rfl (fun h12 => ?_) (fun h12 => ?_)
          · have g12 := h12
            try simp only [decide_eq_true_eq, decide_eq_false_iff_not, Bool.not_eq_true', Bool.not_eq_false', ne_eq, Decidable.not_not, Int.not_lt, Int.not_le] at g12
            refine wp_seq ?_
            have har : e.args.length = 1 := by
              have h := hlen2
              rw [show arityP e.op = 1 by simp [arityP, *]] at h
              omega
            obtain ⟨q0, hargs⟩ := list1 har
            have hsz := szEx_eq e
            rw [hargs] at hsz
            simp only [szExs] at hsz
            refine wp_region_lit ?_
            refine step (Runs.ld1 A H rfl rfl) A rfl ?_; clear A a; intro a A
            refine step (Runs.fa A rfl) A rfl ?_; clear A a; intro a A
            refine step (Runs.ld1 A H rfl rfl) A rfl ?_; clear A a; intro a A
            refine step_callPr A rfl rfl (c_syntax_printer_name G (by omega)) H (by omega) ?_
            clear A a; rintro v19_3 a w m hm rfl A H
            simp only [List.cons_append, List.nil_append] at H
            have hM := hM.trans hm
            have G := G.mono hm
            have hA := hA.mono hm
            refine wpList_nil ?_
            refine wp_seq ?_
            refine wp_region_lit ?_
            refine step (Runs.move A rfl) A rfl ?_; clear A a; intro a A
            refine step_cloPr (cap := [.pointer (some ⟨b2, 0, none⟩), .pointer (some ⟨b3, 0, none⟩), .pointer (some ⟨b4, 0, none⟩)]) A rfl rfl rfl (c_expr_1 (ks := 4) (b := b) (b2 := b2) (b3 := b3) (b4 := b4) (i := 0) (q := q0) rfl ih G hA (by rw [hargs]; rfl) (by omega) (by decide)) H (by omega) ?_
            clear A a; rintro v20_1 a w m hm rfl A H
            simp only [List.cons_append, List.nil_append] at H
            have hM := hM.trans hm
            have G := G.mono hm
            have hA := hA.mono hm
            refine wpList_nil ?_
            refine wp_region_lit ?_
            refine step (Runs.ld1 A H rfl rfl) A rfl ?_; clear A a; intro a A
            refine step (Runs.nilCheck A rfl) A rfl ?_; clear A a; intro a A
            refine step (Runs.fa A rfl) A rfl ?_; clear A a; intro a A
            refine step_callPr A rfl rfl (c_WriteString 1 (by decide)) H (by omega) ?_
            clear A a; rintro v21_3 a w m hm rfl A H
            simp only [List.cons_append, List.nil_append] at H
            have hM := hM.trans hm
            have G := G.mono hm
            have hA := hA.mono hm
            refine wpList_nil ?_
            exact endPr A rfl hM H rfl (by rw [exprP, if_neg (by rw [Decidable.not_not]; exact hlen2), if_neg (by rw [hok]; decide)]; simp [*]) (by omega)
          · have g12 := h12
            try simp only [decide_eq_true_eq, decide_eq_false_iff_not, Bool.not_eq_true', Bool.not_eq_false', ne_eq, Decidable.not_not, Int.not_lt, Int.not_le] at g12
            refine wp_seq ?_
            refine wp_region_lit ?_
            refine step (Runs.eql A rfl rfl) A rfl ?_; clear A a; intro a A
            refine step (Runs.assign A rfl) A rfl ?_; clear A a; intro a A
            refine wpList_nil ?_
            refine cond_split A rfl (fun h13 => ?_) (fun h13 => ?_)
            · have g13 := h13
              try simp only [decide_eq_true_eq, decide_eq_false_iff_not, Bool.not_eq_true', Bool.not_eq_false', ne_eq, Decidable.not_not, Int.not_lt, Int.not_le] at g13
              have har : e.args.length = 1 := by
                have h := hlen2
                rw [show arityP e.op = 1 by simp [arityP, *]] at h
                omega
              obtain ⟨q0, hargs⟩ := list1 har
              have hsz := szEx_eq e
              rw [hargs] at hsz
              simp only [szExs] at hsz
              refine wp_region_lit ?_
              refine step (Runs.move A rfl) A rfl ?_; clear A a; intro a A
              refine step_cloPr (cap := [.pointer (some ⟨b2, 0, none⟩), .pointer (some ⟨b3, 0, none⟩), .pointer (some ⟨b4, 0, none⟩)]) A rfl rfl rfl (c_expr_1 (ks := 4) (b := b) (b2 := b2) (b3 := b3) (b4 := b4) (i := 0) (q := q0) rfl ih G hA (by rw [hargs]; rfl) (by omega) (by decide)) H (by omega) ?_
              clear A a; rintro v23_1 a w m hm rfl A H
              simp only [List.cons_append, List.nil_append] at H
              have hM := hM.trans hm
              have G := G.mono hm
              have hA := hA.mono hm
              refine wpList_nil ?_
              exact endPr A rfl hM H rfl (by rw [exprP, if_neg (by rw [Decidable.not_not]; exact hlen2), if_neg (by rw [hok]; decide)]; simp [*]) (by omega)
            · have g13 := h13
              try simp only [decide_eq_true_eq, decide_eq_false_iff_not, Bool.not_eq_true', Bool.not_eq_false', ne_eq, Decidable.not_not, Int.not_lt, Int.not_le] at g13
              refine wp_seq ?_
              refine wp_region_lit ?_
              refine step (Runs.eql A rfl rfl) A rfl ?_; clear A a; intro a A
              refine step (Runs.assign A rfl) A rfl ?_; clear A a; intro a A
              refine wpList_nil ?_
              refine cond_split A rfl (fun h14 => ?_) (fun h14 => ?_)
              · have g14 := h14
                try simp only [decide_eq_true_eq, decide_eq_false_iff_not, Bool.not_eq_true', Bool.not_eq_false', ne_eq, Decidable.not_not, Int.not_lt, Int.not_le] at g14
                refine wp_seq ?_
                have har : e.args.length = 3 := by
                  have h := hlen2
                  rw [show arityP e.op = 3 by simp [arityP, *]] at h
                  omega
                obtain ⟨q0, q1, q2, hargs⟩ := list3 har
                have hsz := szEx_eq e
                rw [hargs] at hsz
                simp only [szExs] at hsz
                refine wp_region_lit ?_
                refine step (Runs.move A rfl) A rfl ?_; clear A a; intro a A
                refine step_cloPr (cap := [.pointer (some ⟨b2, 0, none⟩), .pointer (some ⟨b3, 0, none⟩), .pointer (some ⟨b4, 0, none⟩)]) A rfl rfl rfl (c_expr_1 (ks := 4) (b := b) (b2 := b2) (b3 := b3) (b4 := b4) (i := 0) (q := q0) rfl ih G hA (by rw [hargs]; rfl) (by omega) (by decide)) H (by omega) ?_
                clear A a; rintro v25_1 a w m hm rfl A H
                simp only [List.cons_append, List.nil_append] at H
                have hM := hM.trans hm
                have G := G.mono hm
                have hA := hA.mono hm
                refine wpList_nil ?_
                refine wp_seq ?_
                refine wp_region_lit ?_
                refine step (Runs.move A rfl) A rfl ?_; clear A a; intro a A
                refine step_cloPr (cap := [.pointer (some ⟨b2, 0, none⟩), .pointer (some ⟨b3, 0, none⟩), .pointer (some ⟨b4, 0, none⟩)]) A rfl rfl rfl (c_expr_1 (ks := 4) (b := b) (b2 := b2) (b3 := b3) (b4 := b4) (i := 1) (q := q1) rfl ih G hA (by rw [hargs]; rfl) (by omega) (by decide)) H (by omega) ?_
                clear A a; rintro v26_1 a w m hm rfl A H
                simp only [List.cons_append, List.nil_append] at H
                have hM := hM.trans hm
                have G := G.mono hm
                have hA := hA.mono hm
                refine wpList_nil ?_
                refine wp_seq ?_
                refine wp_region_lit ?_
                refine step (Runs.move A rfl) A rfl ?_; clear A a; intro a A
                refine step_cloPr (cap := [.pointer (some ⟨b2, 0, none⟩), .pointer (some ⟨b3, 0, none⟩), .pointer (some ⟨b4, 0, none⟩)]) A rfl rfl rfl (c_expr_1 (ks := 4) (b := b) (b2 := b2) (b3 := b3) (b4 := b4) (i := 2) (q := q2) rfl ih G hA (by rw [hargs]; rfl) (by omega) (by decide)) H (by omega) ?_
                clear A a; rintro v27_1 a w m hm rfl A H
                simp only [List.cons_append, List.nil_append] at H
                have hM := hM.trans hm
                have G := G.mono hm
                have hA := hA.mono hm
                refine wpList_nil ?_
                refine wp_region_lit ?_
                refine step (Runs.ld1 A H rfl rfl) A rfl ?_; clear A a; intro a A
                refine step (Runs.nilCheck A rfl) A rfl ?_; clear A a; intro a A
                refine step (Runs.fa A rfl) A rfl ?_; clear A a; intro a A
                refine step_callPr A rfl rfl (c_WriteString 1 (by decide)) H (by omega) ?_
                clear A a; rintro v28_3 a w m hm rfl A H
                simp only [List.cons_append, List.nil_append] at H
                have hM := hM.trans hm
                have G := G.mono hm
                have hA := hA.mono hm
                refine wpList_nil ?_
                exact endPr A rfl hM H rfl (by rw [exprP, if_neg (by rw [Decidable.not_not]; exact hlen2), if_neg (by rw [hok]; decide)]; simp [*]) (by omega)
              · have g14 := h14
                try simp only [decide_eq_true_eq, decide_eq_false_iff_not, Bool.not_eq_true', Bool.not_eq_false', ne_eq, Decidable.not_not, Int.not_lt, Int.not_le] at g14
                refine wp_seq ?_
                refine wp_seq ?_
                refine wp_region_lit ?_
                refine step (Runs.eql A rfl rfl) A rfl ?_; clear A a; intro a A
                refine step (Runs.assign A rfl) A rfl ?_; clear A a; intro a A
                refine wpList_nil ?_
                refine cond_split A rfl (fun h15 => ?_) (fun h15 => ?_)
                · have g15 := h15
                  try simp only [decide_eq_true_eq, decide_eq_false_iff_not, Bool.not_eq_true', Bool.not_eq_false', ne_eq, Decidable.not_not, Int.not_lt, Int.not_le] at g15
                  refine wp_skip ?_
                  refine cond_true A rfl h15 ?_
                  refine wp_seq ?_
                  have har : e.args.length = 1 := by
                    have h := hlen2
                    rw [show arityP e.op = 1 by simp [arityP, *]] at h
                    omega
                  obtain ⟨q0, hargs⟩ := list1 har
                  have hsz := szEx_eq e
                  rw [hargs] at hsz
                  simp only [szExs] at hsz
                  refine wp_region_lit ?_
                  refine step (Runs.move A rfl) A rfl ?_; clear A a; intro a A
                  refine step_cloPr (cap := [.pointer (some ⟨b2, 0, none⟩), .pointer (some ⟨b3, 0, none⟩), .pointer (some ⟨b4, 0, none⟩)]) A rfl rfl rfl (c_expr_1 (ks := 4) (b := b) (b2 := b2) (b3 := b3) (b4 := b4) (i := 0) (q := q0) rfl ih G hA (by rw [hargs]; rfl) (by omega) (by decide)) H (by omega) ?_
                  clear A a; rintro v31_1 a w m hm rfl A H
                  simp only [List.cons_append, List.nil_append] at H
                  have hM := hM.trans hm
                  have G := G.mono hm
                  have hA := hA.mono hm
                  refine wpList_nil ?_
                  refine wp_seq ?_
                  refine wp_seq ?_
                  refine wp_region_lit ?_
                  refine step (Runs.fa A rfl) A rfl ?_; clear A a; intro a A
                  refine step (Runs.ld1 A H rfl rfl) A rfl ?_; clear A a; intro a A
                  refine step (Runs.eql A rfl rfl) A rfl ?_; clear A a; intro a A
                  refine wpList_nil ?_
                  refine cond_true A rfl (decide_eq_true (by assumption)) ?_
                  refine wp_seq ?_
                  refine wp_region_lit ?_
                  refine step (Runs.ld1 A H rfl rfl) A rfl ?_; clear A a; intro a A
                  refine step (Runs.nilCheck A rfl) A rfl ?_; clear A a; intro a A
                  refine step (Runs.fa A rfl) A rfl ?_; clear A a; intro a A
                  refine step_callPr A rfl rfl (c_WriteString 3 (by decide)) H (by omega) ?_
                  clear A a; rintro v33_3 a w m hm rfl A H
                  simp only [List.cons_append, List.nil_append] at H
                  have hM := hM.trans hm
                  have G := G.mono hm
                  have hA := hA.mono hm
                  refine wpList_nil ?_
                  refine wp_region_lit ?_
                  refine step (Runs.ld1 A H rfl rfl) A rfl ?_; clear A a; intro a A
                  refine step (Runs.fa A rfl) A rfl ?_; clear A a; intro a A
                  refine step (Runs.ldN A H rfl rfl) A rfl ?_; clear A a; intro a A
                  refine step_callPr A rfl rfl (c_syntax_printer_num (z := e.k) G hA.2.1) H (by omega) ?_
                  clear A a; rintro v34_3 a w m hm rfl A H
                  simp only [List.cons_append, List.nil_append] at H
                  have hM := hM.trans hm
                  have G := G.mono hm
                  have hA := hA.mono hm
                  refine wpList_nil ?_
                  refine wp_seq ?_
                  refine wp_region_lit ?_
                  refine step (Runs.ld1 A H rfl rfl) A rfl ?_; clear A a; intro a A
                  refine step (Runs.nilCheck A rfl) A rfl ?_; clear A a; intro a A
                  refine step (Runs.fa A rfl) A rfl ?_; clear A a; intro a A
                  refine step_callPr A rfl rfl (c_WriteString 3 (by decide)) H (by omega) ?_
                  clear A a; rintro v35_3 a w m hm rfl A H
                  simp only [List.cons_append, List.nil_append] at H
                  have hM := hM.trans hm
                  have G := G.mono hm
                  have hA := hA.mono hm
                  refine wpList_nil ?_
                  refine wp_seq ?_
                  refine wp_region_lit ?_
                  refine step (Runs.ld1 A H rfl rfl) A rfl ?_; clear A a; intro a A
                  refine step (Runs.fa A rfl) A rfl ?_; clear A a; intro a A
                  refine step (Runs.ldN A H rfl rfl) A rfl ?_; clear A a; intro a A
                  refine step_callPr A rfl rfl (c_syntax_printer_num (z := e.w) G hA.2.2.1) H (by omega) ?_
                  clear A a; rintro v36_3 a w m hm rfl A H
                  simp only [List.cons_append, List.nil_append] at H
                  have hM := hM.trans hm
                  have G := G.mono hm
                  have hA := hA.mono hm
                  refine wpList_nil ?_
                  refine wp_region_lit ?_
                  refine step (Runs.ld1 A H rfl rfl) A rfl ?_; clear A a; intro a A
                  refine step (Runs.nilCheck A rfl) A rfl ?_; clear A a; intro a A
                  refine step (Runs.fa A rfl) A rfl ?_; clear A a; intro a A
                  refine step_callPr A rfl rfl (c_WriteString 1 (by decide)) H (by omega) ?_
                  clear A a; rintro v37_3 a w m hm rfl A H
                  simp only [List.cons_append, List.nil_append] at H
                  have hM := hM.trans hm
                  have G := G.mono hm
                  have hA := hA.mono hm
                  refine wpList_nil ?_
                  exact endPr A rfl hM H rfl (by rw [exprP, if_neg (by rw [Decidable.not_not]; exact hlen2), if_neg (by rw [hok]; decide)]; simp [*]) (by omega)
                · have g15 := h15
                  try simp only [decide_eq_true_eq, decide_eq_false_iff_not, Bool.not_eq_true', Bool.not_eq_false', ne_eq, Decidable.not_not, Int.not_lt, Int.not_le] at g15
                  refine wp_region_lit ?_
                  refine step (Runs.eql A rfl rfl) A rfl ?_; clear A a; intro a A
                  refine step (Runs.assign A rfl) A rfl ?_; clear A a; intro a A
                  refine wpList_nil ?_
                  refine cond_split A rfl (fun h16 => ?_) (fun h16 => ?_)
                  · have g16 := h16
                    try simp only [decide_eq_true_eq, decide_eq_false_iff_not, Bool.not_eq_true', Bool.not_eq_false', ne_eq, Decidable.not_not, Int.not_lt, Int.not_le] at g16
                    refine wp_seq ?_
                    have har : e.args.length = 1 := by
                      have h := hlen2
                      rw [show arityP e.op = 1 by simp [arityP, *]] at h
                      omega
                    obtain ⟨q0, hargs⟩ := list1 har
                    have hsz := szEx_eq e
                    rw [hargs] at hsz
                    simp only [szExs] at hsz
                    refine wp_region_lit ?_
                    refine step (Runs.move A rfl) A rfl ?_; clear A a; intro a A
                    refine step_cloPr (cap := [.pointer (some ⟨b2, 0, none⟩), .pointer (some ⟨b3, 0, none⟩), .pointer (some ⟨b4, 0, none⟩)]) A rfl rfl rfl (c_expr_1 (ks := 4) (b := b) (b2 := b2) (b3 := b3) (b4 := b4) (i := 0) (q := q0) rfl ih G hA (by rw [hargs]; rfl) (by omega) (by decide)) H (by omega) ?_
                    clear A a; rintro v31_1 a w m hm rfl A H
                    simp only [List.cons_append, List.nil_append] at H
                    have hM := hM.trans hm
                    have G := G.mono hm
                    have hA := hA.mono hm
                    refine wpList_nil ?_
                    refine wp_seq ?_
                    refine wp_seq ?_
                    refine wp_region_lit ?_
                    refine step (Runs.fa A rfl) A rfl ?_; clear A a; intro a A
                    refine step (Runs.ld1 A H rfl rfl) A rfl ?_; clear A a; intro a A
                    refine step (Runs.eql A rfl rfl) A rfl ?_; clear A a; intro a A
                    refine wpList_nil ?_
                    refine cond_false A rfl (decide_eq_false (by assumption)) ?_
                    refine wp_skip ?_
                    refine wp_seq ?_
                    refine wp_region_lit ?_
                    refine step (Runs.ld1 A H rfl rfl) A rfl ?_; clear A a; intro a A
                    refine step (Runs.nilCheck A rfl) A rfl ?_; clear A a; intro a A
                    refine step (Runs.fa A rfl) A rfl ?_; clear A a; intro a A
                    refine step_callPr A rfl rfl (c_WriteString 3 (by decide)) H (by omega) ?_
                    clear A a; rintro v35_3 a w m hm rfl A H
                    simp only [List.cons_append, List.nil_append] at H
                    have hM := hM.trans hm
                    have G := G.mono hm
                    have hA := hA.mono hm
                    refine wpList_nil ?_
                    refine wp_seq ?_
                    refine wp_region_lit ?_
                    refine step (Runs.ld1 A H rfl rfl) A rfl ?_; clear A a; intro a A
                    refine step (Runs.fa A rfl) A rfl ?_; clear A a; intro a A
                    refine step (Runs.ldN A H rfl rfl) A rfl ?_; clear A a; intro a A
                    refine step_callPr A rfl rfl (c_syntax_printer_num (z := e.w) G hA.2.2.1) H (by omega) ?_
                    clear A a; rintro v36_3 a w m hm rfl A H
                    simp only [List.cons_append, List.nil_append] at H
                    have hM := hM.trans hm
                    have G := G.mono hm
                    have hA := hA.mono hm
                    refine wpList_nil ?_
                    refine wp_region_lit ?_
                    refine step (Runs.ld1 A H rfl rfl) A rfl ?_; clear A a; intro a A
                    refine step (Runs.nilCheck A rfl) A rfl ?_; clear A a; intro a A
                    refine step (Runs.fa A rfl) A rfl ?_; clear A a; intro a A
                    refine step_callPr A rfl rfl (c_WriteString 1 (by decide)) H (by omega) ?_
                    clear A a; rintro v37_3 a w m hm rfl A H
                    simp only [List.cons_append, List.nil_append] at H
                    have hM := hM.trans hm
                    have G := G.mono hm
                    have hA := hA.mono hm
                    refine wpList_nil ?_
                    exact endPr A rfl hM H rfl (by rw [exprP, if_neg (by rw [Decidable.not_not]; exact hlen2), if_neg (by rw [hok]; decide)]; simp [*]) (by omega)
                  · have g16 := h16
                    try simp only [decide_eq_true_eq, decide_eq_false_iff_not, Bool.not_eq_true', Bool.not_eq_false', ne_eq, Decidable.not_not, Int.not_lt, Int.not_le] at g16
                    refine wp_seq ?_
                    have har : e.args.length = 2 := arity_bin hlen2 (by assumption) (by assumption) (by assumption) (by assumption) (by assumption) (by assumption) (by assumption)
                    obtain ⟨q0, q1, hargs⟩ := list2 har
                    have hsz := szEx_eq e
                    rw [hargs] at hsz
                    simp only [szExs] at hsz
                    refine wp_region_lit ?_
                    refine step (Runs.move A rfl) A rfl ?_; clear A a; intro a A
                    refine step_cloPr (cap := [.pointer (some ⟨b2, 0, none⟩), .pointer (some ⟨b3, 0, none⟩), .pointer (some ⟨b4, 0, none⟩)]) A rfl rfl rfl (c_expr_1 (ks := 4) (b := b) (b2 := b2) (b3 := b3) (b4 := b4) (i := 0) (q := q0) rfl ih G hA (by rw [hargs]; rfl) (by omega) (by decide)) H (by omega) ?_
                    clear A a; rintro v7_1 a w m hm rfl A H
                    simp only [List.cons_append, List.nil_append] at H
                    have hM := hM.trans hm
                    have G := G.mono hm
                    have hA := hA.mono hm
                    refine wpList_nil ?_
                    refine wp_seq ?_
                    refine wp_region_lit ?_
                    refine step (Runs.move A rfl) A rfl ?_; clear A a; intro a A
                    refine step (Runs.fa A rfl) A rfl ?_; clear A a; intro a A
                    refine step (Runs.ld1 A H rfl rfl) A rfl ?_; clear A a; intro a A
                    refine step_callF A rfl rfl (c_syntax_sign G) H ?_
                    rintro v8_3 a w m hm rfl A H
                    have hM := hM.trans hm
                    have G := G.mono hm
                    have hA := hA.mono hm
                    refine step (Runs.sadd A rfl rfl (by have := signP_size e.op; change 1 + _ ≤ _; omega)) A rfl ?_; clear A a; intro a A
                    refine step (Runs.sadd A rfl rfl (by have := signP_size e.op; rw [ByteArray.size_append]; change 1 + _ + 1 ≤ _; omega)) A rfl ?_; clear A a; intro a A
                    refine step_cloPr (cap := [.pointer (some ⟨b2, 0, none⟩), .pointer (some ⟨b3, 0, none⟩), .pointer (some ⟨b4, 0, none⟩)]) A rfl rfl rfl (c_expr_1 (ks := 4) (b := b) (b2 := b2) (b3 := b3) (b4 := b4) (i := 1) (q := q1) rfl ih G hA (by rw [hargs]; rfl) (by omega) (by have := signP_size e.op; rw [ByteArray.size_append, ByteArray.size_append]; change 1 + _ + 1 ≤ _; omega)) H (by omega) ?_
                    clear A a; rintro v8_6 a w m hm rfl A H
                    simp only [List.cons_append, List.nil_append] at H
                    have hM := hM.trans hm
                    have G := G.mono hm
                    have hA := hA.mono hm
                    refine wpList_nil ?_
                    refine wp_region_lit ?_
                    refine step (Runs.ld1 A H rfl rfl) A rfl ?_; clear A a; intro a A
                    refine step (Runs.nilCheck A rfl) A rfl ?_; clear A a; intro a A
                    refine step (Runs.fa A rfl) A rfl ?_; clear A a; intro a A
                    refine step_callPr A rfl rfl (c_WriteString 1 (by decide)) H (by omega) ?_
                    clear A a; rintro v9_3 a w m hm rfl A H
                    simp only [List.cons_append, List.nil_append] at H
                    have hM := hM.trans hm
                    have G := G.mono hm
                    have hA := hA.mono hm
                    refine wpList_nil ?_
                    exact endPr A rfl hM H rfl (by rw [exprP, if_neg (by rw [Decidable.not_not]; exact hlen2), if_neg (by rw [hok]; decide)]; simp [*]) (by omega)

theorem exSpec : ∀ d : Nat, d ≤ 100 → ExSpec d
  | 0, _ => fun G hA => c_expr_zero G hA
  | d + 1, h => fun G hA => c_expr_succ (by omega) (exSpec d (by omega)) G hA
end Sl
end Go.Proofs.YtanhehbfbakdcaaGreatDoor
/- The printer's items: printed by my gen.py out of annotations. -/
set_option linter.unusedSimpArgs false
set_option linter.unusedVariables false
namespace Go.Proofs.YtanhehbfbakdcaaGreatDoor
namespace Sl
open Go

theorem c_item_1 {b bw ks : Nat} {s : ByteArray} {e : Ex} {ad : Option Addr} {c : Nat} {m : Mem} (G : Glob m) (hA : ExA m ad c e) (hks : s.size ≤ ks) : PrSpec Tryz.prog 94 [.string s, .agg (exC e ad c).toArray, .pointer (some ⟨bw, 0, none⟩)] m b [pt bw [.pointer (some ⟨b, 0, none⟩)] 112] (partP (bl s) e) (szEx e + ks) (fun _ v => v = .tuple #[]) := by
  intro x B hB
  refine Spec.enter Tryz.func94 rfl 13 Tryz.ntmps94 rfl fun a w0 Lf A H => ?_
  simp only [List.cons_append, List.nil_append] at H
  have hM := Le.refl m
  refine wp_seq ?_
  refine wp_region_lit ?_
  refine step_box A H rfl (by simp only [Value.cells, List.toList_toArray]; rfl) rfl ?_; intro b1 a w A H
  refine wpList_nil ?_
  refine wp_seq ?_
  refine wp_region_lit ?_
  refine step (Runs.ld1 A H rfl rfl) A rfl ?_; clear A a; intro a A
  refine step (Runs.nilCheck A rfl) A rfl ?_; clear A a; intro a A
  refine step (Runs.fa A rfl) A rfl ?_; clear A a; intro a A
  refine step (Runs.move A rfl) A rfl ?_; clear A a; intro a A
  refine step_callPr A rfl rfl (c_WriteString _ (Nat.le_refl _)) H (by omega) ?_
  clear A a; rintro v1_4 a w m hm rfl A H
  simp only [List.cons_append, List.nil_append] at H
  have hM := hM.trans hm
  have G := G.mono hm
  have hA := hA.mono hm
  refine wpList_nil ?_
  refine wp_region_lit ?_
  refine step (Runs.ld1 A H rfl rfl) A rfl ?_; clear A a; intro a A
  refine step (Runs.ldN A H rfl rfl) A rfl ?_; clear A a; intro a A
  refine step_callPr A rfl rfl (exSpec 8 (by decide) G hA) H (by omega) ?_
  clear A a; rintro v2_2 a w m hm rfl A H
  simp only [List.cons_append, List.nil_append] at H
  have hM := hM.trans hm
  have G := G.mono hm
  have hA := hA.mono hm
  refine wpList_nil ?_
  exact endPr A rfl hM H rfl rfl (by omega)

theorem kw_at {k : Int} (h1 : 1 ≤ k) (h2 : k ≤ 9) : ([.string ⟨#[105, 110]⟩, .string ⟨#[111, 117, 116]⟩, .string ⟨#[99, 104, 97, 110]⟩, .string ⟨#[114, 101, 103]⟩, .string ⟨#[119, 105, 114, 101]⟩, .string ⟨#[109, 101, 109]⟩, .string ⟨#[116, 97, 107, 101]⟩, .string ⟨#[112, 117, 116]⟩, .string ⟨#[105, 110, 115, 116]⟩] : List Value)[0 + (k - 1).toNat * 1]? = some (.string ⟨(kwP k).toArray⟩) := by
  have : k = 1 ∨ k = 2 ∨ k = 3 ∨ k = 4 ∨ k = 5 ∨ k = 6 ∨ k = 7 ∨ k = 8 ∨ k = 9 := by omega
  rcases this with rfl | rfl | rfl | rfl | rfl | rfl | rfl | rfl | rfl <;> rfl
theorem kw_size (k : Int) : (kwP k).length ≤ 4 := by unfold kwP; split <;> decide

set_option maxHeartbeats 2000000 in
theorem c_printer_item {b : Nat} {i : PItem} {p : IP} {m : Mem} (G : Glob m) (hI : ItA m i p) : PrSpec Tryz.prog 63 [.pointer (some ⟨b, 0, none⟩), .agg (itC i p).toArray] m b [] (itemP i) (szItem i) (fun _ v => v = .tuple #[]) := by
  intro x B hB
  refine Spec.enter Tryz.func63 rfl 239 Tryz.ntmps63 rfl fun a w0 Lf A H => ?_
  simp only [List.cons_append, List.nil_append] at H
  have hM := Le.refl m
  have hB' := hB
  unfold szItem at hB'
  refine wp_seq ?_
  refine wp_region_lit ?_
  refine step_box A H rfl (by simp only [Value.cells, List.toList_toArray]; rfl) rfl ?_; intro b2 a w A H
  refine step_box A H rfl (by simp only [Value.cells, List.toList_toArray]; rfl) rfl ?_; intro b3 a w A H
  refine wpList_nil ?_
  refine wp_seq ?_
  refine wp_region_lit ?_
  refine step (Runs.fa A rfl) A rfl ?_; clear A a; intro a A
  refine step (Runs.ld1 A H rfl rfl) A rfl ?_; clear A a; intro a A
  refine step (Runs.assign A rfl) A rfl ?_; clear A a; intro a A
  refine wpList_nil ?_
  refine wp_seq ?_
  refine wp_seq ?_
  refine wp_region_lit ?_
  refine step (Runs.move A rfl) A rfl ?_; clear A a; intro a A
  refine step (Runs.lss A rfl rfl) A rfl ?_; clear A a; intro a A
  refine step (Runs.move A rfl) A rfl ?_; clear A a; intro a A
  refine onBool A (dj := 14) rfl (fun h1 => ?_) (fun h1 => ?_)
  · have g1 := h1
    try simp only [decide_eq_true_eq, decide_eq_false_iff_not, Bool.not_eq_true', Bool.not_eq_false', ne_eq, Decidable.not_not, Int.not_lt, Int.not_le] at g1
    refine stepSkip (dj := 14) rfl rfl h1 A rfl ?_; clear A a; intro a A
    refine stepSkip (dj := 14) rfl rfl h1 A rfl ?_; clear A a; intro a A
    refine step (Runs.pickT A rfl h1 rfl) A rfl ?_; clear A a; intro a A
    refine wpList_nil ?_
    refine cond_true A rfl rfl ?_
    refine wp_seq ?_
    obtain ⟨pa, ad0, c0, hpa, had, hlen, H⟩ := H.pr_open (b := b)
    refine wp_region_lit ?_
    refine step (Runs.ld1 A H rfl rfl) A rfl ?_; clear A a; intro a A
    refine step (Runs.nilCheck A rfl) A rfl ?_; clear A a; intro a A
    refine step (Runs.fa A rfl) A rfl ?_; clear A a; intro a A
    refine step_store A H rfl rfl rfl rfl rfl rfl ?_; intro w H
    refine wpList_nil ?_
    refine wp_ret ?_
    have H := H.pr_close hpa had hlen
    exact retPr A rfl hM H rfl (by rw [itemP]; simp only []; rw [if_pos (by omega)]) (by omega)
  · have g1 := h1
    try simp only [decide_eq_true_eq, decide_eq_false_iff_not, Bool.not_eq_true', Bool.not_eq_false', ne_eq, Decidable.not_not, Int.not_lt, Int.not_le] at g1
    refine stepG (dj := 14) rfl rfl h1 (Runs.move A rfl) A rfl ?_; clear A a; intro a A
    refine stepG (dj := 14) rfl rfl h1 (Runs.gtr A rfl rfl) A rfl ?_; clear A a; intro a A
    refine step (Runs.pickF A rfl h1 rfl) A rfl ?_; clear A a; intro a A
    refine wpList_nil ?_
    refine cond_split A rfl (fun h2 => ?_) (fun h2 => ?_)
    · have g2 := h2
      try simp only [decide_eq_true_eq, decide_eq_false_iff_not, Bool.not_eq_true', Bool.not_eq_false', ne_eq, Decidable.not_not, Int.not_lt, Int.not_le] at g2
      refine wp_seq ?_
      obtain ⟨pa, ad0, c0, hpa, had, hlen, H⟩ := H.pr_open (b := b)
      refine wp_region_lit ?_
      refine step (Runs.ld1 A H rfl rfl) A rfl ?_; clear A a; intro a A
      refine step (Runs.nilCheck A rfl) A rfl ?_; clear A a; intro a A
      refine step (Runs.fa A rfl) A rfl ?_; clear A a; intro a A
      refine step_store A H rfl rfl rfl rfl rfl rfl ?_; intro w H
      refine wpList_nil ?_
      refine wp_ret ?_
      have H := H.pr_close hpa had hlen
      exact retPr A rfl hM H rfl (by rw [itemP]; simp only []; rw [if_pos (by omega)]) (by omega)
    · have g2 := h2
      try simp only [decide_eq_true_eq, decide_eq_false_iff_not, Bool.not_eq_true', Bool.not_eq_false', ne_eq, Decidable.not_not, Int.not_lt, Int.not_le] at g2
      refine wp_skip ?_
      refine wp_seq ?_
      refine wp_region_lit ?_
      refine step (Runs.move A rfl) A rfl ?_; clear A a; intro a A
      refine step (Runs.eql A rfl rfl) A rfl ?_; clear A a; intro a A
      refine step (Runs.move A rfl) A rfl ?_; clear A a; intro a A
      refine step (Runs.eql A rfl rfl) A rfl ?_; clear A a; intro a A
      refine step (Runs.move A rfl) A rfl ?_; clear A a; intro a A
      refine step (Runs.eql A rfl rfl) A rfl ?_; clear A a; intro a A
      refine step (Runs.move A rfl) A rfl ?_; clear A a; intro a A
      refine step (Runs.eql A rfl rfl) A rfl ?_; clear A a; intro a A
      refine step (Runs.assign A rfl) A rfl ?_; clear A a; intro a A
      refine step (Runs.assign A rfl) A rfl ?_; clear A a; intro a A
      refine step (Runs.assign A rfl) A rfl ?_; clear A a; intro a A
      refine step (Runs.assign A rfl) A rfl ?_; clear A a; intro a A
      refine wpList_nil ?_
      refine wp_seq ?_
      refine draw_begin (ms := m) (Ls := [pt b3 (itC i p) 134, pt b2 [.pointer (some ⟨b, 0, none⟩)] 112]) (by kernel_rfl) (N := 80) rfl (by kernel_rfl) H ?_; clear H; intro w H hR
      have hS : SW m [pt b3 (itC i p) 134, pt b2 [.pointer (some ⟨b, 0, none⟩)] 112] w := H.sw (Le.refl m)
      have hL := Le.refl m
      refine dstep hR (i := 0) rfl (by kernel_rfl) (fun _ _ _ h => h) (fun _ _ H' => (Runs.ld1 A H' rfl rfl)) A rfl hS ?_; clear A a hR; intro a A hR
      refine dstep hR (i := 1) rfl (by kernel_rfl) (fun _ _ _ h => h) (fun _ _ H' => (Runs.fa A rfl)) A rfl hS ?_; clear A a hR; intro a A hR
      refine dstep hR (i := 2) rfl (by kernel_rfl) (fun _ _ _ h => h) (fun _ _ H' => (Runs.ldN A H' rfl rfl)) A rfl hS ?_; clear A a hR; intro a A hR
      refine dstep hR (i := 8) rfl (by kernel_rfl) (fun _ _ _ h => h) (fun _ _ H' => (Runs.fa A rfl)) A rfl hS ?_; clear A a hR; intro a A hR
      refine dstep hR (i := 9) rfl (by kernel_rfl) (fun _ _ _ h => h) (fun _ _ H' => (Runs.ldN A H' rfl rfl)) A rfl hS ?_; clear A a hR; intro a A hR
      refine dstep hR (i := 18) rfl (by kernel_rfl) (fun _ _ _ h => h) (fun _ _ H' => (Runs.fa A rfl)) A rfl hS ?_; clear A a hR; intro a A hR
      refine dstep hR (i := 19) rfl (by kernel_rfl) (fun _ _ _ h => h) (fun _ _ H' => (Runs.ldN A H' rfl rfl)) A rfl hS ?_; clear A a hR; intro a A hR
      refine dstep hR (i := 24) rfl (by kernel_rfl) (fun _ _ _ h => h) (fun _ _ H' => (Runs.fa A rfl)) A rfl hS ?_; clear A a hR; intro a A hR
      refine dstep hR (i := 25) rfl (by kernel_rfl) (fun _ _ _ h => h) (fun _ _ H' => (Runs.ldN A H' rfl rfl)) A rfl hS ?_; clear A a hR; intro a A hR
      refine dstep hR (i := 35) rfl (by kernel_rfl) (fun _ _ _ h => h) (fun _ _ H' => (Runs.fa A rfl)) A rfl hS ?_; clear A a hR; intro a A hR
      refine dstep hR (i := 36) rfl (by kernel_rfl) (fun _ _ _ h => h) (fun _ _ H' => (Runs.ldN A H' rfl rfl)) A rfl hS ?_; clear A a hR; intro a A hR
      refine dstep hR (i := 44) rfl (by kernel_rfl) (fun _ _ _ h => h) (fun _ _ H' => (Runs.fa A rfl)) A rfl hS ?_; clear A a hR; intro a A hR
      refine dstep hR (i := 45) rfl (by kernel_rfl) (fun _ _ _ h => h) (fun _ _ H' => (Runs.ldN A H' rfl rfl)) A rfl hS ?_; clear A a hR; intro a A hR
      refine dstep hR (i := 50) rfl (by kernel_rfl) (fun _ _ _ h => h) (fun _ _ H' => (Runs.fa A rfl)) A rfl hS ?_; clear A a hR; intro a A hR
      refine dstep hR (i := 51) rfl (by kernel_rfl) (fun _ _ _ h => h) (fun _ _ H' => (Runs.ldN A H' rfl rfl)) A rfl hS ?_; clear A a hR; intro a A hR
      refine dstep hR (i := 52) rfl (by kernel_rfl) (fun _ _ _ h => h) (fun _ _ H' => (Runs.build A rfl rfl rfl)) A rfl hS ?_; clear A a hR; intro a A hR
      refine dstep hR (i := 53) rfl (by kernel_rfl) (fun _ _ _ h => h) (fun _ _ H' => (Runs.aeql A rfl rfl rfl rfl)) A rfl hS ?_; clear A a hR; intro a A hR
      refine dstep hR (i := 60) rfl (by kernel_rfl) (fun _ _ _ h => h) (fun _ _ H' => (Runs.fa A rfl)) A rfl hS ?_; clear A a hR; intro a A hR
      refine dstep hR (i := 61) rfl (by kernel_rfl) (fun _ _ _ h => h) (fun _ _ H' => (Runs.ld1 A H' rfl rfl)) A rfl hS ?_; clear A a hR; intro a A hR
      refine dstep hR (i := 62) rfl (by kernel_rfl) (fun _ _ _ h => h) (fun _ _ H' => (Runs.seql A rfl rfl)) A rfl hS ?_; clear A a hR; intro a A hR
      refine dlist hR (i := 3) rfl (by kernel_rfl) ?_
      have hR := hR.next (i := 3) (by kernel_rfl)
      refine step_callF A rfl rfl (c_syntax_none (z := i.width)) H ?_
      rintro v5_3 a w m hm rfl A H
      have hM := hM.trans hm
      have G := G.mono hm
      have hI := hI.mono hm
      have hL := hL.trans hm
      refine wpList_nil ?_
      clear hS; refine and_keep (H.sw hL) fun hS => ?_
      refine dstep hR (i := 4) rfl (by kernel_rfl) (fun _ _ _ h => h) (fun _ _ H' => (Runs.move A rfl)) A rfl hS ?_; clear A a hR; intro a A hR
      refine joinD 55 [7, 6, 5, 4, 3, 62, 61, 60, 53, 52, 51, 50, 45, 44, 36, 35, 25, 24, 19, 18, 9, 8, 2, 1, 0] (fun F => (36, .bool (noneB i.width || decide (i.kind ≤ 6))) :: F) A (fun key1 => ?_) ?_
      · refine onBool A (dj := 33) rfl (fun h3 => ?_) (fun h3 => ?_)
        · have g3 := h3
          try simp only [decide_eq_true_eq, decide_eq_false_iff_not, Bool.not_eq_true', Bool.not_eq_false', ne_eq, Decidable.not_not, Int.not_lt, Int.not_le] at g3
          refine dskip hR (i := 5) (dj := 33) rfl (by kernel_rfl) (fun _ _ _ h => h) rfl rfl h3 A rfl hS ?_; clear A a hR; intro a A hR
          refine dskip hR (i := 6) (dj := 33) rfl (by kernel_rfl) (fun _ _ _ h => h) rfl rfl h3 A rfl hS ?_; clear A a hR; intro a A hR
          refine dstep hR (i := 7) rfl (by kernel_rfl) (fun _ _ _ h => h) (fun _ _ H' => (Runs.pickT A rfl h3 rfl)) A rfl hS ?_; clear A a hR; intro a A hR
          exact key1 _ (Fr.with1 (Fr.suf A rfl) A rfl (by first | rfl | (simp [*]; done))) hR
        · have g3 := h3
          try simp only [decide_eq_true_eq, decide_eq_false_iff_not, Bool.not_eq_true', Bool.not_eq_false', ne_eq, Decidable.not_not, Int.not_lt, Int.not_le] at g3
          refine dstepG hR (i := 5) (dj := 33) rfl (by kernel_rfl) (fun _ _ _ h => h) rfl rfl h3 (fun _ _ H' => (Runs.move A rfl)) A rfl hS ?_; clear A a hR; intro a A hR
          refine dstepG hR (i := 6) (dj := 33) rfl (by kernel_rfl) (fun _ _ _ h => h) rfl rfl h3 (fun _ _ H' => (Runs.leq A rfl rfl)) A rfl hS ?_; clear A a hR; intro a A hR
          refine dstep hR (i := 7) rfl (by kernel_rfl) (fun _ _ _ h => h) (fun _ _ H' => (Runs.pickF A rfl h3 rfl)) A rfl hS ?_; clear A a hR; intro a A hR
          exact key1 _ (Fr.with1 (Fr.suf A rfl) A rfl (by first | rfl | (simp [*]; done))) hR
      clear A hR; intro a A hR
      refine dlist hR (i := 10) rfl (by kernel_rfl) ?_
      have hR := hR.next (i := 10) (by kernel_rfl)
      refine step_callF A rfl rfl (c_syntax_none (z := i.depth)) H ?_
      rintro v5_10 a w m hm rfl A H
      have hM := hM.trans hm
      have G := G.mono hm
      have hI := hI.mono hm
      have hL := hL.trans hm
      refine wpList_nil ?_
      clear hS; refine and_keep (H.sw hL) fun hS => ?_
      refine dstep hR (i := 11) rfl (by kernel_rfl) (fun _ _ _ h => h) (fun _ _ H' => (Runs.move A rfl)) A rfl hS ?_; clear A a hR; intro a A hR
      refine joinD 50 [14, 13, 12, 11, 10, 7, 6, 5, 4, 3, 62, 61, 60, 53, 52, 51, 50, 45, 44, 36, 35, 25, 24, 19, 18, 9, 8, 2, 1, 0] (fun F => (43, .bool (noneB i.depth || decide (i.kind = 3))) :: F) A (fun key2 => ?_) ?_
      · refine onBool A (dj := 40) rfl (fun h4 => ?_) (fun h4 => ?_)
        · have g4 := h4
          try simp only [decide_eq_true_eq, decide_eq_false_iff_not, Bool.not_eq_true', Bool.not_eq_false', ne_eq, Decidable.not_not, Int.not_lt, Int.not_le] at g4
          refine dskip hR (i := 12) (dj := 40) rfl (by kernel_rfl) (fun _ _ _ h => h) rfl rfl h4 A rfl hS ?_; clear A a hR; intro a A hR
          refine dskip hR (i := 13) (dj := 40) rfl (by kernel_rfl) (fun _ _ _ h => h) rfl rfl h4 A rfl hS ?_; clear A a hR; intro a A hR
          refine dstep hR (i := 14) rfl (by kernel_rfl) (fun _ _ _ h => h) (fun _ _ H' => (Runs.pickT A rfl h4 rfl)) A rfl hS ?_; clear A a hR; intro a A hR
          exact key2 _ (Fr.with1 (Fr.suf A rfl) A rfl (by first | rfl | (simp [*]; done))) hR
        · have g4 := h4
          try simp only [decide_eq_true_eq, decide_eq_false_iff_not, Bool.not_eq_true', Bool.not_eq_false', ne_eq, Decidable.not_not, Int.not_lt, Int.not_le] at g4
          refine dstepG hR (i := 12) (dj := 40) rfl (by kernel_rfl) (fun _ _ _ h => h) rfl rfl h4 (fun _ _ H' => (Runs.move A rfl)) A rfl hS ?_; clear A a hR; intro a A hR
          refine dstepG hR (i := 13) (dj := 40) rfl (by kernel_rfl) (fun _ _ _ h => h) rfl rfl h4 (fun _ _ H' => (Runs.eql A rfl rfl)) A rfl hS ?_; clear A a hR; intro a A hR
          refine dstep hR (i := 14) rfl (by kernel_rfl) (fun _ _ _ h => h) (fun _ _ H' => (Runs.pickF A rfl h4 rfl)) A rfl hS ?_; clear A a hR; intro a A hR
          exact key2 _ (Fr.with1 (Fr.suf A rfl) A rfl (by first | rfl | (simp [*]; done))) hR
      clear A hR; intro a A hR
      refine dstep hR (i := 15) rfl (by kernel_rfl) (fun _ _ _ h => h) (fun _ _ H' => (Runs.move A rfl)) A rfl hS ?_; clear A a hR; intro a A hR
      refine joinD 47 [17, 16, 15, 14, 13, 12, 11, 10, 7, 6, 5, 4, 3, 62, 61, 60, 53, 52, 51, 50, 45, 44, 36, 35, 25, 24, 19, 18, 9, 8, 2, 1, 0] (fun F => (46, .bool ((noneB i.depth || decide (i.kind = 3)) || decide (i.kind = 6))) :: F) A (fun key3 => ?_) ?_
      · refine onBool A (dj := 44) rfl (fun h5 => ?_) (fun h5 => ?_)
        · have g5 := h5
          try simp only [decide_eq_true_eq, decide_eq_false_iff_not, Bool.not_eq_true', Bool.not_eq_false', ne_eq, Decidable.not_not, Int.not_lt, Int.not_le] at g5
          refine dskip hR (i := 16) (dj := 44) rfl (by kernel_rfl) (fun _ _ _ h => h) rfl rfl h5 A rfl hS ?_; clear A a hR; intro a A hR
          refine dstep hR (i := 17) rfl (by kernel_rfl) (fun _ _ _ h => h) (fun _ _ H' => (Runs.pickT A rfl h5 rfl)) A rfl hS ?_; clear A a hR; intro a A hR
          exact key3 _ (Fr.with1 (Fr.suf A rfl) A rfl (by first | rfl | (simp [*]; done))) hR
        · have g5 := h5
          try simp only [decide_eq_true_eq, decide_eq_false_iff_not, Bool.not_eq_true', Bool.not_eq_false', ne_eq, Decidable.not_not, Int.not_lt, Int.not_le] at g5
          refine dstepG hR (i := 16) (dj := 44) rfl (by kernel_rfl) (fun _ _ _ h => h) rfl rfl h5 (fun _ _ H' => (Runs.move A rfl)) A rfl hS ?_; clear A a hR; intro a A hR
          refine dstep hR (i := 17) rfl (by kernel_rfl) (fun _ _ _ h => h) (fun _ _ H' => (Runs.pickF A rfl h5 rfl)) A rfl hS ?_; clear A a hR; intro a A hR
          exact key3 _ (Fr.with1 (Fr.suf A rfl) A rfl (by first | rfl | (simp [*]; done))) hR
      clear A hR; intro a A hR
      refine dlist hR (i := 20) rfl (by kernel_rfl) ?_
      have hR := hR.next (i := 20) (by kernel_rfl)
      refine step_callF A rfl rfl (c_syntax_none (z := i.init)) H ?_
      rintro v5_20 a w m hm rfl A H
      have hM := hM.trans hm
      have G := G.mono hm
      have hI := hI.mono hm
      have hL := hL.trans hm
      refine wpList_nil ?_
      clear hS; refine and_keep (H.sw hL) fun hS => ?_
      refine dstep hR (i := 21) rfl (by kernel_rfl) (fun _ _ _ h => h) (fun _ _ H' => (Runs.move A rfl)) A rfl hS ?_; clear A a hR; intro a A hR
      refine joinD 43 [23, 22, 21, 20, 17, 16, 15, 14, 13, 12, 11, 10, 7, 6, 5, 4, 3, 62, 61, 60, 53, 52, 51, 50, 45, 44, 36, 35, 25, 24, 19, 18, 9, 8, 2, 1, 0] (fun F => (52, .bool (noneB i.init || decide (i.kind = 4))) :: F) A (fun key4 => ?_) ?_
      · refine onBool A (dj := 50) rfl (fun h6 => ?_) (fun h6 => ?_)
        · have g6 := h6
          try simp only [decide_eq_true_eq, decide_eq_false_iff_not, Bool.not_eq_true', Bool.not_eq_false', ne_eq, Decidable.not_not, Int.not_lt, Int.not_le] at g6
          refine dskip hR (i := 22) (dj := 50) rfl (by kernel_rfl) (fun _ _ _ h => h) rfl rfl h6 A rfl hS ?_; clear A a hR; intro a A hR
          refine dstep hR (i := 23) rfl (by kernel_rfl) (fun _ _ _ h => h) (fun _ _ H' => (Runs.pickT A rfl h6 rfl)) A rfl hS ?_; clear A a hR; intro a A hR
          exact key4 _ (Fr.with1 (Fr.suf A rfl) A rfl (by first | rfl | (simp [*]; done))) hR
        · have g6 := h6
          try simp only [decide_eq_true_eq, decide_eq_false_iff_not, Bool.not_eq_true', Bool.not_eq_false', ne_eq, Decidable.not_not, Int.not_lt, Int.not_le] at g6
          refine dstepG hR (i := 22) (dj := 50) rfl (by kernel_rfl) (fun _ _ _ h => h) rfl rfl h6 (fun _ _ H' => (Runs.move A rfl)) A rfl hS ?_; clear A a hR; intro a A hR
          refine dstep hR (i := 23) rfl (by kernel_rfl) (fun _ _ _ h => h) (fun _ _ H' => (Runs.pickF A rfl h6 rfl)) A rfl hS ?_; clear A a hR; intro a A hR
          exact key4 _ (Fr.with1 (Fr.suf A rfl) A rfl (by first | rfl | (simp [*]; done))) hR
      clear A hR; intro a A hR
      refine dlist hR (i := 26) rfl (by kernel_rfl) ?_
      have hR := hR.next (i := 26) (by kernel_rfl)
      refine step_callF A rfl rfl (c_syntax_absent (e := i.a) (ad := p.aa) (c := p.ca)) H ?_
      rintro v5_26 a w m hm rfl A H
      have hM := hM.trans hm
      have G := G.mono hm
      have hI := hI.mono hm
      have hL := hL.trans hm
      refine wpList_nil ?_
      clear hS; refine and_keep (H.sw hL) fun hS => ?_
      refine dstep hR (i := 27) rfl (by kernel_rfl) (fun _ _ _ h => h) (fun _ _ H' => (Runs.move A rfl)) A rfl hS ?_; clear A a hR; intro a A hR
      refine joinD 34 [34, 33, 32, 31, 30, 29, 28, 27, 26, 23, 22, 21, 20, 17, 16, 15, 14, 13, 12, 11, 10, 7, 6, 5, 4, 3, 62, 61, 60, 53, 52, 51, 50, 45, 44, 36, 35, 25, 24, 19, 18, 9, 8, 2, 1, 0] (fun F => (63, .bool (absentB i.a || (decide (4 ≤ i.kind) && !decide (i.kind = 9)))) :: F) A (fun key5 => ?_) ?_
      · refine onBool A (dj := 56) rfl (fun h7 => ?_) (fun h7 => ?_)
        · have g7 := h7
          try simp only [decide_eq_true_eq, decide_eq_false_iff_not, Bool.not_eq_true', Bool.not_eq_false', ne_eq, Decidable.not_not, Int.not_lt, Int.not_le] at g7
          refine dskip hR (i := 28) (dj := 56) rfl (by kernel_rfl) (fun _ _ _ h => h) rfl rfl h7 A rfl hS ?_; clear A a hR; intro a A hR
          refine dskip hR (i := 29) (dj := 56) rfl (by kernel_rfl) (fun _ _ _ h => h) rfl rfl h7 A rfl hS ?_; clear A a hR; intro a A hR
          refine dskip hR (i := 30) (dj := 56) rfl (by kernel_rfl) (fun _ _ _ h => h) rfl rfl h7 A rfl hS ?_; clear A a hR; intro a A hR
          refine dskipU hR (i := 31) (dj := 59) rfl (by kernel_rfl) (fun _ _ _ h => h) rfl rfl A rfl hS ?_; clear A a hR; intro a A hR
          refine dskipU hR (i := 32) (dj := 59) rfl (by kernel_rfl) (fun _ _ _ h => h) rfl rfl A rfl hS ?_; clear A a hR; intro a A hR
          refine dskip hR (i := 33) (dj := 56) rfl (by kernel_rfl) (fun _ _ _ h => h) rfl rfl h7 A rfl hS ?_; clear A a hR; intro a A hR
          refine dstep hR (i := 34) rfl (by kernel_rfl) (fun _ _ _ h => h) (fun _ _ H' => (Runs.pickT A rfl h7 rfl)) A rfl hS ?_; clear A a hR; intro a A hR
          exact key5 _ (Fr.with1 (Fr.suf A rfl) A rfl (by first | rfl | (simp [*]; done))) hR
        · have g7 := h7
          try simp only [decide_eq_true_eq, decide_eq_false_iff_not, Bool.not_eq_true', Bool.not_eq_false', ne_eq, Decidable.not_not, Int.not_lt, Int.not_le] at g7
          refine dstepG hR (i := 28) (dj := 56) rfl (by kernel_rfl) (fun _ _ _ h => h) rfl rfl h7 (fun _ _ H' => (Runs.move A rfl)) A rfl hS ?_; clear A a hR; intro a A hR
          refine dstepG hR (i := 29) (dj := 56) rfl (by kernel_rfl) (fun _ _ _ h => h) rfl rfl h7 (fun _ _ H' => (Runs.geq A rfl rfl)) A rfl hS ?_; clear A a hR; intro a A hR
          refine dstepG hR (i := 30) (dj := 56) rfl (by kernel_rfl) (fun _ _ _ h => h) rfl rfl h7 (fun _ _ H' => (Runs.move A rfl)) A rfl hS ?_; clear A a hR; intro a A hR
          refine onBool A (dj := 59) rfl (fun h8 => ?_) (fun h8 => ?_)
          · have g8 := h8
            try simp only [decide_eq_true_eq, decide_eq_false_iff_not, Bool.not_eq_true', Bool.not_eq_false', ne_eq, Decidable.not_not, Int.not_lt, Int.not_le] at g8
            refine dstepG hR (i := 31) (dj := 59) rfl (by kernel_rfl) (fun _ _ _ h => h) rfl rfl h8 (fun _ _ H' => (Runs.move A rfl)) A rfl hS ?_; clear A a hR; intro a A hR
            refine dstepG hR (i := 32) (dj := 59) rfl (by kernel_rfl) (fun _ _ _ h => h) rfl rfl h8 (fun _ _ H' => (Runs.not A rfl)) A rfl hS ?_; clear A a hR; intro a A hR
            refine dstepG hR (i := 33) (dj := 56) rfl (by kernel_rfl) (fun _ _ _ h => h) rfl rfl h7 (fun _ _ H' => (Runs.pickT A rfl h8 rfl)) A rfl hS ?_; clear A a hR; intro a A hR
            refine dstep hR (i := 34) rfl (by kernel_rfl) (fun _ _ _ h => h) (fun _ _ H' => (Runs.pickF A rfl h7 rfl)) A rfl hS ?_; clear A a hR; intro a A hR
            exact key5 _ (Fr.with1 (Fr.suf A rfl) A rfl (by first | rfl | (simp [*]; done))) hR
          · have g8 := h8
            try simp only [decide_eq_true_eq, decide_eq_false_iff_not, Bool.not_eq_true', Bool.not_eq_false', ne_eq, Decidable.not_not, Int.not_lt, Int.not_le] at g8
            refine dskip hR (i := 31) (dj := 59) rfl (by kernel_rfl) (fun _ _ _ h => h) rfl rfl h8 A rfl hS ?_; clear A a hR; intro a A hR
            refine dskip hR (i := 32) (dj := 59) rfl (by kernel_rfl) (fun _ _ _ h => h) rfl rfl h8 A rfl hS ?_; clear A a hR; intro a A hR
            refine dstepG hR (i := 33) (dj := 56) rfl (by kernel_rfl) (fun _ _ _ h => h) rfl rfl h7 (fun _ _ H' => (Runs.pickF A rfl h8 rfl)) A rfl hS ?_; clear A a hR; intro a A hR
            refine dstep hR (i := 34) rfl (by kernel_rfl) (fun _ _ _ h => h) (fun _ _ H' => (Runs.pickF A rfl h7 rfl)) A rfl hS ?_; clear A a hR; intro a A hR
            exact key5 _ (Fr.with1 (Fr.suf A rfl) A rfl (by first | rfl | (simp [*]; done))) hR
      clear A hR; intro a A hR
      refine dlist hR (i := 37) rfl (by kernel_rfl) ?_
      have hR := hR.next (i := 37) (by kernel_rfl)
      refine step_callF A rfl rfl (c_syntax_absent (e := i.b) (ad := p.ab) (c := p.cb)) H ?_
      rintro v5_37 a w m hm rfl A H
      have hM := hM.trans hm
      have G := G.mono hm
      have hI := hI.mono hm
      have hL := hL.trans hm
      refine wpList_nil ?_
      clear hS; refine and_keep (H.sw hL) fun hS => ?_
      refine dstep hR (i := 38) rfl (by kernel_rfl) (fun _ _ _ h => h) (fun _ _ H' => (Runs.move A rfl)) A rfl hS ?_; clear A a hR; intro a A hR
      refine joinD 30 [40, 39, 38, 37, 34, 33, 32, 31, 30, 29, 28, 27, 26, 23, 22, 21, 20, 17, 16, 15, 14, 13, 12, 11, 10, 7, 6, 5, 4, 3, 62, 61, 60, 53, 52, 51, 50, 45, 44, 36, 35, 25, 24, 19, 18, 9, 8, 2, 1, 0] (fun F => (69, .bool (absentB i.b || decide (i.kind = 6))) :: F) A (fun key6 => ?_) ?_
      · refine onBool A (dj := 67) rfl (fun h9 => ?_) (fun h9 => ?_)
        · have g9 := h9
          try simp only [decide_eq_true_eq, decide_eq_false_iff_not, Bool.not_eq_true', Bool.not_eq_false', ne_eq, Decidable.not_not, Int.not_lt, Int.not_le] at g9
          refine dskip hR (i := 39) (dj := 67) rfl (by kernel_rfl) (fun _ _ _ h => h) rfl rfl h9 A rfl hS ?_; clear A a hR; intro a A hR
          refine dstep hR (i := 40) rfl (by kernel_rfl) (fun _ _ _ h => h) (fun _ _ H' => (Runs.pickT A rfl h9 rfl)) A rfl hS ?_; clear A a hR; intro a A hR
          exact key6 _ (Fr.with1 (Fr.suf A rfl) A rfl (by first | rfl | (simp [*]; done))) hR
        · have g9 := h9
          try simp only [decide_eq_true_eq, decide_eq_false_iff_not, Bool.not_eq_true', Bool.not_eq_false', ne_eq, Decidable.not_not, Int.not_lt, Int.not_le] at g9
          refine dstepG hR (i := 39) (dj := 67) rfl (by kernel_rfl) (fun _ _ _ h => h) rfl rfl h9 (fun _ _ H' => (Runs.move A rfl)) A rfl hS ?_; clear A a hR; intro a A hR
          refine dstep hR (i := 40) rfl (by kernel_rfl) (fun _ _ _ h => h) (fun _ _ H' => (Runs.pickF A rfl h9 rfl)) A rfl hS ?_; clear A a hR; intro a A hR
          exact key6 _ (Fr.with1 (Fr.suf A rfl) A rfl (by first | rfl | (simp [*]; done))) hR
      clear A hR; intro a A hR
      refine dstep hR (i := 41) rfl (by kernel_rfl) (fun _ _ _ h => h) (fun _ _ H' => (Runs.move A rfl)) A rfl hS ?_; clear A a hR; intro a A hR
      refine joinD 27 [43, 42, 41, 40, 39, 38, 37, 34, 33, 32, 31, 30, 29, 28, 27, 26, 23, 22, 21, 20, 17, 16, 15, 14, 13, 12, 11, 10, 7, 6, 5, 4, 3, 62, 61, 60, 53, 52, 51, 50, 45, 44, 36, 35, 25, 24, 19, 18, 9, 8, 2, 1, 0] (fun F => (72, .bool ((absentB i.b || decide (i.kind = 6)) || decide (i.kind = 8))) :: F) A (fun key7 => ?_) ?_
      · refine onBool A (dj := 70) rfl (fun h10 => ?_) (fun h10 => ?_)
        · have g10 := h10
          try simp only [decide_eq_true_eq, decide_eq_false_iff_not, Bool.not_eq_true', Bool.not_eq_false', ne_eq, Decidable.not_not, Int.not_lt, Int.not_le] at g10
          refine dskip hR (i := 42) (dj := 70) rfl (by kernel_rfl) (fun _ _ _ h => h) rfl rfl h10 A rfl hS ?_; clear A a hR; intro a A hR
          refine dstep hR (i := 43) rfl (by kernel_rfl) (fun _ _ _ h => h) (fun _ _ H' => (Runs.pickT A rfl h10 rfl)) A rfl hS ?_; clear A a hR; intro a A hR
          exact key7 _ (Fr.with1 (Fr.suf A rfl) A rfl (by first | rfl | (simp [*]; done))) hR
        · have g10 := h10
          try simp only [decide_eq_true_eq, decide_eq_false_iff_not, Bool.not_eq_true', Bool.not_eq_false', ne_eq, Decidable.not_not, Int.not_lt, Int.not_le] at g10
          refine dstepG hR (i := 42) (dj := 70) rfl (by kernel_rfl) (fun _ _ _ h => h) rfl rfl h10 (fun _ _ H' => (Runs.move A rfl)) A rfl hS ?_; clear A a hR; intro a A hR
          refine dstep hR (i := 43) rfl (by kernel_rfl) (fun _ _ _ h => h) (fun _ _ H' => (Runs.pickF A rfl h10 rfl)) A rfl hS ?_; clear A a hR; intro a A hR
          exact key7 _ (Fr.with1 (Fr.suf A rfl) A rfl (by first | rfl | (simp [*]; done))) hR
      clear A hR; intro a A hR
      refine dlist hR (i := 46) rfl (by kernel_rfl) ?_
      have hR := hR.next (i := 46) (by kernel_rfl)
      refine step_callF A rfl rfl (c_syntax_absent (e := i.c) (ad := p.ac) (c := p.cc)) H ?_
      rintro v5_46 a w m hm rfl A H
      have hM := hM.trans hm
      have G := G.mono hm
      have hI := hI.mono hm
      have hL := hL.trans hm
      refine wpList_nil ?_
      clear hS; refine and_keep (H.sw hL) fun hS => ?_
      refine dstep hR (i := 47) rfl (by kernel_rfl) (fun _ _ _ h => h) (fun _ _ H' => (Runs.move A rfl)) A rfl hS ?_; clear A a hR; intro a A hR
      have er : eqL [.int .i64 i.rule.kind, .string i.rule.src, .int .i64 i.rule.n] [.int .i64 0, .string ⟨#[]⟩, .int .i64 0] = ruleB i.rule := by simp [ruleB, eqL, eqV]
      rw [er] at A
      refine dstep hR (i := 54) rfl (by kernel_rfl) (fun _ _ _ h => h) (fun _ _ H' => (Runs.move A rfl)) A rfl hS ?_; clear A a hR; intro a A hR
      refine joinD 22 [49, 48, 54, 47, 46, 43, 42, 41, 40, 39, 38, 37, 34, 33, 32, 31, 30, 29, 28, 27, 26, 23, 22, 21, 20, 17, 16, 15, 14, 13, 12, 11, 10, 7, 6, 5, 4, 3, 62, 61, 60, 53, 52, 51, 50, 45, 44, 36, 35, 25, 24, 19, 18, 9, 8, 2, 1, 0] (fun F => (78, .bool (absentB i.c || decide (i.kind = 6))) :: F) A (fun key8 => ?_) ?_
      · refine onBool A (dj := 76) rfl (fun h11 => ?_) (fun h11 => ?_)
        · have g11 := h11
          try simp only [decide_eq_true_eq, decide_eq_false_iff_not, Bool.not_eq_true', Bool.not_eq_false', ne_eq, Decidable.not_not, Int.not_lt, Int.not_le] at g11
          refine dskip hR (i := 48) (dj := 76) rfl (by kernel_rfl) (fun _ _ _ h => h) rfl rfl h11 A rfl hS ?_; clear A a hR; intro a A hR
          refine dstep hR (i := 49) rfl (by kernel_rfl) (fun _ _ _ h => h) (fun _ _ H' => (Runs.pickT A rfl h11 rfl)) A rfl hS ?_; clear A a hR; intro a A hR
          exact key8 _ (Fr.with1 (Fr.suf A rfl) A rfl (by first | rfl | (simp [*]; done))) hR
        · have g11 := h11
          try simp only [decide_eq_true_eq, decide_eq_false_iff_not, Bool.not_eq_true', Bool.not_eq_false', ne_eq, Decidable.not_not, Int.not_lt, Int.not_le] at g11
          refine dstepG hR (i := 48) (dj := 76) rfl (by kernel_rfl) (fun _ _ _ h => h) rfl rfl h11 (fun _ _ H' => (Runs.move A rfl)) A rfl hS ?_; clear A a hR; intro a A hR
          refine dstep hR (i := 49) rfl (by kernel_rfl) (fun _ _ _ h => h) (fun _ _ H' => (Runs.pickF A rfl h11 rfl)) A rfl hS ?_; clear A a hR; intro a A hR
          exact key8 _ (Fr.with1 (Fr.suf A rfl) A rfl (by first | rfl | (simp [*]; done))) hR
      clear A hR; intro a A hR
      refine joinD 20 [56, 55, 49, 48, 54, 47, 46, 43, 42, 41, 40, 39, 38, 37, 34, 33, 32, 31, 30, 29, 28, 27, 26, 23, 22, 21, 20, 17, 16, 15, 14, 13, 12, 11, 10, 7, 6, 5, 4, 3, 62, 61, 60, 53, 52, 51, 50, 45, 44, 36, 35, 25, 24, 19, 18, 9, 8, 2, 1, 0] (fun F => (85, .bool (ruleB i.rule || decide (i.kind = 4))) :: F) A (fun key9 => ?_) ?_
      · refine onBool A (dj := 83) rfl (fun h12 => ?_) (fun h12 => ?_)
        · have g12 := h12
          try simp only [decide_eq_true_eq, decide_eq_false_iff_not, Bool.not_eq_true', Bool.not_eq_false', ne_eq, Decidable.not_not, Int.not_lt, Int.not_le] at g12
          refine dskip hR (i := 55) (dj := 83) rfl (by kernel_rfl) (fun _ _ _ h => h) rfl rfl h12 A rfl hS ?_; clear A a hR; intro a A hR
          refine dstep hR (i := 56) rfl (by kernel_rfl) (fun _ _ _ h => h) (fun _ _ H' => (Runs.pickT A rfl h12 rfl)) A rfl hS ?_; clear A a hR; intro a A hR
          exact key9 _ (Fr.with1 (Fr.suf A rfl) A rfl (by first | rfl | (simp [*]; done))) hR
        · have g12 := h12
          try simp only [decide_eq_true_eq, decide_eq_false_iff_not, Bool.not_eq_true', Bool.not_eq_false', ne_eq, Decidable.not_not, Int.not_lt, Int.not_le] at g12
          refine dstepG hR (i := 55) (dj := 83) rfl (by kernel_rfl) (fun _ _ _ h => h) rfl rfl h12 (fun _ _ H' => (Runs.move A rfl)) A rfl hS ?_; clear A a hR; intro a A hR
          refine dstep hR (i := 56) rfl (by kernel_rfl) (fun _ _ _ h => h) (fun _ _ H' => (Runs.pickF A rfl h12 rfl)) A rfl hS ?_; clear A a hR; intro a A hR
          exact key9 _ (Fr.with1 (Fr.suf A rfl) A rfl (by first | rfl | (simp [*]; done))) hR
      clear A hR; intro a A hR
      refine dstep hR (i := 57) rfl (by kernel_rfl) (fun _ _ _ h => h) (fun _ _ H' => (Runs.move A rfl)) A rfl hS ?_; clear A a hR; intro a A hR
      refine dstep hR (i := 63) rfl (by kernel_rfl) (fun _ _ _ h => h) (fun _ _ H' => (Runs.move A rfl)) A rfl hS ?_; clear A a hR; intro a A hR
      refine joinD 16 [59, 58, 63, 57, 56, 55, 49, 48, 54, 47, 46, 43, 42, 41, 40, 39, 38, 37, 34, 33, 32, 31, 30, 29, 28, 27, 26, 23, 22, 21, 20, 17, 16, 15, 14, 13, 12, 11, 10, 7, 6, 5, 4, 3, 62, 61, 60, 53, 52, 51, 50, 45, 44, 36, 35, 25, 24, 19, 18, 9, 8, 2, 1, 0] (fun F => (88, .bool ((ruleB i.rule || decide (i.kind = 4)) || decide (i.kind = 6))) :: F) A (fun key10 => ?_) ?_
      · refine onBool A (dj := 86) rfl (fun h13 => ?_) (fun h13 => ?_)
        · have g13 := h13
          try simp only [decide_eq_true_eq, decide_eq_false_iff_not, Bool.not_eq_true', Bool.not_eq_false', ne_eq, Decidable.not_not, Int.not_lt, Int.not_le] at g13
          refine dskip hR (i := 58) (dj := 86) rfl (by kernel_rfl) (fun _ _ _ h => h) rfl rfl h13 A rfl hS ?_; clear A a hR; intro a A hR
          refine dstep hR (i := 59) rfl (by kernel_rfl) (fun _ _ _ h => h) (fun _ _ H' => (Runs.pickT A rfl h13 rfl)) A rfl hS ?_; clear A a hR; intro a A hR
          exact key10 _ (Fr.with1 (Fr.suf A rfl) A rfl (by first | rfl | (simp [*]; done))) hR
        · have g13 := h13
          try simp only [decide_eq_true_eq, decide_eq_false_iff_not, Bool.not_eq_true', Bool.not_eq_false', ne_eq, Decidable.not_not, Int.not_lt, Int.not_le] at g13
          refine dstepG hR (i := 58) (dj := 86) rfl (by kernel_rfl) (fun _ _ _ h => h) rfl rfl h13 (fun _ _ H' => (Runs.move A rfl)) A rfl hS ?_; clear A a hR; intro a A hR
          refine dstep hR (i := 59) rfl (by kernel_rfl) (fun _ _ _ h => h) (fun _ _ H' => (Runs.pickF A rfl h13 rfl)) A rfl hS ?_; clear A a hR; intro a A hR
          exact key10 _ (Fr.with1 (Fr.suf A rfl) A rfl (by first | rfl | (simp [*]; done))) hR
      clear A hR; intro a A hR
      refine joinD 11 [68, 67, 66, 65, 64, 59, 58, 63, 57, 56, 55, 49, 48, 54, 47, 46, 43, 42, 41, 40, 39, 38, 37, 34, 33, 32, 31, 30, 29, 28, 27, 26, 23, 22, 21, 20, 17, 16, 15, 14, 13, 12, 11, 10, 7, 6, 5, 4, 3, 62, 61, 60, 53, 52, 51, 50, 45, 44, 36, 35, 25, 24, 19, 18, 9, 8, 2, 1, 0] (fun F => (97, .bool (decide (i.of_ = ⟨#[]⟩) && decide (i.args.length = 0))) :: F) A (fun key11 => ?_) ?_
      · refine onBool A (dj := 92) rfl (fun h14 => ?_) (fun h14 => ?_)
        · have g14 := h14
          try simp only [decide_eq_true_eq, decide_eq_false_iff_not, Bool.not_eq_true', Bool.not_eq_false', ne_eq, Decidable.not_not, Int.not_lt, Int.not_le] at g14
          refine dstepG hR (i := 64) (dj := 92) rfl (by kernel_rfl) (fun _ _ _ h => h) rfl rfl h14 (fun _ _ H' => (Runs.fa A rfl)) A rfl hS ?_; clear A a hR; intro a A hR
          refine dstepG hR (i := 65) (dj := 92) rfl (by kernel_rfl) (fun _ _ _ h => h) rfl rfl h14 (fun _ _ H' => (Runs.ld1 A H' rfl rfl)) A rfl hS ?_; clear A a hR; intro a A hR
          refine dstepG hR (i := 66) (dj := 92) rfl (by kernel_rfl) (fun _ _ _ h => h) rfl rfl h14 (fun _ _ H' => (Runs.lenL A rfl SlC.h)) A rfl hS ?_; clear A a hR; intro a A hR
          refine dstepG hR (i := 67) (dj := 92) rfl (by kernel_rfl) (fun _ _ _ h => h) rfl rfl h14 (fun _ _ H' => (Runs.eql A rfl rfl)) A rfl hS ?_; clear A a hR; intro a A hR
          refine dstep hR (i := 68) rfl (by kernel_rfl) (fun _ _ _ h => h) (fun _ _ H' => (Runs.pickT A rfl h14 rfl)) A rfl hS ?_; clear A a hR; intro a A hR
          exact key11 _ (Fr.with1 (Fr.suf A rfl) A rfl (by first | rfl | (simp [*]; done))) hR
        · have g14 := h14
          try simp only [decide_eq_true_eq, decide_eq_false_iff_not, Bool.not_eq_true', Bool.not_eq_false', ne_eq, Decidable.not_not, Int.not_lt, Int.not_le] at g14
          refine dskip hR (i := 64) (dj := 92) rfl (by kernel_rfl) (fun _ _ _ h => h) rfl rfl h14 A rfl hS ?_; clear A a hR; intro a A hR
          refine dskip hR (i := 65) (dj := 92) rfl (by kernel_rfl) (fun _ _ _ h => h) rfl rfl h14 A rfl hS ?_; clear A a hR; intro a A hR
          refine dskip hR (i := 66) (dj := 92) rfl (by kernel_rfl) (fun _ _ _ h => h) rfl rfl h14 A rfl hS ?_; clear A a hR; intro a A hR
          refine dskip hR (i := 67) (dj := 92) rfl (by kernel_rfl) (fun _ _ _ h => h) rfl rfl h14 A rfl hS ?_; clear A a hR; intro a A hR
          refine dstep hR (i := 68) rfl (by kernel_rfl) (fun _ _ _ h => h) (fun _ _ H' => (Runs.pickF A rfl h14 rfl)) A rfl hS ?_; clear A a hR; intro a A hR
          exact key11 _ (Fr.with1 (Fr.suf A rfl) A rfl (by first | rfl | (simp [*]; done))) hR
      clear A hR; intro a A hR
      refine dstep hR (i := 69) rfl (by kernel_rfl) (fun _ _ _ h => h) (fun _ _ H' => (Runs.move A rfl)) A rfl hS ?_; clear A a hR; intro a A hR
      refine joinD 5 [74, 73, 72, 71, 70, 69, 68, 67, 66, 65, 64, 59, 58, 63, 57, 56, 55, 49, 48, 54, 47, 46, 43, 42, 41, 40, 39, 38, 37, 34, 33, 32, 31, 30, 29, 28, 27, 26, 23, 22, 21, 20, 17, 16, 15, 14, 13, 12, 11, 10, 7, 6, 5, 4, 3, 62, 61, 60, 53, 52, 51, 50, 45, 44, 36, 35, 25, 24, 19, 18, 9, 8, 2, 1, 0] (fun F => (103, .bool ((decide (i.of_ = ⟨#[]⟩) && decide (i.args.length = 0)) && decide (i.ports.length = 0))) :: F) A (fun key12 => ?_) ?_
      · refine onBool A (dj := 98) rfl (fun h15 => ?_) (fun h15 => ?_)
        · have g15 := h15
          try simp only [decide_eq_true_eq, decide_eq_false_iff_not, Bool.not_eq_true', Bool.not_eq_false', ne_eq, Decidable.not_not, Int.not_lt, Int.not_le] at g15
          refine dstepG hR (i := 70) (dj := 98) rfl (by kernel_rfl) (fun _ _ _ h => h) rfl rfl h15 (fun _ _ H' => (Runs.fa A rfl)) A rfl hS ?_; clear A a hR; intro a A hR
          refine dstepG hR (i := 71) (dj := 98) rfl (by kernel_rfl) (fun _ _ _ h => h) rfl rfl h15 (fun _ _ H' => (Runs.ld1 A H' rfl rfl)) A rfl hS ?_; clear A a hR; intro a A hR
          refine dstepG hR (i := 72) (dj := 98) rfl (by kernel_rfl) (fun _ _ _ h => h) rfl rfl h15 (fun _ _ H' => (Runs.lenL A rfl SlC.h)) A rfl hS ?_; clear A a hR; intro a A hR
          refine dstepG hR (i := 73) (dj := 98) rfl (by kernel_rfl) (fun _ _ _ h => h) rfl rfl h15 (fun _ _ H' => (Runs.eql A rfl rfl)) A rfl hS ?_; clear A a hR; intro a A hR
          refine dstep hR (i := 74) rfl (by kernel_rfl) (fun _ _ _ h => h) (fun _ _ H' => (Runs.pickT A rfl h15 rfl)) A rfl hS ?_; clear A a hR; intro a A hR
          exact key12 _ (Fr.with1 (Fr.suf A rfl) A rfl (by rw [(by assumption : (decide (i.of_ = ⟨#[]⟩) && decide (i.args.length = 0)) = true)]; simp)) hR
        · have g15 := h15
          try simp only [decide_eq_true_eq, decide_eq_false_iff_not, Bool.not_eq_true', Bool.not_eq_false', ne_eq, Decidable.not_not, Int.not_lt, Int.not_le] at g15
          refine dskip hR (i := 70) (dj := 98) rfl (by kernel_rfl) (fun _ _ _ h => h) rfl rfl h15 A rfl hS ?_; clear A a hR; intro a A hR
          refine dskip hR (i := 71) (dj := 98) rfl (by kernel_rfl) (fun _ _ _ h => h) rfl rfl h15 A rfl hS ?_; clear A a hR; intro a A hR
          refine dskip hR (i := 72) (dj := 98) rfl (by kernel_rfl) (fun _ _ _ h => h) rfl rfl h15 A rfl hS ?_; clear A a hR; intro a A hR
          refine dskip hR (i := 73) (dj := 98) rfl (by kernel_rfl) (fun _ _ _ h => h) rfl rfl h15 A rfl hS ?_; clear A a hR; intro a A hR
          refine dstep hR (i := 74) rfl (by kernel_rfl) (fun _ _ _ h => h) (fun _ _ H' => (Runs.pickF A rfl h15 rfl)) A rfl hS ?_; clear A a hR; intro a A hR
          exact key12 _ (Fr.with1 (Fr.suf A rfl) A rfl (by rw [(by assumption : (decide (i.of_ = ⟨#[]⟩) && decide (i.args.length = 0)) = false)]; simp)) hR
      clear A hR; intro a A hR
      refine dstep hR (i := 75) rfl (by kernel_rfl) (fun _ _ _ h => h) (fun _ _ H' => (Runs.move A rfl)) A rfl hS ?_; clear A a hR; intro a A hR
      refine joinD 2 [77, 76, 75, 74, 73, 72, 71, 70, 69, 68, 67, 66, 65, 64, 59, 58, 63, 57, 56, 55, 49, 48, 54, 47, 46, 43, 42, 41, 40, 39, 38, 37, 34, 33, 32, 31, 30, 29, 28, 27, 26, 23, 22, 21, 20, 17, 16, 15, 14, 13, 12, 11, 10, 7, 6, 5, 4, 3, 62, 61, 60, 53, 52, 51, 50, 45, 44, 36, 35, 25, 24, 19, 18, 9, 8, 2, 1, 0] (fun F => (106, .bool (((decide (i.of_ = ⟨#[]⟩) && decide (i.args.length = 0)) && decide (i.ports.length = 0)) || decide (i.kind = 9))) :: F) A (fun key13 => ?_) ?_
      · refine onBool A (dj := 104) rfl (fun h16 => ?_) (fun h16 => ?_)
        · have g16 := h16
          try simp only [decide_eq_true_eq, decide_eq_false_iff_not, Bool.not_eq_true', Bool.not_eq_false', ne_eq, Decidable.not_not, Int.not_lt, Int.not_le] at g16
          refine dskip hR (i := 76) (dj := 104) rfl (by kernel_rfl) (fun _ _ _ h => h) rfl rfl h16 A rfl hS ?_; clear A a hR; intro a A hR
          refine dstep hR (i := 77) rfl (by kernel_rfl) (fun _ _ _ h => h) (fun _ _ H' => (Runs.pickT A rfl h16 rfl)) A rfl hS ?_; clear A a hR; intro a A hR
          exact key13 _ (Fr.with1 (Fr.suf A rfl) A rfl (by rw [(by assumption : ((decide (i.of_ = ⟨#[]⟩) && decide (i.args.length = 0)) && decide (i.ports.length = 0)) = true)]; rfl)) hR
        · have g16 := h16
          try simp only [decide_eq_true_eq, decide_eq_false_iff_not, Bool.not_eq_true', Bool.not_eq_false', ne_eq, Decidable.not_not, Int.not_lt, Int.not_le] at g16
          refine dstepG hR (i := 76) (dj := 104) rfl (by kernel_rfl) (fun _ _ _ h => h) rfl rfl h16 (fun _ _ H' => (Runs.move A rfl)) A rfl hS ?_; clear A a hR; intro a A hR
          refine dstep hR (i := 77) rfl (by kernel_rfl) (fun _ _ _ h => h) (fun _ _ H' => (Runs.pickF A rfl h16 rfl)) A rfl hS ?_; clear A a hR; intro a A hR
          exact key13 _ (Fr.with1 (Fr.suf A rfl) A rfl (by rw [(by assumption : ((decide (i.of_ = ⟨#[]⟩) && decide (i.args.length = 0)) && decide (i.ports.length = 0)) = false)]; rfl)) hR
      clear A hR; intro a A hR
      refine dlist hR (i := 78) rfl (by kernel_rfl) ?_
      have hR := hR.next (i := 78) (by kernel_rfl)
      refine step_slice A H rfl rfl rfl rfl rfl rfl ?_; intro bz a w A H
      refine wpList_nil ?_
      clear hS; refine and_keep (H.sw hL) fun hS => ?_
      refine dlist hR (i := 79) rfl (by kernel_rfl) ?_
      have hR := hR.next (i := 79) (by kernel_rfl)
      refine step_callPr A rfl rfl (c_syntax_printer_zero (bz := bz) (l := [(noneB i.width || decide (i.kind ≤ 6)), ((noneB i.depth || decide (i.kind = 3)) || decide (i.kind = 6)), (noneB i.init || decide (i.kind = 4)), (absentB i.a || (decide (4 ≤ i.kind) && !decide (i.kind = 9))), ((absentB i.b || decide (i.kind = 6)) || decide (i.kind = 8)), (absentB i.c || decide (i.kind = 6)), ((ruleB i.rule || decide (i.kind = 4)) || decide (i.kind = 6)), (((decide (i.of_ = ⟨#[]⟩) && decide (i.args.length = 0)) && decide (i.ports.length = 0)) || decide (i.kind = 9))]) (bcs := [.bool (noneB i.width || decide (i.kind ≤ 6)), .bool ((noneB i.depth || decide (i.kind = 3)) || decide (i.kind = 6)), .bool (noneB i.init || decide (i.kind = 4)), .bool (absentB i.a || (decide (4 ≤ i.kind) && !decide (i.kind = 9))), .bool ((absentB i.b || decide (i.kind = 6)) || decide (i.kind = 8)), .bool (absentB i.c || decide (i.kind = 6)), .bool ((ruleB i.rule || decide (i.kind = 4)) || decide (i.kind = 6)), .bool (((decide (i.of_ = ⟨#[]⟩) && decide (i.args.length = 0)) && decide (i.ports.length = 0)) || decide (i.kind = 9))]) rfl rfl (by simp)) H (by omega) ?_
      clear A a; rintro v5_79 a w m hm rfl A H
      simp only [List.cons_append, List.nil_append] at H
      have hM := hM.trans hm
      have G := G.mono hm
      have hI := hI.mono hm
      have H := H.pr_at (b := b) (y := andOk (itemOk i) x) (by simp [andOk, itemOk, Bool.or_assoc, Bool.and_assoc])
      have hL := hL.trans hm
      refine wpList_nil ?_
      clear hS; refine and_keep (H.sw hL) fun hS => ?_
      refine draw_done hR (by kernel_rfl) ?_
      clear hS hL hR
      refine wp_seq ?_
      refine draw_begin (ms := m) (Ls := [pt b3 (itC i p) 134, pt b2 [.pointer (some ⟨b, 0, none⟩)] 112]) (by kernel_rfl) (N := 10) rfl (by kernel_rfl) H ?_; clear H; intro w H hR
      have hS : SW m [pt b3 (itC i p) 134, pt b2 [.pointer (some ⟨b, 0, none⟩)] 112] w := H.sw (Le.refl m)
      have hL := Le.refl m
      refine dstep hR (i := 0) rfl (by kernel_rfl) (fun _ _ _ h => h) (fun _ _ H' => (Runs.ld1 A H' rfl rfl)) A rfl hS ?_; clear A a hR; intro a A hR
      refine dstep hR (i := 1) rfl (by kernel_rfl) (fun _ _ _ h => h) (fun _ _ H' => (Runs.nilCheck A rfl)) A rfl hS ?_; clear A a hR; intro a A hR
      refine dstep hR (i := 2) rfl (by kernel_rfl) (fun _ _ _ h => h) (fun _ _ H' => (Runs.fa A rfl)) A rfl hS ?_; clear A a hR; intro a A hR
      refine dstep hR (i := 4) rfl (by kernel_rfl) (fun _ _ _ h => h) (fun _ _ H' => (Runs.move A rfl)) A rfl hS ?_; clear A a hR; intro a A hR
      refine dstep hR (i := 5) rfl (by kernel_rfl) (fun _ _ _ h => h) (fun _ _ H' => (Runs.sub A rfl rfl (by omega))) A rfl hS ?_; clear A a hR; intro a A hR
      refine dlist hR (i := 3) rfl (by kernel_rfl) ?_
      have hR := hR.next (i := 3) (by kernel_rfl)
      refine step_slice A H rfl rfl rfl rfl rfl rfl ?_; intro bk a w A H
      refine wpList_nil ?_
      clear hS; refine and_keep (H.sw hL) fun hS => ?_
      refine dstep hR (i := 6) rfl (by kernel_rfl) (fun _ _ _ h => h) (fun _ _ H' => (Runs.indexAddr A rfl rfl SlC.h (by omega) (by omega))) A rfl hS ?_; clear A a hR; intro a A hR
      refine dlist hR (i := 7) rfl (by kernel_rfl) ?_
      have hR := hR.next (i := 7) (by kernel_rfl)
      refine step (Runs.ld1 A H rfl (kw_at (by omega) (by omega))) A rfl ?_; clear A a; intro a A
      refine wpList_nil ?_
      clear hS; refine and_keep (H.sw hL) fun hS => ?_
      refine dstep hR (i := 8) rfl (by kernel_rfl) (fun _ _ _ h => h) (fun _ _ H' => (Runs.sadd A rfl rfl (by have := kw_size i.kind; change (kwP i.kind).toArray.size + 1 ≤ _; rw [List.size_toArray]; omega))) A rfl hS ?_; clear A a hR; intro a A hR
      refine dlist hR (i := 9) rfl (by kernel_rfl) ?_
      have hR := hR.next (i := 9) (by kernel_rfl)
      refine step_callPr A rfl rfl (c_WriteString 6 (by have := kw_size i.kind; rw [ByteArray.size_append]; change (kwP i.kind).toArray.size + 1 ≤ 6; rw [List.size_toArray]; omega)) H (by omega) ?_
      clear A a; rintro v6_9 a w m hm rfl A H
      simp only [List.cons_append, List.nil_append] at H
      have hM := hM.trans hm
      have G := G.mono hm
      have hI := hI.mono hm
      have H := H.pr_at (b := b) (y := wr (kwP i.kind ++ [32]) (andOk (itemOk i) x)) (by simp [bl])
      have hL := hL.trans hm
      refine wpList_nil ?_
      clear hS; refine and_keep (H.sw hL) fun hS => ?_
      refine draw_done hR (by kernel_rfl) ?_
      clear hS hL hR
      refine wp_seq ?_
      refine wp_region_lit ?_
      refine step (Runs.ld1 A H rfl rfl) A rfl ?_; clear A a; intro a A
      refine step (Runs.fa A rfl) A rfl ?_; clear A a; intro a A
      refine step (Runs.ld1 A H rfl rfl) A rfl ?_; clear A a; intro a A
      refine step_callPr A rfl rfl (c_syntax_printer_name G (by omega)) H (by omega) ?_
      clear A a; rintro v7_3 a w m hm rfl A H
      simp only [List.cons_append, List.nil_append] at H
      have hM := hM.trans hm
      have G := G.mono hm
      have hI := hI.mono hm
      refine wpList_nil ?_
      refine wp_seq ?_
      refine wp_seq ?_
      obtain ⟨y1, hy1⟩ : ∃ y, y = nameP i.name (wr (kwP i.kind ++ [32]) (andOk (itemOk i) x)) := ⟨_, rfl⟩
      rw [← hy1] at H
      refine wp_region_lit ?_
      refine step (Runs.move A rfl) A rfl ?_; clear A a; intro a A
      refine step (Runs.leq A rfl rfl) A rfl ?_; clear A a; intro a A
      refine wpList_nil ?_
      refine joinC (fun F => F) (prR b (if i.kind ≤ 6 then numP i.width (wr [58, 32] y1) else y1) (B + 100 + i.name.size + i.width.p.size) :: pt b3 (itC i p) 134 :: pt b2 [.pointer (some ⟨b, 0, none⟩)] 112 :: Lf) A H (fun key14 => ?_) ?_
      · have hJ14 := Le.refl m
        refine cond_split A rfl (fun h17 => ?_) (fun h17 => ?_)
        · have g17 := h17
          try simp only [decide_eq_true_eq, decide_eq_false_iff_not, Bool.not_eq_true', Bool.not_eq_false', ne_eq, Decidable.not_not, Int.not_lt, Int.not_le] at g17
          refine wp_seq ?_
          refine wp_region_lit ?_
          refine step (Runs.ld1 A H rfl rfl) A rfl ?_; clear A a; intro a A
          refine step (Runs.nilCheck A rfl) A rfl ?_; clear A a; intro a A
          refine step (Runs.fa A rfl) A rfl ?_; clear A a; intro a A
          refine step_callPr A rfl rfl (c_WriteString 2 (by decide)) H (by omega) ?_
          clear A a; rintro v9_3 a w m hm rfl A H
          simp only [List.cons_append, List.nil_append] at H
          have hM := hM.trans hm
          have hJ14 := hJ14.trans hm
          have G := G.mono hm
          have hI := hI.mono hm
          refine wpList_nil ?_
          refine wp_region_lit ?_
          refine step (Runs.ld1 A H rfl rfl) A rfl ?_; clear A a; intro a A
          refine step (Runs.fa A rfl) A rfl ?_; clear A a; intro a A
          refine step (Runs.ldN A H rfl rfl) A rfl ?_; clear A a; intro a A
          refine step_callPr A rfl rfl (c_syntax_printer_num (z := i.width) G hI.width) H (by omega) ?_
          clear A a; rintro v10_3 a w m hm rfl A H
          simp only [List.cons_append, List.nil_append] at H
          have hM := hM.trans hm
          have hJ14 := hJ14.trans hm
          have G := G.mono hm
          have hI := hI.mono hm
          refine wpList_nil ?_
          have H := (H.pr_le (b := b) (B' := (B + 100 + i.name.size + i.width.p.size)) (by omega)).pr_at (b := b) (y := (if i.kind ≤ 6 then numP i.width (wr [58, 32] y1) else y1)) (by rw [if_pos (by omega)])
          exact key14 _ _ _ hJ14 (Fr.suf A rfl) H.subH
        · have g17 := h17
          try simp only [decide_eq_true_eq, decide_eq_false_iff_not, Bool.not_eq_true', Bool.not_eq_false', ne_eq, Decidable.not_not, Int.not_lt, Int.not_le] at g17
          refine wp_skip ?_
          have H := (H.pr_le (b := b) (B' := (B + 100 + i.name.size + i.width.p.size)) (by omega)).pr_at (b := b) (y := (if i.kind ≤ 6 then numP i.width (wr [58, 32] y1) else y1)) (by rw [if_neg (by omega)])
          exact key14 _ _ _ hJ14 (Fr.suf A rfl) H.subH
      clear A H; intro a w m hm A H
      have hM := hM.trans hm
      have G := G.mono hm
      have hI := hI.mono hm
      refine wp_seq ?_
      refine wp_seq ?_
      obtain ⟨y2, hy2⟩ : ∃ y, y = (if i.kind ≤ 6 then numP i.width (wr [58, 32] y1) else y1) := ⟨_, rfl⟩
      rw [← hy2] at H
      refine wp_region_lit ?_
      refine step (Runs.move A rfl) A rfl ?_; clear A a; intro a A
      refine step (Runs.eql A rfl rfl) A rfl ?_; clear A a; intro a A
      refine step (Runs.move A rfl) A rfl ?_; clear A a; intro a A
      refine joinSame 2 (fun F => (137, .bool (decide (i.kind = 3) || decide (i.kind = 6))) :: F) A H (fun key15 => ?_) ?_
      · have hJ15 := Le.refl m
        refine onBool A (dj := 135) rfl (fun h18 => ?_) (fun h18 => ?_)
        · have g18 := h18
          try simp only [decide_eq_true_eq, decide_eq_false_iff_not, Bool.not_eq_true', Bool.not_eq_false', ne_eq, Decidable.not_not, Int.not_lt, Int.not_le] at g18
          refine stepSkip (dj := 135) rfl rfl h18 A rfl ?_; clear A a; intro a A
          refine step (Runs.pickT A rfl h18 rfl) A rfl ?_; clear A a; intro a A
          exact key15 _ _ _ hJ15 (Fr.with1 (Fr.suf A rfl) A rfl (by first | rfl | (simp [*]; done))) H.subH
        · have g18 := h18
          try simp only [decide_eq_true_eq, decide_eq_false_iff_not, Bool.not_eq_true', Bool.not_eq_false', ne_eq, Decidable.not_not, Int.not_lt, Int.not_le] at g18
          refine stepG (dj := 135) rfl rfl h18 (Runs.move A rfl) A rfl ?_; clear A a; intro a A
          refine step (Runs.pickF A rfl h18 rfl) A rfl ?_; clear A a; intro a A
          exact key15 _ _ _ hJ15 (Fr.with1 (Fr.suf A rfl) A rfl (by first | rfl | (simp [*]; done))) H.subH
      clear A H; intro a w m hm A H
      have hM := hM.trans hm
      have G := G.mono hm
      have hI := hI.mono hm
      refine wpList_nil ?_
      refine joinC (fun F => F) (prR b (if i.kind = 3 ∨ i.kind = 6 then wr [93] (numP i.depth (wr [32, 91] y2)) else y2) (B + 200 + i.name.size + i.width.p.size + i.depth.p.size) :: pt b3 (itC i p) 134 :: pt b2 [.pointer (some ⟨b, 0, none⟩)] 112 :: Lf) A H (fun key16 => ?_) ?_
      · have hJ16 := Le.refl m
        refine cond_split A rfl (fun h19 => ?_) (fun h19 => ?_)
        · have g19 := h19
          try simp only [decide_eq_true_eq, decide_eq_false_iff_not, Bool.not_eq_true', Bool.not_eq_false', ne_eq, Decidable.not_not, Int.not_lt, Int.not_le] at g19
          refine wp_seq ?_
          refine wp_region_lit ?_
          refine step (Runs.ld1 A H rfl rfl) A rfl ?_; clear A a; intro a A
          refine step (Runs.nilCheck A rfl) A rfl ?_; clear A a; intro a A
          refine step (Runs.fa A rfl) A rfl ?_; clear A a; intro a A
          refine step_callPr A rfl rfl (c_WriteString 2 (by decide)) H (by omega) ?_
          clear A a; rintro v12_3 a w m hm rfl A H
          simp only [List.cons_append, List.nil_append] at H
          have hM := hM.trans hm
          have hJ16 := hJ16.trans hm
          have G := G.mono hm
          have hI := hI.mono hm
          refine wpList_nil ?_
          refine wp_seq ?_
          refine wp_region_lit ?_
          refine step (Runs.ld1 A H rfl rfl) A rfl ?_; clear A a; intro a A
          refine step (Runs.fa A rfl) A rfl ?_; clear A a; intro a A
          refine step (Runs.ldN A H rfl rfl) A rfl ?_; clear A a; intro a A
          refine step_callPr A rfl rfl (c_syntax_printer_num (z := i.depth) G hI.depth) H (by omega) ?_
          clear A a; rintro v13_3 a w m hm rfl A H
          simp only [List.cons_append, List.nil_append] at H
          have hM := hM.trans hm
          have hJ16 := hJ16.trans hm
          have G := G.mono hm
          have hI := hI.mono hm
          refine wpList_nil ?_
          refine wp_region_lit ?_
          refine step (Runs.ld1 A H rfl rfl) A rfl ?_; clear A a; intro a A
          refine step (Runs.nilCheck A rfl) A rfl ?_; clear A a; intro a A
          refine step (Runs.fa A rfl) A rfl ?_; clear A a; intro a A
          refine step_callPr A rfl rfl (c_WriteString 1 (by decide)) H (by omega) ?_
          clear A a; rintro v14_3 a w m hm rfl A H
          simp only [List.cons_append, List.nil_append] at H
          have hM := hM.trans hm
          have hJ16 := hJ16.trans hm
          have G := G.mono hm
          have hI := hI.mono hm
          refine wpList_nil ?_
          have H := (H.pr_le (b := b) (B' := (B + 200 + i.name.size + i.width.p.size + i.depth.p.size)) (by omega)).pr_at (b := b) (y := (if i.kind = 3 ∨ i.kind = 6 then wr [93] (numP i.depth (wr [32, 91] y2)) else y2)) (by rw [if_pos (by simpa using (by assumption : (decide (i.kind = 3) || decide (i.kind = 6)) = true))])
          exact key16 _ _ _ hJ16 (Fr.suf A rfl) H.subH
        · have g19 := h19
          try simp only [decide_eq_true_eq, decide_eq_false_iff_not, Bool.not_eq_true', Bool.not_eq_false', ne_eq, Decidable.not_not, Int.not_lt, Int.not_le] at g19
          refine wp_skip ?_
          have H := (H.pr_le (b := b) (B' := (B + 200 + i.name.size + i.width.p.size + i.depth.p.size)) (by omega)).pr_at (b := b) (y := (if i.kind = 3 ∨ i.kind = 6 then wr [93] (numP i.depth (wr [32, 91] y2)) else y2)) (by rw [if_neg (by simpa using (by assumption : (decide (i.kind = 3) || decide (i.kind = 6)) = false))])
          exact key16 _ _ _ hJ16 (Fr.suf A rfl) H.subH
      clear A H; intro a w m hm A H
      have hM := hM.trans hm
      have G := G.mono hm
      have hI := hI.mono hm
      refine wp_seq ?_
      obtain ⟨y3, hy3⟩ : ∃ y, y = (if i.kind = 3 ∨ i.kind = 6 then wr [93] (numP i.depth (wr [32, 91] y2)) else y2) := ⟨_, rfl⟩
      rw [← hy3] at H
      refine wp_region_lit ?_
      refine step (Runs.makeFunc A rfl) A rfl ?_; clear A a; intro a A
      refine step (Runs.assign A rfl) A rfl ?_; clear A a; intro a A
      refine wpList_nil ?_
      refine wp_seq ?_
      refine wp_seq ?_
      refine wp_region_lit ?_
      refine step (Runs.move A rfl) A rfl ?_; clear A a; intro a A
      refine wpList_nil ?_
      refine joinC (fun F => F) (prR b (if i.kind = 4 then partP [32, 45, 62, 32] i.a (numP i.init (wr [32, 61, 32] y3))
          else if i.kind = 5 then partP [32, 61, 32] i.a y3
          else if i.kind = 6 then partP [32, 61, 32] i.c (partP [32, 97, 116, 32] i.b (partP [32, 105, 102, 32] i.a y3))
          else if i.kind = 7 then partP [32, 105, 102, 32] i.a y3
          else if i.kind = 8 then partP [32, 61, 32] i.b (partP [32, 105, 102, 32] i.a y3)
          else if i.kind = 9 then listP bindP i.ports (wr [32] (listP numP i.args (nameP i.of_ (wr [58, 32] y3))))
          else y3) (B + 400 + i.name.size + i.width.p.size + i.depth.p.size + i.init.p.size + szEx i.a + szEx i.b + szEx i.c + i.of_.size + szNums i.args + szBinds i.ports) :: pt b3 (itC i p) 134 :: pt b2 [.pointer (some ⟨b, 0, none⟩)] 112 :: Lf) A H (fun key17 => ?_) ?_
      · have hJ17 := Le.refl m
        refine wp_block ?_
        refine wp_seq ?_
        refine wp_region_lit ?_
        refine step (Runs.eql A rfl rfl) A rfl ?_; clear A a; intro a A
        refine step (Runs.assign A rfl) A rfl ?_; clear A a; intro a A
        refine wpList_nil ?_
        refine cond_split A rfl (fun h20 => ?_) (fun h20 => ?_)
        · have g20 := h20
          try simp only [decide_eq_true_eq, decide_eq_false_iff_not, Bool.not_eq_true', Bool.not_eq_false', ne_eq, Decidable.not_not, Int.not_lt, Int.not_le] at g20
          refine wp_seq ?_
          refine wp_region_lit ?_
          refine step (Runs.ld1 A H rfl rfl) A rfl ?_; clear A a; intro a A
          refine step (Runs.nilCheck A rfl) A rfl ?_; clear A a; intro a A
          refine step (Runs.fa A rfl) A rfl ?_; clear A a; intro a A
          refine step_callPr A rfl rfl (c_WriteString 3 (by decide)) H (by omega) ?_
          clear A a; rintro v18_3 a w m hm rfl A H
          simp only [List.cons_append, List.nil_append] at H
          have hM := hM.trans hm
          have hJ17 := hJ17.trans hm
          have G := G.mono hm
          have hI := hI.mono hm
          refine wpList_nil ?_
          refine wp_seq ?_
          refine wp_region_lit ?_
          refine step (Runs.ld1 A H rfl rfl) A rfl ?_; clear A a; intro a A
          refine step (Runs.fa A rfl) A rfl ?_; clear A a; intro a A
          refine step (Runs.ldN A H rfl rfl) A rfl ?_; clear A a; intro a A
          refine step_callPr A rfl rfl (c_syntax_printer_num (z := i.init) G hI.init) H (by omega) ?_
          clear A a; rintro v19_3 a w m hm rfl A H
          simp only [List.cons_append, List.nil_append] at H
          have hM := hM.trans hm
          have hJ17 := hJ17.trans hm
          have G := G.mono hm
          have hI := hI.mono hm
          refine wpList_nil ?_
          refine wp_region_lit ?_
          refine step (Runs.move A rfl) A rfl ?_; clear A a; intro a A
          refine step (Runs.fa A rfl) A rfl ?_; clear A a; intro a A
          refine step (Runs.ldN A H rfl rfl) A rfl ?_; clear A a; intro a A
          refine step_cloPr (cap := [.pointer (some ⟨b2, 0, none⟩)]) A rfl rfl rfl (c_item_1 (ks := 4) (b := b) (bw := b2) (e := i.a) (ad := p.aa) (c := p.ca) G hI.a (by decide)) H (by omega) ?_
          clear A a; rintro v20_3 a w m hm rfl A H
          simp only [List.cons_append, List.nil_append] at H
          have hM := hM.trans hm
          have hJ17 := hJ17.trans hm
          have G := G.mono hm
          have hI := hI.mono hm
          refine wpList_nil ?_
          have H := H.perm (List.Perm.cons _ (List.Perm.swap _ _ _))
          have H := (H.pr_le (b := b) (B' := (B + 400 + i.name.size + i.width.p.size + i.depth.p.size + i.init.p.size + szEx i.a + szEx i.b + szEx i.c + i.of_.size + szNums i.args + szBinds i.ports)) (by omega)).pr_at (b := b) (y := (if i.kind = 4 then partP [32, 45, 62, 32] i.a (numP i.init (wr [32, 61, 32] y3))
              else if i.kind = 5 then partP [32, 61, 32] i.a y3
              else if i.kind = 6 then partP [32, 61, 32] i.c (partP [32, 97, 116, 32] i.b (partP [32, 105, 102, 32] i.a y3))
              else if i.kind = 7 then partP [32, 105, 102, 32] i.a y3
              else if i.kind = 8 then partP [32, 61, 32] i.b (partP [32, 105, 102, 32] i.a y3)
              else if i.kind = 9 then listP bindP i.ports (wr [32] (listP numP i.args (nameP i.of_ (wr [58, 32] y3))))
              else y3)) (by simp [*])
          exact key17 _ _ _ hJ17 (Fr.suf A rfl) H.subH
        · have g20 := h20
          try simp only [decide_eq_true_eq, decide_eq_false_iff_not, Bool.not_eq_true', Bool.not_eq_false', ne_eq, Decidable.not_not, Int.not_lt, Int.not_le] at g20
          refine wp_seq ?_
          refine wp_region_lit ?_
          refine step (Runs.eql A rfl rfl) A rfl ?_; clear A a; intro a A
          refine step (Runs.assign A rfl) A rfl ?_; clear A a; intro a A
          refine wpList_nil ?_
          refine cond_split A rfl (fun h21 => ?_) (fun h21 => ?_)
          · have g21 := h21
            try simp only [decide_eq_true_eq, decide_eq_false_iff_not, Bool.not_eq_true', Bool.not_eq_false', ne_eq, Decidable.not_not, Int.not_lt, Int.not_le] at g21
            refine wp_region_lit ?_
            refine step (Runs.move A rfl) A rfl ?_; clear A a; intro a A
            refine step (Runs.fa A rfl) A rfl ?_; clear A a; intro a A
            refine step (Runs.ldN A H rfl rfl) A rfl ?_; clear A a; intro a A
            refine step_cloPr (cap := [.pointer (some ⟨b2, 0, none⟩)]) A rfl rfl rfl (c_item_1 (ks := 4) (b := b) (bw := b2) (e := i.a) (ad := p.aa) (c := p.ca) G hI.a (by decide)) H (by omega) ?_
            clear A a; rintro v22_3 a w m hm rfl A H
            simp only [List.cons_append, List.nil_append] at H
            have hM := hM.trans hm
            have hJ17 := hJ17.trans hm
            have G := G.mono hm
            have hI := hI.mono hm
            refine wpList_nil ?_
            have H := H.perm (List.Perm.cons _ (List.Perm.swap _ _ _))
            have H := (H.pr_le (b := b) (B' := (B + 400 + i.name.size + i.width.p.size + i.depth.p.size + i.init.p.size + szEx i.a + szEx i.b + szEx i.c + i.of_.size + szNums i.args + szBinds i.ports)) (by omega)).pr_at (b := b) (y := (if i.kind = 4 then partP [32, 45, 62, 32] i.a (numP i.init (wr [32, 61, 32] y3))
                else if i.kind = 5 then partP [32, 61, 32] i.a y3
                else if i.kind = 6 then partP [32, 61, 32] i.c (partP [32, 97, 116, 32] i.b (partP [32, 105, 102, 32] i.a y3))
                else if i.kind = 7 then partP [32, 105, 102, 32] i.a y3
                else if i.kind = 8 then partP [32, 61, 32] i.b (partP [32, 105, 102, 32] i.a y3)
                else if i.kind = 9 then listP bindP i.ports (wr [32] (listP numP i.args (nameP i.of_ (wr [58, 32] y3))))
                else y3)) (by simp [*])
            exact key17 _ _ _ hJ17 (Fr.suf A rfl) H.subH
          · have g21 := h21
            try simp only [decide_eq_true_eq, decide_eq_false_iff_not, Bool.not_eq_true', Bool.not_eq_false', ne_eq, Decidable.not_not, Int.not_lt, Int.not_le] at g21
            refine wp_seq ?_
            refine wp_region_lit ?_
            refine step (Runs.eql A rfl rfl) A rfl ?_; clear A a; intro a A
            refine step (Runs.assign A rfl) A rfl ?_; clear A a; intro a A
            refine wpList_nil ?_
            refine cond_split A rfl (fun h22 => ?_) (fun h22 => ?_)
            · have g22 := h22
              try simp only [decide_eq_true_eq, decide_eq_false_iff_not, Bool.not_eq_true', Bool.not_eq_false', ne_eq, Decidable.not_not, Int.not_lt, Int.not_le] at g22
              refine wp_seq ?_
              refine wp_region_lit ?_
              refine step (Runs.move A rfl) A rfl ?_; clear A a; intro a A
              refine step (Runs.fa A rfl) A rfl ?_; clear A a; intro a A
              refine step (Runs.ldN A H rfl rfl) A rfl ?_; clear A a; intro a A
              refine step_cloPr (cap := [.pointer (some ⟨b2, 0, none⟩)]) A rfl rfl rfl (c_item_1 (ks := 4) (b := b) (bw := b2) (e := i.a) (ad := p.aa) (c := p.ca) G hI.a (by decide)) H (by omega) ?_
              clear A a; rintro v24_3 a w m hm rfl A H
              simp only [List.cons_append, List.nil_append] at H
              have hM := hM.trans hm
              have hJ17 := hJ17.trans hm
              have G := G.mono hm
              have hI := hI.mono hm
              refine wpList_nil ?_
              refine wp_seq ?_
              refine wp_region_lit ?_
              refine step (Runs.move A rfl) A rfl ?_; clear A a; intro a A
              refine step (Runs.fa A rfl) A rfl ?_; clear A a; intro a A
              refine step (Runs.ldN A H rfl rfl) A rfl ?_; clear A a; intro a A
              refine step_cloPr (cap := [.pointer (some ⟨b2, 0, none⟩)]) A rfl rfl rfl (c_item_1 (ks := 4) (b := b) (bw := b2) (e := i.b) (ad := p.ab) (c := p.cb) G hI.b (by decide)) H (by omega) ?_
              clear A a; rintro v25_3 a w m hm rfl A H
              simp only [List.cons_append, List.nil_append] at H
              have hM := hM.trans hm
              have hJ17 := hJ17.trans hm
              have G := G.mono hm
              have hI := hI.mono hm
              refine wpList_nil ?_
              refine wp_region_lit ?_
              refine step (Runs.move A rfl) A rfl ?_; clear A a; intro a A
              refine step (Runs.fa A rfl) A rfl ?_; clear A a; intro a A
              refine step (Runs.ldN A H rfl rfl) A rfl ?_; clear A a; intro a A
              refine step_cloPr (cap := [.pointer (some ⟨b2, 0, none⟩)]) A rfl rfl rfl (c_item_1 (ks := 4) (b := b) (bw := b2) (e := i.c) (ad := p.ac) (c := p.cc) G hI.c (by decide)) H (by omega) ?_
              clear A a; rintro v26_3 a w m hm rfl A H
              simp only [List.cons_append, List.nil_append] at H
              have hM := hM.trans hm
              have hJ17 := hJ17.trans hm
              have G := G.mono hm
              have hI := hI.mono hm
              refine wpList_nil ?_
              have H := H.perm (List.Perm.cons _ (List.Perm.swap _ _ _))
              have H := (H.pr_le (b := b) (B' := (B + 400 + i.name.size + i.width.p.size + i.depth.p.size + i.init.p.size + szEx i.a + szEx i.b + szEx i.c + i.of_.size + szNums i.args + szBinds i.ports)) (by omega)).pr_at (b := b) (y := (if i.kind = 4 then partP [32, 45, 62, 32] i.a (numP i.init (wr [32, 61, 32] y3))
                  else if i.kind = 5 then partP [32, 61, 32] i.a y3
                  else if i.kind = 6 then partP [32, 61, 32] i.c (partP [32, 97, 116, 32] i.b (partP [32, 105, 102, 32] i.a y3))
                  else if i.kind = 7 then partP [32, 105, 102, 32] i.a y3
                  else if i.kind = 8 then partP [32, 61, 32] i.b (partP [32, 105, 102, 32] i.a y3)
                  else if i.kind = 9 then listP bindP i.ports (wr [32] (listP numP i.args (nameP i.of_ (wr [58, 32] y3))))
                  else y3)) (by simp [*])
              exact key17 _ _ _ hJ17 (Fr.suf A rfl) H.subH
            · have g22 := h22
              try simp only [decide_eq_true_eq, decide_eq_false_iff_not, Bool.not_eq_true', Bool.not_eq_false', ne_eq, Decidable.not_not, Int.not_lt, Int.not_le] at g22
              refine wp_seq ?_
              refine wp_region_lit ?_
              refine step (Runs.eql A rfl rfl) A rfl ?_; clear A a; intro a A
              refine step (Runs.assign A rfl) A rfl ?_; clear A a; intro a A
              refine wpList_nil ?_
              refine cond_split A rfl (fun h23 => ?_) (fun h23 => ?_)
              · have g23 := h23
                try simp only [decide_eq_true_eq, decide_eq_false_iff_not, Bool.not_eq_true', Bool.not_eq_false', ne_eq, Decidable.not_not, Int.not_lt, Int.not_le] at g23
                refine wp_region_lit ?_
                refine step (Runs.move A rfl) A rfl ?_; clear A a; intro a A
                refine step (Runs.fa A rfl) A rfl ?_; clear A a; intro a A
                refine step (Runs.ldN A H rfl rfl) A rfl ?_; clear A a; intro a A
                refine step_cloPr (cap := [.pointer (some ⟨b2, 0, none⟩)]) A rfl rfl rfl (c_item_1 (ks := 4) (b := b) (bw := b2) (e := i.a) (ad := p.aa) (c := p.ca) G hI.a (by decide)) H (by omega) ?_
                clear A a; rintro v28_3 a w m hm rfl A H
                simp only [List.cons_append, List.nil_append] at H
                have hM := hM.trans hm
                have hJ17 := hJ17.trans hm
                have G := G.mono hm
                have hI := hI.mono hm
                refine wpList_nil ?_
                have H := H.perm (List.Perm.cons _ (List.Perm.swap _ _ _))
                have H := (H.pr_le (b := b) (B' := (B + 400 + i.name.size + i.width.p.size + i.depth.p.size + i.init.p.size + szEx i.a + szEx i.b + szEx i.c + i.of_.size + szNums i.args + szBinds i.ports)) (by omega)).pr_at (b := b) (y := (if i.kind = 4 then partP [32, 45, 62, 32] i.a (numP i.init (wr [32, 61, 32] y3))
                    else if i.kind = 5 then partP [32, 61, 32] i.a y3
                    else if i.kind = 6 then partP [32, 61, 32] i.c (partP [32, 97, 116, 32] i.b (partP [32, 105, 102, 32] i.a y3))
                    else if i.kind = 7 then partP [32, 105, 102, 32] i.a y3
                    else if i.kind = 8 then partP [32, 61, 32] i.b (partP [32, 105, 102, 32] i.a y3)
                    else if i.kind = 9 then listP bindP i.ports (wr [32] (listP numP i.args (nameP i.of_ (wr [58, 32] y3))))
                    else y3)) (by simp [*])
                exact key17 _ _ _ hJ17 (Fr.suf A rfl) H.subH
              · have g23 := h23
                try simp only [decide_eq_true_eq, decide_eq_false_iff_not, Bool.not_eq_true', Bool.not_eq_false', ne_eq, Decidable.not_not, Int.not_lt, Int.not_le] at g23
                refine wp_seq ?_
                refine wp_region_lit ?_
                refine step (Runs.eql A rfl rfl) A rfl ?_; clear A a; intro a A
                refine step (Runs.assign A rfl) A rfl ?_; clear A a; intro a A
                refine wpList_nil ?_
                refine cond_split A rfl (fun h24 => ?_) (fun h24 => ?_)
                · have g24 := h24
                  try simp only [decide_eq_true_eq, decide_eq_false_iff_not, Bool.not_eq_true', Bool.not_eq_false', ne_eq, Decidable.not_not, Int.not_lt, Int.not_le] at g24
                  refine wp_seq ?_
                  refine wp_region_lit ?_
                  refine step (Runs.move A rfl) A rfl ?_; clear A a; intro a A
                  refine step (Runs.fa A rfl) A rfl ?_; clear A a; intro a A
                  refine step (Runs.ldN A H rfl rfl) A rfl ?_; clear A a; intro a A
                  refine step_cloPr (cap := [.pointer (some ⟨b2, 0, none⟩)]) A rfl rfl rfl (c_item_1 (ks := 4) (b := b) (bw := b2) (e := i.a) (ad := p.aa) (c := p.ca) G hI.a (by decide)) H (by omega) ?_
                  clear A a; rintro v30_3 a w m hm rfl A H
                  simp only [List.cons_append, List.nil_append] at H
                  have hM := hM.trans hm
                  have hJ17 := hJ17.trans hm
                  have G := G.mono hm
                  have hI := hI.mono hm
                  refine wpList_nil ?_
                  refine wp_region_lit ?_
                  refine step (Runs.move A rfl) A rfl ?_; clear A a; intro a A
                  refine step (Runs.fa A rfl) A rfl ?_; clear A a; intro a A
                  refine step (Runs.ldN A H rfl rfl) A rfl ?_; clear A a; intro a A
                  refine step_cloPr (cap := [.pointer (some ⟨b2, 0, none⟩)]) A rfl rfl rfl (c_item_1 (ks := 4) (b := b) (bw := b2) (e := i.b) (ad := p.ab) (c := p.cb) G hI.b (by decide)) H (by omega) ?_
                  clear A a; rintro v31_3 a w m hm rfl A H
                  simp only [List.cons_append, List.nil_append] at H
                  have hM := hM.trans hm
                  have hJ17 := hJ17.trans hm
                  have G := G.mono hm
                  have hI := hI.mono hm
                  refine wpList_nil ?_
                  have H := H.perm (List.Perm.cons _ (List.Perm.swap _ _ _))
                  have H := (H.pr_le (b := b) (B' := (B + 400 + i.name.size + i.width.p.size + i.depth.p.size + i.init.p.size + szEx i.a + szEx i.b + szEx i.c + i.of_.size + szNums i.args + szBinds i.ports)) (by omega)).pr_at (b := b) (y := (if i.kind = 4 then partP [32, 45, 62, 32] i.a (numP i.init (wr [32, 61, 32] y3))
                      else if i.kind = 5 then partP [32, 61, 32] i.a y3
                      else if i.kind = 6 then partP [32, 61, 32] i.c (partP [32, 97, 116, 32] i.b (partP [32, 105, 102, 32] i.a y3))
                      else if i.kind = 7 then partP [32, 105, 102, 32] i.a y3
                      else if i.kind = 8 then partP [32, 61, 32] i.b (partP [32, 105, 102, 32] i.a y3)
                      else if i.kind = 9 then listP bindP i.ports (wr [32] (listP numP i.args (nameP i.of_ (wr [58, 32] y3))))
                      else y3)) (by simp [*])
                  exact key17 _ _ _ hJ17 (Fr.suf A rfl) H.subH
                · have g24 := h24
                  try simp only [decide_eq_true_eq, decide_eq_false_iff_not, Bool.not_eq_true', Bool.not_eq_false', ne_eq, Decidable.not_not, Int.not_lt, Int.not_le] at g24
                  refine wp_seq ?_
                  refine wp_region_lit ?_
                  refine step (Runs.eql A rfl rfl) A rfl ?_; clear A a; intro a A
                  refine step (Runs.assign A rfl) A rfl ?_; clear A a; intro a A
                  refine wpList_nil ?_
                  refine cond_split A rfl (fun h25 => ?_) (fun h25 => ?_)
                  · have g25 := h25
                    try simp only [decide_eq_true_eq, decide_eq_false_iff_not, Bool.not_eq_true', Bool.not_eq_false', ne_eq, Decidable.not_not, Int.not_lt, Int.not_le] at g25
                    refine wp_seq ?_
                    refine wp_region_lit ?_
                    refine step (Runs.ld1 A H rfl rfl) A rfl ?_; clear A a; intro a A
                    refine step (Runs.nilCheck A rfl) A rfl ?_; clear A a; intro a A
                    refine step (Runs.fa A rfl) A rfl ?_; clear A a; intro a A
                    refine step_callPr A rfl rfl (c_WriteString 2 (by decide)) H (by omega) ?_
                    clear A a; rintro v33_3 a w m hm rfl A H
                    simp only [List.cons_append, List.nil_append] at H
                    have hM := hM.trans hm
                    have hJ17 := hJ17.trans hm
                    have G := G.mono hm
                    have hI := hI.mono hm
                    refine wpList_nil ?_
                    refine wp_seq ?_
                    refine wp_region_lit ?_
                    refine step (Runs.ld1 A H rfl rfl) A rfl ?_; clear A a; intro a A
                    refine step (Runs.fa A rfl) A rfl ?_; clear A a; intro a A
                    refine step (Runs.ld1 A H rfl rfl) A rfl ?_; clear A a; intro a A
                    refine step_callPr A rfl rfl (c_syntax_printer_name G (by omega)) H (by omega) ?_
                    clear A a; rintro v34_3 a w m hm rfl A H
                    simp only [List.cons_append, List.nil_append] at H
                    have hM := hM.trans hm
                    have hJ17 := hJ17.trans hm
                    have G := G.mono hm
                    have hI := hI.mono hm
                    refine wpList_nil ?_
                    refine wp_seq ?_
                    refine wp_region_lit ?_
                    refine step (Runs.ld1 A H rfl rfl) A rfl ?_; clear A a; intro a A
                    refine step (Runs.fa A rfl) A rfl ?_; clear A a; intro a A
                    refine step (Runs.ld1 A H rfl rfl) A rfl ?_; clear A a; intro a A
                    refine step (Runs.ld1 A H rfl rfl) A rfl ?_; clear A a; intro a A
                    refine step (Runs.makeFuncB A rfl rfl) A rfl ?_; clear A a; intro a A
                    refine step_callPr A rfl rfl (c_listN G hI.args) H (by omega) ?_
                    clear A a; rintro v35_5 a w m hm rfl A H
                    simp only [List.cons_append, List.nil_append] at H
                    have hM := hM.trans hm
                    have hJ17 := hJ17.trans hm
                    have G := G.mono hm
                    have hI := hI.mono hm
                    refine wpList_nil ?_
                    refine wp_seq ?_
                    refine wp_region_lit ?_
                    refine step (Runs.ld1 A H rfl rfl) A rfl ?_; clear A a; intro a A
                    refine step (Runs.nilCheck A rfl) A rfl ?_; clear A a; intro a A
                    refine step (Runs.fa A rfl) A rfl ?_; clear A a; intro a A
                    refine step_callPr A rfl rfl (c_WriteString 1 (by decide)) H (by omega) ?_
                    clear A a; rintro v36_3 a w m hm rfl A H
                    simp only [List.cons_append, List.nil_append] at H
                    have hM := hM.trans hm
                    have hJ17 := hJ17.trans hm
                    have G := G.mono hm
                    have hI := hI.mono hm
                    refine wpList_nil ?_
                    refine wp_region_lit ?_
                    refine step (Runs.ld1 A H rfl rfl) A rfl ?_; clear A a; intro a A
                    refine step (Runs.fa A rfl) A rfl ?_; clear A a; intro a A
                    refine step (Runs.ld1 A H rfl rfl) A rfl ?_; clear A a; intro a A
                    refine step (Runs.makeFunc A rfl) A rfl ?_; clear A a; intro a A
                    refine step_callPr A rfl rfl (c_listB (b := b) (bw := b2) (tw := 112) G hI.ports) H (by omega) ?_
                    clear A a; rintro v37_4 a w m hm rfl A H
                    simp only [List.cons_append, List.nil_append] at H
                    have hM := hM.trans hm
                    have hJ17 := hJ17.trans hm
                    have G := G.mono hm
                    have hI := hI.mono hm
                    refine wpList_nil ?_
                    have H := H.perm (List.Perm.cons _ (List.Perm.swap _ _ _))
                    have H := (H.pr_le (b := b) (B' := (B + 400 + i.name.size + i.width.p.size + i.depth.p.size + i.init.p.size + szEx i.a + szEx i.b + szEx i.c + i.of_.size + szNums i.args + szBinds i.ports)) (by omega)).pr_at (b := b) (y := (if i.kind = 4 then partP [32, 45, 62, 32] i.a (numP i.init (wr [32, 61, 32] y3))
                        else if i.kind = 5 then partP [32, 61, 32] i.a y3
                        else if i.kind = 6 then partP [32, 61, 32] i.c (partP [32, 97, 116, 32] i.b (partP [32, 105, 102, 32] i.a y3))
                        else if i.kind = 7 then partP [32, 105, 102, 32] i.a y3
                        else if i.kind = 8 then partP [32, 61, 32] i.b (partP [32, 105, 102, 32] i.a y3)
                        else if i.kind = 9 then listP bindP i.ports (wr [32] (listP numP i.args (nameP i.of_ (wr [58, 32] y3))))
                        else y3)) (by simp [*])
                    exact key17 _ _ _ hJ17 (Fr.suf A rfl) H.subH
                  · have g25 := h25
                    try simp only [decide_eq_true_eq, decide_eq_false_iff_not, Bool.not_eq_true', Bool.not_eq_false', ne_eq, Decidable.not_not, Int.not_lt, Int.not_le] at g25
                    refine wp_skip ?_
                    have H := (H.pr_le (b := b) (B' := (B + 400 + i.name.size + i.width.p.size + i.depth.p.size + i.init.p.size + szEx i.a + szEx i.b + szEx i.c + i.of_.size + szNums i.args + szBinds i.ports)) (by omega)).pr_at (b := b) (y := (if i.kind = 4 then partP [32, 45, 62, 32] i.a (numP i.init (wr [32, 61, 32] y3))
                        else if i.kind = 5 then partP [32, 61, 32] i.a y3
                        else if i.kind = 6 then partP [32, 61, 32] i.c (partP [32, 97, 116, 32] i.b (partP [32, 105, 102, 32] i.a y3))
                        else if i.kind = 7 then partP [32, 105, 102, 32] i.a y3
                        else if i.kind = 8 then partP [32, 61, 32] i.b (partP [32, 105, 102, 32] i.a y3)
                        else if i.kind = 9 then listP bindP i.ports (wr [32] (listP numP i.args (nameP i.of_ (wr [58, 32] y3))))
                        else y3)) (by simp [*])
                    exact key17 _ _ _ hJ17 (Fr.suf A rfl) H.subH
      clear A H; intro a w m hm A H
      have hM := hM.trans hm
      have G := G.mono hm
      have hI := hI.mono hm
      refine wp_seq ?_
      obtain ⟨y4, hy4⟩ : ∃ y, y = (if i.kind = 4 then partP [32, 45, 62, 32] i.a (numP i.init (wr [32, 61, 32] y3))
          else if i.kind = 5 then partP [32, 61, 32] i.a y3
          else if i.kind = 6 then partP [32, 61, 32] i.c (partP [32, 97, 116, 32] i.b (partP [32, 105, 102, 32] i.a y3))
          else if i.kind = 7 then partP [32, 105, 102, 32] i.a y3
          else if i.kind = 8 then partP [32, 61, 32] i.b (partP [32, 105, 102, 32] i.a y3)
          else if i.kind = 9 then listP bindP i.ports (wr [32] (listP numP i.args (nameP i.of_ (wr [58, 32] y3))))
          else y3) := ⟨_, rfl⟩
      rw [← hy4] at H
      refine wp_region_lit ?_
      refine step (Runs.move A rfl) A rfl ?_; clear A a; intro a A
      refine step (Runs.move A rfl) A rfl ?_; clear A a; intro a A
      refine joinSame 2 (fun F => (230, .bool (decide (i.kind = 4) || decide (i.kind = 6))) :: F) A H (fun key18 => ?_) ?_
      · have hJ18 := Le.refl m
        refine onBool A (dj := 228) rfl (fun h26 => ?_) (fun h26 => ?_)
        · have g26 := h26
          try simp only [decide_eq_true_eq, decide_eq_false_iff_not, Bool.not_eq_true', Bool.not_eq_false', ne_eq, Decidable.not_not, Int.not_lt, Int.not_le] at g26
          refine stepSkip (dj := 228) rfl rfl h26 A rfl ?_; clear A a; intro a A
          refine step (Runs.pickT A rfl h26 rfl) A rfl ?_; clear A a; intro a A
          exact key18 _ _ _ hJ18 (Fr.with1 (Fr.suf A rfl) A rfl (by first | rfl | (simp [*]; done))) H.subH
        · have g26 := h26
          try simp only [decide_eq_true_eq, decide_eq_false_iff_not, Bool.not_eq_true', Bool.not_eq_false', ne_eq, Decidable.not_not, Int.not_lt, Int.not_le] at g26
          refine stepG (dj := 228) rfl rfl h26 (Runs.move A rfl) A rfl ?_; clear A a; intro a A
          refine step (Runs.pickF A rfl h26 rfl) A rfl ?_; clear A a; intro a A
          exact key18 _ _ _ hJ18 (Fr.with1 (Fr.suf A rfl) A rfl (by first | rfl | (simp [*]; done))) H.subH
      clear A H; intro a w m hm A H
      have hM := hM.trans hm
      have G := G.mono hm
      have hI := hI.mono hm
      refine wpList_nil ?_
      refine cond_split A rfl (fun h27 => ?_) (fun h27 => ?_)
      · have g27 := h27
        try simp only [decide_eq_true_eq, decide_eq_false_iff_not, Bool.not_eq_true', Bool.not_eq_false', ne_eq, Decidable.not_not, Int.not_lt, Int.not_le] at g27
        refine wp_seq ?_
        refine wp_region_lit ?_
        refine step (Runs.ld1 A H rfl rfl) A rfl ?_; clear A a; intro a A
        refine step (Runs.nilCheck A rfl) A rfl ?_; clear A a; intro a A
        refine step (Runs.fa A rfl) A rfl ?_; clear A a; intro a A
        refine step_callPr A rfl rfl (c_WriteString 1 (by decide)) H (by omega) ?_
        clear A a; rintro v39_3 a w m hm rfl A H
        simp only [List.cons_append, List.nil_append] at H
        have hM := hM.trans hm
        have G := G.mono hm
        have hI := hI.mono hm
        refine wpList_nil ?_
        refine wp_region_lit ?_
        refine step (Runs.ld1 A H rfl rfl) A rfl ?_; clear A a; intro a A
        refine step (Runs.fa A rfl) A rfl ?_; clear A a; intro a A
        refine step (Runs.ldN A H rfl rfl) A rfl ?_; clear A a; intro a A
        refine step_callPr A rfl rfl (c_syntax_printer_rule (r := i.rule) G hI.rn) H (by omega) ?_
        clear A a; rintro v40_3 a w m hm rfl A H
        simp only [List.cons_append, List.nil_append] at H
        have hM := hM.trans hm
        have G := G.mono hm
        have hI := hI.mono hm
        refine wpList_nil ?_
        have h46 : i.kind = 4 ∨ i.kind = 6 := by simpa using (by assumption : (decide (i.kind = 4) || decide (i.kind = 6)) = true)
        exact endPr A rfl hM H rfl (by rw [itemP]; simp only []; rw [if_neg (by omega), if_pos h46, hy4, hy3, hy2, hy1]) (by unfold szItem; omega)
      · have g27 := h27
        try simp only [decide_eq_true_eq, decide_eq_false_iff_not, Bool.not_eq_true', Bool.not_eq_false', ne_eq, Decidable.not_not, Int.not_lt, Int.not_le] at g27
        refine wp_skip ?_
        have h46 : ¬ (i.kind = 4 ∨ i.kind = 6) := by simpa using (by assumption : (decide (i.kind = 4) || decide (i.kind = 6)) = false)
        exact endPr A rfl hM H rfl (by rw [itemP]; simp only []; rw [if_neg (by omega), if_neg h46, hy4, hy3, hy2, hy1]) (by unfold szItem; omega)
end Sl
end Go.Proofs.YtanhehbfbakdcaaGreatDoor
