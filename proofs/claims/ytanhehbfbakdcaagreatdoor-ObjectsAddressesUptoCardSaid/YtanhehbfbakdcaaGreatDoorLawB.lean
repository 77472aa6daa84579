/- Save; Parse and Load where the text has no tokens: walks, printed by my gen.py out of annotations. -/
import Derived.Test.YtanhehbfbakdcaaGreatDoorLawA
import Derived.Test.YtanhehbfbakdcaaGreatDoorPrP
import Derived.Test.YtanhehbfbakdcaaGreatDoorConv
set_option linter.unusedSimpArgs false
set_option linter.unusedVariables false
namespace Go.Proofs.YtanhehbfbakdcaaGreatDoor
namespace Sl
open Go

def saveP (l : List Obj) (f : List PMod) : List Obj × UInt64 × Int := match printP f with
  | some t => (putP l t, dig t, 0)
  | none => ([], 0, 90)
theorem printP_len {f : List PMod} {t : List UInt8} (h : printP f = some t) : t.length ≤ 8000 := by
  unfold printP at h
  split at h
  · rename_i hh
    simp only [Bool.and_eq_true, decide_eq_true_eq] at hh
    cases h; exact hh.2
  · cases h
theorem lexAll_err {s : ByteArray} {pe : Nat × Int} (h : lexAll s = .error pe) : ¬ pe.2 = 0 := by
  unfold lexAll at h
  split at h
  · cases h; decide
  · split at h
    · cases h; show ¬ (5 : Int) = 0; decide
    · cases h

theorem c_objects_Save {ad : Option Addr} {n c : Nat} {l : List Obj} {adf : Option Addr} {cf : Nat} {lf : List PMod} {m : Mem} (hl : Objs m ad n c l) (hb : n ≤ 1100000) (hs : Srt l) (G : Glob m) (hlf : Lst MoR 4 m adf cf lf) (hsz : szFile lf ≤ 100000000000) : Spec Tryz.prog 48 #[.slice ad n c, .agg #[.slice adf lf.length cf]] m [] (RetF fun m' v => ∃ ad' c', v = .tuple #[.slice ad' (saveP l lf).1.length c', u64 (saveP l lf).2.1, .int .i64 (saveP l lf).2.2] ∧ Objs m' ad' (saveP l lf).1.length c' (saveP l lf).1) := by
  refine Spec.enter0 Tryz.func48 rfl 27 Tryz.ntmps48 rfl fun a w0 Lf A H => ?_
  have hM := Le.refl m
  refine wp_seq ?_
  refine wp_region_lit ?_
  refine step_box A H rfl (by simp only [Value.cells, List.toList_toArray]; rfl) rfl ?_; intro b1 a w A H
  refine step (Runs.assign A rfl) A rfl ?_; clear A a; intro a A
  refine step (Runs.assign A rfl) A rfl ?_; clear A a; intro a A
  refine step (Runs.assign A rfl) A rfl ?_; clear A a; intro a A
  refine wpList_nil ?_
  refine wp_seq ?_
  refine wp_region_lit ?_
  refine step (Runs.ldN A H rfl rfl) A rfl ?_; clear A a; intro a A
  refine step_callF A rfl rfl (c_Print G hlf (by omega)) H ?_
  rintro v1_1 a w m hm hprint A H
  have hM := hM.trans hm
  have hl := hl.mono hm
  have G := G.mono hm
  have hlf := hlf.mono hm
  rcases hpp : printP lf with _ | t <;> simp only [hpp] at hprint
  · subst hprint
    refine step (Runs.move A rfl) A rfl ?_; clear A a; intro a A
    refine step (Runs.extract A rfl rfl) A rfl ?_; clear A a; intro a A
    refine step (Runs.extract A rfl rfl) A rfl ?_; clear A a; intro a A
    refine step (Runs.assign A rfl) A rfl ?_; clear A a; intro a A
    refine step (Runs.assign A rfl) A rfl ?_; clear A a; intro a A
    refine wpList_nil ?_
    refine wp_seq ?_
    refine wp_seq ?_
    refine wp_region_lit ?_
    refine step (Runs.move A rfl) A rfl ?_; clear A a; intro a A
    refine step (Runs.neq A rfl rfl) A rfl ?_; clear A a; intro a A
    refine wpList_nil ?_
    refine cond_true A rfl rfl ?_
    refine wp_seq ?_
    refine wp_region_lit ?_
    refine step (Runs.move A rfl) A rfl ?_; clear A a; intro a A
    refine step (Runs.assign A rfl) A rfl ?_; clear A a; intro a A
    refine step (Runs.assign A rfl) A rfl ?_; clear A a; intro a A
    refine step (Runs.assign A rfl) A rfl ?_; clear A a; intro a A
    refine wpList_nil ?_
    refine wp_ret ?_
    have e : saveP l lf = ([], 0, 90) := by rw [saveP, hpp]
    exact retF3 A rfl rfl rfl rfl hM H ⟨none, 0, by rw [e]; rfl, by rw [e]; exact Objs.nil m⟩
  · subst hprint
    have htl := printP_len hpp
    refine step (Runs.move A rfl) A rfl ?_; clear A a; intro a A
    refine step (Runs.extract A rfl rfl) A rfl ?_; clear A a; intro a A
    refine step (Runs.extract A rfl rfl) A rfl ?_; clear A a; intro a A
    refine step (Runs.assign A rfl) A rfl ?_; clear A a; intro a A
    refine step (Runs.assign A rfl) A rfl ?_; clear A a; intro a A
    refine wpList_nil ?_
    refine wp_seq ?_
    refine wp_seq ?_
    refine wp_region_lit ?_
    refine step (Runs.move A rfl) A rfl ?_; clear A a; intro a A
    refine step (Runs.neq A rfl rfl) A rfl ?_; clear A a; intro a A
    refine wpList_nil ?_
    refine cond_false A rfl rfl ?_
    refine wp_skip ?_
    refine wp_seq ?_
    refine wp_region_lit ?_
    refine step (Runs.move A rfl) A rfl ?_; clear A a; intro a A
    refine step (Runs.move A rfl) A rfl ?_; clear A a; intro a A
    refine step_strBytes A H rfl (by first | omega | (show Array.size _ ≤ _; rw [List.size_toArray]; omega)) rfl ?_; clear A a; intro vd a w m hm hvd A H
    have hM := hM.trans hm
    have hl := hl.mono hm
    have G := G.mono hm
    have hlf := hlf.mono hm
    simp only [] at hvd
    refine step_callF A rfl rfl (c_objects_Put hl (by omega) hs hvd) H ?_
    rintro v4_3 a w m hm ⟨adp, cp, rfl, hput⟩ A H
    have hM := hM.trans hm
    have hl := hl.mono hm
    have G := G.mono hm
    have hlf := hlf.mono hm
    have hvd := hvd.mono hm
    refine step (Runs.move A rfl) A rfl ?_; clear A a; intro a A
    refine step (Runs.extract A rfl rfl) A rfl ?_; clear A a; intro a A
    refine step (Runs.extract A rfl rfl) A rfl ?_; clear A a; intro a A
    refine step (Runs.assign A rfl) A rfl ?_; clear A a; intro a A
    refine step (Runs.assign A rfl) A rfl ?_; clear A a; intro a A
    refine wpList_nil ?_
    refine wp_seq ?_
    refine wp_region_lit ?_
    refine step (Runs.move A rfl) A rfl ?_; clear A a; intro a A
    refine step (Runs.move A rfl) A rfl ?_; clear A a; intro a A
    refine step (Runs.assign A rfl) A rfl ?_; clear A a; intro a A
    refine step (Runs.assign A rfl) A rfl ?_; clear A a; intro a A
    refine step (Runs.assign A rfl) A rfl ?_; clear A a; intro a A
    refine wpList_nil ?_
    refine wp_ret ?_
    have e : saveP l lf = (putP l t, dig t, 0) := by rw [saveP, hpp]
    exact retF3 A rfl rfl rfl rfl hM H ⟨adp, cp, by rw [e], by rw [e]; exact hput⟩

theorem c_wireloomlaw18_save {ad : Option Addr} {n c : Nat} {l : List Obj} {adf : Option Addr} {cf : Nat} {lf : List PMod} {m : Mem} (hl : Objs m ad n c l) (hb : n ≤ 1100000) (hs : Srt l) (G : Glob m) (hlf : Lst MoR 4 m adf cf lf) (hsz : szFile lf ≤ 100000000000) : Spec Tryz.prog 18 #[.slice ad n c, .agg #[.slice adf lf.length cf]] m [] (RetF fun m' v => ∃ ad' c', v = .agg #[.slice ad' (saveP l lf).1.length c', u64 (saveP l lf).2.1, .int .i64 (saveP l lf).2.2] ∧ Objs m' ad' (saveP l lf).1.length c' (saveP l lf).1) := by
  refine Spec.enter0 Tryz.func18 rfl 19 Tryz.ntmps18 rfl fun a w0 Lf A H => ?_
  have hM := Le.refl m
  refine wp_seq ?_
  refine wp_region_lit ?_
  refine step_box A H rfl (by simp only [Value.cells, List.toList_toArray]; rfl) rfl ?_; intro b1 a w A H
  refine step_alloc A H rfl ?_; clear A a; intro b2 a w A H
  refine wpList_nil ?_
  refine wp_seq ?_
  refine wp_region_lit ?_
  refine step (Runs.move A rfl) A rfl ?_; clear A a; intro a A
  refine step (Runs.ldN A H rfl rfl) A rfl ?_; clear A a; intro a A
  refine step_callF A rfl rfl (c_objects_Save hl (by omega) hs G hlf (by omega)) H ?_
  rintro v1_2 a w m hm ⟨adp, cp, rfl, hput⟩ A H
  have hM := hM.trans hm
  have hl := hl.mono hm
  have G := G.mono hm
  have hlf := hlf.mono hm
  refine step (Runs.move A rfl) A rfl ?_; clear A a; intro a A
  refine step (Runs.extract A rfl rfl) A rfl ?_; clear A a; intro a A
  refine step (Runs.extract A rfl rfl) A rfl ?_; clear A a; intro a A
  refine step (Runs.extract A rfl rfl) A rfl ?_; clear A a; intro a A
  refine step (Runs.assign A rfl) A rfl ?_; clear A a; intro a A
  refine step (Runs.assign A rfl) A rfl ?_; clear A a; intro a A
  refine step (Runs.assign A rfl) A rfl ?_; clear A a; intro a A
  refine wpList_nil ?_
  refine wp_seq ?_
  refine wp_region_lit ?_
  refine step (Runs.move A rfl) A rfl ?_; clear A a; intro a A
  refine step (Runs.move A rfl) A rfl ?_; clear A a; intro a A
  refine step (Runs.move A rfl) A rfl ?_; clear A a; intro a A
  refine step (Runs.build A rfl rfl rfl) A rfl ?_; clear A a; intro a A
  refine step_store A H rfl rfl rfl rfl rfl rfl ?_; intro w H
  refine wpList_nil ?_
  refine wp_ret ?_
  exact retFc A rfl rfl hM H rfl ⟨_, _, rfl, hput⟩

theorem c_Parse_lex {s : ByteArray} {pe : Nat × Int} {m : Mem} (G : Glob m) (hs : s.size ≤ 140737488355328) (h : lexAll s = .error pe) : Spec Tryz.prog 81 #[.string s] m [] (RetE (.tuple #[.agg #[.slice none 0 0], .int .i64 pe.1, .int .i64 pe.2])) := by
  refine Spec.enter0 Tryz.func81 rfl 42 Tryz.ntmps81 rfl fun a w0 Lf A H => ?_
  have hM := Le.refl m
  have hne := lexAll_err h
  refine wp_seq ?_
  refine wp_region_lit ?_
  refine step_alloc A H rfl ?_; clear A a; intro b1 a w A H
  refine step_alloc A H rfl ?_; clear A a; intro b2 a w A H
  refine step_alloc A H rfl ?_; clear A a; intro b3 a w A H
  refine wpList_nil ?_
  refine wp_seq ?_
  refine wp_region_lit ?_
  refine step (Runs.move A rfl) A rfl ?_; clear A a; intro a A
  refine step_callF A rfl rfl (c_lexer_Lex G (by omega)) H ?_
  rintro v1_1 a w m hm hlex A H
  have hM := hM.trans hm
  have G := G.mono hm
  simp only [h] at hlex
  · subst hlex
    refine step (Runs.move A rfl) A rfl ?_; clear A a; intro a A
    refine step (Runs.extract A rfl rfl) A rfl ?_; clear A a; intro a A
    refine step (Runs.extract A rfl rfl) A rfl ?_; clear A a; intro a A
    refine step (Runs.extract A rfl rfl) A rfl ?_; clear A a; intro a A
    refine step_alloc A H rfl ?_; clear A a; intro b4 a w A H
    refine step_store A H rfl rfl rfl rfl rfl rfl ?_; intro w H
    refine step_store A H rfl rfl rfl rfl rfl rfl ?_; intro w H
    refine step_store A H rfl rfl rfl rfl rfl rfl ?_; intro w H
    refine wpList_nil ?_
    refine wp_seq ?_
    refine wp_seq ?_
    refine wp_region_lit ?_
    refine step (Runs.ld1 A H rfl rfl) A rfl ?_; clear A a; intro a A
    refine step (Runs.neq A rfl rfl) A rfl ?_; clear A a; intro a A
    refine wpList_nil ?_
    refine cond_true A rfl (decide_eq_true hne) ?_
    refine wp_seq ?_
    refine draw_begin (ms := m) (Ls := []) (by kernel_rfl) (N := 6) rfl (by kernel_rfl) H ?_; clear H; intro w H hR
    have hS : SW m [] w := H.sw (Le.refl m)
    have hL := Le.refl m
    refine dstep hR (i := 0) rfl (by kernel_rfl) (fun _ _ _ h => h) (fun _ _ H' => (Runs.build A rfl rfl rfl)) A rfl hS ?_; clear A a hR; intro a A hR
    refine draws_all hR (rs := [1, 2, 3]) (by kernel_rfl) (by decide) ?_
    simp only [List.mem_cons, List.not_mem_nil, or_false, forall_eq_or_imp, forall_eq]
    refine ⟨?_, ?_, ?_⟩
    · refine dalt (i := 1) rfl ?_
      have hR := hR.next (i := 1) (by kernel_rfl)
      refine step (Runs.ld1 A H rfl rfl) A rfl ?_; clear A a; intro a A
      refine wpList_nil ?_
      clear hS; refine and_keep (H.sw hL) fun hS => ?_
      refine draws_all hR (rs := [2, 3]) (by kernel_rfl) (by decide) ?_
      simp only [List.mem_cons, List.not_mem_nil, or_false, forall_eq_or_imp, forall_eq]
      refine ⟨?_, ?_⟩
      · refine dalt (i := 2) rfl ?_
        have hR := hR.next (i := 2) (by kernel_rfl)
        refine step (Runs.ld1 A H rfl rfl) A rfl ?_; clear A a; intro a A
        refine wpList_nil ?_
        clear hS; refine and_keep (H.sw hL) fun hS => ?_
        refine dlist hR (i := 3) rfl (by kernel_rfl) ?_
        have hR := hR.next (i := 3) (by kernel_rfl)
        refine step_store A H rfl rfl rfl rfl rfl rfl ?_; intro w H
        refine wpList_nil ?_
        clear hS; refine and_keep (H.sw hL) fun hS => ?_
        refine dlist hR (i := 4) rfl (by kernel_rfl) ?_
        have hR := hR.next (i := 4) (by kernel_rfl)
        refine step_store A H rfl rfl rfl rfl rfl rfl ?_; intro w H
        refine wpList_nil ?_
        clear hS; refine and_keep (H.sw hL) fun hS => ?_
        refine dlist hR (i := 5) rfl (by kernel_rfl) ?_
        have hR := hR.next (i := 5) (by kernel_rfl)
        refine step_store A H rfl rfl rfl rfl rfl rfl ?_; intro w H
        refine wpList_nil ?_
        refine and_last (by kernel_rfl) ?_
        refine draw_done hR (by kernel_rfl) ?_
        clear hS hL hR
        refine wp_ret ?_
        exact retR3 A rfl (rvN H rfl rfl) (rv1 H rfl rfl) (rv1 H rfl rfl) hM H rfl
      · refine dalt (i := 3) rfl ?_
        have hR := hR.next (i := 3) (by kernel_rfl)
        refine step_store A H rfl rfl rfl rfl rfl rfl ?_; intro w H
        refine wpList_nil ?_
        clear hS; refine and_keep (H.sw hL) fun hS => ?_
        refine draws_all hR (rs := [2, 4]) (by kernel_rfl) (by decide) ?_
        simp only [List.mem_cons, List.not_mem_nil, or_false, forall_eq_or_imp, forall_eq]
        refine ⟨?_, ?_⟩
        · refine dalt (i := 2) rfl ?_
          have hR := hR.next (i := 2) (by kernel_rfl)
          refine step (Runs.ld1 A H rfl rfl) A rfl ?_; clear A a; intro a A
          refine wpList_nil ?_
          clear hS; refine and_keep (H.sw hL) fun hS => ?_
          refine dlist hR (i := 4) rfl (by kernel_rfl) ?_
          have hR := hR.next (i := 4) (by kernel_rfl)
          refine step_store A H rfl rfl rfl rfl rfl rfl ?_; intro w H
          refine wpList_nil ?_
          clear hS; refine and_keep (H.sw hL) fun hS => ?_
          refine dlist hR (i := 5) rfl (by kernel_rfl) ?_
          have hR := hR.next (i := 5) (by kernel_rfl)
          refine step_store A H rfl rfl rfl rfl rfl rfl ?_; intro w H
          refine wpList_nil ?_
          refine and_last (by kernel_rfl) ?_
          refine draw_done hR (by kernel_rfl) ?_
          clear hS hL hR
          refine wp_ret ?_
          exact retR3 A rfl (rvN H rfl rfl) (rv1 H rfl rfl) (rv1 H rfl rfl) hM H rfl
        · refine dalt (i := 4) rfl ?_
          have hR := hR.next (i := 4) (by kernel_rfl)
          refine step_store A H rfl rfl rfl rfl rfl rfl ?_; intro w H
          refine wpList_nil ?_
          clear hS; refine and_keep (H.sw hL) fun hS => ?_
          refine dlist hR (i := 2) rfl (by kernel_rfl) ?_
          have hR := hR.next (i := 2) (by kernel_rfl)
          refine step (Runs.ld1 A H rfl rfl) A rfl ?_; clear A a; intro a A
          refine wpList_nil ?_
          clear hS; refine and_keep (H.sw hL) fun hS => ?_
          refine dlist hR (i := 5) rfl (by kernel_rfl) ?_
          have hR := hR.next (i := 5) (by kernel_rfl)
          refine step_store A H rfl rfl rfl rfl rfl rfl ?_; intro w H
          refine wpList_nil ?_
          refine and_last (by kernel_rfl) ?_
          refine draw_done hR (by kernel_rfl) ?_
          clear hS hL hR
          refine wp_ret ?_
          exact retR3 A rfl (rvN H rfl rfl) (rv1 H rfl rfl) (rv1 H rfl rfl) hM H rfl
    · refine dalt (i := 2) rfl ?_
      have hR := hR.next (i := 2) (by kernel_rfl)
      refine step (Runs.ld1 A H rfl rfl) A rfl ?_; clear A a; intro a A
      refine wpList_nil ?_
      clear hS; refine and_keep (H.sw hL) fun hS => ?_
      refine draws_all hR (rs := [1, 3]) (by kernel_rfl) (by decide) ?_
      simp only [List.mem_cons, List.not_mem_nil, or_false, forall_eq_or_imp, forall_eq]
      refine ⟨?_, ?_⟩
      · refine dalt (i := 1) rfl ?_
        have hR := hR.next (i := 1) (by kernel_rfl)
        refine step (Runs.ld1 A H rfl rfl) A rfl ?_; clear A a; intro a A
        refine wpList_nil ?_
        clear hS; refine and_keep (H.sw hL) fun hS => ?_
        refine dlist hR (i := 3) rfl (by kernel_rfl) ?_
        have hR := hR.next (i := 3) (by kernel_rfl)
        refine step_store A H rfl rfl rfl rfl rfl rfl ?_; intro w H
        refine wpList_nil ?_
        clear hS; refine and_keep (H.sw hL) fun hS => ?_
        refine dlist hR (i := 4) rfl (by kernel_rfl) ?_
        have hR := hR.next (i := 4) (by kernel_rfl)
        refine step_store A H rfl rfl rfl rfl rfl rfl ?_; intro w H
        refine wpList_nil ?_
        clear hS; refine and_keep (H.sw hL) fun hS => ?_
        refine dlist hR (i := 5) rfl (by kernel_rfl) ?_
        have hR := hR.next (i := 5) (by kernel_rfl)
        refine step_store A H rfl rfl rfl rfl rfl rfl ?_; intro w H
        refine wpList_nil ?_
        refine and_last (by kernel_rfl) ?_
        refine draw_done hR (by kernel_rfl) ?_
        clear hS hL hR
        refine wp_ret ?_
        exact retR3 A rfl (rvN H rfl rfl) (rv1 H rfl rfl) (rv1 H rfl rfl) hM H rfl
      · refine dalt (i := 3) rfl ?_
        have hR := hR.next (i := 3) (by kernel_rfl)
        refine step_store A H rfl rfl rfl rfl rfl rfl ?_; intro w H
        refine wpList_nil ?_
        clear hS; refine and_keep (H.sw hL) fun hS => ?_
        refine dlist hR (i := 1) rfl (by kernel_rfl) ?_
        have hR := hR.next (i := 1) (by kernel_rfl)
        refine step (Runs.ld1 A H rfl rfl) A rfl ?_; clear A a; intro a A
        refine wpList_nil ?_
        clear hS; refine and_keep (H.sw hL) fun hS => ?_
        refine dlist hR (i := 4) rfl (by kernel_rfl) ?_
        have hR := hR.next (i := 4) (by kernel_rfl)
        refine step_store A H rfl rfl rfl rfl rfl rfl ?_; intro w H
        refine wpList_nil ?_
        clear hS; refine and_keep (H.sw hL) fun hS => ?_
        refine dlist hR (i := 5) rfl (by kernel_rfl) ?_
        have hR := hR.next (i := 5) (by kernel_rfl)
        refine step_store A H rfl rfl rfl rfl rfl rfl ?_; intro w H
        refine wpList_nil ?_
        refine and_last (by kernel_rfl) ?_
        refine draw_done hR (by kernel_rfl) ?_
        clear hS hL hR
        refine wp_ret ?_
        exact retR3 A rfl (rvN H rfl rfl) (rv1 H rfl rfl) (rv1 H rfl rfl) hM H rfl
    · refine dalt (i := 3) rfl ?_
      have hR := hR.next (i := 3) (by kernel_rfl)
      refine step_store A H rfl rfl rfl rfl rfl rfl ?_; intro w H
      refine wpList_nil ?_
      clear hS; refine and_keep (H.sw hL) fun hS => ?_
      refine draws_all hR (rs := [1, 2]) (by kernel_rfl) (by decide) ?_
      simp only [List.mem_cons, List.not_mem_nil, or_false, forall_eq_or_imp, forall_eq]
      refine ⟨?_, ?_⟩
      · refine dalt (i := 1) rfl ?_
        have hR := hR.next (i := 1) (by kernel_rfl)
        refine step (Runs.ld1 A H rfl rfl) A rfl ?_; clear A a; intro a A
        refine wpList_nil ?_
        clear hS; refine and_keep (H.sw hL) fun hS => ?_
        refine draws_all hR (rs := [2, 4]) (by kernel_rfl) (by decide) ?_
        simp only [List.mem_cons, List.not_mem_nil, or_false, forall_eq_or_imp, forall_eq]
        refine ⟨?_, ?_⟩
        · refine dalt (i := 2) rfl ?_
          have hR := hR.next (i := 2) (by kernel_rfl)
          refine step (Runs.ld1 A H rfl rfl) A rfl ?_; clear A a; intro a A
          refine wpList_nil ?_
          clear hS; refine and_keep (H.sw hL) fun hS => ?_
          refine dlist hR (i := 4) rfl (by kernel_rfl) ?_
          have hR := hR.next (i := 4) (by kernel_rfl)
          refine step_store A H rfl rfl rfl rfl rfl rfl ?_; intro w H
          refine wpList_nil ?_
          clear hS; refine and_keep (H.sw hL) fun hS => ?_
          refine dlist hR (i := 5) rfl (by kernel_rfl) ?_
          have hR := hR.next (i := 5) (by kernel_rfl)
          refine step_store A H rfl rfl rfl rfl rfl rfl ?_; intro w H
          refine wpList_nil ?_
          refine and_last (by kernel_rfl) ?_
          refine draw_done hR (by kernel_rfl) ?_
          clear hS hL hR
          refine wp_ret ?_
          exact retR3 A rfl (rvN H rfl rfl) (rv1 H rfl rfl) (rv1 H rfl rfl) hM H rfl
        · refine dalt (i := 4) rfl ?_
          have hR := hR.next (i := 4) (by kernel_rfl)
          refine step_store A H rfl rfl rfl rfl rfl rfl ?_; intro w H
          refine wpList_nil ?_
          clear hS; refine and_keep (H.sw hL) fun hS => ?_
          refine dlist hR (i := 2) rfl (by kernel_rfl) ?_
          have hR := hR.next (i := 2) (by kernel_rfl)
          refine step (Runs.ld1 A H rfl rfl) A rfl ?_; clear A a; intro a A
          refine wpList_nil ?_
          clear hS; refine and_keep (H.sw hL) fun hS => ?_
          refine dlist hR (i := 5) rfl (by kernel_rfl) ?_
          have hR := hR.next (i := 5) (by kernel_rfl)
          refine step_store A H rfl rfl rfl rfl rfl rfl ?_; intro w H
          refine wpList_nil ?_
          refine and_last (by kernel_rfl) ?_
          refine draw_done hR (by kernel_rfl) ?_
          clear hS hL hR
          refine wp_ret ?_
          exact retR3 A rfl (rvN H rfl rfl) (rv1 H rfl rfl) (rv1 H rfl rfl) hM H rfl
      · refine dalt (i := 2) rfl ?_
        have hR := hR.next (i := 2) (by kernel_rfl)
        refine step (Runs.ld1 A H rfl rfl) A rfl ?_; clear A a; intro a A
        refine wpList_nil ?_
        clear hS; refine and_keep (H.sw hL) fun hS => ?_
        refine dlist hR (i := 1) rfl (by kernel_rfl) ?_
        have hR := hR.next (i := 1) (by kernel_rfl)
        refine step (Runs.ld1 A H rfl rfl) A rfl ?_; clear A a; intro a A
        refine wpList_nil ?_
        clear hS; refine and_keep (H.sw hL) fun hS => ?_
        refine dlist hR (i := 4) rfl (by kernel_rfl) ?_
        have hR := hR.next (i := 4) (by kernel_rfl)
        refine step_store A H rfl rfl rfl rfl rfl rfl ?_; intro w H
        refine wpList_nil ?_
        clear hS; refine and_keep (H.sw hL) fun hS => ?_
        refine dlist hR (i := 5) rfl (by kernel_rfl) ?_
        have hR := hR.next (i := 5) (by kernel_rfl)
        refine step_store A H rfl rfl rfl rfl rfl rfl ?_; intro w H
        refine wpList_nil ?_
        refine and_last (by kernel_rfl) ?_
        refine draw_done hR (by kernel_rfl) ?_
        clear hS hL hR
        refine wp_ret ?_
        exact retR3 A rfl (rvN H rfl rfl) (rv1 H rfl rfl) (rv1 H rfl rfl) hM H rfl

theorem c_Load_lex {ad : Option Addr} {n c : Nat} {l : List Obj} {id : UInt64} {m : Mem} (G : Glob m) (hl : Objs m ad n c l) (hb : n ≤ 1100000) (hs : Srt l) (hnl : ∀ d, getP l id = some d → ∃ pe, lexAll ⟨d.toArray⟩ = .error pe) : Spec Tryz.prog 54 #[.slice ad n c, u64 id] m [] (RetE (.tuple #[.agg #[.slice none 0 0], .int .i64 180])) := by
  refine Spec.enter0 Tryz.func54 rfl 47 Tryz.ntmps54 rfl fun a w0 Lf A H => ?_
  have hM := Le.refl m
  refine wp_seq ?_
  refine wp_region_lit ?_
  refine step_alloc A H rfl ?_; clear A a; intro b1 a w A H
  refine step (Runs.assign A rfl) A rfl ?_; clear A a; intro a A
  refine wpList_nil ?_
  refine wp_seq ?_
  refine wp_region_lit ?_
  refine step (Runs.move A rfl) A rfl ?_; clear A a; intro a A
  refine step (Runs.move A rfl) A rfl ?_; clear A a; intro a A
  refine step_callF A rfl rfl (c_objects_Get hl (by omega) hs) H ?_
  rintro v1_2 a w m hm hget A H
  have hM := hM.trans hm
  have hl := hl.mono hm
  have G := G.mono hm
  rcases hgp : getP l id with _ | d <;> simp only [hgp] at hget
  · subst hget
    refine step (Runs.move A rfl) A rfl ?_; clear A a; intro a A
    refine step (Runs.extract A rfl rfl) A rfl ?_; clear A a; intro a A
    refine step (Runs.extract A rfl rfl) A rfl ?_; clear A a; intro a A
    refine step (Runs.assign A rfl) A rfl ?_; clear A a; intro a A
    refine step (Runs.assign A rfl) A rfl ?_; clear A a; intro a A
    refine wpList_nil ?_
    refine wp_seq ?_
    refine wp_seq ?_
    refine wp_region_lit ?_
    refine step (Runs.move A rfl) A rfl ?_; clear A a; intro a A
    refine step (Runs.neq A rfl rfl) A rfl ?_; clear A a; intro a A
    refine wpList_nil ?_
    refine cond_true A rfl rfl ?_
    refine wp_seq ?_
    refine wp_region_lit ?_
    refine step (Runs.build A rfl rfl rfl) A rfl ?_; clear A a; intro a A
    refine step (Runs.move A rfl) A rfl ?_; clear A a; intro a A
    refine step_store A H rfl rfl rfl rfl rfl rfl ?_; intro w H
    refine step (Runs.assign A rfl) A rfl ?_; clear A a; intro a A
    refine wpList_nil ?_
    refine wp_ret ?_
    exact retR2 A rfl (rvN H rfl rfl) rfl hM H rfl
  · obtain ⟨u, rfl, hdu⟩ := hget
    obtain ⟨pe, hlx⟩ := hnl _ hgp
    have hne := lexAll_err hlx
    have hdl : d.length ≤ 1000000000 := by obtain ⟨_, _, _, _, hS, hh⟩ := hdu; rw [hS.len8]; exact hh
    refine step (Runs.move A rfl) A rfl ?_; clear A a; intro a A
    refine step (Runs.extract A rfl rfl) A rfl ?_; clear A a; intro a A
    refine step (Runs.extract A rfl rfl) A rfl ?_; clear A a; intro a A
    refine step (Runs.assign A rfl) A rfl ?_; clear A a; intro a A
    refine step (Runs.assign A rfl) A rfl ?_; clear A a; intro a A
    refine wpList_nil ?_
    refine wp_seq ?_
    refine wp_seq ?_
    refine wp_region_lit ?_
    refine step (Runs.move A rfl) A rfl ?_; clear A a; intro a A
    refine step (Runs.neq A rfl rfl) A rfl ?_; clear A a; intro a A
    refine wpList_nil ?_
    refine cond_false A rfl rfl ?_
    refine wp_skip ?_
    refine wp_seq ?_
    refine wp_region_lit ?_
    refine step (Runs.move A rfl) A rfl ?_; clear A a; intro a A
    refine step (Runs.bytesStr A H rfl hdu) A rfl ?_; clear A a; intro a A
    refine step_callF A rfl rfl (c_Parse_lex G (by show Array.size _ ≤ _; rw [List.size_toArray]; omega) hlx) H ?_
    rintro v4_2 a w m hm rfl A H
    have hM := hM.trans hm
    have hl := hl.mono hm
    have G := G.mono hm
    refine step (Runs.move A rfl) A rfl ?_; clear A a; intro a A
    refine step (Runs.extract A rfl rfl) A rfl ?_; clear A a; intro a A
    refine step (Runs.extract A rfl rfl) A rfl ?_; clear A a; intro a A
    refine step (Runs.extract A rfl rfl) A rfl ?_; clear A a; intro a A
    refine step_alloc A H rfl ?_; clear A a; intro b2 a w A H
    refine step_store A H rfl rfl rfl rfl rfl rfl ?_; intro w H
    refine step (Runs.assign A rfl) A rfl ?_; clear A a; intro a A
    refine step (Runs.assign A rfl) A rfl ?_; clear A a; intro a A
    refine wpList_nil ?_
    refine wp_seq ?_
    refine wp_seq ?_
    refine wp_region_lit ?_
    refine step (Runs.move A rfl) A rfl ?_; clear A a; intro a A
    refine step (Runs.neq A rfl rfl) A rfl ?_; clear A a; intro a A
    refine wpList_nil ?_
    refine cond_true A rfl (decide_eq_true hne) ?_
    refine wp_seq ?_
    refine wp_region_lit ?_
    refine step (Runs.build A rfl rfl rfl) A rfl ?_; clear A a; intro a A
    refine step_store A H rfl rfl rfl rfl rfl rfl ?_; intro w H
    refine step (Runs.assign A rfl) A rfl ?_; clear A a; intro a A
    refine wpList_nil ?_
    refine wp_ret ?_
    exact retR2 A rfl (rvN H rfl rfl) rfl hM H rfl

theorem c_load_lex {ad : Option Addr} {n c : Nat} {l : List Obj} {id : UInt64} {m : Mem} (G : Glob m) (hl : Objs m ad n c l) (hb : n ≤ 1100000) (hs : Srt l) (hnl : ∀ d, getP l id = some d → ∃ pe, lexAll ⟨d.toArray⟩ = .error pe) : Spec Tryz.prog 29 #[.slice ad n c, u64 id] m [] (RetE (.agg #[.slice none 0 0, .int .i64 180])) := by
  refine Spec.enter0 Tryz.func29 rfl 16 Tryz.ntmps29 rfl fun a w0 Lf A H => ?_
  have hM := Le.refl m
  refine wp_seq ?_
  refine wp_region_lit ?_
  refine step_alloc A H rfl ?_; clear A a; intro b1 a w A H
  refine wpList_nil ?_
  refine wp_seq ?_
  refine wp_region_lit ?_
  refine step (Runs.move A rfl) A rfl ?_; clear A a; intro a A
  refine step (Runs.move A rfl) A rfl ?_; clear A a; intro a A
  refine step_callF A rfl rfl (c_Load_lex G hl (by omega) hs hnl) H ?_
  rintro v1_2 a w m hm rfl A H
  have hM := hM.trans hm
  have hl := hl.mono hm
  have G := G.mono hm
  refine step (Runs.move A rfl) A rfl ?_; clear A a; intro a A
  refine step (Runs.extract A rfl rfl) A rfl ?_; clear A a; intro a A
  refine step (Runs.extract A rfl rfl) A rfl ?_; clear A a; intro a A
  refine step_alloc A H rfl ?_; clear A a; intro b2 a w A H
  refine step_store A H rfl rfl rfl rfl rfl rfl ?_; intro w H
  refine step (Runs.assign A rfl) A rfl ?_; clear A a; intro a A
  refine wpList_nil ?_
  refine wp_seq ?_
  refine wp_region_lit ?_
  refine step (Runs.ldN A H rfl rfl) A rfl ?_; clear A a; intro a A
  refine step (Runs.move A rfl) A rfl ?_; clear A a; intro a A
  refine step (Runs.build A rfl rfl rfl) A rfl ?_; clear A a; intro a A
  refine step_store A H rfl rfl rfl rfl rfl rfl ?_; intro w H
  refine wpList_nil ?_
  refine wp_ret ?_
  exact retFc A rfl rfl hM H rfl rfl
end Sl
end Go.Proofs.YtanhehbfbakdcaaGreatDoor
