/- The law's own examples: walk, printed by my gen.py out of annotations. -/
import Derived.Test.YtanhehbfbakdcaaGreatDoorLawB
set_option linter.unusedSimpArgs false
set_option linter.unusedVariables false
namespace Go.Proofs.YtanhehbfbakdcaaGreatDoor
namespace Sl
open Go

abbrev d12 : UInt64 := dig [1, 2]
def zMod : PMod := ⟨⟨#[]⟩, ⟨#[]⟩, [], []⟩
theorem srt_nil : Srt [] := List.Pairwise.nil
theorem srt_one (o : Obj) : Srt [o] := List.pairwise_singleton _ _
theorem ex_put : putP [] [1, 2] = [⟨d12, [1, 2]⟩] := by decide +kernel
theorem ex_get : getP [⟨d12, [1, 2]⟩] d12 = some [1, 2] := by decide +kernel
theorem ex_get0 : getP [] d12 = none := by decide +kernel
theorem ex_getb : getP [⟨d12, [1, 3]⟩] d12 = none := by decide +kernel
theorem ex_dmg : dmgP [⟨d12, [1, 3]⟩] = [d12] := by decide +kernel
theorem ex_dmg0 : dmgP [⟨d12, [1, 2]⟩] = [] := by decide +kernel
theorem ex_merge : mergeP [⟨d12, [1, 3]⟩] [⟨d12, [1, 2]⟩] = [⟨d12, [1, 2]⟩] := by decide +kernel
theorem ex_keep : keepP [⟨d12, [1, 2]⟩] [] = [] := by decide +kernel
theorem ex_lex : lexAll ⟨#[1, 2]⟩ = .error (0, 5) := by kernel_rfl
theorem ex_nl : ∀ d, getP [⟨d12, [1, 2]⟩] d12 = some d → ∃ pe, lexAll ⟨d.toArray⟩ = .error pe := fun d h => by
  rw [ex_get] at h; cases h; exact ⟨_, ex_lex⟩
theorem ex_print : printP [zMod] = none := by decide +kernel
theorem ex_sz : szFile [zMod] ≤ 100000000000 := by
  have : szFile [zMod] = 100 := by decide +kernel
  omega
theorem ex_save : saveP [] [zMod] = ([], 0, 90) := by rw [saveP, ex_print]

set_option maxHeartbeats 1100000 in
theorem c_law18_examples {m : Mem} (G : Glob m) : Spec Tryz.prog 9 #[] m [] (RetE (.bool true)) := by
  refine Spec.enter0 Tryz.func9 rfl 104 Tryz.ntmps9 rfl fun a w0 Lf A H => ?_
  have hM := Le.refl m
  refine wp_seq ?_
  refine wp_region_lit ?_
  refine step (Runs.assign A rfl) A rfl ?_; clear A a; intro a A
  refine wpList_nil ?_
  refine wp_seq ?_
  refine wp_region_lit ?_
  refine step_slice A H rfl rfl rfl rfl rfl rfl ?_; intro b1 a w A H
  obtain ⟨m, hm, hS1, H⟩ := (H.row_pt (n := 2) (size := 1) rfl (by decide)).row_freeze
  have hS1 : Slc m 1 (some ⟨b1, 0, none⟩) 2 2 (([1, 2] : List UInt8).map u8) := hS1
  have hM := hM.trans hm
  have G := G.mono hm
  refine step_callF A rfl rfl (c_digest_Bytes hS1 (by decide)) H ?_
  rintro v1_1 a w m hm rfl A H
  have hM := hM.trans hm
  have G := G.mono hm
  have hS1 := hS1.mono hm
  refine step (Runs.assign A rfl) A rfl ?_; clear A a; intro a A
  refine wpList_nil ?_
  refine wp_seq ?_
  refine wp_region_lit ?_
  refine step_slice A H rfl rfl rfl rfl rfl rfl ?_; intro b2 a w A H
  obtain ⟨m, hm, hS2, H⟩ := (H.row_pt (n := 2) (size := 1) rfl (by decide)).row_freeze
  have hS2 : Slc m 1 (some ⟨b2, 0, none⟩) 2 2 (([1, 2] : List UInt8).map u8) := hS2
  have hM := hM.trans hm
  have G := G.mono hm
  have hS1 := hS1.mono hm
  refine step_callF A rfl rfl (c_wireloomlaw18_put (Objs.nil m) (by decide) srt_nil ⟨_, _, _, rfl, hS2, by decide⟩) H ?_
  rintro v2_1 a w m hm ⟨adp, cp, rfl, hput⟩ A H
  have hM := hM.trans hm
  have G := G.mono hm
  have hS1 := hS1.mono hm
  have hS2 := hS2.mono hm
  rw [ex_put] at hput A
  refine step_alloc A H rfl ?_; clear A a; intro bs a w A H
  refine step_store A H rfl rfl rfl rfl rfl rfl ?_; intro w H
  refine wpList_nil ?_
  refine wp_seq ?_
  refine wp_seq ?_
  refine wp_region_lit ?_
  refine step (Runs.fa A rfl) A rfl ?_; clear A a; intro a A
  refine step (Runs.ld1 A H rfl rfl) A rfl ?_; clear A a; intro a A
  refine step (Runs.move A rfl) A rfl ?_; clear A a; intro a A
  refine step (Runs.neq A rfl rfl) A rfl ?_; clear A a; intro a A
  refine step (Runs.move A rfl) A rfl ?_; clear A a; intro a A
  refine stepG (dj := 12) rfl rfl (decide_eq_false fun h => h rfl) (Runs.fa A rfl) A rfl ?_; clear A a; intro a A
  refine stepG (dj := 12) rfl rfl (decide_eq_false fun h => h rfl) (Runs.ld1 A H rfl rfl) A rfl ?_; clear A a; intro a A
  refine stepG (dj := 12) rfl rfl (decide_eq_false fun h => h rfl) (Runs.move A rfl) A rfl ?_; clear A a; intro a A
  refine unguard (dj := 12) rfl rfl (decide_eq_false fun h => h rfl) A ?_
  refine step_slice A H rfl rfl rfl rfl rfl rfl ?_; intro b3 a w A H
  obtain ⟨m, hm, hS3, H⟩ := (H.row_pt (n := 2) (size := 1) rfl (by decide)).row_freeze
  have hS3 : Slc m 1 (some ⟨b3, 0, none⟩) 2 2 (([1, 2] : List UInt8).map u8) := hS3
  have hM := hM.trans hm
  have G := G.mono hm
  have hS1 := hS1.mono hm
  have hS2 := hS2.mono hm
  have hput := hput.mono hm
  refine stepG (dj := 12) rfl rfl (decide_eq_false fun h => h rfl) (Runs.build A rfl rfl rfl) A rfl ?_; clear A a; intro a A
  refine unguard (dj := 12) rfl rfl (decide_eq_false fun h => h rfl) A ?_
  refine step_slice A H rfl rfl rfl rfl rfl rfl ?_; intro b4 a w A H
  obtain ⟨m, hm, hSx, H⟩ := (H.row_pt (n := 1) (size := 2) rfl (by decide)).row_freeze
  have hM := hM.trans hm
  have G := G.mono hm
  have hS1 := hS1.mono hm
  have hS2 := hS2.mono hm
  have hput := hput.mono hm
  have hS3 := hS3.mono hm
  have hO4 : Objs m (some ⟨b4, 0, none⟩) 1 1 [⟨d12, [1, 2]⟩] := ⟨rfl, _, hSx, rfl, ⟨_, _, _, rfl, hS3, by decide⟩, trivial⟩
  refine step_callFG (dj := 12) rfl rfl (decide_eq_false fun h => h rfl) A rfl rfl (c_wireloomref18_Same hput hO4) H ?_
  rintro v3_11 a w m hm rfl A H
  have hM := hM.trans hm
  have G := G.mono hm
  have hS1 := hS1.mono hm
  have hS2 := hS2.mono hm
  have hput := hput.mono hm
  have hS3 := hS3.mono hm
  have hO4 := hO4.mono hm
  refine stepG (dj := 12) rfl rfl (decide_eq_false fun h => h rfl) (Runs.not A rfl) A rfl ?_; clear A a; intro a A
  refine step (Runs.pickF A rfl (decide_eq_false fun h => h rfl) rfl) A rfl ?_; clear A a; intro a A
  refine step (Runs.move A rfl) A rfl ?_; clear A a; intro a A
  refine stepG (dj := 22) rfl rfl (notT (decide_eq_true rfl)) (Runs.fa A rfl) A rfl ?_; clear A a; intro a A
  refine stepG (dj := 22) rfl rfl (notT (decide_eq_true rfl)) (Runs.ld1 A H rfl rfl) A rfl ?_; clear A a; intro a A
  refine stepG (dj := 22) rfl rfl (notT (decide_eq_true rfl)) (Runs.move A rfl) A rfl ?_; clear A a; intro a A
  refine step_callFG (dj := 22) rfl rfl (notT (decide_eq_true rfl)) A rfl rfl (c_wireloomlaw18_get hput (by decide) (srt_one _)) H ?_
  rintro v3_18 a w m hm hget A H
  have hM := hM.trans hm
  have G := G.mono hm
  have hS1 := hS1.mono hm
  have hS2 := hS2.mono hm
  have hput := hput.mono hm
  have hS3 := hS3.mono hm
  have hO4 := hO4.mono hm
  simp only [ex_get] at hget
  obtain ⟨u1, rfl, hdu⟩ := hget
  refine unguard (dj := 22) rfl rfl (notT (decide_eq_true rfl)) A ?_
  refine step_slice A H rfl rfl rfl rfl rfl rfl ?_; intro b5 a w A H
  obtain ⟨m, hm, hS5, H⟩ := (H.row_pt (n := 2) (size := 1) rfl (by decide)).row_freeze
  have hS5 : Slc m 1 (some ⟨b5, 0, none⟩) 2 2 (([1, 2] : List UInt8).map u8) := hS5
  have hM := hM.trans hm
  have G := G.mono hm
  have hS1 := hS1.mono hm
  have hS2 := hS2.mono hm
  have hput := hput.mono hm
  have hS3 := hS3.mono hm
  have hO4 := hO4.mono hm
  have hdu := hdu.mono hm
  refine stepG (dj := 22) rfl rfl (notT (decide_eq_true rfl)) (Runs.build A rfl rfl rfl) A rfl ?_; clear A a; intro a A
  refine step_callFG (dj := 22) rfl rfl (notT (decide_eq_true rfl)) A rfl rfl (c_law18_same hdu ⟨_, _, _, rfl, hS5, by decide⟩) H ?_
  rintro v3_21 a w m hm rfl A H
  have hM := hM.trans hm
  have G := G.mono hm
  have hS1 := hS1.mono hm
  have hS2 := hS2.mono hm
  have hput := hput.mono hm
  have hS3 := hS3.mono hm
  have hO4 := hO4.mono hm
  have hdu := hdu.mono hm
  have hS5 := hS5.mono hm
  refine stepG (dj := 22) rfl rfl (notT (decide_eq_true rfl)) (Runs.not A rfl) A rfl ?_; clear A a; intro a A
  refine step (Runs.pickF A rfl (notT (decide_eq_true rfl)) rfl) A rfl ?_; clear A a; intro a A
  refine step (Runs.move A rfl) A rfl ?_; clear A a; intro a A
  refine stepG (dj := 32) rfl rfl (notT (decide_eq_true ⟨rfl, rfl⟩)) (Runs.move A rfl) A rfl ?_; clear A a; intro a A
  refine step_callFG (dj := 32) rfl rfl (notT (decide_eq_true ⟨rfl, rfl⟩)) A rfl rfl (c_wireloomlaw18_get (Objs.nil m) (by decide) srt_nil) H ?_
  rintro v3_26 a w m hm hget A H
  have hM := hM.trans hm
  have G := G.mono hm
  have hS1 := hS1.mono hm
  have hS2 := hS2.mono hm
  have hput := hput.mono hm
  have hS3 := hS3.mono hm
  have hO4 := hO4.mono hm
  have hdu := hdu.mono hm
  have hS5 := hS5.mono hm
  simp only [ex_get0] at hget
  subst hget
  refine stepG (dj := 32) rfl rfl (notT (decide_eq_true ⟨rfl, rfl⟩)) (Runs.field1 (ty := 40) A rfl FldC.h (by kernel_rfl) TyC.h rfl) A rfl ?_; clear A a; intro a A
  refine stepG (dj := 32) rfl rfl (notT (decide_eq_true ⟨rfl, rfl⟩)) (Runs.neq A rfl rfl) A rfl ?_; clear A a; intro a A
  refine step (Runs.pickF A rfl (notT (decide_eq_true ⟨rfl, rfl⟩)) rfl) A rfl ?_; clear A a; intro a A
  refine wpList_nil ?_
  refine cond_false A rfl (decide_eq_false fun h => h rfl) ?_
  refine wp_skip ?_
  refine wp_seq ?_
  refine wp_region_lit ?_
  refine step (Runs.move A rfl) A rfl ?_; clear A a; intro a A
  refine step_slice A H rfl rfl rfl rfl rfl rfl ?_; intro b6 a w A H
  obtain ⟨m, hm, hS6, H⟩ := (H.row_pt (n := 2) (size := 1) rfl (by decide)).row_freeze
  have hS6 : Slc m 1 (some ⟨b6, 0, none⟩) 2 2 (([1, 3] : List UInt8).map u8) := hS6
  have hM := hM.trans hm
  have G := G.mono hm
  have hS1 := hS1.mono hm
  have hS2 := hS2.mono hm
  have hput := hput.mono hm
  have hS3 := hS3.mono hm
  have hO4 := hO4.mono hm
  have hdu := hdu.mono hm
  have hS5 := hS5.mono hm
  refine step (Runs.build A rfl rfl rfl) A rfl ?_; clear A a; intro a A
  refine step_slice A H rfl rfl rfl rfl rfl rfl ?_; intro b7 a w A H
  obtain ⟨m, hm, hSx, H⟩ := (H.row_pt (n := 1) (size := 2) rfl (by decide)).row_freeze
  have hM := hM.trans hm
  have G := G.mono hm
  have hS1 := hS1.mono hm
  have hS2 := hS2.mono hm
  have hput := hput.mono hm
  have hS3 := hS3.mono hm
  have hO4 := hO4.mono hm
  have hdu := hdu.mono hm
  have hS5 := hS5.mono hm
  have hS6 := hS6.mono hm
  have hO7 : Objs m (some ⟨b7, 0, none⟩) 1 1 [⟨d12, [1, 3]⟩] := ⟨rfl, _, hSx, rfl, ⟨_, _, _, rfl, hS6, by decide⟩, trivial⟩
  refine step (Runs.assign A rfl) A rfl ?_; clear A a; intro a A
  refine wpList_nil ?_
  refine wp_seq ?_
  refine draw_begin (ms := m) (Ls := [pt bs [.slice adp ([⟨d12, [1, 2]⟩] : List Obj).length cp, u64 d12, .int .i64 0] 42]) (by kernel_rfl) (N := 63) rfl (by kernel_rfl) H ?_; clear H; intro w H hR
  have hS : SW m [pt bs [.slice adp ([⟨d12, [1, 2]⟩] : List Obj).length cp, u64 d12, .int .i64 0] 42] w := H.sw (Le.refl m)
  have hL := Le.refl m
  refine dstep hR (i := 0) rfl (by kernel_rfl) (fun _ _ _ h => h) (fun _ _ H' => (Runs.move A rfl)) A rfl hS ?_; clear A a hR; intro a A hR
  refine dstep hR (i := 1) rfl (by kernel_rfl) (fun _ _ _ h => h) (fun _ _ H' => (Runs.move A rfl)) A rfl hS ?_; clear A a hR; intro a A hR
  refine dlist hR (i := 2) rfl (by kernel_rfl) ?_
  have hR := hR.next (i := 2) (by kernel_rfl)
  refine step_callF A rfl rfl (c_wireloomlaw18_get hO7 (by decide) (srt_one _)) H ?_
  rintro v6_2 a w m hm hget A H
  have hM := hM.trans hm
  have G := G.mono hm
  have hS1 := hS1.mono hm
  have hS2 := hS2.mono hm
  have hput := hput.mono hm
  have hS3 := hS3.mono hm
  have hO4 := hO4.mono hm
  have hdu := hdu.mono hm
  have hS5 := hS5.mono hm
  have hS6 := hS6.mono hm
  have hO7 := hO7.mono hm
  simp only [ex_getb] at hget
  subst hget
  have hL := hL.trans hm
  refine wpList_nil ?_
  clear hS; refine and_keep (H.sw hL) fun hS => ?_
  refine dstep hR (i := 3) rfl (by kernel_rfl) (fun _ _ _ h => h) (fun _ _ H' => (Runs.field1 (ty := 40) A rfl FldC.h (by kernel_rfl) TyC.h rfl)) A rfl hS ?_; clear A a hR; intro a A hR
  refine dstep hR (i := 4) rfl (by kernel_rfl) (fun _ _ _ h => h) (fun _ _ H' => (Runs.eql A rfl rfl)) A rfl hS ?_; clear A a hR; intro a A hR
  refine dstep hR (i := 5) rfl (by kernel_rfl) (fun _ _ _ h => h) (fun _ _ H' => (Runs.move A rfl)) A rfl hS ?_; clear A a hR; intro a A hR
  refine dstepG hR (i := 6) (dj := 47) rfl (by kernel_rfl) (fun _ _ _ h => h) rfl rfl (decide_eq_true rfl) (fun _ _ H' => (Runs.move A rfl)) A rfl hS ?_; clear A a hR; intro a A hR
  refine dstepG hR (i := 8) (dj := 47) rfl (by kernel_rfl) (fun _ _ _ h => h) rfl rfl (decide_eq_true rfl) (fun _ _ H' => (Runs.move A rfl)) A rfl hS ?_; clear A a hR; intro a A hR
  refine draws_all hR (rs := [7, 9]) (by kernel_rfl) (by decide) ?_
  simp only [List.mem_cons, List.not_mem_nil, or_false, forall_eq_or_imp, forall_eq]
  refine ⟨?_, ?_⟩
  · refine dalt (i := 7) rfl ?_
    have hR := hR.next (i := 7) (by kernel_rfl)
    refine step_callFG (dj := 47) rfl rfl (decide_eq_true rfl) A rfl rfl (c_objects_Damaged hO7 (by decide)) H ?_
    rintro v6_7 a w m hm ⟨adw, cw, rfl, hw⟩ A H
    have hM := hM.trans hm
    have G := G.mono hm
    have hS1 := hS1.mono hm
    have hS2 := hS2.mono hm
    have hput := hput.mono hm
    have hS3 := hS3.mono hm
    have hO4 := hO4.mono hm
    have hdu := hdu.mono hm
    have hS5 := hS5.mono hm
    have hS6 := hS6.mono hm
    have hO7 := hO7.mono hm
    rw [ex_dmg] at hw A
    have hL := hL.trans hm
    refine wpList_nil ?_
    clear hS; refine and_keep (H.sw hL) fun hS => ?_
    refine dlist hR (i := 9) rfl (by kernel_rfl) ?_
    have hR := hR.next (i := 9) (by kernel_rfl)
    refine unguard (dj := 47) rfl rfl (decide_eq_true rfl) A ?_
    refine step_slice A H rfl rfl rfl rfl rfl rfl ?_; intro b8 a w A H
    obtain ⟨m, hm, hW8, H⟩ := (H.row_pt (n := 1) (size := 1) rfl (by decide)).row_freeze
    have hW8 : Ws m (some ⟨b8, 0, none⟩) 1 1 [d12] := hW8
    have hM := hM.trans hm
    have G := G.mono hm
    have hS1 := hS1.mono hm
    have hS2 := hS2.mono hm
    have hput := hput.mono hm
    have hS3 := hS3.mono hm
    have hO4 := hO4.mono hm
    have hdu := hdu.mono hm
    have hS5 := hS5.mono hm
    have hS6 := hS6.mono hm
    have hO7 := hO7.mono hm
    have hw := hw.mono hm
    have hL := hL.trans hm
    refine wpList_nil ?_
    clear hS; refine and_keep (H.sw hL) fun hS => ?_
    refine dlist hR (i := 10) rfl (by kernel_rfl) ?_
    have hR := hR.next (i := 10) (by kernel_rfl)
    refine step_callFG (dj := 47) rfl rfl (decide_eq_true rfl) A rfl rfl (c_wireloomref01_Same hw hW8) H ?_
    rintro v6_10 a w m hm rfl A H
    have hM := hM.trans hm
    have G := G.mono hm
    have hS1 := hS1.mono hm
    have hS2 := hS2.mono hm
    have hput := hput.mono hm
    have hS3 := hS3.mono hm
    have hO4 := hO4.mono hm
    have hdu := hdu.mono hm
    have hS5 := hS5.mono hm
    have hS6 := hS6.mono hm
    have hO7 := hO7.mono hm
    have hw := hw.mono hm
    have hW8 := hW8.mono hm
    have hL := hL.trans hm
    refine wpList_nil ?_
    clear hS; refine and_keep (H.sw hL) fun hS => ?_
    refine dstep hR (i := 11) rfl (by kernel_rfl) (fun _ _ _ h => h) (fun _ _ H' => (Runs.pickT A rfl (decide_eq_true rfl) rfl)) A rfl hS ?_; clear A a hR; intro a A hR
    refine dstep hR (i := 12) rfl (by kernel_rfl) (fun _ _ _ h => h) (fun _ _ H' => (Runs.move A rfl)) A rfl hS ?_; clear A a hR; intro a A hR
    refine dstepG hR (i := 13) (dj := 54) rfl (by kernel_rfl) (fun _ _ _ h => h) rfl rfl (decide_eq_true rfl) (fun _ _ H' => (Runs.fa A rfl)) A rfl hS ?_; clear A a hR; intro a A hR
    refine dstepG hR (i := 14) (dj := 54) rfl (by kernel_rfl) (fun _ _ _ h => h) rfl rfl (decide_eq_true rfl) (fun _ _ H' => (Runs.ld1 A H' rfl rfl)) A rfl hS ?_; clear A a hR; intro a A hR
    refine dlist hR (i := 15) rfl (by kernel_rfl) ?_
    have hR := hR.next (i := 15) (by kernel_rfl)
    refine step_callFG (dj := 54) rfl rfl (decide_eq_true rfl) A rfl rfl (c_objects_Damaged hput (by decide)) H ?_
    rintro v6_15 a w m hm ⟨adw0, cw0, rfl, hw0⟩ A H
    have hM := hM.trans hm
    have G := G.mono hm
    have hS1 := hS1.mono hm
    have hS2 := hS2.mono hm
    have hput := hput.mono hm
    have hS3 := hS3.mono hm
    have hO4 := hO4.mono hm
    have hdu := hdu.mono hm
    have hS5 := hS5.mono hm
    have hS6 := hS6.mono hm
    have hO7 := hO7.mono hm
    have hw := hw.mono hm
    have hW8 := hW8.mono hm
    rw [ex_dmg0] at hw0 A
    have hL := hL.trans hm
    refine wpList_nil ?_
    clear hS; refine and_keep (H.sw hL) fun hS => ?_
    refine dstepG hR (i := 16) (dj := 54) rfl (by kernel_rfl) (fun _ _ _ h => h) rfl rfl (decide_eq_true rfl) (fun _ _ H' => (Runs.lenL A rfl SlC.h)) A rfl hS ?_; clear A a hR; intro a A hR
    refine dstepG hR (i := 17) (dj := 54) rfl (by kernel_rfl) (fun _ _ _ h => h) rfl rfl (decide_eq_true rfl) (fun _ _ H' => (Runs.eql A rfl rfl)) A rfl hS ?_; clear A a hR; intro a A hR
    refine dstep hR (i := 18) rfl (by kernel_rfl) (fun _ _ _ h => h) (fun _ _ H' => (Runs.pickT A rfl (decide_eq_true rfl) rfl)) A rfl hS ?_; clear A a hR; intro a A hR
    refine dstep hR (i := 19) rfl (by kernel_rfl) (fun _ _ _ h => h) (fun _ _ H' => (Runs.move A rfl)) A rfl hS ?_; clear A a hR; intro a A hR
    refine dstepG hR (i := 20) (dj := 61) rfl (by kernel_rfl) (fun _ _ _ h => h) rfl rfl (decide_eq_true rfl) (fun _ _ H' => (Runs.move A rfl)) A rfl hS ?_; clear A a hR; intro a A hR
    refine dstepG hR (i := 21) (dj := 61) rfl (by kernel_rfl) (fun _ _ _ h => h) rfl rfl (decide_eq_true rfl) (fun _ _ H' => (Runs.fa A rfl)) A rfl hS ?_; clear A a hR; intro a A hR
    refine dstepG hR (i := 22) (dj := 61) rfl (by kernel_rfl) (fun _ _ _ h => h) rfl rfl (decide_eq_true rfl) (fun _ _ H' => (Runs.ld1 A H' rfl rfl)) A rfl hS ?_; clear A a hR; intro a A hR
    refine dstepG hR (i := 24) (dj := 61) rfl (by kernel_rfl) (fun _ _ _ h => h) rfl rfl (decide_eq_true rfl) (fun _ _ H' => (Runs.fa A rfl)) A rfl hS ?_; clear A a hR; intro a A hR
    refine dstepG hR (i := 25) (dj := 61) rfl (by kernel_rfl) (fun _ _ _ h => h) rfl rfl (decide_eq_true rfl) (fun _ _ H' => (Runs.ld1 A H' rfl rfl)) A rfl hS ?_; clear A a hR; intro a A hR
    refine dlist hR (i := 23) rfl (by kernel_rfl) ?_
    have hR := hR.next (i := 23) (by kernel_rfl)
    refine step_callFG (dj := 61) rfl rfl (decide_eq_true rfl) A rfl rfl (c_objects_Union hO7 hput (by decide) (by decide)) H ?_
    rintro v6_23 a w m hm ⟨adm, cm, rfl, hmg⟩ A H
    have hM := hM.trans hm
    have G := G.mono hm
    have hS1 := hS1.mono hm
    have hS2 := hS2.mono hm
    have hput := hput.mono hm
    have hS3 := hS3.mono hm
    have hO4 := hO4.mono hm
    have hdu := hdu.mono hm
    have hS5 := hS5.mono hm
    have hS6 := hS6.mono hm
    have hO7 := hO7.mono hm
    have hw := hw.mono hm
    have hW8 := hW8.mono hm
    rw [ex_merge] at hmg A
    have hL := hL.trans hm
    refine wpList_nil ?_
    clear hS; refine and_keep (H.sw hL) fun hS => ?_
    refine dlist hR (i := 26) rfl (by kernel_rfl) ?_
    have hR := hR.next (i := 26) (by kernel_rfl)
    refine step_callFG (dj := 61) rfl rfl (decide_eq_true rfl) A rfl rfl (c_wireloomref18_Same hmg hput) H ?_
    rintro v6_26 a w m hm rfl A H
    have hM := hM.trans hm
    have G := G.mono hm
    have hS1 := hS1.mono hm
    have hS2 := hS2.mono hm
    have hput := hput.mono hm
    have hS3 := hS3.mono hm
    have hO4 := hO4.mono hm
    have hdu := hdu.mono hm
    have hS5 := hS5.mono hm
    have hS6 := hS6.mono hm
    have hO7 := hO7.mono hm
    have hw := hw.mono hm
    have hW8 := hW8.mono hm
    have hmg := hmg.mono hm
    have hL := hL.trans hm
    refine wpList_nil ?_
    clear hS; refine and_keep (H.sw hL) fun hS => ?_
    refine dstep hR (i := 27) rfl (by kernel_rfl) (fun _ _ _ h => h) (fun _ _ H' => (Runs.pickT A rfl (decide_eq_true rfl) rfl)) A rfl hS ?_; clear A a hR; intro a A hR
    refine dstep hR (i := 28) rfl (by kernel_rfl) (fun _ _ _ h => h) (fun _ _ H' => (Runs.move A rfl)) A rfl hS ?_; clear A a hR; intro a A hR
    refine dstepG hR (i := 29) (dj := 70) rfl (by kernel_rfl) (fun _ _ _ h => h) rfl rfl (decide_eq_true rfl) (fun _ _ H' => (Runs.fa A rfl)) A rfl hS ?_; clear A a hR; intro a A hR
    refine dstepG hR (i := 30) (dj := 70) rfl (by kernel_rfl) (fun _ _ _ h => h) rfl rfl (decide_eq_true rfl) (fun _ _ H' => (Runs.ld1 A H' rfl rfl)) A rfl hS ?_; clear A a hR; intro a A hR
    refine dlist hR (i := 31) rfl (by kernel_rfl) ?_
    have hR := hR.next (i := 31) (by kernel_rfl)
    refine step_callFG (dj := 70) rfl rfl (decide_eq_true rfl) A rfl rfl (c_objects_Keep hput (by decide) (show Ws m none 0 0 [] from Slc.nil m 1 none 0 (by decide))) H ?_
    rintro v6_31 a w m hm ⟨adk, ck, rfl, hk⟩ A H
    have hM := hM.trans hm
    have G := G.mono hm
    have hS1 := hS1.mono hm
    have hS2 := hS2.mono hm
    have hput := hput.mono hm
    have hS3 := hS3.mono hm
    have hO4 := hO4.mono hm
    have hdu := hdu.mono hm
    have hS5 := hS5.mono hm
    have hS6 := hS6.mono hm
    have hO7 := hO7.mono hm
    have hw := hw.mono hm
    have hW8 := hW8.mono hm
    have hmg := hmg.mono hm
    rw [ex_keep] at hk A
    have hL := hL.trans hm
    refine wpList_nil ?_
    clear hS; refine and_keep (H.sw hL) fun hS => ?_
    refine dstepG hR (i := 32) (dj := 70) rfl (by kernel_rfl) (fun _ _ _ h => h) rfl rfl (decide_eq_true rfl) (fun _ _ H' => (Runs.lenL A rfl SlC.h)) A rfl hS ?_; clear A a hR; intro a A hR
    refine dstepG hR (i := 33) (dj := 70) rfl (by kernel_rfl) (fun _ _ _ h => h) rfl rfl (decide_eq_true rfl) (fun _ _ H' => (Runs.eql A rfl rfl)) A rfl hS ?_; clear A a hR; intro a A hR
    refine dstep hR (i := 34) rfl (by kernel_rfl) (fun _ _ _ h => h) (fun _ _ H' => (Runs.pickT A rfl (decide_eq_true rfl) rfl)) A rfl hS ?_; clear A a hR; intro a A hR
    refine dstep hR (i := 35) rfl (by kernel_rfl) (fun _ _ _ h => h) (fun _ _ H' => (Runs.move A rfl)) A rfl hS ?_; clear A a hR; intro a A hR
    refine dstepG hR (i := 36) (dj := 77) rfl (by kernel_rfl) (fun _ _ _ h => h) rfl rfl (decide_eq_true rfl) (fun _ _ H' => (Runs.move A rfl)) A rfl hS ?_; clear A a hR; intro a A hR
    refine dlist hR (i := 37) rfl (by kernel_rfl) ?_
    have hR := hR.next (i := 37) (by kernel_rfl)
    refine step_callFG (dj := 77) rfl rfl (decide_eq_true rfl) A rfl rfl (c_objects_Is hO7) H ?_
    rintro v6_37 a w m hm rfl A H
    have hM := hM.trans hm
    have G := G.mono hm
    have hS1 := hS1.mono hm
    have hS2 := hS2.mono hm
    have hput := hput.mono hm
    have hS3 := hS3.mono hm
    have hO4 := hO4.mono hm
    have hdu := hdu.mono hm
    have hS5 := hS5.mono hm
    have hS6 := hS6.mono hm
    have hO7 := hO7.mono hm
    have hw := hw.mono hm
    have hW8 := hW8.mono hm
    have hmg := hmg.mono hm
    have hL := hL.trans hm
    refine wpList_nil ?_
    clear hS; refine and_keep (H.sw hL) fun hS => ?_
    refine dstep hR (i := 38) rfl (by kernel_rfl) (fun _ _ _ h => h) (fun _ _ H' => (Runs.pickT A rfl (decide_eq_true rfl) rfl)) A rfl hS ?_; clear A a hR; intro a A hR
    refine dstep hR (i := 39) rfl (by kernel_rfl) (fun _ _ _ h => h) (fun _ _ H' => (Runs.move A rfl)) A rfl hS ?_; clear A a hR; intro a A hR
    refine dstepG hR (i := 40) (dj := 81) rfl (by kernel_rfl) (fun _ _ _ h => h) rfl rfl (by decide +kernel) (fun _ _ H' => (Runs.build A rfl rfl rfl)) A rfl hS ?_; clear A a hR; intro a A hR
    refine dstepG hR (i := 41) (dj := 81) rfl (by kernel_rfl) (fun _ _ _ h => h) rfl rfl (by decide +kernel) (fun _ _ H' => (Runs.build A rfl rfl rfl)) A rfl hS ?_; clear A a hR; intro a A hR
    refine dlist hR (i := 42) rfl (by kernel_rfl) ?_
    have hR := hR.next (i := 42) (by kernel_rfl)
    refine unguard (dj := 81) rfl rfl (by decide +kernel) A ?_
    refine step_slice A H rfl rfl rfl rfl rfl rfl ?_; intro b9 a w A H
    obtain ⟨m, hm, hSx, H⟩ := (H.row_pt (n := 2) (size := 2) rfl (by decide)).row_freeze
    have hM := hM.trans hm
    have G := G.mono hm
    have hS1 := hS1.mono hm
    have hS2 := hS2.mono hm
    have hput := hput.mono hm
    have hS3 := hS3.mono hm
    have hO4 := hO4.mono hm
    have hdu := hdu.mono hm
    have hS5 := hS5.mono hm
    have hS6 := hS6.mono hm
    have hO7 := hO7.mono hm
    have hw := hw.mono hm
    have hW8 := hW8.mono hm
    have hmg := hmg.mono hm
    have hO9 : Objs m (some ⟨b9, 0, none⟩) 2 2 [⟨1, []⟩, ⟨1, []⟩] := ⟨rfl, _, hSx, rfl, Dat.nil m, rfl, Dat.nil m, trivial⟩
    have hL := hL.trans hm
    refine wpList_nil ?_
    clear hS; refine and_keep (H.sw hL) fun hS => ?_
    refine dlist hR (i := 43) rfl (by kernel_rfl) ?_
    have hR := hR.next (i := 43) (by kernel_rfl)
    refine step_callFG (dj := 81) rfl rfl (by decide +kernel) A rfl rfl (c_objects_Is hO9) H ?_
    rintro v6_43 a w m hm rfl A H
    have hM := hM.trans hm
    have G := G.mono hm
    have hS1 := hS1.mono hm
    have hS2 := hS2.mono hm
    have hput := hput.mono hm
    have hS3 := hS3.mono hm
    have hO4 := hO4.mono hm
    have hdu := hdu.mono hm
    have hS5 := hS5.mono hm
    have hS6 := hS6.mono hm
    have hO7 := hO7.mono hm
    have hw := hw.mono hm
    have hW8 := hW8.mono hm
    have hmg := hmg.mono hm
    have hO9 := hO9.mono hm
    have hL := hL.trans hm
    refine wpList_nil ?_
    clear hS; refine and_keep (H.sw hL) fun hS => ?_
    refine dstepG hR (i := 44) (dj := 81) rfl (by kernel_rfl) (fun _ _ _ h => h) rfl rfl (by decide +kernel) (fun _ _ H' => (Runs.not A rfl)) A rfl hS ?_; clear A a hR; intro a A hR
    refine dstep hR (i := 45) rfl (by kernel_rfl) (fun _ _ _ h => h) (fun _ _ H' => (Runs.pickT A rfl (by decide +kernel) rfl)) A rfl hS ?_; clear A a hR; intro a A hR
    refine dstep hR (i := 46) rfl (by kernel_rfl) (fun _ _ _ h => h) (fun _ _ H' => (Runs.move A rfl)) A rfl hS ?_; clear A a hR; intro a A hR
    refine dstepG hR (i := 47) (dj := 88) rfl (by kernel_rfl) (fun _ _ _ h => h) rfl rfl (notF (by decide +kernel)) (fun _ _ H' => (Runs.fa A rfl)) A rfl hS ?_; clear A a hR; intro a A hR
    refine dstepG hR (i := 48) (dj := 88) rfl (by kernel_rfl) (fun _ _ _ h => h) rfl rfl (notF (by decide +kernel)) (fun _ _ H' => (Runs.ld1 A H' rfl rfl)) A rfl hS ?_; clear A a hR; intro a A hR
    refine dstepG hR (i := 49) (dj := 88) rfl (by kernel_rfl) (fun _ _ _ h => h) rfl rfl (notF (by decide +kernel)) (fun _ _ H' => (Runs.move A rfl)) A rfl hS ?_; clear A a hR; intro a A hR
    refine dlist hR (i := 50) rfl (by kernel_rfl) ?_
    have hR := hR.next (i := 50) (by kernel_rfl)
    refine step_callFG (dj := 88) rfl rfl (notF (by decide +kernel)) A rfl rfl (c_load_lex G hput (by decide) (srt_one _) ex_nl) H ?_
    rintro v6_50 a w m hm rfl A H
    have hM := hM.trans hm
    have G := G.mono hm
    have hS1 := hS1.mono hm
    have hS2 := hS2.mono hm
    have hput := hput.mono hm
    have hS3 := hS3.mono hm
    have hO4 := hO4.mono hm
    have hdu := hdu.mono hm
    have hS5 := hS5.mono hm
    have hS6 := hS6.mono hm
    have hO7 := hO7.mono hm
    have hw := hw.mono hm
    have hW8 := hW8.mono hm
    have hmg := hmg.mono hm
    have hO9 := hO9.mono hm
    have hL := hL.trans hm
    refine wpList_nil ?_
    clear hS; refine and_keep (H.sw hL) fun hS => ?_
    refine dstepG hR (i := 51) (dj := 88) rfl (by kernel_rfl) (fun _ _ _ h => h) rfl rfl (notF (by decide +kernel)) (fun _ _ H' => (Runs.field1 (ty := 40) A rfl FldC.h (by kernel_rfl) TyC.h rfl)) A rfl hS ?_; clear A a hR; intro a A hR
    refine dstepG hR (i := 52) (dj := 88) rfl (by kernel_rfl) (fun _ _ _ h => h) rfl rfl (notF (by decide +kernel)) (fun _ _ H' => (Runs.eql A rfl rfl)) A rfl hS ?_; clear A a hR; intro a A hR
    refine dstep hR (i := 53) rfl (by kernel_rfl) (fun _ _ _ h => h) (fun _ _ H' => (Runs.pickT A rfl (notF (by decide +kernel)) rfl)) A rfl hS ?_; clear A a hR; intro a A hR
    refine dstep hR (i := 54) rfl (by kernel_rfl) (fun _ _ _ h => h) (fun _ _ H' => (Runs.move A rfl)) A rfl hS ?_; clear A a hR; intro a A hR
    refine dstepG hR (i := 55) (dj := 96) rfl (by kernel_rfl) (fun _ _ _ h => h) rfl rfl (decide_eq_true rfl) (fun _ _ H' => (Runs.build A rfl rfl rfl)) A rfl hS ?_; clear A a hR; intro a A hR
    refine dlist hR (i := 56) rfl (by kernel_rfl) ?_
    have hR := hR.next (i := 56) (by kernel_rfl)
    refine unguard (dj := 96) rfl rfl (decide_eq_true rfl) A ?_
    refine step_slice A H rfl rfl rfl rfl rfl rfl ?_; intro bm a w A H
    obtain ⟨m, hm, hSm, H⟩ := (H.row_pt (n := 1) (size := 4) rfl (by decide)).row_freeze
    have hLm : Lst MoR 4 m (some ⟨bm, 0, none⟩) 1 [zMod] := ⟨_, hSm, LR.one ⟨none, 0, none, 0, rfl, Lst.nil (by decide), Lst.nil (by decide)⟩ rfl⟩
    have hM := hM.trans hm
    have G := G.mono hm
    have hS1 := hS1.mono hm
    have hS2 := hS2.mono hm
    have hput := hput.mono hm
    have hS3 := hS3.mono hm
    have hO4 := hO4.mono hm
    have hdu := hdu.mono hm
    have hS5 := hS5.mono hm
    have hS6 := hS6.mono hm
    have hO7 := hO7.mono hm
    have hw := hw.mono hm
    have hW8 := hW8.mono hm
    have hmg := hmg.mono hm
    have hO9 := hO9.mono hm
    have hL := hL.trans hm
    refine wpList_nil ?_
    clear hS; refine and_keep (H.sw hL) fun hS => ?_
    refine dstepG hR (i := 57) (dj := 96) rfl (by kernel_rfl) (fun _ _ _ h => h) rfl rfl (decide_eq_true rfl) (fun _ _ H' => (Runs.build A rfl rfl rfl)) A rfl hS ?_; clear A a hR; intro a A hR
    refine dlist hR (i := 58) rfl (by kernel_rfl) ?_
    have hR := hR.next (i := 58) (by kernel_rfl)
    refine step_callFG (dj := 96) rfl rfl (decide_eq_true rfl) A rfl rfl (c_wireloomlaw18_save (lf := [zMod]) (Objs.nil m) (by decide) srt_nil G hLm ex_sz) H ?_
    rintro v6_58 a w m hm ⟨adsv, csv, rfl, hsave⟩ A H
    have hM := hM.trans hm
    have G := G.mono hm
    have hS1 := hS1.mono hm
    have hS2 := hS2.mono hm
    have hput := hput.mono hm
    have hS3 := hS3.mono hm
    have hO4 := hO4.mono hm
    have hdu := hdu.mono hm
    have hS5 := hS5.mono hm
    have hS6 := hS6.mono hm
    have hO7 := hO7.mono hm
    have hw := hw.mono hm
    have hW8 := hW8.mono hm
    have hmg := hmg.mono hm
    have hO9 := hO9.mono hm
    have hLm := hLm.mono hm
    rw [ex_save] at hsave A
    have hL := hL.trans hm
    refine wpList_nil ?_
    clear hS; refine and_keep (H.sw hL) fun hS => ?_
    refine dstepG hR (i := 59) (dj := 96) rfl (by kernel_rfl) (fun _ _ _ h => h) rfl rfl (decide_eq_true rfl) (fun _ _ H' => (Runs.field1 (ty := 40) A rfl FldC.h (by kernel_rfl) TyC.h rfl)) A rfl hS ?_; clear A a hR; intro a A hR
    refine dstepG hR (i := 60) (dj := 96) rfl (by kernel_rfl) (fun _ _ _ h => h) rfl rfl (decide_eq_true rfl) (fun _ _ H' => (Runs.eql A rfl rfl)) A rfl hS ?_; clear A a hR; intro a A hR
    refine dstep hR (i := 61) rfl (by kernel_rfl) (fun _ _ _ h => h) (fun _ _ H' => (Runs.pickT A rfl (decide_eq_true rfl) rfl)) A rfl hS ?_; clear A a hR; intro a A hR
    refine dstep hR (i := 62) rfl (by kernel_rfl) (fun _ _ _ h => h) (fun _ _ H' => (Runs.assign A rfl)) A rfl hS ?_; clear A a hR; intro a A hR
    refine draw_done hR (by kernel_rfl) ?_
    clear hS hL hR
    refine wp_ret ?_
    exact retF A rfl rfl hM H rfl
  · refine dalt (i := 9) rfl ?_
    have hR := hR.next (i := 9) (by kernel_rfl)
    refine unguard (dj := 47) rfl rfl (decide_eq_true rfl) A ?_
    refine step_slice A H rfl rfl rfl rfl rfl rfl ?_; intro b8 a w A H
    obtain ⟨m, hm, hW8, H⟩ := (H.row_pt (n := 1) (size := 1) rfl (by decide)).row_freeze
    have hW8 : Ws m (some ⟨b8, 0, none⟩) 1 1 [d12] := hW8
    have hM := hM.trans hm
    have G := G.mono hm
    have hS1 := hS1.mono hm
    have hS2 := hS2.mono hm
    have hput := hput.mono hm
    have hS3 := hS3.mono hm
    have hO4 := hO4.mono hm
    have hdu := hdu.mono hm
    have hS5 := hS5.mono hm
    have hS6 := hS6.mono hm
    have hO7 := hO7.mono hm
    have hL := hL.trans hm
    refine wpList_nil ?_
    clear hS; refine and_keep (H.sw hL) fun hS => ?_
    refine dlist hR (i := 7) rfl (by kernel_rfl) ?_
    have hR := hR.next (i := 7) (by kernel_rfl)
    refine step_callFG (dj := 47) rfl rfl (decide_eq_true rfl) A rfl rfl (c_objects_Damaged hO7 (by decide)) H ?_
    rintro v6_7 a w m hm ⟨adw, cw, rfl, hw⟩ A H
    have hM := hM.trans hm
    have G := G.mono hm
    have hS1 := hS1.mono hm
    have hS2 := hS2.mono hm
    have hput := hput.mono hm
    have hS3 := hS3.mono hm
    have hO4 := hO4.mono hm
    have hdu := hdu.mono hm
    have hS5 := hS5.mono hm
    have hS6 := hS6.mono hm
    have hO7 := hO7.mono hm
    have hW8 := hW8.mono hm
    rw [ex_dmg] at hw A
    have hL := hL.trans hm
    refine wpList_nil ?_
    clear hS; refine and_keep (H.sw hL) fun hS => ?_
    refine dlist hR (i := 10) rfl (by kernel_rfl) ?_
    have hR := hR.next (i := 10) (by kernel_rfl)
    refine step_callFG (dj := 47) rfl rfl (decide_eq_true rfl) A rfl rfl (c_wireloomref01_Same hw hW8) H ?_
    rintro v6_10 a w m hm rfl A H
    have hM := hM.trans hm
    have G := G.mono hm
    have hS1 := hS1.mono hm
    have hS2 := hS2.mono hm
    have hput := hput.mono hm
    have hS3 := hS3.mono hm
    have hO4 := hO4.mono hm
    have hdu := hdu.mono hm
    have hS5 := hS5.mono hm
    have hS6 := hS6.mono hm
    have hO7 := hO7.mono hm
    have hW8 := hW8.mono hm
    have hw := hw.mono hm
    have hL := hL.trans hm
    refine wpList_nil ?_
    clear hS; refine and_keep (H.sw hL) fun hS => ?_
    refine dstep hR (i := 11) rfl (by kernel_rfl) (fun _ _ _ h => h) (fun _ _ H' => (Runs.pickT A rfl (decide_eq_true rfl) rfl)) A rfl hS ?_; clear A a hR; intro a A hR
    refine dstep hR (i := 12) rfl (by kernel_rfl) (fun _ _ _ h => h) (fun _ _ H' => (Runs.move A rfl)) A rfl hS ?_; clear A a hR; intro a A hR
    refine dstepG hR (i := 13) (dj := 54) rfl (by kernel_rfl) (fun _ _ _ h => h) rfl rfl (decide_eq_true rfl) (fun _ _ H' => (Runs.fa A rfl)) A rfl hS ?_; clear A a hR; intro a A hR
    refine dstepG hR (i := 14) (dj := 54) rfl (by kernel_rfl) (fun _ _ _ h => h) rfl rfl (decide_eq_true rfl) (fun _ _ H' => (Runs.ld1 A H' rfl rfl)) A rfl hS ?_; clear A a hR; intro a A hR
    refine dlist hR (i := 15) rfl (by kernel_rfl) ?_
    have hR := hR.next (i := 15) (by kernel_rfl)
    refine step_callFG (dj := 54) rfl rfl (decide_eq_true rfl) A rfl rfl (c_objects_Damaged hput (by decide)) H ?_
    rintro v6_15 a w m hm ⟨adw0, cw0, rfl, hw0⟩ A H
    have hM := hM.trans hm
    have G := G.mono hm
    have hS1 := hS1.mono hm
    have hS2 := hS2.mono hm
    have hput := hput.mono hm
    have hS3 := hS3.mono hm
    have hO4 := hO4.mono hm
    have hdu := hdu.mono hm
    have hS5 := hS5.mono hm
    have hS6 := hS6.mono hm
    have hO7 := hO7.mono hm
    have hW8 := hW8.mono hm
    have hw := hw.mono hm
    rw [ex_dmg0] at hw0 A
    have hL := hL.trans hm
    refine wpList_nil ?_
    clear hS; refine and_keep (H.sw hL) fun hS => ?_
    refine dstepG hR (i := 16) (dj := 54) rfl (by kernel_rfl) (fun _ _ _ h => h) rfl rfl (decide_eq_true rfl) (fun _ _ H' => (Runs.lenL A rfl SlC.h)) A rfl hS ?_; clear A a hR; intro a A hR
    refine dstepG hR (i := 17) (dj := 54) rfl (by kernel_rfl) (fun _ _ _ h => h) rfl rfl (decide_eq_true rfl) (fun _ _ H' => (Runs.eql A rfl rfl)) A rfl hS ?_; clear A a hR; intro a A hR
    refine dstep hR (i := 18) rfl (by kernel_rfl) (fun _ _ _ h => h) (fun _ _ H' => (Runs.pickT A rfl (decide_eq_true rfl) rfl)) A rfl hS ?_; clear A a hR; intro a A hR
    refine dstep hR (i := 19) rfl (by kernel_rfl) (fun _ _ _ h => h) (fun _ _ H' => (Runs.move A rfl)) A rfl hS ?_; clear A a hR; intro a A hR
    refine dstepG hR (i := 20) (dj := 61) rfl (by kernel_rfl) (fun _ _ _ h => h) rfl rfl (decide_eq_true rfl) (fun _ _ H' => (Runs.move A rfl)) A rfl hS ?_; clear A a hR; intro a A hR
    refine dstepG hR (i := 21) (dj := 61) rfl (by kernel_rfl) (fun _ _ _ h => h) rfl rfl (decide_eq_true rfl) (fun _ _ H' => (Runs.fa A rfl)) A rfl hS ?_; clear A a hR; intro a A hR
    refine dstepG hR (i := 22) (dj := 61) rfl (by kernel_rfl) (fun _ _ _ h => h) rfl rfl (decide_eq_true rfl) (fun _ _ H' => (Runs.ld1 A H' rfl rfl)) A rfl hS ?_; clear A a hR; intro a A hR
    refine dstepG hR (i := 24) (dj := 61) rfl (by kernel_rfl) (fun _ _ _ h => h) rfl rfl (decide_eq_true rfl) (fun _ _ H' => (Runs.fa A rfl)) A rfl hS ?_; clear A a hR; intro a A hR
    refine dstepG hR (i := 25) (dj := 61) rfl (by kernel_rfl) (fun _ _ _ h => h) rfl rfl (decide_eq_true rfl) (fun _ _ H' => (Runs.ld1 A H' rfl rfl)) A rfl hS ?_; clear A a hR; intro a A hR
    refine dlist hR (i := 23) rfl (by kernel_rfl) ?_
    have hR := hR.next (i := 23) (by kernel_rfl)
    refine step_callFG (dj := 61) rfl rfl (decide_eq_true rfl) A rfl rfl (c_objects_Union hO7 hput (by decide) (by decide)) H ?_
    rintro v6_23 a w m hm ⟨adm, cm, rfl, hmg⟩ A H
    have hM := hM.trans hm
    have G := G.mono hm
    have hS1 := hS1.mono hm
    have hS2 := hS2.mono hm
    have hput := hput.mono hm
    have hS3 := hS3.mono hm
    have hO4 := hO4.mono hm
    have hdu := hdu.mono hm
    have hS5 := hS5.mono hm
    have hS6 := hS6.mono hm
    have hO7 := hO7.mono hm
    have hW8 := hW8.mono hm
    have hw := hw.mono hm
    rw [ex_merge] at hmg A
    have hL := hL.trans hm
    refine wpList_nil ?_
    clear hS; refine and_keep (H.sw hL) fun hS => ?_
    refine dlist hR (i := 26) rfl (by kernel_rfl) ?_
    have hR := hR.next (i := 26) (by kernel_rfl)
    refine step_callFG (dj := 61) rfl rfl (decide_eq_true rfl) A rfl rfl (c_wireloomref18_Same hmg hput) H ?_
    rintro v6_26 a w m hm rfl A H
    have hM := hM.trans hm
    have G := G.mono hm
    have hS1 := hS1.mono hm
    have hS2 := hS2.mono hm
    have hput := hput.mono hm
    have hS3 := hS3.mono hm
    have hO4 := hO4.mono hm
    have hdu := hdu.mono hm
    have hS5 := hS5.mono hm
    have hS6 := hS6.mono hm
    have hO7 := hO7.mono hm
    have hW8 := hW8.mono hm
    have hw := hw.mono hm
    have hmg := hmg.mono hm
    have hL := hL.trans hm
    refine wpList_nil ?_
    clear hS; refine and_keep (H.sw hL) fun hS => ?_
    refine dstep hR (i := 27) rfl (by kernel_rfl) (fun _ _ _ h => h) (fun _ _ H' => (Runs.pickT A rfl (decide_eq_true rfl) rfl)) A rfl hS ?_; clear A a hR; intro a A hR
    refine dstep hR (i := 28) rfl (by kernel_rfl) (fun _ _ _ h => h) (fun _ _ H' => (Runs.move A rfl)) A rfl hS ?_; clear A a hR; intro a A hR
    refine dstepG hR (i := 29) (dj := 70) rfl (by kernel_rfl) (fun _ _ _ h => h) rfl rfl (decide_eq_true rfl) (fun _ _ H' => (Runs.fa A rfl)) A rfl hS ?_; clear A a hR; intro a A hR
    refine dstepG hR (i := 30) (dj := 70) rfl (by kernel_rfl) (fun _ _ _ h => h) rfl rfl (decide_eq_true rfl) (fun _ _ H' => (Runs.ld1 A H' rfl rfl)) A rfl hS ?_; clear A a hR; intro a A hR
    refine dlist hR (i := 31) rfl (by kernel_rfl) ?_
    have hR := hR.next (i := 31) (by kernel_rfl)
    refine step_callFG (dj := 70) rfl rfl (decide_eq_true rfl) A rfl rfl (c_objects_Keep hput (by decide) (show Ws m none 0 0 [] from Slc.nil m 1 none 0 (by decide))) H ?_
    rintro v6_31 a w m hm ⟨adk, ck, rfl, hk⟩ A H
    have hM := hM.trans hm
    have G := G.mono hm
    have hS1 := hS1.mono hm
    have hS2 := hS2.mono hm
    have hput := hput.mono hm
    have hS3 := hS3.mono hm
    have hO4 := hO4.mono hm
    have hdu := hdu.mono hm
    have hS5 := hS5.mono hm
    have hS6 := hS6.mono hm
    have hO7 := hO7.mono hm
    have hW8 := hW8.mono hm
    have hw := hw.mono hm
    have hmg := hmg.mono hm
    rw [ex_keep] at hk A
    have hL := hL.trans hm
    refine wpList_nil ?_
    clear hS; refine and_keep (H.sw hL) fun hS => ?_
    refine dstepG hR (i := 32) (dj := 70) rfl (by kernel_rfl) (fun _ _ _ h => h) rfl rfl (decide_eq_true rfl) (fun _ _ H' => (Runs.lenL A rfl SlC.h)) A rfl hS ?_; clear A a hR; intro a A hR
    refine dstepG hR (i := 33) (dj := 70) rfl (by kernel_rfl) (fun _ _ _ h => h) rfl rfl (decide_eq_true rfl) (fun _ _ H' => (Runs.eql A rfl rfl)) A rfl hS ?_; clear A a hR; intro a A hR
    refine dstep hR (i := 34) rfl (by kernel_rfl) (fun _ _ _ h => h) (fun _ _ H' => (Runs.pickT A rfl (decide_eq_true rfl) rfl)) A rfl hS ?_; clear A a hR; intro a A hR
    refine dstep hR (i := 35) rfl (by kernel_rfl) (fun _ _ _ h => h) (fun _ _ H' => (Runs.move A rfl)) A rfl hS ?_; clear A a hR; intro a A hR
    refine dstepG hR (i := 36) (dj := 77) rfl (by kernel_rfl) (fun _ _ _ h => h) rfl rfl (decide_eq_true rfl) (fun _ _ H' => (Runs.move A rfl)) A rfl hS ?_; clear A a hR; intro a A hR
    refine dlist hR (i := 37) rfl (by kernel_rfl) ?_
    have hR := hR.next (i := 37) (by kernel_rfl)
    refine step_callFG (dj := 77) rfl rfl (decide_eq_true rfl) A rfl rfl (c_objects_Is hO7) H ?_
    rintro v6_37 a w m hm rfl A H
    have hM := hM.trans hm
    have G := G.mono hm
    have hS1 := hS1.mono hm
    have hS2 := hS2.mono hm
    have hput := hput.mono hm
    have hS3 := hS3.mono hm
    have hO4 := hO4.mono hm
    have hdu := hdu.mono hm
    have hS5 := hS5.mono hm
    have hS6 := hS6.mono hm
    have hO7 := hO7.mono hm
    have hW8 := hW8.mono hm
    have hw := hw.mono hm
    have hmg := hmg.mono hm
    have hL := hL.trans hm
    refine wpList_nil ?_
    clear hS; refine and_keep (H.sw hL) fun hS => ?_
    refine dstep hR (i := 38) rfl (by kernel_rfl) (fun _ _ _ h => h) (fun _ _ H' => (Runs.pickT A rfl (decide_eq_true rfl) rfl)) A rfl hS ?_; clear A a hR; intro a A hR
    refine dstep hR (i := 39) rfl (by kernel_rfl) (fun _ _ _ h => h) (fun _ _ H' => (Runs.move A rfl)) A rfl hS ?_; clear A a hR; intro a A hR
    refine dstepG hR (i := 40) (dj := 81) rfl (by kernel_rfl) (fun _ _ _ h => h) rfl rfl (by decide +kernel) (fun _ _ H' => (Runs.build A rfl rfl rfl)) A rfl hS ?_; clear A a hR; intro a A hR
    refine dstepG hR (i := 41) (dj := 81) rfl (by kernel_rfl) (fun _ _ _ h => h) rfl rfl (by decide +kernel) (fun _ _ H' => (Runs.build A rfl rfl rfl)) A rfl hS ?_; clear A a hR; intro a A hR
    refine dlist hR (i := 42) rfl (by kernel_rfl) ?_
    have hR := hR.next (i := 42) (by kernel_rfl)
    refine unguard (dj := 81) rfl rfl (by decide +kernel) A ?_
    refine step_slice A H rfl rfl rfl rfl rfl rfl ?_; intro b9 a w A H
    obtain ⟨m, hm, hSx, H⟩ := (H.row_pt (n := 2) (size := 2) rfl (by decide)).row_freeze
    have hM := hM.trans hm
    have G := G.mono hm
    have hS1 := hS1.mono hm
    have hS2 := hS2.mono hm
    have hput := hput.mono hm
    have hS3 := hS3.mono hm
    have hO4 := hO4.mono hm
    have hdu := hdu.mono hm
    have hS5 := hS5.mono hm
    have hS6 := hS6.mono hm
    have hO7 := hO7.mono hm
    have hW8 := hW8.mono hm
    have hw := hw.mono hm
    have hmg := hmg.mono hm
    have hO9 : Objs m (some ⟨b9, 0, none⟩) 2 2 [⟨1, []⟩, ⟨1, []⟩] := ⟨rfl, _, hSx, rfl, Dat.nil m, rfl, Dat.nil m, trivial⟩
    have hL := hL.trans hm
    refine wpList_nil ?_
    clear hS; refine and_keep (H.sw hL) fun hS => ?_
    refine dlist hR (i := 43) rfl (by kernel_rfl) ?_
    have hR := hR.next (i := 43) (by kernel_rfl)
    refine step_callFG (dj := 81) rfl rfl (by decide +kernel) A rfl rfl (c_objects_Is hO9) H ?_
    rintro v6_43 a w m hm rfl A H
    have hM := hM.trans hm
    have G := G.mono hm
    have hS1 := hS1.mono hm
    have hS2 := hS2.mono hm
    have hput := hput.mono hm
    have hS3 := hS3.mono hm
    have hO4 := hO4.mono hm
    have hdu := hdu.mono hm
    have hS5 := hS5.mono hm
    have hS6 := hS6.mono hm
    have hO7 := hO7.mono hm
    have hW8 := hW8.mono hm
    have hw := hw.mono hm
    have hmg := hmg.mono hm
    have hO9 := hO9.mono hm
    have hL := hL.trans hm
    refine wpList_nil ?_
    clear hS; refine and_keep (H.sw hL) fun hS => ?_
    refine dstepG hR (i := 44) (dj := 81) rfl (by kernel_rfl) (fun _ _ _ h => h) rfl rfl (by decide +kernel) (fun _ _ H' => (Runs.not A rfl)) A rfl hS ?_; clear A a hR; intro a A hR
    refine dstep hR (i := 45) rfl (by kernel_rfl) (fun _ _ _ h => h) (fun _ _ H' => (Runs.pickT A rfl (by decide +kernel) rfl)) A rfl hS ?_; clear A a hR; intro a A hR
    refine dstep hR (i := 46) rfl (by kernel_rfl) (fun _ _ _ h => h) (fun _ _ H' => (Runs.move A rfl)) A rfl hS ?_; clear A a hR; intro a A hR
    refine dstepG hR (i := 47) (dj := 88) rfl (by kernel_rfl) (fun _ _ _ h => h) rfl rfl (notF (by decide +kernel)) (fun _ _ H' => (Runs.fa A rfl)) A rfl hS ?_; clear A a hR; intro a A hR
    refine dstepG hR (i := 48) (dj := 88) rfl (by kernel_rfl) (fun _ _ _ h => h) rfl rfl (notF (by decide +kernel)) (fun _ _ H' => (Runs.ld1 A H' rfl rfl)) A rfl hS ?_; clear A a hR; intro a A hR
    refine dstepG hR (i := 49) (dj := 88) rfl (by kernel_rfl) (fun _ _ _ h => h) rfl rfl (notF (by decide +kernel)) (fun _ _ H' => (Runs.move A rfl)) A rfl hS ?_; clear A a hR; intro a A hR
    refine dlist hR (i := 50) rfl (by kernel_rfl) ?_
    have hR := hR.next (i := 50) (by kernel_rfl)
    refine step_callFG (dj := 88) rfl rfl (notF (by decide +kernel)) A rfl rfl (c_load_lex G hput (by decide) (srt_one _) ex_nl) H ?_
    rintro v6_50 a w m hm rfl A H
    have hM := hM.trans hm
    have G := G.mono hm
    have hS1 := hS1.mono hm
    have hS2 := hS2.mono hm
    have hput := hput.mono hm
    have hS3 := hS3.mono hm
    have hO4 := hO4.mono hm
    have hdu := hdu.mono hm
    have hS5 := hS5.mono hm
    have hS6 := hS6.mono hm
    have hO7 := hO7.mono hm
    have hW8 := hW8.mono hm
    have hw := hw.mono hm
    have hmg := hmg.mono hm
    have hO9 := hO9.mono hm
    have hL := hL.trans hm
    refine wpList_nil ?_
    clear hS; refine and_keep (H.sw hL) fun hS => ?_
    refine dstepG hR (i := 51) (dj := 88) rfl (by kernel_rfl) (fun _ _ _ h => h) rfl rfl (notF (by decide +kernel)) (fun _ _ H' => (Runs.field1 (ty := 40) A rfl FldC.h (by kernel_rfl) TyC.h rfl)) A rfl hS ?_; clear A a hR; intro a A hR
    refine dstepG hR (i := 52) (dj := 88) rfl (by kernel_rfl) (fun _ _ _ h => h) rfl rfl (notF (by decide +kernel)) (fun _ _ H' => (Runs.eql A rfl rfl)) A rfl hS ?_; clear A a hR; intro a A hR
    refine dstep hR (i := 53) rfl (by kernel_rfl) (fun _ _ _ h => h) (fun _ _ H' => (Runs.pickT A rfl (notF (by decide +kernel)) rfl)) A rfl hS ?_; clear A a hR; intro a A hR
    refine dstep hR (i := 54) rfl (by kernel_rfl) (fun _ _ _ h => h) (fun _ _ H' => (Runs.move A rfl)) A rfl hS ?_; clear A a hR; intro a A hR
    refine dstepG hR (i := 55) (dj := 96) rfl (by kernel_rfl) (fun _ _ _ h => h) rfl rfl (decide_eq_true rfl) (fun _ _ H' => (Runs.build A rfl rfl rfl)) A rfl hS ?_; clear A a hR; intro a A hR
    refine dlist hR (i := 56) rfl (by kernel_rfl) ?_
    have hR := hR.next (i := 56) (by kernel_rfl)
    refine unguard (dj := 96) rfl rfl (decide_eq_true rfl) A ?_
    refine step_slice A H rfl rfl rfl rfl rfl rfl ?_; intro bm a w A H
    obtain ⟨m, hm, hSm, H⟩ := (H.row_pt (n := 1) (size := 4) rfl (by decide)).row_freeze
    have hLm : Lst MoR 4 m (some ⟨bm, 0, none⟩) 1 [zMod] := ⟨_, hSm, LR.one ⟨none, 0, none, 0, rfl, Lst.nil (by decide), Lst.nil (by decide)⟩ rfl⟩
    have hM := hM.trans hm
    have G := G.mono hm
    have hS1 := hS1.mono hm
    have hS2 := hS2.mono hm
    have hput := hput.mono hm
    have hS3 := hS3.mono hm
    have hO4 := hO4.mono hm
    have hdu := hdu.mono hm
    have hS5 := hS5.mono hm
    have hS6 := hS6.mono hm
    have hO7 := hO7.mono hm
    have hW8 := hW8.mono hm
    have hw := hw.mono hm
    have hmg := hmg.mono hm
    have hO9 := hO9.mono hm
    have hL := hL.trans hm
    refine wpList_nil ?_
    clear hS; refine and_keep (H.sw hL) fun hS => ?_
    refine dstepG hR (i := 57) (dj := 96) rfl (by kernel_rfl) (fun _ _ _ h => h) rfl rfl (decide_eq_true rfl) (fun _ _ H' => (Runs.build A rfl rfl rfl)) A rfl hS ?_; clear A a hR; intro a A hR
    refine dlist hR (i := 58) rfl (by kernel_rfl) ?_
    have hR := hR.next (i := 58) (by kernel_rfl)
    refine step_callFG (dj := 96) rfl rfl (decide_eq_true rfl) A rfl rfl (c_wireloomlaw18_save (lf := [zMod]) (Objs.nil m) (by decide) srt_nil G hLm ex_sz) H ?_
    rintro v6_58 a w m hm ⟨adsv, csv, rfl, hsave⟩ A H
    have hM := hM.trans hm
    have G := G.mono hm
    have hS1 := hS1.mono hm
    have hS2 := hS2.mono hm
    have hput := hput.mono hm
    have hS3 := hS3.mono hm
    have hO4 := hO4.mono hm
    have hdu := hdu.mono hm
    have hS5 := hS5.mono hm
    have hS6 := hS6.mono hm
    have hO7 := hO7.mono hm
    have hW8 := hW8.mono hm
    have hw := hw.mono hm
    have hmg := hmg.mono hm
    have hO9 := hO9.mono hm
    have hLm := hLm.mono hm
    rw [ex_save] at hsave A
    have hL := hL.trans hm
    refine wpList_nil ?_
    clear hS; refine and_keep (H.sw hL) fun hS => ?_
    refine dstepG hR (i := 59) (dj := 96) rfl (by kernel_rfl) (fun _ _ _ h => h) rfl rfl (decide_eq_true rfl) (fun _ _ H' => (Runs.field1 (ty := 40) A rfl FldC.h (by kernel_rfl) TyC.h rfl)) A rfl hS ?_; clear A a hR; intro a A hR
    refine dstepG hR (i := 60) (dj := 96) rfl (by kernel_rfl) (fun _ _ _ h => h) rfl rfl (decide_eq_true rfl) (fun _ _ H' => (Runs.eql A rfl rfl)) A rfl hS ?_; clear A a hR; intro a A hR
    refine dstep hR (i := 61) rfl (by kernel_rfl) (fun _ _ _ h => h) (fun _ _ H' => (Runs.pickT A rfl (decide_eq_true rfl) rfl)) A rfl hS ?_; clear A a hR; intro a A hR
    refine dstep hR (i := 62) rfl (by kernel_rfl) (fun _ _ _ h => h) (fun _ _ H' => (Runs.assign A rfl)) A rfl hS ?_; clear A a hR; intro a A hR
    refine draw_done hR (by kernel_rfl) ?_
    clear hS hL hR
    refine wp_ret ?_
    exact retF A rfl rfl hM H rfl
end Sl
end Go.Proofs.YtanhehbfbakdcaaGreatDoor
