/- ObjectsUnion: walk, printed by my gen.py out of annotations. -/
import Derived.Test.YtanhehbfbakdcaaGreatDoorZ64
/- ObjectsUnion: walk, printed by my gen.py out of annotations. -/
set_option linter.unusedSimpArgs false
set_option linter.unusedVariables false
namespace Go.Proofs.YtanhehbfbakdcaaGreatDoor
namespace Sl
open Go

theorem merge_z {s t : List Obj} (hs : Srt s) (ht : Srt t) (id : UInt64) : decide (gerr (mergeP s t) id = 0) = (decide (gerr s id = 0) || decide (gerr t id = 0)) := by
  have h := merge_err hs ht id
  unfold gerr
  cases h1 : (getP s id).isSome <;> cases h2 : (getP t id).isSome <;> rw [h1, h2] at h <;> simp [h]
theorem merge_or {s t : List Obj} (hs : Srt s) (ht : Srt t) {id : UInt64} (h : gerr (mergeP s t) id = 0) : (gerr (mergeP s t) id = gerr s id ∧ gdat (mergeP s t) id = gdat s id) ∨ (gerr (mergeP s t) id = gerr t id ∧ gdat (mergeP s t) id = gdat t id) := by
  have h1 : (getP (mergeP s t) id).isSome = true := by
    cases hg : getP (mergeP s t) id with
    | some d => rfl
    | none => rw [gerr, hg] at h; exact absurd h (by decide)
  unfold gerr gdat
  rcases merge_get hs ht h1 with e | e
  · exact .inl (by rw [e]; exact ⟨rfl, rfl⟩)
  · exact .inr (by rw [e]; exact ⟨rfl, rfl⟩)
theorem merge_same {s t : List Obj} (hs : Srt s) (ht : Srt t) (id : UInt64) : gerr (mergeP t s) id = gerr (mergeP s t) id := by
  have h1 := merge_err hs ht id
  have h2 := merge_err ht hs id
  unfold gerr
  rw [h1, h2, Bool.or_comm]

set_option maxHeartbeats 2000000 in
theorem c_ObjectsUnion {adL adB : Option Addr} {nL cL nB cB : Nat} {ls : List (List UInt8)} {ts : List (UInt8 × UInt8 × UInt8)} {adL2 adB2 : Option Addr} {nL2 cL2 nB2 cB2 : Nat} {ls2 : List (List UInt8)} {ts2 : List (UInt8 × UInt8 × UInt8)} {m : Mem} (G : Glob m) (hLs : Dats m adL nL cL ls) (hB : Tris m adB nB cB ts) (hnL : nL ≤ 1100000) (hnB : nB ≤ 1100000) (hLs2 : Dats m adL2 nL2 cL2 ls2) (hB2 : Tris m adB2 nB2 cB2 ts2) (hnL2 : nL2 ≤ 1100000) (hnB2 : nB2 ≤ 1100000) : Spec Tryz.prog 6 #[.agg #[.slice adL nL cL, .slice adB nB cB], .agg #[.slice adL2 nL2 cL2, .slice adB2 nB2 cB2]] m [] (RetE (.bool true)) := by
  refine Spec.enter0 Tryz.func6 rfl 162 Tryz.ntmps6 rfl fun a w0 Lf A H => ?_
  have hM := Le.refl m
  have hmx : maxLen = 9223372036854775807 := rfl
  refine wp_seq ?_
  refine wp_region_lit ?_
  refine step_box A H rfl (by simp only [Value.cells, List.toList_toArray]; rfl) rfl ?_; intro b3 a w A H
  refine step_box A H rfl (by simp only [Value.cells, List.toList_toArray]; rfl) rfl ?_; intro b4 a w A H
  refine step (Runs.assign A rfl) A rfl ?_; clear A a; intro a A
  refine wpList_nil ?_
  refine wp_seq ?_
  refine wp_region_lit ?_
  refine step_callF A rfl rfl (c_law18_examples G) H ?_
  rintro v1_0 a w m hm rfl A H
  have hM := hM.trans hm
  have G := G.mono hm
  have hLs := hLs.mono hm
  have hB := hB.mono hm
  have hLs2 := hLs2.mono hm
  have hB2 := hB2.mono hm
  refine step (Runs.assign A rfl) A rfl ?_; clear A a; intro a A
  refine wpList_nil ?_
  refine wp_seq ?_
  refine wp_seq ?_
  refine wp_region_lit ?_
  refine step (Runs.move A rfl) A rfl ?_; clear A a; intro a A
  refine step (Runs.not A rfl) A rfl ?_; clear A a; intro a A
  refine wpList_nil ?_
  refine cond_false A rfl rfl ?_
  refine wp_skip ?_
  refine wp_seq ?_
  refine draw_begin (ms := m) (Ls := [pt b4 [.slice adL2 nL2 cL2, .slice adB2 nB2 cB2] 25, pt b3 [.slice adL nL cL, .slice adB nB cB] 25]) (by kernel_rfl) (N := 6) rfl (by kernel_rfl) H ?_; clear H; intro w H hR
  have hS : SW m [pt b4 [.slice adL2 nL2 cL2, .slice adB2 nB2 cB2] 25, pt b3 [.slice adL nL cL, .slice adB nB cB] 25] w := H.sw (Le.refl m)
  have hL := Le.refl m
  refine dstep hR (i := 0) rfl (by kernel_rfl) (fun _ _ _ h => h) (fun _ _ H' => (Runs.ldN A H' rfl rfl)) A rfl hS ?_; clear A a hR; intro a A hR
  refine dstep hR (i := 2) rfl (by kernel_rfl) (fun _ _ _ h => h) (fun _ _ H' => (Runs.ldN A H' rfl rfl)) A rfl hS ?_; clear A a hR; intro a A hR
  refine dlist hR (i := 1) rfl (by kernel_rfl) ?_
  have hR := hR.next (i := 1) (by kernel_rfl)
  refine step_callF A rfl rfl (c_wireloomref18_Store hLs hB (by omega) (by omega)) H ?_
  rintro v4_1 a w m hm ⟨ads, cs, rfl, hos⟩ A H
  have hM := hM.trans hm
  have G := G.mono hm
  have hLs := hLs.mono hm
  have hB := hB.mono hm
  have hLs2 := hLs2.mono hm
  have hB2 := hB2.mono hm
  obtain ⟨s, hse⟩ : ∃ z, z = storeP ls ts := ⟨_, rfl⟩
  rw [← hse] at A hos
  have hss : Srt s := by rw [hse]; exact storeP_srt _ _
  have hsl : s.length ≤ 8 := by rw [hse]; exact storeP_len _ _
  have hL := hL.trans hm
  refine wpList_nil ?_
  clear hS; refine and_keep (H.sw hL) fun hS => ?_
  refine dlist hR (i := 3) rfl (by kernel_rfl) ?_
  have hR := hR.next (i := 3) (by kernel_rfl)
  refine step_callF A rfl rfl (c_wireloomref18_Store hLs2 hB2 (by omega) (by omega)) H ?_
  rintro v4_3 a w m hm ⟨adt, ct, rfl, hot⟩ A H
  have hM := hM.trans hm
  have G := G.mono hm
  have hLs := hLs.mono hm
  have hB := hB.mono hm
  have hLs2 := hLs2.mono hm
  have hB2 := hB2.mono hm
  have hos := hos.mono hm
  obtain ⟨t, hte⟩ : ∃ z, z = storeP ls2 ts2 := ⟨_, rfl⟩
  rw [← hte] at A hot
  have hts : Srt t := by rw [hte]; exact storeP_srt _ _
  have htl : t.length ≤ 8 := by rw [hte]; exact storeP_len _ _
  have hL := hL.trans hm
  refine wpList_nil ?_
  clear hS; refine and_keep (H.sw hL) fun hS => ?_
  refine dstep hR (i := 4) rfl (by kernel_rfl) (fun _ _ _ h => h) (fun _ _ H' => (Runs.assign A rfl)) A rfl hS ?_; clear A a hR; intro a A hR
  refine dstep hR (i := 5) rfl (by kernel_rfl) (fun _ _ _ h => h) (fun _ _ H' => (Runs.assign A rfl)) A rfl hS ?_; clear A a hR; intro a A hR
  refine draw_done hR (by kernel_rfl) ?_
  clear hS hL hR
  refine wp_seq ?_
  refine wp_region_lit ?_
  refine step (Runs.move A rfl) A rfl ?_; clear A a; intro a A
  refine step (Runs.move A rfl) A rfl ?_; clear A a; intro a A
  refine step_callF A rfl rfl (c_objects_Union hos hot (by omega) (by omega)) H ?_
  rintro v5_2 a w m hm ⟨adu, cu, rfl, hou⟩ A H
  have hM := hM.trans hm
  have G := G.mono hm
  have hLs := hLs.mono hm
  have hB := hB.mono hm
  have hLs2 := hLs2.mono hm
  have hB2 := hB2.mono hm
  have hos := hos.mono hm
  have hot := hot.mono hm
  obtain ⟨u, hue⟩ : ∃ z, z = mergeP s t := ⟨_, rfl⟩
  rw [← hue] at A hou
  have hus : Srt u := by rw [hue]; exact mergeP_srt hss hts
  have hul : u.length ≤ 16 := by rw [hue]; have := mergeP_len s t; omega
  refine step (Runs.move A rfl) A rfl ?_; clear A a; intro a A
  refine step (Runs.move A rfl) A rfl ?_; clear A a; intro a A
  refine step_callF A rfl rfl (c_objects_Union hot hos (by omega) (by omega)) H ?_
  rintro v5_5 a w m hm ⟨adv, cv, rfl, hov⟩ A H
  have hM := hM.trans hm
  have G := G.mono hm
  have hLs := hLs.mono hm
  have hB := hB.mono hm
  have hLs2 := hLs2.mono hm
  have hB2 := hB2.mono hm
  have hos := hos.mono hm
  have hot := hot.mono hm
  have hou := hou.mono hm
  obtain ⟨v, hve⟩ : ∃ z, z = mergeP t s := ⟨_, rfl⟩
  rw [← hve] at A hov
  have hvs : Srt v := by rw [hve]; exact mergeP_srt hts hss
  have hvl : v.length ≤ 16 := by rw [hve]; have := mergeP_len t s; omega
  refine step (Runs.assign A rfl) A rfl ?_; clear A a; intro a A
  refine step (Runs.assign A rfl) A rfl ?_; clear A a; intro a A
  refine wpList_nil ?_
  refine wp_seq ?_
  refine wp_seq ?_
  refine wp_region_lit ?_
  refine step (Runs.move A rfl) A rfl ?_; clear A a; intro a A
  refine step_callF A rfl rfl (c_wireloomref18_Is hou) H ?_
  rintro v6_1 a w m hm rfl A H
  have hM := hM.trans hm
  have G := G.mono hm
  have hLs := hLs.mono hm
  have hB := hB.mono hm
  have hLs2 := hLs2.mono hm
  have hB2 := hB2.mono hm
  have hos := hos.mono hm
  have hot := hot.mono hm
  have hou := hou.mono hm
  have hov := hov.mono hm
  refine step (Runs.not A rfl) A rfl ?_; clear A a; intro a A
  refine step (Runs.move A rfl) A rfl ?_; clear A a; intro a A
  refine stepG (dj := 32) rfl rfl (notT (decide_eq_true hus)) (Runs.move A rfl) A rfl ?_; clear A a; intro a A
  refine step_callFG (dj := 32) rfl rfl (notT (decide_eq_true hus)) A rfl rfl (c_wireloomref18_Is hov) H ?_
  rintro v6_5 a w m hm rfl A H
  have hM := hM.trans hm
  have G := G.mono hm
  have hLs := hLs.mono hm
  have hB := hB.mono hm
  have hLs2 := hLs2.mono hm
  have hB2 := hB2.mono hm
  have hos := hos.mono hm
  have hot := hot.mono hm
  have hou := hou.mono hm
  have hov := hov.mono hm
  refine stepG (dj := 32) rfl rfl (notT (decide_eq_true hus)) (Runs.not A rfl) A rfl ?_; clear A a; intro a A
  refine step (Runs.pickF A rfl (notT (decide_eq_true hus)) rfl) A rfl ?_; clear A a; intro a A
  refine wpList_nil ?_
  refine cond_false A rfl (notT (decide_eq_true hvs)) ?_
  refine wp_skip ?_
  refine wp_seq ?_
  refine wp_region_lit ?_
  refine step (Runs.move A rfl) A rfl ?_; clear A a; intro a A
  refine step_callS A rfl rfl (c_wireloomref18_Ids hos (by omega)) H ?_
  rintro v8_1 a w m L' hm ⟨adi, ci, rfl, rfl⟩ A H
  simp only [List.cons_append, List.nil_append] at H
  have hM := hM.trans hm
  have G := G.mono hm
  have hLs := hLs.mono hm
  have hB := hB.mono hm
  have hLs2 := hLs2.mono hm
  have hB2 := hB2.mono hm
  have hos := hos.mono hm
  have hot := hot.mono hm
  have hou := hou.mono hm
  have hov := hov.mono hm
  refine step (Runs.move A rfl) A rfl ?_; clear A a; intro a A
  refine step_callS A rfl rfl (c_wireloomref18_Ids hot (by omega)) H ?_
  rintro v8_3 a w m L' hm ⟨adj, cj, rfl, rfl⟩ A H
  simp only [List.cons_append, List.nil_append] at H
  have hM := hM.trans hm
  have G := G.mono hm
  have hLs := hLs.mono hm
  have hB := hB.mono hm
  have hLs2 := hLs2.mono hm
  have hB2 := hB2.mono hm
  have hos := hos.mono hm
  have hot := hot.mono hm
  have hou := hou.mono hm
  have hov := hov.mono hm
  have HX := H.row_freeze; clear H; obtain ⟨m, hm, hI2, H⟩ := HX
  have hM := hM.trans hm
  have G := G.mono hm
  have hLs := hLs.mono hm
  have hB := hB.mono hm
  have hLs2 := hLs2.mono hm
  have hB2 := hB2.mono hm
  have hos := hos.mono hm
  have hot := hot.mono hm
  have hou := hou.mono hm
  have hov := hov.mono hm
  refine step_appendR A H rfl rfl hI2 (u64_one _) (by decide) (by omega) (by omega) rfl rfl ?_; clear A a; intro ad1 c1 a w A H
  have HX := H.row_freeze; clear H; obtain ⟨m, hm, hI0, H⟩ := HX
  have hids : Ws m ad1 (s.length + t.length) c1 (s.map (·.id) ++ t.map (·.id)) := by rw [Ws, List.map_append]; exact hI0
  have hM := hM.trans hm
  have G := G.mono hm
  have hLs := hLs.mono hm
  have hB := hB.mono hm
  have hLs2 := hLs2.mono hm
  have hB2 := hB2.mono hm
  have hos := hos.mono hm
  have hot := hot.mono hm
  have hou := hou.mono hm
  have hov := hov.mono hm
  have hI2 := hI2.mono hm
  refine step (Runs.assign A rfl) A rfl ?_; clear A a; intro a A
  refine wpList_nil ?_
  refine wp_seq ?_
  refine wp_seq ?_
  refine wp_region_lit ?_
  refine step (Runs.assign A rfl) A rfl ?_; clear A a; intro a A
  refine wpList_nil ?_
  refine wp_block ?_
  refine wp_loop_ghost (fun q a w => ∃ (i : Nat) (m' : Mem), q = s.length + t.length + 1 - i ∧ (i ≤ s.length + t.length) ∧ Le m m' ∧ Fr 162 a [(6, .slice ads s.length cs), (7, .slice adt t.length ct), (8, .slice adu u.length cu), (9, .slice adv v.length cv), (10, .slice ad1 (s.length + t.length) c1), (5, .bool true), (11, .int .i64 i)] [] ∧ St w0 w m' (Lf)) _ ⟨0, m, rfl, by omega, Le.refl m, (Fr.cons A rfl (Fr.cons A rfl (Fr.cons A rfl (Fr.cons A rfl (Fr.cons A rfl (Fr.cons A rfl (Fr.cons A rfl (Fr.nil A)))))))), H.subH⟩ ?_
  clear A H; rintro q a w ⟨i, m, rfl, hinv, hm, A, H⟩
  have hM := hM.trans hm
  have G := G.mono hm
  have hLs := hLs.mono hm
  have hB := hB.mono hm
  have hLs2 := hLs2.mono hm
  have hB2 := hB2.mono hm
  have hos := hos.mono hm
  have hot := hot.mono hm
  have hou := hou.mono hm
  have hov := hov.mono hm
  have hI2 := hI2.mono hm
  have hids := hids.mono hm
  have hl1 := hm
  refine wp_seq ?_
  refine wp_seq ?_
  refine wp_region_lit ?_
  refine step (Runs.move A rfl) A rfl ?_; clear A a; intro a A
  refine step (Runs.move A rfl) A rfl ?_; clear A a; intro a A
  refine step (Runs.lenL A rfl SlC.h) A rfl ?_; clear A a; intro a A
  refine step (Runs.lss A rfl rfl) A rfl ?_; clear A a; intro a A
  refine wpList_nil ?_
  refine cond_split A rfl (fun h1 => ?_) (fun h1 => ?_)
  · have g1 := h1
    try simp only [decide_eq_true_eq, decide_eq_false_iff_not, Bool.not_eq_true', Bool.not_eq_false', ne_eq, Decidable.not_not, Int.not_lt, Int.not_le] at g1
    refine wp_skip ?_
    refine wp_seq ?_
    refine wp_block ?_
    refine wp_seq ?_
    obtain ⟨x, hx⟩ := ex_at (l := s.map (·.id) ++ t.map (·.id)) (i := i) (by simp only [List.length_append, List.length_map]; omega)
    obtain ⟨bb, off, cs, rfl, hfz, hcs⟩ := hids.all_ (by omega)
    have hx1 := hcs _ _ hx
    have hxm := List.mem_of_getElem? hx
    have hmz : decide (gerr u x = 0) = (decide (gerr s x = 0) || decide (gerr t x = 0)) := by rw [hue]; exact merge_z hss hts x
    refine draw_begin (ms := m) (Ls := []) (by kernel_rfl) (N := 24) rfl (by kernel_rfl) H ?_; clear H; intro w H hR
    have hS : SW m [] w := H.sw (Le.refl m)
    have hL := Le.refl m
    refine dstep hR (i := 0) rfl (by kernel_rfl) (fun _ _ _ h => h) (fun _ _ H' => (Runs.move A rfl)) A rfl hS ?_; clear A a hR; intro a A hR
    refine dstep hR (i := 1) rfl (by kernel_rfl) (fun _ _ _ h => h) (fun _ _ H' => (Runs.move A rfl)) A rfl hS ?_; clear A a hR; intro a A hR
    refine dstep hR (i := 2) rfl (by kernel_rfl) (fun _ _ _ h => h) (fun _ _ H' => (Runs.move A rfl)) A rfl hS ?_; clear A a hR; intro a A hR
    refine dstep hR (i := 3) rfl (by kernel_rfl) (fun _ _ _ h => h) (fun _ _ H' => (Runs.indexAddr A rfl rfl SlC.h (by omega) (by omega))) A rfl hS ?_; clear A a hR; intro a A hR
    refine dstep hR (i := 4) rfl (by kernel_rfl) (fun _ _ _ h => h) (fun _ _ H' => (Runs.ld1 A H' rfl (v := u64 x) (by simpa using hx1))) A rfl hS ?_; clear A a hR; intro a A hR
    refine dstep hR (i := 6) rfl (by kernel_rfl) (fun _ _ _ h => h) (fun _ _ H' => (Runs.move A rfl)) A rfl hS ?_; clear A a hR; intro a A hR
    refine dstep hR (i := 7) rfl (by kernel_rfl) (fun _ _ _ h => h) (fun _ _ H' => (Runs.move A rfl)) A rfl hS ?_; clear A a hR; intro a A hR
    refine dstep hR (i := 8) rfl (by kernel_rfl) (fun _ _ _ h => h) (fun _ _ H' => (Runs.move A rfl)) A rfl hS ?_; clear A a hR; intro a A hR
    refine dstep hR (i := 9) rfl (by kernel_rfl) (fun _ _ _ h => h) (fun _ _ H' => (Runs.indexAddr A rfl rfl SlC.h (by omega) (by omega))) A rfl hS ?_; clear A a hR; intro a A hR
    refine dstep hR (i := 10) rfl (by kernel_rfl) (fun _ _ _ h => h) (fun _ _ H' => (Runs.ld1 A H' rfl (v := u64 x) (by simpa using hx1))) A rfl hS ?_; clear A a hR; intro a A hR
    refine dstep hR (i := 12) rfl (by kernel_rfl) (fun _ _ _ h => h) (fun _ _ H' => (Runs.move A rfl)) A rfl hS ?_; clear A a hR; intro a A hR
    refine dstep hR (i := 13) rfl (by kernel_rfl) (fun _ _ _ h => h) (fun _ _ H' => (Runs.move A rfl)) A rfl hS ?_; clear A a hR; intro a A hR
    refine dstep hR (i := 14) rfl (by kernel_rfl) (fun _ _ _ h => h) (fun _ _ H' => (Runs.move A rfl)) A rfl hS ?_; clear A a hR; intro a A hR
    refine dstep hR (i := 15) rfl (by kernel_rfl) (fun _ _ _ h => h) (fun _ _ H' => (Runs.indexAddr A rfl rfl SlC.h (by omega) (by omega))) A rfl hS ?_; clear A a hR; intro a A hR
    refine dstep hR (i := 16) rfl (by kernel_rfl) (fun _ _ _ h => h) (fun _ _ H' => (Runs.ld1 A H' rfl (v := u64 x) (by simpa using hx1))) A rfl hS ?_; clear A a hR; intro a A hR
    refine joinXD (X := Value × Value × Value × Nat × Nat × Nat) 3 [20, 19, 18, 17, 11, 5, 16, 15, 14, 13, 12, 10, 9, 8, 7, 6, 4, 3, 2, 1, 0] (fun xq F => (53, .agg #[xq.1, .int .i64 (gerr s x)]) :: (59, .agg #[xq.2.1, .int .i64 (gerr t x)]) :: (65, .agg #[xq.2.2.1, .int .i64 (gerr u x)]) :: (12, .pointer (some ⟨xq.2.2.2.1, 0, none⟩)) :: (13, .pointer (some ⟨xq.2.2.2.2.1, 0, none⟩)) :: (14, .pointer (some ⟨xq.2.2.2.2.2, 0, none⟩)) :: F) (fun xq => pt xq.2.2.2.1 [.slice none 0 0, .int .i64 0] 59 :: pt xq.2.2.2.2.1 [.slice none 0 0, .int .i64 0] 59 :: pt xq.2.2.2.2.2 [.slice none 0 0, .int .i64 0] 59 :: Lf) (fun xq m => Dat m xq.1 (gdat s x) ∧ Dat m xq.2.1 (gdat t x) ∧ Dat m xq.2.2.1 (gdat u x) ∧ True) A H ?_ (fun key1 => ?_)
    · clear A H hS hR; rintro ⟨u1, u2, u3, bA, bB, bC⟩ a w m hF hm A H hS hR; try dsimp only at A H hF
      have hJ := hm; have hL := hL.trans hm
      have hos := hos.mono hm
      have hot := hot.mono hm
      have hou := hou.mono hm
      have hfz := hfz.mono hm
      obtain ⟨hu1, hu2, hu3, _⟩ := hF
      have hM := hM.trans hm
      have hl1 := hl1.trans hm
      have G := G.mono hm
      have hLs := hLs.mono hm
      have hB := hB.mono hm
      have hLs2 := hLs2.mono hm
      have hB2 := hB2.mono hm
      have hov := hov.mono hm
      have hI2 := hI2.mono hm
      have hids := hids.mono hm
      refine dlist hR (i := 21) rfl (by kernel_rfl) ?_
      have hR := hR.next (i := 21) (by kernel_rfl)
      obtain ⟨a1, n1, k1, rfl, hd1⟩ := hu1
      have hu1 : Dat m (.slice a1 n1 k1) (gdat s x) := ⟨_, _, _, rfl, hd1⟩
      obtain ⟨a2, n2, k2, rfl, hd2⟩ := hu2
      have hu2 : Dat m (.slice a2 n2 k2) (gdat t x) := ⟨_, _, _, rfl, hd2⟩
      obtain ⟨a3, n3, k3, rfl, hd3⟩ := hu3
      have hu3 : Dat m (.slice a3 n3 k3) (gdat u x) := ⟨_, _, _, rfl, hd3⟩
      refine step_store A H rfl rfl rfl rfl rfl rfl ?_; intro w H
      refine wpList_nil ?_
      clear hS; refine and_keep (H.sw hL) fun hS => ?_
      refine dlist hR (i := 22) rfl (by kernel_rfl) ?_
      have hR := hR.next (i := 22) (by kernel_rfl)
      refine step_store A H rfl rfl rfl rfl rfl rfl ?_; intro w H
      refine wpList_nil ?_
      clear hS; refine and_keep (H.sw hL) fun hS => ?_
      refine dlist hR (i := 23) rfl (by kernel_rfl) ?_
      have hR := hR.next (i := 23) (by kernel_rfl)
      refine step_store A H rfl rfl rfl rfl rfl rfl ?_; intro w H
      refine wpList_nil ?_
      refine and_last (by kernel_rfl) ?_
      refine draw_done hR (by kernel_rfl) ?_
      clear hS hL hR
      refine wp_seq ?_
      have hor : gerr u x = 0 → (gerr u x = gerr s x ∧ gdat u x = gdat s x) ∨ (gerr u x = gerr t x ∧ gdat u x = gdat t x) := fun h => by rw [hue] at h ⊢; exact merge_or hss hts h
      refine draw_begin (ms := m) (Ls := [pt bC [.slice a3 n3 k3, .int .i64 (gerr u x)] 59, pt bB [.slice a2 n2 k2, .int .i64 (gerr t x)] 59, pt bA [.slice a1 n1 k1, .int .i64 (gerr s x)] 59]) (by kernel_rfl) (N := 50) rfl (by kernel_rfl) H ?_; clear H; intro w H hR
      have hS : SW m [pt bC [.slice a3 n3 k3, .int .i64 (gerr u x)] 59, pt bB [.slice a2 n2 k2, .int .i64 (gerr t x)] 59, pt bA [.slice a1 n1 k1, .int .i64 (gerr s x)] 59] w := H.sw (Le.refl m)
      have hL := Le.refl m
      refine dstep hR (i := 0) rfl (by kernel_rfl) (fun _ _ _ h => h) (fun _ _ H' => (Runs.fa A rfl)) A rfl hS ?_; clear A a hR; intro a A hR
      refine dstep hR (i := 1) rfl (by kernel_rfl) (fun _ _ _ h => h) (fun _ _ H' => (Runs.ld1 A H' rfl rfl)) A rfl hS ?_; clear A a hR; intro a A hR
      refine dstep hR (i := 2) rfl (by kernel_rfl) (fun _ _ _ h => h) (fun _ _ H' => (Runs.eql A rfl rfl)) A rfl hS ?_; clear A a hR; intro a A hR
      refine dstep hR (i := 3) rfl (by kernel_rfl) (fun _ _ _ h => h) (fun _ _ H' => (Runs.fa A rfl)) A rfl hS ?_; clear A a hR; intro a A hR
      refine dstep hR (i := 4) rfl (by kernel_rfl) (fun _ _ _ h => h) (fun _ _ H' => (Runs.ld1 A H' rfl rfl)) A rfl hS ?_; clear A a hR; intro a A hR
      refine dstep hR (i := 5) rfl (by kernel_rfl) (fun _ _ _ h => h) (fun _ _ H' => (Runs.eql A rfl rfl)) A rfl hS ?_; clear A a hR; intro a A hR
      refine dstep hR (i := 6) rfl (by kernel_rfl) (fun _ _ _ h => h) (fun _ _ H' => (Runs.move A rfl)) A rfl hS ?_; clear A a hR; intro a A hR
      refine onBool A (dj := 72) rfl (fun h2 => ?_) (fun h2 => ?_)
      · have g2 := h2
        try simp only [decide_eq_true_eq, decide_eq_false_iff_not, Bool.not_eq_true', Bool.not_eq_false', ne_eq, Decidable.not_not, Int.not_lt, Int.not_le] at g2
        refine dskip hR (i := 7) (dj := 72) rfl (by kernel_rfl) (fun _ _ _ h => h) rfl rfl h2 A rfl hS ?_; clear A a hR; intro a A hR
        refine dskip hR (i := 8) (dj := 72) rfl (by kernel_rfl) (fun _ _ _ h => h) rfl rfl h2 A rfl hS ?_; clear A a hR; intro a A hR
        refine dskip hR (i := 9) (dj := 72) rfl (by kernel_rfl) (fun _ _ _ h => h) rfl rfl h2 A rfl hS ?_; clear A a hR; intro a A hR
        refine dstep hR (i := 10) rfl (by kernel_rfl) (fun _ _ _ h => h) (fun _ _ H' => (Runs.pickT A rfl h2 rfl)) A rfl hS ?_; clear A a hR; intro a A hR
        refine dstep hR (i := 11) rfl (by kernel_rfl) (fun _ _ _ h => h) (fun _ _ H' => (Runs.bneq A rfl rfl (by kernel_rfl))) A rfl hS ?_; clear A a hR; intro a A hR
        refine dstep hR (i := 12) rfl (by kernel_rfl) (fun _ _ _ h => h) (fun _ _ H' => (Runs.move A rfl)) A rfl hS ?_; clear A a hR; intro a A hR
        refine dstepG hR (i := 13) (dj := 78) rfl (by kernel_rfl) (fun _ _ _ h => h) rfl rfl (by have hh := (by assumption : decide (gerr s x = 0) = true); rw [hmz, hh]; rfl) (fun _ _ H' => (Runs.fa A rfl)) A rfl hS ?_; clear A a hR; intro a A hR
        refine dstepG hR (i := 14) (dj := 78) rfl (by kernel_rfl) (fun _ _ _ h => h) rfl rfl (by have hh := (by assumption : decide (gerr s x = 0) = true); rw [hmz, hh]; rfl) (fun _ _ H' => (Runs.ld1 A H' rfl rfl)) A rfl hS ?_; clear A a hR; intro a A hR
        refine dstepG hR (i := 15) (dj := 78) rfl (by kernel_rfl) (fun _ _ _ h => h) rfl rfl (by have hh := (by assumption : decide (gerr s x = 0) = true); rw [hmz, hh]; rfl) (fun _ _ H' => (Runs.eql A rfl rfl)) A rfl hS ?_; clear A a hR; intro a A hR
        refine dstepG hR (i := 16) (dj := 78) rfl (by kernel_rfl) (fun _ _ _ h => h) rfl rfl (by have hh := (by assumption : decide (gerr s x = 0) = true); rw [hmz, hh]; rfl) (fun _ _ H' => (Runs.move A rfl)) A rfl hS ?_; clear A a hR; intro a A hR
        refine onBool A (dj := 82) rfl (fun h3 => ?_) (fun h3 => ?_)
        · have g3 := h3
          try simp only [decide_eq_true_eq, decide_eq_false_iff_not, Bool.not_eq_true', Bool.not_eq_false', ne_eq, Decidable.not_not, Int.not_lt, Int.not_le] at g3
          refine dstepG hR (i := 17) (dj := 82) rfl (by kernel_rfl) (fun _ _ _ h => h) rfl rfl h3 (fun _ _ H' => (Runs.ldN A H' rfl rfl)) A rfl hS ?_; clear A a hR; intro a A hR
          refine dstepG hR (i := 18) (dj := 82) rfl (by kernel_rfl) (fun _ _ _ h => h) rfl rfl h3 (fun _ _ H' => (Runs.ldN A H' rfl rfl)) A rfl hS ?_; clear A a hR; intro a A hR
          refine dlist hR (i := 19) rfl (by kernel_rfl) ?_
          have hR := hR.next (i := 19) (by kernel_rfl)
          refine step_callFG (dj := 82) rfl rfl h3 A rfl rfl (c_law18_same hu3 hu1) H ?_
          rintro v13_19 a w m hm rfl A H
          have hM := hM.trans hm
          have hl1 := hl1.trans hm
          have G := G.mono hm
          have hLs := hLs.mono hm
          have hB := hB.mono hm
          have hLs2 := hLs2.mono hm
          have hB2 := hB2.mono hm
          have hos := hos.mono hm
          have hot := hot.mono hm
          have hou := hou.mono hm
          have hov := hov.mono hm
          have hI2 := hI2.mono hm
          have hids := hids.mono hm
          have hfz := hfz.mono hm
          have hu1 := hu1.mono hm
          have hu2 := hu2.mono hm
          have hu3 := hu3.mono hm
          have hL := hL.trans hm
          refine wpList_nil ?_
          clear hS; refine and_keep (H.sw hL) fun hS => ?_
          refine dstepG hR (i := 20) (dj := 82) rfl (by kernel_rfl) (fun _ _ _ h => h) rfl rfl h3 (fun _ _ H' => (Runs.not A rfl)) A rfl hS ?_; clear A a hR; intro a A hR
          refine dstepG hR (i := 21) (dj := 78) rfl (by kernel_rfl) (fun _ _ _ h => h) rfl rfl (by have hh := (by assumption : decide (gerr s x = 0) = true); rw [hmz, hh]; rfl) (fun _ _ H' => (Runs.pickT A rfl h3 rfl)) A rfl hS ?_; clear A a hR; intro a A hR
          refine dstepG hR (i := 22) (dj := 78) rfl (by kernel_rfl) (fun _ _ _ h => h) rfl rfl (by have hh := (by assumption : decide (gerr s x = 0) = true); rw [hmz, hh]; rfl) (fun _ _ H' => (Runs.move A rfl)) A rfl hS ?_; clear A a hR; intro a A hR
          refine onBool A (dj := 88) rfl (fun h4 => ?_) (fun h4 => ?_)
          · have g4 := h4
            try simp only [decide_eq_true_eq, decide_eq_false_iff_not, Bool.not_eq_true', Bool.not_eq_false', ne_eq, Decidable.not_not, Int.not_lt, Int.not_le] at g4
            refine dstepG hR (i := 23) (dj := 88) rfl (by kernel_rfl) (fun _ _ _ h => h) rfl rfl h4 (fun _ _ H' => (Runs.ldN A H' rfl rfl)) A rfl hS ?_; clear A a hR; intro a A hR
            refine dstepG hR (i := 24) (dj := 88) rfl (by kernel_rfl) (fun _ _ _ h => h) rfl rfl h4 (fun _ _ H' => (Runs.ldN A H' rfl rfl)) A rfl hS ?_; clear A a hR; intro a A hR
            refine dlist hR (i := 25) rfl (by kernel_rfl) ?_
            have hR := hR.next (i := 25) (by kernel_rfl)
            refine step_callFG (dj := 88) rfl rfl h4 A rfl rfl (c_law18_same hu3 hu2) H ?_
            rintro v13_25 a w m hm rfl A H
            have hM := hM.trans hm
            have hl1 := hl1.trans hm
            have G := G.mono hm
            have hLs := hLs.mono hm
            have hB := hB.mono hm
            have hLs2 := hLs2.mono hm
            have hB2 := hB2.mono hm
            have hos := hos.mono hm
            have hot := hot.mono hm
            have hou := hou.mono hm
            have hov := hov.mono hm
            have hI2 := hI2.mono hm
            have hids := hids.mono hm
            have hfz := hfz.mono hm
            have hu1 := hu1.mono hm
            have hu2 := hu2.mono hm
            have hu3 := hu3.mono hm
            have hL := hL.trans hm
            refine wpList_nil ?_
            clear hS; refine and_keep (H.sw hL) fun hS => ?_
            refine dstepG hR (i := 26) (dj := 88) rfl (by kernel_rfl) (fun _ _ _ h => h) rfl rfl h4 (fun _ _ H' => (Runs.not A rfl)) A rfl hS ?_; clear A a hR; intro a A hR
            refine dstepG hR (i := 27) (dj := 78) rfl (by kernel_rfl) (fun _ _ _ h => h) rfl rfl (by have hh := (by assumption : decide (gerr s x = 0) = true); rw [hmz, hh]; rfl) (fun _ _ H' => (Runs.pickT A rfl h4 rfl)) A rfl hS ?_; clear A a hR; intro a A hR
            refine dstep hR (i := 28) rfl (by kernel_rfl) (fun _ _ _ h => h) (fun _ _ H' => (Runs.pickF A rfl (by have hh := (by assumption : decide (gerr s x = 0) = true); rw [hmz, hh]; rfl) rfl)) A rfl hS ?_; clear A a hR; intro a A hR
            refine dstep hR (i := 29) rfl (by kernel_rfl) (fun _ _ _ h => h) (fun _ _ H' => (Runs.move A rfl)) A rfl hS ?_; clear A a hR; intro a A hR
            refine dstepG hR (i := 30) (dj := 95) rfl (by kernel_rfl) (fun _ _ _ h => h) rfl rfl (notT (decide_eq_true ((hor (of_decide_eq_true (by assumption : decide (gerr u x = 0) = true))).resolve_left (of_decide_eq_false (by have hh := (by assumption : (!decide (gerr u x = gerr s x ∧ gdat u x = gdat s x)) = true); rwa [Bool.not_eq_true'] at hh))))) (fun _ _ H' => (Runs.move A rfl)) A rfl hS ?_; clear A a hR; intro a A hR
            refine dstepG hR (i := 31) (dj := 95) rfl (by kernel_rfl) (fun _ _ _ h => h) rfl rfl (notT (decide_eq_true ((hor (of_decide_eq_true (by assumption : decide (gerr u x = 0) = true))).resolve_left (of_decide_eq_false (by have hh := (by assumption : (!decide (gerr u x = gerr s x ∧ gdat u x = gdat s x)) = true); rwa [Bool.not_eq_true'] at hh))))) (fun _ _ H' => (Runs.move A rfl)) A rfl hS ?_; clear A a hR; intro a A hR
            refine dstepG hR (i := 32) (dj := 95) rfl (by kernel_rfl) (fun _ _ _ h => h) rfl rfl (notT (decide_eq_true ((hor (of_decide_eq_true (by assumption : decide (gerr u x = 0) = true))).resolve_left (of_decide_eq_false (by have hh := (by assumption : (!decide (gerr u x = gerr s x ∧ gdat u x = gdat s x)) = true); rwa [Bool.not_eq_true'] at hh))))) (fun _ _ H' => (Runs.move A rfl)) A rfl hS ?_; clear A a hR; intro a A hR
            refine dstepG hR (i := 33) (dj := 95) rfl (by kernel_rfl) (fun _ _ _ h => h) rfl rfl (notT (decide_eq_true ((hor (of_decide_eq_true (by assumption : decide (gerr u x = 0) = true))).resolve_left (of_decide_eq_false (by have hh := (by assumption : (!decide (gerr u x = gerr s x ∧ gdat u x = gdat s x)) = true); rwa [Bool.not_eq_true'] at hh))))) (fun _ _ H' => (Runs.indexAddr A rfl rfl SlC.h (by omega) (by omega))) A rfl hS ?_; clear A a hR; intro a A hR
            refine dstepG hR (i := 34) (dj := 95) rfl (by kernel_rfl) (fun _ _ _ h => h) rfl rfl (notT (decide_eq_true ((hor (of_decide_eq_true (by assumption : decide (gerr u x = 0) = true))).resolve_left (of_decide_eq_false (by have hh := (by assumption : (!decide (gerr u x = gerr s x ∧ gdat u x = gdat s x)) = true); rwa [Bool.not_eq_true'] at hh))))) (fun _ _ H' => (Runs.ld1 A H' rfl (v := u64 x) (by simpa using hx1))) A rfl hS ?_; clear A a hR; intro a A hR
            refine dstepG hR (i := 37) (dj := 95) rfl (by kernel_rfl) (fun _ _ _ h => h) rfl rfl (notT (decide_eq_true ((hor (of_decide_eq_true (by assumption : decide (gerr u x = 0) = true))).resolve_left (of_decide_eq_false (by have hh := (by assumption : (!decide (gerr u x = gerr s x ∧ gdat u x = gdat s x)) = true); rwa [Bool.not_eq_true'] at hh))))) (fun _ _ H' => (Runs.fa A rfl)) A rfl hS ?_; clear A a hR; intro a A hR
            refine dstepG hR (i := 38) (dj := 95) rfl (by kernel_rfl) (fun _ _ _ h => h) rfl rfl (notT (decide_eq_true ((hor (of_decide_eq_true (by assumption : decide (gerr u x = 0) = true))).resolve_left (of_decide_eq_false (by have hh := (by assumption : (!decide (gerr u x = gerr s x ∧ gdat u x = gdat s x)) = true); rwa [Bool.not_eq_true'] at hh))))) (fun _ _ H' => (Runs.ld1 A H' rfl rfl)) A rfl hS ?_; clear A a hR; intro a A hR
            refine dlist hR (i := 35) rfl (by kernel_rfl) ?_
            have hR := hR.next (i := 35) (by kernel_rfl)
            refine step_callFG (dj := 95) rfl rfl (notT (decide_eq_true ((hor (of_decide_eq_true (by assumption : decide (gerr u x = 0) = true))).resolve_left (of_decide_eq_false (by have hh := (by assumption : (!decide (gerr u x = gerr s x ∧ gdat u x = gdat s x)) = true); rwa [Bool.not_eq_true'] at hh))))) A rfl rfl (c_law18_get hov (by omega) hvs) H ?_
            rintro v13_35 a w m hm ⟨u4, rfl, hu4⟩ A H
            have hM := hM.trans hm
            have hl1 := hl1.trans hm
            have G := G.mono hm
            have hLs := hLs.mono hm
            have hB := hB.mono hm
            have hLs2 := hLs2.mono hm
            have hB2 := hB2.mono hm
            have hos := hos.mono hm
            have hot := hot.mono hm
            have hou := hou.mono hm
            have hov := hov.mono hm
            have hI2 := hI2.mono hm
            have hids := hids.mono hm
            have hfz := hfz.mono hm
            have hu1 := hu1.mono hm
            have hu2 := hu2.mono hm
            have hu3 := hu3.mono hm
            have hL := hL.trans hm
            refine wpList_nil ?_
            clear hS; refine and_keep (H.sw hL) fun hS => ?_
            refine dstepG hR (i := 36) (dj := 95) rfl (by kernel_rfl) (fun _ _ _ h => h) rfl rfl (notT (decide_eq_true ((hor (of_decide_eq_true (by assumption : decide (gerr u x = 0) = true))).resolve_left (of_decide_eq_false (by have hh := (by assumption : (!decide (gerr u x = gerr s x ∧ gdat u x = gdat s x)) = true); rwa [Bool.not_eq_true'] at hh))))) (fun _ _ H' => (Runs.field1 (ty := 40) A rfl FldC.h (by kernel_rfl) TyC.h rfl)) A rfl hS ?_; clear A a hR; intro a A hR
            refine dstepG hR (i := 39) (dj := 95) rfl (by kernel_rfl) (fun _ _ _ h => h) rfl rfl (notT (decide_eq_true ((hor (of_decide_eq_true (by assumption : decide (gerr u x = 0) = true))).resolve_left (of_decide_eq_false (by have hh := (by assumption : (!decide (gerr u x = gerr s x ∧ gdat u x = gdat s x)) = true); rwa [Bool.not_eq_true'] at hh))))) (fun _ _ H' => (Runs.neq A rfl rfl)) A rfl hS ?_; clear A a hR; intro a A hR
            refine dstep hR (i := 40) rfl (by kernel_rfl) (fun _ _ _ h => h) (fun _ _ H' => (Runs.pickF A rfl (notT (decide_eq_true ((hor (of_decide_eq_true (by assumption : decide (gerr u x = 0) = true))).resolve_left (of_decide_eq_false (by have hh := (by assumption : (!decide (gerr u x = gerr s x ∧ gdat u x = gdat s x)) = true); rwa [Bool.not_eq_true'] at hh))))) rfl)) A rfl hS ?_; clear A a hR; intro a A hR
            refine dstep hR (i := 41) rfl (by kernel_rfl) (fun _ _ _ h => h) (fun _ _ H' => (Runs.move A rfl)) A rfl hS ?_; clear A a hR; intro a A hR
            refine dstepG hR (i := 42) (dj := 107) rfl (by kernel_rfl) (fun _ _ _ h => h) rfl rfl (decide_eq_false fun h => h (by rw [hue, hve]; exact merge_same hss hts x)) (fun _ _ H' => (Runs.move A rfl)) A rfl hS ?_; clear A a hR; intro a A hR
            refine dstepG hR (i := 43) (dj := 107) rfl (by kernel_rfl) (fun _ _ _ h => h) rfl rfl (decide_eq_false fun h => h (by rw [hue, hve]; exact merge_same hss hts x)) (fun _ _ H' => (Runs.move A rfl)) A rfl hS ?_; clear A a hR; intro a A hR
            refine dstepG hR (i := 44) (dj := 107) rfl (by kernel_rfl) (fun _ _ _ h => h) rfl rfl (decide_eq_false fun h => h (by rw [hue, hve]; exact merge_same hss hts x)) (fun _ _ H' => (Runs.move A rfl)) A rfl hS ?_; clear A a hR; intro a A hR
            refine dstepG hR (i := 45) (dj := 107) rfl (by kernel_rfl) (fun _ _ _ h => h) rfl rfl (decide_eq_false fun h => h (by rw [hue, hve]; exact merge_same hss hts x)) (fun _ _ H' => (Runs.indexAddr A rfl rfl SlC.h (by omega) (by omega))) A rfl hS ?_; clear A a hR; intro a A hR
            refine dstepG hR (i := 46) (dj := 107) rfl (by kernel_rfl) (fun _ _ _ h => h) rfl rfl (decide_eq_false fun h => h (by rw [hue, hve]; exact merge_same hss hts x)) (fun _ _ H' => (Runs.ld1 A H' rfl (v := u64 x) (by simpa using hx1))) A rfl hS ?_; clear A a hR; intro a A hR
            refine dlist hR (i := 47) rfl (by kernel_rfl) ?_
            have hR := hR.next (i := 47) (by kernel_rfl)
            refine step_callFG (dj := 107) rfl rfl (decide_eq_false fun h => h (by rw [hue, hve]; exact merge_same hss hts x)) A rfl rfl (c_wireloomref18_Find hou) H ?_
            rintro v13_47 a w m hm rfl A H
            have hM := hM.trans hm
            have hl1 := hl1.trans hm
            have G := G.mono hm
            have hLs := hLs.mono hm
            have hB := hB.mono hm
            have hLs2 := hLs2.mono hm
            have hB2 := hB2.mono hm
            have hos := hos.mono hm
            have hot := hot.mono hm
            have hou := hou.mono hm
            have hov := hov.mono hm
            have hI2 := hI2.mono hm
            have hids := hids.mono hm
            have hfz := hfz.mono hm
            have hu1 := hu1.mono hm
            have hu2 := hu2.mono hm
            have hu3 := hu3.mono hm
            have hL := hL.trans hm
            refine wpList_nil ?_
            clear hS; refine and_keep (H.sw hL) fun hS => ?_
            refine dstepG hR (i := 48) (dj := 107) rfl (by kernel_rfl) (fun _ _ _ h => h) rfl rfl (decide_eq_false fun h => h (by rw [hue, hve]; exact merge_same hss hts x)) (fun _ _ H' => (Runs.lss A rfl rfl)) A rfl hS ?_; clear A a hR; intro a A hR
            refine dstep hR (i := 49) rfl (by kernel_rfl) (fun _ _ _ h => h) (fun _ _ H' => (Runs.pickF A rfl (decide_eq_false fun h => h (by rw [hue, hve]; exact merge_same hss hts x)) rfl)) A rfl hS ?_; clear A a hR; intro a A hR
            refine draw_done hR (by kernel_rfl) ?_
            clear hS hL hR
            refine cond_false A rfl (decide_eq_false (Int.not_lt.2 (by rw [hue]; exact merge_has hss hts hxm))) ?_
            refine wp_skip ?_
            refine wp_region_lit ?_
            refine step (Runs.move A rfl) A rfl ?_; clear A a; intro a A
            refine step (Runs.add A rfl rfl (by omega)) A rfl ?_; clear A a; intro a A
            refine step (Runs.assign A rfl) A rfl ?_; clear A a; intro a A
            refine wpList_nil ?_
            exact ⟨_, by omega, i + 1, m, rfl, by omega, hl1, (Fr.cons A rfl (Fr.cons A rfl (Fr.cons A rfl (Fr.cons A rfl (Fr.cons A rfl (Fr.cons A rfl (Fr.cons A rfl (Fr.nil A)))))))), H.subH⟩
          · have g4 := h4
            try simp only [decide_eq_true_eq, decide_eq_false_iff_not, Bool.not_eq_true', Bool.not_eq_false', ne_eq, Decidable.not_not, Int.not_lt, Int.not_le] at g4
            refine dskip hR (i := 23) (dj := 88) rfl (by kernel_rfl) (fun _ _ _ h => h) rfl rfl h4 A rfl hS ?_; clear A a hR; intro a A hR
            refine dskip hR (i := 24) (dj := 88) rfl (by kernel_rfl) (fun _ _ _ h => h) rfl rfl h4 A rfl hS ?_; clear A a hR; intro a A hR
            refine dskip hR (i := 25) (dj := 88) rfl (by kernel_rfl) (fun _ _ _ h => h) rfl rfl h4 A rfl hS ?_; clear A a hR; intro a A hR
            refine dskip hR (i := 26) (dj := 88) rfl (by kernel_rfl) (fun _ _ _ h => h) rfl rfl h4 A rfl hS ?_; clear A a hR; intro a A hR
            refine dstepG hR (i := 27) (dj := 78) rfl (by kernel_rfl) (fun _ _ _ h => h) rfl rfl (by have hh := (by assumption : decide (gerr s x = 0) = true); rw [hmz, hh]; rfl) (fun _ _ H' => (Runs.pickF A rfl h4 rfl)) A rfl hS ?_; clear A a hR; intro a A hR
            refine dstep hR (i := 28) rfl (by kernel_rfl) (fun _ _ _ h => h) (fun _ _ H' => (Runs.pickF A rfl (by have hh := (by assumption : decide (gerr s x = 0) = true); rw [hmz, hh]; rfl) rfl)) A rfl hS ?_; clear A a hR; intro a A hR
            refine dstep hR (i := 29) rfl (by kernel_rfl) (fun _ _ _ h => h) (fun _ _ H' => (Runs.move A rfl)) A rfl hS ?_; clear A a hR; intro a A hR
            refine dstepG hR (i := 30) (dj := 95) rfl (by kernel_rfl) (fun _ _ _ h => h) rfl rfl rfl (fun _ _ H' => (Runs.move A rfl)) A rfl hS ?_; clear A a hR; intro a A hR
            refine dstepG hR (i := 31) (dj := 95) rfl (by kernel_rfl) (fun _ _ _ h => h) rfl rfl rfl (fun _ _ H' => (Runs.move A rfl)) A rfl hS ?_; clear A a hR; intro a A hR
            refine dstepG hR (i := 32) (dj := 95) rfl (by kernel_rfl) (fun _ _ _ h => h) rfl rfl rfl (fun _ _ H' => (Runs.move A rfl)) A rfl hS ?_; clear A a hR; intro a A hR
            refine dstepG hR (i := 33) (dj := 95) rfl (by kernel_rfl) (fun _ _ _ h => h) rfl rfl rfl (fun _ _ H' => (Runs.indexAddr A rfl rfl SlC.h (by omega) (by omega))) A rfl hS ?_; clear A a hR; intro a A hR
            refine dstepG hR (i := 34) (dj := 95) rfl (by kernel_rfl) (fun _ _ _ h => h) rfl rfl rfl (fun _ _ H' => (Runs.ld1 A H' rfl (v := u64 x) (by simpa using hx1))) A rfl hS ?_; clear A a hR; intro a A hR
            refine dstepG hR (i := 37) (dj := 95) rfl (by kernel_rfl) (fun _ _ _ h => h) rfl rfl rfl (fun _ _ H' => (Runs.fa A rfl)) A rfl hS ?_; clear A a hR; intro a A hR
            refine dstepG hR (i := 38) (dj := 95) rfl (by kernel_rfl) (fun _ _ _ h => h) rfl rfl rfl (fun _ _ H' => (Runs.ld1 A H' rfl rfl)) A rfl hS ?_; clear A a hR; intro a A hR
            refine dlist hR (i := 35) rfl (by kernel_rfl) ?_
            have hR := hR.next (i := 35) (by kernel_rfl)
            refine step_callFG (dj := 95) rfl rfl rfl A rfl rfl (c_law18_get hov (by omega) hvs) H ?_
            rintro v13_35 a w m hm ⟨u4, rfl, hu4⟩ A H
            have hM := hM.trans hm
            have hl1 := hl1.trans hm
            have G := G.mono hm
            have hLs := hLs.mono hm
            have hB := hB.mono hm
            have hLs2 := hLs2.mono hm
            have hB2 := hB2.mono hm
            have hos := hos.mono hm
            have hot := hot.mono hm
            have hou := hou.mono hm
            have hov := hov.mono hm
            have hI2 := hI2.mono hm
            have hids := hids.mono hm
            have hfz := hfz.mono hm
            have hu1 := hu1.mono hm
            have hu2 := hu2.mono hm
            have hu3 := hu3.mono hm
            have hL := hL.trans hm
            refine wpList_nil ?_
            clear hS; refine and_keep (H.sw hL) fun hS => ?_
            refine dstepG hR (i := 36) (dj := 95) rfl (by kernel_rfl) (fun _ _ _ h => h) rfl rfl rfl (fun _ _ H' => (Runs.field1 (ty := 40) A rfl FldC.h (by kernel_rfl) TyC.h rfl)) A rfl hS ?_; clear A a hR; intro a A hR
            refine dstepG hR (i := 39) (dj := 95) rfl (by kernel_rfl) (fun _ _ _ h => h) rfl rfl rfl (fun _ _ H' => (Runs.neq A rfl rfl)) A rfl hS ?_; clear A a hR; intro a A hR
            refine dstep hR (i := 40) rfl (by kernel_rfl) (fun _ _ _ h => h) (fun _ _ H' => (Runs.pickF A rfl rfl rfl)) A rfl hS ?_; clear A a hR; intro a A hR
            refine dstep hR (i := 41) rfl (by kernel_rfl) (fun _ _ _ h => h) (fun _ _ H' => (Runs.move A rfl)) A rfl hS ?_; clear A a hR; intro a A hR
            refine dstepG hR (i := 42) (dj := 107) rfl (by kernel_rfl) (fun _ _ _ h => h) rfl rfl (decide_eq_false fun h => h (by rw [hue, hve]; exact merge_same hss hts x)) (fun _ _ H' => (Runs.move A rfl)) A rfl hS ?_; clear A a hR; intro a A hR
            refine dstepG hR (i := 43) (dj := 107) rfl (by kernel_rfl) (fun _ _ _ h => h) rfl rfl (decide_eq_false fun h => h (by rw [hue, hve]; exact merge_same hss hts x)) (fun _ _ H' => (Runs.move A rfl)) A rfl hS ?_; clear A a hR; intro a A hR
            refine dstepG hR (i := 44) (dj := 107) rfl (by kernel_rfl) (fun _ _ _ h => h) rfl rfl (decide_eq_false fun h => h (by rw [hue, hve]; exact merge_same hss hts x)) (fun _ _ H' => (Runs.move A rfl)) A rfl hS ?_; clear A a hR; intro a A hR
            refine dstepG hR (i := 45) (dj := 107) rfl (by kernel_rfl) (fun _ _ _ h => h) rfl rfl (decide_eq_false fun h => h (by rw [hue, hve]; exact merge_same hss hts x)) (fun _ _ H' => (Runs.indexAddr A rfl rfl SlC.h (by omega) (by omega))) A rfl hS ?_; clear A a hR; intro a A hR
            refine dstepG hR (i := 46) (dj := 107) rfl (by kernel_rfl) (fun _ _ _ h => h) rfl rfl (decide_eq_false fun h => h (by rw [hue, hve]; exact merge_same hss hts x)) (fun _ _ H' => (Runs.ld1 A H' rfl (v := u64 x) (by simpa using hx1))) A rfl hS ?_; clear A a hR; intro a A hR
            refine dlist hR (i := 47) rfl (by kernel_rfl) ?_
            have hR := hR.next (i := 47) (by kernel_rfl)
            refine step_callFG (dj := 107) rfl rfl (decide_eq_false fun h => h (by rw [hue, hve]; exact merge_same hss hts x)) A rfl rfl (c_wireloomref18_Find hou) H ?_
            rintro v13_47 a w m hm rfl A H
            have hM := hM.trans hm
            have hl1 := hl1.trans hm
            have G := G.mono hm
            have hLs := hLs.mono hm
            have hB := hB.mono hm
            have hLs2 := hLs2.mono hm
            have hB2 := hB2.mono hm
            have hos := hos.mono hm
            have hot := hot.mono hm
            have hou := hou.mono hm
            have hov := hov.mono hm
            have hI2 := hI2.mono hm
            have hids := hids.mono hm
            have hfz := hfz.mono hm
            have hu1 := hu1.mono hm
            have hu2 := hu2.mono hm
            have hu3 := hu3.mono hm
            have hL := hL.trans hm
            refine wpList_nil ?_
            clear hS; refine and_keep (H.sw hL) fun hS => ?_
            refine dstepG hR (i := 48) (dj := 107) rfl (by kernel_rfl) (fun _ _ _ h => h) rfl rfl (decide_eq_false fun h => h (by rw [hue, hve]; exact merge_same hss hts x)) (fun _ _ H' => (Runs.lss A rfl rfl)) A rfl hS ?_; clear A a hR; intro a A hR
            refine dstep hR (i := 49) rfl (by kernel_rfl) (fun _ _ _ h => h) (fun _ _ H' => (Runs.pickF A rfl (decide_eq_false fun h => h (by rw [hue, hve]; exact merge_same hss hts x)) rfl)) A rfl hS ?_; clear A a hR; intro a A hR
            refine draw_done hR (by kernel_rfl) ?_
            clear hS hL hR
            refine cond_false A rfl (decide_eq_false (Int.not_lt.2 (by rw [hue]; exact merge_has hss hts hxm))) ?_
            refine wp_skip ?_
            refine wp_region_lit ?_
            refine step (Runs.move A rfl) A rfl ?_; clear A a; intro a A
            refine step (Runs.add A rfl rfl (by omega)) A rfl ?_; clear A a; intro a A
            refine step (Runs.assign A rfl) A rfl ?_; clear A a; intro a A
            refine wpList_nil ?_
            exact ⟨_, by omega, i + 1, m, rfl, by omega, hl1, (Fr.cons A rfl (Fr.cons A rfl (Fr.cons A rfl (Fr.cons A rfl (Fr.cons A rfl (Fr.cons A rfl (Fr.cons A rfl (Fr.nil A)))))))), H.subH⟩
        · have g3 := h3
          try simp only [decide_eq_true_eq, decide_eq_false_iff_not, Bool.not_eq_true', Bool.not_eq_false', ne_eq, Decidable.not_not, Int.not_lt, Int.not_le] at g3
          refine dskip hR (i := 17) (dj := 82) rfl (by kernel_rfl) (fun _ _ _ h => h) rfl rfl h3 A rfl hS ?_; clear A a hR; intro a A hR
          refine dskip hR (i := 18) (dj := 82) rfl (by kernel_rfl) (fun _ _ _ h => h) rfl rfl h3 A rfl hS ?_; clear A a hR; intro a A hR
          refine dskip hR (i := 19) (dj := 82) rfl (by kernel_rfl) (fun _ _ _ h => h) rfl rfl h3 A rfl hS ?_; clear A a hR; intro a A hR
          refine dskip hR (i := 20) (dj := 82) rfl (by kernel_rfl) (fun _ _ _ h => h) rfl rfl h3 A rfl hS ?_; clear A a hR; intro a A hR
          refine dstepG hR (i := 21) (dj := 78) rfl (by kernel_rfl) (fun _ _ _ h => h) rfl rfl (by have hh := (by assumption : decide (gerr s x = 0) = true); rw [hmz, hh]; rfl) (fun _ _ H' => (Runs.pickF A rfl h3 rfl)) A rfl hS ?_; clear A a hR; intro a A hR
          refine dstepG hR (i := 22) (dj := 78) rfl (by kernel_rfl) (fun _ _ _ h => h) rfl rfl (by have hh := (by assumption : decide (gerr s x = 0) = true); rw [hmz, hh]; rfl) (fun _ _ H' => (Runs.move A rfl)) A rfl hS ?_; clear A a hR; intro a A hR
          refine dskip hR (i := 23) (dj := 88) rfl (by kernel_rfl) (fun _ _ _ h => h) rfl rfl rfl A rfl hS ?_; clear A a hR; intro a A hR
          refine dskip hR (i := 24) (dj := 88) rfl (by kernel_rfl) (fun _ _ _ h => h) rfl rfl rfl A rfl hS ?_; clear A a hR; intro a A hR
          refine dskip hR (i := 25) (dj := 88) rfl (by kernel_rfl) (fun _ _ _ h => h) rfl rfl rfl A rfl hS ?_; clear A a hR; intro a A hR
          refine dskip hR (i := 26) (dj := 88) rfl (by kernel_rfl) (fun _ _ _ h => h) rfl rfl rfl A rfl hS ?_; clear A a hR; intro a A hR
          refine dstepG hR (i := 27) (dj := 78) rfl (by kernel_rfl) (fun _ _ _ h => h) rfl rfl (by have hh := (by assumption : decide (gerr s x = 0) = true); rw [hmz, hh]; rfl) (fun _ _ H' => (Runs.pickF A rfl rfl rfl)) A rfl hS ?_; clear A a hR; intro a A hR
          refine dstep hR (i := 28) rfl (by kernel_rfl) (fun _ _ _ h => h) (fun _ _ H' => (Runs.pickF A rfl (by have hh := (by assumption : decide (gerr s x = 0) = true); rw [hmz, hh]; rfl) rfl)) A rfl hS ?_; clear A a hR; intro a A hR
          refine dstep hR (i := 29) rfl (by kernel_rfl) (fun _ _ _ h => h) (fun _ _ H' => (Runs.move A rfl)) A rfl hS ?_; clear A a hR; intro a A hR
          refine dstepG hR (i := 30) (dj := 95) rfl (by kernel_rfl) (fun _ _ _ h => h) rfl rfl rfl (fun _ _ H' => (Runs.move A rfl)) A rfl hS ?_; clear A a hR; intro a A hR
          refine dstepG hR (i := 31) (dj := 95) rfl (by kernel_rfl) (fun _ _ _ h => h) rfl rfl rfl (fun _ _ H' => (Runs.move A rfl)) A rfl hS ?_; clear A a hR; intro a A hR
          refine dstepG hR (i := 32) (dj := 95) rfl (by kernel_rfl) (fun _ _ _ h => h) rfl rfl rfl (fun _ _ H' => (Runs.move A rfl)) A rfl hS ?_; clear A a hR; intro a A hR
          refine dstepG hR (i := 33) (dj := 95) rfl (by kernel_rfl) (fun _ _ _ h => h) rfl rfl rfl (fun _ _ H' => (Runs.indexAddr A rfl rfl SlC.h (by omega) (by omega))) A rfl hS ?_; clear A a hR; intro a A hR
          refine dstepG hR (i := 34) (dj := 95) rfl (by kernel_rfl) (fun _ _ _ h => h) rfl rfl rfl (fun _ _ H' => (Runs.ld1 A H' rfl (v := u64 x) (by simpa using hx1))) A rfl hS ?_; clear A a hR; intro a A hR
          refine dstepG hR (i := 37) (dj := 95) rfl (by kernel_rfl) (fun _ _ _ h => h) rfl rfl rfl (fun _ _ H' => (Runs.fa A rfl)) A rfl hS ?_; clear A a hR; intro a A hR
          refine dstepG hR (i := 38) (dj := 95) rfl (by kernel_rfl) (fun _ _ _ h => h) rfl rfl rfl (fun _ _ H' => (Runs.ld1 A H' rfl rfl)) A rfl hS ?_; clear A a hR; intro a A hR
          refine dlist hR (i := 35) rfl (by kernel_rfl) ?_
          have hR := hR.next (i := 35) (by kernel_rfl)
          refine step_callFG (dj := 95) rfl rfl rfl A rfl rfl (c_law18_get hov (by omega) hvs) H ?_
          rintro v13_35 a w m hm ⟨u4, rfl, hu4⟩ A H
          have hM := hM.trans hm
          have hl1 := hl1.trans hm
          have G := G.mono hm
          have hLs := hLs.mono hm
          have hB := hB.mono hm
          have hLs2 := hLs2.mono hm
          have hB2 := hB2.mono hm
          have hos := hos.mono hm
          have hot := hot.mono hm
          have hou := hou.mono hm
          have hov := hov.mono hm
          have hI2 := hI2.mono hm
          have hids := hids.mono hm
          have hfz := hfz.mono hm
          have hu1 := hu1.mono hm
          have hu2 := hu2.mono hm
          have hu3 := hu3.mono hm
          have hL := hL.trans hm
          refine wpList_nil ?_
          clear hS; refine and_keep (H.sw hL) fun hS => ?_
          refine dstepG hR (i := 36) (dj := 95) rfl (by kernel_rfl) (fun _ _ _ h => h) rfl rfl rfl (fun _ _ H' => (Runs.field1 (ty := 40) A rfl FldC.h (by kernel_rfl) TyC.h rfl)) A rfl hS ?_; clear A a hR; intro a A hR
          refine dstepG hR (i := 39) (dj := 95) rfl (by kernel_rfl) (fun _ _ _ h => h) rfl rfl rfl (fun _ _ H' => (Runs.neq A rfl rfl)) A rfl hS ?_; clear A a hR; intro a A hR
          refine dstep hR (i := 40) rfl (by kernel_rfl) (fun _ _ _ h => h) (fun _ _ H' => (Runs.pickF A rfl rfl rfl)) A rfl hS ?_; clear A a hR; intro a A hR
          refine dstep hR (i := 41) rfl (by kernel_rfl) (fun _ _ _ h => h) (fun _ _ H' => (Runs.move A rfl)) A rfl hS ?_; clear A a hR; intro a A hR
          refine dstepG hR (i := 42) (dj := 107) rfl (by kernel_rfl) (fun _ _ _ h => h) rfl rfl (decide_eq_false fun h => h (by rw [hue, hve]; exact merge_same hss hts x)) (fun _ _ H' => (Runs.move A rfl)) A rfl hS ?_; clear A a hR; intro a A hR
          refine dstepG hR (i := 43) (dj := 107) rfl (by kernel_rfl) (fun _ _ _ h => h) rfl rfl (decide_eq_false fun h => h (by rw [hue, hve]; exact merge_same hss hts x)) (fun _ _ H' => (Runs.move A rfl)) A rfl hS ?_; clear A a hR; intro a A hR
          refine dstepG hR (i := 44) (dj := 107) rfl (by kernel_rfl) (fun _ _ _ h => h) rfl rfl (decide_eq_false fun h => h (by rw [hue, hve]; exact merge_same hss hts x)) (fun _ _ H' => (Runs.move A rfl)) A rfl hS ?_; clear A a hR; intro a A hR
          refine dstepG hR (i := 45) (dj := 107) rfl (by kernel_rfl) (fun _ _ _ h => h) rfl rfl (decide_eq_false fun h => h (by rw [hue, hve]; exact merge_same hss hts x)) (fun _ _ H' => (Runs.indexAddr A rfl rfl SlC.h (by omega) (by omega))) A rfl hS ?_; clear A a hR; intro a A hR
          refine dstepG hR (i := 46) (dj := 107) rfl (by kernel_rfl) (fun _ _ _ h => h) rfl rfl (decide_eq_false fun h => h (by rw [hue, hve]; exact merge_same hss hts x)) (fun _ _ H' => (Runs.ld1 A H' rfl (v := u64 x) (by simpa using hx1))) A rfl hS ?_; clear A a hR; intro a A hR
          refine dlist hR (i := 47) rfl (by kernel_rfl) ?_
          have hR := hR.next (i := 47) (by kernel_rfl)
          refine step_callFG (dj := 107) rfl rfl (decide_eq_false fun h => h (by rw [hue, hve]; exact merge_same hss hts x)) A rfl rfl (c_wireloomref18_Find hou) H ?_
          rintro v13_47 a w m hm rfl A H
          have hM := hM.trans hm
          have hl1 := hl1.trans hm
          have G := G.mono hm
          have hLs := hLs.mono hm
          have hB := hB.mono hm
          have hLs2 := hLs2.mono hm
          have hB2 := hB2.mono hm
          have hos := hos.mono hm
          have hot := hot.mono hm
          have hou := hou.mono hm
          have hov := hov.mono hm
          have hI2 := hI2.mono hm
          have hids := hids.mono hm
          have hfz := hfz.mono hm
          have hu1 := hu1.mono hm
          have hu2 := hu2.mono hm
          have hu3 := hu3.mono hm
          have hL := hL.trans hm
          refine wpList_nil ?_
          clear hS; refine and_keep (H.sw hL) fun hS => ?_
          refine dstepG hR (i := 48) (dj := 107) rfl (by kernel_rfl) (fun _ _ _ h => h) rfl rfl (decide_eq_false fun h => h (by rw [hue, hve]; exact merge_same hss hts x)) (fun _ _ H' => (Runs.lss A rfl rfl)) A rfl hS ?_; clear A a hR; intro a A hR
          refine dstep hR (i := 49) rfl (by kernel_rfl) (fun _ _ _ h => h) (fun _ _ H' => (Runs.pickF A rfl (decide_eq_false fun h => h (by rw [hue, hve]; exact merge_same hss hts x)) rfl)) A rfl hS ?_; clear A a hR; intro a A hR
          refine draw_done hR (by kernel_rfl) ?_
          clear hS hL hR
          refine cond_false A rfl (decide_eq_false (Int.not_lt.2 (by rw [hue]; exact merge_has hss hts hxm))) ?_
          refine wp_skip ?_
          refine wp_region_lit ?_
          refine step (Runs.move A rfl) A rfl ?_; clear A a; intro a A
          refine step (Runs.add A rfl rfl (by omega)) A rfl ?_; clear A a; intro a A
          refine step (Runs.assign A rfl) A rfl ?_; clear A a; intro a A
          refine wpList_nil ?_
          exact ⟨_, by omega, i + 1, m, rfl, by omega, hl1, (Fr.cons A rfl (Fr.cons A rfl (Fr.cons A rfl (Fr.cons A rfl (Fr.cons A rfl (Fr.cons A rfl (Fr.cons A rfl (Fr.nil A)))))))), H.subH⟩
      · have g2 := h2
        try simp only [decide_eq_true_eq, decide_eq_false_iff_not, Bool.not_eq_true', Bool.not_eq_false', ne_eq, Decidable.not_not, Int.not_lt, Int.not_le] at g2
        refine dstepG hR (i := 7) (dj := 72) rfl (by kernel_rfl) (fun _ _ _ h => h) rfl rfl h2 (fun _ _ H' => (Runs.fa A rfl)) A rfl hS ?_; clear A a hR; intro a A hR
        refine dstepG hR (i := 8) (dj := 72) rfl (by kernel_rfl) (fun _ _ _ h => h) rfl rfl h2 (fun _ _ H' => (Runs.ld1 A H' rfl rfl)) A rfl hS ?_; clear A a hR; intro a A hR
        refine dstepG hR (i := 9) (dj := 72) rfl (by kernel_rfl) (fun _ _ _ h => h) rfl rfl h2 (fun _ _ H' => (Runs.eql A rfl rfl)) A rfl hS ?_; clear A a hR; intro a A hR
        refine dstep hR (i := 10) rfl (by kernel_rfl) (fun _ _ _ h => h) (fun _ _ H' => (Runs.pickF A rfl h2 rfl)) A rfl hS ?_; clear A a hR; intro a A hR
        refine dstep hR (i := 11) rfl (by kernel_rfl) (fun _ _ _ h => h) (fun _ _ H' => (Runs.bneq A rfl rfl (by kernel_rfl))) A rfl hS ?_; clear A a hR; intro a A hR
        refine dstep hR (i := 12) rfl (by kernel_rfl) (fun _ _ _ h => h) (fun _ _ H' => (Runs.move A rfl)) A rfl hS ?_; clear A a hR; intro a A hR
        refine dstepG hR (i := 13) (dj := 78) rfl (by kernel_rfl) (fun _ _ _ h => h) rfl rfl (by have hh := (by assumption : decide (gerr s x = 0) = false); rw [hmz, hh, Bool.false_or]; cases decide (gerr t x = 0) <;> rfl) (fun _ _ H' => (Runs.fa A rfl)) A rfl hS ?_; clear A a hR; intro a A hR
        refine dstepG hR (i := 14) (dj := 78) rfl (by kernel_rfl) (fun _ _ _ h => h) rfl rfl (by have hh := (by assumption : decide (gerr s x = 0) = false); rw [hmz, hh, Bool.false_or]; cases decide (gerr t x = 0) <;> rfl) (fun _ _ H' => (Runs.ld1 A H' rfl rfl)) A rfl hS ?_; clear A a hR; intro a A hR
        refine dstepG hR (i := 15) (dj := 78) rfl (by kernel_rfl) (fun _ _ _ h => h) rfl rfl (by have hh := (by assumption : decide (gerr s x = 0) = false); rw [hmz, hh, Bool.false_or]; cases decide (gerr t x = 0) <;> rfl) (fun _ _ H' => (Runs.eql A rfl rfl)) A rfl hS ?_; clear A a hR; intro a A hR
        refine dstepG hR (i := 16) (dj := 78) rfl (by kernel_rfl) (fun _ _ _ h => h) rfl rfl (by have hh := (by assumption : decide (gerr s x = 0) = false); rw [hmz, hh, Bool.false_or]; cases decide (gerr t x = 0) <;> rfl) (fun _ _ H' => (Runs.move A rfl)) A rfl hS ?_; clear A a hR; intro a A hR
        refine onBool A (dj := 82) rfl (fun h5 => ?_) (fun h5 => ?_)
        · have g5 := h5
          try simp only [decide_eq_true_eq, decide_eq_false_iff_not, Bool.not_eq_true', Bool.not_eq_false', ne_eq, Decidable.not_not, Int.not_lt, Int.not_le] at g5
          refine dstepG hR (i := 17) (dj := 82) rfl (by kernel_rfl) (fun _ _ _ h => h) rfl rfl h5 (fun _ _ H' => (Runs.ldN A H' rfl rfl)) A rfl hS ?_; clear A a hR; intro a A hR
          refine dstepG hR (i := 18) (dj := 82) rfl (by kernel_rfl) (fun _ _ _ h => h) rfl rfl h5 (fun _ _ H' => (Runs.ldN A H' rfl rfl)) A rfl hS ?_; clear A a hR; intro a A hR
          refine dlist hR (i := 19) rfl (by kernel_rfl) ?_
          have hR := hR.next (i := 19) (by kernel_rfl)
          refine step_callFG (dj := 82) rfl rfl h5 A rfl rfl (c_law18_same hu3 hu1) H ?_
          rintro v13_19 a w m hm rfl A H
          have hM := hM.trans hm
          have hl1 := hl1.trans hm
          have G := G.mono hm
          have hLs := hLs.mono hm
          have hB := hB.mono hm
          have hLs2 := hLs2.mono hm
          have hB2 := hB2.mono hm
          have hos := hos.mono hm
          have hot := hot.mono hm
          have hou := hou.mono hm
          have hov := hov.mono hm
          have hI2 := hI2.mono hm
          have hids := hids.mono hm
          have hfz := hfz.mono hm
          have hu1 := hu1.mono hm
          have hu2 := hu2.mono hm
          have hu3 := hu3.mono hm
          have hL := hL.trans hm
          refine wpList_nil ?_
          clear hS; refine and_keep (H.sw hL) fun hS => ?_
          refine dstepG hR (i := 20) (dj := 82) rfl (by kernel_rfl) (fun _ _ _ h => h) rfl rfl h5 (fun _ _ H' => (Runs.not A rfl)) A rfl hS ?_; clear A a hR; intro a A hR
          refine dstepG hR (i := 21) (dj := 78) rfl (by kernel_rfl) (fun _ _ _ h => h) rfl rfl (by have hh := (by assumption : decide (gerr s x = 0) = false); rw [hmz, hh, Bool.false_or]; cases decide (gerr t x = 0) <;> rfl) (fun _ _ H' => (Runs.pickT A rfl h5 rfl)) A rfl hS ?_; clear A a hR; intro a A hR
          refine dstepG hR (i := 22) (dj := 78) rfl (by kernel_rfl) (fun _ _ _ h => h) rfl rfl (by have hh := (by assumption : decide (gerr s x = 0) = false); rw [hmz, hh, Bool.false_or]; cases decide (gerr t x = 0) <;> rfl) (fun _ _ H' => (Runs.move A rfl)) A rfl hS ?_; clear A a hR; intro a A hR
          refine onBool A (dj := 88) rfl (fun h6 => ?_) (fun h6 => ?_)
          · have g6 := h6
            try simp only [decide_eq_true_eq, decide_eq_false_iff_not, Bool.not_eq_true', Bool.not_eq_false', ne_eq, Decidable.not_not, Int.not_lt, Int.not_le] at g6
            refine dstepG hR (i := 23) (dj := 88) rfl (by kernel_rfl) (fun _ _ _ h => h) rfl rfl h6 (fun _ _ H' => (Runs.ldN A H' rfl rfl)) A rfl hS ?_; clear A a hR; intro a A hR
            refine dstepG hR (i := 24) (dj := 88) rfl (by kernel_rfl) (fun _ _ _ h => h) rfl rfl h6 (fun _ _ H' => (Runs.ldN A H' rfl rfl)) A rfl hS ?_; clear A a hR; intro a A hR
            refine dlist hR (i := 25) rfl (by kernel_rfl) ?_
            have hR := hR.next (i := 25) (by kernel_rfl)
            refine step_callFG (dj := 88) rfl rfl h6 A rfl rfl (c_law18_same hu3 hu2) H ?_
            rintro v13_25 a w m hm rfl A H
            have hM := hM.trans hm
            have hl1 := hl1.trans hm
            have G := G.mono hm
            have hLs := hLs.mono hm
            have hB := hB.mono hm
            have hLs2 := hLs2.mono hm
            have hB2 := hB2.mono hm
            have hos := hos.mono hm
            have hot := hot.mono hm
            have hou := hou.mono hm
            have hov := hov.mono hm
            have hI2 := hI2.mono hm
            have hids := hids.mono hm
            have hfz := hfz.mono hm
            have hu1 := hu1.mono hm
            have hu2 := hu2.mono hm
            have hu3 := hu3.mono hm
            have hL := hL.trans hm
            refine wpList_nil ?_
            clear hS; refine and_keep (H.sw hL) fun hS => ?_
            refine dstepG hR (i := 26) (dj := 88) rfl (by kernel_rfl) (fun _ _ _ h => h) rfl rfl h6 (fun _ _ H' => (Runs.not A rfl)) A rfl hS ?_; clear A a hR; intro a A hR
            refine dstepG hR (i := 27) (dj := 78) rfl (by kernel_rfl) (fun _ _ _ h => h) rfl rfl (by have hh := (by assumption : decide (gerr s x = 0) = false); rw [hmz, hh, Bool.false_or]; cases decide (gerr t x = 0) <;> rfl) (fun _ _ H' => (Runs.pickT A rfl h6 rfl)) A rfl hS ?_; clear A a hR; intro a A hR
            refine dstep hR (i := 28) rfl (by kernel_rfl) (fun _ _ _ h => h) (fun _ _ H' => (Runs.pickF A rfl (by have hh := (by assumption : decide (gerr s x = 0) = false); rw [hmz, hh, Bool.false_or]; cases decide (gerr t x = 0) <;> rfl) rfl)) A rfl hS ?_; clear A a hR; intro a A hR
            refine dstep hR (i := 29) rfl (by kernel_rfl) (fun _ _ _ h => h) (fun _ _ H' => (Runs.move A rfl)) A rfl hS ?_; clear A a hR; intro a A hR
            refine dstepG hR (i := 30) (dj := 95) rfl (by kernel_rfl) (fun _ _ _ h => h) rfl rfl (notT (decide_eq_true ((hor (of_decide_eq_true (by assumption : decide (gerr u x = 0) = true))).resolve_left (of_decide_eq_false (by have hh := (by assumption : (!decide (gerr u x = gerr s x ∧ gdat u x = gdat s x)) = true); rwa [Bool.not_eq_true'] at hh))))) (fun _ _ H' => (Runs.move A rfl)) A rfl hS ?_; clear A a hR; intro a A hR
            refine dstepG hR (i := 31) (dj := 95) rfl (by kernel_rfl) (fun _ _ _ h => h) rfl rfl (notT (decide_eq_true ((hor (of_decide_eq_true (by assumption : decide (gerr u x = 0) = true))).resolve_left (of_decide_eq_false (by have hh := (by assumption : (!decide (gerr u x = gerr s x ∧ gdat u x = gdat s x)) = true); rwa [Bool.not_eq_true'] at hh))))) (fun _ _ H' => (Runs.move A rfl)) A rfl hS ?_; clear A a hR; intro a A hR
            refine dstepG hR (i := 32) (dj := 95) rfl (by kernel_rfl) (fun _ _ _ h => h) rfl rfl (notT (decide_eq_true ((hor (of_decide_eq_true (by assumption : decide (gerr u x = 0) = true))).resolve_left (of_decide_eq_false (by have hh := (by assumption : (!decide (gerr u x = gerr s x ∧ gdat u x = gdat s x)) = true); rwa [Bool.not_eq_true'] at hh))))) (fun _ _ H' => (Runs.move A rfl)) A rfl hS ?_; clear A a hR; intro a A hR
            refine dstepG hR (i := 33) (dj := 95) rfl (by kernel_rfl) (fun _ _ _ h => h) rfl rfl (notT (decide_eq_true ((hor (of_decide_eq_true (by assumption : decide (gerr u x = 0) = true))).resolve_left (of_decide_eq_false (by have hh := (by assumption : (!decide (gerr u x = gerr s x ∧ gdat u x = gdat s x)) = true); rwa [Bool.not_eq_true'] at hh))))) (fun _ _ H' => (Runs.indexAddr A rfl rfl SlC.h (by omega) (by omega))) A rfl hS ?_; clear A a hR; intro a A hR
            refine dstepG hR (i := 34) (dj := 95) rfl (by kernel_rfl) (fun _ _ _ h => h) rfl rfl (notT (decide_eq_true ((hor (of_decide_eq_true (by assumption : decide (gerr u x = 0) = true))).resolve_left (of_decide_eq_false (by have hh := (by assumption : (!decide (gerr u x = gerr s x ∧ gdat u x = gdat s x)) = true); rwa [Bool.not_eq_true'] at hh))))) (fun _ _ H' => (Runs.ld1 A H' rfl (v := u64 x) (by simpa using hx1))) A rfl hS ?_; clear A a hR; intro a A hR
            refine dstepG hR (i := 37) (dj := 95) rfl (by kernel_rfl) (fun _ _ _ h => h) rfl rfl (notT (decide_eq_true ((hor (of_decide_eq_true (by assumption : decide (gerr u x = 0) = true))).resolve_left (of_decide_eq_false (by have hh := (by assumption : (!decide (gerr u x = gerr s x ∧ gdat u x = gdat s x)) = true); rwa [Bool.not_eq_true'] at hh))))) (fun _ _ H' => (Runs.fa A rfl)) A rfl hS ?_; clear A a hR; intro a A hR
            refine dstepG hR (i := 38) (dj := 95) rfl (by kernel_rfl) (fun _ _ _ h => h) rfl rfl (notT (decide_eq_true ((hor (of_decide_eq_true (by assumption : decide (gerr u x = 0) = true))).resolve_left (of_decide_eq_false (by have hh := (by assumption : (!decide (gerr u x = gerr s x ∧ gdat u x = gdat s x)) = true); rwa [Bool.not_eq_true'] at hh))))) (fun _ _ H' => (Runs.ld1 A H' rfl rfl)) A rfl hS ?_; clear A a hR; intro a A hR
            refine dlist hR (i := 35) rfl (by kernel_rfl) ?_
            have hR := hR.next (i := 35) (by kernel_rfl)
            refine step_callFG (dj := 95) rfl rfl (notT (decide_eq_true ((hor (of_decide_eq_true (by assumption : decide (gerr u x = 0) = true))).resolve_left (of_decide_eq_false (by have hh := (by assumption : (!decide (gerr u x = gerr s x ∧ gdat u x = gdat s x)) = true); rwa [Bool.not_eq_true'] at hh))))) A rfl rfl (c_law18_get hov (by omega) hvs) H ?_
            rintro v13_35 a w m hm ⟨u4, rfl, hu4⟩ A H
            have hM := hM.trans hm
            have hl1 := hl1.trans hm
            have G := G.mono hm
            have hLs := hLs.mono hm
            have hB := hB.mono hm
            have hLs2 := hLs2.mono hm
            have hB2 := hB2.mono hm
            have hos := hos.mono hm
            have hot := hot.mono hm
            have hou := hou.mono hm
            have hov := hov.mono hm
            have hI2 := hI2.mono hm
            have hids := hids.mono hm
            have hfz := hfz.mono hm
            have hu1 := hu1.mono hm
            have hu2 := hu2.mono hm
            have hu3 := hu3.mono hm
            have hL := hL.trans hm
            refine wpList_nil ?_
            clear hS; refine and_keep (H.sw hL) fun hS => ?_
            refine dstepG hR (i := 36) (dj := 95) rfl (by kernel_rfl) (fun _ _ _ h => h) rfl rfl (notT (decide_eq_true ((hor (of_decide_eq_true (by assumption : decide (gerr u x = 0) = true))).resolve_left (of_decide_eq_false (by have hh := (by assumption : (!decide (gerr u x = gerr s x ∧ gdat u x = gdat s x)) = true); rwa [Bool.not_eq_true'] at hh))))) (fun _ _ H' => (Runs.field1 (ty := 40) A rfl FldC.h (by kernel_rfl) TyC.h rfl)) A rfl hS ?_; clear A a hR; intro a A hR
            refine dstepG hR (i := 39) (dj := 95) rfl (by kernel_rfl) (fun _ _ _ h => h) rfl rfl (notT (decide_eq_true ((hor (of_decide_eq_true (by assumption : decide (gerr u x = 0) = true))).resolve_left (of_decide_eq_false (by have hh := (by assumption : (!decide (gerr u x = gerr s x ∧ gdat u x = gdat s x)) = true); rwa [Bool.not_eq_true'] at hh))))) (fun _ _ H' => (Runs.neq A rfl rfl)) A rfl hS ?_; clear A a hR; intro a A hR
            refine dstep hR (i := 40) rfl (by kernel_rfl) (fun _ _ _ h => h) (fun _ _ H' => (Runs.pickF A rfl (notT (decide_eq_true ((hor (of_decide_eq_true (by assumption : decide (gerr u x = 0) = true))).resolve_left (of_decide_eq_false (by have hh := (by assumption : (!decide (gerr u x = gerr s x ∧ gdat u x = gdat s x)) = true); rwa [Bool.not_eq_true'] at hh))))) rfl)) A rfl hS ?_; clear A a hR; intro a A hR
            refine dstep hR (i := 41) rfl (by kernel_rfl) (fun _ _ _ h => h) (fun _ _ H' => (Runs.move A rfl)) A rfl hS ?_; clear A a hR; intro a A hR
            refine dstepG hR (i := 42) (dj := 107) rfl (by kernel_rfl) (fun _ _ _ h => h) rfl rfl (decide_eq_false fun h => h (by rw [hue, hve]; exact merge_same hss hts x)) (fun _ _ H' => (Runs.move A rfl)) A rfl hS ?_; clear A a hR; intro a A hR
            refine dstepG hR (i := 43) (dj := 107) rfl (by kernel_rfl) (fun _ _ _ h => h) rfl rfl (decide_eq_false fun h => h (by rw [hue, hve]; exact merge_same hss hts x)) (fun _ _ H' => (Runs.move A rfl)) A rfl hS ?_; clear A a hR; intro a A hR
            refine dstepG hR (i := 44) (dj := 107) rfl (by kernel_rfl) (fun _ _ _ h => h) rfl rfl (decide_eq_false fun h => h (by rw [hue, hve]; exact merge_same hss hts x)) (fun _ _ H' => (Runs.move A rfl)) A rfl hS ?_; clear A a hR; intro a A hR
            refine dstepG hR (i := 45) (dj := 107) rfl (by kernel_rfl) (fun _ _ _ h => h) rfl rfl (decide_eq_false fun h => h (by rw [hue, hve]; exact merge_same hss hts x)) (fun _ _ H' => (Runs.indexAddr A rfl rfl SlC.h (by omega) (by omega))) A rfl hS ?_; clear A a hR; intro a A hR
            refine dstepG hR (i := 46) (dj := 107) rfl (by kernel_rfl) (fun _ _ _ h => h) rfl rfl (decide_eq_false fun h => h (by rw [hue, hve]; exact merge_same hss hts x)) (fun _ _ H' => (Runs.ld1 A H' rfl (v := u64 x) (by simpa using hx1))) A rfl hS ?_; clear A a hR; intro a A hR
            refine dlist hR (i := 47) rfl (by kernel_rfl) ?_
            have hR := hR.next (i := 47) (by kernel_rfl)
            refine step_callFG (dj := 107) rfl rfl (decide_eq_false fun h => h (by rw [hue, hve]; exact merge_same hss hts x)) A rfl rfl (c_wireloomref18_Find hou) H ?_
            rintro v13_47 a w m hm rfl A H
            have hM := hM.trans hm
            have hl1 := hl1.trans hm
            have G := G.mono hm
            have hLs := hLs.mono hm
            have hB := hB.mono hm
            have hLs2 := hLs2.mono hm
            have hB2 := hB2.mono hm
            have hos := hos.mono hm
            have hot := hot.mono hm
            have hou := hou.mono hm
            have hov := hov.mono hm
            have hI2 := hI2.mono hm
            have hids := hids.mono hm
            have hfz := hfz.mono hm
            have hu1 := hu1.mono hm
            have hu2 := hu2.mono hm
            have hu3 := hu3.mono hm
            have hL := hL.trans hm
            refine wpList_nil ?_
            clear hS; refine and_keep (H.sw hL) fun hS => ?_
            refine dstepG hR (i := 48) (dj := 107) rfl (by kernel_rfl) (fun _ _ _ h => h) rfl rfl (decide_eq_false fun h => h (by rw [hue, hve]; exact merge_same hss hts x)) (fun _ _ H' => (Runs.lss A rfl rfl)) A rfl hS ?_; clear A a hR; intro a A hR
            refine dstep hR (i := 49) rfl (by kernel_rfl) (fun _ _ _ h => h) (fun _ _ H' => (Runs.pickF A rfl (decide_eq_false fun h => h (by rw [hue, hve]; exact merge_same hss hts x)) rfl)) A rfl hS ?_; clear A a hR; intro a A hR
            refine draw_done hR (by kernel_rfl) ?_
            clear hS hL hR
            refine cond_false A rfl (decide_eq_false (Int.not_lt.2 (by rw [hue]; exact merge_has hss hts hxm))) ?_
            refine wp_skip ?_
            refine wp_region_lit ?_
            refine step (Runs.move A rfl) A rfl ?_; clear A a; intro a A
            refine step (Runs.add A rfl rfl (by omega)) A rfl ?_; clear A a; intro a A
            refine step (Runs.assign A rfl) A rfl ?_; clear A a; intro a A
            refine wpList_nil ?_
            exact ⟨_, by omega, i + 1, m, rfl, by omega, hl1, (Fr.cons A rfl (Fr.cons A rfl (Fr.cons A rfl (Fr.cons A rfl (Fr.cons A rfl (Fr.cons A rfl (Fr.cons A rfl (Fr.nil A)))))))), H.subH⟩
          · have g6 := h6
            try simp only [decide_eq_true_eq, decide_eq_false_iff_not, Bool.not_eq_true', Bool.not_eq_false', ne_eq, Decidable.not_not, Int.not_lt, Int.not_le] at g6
            refine dskip hR (i := 23) (dj := 88) rfl (by kernel_rfl) (fun _ _ _ h => h) rfl rfl h6 A rfl hS ?_; clear A a hR; intro a A hR
            refine dskip hR (i := 24) (dj := 88) rfl (by kernel_rfl) (fun _ _ _ h => h) rfl rfl h6 A rfl hS ?_; clear A a hR; intro a A hR
            refine dskip hR (i := 25) (dj := 88) rfl (by kernel_rfl) (fun _ _ _ h => h) rfl rfl h6 A rfl hS ?_; clear A a hR; intro a A hR
            refine dskip hR (i := 26) (dj := 88) rfl (by kernel_rfl) (fun _ _ _ h => h) rfl rfl h6 A rfl hS ?_; clear A a hR; intro a A hR
            refine dstepG hR (i := 27) (dj := 78) rfl (by kernel_rfl) (fun _ _ _ h => h) rfl rfl (by have hh := (by assumption : decide (gerr s x = 0) = false); rw [hmz, hh, Bool.false_or]; cases decide (gerr t x = 0) <;> rfl) (fun _ _ H' => (Runs.pickF A rfl h6 rfl)) A rfl hS ?_; clear A a hR; intro a A hR
            refine dstep hR (i := 28) rfl (by kernel_rfl) (fun _ _ _ h => h) (fun _ _ H' => (Runs.pickF A rfl (by have hh := (by assumption : decide (gerr s x = 0) = false); rw [hmz, hh, Bool.false_or]; cases decide (gerr t x = 0) <;> rfl) rfl)) A rfl hS ?_; clear A a hR; intro a A hR
            refine dstep hR (i := 29) rfl (by kernel_rfl) (fun _ _ _ h => h) (fun _ _ H' => (Runs.move A rfl)) A rfl hS ?_; clear A a hR; intro a A hR
            refine dstepG hR (i := 30) (dj := 95) rfl (by kernel_rfl) (fun _ _ _ h => h) rfl rfl rfl (fun _ _ H' => (Runs.move A rfl)) A rfl hS ?_; clear A a hR; intro a A hR
            refine dstepG hR (i := 31) (dj := 95) rfl (by kernel_rfl) (fun _ _ _ h => h) rfl rfl rfl (fun _ _ H' => (Runs.move A rfl)) A rfl hS ?_; clear A a hR; intro a A hR
            refine dstepG hR (i := 32) (dj := 95) rfl (by kernel_rfl) (fun _ _ _ h => h) rfl rfl rfl (fun _ _ H' => (Runs.move A rfl)) A rfl hS ?_; clear A a hR; intro a A hR
            refine dstepG hR (i := 33) (dj := 95) rfl (by kernel_rfl) (fun _ _ _ h => h) rfl rfl rfl (fun _ _ H' => (Runs.indexAddr A rfl rfl SlC.h (by omega) (by omega))) A rfl hS ?_; clear A a hR; intro a A hR
            refine dstepG hR (i := 34) (dj := 95) rfl (by kernel_rfl) (fun _ _ _ h => h) rfl rfl rfl (fun _ _ H' => (Runs.ld1 A H' rfl (v := u64 x) (by simpa using hx1))) A rfl hS ?_; clear A a hR; intro a A hR
            refine dstepG hR (i := 37) (dj := 95) rfl (by kernel_rfl) (fun _ _ _ h => h) rfl rfl rfl (fun _ _ H' => (Runs.fa A rfl)) A rfl hS ?_; clear A a hR; intro a A hR
            refine dstepG hR (i := 38) (dj := 95) rfl (by kernel_rfl) (fun _ _ _ h => h) rfl rfl rfl (fun _ _ H' => (Runs.ld1 A H' rfl rfl)) A rfl hS ?_; clear A a hR; intro a A hR
            refine dlist hR (i := 35) rfl (by kernel_rfl) ?_
            have hR := hR.next (i := 35) (by kernel_rfl)
            refine step_callFG (dj := 95) rfl rfl rfl A rfl rfl (c_law18_get hov (by omega) hvs) H ?_
            rintro v13_35 a w m hm ⟨u4, rfl, hu4⟩ A H
            have hM := hM.trans hm
            have hl1 := hl1.trans hm
            have G := G.mono hm
            have hLs := hLs.mono hm
            have hB := hB.mono hm
            have hLs2 := hLs2.mono hm
            have hB2 := hB2.mono hm
            have hos := hos.mono hm
            have hot := hot.mono hm
            have hou := hou.mono hm
            have hov := hov.mono hm
            have hI2 := hI2.mono hm
            have hids := hids.mono hm
            have hfz := hfz.mono hm
            have hu1 := hu1.mono hm
            have hu2 := hu2.mono hm
            have hu3 := hu3.mono hm
            have hL := hL.trans hm
            refine wpList_nil ?_
            clear hS; refine and_keep (H.sw hL) fun hS => ?_
            refine dstepG hR (i := 36) (dj := 95) rfl (by kernel_rfl) (fun _ _ _ h => h) rfl rfl rfl (fun _ _ H' => (Runs.field1 (ty := 40) A rfl FldC.h (by kernel_rfl) TyC.h rfl)) A rfl hS ?_; clear A a hR; intro a A hR
            refine dstepG hR (i := 39) (dj := 95) rfl (by kernel_rfl) (fun _ _ _ h => h) rfl rfl rfl (fun _ _ H' => (Runs.neq A rfl rfl)) A rfl hS ?_; clear A a hR; intro a A hR
            refine dstep hR (i := 40) rfl (by kernel_rfl) (fun _ _ _ h => h) (fun _ _ H' => (Runs.pickF A rfl rfl rfl)) A rfl hS ?_; clear A a hR; intro a A hR
            refine dstep hR (i := 41) rfl (by kernel_rfl) (fun _ _ _ h => h) (fun _ _ H' => (Runs.move A rfl)) A rfl hS ?_; clear A a hR; intro a A hR
            refine dstepG hR (i := 42) (dj := 107) rfl (by kernel_rfl) (fun _ _ _ h => h) rfl rfl (decide_eq_false fun h => h (by rw [hue, hve]; exact merge_same hss hts x)) (fun _ _ H' => (Runs.move A rfl)) A rfl hS ?_; clear A a hR; intro a A hR
            refine dstepG hR (i := 43) (dj := 107) rfl (by kernel_rfl) (fun _ _ _ h => h) rfl rfl (decide_eq_false fun h => h (by rw [hue, hve]; exact merge_same hss hts x)) (fun _ _ H' => (Runs.move A rfl)) A rfl hS ?_; clear A a hR; intro a A hR
            refine dstepG hR (i := 44) (dj := 107) rfl (by kernel_rfl) (fun _ _ _ h => h) rfl rfl (decide_eq_false fun h => h (by rw [hue, hve]; exact merge_same hss hts x)) (fun _ _ H' => (Runs.move A rfl)) A rfl hS ?_; clear A a hR; intro a A hR
            refine dstepG hR (i := 45) (dj := 107) rfl (by kernel_rfl) (fun _ _ _ h => h) rfl rfl (decide_eq_false fun h => h (by rw [hue, hve]; exact merge_same hss hts x)) (fun _ _ H' => (Runs.indexAddr A rfl rfl SlC.h (by omega) (by omega))) A rfl hS ?_; clear A a hR; intro a A hR
            refine dstepG hR (i := 46) (dj := 107) rfl (by kernel_rfl) (fun _ _ _ h => h) rfl rfl (decide_eq_false fun h => h (by rw [hue, hve]; exact merge_same hss hts x)) (fun _ _ H' => (Runs.ld1 A H' rfl (v := u64 x) (by simpa using hx1))) A rfl hS ?_; clear A a hR; intro a A hR
            refine dlist hR (i := 47) rfl (by kernel_rfl) ?_
            have hR := hR.next (i := 47) (by kernel_rfl)
            refine step_callFG (dj := 107) rfl rfl (decide_eq_false fun h => h (by rw [hue, hve]; exact merge_same hss hts x)) A rfl rfl (c_wireloomref18_Find hou) H ?_
            rintro v13_47 a w m hm rfl A H
            have hM := hM.trans hm
            have hl1 := hl1.trans hm
            have G := G.mono hm
            have hLs := hLs.mono hm
            have hB := hB.mono hm
            have hLs2 := hLs2.mono hm
            have hB2 := hB2.mono hm
            have hos := hos.mono hm
            have hot := hot.mono hm
            have hou := hou.mono hm
            have hov := hov.mono hm
            have hI2 := hI2.mono hm
            have hids := hids.mono hm
            have hfz := hfz.mono hm
            have hu1 := hu1.mono hm
            have hu2 := hu2.mono hm
            have hu3 := hu3.mono hm
            have hL := hL.trans hm
            refine wpList_nil ?_
            clear hS; refine and_keep (H.sw hL) fun hS => ?_
            refine dstepG hR (i := 48) (dj := 107) rfl (by kernel_rfl) (fun _ _ _ h => h) rfl rfl (decide_eq_false fun h => h (by rw [hue, hve]; exact merge_same hss hts x)) (fun _ _ H' => (Runs.lss A rfl rfl)) A rfl hS ?_; clear A a hR; intro a A hR
            refine dstep hR (i := 49) rfl (by kernel_rfl) (fun _ _ _ h => h) (fun _ _ H' => (Runs.pickF A rfl (decide_eq_false fun h => h (by rw [hue, hve]; exact merge_same hss hts x)) rfl)) A rfl hS ?_; clear A a hR; intro a A hR
            refine draw_done hR (by kernel_rfl) ?_
            clear hS hL hR
            refine cond_false A rfl (decide_eq_false (Int.not_lt.2 (by rw [hue]; exact merge_has hss hts hxm))) ?_
            refine wp_skip ?_
            refine wp_region_lit ?_
            refine step (Runs.move A rfl) A rfl ?_; clear A a; intro a A
            refine step (Runs.add A rfl rfl (by omega)) A rfl ?_; clear A a; intro a A
            refine step (Runs.assign A rfl) A rfl ?_; clear A a; intro a A
            refine wpList_nil ?_
            exact ⟨_, by omega, i + 1, m, rfl, by omega, hl1, (Fr.cons A rfl (Fr.cons A rfl (Fr.cons A rfl (Fr.cons A rfl (Fr.cons A rfl (Fr.cons A rfl (Fr.cons A rfl (Fr.nil A)))))))), H.subH⟩
        · have g5 := h5
          try simp only [decide_eq_true_eq, decide_eq_false_iff_not, Bool.not_eq_true', Bool.not_eq_false', ne_eq, Decidable.not_not, Int.not_lt, Int.not_le] at g5
          refine dskip hR (i := 17) (dj := 82) rfl (by kernel_rfl) (fun _ _ _ h => h) rfl rfl h5 A rfl hS ?_; clear A a hR; intro a A hR
          refine dskip hR (i := 18) (dj := 82) rfl (by kernel_rfl) (fun _ _ _ h => h) rfl rfl h5 A rfl hS ?_; clear A a hR; intro a A hR
          refine dskip hR (i := 19) (dj := 82) rfl (by kernel_rfl) (fun _ _ _ h => h) rfl rfl h5 A rfl hS ?_; clear A a hR; intro a A hR
          refine dskip hR (i := 20) (dj := 82) rfl (by kernel_rfl) (fun _ _ _ h => h) rfl rfl h5 A rfl hS ?_; clear A a hR; intro a A hR
          refine dstepG hR (i := 21) (dj := 78) rfl (by kernel_rfl) (fun _ _ _ h => h) rfl rfl (by have hh := (by assumption : decide (gerr s x = 0) = false); rw [hmz, hh, Bool.false_or]; cases decide (gerr t x = 0) <;> rfl) (fun _ _ H' => (Runs.pickF A rfl h5 rfl)) A rfl hS ?_; clear A a hR; intro a A hR
          refine dstepG hR (i := 22) (dj := 78) rfl (by kernel_rfl) (fun _ _ _ h => h) rfl rfl (by have hh := (by assumption : decide (gerr s x = 0) = false); rw [hmz, hh, Bool.false_or]; cases decide (gerr t x = 0) <;> rfl) (fun _ _ H' => (Runs.move A rfl)) A rfl hS ?_; clear A a hR; intro a A hR
          refine dskip hR (i := 23) (dj := 88) rfl (by kernel_rfl) (fun _ _ _ h => h) rfl rfl rfl A rfl hS ?_; clear A a hR; intro a A hR
          refine dskip hR (i := 24) (dj := 88) rfl (by kernel_rfl) (fun _ _ _ h => h) rfl rfl rfl A rfl hS ?_; clear A a hR; intro a A hR
          refine dskip hR (i := 25) (dj := 88) rfl (by kernel_rfl) (fun _ _ _ h => h) rfl rfl rfl A rfl hS ?_; clear A a hR; intro a A hR
          refine dskip hR (i := 26) (dj := 88) rfl (by kernel_rfl) (fun _ _ _ h => h) rfl rfl rfl A rfl hS ?_; clear A a hR; intro a A hR
          refine dstepG hR (i := 27) (dj := 78) rfl (by kernel_rfl) (fun _ _ _ h => h) rfl rfl (by have hh := (by assumption : decide (gerr s x = 0) = false); rw [hmz, hh, Bool.false_or]; cases decide (gerr t x = 0) <;> rfl) (fun _ _ H' => (Runs.pickF A rfl rfl rfl)) A rfl hS ?_; clear A a hR; intro a A hR
          refine dstep hR (i := 28) rfl (by kernel_rfl) (fun _ _ _ h => h) (fun _ _ H' => (Runs.pickF A rfl (by have hh := (by assumption : decide (gerr s x = 0) = false); rw [hmz, hh, Bool.false_or]; cases decide (gerr t x = 0) <;> rfl) rfl)) A rfl hS ?_; clear A a hR; intro a A hR
          refine dstep hR (i := 29) rfl (by kernel_rfl) (fun _ _ _ h => h) (fun _ _ H' => (Runs.move A rfl)) A rfl hS ?_; clear A a hR; intro a A hR
          refine dstepG hR (i := 30) (dj := 95) rfl (by kernel_rfl) (fun _ _ _ h => h) rfl rfl rfl (fun _ _ H' => (Runs.move A rfl)) A rfl hS ?_; clear A a hR; intro a A hR
          refine dstepG hR (i := 31) (dj := 95) rfl (by kernel_rfl) (fun _ _ _ h => h) rfl rfl rfl (fun _ _ H' => (Runs.move A rfl)) A rfl hS ?_; clear A a hR; intro a A hR
          refine dstepG hR (i := 32) (dj := 95) rfl (by kernel_rfl) (fun _ _ _ h => h) rfl rfl rfl (fun _ _ H' => (Runs.move A rfl)) A rfl hS ?_; clear A a hR; intro a A hR
          refine dstepG hR (i := 33) (dj := 95) rfl (by kernel_rfl) (fun _ _ _ h => h) rfl rfl rfl (fun _ _ H' => (Runs.indexAddr A rfl rfl SlC.h (by omega) (by omega))) A rfl hS ?_; clear A a hR; intro a A hR
          refine dstepG hR (i := 34) (dj := 95) rfl (by kernel_rfl) (fun _ _ _ h => h) rfl rfl rfl (fun _ _ H' => (Runs.ld1 A H' rfl (v := u64 x) (by simpa using hx1))) A rfl hS ?_; clear A a hR; intro a A hR
          refine dstepG hR (i := 37) (dj := 95) rfl (by kernel_rfl) (fun _ _ _ h => h) rfl rfl rfl (fun _ _ H' => (Runs.fa A rfl)) A rfl hS ?_; clear A a hR; intro a A hR
          refine dstepG hR (i := 38) (dj := 95) rfl (by kernel_rfl) (fun _ _ _ h => h) rfl rfl rfl (fun _ _ H' => (Runs.ld1 A H' rfl rfl)) A rfl hS ?_; clear A a hR; intro a A hR
          refine dlist hR (i := 35) rfl (by kernel_rfl) ?_
          have hR := hR.next (i := 35) (by kernel_rfl)
          refine step_callFG (dj := 95) rfl rfl rfl A rfl rfl (c_law18_get hov (by omega) hvs) H ?_
          rintro v13_35 a w m hm ⟨u4, rfl, hu4⟩ A H
          have hM := hM.trans hm
          have hl1 := hl1.trans hm
          have G := G.mono hm
          have hLs := hLs.mono hm
          have hB := hB.mono hm
          have hLs2 := hLs2.mono hm
          have hB2 := hB2.mono hm
          have hos := hos.mono hm
          have hot := hot.mono hm
          have hou := hou.mono hm
          have hov := hov.mono hm
          have hI2 := hI2.mono hm
          have hids := hids.mono hm
          have hfz := hfz.mono hm
          have hu1 := hu1.mono hm
          have hu2 := hu2.mono hm
          have hu3 := hu3.mono hm
          have hL := hL.trans hm
          refine wpList_nil ?_
          clear hS; refine and_keep (H.sw hL) fun hS => ?_
          refine dstepG hR (i := 36) (dj := 95) rfl (by kernel_rfl) (fun _ _ _ h => h) rfl rfl rfl (fun _ _ H' => (Runs.field1 (ty := 40) A rfl FldC.h (by kernel_rfl) TyC.h rfl)) A rfl hS ?_; clear A a hR; intro a A hR
          refine dstepG hR (i := 39) (dj := 95) rfl (by kernel_rfl) (fun _ _ _ h => h) rfl rfl rfl (fun _ _ H' => (Runs.neq A rfl rfl)) A rfl hS ?_; clear A a hR; intro a A hR
          refine dstep hR (i := 40) rfl (by kernel_rfl) (fun _ _ _ h => h) (fun _ _ H' => (Runs.pickF A rfl rfl rfl)) A rfl hS ?_; clear A a hR; intro a A hR
          refine dstep hR (i := 41) rfl (by kernel_rfl) (fun _ _ _ h => h) (fun _ _ H' => (Runs.move A rfl)) A rfl hS ?_; clear A a hR; intro a A hR
          refine dstepG hR (i := 42) (dj := 107) rfl (by kernel_rfl) (fun _ _ _ h => h) rfl rfl (decide_eq_false fun h => h (by rw [hue, hve]; exact merge_same hss hts x)) (fun _ _ H' => (Runs.move A rfl)) A rfl hS ?_; clear A a hR; intro a A hR
          refine dstepG hR (i := 43) (dj := 107) rfl (by kernel_rfl) (fun _ _ _ h => h) rfl rfl (decide_eq_false fun h => h (by rw [hue, hve]; exact merge_same hss hts x)) (fun _ _ H' => (Runs.move A rfl)) A rfl hS ?_; clear A a hR; intro a A hR
          refine dstepG hR (i := 44) (dj := 107) rfl (by kernel_rfl) (fun _ _ _ h => h) rfl rfl (decide_eq_false fun h => h (by rw [hue, hve]; exact merge_same hss hts x)) (fun _ _ H' => (Runs.move A rfl)) A rfl hS ?_; clear A a hR; intro a A hR
          refine dstepG hR (i := 45) (dj := 107) rfl (by kernel_rfl) (fun _ _ _ h => h) rfl rfl (decide_eq_false fun h => h (by rw [hue, hve]; exact merge_same hss hts x)) (fun _ _ H' => (Runs.indexAddr A rfl rfl SlC.h (by omega) (by omega))) A rfl hS ?_; clear A a hR; intro a A hR
          refine dstepG hR (i := 46) (dj := 107) rfl (by kernel_rfl) (fun _ _ _ h => h) rfl rfl (decide_eq_false fun h => h (by rw [hue, hve]; exact merge_same hss hts x)) (fun _ _ H' => (Runs.ld1 A H' rfl (v := u64 x) (by simpa using hx1))) A rfl hS ?_; clear A a hR; intro a A hR
          refine dlist hR (i := 47) rfl (by kernel_rfl) ?_
          have hR := hR.next (i := 47) (by kernel_rfl)
          refine step_callFG (dj := 107) rfl rfl (decide_eq_false fun h => h (by rw [hue, hve]; exact merge_same hss hts x)) A rfl rfl (c_wireloomref18_Find hou) H ?_
          rintro v13_47 a w m hm rfl A H
          have hM := hM.trans hm
          have hl1 := hl1.trans hm
          have G := G.mono hm
          have hLs := hLs.mono hm
          have hB := hB.mono hm
          have hLs2 := hLs2.mono hm
          have hB2 := hB2.mono hm
          have hos := hos.mono hm
          have hot := hot.mono hm
          have hou := hou.mono hm
          have hov := hov.mono hm
          have hI2 := hI2.mono hm
          have hids := hids.mono hm
          have hfz := hfz.mono hm
          have hu1 := hu1.mono hm
          have hu2 := hu2.mono hm
          have hu3 := hu3.mono hm
          have hL := hL.trans hm
          refine wpList_nil ?_
          clear hS; refine and_keep (H.sw hL) fun hS => ?_
          refine dstepG hR (i := 48) (dj := 107) rfl (by kernel_rfl) (fun _ _ _ h => h) rfl rfl (decide_eq_false fun h => h (by rw [hue, hve]; exact merge_same hss hts x)) (fun _ _ H' => (Runs.lss A rfl rfl)) A rfl hS ?_; clear A a hR; intro a A hR
          refine dstep hR (i := 49) rfl (by kernel_rfl) (fun _ _ _ h => h) (fun _ _ H' => (Runs.pickF A rfl (decide_eq_false fun h => h (by rw [hue, hve]; exact merge_same hss hts x)) rfl)) A rfl hS ?_; clear A a hR; intro a A hR
          refine draw_done hR (by kernel_rfl) ?_
          clear hS hL hR
          refine cond_false A rfl (decide_eq_false (Int.not_lt.2 (by rw [hue]; exact merge_has hss hts hxm))) ?_
          refine wp_skip ?_
          refine wp_region_lit ?_
          refine step (Runs.move A rfl) A rfl ?_; clear A a; intro a A
          refine step (Runs.add A rfl rfl (by omega)) A rfl ?_; clear A a; intro a A
          refine step (Runs.assign A rfl) A rfl ?_; clear A a; intro a A
          refine wpList_nil ?_
          exact ⟨_, by omega, i + 1, m, rfl, by omega, hl1, (Fr.cons A rfl (Fr.cons A rfl (Fr.cons A rfl (Fr.cons A rfl (Fr.cons A rfl (Fr.cons A rfl (Fr.cons A rfl (Fr.nil A)))))))), H.subH⟩
    refine joinXD (X := Value × Value × Value × Nat × Nat) 4 [19, 18, 17, 11, 5, 16, 15, 14, 13, 12, 10, 9, 8, 7, 6, 4, 3, 2, 1, 0] (fun xq F => (53, .agg #[xq.1, .int .i64 (gerr s x)]) :: (59, .agg #[xq.2.1, .int .i64 (gerr t x)]) :: (65, .agg #[xq.2.2.1, .int .i64 (gerr u x)]) :: (12, .pointer (some ⟨xq.2.2.2.1, 0, none⟩)) :: (13, .pointer (some ⟨xq.2.2.2.2, 0, none⟩)) :: F) (fun xq => pt xq.2.2.2.1 [.slice none 0 0, .int .i64 0] 59 :: pt xq.2.2.2.2 [.slice none 0 0, .int .i64 0] 59 :: Lf) (fun xq m => Dat m xq.1 (gdat s x) ∧ Dat m xq.2.1 (gdat t x) ∧ Dat m xq.2.2.1 (gdat u x) ∧ True) A H ?_ (fun key2 => ?_)
    · clear A H hS hR; rintro ⟨u1, u2, u3, bA, bB⟩ a w m hF hm A H hS hR; try dsimp only at A H hF
      have hJ := hm; have hL := hL.trans hm
      have hos := hos.mono hm
      have hot := hot.mono hm
      have hou := hou.mono hm
      have hfz := hfz.mono hm
      obtain ⟨hu1, hu2, hu3, _⟩ := hF
      refine dlist hR (i := 20) rfl (by kernel_rfl) ?_
      have hR := hR.next (i := 20) (by kernel_rfl)
      refine step_alloc A H rfl ?_; clear A a; intro bC a w A H
      refine wpList_nil ?_
      clear hS; refine and_keep (H.sw hL) fun hS => ?_
      exact Ord.perm (by kernel_rfl) (fun hR => key1 (u1, u2, u3, bA, bB, bC) _ _ _ ⟨hu1, hu2, hu3, trivial⟩ hJ (Fr.with1 (Fr.with1 (Fr.with1 (Fr.with1 (Fr.with1 (Fr.with1 (Fr.suf A rfl) A rfl (by first | rfl | (simp [*]; done))) A rfl (by first | rfl | (simp [*]; done))) A rfl (by first | rfl | (simp [*]; done))) A rfl (by first | rfl | (simp [*]; done))) A rfl (by first | rfl | (simp [*]; done))) A rfl (by first | rfl | (simp [*]; done))) (St.sel (Lc := [pt bA [.slice none 0 0, .int .i64 0] 59, pt bB [.slice none 0 0, .int .i64 0] 59, pt bC [.slice none 0 0, .int .i64 0] 59]) H) hS hR) hR
    refine joinXD (X := Value × Value × Value × Nat × Nat) 4 [20, 18, 17, 11, 5, 16, 15, 14, 13, 12, 10, 9, 8, 7, 6, 4, 3, 2, 1, 0] (fun xq F => (53, .agg #[xq.1, .int .i64 (gerr s x)]) :: (59, .agg #[xq.2.1, .int .i64 (gerr t x)]) :: (65, .agg #[xq.2.2.1, .int .i64 (gerr u x)]) :: (12, .pointer (some ⟨xq.2.2.2.1, 0, none⟩)) :: (14, .pointer (some ⟨xq.2.2.2.2, 0, none⟩)) :: F) (fun xq => pt xq.2.2.2.1 [.slice none 0 0, .int .i64 0] 59 :: pt xq.2.2.2.2 [.slice none 0 0, .int .i64 0] 59 :: Lf) (fun xq m => Dat m xq.1 (gdat s x) ∧ Dat m xq.2.1 (gdat t x) ∧ Dat m xq.2.2.1 (gdat u x) ∧ True) A H ?_ (fun key3 => ?_)
    · clear A H hS hR; rintro ⟨u1, u2, u3, bA, bC⟩ a w m hF hm A H hS hR; try dsimp only at A H hF
      have hJ := hm; have hL := hL.trans hm
      have hos := hos.mono hm
      have hot := hot.mono hm
      have hou := hou.mono hm
      have hfz := hfz.mono hm
      obtain ⟨hu1, hu2, hu3, _⟩ := hF
      refine dlist hR (i := 19) rfl (by kernel_rfl) ?_
      have hR := hR.next (i := 19) (by kernel_rfl)
      refine step_alloc A H rfl ?_; clear A a; intro bB a w A H
      refine wpList_nil ?_
      clear hS; refine and_keep (H.sw hL) fun hS => ?_
      exact Ord.perm (by kernel_rfl) (fun hR => key1 (u1, u2, u3, bA, bB, bC) _ _ _ ⟨hu1, hu2, hu3, trivial⟩ hJ (Fr.with1 (Fr.with1 (Fr.with1 (Fr.with1 (Fr.with1 (Fr.with1 (Fr.suf A rfl) A rfl (by first | rfl | (simp [*]; done))) A rfl (by first | rfl | (simp [*]; done))) A rfl (by first | rfl | (simp [*]; done))) A rfl (by first | rfl | (simp [*]; done))) A rfl (by first | rfl | (simp [*]; done))) A rfl (by first | rfl | (simp [*]; done))) (St.sel (Lc := [pt bA [.slice none 0 0, .int .i64 0] 59, pt bB [.slice none 0 0, .int .i64 0] 59, pt bC [.slice none 0 0, .int .i64 0] 59]) H) hS hR) hR
    refine joinXD (X := Value × Value × Value × Nat × Nat) 4 [20, 19, 17, 11, 5, 16, 15, 14, 13, 12, 10, 9, 8, 7, 6, 4, 3, 2, 1, 0] (fun xq F => (53, .agg #[xq.1, .int .i64 (gerr s x)]) :: (59, .agg #[xq.2.1, .int .i64 (gerr t x)]) :: (65, .agg #[xq.2.2.1, .int .i64 (gerr u x)]) :: (13, .pointer (some ⟨xq.2.2.2.1, 0, none⟩)) :: (14, .pointer (some ⟨xq.2.2.2.2, 0, none⟩)) :: F) (fun xq => pt xq.2.2.2.1 [.slice none 0 0, .int .i64 0] 59 :: pt xq.2.2.2.2 [.slice none 0 0, .int .i64 0] 59 :: Lf) (fun xq m => Dat m xq.1 (gdat s x) ∧ Dat m xq.2.1 (gdat t x) ∧ Dat m xq.2.2.1 (gdat u x) ∧ True) A H ?_ (fun key4 => ?_)
    · clear A H hS hR; rintro ⟨u1, u2, u3, bB, bC⟩ a w m hF hm A H hS hR; try dsimp only at A H hF
      have hJ := hm; have hL := hL.trans hm
      have hos := hos.mono hm
      have hot := hot.mono hm
      have hou := hou.mono hm
      have hfz := hfz.mono hm
      obtain ⟨hu1, hu2, hu3, _⟩ := hF
      refine dlist hR (i := 18) rfl (by kernel_rfl) ?_
      have hR := hR.next (i := 18) (by kernel_rfl)
      refine step_alloc A H rfl ?_; clear A a; intro bA a w A H
      refine wpList_nil ?_
      clear hS; refine and_keep (H.sw hL) fun hS => ?_
      exact Ord.perm (by kernel_rfl) (fun hR => key1 (u1, u2, u3, bA, bB, bC) _ _ _ ⟨hu1, hu2, hu3, trivial⟩ hJ (Fr.with1 (Fr.with1 (Fr.with1 (Fr.with1 (Fr.with1 (Fr.with1 (Fr.suf A rfl) A rfl (by first | rfl | (simp [*]; done))) A rfl (by first | rfl | (simp [*]; done))) A rfl (by first | rfl | (simp [*]; done))) A rfl (by first | rfl | (simp [*]; done))) A rfl (by first | rfl | (simp [*]; done))) A rfl (by first | rfl | (simp [*]; done))) (St.sel (Lc := [pt bA [.slice none 0 0, .int .i64 0] 59, pt bB [.slice none 0 0, .int .i64 0] 59, pt bC [.slice none 0 0, .int .i64 0] 59]) H) hS hR) hR
    refine joinXD (X := Value × Value × Nat × Nat × Nat) 4 [20, 19, 18, 11, 5, 16, 15, 14, 13, 12, 10, 9, 8, 7, 6, 4, 3, 2, 1, 0] (fun xq F => (53, .agg #[xq.1, .int .i64 (gerr s x)]) :: (59, .agg #[xq.2.1, .int .i64 (gerr t x)]) :: (12, .pointer (some ⟨xq.2.2.1, 0, none⟩)) :: (13, .pointer (some ⟨xq.2.2.2.1, 0, none⟩)) :: (14, .pointer (some ⟨xq.2.2.2.2, 0, none⟩)) :: F) (fun xq => pt xq.2.2.1 [.slice none 0 0, .int .i64 0] 59 :: pt xq.2.2.2.1 [.slice none 0 0, .int .i64 0] 59 :: pt xq.2.2.2.2 [.slice none 0 0, .int .i64 0] 59 :: Lf) (fun xq m => Dat m xq.1 (gdat s x) ∧ Dat m xq.2.1 (gdat t x) ∧ True) A H ?_ (fun key5 => ?_)
    · clear A H hS hR; rintro ⟨u1, u2, bA, bB, bC⟩ a w m hF hm A H hS hR; try dsimp only at A H hF
      have hJ := hm; have hL := hL.trans hm
      have hos := hos.mono hm
      have hot := hot.mono hm
      have hou := hou.mono hm
      have hfz := hfz.mono hm
      obtain ⟨hu1, hu2, _⟩ := hF
      refine dlist hR (i := 17) rfl (by kernel_rfl) ?_
      have hR := hR.next (i := 17) (by kernel_rfl)
      refine step_callF A rfl rfl (c_law18_get hou (by omega) hus) H ?_
      rintro v12_17 a w m hm ⟨u3, rfl, hu3⟩ A H
      have hJ := hJ.trans hm
      have hos := hos.mono hm
      have hot := hot.mono hm
      have hou := hou.mono hm
      have hfz := hfz.mono hm
      have hu1 := hu1.mono hm
      have hu2 := hu2.mono hm
      have hL := hL.trans hm
      refine wpList_nil ?_
      clear hS; refine and_keep (H.sw hL) fun hS => ?_
      exact Ord.perm (by kernel_rfl) (fun hR => key1 (u1, u2, u3, bA, bB, bC) _ _ _ ⟨hu1, hu2, hu3, trivial⟩ hJ (Fr.with1 (Fr.with1 (Fr.with1 (Fr.with1 (Fr.with1 (Fr.with1 (Fr.suf A rfl) A rfl (by first | rfl | (simp [*]; done))) A rfl (by first | rfl | (simp [*]; done))) A rfl (by first | rfl | (simp [*]; done))) A rfl (by first | rfl | (simp [*]; done))) A rfl (by first | rfl | (simp [*]; done))) A rfl (by first | rfl | (simp [*]; done))) (St.sel (Lc := [pt bA [.slice none 0 0, .int .i64 0] 59, pt bB [.slice none 0 0, .int .i64 0] 59, pt bC [.slice none 0 0, .int .i64 0] 59]) H) hS hR) hR
    refine joinXD (X := Value × Value × Value × Nat) 5 [18, 17, 11, 5, 16, 15, 14, 13, 12, 10, 9, 8, 7, 6, 4, 3, 2, 1, 0] (fun xq F => (53, .agg #[xq.1, .int .i64 (gerr s x)]) :: (59, .agg #[xq.2.1, .int .i64 (gerr t x)]) :: (65, .agg #[xq.2.2.1, .int .i64 (gerr u x)]) :: (12, .pointer (some ⟨xq.2.2.2, 0, none⟩)) :: F) (fun xq => pt xq.2.2.2 [.slice none 0 0, .int .i64 0] 59 :: Lf) (fun xq m => Dat m xq.1 (gdat s x) ∧ Dat m xq.2.1 (gdat t x) ∧ Dat m xq.2.2.1 (gdat u x) ∧ True) A H ?_ (fun key6 => ?_)
    · clear A H hS hR; rintro ⟨u1, u2, u3, bA⟩ a w m hF hm A H hS hR; try dsimp only at A H hF
      have hJ := hm; have hL := hL.trans hm
      have hos := hos.mono hm
      have hot := hot.mono hm
      have hou := hou.mono hm
      have hfz := hfz.mono hm
      obtain ⟨hu1, hu2, hu3, _⟩ := hF
      refine draws_all hR (rs := [19, 20]) (by kernel_rfl) (by decide) ?_
      simp only [List.mem_cons, List.not_mem_nil, or_false, forall_eq_or_imp, forall_eq]
      refine ⟨?_, ?_⟩
      · refine dalt (i := 19) rfl ?_
        have hR := hR.next (i := 19) (by kernel_rfl)
        refine step_alloc A H rfl ?_; clear A a; intro bB a w A H
        refine wpList_nil ?_
        clear hS; refine and_keep (H.sw hL) fun hS => ?_
        exact Ord.perm (by kernel_rfl) (fun hR => key2 (u1, u2, u3, bA, bB) _ _ _ ⟨hu1, hu2, hu3, trivial⟩ hJ (Fr.with1 (Fr.with1 (Fr.with1 (Fr.with1 (Fr.with1 (Fr.suf A rfl) A rfl (by first | rfl | (simp [*]; done))) A rfl (by first | rfl | (simp [*]; done))) A rfl (by first | rfl | (simp [*]; done))) A rfl (by first | rfl | (simp [*]; done))) A rfl (by first | rfl | (simp [*]; done))) (St.sel (Lc := [pt bA [.slice none 0 0, .int .i64 0] 59, pt bB [.slice none 0 0, .int .i64 0] 59]) H) hS hR) hR
      · refine dalt (i := 20) rfl ?_
        have hR := hR.next (i := 20) (by kernel_rfl)
        refine step_alloc A H rfl ?_; clear A a; intro bC a w A H
        refine wpList_nil ?_
        clear hS; refine and_keep (H.sw hL) fun hS => ?_
        exact Ord.perm (by kernel_rfl) (fun hR => key3 (u1, u2, u3, bA, bC) _ _ _ ⟨hu1, hu2, hu3, trivial⟩ hJ (Fr.with1 (Fr.with1 (Fr.with1 (Fr.with1 (Fr.with1 (Fr.suf A rfl) A rfl (by first | rfl | (simp [*]; done))) A rfl (by first | rfl | (simp [*]; done))) A rfl (by first | rfl | (simp [*]; done))) A rfl (by first | rfl | (simp [*]; done))) A rfl (by first | rfl | (simp [*]; done))) (St.sel (Lc := [pt bA [.slice none 0 0, .int .i64 0] 59, pt bC [.slice none 0 0, .int .i64 0] 59]) H) hS hR) hR
    refine joinXD (X := Value × Value × Value × Nat) 5 [19, 17, 11, 5, 16, 15, 14, 13, 12, 10, 9, 8, 7, 6, 4, 3, 2, 1, 0] (fun xq F => (53, .agg #[xq.1, .int .i64 (gerr s x)]) :: (59, .agg #[xq.2.1, .int .i64 (gerr t x)]) :: (65, .agg #[xq.2.2.1, .int .i64 (gerr u x)]) :: (13, .pointer (some ⟨xq.2.2.2, 0, none⟩)) :: F) (fun xq => pt xq.2.2.2 [.slice none 0 0, .int .i64 0] 59 :: Lf) (fun xq m => Dat m xq.1 (gdat s x) ∧ Dat m xq.2.1 (gdat t x) ∧ Dat m xq.2.2.1 (gdat u x) ∧ True) A H ?_ (fun key7 => ?_)
    · clear A H hS hR; rintro ⟨u1, u2, u3, bB⟩ a w m hF hm A H hS hR; try dsimp only at A H hF
      have hJ := hm; have hL := hL.trans hm
      have hos := hos.mono hm
      have hot := hot.mono hm
      have hou := hou.mono hm
      have hfz := hfz.mono hm
      obtain ⟨hu1, hu2, hu3, _⟩ := hF
      refine draws_all hR (rs := [18, 20]) (by kernel_rfl) (by decide) ?_
      simp only [List.mem_cons, List.not_mem_nil, or_false, forall_eq_or_imp, forall_eq]
      refine ⟨?_, ?_⟩
      · refine dalt (i := 18) rfl ?_
        have hR := hR.next (i := 18) (by kernel_rfl)
        refine step_alloc A H rfl ?_; clear A a; intro bA a w A H
        refine wpList_nil ?_
        clear hS; refine and_keep (H.sw hL) fun hS => ?_
        exact Ord.perm (by kernel_rfl) (fun hR => key2 (u1, u2, u3, bA, bB) _ _ _ ⟨hu1, hu2, hu3, trivial⟩ hJ (Fr.with1 (Fr.with1 (Fr.with1 (Fr.with1 (Fr.with1 (Fr.suf A rfl) A rfl (by first | rfl | (simp [*]; done))) A rfl (by first | rfl | (simp [*]; done))) A rfl (by first | rfl | (simp [*]; done))) A rfl (by first | rfl | (simp [*]; done))) A rfl (by first | rfl | (simp [*]; done))) (St.sel (Lc := [pt bA [.slice none 0 0, .int .i64 0] 59, pt bB [.slice none 0 0, .int .i64 0] 59]) H) hS hR) hR
      · refine dalt (i := 20) rfl ?_
        have hR := hR.next (i := 20) (by kernel_rfl)
        refine step_alloc A H rfl ?_; clear A a; intro bC a w A H
        refine wpList_nil ?_
        clear hS; refine and_keep (H.sw hL) fun hS => ?_
        exact Ord.perm (by kernel_rfl) (fun hR => key4 (u1, u2, u3, bB, bC) _ _ _ ⟨hu1, hu2, hu3, trivial⟩ hJ (Fr.with1 (Fr.with1 (Fr.with1 (Fr.with1 (Fr.with1 (Fr.suf A rfl) A rfl (by first | rfl | (simp [*]; done))) A rfl (by first | rfl | (simp [*]; done))) A rfl (by first | rfl | (simp [*]; done))) A rfl (by first | rfl | (simp [*]; done))) A rfl (by first | rfl | (simp [*]; done))) (St.sel (Lc := [pt bB [.slice none 0 0, .int .i64 0] 59, pt bC [.slice none 0 0, .int .i64 0] 59]) H) hS hR) hR
    refine joinXD (X := Value × Value × Value × Nat) 5 [20, 17, 11, 5, 16, 15, 14, 13, 12, 10, 9, 8, 7, 6, 4, 3, 2, 1, 0] (fun xq F => (53, .agg #[xq.1, .int .i64 (gerr s x)]) :: (59, .agg #[xq.2.1, .int .i64 (gerr t x)]) :: (65, .agg #[xq.2.2.1, .int .i64 (gerr u x)]) :: (14, .pointer (some ⟨xq.2.2.2, 0, none⟩)) :: F) (fun xq => pt xq.2.2.2 [.slice none 0 0, .int .i64 0] 59 :: Lf) (fun xq m => Dat m xq.1 (gdat s x) ∧ Dat m xq.2.1 (gdat t x) ∧ Dat m xq.2.2.1 (gdat u x) ∧ True) A H ?_ (fun key8 => ?_)
    · clear A H hS hR; rintro ⟨u1, u2, u3, bC⟩ a w m hF hm A H hS hR; try dsimp only at A H hF
      have hJ := hm; have hL := hL.trans hm
      have hos := hos.mono hm
      have hot := hot.mono hm
      have hou := hou.mono hm
      have hfz := hfz.mono hm
      obtain ⟨hu1, hu2, hu3, _⟩ := hF
      refine draws_all hR (rs := [18, 19]) (by kernel_rfl) (by decide) ?_
      simp only [List.mem_cons, List.not_mem_nil, or_false, forall_eq_or_imp, forall_eq]
      refine ⟨?_, ?_⟩
      · refine dalt (i := 18) rfl ?_
        have hR := hR.next (i := 18) (by kernel_rfl)
        refine step_alloc A H rfl ?_; clear A a; intro bA a w A H
        refine wpList_nil ?_
        clear hS; refine and_keep (H.sw hL) fun hS => ?_
        exact Ord.perm (by kernel_rfl) (fun hR => key3 (u1, u2, u3, bA, bC) _ _ _ ⟨hu1, hu2, hu3, trivial⟩ hJ (Fr.with1 (Fr.with1 (Fr.with1 (Fr.with1 (Fr.with1 (Fr.suf A rfl) A rfl (by first | rfl | (simp [*]; done))) A rfl (by first | rfl | (simp [*]; done))) A rfl (by first | rfl | (simp [*]; done))) A rfl (by first | rfl | (simp [*]; done))) A rfl (by first | rfl | (simp [*]; done))) (St.sel (Lc := [pt bA [.slice none 0 0, .int .i64 0] 59, pt bC [.slice none 0 0, .int .i64 0] 59]) H) hS hR) hR
      · refine dalt (i := 19) rfl ?_
        have hR := hR.next (i := 19) (by kernel_rfl)
        refine step_alloc A H rfl ?_; clear A a; intro bB a w A H
        refine wpList_nil ?_
        clear hS; refine and_keep (H.sw hL) fun hS => ?_
        exact Ord.perm (by kernel_rfl) (fun hR => key4 (u1, u2, u3, bB, bC) _ _ _ ⟨hu1, hu2, hu3, trivial⟩ hJ (Fr.with1 (Fr.with1 (Fr.with1 (Fr.with1 (Fr.with1 (Fr.suf A rfl) A rfl (by first | rfl | (simp [*]; done))) A rfl (by first | rfl | (simp [*]; done))) A rfl (by first | rfl | (simp [*]; done))) A rfl (by first | rfl | (simp [*]; done))) A rfl (by first | rfl | (simp [*]; done))) (St.sel (Lc := [pt bB [.slice none 0 0, .int .i64 0] 59, pt bC [.slice none 0 0, .int .i64 0] 59]) H) hS hR) hR
    refine joinXD (X := Value × Value × Nat × Nat) 5 [19, 18, 11, 5, 16, 15, 14, 13, 12, 10, 9, 8, 7, 6, 4, 3, 2, 1, 0] (fun xq F => (53, .agg #[xq.1, .int .i64 (gerr s x)]) :: (59, .agg #[xq.2.1, .int .i64 (gerr t x)]) :: (12, .pointer (some ⟨xq.2.2.1, 0, none⟩)) :: (13, .pointer (some ⟨xq.2.2.2, 0, none⟩)) :: F) (fun xq => pt xq.2.2.1 [.slice none 0 0, .int .i64 0] 59 :: pt xq.2.2.2 [.slice none 0 0, .int .i64 0] 59 :: Lf) (fun xq m => Dat m xq.1 (gdat s x) ∧ Dat m xq.2.1 (gdat t x) ∧ True) A H ?_ (fun key9 => ?_)
    · clear A H hS hR; rintro ⟨u1, u2, bA, bB⟩ a w m hF hm A H hS hR; try dsimp only at A H hF
      have hJ := hm; have hL := hL.trans hm
      have hos := hos.mono hm
      have hot := hot.mono hm
      have hou := hou.mono hm
      have hfz := hfz.mono hm
      obtain ⟨hu1, hu2, _⟩ := hF
      refine draws_all hR (rs := [17, 20]) (by kernel_rfl) (by decide) ?_
      simp only [List.mem_cons, List.not_mem_nil, or_false, forall_eq_or_imp, forall_eq]
      refine ⟨?_, ?_⟩
      · refine dalt (i := 17) rfl ?_
        have hR := hR.next (i := 17) (by kernel_rfl)
        refine step_callF A rfl rfl (c_law18_get hou (by omega) hus) H ?_
        rintro v12_17 a w m hm ⟨u3, rfl, hu3⟩ A H
        have hJ := hJ.trans hm
        have hos := hos.mono hm
        have hot := hot.mono hm
        have hou := hou.mono hm
        have hfz := hfz.mono hm
        have hu1 := hu1.mono hm
        have hu2 := hu2.mono hm
        have hL := hL.trans hm
        refine wpList_nil ?_
        clear hS; refine and_keep (H.sw hL) fun hS => ?_
        exact Ord.perm (by kernel_rfl) (fun hR => key2 (u1, u2, u3, bA, bB) _ _ _ ⟨hu1, hu2, hu3, trivial⟩ hJ (Fr.with1 (Fr.with1 (Fr.with1 (Fr.with1 (Fr.with1 (Fr.suf A rfl) A rfl (by first | rfl | (simp [*]; done))) A rfl (by first | rfl | (simp [*]; done))) A rfl (by first | rfl | (simp [*]; done))) A rfl (by first | rfl | (simp [*]; done))) A rfl (by first | rfl | (simp [*]; done))) (St.sel (Lc := [pt bA [.slice none 0 0, .int .i64 0] 59, pt bB [.slice none 0 0, .int .i64 0] 59]) H) hS hR) hR
      · refine dalt (i := 20) rfl ?_
        have hR := hR.next (i := 20) (by kernel_rfl)
        refine step_alloc A H rfl ?_; clear A a; intro bC a w A H
        refine wpList_nil ?_
        clear hS; refine and_keep (H.sw hL) fun hS => ?_
        exact Ord.perm (by kernel_rfl) (fun hR => key5 (u1, u2, bA, bB, bC) _ _ _ ⟨hu1, hu2, trivial⟩ hJ (Fr.with1 (Fr.with1 (Fr.with1 (Fr.with1 (Fr.with1 (Fr.suf A rfl) A rfl (by first | rfl | (simp [*]; done))) A rfl (by first | rfl | (simp [*]; done))) A rfl (by first | rfl | (simp [*]; done))) A rfl (by first | rfl | (simp [*]; done))) A rfl (by first | rfl | (simp [*]; done))) (St.sel (Lc := [pt bA [.slice none 0 0, .int .i64 0] 59, pt bB [.slice none 0 0, .int .i64 0] 59, pt bC [.slice none 0 0, .int .i64 0] 59]) H) hS hR) hR
    refine joinXD (X := Value × Value × Nat × Nat) 5 [20, 18, 11, 5, 16, 15, 14, 13, 12, 10, 9, 8, 7, 6, 4, 3, 2, 1, 0] (fun xq F => (53, .agg #[xq.1, .int .i64 (gerr s x)]) :: (59, .agg #[xq.2.1, .int .i64 (gerr t x)]) :: (12, .pointer (some ⟨xq.2.2.1, 0, none⟩)) :: (14, .pointer (some ⟨xq.2.2.2, 0, none⟩)) :: F) (fun xq => pt xq.2.2.1 [.slice none 0 0, .int .i64 0] 59 :: pt xq.2.2.2 [.slice none 0 0, .int .i64 0] 59 :: Lf) (fun xq m => Dat m xq.1 (gdat s x) ∧ Dat m xq.2.1 (gdat t x) ∧ True) A H ?_ (fun key10 => ?_)
    · clear A H hS hR; rintro ⟨u1, u2, bA, bC⟩ a w m hF hm A H hS hR; try dsimp only at A H hF
      have hJ := hm; have hL := hL.trans hm
      have hos := hos.mono hm
      have hot := hot.mono hm
      have hou := hou.mono hm
      have hfz := hfz.mono hm
      obtain ⟨hu1, hu2, _⟩ := hF
      refine draws_all hR (rs := [17, 19]) (by kernel_rfl) (by decide) ?_
      simp only [List.mem_cons, List.not_mem_nil, or_false, forall_eq_or_imp, forall_eq]
      refine ⟨?_, ?_⟩
      · refine dalt (i := 17) rfl ?_
        have hR := hR.next (i := 17) (by kernel_rfl)
        refine step_callF A rfl rfl (c_law18_get hou (by omega) hus) H ?_
        rintro v12_17 a w m hm ⟨u3, rfl, hu3⟩ A H
        have hJ := hJ.trans hm
        have hos := hos.mono hm
        have hot := hot.mono hm
        have hou := hou.mono hm
        have hfz := hfz.mono hm
        have hu1 := hu1.mono hm
        have hu2 := hu2.mono hm
        have hL := hL.trans hm
        refine wpList_nil ?_
        clear hS; refine and_keep (H.sw hL) fun hS => ?_
        exact Ord.perm (by kernel_rfl) (fun hR => key3 (u1, u2, u3, bA, bC) _ _ _ ⟨hu1, hu2, hu3, trivial⟩ hJ (Fr.with1 (Fr.with1 (Fr.with1 (Fr.with1 (Fr.with1 (Fr.suf A rfl) A rfl (by first | rfl | (simp [*]; done))) A rfl (by first | rfl | (simp [*]; done))) A rfl (by first | rfl | (simp [*]; done))) A rfl (by first | rfl | (simp [*]; done))) A rfl (by first | rfl | (simp [*]; done))) (St.sel (Lc := [pt bA [.slice none 0 0, .int .i64 0] 59, pt bC [.slice none 0 0, .int .i64 0] 59]) H) hS hR) hR
      · refine dalt (i := 19) rfl ?_
        have hR := hR.next (i := 19) (by kernel_rfl)
        refine step_alloc A H rfl ?_; clear A a; intro bB a w A H
        refine wpList_nil ?_
        clear hS; refine and_keep (H.sw hL) fun hS => ?_
        exact Ord.perm (by kernel_rfl) (fun hR => key5 (u1, u2, bA, bB, bC) _ _ _ ⟨hu1, hu2, trivial⟩ hJ (Fr.with1 (Fr.with1 (Fr.with1 (Fr.with1 (Fr.with1 (Fr.suf A rfl) A rfl (by first | rfl | (simp [*]; done))) A rfl (by first | rfl | (simp [*]; done))) A rfl (by first | rfl | (simp [*]; done))) A rfl (by first | rfl | (simp [*]; done))) A rfl (by first | rfl | (simp [*]; done))) (St.sel (Lc := [pt bA [.slice none 0 0, .int .i64 0] 59, pt bB [.slice none 0 0, .int .i64 0] 59, pt bC [.slice none 0 0, .int .i64 0] 59]) H) hS hR) hR
    refine joinXD (X := Value × Value × Nat × Nat) 5 [20, 19, 11, 5, 16, 15, 14, 13, 12, 10, 9, 8, 7, 6, 4, 3, 2, 1, 0] (fun xq F => (53, .agg #[xq.1, .int .i64 (gerr s x)]) :: (59, .agg #[xq.2.1, .int .i64 (gerr t x)]) :: (13, .pointer (some ⟨xq.2.2.1, 0, none⟩)) :: (14, .pointer (some ⟨xq.2.2.2, 0, none⟩)) :: F) (fun xq => pt xq.2.2.1 [.slice none 0 0, .int .i64 0] 59 :: pt xq.2.2.2 [.slice none 0 0, .int .i64 0] 59 :: Lf) (fun xq m => Dat m xq.1 (gdat s x) ∧ Dat m xq.2.1 (gdat t x) ∧ True) A H ?_ (fun key11 => ?_)
    · clear A H hS hR; rintro ⟨u1, u2, bB, bC⟩ a w m hF hm A H hS hR; try dsimp only at A H hF
      have hJ := hm; have hL := hL.trans hm
      have hos := hos.mono hm
      have hot := hot.mono hm
      have hou := hou.mono hm
      have hfz := hfz.mono hm
      obtain ⟨hu1, hu2, _⟩ := hF
      refine draws_all hR (rs := [17, 18]) (by kernel_rfl) (by decide) ?_
      simp only [List.mem_cons, List.not_mem_nil, or_false, forall_eq_or_imp, forall_eq]
      refine ⟨?_, ?_⟩
      · refine dalt (i := 17) rfl ?_
        have hR := hR.next (i := 17) (by kernel_rfl)
        refine step_callF A rfl rfl (c_law18_get hou (by omega) hus) H ?_
        rintro v12_17 a w m hm ⟨u3, rfl, hu3⟩ A H
        have hJ := hJ.trans hm
        have hos := hos.mono hm
        have hot := hot.mono hm
        have hou := hou.mono hm
        have hfz := hfz.mono hm
        have hu1 := hu1.mono hm
        have hu2 := hu2.mono hm
        have hL := hL.trans hm
        refine wpList_nil ?_
        clear hS; refine and_keep (H.sw hL) fun hS => ?_
        exact Ord.perm (by kernel_rfl) (fun hR => key4 (u1, u2, u3, bB, bC) _ _ _ ⟨hu1, hu2, hu3, trivial⟩ hJ (Fr.with1 (Fr.with1 (Fr.with1 (Fr.with1 (Fr.with1 (Fr.suf A rfl) A rfl (by first | rfl | (simp [*]; done))) A rfl (by first | rfl | (simp [*]; done))) A rfl (by first | rfl | (simp [*]; done))) A rfl (by first | rfl | (simp [*]; done))) A rfl (by first | rfl | (simp [*]; done))) (St.sel (Lc := [pt bB [.slice none 0 0, .int .i64 0] 59, pt bC [.slice none 0 0, .int .i64 0] 59]) H) hS hR) hR
      · refine dalt (i := 18) rfl ?_
        have hR := hR.next (i := 18) (by kernel_rfl)
        refine step_alloc A H rfl ?_; clear A a; intro bA a w A H
        refine wpList_nil ?_
        clear hS; refine and_keep (H.sw hL) fun hS => ?_
        exact Ord.perm (by kernel_rfl) (fun hR => key5 (u1, u2, bA, bB, bC) _ _ _ ⟨hu1, hu2, trivial⟩ hJ (Fr.with1 (Fr.with1 (Fr.with1 (Fr.with1 (Fr.with1 (Fr.suf A rfl) A rfl (by first | rfl | (simp [*]; done))) A rfl (by first | rfl | (simp [*]; done))) A rfl (by first | rfl | (simp [*]; done))) A rfl (by first | rfl | (simp [*]; done))) A rfl (by first | rfl | (simp [*]; done))) (St.sel (Lc := [pt bA [.slice none 0 0, .int .i64 0] 59, pt bB [.slice none 0 0, .int .i64 0] 59, pt bC [.slice none 0 0, .int .i64 0] 59]) H) hS hR) hR
    refine joinXD (X := Value × Nat × Nat × Nat) 5 [20, 19, 18, 5, 16, 15, 14, 13, 12, 10, 9, 8, 7, 6, 4, 3, 2, 1, 0] (fun xq F => (53, .agg #[xq.1, .int .i64 (gerr s x)]) :: (12, .pointer (some ⟨xq.2.1, 0, none⟩)) :: (13, .pointer (some ⟨xq.2.2.1, 0, none⟩)) :: (14, .pointer (some ⟨xq.2.2.2, 0, none⟩)) :: F) (fun xq => pt xq.2.1 [.slice none 0 0, .int .i64 0] 59 :: pt xq.2.2.1 [.slice none 0 0, .int .i64 0] 59 :: pt xq.2.2.2 [.slice none 0 0, .int .i64 0] 59 :: Lf) (fun xq m => Dat m xq.1 (gdat s x) ∧ True) A H ?_ (fun key12 => ?_)
    · clear A H hS hR; rintro ⟨u1, bA, bB, bC⟩ a w m hF hm A H hS hR; try dsimp only at A H hF
      have hJ := hm; have hL := hL.trans hm
      have hos := hos.mono hm
      have hot := hot.mono hm
      have hou := hou.mono hm
      have hfz := hfz.mono hm
      obtain ⟨hu1, _⟩ := hF
      refine dlist hR (i := 11) rfl (by kernel_rfl) ?_
      have hR := hR.next (i := 11) (by kernel_rfl)
      refine step_callF A rfl rfl (c_law18_get hot (by omega) hts) H ?_
      rintro v12_11 a w m hm ⟨u2, rfl, hu2⟩ A H
      have hJ := hJ.trans hm
      have hos := hos.mono hm
      have hot := hot.mono hm
      have hou := hou.mono hm
      have hfz := hfz.mono hm
      have hu1 := hu1.mono hm
      have hL := hL.trans hm
      refine wpList_nil ?_
      clear hS; refine and_keep (H.sw hL) fun hS => ?_
      exact Ord.perm (by kernel_rfl) (fun hR => key5 (u1, u2, bA, bB, bC) _ _ _ ⟨hu1, hu2, trivial⟩ hJ (Fr.with1 (Fr.with1 (Fr.with1 (Fr.with1 (Fr.with1 (Fr.suf A rfl) A rfl (by first | rfl | (simp [*]; done))) A rfl (by first | rfl | (simp [*]; done))) A rfl (by first | rfl | (simp [*]; done))) A rfl (by first | rfl | (simp [*]; done))) A rfl (by first | rfl | (simp [*]; done))) (St.sel (Lc := [pt bA [.slice none 0 0, .int .i64 0] 59, pt bB [.slice none 0 0, .int .i64 0] 59, pt bC [.slice none 0 0, .int .i64 0] 59]) H) hS hR) hR
    refine joinXD (X := Value × Value × Value) 6 [17, 11, 5, 16, 15, 14, 13, 12, 10, 9, 8, 7, 6, 4, 3, 2, 1, 0] (fun xq F => (53, .agg #[xq.1, .int .i64 (gerr s x)]) :: (59, .agg #[xq.2.1, .int .i64 (gerr t x)]) :: (65, .agg #[xq.2.2, .int .i64 (gerr u x)]) :: F) (fun xq => Lf) (fun xq m => Dat m xq.1 (gdat s x) ∧ Dat m xq.2.1 (gdat t x) ∧ Dat m xq.2.2 (gdat u x) ∧ True) A H ?_ (fun key13 => ?_)
    · clear A H hS hR; rintro ⟨u1, u2, u3⟩ a w m hF hm A H hS hR; try dsimp only at A H hF
      have hJ := hm; have hL := hL.trans hm
      have hos := hos.mono hm
      have hot := hot.mono hm
      have hou := hou.mono hm
      have hfz := hfz.mono hm
      obtain ⟨hu1, hu2, hu3, _⟩ := hF
      refine draws_all hR (rs := [18, 19, 20]) (by kernel_rfl) (by decide) ?_
      simp only [List.mem_cons, List.not_mem_nil, or_false, forall_eq_or_imp, forall_eq]
      refine ⟨?_, ?_, ?_⟩
      · refine dalt (i := 18) rfl ?_
        have hR := hR.next (i := 18) (by kernel_rfl)
        refine step_alloc A H rfl ?_; clear A a; intro bA a w A H
        refine wpList_nil ?_
        clear hS; refine and_keep (H.sw hL) fun hS => ?_
        exact Ord.perm (by kernel_rfl) (fun hR => key6 (u1, u2, u3, bA) _ _ _ ⟨hu1, hu2, hu3, trivial⟩ hJ (Fr.with1 (Fr.with1 (Fr.with1 (Fr.with1 (Fr.suf A rfl) A rfl (by first | rfl | (simp [*]; done))) A rfl (by first | rfl | (simp [*]; done))) A rfl (by first | rfl | (simp [*]; done))) A rfl (by first | rfl | (simp [*]; done))) (St.sel (Lc := [pt bA [.slice none 0 0, .int .i64 0] 59]) H) hS hR) hR
      · refine dalt (i := 19) rfl ?_
        have hR := hR.next (i := 19) (by kernel_rfl)
        refine step_alloc A H rfl ?_; clear A a; intro bB a w A H
        refine wpList_nil ?_
        clear hS; refine and_keep (H.sw hL) fun hS => ?_
        exact Ord.perm (by kernel_rfl) (fun hR => key7 (u1, u2, u3, bB) _ _ _ ⟨hu1, hu2, hu3, trivial⟩ hJ (Fr.with1 (Fr.with1 (Fr.with1 (Fr.with1 (Fr.suf A rfl) A rfl (by first | rfl | (simp [*]; done))) A rfl (by first | rfl | (simp [*]; done))) A rfl (by first | rfl | (simp [*]; done))) A rfl (by first | rfl | (simp [*]; done))) (St.sel (Lc := [pt bB [.slice none 0 0, .int .i64 0] 59]) H) hS hR) hR
      · refine dalt (i := 20) rfl ?_
        have hR := hR.next (i := 20) (by kernel_rfl)
        refine step_alloc A H rfl ?_; clear A a; intro bC a w A H
        refine wpList_nil ?_
        clear hS; refine and_keep (H.sw hL) fun hS => ?_
        exact Ord.perm (by kernel_rfl) (fun hR => key8 (u1, u2, u3, bC) _ _ _ ⟨hu1, hu2, hu3, trivial⟩ hJ (Fr.with1 (Fr.with1 (Fr.with1 (Fr.with1 (Fr.suf A rfl) A rfl (by first | rfl | (simp [*]; done))) A rfl (by first | rfl | (simp [*]; done))) A rfl (by first | rfl | (simp [*]; done))) A rfl (by first | rfl | (simp [*]; done))) (St.sel (Lc := [pt bC [.slice none 0 0, .int .i64 0] 59]) H) hS hR) hR
    refine joinXD (X := Value × Value × Nat) 6 [18, 11, 5, 16, 15, 14, 13, 12, 10, 9, 8, 7, 6, 4, 3, 2, 1, 0] (fun xq F => (53, .agg #[xq.1, .int .i64 (gerr s x)]) :: (59, .agg #[xq.2.1, .int .i64 (gerr t x)]) :: (12, .pointer (some ⟨xq.2.2, 0, none⟩)) :: F) (fun xq => pt xq.2.2 [.slice none 0 0, .int .i64 0] 59 :: Lf) (fun xq m => Dat m xq.1 (gdat s x) ∧ Dat m xq.2.1 (gdat t x) ∧ True) A H ?_ (fun key14 => ?_)
    · clear A H hS hR; rintro ⟨u1, u2, bA⟩ a w m hF hm A H hS hR; try dsimp only at A H hF
      have hJ := hm; have hL := hL.trans hm
      have hos := hos.mono hm
      have hot := hot.mono hm
      have hou := hou.mono hm
      have hfz := hfz.mono hm
      obtain ⟨hu1, hu2, _⟩ := hF
      refine draws_all hR (rs := [17, 19, 20]) (by kernel_rfl) (by decide) ?_
      simp only [List.mem_cons, List.not_mem_nil, or_false, forall_eq_or_imp, forall_eq]
      refine ⟨?_, ?_, ?_⟩
      · refine dalt (i := 17) rfl ?_
        have hR := hR.next (i := 17) (by kernel_rfl)
        refine step_callF A rfl rfl (c_law18_get hou (by omega) hus) H ?_
        rintro v12_17 a w m hm ⟨u3, rfl, hu3⟩ A H
        have hJ := hJ.trans hm
        have hos := hos.mono hm
        have hot := hot.mono hm
        have hou := hou.mono hm
        have hfz := hfz.mono hm
        have hu1 := hu1.mono hm
        have hu2 := hu2.mono hm
        have hL := hL.trans hm
        refine wpList_nil ?_
        clear hS; refine and_keep (H.sw hL) fun hS => ?_
        exact Ord.perm (by kernel_rfl) (fun hR => key6 (u1, u2, u3, bA) _ _ _ ⟨hu1, hu2, hu3, trivial⟩ hJ (Fr.with1 (Fr.with1 (Fr.with1 (Fr.with1 (Fr.suf A rfl) A rfl (by first | rfl | (simp [*]; done))) A rfl (by first | rfl | (simp [*]; done))) A rfl (by first | rfl | (simp [*]; done))) A rfl (by first | rfl | (simp [*]; done))) (St.sel (Lc := [pt bA [.slice none 0 0, .int .i64 0] 59]) H) hS hR) hR
      · refine dalt (i := 19) rfl ?_
        have hR := hR.next (i := 19) (by kernel_rfl)
        refine step_alloc A H rfl ?_; clear A a; intro bB a w A H
        refine wpList_nil ?_
        clear hS; refine and_keep (H.sw hL) fun hS => ?_
        exact Ord.perm (by kernel_rfl) (fun hR => key9 (u1, u2, bA, bB) _ _ _ ⟨hu1, hu2, trivial⟩ hJ (Fr.with1 (Fr.with1 (Fr.with1 (Fr.with1 (Fr.suf A rfl) A rfl (by first | rfl | (simp [*]; done))) A rfl (by first | rfl | (simp [*]; done))) A rfl (by first | rfl | (simp [*]; done))) A rfl (by first | rfl | (simp [*]; done))) (St.sel (Lc := [pt bA [.slice none 0 0, .int .i64 0] 59, pt bB [.slice none 0 0, .int .i64 0] 59]) H) hS hR) hR
      · refine dalt (i := 20) rfl ?_
        have hR := hR.next (i := 20) (by kernel_rfl)
        refine step_alloc A H rfl ?_; clear A a; intro bC a w A H
        refine wpList_nil ?_
        clear hS; refine and_keep (H.sw hL) fun hS => ?_
        exact Ord.perm (by kernel_rfl) (fun hR => key10 (u1, u2, bA, bC) _ _ _ ⟨hu1, hu2, trivial⟩ hJ (Fr.with1 (Fr.with1 (Fr.with1 (Fr.with1 (Fr.suf A rfl) A rfl (by first | rfl | (simp [*]; done))) A rfl (by first | rfl | (simp [*]; done))) A rfl (by first | rfl | (simp [*]; done))) A rfl (by first | rfl | (simp [*]; done))) (St.sel (Lc := [pt bA [.slice none 0 0, .int .i64 0] 59, pt bC [.slice none 0 0, .int .i64 0] 59]) H) hS hR) hR
    refine joinXD (X := Value × Value × Nat) 6 [19, 11, 5, 16, 15, 14, 13, 12, 10, 9, 8, 7, 6, 4, 3, 2, 1, 0] (fun xq F => (53, .agg #[xq.1, .int .i64 (gerr s x)]) :: (59, .agg #[xq.2.1, .int .i64 (gerr t x)]) :: (13, .pointer (some ⟨xq.2.2, 0, none⟩)) :: F) (fun xq => pt xq.2.2 [.slice none 0 0, .int .i64 0] 59 :: Lf) (fun xq m => Dat m xq.1 (gdat s x) ∧ Dat m xq.2.1 (gdat t x) ∧ True) A H ?_ (fun key15 => ?_)
    · clear A H hS hR; rintro ⟨u1, u2, bB⟩ a w m hF hm A H hS hR; try dsimp only at A H hF
      have hJ := hm; have hL := hL.trans hm
      have hos := hos.mono hm
      have hot := hot.mono hm
      have hou := hou.mono hm
      have hfz := hfz.mono hm
      obtain ⟨hu1, hu2, _⟩ := hF
      refine draws_all hR (rs := [17, 18, 20]) (by kernel_rfl) (by decide) ?_
      simp only [List.mem_cons, List.not_mem_nil, or_false, forall_eq_or_imp, forall_eq]
      refine ⟨?_, ?_, ?_⟩
      · refine dalt (i := 17) rfl ?_
        have hR := hR.next (i := 17) (by kernel_rfl)
        refine step_callF A rfl rfl (c_law18_get hou (by omega) hus) H ?_
        rintro v12_17 a w m hm ⟨u3, rfl, hu3⟩ A H
        have hJ := hJ.trans hm
        have hos := hos.mono hm
        have hot := hot.mono hm
        have hou := hou.mono hm
        have hfz := hfz.mono hm
        have hu1 := hu1.mono hm
        have hu2 := hu2.mono hm
        have hL := hL.trans hm
        refine wpList_nil ?_
        clear hS; refine and_keep (H.sw hL) fun hS => ?_
        exact Ord.perm (by kernel_rfl) (fun hR => key7 (u1, u2, u3, bB) _ _ _ ⟨hu1, hu2, hu3, trivial⟩ hJ (Fr.with1 (Fr.with1 (Fr.with1 (Fr.with1 (Fr.suf A rfl) A rfl (by first | rfl | (simp [*]; done))) A rfl (by first | rfl | (simp [*]; done))) A rfl (by first | rfl | (simp [*]; done))) A rfl (by first | rfl | (simp [*]; done))) (St.sel (Lc := [pt bB [.slice none 0 0, .int .i64 0] 59]) H) hS hR) hR
      · refine dalt (i := 18) rfl ?_
        have hR := hR.next (i := 18) (by kernel_rfl)
        refine step_alloc A H rfl ?_; clear A a; intro bA a w A H
        refine wpList_nil ?_
        clear hS; refine and_keep (H.sw hL) fun hS => ?_
        exact Ord.perm (by kernel_rfl) (fun hR => key9 (u1, u2, bA, bB) _ _ _ ⟨hu1, hu2, trivial⟩ hJ (Fr.with1 (Fr.with1 (Fr.with1 (Fr.with1 (Fr.suf A rfl) A rfl (by first | rfl | (simp [*]; done))) A rfl (by first | rfl | (simp [*]; done))) A rfl (by first | rfl | (simp [*]; done))) A rfl (by first | rfl | (simp [*]; done))) (St.sel (Lc := [pt bA [.slice none 0 0, .int .i64 0] 59, pt bB [.slice none 0 0, .int .i64 0] 59]) H) hS hR) hR
      · refine dalt (i := 20) rfl ?_
        have hR := hR.next (i := 20) (by kernel_rfl)
        refine step_alloc A H rfl ?_; clear A a; intro bC a w A H
        refine wpList_nil ?_
        clear hS; refine and_keep (H.sw hL) fun hS => ?_
        exact Ord.perm (by kernel_rfl) (fun hR => key11 (u1, u2, bB, bC) _ _ _ ⟨hu1, hu2, trivial⟩ hJ (Fr.with1 (Fr.with1 (Fr.with1 (Fr.with1 (Fr.suf A rfl) A rfl (by first | rfl | (simp [*]; done))) A rfl (by first | rfl | (simp [*]; done))) A rfl (by first | rfl | (simp [*]; done))) A rfl (by first | rfl | (simp [*]; done))) (St.sel (Lc := [pt bB [.slice none 0 0, .int .i64 0] 59, pt bC [.slice none 0 0, .int .i64 0] 59]) H) hS hR) hR
    refine joinXD (X := Value × Value × Nat) 6 [20, 11, 5, 16, 15, 14, 13, 12, 10, 9, 8, 7, 6, 4, 3, 2, 1, 0] (fun xq F => (53, .agg #[xq.1, .int .i64 (gerr s x)]) :: (59, .agg #[xq.2.1, .int .i64 (gerr t x)]) :: (14, .pointer (some ⟨xq.2.2, 0, none⟩)) :: F) (fun xq => pt xq.2.2 [.slice none 0 0, .int .i64 0] 59 :: Lf) (fun xq m => Dat m xq.1 (gdat s x) ∧ Dat m xq.2.1 (gdat t x) ∧ True) A H ?_ (fun key16 => ?_)
    · clear A H hS hR; rintro ⟨u1, u2, bC⟩ a w m hF hm A H hS hR; try dsimp only at A H hF
      have hJ := hm; have hL := hL.trans hm
      have hos := hos.mono hm
      have hot := hot.mono hm
      have hou := hou.mono hm
      have hfz := hfz.mono hm
      obtain ⟨hu1, hu2, _⟩ := hF
      refine draws_all hR (rs := [17, 18, 19]) (by kernel_rfl) (by decide) ?_
      simp only [List.mem_cons, List.not_mem_nil, or_false, forall_eq_or_imp, forall_eq]
      refine ⟨?_, ?_, ?_⟩
      · refine dalt (i := 17) rfl ?_
        have hR := hR.next (i := 17) (by kernel_rfl)
        refine step_callF A rfl rfl (c_law18_get hou (by omega) hus) H ?_
        rintro v12_17 a w m hm ⟨u3, rfl, hu3⟩ A H
        have hJ := hJ.trans hm
        have hos := hos.mono hm
        have hot := hot.mono hm
        have hou := hou.mono hm
        have hfz := hfz.mono hm
        have hu1 := hu1.mono hm
        have hu2 := hu2.mono hm
        have hL := hL.trans hm
        refine wpList_nil ?_
        clear hS; refine and_keep (H.sw hL) fun hS => ?_
        exact Ord.perm (by kernel_rfl) (fun hR => key8 (u1, u2, u3, bC) _ _ _ ⟨hu1, hu2, hu3, trivial⟩ hJ (Fr.with1 (Fr.with1 (Fr.with1 (Fr.with1 (Fr.suf A rfl) A rfl (by first | rfl | (simp [*]; done))) A rfl (by first | rfl | (simp [*]; done))) A rfl (by first | rfl | (simp [*]; done))) A rfl (by first | rfl | (simp [*]; done))) (St.sel (Lc := [pt bC [.slice none 0 0, .int .i64 0] 59]) H) hS hR) hR
      · refine dalt (i := 18) rfl ?_
        have hR := hR.next (i := 18) (by kernel_rfl)
        refine step_alloc A H rfl ?_; clear A a; intro bA a w A H
        refine wpList_nil ?_
        clear hS; refine and_keep (H.sw hL) fun hS => ?_
        exact Ord.perm (by kernel_rfl) (fun hR => key10 (u1, u2, bA, bC) _ _ _ ⟨hu1, hu2, trivial⟩ hJ (Fr.with1 (Fr.with1 (Fr.with1 (Fr.with1 (Fr.suf A rfl) A rfl (by first | rfl | (simp [*]; done))) A rfl (by first | rfl | (simp [*]; done))) A rfl (by first | rfl | (simp [*]; done))) A rfl (by first | rfl | (simp [*]; done))) (St.sel (Lc := [pt bA [.slice none 0 0, .int .i64 0] 59, pt bC [.slice none 0 0, .int .i64 0] 59]) H) hS hR) hR
      · refine dalt (i := 19) rfl ?_
        have hR := hR.next (i := 19) (by kernel_rfl)
        refine step_alloc A H rfl ?_; clear A a; intro bB a w A H
        refine wpList_nil ?_
        clear hS; refine and_keep (H.sw hL) fun hS => ?_
        exact Ord.perm (by kernel_rfl) (fun hR => key11 (u1, u2, bB, bC) _ _ _ ⟨hu1, hu2, trivial⟩ hJ (Fr.with1 (Fr.with1 (Fr.with1 (Fr.with1 (Fr.suf A rfl) A rfl (by first | rfl | (simp [*]; done))) A rfl (by first | rfl | (simp [*]; done))) A rfl (by first | rfl | (simp [*]; done))) A rfl (by first | rfl | (simp [*]; done))) (St.sel (Lc := [pt bB [.slice none 0 0, .int .i64 0] 59, pt bC [.slice none 0 0, .int .i64 0] 59]) H) hS hR) hR
    refine joinXD (X := Value × Nat × Nat) 6 [19, 18, 5, 16, 15, 14, 13, 12, 10, 9, 8, 7, 6, 4, 3, 2, 1, 0] (fun xq F => (53, .agg #[xq.1, .int .i64 (gerr s x)]) :: (12, .pointer (some ⟨xq.2.1, 0, none⟩)) :: (13, .pointer (some ⟨xq.2.2, 0, none⟩)) :: F) (fun xq => pt xq.2.1 [.slice none 0 0, .int .i64 0] 59 :: pt xq.2.2 [.slice none 0 0, .int .i64 0] 59 :: Lf) (fun xq m => Dat m xq.1 (gdat s x) ∧ True) A H ?_ (fun key17 => ?_)
    · clear A H hS hR; rintro ⟨u1, bA, bB⟩ a w m hF hm A H hS hR; try dsimp only at A H hF
      have hJ := hm; have hL := hL.trans hm
      have hos := hos.mono hm
      have hot := hot.mono hm
      have hou := hou.mono hm
      have hfz := hfz.mono hm
      obtain ⟨hu1, _⟩ := hF
      refine draws_all hR (rs := [11, 20]) (by kernel_rfl) (by decide) ?_
      simp only [List.mem_cons, List.not_mem_nil, or_false, forall_eq_or_imp, forall_eq]
      refine ⟨?_, ?_⟩
      · refine dalt (i := 11) rfl ?_
        have hR := hR.next (i := 11) (by kernel_rfl)
        refine step_callF A rfl rfl (c_law18_get hot (by omega) hts) H ?_
        rintro v12_11 a w m hm ⟨u2, rfl, hu2⟩ A H
        have hJ := hJ.trans hm
        have hos := hos.mono hm
        have hot := hot.mono hm
        have hou := hou.mono hm
        have hfz := hfz.mono hm
        have hu1 := hu1.mono hm
        have hL := hL.trans hm
        refine wpList_nil ?_
        clear hS; refine and_keep (H.sw hL) fun hS => ?_
        exact Ord.perm (by kernel_rfl) (fun hR => key9 (u1, u2, bA, bB) _ _ _ ⟨hu1, hu2, trivial⟩ hJ (Fr.with1 (Fr.with1 (Fr.with1 (Fr.with1 (Fr.suf A rfl) A rfl (by first | rfl | (simp [*]; done))) A rfl (by first | rfl | (simp [*]; done))) A rfl (by first | rfl | (simp [*]; done))) A rfl (by first | rfl | (simp [*]; done))) (St.sel (Lc := [pt bA [.slice none 0 0, .int .i64 0] 59, pt bB [.slice none 0 0, .int .i64 0] 59]) H) hS hR) hR
      · refine dalt (i := 20) rfl ?_
        have hR := hR.next (i := 20) (by kernel_rfl)
        refine step_alloc A H rfl ?_; clear A a; intro bC a w A H
        refine wpList_nil ?_
        clear hS; refine and_keep (H.sw hL) fun hS => ?_
        exact Ord.perm (by kernel_rfl) (fun hR => key12 (u1, bA, bB, bC) _ _ _ ⟨hu1, trivial⟩ hJ (Fr.with1 (Fr.with1 (Fr.with1 (Fr.with1 (Fr.suf A rfl) A rfl (by first | rfl | (simp [*]; done))) A rfl (by first | rfl | (simp [*]; done))) A rfl (by first | rfl | (simp [*]; done))) A rfl (by first | rfl | (simp [*]; done))) (St.sel (Lc := [pt bA [.slice none 0 0, .int .i64 0] 59, pt bB [.slice none 0 0, .int .i64 0] 59, pt bC [.slice none 0 0, .int .i64 0] 59]) H) hS hR) hR
    refine joinXD (X := Value × Nat × Nat) 6 [20, 18, 5, 16, 15, 14, 13, 12, 10, 9, 8, 7, 6, 4, 3, 2, 1, 0] (fun xq F => (53, .agg #[xq.1, .int .i64 (gerr s x)]) :: (12, .pointer (some ⟨xq.2.1, 0, none⟩)) :: (14, .pointer (some ⟨xq.2.2, 0, none⟩)) :: F) (fun xq => pt xq.2.1 [.slice none 0 0, .int .i64 0] 59 :: pt xq.2.2 [.slice none 0 0, .int .i64 0] 59 :: Lf) (fun xq m => Dat m xq.1 (gdat s x) ∧ True) A H ?_ (fun key18 => ?_)
    · clear A H hS hR; rintro ⟨u1, bA, bC⟩ a w m hF hm A H hS hR; try dsimp only at A H hF
      have hJ := hm; have hL := hL.trans hm
      have hos := hos.mono hm
      have hot := hot.mono hm
      have hou := hou.mono hm
      have hfz := hfz.mono hm
      obtain ⟨hu1, _⟩ := hF
      refine draws_all hR (rs := [11, 19]) (by kernel_rfl) (by decide) ?_
      simp only [List.mem_cons, List.not_mem_nil, or_false, forall_eq_or_imp, forall_eq]
      refine ⟨?_, ?_⟩
      · refine dalt (i := 11) rfl ?_
        have hR := hR.next (i := 11) (by kernel_rfl)
        refine step_callF A rfl rfl (c_law18_get hot (by omega) hts) H ?_
        rintro v12_11 a w m hm ⟨u2, rfl, hu2⟩ A H
        have hJ := hJ.trans hm
        have hos := hos.mono hm
        have hot := hot.mono hm
        have hou := hou.mono hm
        have hfz := hfz.mono hm
        have hu1 := hu1.mono hm
        have hL := hL.trans hm
        refine wpList_nil ?_
        clear hS; refine and_keep (H.sw hL) fun hS => ?_
        exact Ord.perm (by kernel_rfl) (fun hR => key10 (u1, u2, bA, bC) _ _ _ ⟨hu1, hu2, trivial⟩ hJ (Fr.with1 (Fr.with1 (Fr.with1 (Fr.with1 (Fr.suf A rfl) A rfl (by first | rfl | (simp [*]; done))) A rfl (by first | rfl | (simp [*]; done))) A rfl (by first | rfl | (simp [*]; done))) A rfl (by first | rfl | (simp [*]; done))) (St.sel (Lc := [pt bA [.slice none 0 0, .int .i64 0] 59, pt bC [.slice none 0 0, .int .i64 0] 59]) H) hS hR) hR
      · refine dalt (i := 19) rfl ?_
        have hR := hR.next (i := 19) (by kernel_rfl)
        refine step_alloc A H rfl ?_; clear A a; intro bB a w A H
        refine wpList_nil ?_
        clear hS; refine and_keep (H.sw hL) fun hS => ?_
        exact Ord.perm (by kernel_rfl) (fun hR => key12 (u1, bA, bB, bC) _ _ _ ⟨hu1, trivial⟩ hJ (Fr.with1 (Fr.with1 (Fr.with1 (Fr.with1 (Fr.suf A rfl) A rfl (by first | rfl | (simp [*]; done))) A rfl (by first | rfl | (simp [*]; done))) A rfl (by first | rfl | (simp [*]; done))) A rfl (by first | rfl | (simp [*]; done))) (St.sel (Lc := [pt bA [.slice none 0 0, .int .i64 0] 59, pt bB [.slice none 0 0, .int .i64 0] 59, pt bC [.slice none 0 0, .int .i64 0] 59]) H) hS hR) hR
    refine joinXD (X := Value × Nat × Nat) 6 [20, 19, 5, 16, 15, 14, 13, 12, 10, 9, 8, 7, 6, 4, 3, 2, 1, 0] (fun xq F => (53, .agg #[xq.1, .int .i64 (gerr s x)]) :: (13, .pointer (some ⟨xq.2.1, 0, none⟩)) :: (14, .pointer (some ⟨xq.2.2, 0, none⟩)) :: F) (fun xq => pt xq.2.1 [.slice none 0 0, .int .i64 0] 59 :: pt xq.2.2 [.slice none 0 0, .int .i64 0] 59 :: Lf) (fun xq m => Dat m xq.1 (gdat s x) ∧ True) A H ?_ (fun key19 => ?_)
    · clear A H hS hR; rintro ⟨u1, bB, bC⟩ a w m hF hm A H hS hR; try dsimp only at A H hF
      have hJ := hm; have hL := hL.trans hm
      have hos := hos.mono hm
      have hot := hot.mono hm
      have hou := hou.mono hm
      have hfz := hfz.mono hm
      obtain ⟨hu1, _⟩ := hF
      refine draws_all hR (rs := [11, 18]) (by kernel_rfl) (by decide) ?_
      simp only [List.mem_cons, List.not_mem_nil, or_false, forall_eq_or_imp, forall_eq]
      refine ⟨?_, ?_⟩
      · refine dalt (i := 11) rfl ?_
        have hR := hR.next (i := 11) (by kernel_rfl)
        refine step_callF A rfl rfl (c_law18_get hot (by omega) hts) H ?_
        rintro v12_11 a w m hm ⟨u2, rfl, hu2⟩ A H
        have hJ := hJ.trans hm
        have hos := hos.mono hm
        have hot := hot.mono hm
        have hou := hou.mono hm
        have hfz := hfz.mono hm
        have hu1 := hu1.mono hm
        have hL := hL.trans hm
        refine wpList_nil ?_
        clear hS; refine and_keep (H.sw hL) fun hS => ?_
        exact Ord.perm (by kernel_rfl) (fun hR => key11 (u1, u2, bB, bC) _ _ _ ⟨hu1, hu2, trivial⟩ hJ (Fr.with1 (Fr.with1 (Fr.with1 (Fr.with1 (Fr.suf A rfl) A rfl (by first | rfl | (simp [*]; done))) A rfl (by first | rfl | (simp [*]; done))) A rfl (by first | rfl | (simp [*]; done))) A rfl (by first | rfl | (simp [*]; done))) (St.sel (Lc := [pt bB [.slice none 0 0, .int .i64 0] 59, pt bC [.slice none 0 0, .int .i64 0] 59]) H) hS hR) hR
      · refine dalt (i := 18) rfl ?_
        have hR := hR.next (i := 18) (by kernel_rfl)
        refine step_alloc A H rfl ?_; clear A a; intro bA a w A H
        refine wpList_nil ?_
        clear hS; refine and_keep (H.sw hL) fun hS => ?_
        exact Ord.perm (by kernel_rfl) (fun hR => key12 (u1, bA, bB, bC) _ _ _ ⟨hu1, trivial⟩ hJ (Fr.with1 (Fr.with1 (Fr.with1 (Fr.with1 (Fr.suf A rfl) A rfl (by first | rfl | (simp [*]; done))) A rfl (by first | rfl | (simp [*]; done))) A rfl (by first | rfl | (simp [*]; done))) A rfl (by first | rfl | (simp [*]; done))) (St.sel (Lc := [pt bA [.slice none 0 0, .int .i64 0] 59, pt bB [.slice none 0 0, .int .i64 0] 59, pt bC [.slice none 0 0, .int .i64 0] 59]) H) hS hR) hR
    refine joinXD (X := Nat × Nat × Nat) 6 [20, 19, 18, 16, 15, 14, 13, 12, 10, 9, 8, 7, 6, 4, 3, 2, 1, 0] (fun xq F => (12, .pointer (some ⟨xq.1, 0, none⟩)) :: (13, .pointer (some ⟨xq.2.1, 0, none⟩)) :: (14, .pointer (some ⟨xq.2.2, 0, none⟩)) :: F) (fun xq => pt xq.1 [.slice none 0 0, .int .i64 0] 59 :: pt xq.2.1 [.slice none 0 0, .int .i64 0] 59 :: pt xq.2.2 [.slice none 0 0, .int .i64 0] 59 :: Lf) (fun xq m => True) A H ?_ (fun key20 => ?_)
    · clear A H hS hR; rintro ⟨bA, bB, bC⟩ a w m hF hm A H hS hR; try dsimp only at A H hF
      have hJ := hm; have hL := hL.trans hm
      have hos := hos.mono hm
      have hot := hot.mono hm
      have hou := hou.mono hm
      have hfz := hfz.mono hm
      refine dlist hR (i := 5) rfl (by kernel_rfl) ?_
      have hR := hR.next (i := 5) (by kernel_rfl)
      refine step_callF A rfl rfl (c_law18_get hos (by omega) hss) H ?_
      rintro v12_5 a w m hm ⟨u1, rfl, hu1⟩ A H
      have hJ := hJ.trans hm
      have hos := hos.mono hm
      have hot := hot.mono hm
      have hou := hou.mono hm
      have hfz := hfz.mono hm
      have hL := hL.trans hm
      refine wpList_nil ?_
      clear hS; refine and_keep (H.sw hL) fun hS => ?_
      exact Ord.perm (by kernel_rfl) (fun hR => key12 (u1, bA, bB, bC) _ _ _ ⟨hu1, trivial⟩ hJ (Fr.with1 (Fr.with1 (Fr.with1 (Fr.with1 (Fr.suf A rfl) A rfl (by first | rfl | (simp [*]; done))) A rfl (by first | rfl | (simp [*]; done))) A rfl (by first | rfl | (simp [*]; done))) A rfl (by first | rfl | (simp [*]; done))) (St.sel (Lc := [pt bA [.slice none 0 0, .int .i64 0] 59, pt bB [.slice none 0 0, .int .i64 0] 59, pt bC [.slice none 0 0, .int .i64 0] 59]) H) hS hR) hR
    refine joinXD (X := Value × Value) 7 [11, 5, 16, 15, 14, 13, 12, 10, 9, 8, 7, 6, 4, 3, 2, 1, 0] (fun xq F => (53, .agg #[xq.1, .int .i64 (gerr s x)]) :: (59, .agg #[xq.2, .int .i64 (gerr t x)]) :: F) (fun xq => Lf) (fun xq m => Dat m xq.1 (gdat s x) ∧ Dat m xq.2 (gdat t x) ∧ True) A H ?_ (fun key21 => ?_)
    · clear A H hS hR; rintro ⟨u1, u2⟩ a w m hF hm A H hS hR; try dsimp only at A H hF
      have hJ := hm; have hL := hL.trans hm
      have hos := hos.mono hm
      have hot := hot.mono hm
      have hou := hou.mono hm
      have hfz := hfz.mono hm
      obtain ⟨hu1, hu2, _⟩ := hF
      refine draws_all hR (rs := [17, 18, 19, 20]) (by kernel_rfl) (by decide) ?_
      simp only [List.mem_cons, List.not_mem_nil, or_false, forall_eq_or_imp, forall_eq]
      refine ⟨?_, ?_, ?_, ?_⟩
      · refine dalt (i := 17) rfl ?_
        have hR := hR.next (i := 17) (by kernel_rfl)
        refine step_callF A rfl rfl (c_law18_get hou (by omega) hus) H ?_
        rintro v12_17 a w m hm ⟨u3, rfl, hu3⟩ A H
        have hJ := hJ.trans hm
        have hos := hos.mono hm
        have hot := hot.mono hm
        have hou := hou.mono hm
        have hfz := hfz.mono hm
        have hu1 := hu1.mono hm
        have hu2 := hu2.mono hm
        have hL := hL.trans hm
        refine wpList_nil ?_
        clear hS; refine and_keep (H.sw hL) fun hS => ?_
        exact Ord.perm (by kernel_rfl) (fun hR => key13 (u1, u2, u3) _ _ _ ⟨hu1, hu2, hu3, trivial⟩ hJ (Fr.with1 (Fr.with1 (Fr.with1 (Fr.suf A rfl) A rfl (by first | rfl | (simp [*]; done))) A rfl (by first | rfl | (simp [*]; done))) A rfl (by first | rfl | (simp [*]; done))) H hS hR) hR
      · refine dalt (i := 18) rfl ?_
        have hR := hR.next (i := 18) (by kernel_rfl)
        refine step_alloc A H rfl ?_; clear A a; intro bA a w A H
        refine wpList_nil ?_
        clear hS; refine and_keep (H.sw hL) fun hS => ?_
        exact Ord.perm (by kernel_rfl) (fun hR => key14 (u1, u2, bA) _ _ _ ⟨hu1, hu2, trivial⟩ hJ (Fr.with1 (Fr.with1 (Fr.with1 (Fr.suf A rfl) A rfl (by first | rfl | (simp [*]; done))) A rfl (by first | rfl | (simp [*]; done))) A rfl (by first | rfl | (simp [*]; done))) (St.sel (Lc := [pt bA [.slice none 0 0, .int .i64 0] 59]) H) hS hR) hR
      · refine dalt (i := 19) rfl ?_
        have hR := hR.next (i := 19) (by kernel_rfl)
        refine step_alloc A H rfl ?_; clear A a; intro bB a w A H
        refine wpList_nil ?_
        clear hS; refine and_keep (H.sw hL) fun hS => ?_
        exact Ord.perm (by kernel_rfl) (fun hR => key15 (u1, u2, bB) _ _ _ ⟨hu1, hu2, trivial⟩ hJ (Fr.with1 (Fr.with1 (Fr.with1 (Fr.suf A rfl) A rfl (by first | rfl | (simp [*]; done))) A rfl (by first | rfl | (simp [*]; done))) A rfl (by first | rfl | (simp [*]; done))) (St.sel (Lc := [pt bB [.slice none 0 0, .int .i64 0] 59]) H) hS hR) hR
      · refine dalt (i := 20) rfl ?_
        have hR := hR.next (i := 20) (by kernel_rfl)
        refine step_alloc A H rfl ?_; clear A a; intro bC a w A H
        refine wpList_nil ?_
        clear hS; refine and_keep (H.sw hL) fun hS => ?_
        exact Ord.perm (by kernel_rfl) (fun hR => key16 (u1, u2, bC) _ _ _ ⟨hu1, hu2, trivial⟩ hJ (Fr.with1 (Fr.with1 (Fr.with1 (Fr.suf A rfl) A rfl (by first | rfl | (simp [*]; done))) A rfl (by first | rfl | (simp [*]; done))) A rfl (by first | rfl | (simp [*]; done))) (St.sel (Lc := [pt bC [.slice none 0 0, .int .i64 0] 59]) H) hS hR) hR
    refine joinXD (X := Value × Nat) 7 [18, 5, 16, 15, 14, 13, 12, 10, 9, 8, 7, 6, 4, 3, 2, 1, 0] (fun xq F => (53, .agg #[xq.1, .int .i64 (gerr s x)]) :: (12, .pointer (some ⟨xq.2, 0, none⟩)) :: F) (fun xq => pt xq.2 [.slice none 0 0, .int .i64 0] 59 :: Lf) (fun xq m => Dat m xq.1 (gdat s x) ∧ True) A H ?_ (fun key22 => ?_)
    · clear A H hS hR; rintro ⟨u1, bA⟩ a w m hF hm A H hS hR; try dsimp only at A H hF
      have hJ := hm; have hL := hL.trans hm
      have hos := hos.mono hm
      have hot := hot.mono hm
      have hou := hou.mono hm
      have hfz := hfz.mono hm
      obtain ⟨hu1, _⟩ := hF
      refine draws_all hR (rs := [11, 19, 20]) (by kernel_rfl) (by decide) ?_
      simp only [List.mem_cons, List.not_mem_nil, or_false, forall_eq_or_imp, forall_eq]
      refine ⟨?_, ?_, ?_⟩
      · refine dalt (i := 11) rfl ?_
        have hR := hR.next (i := 11) (by kernel_rfl)
        refine step_callF A rfl rfl (c_law18_get hot (by omega) hts) H ?_
        rintro v12_11 a w m hm ⟨u2, rfl, hu2⟩ A H
        have hJ := hJ.trans hm
        have hos := hos.mono hm
        have hot := hot.mono hm
        have hou := hou.mono hm
        have hfz := hfz.mono hm
        have hu1 := hu1.mono hm
        have hL := hL.trans hm
        refine wpList_nil ?_
        clear hS; refine and_keep (H.sw hL) fun hS => ?_
        exact Ord.perm (by kernel_rfl) (fun hR => key14 (u1, u2, bA) _ _ _ ⟨hu1, hu2, trivial⟩ hJ (Fr.with1 (Fr.with1 (Fr.with1 (Fr.suf A rfl) A rfl (by first | rfl | (simp [*]; done))) A rfl (by first | rfl | (simp [*]; done))) A rfl (by first | rfl | (simp [*]; done))) (St.sel (Lc := [pt bA [.slice none 0 0, .int .i64 0] 59]) H) hS hR) hR
      · refine dalt (i := 19) rfl ?_
        have hR := hR.next (i := 19) (by kernel_rfl)
        refine step_alloc A H rfl ?_; clear A a; intro bB a w A H
        refine wpList_nil ?_
        clear hS; refine and_keep (H.sw hL) fun hS => ?_
        exact Ord.perm (by kernel_rfl) (fun hR => key17 (u1, bA, bB) _ _ _ ⟨hu1, trivial⟩ hJ (Fr.with1 (Fr.with1 (Fr.with1 (Fr.suf A rfl) A rfl (by first | rfl | (simp [*]; done))) A rfl (by first | rfl | (simp [*]; done))) A rfl (by first | rfl | (simp [*]; done))) (St.sel (Lc := [pt bA [.slice none 0 0, .int .i64 0] 59, pt bB [.slice none 0 0, .int .i64 0] 59]) H) hS hR) hR
      · refine dalt (i := 20) rfl ?_
        have hR := hR.next (i := 20) (by kernel_rfl)
        refine step_alloc A H rfl ?_; clear A a; intro bC a w A H
        refine wpList_nil ?_
        clear hS; refine and_keep (H.sw hL) fun hS => ?_
        exact Ord.perm (by kernel_rfl) (fun hR => key18 (u1, bA, bC) _ _ _ ⟨hu1, trivial⟩ hJ (Fr.with1 (Fr.with1 (Fr.with1 (Fr.suf A rfl) A rfl (by first | rfl | (simp [*]; done))) A rfl (by first | rfl | (simp [*]; done))) A rfl (by first | rfl | (simp [*]; done))) (St.sel (Lc := [pt bA [.slice none 0 0, .int .i64 0] 59, pt bC [.slice none 0 0, .int .i64 0] 59]) H) hS hR) hR
    refine joinXD (X := Value × Nat) 7 [19, 5, 16, 15, 14, 13, 12, 10, 9, 8, 7, 6, 4, 3, 2, 1, 0] (fun xq F => (53, .agg #[xq.1, .int .i64 (gerr s x)]) :: (13, .pointer (some ⟨xq.2, 0, none⟩)) :: F) (fun xq => pt xq.2 [.slice none 0 0, .int .i64 0] 59 :: Lf) (fun xq m => Dat m xq.1 (gdat s x) ∧ True) A H ?_ (fun key23 => ?_)
    · clear A H hS hR; rintro ⟨u1, bB⟩ a w m hF hm A H hS hR; try dsimp only at A H hF
      have hJ := hm; have hL := hL.trans hm
      have hos := hos.mono hm
      have hot := hot.mono hm
      have hou := hou.mono hm
      have hfz := hfz.mono hm
      obtain ⟨hu1, _⟩ := hF
      refine draws_all hR (rs := [11, 18, 20]) (by kernel_rfl) (by decide) ?_
      simp only [List.mem_cons, List.not_mem_nil, or_false, forall_eq_or_imp, forall_eq]
      refine ⟨?_, ?_, ?_⟩
      · refine dalt (i := 11) rfl ?_
        have hR := hR.next (i := 11) (by kernel_rfl)
        refine step_callF A rfl rfl (c_law18_get hot (by omega) hts) H ?_
        rintro v12_11 a w m hm ⟨u2, rfl, hu2⟩ A H
        have hJ := hJ.trans hm
        have hos := hos.mono hm
        have hot := hot.mono hm
        have hou := hou.mono hm
        have hfz := hfz.mono hm
        have hu1 := hu1.mono hm
        have hL := hL.trans hm
        refine wpList_nil ?_
        clear hS; refine and_keep (H.sw hL) fun hS => ?_
        exact Ord.perm (by kernel_rfl) (fun hR => key15 (u1, u2, bB) _ _ _ ⟨hu1, hu2, trivial⟩ hJ (Fr.with1 (Fr.with1 (Fr.with1 (Fr.suf A rfl) A rfl (by first | rfl | (simp [*]; done))) A rfl (by first | rfl | (simp [*]; done))) A rfl (by first | rfl | (simp [*]; done))) (St.sel (Lc := [pt bB [.slice none 0 0, .int .i64 0] 59]) H) hS hR) hR
      · refine dalt (i := 18) rfl ?_
        have hR := hR.next (i := 18) (by kernel_rfl)
        refine step_alloc A H rfl ?_; clear A a; intro bA a w A H
        refine wpList_nil ?_
        clear hS; refine and_keep (H.sw hL) fun hS => ?_
        exact Ord.perm (by kernel_rfl) (fun hR => key17 (u1, bA, bB) _ _ _ ⟨hu1, trivial⟩ hJ (Fr.with1 (Fr.with1 (Fr.with1 (Fr.suf A rfl) A rfl (by first | rfl | (simp [*]; done))) A rfl (by first | rfl | (simp [*]; done))) A rfl (by first | rfl | (simp [*]; done))) (St.sel (Lc := [pt bA [.slice none 0 0, .int .i64 0] 59, pt bB [.slice none 0 0, .int .i64 0] 59]) H) hS hR) hR
      · refine dalt (i := 20) rfl ?_
        have hR := hR.next (i := 20) (by kernel_rfl)
        refine step_alloc A H rfl ?_; clear A a; intro bC a w A H
        refine wpList_nil ?_
        clear hS; refine and_keep (H.sw hL) fun hS => ?_
        exact Ord.perm (by kernel_rfl) (fun hR => key19 (u1, bB, bC) _ _ _ ⟨hu1, trivial⟩ hJ (Fr.with1 (Fr.with1 (Fr.with1 (Fr.suf A rfl) A rfl (by first | rfl | (simp [*]; done))) A rfl (by first | rfl | (simp [*]; done))) A rfl (by first | rfl | (simp [*]; done))) (St.sel (Lc := [pt bB [.slice none 0 0, .int .i64 0] 59, pt bC [.slice none 0 0, .int .i64 0] 59]) H) hS hR) hR
    refine joinXD (X := Value × Nat) 7 [20, 5, 16, 15, 14, 13, 12, 10, 9, 8, 7, 6, 4, 3, 2, 1, 0] (fun xq F => (53, .agg #[xq.1, .int .i64 (gerr s x)]) :: (14, .pointer (some ⟨xq.2, 0, none⟩)) :: F) (fun xq => pt xq.2 [.slice none 0 0, .int .i64 0] 59 :: Lf) (fun xq m => Dat m xq.1 (gdat s x) ∧ True) A H ?_ (fun key24 => ?_)
    · clear A H hS hR; rintro ⟨u1, bC⟩ a w m hF hm A H hS hR; try dsimp only at A H hF
      have hJ := hm; have hL := hL.trans hm
      have hos := hos.mono hm
      have hot := hot.mono hm
      have hou := hou.mono hm
      have hfz := hfz.mono hm
      obtain ⟨hu1, _⟩ := hF
      refine draws_all hR (rs := [11, 18, 19]) (by kernel_rfl) (by decide) ?_
      simp only [List.mem_cons, List.not_mem_nil, or_false, forall_eq_or_imp, forall_eq]
      refine ⟨?_, ?_, ?_⟩
      · refine dalt (i := 11) rfl ?_
        have hR := hR.next (i := 11) (by kernel_rfl)
        refine step_callF A rfl rfl (c_law18_get hot (by omega) hts) H ?_
        rintro v12_11 a w m hm ⟨u2, rfl, hu2⟩ A H
        have hJ := hJ.trans hm
        have hos := hos.mono hm
        have hot := hot.mono hm
        have hou := hou.mono hm
        have hfz := hfz.mono hm
        have hu1 := hu1.mono hm
        have hL := hL.trans hm
        refine wpList_nil ?_
        clear hS; refine and_keep (H.sw hL) fun hS => ?_
        exact Ord.perm (by kernel_rfl) (fun hR => key16 (u1, u2, bC) _ _ _ ⟨hu1, hu2, trivial⟩ hJ (Fr.with1 (Fr.with1 (Fr.with1 (Fr.suf A rfl) A rfl (by first | rfl | (simp [*]; done))) A rfl (by first | rfl | (simp [*]; done))) A rfl (by first | rfl | (simp [*]; done))) (St.sel (Lc := [pt bC [.slice none 0 0, .int .i64 0] 59]) H) hS hR) hR
      · refine dalt (i := 18) rfl ?_
        have hR := hR.next (i := 18) (by kernel_rfl)
        refine step_alloc A H rfl ?_; clear A a; intro bA a w A H
        refine wpList_nil ?_
        clear hS; refine and_keep (H.sw hL) fun hS => ?_
        exact Ord.perm (by kernel_rfl) (fun hR => key18 (u1, bA, bC) _ _ _ ⟨hu1, trivial⟩ hJ (Fr.with1 (Fr.with1 (Fr.with1 (Fr.suf A rfl) A rfl (by first | rfl | (simp [*]; done))) A rfl (by first | rfl | (simp [*]; done))) A rfl (by first | rfl | (simp [*]; done))) (St.sel (Lc := [pt bA [.slice none 0 0, .int .i64 0] 59, pt bC [.slice none 0 0, .int .i64 0] 59]) H) hS hR) hR
      · refine dalt (i := 19) rfl ?_
        have hR := hR.next (i := 19) (by kernel_rfl)
        refine step_alloc A H rfl ?_; clear A a; intro bB a w A H
        refine wpList_nil ?_
        clear hS; refine and_keep (H.sw hL) fun hS => ?_
        exact Ord.perm (by kernel_rfl) (fun hR => key19 (u1, bB, bC) _ _ _ ⟨hu1, trivial⟩ hJ (Fr.with1 (Fr.with1 (Fr.with1 (Fr.suf A rfl) A rfl (by first | rfl | (simp [*]; done))) A rfl (by first | rfl | (simp [*]; done))) A rfl (by first | rfl | (simp [*]; done))) (St.sel (Lc := [pt bB [.slice none 0 0, .int .i64 0] 59, pt bC [.slice none 0 0, .int .i64 0] 59]) H) hS hR) hR
    refine joinXD (X := Nat × Nat) 7 [19, 18, 16, 15, 14, 13, 12, 10, 9, 8, 7, 6, 4, 3, 2, 1, 0] (fun xq F => (12, .pointer (some ⟨xq.1, 0, none⟩)) :: (13, .pointer (some ⟨xq.2, 0, none⟩)) :: F) (fun xq => pt xq.1 [.slice none 0 0, .int .i64 0] 59 :: pt xq.2 [.slice none 0 0, .int .i64 0] 59 :: Lf) (fun xq m => True) A H ?_ (fun key25 => ?_)
    · clear A H hS hR; rintro ⟨bA, bB⟩ a w m hF hm A H hS hR; try dsimp only at A H hF
      have hJ := hm; have hL := hL.trans hm
      have hos := hos.mono hm
      have hot := hot.mono hm
      have hou := hou.mono hm
      have hfz := hfz.mono hm
      refine draws_all hR (rs := [5, 20]) (by kernel_rfl) (by decide) ?_
      simp only [List.mem_cons, List.not_mem_nil, or_false, forall_eq_or_imp, forall_eq]
      refine ⟨?_, ?_⟩
      · refine dalt (i := 5) rfl ?_
        have hR := hR.next (i := 5) (by kernel_rfl)
        refine step_callF A rfl rfl (c_law18_get hos (by omega) hss) H ?_
        rintro v12_5 a w m hm ⟨u1, rfl, hu1⟩ A H
        have hJ := hJ.trans hm
        have hos := hos.mono hm
        have hot := hot.mono hm
        have hou := hou.mono hm
        have hfz := hfz.mono hm
        have hL := hL.trans hm
        refine wpList_nil ?_
        clear hS; refine and_keep (H.sw hL) fun hS => ?_
        exact Ord.perm (by kernel_rfl) (fun hR => key17 (u1, bA, bB) _ _ _ ⟨hu1, trivial⟩ hJ (Fr.with1 (Fr.with1 (Fr.with1 (Fr.suf A rfl) A rfl (by first | rfl | (simp [*]; done))) A rfl (by first | rfl | (simp [*]; done))) A rfl (by first | rfl | (simp [*]; done))) (St.sel (Lc := [pt bA [.slice none 0 0, .int .i64 0] 59, pt bB [.slice none 0 0, .int .i64 0] 59]) H) hS hR) hR
      · refine dalt (i := 20) rfl ?_
        have hR := hR.next (i := 20) (by kernel_rfl)
        refine step_alloc A H rfl ?_; clear A a; intro bC a w A H
        refine wpList_nil ?_
        clear hS; refine and_keep (H.sw hL) fun hS => ?_
        exact Ord.perm (by kernel_rfl) (fun hR => key20 (bA, bB, bC) _ _ _ trivial hJ (Fr.with1 (Fr.with1 (Fr.with1 (Fr.suf A rfl) A rfl (by first | rfl | (simp [*]; done))) A rfl (by first | rfl | (simp [*]; done))) A rfl (by first | rfl | (simp [*]; done))) (St.sel (Lc := [pt bA [.slice none 0 0, .int .i64 0] 59, pt bB [.slice none 0 0, .int .i64 0] 59, pt bC [.slice none 0 0, .int .i64 0] 59]) H) hS hR) hR
    refine joinXD (X := Nat × Nat) 7 [20, 18, 16, 15, 14, 13, 12, 10, 9, 8, 7, 6, 4, 3, 2, 1, 0] (fun xq F => (12, .pointer (some ⟨xq.1, 0, none⟩)) :: (14, .pointer (some ⟨xq.2, 0, none⟩)) :: F) (fun xq => pt xq.1 [.slice none 0 0, .int .i64 0] 59 :: pt xq.2 [.slice none 0 0, .int .i64 0] 59 :: Lf) (fun xq m => True) A H ?_ (fun key26 => ?_)
    · clear A H hS hR; rintro ⟨bA, bC⟩ a w m hF hm A H hS hR; try dsimp only at A H hF
      have hJ := hm; have hL := hL.trans hm
      have hos := hos.mono hm
      have hot := hot.mono hm
      have hou := hou.mono hm
      have hfz := hfz.mono hm
      refine draws_all hR (rs := [5, 19]) (by kernel_rfl) (by decide) ?_
      simp only [List.mem_cons, List.not_mem_nil, or_false, forall_eq_or_imp, forall_eq]
      refine ⟨?_, ?_⟩
      · refine dalt (i := 5) rfl ?_
        have hR := hR.next (i := 5) (by kernel_rfl)
        refine step_callF A rfl rfl (c_law18_get hos (by omega) hss) H ?_
        rintro v12_5 a w m hm ⟨u1, rfl, hu1⟩ A H
        have hJ := hJ.trans hm
        have hos := hos.mono hm
        have hot := hot.mono hm
        have hou := hou.mono hm
        have hfz := hfz.mono hm
        have hL := hL.trans hm
        refine wpList_nil ?_
        clear hS; refine and_keep (H.sw hL) fun hS => ?_
        exact Ord.perm (by kernel_rfl) (fun hR => key18 (u1, bA, bC) _ _ _ ⟨hu1, trivial⟩ hJ (Fr.with1 (Fr.with1 (Fr.with1 (Fr.suf A rfl) A rfl (by first | rfl | (simp [*]; done))) A rfl (by first | rfl | (simp [*]; done))) A rfl (by first | rfl | (simp [*]; done))) (St.sel (Lc := [pt bA [.slice none 0 0, .int .i64 0] 59, pt bC [.slice none 0 0, .int .i64 0] 59]) H) hS hR) hR
      · refine dalt (i := 19) rfl ?_
        have hR := hR.next (i := 19) (by kernel_rfl)
        refine step_alloc A H rfl ?_; clear A a; intro bB a w A H
        refine wpList_nil ?_
        clear hS; refine and_keep (H.sw hL) fun hS => ?_
        exact Ord.perm (by kernel_rfl) (fun hR => key20 (bA, bB, bC) _ _ _ trivial hJ (Fr.with1 (Fr.with1 (Fr.with1 (Fr.suf A rfl) A rfl (by first | rfl | (simp [*]; done))) A rfl (by first | rfl | (simp [*]; done))) A rfl (by first | rfl | (simp [*]; done))) (St.sel (Lc := [pt bA [.slice none 0 0, .int .i64 0] 59, pt bB [.slice none 0 0, .int .i64 0] 59, pt bC [.slice none 0 0, .int .i64 0] 59]) H) hS hR) hR
    refine joinXD (X := Nat × Nat) 7 [20, 19, 16, 15, 14, 13, 12, 10, 9, 8, 7, 6, 4, 3, 2, 1, 0] (fun xq F => (13, .pointer (some ⟨xq.1, 0, none⟩)) :: (14, .pointer (some ⟨xq.2, 0, none⟩)) :: F) (fun xq => pt xq.1 [.slice none 0 0, .int .i64 0] 59 :: pt xq.2 [.slice none 0 0, .int .i64 0] 59 :: Lf) (fun xq m => True) A H ?_ (fun key27 => ?_)
    · clear A H hS hR; rintro ⟨bB, bC⟩ a w m hF hm A H hS hR; try dsimp only at A H hF
      have hJ := hm; have hL := hL.trans hm
      have hos := hos.mono hm
      have hot := hot.mono hm
      have hou := hou.mono hm
      have hfz := hfz.mono hm
      refine draws_all hR (rs := [5, 18]) (by kernel_rfl) (by decide) ?_
      simp only [List.mem_cons, List.not_mem_nil, or_false, forall_eq_or_imp, forall_eq]
      refine ⟨?_, ?_⟩
      · refine dalt (i := 5) rfl ?_
        have hR := hR.next (i := 5) (by kernel_rfl)
        refine step_callF A rfl rfl (c_law18_get hos (by omega) hss) H ?_
        rintro v12_5 a w m hm ⟨u1, rfl, hu1⟩ A H
        have hJ := hJ.trans hm
        have hos := hos.mono hm
        have hot := hot.mono hm
        have hou := hou.mono hm
        have hfz := hfz.mono hm
        have hL := hL.trans hm
        refine wpList_nil ?_
        clear hS; refine and_keep (H.sw hL) fun hS => ?_
        exact Ord.perm (by kernel_rfl) (fun hR => key19 (u1, bB, bC) _ _ _ ⟨hu1, trivial⟩ hJ (Fr.with1 (Fr.with1 (Fr.with1 (Fr.suf A rfl) A rfl (by first | rfl | (simp [*]; done))) A rfl (by first | rfl | (simp [*]; done))) A rfl (by first | rfl | (simp [*]; done))) (St.sel (Lc := [pt bB [.slice none 0 0, .int .i64 0] 59, pt bC [.slice none 0 0, .int .i64 0] 59]) H) hS hR) hR
      · refine dalt (i := 18) rfl ?_
        have hR := hR.next (i := 18) (by kernel_rfl)
        refine step_alloc A H rfl ?_; clear A a; intro bA a w A H
        refine wpList_nil ?_
        clear hS; refine and_keep (H.sw hL) fun hS => ?_
        exact Ord.perm (by kernel_rfl) (fun hR => key20 (bA, bB, bC) _ _ _ trivial hJ (Fr.with1 (Fr.with1 (Fr.with1 (Fr.suf A rfl) A rfl (by first | rfl | (simp [*]; done))) A rfl (by first | rfl | (simp [*]; done))) A rfl (by first | rfl | (simp [*]; done))) (St.sel (Lc := [pt bA [.slice none 0 0, .int .i64 0] 59, pt bB [.slice none 0 0, .int .i64 0] 59, pt bC [.slice none 0 0, .int .i64 0] 59]) H) hS hR) hR
    refine joinXD (X := Value) 8 [5, 16, 15, 14, 13, 12, 10, 9, 8, 7, 6, 4, 3, 2, 1, 0] (fun xq F => (53, .agg #[xq, .int .i64 (gerr s x)]) :: F) (fun xq => Lf) (fun xq m => Dat m xq (gdat s x) ∧ True) A H ?_ (fun key28 => ?_)
    · clear A H hS hR; rintro u1 a w m hF hm A H hS hR; try dsimp only at A H hF
      have hJ := hm; have hL := hL.trans hm
      have hos := hos.mono hm
      have hot := hot.mono hm
      have hou := hou.mono hm
      have hfz := hfz.mono hm
      obtain ⟨hu1, _⟩ := hF
      refine draws_all hR (rs := [11, 18, 19, 20]) (by kernel_rfl) (by decide) ?_
      simp only [List.mem_cons, List.not_mem_nil, or_false, forall_eq_or_imp, forall_eq]
      refine ⟨?_, ?_, ?_, ?_⟩
      · refine dalt (i := 11) rfl ?_
        have hR := hR.next (i := 11) (by kernel_rfl)
        refine step_callF A rfl rfl (c_law18_get hot (by omega) hts) H ?_
        rintro v12_11 a w m hm ⟨u2, rfl, hu2⟩ A H
        have hJ := hJ.trans hm
        have hos := hos.mono hm
        have hot := hot.mono hm
        have hou := hou.mono hm
        have hfz := hfz.mono hm
        have hu1 := hu1.mono hm
        have hL := hL.trans hm
        refine wpList_nil ?_
        clear hS; refine and_keep (H.sw hL) fun hS => ?_
        exact Ord.perm (by kernel_rfl) (fun hR => key21 (u1, u2) _ _ _ ⟨hu1, hu2, trivial⟩ hJ (Fr.with1 (Fr.with1 (Fr.suf A rfl) A rfl (by first | rfl | (simp [*]; done))) A rfl (by first | rfl | (simp [*]; done))) H hS hR) hR
      · refine dalt (i := 18) rfl ?_
        have hR := hR.next (i := 18) (by kernel_rfl)
        refine step_alloc A H rfl ?_; clear A a; intro bA a w A H
        refine wpList_nil ?_
        clear hS; refine and_keep (H.sw hL) fun hS => ?_
        exact Ord.perm (by kernel_rfl) (fun hR => key22 (u1, bA) _ _ _ ⟨hu1, trivial⟩ hJ (Fr.with1 (Fr.with1 (Fr.suf A rfl) A rfl (by first | rfl | (simp [*]; done))) A rfl (by first | rfl | (simp [*]; done))) (St.sel (Lc := [pt bA [.slice none 0 0, .int .i64 0] 59]) H) hS hR) hR
      · refine dalt (i := 19) rfl ?_
        have hR := hR.next (i := 19) (by kernel_rfl)
        refine step_alloc A H rfl ?_; clear A a; intro bB a w A H
        refine wpList_nil ?_
        clear hS; refine and_keep (H.sw hL) fun hS => ?_
        exact Ord.perm (by kernel_rfl) (fun hR => key23 (u1, bB) _ _ _ ⟨hu1, trivial⟩ hJ (Fr.with1 (Fr.with1 (Fr.suf A rfl) A rfl (by first | rfl | (simp [*]; done))) A rfl (by first | rfl | (simp [*]; done))) (St.sel (Lc := [pt bB [.slice none 0 0, .int .i64 0] 59]) H) hS hR) hR
      · refine dalt (i := 20) rfl ?_
        have hR := hR.next (i := 20) (by kernel_rfl)
        refine step_alloc A H rfl ?_; clear A a; intro bC a w A H
        refine wpList_nil ?_
        clear hS; refine and_keep (H.sw hL) fun hS => ?_
        exact Ord.perm (by kernel_rfl) (fun hR => key24 (u1, bC) _ _ _ ⟨hu1, trivial⟩ hJ (Fr.with1 (Fr.with1 (Fr.suf A rfl) A rfl (by first | rfl | (simp [*]; done))) A rfl (by first | rfl | (simp [*]; done))) (St.sel (Lc := [pt bC [.slice none 0 0, .int .i64 0] 59]) H) hS hR) hR
    refine joinXD (X := Nat) 8 [18, 16, 15, 14, 13, 12, 10, 9, 8, 7, 6, 4, 3, 2, 1, 0] (fun xq F => (12, .pointer (some ⟨xq, 0, none⟩)) :: F) (fun xq => pt xq [.slice none 0 0, .int .i64 0] 59 :: Lf) (fun xq m => True) A H ?_ (fun key29 => ?_)
    · clear A H hS hR; rintro bA a w m hF hm A H hS hR; try dsimp only at A H hF
      have hJ := hm; have hL := hL.trans hm
      have hos := hos.mono hm
      have hot := hot.mono hm
      have hou := hou.mono hm
      have hfz := hfz.mono hm
      refine draws_all hR (rs := [5, 19, 20]) (by kernel_rfl) (by decide) ?_
      simp only [List.mem_cons, List.not_mem_nil, or_false, forall_eq_or_imp, forall_eq]
      refine ⟨?_, ?_, ?_⟩
      · refine dalt (i := 5) rfl ?_
        have hR := hR.next (i := 5) (by kernel_rfl)
        refine step_callF A rfl rfl (c_law18_get hos (by omega) hss) H ?_
        rintro v12_5 a w m hm ⟨u1, rfl, hu1⟩ A H
        have hJ := hJ.trans hm
        have hos := hos.mono hm
        have hot := hot.mono hm
        have hou := hou.mono hm
        have hfz := hfz.mono hm
        have hL := hL.trans hm
        refine wpList_nil ?_
        clear hS; refine and_keep (H.sw hL) fun hS => ?_
        exact Ord.perm (by kernel_rfl) (fun hR => key22 (u1, bA) _ _ _ ⟨hu1, trivial⟩ hJ (Fr.with1 (Fr.with1 (Fr.suf A rfl) A rfl (by first | rfl | (simp [*]; done))) A rfl (by first | rfl | (simp [*]; done))) (St.sel (Lc := [pt bA [.slice none 0 0, .int .i64 0] 59]) H) hS hR) hR
      · refine dalt (i := 19) rfl ?_
        have hR := hR.next (i := 19) (by kernel_rfl)
        refine step_alloc A H rfl ?_; clear A a; intro bB a w A H
        refine wpList_nil ?_
        clear hS; refine and_keep (H.sw hL) fun hS => ?_
        exact Ord.perm (by kernel_rfl) (fun hR => key25 (bA, bB) _ _ _ trivial hJ (Fr.with1 (Fr.with1 (Fr.suf A rfl) A rfl (by first | rfl | (simp [*]; done))) A rfl (by first | rfl | (simp [*]; done))) (St.sel (Lc := [pt bA [.slice none 0 0, .int .i64 0] 59, pt bB [.slice none 0 0, .int .i64 0] 59]) H) hS hR) hR
      · refine dalt (i := 20) rfl ?_
        have hR := hR.next (i := 20) (by kernel_rfl)
        refine step_alloc A H rfl ?_; clear A a; intro bC a w A H
        refine wpList_nil ?_
        clear hS; refine and_keep (H.sw hL) fun hS => ?_
        exact Ord.perm (by kernel_rfl) (fun hR => key26 (bA, bC) _ _ _ trivial hJ (Fr.with1 (Fr.with1 (Fr.suf A rfl) A rfl (by first | rfl | (simp [*]; done))) A rfl (by first | rfl | (simp [*]; done))) (St.sel (Lc := [pt bA [.slice none 0 0, .int .i64 0] 59, pt bC [.slice none 0 0, .int .i64 0] 59]) H) hS hR) hR
    refine joinXD (X := Nat) 8 [19, 16, 15, 14, 13, 12, 10, 9, 8, 7, 6, 4, 3, 2, 1, 0] (fun xq F => (13, .pointer (some ⟨xq, 0, none⟩)) :: F) (fun xq => pt xq [.slice none 0 0, .int .i64 0] 59 :: Lf) (fun xq m => True) A H ?_ (fun key30 => ?_)
    · clear A H hS hR; rintro bB a w m hF hm A H hS hR; try dsimp only at A H hF
      have hJ := hm; have hL := hL.trans hm
      have hos := hos.mono hm
      have hot := hot.mono hm
      have hou := hou.mono hm
      have hfz := hfz.mono hm
      refine draws_all hR (rs := [5, 18, 20]) (by kernel_rfl) (by decide) ?_
      simp only [List.mem_cons, List.not_mem_nil, or_false, forall_eq_or_imp, forall_eq]
      refine ⟨?_, ?_, ?_⟩
      · refine dalt (i := 5) rfl ?_
        have hR := hR.next (i := 5) (by kernel_rfl)
        refine step_callF A rfl rfl (c_law18_get hos (by omega) hss) H ?_
        rintro v12_5 a w m hm ⟨u1, rfl, hu1⟩ A H
        have hJ := hJ.trans hm
        have hos := hos.mono hm
        have hot := hot.mono hm
        have hou := hou.mono hm
        have hfz := hfz.mono hm
        have hL := hL.trans hm
        refine wpList_nil ?_
        clear hS; refine and_keep (H.sw hL) fun hS => ?_
        exact Ord.perm (by kernel_rfl) (fun hR => key23 (u1, bB) _ _ _ ⟨hu1, trivial⟩ hJ (Fr.with1 (Fr.with1 (Fr.suf A rfl) A rfl (by first | rfl | (simp [*]; done))) A rfl (by first | rfl | (simp [*]; done))) (St.sel (Lc := [pt bB [.slice none 0 0, .int .i64 0] 59]) H) hS hR) hR
      · refine dalt (i := 18) rfl ?_
        have hR := hR.next (i := 18) (by kernel_rfl)
        refine step_alloc A H rfl ?_; clear A a; intro bA a w A H
        refine wpList_nil ?_
        clear hS; refine and_keep (H.sw hL) fun hS => ?_
        exact Ord.perm (by kernel_rfl) (fun hR => key25 (bA, bB) _ _ _ trivial hJ (Fr.with1 (Fr.with1 (Fr.suf A rfl) A rfl (by first | rfl | (simp [*]; done))) A rfl (by first | rfl | (simp [*]; done))) (St.sel (Lc := [pt bA [.slice none 0 0, .int .i64 0] 59, pt bB [.slice none 0 0, .int .i64 0] 59]) H) hS hR) hR
      · refine dalt (i := 20) rfl ?_
        have hR := hR.next (i := 20) (by kernel_rfl)
        refine step_alloc A H rfl ?_; clear A a; intro bC a w A H
        refine wpList_nil ?_
        clear hS; refine and_keep (H.sw hL) fun hS => ?_
        exact Ord.perm (by kernel_rfl) (fun hR => key27 (bB, bC) _ _ _ trivial hJ (Fr.with1 (Fr.with1 (Fr.suf A rfl) A rfl (by first | rfl | (simp [*]; done))) A rfl (by first | rfl | (simp [*]; done))) (St.sel (Lc := [pt bB [.slice none 0 0, .int .i64 0] 59, pt bC [.slice none 0 0, .int .i64 0] 59]) H) hS hR) hR
    refine joinXD (X := Nat) 8 [20, 16, 15, 14, 13, 12, 10, 9, 8, 7, 6, 4, 3, 2, 1, 0] (fun xq F => (14, .pointer (some ⟨xq, 0, none⟩)) :: F) (fun xq => pt xq [.slice none 0 0, .int .i64 0] 59 :: Lf) (fun xq m => True) A H ?_ (fun key31 => ?_)
    · clear A H hS hR; rintro bC a w m hF hm A H hS hR; try dsimp only at A H hF
      have hJ := hm; have hL := hL.trans hm
      have hos := hos.mono hm
      have hot := hot.mono hm
      have hou := hou.mono hm
      have hfz := hfz.mono hm
      refine draws_all hR (rs := [5, 18, 19]) (by kernel_rfl) (by decide) ?_
      simp only [List.mem_cons, List.not_mem_nil, or_false, forall_eq_or_imp, forall_eq]
      refine ⟨?_, ?_, ?_⟩
      · refine dalt (i := 5) rfl ?_
        have hR := hR.next (i := 5) (by kernel_rfl)
        refine step_callF A rfl rfl (c_law18_get hos (by omega) hss) H ?_
        rintro v12_5 a w m hm ⟨u1, rfl, hu1⟩ A H
        have hJ := hJ.trans hm
        have hos := hos.mono hm
        have hot := hot.mono hm
        have hou := hou.mono hm
        have hfz := hfz.mono hm
        have hL := hL.trans hm
        refine wpList_nil ?_
        clear hS; refine and_keep (H.sw hL) fun hS => ?_
        exact Ord.perm (by kernel_rfl) (fun hR => key24 (u1, bC) _ _ _ ⟨hu1, trivial⟩ hJ (Fr.with1 (Fr.with1 (Fr.suf A rfl) A rfl (by first | rfl | (simp [*]; done))) A rfl (by first | rfl | (simp [*]; done))) (St.sel (Lc := [pt bC [.slice none 0 0, .int .i64 0] 59]) H) hS hR) hR
      · refine dalt (i := 18) rfl ?_
        have hR := hR.next (i := 18) (by kernel_rfl)
        refine step_alloc A H rfl ?_; clear A a; intro bA a w A H
        refine wpList_nil ?_
        clear hS; refine and_keep (H.sw hL) fun hS => ?_
        exact Ord.perm (by kernel_rfl) (fun hR => key26 (bA, bC) _ _ _ trivial hJ (Fr.with1 (Fr.with1 (Fr.suf A rfl) A rfl (by first | rfl | (simp [*]; done))) A rfl (by first | rfl | (simp [*]; done))) (St.sel (Lc := [pt bA [.slice none 0 0, .int .i64 0] 59, pt bC [.slice none 0 0, .int .i64 0] 59]) H) hS hR) hR
      · refine dalt (i := 19) rfl ?_
        have hR := hR.next (i := 19) (by kernel_rfl)
        refine step_alloc A H rfl ?_; clear A a; intro bB a w A H
        refine wpList_nil ?_
        clear hS; refine and_keep (H.sw hL) fun hS => ?_
        exact Ord.perm (by kernel_rfl) (fun hR => key27 (bB, bC) _ _ _ trivial hJ (Fr.with1 (Fr.with1 (Fr.suf A rfl) A rfl (by first | rfl | (simp [*]; done))) A rfl (by first | rfl | (simp [*]; done))) (St.sel (Lc := [pt bB [.slice none 0 0, .int .i64 0] 59, pt bC [.slice none 0 0, .int .i64 0] 59]) H) hS hR) hR
    have hJ := Le.refl m
    refine draws_all hR (rs := [5, 18, 19, 20]) (by kernel_rfl) (by decide) ?_
    simp only [List.mem_cons, List.not_mem_nil, or_false, forall_eq_or_imp, forall_eq]
    refine ⟨?_, ?_, ?_, ?_⟩
    · refine dalt (i := 5) rfl ?_
      have hR := hR.next (i := 5) (by kernel_rfl)
      refine step_callF A rfl rfl (c_law18_get hos (by omega) hss) H ?_
      rintro v12_5 a w m hm ⟨u1, rfl, hu1⟩ A H
      have hJ := hJ.trans hm
      have hos := hos.mono hm
      have hot := hot.mono hm
      have hou := hou.mono hm
      have hfz := hfz.mono hm
      have hL := hL.trans hm
      refine wpList_nil ?_
      clear hS; refine and_keep (H.sw hL) fun hS => ?_
      exact Ord.perm (by kernel_rfl) (fun hR => key28 (u1) _ _ _ ⟨hu1, trivial⟩ hJ (Fr.with1 (Fr.suf A rfl) A rfl (by first | rfl | (simp [*]; done))) H hS hR) hR
    · refine dalt (i := 18) rfl ?_
      have hR := hR.next (i := 18) (by kernel_rfl)
      refine step_alloc A H rfl ?_; clear A a; intro bA a w A H
      refine wpList_nil ?_
      clear hS; refine and_keep (H.sw hL) fun hS => ?_
      exact Ord.perm (by kernel_rfl) (fun hR => key29 (bA) _ _ _ trivial hJ (Fr.with1 (Fr.suf A rfl) A rfl (by first | rfl | (simp [*]; done))) (St.sel (Lc := [pt bA [.slice none 0 0, .int .i64 0] 59]) H) hS hR) hR
    · refine dalt (i := 19) rfl ?_
      have hR := hR.next (i := 19) (by kernel_rfl)
      refine step_alloc A H rfl ?_; clear A a; intro bB a w A H
      refine wpList_nil ?_
      clear hS; refine and_keep (H.sw hL) fun hS => ?_
      exact Ord.perm (by kernel_rfl) (fun hR => key30 (bB) _ _ _ trivial hJ (Fr.with1 (Fr.suf A rfl) A rfl (by first | rfl | (simp [*]; done))) (St.sel (Lc := [pt bB [.slice none 0 0, .int .i64 0] 59]) H) hS hR) hR
    · refine dalt (i := 20) rfl ?_
      have hR := hR.next (i := 20) (by kernel_rfl)
      refine step_alloc A H rfl ?_; clear A a; intro bC a w A H
      refine wpList_nil ?_
      clear hS; refine and_keep (H.sw hL) fun hS => ?_
      exact Ord.perm (by kernel_rfl) (fun hR => key31 (bC) _ _ _ trivial hJ (Fr.with1 (Fr.suf A rfl) A rfl (by first | rfl | (simp [*]; done))) (St.sel (Lc := [pt bC [.slice none 0 0, .int .i64 0] 59]) H) hS hR) hR
  · have g1 := h1
    try simp only [decide_eq_true_eq, decide_eq_false_iff_not, Bool.not_eq_true', Bool.not_eq_false', ne_eq, Decidable.not_not, Int.not_lt, Int.not_le] at g1
    refine wp_exit ?_
    refine wp_seq ?_
    refine wp_seq ?_
    refine wp_region_lit ?_
    refine step (Runs.assign A rfl) A rfl ?_; clear A a; intro a A
    refine wpList_nil ?_
    refine wp_block ?_
    refine wp_loop_ghost (fun q a w => ∃ (i : Nat) (m' : Mem), q = u.length + 1 - i ∧ (i ≤ u.length) ∧ Le m m' ∧ Fr 162 a [(6, .slice ads s.length cs), (7, .slice adt t.length ct), (8, .slice adu u.length cu), (9, .slice adv v.length cv), (10, .slice ad1 (s.length + t.length) c1), (5, .bool true), (15, .int .i64 i)] [] ∧ St w0 w m' (Lf)) _ ⟨0, m, rfl, by omega, Le.refl m, (Fr.cons A rfl (Fr.cons A rfl (Fr.cons A rfl (Fr.cons A rfl (Fr.cons A rfl (Fr.cons A rfl (Fr.cons A rfl (Fr.nil A)))))))), H.subH⟩ ?_
    clear A H; rintro q a w ⟨i, m, rfl, hinv, hm, A, H⟩
    have hM := hM.trans hm
    have G := G.mono hm
    have hLs := hLs.mono hm
    have hB := hB.mono hm
    have hLs2 := hLs2.mono hm
    have hB2 := hB2.mono hm
    have hos := hos.mono hm
    have hot := hot.mono hm
    have hou := hou.mono hm
    have hov := hov.mono hm
    have hI2 := hI2.mono hm
    have hids := hids.mono hm
    have hl2 := hm
    refine wp_seq ?_
    refine wp_seq ?_
    refine wp_region_lit ?_
    refine step (Runs.move A rfl) A rfl ?_; clear A a; intro a A
    refine step (Runs.move A rfl) A rfl ?_; clear A a; intro a A
    refine step (Runs.lenL A rfl SlC.h) A rfl ?_; clear A a; intro a A
    refine step (Runs.lss A rfl rfl) A rfl ?_; clear A a; intro a A
    refine wpList_nil ?_
    refine cond_split A rfl (fun h7 => ?_) (fun h7 => ?_)
    · have g7 := h7
      try simp only [decide_eq_true_eq, decide_eq_false_iff_not, Bool.not_eq_true', Bool.not_eq_false', ne_eq, Decidable.not_not, Int.not_lt, Int.not_le] at g7
      refine wp_skip ?_
      refine wp_seq ?_
      refine wp_block ?_
      refine wp_seq ?_
      obtain ⟨x, hx⟩ := ex_at (l := u) (i := i) (by omega)
      obtain ⟨bb, off, cs', rfl, hfz, hcs⟩ := hou.all_ (by omega)
      obtain ⟨vx, hx1, hx2, hx3, hxd⟩ := hcs _ _ hx
      refine wp_region_lit ?_
      refine step (Runs.move A rfl) A rfl ?_; clear A a; intro a A
      refine step (Runs.move A rfl) A rfl ?_; clear A a; intro a A
      refine step (Runs.move A rfl) A rfl ?_; clear A a; intro a A
      refine step (Runs.indexAddr A rfl rfl SlC.h (by omega) (by omega)) A rfl ?_; clear A a; intro a A
      refine step (Runs.fa A rfl) A rfl ?_; clear A a; intro a A
      refine step (Runs.ld1 A H rfl (v := u64 x.id) (by simpa using hx1)) A rfl ?_; clear A a; intro a A
      refine step_callF A rfl rfl (c_wireloomref18_In hids) H ?_
      rintro v18_6 a w m hm rfl A H
      have hM := hM.trans hm
      have hl2 := hl2.trans hm
      have G := G.mono hm
      have hLs := hLs.mono hm
      have hB := hB.mono hm
      have hLs2 := hLs2.mono hm
      have hB2 := hB2.mono hm
      have hos := hos.mono hm
      have hot := hot.mono hm
      have hou := hou.mono hm
      have hov := hov.mono hm
      have hI2 := hI2.mono hm
      have hids := hids.mono hm
      refine step (Runs.not A rfl) A rfl ?_; clear A a; intro a A
      refine wpList_nil ?_
      refine cond_false A rfl (notT (decide_eq_true (by have := List.mem_of_getElem? hx; rw [hue] at this; exact merge_in this))) ?_
      refine wp_skip ?_
      refine wp_region_lit ?_
      refine step (Runs.move A rfl) A rfl ?_; clear A a; intro a A
      refine step (Runs.add A rfl rfl (by omega)) A rfl ?_; clear A a; intro a A
      refine step (Runs.assign A rfl) A rfl ?_; clear A a; intro a A
      refine wpList_nil ?_
      exact ⟨_, by omega, i + 1, m, rfl, by omega, hl2, (Fr.cons A rfl (Fr.cons A rfl (Fr.cons A rfl (Fr.cons A rfl (Fr.cons A rfl (Fr.cons A rfl (Fr.cons A rfl (Fr.nil A)))))))), H.subH⟩
    · have g7 := h7
      try simp only [decide_eq_true_eq, decide_eq_false_iff_not, Bool.not_eq_true', Bool.not_eq_false', ne_eq, Decidable.not_not, Int.not_lt, Int.not_le] at g7
      refine wp_exit ?_
      refine wp_seq ?_
      refine wp_region_lit ?_
      refine step (Runs.move A rfl) A rfl ?_; clear A a; intro a A
      refine step_callF A rfl rfl (c_objects_Is hou) H ?_
      rintro v20_1 a w m hm rfl A H
      have hM := hM.trans hm
      have G := G.mono hm
      have hLs := hLs.mono hm
      have hB := hB.mono hm
      have hLs2 := hLs2.mono hm
      have hB2 := hB2.mono hm
      have hos := hos.mono hm
      have hot := hot.mono hm
      have hou := hou.mono hm
      have hov := hov.mono hm
      have hI2 := hI2.mono hm
      have hids := hids.mono hm
      refine step (Runs.move A rfl) A rfl ?_; clear A a; intro a A
      refine stepG (dj := 132) rfl rfl (decide_eq_true hus) (Runs.move A rfl) A rfl ?_; clear A a; intro a A
      refine step_callSG (dj := 132) rfl rfl (decide_eq_true hus) A rfl rfl (c_wireloomref18_Ids hou (by omega)) H ?_
      rintro v20_4 a w m L' hm ⟨adi, ci, rfl, rfl⟩ A H
      simp only [List.cons_append, List.nil_append] at H
      have hM := hM.trans hm
      have G := G.mono hm
      have hLs := hLs.mono hm
      have hB := hB.mono hm
      have hLs2 := hLs2.mono hm
      have hB2 := hB2.mono hm
      have hos := hos.mono hm
      have hot := hot.mono hm
      have hou := hou.mono hm
      have hov := hov.mono hm
      have hI2 := hI2.mono hm
      have hids := hids.mono hm
      have HX := H.row_freeze; clear H; obtain ⟨m, hm, hI0, H⟩ := HX
      have hIu : Ws m adi u.length ci (u.map (·.id)) := hI0
      have hM := hM.trans hm
      have G := G.mono hm
      have hLs := hLs.mono hm
      have hB := hB.mono hm
      have hLs2 := hLs2.mono hm
      have hB2 := hB2.mono hm
      have hos := hos.mono hm
      have hot := hot.mono hm
      have hou := hou.mono hm
      have hov := hov.mono hm
      have hI2 := hI2.mono hm
      have hids := hids.mono hm
      refine stepG (dj := 132) rfl rfl (decide_eq_true hus) (Runs.move A rfl) A rfl ?_; clear A a; intro a A
      refine step_callSG (dj := 132) rfl rfl (decide_eq_true hus) A rfl rfl (c_wireloomref18_Ids hov (by omega)) H ?_
      rintro v20_6 a w m L' hm ⟨adj, cj, rfl, rfl⟩ A H
      simp only [List.cons_append, List.nil_append] at H
      have hM := hM.trans hm
      have G := G.mono hm
      have hLs := hLs.mono hm
      have hB := hB.mono hm
      have hLs2 := hLs2.mono hm
      have hB2 := hB2.mono hm
      have hos := hos.mono hm
      have hot := hot.mono hm
      have hou := hou.mono hm
      have hov := hov.mono hm
      have hI2 := hI2.mono hm
      have hids := hids.mono hm
      have hIu := hIu.mono hm
      have HX := H.row_freeze; clear H; obtain ⟨m, hm, hI0, H⟩ := HX
      have hIv : Ws m adj v.length cj (v.map (·.id)) := hI0
      have hM := hM.trans hm
      have G := G.mono hm
      have hLs := hLs.mono hm
      have hB := hB.mono hm
      have hLs2 := hLs2.mono hm
      have hB2 := hB2.mono hm
      have hos := hos.mono hm
      have hot := hot.mono hm
      have hou := hou.mono hm
      have hov := hov.mono hm
      have hI2 := hI2.mono hm
      have hids := hids.mono hm
      have hIu := hIu.mono hm
      refine step_callFG (dj := 132) rfl rfl (decide_eq_true hus) A rfl rfl (c_wireloomref01_Same hIu hIv) H ?_
      rintro v20_7 a w m hm rfl A H
      have hM := hM.trans hm
      have G := G.mono hm
      have hLs := hLs.mono hm
      have hB := hB.mono hm
      have hLs2 := hLs2.mono hm
      have hB2 := hB2.mono hm
      have hos := hos.mono hm
      have hot := hot.mono hm
      have hou := hou.mono hm
      have hov := hov.mono hm
      have hI2 := hI2.mono hm
      have hids := hids.mono hm
      have hIu := hIu.mono hm
      have hIv := hIv.mono hm
      refine step (Runs.pickT A rfl (decide_eq_true hus) rfl) A rfl ?_; clear A a; intro a A
      refine step (Runs.move A rfl) A rfl ?_; clear A a; intro a A
      refine stepG (dj := 139) rfl rfl (decide_eq_true (by rw [hue, hve]; exact merge_ids hss hts)) (Runs.move A rfl) A rfl ?_; clear A a; intro a A
      refine stepG (dj := 139) rfl rfl (decide_eq_true (by rw [hue, hve]; exact merge_ids hss hts)) (Runs.move A rfl) A rfl ?_; clear A a; intro a A
      refine step_callFG (dj := 139) rfl rfl (decide_eq_true (by rw [hue, hve]; exact merge_ids hss hts)) A rfl rfl (c_objects_Union hos hos (by omega) (by omega)) H ?_
      rintro v20_12 a w m hm ⟨adx, cx, rfl, hxx⟩ A H
      have hM := hM.trans hm
      have G := G.mono hm
      have hLs := hLs.mono hm
      have hB := hB.mono hm
      have hLs2 := hLs2.mono hm
      have hB2 := hB2.mono hm
      have hos := hos.mono hm
      have hot := hot.mono hm
      have hou := hou.mono hm
      have hov := hov.mono hm
      have hI2 := hI2.mono hm
      have hids := hids.mono hm
      have hIu := hIu.mono hm
      have hIv := hIv.mono hm
      rw [merge_self hss] at A hxx
      refine stepG (dj := 139) rfl rfl (decide_eq_true (by rw [hue, hve]; exact merge_ids hss hts)) (Runs.move A rfl) A rfl ?_; clear A a; intro a A
      refine step_callFG (dj := 139) rfl rfl (decide_eq_true (by rw [hue, hve]; exact merge_ids hss hts)) A rfl rfl (c_wireloomref18_Same hxx hos) H ?_
      rintro v20_14 a w m hm rfl A H
      have hM := hM.trans hm
      have G := G.mono hm
      have hLs := hLs.mono hm
      have hB := hB.mono hm
      have hLs2 := hLs2.mono hm
      have hB2 := hB2.mono hm
      have hos := hos.mono hm
      have hot := hot.mono hm
      have hou := hou.mono hm
      have hov := hov.mono hm
      have hI2 := hI2.mono hm
      have hids := hids.mono hm
      have hIu := hIu.mono hm
      have hIv := hIv.mono hm
      have hxx := hxx.mono hm
      refine step (Runs.pickT A rfl (decide_eq_true (by rw [hue, hve]; exact merge_ids hss hts)) rfl) A rfl ?_; clear A a; intro a A
      refine step (Runs.move A rfl) A rfl ?_; clear A a; intro a A
      refine stepG (dj := 146) rfl rfl (decide_eq_true rfl) (Runs.move A rfl) A rfl ?_; clear A a; intro a A
      refine stepG (dj := 146) rfl rfl (decide_eq_true rfl) (Runs.move A rfl) A rfl ?_; clear A a; intro a A
      refine step_callFG (dj := 146) rfl rfl (decide_eq_true rfl) A rfl rfl (c_objects_Union hou hot (by omega) (by omega)) H ?_
      rintro v20_19 a w m hm ⟨ady, cy, rfl, hyy⟩ A H
      have hM := hM.trans hm
      have G := G.mono hm
      have hLs := hLs.mono hm
      have hB := hB.mono hm
      have hLs2 := hLs2.mono hm
      have hB2 := hB2.mono hm
      have hos := hos.mono hm
      have hot := hot.mono hm
      have hou := hou.mono hm
      have hov := hov.mono hm
      have hI2 := hI2.mono hm
      have hids := hids.mono hm
      have hIu := hIu.mono hm
      have hIv := hIv.mono hm
      have hxx := hxx.mono hm
      have hmu : mergeP u t = u := by rw [hue]; exact merge_again hss hts
      rw [hmu] at A hyy
      refine stepG (dj := 146) rfl rfl (decide_eq_true rfl) (Runs.move A rfl) A rfl ?_; clear A a; intro a A
      refine step_callFG (dj := 146) rfl rfl (decide_eq_true rfl) A rfl rfl (c_wireloomref18_Same hyy hou) H ?_
      rintro v20_21 a w m hm rfl A H
      have hM := hM.trans hm
      have G := G.mono hm
      have hLs := hLs.mono hm
      have hB := hB.mono hm
      have hLs2 := hLs2.mono hm
      have hB2 := hB2.mono hm
      have hos := hos.mono hm
      have hot := hot.mono hm
      have hou := hou.mono hm
      have hov := hov.mono hm
      have hI2 := hI2.mono hm
      have hids := hids.mono hm
      have hIu := hIu.mono hm
      have hIv := hIv.mono hm
      have hxx := hxx.mono hm
      have hyy := hyy.mono hm
      refine step (Runs.pickT A rfl (decide_eq_true rfl) rfl) A rfl ?_; clear A a; intro a A
      refine step (Runs.move A rfl) A rfl ?_; clear A a; intro a A
      refine stepG (dj := 153) rfl rfl (decide_eq_true rfl) (Runs.move A rfl) A rfl ?_; clear A a; intro a A
      refine step_callFG (dj := 153) rfl rfl (decide_eq_true rfl) A rfl rfl (c_objects_Union hos (Objs.nil m) (by omega) (by omega)) H ?_
      rintro v20_25 a w m hm ⟨adz, cz, rfl, hzz⟩ A H
      have hM := hM.trans hm
      have G := G.mono hm
      have hLs := hLs.mono hm
      have hB := hB.mono hm
      have hLs2 := hLs2.mono hm
      have hB2 := hB2.mono hm
      have hos := hos.mono hm
      have hot := hot.mono hm
      have hou := hou.mono hm
      have hov := hov.mono hm
      have hI2 := hI2.mono hm
      have hids := hids.mono hm
      have hIu := hIu.mono hm
      have hIv := hIv.mono hm
      have hxx := hxx.mono hm
      have hyy := hyy.mono hm
      rw [mergeP_nil] at A hzz
      refine stepG (dj := 153) rfl rfl (decide_eq_true rfl) (Runs.move A rfl) A rfl ?_; clear A a; intro a A
      refine step_callFG (dj := 153) rfl rfl (decide_eq_true rfl) A rfl rfl (c_wireloomref18_Same hzz hos) H ?_
      rintro v20_27 a w m hm rfl A H
      have hM := hM.trans hm
      have G := G.mono hm
      have hLs := hLs.mono hm
      have hB := hB.mono hm
      have hLs2 := hLs2.mono hm
      have hB2 := hB2.mono hm
      have hos := hos.mono hm
      have hot := hot.mono hm
      have hou := hou.mono hm
      have hov := hov.mono hm
      have hI2 := hI2.mono hm
      have hids := hids.mono hm
      have hIu := hIu.mono hm
      have hIv := hIv.mono hm
      have hxx := hxx.mono hm
      have hyy := hyy.mono hm
      have hzz := hzz.mono hm
      refine step (Runs.pickT A rfl (decide_eq_true rfl) rfl) A rfl ?_; clear A a; intro a A
      refine step (Runs.move A rfl) A rfl ?_; clear A a; intro a A
      refine stepG (dj := 159) rfl rfl (decide_eq_true rfl) (Runs.move A rfl) A rfl ?_; clear A a; intro a A
      refine step (Runs.pickT A rfl (decide_eq_true rfl) rfl) A rfl ?_; clear A a; intro a A
      refine step (Runs.assign A rfl) A rfl ?_; clear A a; intro a A
      refine wpList_nil ?_
      refine wp_ret ?_
      exact retF A rfl rfl hM H rfl
end Sl
end Go.Proofs.YtanhehbfbakdcaaGreatDoor
