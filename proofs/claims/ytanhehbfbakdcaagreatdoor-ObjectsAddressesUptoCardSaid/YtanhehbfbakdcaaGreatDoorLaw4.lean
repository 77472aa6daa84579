/- ObjectsAddresses: walk, printed by my gen.py out of annotations. -/
import Derived.Test.YtanhehbfbakdcaaGreatDoorLawC
import Derived.Test.YtanhehbfbakdcaaGreatDoorLaws
set_option linter.unusedSimpArgs false
set_option linter.unusedVariables false
namespace Go.Proofs.YtanhehbfbakdcaaGreatDoor
namespace Sl
open Go

/-- the error and the data that a read gives -/
def gerr (l : List Obj) (id : UInt64) : Int := if (getP l id).isSome then 0 else 180
def gdat (l : List Obj) (id : UInt64) : List UInt8 := (getP l id).getD []
theorem c_law18_get {ad : Option Addr} {n c : Nat} {l : List Obj} {id : UInt64} {m : Mem} (hl : Objs m ad n c l) (hb : n ≤ 1100000) (hs : Srt l) : Spec Tryz.prog 32 #[.slice ad n c, u64 id] m [] (RetF fun m' v => ∃ u, v = .agg #[u, .int .i64 (gerr l id)] ∧ Dat m' u (gdat l id)) :=
  (c_wireloomlaw18_get hl hb hs).mono fun m' e L' _ h => by
    cases e with
    | returned v =>
      obtain ⟨h1, h2⟩ := h
      refine ⟨h1, ?_⟩
      unfold gerr gdat
      cases hg : getP l id with
      | none => simp only [hg] at h2; subst h2; exact ⟨_, rfl, Dat.nil m'⟩
      | some d => simp only [hg] at h2; exact h2
    | panicked _ => exact h
    | outgrown => exact h
theorem gerr_zero {l : List Obj} {id : UInt64} (h : (getP l id).isSome = true) : gerr l id = 0 := by rw [gerr, if_pos h]
theorem gerr_none {l : List Obj} {id : UInt64} (h : ¬ gerr l id = 0) : getP l id = none := by
  cases hg : getP l id with
  | none => rfl
  | some d => exact absurd (by rw [gerr, hg]; rfl) h

set_option maxHeartbeats 1100000 in
theorem c_ObjectsAddresses {adL adB ada adb : Option Addr} {nL cL nB cB na ca nb cb : Nat} {ls : List (List UInt8)} {ts : List (UInt8 × UInt8 × UInt8)} {da db : List UInt8} {m : Mem} (G : Glob m) (hLs : Dats m adL nL cL ls) (hB : Tris m adB nB cB ts) (hnL : nL ≤ 1100000) (hnB : nB ≤ 1100000) (hsa : Slc m 1 ada na ca (da.map u8)) (hna : na ≤ 1000000000) (hsb : Slc m 1 adb nb cb (db.map u8)) (hnb : nb ≤ 1000000000) : Spec Tryz.prog 4 #[.agg #[.slice adL nL cL, .slice adB nB cB], .slice ada na ca, .slice adb nb cb] m [] (RetE (.bool true)) := by
  refine Spec.enter0 Tryz.func4 rfl 145 Tryz.ntmps4 rfl fun a w0 Lf A H => ?_
  have hM := Le.refl m
  have hmx : maxLen = 9223372036854775807 := rfl
  refine wp_seq ?_
  refine wp_region_lit ?_
  refine step_box A H rfl (by simp only [Value.cells, List.toList_toArray]; rfl) rfl ?_; intro b3 a w A H
  refine step (Runs.assign A rfl) A rfl ?_; clear A a; intro a A
  refine wpList_nil ?_
  refine wp_seq ?_
  refine wp_region_lit ?_
  refine step_callF A rfl rfl (c_law18_examples G) H ?_
  rintro v1_0 a w m hm rfl A H
  have hM := hM.trans hm
  have G := G.mono hm
  have hLs := hLs.mono hm
  have hB := hB.mono hm
  have hsa := hsa.mono hm
  have hsb := hsb.mono hm
  refine step (Runs.assign A rfl) A rfl ?_; clear A a; intro a A
  refine wpList_nil ?_
  refine wp_seq ?_
  refine wp_seq ?_
  refine wp_region_lit ?_
  refine step (Runs.move A rfl) A rfl ?_; clear A a; intro a A
  refine step (Runs.not A rfl) A rfl ?_; clear A a; intro a A
  refine wpList_nil ?_
  refine cond_false A rfl rfl ?_
  refine wp_skip ?_
  refine wp_seq ?_
  refine wp_seq ?_
  refine wp_region_lit ?_
  refine step (Runs.move A rfl) A rfl ?_; clear A a; intro a A
  refine step (Runs.lenL A rfl SlC.h) A rfl ?_; clear A a; intro a A
  refine step (Runs.gtr A rfl rfl) A rfl ?_; clear A a; intro a A
  refine step (Runs.move A rfl) A rfl ?_; clear A a; intro a A
  refine onBool A (dj := 18) rfl (fun h1 => ?_) (fun h1 => ?_)
  · have g1 := h1
    try simp only [decide_eq_true_eq, decide_eq_false_iff_not, Bool.not_eq_true', Bool.not_eq_false', ne_eq, Decidable.not_not, Int.not_lt, Int.not_le] at g1
    refine stepSkip (dj := 18) rfl rfl h1 A rfl ?_; clear A a; intro a A
    refine stepSkip (dj := 18) rfl rfl h1 A rfl ?_; clear A a; intro a A
    refine stepSkip (dj := 18) rfl rfl h1 A rfl ?_; clear A a; intro a A
    refine step (Runs.pickT A rfl h1 rfl) A rfl ?_; clear A a; intro a A
    refine wpList_nil ?_
    refine cond_true A rfl rfl ?_
    refine wp_seq ?_
    refine wp_region_lit ?_
    refine step (Runs.move A rfl) A rfl ?_; clear A a; intro a A
    refine step (Runs.assign A rfl) A rfl ?_; clear A a; intro a A
    refine wpList_nil ?_
    refine wp_ret ?_
    exact retF A rfl rfl hM H rfl
  · have g1 := h1
    try simp only [decide_eq_true_eq, decide_eq_false_iff_not, Bool.not_eq_true', Bool.not_eq_false', ne_eq, Decidable.not_not, Int.not_lt, Int.not_le] at g1
    refine stepG (dj := 18) rfl rfl h1 (Runs.move A rfl) A rfl ?_; clear A a; intro a A
    refine stepG (dj := 18) rfl rfl h1 (Runs.lenL A rfl SlC.h) A rfl ?_; clear A a; intro a A
    refine stepG (dj := 18) rfl rfl h1 (Runs.gtr A rfl rfl) A rfl ?_; clear A a; intro a A
    refine step (Runs.pickF A rfl h1 rfl) A rfl ?_; clear A a; intro a A
    refine wpList_nil ?_
    refine cond_split A rfl (fun h2 => ?_) (fun h2 => ?_)
    · have g2 := h2
      try simp only [decide_eq_true_eq, decide_eq_false_iff_not, Bool.not_eq_true', Bool.not_eq_false', ne_eq, Decidable.not_not, Int.not_lt, Int.not_le] at g2
      refine wp_seq ?_
      refine wp_region_lit ?_
      refine step (Runs.move A rfl) A rfl ?_; clear A a; intro a A
      refine step (Runs.assign A rfl) A rfl ?_; clear A a; intro a A
      refine wpList_nil ?_
      refine wp_ret ?_
      exact retF A rfl rfl hM H rfl
    · have g2 := h2
      try simp only [decide_eq_true_eq, decide_eq_false_iff_not, Bool.not_eq_true', Bool.not_eq_false', ne_eq, Decidable.not_not, Int.not_lt, Int.not_le] at g2
      refine wp_skip ?_
      refine wp_seq ?_
      refine wp_region_lit ?_
      refine step (Runs.ldN A H rfl rfl) A rfl ?_; clear A a; intro a A
      refine step_callF A rfl rfl (c_wireloomref18_Store hLs hB (by omega) (by omega)) H ?_
      rintro v6_1 a w m hm ⟨ads, cs0, rfl, hst⟩ A H
      have hM := hM.trans hm
      have G := G.mono hm
      have hLs := hLs.mono hm
      have hB := hB.mono hm
      have hsa := hsa.mono hm
      have hsb := hsb.mono hm
      obtain ⟨s, hse⟩ : ∃ s, s = storeP ls ts := ⟨_, rfl⟩
      rw [← hse] at A hst
      have hss : Srt s := by rw [hse]; exact storeP_srt ls ts
      have hsl : s.length ≤ 8 := by rw [hse]; exact storeP_len ls ts
      refine step (Runs.assign A rfl) A rfl ?_; clear A a; intro a A
      refine wpList_nil ?_
      refine wp_seq ?_
      refine wp_region_lit ?_
      refine step (Runs.move A rfl) A rfl ?_; clear A a; intro a A
      refine step (Runs.move A rfl) A rfl ?_; clear A a; intro a A
      refine step_callF A rfl rfl (c_wireloomlaw18_put hst (by omega) hss ⟨_, _, _, rfl, hsa, hna⟩) H ?_
      rintro v7_2 a w m hm ⟨adp, cp, rfl, hp⟩ A H
      have hM := hM.trans hm
      have G := G.mono hm
      have hLs := hLs.mono hm
      have hB := hB.mono hm
      have hsa := hsa.mono hm
      have hsb := hsb.mono hm
      have hst := hst.mono hm
      obtain ⟨p, hpe⟩ : ∃ p, p = putP s da := ⟨_, rfl⟩
      rw [← hpe] at A hp
      have hps : Srt p := by rw [hpe]; exact putP_srt hss
      have hpl : p.length ≤ 9 := by rw [hpe]; have := putP_len s da; omega
      refine step (Runs.move A rfl) A rfl ?_; clear A a; intro a A
      refine step (Runs.move A rfl) A rfl ?_; clear A a; intro a A
      refine step_callF A rfl rfl (c_wireloomlaw18_put hst (by omega) hss ⟨_, _, _, rfl, hsb, hnb⟩) H ?_
      rintro v7_5 a w m hm ⟨adq, cq, rfl, hq⟩ A H
      have hM := hM.trans hm
      have G := G.mono hm
      have hLs := hLs.mono hm
      have hB := hB.mono hm
      have hsa := hsa.mono hm
      have hsb := hsb.mono hm
      have hst := hst.mono hm
      have hp := hp.mono hm
      obtain ⟨qq, hqe⟩ : ∃ z, z = putP s db := ⟨_, rfl⟩
      rw [← hqe] at A hq
      have hqs : Srt qq := by rw [hqe]; exact putP_srt hss
      have hql : qq.length ≤ 9 := by rw [hqe]; have := putP_len s db; omega
      refine step_alloc A H rfl ?_; clear A a; intro b9 a w A H
      refine step_alloc A H rfl ?_; clear A a; intro b10 a w A H
      refine step_store A H rfl rfl rfl rfl rfl rfl ?_; intro w H
      refine step_store A H rfl rfl rfl rfl rfl rfl ?_; intro w H
      refine wpList_nil ?_
      refine wp_seq ?_
      refine wp_seq ?_
      refine draw_begin (ms := m) (Ls := [pt b10 [.slice adq qq.length cq, u64 (dig db), .int .i64 0] 42, pt b9 [.slice adp p.length cp, u64 (dig da), .int .i64 0] 42]) (by kernel_rfl) (N := 43) rfl (by kernel_rfl) H ?_; clear H; intro w H hR
      have hS : SW m [pt b10 [.slice adq qq.length cq, u64 (dig db), .int .i64 0] 42, pt b9 [.slice adp p.length cp, u64 (dig da), .int .i64 0] 42] w := H.sw (Le.refl m)
      have hL := Le.refl m
      refine dstep hR (i := 0) rfl (by kernel_rfl) (fun _ _ _ h => h) (fun _ _ H' => (Runs.fa A rfl)) A rfl hS ?_; clear A a hR; intro a A hR
      refine dstep hR (i := 1) rfl (by kernel_rfl) (fun _ _ _ h => h) (fun _ _ H' => (Runs.ld1 A H' rfl rfl)) A rfl hS ?_; clear A a hR; intro a A hR
      refine dstep hR (i := 2) rfl (by kernel_rfl) (fun _ _ _ h => h) (fun _ _ H' => (Runs.move A rfl)) A rfl hS ?_; clear A a hR; intro a A hR
      refine dlist hR (i := 3) rfl (by kernel_rfl) ?_
      have hR := hR.next (i := 3) (by kernel_rfl)
      refine step_callF A rfl rfl (c_digest_Bytes hsa hna) H ?_
      rintro v8_3 a w m hm rfl A H
      have hM := hM.trans hm
      have G := G.mono hm
      have hLs := hLs.mono hm
      have hB := hB.mono hm
      have hsa := hsa.mono hm
      have hsb := hsb.mono hm
      have hst := hst.mono hm
      have hp := hp.mono hm
      have hq := hq.mono hm
      have hL := hL.trans hm
      refine wpList_nil ?_
      clear hS; refine and_keep (H.sw hL) fun hS => ?_
      refine dstep hR (i := 4) rfl (by kernel_rfl) (fun _ _ _ h => h) (fun _ _ H' => (Runs.neq A rfl rfl)) A rfl hS ?_; clear A a hR; intro a A hR
      refine dstep hR (i := 5) rfl (by kernel_rfl) (fun _ _ _ h => h) (fun _ _ H' => (Runs.move A rfl)) A rfl hS ?_; clear A a hR; intro a A hR
      refine dstepG hR (i := 6) (dj := 37) rfl (by kernel_rfl) (fun _ _ _ h => h) rfl rfl (decide_eq_false fun h => h rfl) (fun _ _ H' => (Runs.fa A rfl)) A rfl hS ?_; clear A a hR; intro a A hR
      refine dstepG hR (i := 7) (dj := 37) rfl (by kernel_rfl) (fun _ _ _ h => h) rfl rfl (decide_eq_false fun h => h rfl) (fun _ _ H' => (Runs.ld1 A H' rfl rfl)) A rfl hS ?_; clear A a hR; intro a A hR
      refine dlist hR (i := 8) rfl (by kernel_rfl) ?_
      have hR := hR.next (i := 8) (by kernel_rfl)
      refine step_callFG (dj := 37) rfl rfl (decide_eq_false fun h => h rfl) A rfl rfl (c_wireloomref18_Is hp) H ?_
      rintro v8_8 a w m hm rfl A H
      have hM := hM.trans hm
      have G := G.mono hm
      have hLs := hLs.mono hm
      have hB := hB.mono hm
      have hsa := hsa.mono hm
      have hsb := hsb.mono hm
      have hst := hst.mono hm
      have hp := hp.mono hm
      have hq := hq.mono hm
      have hL := hL.trans hm
      refine wpList_nil ?_
      clear hS; refine and_keep (H.sw hL) fun hS => ?_
      refine dstepG hR (i := 9) (dj := 37) rfl (by kernel_rfl) (fun _ _ _ h => h) rfl rfl (decide_eq_false fun h => h rfl) (fun _ _ H' => (Runs.not A rfl)) A rfl hS ?_; clear A a hR; intro a A hR
      refine dstep hR (i := 10) rfl (by kernel_rfl) (fun _ _ _ h => h) (fun _ _ H' => (Runs.pickF A rfl (decide_eq_false fun h => h rfl) rfl)) A rfl hS ?_; clear A a hR; intro a A hR
      refine dstep hR (i := 11) rfl (by kernel_rfl) (fun _ _ _ h => h) (fun _ _ H' => (Runs.move A rfl)) A rfl hS ?_; clear A a hR; intro a A hR
      refine dstepG hR (i := 12) (dj := 43) rfl (by kernel_rfl) (fun _ _ _ h => h) rfl rfl (notT (decide_eq_true hps)) (fun _ _ H' => (Runs.fa A rfl)) A rfl hS ?_; clear A a hR; intro a A hR
      refine dstepG hR (i := 13) (dj := 43) rfl (by kernel_rfl) (fun _ _ _ h => h) rfl rfl (notT (decide_eq_true hps)) (fun _ _ H' => (Runs.ld1 A H' rfl rfl)) A rfl hS ?_; clear A a hR; intro a A hR
      refine dlist hR (i := 14) rfl (by kernel_rfl) ?_
      have hR := hR.next (i := 14) (by kernel_rfl)
      refine step_callFG (dj := 43) rfl rfl (notT (decide_eq_true hps)) A rfl rfl (c_wireloomref18_Is hq) H ?_
      rintro v8_14 a w m hm rfl A H
      have hM := hM.trans hm
      have G := G.mono hm
      have hLs := hLs.mono hm
      have hB := hB.mono hm
      have hsa := hsa.mono hm
      have hsb := hsb.mono hm
      have hst := hst.mono hm
      have hp := hp.mono hm
      have hq := hq.mono hm
      have hL := hL.trans hm
      refine wpList_nil ?_
      clear hS; refine and_keep (H.sw hL) fun hS => ?_
      refine dstepG hR (i := 15) (dj := 43) rfl (by kernel_rfl) (fun _ _ _ h => h) rfl rfl (notT (decide_eq_true hps)) (fun _ _ H' => (Runs.not A rfl)) A rfl hS ?_; clear A a hR; intro a A hR
      refine dstep hR (i := 16) rfl (by kernel_rfl) (fun _ _ _ h => h) (fun _ _ H' => (Runs.pickF A rfl (notT (decide_eq_true hps)) rfl)) A rfl hS ?_; clear A a hR; intro a A hR
      refine dstep hR (i := 17) rfl (by kernel_rfl) (fun _ _ _ h => h) (fun _ _ H' => (Runs.move A rfl)) A rfl hS ?_; clear A a hR; intro a A hR
      refine dstepG hR (i := 18) (dj := 49) rfl (by kernel_rfl) (fun _ _ _ h => h) rfl rfl (notT (decide_eq_true hqs)) (fun _ _ H' => (Runs.fa A rfl)) A rfl hS ?_; clear A a hR; intro a A hR
      refine dstepG hR (i := 19) (dj := 49) rfl (by kernel_rfl) (fun _ _ _ h => h) rfl rfl (notT (decide_eq_true hqs)) (fun _ _ H' => (Runs.ld1 A H' rfl rfl)) A rfl hS ?_; clear A a hR; intro a A hR
      refine dlist hR (i := 20) rfl (by kernel_rfl) ?_
      have hR := hR.next (i := 20) (by kernel_rfl)
      refine step_callFG (dj := 49) rfl rfl (notT (decide_eq_true hqs)) A rfl rfl (c_objects_Is hp) H ?_
      rintro v8_20 a w m hm rfl A H
      have hM := hM.trans hm
      have G := G.mono hm
      have hLs := hLs.mono hm
      have hB := hB.mono hm
      have hsa := hsa.mono hm
      have hsb := hsb.mono hm
      have hst := hst.mono hm
      have hp := hp.mono hm
      have hq := hq.mono hm
      have hL := hL.trans hm
      refine wpList_nil ?_
      clear hS; refine and_keep (H.sw hL) fun hS => ?_
      refine dstepG hR (i := 21) (dj := 49) rfl (by kernel_rfl) (fun _ _ _ h => h) rfl rfl (notT (decide_eq_true hqs)) (fun _ _ H' => (Runs.not A rfl)) A rfl hS ?_; clear A a hR; intro a A hR
      refine dstep hR (i := 22) rfl (by kernel_rfl) (fun _ _ _ h => h) (fun _ _ H' => (Runs.pickF A rfl (notT (decide_eq_true hqs)) rfl)) A rfl hS ?_; clear A a hR; intro a A hR
      refine dstep hR (i := 23) rfl (by kernel_rfl) (fun _ _ _ h => h) (fun _ _ H' => (Runs.move A rfl)) A rfl hS ?_; clear A a hR; intro a A hR
      refine dstepG hR (i := 24) (dj := 55) rfl (by kernel_rfl) (fun _ _ _ h => h) rfl rfl (notT (decide_eq_true hps)) (fun _ _ H' => (Runs.fa A rfl)) A rfl hS ?_; clear A a hR; intro a A hR
      refine dstepG hR (i := 25) (dj := 55) rfl (by kernel_rfl) (fun _ _ _ h => h) rfl rfl (notT (decide_eq_true hps)) (fun _ _ H' => (Runs.ld1 A H' rfl rfl)) A rfl hS ?_; clear A a hR; intro a A hR
      refine dstepG hR (i := 26) (dj := 55) rfl (by kernel_rfl) (fun _ _ _ h => h) rfl rfl (notT (decide_eq_true hps)) (fun _ _ H' => (Runs.fa A rfl)) A rfl hS ?_; clear A a hR; intro a A hR
      refine dstepG hR (i := 27) (dj := 55) rfl (by kernel_rfl) (fun _ _ _ h => h) rfl rfl (notT (decide_eq_true hps)) (fun _ _ H' => (Runs.ld1 A H' rfl rfl)) A rfl hS ?_; clear A a hR; intro a A hR
      refine dlist hR (i := 28) rfl (by kernel_rfl) ?_
      have hR := hR.next (i := 28) (by kernel_rfl)
      refine step_callFG (dj := 55) rfl rfl (notT (decide_eq_true hps)) A rfl rfl (c_law18_get hp (by omega) hps) H ?_
      rintro v8_28 a w m hm ⟨u, rfl, hu⟩ A H
      have hM := hM.trans hm
      have G := G.mono hm
      have hLs := hLs.mono hm
      have hB := hB.mono hm
      have hsa := hsa.mono hm
      have hsb := hsb.mono hm
      have hst := hst.mono hm
      have hp := hp.mono hm
      have hq := hq.mono hm
      have hge : gerr p (dig da) = 0 := gerr_zero (by rw [hpe]; exact get_put_same hss)
      rw [hge] at A
      have hL := hL.trans hm
      refine wpList_nil ?_
      clear hS; refine and_keep (H.sw hL) fun hS => ?_
      refine dstepG hR (i := 29) (dj := 55) rfl (by kernel_rfl) (fun _ _ _ h => h) rfl rfl (notT (decide_eq_true hps)) (fun _ _ H' => (Runs.field1 (ty := 40) A rfl FldC.h (by kernel_rfl) TyC.h rfl)) A rfl hS ?_; clear A a hR; intro a A hR
      refine dstepG hR (i := 30) (dj := 55) rfl (by kernel_rfl) (fun _ _ _ h => h) rfl rfl (notT (decide_eq_true hps)) (fun _ _ H' => (Runs.neq A rfl rfl)) A rfl hS ?_; clear A a hR; intro a A hR
      refine dstep hR (i := 31) rfl (by kernel_rfl) (fun _ _ _ h => h) (fun _ _ H' => (Runs.pickF A rfl (notT (decide_eq_true hps)) rfl)) A rfl hS ?_; clear A a hR; intro a A hR
      refine dstep hR (i := 32) rfl (by kernel_rfl) (fun _ _ _ h => h) (fun _ _ H' => (Runs.move A rfl)) A rfl hS ?_; clear A a hR; intro a A hR
      refine dstepG hR (i := 33) (dj := 64) rfl (by kernel_rfl) (fun _ _ _ h => h) rfl rfl (decide_eq_false fun h => h rfl) (fun _ _ H' => (Runs.fa A rfl)) A rfl hS ?_; clear A a hR; intro a A hR
      refine dstepG hR (i := 34) (dj := 64) rfl (by kernel_rfl) (fun _ _ _ h => h) rfl rfl (decide_eq_false fun h => h rfl) (fun _ _ H' => (Runs.ld1 A H' rfl rfl)) A rfl hS ?_; clear A a hR; intro a A hR
      refine dstepG hR (i := 35) (dj := 64) rfl (by kernel_rfl) (fun _ _ _ h => h) rfl rfl (decide_eq_false fun h => h rfl) (fun _ _ H' => (Runs.move A rfl)) A rfl hS ?_; clear A a hR; intro a A hR
      refine dstepG hR (i := 38) (dj := 64) rfl (by kernel_rfl) (fun _ _ _ h => h) rfl rfl (decide_eq_false fun h => h rfl) (fun _ _ H' => (Runs.fa A rfl)) A rfl hS ?_; clear A a hR; intro a A hR
      refine dstepG hR (i := 39) (dj := 64) rfl (by kernel_rfl) (fun _ _ _ h => h) rfl rfl (decide_eq_false fun h => h rfl) (fun _ _ H' => (Runs.ld1 A H' rfl rfl)) A rfl hS ?_; clear A a hR; intro a A hR
      refine dlist hR (i := 36) rfl (by kernel_rfl) ?_
      have hR := hR.next (i := 36) (by kernel_rfl)
      refine step_callFG (dj := 64) rfl rfl (decide_eq_false fun h => h rfl) A rfl rfl (c_wireloomlaw18_put hp (by omega) hps ⟨_, _, _, rfl, hsa, hna⟩) H ?_
      rintro v8_36 a w m hm ⟨ad36, c36, rfl, h36⟩ A H
      have hM := hM.trans hm
      have G := G.mono hm
      have hLs := hLs.mono hm
      have hB := hB.mono hm
      have hsa := hsa.mono hm
      have hsb := hsb.mono hm
      have hst := hst.mono hm
      have hp := hp.mono hm
      have hq := hq.mono hm
      have hpp : putP p da = p := by rw [hpe]; exact put_put hss
      rw [hpp] at A h36
      have hL := hL.trans hm
      refine wpList_nil ?_
      clear hS; refine and_keep (H.sw hL) fun hS => ?_
      refine dstepG hR (i := 37) (dj := 64) rfl (by kernel_rfl) (fun _ _ _ h => h) rfl rfl (decide_eq_false fun h => h rfl) (fun _ _ H' => (Runs.field1 (ty := 31) A rfl FldC.h (by kernel_rfl) TyC.h rfl)) A rfl hS ?_; clear A a hR; intro a A hR
      refine dlist hR (i := 40) rfl (by kernel_rfl) ?_
      have hR := hR.next (i := 40) (by kernel_rfl)
      refine step_callFG (dj := 64) rfl rfl (decide_eq_false fun h => h rfl) A rfl rfl (c_wireloomref18_Same h36 hp) H ?_
      rintro v8_40 a w m hm rfl A H
      have hM := hM.trans hm
      have G := G.mono hm
      have hLs := hLs.mono hm
      have hB := hB.mono hm
      have hsa := hsa.mono hm
      have hsb := hsb.mono hm
      have hst := hst.mono hm
      have hp := hp.mono hm
      have hq := hq.mono hm
      have h36 := h36.mono hm
      have hL := hL.trans hm
      refine wpList_nil ?_
      clear hS; refine and_keep (H.sw hL) fun hS => ?_
      refine dstepG hR (i := 41) (dj := 64) rfl (by kernel_rfl) (fun _ _ _ h => h) rfl rfl (decide_eq_false fun h => h rfl) (fun _ _ H' => (Runs.not A rfl)) A rfl hS ?_; clear A a hR; intro a A hR
      refine dstep hR (i := 42) rfl (by kernel_rfl) (fun _ _ _ h => h) (fun _ _ H' => (Runs.pickF A rfl (decide_eq_false fun h => h rfl) rfl)) A rfl hS ?_; clear A a hR; intro a A hR
      refine draw_done hR (by kernel_rfl) ?_
      clear hS hL hR
      refine cond_false A rfl (notT (decide_eq_true rfl)) ?_
      refine wp_skip ?_
      refine wp_seq ?_
      refine wp_seq ?_
      refine wp_region_lit ?_
      refine step (Runs.move A rfl) A rfl ?_; clear A a; intro a A
      refine step (Runs.fa A rfl) A rfl ?_; clear A a; intro a A
      refine step (Runs.ld1 A H rfl rfl) A rfl ?_; clear A a; intro a A
      refine step_callF A rfl rfl (c_law18_get hst (by omega) hss) H ?_
      rintro v10_3 a w m hm ⟨u, rfl, hu⟩ A H
      have hM := hM.trans hm
      have G := G.mono hm
      have hLs := hLs.mono hm
      have hB := hB.mono hm
      have hsa := hsa.mono hm
      have hsb := hsb.mono hm
      have hst := hst.mono hm
      have hp := hp.mono hm
      have hq := hq.mono hm
      have h36 := h36.mono hm
      refine step (Runs.field1 (ty := 40) A rfl FldC.h (by kernel_rfl) TyC.h rfl) A rfl ?_; clear A a; intro a A
      refine step (Runs.neq A rfl rfl) A rfl ?_; clear A a; intro a A
      refine step (Runs.move A rfl) A rfl ?_; clear A a; intro a A
      refine onBool A (dj := 81) rfl (fun h3 => ?_) (fun h3 => ?_)
      · have g3 := h3
        try simp only [decide_eq_true_eq, decide_eq_false_iff_not, Bool.not_eq_true', Bool.not_eq_false', ne_eq, Decidable.not_not, Int.not_lt, Int.not_le] at g3
        refine stepG (dj := 81) rfl rfl h3 (Runs.fa A rfl) A rfl ?_; clear A a; intro a A
        refine stepG (dj := 81) rfl rfl h3 (Runs.ld1 A H rfl rfl) A rfl ?_; clear A a; intro a A
        refine stepG (dj := 81) rfl rfl h3 (Runs.fa A rfl) A rfl ?_; clear A a; intro a A
        refine stepG (dj := 81) rfl rfl h3 (Runs.ld1 A H rfl rfl) A rfl ?_; clear A a; intro a A
        refine step_callFG (dj := 81) rfl rfl h3 A rfl rfl (c_law18_get hp (by omega) hps) H ?_
        rintro v10_11 a w m hm ⟨u, rfl, hu⟩ A H
        have hM := hM.trans hm
        have G := G.mono hm
        have hLs := hLs.mono hm
        have hB := hB.mono hm
        have hsa := hsa.mono hm
        have hsb := hsb.mono hm
        have hst := hst.mono hm
        have hp := hp.mono hm
        have hq := hq.mono hm
        have h36 := h36.mono hm
        have hgd : gdat p (dig da) = da := by rw [gdat, hpe, get_put_new hss (gerr_none (by assumption))]; rfl
        rw [hgd] at hu
        obtain ⟨adu, nu, cu, rfl, hsu, hnu⟩ := hu
        refine stepG (dj := 81) rfl rfl h3 (Runs.field1 (ty := 28) A rfl FldC.h (by kernel_rfl) TyC.h rfl) A rfl ?_; clear A a; intro a A
        refine stepG (dj := 81) rfl rfl h3 (Runs.move A rfl) A rfl ?_; clear A a; intro a A
        refine step_callFG (dj := 81) rfl rfl h3 A rfl rfl (c_wireloomref06_Same hsu hsa) H ?_
        rintro v10_14 a w m hm rfl A H
        have hM := hM.trans hm
        have G := G.mono hm
        have hLs := hLs.mono hm
        have hB := hB.mono hm
        have hsa := hsa.mono hm
        have hsb := hsb.mono hm
        have hst := hst.mono hm
        have hp := hp.mono hm
        have hq := hq.mono hm
        have h36 := h36.mono hm
        have hsu := hsu.mono hm
        refine stepG (dj := 81) rfl rfl h3 (Runs.not A rfl) A rfl ?_; clear A a; intro a A
        refine step (Runs.pickT A rfl h3 rfl) A rfl ?_; clear A a; intro a A
        refine wpList_nil ?_
        refine cond_false A rfl (notT (decide_eq_true rfl)) ?_
        refine wp_skip ?_
        refine wp_seq ?_
        refine wp_seq ?_
        refine wp_region_lit ?_
        refine step (Runs.assign A rfl) A rfl ?_; clear A a; intro a A
        refine wpList_nil ?_
        refine wp_block ?_
        refine wp_loop_ghost (fun q a w => ∃ (i : Nat) (m' : Mem), q = 9 - i ∧ (i ≤ s.length) ∧ Le m m' ∧ Fr 145 a [(1, .slice ada na ca), (2, .slice adb nb cb), (7, .bool true), (8, .slice ads s.length cs0), (9, .pointer (some ⟨b9, 0, none⟩)), (10, .pointer (some ⟨b10, 0, none⟩)), (11, .int .i64 i)] [] ∧ St w0 w m' (pt b10 [.slice adq qq.length cq, u64 (dig db), .int .i64 0] 42 :: pt b9 [.slice adp p.length cp, u64 (dig da), .int .i64 0] 42 :: Lf)) _ ⟨0, m, rfl, by omega, Le.refl m, (Fr.cons A rfl (Fr.cons A rfl (Fr.cons A rfl (Fr.cons A rfl (Fr.cons A rfl (Fr.cons A rfl (Fr.cons A rfl (Fr.nil A)))))))), H.subH⟩ ?_
        clear A H; rintro q a w ⟨i, m, rfl, hinv, hm, A, H⟩
        have hM := hM.trans hm
        have G := G.mono hm
        have hLs := hLs.mono hm
        have hB := hB.mono hm
        have hsa := hsa.mono hm
        have hsb := hsb.mono hm
        have hst := hst.mono hm
        have hp := hp.mono hm
        have hq := hq.mono hm
        have h36 := h36.mono hm
        have hsu := hsu.mono hm
        have hl1 := hm
        refine wp_seq ?_
        refine wp_seq ?_
        refine wp_region_lit ?_
        refine step (Runs.move A rfl) A rfl ?_; clear A a; intro a A
        refine step (Runs.move A rfl) A rfl ?_; clear A a; intro a A
        refine step (Runs.lenL A rfl SlC.h) A rfl ?_; clear A a; intro a A
        refine step (Runs.lss A rfl rfl) A rfl ?_; clear A a; intro a A
        refine wpList_nil ?_
        refine cond_split A rfl (fun h4 => ?_) (fun h4 => ?_)
        · have g4 := h4
          try simp only [decide_eq_true_eq, decide_eq_false_iff_not, Bool.not_eq_true', Bool.not_eq_false', ne_eq, Decidable.not_not, Int.not_lt, Int.not_le] at g4
          refine wp_skip ?_
          refine wp_seq ?_
          refine wp_block ?_
          refine wp_seq ?_
          obtain ⟨x, hx⟩ := ex_at (l := s) (i := i) (by omega)
          obtain ⟨bb, off, cs, rfl, hfz, hcs⟩ := hst.all_ (by omega)
          obtain ⟨vx, hx1, hx2, hx3, hxd⟩ := hcs _ _ hx
          refine draw_begin (ms := m) (Ls := [pt b10 [.slice adq qq.length cq, u64 (dig db), .int .i64 0] 42, pt b9 [.slice adp p.length cp, u64 (dig da), .int .i64 0] 42]) (by kernel_rfl) (N := 27) rfl (by kernel_rfl) H ?_; clear H; intro w H hR
          have hS : SW m [pt b10 [.slice adq qq.length cq, u64 (dig db), .int .i64 0] 42, pt b9 [.slice adp p.length cp, u64 (dig da), .int .i64 0] 42] w := H.sw (Le.refl m)
          have hL := Le.refl m
          refine dstep hR (i := 0) rfl (by kernel_rfl) (fun _ _ _ h => h) (fun _ _ H' => (Runs.move A rfl)) A rfl hS ?_; clear A a hR; intro a A hR
          refine dstep hR (i := 1) rfl (by kernel_rfl) (fun _ _ _ h => h) (fun _ _ H' => (Runs.move A rfl)) A rfl hS ?_; clear A a hR; intro a A hR
          refine dstep hR (i := 2) rfl (by kernel_rfl) (fun _ _ _ h => h) (fun _ _ H' => (Runs.indexAddr A rfl rfl SlC.h (by omega) (by omega))) A rfl hS ?_; clear A a hR; intro a A hR
          refine dstep hR (i := 3) rfl (by kernel_rfl) (fun _ _ _ h => h) (fun _ _ H' => (Runs.fa A rfl)) A rfl hS ?_; clear A a hR; intro a A hR
          refine dstep hR (i := 4) rfl (by kernel_rfl) (fun _ _ _ h => h) (fun _ _ H' => (Runs.ld1 A H' rfl (v := u64 x.id) (by simpa using hx1))) A rfl hS ?_; clear A a hR; intro a A hR
          refine dstep hR (i := 5) rfl (by kernel_rfl) (fun _ _ _ h => h) (fun _ _ H' => (Runs.fa A rfl)) A rfl hS ?_; clear A a hR; intro a A hR
          refine dstep hR (i := 6) rfl (by kernel_rfl) (fun _ _ _ h => h) (fun _ _ H' => (Runs.ld1 A H' rfl rfl)) A rfl hS ?_; clear A a hR; intro a A hR
          refine dstep hR (i := 7) rfl (by kernel_rfl) (fun _ _ _ h => h) (fun _ _ H' => (Runs.neq A rfl rfl)) A rfl hS ?_; clear A a hR; intro a A hR
          refine dstep hR (i := 8) rfl (by kernel_rfl) (fun _ _ _ h => h) (fun _ _ H' => (Runs.move A rfl)) A rfl hS ?_; clear A a hR; intro a A hR
          refine onBool A (dj := 106) rfl (fun h5 => ?_) (fun h5 => ?_)
          · have g5 := h5
            try simp only [decide_eq_true_eq, decide_eq_false_iff_not, Bool.not_eq_true', Bool.not_eq_false', ne_eq, Decidable.not_not, Int.not_lt, Int.not_le] at g5
            refine dstepG hR (i := 9) (dj := 106) rfl (by kernel_rfl) (fun _ _ _ h => h) rfl rfl h5 (fun _ _ H' => (Runs.fa A rfl)) A rfl hS ?_; clear A a hR; intro a A hR
            refine dstepG hR (i := 10) (dj := 106) rfl (by kernel_rfl) (fun _ _ _ h => h) rfl rfl h5 (fun _ _ H' => (Runs.ld1 A H' rfl rfl)) A rfl hS ?_; clear A a hR; intro a A hR
            refine dstepG hR (i := 11) (dj := 106) rfl (by kernel_rfl) (fun _ _ _ h => h) rfl rfl h5 (fun _ _ H' => (Runs.move A rfl)) A rfl hS ?_; clear A a hR; intro a A hR
            refine dstepG hR (i := 12) (dj := 106) rfl (by kernel_rfl) (fun _ _ _ h => h) rfl rfl h5 (fun _ _ H' => (Runs.move A rfl)) A rfl hS ?_; clear A a hR; intro a A hR
            refine dstepG hR (i := 13) (dj := 106) rfl (by kernel_rfl) (fun _ _ _ h => h) rfl rfl h5 (fun _ _ H' => (Runs.indexAddr A rfl rfl SlC.h (by omega) (by omega))) A rfl hS ?_; clear A a hR; intro a A hR
            refine dstepG hR (i := 14) (dj := 106) rfl (by kernel_rfl) (fun _ _ _ h => h) rfl rfl h5 (fun _ _ H' => (Runs.fa A rfl)) A rfl hS ?_; clear A a hR; intro a A hR
            refine dstepG hR (i := 15) (dj := 106) rfl (by kernel_rfl) (fun _ _ _ h => h) rfl rfl h5 (fun _ _ H' => (Runs.ld1 A H' rfl (v := u64 x.id) (by simpa using hx1))) A rfl hS ?_; clear A a hR; intro a A hR
            refine dstepG hR (i := 17) (dj := 106) rfl (by kernel_rfl) (fun _ _ _ h => h) rfl rfl h5 (fun _ _ H' => (Runs.move A rfl)) A rfl hS ?_; clear A a hR; intro a A hR
            refine dstepG hR (i := 18) (dj := 106) rfl (by kernel_rfl) (fun _ _ _ h => h) rfl rfl h5 (fun _ _ H' => (Runs.move A rfl)) A rfl hS ?_; clear A a hR; intro a A hR
            refine dstepG hR (i := 19) (dj := 106) rfl (by kernel_rfl) (fun _ _ _ h => h) rfl rfl h5 (fun _ _ H' => (Runs.move A rfl)) A rfl hS ?_; clear A a hR; intro a A hR
            refine dstepG hR (i := 20) (dj := 106) rfl (by kernel_rfl) (fun _ _ _ h => h) rfl rfl h5 (fun _ _ H' => (Runs.indexAddr A rfl rfl SlC.h (by omega) (by omega))) A rfl hS ?_; clear A a hR; intro a A hR
            refine dstepG hR (i := 21) (dj := 106) rfl (by kernel_rfl) (fun _ _ _ h => h) rfl rfl h5 (fun _ _ H' => (Runs.fa A rfl)) A rfl hS ?_; clear A a hR; intro a A hR
            refine dstepG hR (i := 22) (dj := 106) rfl (by kernel_rfl) (fun _ _ _ h => h) rfl rfl h5 (fun _ _ H' => (Runs.ld1 A H' rfl (v := u64 x.id) (by simpa using hx1))) A rfl hS ?_; clear A a hR; intro a A hR
            refine dlist hR (i := 16) rfl (by kernel_rfl) ?_
            have hR := hR.next (i := 16) (by kernel_rfl)
            refine step_callFG (dj := 106) rfl rfl h5 A rfl rfl (c_law18_get hp (by omega) hps) H ?_
            rintro v15_16 a w m hm ⟨u1, rfl, hu1⟩ A H
            have hM := hM.trans hm
            have hl1 := hl1.trans hm
            have G := G.mono hm
            have hLs := hLs.mono hm
            have hB := hB.mono hm
            have hsa := hsa.mono hm
            have hsb := hsb.mono hm
            have hst := hst.mono hm
            have hp := hp.mono hm
            have hq := hq.mono hm
            have h36 := h36.mono hm
            have hsu := hsu.mono hm
            have hL := hL.trans hm
            refine wpList_nil ?_
            clear hS; refine and_keep (H.sw hL) fun hS => ?_
            refine dlist hR (i := 23) rfl (by kernel_rfl) ?_
            have hR := hR.next (i := 23) (by kernel_rfl)
            refine step_callFG (dj := 106) rfl rfl h5 A rfl rfl (c_law18_get hst (by omega) hss) H ?_
            rintro v15_23 a w m hm ⟨u2, rfl, hu2⟩ A H
            have hM := hM.trans hm
            have hl1 := hl1.trans hm
            have G := G.mono hm
            have hLs := hLs.mono hm
            have hB := hB.mono hm
            have hsa := hsa.mono hm
            have hsb := hsb.mono hm
            have hst := hst.mono hm
            have hp := hp.mono hm
            have hq := hq.mono hm
            have h36 := h36.mono hm
            have hsu := hsu.mono hm
            have hu1 := hu1.mono hm
            have hgo : getP p x.id = getP s x.id := by rw [hpe]; exact get_put_other hss (fun h => (by assumption : ¬ ((x.id.toNat : Int) = ((dig da).toNat : Int))) (by rw [h]))
            have hL := hL.trans hm
            refine wpList_nil ?_
            clear hS; refine and_keep (H.sw hL) fun hS => ?_
            refine dlist hR (i := 24) rfl (by kernel_rfl) ?_
            have hR := hR.next (i := 24) (by kernel_rfl)
            refine step_callFG (dj := 106) rfl rfl h5 A rfl rfl (c_law18_same hu1 hu2) H ?_
            rintro v15_24 a w m hm rfl A H
            have hM := hM.trans hm
            have hl1 := hl1.trans hm
            have G := G.mono hm
            have hLs := hLs.mono hm
            have hB := hB.mono hm
            have hsa := hsa.mono hm
            have hsb := hsb.mono hm
            have hst := hst.mono hm
            have hp := hp.mono hm
            have hq := hq.mono hm
            have h36 := h36.mono hm
            have hsu := hsu.mono hm
            have hu1 := hu1.mono hm
            have hu2 := hu2.mono hm
            have hL := hL.trans hm
            refine wpList_nil ?_
            clear hS; refine and_keep (H.sw hL) fun hS => ?_
            refine dstepG hR (i := 25) (dj := 106) rfl (by kernel_rfl) (fun _ _ _ h => h) rfl rfl h5 (fun _ _ H' => (Runs.not A rfl)) A rfl hS ?_; clear A a hR; intro a A hR
            refine dstep hR (i := 26) rfl (by kernel_rfl) (fun _ _ _ h => h) (fun _ _ H' => (Runs.pickT A rfl h5 rfl)) A rfl hS ?_; clear A a hR; intro a A hR
            refine draw_done hR (by kernel_rfl) ?_
            clear hS hL hR
            refine cond_false A rfl (notT (decide_eq_true (⟨by rw [gerr, gerr, hgo], by rw [gdat, gdat, hgo]⟩))) ?_
            refine wp_skip ?_
            refine wp_region_lit ?_
            refine step (Runs.move A rfl) A rfl ?_; clear A a; intro a A
            refine step (Runs.add A rfl rfl (by omega)) A rfl ?_; clear A a; intro a A
            refine step (Runs.assign A rfl) A rfl ?_; clear A a; intro a A
            refine wpList_nil ?_
            exact ⟨_, by omega, i + 1, m, rfl, by omega, hl1, (Fr.cons A rfl (Fr.cons A rfl (Fr.cons A rfl (Fr.cons A rfl (Fr.cons A rfl (Fr.cons A rfl (Fr.cons A rfl (Fr.nil A)))))))), H.subH⟩
          · have g5 := h5
            try simp only [decide_eq_true_eq, decide_eq_false_iff_not, Bool.not_eq_true', Bool.not_eq_false', ne_eq, Decidable.not_not, Int.not_lt, Int.not_le] at g5
            refine dskip hR (i := 9) (dj := 106) rfl (by kernel_rfl) (fun _ _ _ h => h) rfl rfl h5 A rfl hS ?_; clear A a hR; intro a A hR
            refine dskip hR (i := 10) (dj := 106) rfl (by kernel_rfl) (fun _ _ _ h => h) rfl rfl h5 A rfl hS ?_; clear A a hR; intro a A hR
            refine dskip hR (i := 11) (dj := 106) rfl (by kernel_rfl) (fun _ _ _ h => h) rfl rfl h5 A rfl hS ?_; clear A a hR; intro a A hR
            refine dskip hR (i := 12) (dj := 106) rfl (by kernel_rfl) (fun _ _ _ h => h) rfl rfl h5 A rfl hS ?_; clear A a hR; intro a A hR
            refine dskip hR (i := 13) (dj := 106) rfl (by kernel_rfl) (fun _ _ _ h => h) rfl rfl h5 A rfl hS ?_; clear A a hR; intro a A hR
            refine dskip hR (i := 14) (dj := 106) rfl (by kernel_rfl) (fun _ _ _ h => h) rfl rfl h5 A rfl hS ?_; clear A a hR; intro a A hR
            refine dskip hR (i := 15) (dj := 106) rfl (by kernel_rfl) (fun _ _ _ h => h) rfl rfl h5 A rfl hS ?_; clear A a hR; intro a A hR
            refine dskip hR (i := 16) (dj := 106) rfl (by kernel_rfl) (fun _ _ _ h => h) rfl rfl h5 A rfl hS ?_; clear A a hR; intro a A hR
            refine dskip hR (i := 17) (dj := 106) rfl (by kernel_rfl) (fun _ _ _ h => h) rfl rfl h5 A rfl hS ?_; clear A a hR; intro a A hR
            refine dskip hR (i := 18) (dj := 106) rfl (by kernel_rfl) (fun _ _ _ h => h) rfl rfl h5 A rfl hS ?_; clear A a hR; intro a A hR
            refine dskip hR (i := 19) (dj := 106) rfl (by kernel_rfl) (fun _ _ _ h => h) rfl rfl h5 A rfl hS ?_; clear A a hR; intro a A hR
            refine dskip hR (i := 20) (dj := 106) rfl (by kernel_rfl) (fun _ _ _ h => h) rfl rfl h5 A rfl hS ?_; clear A a hR; intro a A hR
            refine dskip hR (i := 21) (dj := 106) rfl (by kernel_rfl) (fun _ _ _ h => h) rfl rfl h5 A rfl hS ?_; clear A a hR; intro a A hR
            refine dskip hR (i := 22) (dj := 106) rfl (by kernel_rfl) (fun _ _ _ h => h) rfl rfl h5 A rfl hS ?_; clear A a hR; intro a A hR
            refine dskip hR (i := 23) (dj := 106) rfl (by kernel_rfl) (fun _ _ _ h => h) rfl rfl h5 A rfl hS ?_; clear A a hR; intro a A hR
            refine dskip hR (i := 24) (dj := 106) rfl (by kernel_rfl) (fun _ _ _ h => h) rfl rfl h5 A rfl hS ?_; clear A a hR; intro a A hR
            refine dskip hR (i := 25) (dj := 106) rfl (by kernel_rfl) (fun _ _ _ h => h) rfl rfl h5 A rfl hS ?_; clear A a hR; intro a A hR
            refine dstep hR (i := 26) rfl (by kernel_rfl) (fun _ _ _ h => h) (fun _ _ H' => (Runs.pickF A rfl h5 rfl)) A rfl hS ?_; clear A a hR; intro a A hR
            refine draw_done hR (by kernel_rfl) ?_
            clear hS hL hR
            refine cond_false A rfl rfl ?_
            refine wp_skip ?_
            refine wp_region_lit ?_
            refine step (Runs.move A rfl) A rfl ?_; clear A a; intro a A
            refine step (Runs.add A rfl rfl (by omega)) A rfl ?_; clear A a; intro a A
            refine step (Runs.assign A rfl) A rfl ?_; clear A a; intro a A
            refine wpList_nil ?_
            exact ⟨_, by omega, i + 1, m, rfl, by omega, hl1, (Fr.cons A rfl (Fr.cons A rfl (Fr.cons A rfl (Fr.cons A rfl (Fr.cons A rfl (Fr.cons A rfl (Fr.cons A rfl (Fr.nil A)))))))), H.subH⟩
        · have g4 := h4
          try simp only [decide_eq_true_eq, decide_eq_false_iff_not, Bool.not_eq_true', Bool.not_eq_false', ne_eq, Decidable.not_not, Int.not_lt, Int.not_le] at g4
          refine wp_exit ?_
          refine wp_seq ?_
          refine wp_seq ?_
          refine wp_region_lit ?_
          refine step (Runs.move A rfl) A rfl ?_; clear A a; intro a A
          refine step_callF A rfl rfl (c_digest_Bytes hsa hna) H ?_
          rintro v17_1 a w m hm rfl A H
          have hM := hM.trans hm
          have G := G.mono hm
          have hLs := hLs.mono hm
          have hB := hB.mono hm
          have hsa := hsa.mono hm
          have hsb := hsb.mono hm
          have hst := hst.mono hm
          have hp := hp.mono hm
          have hq := hq.mono hm
          have h36 := h36.mono hm
          have hsu := hsu.mono hm
          refine step (Runs.move A rfl) A rfl ?_; clear A a; intro a A
          refine step_callF A rfl rfl (c_digest_Bytes hsb hnb) H ?_
          rintro v17_3 a w m hm rfl A H
          have hM := hM.trans hm
          have G := G.mono hm
          have hLs := hLs.mono hm
          have hB := hB.mono hm
          have hsa := hsa.mono hm
          have hsb := hsb.mono hm
          have hst := hst.mono hm
          have hp := hp.mono hm
          have hq := hq.mono hm
          have h36 := h36.mono hm
          have hsu := hsu.mono hm
          refine step (Runs.eql A rfl rfl) A rfl ?_; clear A a; intro a A
          refine wpList_nil ?_
          refine cond_split A rfl (fun h6 => ?_) (fun h6 => ?_)
          · have g6 := h6
            try simp only [decide_eq_true_eq, decide_eq_false_iff_not, Bool.not_eq_true', Bool.not_eq_false', ne_eq, Decidable.not_not, Int.not_lt, Int.not_le] at g6
            refine wp_seq ?_
            refine wp_region_lit ?_
            refine step (Runs.move A rfl) A rfl ?_; clear A a; intro a A
            refine step (Runs.assign A rfl) A rfl ?_; clear A a; intro a A
            refine wpList_nil ?_
            refine wp_ret ?_
            exact retF A rfl rfl hM H rfl
          · have g6 := h6
            try simp only [decide_eq_true_eq, decide_eq_false_iff_not, Bool.not_eq_true', Bool.not_eq_false', ne_eq, Decidable.not_not, Int.not_lt, Int.not_le] at g6
            refine wp_skip ?_
            refine wp_seq ?_
            have hne : dig da ≠ dig db := fun h => by have hh := (by assumption : decide (((dig da).toNat : Int) = ((dig db).toNat : Int)) = false); rw [dec64, decide_eq_false_iff_not] at hh; exact hh h
            refine draw_begin (ms := m) (Ls := [pt b10 [.slice adq qq.length cq, u64 (dig db), .int .i64 0] 42, pt b9 [.slice adp p.length cp, u64 (dig da), .int .i64 0] 42]) (by kernel_rfl) (N := 15) rfl (by kernel_rfl) H ?_; clear H; intro w H hR
            have hS : SW m [pt b10 [.slice adq qq.length cq, u64 (dig db), .int .i64 0] 42, pt b9 [.slice adp p.length cp, u64 (dig da), .int .i64 0] 42] w := H.sw (Le.refl m)
            have hL := Le.refl m
            refine dstep hR (i := 0) rfl (by kernel_rfl) (fun _ _ _ h => h) (fun _ _ H' => (Runs.fa A rfl)) A rfl hS ?_; clear A a hR; intro a A hR
            refine dstep hR (i := 1) rfl (by kernel_rfl) (fun _ _ _ h => h) (fun _ _ H' => (Runs.ld1 A H' rfl rfl)) A rfl hS ?_; clear A a hR; intro a A hR
            refine dstep hR (i := 2) rfl (by kernel_rfl) (fun _ _ _ h => h) (fun _ _ H' => (Runs.move A rfl)) A rfl hS ?_; clear A a hR; intro a A hR
            refine dstep hR (i := 5) rfl (by kernel_rfl) (fun _ _ _ h => h) (fun _ _ H' => (Runs.fa A rfl)) A rfl hS ?_; clear A a hR; intro a A hR
            refine dstep hR (i := 6) rfl (by kernel_rfl) (fun _ _ _ h => h) (fun _ _ H' => (Runs.ld1 A H' rfl rfl)) A rfl hS ?_; clear A a hR; intro a A hR
            refine dstep hR (i := 7) rfl (by kernel_rfl) (fun _ _ _ h => h) (fun _ _ H' => (Runs.move A rfl)) A rfl hS ?_; clear A a hR; intro a A hR
            refine dlist hR (i := 3) rfl (by kernel_rfl) ?_
            have hR := hR.next (i := 3) (by kernel_rfl)
            refine step_callF A rfl rfl (c_wireloomlaw18_put hp (by omega) hps ⟨_, _, _, rfl, hsb, hnb⟩) H ?_
            rintro v19_3 a w m hm ⟨ad3, c3, rfl, h3⟩ A H
            have hM := hM.trans hm
            have G := G.mono hm
            have hLs := hLs.mono hm
            have hB := hB.mono hm
            have hsa := hsa.mono hm
            have hsb := hsb.mono hm
            have hst := hst.mono hm
            have hp := hp.mono hm
            have hq := hq.mono hm
            have h36 := h36.mono hm
            have hsu := hsu.mono hm
            have hL := hL.trans hm
            refine wpList_nil ?_
            clear hS; refine and_keep (H.sw hL) fun hS => ?_
            refine dstep hR (i := 4) rfl (by kernel_rfl) (fun _ _ _ h => h) (fun _ _ H' => (Runs.field1 (ty := 31) A rfl FldC.h (by kernel_rfl) TyC.h rfl)) A rfl hS ?_; clear A a hR; intro a A hR
            refine dlist hR (i := 8) rfl (by kernel_rfl) ?_
            have hR := hR.next (i := 8) (by kernel_rfl)
            refine step_callF A rfl rfl (c_wireloomlaw18_put hq (by omega) hqs ⟨_, _, _, rfl, hsa, hna⟩) H ?_
            rintro v19_8 a w m hm ⟨ad8, c8, rfl, h8⟩ A H
            have hM := hM.trans hm
            have G := G.mono hm
            have hLs := hLs.mono hm
            have hB := hB.mono hm
            have hsa := hsa.mono hm
            have hsb := hsb.mono hm
            have hst := hst.mono hm
            have hp := hp.mono hm
            have hq := hq.mono hm
            have h36 := h36.mono hm
            have hsu := hsu.mono hm
            have h3 := h3.mono hm
            have hL := hL.trans hm
            refine wpList_nil ?_
            clear hS; refine and_keep (H.sw hL) fun hS => ?_
            refine dstep hR (i := 9) rfl (by kernel_rfl) (fun _ _ _ h => h) (fun _ _ H' => (Runs.field1 (ty := 31) A rfl FldC.h (by kernel_rfl) TyC.h rfl)) A rfl hS ?_; clear A a hR; intro a A hR
            refine dlist hR (i := 10) rfl (by kernel_rfl) ?_
            have hR := hR.next (i := 10) (by kernel_rfl)
            refine step_callF A rfl rfl (c_wireloomref18_Same h3 h8) H ?_
            rintro v19_10 a w m hm rfl A H
            have hM := hM.trans hm
            have G := G.mono hm
            have hLs := hLs.mono hm
            have hB := hB.mono hm
            have hsa := hsa.mono hm
            have hsb := hsb.mono hm
            have hst := hst.mono hm
            have hp := hp.mono hm
            have hq := hq.mono hm
            have h36 := h36.mono hm
            have hsu := hsu.mono hm
            have h3 := h3.mono hm
            have h8 := h8.mono hm
            have hL := hL.trans hm
            refine wpList_nil ?_
            clear hS; refine and_keep (H.sw hL) fun hS => ?_
            refine dstep hR (i := 11) rfl (by kernel_rfl) (fun _ _ _ h => h) (fun _ _ H' => (Runs.move A rfl)) A rfl hS ?_; clear A a hR; intro a A hR
            refine dstepG hR (i := 12) (dj := 142) rfl (by kernel_rfl) (fun _ _ _ h => h) rfl rfl (decide_eq_true (by rw [hpe, hqe]; exact put_comm hss hne)) (fun _ _ H' => (Runs.move A rfl)) A rfl hS ?_; clear A a hR; intro a A hR
            refine dstep hR (i := 13) rfl (by kernel_rfl) (fun _ _ _ h => h) (fun _ _ H' => (Runs.pickT A rfl (decide_eq_true (by rw [hpe, hqe]; exact put_comm hss hne)) rfl)) A rfl hS ?_; clear A a hR; intro a A hR
            refine dstep hR (i := 14) rfl (by kernel_rfl) (fun _ _ _ h => h) (fun _ _ H' => (Runs.assign A rfl)) A rfl hS ?_; clear A a hR; intro a A hR
            refine draw_done hR (by kernel_rfl) ?_
            clear hS hL hR
            refine wp_ret ?_
            exact retF A rfl rfl hM H rfl
      · have g3 := h3
        try simp only [decide_eq_true_eq, decide_eq_false_iff_not, Bool.not_eq_true', Bool.not_eq_false', ne_eq, Decidable.not_not, Int.not_lt, Int.not_le] at g3
        refine stepSkip (dj := 81) rfl rfl h3 A rfl ?_; clear A a; intro a A
        refine stepSkip (dj := 81) rfl rfl h3 A rfl ?_; clear A a; intro a A
        refine stepSkip (dj := 81) rfl rfl h3 A rfl ?_; clear A a; intro a A
        refine stepSkip (dj := 81) rfl rfl h3 A rfl ?_; clear A a; intro a A
        refine stepSkip (dj := 81) rfl rfl h3 A rfl ?_; clear A a; intro a A
        refine stepSkip (dj := 81) rfl rfl h3 A rfl ?_; clear A a; intro a A
        refine stepSkip (dj := 81) rfl rfl h3 A rfl ?_; clear A a; intro a A
        refine stepSkip (dj := 81) rfl rfl h3 A rfl ?_; clear A a; intro a A
        refine stepSkip (dj := 81) rfl rfl h3 A rfl ?_; clear A a; intro a A
        refine step (Runs.pickF A rfl h3 rfl) A rfl ?_; clear A a; intro a A
        refine wpList_nil ?_
        refine cond_false A rfl rfl ?_
        refine wp_skip ?_
        refine wp_seq ?_
        refine wp_seq ?_
        refine wp_region_lit ?_
        refine step (Runs.assign A rfl) A rfl ?_; clear A a; intro a A
        refine wpList_nil ?_
        refine wp_block ?_
        refine wp_loop_ghost (fun q a w => ∃ (i : Nat) (m' : Mem), q = 9 - i ∧ (i ≤ s.length) ∧ Le m m' ∧ Fr 145 a [(1, .slice ada na ca), (2, .slice adb nb cb), (7, .bool true), (8, .slice ads s.length cs0), (9, .pointer (some ⟨b9, 0, none⟩)), (10, .pointer (some ⟨b10, 0, none⟩)), (11, .int .i64 i)] [] ∧ St w0 w m' (pt b10 [.slice adq qq.length cq, u64 (dig db), .int .i64 0] 42 :: pt b9 [.slice adp p.length cp, u64 (dig da), .int .i64 0] 42 :: Lf)) _ ⟨0, m, rfl, by omega, Le.refl m, (Fr.cons A rfl (Fr.cons A rfl (Fr.cons A rfl (Fr.cons A rfl (Fr.cons A rfl (Fr.cons A rfl (Fr.cons A rfl (Fr.nil A)))))))), H.subH⟩ ?_
        clear A H; rintro q a w ⟨i, m, rfl, hinv, hm, A, H⟩
        have hM := hM.trans hm
        have G := G.mono hm
        have hLs := hLs.mono hm
        have hB := hB.mono hm
        have hsa := hsa.mono hm
        have hsb := hsb.mono hm
        have hst := hst.mono hm
        have hp := hp.mono hm
        have hq := hq.mono hm
        have h36 := h36.mono hm
        have hl2 := hm
        refine wp_seq ?_
        refine wp_seq ?_
        refine wp_region_lit ?_
        refine step (Runs.move A rfl) A rfl ?_; clear A a; intro a A
        refine step (Runs.move A rfl) A rfl ?_; clear A a; intro a A
        refine step (Runs.lenL A rfl SlC.h) A rfl ?_; clear A a; intro a A
        refine step (Runs.lss A rfl rfl) A rfl ?_; clear A a; intro a A
        refine wpList_nil ?_
        refine cond_split A rfl (fun h7 => ?_) (fun h7 => ?_)
        · have g7 := h7
          try simp only [decide_eq_true_eq, decide_eq_false_iff_not, Bool.not_eq_true', Bool.not_eq_false', ne_eq, Decidable.not_not, Int.not_lt, Int.not_le] at g7
          refine wp_skip ?_
          refine wp_seq ?_
          refine wp_block ?_
          refine wp_seq ?_
          obtain ⟨x, hx⟩ := ex_at (l := s) (i := i) (by omega)
          obtain ⟨bb, off, cs, rfl, hfz, hcs⟩ := hst.all_ (by omega)
          obtain ⟨vx, hx1, hx2, hx3, hxd⟩ := hcs _ _ hx
          refine draw_begin (ms := m) (Ls := [pt b10 [.slice adq qq.length cq, u64 (dig db), .int .i64 0] 42, pt b9 [.slice adp p.length cp, u64 (dig da), .int .i64 0] 42]) (by kernel_rfl) (N := 27) rfl (by kernel_rfl) H ?_; clear H; intro w H hR
          have hS : SW m [pt b10 [.slice adq qq.length cq, u64 (dig db), .int .i64 0] 42, pt b9 [.slice adp p.length cp, u64 (dig da), .int .i64 0] 42] w := H.sw (Le.refl m)
          have hL := Le.refl m
          refine dstep hR (i := 0) rfl (by kernel_rfl) (fun _ _ _ h => h) (fun _ _ H' => (Runs.move A rfl)) A rfl hS ?_; clear A a hR; intro a A hR
          refine dstep hR (i := 1) rfl (by kernel_rfl) (fun _ _ _ h => h) (fun _ _ H' => (Runs.move A rfl)) A rfl hS ?_; clear A a hR; intro a A hR
          refine dstep hR (i := 2) rfl (by kernel_rfl) (fun _ _ _ h => h) (fun _ _ H' => (Runs.indexAddr A rfl rfl SlC.h (by omega) (by omega))) A rfl hS ?_; clear A a hR; intro a A hR
          refine dstep hR (i := 3) rfl (by kernel_rfl) (fun _ _ _ h => h) (fun _ _ H' => (Runs.fa A rfl)) A rfl hS ?_; clear A a hR; intro a A hR
          refine dstep hR (i := 4) rfl (by kernel_rfl) (fun _ _ _ h => h) (fun _ _ H' => (Runs.ld1 A H' rfl (v := u64 x.id) (by simpa using hx1))) A rfl hS ?_; clear A a hR; intro a A hR
          refine dstep hR (i := 5) rfl (by kernel_rfl) (fun _ _ _ h => h) (fun _ _ H' => (Runs.fa A rfl)) A rfl hS ?_; clear A a hR; intro a A hR
          refine dstep hR (i := 6) rfl (by kernel_rfl) (fun _ _ _ h => h) (fun _ _ H' => (Runs.ld1 A H' rfl rfl)) A rfl hS ?_; clear A a hR; intro a A hR
          refine dstep hR (i := 7) rfl (by kernel_rfl) (fun _ _ _ h => h) (fun _ _ H' => (Runs.neq A rfl rfl)) A rfl hS ?_; clear A a hR; intro a A hR
          refine dstep hR (i := 8) rfl (by kernel_rfl) (fun _ _ _ h => h) (fun _ _ H' => (Runs.move A rfl)) A rfl hS ?_; clear A a hR; intro a A hR
          refine onBool A (dj := 106) rfl (fun h8 => ?_) (fun h8 => ?_)
          · have g8 := h8
            try simp only [decide_eq_true_eq, decide_eq_false_iff_not, Bool.not_eq_true', Bool.not_eq_false', ne_eq, Decidable.not_not, Int.not_lt, Int.not_le] at g8
            refine dstepG hR (i := 9) (dj := 106) rfl (by kernel_rfl) (fun _ _ _ h => h) rfl rfl h8 (fun _ _ H' => (Runs.fa A rfl)) A rfl hS ?_; clear A a hR; intro a A hR
            refine dstepG hR (i := 10) (dj := 106) rfl (by kernel_rfl) (fun _ _ _ h => h) rfl rfl h8 (fun _ _ H' => (Runs.ld1 A H' rfl rfl)) A rfl hS ?_; clear A a hR; intro a A hR
            refine dstepG hR (i := 11) (dj := 106) rfl (by kernel_rfl) (fun _ _ _ h => h) rfl rfl h8 (fun _ _ H' => (Runs.move A rfl)) A rfl hS ?_; clear A a hR; intro a A hR
            refine dstepG hR (i := 12) (dj := 106) rfl (by kernel_rfl) (fun _ _ _ h => h) rfl rfl h8 (fun _ _ H' => (Runs.move A rfl)) A rfl hS ?_; clear A a hR; intro a A hR
            refine dstepG hR (i := 13) (dj := 106) rfl (by kernel_rfl) (fun _ _ _ h => h) rfl rfl h8 (fun _ _ H' => (Runs.indexAddr A rfl rfl SlC.h (by omega) (by omega))) A rfl hS ?_; clear A a hR; intro a A hR
            refine dstepG hR (i := 14) (dj := 106) rfl (by kernel_rfl) (fun _ _ _ h => h) rfl rfl h8 (fun _ _ H' => (Runs.fa A rfl)) A rfl hS ?_; clear A a hR; intro a A hR
            refine dstepG hR (i := 15) (dj := 106) rfl (by kernel_rfl) (fun _ _ _ h => h) rfl rfl h8 (fun _ _ H' => (Runs.ld1 A H' rfl (v := u64 x.id) (by simpa using hx1))) A rfl hS ?_; clear A a hR; intro a A hR
            refine dstepG hR (i := 17) (dj := 106) rfl (by kernel_rfl) (fun _ _ _ h => h) rfl rfl h8 (fun _ _ H' => (Runs.move A rfl)) A rfl hS ?_; clear A a hR; intro a A hR
            refine dstepG hR (i := 18) (dj := 106) rfl (by kernel_rfl) (fun _ _ _ h => h) rfl rfl h8 (fun _ _ H' => (Runs.move A rfl)) A rfl hS ?_; clear A a hR; intro a A hR
            refine dstepG hR (i := 19) (dj := 106) rfl (by kernel_rfl) (fun _ _ _ h => h) rfl rfl h8 (fun _ _ H' => (Runs.move A rfl)) A rfl hS ?_; clear A a hR; intro a A hR
            refine dstepG hR (i := 20) (dj := 106) rfl (by kernel_rfl) (fun _ _ _ h => h) rfl rfl h8 (fun _ _ H' => (Runs.indexAddr A rfl rfl SlC.h (by omega) (by omega))) A rfl hS ?_; clear A a hR; intro a A hR
            refine dstepG hR (i := 21) (dj := 106) rfl (by kernel_rfl) (fun _ _ _ h => h) rfl rfl h8 (fun _ _ H' => (Runs.fa A rfl)) A rfl hS ?_; clear A a hR; intro a A hR
            refine dstepG hR (i := 22) (dj := 106) rfl (by kernel_rfl) (fun _ _ _ h => h) rfl rfl h8 (fun _ _ H' => (Runs.ld1 A H' rfl (v := u64 x.id) (by simpa using hx1))) A rfl hS ?_; clear A a hR; intro a A hR
            refine dlist hR (i := 16) rfl (by kernel_rfl) ?_
            have hR := hR.next (i := 16) (by kernel_rfl)
            refine step_callFG (dj := 106) rfl rfl h8 A rfl rfl (c_law18_get hp (by omega) hps) H ?_
            rintro v15_16 a w m hm ⟨u1, rfl, hu1⟩ A H
            have hM := hM.trans hm
            have hl2 := hl2.trans hm
            have G := G.mono hm
            have hLs := hLs.mono hm
            have hB := hB.mono hm
            have hsa := hsa.mono hm
            have hsb := hsb.mono hm
            have hst := hst.mono hm
            have hp := hp.mono hm
            have hq := hq.mono hm
            have h36 := h36.mono hm
            have hL := hL.trans hm
            refine wpList_nil ?_
            clear hS; refine and_keep (H.sw hL) fun hS => ?_
            refine dlist hR (i := 23) rfl (by kernel_rfl) ?_
            have hR := hR.next (i := 23) (by kernel_rfl)
            refine step_callFG (dj := 106) rfl rfl h8 A rfl rfl (c_law18_get hst (by omega) hss) H ?_
            rintro v15_23 a w m hm ⟨u2, rfl, hu2⟩ A H
            have hM := hM.trans hm
            have hl2 := hl2.trans hm
            have G := G.mono hm
            have hLs := hLs.mono hm
            have hB := hB.mono hm
            have hsa := hsa.mono hm
            have hsb := hsb.mono hm
            have hst := hst.mono hm
            have hp := hp.mono hm
            have hq := hq.mono hm
            have h36 := h36.mono hm
            have hu1 := hu1.mono hm
            have hgo : getP p x.id = getP s x.id := by rw [hpe]; exact get_put_other hss (fun h => (by assumption : ¬ ((x.id.toNat : Int) = ((dig da).toNat : Int))) (by rw [h]))
            have hL := hL.trans hm
            refine wpList_nil ?_
            clear hS; refine and_keep (H.sw hL) fun hS => ?_
            refine dlist hR (i := 24) rfl (by kernel_rfl) ?_
            have hR := hR.next (i := 24) (by kernel_rfl)
            refine step_callFG (dj := 106) rfl rfl h8 A rfl rfl (c_law18_same hu1 hu2) H ?_
            rintro v15_24 a w m hm rfl A H
            have hM := hM.trans hm
            have hl2 := hl2.trans hm
            have G := G.mono hm
            have hLs := hLs.mono hm
            have hB := hB.mono hm
            have hsa := hsa.mono hm
            have hsb := hsb.mono hm
            have hst := hst.mono hm
            have hp := hp.mono hm
            have hq := hq.mono hm
            have h36 := h36.mono hm
            have hu1 := hu1.mono hm
            have hu2 := hu2.mono hm
            have hL := hL.trans hm
            refine wpList_nil ?_
            clear hS; refine and_keep (H.sw hL) fun hS => ?_
            refine dstepG hR (i := 25) (dj := 106) rfl (by kernel_rfl) (fun _ _ _ h => h) rfl rfl h8 (fun _ _ H' => (Runs.not A rfl)) A rfl hS ?_; clear A a hR; intro a A hR
            refine dstep hR (i := 26) rfl (by kernel_rfl) (fun _ _ _ h => h) (fun _ _ H' => (Runs.pickT A rfl h8 rfl)) A rfl hS ?_; clear A a hR; intro a A hR
            refine draw_done hR (by kernel_rfl) ?_
            clear hS hL hR
            refine cond_false A rfl (notT (decide_eq_true (⟨by rw [gerr, gerr, hgo], by rw [gdat, gdat, hgo]⟩))) ?_
            refine wp_skip ?_
            refine wp_region_lit ?_
            refine step (Runs.move A rfl) A rfl ?_; clear A a; intro a A
            refine step (Runs.add A rfl rfl (by omega)) A rfl ?_; clear A a; intro a A
            refine step (Runs.assign A rfl) A rfl ?_; clear A a; intro a A
            refine wpList_nil ?_
            exact ⟨_, by omega, i + 1, m, rfl, by omega, hl2, (Fr.cons A rfl (Fr.cons A rfl (Fr.cons A rfl (Fr.cons A rfl (Fr.cons A rfl (Fr.cons A rfl (Fr.cons A rfl (Fr.nil A)))))))), H.subH⟩
          · have g8 := h8
            try simp only [decide_eq_true_eq, decide_eq_false_iff_not, Bool.not_eq_true', Bool.not_eq_false', ne_eq, Decidable.not_not, Int.not_lt, Int.not_le] at g8
            refine dskip hR (i := 9) (dj := 106) rfl (by kernel_rfl) (fun _ _ _ h => h) rfl rfl h8 A rfl hS ?_; clear A a hR; intro a A hR
            refine dskip hR (i := 10) (dj := 106) rfl (by kernel_rfl) (fun _ _ _ h => h) rfl rfl h8 A rfl hS ?_; clear A a hR; intro a A hR
            refine dskip hR (i := 11) (dj := 106) rfl (by kernel_rfl) (fun _ _ _ h => h) rfl rfl h8 A rfl hS ?_; clear A a hR; intro a A hR
            refine dskip hR (i := 12) (dj := 106) rfl (by kernel_rfl) (fun _ _ _ h => h) rfl rfl h8 A rfl hS ?_; clear A a hR; intro a A hR
            refine dskip hR (i := 13) (dj := 106) rfl (by kernel_rfl) (fun _ _ _ h => h) rfl rfl h8 A rfl hS ?_; clear A a hR; intro a A hR
            refine dskip hR (i := 14) (dj := 106) rfl (by kernel_rfl) (fun _ _ _ h => h) rfl rfl h8 A rfl hS ?_; clear A a hR; intro a A hR
            refine dskip hR (i := 15) (dj := 106) rfl (by kernel_rfl) (fun _ _ _ h => h) rfl rfl h8 A rfl hS ?_; clear A a hR; intro a A hR
            refine dskip hR (i := 16) (dj := 106) rfl (by kernel_rfl) (fun _ _ _ h => h) rfl rfl h8 A rfl hS ?_; clear A a hR; intro a A hR
            refine dskip hR (i := 17) (dj := 106) rfl (by kernel_rfl) (fun _ _ _ h => h) rfl rfl h8 A rfl hS ?_; clear A a hR; intro a A hR
            refine dskip hR (i := 18) (dj := 106) rfl (by kernel_rfl) (fun _ _ _ h => h) rfl rfl h8 A rfl hS ?_; clear A a hR; intro a A hR
            refine dskip hR (i := 19) (dj := 106) rfl (by kernel_rfl) (fun _ _ _ h => h) rfl rfl h8 A rfl hS ?_; clear A a hR; intro a A hR
            refine dskip hR (i := 20) (dj := 106) rfl (by kernel_rfl) (fun _ _ _ h => h) rfl rfl h8 A rfl hS ?_; clear A a hR; intro a A hR
            refine dskip hR (i := 21) (dj := 106) rfl (by kernel_rfl) (fun _ _ _ h => h) rfl rfl h8 A rfl hS ?_; clear A a hR; intro a A hR
            refine dskip hR (i := 22) (dj := 106) rfl (by kernel_rfl) (fun _ _ _ h => h) rfl rfl h8 A rfl hS ?_; clear A a hR; intro a A hR
            refine dskip hR (i := 23) (dj := 106) rfl (by kernel_rfl) (fun _ _ _ h => h) rfl rfl h8 A rfl hS ?_; clear A a hR; intro a A hR
            refine dskip hR (i := 24) (dj := 106) rfl (by kernel_rfl) (fun _ _ _ h => h) rfl rfl h8 A rfl hS ?_; clear A a hR; intro a A hR
            refine dskip hR (i := 25) (dj := 106) rfl (by kernel_rfl) (fun _ _ _ h => h) rfl rfl h8 A rfl hS ?_; clear A a hR; intro a A hR
            refine dstep hR (i := 26) rfl (by kernel_rfl) (fun _ _ _ h => h) (fun _ _ H' => (Runs.pickF A rfl h8 rfl)) A rfl hS ?_; clear A a hR; intro a A hR
            refine draw_done hR (by kernel_rfl) ?_
            clear hS hL hR
            refine cond_false A rfl rfl ?_
            refine wp_skip ?_
            refine wp_region_lit ?_
            refine step (Runs.move A rfl) A rfl ?_; clear A a; intro a A
            refine step (Runs.add A rfl rfl (by omega)) A rfl ?_; clear A a; intro a A
            refine step (Runs.assign A rfl) A rfl ?_; clear A a; intro a A
            refine wpList_nil ?_
            exact ⟨_, by omega, i + 1, m, rfl, by omega, hl2, (Fr.cons A rfl (Fr.cons A rfl (Fr.cons A rfl (Fr.cons A rfl (Fr.cons A rfl (Fr.cons A rfl (Fr.cons A rfl (Fr.nil A)))))))), H.subH⟩
        · have g7 := h7
          try simp only [decide_eq_true_eq, decide_eq_false_iff_not, Bool.not_eq_true', Bool.not_eq_false', ne_eq, Decidable.not_not, Int.not_lt, Int.not_le] at g7
          refine wp_exit ?_
          refine wp_seq ?_
          refine wp_seq ?_
          refine wp_region_lit ?_
          refine step (Runs.move A rfl) A rfl ?_; clear A a; intro a A
          refine step_callF A rfl rfl (c_digest_Bytes hsa hna) H ?_
          rintro v17_1 a w m hm rfl A H
          have hM := hM.trans hm
          have G := G.mono hm
          have hLs := hLs.mono hm
          have hB := hB.mono hm
          have hsa := hsa.mono hm
          have hsb := hsb.mono hm
          have hst := hst.mono hm
          have hp := hp.mono hm
          have hq := hq.mono hm
          have h36 := h36.mono hm
          refine step (Runs.move A rfl) A rfl ?_; clear A a; intro a A
          refine step_callF A rfl rfl (c_digest_Bytes hsb hnb) H ?_
          rintro v17_3 a w m hm rfl A H
          have hM := hM.trans hm
          have G := G.mono hm
          have hLs := hLs.mono hm
          have hB := hB.mono hm
          have hsa := hsa.mono hm
          have hsb := hsb.mono hm
          have hst := hst.mono hm
          have hp := hp.mono hm
          have hq := hq.mono hm
          have h36 := h36.mono hm
          refine step (Runs.eql A rfl rfl) A rfl ?_; clear A a; intro a A
          refine wpList_nil ?_
          refine cond_split A rfl (fun h9 => ?_) (fun h9 => ?_)
          · have g9 := h9
            try simp only [decide_eq_true_eq, decide_eq_false_iff_not, Bool.not_eq_true', Bool.not_eq_false', ne_eq, Decidable.not_not, Int.not_lt, Int.not_le] at g9
            refine wp_seq ?_
            refine wp_region_lit ?_
            refine step (Runs.move A rfl) A rfl ?_; clear A a; intro a A
            refine step (Runs.assign A rfl) A rfl ?_; clear A a; intro a A
            refine wpList_nil ?_
            refine wp_ret ?_
            exact retF A rfl rfl hM H rfl
          · have g9 := h9
            try simp only [decide_eq_true_eq, decide_eq_false_iff_not, Bool.not_eq_true', Bool.not_eq_false', ne_eq, Decidable.not_not, Int.not_lt, Int.not_le] at g9
            refine wp_skip ?_
            refine wp_seq ?_
            have hne : dig da ≠ dig db := fun h => by have hh := (by assumption : decide (((dig da).toNat : Int) = ((dig db).toNat : Int)) = false); rw [dec64, decide_eq_false_iff_not] at hh; exact hh h
            refine draw_begin (ms := m) (Ls := [pt b10 [.slice adq qq.length cq, u64 (dig db), .int .i64 0] 42, pt b9 [.slice adp p.length cp, u64 (dig da), .int .i64 0] 42]) (by kernel_rfl) (N := 15) rfl (by kernel_rfl) H ?_; clear H; intro w H hR
            have hS : SW m [pt b10 [.slice adq qq.length cq, u64 (dig db), .int .i64 0] 42, pt b9 [.slice adp p.length cp, u64 (dig da), .int .i64 0] 42] w := H.sw (Le.refl m)
            have hL := Le.refl m
            refine dstep hR (i := 0) rfl (by kernel_rfl) (fun _ _ _ h => h) (fun _ _ H' => (Runs.fa A rfl)) A rfl hS ?_; clear A a hR; intro a A hR
            refine dstep hR (i := 1) rfl (by kernel_rfl) (fun _ _ _ h => h) (fun _ _ H' => (Runs.ld1 A H' rfl rfl)) A rfl hS ?_; clear A a hR; intro a A hR
            refine dstep hR (i := 2) rfl (by kernel_rfl) (fun _ _ _ h => h) (fun _ _ H' => (Runs.move A rfl)) A rfl hS ?_; clear A a hR; intro a A hR
            refine dstep hR (i := 5) rfl (by kernel_rfl) (fun _ _ _ h => h) (fun _ _ H' => (Runs.fa A rfl)) A rfl hS ?_; clear A a hR; intro a A hR
            refine dstep hR (i := 6) rfl (by kernel_rfl) (fun _ _ _ h => h) (fun _ _ H' => (Runs.ld1 A H' rfl rfl)) A rfl hS ?_; clear A a hR; intro a A hR
            refine dstep hR (i := 7) rfl (by kernel_rfl) (fun _ _ _ h => h) (fun _ _ H' => (Runs.move A rfl)) A rfl hS ?_; clear A a hR; intro a A hR
            refine dlist hR (i := 3) rfl (by kernel_rfl) ?_
            have hR := hR.next (i := 3) (by kernel_rfl)
            refine step_callF A rfl rfl (c_wireloomlaw18_put hp (by omega) hps ⟨_, _, _, rfl, hsb, hnb⟩) H ?_
            rintro v19_3 a w m hm ⟨ad3, c3, rfl, h3⟩ A H
            have hM := hM.trans hm
            have G := G.mono hm
            have hLs := hLs.mono hm
            have hB := hB.mono hm
            have hsa := hsa.mono hm
            have hsb := hsb.mono hm
            have hst := hst.mono hm
            have hp := hp.mono hm
            have hq := hq.mono hm
            have h36 := h36.mono hm
            have hL := hL.trans hm
            refine wpList_nil ?_
            clear hS; refine and_keep (H.sw hL) fun hS => ?_
            refine dstep hR (i := 4) rfl (by kernel_rfl) (fun _ _ _ h => h) (fun _ _ H' => (Runs.field1 (ty := 31) A rfl FldC.h (by kernel_rfl) TyC.h rfl)) A rfl hS ?_; clear A a hR; intro a A hR
            refine dlist hR (i := 8) rfl (by kernel_rfl) ?_
            have hR := hR.next (i := 8) (by kernel_rfl)
            refine step_callF A rfl rfl (c_wireloomlaw18_put hq (by omega) hqs ⟨_, _, _, rfl, hsa, hna⟩) H ?_
            rintro v19_8 a w m hm ⟨ad8, c8, rfl, h8⟩ A H
            have hM := hM.trans hm
            have G := G.mono hm
            have hLs := hLs.mono hm
            have hB := hB.mono hm
            have hsa := hsa.mono hm
            have hsb := hsb.mono hm
            have hst := hst.mono hm
            have hp := hp.mono hm
            have hq := hq.mono hm
            have h36 := h36.mono hm
            have h3 := h3.mono hm
            have hL := hL.trans hm
            refine wpList_nil ?_
            clear hS; refine and_keep (H.sw hL) fun hS => ?_
            refine dstep hR (i := 9) rfl (by kernel_rfl) (fun _ _ _ h => h) (fun _ _ H' => (Runs.field1 (ty := 31) A rfl FldC.h (by kernel_rfl) TyC.h rfl)) A rfl hS ?_; clear A a hR; intro a A hR
            refine dlist hR (i := 10) rfl (by kernel_rfl) ?_
            have hR := hR.next (i := 10) (by kernel_rfl)
            refine step_callF A rfl rfl (c_wireloomref18_Same h3 h8) H ?_
            rintro v19_10 a w m hm rfl A H
            have hM := hM.trans hm
            have G := G.mono hm
            have hLs := hLs.mono hm
            have hB := hB.mono hm
            have hsa := hsa.mono hm
            have hsb := hsb.mono hm
            have hst := hst.mono hm
            have hp := hp.mono hm
            have hq := hq.mono hm
            have h36 := h36.mono hm
            have h3 := h3.mono hm
            have h8 := h8.mono hm
            have hL := hL.trans hm
            refine wpList_nil ?_
            clear hS; refine and_keep (H.sw hL) fun hS => ?_
            refine dstep hR (i := 11) rfl (by kernel_rfl) (fun _ _ _ h => h) (fun _ _ H' => (Runs.move A rfl)) A rfl hS ?_; clear A a hR; intro a A hR
            refine dstepG hR (i := 12) (dj := 142) rfl (by kernel_rfl) (fun _ _ _ h => h) rfl rfl (decide_eq_true (by rw [hpe, hqe]; exact put_comm hss hne)) (fun _ _ H' => (Runs.move A rfl)) A rfl hS ?_; clear A a hR; intro a A hR
            refine dstep hR (i := 13) rfl (by kernel_rfl) (fun _ _ _ h => h) (fun _ _ H' => (Runs.pickT A rfl (decide_eq_true (by rw [hpe, hqe]; exact put_comm hss hne)) rfl)) A rfl hS ?_; clear A a hR; intro a A hR
            refine dstep hR (i := 14) rfl (by kernel_rfl) (fun _ _ _ h => h) (fun _ _ H' => (Runs.assign A rfl)) A rfl hS ?_; clear A a hR; intro a A hR
            refine draw_done hR (by kernel_rfl) ?_
            clear hS hL hR
            refine wp_ret ?_
            exact retF A rfl rfl hM H rfl
end Sl
end Go.Proofs.YtanhehbfbakdcaaGreatDoor
