/- The printer's walks: printed by my gen.py out of annotations. -/
import Derived.Test.YtanhehbfbakdcaaGreatDoorPr
set_option linter.unusedSimpArgs false
set_option linter.unusedVariables false
namespace Go.Proofs.YtanhehbfbakdcaaGreatDoor
namespace Sl
open Go

theorem c_strings_Builder_copyCheck {b : Nat} {pa : Option Addr} {v1 v2 : Value} {m : Mem} (hpa : pa = none ∨ pa = some ⟨b, 0, none⟩) : Spec Tryz.prog 88 #[.pointer (some ⟨b, 0, none⟩)] m [pt b [.pointer pa, v1, v2] 117] (RetV fun _ v L => v = .tuple #[] ∧ L = [pt b [.pointer (some ⟨b, 0, none⟩), v1, v2] 117]) := by
  refine Spec.enter Tryz.func88 rfl 20 Tryz.ntmps88 rfl fun a w0 Lf A H => ?_
  simp only [List.cons_append, List.nil_append] at H
  have hM := Le.refl m
  refine wp_seq ?_
  refine wp_region_lit ?_
  refine step (Runs.move A rfl) A rfl ?_; clear A a; intro a A
  refine step (Runs.nilCheck A rfl) A rfl ?_; clear A a; intro a A
  refine step (Runs.fa A rfl) A rfl ?_; clear A a; intro a A
  refine step (Runs.ld1 A H rfl rfl) A rfl ?_; clear A a; intro a A
  rcases hpa with rfl | rfl
  · refine step (Runs.peqlNN A rfl rfl) A rfl ?_; clear A a; intro a A
    refine wpList_nil ?_
    refine cond_true A rfl rfl ?_
    refine wp_region_lit ?_
    refine step (Runs.move A rfl) A rfl ?_; clear A a; intro a A
    refine step (Runs.move A rfl) A rfl ?_; clear A a; intro a A
    refine step (Runs.toUnsafe (t2 := 115) A H rfl (by kernel_rfl) (by kernel_rfl) (by kernel_rfl) (by exact Nat.zero_lt_succ _)) A rfl ?_; clear A a; intro a A
    refine step_noEscape A rfl Tryz.func128 (by kernel_rfl) (by kernel_rfl) (by kernel_rfl) (by kernel_rfl) rfl ?_; clear A a; intro a A
    refine step (Runs.fromUnsafe (u := 115) A H rfl (by kernel_rfl) (by kernel_rfl) (by kernel_rfl) (by kernel_rfl)) A rfl ?_; clear A a; intro a A
    refine step (Runs.nilCheck A rfl) A rfl ?_; clear A a; intro a A
    refine step (Runs.fa A rfl) A rfl ?_; clear A a; intro a A
    refine step_store A H rfl rfl rfl rfl rfl rfl ?_; intro w H
    refine wpList_nil ?_
    exact endV0 A rfl hM H ⟨rfl, rfl⟩
  · refine step (Runs.peqlNil A rfl rfl) A rfl ?_; clear A a; intro a A
    refine wpList_nil ?_
    refine cond_false A rfl rfl ?_
    refine wp_seq ?_
    refine wp_region_lit ?_
    refine step (Runs.move A rfl) A rfl ?_; clear A a; intro a A
    refine step (Runs.nilCheck A rfl) A rfl ?_; clear A a; intro a A
    refine step (Runs.fa A rfl) A rfl ?_; clear A a; intro a A
    refine step (Runs.ld1 A H rfl rfl) A rfl ?_; clear A a; intro a A
    refine step (Runs.move A rfl) A rfl ?_; clear A a; intro a A
    refine step (Runs.pneqSame A rfl rfl) A rfl ?_; clear A a; intro a A
    refine wpList_nil ?_
    refine cond_false A rfl rfl ?_
    refine wp_skip ?_
    exact endV0 A rfl hM H ⟨rfl, rfl⟩

theorem c_WriteString {b : Nat} {s : ByteArray} {m : Mem} (k : Nat) (hk : s.size ≤ k) : PrSpec Tryz.prog 60 [.pointer (some ⟨b, 0, none⟩), .string s] m b [] (wr (bl s)) k (fun _ v => v = .tuple #[.int .i64 s.size, .nilIface]) := by
  intro x B hB
  refine Spec.enter Tryz.func60 rfl 19 Tryz.ntmps60 rfl fun a w0 Lf A H => ?_
  simp only [List.cons_append, List.nil_append] at H
  have hM := Le.refl m
  obtain ⟨pa, ad, c, hpa, had, hlen, H⟩ := H.pr_open (b := b)
  refine wp_seq ?_
  refine wp_region_lit ?_
  refine step (Runs.assign A rfl) A rfl ?_; clear A a; intro a A
  refine step (Runs.assign A rfl) A rfl ?_; clear A a; intro a A
  refine wpList_nil ?_
  refine wp_seq ?_
  refine wp_region_lit ?_
  refine step (Runs.move A rfl) A rfl ?_; clear A a; intro a A
  refine step_callS A rfl rfl (c_strings_Builder_copyCheck (v1 := .slice ad x.t.length c) (v2 := .bool x.ok) hpa) H ?_
  rintro v1_1 a w m L' hm ⟨rfl, rfl⟩ A H
  simp only [List.cons_append, List.nil_append] at H
  have hM := hM.trans hm
  refine wpList_nil ?_
  refine wp_seq ?_
  refine wp_region_lit ?_
  refine step (Runs.move A rfl) A rfl ?_; clear A a; intro a A
  refine step (Runs.move A rfl) A rfl ?_; clear A a; intro a A
  refine step (Runs.nilCheck A rfl) A rfl ?_; clear A a; intro a A
  refine step (Runs.fa A rfl) A rfl ?_; clear A a; intro a A
  refine step (Runs.ld1 A H rfl rfl) A rfl ?_; clear A a; intro a A
  refine step (Runs.move A rfl) A rfl ?_; clear A a; intro a A
  refine step_appendStr A H rfl rfl rfl (by omega) rfl ?_; clear A a; intro ad1 c1 a w hnil A H
  refine step (Runs.nilCheck A rfl) A rfl ?_; clear A a; intro a A
  refine step (Runs.fa A rfl) A rfl ?_; clear A a; intro a A
  refine step_store A H rfl rfl rfl rfl rfl rfl ?_; intro w H
  refine wpList_nil ?_
  refine wp_seq ?_
  refine wp_region_lit ?_
  refine step (Runs.move A rfl) A rfl ?_; clear A a; intro a A
  refine step (Runs.lenS A rfl StrC.h) A rfl ?_; clear A a; intro a A
  refine step (Runs.assign A rfl) A rfl ?_; clear A a; intro a A
  refine step (Runs.assign A rfl) A rfl ?_; clear A a; intro a A
  refine wpList_nil ?_
  refine wp_ret ?_
  rw [← List.map_append] at H
  have H := H.pr_close (B := B + k) (.inr rfl) (fun e => hnil (had (List.append_eq_nil_iff.1 e).1) (by have := (List.append_eq_nil_iff.1 e).2; simpa using congrArg List.length this)) (by rw [List.length_append, Array.length_toList]; change _ + s.size ≤ _; omega)
  exact retPr2 A rfl rfl rfl hM H rfl rfl (Nat.le_refl _)

theorem c_BuilderLen {b B : Nat} {x : PS} {m : Mem} : Spec Tryz.prog 64 #[.pointer (some ⟨b, 0, none⟩)] m [prR b x B] (RetV fun _ v L => v = .int .i64 x.t.length ∧ L = [prR b x B] ∧ x.t.length ≤ B) := by
  refine Spec.enter Tryz.func64 rfl 8 Tryz.ntmps64 rfl fun a w0 Lf A H => ?_
  simp only [List.cons_append, List.nil_append] at H
  have hM := Le.refl m
  obtain ⟨pa, ad, c, hpa, had, hlen, H⟩ := H.pr_open (b := b)
  refine wp_seq ?_
  refine wp_region_lit ?_
  refine step (Runs.assign A rfl) A rfl ?_; clear A a; intro a A
  refine wpList_nil ?_
  refine wp_seq ?_
  refine wp_region_lit ?_
  refine step (Runs.move A rfl) A rfl ?_; clear A a; intro a A
  refine step (Runs.nilCheck A rfl) A rfl ?_; clear A a; intro a A
  refine step (Runs.fa A rfl) A rfl ?_; clear A a; intro a A
  refine step (Runs.ld1 A H rfl rfl) A rfl ?_; clear A a; intro a A
  refine step (Runs.lenL A rfl SlC.h) A rfl ?_; clear A a; intro a A
  refine step (Runs.assign A rfl) A rfl ?_; clear A a; intro a A
  refine wpList_nil ?_
  refine wp_ret ?_
  have H := H.pr_close (B := B) hpa had hlen
  exact retV A rfl rfl hM H ⟨rfl, rfl, hlen⟩

theorem c_BuilderString {b B : Nat} {x : PS} {m : Mem} (hB : B ≤ 1000000000000) : Spec Tryz.prog 65 #[.pointer (some ⟨b, 0, none⟩)] m [prR b x B] (RetV fun _ v L => v = .string ⟨x.t.toArray⟩ ∧ L = []) := by
  refine Spec.enter Tryz.func65 rfl 14 Tryz.ntmps65 rfl fun a w0 Lf A H => ?_
  simp only [List.cons_append, List.nil_append] at H
  have hM := Le.refl m
  obtain ⟨pa, ad, c, hpa, had, hlen, H⟩ := H.pr_open (b := b)
  refine wp_seq ?_
  refine wp_region_lit ?_
  refine step (Runs.assign A rfl) A rfl ?_; clear A a; intro a A
  rcases Decidable.em (x.t = []) with h0 | h0
  · obtain ⟨t, ok⟩ := x
    simp only at h0 had hlen H
    subst h0
    have had := had rfl
    subst had
    refine wpList_nil ?_
    refine wp_seq ?_
    refine draw_begin0 (by kernel_rfl) (N := 12) rfl (by kernel_rfl) H ?_; clear H; intro w H hR
    have hS : SW m _ w := ⟨_, H⟩
    have hL := Le.refl m
    refine dstep hR (i := 0) rfl (by kernel_rfl) (fun _ _ _ h => h) (fun _ _ H' => (Runs.move A rfl)) A rfl hS ?_; clear A a hR; intro a A hR
    refine dstep hR (i := 1) rfl (by kernel_rfl) (fun _ _ _ h => h) (fun _ _ H' => (Runs.nilCheck A rfl)) A rfl hS ?_; clear A a hR; intro a A hR
    refine dstep hR (i := 2) rfl (by kernel_rfl) (fun _ _ _ h => h) (fun _ _ H' => (Runs.fa A rfl)) A rfl hS ?_; clear A a hR; intro a A hR
    refine dstep hR (i := 3) rfl (by kernel_rfl) (fun _ _ _ h => h) (fun _ _ H' => (Runs.ld1 A H' rfl rfl)) A rfl hS ?_; clear A a hR; intro a A hR
    refine dstep hR (i := 4) rfl (by kernel_rfl) (fun _ _ _ h => h) (fun _ _ H' => (Runs.sliceData A rfl (.inl rfl))) A rfl hS ?_; clear A a hR; intro a A hR
    refine dstep hR (i := 5) rfl (by kernel_rfl) (fun _ _ _ h => h) (fun _ _ H' => (Runs.move A rfl)) A rfl hS ?_; clear A a hR; intro a A hR
    refine dstep hR (i := 6) rfl (by kernel_rfl) (fun _ _ _ h => h) (fun _ _ H' => (Runs.nilCheck A rfl)) A rfl hS ?_; clear A a hR; intro a A hR
    refine dstep hR (i := 7) rfl (by kernel_rfl) (fun _ _ _ h => h) (fun _ _ H' => (Runs.fa A rfl)) A rfl hS ?_; clear A a hR; intro a A hR
    refine dstep hR (i := 8) rfl (by kernel_rfl) (fun _ _ _ h => h) (fun _ _ H' => (Runs.ld1 A H' rfl rfl)) A rfl hS ?_; clear A a hR; intro a A hR
    refine dstep hR (i := 9) rfl (by kernel_rfl) (fun _ _ _ h => h) (fun _ _ H' => (Runs.lenL A rfl SlC.h)) A rfl hS ?_; clear A a hR; intro a A hR
    refine dlist hR (i := 10) rfl (by kernel_rfl) ?_
    have hR := hR.next (i := 10) (by kernel_rfl)
    refine step (Runs.unsafeStr0 A rfl rfl) A rfl ?_; clear A a; intro a A
    refine wpList_nil ?_
    clear hS; refine and_keep (H.sw hL) fun hS => ?_
    refine dstep hR (i := 11) rfl (by kernel_rfl) (fun _ _ _ h => h) (fun _ _ H' => (Runs.assign A rfl)) A rfl hS ?_; clear A a hR; intro a A hR
    refine draw_done hR (by kernel_rfl) ?_
    clear hS hL hR
    refine wp_ret ?_
    exact retV A rfl rfl hM H ⟨rfl, rfl⟩
  · have hl0 : 0 < x.t.length := List.length_pos_iff.2 h0
    obtain ⟨_, hlc, hcm⟩ := (H.perm (List.Perm.swap _ _ _)).row_len
    obtain ⟨g, rfl⟩ : ∃ g, ad = some ⟨g, 0, none⟩ := by
      obtain ⟨g, _, e, _⟩ := (H.perm (List.Perm.swap _ _ _)).row_block (by omega)
      exact ⟨g, e⟩
    refine wpList_nil ?_
    refine wp_seq ?_
    refine draw_begin (ms := m) (Ls := [pt b [.pointer pa, .slice (some ⟨g, 0, none⟩) x.t.length c, .bool x.ok] 117]) (by kernel_rfl) (N := 12) rfl (by kernel_rfl) H ?_; clear H; intro w H hR
    have hS : SW m [pt b [.pointer pa, .slice (some ⟨g, 0, none⟩) x.t.length c, .bool x.ok] 117] w := H.sw (Le.refl m)
    have hL := Le.refl m
    refine dstep hR (i := 0) rfl (by kernel_rfl) (fun _ _ _ h => h) (fun _ _ H' => (Runs.move A rfl)) A rfl hS ?_; clear A a hR; intro a A hR
    refine dstep hR (i := 1) rfl (by kernel_rfl) (fun _ _ _ h => h) (fun _ _ H' => (Runs.nilCheck A rfl)) A rfl hS ?_; clear A a hR; intro a A hR
    refine dstep hR (i := 2) rfl (by kernel_rfl) (fun _ _ _ h => h) (fun _ _ H' => (Runs.fa A rfl)) A rfl hS ?_; clear A a hR; intro a A hR
    refine dstep hR (i := 3) rfl (by kernel_rfl) (fun _ _ _ h => h) (fun _ _ H' => (Runs.ld1 A H' rfl rfl)) A rfl hS ?_; clear A a hR; intro a A hR
    refine dstep hR (i := 4) rfl (by kernel_rfl) (fun _ _ _ h => h) (fun _ _ H' => (Runs.sliceData A rfl (.inr (by omega)))) A rfl hS ?_; clear A a hR; intro a A hR
    refine dstep hR (i := 5) rfl (by kernel_rfl) (fun _ _ _ h => h) (fun _ _ H' => (Runs.move A rfl)) A rfl hS ?_; clear A a hR; intro a A hR
    refine dstep hR (i := 6) rfl (by kernel_rfl) (fun _ _ _ h => h) (fun _ _ H' => (Runs.nilCheck A rfl)) A rfl hS ?_; clear A a hR; intro a A hR
    refine dstep hR (i := 7) rfl (by kernel_rfl) (fun _ _ _ h => h) (fun _ _ H' => (Runs.fa A rfl)) A rfl hS ?_; clear A a hR; intro a A hR
    refine dstep hR (i := 8) rfl (by kernel_rfl) (fun _ _ _ h => h) (fun _ _ H' => (Runs.ld1 A H' rfl rfl)) A rfl hS ?_; clear A a hR; intro a A hR
    refine dstep hR (i := 9) rfl (by kernel_rfl) (fun _ _ _ h => h) (fun _ _ H' => (Runs.lenL A rfl SlC.h)) A rfl hS ?_; clear A a hR; intro a A hR
    refine dlist hR (i := 10) rfl (by kernel_rfl) ?_
    have hR := hR.next (i := 10) (by kernel_rfl)
    have H' := H.perm (List.Perm.swap _ _ _)
    refine step_unsafeStr A H' rfl rfl (by kernel_rfl) (by kernel_rfl) h0 rfl ?_; clear A a H H'; intro a w A H
    refine wpList_nil ?_
    clear hS; refine and_keep (H.sw hL) fun hS => ?_
    refine dstep hR (i := 11) rfl (by kernel_rfl) (fun _ _ _ h => h) (fun _ _ H' => (Runs.assign A rfl)) A rfl hS ?_; clear A a hR; intro a A hR
    refine draw_done hR (by kernel_rfl) ?_
    clear hS hL hR
    refine wp_ret ?_
    exact retV A rfl rfl hM H ⟨rfl, rfl⟩
end Sl
end Go.Proofs.YtanhehbfbakdcaaGreatDoor
