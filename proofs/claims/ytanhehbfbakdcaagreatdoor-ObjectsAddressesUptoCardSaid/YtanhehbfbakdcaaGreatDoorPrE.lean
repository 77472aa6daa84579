/- The printer's expressions: printed by my gen.py out of annotations. -/
import Derived.Test.YtanhehbfbakdcaaGreatDoorPrZ
set_option linter.unusedSimpArgs false
set_option linter.unusedVariables false
namespace Go.Proofs.YtanhehbfbakdcaaGreatDoor
namespace Sl
open Go

/-- what the printer makes of an expression of at most so great a depth -/
def ExSpec (d : Nat) : Prop := ∀ {b : Nat} {m : Mem} {e : Ex} {ad : Option Addr} {c : Nat}, Glob m → ExA m ad c e → PrSpec Tryz.prog 95 [.pointer (some ⟨b, 0, none⟩), .agg (exC e ad c).toArray, .int .i64 d] m b [] (exprP d e) (szEx e) (fun _ v => v = .tuple #[])
theorem list1 {l : List Ex} (h : l.length = 1) : ∃ a, l = [a] := by
  match l, h with
  | [a], _ => exact ⟨a, rfl⟩
theorem list2 {l : List Ex} (h : l.length = 2) : ∃ a b, l = [a, b] := by
  match l, h with
  | [a, b], _ => exact ⟨a, b, rfl⟩
theorem list3 {l : List Ex} (h : l.length = 3) : ∃ a b c, l = [a, b, c] := by
  match l, h with
  | [a, b, c], _ => exact ⟨a, b, c, rfl⟩
theorem arity_bin {op : Int} {n : Nat} (h : (n : Int) = arityP op) (h1 : ¬ op = 1) (h2 : ¬ op = 14) (h3 : ¬ op = 15) (h4 : ¬ op = 2) (h5 : ¬ op = 10) (h6 : ¬ op = 12) (h7 : ¬ op = 13) : n = 2 := by
  simp only [arityP, h1, h2, h3, h4, h5, h6, h7, or_self, if_false] at h
  split at h <;> omega

theorem c_expr_1 {b b2 b3 b4 i d ks : Nat} {iz : Int} {s : ByteArray} {e q : Ex} {ad : Option Addr} {c : Nat} {m : Mem} (hi : iz = (i : Int)) (ih : ExSpec d) (G : Glob m) (hA : ExA m ad c e) (hq : e.args[i]? = some q) (hd : d ≤ 100) (hks : s.size ≤ ks) : PrSpec Tryz.prog 132 [.string s, .int .i64 iz, .pointer (some ⟨b2, 0, none⟩), .pointer (some ⟨b3, 0, none⟩), .pointer (some ⟨b4, 0, none⟩)] m b [pt b2 [.pointer (some ⟨b, 0, none⟩)] 112, pt b3 (exC e ad c) 128, pt b4 [.int .i64 ((d + 1 : Nat) : Int)] 3] (fun x => exprP d q (wr (bl s) x)) (szEx q + ks) (fun _ v => v = .tuple #[]) := by
  subst hi
  intro x B hB
  refine Spec.enter Tryz.func132 rfl 21 Tryz.ntmps132 rfl fun a w0 Lf A H => ?_
  simp only [List.cons_append, List.nil_append] at H
  have hM := Le.refl m
  obtain ⟨hop, hk, hw, hargs⟩ := hA
  have hil := (List.getElem?_eq_some_iff.1 hq).1
  obtain ⟨bb, off, cs, rfl, hfz, hcs⟩ := hargs.all_ (by decide) (by omega)
  obtain ⟨us, hus, hR, hg⟩ := hcs _ _ hq
  obtain ⟨ad2, c2, rfl, hA2⟩ := hR.open_
  have hcp := hargs.cap
  have hmx : maxLen = 9223372036854775807 := rfl
  refine wp_seq ?_
  refine wp_region_lit ?_
  refine step (Runs.ld1 A H rfl rfl) A rfl ?_; clear A a; intro a A
  refine step (Runs.nilCheck A rfl) A rfl ?_; clear A a; intro a A
  refine step (Runs.fa A rfl) A rfl ?_; clear A a; intro a A
  refine step (Runs.move A rfl) A rfl ?_; clear A a; intro a A
  refine step_callPr A rfl rfl (c_WriteString _ (Nat.le_refl _)) H (by omega) ?_
  clear A a; rintro v0_4 a w m hm rfl A H
  simp only [List.cons_append, List.nil_append] at H
  have hM := hM.trans hm
  have G := G.mono hm
  have hfz := hfz.mono hm
  have hA2 := hA2.mono hm
  refine wpList_nil ?_
  refine draw_begin (ms := m) (Ls := [pt b2 [.pointer (some ⟨b, 0, none⟩)] 112, pt b3 (exC e (some ⟨bb, off, none⟩) c) 128, pt b4 [.int .i64 ((d + 1 : Nat) : Int)] 3]) (by kernel_rfl) (N := 9) rfl (by kernel_rfl) H ?_; clear H; intro w H hR
  have hS : SW m [pt b2 [.pointer (some ⟨b, 0, none⟩)] 112, pt b3 (exC e (some ⟨bb, off, none⟩) c) 128, pt b4 [.int .i64 ((d + 1 : Nat) : Int)] 3] w := H.sw (Le.refl m)
  have hL := Le.refl m
  refine dstep hR (i := 0) rfl (by kernel_rfl) (fun _ _ _ h => h) (fun _ _ H' => (Runs.ld1 A H' rfl rfl)) A rfl hS ?_; clear A a hR; intro a A hR
  refine dstep hR (i := 1) rfl (by kernel_rfl) (fun _ _ _ h => h) (fun _ _ H' => (Runs.fa A rfl)) A rfl hS ?_; clear A a hR; intro a A hR
  refine dstep hR (i := 2) rfl (by kernel_rfl) (fun _ _ _ h => h) (fun _ _ H' => (Runs.ld1 A H' rfl rfl)) A rfl hS ?_; clear A a hR; intro a A hR
  refine dstep hR (i := 3) rfl (by kernel_rfl) (fun _ _ _ h => h) (fun _ _ H' => (Runs.move A rfl)) A rfl hS ?_; clear A a hR; intro a A hR
  refine dstep hR (i := 4) rfl (by kernel_rfl) (fun _ _ _ h => h) (fun _ _ H' => (Runs.indexAddr A rfl rfl SlC.h (by omega) (by omega))) A rfl hS ?_; clear A a hR; intro a A hR
  refine dstep hR (i := 5) rfl (by kernel_rfl) (fun _ _ _ h => h) (fun _ _ H' => (Runs.ldN A H' rfl (vs := exC q ad2 c2) (by simpa using hg))) A rfl hS ?_; clear A a hR; intro a A hR
  refine dstep hR (i := 6) rfl (by kernel_rfl) (fun _ _ _ h => h) (fun _ _ H' => (Runs.ld1 A H' rfl rfl)) A rfl hS ?_; clear A a hR; intro a A hR
  refine dstep hR (i := 7) rfl (by kernel_rfl) (fun _ _ _ h => h) (fun _ _ H' => (Runs.sub A rfl rfl (by omega))) A rfl hS ?_; clear A a hR; intro a A hR
  refine dlist hR (i := 8) rfl (by kernel_rfl) ?_
  have hR := hR.next (i := 8) (by kernel_rfl)
  have ed : ((d + 1 : Nat) : Int) - 1 = (d : Int) := by omega
  rw [ed] at A
  refine step_callPr A rfl rfl (ih G hA2) H (by omega) ?_
  clear A a; rintro v1_8 a w m hm rfl A H
  simp only [List.cons_append, List.nil_append] at H
  have hM := hM.trans hm
  have G := G.mono hm
  have hfz := hfz.mono hm
  have hA2 := hA2.mono hm
  have hL := hL.trans hm
  refine wpList_nil ?_
  clear hS; refine and_keep (H.sw hL) fun hS => ?_
  refine draw_done hR (by kernel_rfl) ?_
  clear hS hL hR
  exact endPr A rfl hM H rfl rfl (by omega)

theorem c_expr_zero {b : Nat} {m : Mem} {e : Ex} {ad : Option Addr} {c : Nat} (G : Glob m) (hA : ExA m ad c e) : PrSpec Tryz.prog 95 [.pointer (some ⟨b, 0, none⟩), .agg (exC e ad c).toArray, .int .i64 0] m b [] (exprP 0 e) (szEx e) (fun _ v => v = .tuple #[]) := by
  intro x B hB
  refine Spec.enter Tryz.func95 rfl 173 Tryz.ntmps95 rfl fun a w0 Lf A H => ?_
  simp only [List.cons_append, List.nil_append] at H
  have hM := Le.refl m
  refine wp_seq ?_
  refine wp_region_lit ?_
  refine step_box A H rfl (by simp only [Value.cells, List.toList_toArray]; rfl) rfl ?_; intro b2 a w A H
  refine step_box A H rfl (by simp only [Value.cells, List.toList_toArray]; rfl) rfl ?_; intro b3 a w A H
  refine step_box A H rfl (by simp only [Value.cells, List.toList_toArray]; rfl) rfl ?_; intro b4 a w A H
  refine wpList_nil ?_
  refine wp_seq ?_
  refine wp_seq ?_
  refine draw_begin0 (by kernel_rfl) (N := 11) rfl (by kernel_rfl) H ?_; clear H; intro w H hR
  have hS : SW m _ w := ⟨_, H⟩
  have hL := Le.refl m
  refine dstep hR (i := 0) rfl (by kernel_rfl) (fun _ _ _ h => h) (fun _ _ H' => (Runs.ld1 A H' rfl rfl)) A rfl hS ?_; clear A a hR; intro a A hR
  refine dstep hR (i := 1) rfl (by kernel_rfl) (fun _ _ _ h => h) (fun _ _ H' => (Runs.lss A rfl rfl)) A rfl hS ?_; clear A a hR; intro a A hR
  refine dstep hR (i := 2) rfl (by kernel_rfl) (fun _ _ _ h => h) (fun _ _ H' => (Runs.move A rfl)) A rfl hS ?_; clear A a hR; intro a A hR
  refine dskip hR (i := 3) (dj := 9) rfl (by kernel_rfl) (fun _ _ _ h => h) rfl rfl rfl A rfl hS ?_; clear A a hR; intro a A hR
  refine dskip hR (i := 4) (dj := 9) rfl (by kernel_rfl) (fun _ _ _ h => h) rfl rfl rfl A rfl hS ?_; clear A a hR; intro a A hR
  refine dskip hR (i := 5) (dj := 9) rfl (by kernel_rfl) (fun _ _ _ h => h) rfl rfl rfl A rfl hS ?_; clear A a hR; intro a A hR
  refine dskip hR (i := 6) (dj := 9) rfl (by kernel_rfl) (fun _ _ _ h => h) rfl rfl rfl A rfl hS ?_; clear A a hR; intro a A hR
  refine dskip hR (i := 7) (dj := 9) rfl (by kernel_rfl) (fun _ _ _ h => h) rfl rfl rfl A rfl hS ?_; clear A a hR; intro a A hR
  refine dskip hR (i := 8) (dj := 9) rfl (by kernel_rfl) (fun _ _ _ h => h) rfl rfl rfl A rfl hS ?_; clear A a hR; intro a A hR
  refine dskip hR (i := 9) (dj := 9) rfl (by kernel_rfl) (fun _ _ _ h => h) rfl rfl rfl A rfl hS ?_; clear A a hR; intro a A hR
  refine dstep hR (i := 10) rfl (by kernel_rfl) (fun _ _ _ h => h) (fun _ _ H' => (Runs.pickT A rfl rfl rfl)) A rfl hS ?_; clear A a hR; intro a A hR
  refine draw_done hR (by kernel_rfl) ?_
  clear hS hL hR
  refine cond_true A rfl rfl ?_
  obtain ⟨pa, ad0, c0, hpa, had, hlen, H⟩ := H.pr_open (b := b)
  refine wp_region_lit ?_
  refine step (Runs.ld1 A H rfl rfl) A rfl ?_; clear A a; intro a A
  refine step (Runs.nilCheck A rfl) A rfl ?_; clear A a; intro a A
  refine step (Runs.fa A rfl) A rfl ?_; clear A a; intro a A
  refine step_store A H rfl rfl rfl rfl rfl rfl ?_; intro w H
  refine wpList_nil ?_
  refine wp_seq ?_
  refine wp_seq ?_
  refine wp_region_lit ?_
  refine step (Runs.ld1 A H rfl rfl) A rfl ?_; clear A a; intro a A
  refine step (Runs.nilCheck A rfl) A rfl ?_; clear A a; intro a A
  refine step (Runs.fa A rfl) A rfl ?_; clear A a; intro a A
  refine step (Runs.ld1 A H rfl rfl) A rfl ?_; clear A a; intro a A
  refine step (Runs.not A rfl) A rfl ?_; clear A a; intro a A
  refine wpList_nil ?_
  refine cond_true A rfl rfl ?_
  refine wp_ret ?_
  have H := H.pr_close hpa had hlen
  exact retPr A rfl hM H rfl rfl (by omega)

set_option maxHeartbeats 1000000 in
theorem c_expr_succ {b d : Nat} {m : Mem} {e : Ex} {ad : Option Addr} {c : Nat} (hd : d ≤ 100) (ih : ExSpec d) (G : Glob m) (hA : ExA m ad c e) : PrSpec Tryz.prog 95 [.pointer (some ⟨b, 0, none⟩), .agg (exC e ad c).toArray, .int .i64 ((d + 1 : Nat) : Int)] m b [] (exprP (d + 1) e) (szEx e) (fun _ v => v = .tuple #[]) := by
  intro x B hB
  refine Spec.enter Tryz.func95 rfl 173 Tryz.ntmps95 rfl fun a w0 Lf A H => ?_
  simp only [List.cons_append, List.nil_append] at H
  have hM := Le.refl m
  have hsz0 := szEx_eq e
  refine wp_seq ?_
  refine wp_region_lit ?_
  refine step_box A H rfl (by simp only [Value.cells, List.toList_toArray]; rfl) rfl ?_; intro b2 a w A H
  refine step_box A H rfl (by simp only [Value.cells, List.toList_toArray]; rfl) rfl ?_; intro b3 a w A H
  refine step_box A H rfl (by simp only [Value.cells, List.toList_toArray]; rfl) rfl ?_; intro b4 a w A H
  refine wpList_nil ?_
  refine wp_seq ?_
  refine wp_seq ?_
  refine draw_begin0 (by kernel_rfl) (N := 11) rfl (by kernel_rfl) H ?_; clear H; intro w H hR
  have hS : SW m _ w := ⟨_, H⟩
  have hL := Le.refl m
  refine dstep hR (i := 0) rfl (by kernel_rfl) (fun _ _ _ h => h) (fun _ _ H' => (Runs.ld1 A H' rfl rfl)) A rfl hS ?_; clear A a hR; intro a A hR
  refine dstep hR (i := 1) rfl (by kernel_rfl) (fun _ _ _ h => h) (fun _ _ H' => (Runs.lss A rfl rfl)) A rfl hS ?_; clear A a hR; intro a A hR
  refine dstep hR (i := 2) rfl (by kernel_rfl) (fun _ _ _ h => h) (fun _ _ H' => (Runs.move A rfl)) A rfl hS ?_; clear A a hR; intro a A hR
  refine dstepG hR (i := 3) (dj := 9) rfl (by kernel_rfl) (fun _ _ _ h => h) rfl rfl (decide_eq_false (by omega)) (fun _ _ H' => (Runs.fa A rfl)) A rfl hS ?_; clear A a hR; intro a A hR
  refine dstepG hR (i := 4) (dj := 9) rfl (by kernel_rfl) (fun _ _ _ h => h) rfl rfl (decide_eq_false (by omega)) (fun _ _ H' => (Runs.ld1 A H' rfl rfl)) A rfl hS ?_; clear A a hR; intro a A hR
  refine dstepG hR (i := 5) (dj := 9) rfl (by kernel_rfl) (fun _ _ _ h => h) rfl rfl (decide_eq_false (by omega)) (fun _ _ H' => (Runs.lenL A rfl SlC.h)) A rfl hS ?_; clear A a hR; intro a A hR
  refine dstepG hR (i := 6) (dj := 9) rfl (by kernel_rfl) (fun _ _ _ h => h) rfl rfl (decide_eq_false (by omega)) (fun _ _ H' => (Runs.fa A rfl)) A rfl hS ?_; clear A a hR; intro a A hR
  refine dstepG hR (i := 7) (dj := 9) rfl (by kernel_rfl) (fun _ _ _ h => h) rfl rfl (decide_eq_false (by omega)) (fun _ _ H' => (Runs.ld1 A H' rfl rfl)) A rfl hS ?_; clear A a hR; intro a A hR
  refine dlist hR (i := 8) rfl (by kernel_rfl) ?_
  have hR := hR.next (i := 8) (by kernel_rfl)
  refine step_callFG (dj := 9) rfl rfl (decide_eq_false (by omega)) A rfl rfl (c_syntax_arity G) H ?_
  rintro v1_8 a w m hm rfl A H
  have hM := hM.trans hm
  have G := G.mono hm
  have hA := hA.mono hm
  have hL := hL.trans hm
  refine wpList_nil ?_
  clear hS; refine and_keep (H.sw hL) fun hS => ?_
  refine dstepG hR (i := 9) (dj := 9) rfl (by kernel_rfl) (fun _ _ _ h => h) rfl rfl (decide_eq_false (by omega)) (fun _ _ H' => (Runs.neq A rfl rfl)) A rfl hS ?_; clear A a hR; intro a A hR
  refine dstep hR (i := 10) rfl (by kernel_rfl) (fun _ _ _ h => h) (fun _ _ H' => (Runs.pickF A rfl (decide_eq_false (by omega)) rfl)) A rfl hS ?_; clear A a hR; intro a A hR
  refine draw_done hR (by kernel_rfl) ?_
  clear hS hL hR
  refine cond_split A rfl (fun h1 => ?_) (fun h1 => ?_)
  · have g1 := h1
    try simp only [decide_eq_true_eq, decide_eq_false_iff_not, Bool.not_eq_true', Bool.not_eq_false', ne_eq, Decidable.not_not, Int.not_lt, Int.not_le] at g1
    obtain ⟨pa, ad0, c0, hpa, had, hlen, H⟩ := H.pr_open (b := b)
    refine wp_region_lit ?_
    refine step (Runs.ld1 A H rfl rfl) A rfl ?_; clear A a; intro a A
    refine step (Runs.nilCheck A rfl) A rfl ?_; clear A a; intro a A
    refine step (Runs.fa A rfl) A rfl ?_; clear A a; intro a A
    refine step_store A H rfl rfl rfl rfl rfl rfl ?_; intro w H
    refine wpList_nil ?_
    refine wp_seq ?_
    refine wp_seq ?_
    refine wp_region_lit ?_
    refine step (Runs.ld1 A H rfl rfl) A rfl ?_; clear A a; intro a A
    refine step (Runs.nilCheck A rfl) A rfl ?_; clear A a; intro a A
    refine step (Runs.fa A rfl) A rfl ?_; clear A a; intro a A
    refine step (Runs.ld1 A H rfl rfl) A rfl ?_; clear A a; intro a A
    refine step (Runs.not A rfl) A rfl ?_; clear A a; intro a A
    refine wpList_nil ?_
    refine cond_true A rfl rfl ?_
    refine wp_ret ?_
    have H := H.pr_close hpa had hlen
    exact retPr A rfl hM H rfl (by rw [exprP, if_pos (by assumption)]) (by omega)
  · have g1 := h1
    try simp only [decide_eq_true_eq, decide_eq_false_iff_not, Bool.not_eq_true', Bool.not_eq_false', ne_eq, Decidable.not_not, Int.not_lt, Int.not_le] at g1
    refine wp_skip ?_
    refine wp_seq ?_
    refine wp_seq ?_
    obtain ⟨pa, ad0, c0, hpa, had, hlen, H⟩ := H.pr_open (b := b)
    refine wp_region_lit ?_
    refine step (Runs.ld1 A H rfl rfl) A rfl ?_; clear A a; intro a A
    refine step (Runs.nilCheck A rfl) A rfl ?_; clear A a; intro a A
    refine step (Runs.fa A rfl) A rfl ?_; clear A a; intro a A
    refine step (Runs.ld1 A H rfl rfl) A rfl ?_; clear A a; intro a A
    refine step (Runs.not A rfl) A rfl ?_; clear A a; intro a A
    refine wpList_nil ?_
    refine cond_split A rfl (fun h2 => ?_) (fun h2 => ?_)
    · have g2 := h2
      try simp only [decide_eq_true_eq, decide_eq_false_iff_not, Bool.not_eq_true', Bool.not_eq_false', ne_eq, Decidable.not_not, Int.not_lt, Int.not_le] at g2
      refine wp_ret ?_
      have H := H.pr_close hpa had hlen
      have hok : x.ok = false := by simpa using h2
      exact retPr A rfl hM H rfl (by rw [exprP, if_neg (by rw [Decidable.not_not]; assumption), if_pos hok]) (by omega)
    · have g2 := h2
      try simp only [decide_eq_true_eq, decide_eq_false_iff_not, Bool.not_eq_true', Bool.not_eq_false', ne_eq, Decidable.not_not, Int.not_lt, Int.not_le] at g2
      refine wp_skip ?_
      refine wp_seq ?_
      have H := H.pr_close hpa had hlen
      have hlen2 : (e.args.length : Int) = arityP e.op := by assumption
      have hok : x.ok = true := by simpa using (by assumption : (!x.ok) = false)
      refine draw_begin (ms := m) (Ls := [pt b4 [.int .i64 ((d + 1 : Nat) : Int)] 3, pt b3 (exC e ad c) 128, pt b2 [.pointer (some ⟨b, 0, none⟩)] 112]) (by kernel_rfl) (N := 47) rfl (by kernel_rfl) H ?_; clear H; intro w H hR
      have hS : SW m [pt b4 [.int .i64 ((d + 1 : Nat) : Int)] 3, pt b3 (exC e ad c) 128, pt b2 [.pointer (some ⟨b, 0, none⟩)] 112] w := H.sw (Le.refl m)
      have hL := Le.refl m
      refine dstep hR (i := 0) rfl (by kernel_rfl) (fun _ _ _ h => h) (fun _ _ H' => (Runs.ld1 A H' rfl rfl)) A rfl hS ?_; clear A a hR; intro a A hR
      refine dstep hR (i := 1) rfl (by kernel_rfl) (fun _ _ _ h => h) (fun _ _ H' => (Runs.fa A rfl)) A rfl hS ?_; clear A a hR; intro a A hR
      refine dstep hR (i := 2) rfl (by kernel_rfl) (fun _ _ _ h => h) (fun _ _ H' => (Runs.ld1 A H' rfl rfl)) A rfl hS ?_; clear A a hR; intro a A hR
      refine dstep hR (i := 3) rfl (by kernel_rfl) (fun _ _ _ h => h) (fun _ _ H' => (Runs.seql A rfl rfl)) A rfl hS ?_; clear A a hR; intro a A hR
      refine dstep hR (i := 4) rfl (by kernel_rfl) (fun _ _ _ h => h) (fun _ _ H' => (Runs.move A rfl)) A rfl hS ?_; clear A a hR; intro a A hR
      refine dstep hR (i := 14) rfl (by kernel_rfl) (fun _ _ _ h => h) (fun _ _ H' => (Runs.fa A rfl)) A rfl hS ?_; clear A a hR; intro a A hR
      refine dstep hR (i := 15) rfl (by kernel_rfl) (fun _ _ _ h => h) (fun _ _ H' => (Runs.ldN A H' rfl rfl)) A rfl hS ?_; clear A a hR; intro a A hR
      refine dstep hR (i := 27) rfl (by kernel_rfl) (fun _ _ _ h => h) (fun _ _ H' => (Runs.fa A rfl)) A rfl hS ?_; clear A a hR; intro a A hR
      refine dstep hR (i := 28) rfl (by kernel_rfl) (fun _ _ _ h => h) (fun _ _ H' => (Runs.ldN A H' rfl rfl)) A rfl hS ?_; clear A a hR; intro a A hR
      refine joinD 34 [8, 7, 6, 5, 28, 27, 15, 14, 4, 3, 2, 1, 0] (fun F => (34, .bool (decide (e.name = ⟨#[]⟩) || decide (e.op = 14))) :: F) A (fun key1 => ?_) ?_
      · refine onBool A (dj := 30) rfl (fun h3 => ?_) (fun h3 => ?_)
        · have g3 := h3
          try simp only [decide_eq_true_eq, decide_eq_false_iff_not, Bool.not_eq_true', Bool.not_eq_false', ne_eq, Decidable.not_not, Int.not_lt, Int.not_le] at g3
          refine dskip hR (i := 5) (dj := 30) rfl (by kernel_rfl) (fun _ _ _ h => h) rfl rfl h3 A rfl hS ?_; clear A a hR; intro a A hR
          refine dskip hR (i := 6) (dj := 30) rfl (by kernel_rfl) (fun _ _ _ h => h) rfl rfl h3 A rfl hS ?_; clear A a hR; intro a A hR
          refine dskip hR (i := 7) (dj := 30) rfl (by kernel_rfl) (fun _ _ _ h => h) rfl rfl h3 A rfl hS ?_; clear A a hR; intro a A hR
          refine dstep hR (i := 8) rfl (by kernel_rfl) (fun _ _ _ h => h) (fun _ _ H' => (Runs.pickT A rfl h3 rfl)) A rfl hS ?_; clear A a hR; intro a A hR
          exact key1 _ (Fr.with1 (Fr.suf A rfl) A rfl (by first | rfl | (simp [*]; done))) hR
        · have g3 := h3
          try simp only [decide_eq_true_eq, decide_eq_false_iff_not, Bool.not_eq_true', Bool.not_eq_false', ne_eq, Decidable.not_not, Int.not_lt, Int.not_le] at g3
          refine dstepG hR (i := 5) (dj := 30) rfl (by kernel_rfl) (fun _ _ _ h => h) rfl rfl h3 (fun _ _ H' => (Runs.fa A rfl)) A rfl hS ?_; clear A a hR; intro a A hR
          refine dstepG hR (i := 6) (dj := 30) rfl (by kernel_rfl) (fun _ _ _ h => h) rfl rfl h3 (fun _ _ H' => (Runs.ld1 A H' rfl rfl)) A rfl hS ?_; clear A a hR; intro a A hR
          refine dstepG hR (i := 7) (dj := 30) rfl (by kernel_rfl) (fun _ _ _ h => h) rfl rfl h3 (fun _ _ H' => (Runs.eql A rfl rfl)) A rfl hS ?_; clear A a hR; intro a A hR
          refine dstep hR (i := 8) rfl (by kernel_rfl) (fun _ _ _ h => h) (fun _ _ H' => (Runs.pickF A rfl h3 rfl)) A rfl hS ?_; clear A a hR; intro a A hR
          exact key1 _ (Fr.with1 (Fr.suf A rfl) A rfl (by first | rfl | (simp [*]; done))) hR
      clear A hR; intro a A hR
      refine dstep hR (i := 9) rfl (by kernel_rfl) (fun _ _ _ h => h) (fun _ _ H' => (Runs.move A rfl)) A rfl hS ?_; clear A a hR; intro a A hR
      refine joinD 29 [13, 12, 11, 10, 9, 8, 7, 6, 5, 28, 27, 15, 14, 4, 3, 2, 1, 0] (fun F => (39, .bool ((decide (e.name = ⟨#[]⟩) || decide (e.op = 14)) || decide (e.op = 15))) :: F) A (fun key2 => ?_) ?_
      · refine onBool A (dj := 35) rfl (fun h4 => ?_) (fun h4 => ?_)
        · have g4 := h4
          try simp only [decide_eq_true_eq, decide_eq_false_iff_not, Bool.not_eq_true', Bool.not_eq_false', ne_eq, Decidable.not_not, Int.not_lt, Int.not_le] at g4
          refine dskip hR (i := 10) (dj := 35) rfl (by kernel_rfl) (fun _ _ _ h => h) rfl rfl h4 A rfl hS ?_; clear A a hR; intro a A hR
          refine dskip hR (i := 11) (dj := 35) rfl (by kernel_rfl) (fun _ _ _ h => h) rfl rfl h4 A rfl hS ?_; clear A a hR; intro a A hR
          refine dskip hR (i := 12) (dj := 35) rfl (by kernel_rfl) (fun _ _ _ h => h) rfl rfl h4 A rfl hS ?_; clear A a hR; intro a A hR
          refine dstep hR (i := 13) rfl (by kernel_rfl) (fun _ _ _ h => h) (fun _ _ H' => (Runs.pickT A rfl h4 rfl)) A rfl hS ?_; clear A a hR; intro a A hR
          exact key2 _ (Fr.with1 (Fr.suf A rfl) A rfl (by first | rfl | (simp [*]; done))) hR
        · have g4 := h4
          try simp only [decide_eq_true_eq, decide_eq_false_iff_not, Bool.not_eq_true', Bool.not_eq_false', ne_eq, Decidable.not_not, Int.not_lt, Int.not_le] at g4
          refine dstepG hR (i := 10) (dj := 35) rfl (by kernel_rfl) (fun _ _ _ h => h) rfl rfl h4 (fun _ _ H' => (Runs.fa A rfl)) A rfl hS ?_; clear A a hR; intro a A hR
          refine dstepG hR (i := 11) (dj := 35) rfl (by kernel_rfl) (fun _ _ _ h => h) rfl rfl h4 (fun _ _ H' => (Runs.ld1 A H' rfl rfl)) A rfl hS ?_; clear A a hR; intro a A hR
          refine dstepG hR (i := 12) (dj := 35) rfl (by kernel_rfl) (fun _ _ _ h => h) rfl rfl h4 (fun _ _ H' => (Runs.eql A rfl rfl)) A rfl hS ?_; clear A a hR; intro a A hR
          refine dstep hR (i := 13) rfl (by kernel_rfl) (fun _ _ _ h => h) (fun _ _ H' => (Runs.pickF A rfl h4 rfl)) A rfl hS ?_; clear A a hR; intro a A hR
          exact key2 _ (Fr.with1 (Fr.suf A rfl) A rfl (by first | rfl | (simp [*]; done))) hR
      clear A hR; intro a A hR
      refine dlist hR (i := 16) rfl (by kernel_rfl) ?_
      have hR := hR.next (i := 16) (by kernel_rfl)
      refine step_callF A rfl rfl (c_syntax_none (z := e.k)) H ?_
      rintro v4_16 a w m hm rfl A H
      have hM := hM.trans hm
      have G := G.mono hm
      have hA := hA.mono hm
      have hL := hL.trans hm
      refine wpList_nil ?_
      clear hS; refine and_keep (H.sw hL) fun hS => ?_
      refine dstep hR (i := 17) rfl (by kernel_rfl) (fun _ _ _ h => h) (fun _ _ H' => (Runs.move A rfl)) A rfl hS ?_; clear A a hR; intro a A hR
      refine joinD 23 [21, 20, 19, 18, 17, 16, 13, 12, 11, 10, 9, 8, 7, 6, 5, 28, 27, 15, 14, 4, 3, 2, 1, 0] (fun F => (47, .bool (noneB e.k || decide (e.op = 1))) :: F) A (fun key3 => ?_) ?_
      · refine onBool A (dj := 43) rfl (fun h5 => ?_) (fun h5 => ?_)
        · have g5 := h5
          try simp only [decide_eq_true_eq, decide_eq_false_iff_not, Bool.not_eq_true', Bool.not_eq_false', ne_eq, Decidable.not_not, Int.not_lt, Int.not_le] at g5
          refine dskip hR (i := 18) (dj := 43) rfl (by kernel_rfl) (fun _ _ _ h => h) rfl rfl h5 A rfl hS ?_; clear A a hR; intro a A hR
          refine dskip hR (i := 19) (dj := 43) rfl (by kernel_rfl) (fun _ _ _ h => h) rfl rfl h5 A rfl hS ?_; clear A a hR; intro a A hR
          refine dskip hR (i := 20) (dj := 43) rfl (by kernel_rfl) (fun _ _ _ h => h) rfl rfl h5 A rfl hS ?_; clear A a hR; intro a A hR
          refine dstep hR (i := 21) rfl (by kernel_rfl) (fun _ _ _ h => h) (fun _ _ H' => (Runs.pickT A rfl h5 rfl)) A rfl hS ?_; clear A a hR; intro a A hR
          exact key3 _ (Fr.with1 (Fr.suf A rfl) A rfl (by first | rfl | (simp [*]; done))) hR
        · have g5 := h5
          try simp only [decide_eq_true_eq, decide_eq_false_iff_not, Bool.not_eq_true', Bool.not_eq_false', ne_eq, Decidable.not_not, Int.not_lt, Int.not_le] at g5
          refine dstepG hR (i := 18) (dj := 43) rfl (by kernel_rfl) (fun _ _ _ h => h) rfl rfl h5 (fun _ _ H' => (Runs.fa A rfl)) A rfl hS ?_; clear A a hR; intro a A hR
          refine dstepG hR (i := 19) (dj := 43) rfl (by kernel_rfl) (fun _ _ _ h => h) rfl rfl h5 (fun _ _ H' => (Runs.ld1 A H' rfl rfl)) A rfl hS ?_; clear A a hR; intro a A hR
          refine dstepG hR (i := 20) (dj := 43) rfl (by kernel_rfl) (fun _ _ _ h => h) rfl rfl h5 (fun _ _ H' => (Runs.eql A rfl rfl)) A rfl hS ?_; clear A a hR; intro a A hR
          refine dstep hR (i := 21) rfl (by kernel_rfl) (fun _ _ _ h => h) (fun _ _ H' => (Runs.pickF A rfl h5 rfl)) A rfl hS ?_; clear A a hR; intro a A hR
          exact key3 _ (Fr.with1 (Fr.suf A rfl) A rfl (by first | rfl | (simp [*]; done))) hR
      clear A hR; intro a A hR
      refine dstep hR (i := 22) rfl (by kernel_rfl) (fun _ _ _ h => h) (fun _ _ H' => (Runs.move A rfl)) A rfl hS ?_; clear A a hR; intro a A hR
      refine joinD 18 [26, 25, 24, 23, 22, 21, 20, 19, 18, 17, 16, 13, 12, 11, 10, 9, 8, 7, 6, 5, 28, 27, 15, 14, 4, 3, 2, 1, 0] (fun F => (52, .bool ((noneB e.k || decide (e.op = 1)) || decide (e.op = 12))) :: F) A (fun key4 => ?_) ?_
      · refine onBool A (dj := 48) rfl (fun h6 => ?_) (fun h6 => ?_)
        · have g6 := h6
          try simp only [decide_eq_true_eq, decide_eq_false_iff_not, Bool.not_eq_true', Bool.not_eq_false', ne_eq, Decidable.not_not, Int.not_lt, Int.not_le] at g6
          refine dskip hR (i := 23) (dj := 48) rfl (by kernel_rfl) (fun _ _ _ h => h) rfl rfl h6 A rfl hS ?_; clear A a hR; intro a A hR
          refine dskip hR (i := 24) (dj := 48) rfl (by kernel_rfl) (fun _ _ _ h => h) rfl rfl h6 A rfl hS ?_; clear A a hR; intro a A hR
          refine dskip hR (i := 25) (dj := 48) rfl (by kernel_rfl) (fun _ _ _ h => h) rfl rfl h6 A rfl hS ?_; clear A a hR; intro a A hR
          refine dstep hR (i := 26) rfl (by kernel_rfl) (fun _ _ _ h => h) (fun _ _ H' => (Runs.pickT A rfl h6 rfl)) A rfl hS ?_; clear A a hR; intro a A hR
          exact key4 _ (Fr.with1 (Fr.suf A rfl) A rfl (by first | rfl | (simp [*]; done))) hR
        · have g6 := h6
          try simp only [decide_eq_true_eq, decide_eq_false_iff_not, Bool.not_eq_true', Bool.not_eq_false', ne_eq, Decidable.not_not, Int.not_lt, Int.not_le] at g6
          refine dstepG hR (i := 23) (dj := 48) rfl (by kernel_rfl) (fun _ _ _ h => h) rfl rfl h6 (fun _ _ H' => (Runs.fa A rfl)) A rfl hS ?_; clear A a hR; intro a A hR
          refine dstepG hR (i := 24) (dj := 48) rfl (by kernel_rfl) (fun _ _ _ h => h) rfl rfl h6 (fun _ _ H' => (Runs.ld1 A H' rfl rfl)) A rfl hS ?_; clear A a hR; intro a A hR
          refine dstepG hR (i := 25) (dj := 48) rfl (by kernel_rfl) (fun _ _ _ h => h) rfl rfl h6 (fun _ _ H' => (Runs.eql A rfl rfl)) A rfl hS ?_; clear A a hR; intro a A hR
          refine dstep hR (i := 26) rfl (by kernel_rfl) (fun _ _ _ h => h) (fun _ _ H' => (Runs.pickF A rfl h6 rfl)) A rfl hS ?_; clear A a hR; intro a A hR
          exact key4 _ (Fr.with1 (Fr.suf A rfl) A rfl (by first | rfl | (simp [*]; done))) hR
      clear A hR; intro a A hR
      refine dlist hR (i := 29) rfl (by kernel_rfl) ?_
      have hR := hR.next (i := 29) (by kernel_rfl)
      refine step_callF A rfl rfl (c_syntax_none (z := e.w)) H ?_
      rintro v4_29 a w m hm rfl A H
      have hM := hM.trans hm
      have G := G.mono hm
      have hA := hA.mono hm
      have hL := hL.trans hm
      refine wpList_nil ?_
      clear hS; refine and_keep (H.sw hL) fun hS => ?_
      refine dstep hR (i := 30) rfl (by kernel_rfl) (fun _ _ _ h => h) (fun _ _ H' => (Runs.move A rfl)) A rfl hS ?_; clear A a hR; intro a A hR
      refine joinD 12 [34, 33, 32, 31, 30, 29, 26, 25, 24, 23, 22, 21, 20, 19, 18, 17, 16, 13, 12, 11, 10, 9, 8, 7, 6, 5, 28, 27, 15, 14, 4, 3, 2, 1, 0] (fun F => (60, .bool (noneB e.w || decide (e.op = 1))) :: F) A (fun key5 => ?_) ?_
      · refine onBool A (dj := 56) rfl (fun h7 => ?_) (fun h7 => ?_)
        · have g7 := h7
          try simp only [decide_eq_true_eq, decide_eq_false_iff_not, Bool.not_eq_true', Bool.not_eq_false', ne_eq, Decidable.not_not, Int.not_lt, Int.not_le] at g7
          refine dskip hR (i := 31) (dj := 56) rfl (by kernel_rfl) (fun _ _ _ h => h) rfl rfl h7 A rfl hS ?_; clear A a hR; intro a A hR
          refine dskip hR (i := 32) (dj := 56) rfl (by kernel_rfl) (fun _ _ _ h => h) rfl rfl h7 A rfl hS ?_; clear A a hR; intro a A hR
          refine dskip hR (i := 33) (dj := 56) rfl (by kernel_rfl) (fun _ _ _ h => h) rfl rfl h7 A rfl hS ?_; clear A a hR; intro a A hR
          refine dstep hR (i := 34) rfl (by kernel_rfl) (fun _ _ _ h => h) (fun _ _ H' => (Runs.pickT A rfl h7 rfl)) A rfl hS ?_; clear A a hR; intro a A hR
          exact key5 _ (Fr.with1 (Fr.suf A rfl) A rfl (by first | rfl | (simp [*]; done))) hR
        · have g7 := h7
          try simp only [decide_eq_true_eq, decide_eq_false_iff_not, Bool.not_eq_true', Bool.not_eq_false', ne_eq, Decidable.not_not, Int.not_lt, Int.not_le] at g7
          refine dstepG hR (i := 31) (dj := 56) rfl (by kernel_rfl) (fun _ _ _ h => h) rfl rfl h7 (fun _ _ H' => (Runs.fa A rfl)) A rfl hS ?_; clear A a hR; intro a A hR
          refine dstepG hR (i := 32) (dj := 56) rfl (by kernel_rfl) (fun _ _ _ h => h) rfl rfl h7 (fun _ _ H' => (Runs.ld1 A H' rfl rfl)) A rfl hS ?_; clear A a hR; intro a A hR
          refine dstepG hR (i := 33) (dj := 56) rfl (by kernel_rfl) (fun _ _ _ h => h) rfl rfl h7 (fun _ _ H' => (Runs.eql A rfl rfl)) A rfl hS ?_; clear A a hR; intro a A hR
          refine dstep hR (i := 34) rfl (by kernel_rfl) (fun _ _ _ h => h) (fun _ _ H' => (Runs.pickF A rfl h7 rfl)) A rfl hS ?_; clear A a hR; intro a A hR
          exact key5 _ (Fr.with1 (Fr.suf A rfl) A rfl (by first | rfl | (simp [*]; done))) hR
      clear A hR; intro a A hR
      refine dstep hR (i := 35) rfl (by kernel_rfl) (fun _ _ _ h => h) (fun _ _ H' => (Runs.move A rfl)) A rfl hS ?_; clear A a hR; intro a A hR
      refine joinD 7 [39, 38, 37, 36, 35, 34, 33, 32, 31, 30, 29, 26, 25, 24, 23, 22, 21, 20, 19, 18, 17, 16, 13, 12, 11, 10, 9, 8, 7, 6, 5, 28, 27, 15, 14, 4, 3, 2, 1, 0] (fun F => (65, .bool ((noneB e.w || decide (e.op = 1)) || decide (e.op = 12))) :: F) A (fun key6 => ?_) ?_
      · refine onBool A (dj := 61) rfl (fun h8 => ?_) (fun h8 => ?_)
        · have g8 := h8
          try simp only [decide_eq_true_eq, decide_eq_false_iff_not, Bool.not_eq_true', Bool.not_eq_false', ne_eq, Decidable.not_not, Int.not_lt, Int.not_le] at g8
          refine dskip hR (i := 36) (dj := 61) rfl (by kernel_rfl) (fun _ _ _ h => h) rfl rfl h8 A rfl hS ?_; clear A a hR; intro a A hR
          refine dskip hR (i := 37) (dj := 61) rfl (by kernel_rfl) (fun _ _ _ h => h) rfl rfl h8 A rfl hS ?_; clear A a hR; intro a A hR
          refine dskip hR (i := 38) (dj := 61) rfl (by kernel_rfl) (fun _ _ _ h => h) rfl rfl h8 A rfl hS ?_; clear A a hR; intro a A hR
          refine dstep hR (i := 39) rfl (by kernel_rfl) (fun _ _ _ h => h) (fun _ _ H' => (Runs.pickT A rfl h8 rfl)) A rfl hS ?_; clear A a hR; intro a A hR
          exact key6 _ (Fr.with1 (Fr.suf A rfl) A rfl (by first | rfl | (simp [*]; done))) hR
        · have g8 := h8
          try simp only [decide_eq_true_eq, decide_eq_false_iff_not, Bool.not_eq_true', Bool.not_eq_false', ne_eq, Decidable.not_not, Int.not_lt, Int.not_le] at g8
          refine dstepG hR (i := 36) (dj := 61) rfl (by kernel_rfl) (fun _ _ _ h => h) rfl rfl h8 (fun _ _ H' => (Runs.fa A rfl)) A rfl hS ?_; clear A a hR; intro a A hR
          refine dstepG hR (i := 37) (dj := 61) rfl (by kernel_rfl) (fun _ _ _ h => h) rfl rfl h8 (fun _ _ H' => (Runs.ld1 A H' rfl rfl)) A rfl hS ?_; clear A a hR; intro a A hR
          refine dstepG hR (i := 38) (dj := 61) rfl (by kernel_rfl) (fun _ _ _ h => h) rfl rfl h8 (fun _ _ H' => (Runs.eql A rfl rfl)) A rfl hS ?_; clear A a hR; intro a A hR
          refine dstep hR (i := 39) rfl (by kernel_rfl) (fun _ _ _ h => h) (fun _ _ H' => (Runs.pickF A rfl h8 rfl)) A rfl hS ?_; clear A a hR; intro a A hR
          exact key6 _ (Fr.with1 (Fr.suf A rfl) A rfl (by first | rfl | (simp [*]; done))) hR
      clear A hR; intro a A hR
      refine dstep hR (i := 40) rfl (by kernel_rfl) (fun _ _ _ h => h) (fun _ _ H' => (Runs.move A rfl)) A rfl hS ?_; clear A a hR; intro a A hR
      refine joinD 2 [44, 43, 42, 41, 40, 39, 38, 37, 36, 35, 34, 33, 32, 31, 30, 29, 26, 25, 24, 23, 22, 21, 20, 19, 18, 17, 16, 13, 12, 11, 10, 9, 8, 7, 6, 5, 28, 27, 15, 14, 4, 3, 2, 1, 0] (fun F => (70, .bool (((noneB e.w || decide (e.op = 1)) || decide (e.op = 12)) || decide (e.op = 13))) :: F) A (fun key7 => ?_) ?_
      · refine onBool A (dj := 66) rfl (fun h9 => ?_) (fun h9 => ?_)
        · have g9 := h9
          try simp only [decide_eq_true_eq, decide_eq_false_iff_not, Bool.not_eq_true', Bool.not_eq_false', ne_eq, Decidable.not_not, Int.not_lt, Int.not_le] at g9
          refine dskip hR (i := 41) (dj := 66) rfl (by kernel_rfl) (fun _ _ _ h => h) rfl rfl h9 A rfl hS ?_; clear A a hR; intro a A hR
          refine dskip hR (i := 42) (dj := 66) rfl (by kernel_rfl) (fun _ _ _ h => h) rfl rfl h9 A rfl hS ?_; clear A a hR; intro a A hR
          refine dskip hR (i := 43) (dj := 66) rfl (by kernel_rfl) (fun _ _ _ h => h) rfl rfl h9 A rfl hS ?_; clear A a hR; intro a A hR
          refine dstep hR (i := 44) rfl (by kernel_rfl) (fun _ _ _ h => h) (fun _ _ H' => (Runs.pickT A rfl h9 rfl)) A rfl hS ?_; clear A a hR; intro a A hR
          exact key7 _ (Fr.with1 (Fr.suf A rfl) A rfl (by first | rfl | (simp [*]; done))) hR
        · have g9 := h9
          try simp only [decide_eq_true_eq, decide_eq_false_iff_not, Bool.not_eq_true', Bool.not_eq_false', ne_eq, Decidable.not_not, Int.not_lt, Int.not_le] at g9
          refine dstepG hR (i := 41) (dj := 66) rfl (by kernel_rfl) (fun _ _ _ h => h) rfl rfl h9 (fun _ _ H' => (Runs.fa A rfl)) A rfl hS ?_; clear A a hR; intro a A hR
          refine dstepG hR (i := 42) (dj := 66) rfl (by kernel_rfl) (fun _ _ _ h => h) rfl rfl h9 (fun _ _ H' => (Runs.ld1 A H' rfl rfl)) A rfl hS ?_; clear A a hR; intro a A hR
          refine dstepG hR (i := 43) (dj := 66) rfl (by kernel_rfl) (fun _ _ _ h => h) rfl rfl h9 (fun _ _ H' => (Runs.eql A rfl rfl)) A rfl hS ?_; clear A a hR; intro a A hR
          refine dstep hR (i := 44) rfl (by kernel_rfl) (fun _ _ _ h => h) (fun _ _ H' => (Runs.pickF A rfl h9 rfl)) A rfl hS ?_; clear A a hR; intro a A hR
          exact key7 _ (Fr.with1 (Fr.suf A rfl) A rfl (by first | rfl | (simp [*]; done))) hR
      clear A hR; intro a A hR
      refine dlist hR (i := 45) rfl (by kernel_rfl) ?_
      have hR := hR.next (i := 45) (by kernel_rfl)
      refine step_slice A H rfl rfl rfl rfl rfl rfl ?_; intro bz a w A H
      refine wpList_nil ?_
      clear hS; refine and_keep (H.sw hL) fun hS => ?_
      refine dlist hR (i := 46) rfl (by kernel_rfl) ?_
      have hR := hR.next (i := 46) (by kernel_rfl)
      refine step_callPr A rfl rfl (c_syntax_printer_zero (bz := bz) (l := [((decide (e.name = ⟨#[]⟩) || decide (e.op = 14)) || decide (e.op = 15)), ((noneB e.k || decide (e.op = 1)) || decide (e.op = 12)), (((noneB e.w || decide (e.op = 1)) || decide (e.op = 12)) || decide (e.op = 13))]) (bcs := [.bool ((decide (e.name = ⟨#[]⟩) || decide (e.op = 14)) || decide (e.op = 15)), .bool ((noneB e.k || decide (e.op = 1)) || decide (e.op = 12)), .bool (((noneB e.w || decide (e.op = 1)) || decide (e.op = 12)) || decide (e.op = 13))]) rfl rfl (by simp)) H (by omega) ?_
      clear A a; rintro v4_46 a w m hm rfl A H
      simp only [List.cons_append, List.nil_append] at H
      have hM := hM.trans hm
      have G := G.mono hm
      have hA := hA.mono hm
      have H := H.pr_at (b := b) (y := andOk ((decide (e.name = ⟨#[]⟩) || isOp e [14, 15]) && ((noneB e.k || isOp e [1, 12]) && (noneB e.w || isOp e [1, 12, 13]))) x) (by simp [andOk, isOp, Bool.or_assoc])
      have hL := hL.trans hm
      refine wpList_nil ?_
      clear hS; refine and_keep (H.sw hL) fun hS => ?_
      refine draw_done hR (by kernel_rfl) ?_
      clear hS hL hR
      refine wp_seq ?_
      refine wp_region_lit ?_
      refine step (Runs.makeFunc A rfl) A rfl ?_; clear A a; intro a A
      refine step (Runs.assign A rfl) A rfl ?_; clear A a; intro a A
      refine wpList_nil ?_
      refine wp_seq ?_
      refine wp_region_lit ?_
      refine step (Runs.fa A rfl) A rfl ?_; clear A a; intro a A
      refine step (Runs.ld1 A H rfl rfl) A rfl ?_; clear A a; intro a A
      refine wpList_nil ?_
      refine wp_block ?_
      refine wp_seq ?_
      refine wp_region_lit ?_
      refine step (Runs.eql A rfl rfl) A rfl ?_; clear A a; intro a A
      refine step (Runs.assign A rfl) A rfl ?_; clear A a; intro a A
      refine wpList_nil ?_
      refine cond_split A rfl (fun h10 => ?_) (fun h10 => ?_)
      · have g10 := h10
        try simp only [decide_eq_true_eq, decide_eq_false_iff_not, Bool.not_eq_true', Bool.not_eq_false', ne_eq, Decidable.not_not, Int.not_lt, Int.not_le] at g10
        refine wp_seq ?_
        have hsz := szEx_eq e
        refine wp_region_lit ?_
        refine step (Runs.ld1 A H rfl rfl) A rfl ?_; clear A a; intro a A
        refine step (Runs.nilCheck A rfl) A rfl ?_; clear A a; intro a A
        refine step (Runs.fa A rfl) A rfl ?_; clear A a; intro a A
        refine step_callPr A rfl rfl (c_WriteString 1 (by decide)) H (by omega) ?_
        clear A a; rintro v11_3 a w m hm rfl A H
        simp only [List.cons_append, List.nil_append] at H
        have hM := hM.trans hm
        have G := G.mono hm
        have hA := hA.mono hm
        refine wpList_nil ?_
        refine wp_seq ?_
        refine wp_region_lit ?_
        refine step (Runs.ld1 A H rfl rfl) A rfl ?_; clear A a; intro a A
        refine step (Runs.fa A rfl) A rfl ?_; clear A a; intro a A
        refine step (Runs.ldN A H rfl rfl) A rfl ?_; clear A a; intro a A
        refine step_callPr A rfl rfl (c_syntax_printer_num (z := e.k) G hA.2.1) H (by omega) ?_
        clear A a; rintro v12_3 a w m hm rfl A H
        simp only [List.cons_append, List.nil_append] at H
        have hM := hM.trans hm
        have G := G.mono hm
        have hA := hA.mono hm
        refine wpList_nil ?_
        refine wp_seq ?_
        refine wp_region_lit ?_
        refine step (Runs.ld1 A H rfl rfl) A rfl ?_; clear A a; intro a A
        refine step (Runs.nilCheck A rfl) A rfl ?_; clear A a; intro a A
        refine step (Runs.fa A rfl) A rfl ?_; clear A a; intro a A
        refine step_callPr A rfl rfl (c_WriteString 3 (by decide)) H (by omega) ?_
        clear A a; rintro v13_3 a w m hm rfl A H
        simp only [List.cons_append, List.nil_append] at H
        have hM := hM.trans hm
        have G := G.mono hm
        have hA := hA.mono hm
        refine wpList_nil ?_
        refine wp_seq ?_
        refine wp_region_lit ?_
        refine step (Runs.ld1 A H rfl rfl) A rfl ?_; clear A a; intro a A
        refine step (Runs.fa A rfl) A rfl ?_; clear A a; intro a A
        refine step (Runs.ldN A H rfl rfl) A rfl ?_; clear A a; intro a A
        refine step_callPr A rfl rfl (c_syntax_printer_num (z := e.w) G hA.2.2.1) H (by omega) ?_
        clear A a; rintro v14_3 a w m hm rfl A H
        simp only [List.cons_append, List.nil_append] at H
        have hM := hM.trans hm
        have G := G.mono hm
        have hA := hA.mono hm
        refine wpList_nil ?_
        refine wp_region_lit ?_
        refine step (Runs.ld1 A H rfl rfl) A rfl ?_; clear A a; intro a A
        refine step (Runs.nilCheck A rfl) A rfl ?_; clear A a; intro a A
        refine step (Runs.fa A rfl) A rfl ?_; clear A a; intro a A
        refine step_callPr A rfl rfl (c_WriteString 1 (by decide)) H (by omega) ?_
        clear A a; rintro v15_3 a w m hm rfl A H
        simp only [List.cons_append, List.nil_append] at H
        have hM := hM.trans hm
        have G := G.mono hm
        have hA := hA.mono hm
        refine wpList_nil ?_
        exact endPr A rfl hM H rfl (by rw [exprP, if_neg (by rw [Decidable.not_not]; exact hlen2), if_neg (by rw [hok]; decide)]; simp [*]) (by omega)
      · have g10 := h10
        try simp only [decide_eq_true_eq, decide_eq_false_iff_not, Bool.not_eq_true', Bool.not_eq_false', ne_eq, Decidable.not_not, Int.not_lt, Int.not_le] at g10
        refine wp_seq ?_
        refine wp_region_lit ?_
        refine step (Runs.eql A rfl rfl) A rfl ?_; clear A a; intro a A
        refine step (Runs.assign A rfl) A rfl ?_; clear A a; intro a A
        refine wpList_nil ?_
        refine cond_split A rfl (fun h11 => ?_) (fun h11 => ?_)
        · have g11 := h11
          try simp only [decide_eq_true_eq, decide_eq_false_iff_not, Bool.not_eq_true', Bool.not_eq_false', ne_eq, Decidable.not_not, Int.not_lt, Int.not_le] at g11
          have hsz := szEx_eq e
          refine wp_region_lit ?_
          refine step (Runs.ld1 A H rfl rfl) A rfl ?_; clear A a; intro a A
          refine step (Runs.fa A rfl) A rfl ?_; clear A a; intro a A
          refine step (Runs.ld1 A H rfl rfl) A rfl ?_; clear A a; intro a A
          refine step_callPr A rfl rfl (c_syntax_printer_name G (by omega)) H (by omega) ?_
          clear A a; rintro v17_3 a w m hm rfl A H
          simp only [List.cons_append, List.nil_append] at H
          have hM := hM.trans hm
          have G := G.mono hm
          have hA := hA.mono hm
          refine wpList_nil ?_
          exact endPr A rfl hM H rfl (by rw [exprP, if_neg (by rw [Decidable.not_not]; exact hlen2), if_neg (by rw [hok]; decide)]; simp [*]) (by omega)
        · have g11 := h11
          try simp only [decide_eq_true_eq, decide_eq_false_iff_not, Bool.not_eq_true', Bool.not_eq_false', ne_eq, Decidable.not_not, Int.not_lt, Int.not_le] at g11
          refine wp_seq ?_
          refine wp_region_lit ?_
          refine step (Runs.eql A rfl rfl) A rfl ?_; clear A a; intro a A
          refine step (Runs.assign A rfl) A rfl ?_; clear A a; intro a A
          refine wpList_nil ?_
          refine cond_split A rfl (fun h12 => ?_) (fun h12 => ?_)
          · have g12 := h12
            try simp only [decide_eq_true_eq, decide_eq_false_iff_not, Bool.not_eq_true', Bool.not_eq_false', ne_eq, Decidable.not_not, Int.not_lt, Int.not_le] at g12
            refine wp_seq ?_
            have har : e.args.length = 1 := by
              have h := hlen2
              rw [show arityP e.op = 1 by simp [arityP, *]] at h
              omega
            obtain ⟨q0, hargs⟩ := list1 har
            have hsz := szEx_eq e
            rw [hargs] at hsz
            simp only [szExs] at hsz
            refine wp_region_lit ?_
            refine step (Runs.ld1 A H rfl rfl) A rfl ?_; clear A a; intro a A
            refine step (Runs.fa A rfl) A rfl ?_; clear A a; intro a A
            refine step (Runs.ld1 A H rfl rfl) A rfl ?_; clear A a; intro a A
            refine step_callPr A rfl rfl (c_syntax_printer_name G (by omega)) H (by omega) ?_
            clear A a; rintro v19_3 a w m hm rfl A H
            simp only [List.cons_append, List.nil_append] at H
            have hM := hM.trans hm
            have G := G.mono hm
            have hA := hA.mono hm
            refine wpList_nil ?_
            refine wp_seq ?_
            refine wp_region_lit ?_
            refine step (Runs.move A rfl) A rfl ?_; clear A a; intro a A
            refine step_cloPr (cap := [.pointer (some ⟨b2, 0, none⟩), .pointer (some ⟨b3, 0, none⟩), .pointer (some ⟨b4, 0, none⟩)]) A rfl rfl rfl (c_expr_1 (ks := 4) (b := b) (b2 := b2) (b3 := b3) (b4 := b4) (i := 0) (q := q0) rfl ih G hA (by rw [hargs]; rfl) (by omega) (by decide)) H (by omega) ?_
            clear A a; rintro v20_1 a w m hm rfl A H
            simp only [List.cons_append, List.nil_append] at H
            have hM := hM.trans hm
            have G := G.mono hm
            have hA := hA.mono hm
            refine wpList_nil ?_
            refine wp_region_lit ?_
            refine step (Runs.ld1 A H rfl rfl) A rfl ?_; clear A a; intro a A
            refine step (Runs.nilCheck A rfl) A rfl ?_; clear A a; intro a A
            refine step (Runs.fa A rfl) A rfl ?_; clear A a; intro a A
            refine step_callPr A rfl rfl (c_WriteString 1 (by decide)) H (by omega) ?_
            clear A a; rintro v21_3 a w m hm rfl A H
            simp only [List.cons_append, List.nil_append] at H
            have hM := hM.trans hm
            have G := G.mono hm
            have hA := hA.mono hm
            refine wpList_nil ?_
            exact endPr A rfl hM H rfl (by rw [exprP, if_neg (by rw [Decidable.not_not]; exact hlen2), if_neg (by rw [hok]; decide)]; simp [*]) (by omega)
          · have g12 := h12
            try simp only [decide_eq_true_eq, decide_eq_false_iff_not, Bool.not_eq_true', Bool.not_eq_false', ne_eq, Decidable.not_not, Int.not_lt, Int.not_le] at g12
            refine wp_seq ?_
            refine wp_region_lit ?_
            refine step (Runs.eql A rfl rfl) A rfl ?_; clear A a; intro a A
            refine step (Runs.assign A rfl) A rfl ?_; clear A a; intro a A
            refine wpList_nil ?_
            refine cond_split A rfl (fun h13 => ?_) (fun h13 => ?_)
            · have g13 := h13
              try simp only [decide_eq_true_eq, decide_eq_false_iff_not, Bool.not_eq_true', Bool.not_eq_false', ne_eq, Decidable.not_not, Int.not_lt, Int.not_le] at g13
              have har : e.args.length = 1 := by
                have h := hlen2
                rw [show arityP e.op = 1 by simp [arityP, *]] at h
                omega
              obtain ⟨q0, hargs⟩ := list1 har
              have hsz := szEx_eq e
              rw [hargs] at hsz
              simp only [szExs] at hsz
              refine wp_region_lit ?_
              refine step (Runs.move A rfl) A rfl ?_; clear A a; intro a A
              refine step_cloPr (cap := [.pointer (some ⟨b2, 0, none⟩), .pointer (some ⟨b3, 0, none⟩), .pointer (some ⟨b4, 0, none⟩)]) A rfl rfl rfl (c_expr_1 (ks := 4) (b := b) (b2 := b2) (b3 := b3) (b4 := b4) (i := 0) (q := q0) rfl ih G hA (by rw [hargs]; rfl) (by omega) (by decide)) H (by omega) ?_
              clear A a; rintro v23_1 a w m hm rfl A H
              simp only [List.cons_append, List.nil_append] at H
              have hM := hM.trans hm
              have G := G.mono hm
              have hA := hA.mono hm
              refine wpList_nil ?_
              exact endPr A rfl hM H rfl (by rw [exprP, if_neg (by rw [Decidable.not_not]; exact hlen2), if_neg (by rw [hok]; decide)]; simp [*]) (by omega)
            · have g13 := h13
              try simp only [decide_eq_true_eq, decide_eq_false_iff_not, Bool.not_eq_true', Bool.not_eq_false', ne_eq, Decidable.not_not, Int.not_lt, Int.not_le] at g13
              refine wp_seq ?_
              refine wp_region_lit ?_
              refine step (Runs.eql A rfl rfl) A rfl ?_; clear A a; intro a A
              refine step (Runs.assign A rfl) A rfl ?_; clear A a; intro a A
              refine wpList_nil ?_
              refine cond_split A rfl (fun h14 => ?_) (fun h14 => ?_)
              · have g14 := h14
                try simp only [decide_eq_true_eq, decide_eq_false_iff_not, Bool.not_eq_true', Bool.not_eq_false', ne_eq, Decidable.not_not, Int.not_lt, Int.not_le] at g14
                refine wp_seq ?_
                have har : e.args.length = 3 := by
                  have h := hlen2
                  rw [show arityP e.op = 3 by simp [arityP, *]] at h
                  omega
                obtain ⟨q0, q1, q2, hargs⟩ := list3 har
                have hsz := szEx_eq e
                rw [hargs] at hsz
                simp only [szExs] at hsz
                refine wp_region_lit ?_
                refine step (Runs.move A rfl) A rfl ?_; clear A a; intro a A
                refine step_cloPr (cap := [.pointer (some ⟨b2, 0, none⟩), .pointer (some ⟨b3, 0, none⟩), .pointer (some ⟨b4, 0, none⟩)]) A rfl rfl rfl (c_expr_1 (ks := 4) (b := b) (b2 := b2) (b3 := b3) (b4 := b4) (i := 0) (q := q0) rfl ih G hA (by rw [hargs]; rfl) (by omega) (by decide)) H (by omega) ?_
                clear A a; rintro v25_1 a w m hm rfl A H
                simp only [List.cons_append, List.nil_append] at H
                have hM := hM.trans hm
                have G := G.mono hm
                have hA := hA.mono hm
                refine wpList_nil ?_
                refine wp_seq ?_
                refine wp_region_lit ?_
                refine step (Runs.move A rfl) A rfl ?_; clear A a; intro a A
                refine step_cloPr (cap := [.pointer (some ⟨b2, 0, none⟩), .pointer (some ⟨b3, 0, none⟩), .pointer (some ⟨b4, 0, none⟩)]) A rfl rfl rfl (c_expr_1 (ks := 4) (b := b) (b2 := b2) (b3 := b3) (b4 := b4) (i := 1) (q := q1) rfl ih G hA (by rw [hargs]; rfl) (by omega) (by decide)) H (by omega) ?_
                clear A a; rintro v26_1 a w m hm rfl A H
                simp only [List.cons_append, List.nil_append] at H
                have hM := hM.trans hm
                have G := G.mono hm
                have hA := hA.mono hm
                refine wpList_nil ?_
                refine wp_seq ?_
                refine wp_region_lit ?_
                refine step (Runs.move A rfl) A rfl ?_; clear A a; intro a A
                refine step_cloPr (cap := [.pointer (some ⟨b2, 0, none⟩), .pointer (some ⟨b3, 0, none⟩), .pointer (some ⟨b4, 0, none⟩)]) A rfl rfl rfl (c_expr_1 (ks := 4) (b := b) (b2 := b2) (b3 := b3) (b4 := b4) (i := 2) (q := q2) rfl ih G hA (by rw [hargs]; rfl) (by omega) (by decide)) H (by omega) ?_
                clear A a; rintro v27_1 a w m hm rfl A H
                simp only [List.cons_append, List.nil_append] at H
                have hM := hM.trans hm
                have G := G.mono hm
                have hA := hA.mono hm
                refine wpList_nil ?_
                refine wp_region_lit ?_
                refine step (Runs.ld1 A H rfl rfl) A rfl ?_; clear A a; intro a A
                refine step (Runs.nilCheck A rfl) A rfl ?_; clear A a; intro a A
                refine step (Runs.fa A rfl) A rfl ?_; clear A a; intro a A
                refine step_callPr A rfl rfl (c_WriteString 1 (by decide)) H (by omega) ?_
                clear A a; rintro v28_3 a w m hm rfl A H
                simp only [List.cons_append, List.nil_append] at H
                have hM := hM.trans hm
                have G := G.mono hm
                have hA := hA.mono hm
                refine wpList_nil ?_
                exact endPr A rfl hM H rfl (by rw [exprP, if_neg (by rw [Decidable.not_not]; exact hlen2), if_neg (by rw [hok]; decide)]; simp [*]) (by omega)
              · have g14 := h14
                try simp only [decide_eq_true_eq, decide_eq_false_iff_not, Bool.not_eq_true', Bool.not_eq_false', ne_eq, Decidable.not_not, Int.not_lt, Int.not_le] at g14
                refine wp_seq ?_
                refine wp_seq ?_
                refine wp_region_lit ?_
                refine step (Runs.eql A rfl rfl) A rfl ?_; clear A a; intro a A
                refine step (Runs.assign A rfl) A rfl ?_; clear A a; intro a A
                refine wpList_nil ?_
                refine cond_split A rfl (fun h15 => ?_) (fun h15 => ?_)
                · have g15 := h15
                  try simp only [decide_eq_true_eq, decide_eq_false_iff_not, Bool.not_eq_true', Bool.not_eq_false', ne_eq, Decidable.not_not, Int.not_lt, Int.not_le] at g15
                  refine wp_skip ?_
                  refine cond_true A rfl h15 ?_
                  refine wp_seq ?_
                  have har : e.args.length = 1 := by
                    have h := hlen2
                    rw [show arityP e.op = 1 by simp [arityP, *]] at h
                    omega
                  obtain ⟨q0, hargs⟩ := list1 har
                  have hsz := szEx_eq e
                  rw [hargs] at hsz
                  simp only [szExs] at hsz
                  refine wp_region_lit ?_
                  refine step (Runs.move A rfl) A rfl ?_; clear A a; intro a A
                  refine step_cloPr (cap := [.pointer (some ⟨b2, 0, none⟩), .pointer (some ⟨b3, 0, none⟩), .pointer (some ⟨b4, 0, none⟩)]) A rfl rfl rfl (c_expr_1 (ks := 4) (b := b) (b2 := b2) (b3 := b3) (b4 := b4) (i := 0) (q := q0) rfl ih G hA (by rw [hargs]; rfl) (by omega) (by decide)) H (by omega) ?_
                  clear A a; rintro v31_1 a w m hm rfl A H
                  simp only [List.cons_append, List.nil_append] at H
                  have hM := hM.trans hm
                  have G := G.mono hm
                  have hA := hA.mono hm
                  refine wpList_nil ?_
                  refine wp_seq ?_
                  refine wp_seq ?_
                  refine wp_region_lit ?_
                  refine step (Runs.fa A rfl) A rfl ?_; clear A a; intro a A
                  refine step (Runs.ld1 A H rfl rfl) A rfl ?_; clear A a; intro a A
                  refine step (Runs.eql A rfl rfl) A rfl ?_; clear A a; intro a A
                  refine wpList_nil ?_
                  refine cond_true A rfl (decide_eq_true (by assumption)) ?_
                  refine wp_seq ?_
                  refine wp_region_lit ?_
                  refine step (Runs.ld1 A H rfl rfl) A rfl ?_; clear A a; intro a A
                  refine step (Runs.nilCheck A rfl) A rfl ?_; clear A a; intro a A
                  refine step (Runs.fa A rfl) A rfl ?_; clear A a; intro a A
                  refine step_callPr A rfl rfl (c_WriteString 3 (by decide)) H (by omega) ?_
                  clear A a; rintro v33_3 a w m hm rfl A H
                  simp only [List.cons_append, List.nil_append] at H
                  have hM := hM.trans hm
                  have G := G.mono hm
                  have hA := hA.mono hm
                  refine wpList_nil ?_
                  refine wp_region_lit ?_
                  refine step (Runs.ld1 A H rfl rfl) A rfl ?_; clear A a; intro a A
                  refine step (Runs.fa A rfl) A rfl ?_; clear A a; intro a A
                  refine step (Runs.ldN A H rfl rfl) A rfl ?_; clear A a; intro a A
                  refine step_callPr A rfl rfl (c_syntax_printer_num (z := e.k) G hA.2.1) H (by omega) ?_
                  clear A a; rintro v34_3 a w m hm rfl A H
                  simp only [List.cons_append, List.nil_append] at H
                  have hM := hM.trans hm
                  have G := G.mono hm
                  have hA := hA.mono hm
                  refine wpList_nil ?_
                  refine wp_seq ?_
                  refine wp_region_lit ?_
                  refine step (Runs.ld1 A H rfl rfl) A rfl ?_; clear A a; intro a A
                  refine step (Runs.nilCheck A rfl) A rfl ?_; clear A a; intro a A
                  refine step (Runs.fa A rfl) A rfl ?_; clear A a; intro a A
                  refine step_callPr A rfl rfl (c_WriteString 3 (by decide)) H (by omega) ?_
                  clear A a; rintro v35_3 a w m hm rfl A H
                  simp only [List.cons_append, List.nil_append] at H
                  have hM := hM.trans hm
                  have G := G.mono hm
                  have hA := hA.mono hm
                  refine wpList_nil ?_
                  refine wp_seq ?_
                  refine wp_region_lit ?_
                  refine step (Runs.ld1 A H rfl rfl) A rfl ?_; clear A a; intro a A
                  refine step (Runs.fa A rfl) A rfl ?_; clear A a; intro a A
                  refine step (Runs.ldN A H rfl rfl) A rfl ?_; clear A a; intro a A
                  refine step_callPr A rfl rfl (c_syntax_printer_num (z := e.w) G hA.2.2.1) H (by omega) ?_
                  clear A a; rintro v36_3 a w m hm rfl A H
                  simp only [List.cons_append, List.nil_append] at H
                  have hM := hM.trans hm
                  have G := G.mono hm
                  have hA := hA.mono hm
                  refine wpList_nil ?_
                  refine wp_region_lit ?_
                  refine step (Runs.ld1 A H rfl rfl) A rfl ?_; clear A a; intro a A
                  refine step (Runs.nilCheck A rfl) A rfl ?_; clear A a; intro a A
                  refine step (Runs.fa A rfl) A rfl ?_; clear A a; intro a A
                  refine step_callPr A rfl rfl (c_WriteString 1 (by decide)) H (by omega) ?_
                  clear A a; rintro v37_3 a w m hm rfl A H
                  simp only [List.cons_append, List.nil_append] at H
                  have hM := hM.trans hm
                  have G := G.mono hm
                  have hA := hA.mono hm
                  refine wpList_nil ?_
                  exact endPr A rfl hM H rfl (by rw [exprP, if_neg (by rw [Decidable.not_not]; exact hlen2), if_neg (by rw [hok]; decide)]; simp [*]) (by omega)
                · have g15 := h15
                  try simp only [decide_eq_true_eq, decide_eq_false_iff_not, Bool.not_eq_true', Bool.not_eq_false', ne_eq, Decidable.not_not, Int.not_lt, Int.not_le] at g15
                  refine wp_region_lit ?_
                  refine step (Runs.eql A rfl rfl) A rfl ?_; clear A a; intro a A
                  refine step (Runs.assign A rfl) A rfl ?_; clear A a; intro a A
                  refine wpList_nil ?_
                  refine cond_split A rfl (fun h16 => ?_) (fun h16 => ?_)
                  · have g16 := h16
                    try simp only [decide_eq_true_eq, decide_eq_false_iff_not, Bool.not_eq_true', Bool.not_eq_false', ne_eq, Decidable.not_not, Int.not_lt, Int.not_le] at g16
                    refine wp_seq ?_
                    have har : e.args.length = 1 := by
                      have h := hlen2
                      rw [show arityP e.op = 1 by simp [arityP, *]] at h
                      omega
                    obtain ⟨q0, hargs⟩ := list1 har
                    have hsz := szEx_eq e
                    rw [hargs] at hsz
                    simp only [szExs] at hsz
                    refine wp_region_lit ?_
                    refine step (Runs.move A rfl) A rfl ?_; clear A a; intro a A
                    refine step_cloPr (cap := [.pointer (some ⟨b2, 0, none⟩), .pointer (some ⟨b3, 0, none⟩), .pointer (some ⟨b4, 0, none⟩)]) A rfl rfl rfl (c_expr_1 (ks := 4) (b := b) (b2 := b2) (b3 := b3) (b4 := b4) (i := 0) (q := q0) rfl ih G hA (by rw [hargs]; rfl) (by omega) (by decide)) H (by omega) ?_
                    clear A a; rintro v31_1 a w m hm rfl A H
                    simp only [List.cons_append, List.nil_append] at H
                    have hM := hM.trans hm
                    have G := G.mono hm
                    have hA := hA.mono hm
                    refine wpList_nil ?_
                    refine wp_seq ?_
                    refine wp_seq ?_
                    refine wp_region_lit ?_
                    refine step (Runs.fa A rfl) A rfl ?_; clear A a; intro a A
                    refine step (Runs.ld1 A H rfl rfl) A rfl ?_; clear A a; intro a A
                    refine step (Runs.eql A rfl rfl) A rfl ?_; clear A a; intro a A
                    refine wpList_nil ?_
                    refine cond_false A rfl (decide_eq_false (by assumption)) ?_
                    refine wp_skip ?_
                    refine wp_seq ?_
                    refine wp_region_lit ?_
                    refine step (Runs.ld1 A H rfl rfl) A rfl ?_; clear A a; intro a A
                    refine step (Runs.nilCheck A rfl) A rfl ?_; clear A a; intro a A
                    refine step (Runs.fa A rfl) A rfl ?_; clear A a; intro a A
                    refine step_callPr A rfl rfl (c_WriteString 3 (by decide)) H (by omega) ?_
                    clear A a; rintro v35_3 a w m hm rfl A H
                    simp only [List.cons_append, List.nil_append] at H
                    have hM := hM.trans hm
                    have G := G.mono hm
                    have hA := hA.mono hm
                    refine wpList_nil ?_
                    refine wp_seq ?_
                    refine wp_region_lit ?_
                    refine step (Runs.ld1 A H rfl rfl) A rfl ?_; clear A a; intro a A
                    refine step (Runs.fa A rfl) A rfl ?_; clear A a; intro a A
                    refine step (Runs.ldN A H rfl rfl) A rfl ?_; clear A a; intro a A
                    refine step_callPr A rfl rfl (c_syntax_printer_num (z := e.w) G hA.2.2.1) H (by omega) ?_
                    clear A a; rintro v36_3 a w m hm rfl A H
                    simp only [List.cons_append, List.nil_append] at H
                    have hM := hM.trans hm
                    have G := G.mono hm
                    have hA := hA.mono hm
                    refine wpList_nil ?_
                    refine wp_region_lit ?_
                    refine step (Runs.ld1 A H rfl rfl) A rfl ?_; clear A a; intro a A
                    refine step (Runs.nilCheck A rfl) A rfl ?_; clear A a; intro a A
                    refine step (Runs.fa A rfl) A rfl ?_; clear A a; intro a A
                    refine step_callPr A rfl rfl (c_WriteString 1 (by decide)) H (by omega) ?_
                    clear A a; rintro v37_3 a w m hm rfl A H
                    simp only [List.cons_append, List.nil_append] at H
                    have hM := hM.trans hm
                    have G := G.mono hm
                    have hA := hA.mono hm
                    refine wpList_nil ?_
                    exact endPr A rfl hM H rfl (by rw [exprP, if_neg (by rw [Decidable.not_not]; exact hlen2), if_neg (by rw [hok]; decide)]; simp [*]) (by omega)
                  · have g16 := h16
                    try simp only [decide_eq_true_eq, decide_eq_false_iff_not, Bool.not_eq_true', Bool.not_eq_false', ne_eq, Decidable.not_not, Int.not_lt, Int.not_le] at g16
                    refine wp_seq ?_
                    have har : e.args.length = 2 := arity_bin hlen2 (by assumption) (by assumption) (by assumption) (by assumption) (by assumption) (by assumption) (by assumption)
                    obtain ⟨q0, q1, hargs⟩ := list2 har
                    have hsz := szEx_eq e
                    rw [hargs] at hsz
                    simp only [szExs] at hsz
                    refine wp_region_lit ?_
                    refine step (Runs.move A rfl) A rfl ?_; clear A a; intro a A
                    refine step_cloPr (cap := [.pointer (some ⟨b2, 0, none⟩), .pointer (some ⟨b3, 0, none⟩), .pointer (some ⟨b4, 0, none⟩)]) A rfl rfl rfl (c_expr_1 (ks := 4) (b := b) (b2 := b2) (b3 := b3) (b4 := b4) (i := 0) (q := q0) rfl ih G hA (by rw [hargs]; rfl) (by omega) (by decide)) H (by omega) ?_
                    clear A a; rintro v7_1 a w m hm rfl A H
                    simp only [List.cons_append, List.nil_append] at H
                    have hM := hM.trans hm
                    have G := G.mono hm
                    have hA := hA.mono hm
                    refine wpList_nil ?_
                    refine wp_seq ?_
                    refine wp_region_lit ?_
                    refine step (Runs.move A rfl) A rfl ?_; clear A a; intro a A
                    refine step (Runs.fa A rfl) A rfl ?_; clear A a; intro a A
                    refine step (Runs.ld1 A H rfl rfl) A rfl ?_; clear A a; intro a A
                    refine step_callF A rfl rfl (c_syntax_sign G) H ?_
                    rintro v8_3 a w m hm rfl A H
                    have hM := hM.trans hm
                    have G := G.mono hm
                    have hA := hA.mono hm
                    refine step (Runs.sadd A rfl rfl (by have := signP_size e.op; change 1 + _ ≤ _; omega)) A rfl ?_; clear A a; intro a A
                    refine step (Runs.sadd A rfl rfl (by have := signP_size e.op; rw [ByteArray.size_append]; change 1 + _ + 1 ≤ _; omega)) A rfl ?_; clear A a; intro a A
                    refine step_cloPr (cap := [.pointer (some ⟨b2, 0, none⟩), .pointer (some ⟨b3, 0, none⟩), .pointer (some ⟨b4, 0, none⟩)]) A rfl rfl rfl (c_expr_1 (ks := 4) (b := b) (b2 := b2) (b3 := b3) (b4 := b4) (i := 1) (q := q1) rfl ih G hA (by rw [hargs]; rfl) (by omega) (by have := signP_size e.op; rw [ByteArray.size_append, ByteArray.size_append]; change 1 + _ + 1 ≤ _; omega)) H (by omega) ?_
                    clear A a; rintro v8_6 a w m hm rfl A H
                    simp only [List.cons_append, List.nil_append] at H
                    have hM := hM.trans hm
                    have G := G.mono hm
                    have hA := hA.mono hm
                    refine wpList_nil ?_
                    refine wp_region_lit ?_
                    refine step (Runs.ld1 A H rfl rfl) A rfl ?_; clear A a; intro a A
                    refine step (Runs.nilCheck A rfl) A rfl ?_; clear A a; intro a A
                    refine step (Runs.fa A rfl) A rfl ?_; clear A a; intro a A
                    refine step_callPr A rfl rfl (c_WriteString 1 (by decide)) H (by omega) ?_
                    clear A a; rintro v9_3 a w m hm rfl A H
                    simp only [List.cons_append, List.nil_append] at H
                    have hM := hM.trans hm
                    have G := G.mono hm
                    have hA := hA.mono hm
                    refine wpList_nil ?_
                    exact endPr A rfl hM H rfl (by rw [exprP, if_neg (by rw [Decidable.not_not]; exact hlen2), if_neg (by rw [hok]; decide)]; simp [*]) (by omega)

theorem exSpec : ∀ d : Nat, d ≤ 100 → ExSpec d
  | 0, _ => fun G hA => c_expr_zero G hA
  | d + 1, h => fun G hA => c_expr_succ (by omega) (exSpec d (by omega)) G hA
end Sl
end Go.Proofs.YtanhehbfbakdcaaGreatDoor
