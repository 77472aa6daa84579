/- Stores: Union: walks, printed by my gen.py out of annotations. -/
import Derived.Test.YtanhehbfbakdcaaGreatDoorObjP
set_option linter.unusedSimpArgs false
set_option linter.unusedVariables false
namespace Go.Proofs.YtanhehbfbakdcaaGreatDoor
namespace Sl
open Go

def pkP (x y : Obj) : Obj := if (!sndP x && sndP y) = true then y else x
def mergeP : List Obj → List Obj → List Obj
  | [], b => b
  | x :: a, [] => x :: a
  | x :: a, y :: b => if x.id < y.id then x :: mergeP a (y :: b) else if y.id < x.id then y :: mergeP (x :: a) b else pkP x y :: mergeP a b
termination_by a b => a.length + b.length
theorem mergeP_nil (a : List Obj) : mergeP a [] = a := by cases a <;> simp [mergeP]
theorem mergeP_nil' (b : List Obj) : mergeP [] b = b := by simp [mergeP]
theorem cons_of {l : List Obj} {x : Obj} (h : l[0]? = some x) : l = x :: l.drop 1 := by cases l with
  | nil => simp at h
  | cons y r => have : y = x := by simpa using h
                subst this; rfl
theorem mergeP_lt {a b : List Obj} {x y : Obj} (hx : a[0]? = some x) (hy : b[0]? = some y) (h : x.id < y.id) : mergeP a b = x :: mergeP (a.drop 1) b := by
  rw [cons_of hx, cons_of hy]; simp [mergeP, h]
theorem mergeP_gt {a b : List Obj} {x y : Obj} (hx : a[0]? = some x) (hy : b[0]? = some y) (h1 : ¬ x.id < y.id) (h : y.id < x.id) : mergeP a b = y :: mergeP a (b.drop 1) := by
  rw [cons_of hx, cons_of hy]; simp [mergeP, h, h1]
theorem mergeP_eq {a b : List Obj} {x y : Obj} (hx : a[0]? = some x) (hy : b[0]? = some y) (h1 : ¬ x.id < y.id) (h : ¬ y.id < x.id) : mergeP a b = pkP x y :: mergeP (a.drop 1) (b.drop 1) := by
  rw [cons_of hx, cons_of hy]; simp [mergeP, h, h1]
theorem cmpP_neg {a b : UInt64} (h : cmpP a b = -1) : a < b := (cmpP_lt a b).1 (by omega)
theorem cmpP_pos {a b : UInt64} (h : cmpP a b = 1) : ¬ a < b ∧ b < a := by
  unfold cmpP at h; split at h
  · omega
  · rename_i h1; split at h
    · rename_i h2; exact ⟨h1, h2⟩
    · omega
theorem cmpP_els {a b : UInt64} (h : cmpP a b ≠ -1) (h' : cmpP a b ≠ 1) : ¬ a < b ∧ ¬ b < a := by
  unfold cmpP at h h'; split at h
  · exact absurd rfl h
  · rename_i h1; rw [if_neg h1] at h'; split at h'
    · exact absurd rfl h'
    · rename_i h2; exact ⟨h1, h2⟩

theorem c_objects_Union_1 {i : UInt64} {ad : Option Addr} {n c : Nat} {m : Mem} : Spec Tryz.prog 51 #[.agg #[u64 i, .slice ad n c]] m [] (RetE (u64 i)) := by
  refine Spec.enter0 Tryz.func51 rfl 5 Tryz.ntmps51 rfl fun a w0 Lf A H => ?_
  have hM := Le.refl m
  refine wp_seq ?_
  refine wp_region_lit ?_
  refine step_box A H rfl (by simp only [Value.cells, List.toList_toArray]; rfl) rfl ?_; intro b1 a w A H
  refine step (Runs.assign A rfl) A rfl ?_; clear A a; intro a A
  refine wpList_nil ?_
  refine wp_seq ?_
  refine wp_region_lit ?_
  refine step (Runs.fa A rfl) A rfl ?_; clear A a; intro a A
  refine step (Runs.ld1 A H rfl rfl) A rfl ?_; clear A a; intro a A
  refine step (Runs.assign A rfl) A rfl ?_; clear A a; intro a A
  refine wpList_nil ?_
  refine wp_ret ?_
  exact retF A rfl rfl hM H rfl

theorem c_objects_Union_2 {x y : Obj} {ad ad2 : Option Addr} {n c n2 c2 : Nat} {m : Mem} (hx : Dat m (.slice ad n c) x.data) (hy : Dat m (.slice ad2 n2 c2) y.data) : Spec Tryz.prog 52 #[.agg #[u64 x.id, .slice ad n c], .agg #[u64 y.id, .slice ad2 n2 c2]] m [] (RetF fun m' v => ∃ ad3 n3 c3, v = .agg #[u64 (pkP x y).id, .slice ad3 n3 c3] ∧ Dat m' (.slice ad3 n3 c3) (pkP x y).data) := by
  refine Spec.enter0 Tryz.func52 rfl 14 Tryz.ntmps52 rfl fun a w0 Lf A H => ?_
  have hM := Le.refl m
  refine wp_seq ?_
  refine wp_region_lit ?_
  refine step_box A H rfl (by simp only [Value.cells, List.toList_toArray]; rfl) rfl ?_; intro b1 a w A H
  refine step_box A H rfl (by simp only [Value.cells, List.toList_toArray]; rfl) rfl ?_; intro b2 a w A H
  refine step_alloc A H rfl ?_; clear A a; intro b3 a w A H
  refine wpList_nil ?_
  refine wp_seq ?_
  refine wp_seq ?_
  refine wp_region_lit ?_
  refine step (Runs.ldN A H rfl rfl) A rfl ?_; clear A a; intro a A
  refine step_callF A rfl rfl (c_objects_sound hx) H ?_
  rintro v1_1 a w m hm rfl A H
  have hM := hM.trans hm
  have hx := hx.mono hm
  have hy := hy.mono hm
  refine step (Runs.not A rfl) A rfl ?_; clear A a; intro a A
  refine step (Runs.move A rfl) A rfl ?_; clear A a; intro a A
  refine onBool A (dj := 8) rfl (fun h1 => ?_) (fun h1 => ?_)
  · have g1 := h1
    try simp only [decide_eq_true_eq, decide_eq_false_iff_not, Bool.not_eq_true', Bool.not_eq_false', ne_eq, Decidable.not_not, Int.not_lt, Int.not_le] at g1
    refine stepG (dj := 8) rfl rfl h1 (Runs.ldN A H rfl rfl) A rfl ?_; clear A a; intro a A
    refine step_callFG (dj := 8) rfl rfl h1 A rfl rfl (c_objects_sound hy) H ?_
    rintro v1_5 a w m hm rfl A H
    have hM := hM.trans hm
    have hx := hx.mono hm
    have hy := hy.mono hm
    refine step (Runs.pickT A rfl h1 rfl) A rfl ?_; clear A a; intro a A
    refine wpList_nil ?_
    refine cond_split A rfl (fun h2 => ?_) (fun h2 => ?_)
    · have g2 := h2
      try simp only [decide_eq_true_eq, decide_eq_false_iff_not, Bool.not_eq_true', Bool.not_eq_false', ne_eq, Decidable.not_not, Int.not_lt, Int.not_le] at g2
      refine wp_seq ?_
      refine wp_region_lit ?_
      refine step (Runs.ldN A H rfl rfl) A rfl ?_; clear A a; intro a A
      refine step_store A H rfl rfl rfl rfl rfl rfl ?_; intro w H
      refine wpList_nil ?_
      refine wp_ret ?_
      have e : pkP x y = y := by
        have q1 : sndP x = false := by simpa [sndP] using h1
        have q2 : sndP y = true := by simpa [sndP] using h2
        simp [pkP, q1, q2]
      exact retFc A rfl rfl hM H rfl (by rw [e]; exact ⟨_, _, _, rfl, hy⟩)
    · have g2 := h2
      try simp only [decide_eq_true_eq, decide_eq_false_iff_not, Bool.not_eq_true', Bool.not_eq_false', ne_eq, Decidable.not_not, Int.not_lt, Int.not_le] at g2
      refine wp_skip ?_
      refine wp_seq ?_
      refine wp_region_lit ?_
      refine step (Runs.ldN A H rfl rfl) A rfl ?_; clear A a; intro a A
      refine step_store A H rfl rfl rfl rfl rfl rfl ?_; intro w H
      refine wpList_nil ?_
      refine wp_ret ?_
      have e : pkP x y = x := by
        have q2 : sndP y = false := by simpa [sndP] using h2
        simp [pkP, q2]
      exact retFc A rfl rfl hM H rfl (by rw [e]; exact ⟨_, _, _, rfl, hx⟩)
  · have g1 := h1
    try simp only [decide_eq_true_eq, decide_eq_false_iff_not, Bool.not_eq_true', Bool.not_eq_false', ne_eq, Decidable.not_not, Int.not_lt, Int.not_le] at g1
    refine stepSkip (dj := 8) rfl rfl h1 A rfl ?_; clear A a; intro a A
    refine stepSkip (dj := 8) rfl rfl h1 A rfl ?_; clear A a; intro a A
    refine step (Runs.pickF A rfl h1 rfl) A rfl ?_; clear A a; intro a A
    refine wpList_nil ?_
    refine cond_false A rfl rfl ?_
    refine wp_skip ?_
    refine wp_seq ?_
    refine wp_region_lit ?_
    refine step (Runs.ldN A H rfl rfl) A rfl ?_; clear A a; intro a A
    refine step_store A H rfl rfl rfl rfl rfl rfl ?_; intro w H
    refine wpList_nil ?_
    refine wp_ret ?_
    have e : pkP x y = x := by
      have q1 : sndP x = true := by simpa [sndP] using h1
      simp [pkP, q1]
    exact retFc A rfl rfl hM H rfl (by rw [e]; exact ⟨_, _, _, rfl, hx⟩)

theorem c_merge {ada adb : Option Addr} {na ca nb cb : Nat} {la lb : List Obj} {m : Mem} (ha : Objs m ada na ca la) (hb : Objs m adb nb cb lb) (hna : na ≤ 1100000) (hnb : nb ≤ 1100000) : Spec Tryz.prog 50 #[.slice ada na ca, .slice adb nb cb, .func (.func 51) #[] #[], .func (.func 52) #[] #[]] m [] (RetF fun m' v => ∃ ad' c', v = .slice ad' (mergeP la lb).length c' ∧ Objs m' ad' (mergeP la lb).length c' (mergeP la lb)) := by
  refine Spec.enter0 Tryz.func50 rfl 69 Tryz.ntmps50 rfl fun a w0 Lf A H => ?_
  have hM := Le.refl m
  have hmx : maxLen = 9223372036854775807 := rfl
  have hla := ha.1
  have hlb := hb.1
  refine wp_seq ?_
  refine wp_region_lit ?_
  refine step (Runs.assign A rfl) A rfl ?_; clear A a; intro a A
  refine wpList_nil ?_
  refine wp_seq ?_
  refine wp_region_lit ?_
  refine step (Runs.assign A rfl) A rfl ?_; clear A a; intro a A
  refine wpList_nil ?_
  refine wp_seq ?_
  refine wp_block ?_
  have H := H.row_nil 66 2
  refine wp_loop_ghost (fun q a w => ∃ (l1 l2 acc : List Obj) (ad1 ad2 ad3 : Option Addr) (n1 c1 n2 c2 c3 : Nat) (xs : List Value) (m' : Mem), q = n1 + n2 + 1 ∧ (mergeP la lb = acc ++ mergeP l1 l2 ∧ Objs m' ad1 n1 c1 l1 ∧ Objs m' ad2 n2 c2 l2 ∧ OR m' xs acc ∧ acc.length + n1 + n2 ≤ 2200000) ∧ Le m m' ∧ Fr 69 a [(0, .slice ad1 n1 c1), (1, .slice ad2 n2 c2), (2, .func (.func 51) #[] #[]), (3, .func (.func 52) #[] #[]), (9, .slice ad3 acc.length c3)] [] ∧ St w0 w m' (row 66 2 ad3 acc.length c3 xs :: Lf)) _ ⟨la, lb, [], ada, adb, none, na, ca, nb, cb, 0, [], m, rfl, ⟨rfl, ha, hb, trivial, by simp; omega⟩, Le.refl m, (Fr.cons A rfl (Fr.cons A rfl (Fr.cons A rfl (Fr.cons A rfl (Fr.cons A rfl (Fr.nil A)))))), H⟩ ?_
  clear A H; rintro q a w ⟨l1, l2, acc, ad1, ad2, ad3, n1, c1, n2, c2, c3, xs, m, rfl, hinv, hm, A, H⟩
  have hM := hM.trans hm
  have hl1 := hm
  obtain ⟨hg, p1, p2, hxs, hbd⟩ := hinv
  have e1 := p1.1
  have e2 := p2.1
  have k1 := p1.cap
  have k2 := p2.cap
  refine wp_seq ?_
  refine wp_seq ?_
  refine wp_region_lit ?_
  refine step (Runs.move A rfl) A rfl ?_; clear A a; intro a A
  refine step (Runs.lenL A rfl SlC.h) A rfl ?_; clear A a; intro a A
  refine step (Runs.gtr A rfl rfl) A rfl ?_; clear A a; intro a A
  refine step (Runs.move A rfl) A rfl ?_; clear A a; intro a A
  refine onBool A (dj := 13) rfl (fun h1 => ?_) (fun h1 => ?_)
  · have g1 := h1
    try simp only [decide_eq_true_eq, decide_eq_false_iff_not, Bool.not_eq_true', Bool.not_eq_false', ne_eq, Decidable.not_not, Int.not_lt, Int.not_le] at g1
    refine stepG (dj := 13) rfl rfl h1 (Runs.move A rfl) A rfl ?_; clear A a; intro a A
    refine stepG (dj := 13) rfl rfl h1 (Runs.lenL A rfl SlC.h) A rfl ?_; clear A a; intro a A
    refine stepG (dj := 13) rfl rfl h1 (Runs.gtr A rfl rfl) A rfl ?_; clear A a; intro a A
    refine step (Runs.pickT A rfl h1 rfl) A rfl ?_; clear A a; intro a A
    refine wpList_nil ?_
    refine cond_split A rfl (fun h2 => ?_) (fun h2 => ?_)
    · have g2 := h2
      try simp only [decide_eq_true_eq, decide_eq_false_iff_not, Bool.not_eq_true', Bool.not_eq_false', ne_eq, Decidable.not_not, Int.not_lt, Int.not_le] at g2
      refine wp_skip ?_
      refine wp_block ?_
      refine wp_seq ?_
      refine draw_begin (ms := m) (Ls := []) (by kernel_rfl) (N := 11) rfl (by kernel_rfl) H ?_; clear H; intro w H hR
      have hS : SW m [] w := H.sw (Le.refl m)
      have hL := Le.refl m
      obtain ⟨x, hx⟩ := ex_at (l := l1) (i := 0) (by omega)
      obtain ⟨y, hy⟩ := ex_at (l := l2) (i := 0) (by omega)
      obtain ⟨bb, off, cs, rfl, hfz, hcs⟩ := p1.all_ (by omega)
      obtain ⟨bb2, off2, cs2, rfl, hfz2, hcs2⟩ := p2.all_ (by omega)
      obtain ⟨vx, hx1, hx2, hx3, hxd⟩ := hcs _ _ hx
      obtain ⟨vy, hy1, hy2, hy3, hyd⟩ := hcs2 _ _ hy
      obtain ⟨adx, nx, cx, rfl, hsx, hnx⟩ := hxd
      have hxd : Dat m (.slice adx nx cx) x.data := ⟨_, _, _, rfl, hsx, hnx⟩
      obtain ⟨ady, ny, cy, rfl, hsy, hny⟩ := hyd
      have hyd : Dat m (.slice ady ny cy) y.data := ⟨_, _, _, rfl, hsy, hny⟩
      refine dstep hR (i := 0) rfl (by kernel_rfl) (fun _ _ _ h => h) (fun _ _ H' => (Runs.move A rfl)) A rfl hS ?_; clear A a hR; intro a A hR
      refine dstep hR (i := 1) rfl (by kernel_rfl) (fun _ _ _ h => h) (fun _ _ H' => (Runs.move A rfl)) A rfl hS ?_; clear A a hR; intro a A hR
      refine dstep hR (i := 2) rfl (by kernel_rfl) (fun _ _ _ h => h) (fun _ _ H' => (Runs.indexAddr A rfl rfl SlC.h (by omega) (by omega))) A rfl hS ?_; clear A a hR; intro a A hR
      refine dstep hR (i := 3) rfl (by kernel_rfl) (fun _ _ _ h => h) (fun _ _ H' => (Runs.ldN A H' rfl (by simpa using hx3))) A rfl hS ?_; clear A a hR; intro a A hR
      refine dstep hR (i := 5) rfl (by kernel_rfl) (fun _ _ _ h => h) (fun _ _ H' => (Runs.move A rfl)) A rfl hS ?_; clear A a hR; intro a A hR
      refine dstep hR (i := 6) rfl (by kernel_rfl) (fun _ _ _ h => h) (fun _ _ H' => (Runs.move A rfl)) A rfl hS ?_; clear A a hR; intro a A hR
      refine dstep hR (i := 7) rfl (by kernel_rfl) (fun _ _ _ h => h) (fun _ _ H' => (Runs.indexAddr A rfl rfl SlC.h (by omega) (by omega))) A rfl hS ?_; clear A a hR; intro a A hR
      refine dstep hR (i := 8) rfl (by kernel_rfl) (fun _ _ _ h => h) (fun _ _ H' => (Runs.ldN A H' rfl (by simpa using hy3))) A rfl hS ?_; clear A a hR; intro a A hR
      refine dlist hR (i := 4) rfl (by kernel_rfl) ?_
      have hR := hR.next (i := 4) (by kernel_rfl)
      refine step_cloF A rfl rfl rfl (c_objects_Union_1) H ?_
      rintro v3_4 a w m hm rfl A H
      have hM := hM.trans hm
      have hl1 := hl1.trans hm
      have p1 := p1.mono hm
      have p2 := p2.mono hm
      have hxs := hxs.mono hm
      have hxd := hxd.mono hm
      have hyd := hyd.mono hm
      have hfz := hfz.mono hm
      have hfz2 := hfz2.mono hm
      have hL := hL.trans hm
      refine wpList_nil ?_
      clear hS; refine and_keep (H.sw hL) fun hS => ?_
      refine dlist hR (i := 9) rfl (by kernel_rfl) ?_
      have hR := hR.next (i := 9) (by kernel_rfl)
      refine step_cloF A rfl rfl rfl (c_objects_Union_1) H ?_
      rintro v3_9 a w m hm rfl A H
      have hM := hM.trans hm
      have hl1 := hl1.trans hm
      have p1 := p1.mono hm
      have p2 := p2.mono hm
      have hxs := hxs.mono hm
      have hxd := hxd.mono hm
      have hyd := hyd.mono hm
      have hfz := hfz.mono hm
      have hfz2 := hfz2.mono hm
      have hL := hL.trans hm
      refine wpList_nil ?_
      clear hS; refine and_keep (H.sw hL) fun hS => ?_
      refine dlist hR (i := 10) rfl (by kernel_rfl) ?_
      have hR := hR.next (i := 10) (by kernel_rfl)
      refine step_callF A rfl rfl (c_cmp_Compare_uint64) H ?_
      rintro v3_10 a w m hm rfl A H
      have hM := hM.trans hm
      have hl1 := hl1.trans hm
      have p1 := p1.mono hm
      have p2 := p2.mono hm
      have hxs := hxs.mono hm
      have hxd := hxd.mono hm
      have hyd := hyd.mono hm
      have hfz := hfz.mono hm
      have hfz2 := hfz2.mono hm
      have hL := hL.trans hm
      refine wpList_nil ?_
      clear hS; refine and_keep (H.sw hL) fun hS => ?_
      refine draw_done hR (by kernel_rfl) ?_
      clear hS hL hR
      refine wp_block ?_
      refine wp_seq ?_
      refine wp_region_lit ?_
      refine step (Runs.eql A rfl rfl) A rfl ?_; clear A a; intro a A
      refine step (Runs.assign A rfl) A rfl ?_; clear A a; intro a A
      refine wpList_nil ?_
      refine cond_split A rfl (fun h3 => ?_) (fun h3 => ?_)
      · have g3 := h3
        try simp only [decide_eq_true_eq, decide_eq_false_iff_not, Bool.not_eq_true', Bool.not_eq_false', ne_eq, Decidable.not_not, Int.not_lt, Int.not_le] at g3
        refine draw_begin (ms := m) (Ls := []) (by kernel_rfl) (N := 10) rfl (by kernel_rfl) H ?_; clear H; intro w H hR
        have hS : SW m [] w := H.sw (Le.refl m)
        have hL := Le.refl m
        refine dstep hR (i := 0) rfl (by kernel_rfl) (fun _ _ _ h => h) (fun _ _ H' => (Runs.move A rfl)) A rfl hS ?_; clear A a hR; intro a A hR
        refine dstep hR (i := 1) rfl (by kernel_rfl) (fun _ _ _ h => h) (fun _ _ H' => (Runs.move A rfl)) A rfl hS ?_; clear A a hR; intro a A hR
        refine dstep hR (i := 2) rfl (by kernel_rfl) (fun _ _ _ h => h) (fun _ _ H' => (Runs.indexAddr A rfl rfl SlC.h (by omega) (by omega))) A rfl hS ?_; clear A a hR; intro a A hR
        refine dstep hR (i := 3) rfl (by kernel_rfl) (fun _ _ _ h => h) (fun _ _ H' => (Runs.ldN A H' rfl (by simpa using hx3))) A rfl hS ?_; clear A a hR; intro a A hR
        refine dstep hR (i := 6) rfl (by kernel_rfl) (fun _ _ _ h => h) (fun _ _ H' => (Runs.move A rfl)) A rfl hS ?_; clear A a hR; intro a A hR
        refine dstep hR (i := 7) rfl (by kernel_rfl) (fun _ _ _ h => h) (fun _ _ H' => (Runs.sliceLlo A rfl rfl SlC.h (by omega) (by omega))) A rfl hS ?_; clear A a hR; intro a A hR
        refine dlist hR (i := 4) rfl (by kernel_rfl) ?_
        have hR := hR.next (i := 4) (by kernel_rfl)
        refine step_slice A H rfl rfl rfl rfl rfl rfl ?_; intro b1 a w A H
        refine wpList_nil ?_
        clear hS; refine and_keep (H.sw hL) fun hS => ?_
        refine dlist hR (i := 5) rfl (by kernel_rfl) ?_
        have hR := hR.next (i := 5) (by kernel_rfl)
        refine step_append A H rfl rfl rfl rfl (by decide) (by omega) (by simp only [maxLen]; omega) rfl rfl ?_; clear A a; intro ad1 c1 a w A H
        refine wpList_nil ?_
        clear hS; refine and_keep (H.sw hL) fun hS => ?_
        refine dstep hR (i := 8) rfl (by kernel_rfl) (fun _ _ _ h => h) (fun _ _ H' => (Runs.assign A rfl)) A rfl hS ?_; clear A a hR; intro a A hR
        refine dstep hR (i := 9) rfl (by kernel_rfl) (fun _ _ _ h => h) (fun _ _ H' => (Runs.assign A rfl)) A rfl hS ?_; clear A a hR; intro a A hR
        refine draw_done hR (by kernel_rfl) ?_
        clear hS hL hR
        have hst : mergeP l1 l2 = x :: mergeP (l1.drop 1) l2 := mergeP_lt hx hy (cmpP_neg (by simpa using g3))
        have hlen : (acc ++ [x]).length = acc.length + 1 := by simp
        rw [← hlen] at A H
        exact ⟨_, by omega, l1.drop 1, l2, acc ++ [x], _, _, _, n1 - 1, _, n2, _, _, _, m, rfl, ⟨by rw [hg, hst, List.append_assoc]; rfl, p1.lo (i := 1) (by omega), p2, hxs.app (OR.single hxd), by simp; omega⟩, hl1, (Fr.cons A rfl (Fr.cons A rfl (Fr.cons A rfl (Fr.cons A rfl (Fr.cons A rfl (Fr.nil A)))))), H.subH⟩
      · have g3 := h3
        try simp only [decide_eq_true_eq, decide_eq_false_iff_not, Bool.not_eq_true', Bool.not_eq_false', ne_eq, Decidable.not_not, Int.not_lt, Int.not_le] at g3
        refine wp_seq ?_
        refine wp_region_lit ?_
        refine step (Runs.eql A rfl rfl) A rfl ?_; clear A a; intro a A
        refine step (Runs.assign A rfl) A rfl ?_; clear A a; intro a A
        refine wpList_nil ?_
        refine cond_split A rfl (fun h4 => ?_) (fun h4 => ?_)
        · have g4 := h4
          try simp only [decide_eq_true_eq, decide_eq_false_iff_not, Bool.not_eq_true', Bool.not_eq_false', ne_eq, Decidable.not_not, Int.not_lt, Int.not_le] at g4
          refine draw_begin (ms := m) (Ls := []) (by kernel_rfl) (N := 10) rfl (by kernel_rfl) H ?_; clear H; intro w H hR
          have hS : SW m [] w := H.sw (Le.refl m)
          have hL := Le.refl m
          refine dstep hR (i := 0) rfl (by kernel_rfl) (fun _ _ _ h => h) (fun _ _ H' => (Runs.move A rfl)) A rfl hS ?_; clear A a hR; intro a A hR
          refine dstep hR (i := 1) rfl (by kernel_rfl) (fun _ _ _ h => h) (fun _ _ H' => (Runs.move A rfl)) A rfl hS ?_; clear A a hR; intro a A hR
          refine dstep hR (i := 2) rfl (by kernel_rfl) (fun _ _ _ h => h) (fun _ _ H' => (Runs.indexAddr A rfl rfl SlC.h (by omega) (by omega))) A rfl hS ?_; clear A a hR; intro a A hR
          refine dstep hR (i := 3) rfl (by kernel_rfl) (fun _ _ _ h => h) (fun _ _ H' => (Runs.ldN A H' rfl (by simpa using hy3))) A rfl hS ?_; clear A a hR; intro a A hR
          refine dstep hR (i := 6) rfl (by kernel_rfl) (fun _ _ _ h => h) (fun _ _ H' => (Runs.move A rfl)) A rfl hS ?_; clear A a hR; intro a A hR
          refine dstep hR (i := 7) rfl (by kernel_rfl) (fun _ _ _ h => h) (fun _ _ H' => (Runs.sliceLlo A rfl rfl SlC.h (by omega) (by omega))) A rfl hS ?_; clear A a hR; intro a A hR
          refine dlist hR (i := 4) rfl (by kernel_rfl) ?_
          have hR := hR.next (i := 4) (by kernel_rfl)
          refine step_slice A H rfl rfl rfl rfl rfl rfl ?_; intro b2 a w A H
          refine wpList_nil ?_
          clear hS; refine and_keep (H.sw hL) fun hS => ?_
          refine dlist hR (i := 5) rfl (by kernel_rfl) ?_
          have hR := hR.next (i := 5) (by kernel_rfl)
          refine step_append A H rfl rfl rfl rfl (by decide) (by omega) (by simp only [maxLen]; omega) rfl rfl ?_; clear A a; intro ad2 c2 a w A H
          refine wpList_nil ?_
          clear hS; refine and_keep (H.sw hL) fun hS => ?_
          refine dstep hR (i := 8) rfl (by kernel_rfl) (fun _ _ _ h => h) (fun _ _ H' => (Runs.assign A rfl)) A rfl hS ?_; clear A a hR; intro a A hR
          refine dstep hR (i := 9) rfl (by kernel_rfl) (fun _ _ _ h => h) (fun _ _ H' => (Runs.assign A rfl)) A rfl hS ?_; clear A a hR; intro a A hR
          refine draw_done hR (by kernel_rfl) ?_
          clear hS hL hR
          have hc := cmpP_pos (show cmpP x.id y.id = 1 by simpa using g4)
          have hst : mergeP l1 l2 = y :: mergeP l1 (l2.drop 1) := mergeP_gt hx hy hc.1 hc.2
          have hlen : (acc ++ [y]).length = acc.length + 1 := by simp
          rw [← hlen] at A H
          exact ⟨_, by omega, l1, l2.drop 1, acc ++ [y], _, _, _, n1, _, n2 - 1, _, _, _, m, rfl, ⟨by rw [hg, hst, List.append_assoc]; rfl, p1, p2.lo (i := 1) (by omega), hxs.app (OR.single hyd), by simp; omega⟩, hl1, (Fr.cons A rfl (Fr.cons A rfl (Fr.cons A rfl (Fr.cons A rfl (Fr.cons A rfl (Fr.nil A)))))), H.subH⟩
        · have g4 := h4
          try simp only [decide_eq_true_eq, decide_eq_false_iff_not, Bool.not_eq_true', Bool.not_eq_false', ne_eq, Decidable.not_not, Int.not_lt, Int.not_le] at g4
          refine draw_begin (ms := m) (Ls := []) (by kernel_rfl) (N := 18) rfl (by kernel_rfl) H ?_; clear H; intro w H hR
          have hS : SW m [] w := H.sw (Le.refl m)
          have hL := Le.refl m
          refine dstep hR (i := 0) rfl (by kernel_rfl) (fun _ _ _ h => h) (fun _ _ H' => (Runs.move A rfl)) A rfl hS ?_; clear A a hR; intro a A hR
          refine dstep hR (i := 1) rfl (by kernel_rfl) (fun _ _ _ h => h) (fun _ _ H' => (Runs.move A rfl)) A rfl hS ?_; clear A a hR; intro a A hR
          refine dstep hR (i := 2) rfl (by kernel_rfl) (fun _ _ _ h => h) (fun _ _ H' => (Runs.move A rfl)) A rfl hS ?_; clear A a hR; intro a A hR
          refine dstep hR (i := 3) rfl (by kernel_rfl) (fun _ _ _ h => h) (fun _ _ H' => (Runs.indexAddr A rfl rfl SlC.h (by omega) (by omega))) A rfl hS ?_; clear A a hR; intro a A hR
          refine dstep hR (i := 4) rfl (by kernel_rfl) (fun _ _ _ h => h) (fun _ _ H' => (Runs.ldN A H' rfl (by simpa using hx3))) A rfl hS ?_; clear A a hR; intro a A hR
          refine dstep hR (i := 5) rfl (by kernel_rfl) (fun _ _ _ h => h) (fun _ _ H' => (Runs.move A rfl)) A rfl hS ?_; clear A a hR; intro a A hR
          refine dstep hR (i := 6) rfl (by kernel_rfl) (fun _ _ _ h => h) (fun _ _ H' => (Runs.indexAddr A rfl rfl SlC.h (by omega) (by omega))) A rfl hS ?_; clear A a hR; intro a A hR
          refine dstep hR (i := 7) rfl (by kernel_rfl) (fun _ _ _ h => h) (fun _ _ H' => (Runs.ldN A H' rfl (by simpa using hy3))) A rfl hS ?_; clear A a hR; intro a A hR
          refine dstep hR (i := 11) rfl (by kernel_rfl) (fun _ _ _ h => h) (fun _ _ H' => (Runs.move A rfl)) A rfl hS ?_; clear A a hR; intro a A hR
          refine dstep hR (i := 12) rfl (by kernel_rfl) (fun _ _ _ h => h) (fun _ _ H' => (Runs.sliceLlo A rfl rfl SlC.h (by omega) (by omega))) A rfl hS ?_; clear A a hR; intro a A hR
          refine dstep hR (i := 13) rfl (by kernel_rfl) (fun _ _ _ h => h) (fun _ _ H' => (Runs.move A rfl)) A rfl hS ?_; clear A a hR; intro a A hR
          refine dstep hR (i := 14) rfl (by kernel_rfl) (fun _ _ _ h => h) (fun _ _ H' => (Runs.sliceLlo A rfl rfl SlC.h (by omega) (by omega))) A rfl hS ?_; clear A a hR; intro a A hR
          refine dlist hR (i := 8) rfl (by kernel_rfl) ?_
          have hR := hR.next (i := 8) (by kernel_rfl)
          refine step_cloF A rfl rfl rfl (c_objects_Union_2 hxd hyd) H ?_
          rintro v4_8 a w m hm ⟨adz, nz, cz, rfl, hzd⟩ A H
          have hM := hM.trans hm
          have hl1 := hl1.trans hm
          have p1 := p1.mono hm
          have p2 := p2.mono hm
          have hxs := hxs.mono hm
          have hxd := hxd.mono hm
          have hyd := hyd.mono hm
          have hfz := hfz.mono hm
          have hfz2 := hfz2.mono hm
          have hL := hL.trans hm
          refine wpList_nil ?_
          clear hS; refine and_keep (H.sw hL) fun hS => ?_
          refine dlist hR (i := 9) rfl (by kernel_rfl) ?_
          have hR := hR.next (i := 9) (by kernel_rfl)
          refine step_slice A H rfl rfl rfl rfl rfl rfl ?_; intro b3 a w A H
          refine wpList_nil ?_
          clear hS; refine and_keep (H.sw hL) fun hS => ?_
          refine dlist hR (i := 10) rfl (by kernel_rfl) ?_
          have hR := hR.next (i := 10) (by kernel_rfl)
          refine step_append A H rfl rfl rfl rfl (by decide) (by omega) (by simp only [maxLen]; omega) rfl rfl ?_; clear A a; intro ad3 c3 a w A H
          refine wpList_nil ?_
          clear hS; refine and_keep (H.sw hL) fun hS => ?_
          refine dstep hR (i := 15) rfl (by kernel_rfl) (fun _ _ _ h => h) (fun _ _ H' => (Runs.assign A rfl)) A rfl hS ?_; clear A a hR; intro a A hR
          refine dstep hR (i := 16) rfl (by kernel_rfl) (fun _ _ _ h => h) (fun _ _ H' => (Runs.assign A rfl)) A rfl hS ?_; clear A a hR; intro a A hR
          refine dstep hR (i := 17) rfl (by kernel_rfl) (fun _ _ _ h => h) (fun _ _ H' => (Runs.assign A rfl)) A rfl hS ?_; clear A a hR; intro a A hR
          refine draw_done hR (by kernel_rfl) ?_
          clear hS hL hR
          have hc := cmpP_els (show cmpP x.id y.id ≠ -1 by simpa using g3) (show cmpP x.id y.id ≠ 1 by simpa using g4)
          have hst : mergeP l1 l2 = pkP x y :: mergeP (l1.drop 1) (l2.drop 1) := mergeP_eq hx hy hc.1 hc.2
          have hlen : (acc ++ [pkP x y]).length = acc.length + 1 := by simp
          rw [← hlen] at A H
          exact ⟨_, by omega, l1.drop 1, l2.drop 1, acc ++ [pkP x y], _, _, _, n1 - 1, _, n2 - 1, _, _, _, m, rfl, ⟨by rw [hg, hst, List.append_assoc]; rfl, p1.lo (i := 1) (by omega), p2.lo (i := 1) (by omega), hxs.app (OR.single hzd), by simp; omega⟩, hl1, (Fr.cons A rfl (Fr.cons A rfl (Fr.cons A rfl (Fr.cons A rfl (Fr.cons A rfl (Fr.nil A)))))), H.subH⟩
    · have g2 := h2
      try simp only [decide_eq_true_eq, decide_eq_false_iff_not, Bool.not_eq_true', Bool.not_eq_false', ne_eq, Decidable.not_not, Int.not_lt, Int.not_le] at g2
      refine wp_exit ?_
      refine wp_seq ?_
      refine wp_region_lit ?_
      obtain ⟨_, ys1, hS1, hO1⟩ := p1
      obtain ⟨_, ys2, hS2, hO2⟩ := p2
      refine step (Runs.move A rfl) A rfl ?_; clear A a; intro a A
      refine step (Runs.move A rfl) A rfl ?_; clear A a; intro a A
      refine step_appendR A H rfl rfl hS1 hO1.one (by decide) (by omega) (by omega) rfl rfl ?_; clear A a; intro ad4 c4 a w A H
      refine step (Runs.move A rfl) A rfl ?_; clear A a; intro a A
      refine step_appendR A H rfl rfl hS2 hO2.one (by decide) (by omega) (by omega) rfl rfl ?_; clear A a; intro ad5 c5 a w A H
      refine step (Runs.assign A rfl) A rfl ?_; clear A a; intro a A
      refine wpList_nil ?_
      refine wp_ret ?_
      have e : mergeP la lb = acc ++ l1 ++ l2 := by
        have h0 : l2 = [] := List.eq_nil_of_length_eq_zero (by omega)
        rw [hg, h0]; simp [mergeP_nil]
      have hlen : acc.length + n1 + n2 = (mergeP la lb).length := by rw [e]; simp; omega
      rw [hlen] at A
      have hOR2 : OR m (xs ++ ys1 ++ ys2) (mergeP la lb) := by rw [e]; exact (hxs.app hO1).app hO2
      obtain ⟨m2, hm2, hO, H⟩ := H.row_objs hOR2
      exact retF A rfl rfl (hM.trans hm2) H ⟨_, _, rfl, hO⟩
  · have g1 := h1
    try simp only [decide_eq_true_eq, decide_eq_false_iff_not, Bool.not_eq_true', Bool.not_eq_false', ne_eq, Decidable.not_not, Int.not_lt, Int.not_le] at g1
    refine stepSkip (dj := 13) rfl rfl h1 A rfl ?_; clear A a; intro a A
    refine stepSkip (dj := 13) rfl rfl h1 A rfl ?_; clear A a; intro a A
    refine stepSkip (dj := 13) rfl rfl h1 A rfl ?_; clear A a; intro a A
    refine step (Runs.pickF A rfl h1 rfl) A rfl ?_; clear A a; intro a A
    refine wpList_nil ?_
    refine cond_false A rfl rfl ?_
    refine wp_exit ?_
    refine wp_seq ?_
    refine wp_region_lit ?_
    obtain ⟨_, ys1, hS1, hO1⟩ := p1
    obtain ⟨_, ys2, hS2, hO2⟩ := p2
    refine step (Runs.move A rfl) A rfl ?_; clear A a; intro a A
    refine step (Runs.move A rfl) A rfl ?_; clear A a; intro a A
    refine step_appendR A H rfl rfl hS1 hO1.one (by decide) (by omega) (by omega) rfl rfl ?_; clear A a; intro ad6 c6 a w A H
    refine step (Runs.move A rfl) A rfl ?_; clear A a; intro a A
    refine step_appendR A H rfl rfl hS2 hO2.one (by decide) (by omega) (by omega) rfl rfl ?_; clear A a; intro ad7 c7 a w A H
    refine step (Runs.assign A rfl) A rfl ?_; clear A a; intro a A
    refine wpList_nil ?_
    refine wp_ret ?_
    have e : mergeP la lb = acc ++ l1 ++ l2 := by
      have h0 : l1 = [] := List.eq_nil_of_length_eq_zero (by omega)
      rw [hg, h0]; simp [mergeP_nil']
    have hlen : acc.length + n1 + n2 = (mergeP la lb).length := by rw [e]; simp; omega
    rw [hlen] at A
    have hOR2 : OR m (xs ++ ys1 ++ ys2) (mergeP la lb) := by rw [e]; exact (hxs.app hO1).app hO2
    obtain ⟨m2, hm2, hO, H⟩ := H.row_objs hOR2
    exact retF A rfl rfl (hM.trans hm2) H ⟨_, _, rfl, hO⟩

theorem c_objects_Union {ad ad2 : Option Addr} {n c n2 c2 : Nat} {l l2 : List Obj} {m : Mem} (hl : Objs m ad n c l) (hl2 : Objs m ad2 n2 c2 l2) (hn : n ≤ 1100000) (hn2 : n2 ≤ 1100000) : Spec Tryz.prog 23 #[.slice ad n c, .slice ad2 n2 c2] m [] (RetF fun m' v => ∃ ad' c', v = .slice ad' (mergeP l l2).length c' ∧ Objs m' ad' (mergeP l l2).length c' (mergeP l l2)) := by
  refine Spec.enter0 Tryz.func23 rfl 8 Tryz.ntmps23 rfl fun a w0 Lf A H => ?_
  have hM := Le.refl m
  refine wp_seq ?_
  refine wp_region_lit ?_
  refine step (Runs.assign A rfl) A rfl ?_; clear A a; intro a A
  refine wpList_nil ?_
  refine wp_seq ?_
  refine wp_region_lit ?_
  refine step (Runs.move A rfl) A rfl ?_; clear A a; intro a A
  refine step (Runs.move A rfl) A rfl ?_; clear A a; intro a A
  refine step_callF A rfl rfl (c_merge hl hl2 (by omega) (by omega)) H ?_
  rintro v1_2 a w m hm ⟨adm, cm, rfl, hmg⟩ A H
  have hM := hM.trans hm
  have hl := hl.mono hm
  have hl2 := hl2.mono hm
  refine step (Runs.assign A rfl) A rfl ?_; clear A a; intro a A
  refine wpList_nil ?_
  refine wp_ret ?_
  exact retF A rfl rfl hM H ⟨_, _, rfl, hmg⟩
end Sl
end Go.Proofs.YtanhehbfbakdcaaGreatDoor
