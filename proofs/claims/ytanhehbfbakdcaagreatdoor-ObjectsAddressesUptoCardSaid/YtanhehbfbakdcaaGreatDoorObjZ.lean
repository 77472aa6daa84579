/- Stores: Clone, Insert, Put, Get: walks, printed by my gen.py out of annotations. -/
import Derived.Test.YtanhehbfbakdcaaGreatDoorObjY
import Derived.Test.YtanhehbfbakdcaaGreatDoorCopy
set_option linter.unusedSimpArgs false
set_option linter.unusedVariables false
namespace Go.Proofs.YtanhehbfbakdcaaGreatDoor
namespace Sl
open Go

theorem c_CloneB {ad : Option Addr} {n c : Nat} {d : List UInt8} {m : Mem} (hs : Slc m 1 ad n c (d.map u8)) (hn : n ≤ 1000000000) : Spec Tryz.prog 75 #[.slice ad n c] m [] (RetF fun m' v => Dat m' v d) := by
  refine Spec.enter0 Tryz.func75 rfl 8 Tryz.ntmps75 rfl fun a w0 Lf A H => ?_
  have hM := Le.refl m
  have hmx : maxLen = 9223372036854775807 := rfl
  refine wp_seq ?_
  refine wp_region_lit ?_
  refine step (Runs.assign A rfl) A rfl ?_; clear A a; intro a A
  refine wpList_nil ?_
  refine wp_seq ?_
  refine wp_seq ?_
  refine wp_region_lit ?_
  refine step (Runs.move A rfl) A rfl ?_; clear A a; intro a A
  refine step (Runs.isNilL A rfl rfl) A rfl ?_; clear A a; intro a A
  refine wpList_nil ?_
  refine cond_split A rfl (fun h1 => ?_) (fun h1 => ?_)
  · have g1 := h1
    try simp only [decide_eq_true_eq, decide_eq_false_iff_not, Bool.not_eq_true', Bool.not_eq_false', ne_eq, Decidable.not_not, Int.not_lt, Int.not_le] at g1
    refine wp_seq ?_
    refine wp_region_lit ?_
    refine step (Runs.assign A rfl) A rfl ?_; clear A a; intro a A
    refine wpList_nil ?_
    refine wp_ret ?_
    cases ad with
    | some _ => cases g1
    | none =>
      have h0 : n = 0 := by
        rcases Nat.eq_zero_or_pos n with h | h
        · exact h
        · obtain ⟨_, _, _, e, _⟩ := hs.2.2.2 h; cases e
      have hd : d = [] := List.eq_nil_of_length_eq_zero (by have := hs.len8; omega)
      subst hd
      exact retF A rfl rfl hM H (Dat.nil m)
  · have g1 := h1
    try simp only [decide_eq_true_eq, decide_eq_false_iff_not, Bool.not_eq_true', Bool.not_eq_false', ne_eq, Decidable.not_not, Int.not_lt, Int.not_le] at g1
    refine wp_skip ?_
    refine wp_seq ?_
    refine wp_region_lit ?_
    refine step_slice A H rfl rfl rfl rfl rfl rfl ?_; intro b1 a w A H
    refine step (Runs.move A rfl) A rfl ?_; clear A a; intro a A
    have H := H.row_pt (n := 0) (size := 1) rfl (by omega)
    refine step_appendR A H rfl rfl hs (u8_one _) (by decide) (by omega) (by omega) rfl rfl ?_; clear A a; intro ad1 c1 a w A H
    refine step (Runs.assign A rfl) A rfl ?_; clear A a; intro a A
    refine wpList_nil ?_
    refine wp_ret ?_
    obtain ⟨m2, hm2, hw, H⟩ := H.row_freeze
    exact retF A rfl rfl (hM.trans hm2) H ⟨_, _, _, rfl, by simpa using hw, by omega⟩

theorem c_CloneO {ad : Option Addr} {n c : Nat} {xs : List Value} {m : Mem} (hs : Slc m 2 ad n c xs) (hone : xs.all (·.oneCell') = true) (hn : n ≤ 1100000) : Spec Tryz.prog 78 #[.slice ad n c] m [] (RetV fun _ v L => ∃ ad' c', v = .slice ad' n c' ∧ L = [row 66 2 ad' n c' xs]) := by
  refine Spec.enter Tryz.func78 rfl 8 Tryz.ntmps78 rfl fun a w0 Lf A H => ?_
  simp only [List.cons_append, List.nil_append] at H
  have hM := Le.refl m
  have hmx : maxLen = 9223372036854775807 := rfl
  refine wp_seq ?_
  refine wp_region_lit ?_
  refine step (Runs.assign A rfl) A rfl ?_; clear A a; intro a A
  refine wpList_nil ?_
  refine wp_seq ?_
  refine wp_seq ?_
  refine wp_region_lit ?_
  refine step (Runs.move A rfl) A rfl ?_; clear A a; intro a A
  refine step (Runs.isNilL A rfl rfl) A rfl ?_; clear A a; intro a A
  refine wpList_nil ?_
  refine cond_split A rfl (fun h1 => ?_) (fun h1 => ?_)
  · have g1 := h1
    try simp only [decide_eq_true_eq, decide_eq_false_iff_not, Bool.not_eq_true', Bool.not_eq_false', ne_eq, Decidable.not_not, Int.not_lt, Int.not_le] at g1
    refine wp_seq ?_
    refine wp_region_lit ?_
    refine step (Runs.assign A rfl) A rfl ?_; clear A a; intro a A
    refine wpList_nil ?_
    refine wp_ret ?_
    cases ad with
    | some _ => cases g1
    | none =>
      have h0 : n = 0 := by
        rcases Nat.eq_zero_or_pos n with h | h
        · exact h
        · obtain ⟨_, _, _, e, _⟩ := hs.2.2.2 h; cases e
      subst h0
      have hd : xs = [] := List.eq_nil_of_length_eq_zero (by have := hs.1; omega)
      subst hd
      have H := H.row_nil 66 2
      exact retV A rfl rfl hM H ⟨_, _, rfl, rfl⟩
  · have g1 := h1
    try simp only [decide_eq_true_eq, decide_eq_false_iff_not, Bool.not_eq_true', Bool.not_eq_false', ne_eq, Decidable.not_not, Int.not_lt, Int.not_le] at g1
    refine wp_skip ?_
    refine wp_seq ?_
    refine wp_region_lit ?_
    refine step_slice A H rfl rfl rfl rfl rfl rfl ?_; intro b1 a w A H
    refine step (Runs.move A rfl) A rfl ?_; clear A a; intro a A
    have H := H.row_pt (n := 0) (size := 2) rfl (by omega)
    refine step_appendR A H rfl rfl hs hone (by decide) (by omega) (by omega) rfl rfl ?_; clear A a; intro ad1 c1 a w A H
    refine step (Runs.assign A rfl) A rfl ?_; clear A a; intro a A
    refine wpList_nil ?_
    refine wp_ret ?_
    rw [Nat.zero_add, List.nil_append] at H
    rw [Nat.zero_add] at A
    exact retV A rfl rfl hM H ⟨_, _, rfl, rfl⟩

theorem ins_take {cur xs o : List Value} {p q : Nat} (hxl : xs.length = q) (hct : cur.take q = xs) (hp : p ≤ q) : cur.take p = xs.take p := by
  rw [← hct, List.take_take, Nat.min_eq_left hp]
theorem ins_take1 {cur xs : List Value} {p q : Nat} (hct : cur.take q = xs) (hp : p ≤ q) : cur.take p = xs.take p := by
  rw [← hct, List.take_take, Nat.min_eq_left hp]
theorem ins_mid {cur xs : List Value} {p q : Nat} (hct : cur.take q = xs) (hp : p ≤ q) : (cur.drop p).take (q - p) = xs.drop p := by
  rw [← hct, List.drop_take]
theorem ins_shift {A V R O E : List Value} {p : Nat} (hA : A.length = p) (hE : E.length = 2) : (A ++ E ++ V ++ R).take p ++ O ++ (A ++ E ++ V ++ R).drop (p + 2) = A ++ O ++ V ++ R := by
  subst hA
  have e1 : (A ++ E ++ V ++ R).take A.length = A := by rw [List.append_assoc (A ++ E) V R, List.append_assoc A E, List.take_left]
  have e2 : (A ++ E ++ V ++ R).drop (A.length + 2) = V ++ R := by
    rw [List.append_assoc (A ++ E) V R, show A.length + 2 = (A ++ E).length by simp [hE], List.drop_left]
  rw [e1, e2, ← List.append_assoc]
theorem take_ins {A O V R : List Value} {k : Nat} (h : A.length + O.length + V.length = k) : (A ++ O ++ V ++ R).take k = A ++ O ++ V := by
  subst h
  rw [show A.length + O.length + V.length = (A ++ O ++ V).length by simp [Nat.add_assoc]]
  exact List.take_left
theorem set_mid {A O R : List Value} {p : Nat} (hA : A.length = p) (h : O.length ≤ R.length) : setN (A ++ R) p O = some (A ++ O ++ R.drop O.length) := by
  subst hA
  rw [setN_put (by simp; omega), List.take_left, ← List.drop_drop, List.drop_left]

theorem c_InsertO {ad adv : Option Addr} {n c i b2 nv cv : Nat} {xs : List Value} {id : UInt64} {m : Mem} (hi : i ≤ n) (hn : n ≤ 1100000) (hone : xs.all (·.oneCell') = true) : Spec Tryz.prog 77 #[.slice ad n c, .int .i64 i, .slice (some ⟨b2, 0, none⟩) 1 1] m [row 66 2 ad n c xs, pt b2 [u64 id, .slice adv nv cv] 66] (RetV fun _ v L => ∃ ad' c', v = .slice ad' (n + 1) c' ∧ L = [row 66 2 ad' (n + 1) c' (xs.take (i * 2) ++ [u64 id, .slice adv nv cv] ++ xs.drop (i * 2))]) := by
  refine Spec.enter Tryz.func77 rfl 95 Tryz.ntmps77 rfl fun a w0 Lf A H => ?_
  simp only [List.cons_append, List.nil_append] at H
  have hM := Le.refl m
  have hmx : maxLen = 9223372036854775807 := rfl
  obtain ⟨hxl, hnc, hcm⟩ := H.row_len
  refine wp_seq ?_
  refine wp_region_lit ?_
  refine step (Runs.assign A rfl) A rfl ?_; clear A a; intro a A
  refine wpList_nil ?_
  refine wp_seq ?_
  refine wp_region_lit ?_
  refine step (Runs.move A rfl) A rfl ?_; clear A a; intro a A
  refine step (Runs.move A rfl) A rfl ?_; clear A a; intro a A
  refine step (Runs.sliceLlo A rfl rfl SlC.h (by omega) (by omega)) A rfl ?_; clear A a; intro a A
  refine wpList_nil ?_
  refine wp_seq ?_
  refine wp_region_lit ?_
  refine step (Runs.move A rfl) A rfl ?_; clear A a; intro a A
  refine step (Runs.lenL A rfl SlC.h) A rfl ?_; clear A a; intro a A
  refine step (Runs.assign A rfl) A rfl ?_; clear A a; intro a A
  refine wpList_nil ?_
  refine wp_seq ?_
  refine wp_seq ?_
  refine wp_region_lit ?_
  refine step (Runs.move A rfl) A rfl ?_; clear A a; intro a A
  refine step (Runs.eql A rfl rfl) A rfl ?_; clear A a; intro a A
  refine wpList_nil ?_
  refine cond_split A rfl (fun h1 => ?_) (fun h1 => ?_)
  · have g1 := h1
    try simp only [decide_eq_true_eq, decide_eq_false_iff_not, Bool.not_eq_true', Bool.not_eq_false', ne_eq, Decidable.not_not, Int.not_lt, Int.not_le] at g1
    exact absurd g1 (by decide)
  · have g1 := h1
    try simp only [decide_eq_true_eq, decide_eq_false_iff_not, Bool.not_eq_true', Bool.not_eq_false', ne_eq, Decidable.not_not, Int.not_lt, Int.not_le] at g1
    refine wp_skip ?_
    refine wp_seq ?_
    refine wp_region_lit ?_
    refine step (Runs.move A rfl) A rfl ?_; clear A a; intro a A
    refine step (Runs.lenL A rfl SlC.h) A rfl ?_; clear A a; intro a A
    refine step (Runs.assign A rfl) A rfl ?_; clear A a; intro a A
    refine wpList_nil ?_
    refine wp_seq ?_
    refine wp_seq ?_
    refine wp_region_lit ?_
    refine step (Runs.move A rfl) A rfl ?_; clear A a; intro a A
    refine step (Runs.move A rfl) A rfl ?_; clear A a; intro a A
    refine step (Runs.eql A rfl rfl) A rfl ?_; clear A a; intro a A
    refine wpList_nil ?_
    refine cond_split A rfl (fun h2 => ?_) (fun h2 => ?_)
    · have g2 := h2
      try simp only [decide_eq_true_eq, decide_eq_false_iff_not, Bool.not_eq_true', Bool.not_eq_false', ne_eq, Decidable.not_not, Int.not_lt, Int.not_le] at g2
      refine wp_seq ?_
      refine wp_region_lit ?_
      refine step (Runs.move A rfl) A rfl ?_; clear A a; intro a A
      refine step (Runs.move A rfl) A rfl ?_; clear A a; intro a A
      refine step_append A H rfl rfl rfl rfl (by decide) (by omega) (by simp only [maxLen]; omega) rfl rfl ?_; clear A a; intro ad1 c1 a w A H
      refine step (Runs.assign A rfl) A rfl ?_; clear A a; intro a A
      refine wpList_nil ?_
      refine wp_ret ?_
      have ei : i = n := by omega
      subst ei
      rw [show xs ++ [u64 id, .slice adv nv cv] = (xs.take (i * 2) ++ [u64 id, .slice adv nv cv] ++ xs.drop (i * 2)) by rw [List.take_of_length_le (by omega), List.drop_of_length_le (by omega), List.append_nil]] at H
      exact retV A rfl rfl hM H ⟨_, _, rfl, rfl⟩
    · have g2 := h2
      try simp only [decide_eq_true_eq, decide_eq_false_iff_not, Bool.not_eq_true', Bool.not_eq_false', ne_eq, Decidable.not_not, Int.not_lt, Int.not_le] at g2
      refine wp_skip ?_
      refine wp_seq ?_
      refine wp_seq ?_
      refine wp_region_lit ?_
      obtain ⟨g, cur, rfl, hxl', hnc', hcm', hcl, hct, H⟩ := H.row_block (by omega)
      refine step (Runs.move A rfl) A rfl ?_; clear A a; intro a A
      refine step (Runs.move A rfl) A rfl ?_; clear A a; intro a A
      refine step (Runs.add A rfl rfl (by omega)) A rfl ?_; clear A a; intro a A
      refine step (Runs.move A rfl) A rfl ?_; clear A a; intro a A
      refine step (Runs.capL A rfl SlC.h) A rfl ?_; clear A a; intro a A
      refine step (Runs.gtr A rfl rfl) A rfl ?_; clear A a; intro a A
      refine wpList_nil ?_
      refine cond_split A rfl (fun h3 => ?_) (fun h3 => ?_)
      · have g3 := h3
        try simp only [decide_eq_true_eq, decide_eq_false_iff_not, Bool.not_eq_true', Bool.not_eq_false', ne_eq, Decidable.not_not, Int.not_lt, Int.not_le] at g3
        refine wp_seq ?_
        refine wp_region_lit ?_
        refine step (Runs.move A rfl) A rfl ?_; clear A a; intro a A
        refine step (Runs.move A rfl) A rfl ?_; clear A a; intro a A
        refine step (Runs.sliceLhi A rfl rfl SlC.h (by omega) (by omega)) A rfl ?_; clear A a; intro a A
        rw [cutAd_some (show 0 < c by omega)] at A
        simp only [Int.toNat_natCast, Nat.zero_mul, Nat.add_zero, Nat.zero_add] at A
        refine step (Runs.move A rfl) A rfl ?_; clear A a; intro a A
        refine step (Runs.move A rfl) A rfl ?_; clear A a; intro a A
        refine step (Runs.add A rfl rfl (by omega)) A rfl ?_; clear A a; intro a A
        refine step (Runs.move A rfl) A rfl ?_; clear A a; intro a A
        refine step (Runs.sub A rfl rfl (by omega)) A rfl ?_; clear A a; intro a A
        rw [show ((n : Int) + ((1 : Nat) : Int) - i) = ((n + 1 - i : Nat) : Int) by omega] at A
        refine step_appendZ (z := n + 1 - i) (old := cur.take (i * 2)) A H rfl rfl (by rw [getN_of (by omega)]; simp) (by omega) (by omega) (by decide) rfl (by omega) (by omega) rfl ?_; clear A a; intro g2 c2 rst a w hc2 hcm2 hrl A H
        rw [show i + (n + 1 - i) = n + 1 by omega] at A
        have hAl : (cur.take (i * 2)).length = i * 2 := by rw [List.length_take]; omega
        have hVl : (xs.drop (i * 2)).length = (n - i) * 2 := by rw [List.length_drop]; omega
        have hV : getN cur (i * 2) ((n - i) * 2) = some (xs.drop (i * 2)) := by rw [getN_of (by omega), ← ins_mid hct (show i * 2 ≤ n * 2 by omega)]; congr 2; omega
        refine step (Runs.assign A rfl) A rfl ?_; clear A a; intro a A
        refine wpList_nil ?_
        refine wp_seq ?_
        refine wp_region_lit ?_
        refine step (Runs.move A rfl) A rfl ?_; clear A a; intro a A
        refine step (Runs.move A rfl) A rfl ?_; clear A a; intro a A
        refine step (Runs.sliceLlo A rfl rfl SlC.h (by omega) (by omega)) A rfl ?_; clear A a; intro a A
        simp only [Int.toNat_natCast] at A
        rw [cutAd_some (show i < c2 by omega), Nat.zero_add] at A
        refine step (Runs.move A rfl) A rfl ?_; clear A a; intro a A
        refine step_copy (q := 1) (vs := [u64 id, .slice adv nv cv]) A H rfl rfl (by show min _ _ = _; omega) rfl rfl (set_mid hAl (by simp only [List.length_cons, List.length_nil]; omega)) rfl ?_; clear A a; intro a w A H
        refine wpList_nil ?_
        refine wp_seq ?_
        refine draw_begin (ms := m) (Ls := []) (by kernel_rfl) (N := 9) rfl (by kernel_rfl) H ?_; clear H; intro w H hR
        have hS : SW m [] w := H.sw (Le.refl m)
        have hL := Le.refl m
        refine dstep hR (i := 0) rfl (by kernel_rfl) (fun _ _ _ h => h) (fun _ _ H' => (Runs.move A rfl)) A rfl hS ?_; clear A a hR; intro a A hR
        refine dstep hR (i := 1) rfl (by kernel_rfl) (fun _ _ _ h => h) (fun _ _ H' => (Runs.move A rfl)) A rfl hS ?_; clear A a hR; intro a A hR
        refine dstep hR (i := 2) rfl (by kernel_rfl) (fun _ _ _ h => h) (fun _ _ H' => (Runs.move A rfl)) A rfl hS ?_; clear A a hR; intro a A hR
        refine dstep hR (i := 3) rfl (by kernel_rfl) (fun _ _ _ h => h) (fun _ _ H' => (Runs.add A rfl rfl (by omega))) A rfl hS ?_; clear A a hR; intro a A hR
        refine dstep hR (i := 4) rfl (by kernel_rfl) (fun _ _ _ h => h) (fun _ _ H' => (Runs.sliceLlo A rfl rfl SlC.h (by omega) (by omega))) A rfl hS ?_; clear A a hR; intro a A hR
        refine dstep hR (i := 5) rfl (by kernel_rfl) (fun _ _ _ h => h) (fun _ _ H' => (Runs.move A rfl)) A rfl hS ?_; clear A a hR; intro a A hR
        refine dstep hR (i := 6) rfl (by kernel_rfl) (fun _ _ _ h => h) (fun _ _ H' => (Runs.move A rfl)) A rfl hS ?_; clear A a hR; intro a A hR
        refine dstep hR (i := 7) rfl (by kernel_rfl) (fun _ _ _ h => h) (fun _ _ H' => (Runs.sliceLlo A rfl rfl SlC.h (by omega) (by omega))) A rfl hS ?_; clear A a hR; intro a A hR
        refine dlist hR (i := 8) rfl (by kernel_rfl) ?_
        have hR := hR.next (i := 8) (by kernel_rfl)
        have ei1 : ((i : Int) + ((1 : Nat) : Int)).toNat = i + 1 := by omega
        simp only [ei1, Int.toNat_natCast] at A
        rw [cutAd_some (show i + 1 < c2 by omega), cutAd_some (show i < c by omega), Nat.zero_add, Nat.zero_add] at A
        refine step_copy (q := n - i) (vs := xs.drop (i * 2)) A H rfl rfl (by show min _ _ = _; omega) hV (by rw [List.all_eq_true] at hone ⊢; exact fun x hx => hone x (List.mem_of_mem_drop hx)) (set_mid (by rw [List.length_append, hAl]; simp only [List.length_cons, List.length_nil]; omega) (by rw [hVl, List.length_drop]; simp only [List.length_cons, List.length_nil]; omega)) rfl ?_; clear A a; intro a w A H
        refine wpList_nil ?_
        clear hS; refine and_keep (H.sw hL) fun hS => ?_
        refine draw_done hR (by kernel_rfl) ?_
        clear hS hL hR
        refine wp_seq ?_
        refine wp_region_lit ?_
        refine step (Runs.move A rfl) A rfl ?_; clear A a; intro a A
        refine step (Runs.assign A rfl) A rfl ?_; clear A a; intro a A
        refine wpList_nil ?_
        refine wp_ret ?_
        have hA2 := ins_take1 hct (show i * 2 ≤ n * 2 by omega)
        rw [hA2] at H hAl
        have H := H.block_row (k := n + 1) (c := c2) (size := 2) (xs := (xs.take (i * 2) ++ [u64 id, .slice adv nv cv] ++ xs.drop (i * 2))) (by simp only [List.length_append, hAl, hVl, List.length_cons, List.length_nil]; omega) (by omega) (by omega) (by simp only [List.length_append, hAl, hVl, List.length_cons, List.length_nil, List.length_drop]; omega) (take_ins (by simp only [hAl, hVl, List.length_cons, List.length_nil]; omega))
        exact retV A rfl rfl hM H ⟨_, _, rfl, rfl⟩
      · have g3 := h3
        try simp only [decide_eq_true_eq, decide_eq_false_iff_not, Bool.not_eq_true', Bool.not_eq_false', ne_eq, Decidable.not_not, Int.not_lt, Int.not_le] at g3
        refine wp_skip ?_
        refine wp_seq ?_
        refine wp_region_lit ?_
        refine step (Runs.move A rfl) A rfl ?_; clear A a; intro a A
        refine step (Runs.move A rfl) A rfl ?_; clear A a; intro a A
        refine step (Runs.move A rfl) A rfl ?_; clear A a; intro a A
        refine step (Runs.add A rfl rfl (by omega)) A rfl ?_; clear A a; intro a A
        refine step (Runs.sliceLhi A rfl rfl SlC.h (by omega) (by omega)) A rfl ?_; clear A a; intro a A
        have en1 : ((n : Int) + ((1 : Nat) : Int)).toNat = n + 1 := by omega
        simp only [en1] at A
        rw [cutAd_some (show 0 < c by omega)] at A
        simp only [Nat.zero_mul, Nat.add_zero] at A
        refine step (Runs.assign A rfl) A rfl ?_; clear A a; intro a A
        refine wpList_nil ?_
        refine wp_seq ?_
        refine wp_seq ?_
        refine wp_region_lit ?_
        refine step (Runs.move A rfl) A rfl ?_; clear A a; intro a A
        refine step (Runs.move A rfl) A rfl ?_; clear A a; intro a A
        refine step (Runs.move A rfl) A rfl ?_; clear A a; intro a A
        refine step (Runs.move A rfl) A rfl ?_; clear A a; intro a A
        refine step (Runs.add A rfl rfl (by omega)) A rfl ?_; clear A a; intro a A
        refine step (Runs.sliceLlo A rfl rfl SlC.h (by omega) (by omega)) A rfl ?_; clear A a; intro a A
        have ei1 : ((i : Int) + ((1 : Nat) : Int)).toNat = i + 1 := by omega
        simp only [ei1] at A
        rw [cutAd_some (show i + 1 < c by omega), Nat.zero_add] at A
        refine step_overlaps (t := 31) (tR := 4) (fn := Tryz.f112) A H rfl rfl Tryz.func112 (by kernel_rfl) (by kernel_rfl) (by kernel_rfl) (by kernel_rfl) (by omega) rfl ?_; clear A a; intro a A
        refine step (Runs.not A rfl) A rfl ?_; clear A a; intro a A
        refine wpList_nil ?_
        refine cond_true A rfl rfl ?_
        refine wp_seq ?_
        refine draw_begin (ms := m) (Ls := []) (by kernel_rfl) (N := 9) rfl (by kernel_rfl) H ?_; clear H; intro w H hR
        have hS : SW m [] w := H.sw (Le.refl m)
        have hL := Le.refl m
        refine dstep hR (i := 0) rfl (by kernel_rfl) (fun _ _ _ h => h) (fun _ _ H' => (Runs.move A rfl)) A rfl hS ?_; clear A a hR; intro a A hR
        refine dstep hR (i := 1) rfl (by kernel_rfl) (fun _ _ _ h => h) (fun _ _ H' => (Runs.move A rfl)) A rfl hS ?_; clear A a hR; intro a A hR
        refine dstep hR (i := 2) rfl (by kernel_rfl) (fun _ _ _ h => h) (fun _ _ H' => (Runs.move A rfl)) A rfl hS ?_; clear A a hR; intro a A hR
        refine dstep hR (i := 3) rfl (by kernel_rfl) (fun _ _ _ h => h) (fun _ _ H' => (Runs.add A rfl rfl (by omega))) A rfl hS ?_; clear A a hR; intro a A hR
        refine dstep hR (i := 4) rfl (by kernel_rfl) (fun _ _ _ h => h) (fun _ _ H' => (Runs.sliceLlo A rfl rfl SlC.h (by omega) (by omega))) A rfl hS ?_; clear A a hR; intro a A hR
        refine dstep hR (i := 5) rfl (by kernel_rfl) (fun _ _ _ h => h) (fun _ _ H' => (Runs.move A rfl)) A rfl hS ?_; clear A a hR; intro a A hR
        refine dstep hR (i := 6) rfl (by kernel_rfl) (fun _ _ _ h => h) (fun _ _ H' => (Runs.move A rfl)) A rfl hS ?_; clear A a hR; intro a A hR
        refine dstep hR (i := 7) rfl (by kernel_rfl) (fun _ _ _ h => h) (fun _ _ H' => (Runs.sliceLlo A rfl rfl SlC.h (by omega) (by omega))) A rfl hS ?_; clear A a hR; intro a A hR
        refine dlist hR (i := 8) rfl (by kernel_rfl) ?_
        have hR := hR.next (i := 8) (by kernel_rfl)
        simp only [ei1, Int.toNat_natCast] at A
        rw [cutAd_some (show i + 1 < c by omega), cutAd_some (show i < c by omega), Nat.zero_add, Nat.zero_add] at A
        have hVl : (xs.drop (i * 2)).length = (n - i) * 2 := by rw [List.length_drop]; omega
        have hV : getN cur (i * 2) ((n - i) * 2) = some (xs.drop (i * 2)) := by rw [getN_of (by omega), ← ins_mid hct (show i * 2 ≤ n * 2 by omega)]; congr 2; omega
        have hE : ((cur.drop (i * 2)).take 2).length = 2 := by rw [List.length_take, List.length_drop]; omega
        have hAl : (cur.take (i * 2)).length = i * 2 := by rw [List.length_take]; omega
        have hT : cur.take ((i + 1) * 2) = cur.take (i * 2) ++ (cur.drop (i * 2)).take 2 := by rw [show (i + 1) * 2 = i * 2 + 2 by omega, List.take_add]
        refine step_copy (q := n - i) (vs := xs.drop (i * 2)) (cs' := cur.take (i * 2) ++ (cur.drop (i * 2)).take 2 ++ xs.drop (i * 2) ++ cur.drop ((i + 1) * 2 + (n - i) * 2)) A H rfl rfl (by show min _ _ = _; omega) hV (by rw [List.all_eq_true] at hone ⊢; exact fun x hx => hone x (List.mem_of_mem_drop hx)) (by rw [setN_put (by rw [hVl]; omega), hVl, hT]) rfl ?_; clear A a; intro a w A H
        refine wpList_nil ?_
        clear hS; refine and_keep (H.sw hL) fun hS => ?_
        refine draw_done hR (by kernel_rfl) ?_
        clear hS hL hR
        refine wp_seq ?_
        refine wp_region_lit ?_
        refine step (Runs.move A rfl) A rfl ?_; clear A a; intro a A
        refine step (Runs.move A rfl) A rfl ?_; clear A a; intro a A
        refine step (Runs.sliceLlo A rfl rfl SlC.h (by omega) (by omega)) A rfl ?_; clear A a; intro a A
        simp only [Int.toNat_natCast] at A
        rw [cutAd_some (show i < c by omega), Nat.zero_add] at A
        refine step (Runs.move A rfl) A rfl ?_; clear A a; intro a A
        refine step_copy (q := 1) (vs := [u64 id, .slice adv nv cv]) (cs' := cur.take (i * 2) ++ [u64 id, .slice adv nv cv] ++ xs.drop (i * 2) ++ cur.drop ((i + 1) * 2 + (n - i) * 2)) A H rfl rfl (by show min _ _ = _; omega) rfl rfl (by rw [setN_put (by simp only [List.length_append, hAl, hE, hVl, List.length_cons, List.length_nil]; omega)]; exact congrArg some (ins_shift hAl hE)) rfl ?_; clear A a; intro a w A H
        refine wpList_nil ?_
        refine wp_seq ?_
        refine wp_region_lit ?_
        refine step (Runs.move A rfl) A rfl ?_; clear A a; intro a A
        refine step (Runs.assign A rfl) A rfl ?_; clear A a; intro a A
        refine wpList_nil ?_
        refine wp_ret ?_
        have hA2 := ins_take1 hct (show i * 2 ≤ n * 2 by omega)
        rw [hA2] at H hAl
        have H := H.block_row (k := n + 1) (c := c) (size := 2) (xs := (xs.take (i * 2) ++ [u64 id, .slice adv nv cv] ++ xs.drop (i * 2))) (by simp only [List.length_append, hAl, hVl, List.length_cons, List.length_nil]; omega) (by omega) (by omega) (by simp only [List.length_append, hAl, hVl, List.length_cons, List.length_nil, List.length_drop]; omega) (take_ins (by simp only [hAl, hVl, List.length_cons, List.length_nil]; omega))
        exact retV A rfl rfl hM H ⟨_, _, rfl, rfl⟩
end Sl
end Go.Proofs.YtanhehbfbakdcaaGreatDoor
