/- Stores: the reference's with, PutIn: walks, printed by my gen.py out of annotations. -/
import Derived.Test.YtanhehbfbakdcaaGreatDoorObjU
set_option linter.unusedSimpArgs false
set_option linter.unusedVariables false
namespace Go.Proofs.YtanhehbfbakdcaaGreatDoor
namespace Sl
open Go

def withP (l : List Obj) (o : Obj) : List Obj := l.take (lbP l o.id) ++ [o] ++ l.drop (lbP l o.id + if atP l o.id then 1 else 0)
theorem lbP_of2 {l : List Obj} {id : UInt64} {i : Nat} (hi : i ≤ l.length) (h1 : ∀ (k : Nat) (x : Obj), k < i → l[k]? = some x → x.id < id) (h2 : ∀ x, l[i]? = some x → ¬ x.id < id) : lbP l id = i :=
  tw_len hi (fun k x hk hx => decide_eq_true (h1 k x hk hx)) (fun x hx => decide_eq_false (h2 x hx))

theorem c_with {ad : Option Addr} {n c : Nat} {l : List Obj} {id : UInt64} {d : List UInt8} {ado : Option Addr} {no co : Nat} {m : Mem} (hl : Objs m ad n c l) (hb : n ≤ 1100000) (ho : Dat m (.slice ado no co) d) : Spec Tryz.prog 45 #[.slice ad n c, .agg #[u64 id, .slice ado no co]] m [] (RetF fun m' v => ∃ ad' c', v = .slice ad' (withP l ⟨id, d⟩).length c' ∧ Objs m' ad' (withP l ⟨id, d⟩).length c' (withP l ⟨id, d⟩)) := by
  refine Spec.enter0 Tryz.func45 rfl 56 Tryz.ntmps45 rfl fun a w0 Lf A H => ?_
  have hM := Le.refl m
  have hn := hl.1
  have hcap := hl.cap
  have hmx : maxLen = 9223372036854775807 := rfl
  refine wp_seq ?_
  refine wp_region_lit ?_
  refine step_box A H rfl (by simp only [Value.cells, List.toList_toArray]; rfl) rfl ?_; intro b1 a w A H
  refine step (Runs.assign A rfl) A rfl ?_; clear A a; intro a A
  refine wpList_nil ?_
  refine wp_seq ?_
  refine wp_region_lit ?_
  refine step_slice A H rfl rfl rfl rfl rfl rfl ?_; intro b2 a w A H
  refine step (Runs.assign A rfl) A rfl ?_; clear A a; intro a A
  refine wpList_nil ?_
  refine wp_seq ?_
  refine wp_region_lit ?_
  refine step (Runs.assign A rfl) A rfl ?_; clear A a; intro a A
  refine wpList_nil ?_
  refine wp_seq ?_
  refine wp_block ?_
  have H := H.row_pt (n := 0) (size := 2) rfl (by omega)
  refine wp_loop_ghost (fun q a w => ∃ (i : Nat) (ad2 : Option Addr) (c2 : Nat) (xs : List Value) (m' : Mem), q = n + 1 - i ∧ (i ≤ n ∧ (∀ (k : Nat) (x : Obj), k < i → l[k]? = some x → x.id < id) ∧ OR m' xs (l.take i)) ∧ Le m m' ∧ Fr 56 a [(0, .slice ad n c), (3, .pointer (some ⟨b1, 0, none⟩)), (5, .slice ad2 i c2), (6, .int .i64 i)] [] ∧ St w0 w m' (row 66 2 ad2 i c2 xs :: pt b1 [u64 id, .slice ado no co] 66 :: Lf)) _ ⟨0, some ⟨b2, 0, none⟩, 0, [], m, rfl, ⟨by omega, fun k _ h => absurd h (by omega), trivial⟩, Le.refl m, (Fr.cons A rfl (Fr.cons A rfl (Fr.cons A rfl (Fr.cons A rfl (Fr.nil A))))), H⟩ ?_
  clear A H; rintro q a w ⟨i, ad2, c2, xs, m, rfl, hinv, hm, A, H⟩
  have hM := hM.trans hm
  have hl := hl.mono hm
  have ho := ho.mono hm
  have hl1 := hm
  obtain ⟨hin, hall, hxs⟩ := hinv
  refine wp_seq ?_
  refine wp_seq ?_
  refine draw_begin (ms := m) (Ls := [pt b1 [u64 id, .slice ado no co] 66]) (by kernel_rfl) (N := 14) rfl (by kernel_rfl) H ?_; clear H; intro w H hR
  have hS : SW m [pt b1 [u64 id, .slice ado no co] 66] w := H.sw (Le.refl m)
  have hL := Le.refl m
  refine dstep hR (i := 0) rfl (by kernel_rfl) (fun _ _ _ h => h) (fun _ _ H' => (Runs.move A rfl)) A rfl hS ?_; clear A a hR; intro a A hR
  refine dstep hR (i := 1) rfl (by kernel_rfl) (fun _ _ _ h => h) (fun _ _ H' => (Runs.move A rfl)) A rfl hS ?_; clear A a hR; intro a A hR
  refine dstep hR (i := 2) rfl (by kernel_rfl) (fun _ _ _ h => h) (fun _ _ H' => (Runs.lenL A rfl SlC.h)) A rfl hS ?_; clear A a hR; intro a A hR
  refine dstep hR (i := 3) rfl (by kernel_rfl) (fun _ _ _ h => h) (fun _ _ H' => (Runs.lss A rfl rfl)) A rfl hS ?_; clear A a hR; intro a A hR
  refine dstep hR (i := 4) rfl (by kernel_rfl) (fun _ _ _ h => h) (fun _ _ H' => (Runs.move A rfl)) A rfl hS ?_; clear A a hR; intro a A hR
  refine onBool A (dj := 12) rfl (fun h1 => ?_) (fun h1 => ?_)
  · have g1 := h1
    try simp only [decide_eq_true_eq, decide_eq_false_iff_not, Bool.not_eq_true', Bool.not_eq_false', ne_eq, Decidable.not_not, Int.not_lt, Int.not_le] at g1
    refine dstepG hR (i := 5) (dj := 12) rfl (by kernel_rfl) (fun _ _ _ h => h) rfl rfl h1 (fun _ _ H' => (Runs.move A rfl)) A rfl hS ?_; clear A a hR; intro a A hR
    refine dstepG hR (i := 6) (dj := 12) rfl (by kernel_rfl) (fun _ _ _ h => h) rfl rfl h1 (fun _ _ H' => (Runs.move A rfl)) A rfl hS ?_; clear A a hR; intro a A hR
    obtain ⟨x, hx⟩ := ex_at (l := l) (i := i) (by omega)
    obtain ⟨bb, off, cs, e0, hfz, hcs⟩ := hl.all_ (by omega)
    rw [e0] at A
    obtain ⟨vx, hx1, hx2, hx3, hxd⟩ := hcs _ _ hx
    obtain ⟨adx, nx, cx, rfl, hsx, hnx⟩ := hxd
    have hxd : Dat m (.slice adx nx cx) x.data := ⟨_, _, _, rfl, hsx, hnx⟩
    refine dstepG hR (i := 7) (dj := 12) rfl (by kernel_rfl) (fun _ _ _ h => h) rfl rfl h1 (fun _ _ H' => (Runs.indexAddr A rfl rfl SlC.h (by omega) (by omega))) A rfl hS ?_; clear A a hR; intro a A hR
    refine dstepG hR (i := 8) (dj := 12) rfl (by kernel_rfl) (fun _ _ _ h => h) rfl rfl h1 (fun _ _ H' => (Runs.fa A rfl)) A rfl hS ?_; clear A a hR; intro a A hR
    refine dstepG hR (i := 9) (dj := 12) rfl (by kernel_rfl) (fun _ _ _ h => h) rfl rfl h1 (fun _ _ H' => (Runs.ld1 A H' rfl (v := u64 x.id) (by rw [Int.toNat_natCast]; exact hx1))) A rfl hS ?_; clear A a hR; intro a A hR
    refine dstepG hR (i := 10) (dj := 12) rfl (by kernel_rfl) (fun _ _ _ h => h) rfl rfl h1 (fun _ _ H' => (Runs.fa A rfl)) A rfl hS ?_; clear A a hR; intro a A hR
    refine dstepG hR (i := 11) (dj := 12) rfl (by kernel_rfl) (fun _ _ _ h => h) rfl rfl h1 (fun _ _ H' => (Runs.ld1 A H' rfl rfl)) A rfl hS ?_; clear A a hR; intro a A hR
    refine dstepG hR (i := 12) (dj := 12) rfl (by kernel_rfl) (fun _ _ _ h => h) rfl rfl h1 (fun _ _ H' => (Runs.lss A rfl rfl)) A rfl hS ?_; clear A a hR; intro a A hR
    refine dstep hR (i := 13) rfl (by kernel_rfl) (fun _ _ _ h => h) (fun _ _ H' => (Runs.pickT A rfl h1 rfl)) A rfl hS ?_; clear A a hR; intro a A hR
    refine draw_done hR (by kernel_rfl) ?_
    clear hS hL hR
    refine cond_split A rfl (fun h2 => ?_) (fun h2 => ?_)
    · have g2 := h2
      try simp only [decide_eq_true_eq, decide_eq_false_iff_not, Bool.not_eq_true', Bool.not_eq_false', ne_eq, Decidable.not_not, Int.not_lt, Int.not_le] at g2
      refine wp_skip ?_
      refine wp_block ?_
      refine wp_seq ?_
      refine wp_region_lit ?_
      refine step (Runs.move A rfl) A rfl ?_; clear A a; intro a A
      refine step (Runs.move A rfl) A rfl ?_; clear A a; intro a A
      refine step (Runs.move A rfl) A rfl ?_; clear A a; intro a A
      try rw [e0] at A
      refine step (Runs.indexAddr A rfl rfl SlC.h (by omega) (by omega)) A rfl ?_; clear A a; intro a A
      refine step (Runs.ldN A H rfl (by rw [Int.toNat_natCast]; exact hx3)) A rfl ?_; clear A a; intro a A
      refine step_slice A H rfl rfl rfl rfl rfl rfl ?_; intro b3 a w A H
      refine step_append A H rfl rfl rfl rfl (by decide) (by omega) (by simp only [maxLen]; omega) rfl rfl ?_; clear A a; intro ad1 c1 a w A H
      refine step (Runs.assign A rfl) A rfl ?_; clear A a; intro a A
      refine wpList_nil ?_
      refine wp_region_lit ?_
      refine step (Runs.move A rfl) A rfl ?_; clear A a; intro a A
      refine step (Runs.add A rfl rfl (by omega)) A rfl ?_; clear A a; intro a A
      refine step (Runs.assign A rfl) A rfl ?_; clear A a; intro a A
      refine wpList_nil ?_
      have hlt : x.id < id := by rw [UInt64.lt_iff_toNat_lt]; have := g2; omega
      rw [← e0] at A
      exact ⟨_, by omega, i + 1, _, _, _, m, rfl, ⟨by omega, lt_ext hall hx hlt, by rw [show l.take (i + 1) = l.take i ++ [x] by rw [List.take_add_one, hx]; rfl]; exact hxs.app (OR.single hxd)⟩, hl1, (Fr.cons A rfl (Fr.cons A rfl (Fr.cons A rfl (Fr.cons A rfl (Fr.nil A))))), H.subH⟩
    · have g2 := h2
      try simp only [decide_eq_true_eq, decide_eq_false_iff_not, Bool.not_eq_true', Bool.not_eq_false', ne_eq, Decidable.not_not, Int.not_lt, Int.not_le] at g2
      refine wp_exit ?_
      refine wp_seq ?_
      refine wp_region_lit ?_
      refine step (Runs.move A rfl) A rfl ?_; clear A a; intro a A
      refine step (Runs.ldN A H rfl rfl) A rfl ?_; clear A a; intro a A
      refine step_slice A H rfl rfl rfl rfl rfl rfl ?_; intro b4 a w A H
      refine step_append A H rfl rfl rfl rfl (by decide) (by omega) (by simp only [maxLen]; omega) rfl rfl ?_; clear A a; intro ad2 c2 a w A H
      refine step (Runs.assign A rfl) A rfl ?_; clear A a; intro a A
      refine wpList_nil ?_
      refine wp_seq ?_
      refine wp_seq ?_
      refine draw_begin (ms := m) (Ls := [pt b1 [u64 id, .slice ado no co] 66]) (by kernel_rfl) (N := 14) rfl (by kernel_rfl) H ?_; clear H; intro w H hR
      have hS : SW m [pt b1 [u64 id, .slice ado no co] 66] w := H.sw (Le.refl m)
      have hL := Le.refl m
      refine dstep hR (i := 0) rfl (by kernel_rfl) (fun _ _ _ h => h) (fun _ _ H' => (Runs.move A rfl)) A rfl hS ?_; clear A a hR; intro a A hR
      refine dstep hR (i := 1) rfl (by kernel_rfl) (fun _ _ _ h => h) (fun _ _ H' => (Runs.move A rfl)) A rfl hS ?_; clear A a hR; intro a A hR
      refine dstep hR (i := 2) rfl (by kernel_rfl) (fun _ _ _ h => h) (fun _ _ H' => (Runs.lenL A rfl SlC.h)) A rfl hS ?_; clear A a hR; intro a A hR
      refine dstep hR (i := 3) rfl (by kernel_rfl) (fun _ _ _ h => h) (fun _ _ H' => (Runs.lss A rfl rfl)) A rfl hS ?_; clear A a hR; intro a A hR
      refine dstep hR (i := 4) rfl (by kernel_rfl) (fun _ _ _ h => h) (fun _ _ H' => (Runs.move A rfl)) A rfl hS ?_; clear A a hR; intro a A hR
      refine onBool A (dj := 39) rfl (fun h3 => ?_) (fun h3 => ?_)
      · have g3 := h3
        try simp only [decide_eq_true_eq, decide_eq_false_iff_not, Bool.not_eq_true', Bool.not_eq_false', ne_eq, Decidable.not_not, Int.not_lt, Int.not_le] at g3
        refine dstepG hR (i := 5) (dj := 39) rfl (by kernel_rfl) (fun _ _ _ h => h) rfl rfl h3 (fun _ _ H' => (Runs.move A rfl)) A rfl hS ?_; clear A a hR; intro a A hR
        refine dstepG hR (i := 6) (dj := 39) rfl (by kernel_rfl) (fun _ _ _ h => h) rfl rfl h3 (fun _ _ H' => (Runs.move A rfl)) A rfl hS ?_; clear A a hR; intro a A hR
        try rw [e0] at A
        refine dstepG hR (i := 7) (dj := 39) rfl (by kernel_rfl) (fun _ _ _ h => h) rfl rfl h3 (fun _ _ H' => (Runs.indexAddr A rfl rfl SlC.h (by omega) (by omega))) A rfl hS ?_; clear A a hR; intro a A hR
        refine dstepG hR (i := 8) (dj := 39) rfl (by kernel_rfl) (fun _ _ _ h => h) rfl rfl h3 (fun _ _ H' => (Runs.fa A rfl)) A rfl hS ?_; clear A a hR; intro a A hR
        refine dstepG hR (i := 9) (dj := 39) rfl (by kernel_rfl) (fun _ _ _ h => h) rfl rfl h3 (fun _ _ H' => (Runs.ld1 A H' rfl (v := u64 x.id) (by rw [Int.toNat_natCast]; exact hx1))) A rfl hS ?_; clear A a hR; intro a A hR
        refine dstepG hR (i := 10) (dj := 39) rfl (by kernel_rfl) (fun _ _ _ h => h) rfl rfl h3 (fun _ _ H' => (Runs.fa A rfl)) A rfl hS ?_; clear A a hR; intro a A hR
        refine dstepG hR (i := 11) (dj := 39) rfl (by kernel_rfl) (fun _ _ _ h => h) rfl rfl h3 (fun _ _ H' => (Runs.ld1 A H' rfl rfl)) A rfl hS ?_; clear A a hR; intro a A hR
        refine dstepG hR (i := 12) (dj := 39) rfl (by kernel_rfl) (fun _ _ _ h => h) rfl rfl h3 (fun _ _ H' => (Runs.eql A rfl rfl)) A rfl hS ?_; clear A a hR; intro a A hR
        refine dstep hR (i := 13) rfl (by kernel_rfl) (fun _ _ _ h => h) (fun _ _ H' => (Runs.pickT A rfl h3 rfl)) A rfl hS ?_; clear A a hR; intro a A hR
        refine draw_done hR (by kernel_rfl) ?_
        clear hS hL hR
        refine cond_split A rfl (fun h4 => ?_) (fun h4 => ?_)
        · have g4 := h4
          try simp only [decide_eq_true_eq, decide_eq_false_iff_not, Bool.not_eq_true', Bool.not_eq_false', ne_eq, Decidable.not_not, Int.not_lt, Int.not_le] at g4
          refine wp_region_lit ?_
          refine step (Runs.move A rfl) A rfl ?_; clear A a; intro a A
          refine step (Runs.add A rfl rfl (by omega)) A rfl ?_; clear A a; intro a A
          refine step (Runs.assign A rfl) A rfl ?_; clear A a; intro a A
          refine wpList_nil ?_
          refine wp_seq ?_
          refine wp_region_lit ?_
          refine step (Runs.move A rfl) A rfl ?_; clear A a; intro a A
          refine step (Runs.move A rfl) A rfl ?_; clear A a; intro a A
          refine step (Runs.move A rfl) A rfl ?_; clear A a; intro a A
          refine step (Runs.sliceLlo A rfl rfl SlC.h (by omega) (by omega)) A rfl ?_; clear A a; intro a A
          rw [← e0] at A
          have ei1 : ((i : Int) + 1).toNat = i + 1 := by omega
          simp only [ei1] at A
          obtain ⟨_, ys1, hS1, hO1⟩ := hl.lo (i := i + 1) (by omega)
          refine step_appendR A H rfl rfl hS1 hO1.one (by decide) (by omega) (by omega) rfl rfl ?_; clear A a; intro ad3 c3 a w A H
          refine step (Runs.assign A rfl) A rfl ?_; clear A a; intro a A
          refine wpList_nil ?_
          refine wp_ret ?_
          have hlb : lbP l id = i := lbP_of2 (by omega) hall (fun y hy => (by rw [hx] at hy; cases hy; rw [UInt64.lt_iff_toNat_lt]; omega))
          have hat : atP l id = true := by rw [atP, hlb, hx]; simp only [Option.any_some, decide_eq_true_eq]; rw [← UInt64.toNat_inj]; omega
          have e : withP l ⟨id, d⟩ = l.take i ++ [⟨id, d⟩] ++ l.drop (i + 1) := by rw [withP, hlb, hat]; rfl
          have hOR2 : OR m (xs ++ [u64 id, .slice ado no co] ++ ys1) (withP l ⟨id, d⟩) := by rw [e]; exact (hxs.app (OR.single (o := ⟨id, d⟩) ho)).app hO1
          have hlen : i + 1 + (n - (i + 1)) = (withP l ⟨id, d⟩).length := by rw [e]; simp only [List.length_append, List.length_take, List.length_drop, List.length_cons, List.length_nil]; omega
          rw [hlen] at A
          obtain ⟨m2, hm2, hO, H⟩ := H.row_objs hOR2
          exact retF A rfl rfl (hM.trans hm2) H ⟨_, _, rfl, hO⟩
        · have g4 := h4
          try simp only [decide_eq_true_eq, decide_eq_false_iff_not, Bool.not_eq_true', Bool.not_eq_false', ne_eq, Decidable.not_not, Int.not_lt, Int.not_le] at g4
          refine wp_skip ?_
          refine wp_seq ?_
          refine wp_region_lit ?_
          refine step (Runs.move A rfl) A rfl ?_; clear A a; intro a A
          refine step (Runs.move A rfl) A rfl ?_; clear A a; intro a A
          refine step (Runs.move A rfl) A rfl ?_; clear A a; intro a A
          refine step (Runs.sliceLlo A rfl rfl SlC.h (by omega) (by omega)) A rfl ?_; clear A a; intro a A
          try rw [← e0] at A
          simp only [Int.toNat_natCast] at A
          obtain ⟨_, ys1, hS1, hO1⟩ := hl.lo (i := i) (by omega)
          refine step_appendR A H rfl rfl hS1 hO1.one (by decide) (by omega) (by omega) rfl rfl ?_; clear A a; intro ad4 c4 a w A H
          refine step (Runs.assign A rfl) A rfl ?_; clear A a; intro a A
          refine wpList_nil ?_
          refine wp_ret ?_
          have hlb : lbP l id = i := lbP_of2 (by omega) hall (fun y hy => (by rw [hx] at hy; cases hy; rw [UInt64.lt_iff_toNat_lt]; omega))
          have hat : atP l id = false := by rw [atP, hlb, hx]; simp only [Option.any_some, decide_eq_false_iff_not]; rw [← UInt64.toNat_inj]; omega
          have e : withP l ⟨id, d⟩ = l.take i ++ [⟨id, d⟩] ++ l.drop (i) := by rw [withP, hlb, hat]; rfl
          have hOR2 : OR m (xs ++ [u64 id, .slice ado no co] ++ ys1) (withP l ⟨id, d⟩) := by rw [e]; exact (hxs.app (OR.single (o := ⟨id, d⟩) ho)).app hO1
          have hlen : i + 1 + (n - (i)) = (withP l ⟨id, d⟩).length := by rw [e]; simp only [List.length_append, List.length_take, List.length_drop, List.length_cons, List.length_nil]; omega
          rw [hlen] at A
          obtain ⟨m2, hm2, hO, H⟩ := H.row_objs hOR2
          exact retF A rfl rfl (hM.trans hm2) H ⟨_, _, rfl, hO⟩
      · have g3 := h3
        try simp only [decide_eq_true_eq, decide_eq_false_iff_not, Bool.not_eq_true', Bool.not_eq_false', ne_eq, Decidable.not_not, Int.not_lt, Int.not_le] at g3
        exfalso; omega
  · have g1 := h1
    try simp only [decide_eq_true_eq, decide_eq_false_iff_not, Bool.not_eq_true', Bool.not_eq_false', ne_eq, Decidable.not_not, Int.not_lt, Int.not_le] at g1
    refine dskip hR (i := 5) (dj := 12) rfl (by kernel_rfl) (fun _ _ _ h => h) rfl rfl h1 A rfl hS ?_; clear A a hR; intro a A hR
    refine dskip hR (i := 6) (dj := 12) rfl (by kernel_rfl) (fun _ _ _ h => h) rfl rfl h1 A rfl hS ?_; clear A a hR; intro a A hR
    refine dskip hR (i := 7) (dj := 12) rfl (by kernel_rfl) (fun _ _ _ h => h) rfl rfl h1 A rfl hS ?_; clear A a hR; intro a A hR
    refine dskip hR (i := 8) (dj := 12) rfl (by kernel_rfl) (fun _ _ _ h => h) rfl rfl h1 A rfl hS ?_; clear A a hR; intro a A hR
    refine dskip hR (i := 9) (dj := 12) rfl (by kernel_rfl) (fun _ _ _ h => h) rfl rfl h1 A rfl hS ?_; clear A a hR; intro a A hR
    refine dskip hR (i := 10) (dj := 12) rfl (by kernel_rfl) (fun _ _ _ h => h) rfl rfl h1 A rfl hS ?_; clear A a hR; intro a A hR
    refine dskip hR (i := 11) (dj := 12) rfl (by kernel_rfl) (fun _ _ _ h => h) rfl rfl h1 A rfl hS ?_; clear A a hR; intro a A hR
    refine dskip hR (i := 12) (dj := 12) rfl (by kernel_rfl) (fun _ _ _ h => h) rfl rfl h1 A rfl hS ?_; clear A a hR; intro a A hR
    refine dstep hR (i := 13) rfl (by kernel_rfl) (fun _ _ _ h => h) (fun _ _ H' => (Runs.pickF A rfl h1 rfl)) A rfl hS ?_; clear A a hR; intro a A hR
    refine draw_done hR (by kernel_rfl) ?_
    clear hS hL hR
    refine cond_false A rfl rfl ?_
    refine wp_exit ?_
    refine wp_seq ?_
    refine wp_region_lit ?_
    refine step (Runs.move A rfl) A rfl ?_; clear A a; intro a A
    refine step (Runs.ldN A H rfl rfl) A rfl ?_; clear A a; intro a A
    refine step_slice A H rfl rfl rfl rfl rfl rfl ?_; intro b5 a w A H
    refine step_append A H rfl rfl rfl rfl (by decide) (by omega) (by simp only [maxLen]; omega) rfl rfl ?_; clear A a; intro ad5 c5 a w A H
    refine step (Runs.assign A rfl) A rfl ?_; clear A a; intro a A
    refine wpList_nil ?_
    refine wp_seq ?_
    refine wp_seq ?_
    refine draw_begin (ms := m) (Ls := [pt b1 [u64 id, .slice ado no co] 66]) (by kernel_rfl) (N := 14) rfl (by kernel_rfl) H ?_; clear H; intro w H hR
    have hS : SW m [pt b1 [u64 id, .slice ado no co] 66] w := H.sw (Le.refl m)
    have hL := Le.refl m
    refine dstep hR (i := 0) rfl (by kernel_rfl) (fun _ _ _ h => h) (fun _ _ H' => (Runs.move A rfl)) A rfl hS ?_; clear A a hR; intro a A hR
    refine dstep hR (i := 1) rfl (by kernel_rfl) (fun _ _ _ h => h) (fun _ _ H' => (Runs.move A rfl)) A rfl hS ?_; clear A a hR; intro a A hR
    refine dstep hR (i := 2) rfl (by kernel_rfl) (fun _ _ _ h => h) (fun _ _ H' => (Runs.lenL A rfl SlC.h)) A rfl hS ?_; clear A a hR; intro a A hR
    refine dstep hR (i := 3) rfl (by kernel_rfl) (fun _ _ _ h => h) (fun _ _ H' => (Runs.lss A rfl rfl)) A rfl hS ?_; clear A a hR; intro a A hR
    refine dstep hR (i := 4) rfl (by kernel_rfl) (fun _ _ _ h => h) (fun _ _ H' => (Runs.move A rfl)) A rfl hS ?_; clear A a hR; intro a A hR
    refine onBool A (dj := 39) rfl (fun h5 => ?_) (fun h5 => ?_)
    · have g5 := h5
      try simp only [decide_eq_true_eq, decide_eq_false_iff_not, Bool.not_eq_true', Bool.not_eq_false', ne_eq, Decidable.not_not, Int.not_lt, Int.not_le] at g5
      exfalso; omega
    · have g5 := h5
      try simp only [decide_eq_true_eq, decide_eq_false_iff_not, Bool.not_eq_true', Bool.not_eq_false', ne_eq, Decidable.not_not, Int.not_lt, Int.not_le] at g5
      refine dskip hR (i := 5) (dj := 39) rfl (by kernel_rfl) (fun _ _ _ h => h) rfl rfl h5 A rfl hS ?_; clear A a hR; intro a A hR
      refine dskip hR (i := 6) (dj := 39) rfl (by kernel_rfl) (fun _ _ _ h => h) rfl rfl h5 A rfl hS ?_; clear A a hR; intro a A hR
      refine dskip hR (i := 7) (dj := 39) rfl (by kernel_rfl) (fun _ _ _ h => h) rfl rfl h5 A rfl hS ?_; clear A a hR; intro a A hR
      refine dskip hR (i := 8) (dj := 39) rfl (by kernel_rfl) (fun _ _ _ h => h) rfl rfl h5 A rfl hS ?_; clear A a hR; intro a A hR
      refine dskip hR (i := 9) (dj := 39) rfl (by kernel_rfl) (fun _ _ _ h => h) rfl rfl h5 A rfl hS ?_; clear A a hR; intro a A hR
      refine dskip hR (i := 10) (dj := 39) rfl (by kernel_rfl) (fun _ _ _ h => h) rfl rfl h5 A rfl hS ?_; clear A a hR; intro a A hR
      refine dskip hR (i := 11) (dj := 39) rfl (by kernel_rfl) (fun _ _ _ h => h) rfl rfl h5 A rfl hS ?_; clear A a hR; intro a A hR
      refine dskip hR (i := 12) (dj := 39) rfl (by kernel_rfl) (fun _ _ _ h => h) rfl rfl h5 A rfl hS ?_; clear A a hR; intro a A hR
      refine dstep hR (i := 13) rfl (by kernel_rfl) (fun _ _ _ h => h) (fun _ _ H' => (Runs.pickF A rfl h5 rfl)) A rfl hS ?_; clear A a hR; intro a A hR
      refine draw_done hR (by kernel_rfl) ?_
      clear hS hL hR
      refine cond_false A rfl rfl ?_
      refine wp_skip ?_
      refine wp_seq ?_
      refine wp_region_lit ?_
      refine step (Runs.move A rfl) A rfl ?_; clear A a; intro a A
      refine step (Runs.move A rfl) A rfl ?_; clear A a; intro a A
      refine step (Runs.move A rfl) A rfl ?_; clear A a; intro a A
      refine step (Runs.sliceLlo A rfl rfl SlC.h (by omega) (by omega)) A rfl ?_; clear A a; intro a A
      try rw [← e0] at A
      simp only [Int.toNat_natCast] at A
      obtain ⟨_, ys1, hS1, hO1⟩ := hl.lo (i := i) (by omega)
      refine step_appendR A H rfl rfl hS1 hO1.one (by decide) (by omega) (by omega) rfl rfl ?_; clear A a; intro ad6 c6 a w A H
      refine step (Runs.assign A rfl) A rfl ?_; clear A a; intro a A
      refine wpList_nil ?_
      refine wp_ret ?_
      have hlb : lbP l id = i := lbP_of2 (by omega) hall (fun y hy => absurd (List.getElem?_eq_some_iff.1 hy).1 (by omega))
      have hat : atP l id = false := by rw [atP, hlb, List.getElem?_eq_none (by omega)]; rfl
      have e : withP l ⟨id, d⟩ = l.take i ++ [⟨id, d⟩] ++ l.drop (i) := by rw [withP, hlb, hat]; rfl
      have hOR2 : OR m (xs ++ [u64 id, .slice ado no co] ++ ys1) (withP l ⟨id, d⟩) := by rw [e]; exact (hxs.app (OR.single (o := ⟨id, d⟩) ho)).app hO1
      have hlen : i + 1 + (n - (i)) = (withP l ⟨id, d⟩).length := by rw [e]; simp only [List.length_append, List.length_take, List.length_drop, List.length_cons, List.length_nil]; omega
      rw [hlen] at A
      obtain ⟨m2, hm2, hO, H⟩ := H.row_objs hOR2
      exact retF A rfl rfl (hM.trans hm2) H ⟨_, _, rfl, hO⟩

theorem findP_ge {l : List Obj} {id : UInt64} (h : 0 ≤ findP l id) : ∃ (i : Nat) (x : Obj), findP l id = i ∧ l[i]? = some x := by
  unfold findP at h ⊢
  cases hf : l.findIdx? (fun o => o.id == id) with
  | none => rw [hf] at h; exact absurd h (by decide)
  | some i =>
    obtain ⟨h1, _⟩ := List.findIdx?_eq_some_iff_getElem.1 hf
    exact ⟨i, l[i], rfl, List.getElem?_eq_getElem h1⟩
def putR (l : List Obj) (d : List UInt8) : List Obj := if 0 ≤ findP l (dig d) ∧ (l[(findP l (dig d)).toNat]?).any sndP = true then l else withP l ⟨dig d, d⟩

theorem c_wireloomref18_PutIn {ad : Option Addr} {n c : Nat} {l : List Obj} {v0 : Value} {d : List UInt8} {m : Mem} (hl : Objs m ad n c l) (hb : n ≤ 1100000) (hd : Dat m v0 d) : Spec Tryz.prog 12 #[.slice ad n c, v0] m [] (RetF fun m' v => ∃ ad' c', v = .agg #[.slice ad' (putR l d).length c', u64 (dig d), .int .i64 0] ∧ Objs m' ad' (putR l d).length c' (putR l d)) := by
  refine Spec.enter0 Tryz.func12 rfl 31 Tryz.ntmps12 rfl fun a w0 Lf A H => ?_
  have hM := Le.refl m
  obtain ⟨adq, nq, cq, rfl, hsd, hnd⟩ := hd
  have hn := hl.1
  have hcap := hl.cap
  have hmx : maxLen = 9223372036854775807 := rfl
  refine wp_seq ?_
  refine wp_region_lit ?_
  refine step_alloc A H rfl ?_; clear A a; intro b1 a w A H
  refine wpList_nil ?_
  refine wp_seq ?_
  refine wp_region_lit ?_
  refine step (Runs.move A rfl) A rfl ?_; clear A a; intro a A
  refine step_callF A rfl rfl (c_wireloomref01_Bytes hsd hnd) H ?_
  rintro v1_1 a w m hm rfl A H
  have hM := hM.trans hm
  have hl := hl.mono hm
  have hsd := hsd.mono hm
  refine step (Runs.assign A rfl) A rfl ?_; clear A a; intro a A
  refine wpList_nil ?_
  refine wp_seq ?_
  refine wp_region_lit ?_
  refine step (Runs.move A rfl) A rfl ?_; clear A a; intro a A
  refine step (Runs.move A rfl) A rfl ?_; clear A a; intro a A
  refine step_callF A rfl rfl (c_wireloomref18_Find hl) H ?_
  rintro v2_2 a w m hm rfl A H
  have hM := hM.trans hm
  have hl := hl.mono hm
  have hsd := hsd.mono hm
  refine step (Runs.assign A rfl) A rfl ?_; clear A a; intro a A
  refine wpList_nil ?_
  refine wp_seq ?_
  refine wp_seq ?_
  refine wp_region_lit ?_
  refine step (Runs.move A rfl) A rfl ?_; clear A a; intro a A
  refine step (Runs.geq A rfl rfl) A rfl ?_; clear A a; intro a A
  refine step (Runs.move A rfl) A rfl ?_; clear A a; intro a A
  refine onBool A (dj := 14) rfl (fun h1 => ?_) (fun h1 => ?_)
  · have g1 := h1
    try simp only [decide_eq_true_eq, decide_eq_false_iff_not, Bool.not_eq_true', Bool.not_eq_false', ne_eq, Decidable.not_not, Int.not_lt, Int.not_le] at g1
    refine stepG (dj := 14) rfl rfl h1 (Runs.move A rfl) A rfl ?_; clear A a; intro a A
    refine stepG (dj := 14) rfl rfl h1 (Runs.move A rfl) A rfl ?_; clear A a; intro a A
    obtain ⟨i, x, hfi, hx⟩ := findP_ge (by simpa using g1)
    have h1 := h1
    rw [hfi] at A h1
    have hil := (List.getElem?_eq_some_iff.1 hx).1
    obtain ⟨bb, off, cs, e0, hfz, hcs⟩ := hl.all_ (by omega)
    rw [e0] at A
    obtain ⟨vx, hx1, hx2, hx3, hxd⟩ := hcs _ _ hx
    refine stepG (dj := 14) rfl rfl h1 (Runs.indexAddr A rfl rfl SlC.h (by omega) (by omega)) A rfl ?_; clear A a; intro a A
    refine stepG (dj := 14) rfl rfl h1 (Runs.ldN A H rfl (by rw [Int.toNat_natCast]; exact hx3)) A rfl ?_; clear A a; intro a A
    rw [← e0] at A
    refine step_callFG (dj := 14) rfl rfl h1 A rfl rfl (c_wireloomref18_Sound hxd) H ?_
    rintro v3_7 a w m hm rfl A H
    have hM := hM.trans hm
    have hl := hl.mono hm
    have hsd := hsd.mono hm
    have hxd := hxd.mono hm
    refine step (Runs.pickT A rfl h1 rfl) A rfl ?_; clear A a; intro a A
    refine wpList_nil ?_
    refine cond_split A rfl (fun h2 => ?_) (fun h2 => ?_)
    · have g2 := h2
      try simp only [decide_eq_true_eq, decide_eq_false_iff_not, Bool.not_eq_true', Bool.not_eq_false', ne_eq, Decidable.not_not, Int.not_lt, Int.not_le] at g2
      refine wp_seq ?_
      refine wp_region_lit ?_
      refine step (Runs.move A rfl) A rfl ?_; clear A a; intro a A
      refine step (Runs.move A rfl) A rfl ?_; clear A a; intro a A
      refine step (Runs.build A rfl rfl rfl) A rfl ?_; clear A a; intro a A
      refine step_store A H rfl rfl rfl rfl rfl rfl ?_; intro w H
      refine wpList_nil ?_
      refine wp_ret ?_
      have e : putR l d = l := by
        have hsx : sndP x = true := by simpa [sndP] using h2
        rw [putR, if_pos]
        rw [hfi, Int.toNat_natCast, hx]
        exact ⟨by omega, by simp [hsx]⟩
      exact retFc A rfl rfl hM H rfl ⟨_, _, by rw [e, ← hn], by rw [e, ← hn]; exact hl⟩
    · have g2 := h2
      try simp only [decide_eq_true_eq, decide_eq_false_iff_not, Bool.not_eq_true', Bool.not_eq_false', ne_eq, Decidable.not_not, Int.not_lt, Int.not_le] at g2
      refine wp_skip ?_
      refine wp_seq ?_
      refine wp_region_lit ?_
      refine step (Runs.move A rfl) A rfl ?_; clear A a; intro a A
      refine step (Runs.move A rfl) A rfl ?_; clear A a; intro a A
      refine step (Runs.move A rfl) A rfl ?_; clear A a; intro a A
      refine step (Runs.build A rfl rfl rfl) A rfl ?_; clear A a; intro a A
      refine step_callF A rfl rfl (c_with hl (by omega) ⟨_, _, _, rfl, hsd, hnd⟩) H ?_
      rintro v5_4 a w m hm ⟨adw, cw, rfl, hwi⟩ A H
      have hM := hM.trans hm
      have hl := hl.mono hm
      have hsd := hsd.mono hm
      have hxd := hxd.mono hm
      refine step (Runs.move A rfl) A rfl ?_; clear A a; intro a A
      refine step (Runs.build A rfl rfl rfl) A rfl ?_; clear A a; intro a A
      refine step_store A H rfl rfl rfl rfl rfl rfl ?_; intro w H
      refine wpList_nil ?_
      refine wp_ret ?_
      have e : putR l d = withP l ⟨dig d, d⟩ := by
        have hsx : sndP x = false := by simpa [sndP] using h2
        rw [putR, if_neg]
        rw [hfi, Int.toNat_natCast, hx]
        simp [hsx]
      exact retFc A rfl rfl hM H rfl ⟨_, _, by rw [e], by rw [e]; exact hwi⟩
  · have g1 := h1
    try simp only [decide_eq_true_eq, decide_eq_false_iff_not, Bool.not_eq_true', Bool.not_eq_false', ne_eq, Decidable.not_not, Int.not_lt, Int.not_le] at g1
    refine stepSkip (dj := 14) rfl rfl h1 A rfl ?_; clear A a; intro a A
    refine stepSkip (dj := 14) rfl rfl h1 A rfl ?_; clear A a; intro a A
    refine stepSkip (dj := 14) rfl rfl h1 A rfl ?_; clear A a; intro a A
    refine stepSkip (dj := 14) rfl rfl h1 A rfl ?_; clear A a; intro a A
    refine stepSkip (dj := 14) rfl rfl h1 A rfl ?_; clear A a; intro a A
    refine step (Runs.pickF A rfl h1 rfl) A rfl ?_; clear A a; intro a A
    refine wpList_nil ?_
    refine cond_false A rfl rfl ?_
    refine wp_skip ?_
    refine wp_seq ?_
    refine wp_region_lit ?_
    refine step (Runs.move A rfl) A rfl ?_; clear A a; intro a A
    refine step (Runs.move A rfl) A rfl ?_; clear A a; intro a A
    refine step (Runs.move A rfl) A rfl ?_; clear A a; intro a A
    refine step (Runs.build A rfl rfl rfl) A rfl ?_; clear A a; intro a A
    refine step_callF A rfl rfl (c_with hl (by omega) ⟨_, _, _, rfl, hsd, hnd⟩) H ?_
    rintro v5_4 a w m hm ⟨adw, cw, rfl, hwi⟩ A H
    have hM := hM.trans hm
    have hl := hl.mono hm
    have hsd := hsd.mono hm
    refine step (Runs.move A rfl) A rfl ?_; clear A a; intro a A
    refine step (Runs.build A rfl rfl rfl) A rfl ?_; clear A a; intro a A
    refine step_store A H rfl rfl rfl rfl rfl rfl ?_; intro w H
    refine wpList_nil ?_
    refine wp_ret ?_
    have e : putR l d = withP l ⟨dig d, d⟩ := by rw [putR, if_neg (fun h => by have := h.1; omega)]
    exact retFc A rfl rfl hM H rfl ⟨_, _, by rw [e], by rw [e]; exact hwi⟩
end Sl
end Go.Proofs.YtanhehbfbakdcaaGreatDoor
