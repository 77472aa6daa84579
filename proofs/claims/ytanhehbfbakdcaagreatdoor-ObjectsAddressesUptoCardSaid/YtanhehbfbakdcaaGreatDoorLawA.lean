/- The law's own small functions: walks, printed by my gen.py out of annotations. -/
import Derived.Test.YtanhehbfbakdcaaGreatDoorObjS
set_option linter.unusedSimpArgs false
set_option linter.unusedVariables false
namespace Go.Proofs.YtanhehbfbakdcaaGreatDoor
namespace Sl
open Go

theorem c_wireloomlaw18_put {ad : Option Addr} {n c : Nat} {l : List Obj} {v0 : Value} {d : List UInt8} {m : Mem} (hl : Objs m ad n c l) (hb : n ≤ 1100000) (hs : Srt l) (hd : Dat m v0 d) : Spec Tryz.prog 17 #[.slice ad n c, v0] m [] (RetF fun m' v => ∃ ad' c', v = .agg #[.slice ad' (putP l d).length c', u64 (dig d), .int .i64 0] ∧ Objs m' ad' (putP l d).length c' (putP l d)) := by
  refine Spec.enter0 Tryz.func17 rfl 16 Tryz.ntmps17 rfl fun a w0 Lf A H => ?_
  have hM := Le.refl m
  refine wp_seq ?_
  refine wp_region_lit ?_
  refine step_alloc A H rfl ?_; clear A a; intro b1 a w A H
  refine wpList_nil ?_
  refine wp_seq ?_
  refine wp_region_lit ?_
  refine step (Runs.move A rfl) A rfl ?_; clear A a; intro a A
  refine step (Runs.move A rfl) A rfl ?_; clear A a; intro a A
  refine step_callF A rfl rfl (c_objects_Put hl (by omega) hs hd) H ?_
  rintro v1_2 a w m hm ⟨adp, cp, rfl, hput⟩ A H
  have hM := hM.trans hm
  have hl := hl.mono hm
  have hd := hd.mono hm
  refine step (Runs.move A rfl) A rfl ?_; clear A a; intro a A
  refine step (Runs.extract A rfl rfl) A rfl ?_; clear A a; intro a A
  refine step (Runs.extract A rfl rfl) A rfl ?_; clear A a; intro a A
  refine step (Runs.assign A rfl) A rfl ?_; clear A a; intro a A
  refine step (Runs.assign A rfl) A rfl ?_; clear A a; intro a A
  refine wpList_nil ?_
  refine wp_seq ?_
  refine wp_region_lit ?_
  refine step (Runs.move A rfl) A rfl ?_; clear A a; intro a A
  refine step (Runs.move A rfl) A rfl ?_; clear A a; intro a A
  refine step (Runs.build A rfl rfl rfl) A rfl ?_; clear A a; intro a A
  refine step_store A H rfl rfl rfl rfl rfl rfl ?_; intro w H
  refine wpList_nil ?_
  refine wp_ret ?_
  exact retFc A rfl rfl hM H rfl ⟨_, _, rfl, hput⟩

theorem c_wireloomlaw18_get {ad : Option Addr} {n c : Nat} {l : List Obj} {id : UInt64} {m : Mem} (hl : Objs m ad n c l) (hb : n ≤ 1100000) (hs : Srt l) : Spec Tryz.prog 32 #[.slice ad n c, u64 id] m [] (RetF fun m' v => match getP l id with | some d => ∃ u, v = .agg #[u, .int .i64 0] ∧ Dat m' u d | none => v = .agg #[.slice none 0 0, .int .i64 180]) := by
  refine Spec.enter0 Tryz.func32 rfl 16 Tryz.ntmps32 rfl fun a w0 Lf A H => ?_
  have hM := Le.refl m
  refine wp_seq ?_
  refine wp_region_lit ?_
  refine step_alloc A H rfl ?_; clear A a; intro b1 a w A H
  refine wpList_nil ?_
  refine wp_seq ?_
  refine wp_region_lit ?_
  refine step (Runs.move A rfl) A rfl ?_; clear A a; intro a A
  refine step (Runs.move A rfl) A rfl ?_; clear A a; intro a A
  refine step_callF A rfl rfl (c_objects_Get hl (by omega) hs) H ?_
  rintro v1_2 a w m hm hget A H
  have hM := hM.trans hm
  have hl := hl.mono hm
  rcases hgp : getP l id with _ | d <;> simp only [hgp] at hget
  · subst hget
    refine step (Runs.move A rfl) A rfl ?_; clear A a; intro a A
    refine step (Runs.extract A rfl rfl) A rfl ?_; clear A a; intro a A
    refine step (Runs.extract A rfl rfl) A rfl ?_; clear A a; intro a A
    refine step (Runs.assign A rfl) A rfl ?_; clear A a; intro a A
    refine step (Runs.assign A rfl) A rfl ?_; clear A a; intro a A
    refine wpList_nil ?_
    refine wp_seq ?_
    refine wp_region_lit ?_
    refine step (Runs.move A rfl) A rfl ?_; clear A a; intro a A
    refine step (Runs.move A rfl) A rfl ?_; clear A a; intro a A
    refine step (Runs.build A rfl rfl rfl) A rfl ?_; clear A a; intro a A
    refine step_store A H rfl rfl rfl rfl rfl rfl ?_; intro w H
    refine wpList_nil ?_
    refine wp_ret ?_
    exact retFc A rfl rfl hM H rfl (by simp only [hgp])
  · obtain ⟨u, rfl, adu, nu, cu, rfl, hsu, hnu⟩ := hget
    refine step (Runs.move A rfl) A rfl ?_; clear A a; intro a A
    refine step (Runs.extract A rfl rfl) A rfl ?_; clear A a; intro a A
    refine step (Runs.extract A rfl rfl) A rfl ?_; clear A a; intro a A
    refine step (Runs.assign A rfl) A rfl ?_; clear A a; intro a A
    refine step (Runs.assign A rfl) A rfl ?_; clear A a; intro a A
    refine wpList_nil ?_
    refine wp_seq ?_
    refine wp_region_lit ?_
    refine step (Runs.move A rfl) A rfl ?_; clear A a; intro a A
    refine step (Runs.move A rfl) A rfl ?_; clear A a; intro a A
    refine step (Runs.build A rfl rfl rfl) A rfl ?_; clear A a; intro a A
    refine step_store A H rfl rfl rfl rfl rfl rfl ?_; intro w H
    refine wpList_nil ?_
    refine wp_ret ?_
    exact retFc A rfl rfl hM H rfl (by simp only [hgp]; exact ⟨_, rfl, _, _, _, rfl, hsu, hnu⟩)

theorem c_law18_same {u1 u2 : Value} {d1 d2 : List UInt8} {e1 e2 : Int} {m : Mem} (h1 : Dat m u1 d1) (h2 : Dat m u2 d2) : Spec Tryz.prog 31 #[.agg #[u1, .int .i64 e1], .agg #[u2, .int .i64 e2]] m [] (RetE (.bool (decide (e1 = e2 ∧ d1 = d2)))) := by
  refine Spec.enter0 Tryz.func31 rfl 17 Tryz.ntmps31 rfl fun a w0 Lf A H => ?_
  have hM := Le.refl m
  obtain ⟨ad, n, c, rfl, hs, hn⟩ := h1
  obtain ⟨ad2, n2, c2, rfl, hs2, hn2⟩ := h2
  refine wp_seq ?_
  refine wp_region_lit ?_
  refine step_box A H rfl (by simp only [Value.cells, List.toList_toArray]; rfl) rfl ?_; intro b1 a w A H
  refine step_box A H rfl (by simp only [Value.cells, List.toList_toArray]; rfl) rfl ?_; intro b2 a w A H
  refine step (Runs.assign A rfl) A rfl ?_; clear A a; intro a A
  refine wpList_nil ?_
  refine wp_seq ?_
  refine wp_region_lit ?_
  refine step (Runs.fa A rfl) A rfl ?_; clear A a; intro a A
  refine step (Runs.ld1 A H rfl rfl) A rfl ?_; clear A a; intro a A
  refine step (Runs.fa A rfl) A rfl ?_; clear A a; intro a A
  refine step (Runs.ld1 A H rfl rfl) A rfl ?_; clear A a; intro a A
  refine step (Runs.eql A rfl rfl) A rfl ?_; clear A a; intro a A
  refine step (Runs.move A rfl) A rfl ?_; clear A a; intro a A
  refine onBool A (dj := 10) rfl (fun h1 => ?_) (fun h1 => ?_)
  · have g1 := h1
    try simp only [decide_eq_true_eq, decide_eq_false_iff_not, Bool.not_eq_true', Bool.not_eq_false', ne_eq, Decidable.not_not, Int.not_lt, Int.not_le] at g1
    refine stepG (dj := 10) rfl rfl h1 (Runs.fa A rfl) A rfl ?_; clear A a; intro a A
    refine stepG (dj := 10) rfl rfl h1 (Runs.ld1 A H rfl rfl) A rfl ?_; clear A a; intro a A
    refine stepG (dj := 10) rfl rfl h1 (Runs.fa A rfl) A rfl ?_; clear A a; intro a A
    refine stepG (dj := 10) rfl rfl h1 (Runs.ld1 A H rfl rfl) A rfl ?_; clear A a; intro a A
    refine step_callFG (dj := 10) rfl rfl h1 A rfl rfl (c_wireloomref06_Same hs hs2) H ?_
    rintro v1_10 a w m hm rfl A H
    have hM := hM.trans hm
    have hs := hs.mono hm
    have hs2 := hs2.mono hm
    refine step (Runs.pickT A rfl h1 rfl) A rfl ?_; clear A a; intro a A
    refine step (Runs.assign A rfl) A rfl ?_; clear A a; intro a A
    refine wpList_nil ?_
    refine wp_ret ?_
    have g : e1 = e2 := by simpa using h1
    exact retF A rfl rfl hM H (by simp [g])
  · have g1 := h1
    try simp only [decide_eq_true_eq, decide_eq_false_iff_not, Bool.not_eq_true', Bool.not_eq_false', ne_eq, Decidable.not_not, Int.not_lt, Int.not_le] at g1
    refine stepSkip (dj := 10) rfl rfl h1 A rfl ?_; clear A a; intro a A
    refine stepSkip (dj := 10) rfl rfl h1 A rfl ?_; clear A a; intro a A
    refine stepSkip (dj := 10) rfl rfl h1 A rfl ?_; clear A a; intro a A
    refine stepSkip (dj := 10) rfl rfl h1 A rfl ?_; clear A a; intro a A
    refine stepSkip (dj := 10) rfl rfl h1 A rfl ?_; clear A a; intro a A
    refine step (Runs.pickF A rfl h1 rfl) A rfl ?_; clear A a; intro a A
    refine step (Runs.assign A rfl) A rfl ?_; clear A a; intro a A
    refine wpList_nil ?_
    refine wp_ret ?_
    have g : ¬ e1 = e2 := by simpa using h1
    exact retF A rfl rfl hM H (by simp [g])

theorem c_wireloomlaw18_chosen {ad : Option Addr} {n c : Nat} {l : List Obj} {mk : Int} {more : UInt64} {m : Mem} (hl : Objs m ad n c l) (hb : n ≤ 1100000) : Spec Tryz.prog 25 #[.slice ad n c, .int .u16 mk, u64 more] m [] (RetF fun m' v => ∃ ad' n' c' k, v = .slice ad' n' c' ∧ Ws m' ad' n' c' k ∧ n' ≤ n + 1) := by
  refine Spec.enter0 Tryz.func25 rfl 35 Tryz.ntmps25 rfl fun a w0 Lf A H => ?_
  have hM := Le.refl m
  have hn := hl.1
  have hcap := hl.cap
  have hmx : maxLen = 9223372036854775807 := rfl
  refine wp_seq ?_
  refine wp_region_lit ?_
  refine step (Runs.assign A rfl) A rfl ?_; clear A a; intro a A
  refine wpList_nil ?_
  refine wp_seq ?_
  refine wp_region_lit ?_
  refine step_slice A H rfl rfl rfl rfl rfl rfl ?_; intro b1 a w A H
  refine step (Runs.assign A rfl) A rfl ?_; clear A a; intro a A
  refine wpList_nil ?_
  refine wp_seq ?_
  refine wp_seq ?_
  refine wp_region_lit ?_
  refine step (Runs.assign A rfl) A rfl ?_; clear A a; intro a A
  refine wpList_nil ?_
  refine wp_block ?_
  have H := H.row_pt (n := 0) (size := 1) rfl (by omega)
  refine wp_loop_ghost (fun q a w => ∃ (i : Nat) (ad2 : Option Addr) (c2 : Nat) (k : List UInt64) (m' : Mem), q = n + 1 - i ∧ (i ≤ n ∧ k.length ≤ i) ∧ Le m m' ∧ Fr 35 a [(0, .slice ad n c), (1, .int .u16 mk), (2, u64 more), (7, .slice ad2 k.length c2), (8, .int .i64 i)] [] ∧ St w0 w m' (row 29 1 ad2 k.length c2 (k.map u64) :: Lf)) _ ⟨0, some ⟨b1, 0, none⟩, 0, [], m, rfl, ⟨by omega, by simp⟩, Le.refl m, (Fr.cons A rfl (Fr.cons A rfl (Fr.cons A rfl (Fr.cons A rfl (Fr.cons A rfl (Fr.nil A)))))), H⟩ ?_
  clear A H; rintro q a w ⟨i, ad2, c2, k, m, rfl, hinv, hm, A, H⟩
  have hM := hM.trans hm
  have hl := hl.mono hm
  have hl1 := hm
  obtain ⟨hin, hkl⟩ := hinv
  refine wp_seq ?_
  refine wp_seq ?_
  refine wp_region_lit ?_
  refine step (Runs.move A rfl) A rfl ?_; clear A a; intro a A
  refine step (Runs.move A rfl) A rfl ?_; clear A a; intro a A
  refine step (Runs.lenL A rfl SlC.h) A rfl ?_; clear A a; intro a A
  refine step (Runs.lss A rfl rfl) A rfl ?_; clear A a; intro a A
  refine wpList_nil ?_
  refine cond_split A rfl (fun h1 => ?_) (fun h1 => ?_)
  · have g1 := h1
    try simp only [decide_eq_true_eq, decide_eq_false_iff_not, Bool.not_eq_true', Bool.not_eq_false', ne_eq, Decidable.not_not, Int.not_lt, Int.not_le] at g1
    refine wp_skip ?_
    refine wp_seq ?_
    refine wp_block ?_
    refine wp_seq ?_
    refine wp_region_lit ?_
    refine step (Runs.move A rfl) A rfl ?_; clear A a; intro a A
    refine step (Runs.move A rfl) A rfl ?_; clear A a; intro a A
    refine step (Runs.rem A rfl rfl (by omega) (by omega)) A rfl ?_; clear A a; intro a A
    refine step (Runs.convN A rfl (wrap_u64 (by omega) (by omega))) A rfl ?_; clear A a; intro a A
    refine step (Runs.shrK A rfl rfl (by omega)) A rfl ?_; clear A a; intro a A
    refine step (Runs.andK A rfl rfl) A rfl ?_; clear A a; intro a A
    refine step (Runs.eql A rfl rfl) A rfl ?_; clear A a; intro a A
    refine wpList_nil ?_
    refine cond_split A rfl (fun h2 => ?_) (fun h2 => ?_)
    · have g2 := h2
      try simp only [decide_eq_true_eq, decide_eq_false_iff_not, Bool.not_eq_true', Bool.not_eq_false', ne_eq, Decidable.not_not, Int.not_lt, Int.not_le] at g2
      refine wp_region_lit ?_
      refine step (Runs.move A rfl) A rfl ?_; clear A a; intro a A
      refine step (Runs.move A rfl) A rfl ?_; clear A a; intro a A
      refine step (Runs.move A rfl) A rfl ?_; clear A a; intro a A
      obtain ⟨x, hx⟩ := ex_at (l := l) (i := i) (by omega)
      obtain ⟨bb, off, cs, rfl, hfz, hcs⟩ := hl.all_ (by omega)
      obtain ⟨vx, hx1, hx2, hx3, hxd⟩ := hcs _ _ hx
      refine step (Runs.indexAddr A rfl rfl SlC.h (by omega) (by omega)) A rfl ?_; clear A a; intro a A
      refine step (Runs.fa A rfl) A rfl ?_; clear A a; intro a A
      refine step (Runs.ld1 A H rfl (v := u64 x.id) (by rw [Int.toNat_natCast]; exact hx1)) A rfl ?_; clear A a; intro a A
      refine step_slice A H rfl rfl rfl rfl rfl rfl ?_; intro b2 a w A H
      refine step_append A H rfl rfl rfl rfl (by decide) (by omega) (by simp only [maxLen]; omega) rfl rfl ?_; clear A a; intro ad1 c1 a w A H
      refine step (Runs.assign A rfl) A rfl ?_; clear A a; intro a A
      refine wpList_nil ?_
      refine wp_region_lit ?_
      refine step (Runs.move A rfl) A rfl ?_; clear A a; intro a A
      refine step (Runs.add A rfl rfl (by omega)) A rfl ?_; clear A a; intro a A
      refine step (Runs.assign A rfl) A rfl ?_; clear A a; intro a A
      refine wpList_nil ?_
      have e1 : k.length + 1 = (k ++ [x.id]).length := by simp
      have e2 : k.map u64 ++ [u64 x.id] = (k ++ [x.id]).map u64 := by simp
      rw [e1] at A H
      rw [e2] at H
      exact ⟨_, by omega, i + 1, _, _, k ++ [x.id], m, rfl, ⟨by omega, by simp; omega⟩, hl1, (Fr.cons A rfl (Fr.cons A rfl (Fr.cons A rfl (Fr.cons A rfl (Fr.cons A rfl (Fr.nil A)))))), H.subH⟩
    · have g2 := h2
      try simp only [decide_eq_true_eq, decide_eq_false_iff_not, Bool.not_eq_true', Bool.not_eq_false', ne_eq, Decidable.not_not, Int.not_lt, Int.not_le] at g2
      refine wp_skip ?_
      refine wp_region_lit ?_
      refine step (Runs.move A rfl) A rfl ?_; clear A a; intro a A
      refine step (Runs.add A rfl rfl (by omega)) A rfl ?_; clear A a; intro a A
      refine step (Runs.assign A rfl) A rfl ?_; clear A a; intro a A
      refine wpList_nil ?_
      skip
      exact ⟨_, by omega, i + 1, _, _, k, m, rfl, ⟨by omega, by omega⟩, hl1, (Fr.cons A rfl (Fr.cons A rfl (Fr.cons A rfl (Fr.cons A rfl (Fr.cons A rfl (Fr.nil A)))))), H.subH⟩
  · have g1 := h1
    try simp only [decide_eq_true_eq, decide_eq_false_iff_not, Bool.not_eq_true', Bool.not_eq_false', ne_eq, Decidable.not_not, Int.not_lt, Int.not_le] at g1
    refine wp_exit ?_
    refine wp_seq ?_
    refine wp_region_lit ?_
    refine step (Runs.move A rfl) A rfl ?_; clear A a; intro a A
    refine step (Runs.move A rfl) A rfl ?_; clear A a; intro a A
    refine step_slice A H rfl rfl rfl rfl rfl rfl ?_; intro b3 a w A H
    refine step_append A H rfl rfl rfl rfl (by decide) (by omega) (by simp only [maxLen]; omega) rfl rfl ?_; clear A a; intro ad2 c2 a w A H
    refine step (Runs.assign A rfl) A rfl ?_; clear A a; intro a A
    refine wpList_nil ?_
    refine wp_ret ?_
    have e1 : k.length + 1 = (k ++ [more]).length := by simp
    have e2 : k.map u64 ++ [u64 more] = (k ++ [more]).map u64 := by simp
    rw [e1] at A H
    rw [e2] at H
    obtain ⟨m2, hm2, hw, H⟩ := H.row_freeze
    exact retF A rfl rfl (hM.trans hm2) H ⟨_, _, _, _, rfl, hw, by simp; omega⟩
end Sl
end Go.Proofs.YtanhehbfbakdcaaGreatDoor
