/- Stores: finding, putting: walks, printed by my gen.py out of annotations. -/
import Derived.Test.YtanhehbfbakdcaaGreatDoorObjX
set_option linter.unusedSimpArgs false
set_option linter.unusedVariables false
namespace Go.Proofs.YtanhehbfbakdcaaGreatDoor
namespace Sl
open Go

theorem c_cmp_isNaN_uint64 {a : UInt64} {m : Mem} : Spec Tryz.prog 114 #[u64 a] m [] (RetE (.bool false)) := by
  refine Spec.enter0 Tryz.func114 rfl 6 Tryz.ntmps114 rfl fun a w0 Lf A H => ?_
  have hM := Le.refl m
  refine wp_seq ?_
  refine wp_region_lit ?_
  refine step (Runs.assign A rfl) A rfl ?_; clear A a; intro a A
  refine wpList_nil ?_
  refine wp_seq ?_
  refine wp_region_lit ?_
  refine step (Runs.move A rfl) A rfl ?_; clear A a; intro a A
  refine step (Runs.move A rfl) A rfl ?_; clear A a; intro a A
  refine step (Runs.neq A rfl rfl) A rfl ?_; clear A a; intro a A
  refine step (Runs.assign A rfl) A rfl ?_; clear A a; intro a A
  refine wpList_nil ?_
  refine wp_ret ?_
  exact retF A rfl rfl hM H (by simp)

theorem c_cmp_Compare_uint64 {p q : UInt64} {m : Mem} : Spec Tryz.prog 79 #[u64 p, u64 q] m [] (RetE (.int .i64 (cmpP p q))) := by
  refine Spec.enter0 Tryz.func79 rfl 20 Tryz.ntmps79 rfl fun a w0 Lf A H => ?_
  have hM := Le.refl m
  refine wp_seq ?_
  refine wp_region_lit ?_
  refine step (Runs.assign A rfl) A rfl ?_; clear A a; intro a A
  refine wpList_nil ?_
  refine wp_seq ?_
  refine wp_region_lit ?_
  refine step (Runs.move A rfl) A rfl ?_; clear A a; intro a A
  refine step_callF A rfl rfl (c_cmp_isNaN_uint64) H ?_
  rintro v1_1 a w m hm rfl A H
  have hM := hM.trans hm
  refine step (Runs.assign A rfl) A rfl ?_; clear A a; intro a A
  refine wpList_nil ?_
  refine wp_seq ?_
  refine wp_region_lit ?_
  refine step (Runs.move A rfl) A rfl ?_; clear A a; intro a A
  refine step_callF A rfl rfl (c_cmp_isNaN_uint64) H ?_
  rintro v2_1 a w m hm rfl A H
  have hM := hM.trans hm
  refine step (Runs.assign A rfl) A rfl ?_; clear A a; intro a A
  refine wpList_nil ?_
  refine wp_seq ?_
  refine wp_seq ?_
  refine wp_region_lit ?_
  refine step (Runs.move A rfl) A rfl ?_; clear A a; intro a A
  refine wpList_nil ?_
  refine cond_false A rfl rfl ?_
  refine wp_skip ?_
  refine wp_seq ?_
  refine wp_seq ?_
  refine wp_region_lit ?_
  refine step (Runs.move A rfl) A rfl ?_; clear A a; intro a A
  refine wpList_nil ?_
  refine cond_false A rfl rfl ?_
  refine wp_skip ?_
  refine wp_seq ?_
  refine wp_seq ?_
  refine wp_region_lit ?_
  refine step (Runs.move A rfl) A rfl ?_; clear A a; intro a A
  refine step (Runs.move A rfl) A rfl ?_; clear A a; intro a A
  refine step (Runs.lss A rfl rfl) A rfl ?_; clear A a; intro a A
  refine wpList_nil ?_
  refine cond_split A rfl (fun h1 => ?_) (fun h1 => ?_)
  · have g1 := h1
    try simp only [decide_eq_true_eq, decide_eq_false_iff_not, Bool.not_eq_true', Bool.not_eq_false', ne_eq, Decidable.not_not, Int.not_lt, Int.not_le] at g1
    refine wp_seq ?_
    refine wp_region_lit ?_
    refine step (Runs.assign A rfl) A rfl ?_; clear A a; intro a A
    refine wpList_nil ?_
    refine wp_ret ?_
    exact retF A rfl rfl hM H (by rw [cmpP, if_pos (by rw [UInt64.lt_iff_toNat_lt]; omega)])
  · have g1 := h1
    try simp only [decide_eq_true_eq, decide_eq_false_iff_not, Bool.not_eq_true', Bool.not_eq_false', ne_eq, Decidable.not_not, Int.not_lt, Int.not_le] at g1
    refine wp_skip ?_
    refine wp_seq ?_
    refine wp_seq ?_
    refine wp_region_lit ?_
    refine step (Runs.move A rfl) A rfl ?_; clear A a; intro a A
    refine step (Runs.move A rfl) A rfl ?_; clear A a; intro a A
    refine step (Runs.gtr A rfl rfl) A rfl ?_; clear A a; intro a A
    refine wpList_nil ?_
    refine cond_split A rfl (fun h2 => ?_) (fun h2 => ?_)
    · have g2 := h2
      try simp only [decide_eq_true_eq, decide_eq_false_iff_not, Bool.not_eq_true', Bool.not_eq_false', ne_eq, Decidable.not_not, Int.not_lt, Int.not_le] at g2
      refine wp_seq ?_
      refine wp_region_lit ?_
      refine step (Runs.assign A rfl) A rfl ?_; clear A a; intro a A
      refine wpList_nil ?_
      refine wp_ret ?_
      exact retF A rfl rfl hM H (by rw [cmpP, if_neg (by rw [UInt64.lt_iff_toNat_lt]; omega), if_pos (by rw [UInt64.lt_iff_toNat_lt]; omega)])
    · have g2 := h2
      try simp only [decide_eq_true_eq, decide_eq_false_iff_not, Bool.not_eq_true', Bool.not_eq_false', ne_eq, Decidable.not_not, Int.not_lt, Int.not_le] at g2
      refine wp_skip ?_
      refine wp_seq ?_
      refine wp_region_lit ?_
      refine step (Runs.assign A rfl) A rfl ?_; clear A a; intro a A
      refine wpList_nil ?_
      refine wp_ret ?_
      exact retF A rfl rfl hM H (by rw [cmpP, if_neg (by rw [UInt64.lt_iff_toNat_lt]; omega), if_neg (by rw [UInt64.lt_iff_toNat_lt]; omega)])

theorem c_objects_find_1 {i id : UInt64} {v : Value} {d : List UInt8} {m : Mem} (hd : Dat m v d) : Spec Tryz.prog 111 #[.agg #[u64 i, v], u64 id] m [] (RetE (.int .i64 (cmpP i id))) := by
  refine Spec.enter0 Tryz.func111 rfl 9 Tryz.ntmps111 rfl fun a w0 Lf A H => ?_
  have hM := Le.refl m
  obtain ⟨ad, n, c, rfl, hs, hn⟩ := hd
  refine wp_seq ?_
  refine wp_region_lit ?_
  refine step_box A H rfl (by simp only [Value.cells, List.toList_toArray]; rfl) rfl ?_; intro b1 a w A H
  refine step (Runs.assign A rfl) A rfl ?_; clear A a; intro a A
  refine wpList_nil ?_
  refine wp_seq ?_
  refine wp_region_lit ?_
  refine step (Runs.fa A rfl) A rfl ?_; clear A a; intro a A
  refine step (Runs.ld1 A H rfl rfl) A rfl ?_; clear A a; intro a A
  refine step (Runs.move A rfl) A rfl ?_; clear A a; intro a A
  refine step_callF A rfl rfl (c_cmp_Compare_uint64) H ?_
  rintro v1_3 a w m hm rfl A H
  have hM := hM.trans hm
  have hs := hs.mono hm
  refine step (Runs.assign A rfl) A rfl ?_; clear A a; intro a A
  refine wpList_nil ?_
  refine wp_ret ?_
  exact retF A rfl rfl hM H rfl

theorem c_api_Object_uint64 {ad : Option Addr} {n c : Nat} {l : List Obj} {id : UInt64} {m : Mem} (hl : Objs m ad n c l) (hb : n ≤ 1100000) (hs : Srt l) : Spec Tryz.prog 110 #[.slice ad n c, u64 id, .func (.func 111) #[] #[]] m [] (RetE (.tuple #[.int .i64 (lbP l id), .bool (atP l id)])) := by
  refine Spec.enter0 Tryz.func110 rfl 49 Tryz.ntmps110 rfl fun a w0 Lf A H => ?_
  have hM := Le.refl m
  have hn := hl.1
  have hcap := hl.cap
  have hmx : maxLen = 9223372036854775807 := rfl
  refine wp_seq ?_
  refine wp_region_lit ?_
  refine step (Runs.assign A rfl) A rfl ?_; clear A a; intro a A
  refine step (Runs.assign A rfl) A rfl ?_; clear A a; intro a A
  refine wpList_nil ?_
  refine wp_seq ?_
  refine wp_region_lit ?_
  refine step (Runs.move A rfl) A rfl ?_; clear A a; intro a A
  refine step (Runs.lenL A rfl SlC.h) A rfl ?_; clear A a; intro a A
  refine step (Runs.assign A rfl) A rfl ?_; clear A a; intro a A
  refine wpList_nil ?_
  refine wp_seq ?_
  refine wp_region_lit ?_
  refine step (Runs.move A rfl) A rfl ?_; clear A a; intro a A
  refine step (Runs.assign A rfl) A rfl ?_; clear A a; intro a A
  refine step (Runs.assign A rfl) A rfl ?_; clear A a; intro a A
  refine wpList_nil ?_
  refine wp_seq ?_
  refine wp_block ?_
  refine wp_loop_ghost (fun q a w => ∃ (i j : Nat) (m' : Mem), q = j - i ∧ (i ≤ j ∧ j ≤ n ∧ (∀ (k : Nat) (x : Obj), k < i → l[k]? = some x → x.id < id) ∧ (∀ (k : Nat) (x : Obj), j ≤ k → l[k]? = some x → ¬ x.id < id)) ∧ Le m m' ∧ Fr 49 a [(0, .slice ad n c), (1, u64 id), (2, .func (.func 111) #[] #[]), (8, .int .i64 n), (9, .int .i64 i), (10, .int .i64 j)] [] ∧ St w0 w m' (Lf)) _ ⟨0, n, m, rfl, ⟨by omega, by omega, fun k _ h => absurd h (by omega), fun k x h hx => absurd (List.getElem?_eq_some_iff.1 hx).1 (by omega)⟩, Le.refl m, (Fr.cons A rfl (Fr.cons A rfl (Fr.cons A rfl (Fr.cons A rfl (Fr.cons A rfl (Fr.cons A rfl (Fr.nil A))))))), H⟩ ?_
  clear A H; rintro q a w ⟨i, j, m, rfl, hinv, hm, A, H⟩
  have hM := hM.trans hm
  have hl := hl.mono hm
  have hl1 := hm
  obtain ⟨hij, hjn, hlo, hhi⟩ := hinv
  refine wp_seq ?_
  refine wp_seq ?_
  refine wp_region_lit ?_
  refine step (Runs.move A rfl) A rfl ?_; clear A a; intro a A
  refine step (Runs.move A rfl) A rfl ?_; clear A a; intro a A
  refine step (Runs.lss A rfl rfl) A rfl ?_; clear A a; intro a A
  refine wpList_nil ?_
  refine cond_split A rfl (fun h1 => ?_) (fun h1 => ?_)
  · have g1 := h1
    try simp only [decide_eq_true_eq, decide_eq_false_iff_not, Bool.not_eq_true', Bool.not_eq_false', ne_eq, Decidable.not_not, Int.not_lt, Int.not_le] at g1
    refine wp_skip ?_
    refine wp_block ?_
    refine wp_seq ?_
    refine wp_region_lit ?_
    refine step (Runs.move A rfl) A rfl ?_; clear A a; intro a A
    refine step (Runs.move A rfl) A rfl ?_; clear A a; intro a A
    refine step (Runs.add A rfl rfl (by omega)) A rfl ?_; clear A a; intro a A
    refine step (Runs.convN A rfl (wrap_u64 (by omega) (by omega))) A rfl ?_; clear A a; intro a A
    refine step (Runs.half (p := i + j) A rfl rfl (by omega)) A rfl ?_; clear A a; intro a A
    refine step (Runs.convN A rfl (wrap_i64 (by omega) (by omega))) A rfl ?_; clear A a; intro a A
    refine step (Runs.assign A rfl) A rfl ?_; clear A a; intro a A
    refine wpList_nil ?_
    refine wp_seq ?_
    refine wp_region_lit ?_
    refine step (Runs.move A rfl) A rfl ?_; clear A a; intro a A
    refine step (Runs.move A rfl) A rfl ?_; clear A a; intro a A
    refine step (Runs.move A rfl) A rfl ?_; clear A a; intro a A
    obtain ⟨x, hx⟩ := ex_at (l := l) (i := (i + j) / 2) (by omega)
    obtain ⟨bb, off, cs, rfl, hfz, hcs⟩ := hl.all_ (by omega)
    obtain ⟨vx, hx1, hx2, hx3, hxd⟩ := hcs _ _ hx
    refine step (Runs.indexAddr A rfl rfl SlC.h (by omega) (by omega)) A rfl ?_; clear A a; intro a A
    refine step (Runs.ldN A H rfl (by rw [Int.toNat_natCast]; exact hx3)) A rfl ?_; clear A a; intro a A
    refine step (Runs.move A rfl) A rfl ?_; clear A a; intro a A
    refine step_cloF A rfl rfl rfl (c_objects_find_1 hxd) H ?_
    rintro v5_6 a w m hm rfl A H
    have hM := hM.trans hm
    have hl1 := hl1.trans hm
    have hl := hl.mono hm
    refine step (Runs.lss A rfl rfl) A rfl ?_; clear A a; intro a A
    refine wpList_nil ?_
    refine cond_split A rfl (fun h2 => ?_) (fun h2 => ?_)
    · have g2 := h2
      try simp only [decide_eq_true_eq, decide_eq_false_iff_not, Bool.not_eq_true', Bool.not_eq_false', ne_eq, Decidable.not_not, Int.not_lt, Int.not_le] at g2
      refine wp_region_lit ?_
      refine step (Runs.move A rfl) A rfl ?_; clear A a; intro a A
      refine step (Runs.add A rfl rfl (by omega)) A rfl ?_; clear A a; intro a A
      refine step (Runs.assign A rfl) A rfl ?_; clear A a; intro a A
      refine wpList_nil ?_
      have hxi : x.id < id := (cmpP_lt _ _).1 (by simpa using h2)
      exact ⟨_, by omega, (i + j) / 2 + 1, j, m, rfl, ⟨by omega, by omega, fun k y hk hy => (by
        rcases Nat.lt_or_ge k ((i + j) / 2) with h | h
        · exact UInt64.lt_trans (hs.lt hy hx h) hxi
        · obtain rfl : k = (i + j) / 2 := by omega
          rw [hx] at hy; cases hy; exact hxi), hhi⟩, hl1, (Fr.cons A rfl (Fr.cons A rfl (Fr.cons A rfl (Fr.cons A rfl (Fr.cons A rfl (Fr.cons A rfl (Fr.nil A))))))), H⟩
    · have g2 := h2
      try simp only [decide_eq_true_eq, decide_eq_false_iff_not, Bool.not_eq_true', Bool.not_eq_false', ne_eq, Decidable.not_not, Int.not_lt, Int.not_le] at g2
      refine wp_region_lit ?_
      refine step (Runs.move A rfl) A rfl ?_; clear A a; intro a A
      refine step (Runs.assign A rfl) A rfl ?_; clear A a; intro a A
      refine wpList_nil ?_
      have hxi : ¬ x.id < id := fun h => absurd ((cmpP_lt _ _).2 h) (by simpa using h2)
      exact ⟨_, by omega, i, (i + j) / 2, m, rfl, ⟨by omega, by omega, hlo, fun k y hk hy => (by
        rcases Nat.lt_or_ge ((i + j) / 2) k with h | h
        · exact fun hlt => hxi (UInt64.lt_trans (hs.lt hx hy h) hlt)
        · obtain rfl : k = (i + j) / 2 := by omega
          rw [hx] at hy; cases hy; exact hxi)⟩, hl1, (Fr.cons A rfl (Fr.cons A rfl (Fr.cons A rfl (Fr.cons A rfl (Fr.cons A rfl (Fr.cons A rfl (Fr.nil A))))))), H⟩
  · have g1 := h1
    try simp only [decide_eq_true_eq, decide_eq_false_iff_not, Bool.not_eq_true', Bool.not_eq_false', ne_eq, Decidable.not_not, Int.not_lt, Int.not_le] at g1
    refine wp_exit ?_
    refine wp_seq ?_
    refine wp_region_lit ?_
    obtain rfl : i = j := by omega
    have hlb : lbP l id = i := lbP_of (by omega) hlo hhi
    refine step (Runs.move A rfl) A rfl ?_; clear A a; intro a A
    refine step (Runs.move A rfl) A rfl ?_; clear A a; intro a A
    refine step (Runs.move A rfl) A rfl ?_; clear A a; intro a A
    refine step (Runs.lss A rfl rfl) A rfl ?_; clear A a; intro a A
    refine step (Runs.move A rfl) A rfl ?_; clear A a; intro a A
    refine onBool A (dj := 39) rfl (fun h3 => ?_) (fun h3 => ?_)
    · have g3 := h3
      try simp only [decide_eq_true_eq, decide_eq_false_iff_not, Bool.not_eq_true', Bool.not_eq_false', ne_eq, Decidable.not_not, Int.not_lt, Int.not_le] at g3
      refine stepG (dj := 39) rfl rfl h3 (Runs.move A rfl) A rfl ?_; clear A a; intro a A
      refine stepG (dj := 39) rfl rfl h3 (Runs.move A rfl) A rfl ?_; clear A a; intro a A
      refine stepG (dj := 39) rfl rfl h3 (Runs.move A rfl) A rfl ?_; clear A a; intro a A
      obtain ⟨x, hx⟩ := ex_at (l := l) (i := i) (by omega)
      obtain ⟨bb, off, cs, rfl, hfz, hcs⟩ := hl.all_ (by omega)
      obtain ⟨vx, hx1, hx2, hx3, hxd⟩ := hcs _ _ hx
      refine stepG (dj := 39) rfl rfl h3 (Runs.indexAddr A rfl rfl SlC.h (by omega) (by omega)) A rfl ?_; clear A a; intro a A
      refine stepG (dj := 39) rfl rfl h3 (Runs.ldN A H rfl (by simpa using hx3)) A rfl ?_; clear A a; intro a A
      refine stepG (dj := 39) rfl rfl h3 (Runs.move A rfl) A rfl ?_; clear A a; intro a A
      refine step_cloFG (dj := 39) rfl rfl h3 A rfl rfl rfl (c_objects_find_1 hxd) H ?_
      rintro v8_11 a w m hm rfl A H
      have hM := hM.trans hm
      have hl := hl.mono hm
      refine stepG (dj := 39) rfl rfl h3 (Runs.eql A rfl rfl) A rfl ?_; clear A a; intro a A
      refine step (Runs.pickT A rfl h3 rfl) A rfl ?_; clear A a; intro a A
      refine step (Runs.assign A rfl) A rfl ?_; clear A a; intro a A
      refine step (Runs.assign A rfl) A rfl ?_; clear A a; intro a A
      refine wpList_nil ?_
      refine wp_ret ?_
      exact retF2 A rfl rfl rfl hM H (by rw [hlb, atP, hlb, hx]; simp only [Option.any_some, cmpP_eq])
    · have g3 := h3
      try simp only [decide_eq_true_eq, decide_eq_false_iff_not, Bool.not_eq_true', Bool.not_eq_false', ne_eq, Decidable.not_not, Int.not_lt, Int.not_le] at g3
      refine stepSkip (dj := 39) rfl rfl h3 A rfl ?_; clear A a; intro a A
      refine stepSkip (dj := 39) rfl rfl h3 A rfl ?_; clear A a; intro a A
      refine stepSkip (dj := 39) rfl rfl h3 A rfl ?_; clear A a; intro a A
      refine stepSkip (dj := 39) rfl rfl h3 A rfl ?_; clear A a; intro a A
      refine stepSkip (dj := 39) rfl rfl h3 A rfl ?_; clear A a; intro a A
      refine stepSkip (dj := 39) rfl rfl h3 A rfl ?_; clear A a; intro a A
      refine stepSkip (dj := 39) rfl rfl h3 A rfl ?_; clear A a; intro a A
      refine stepSkip (dj := 39) rfl rfl h3 A rfl ?_; clear A a; intro a A
      refine step (Runs.pickF A rfl h3 rfl) A rfl ?_; clear A a; intro a A
      refine step (Runs.assign A rfl) A rfl ?_; clear A a; intro a A
      refine step (Runs.assign A rfl) A rfl ?_; clear A a; intro a A
      refine wpList_nil ?_
      refine wp_ret ?_
      exact retF2 A rfl rfl rfl hM H (by rw [hlb, atP, hlb, List.getElem?_eq_none (by omega)]; rfl)

theorem c_objects_find {ad : Option Addr} {n c : Nat} {l : List Obj} {id : UInt64} {m : Mem} (hl : Objs m ad n c l) (hb : n ≤ 1100000) (hs : Srt l) : Spec Tryz.prog 76 #[.slice ad n c, u64 id] m [] (RetE (.tuple #[.int .i64 (lbP l id), .bool (atP l id)])) := by
  refine Spec.enter0 Tryz.func76 rfl 11 Tryz.ntmps76 rfl fun a w0 Lf A H => ?_
  have hM := Le.refl m
  refine wp_seq ?_
  refine wp_region_lit ?_
  refine step (Runs.assign A rfl) A rfl ?_; clear A a; intro a A
  refine step (Runs.assign A rfl) A rfl ?_; clear A a; intro a A
  refine wpList_nil ?_
  refine wp_seq ?_
  refine wp_region_lit ?_
  refine step (Runs.move A rfl) A rfl ?_; clear A a; intro a A
  refine step (Runs.move A rfl) A rfl ?_; clear A a; intro a A
  refine step_callF A rfl rfl (c_api_Object_uint64 hl (by omega) hs) H ?_
  rintro v1_2 a w m hm rfl A H
  have hM := hM.trans hm
  have hl := hl.mono hm
  refine step (Runs.extract A rfl rfl) A rfl ?_; clear A a; intro a A
  refine step (Runs.extract A rfl rfl) A rfl ?_; clear A a; intro a A
  refine step (Runs.assign A rfl) A rfl ?_; clear A a; intro a A
  refine step (Runs.assign A rfl) A rfl ?_; clear A a; intro a A
  refine wpList_nil ?_
  refine wp_ret ?_
  exact retF2 A rfl rfl rfl hM H rfl
end Sl
end Go.Proofs.YtanhehbfbakdcaaGreatDoor
