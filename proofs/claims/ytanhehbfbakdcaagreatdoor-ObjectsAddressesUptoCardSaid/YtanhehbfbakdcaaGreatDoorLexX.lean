/- The lexer's classes, and Lex: printed by my gen.py out of annotations. -/
import Derived.Test.YtanhehbfbakdcaaGreatDoorLexW
import Derived.Test.YtanhehbfbakdcaaGreatDoorIter
set_option linter.unusedSimpArgs false
set_option linter.unusedVariables false
namespace Go.Proofs.YtanhehbfbakdcaaGreatDoor
namespace Sl
open Go

def stg1 (b : Nat) : Nat → Int := fun i => if 97 ≤ i ∧ i < b then 1 else 0
def stg2 (b : Nat) : Nat → Int := fun i => if 97 ≤ i ∧ i ≤ 122 then 1 else if 48 ≤ i ∧ i < b then 2 else 0
def stg3 (k : Nat) : Nat → Int := fun i => if 97 ≤ i ∧ i ≤ 122 then 1 else if 48 ≤ i ∧ i ≤ 57 then 2 else if i ∈ signL.take k then 4 else 0
theorem stg1_step {b : Nat} (h : 97 ≤ b) : upd (stg1 b) b 1 = stg1 (b + 1) := by
  funext i; simp only [upd, stg1]; split <;> split <;> first | rfl | omega | (split <;> first | rfl | omega)
theorem stg2_init : stg1 123 = stg2 48 := by
  funext i; simp only [stg2, stg1]; split <;> split <;> first | rfl | omega | (split <;> first | rfl | omega)
theorem stg2_step {b : Nat} (h : 48 ≤ b) (h2 : b ≤ 57) : upd (stg2 b) b 2 = stg2 (b + 1) := by
  funext i; simp only [upd, stg2]; repeat' split
  all_goals first | rfl | omega
theorem stg3_init : stg2 58 = stg3 0 := by
  funext i; simp only [stg2, stg3, List.take_zero, List.not_mem_nil, if_false]; repeat' split
  all_goals first | rfl | omega
theorem sign_out : ∀ k : Fin 21, ¬ (97 ≤ signL.getD k 0 ∧ signL.getD k 0 ≤ 122) ∧ ¬ (48 ≤ signL.getD k 0 ∧ signL.getD k 0 ≤ 57) ∧ signL.getD k 0 < 256 := by decide
theorem stg3_step {k : Nat} (h : k < 21) : upd (stg3 k) (signL.getD k 0) 4 = stg3 (k + 1) := by
  have h0 := sign_out ⟨k, h⟩
  have hk : signL[k]? = some (signL.getD k 0) := by
    rw [List.getD_eq_getElem?_getD, List.getElem?_eq_getElem (show k < signL.length from h)]; rfl
  funext i
  simp only [upd, stg3, List.take_add_one, hk, Option.toList_some, List.mem_append, List.mem_singleton]
  by_cases e : i = signL.getD k 0
  · subst e
    simp only [Fin.val_mk] at h0
    simp only [if_true, or_true]
    rw [if_neg h0.1, if_neg h0.2.1]
  · simp only [e, or_false, if_false]
theorem cls_done : upd (upd (stg3 21) 32 3) 10 3 = cls := by
  funext i
  simp only [upd, stg3, cls]
  rw [show signL.take 21 = signL from rfl]
  by_cases h1 : i = 10
  · subst h1; rfl
  · by_cases h2 : i = 32
    · subst h2; rfl
    · simp only [if_neg h1, if_neg h2, h1, h2, or_self, if_false]
theorem getN_full : ∀ (cs : List Value), getN cs 0 cs.length = some cs
  | [] => rfl
  | c :: cs => by simp [getN, getN_full cs, consO]
theorem setN_full : ∀ (cs vs : List Value), cs.length = vs.length → setN cs 0 vs = some vs
  | [], [], _ => rfl
  | c :: cs, v :: vs, h => by simp [setN, setN_full cs vs (by simpa using h), consO]
  | [], _ :: _, h => by simp at h
  | _ :: _, [], h => by simp at h
theorem tab_one (f : Nat → Int) : (tab f).all (·.oneCell') = true := by simp [tab, Value.oneCell']
theorem tab_zero : List.replicate 256 (Value.int .u8 0) = tab (stg1 97) := by
  refine (List.eq_replicate_iff.2 ⟨tab_length _, fun v hv => ?_⟩).symm
  simp only [tab, List.mem_map] at hv
  obtain ⟨i, _, rfl⟩ := hv
  rw [stg1, if_neg (by omega)]
theorem stg1_tab_get (f : Nat → Int) : getN (tab f) 0 256 = some (tab f) := by have := getN_full (tab f); rwa [tab_length] at this
def sgB : ByteArray := ⟨#[40, 41, 123, 125, 91, 93, 44, 59, 58, 61, 43, 45, 38, 124, 94, 126, 60, 63, 64, 35, 46]⟩
theorem sgB_dec : ∀ k : Fin 21, Utf8.decode sgB k = (signL.getD k 0, 1) := by decide

theorem c_lexer_classOf {m : Mem} : Spec Tryz.prog 146 #[] m [] (RetE (.agg (tab cls).toArray)) := by
  refine Spec.enter0 Tryz.func146 rfl 27 Tryz.ntmps146 rfl fun a w0 Lf A H => ?_
  have hM := Le.refl m
  refine wp_seq ?_
  refine wp_region_lit ?_
  refine step_alloc A H rfl ?_; clear A a; intro b1 a w A H
  refine wpList_nil ?_
  refine wp_seq ?_
  refine wp_region_lit ?_
  refine step_alloc A H rfl ?_; clear A a; intro b2 a w A H
  refine wpList_nil ?_
  refine wp_seq ?_
  refine wp_seq ?_
  refine wp_region_lit ?_
  refine step (Runs.assign A rfl) A rfl ?_; clear A a; intro a A
  refine wpList_nil ?_
  refine wp_block ?_
  rw [tab_zero] at H
  refine wp_loop_ghost (fun q a w => ∃ (j : Nat) (m' : Mem), q = 123 - j ∧ (97 ≤ j ∧ j ≤ 123) ∧ Le m m' ∧ Fr 27 a [(0, .pointer (some ⟨b1, 0, none⟩)), (1, .pointer (some ⟨b2, 0, none⟩)), (2, .int .i32 j)] [] ∧ St w0 w m' (pt b2 (tab (stg1 j)) 241 :: pt b1 (tab (stg1 97)) 241 :: Lf)) _ ⟨97, m, rfl, ⟨by omega, by omega⟩, Le.refl m, (Fr.cons A rfl (Fr.cons A rfl (Fr.cons A rfl (Fr.nil A)))), H⟩ ?_
  clear A H; rintro q a w ⟨j, m, rfl, hinv, hm, A, H⟩
  have hM := hM.trans hm
  have hl1 := hm
  obtain ⟨hj, hj2⟩ := hinv
  refine wp_seq ?_
  refine wp_seq ?_
  refine wp_region_lit ?_
  refine step (Runs.move A rfl) A rfl ?_; clear A a; intro a A
  refine step (Runs.leq A rfl rfl) A rfl ?_; clear A a; intro a A
  refine wpList_nil ?_
  refine cond_split A rfl (fun h1 => ?_) (fun h1 => ?_)
  · have g1 := h1
    try simp only [decide_eq_true_eq, decide_eq_false_iff_not, Bool.not_eq_true', Bool.not_eq_false', ne_eq, Decidable.not_not, Int.not_lt, Int.not_le] at g1
    refine wp_skip ?_
    refine wp_seq ?_
    refine wp_block ?_
    refine wp_region_lit ?_
    refine step (Runs.move A rfl) A rfl ?_; clear A a; intro a A
    refine step (Runs.indexArr A rfl rfl (by omega) (by omega)) A rfl ?_; clear A a; intro a A
    refine step_store A H rfl rfl rfl rfl rfl (by rw [show (0 + (Int.toNat (j : Int)) * 1 : Nat) = j by omega]; exact setN_tab _ _ _ (by omega)) ?_; intro w H
    rw [stg1_step hj] at H
    refine wpList_nil ?_
    refine wp_region_lit ?_
    refine step (Runs.move A rfl) A rfl ?_; clear A a; intro a A
    refine step (Runs.addK (r := ((j + 1 : Nat) : Int)) A rfl rfl (by simp only [IntKind.wrap, IntKind.bits, IntKind.signed, Bool.true_and, ge_iff_le, decide_eq_true_eq]; omega)) A rfl ?_; clear A a; intro a A
    refine step (Runs.assign A rfl) A rfl ?_; clear A a; intro a A
    refine wpList_nil ?_
    exact ⟨_, by omega, j + 1, m, rfl, ⟨by omega, by omega⟩, hl1, (Fr.cons A rfl (Fr.cons A rfl (Fr.cons A rfl (Fr.nil A)))), H⟩
  · have g1 := h1
    try simp only [decide_eq_true_eq, decide_eq_false_iff_not, Bool.not_eq_true', Bool.not_eq_false', ne_eq, Decidable.not_not, Int.not_lt, Int.not_le] at g1
    refine wp_exit ?_
    refine wp_seq ?_
    refine wp_seq ?_
    refine wp_region_lit ?_
    refine step (Runs.assign A rfl) A rfl ?_; clear A a; intro a A
    refine wpList_nil ?_
    refine wp_block ?_
    rw [show j = 123 by omega, stg2_init] at H
    refine wp_loop_ghost (fun q a w => ∃ (j : Nat) (m' : Mem), q = 58 - j ∧ (48 ≤ j ∧ j ≤ 58) ∧ Le m m' ∧ Fr 27 a [(0, .pointer (some ⟨b1, 0, none⟩)), (1, .pointer (some ⟨b2, 0, none⟩)), (3, .int .i32 j)] [] ∧ St w0 w m' (pt b2 (tab (stg2 j)) 241 :: pt b1 (tab (stg1 97)) 241 :: Lf)) _ ⟨48, m, rfl, ⟨by omega, by omega⟩, Le.refl m, (Fr.cons A rfl (Fr.cons A rfl (Fr.cons A rfl (Fr.nil A)))), H⟩ ?_
    clear A H; rintro q a w ⟨j, m, rfl, hinv, hm, A, H⟩
    have hM := hM.trans hm
    have hl2 := hm
    obtain ⟨hj, hj2⟩ := hinv
    refine wp_seq ?_
    refine wp_seq ?_
    refine wp_region_lit ?_
    refine step (Runs.move A rfl) A rfl ?_; clear A a; intro a A
    refine step (Runs.leq A rfl rfl) A rfl ?_; clear A a; intro a A
    refine wpList_nil ?_
    refine cond_split A rfl (fun h2 => ?_) (fun h2 => ?_)
    · have g2 := h2
      try simp only [decide_eq_true_eq, decide_eq_false_iff_not, Bool.not_eq_true', Bool.not_eq_false', ne_eq, Decidable.not_not, Int.not_lt, Int.not_le] at g2
      refine wp_skip ?_
      refine wp_seq ?_
      refine wp_block ?_
      refine wp_region_lit ?_
      refine step (Runs.move A rfl) A rfl ?_; clear A a; intro a A
      refine step (Runs.indexArr A rfl rfl (by omega) (by omega)) A rfl ?_; clear A a; intro a A
      refine step_store A H rfl rfl rfl rfl rfl (by rw [show (0 + (Int.toNat (j : Int)) * 1 : Nat) = j by omega]; exact setN_tab _ _ _ (by omega)) ?_; intro w H
      rw [stg2_step hj (by omega)] at H
      refine wpList_nil ?_
      refine wp_region_lit ?_
      refine step (Runs.move A rfl) A rfl ?_; clear A a; intro a A
      refine step (Runs.addK (r := ((j + 1 : Nat) : Int)) A rfl rfl (by simp only [IntKind.wrap, IntKind.bits, IntKind.signed, Bool.true_and, ge_iff_le, decide_eq_true_eq]; omega)) A rfl ?_; clear A a; intro a A
      refine step (Runs.assign A rfl) A rfl ?_; clear A a; intro a A
      refine wpList_nil ?_
      exact ⟨_, by omega, j + 1, m, rfl, ⟨by omega, by omega⟩, hl2, (Fr.cons A rfl (Fr.cons A rfl (Fr.cons A rfl (Fr.nil A)))), H⟩
    · have g2 := h2
      try simp only [decide_eq_true_eq, decide_eq_false_iff_not, Bool.not_eq_true', Bool.not_eq_false', ne_eq, Decidable.not_not, Int.not_lt, Int.not_le] at g2
      refine wp_exit ?_
      refine wp_seq ?_
      refine wp_seq ?_
      refine wp_region_lit ?_
      refine step_rangeS A H rfl rfl ?_; clear A a; intro b3 a w A H
      refine wpList_nil ?_
      refine wp_block ?_
      rw [show j = 58 by omega, stg3_init] at H
      refine wp_loop_ghost (fun q a w => ∃ (k : Nat) (m' : Mem), q = 22 - k ∧ (k ≤ 21) ∧ Le m m' ∧ Fr 27 a [(0, .pointer (some ⟨b1, 0, none⟩)), (1, .pointer (some ⟨b2, 0, none⟩)), (18, .pointer (some ⟨b3, 0, none⟩))] [] ∧ St w0 w m' (ob b3 (.stringIter sgB k) :: pt b2 (tab (stg3 k)) 241 :: pt b1 (tab (stg1 97)) 241 :: Lf)) _ ⟨0, m, rfl, by omega, Le.refl m, (Fr.cons A rfl (Fr.cons A rfl (Fr.cons A rfl (Fr.nil A)))), H⟩ ?_
      clear A H; rintro q a w ⟨k, m, rfl, hinv, hm, A, H⟩
      have hM := hM.trans hm
      have hl3 := hm
      refine wp_seq ?_
      refine wp_region_lit ?_
      refine step_nextS A H rfl rfl (fun hnx a w A H => ?_) (fun hnx a A => ?_)
      · change k < 21 at hnx
        have hk := sgB_dec ⟨k, hnx⟩
        simp only [Fin.val_mk] at hk
        rw [hk] at A H
        have ho := sign_out ⟨k, hnx⟩
        simp only [Fin.val_mk] at ho A H
        refine step (Runs.extract A rfl rfl) A rfl ?_; clear A a; intro a A
        refine wpList_nil ?_
        refine wp_seq ?_
        refine cond_true A rfl rfl ?_
        refine wp_skip ?_
        refine wp_block ?_
        refine wp_seq ?_
        refine wp_region_lit ?_
        refine step (Runs.extract A rfl rfl) A rfl ?_; clear A a; intro a A
        refine step (Runs.assign A rfl) A rfl ?_; clear A a; intro a A
        refine wpList_nil ?_
        refine wp_region_lit ?_
        refine step (Runs.move A rfl) A rfl ?_; clear A a; intro a A
        refine step (Runs.indexArr A rfl rfl (by omega) (by omega)) A rfl ?_; clear A a; intro a A
        refine step_store A H rfl rfl rfl rfl rfl (by rw [show ∀ z : Nat, (0 + (z : Int).toNat * 1 : Nat) = z by intro z; omega]; exact setN_tab _ _ _ ho.2.2) ?_; intro w H
        rw [stg3_step hnx] at H
        refine wpList_nil ?_
        have H' := H.perm (List.Perm.swap _ _ _)
        exact ⟨_, by omega, k + 1, m, rfl, by omega, hl3, (Fr.cons A rfl (Fr.cons A rfl (Fr.cons A rfl (Fr.nil A)))), H'⟩
      · have hk21 : k = 21 := by have : ¬ k < 21 := hnx; omega
        subst hk21
        refine step (Runs.extract A rfl rfl) A rfl ?_; clear A a; intro a A
        refine wpList_nil ?_
        refine wp_seq ?_
        refine cond_false A rfl rfl ?_
        refine wp_exit ?_
        refine wp_seq ?_
        refine wp_region_lit ?_
        refine step (Runs.indexArr A rfl rfl (by omega) (by omega)) A rfl ?_; clear A a; intro a A
        refine step_store A H rfl rfl rfl rfl rfl (setN_tab _ 32 _ (by omega)) ?_; intro w H
        refine step (Runs.indexArr A rfl rfl (by omega) (by omega)) A rfl ?_; clear A a; intro a A
        refine step_store A H rfl rfl rfl rfl rfl (setN_tab _ 10 _ (by omega)) ?_; intro w H
        rw [cls_done] at H
        refine wpList_nil ?_
        refine wp_seq ?_
        refine wp_region_lit ?_
        refine step (Runs.ldN A H rfl (stg1_tab_get _)) A rfl ?_; clear A a; intro a A
        refine step_store (vs := tab cls) A H rfl rfl rfl (tab_length _) (tab_one _) (setN_full _ _ (by rw [tab_length, tab_length])) ?_; intro w H
        refine wpList_nil ?_
        refine wp_ret ?_
        exact retFc A rfl rfl hM H (stg1_tab_get _) rfl

theorem scn_zero : ([.string ⟨#[]⟩, .int .i64 0, .int .u8 0, .int .u8 0, .int .u8 0, .int .u8 0, .int .u8 0, .int .u8 0, .int .u8 0, .int .u8 0, .int .u8 0, .int .u8 0, .int .u8 0, .int .u8 0, .int .u8 0, .int .u8 0, .int .u8 0, .int .u8 0, .int .u8 0, .int .u8 0, .int .u8 0, .int .u8 0, .int .u8 0, .int .u8 0, .int .u8 0, .int .u8 0, .int .u8 0, .int .u8 0, .int .u8 0, .int .u8 0, .int .u8 0, .int .u8 0, .int .u8 0, .int .u8 0, .int .u8 0, .int .u8 0, .int .u8 0, .int .u8 0, .int .u8 0, .int .u8 0, .int .u8 0, .int .u8 0, .int .u8 0, .int .u8 0, .int .u8 0, .int .u8 0, .int .u8 0, .int .u8 0, .int .u8 0, .int .u8 0, .int .u8 0, .int .u8 0, .int .u8 0, .int .u8 0, .int .u8 0, .int .u8 0, .int .u8 0, .int .u8 0, .int .u8 0, .int .u8 0, .int .u8 0, .int .u8 0, .int .u8 0, .int .u8 0, .int .u8 0, .int .u8 0, .int .u8 0, .int .u8 0, .int .u8 0, .int .u8 0, .int .u8 0, .int .u8 0, .int .u8 0, .int .u8 0, .int .u8 0, .int .u8 0, .int .u8 0, .int .u8 0, .int .u8 0, .int .u8 0, .int .u8 0, .int .u8 0, .int .u8 0, .int .u8 0, .int .u8 0, .int .u8 0, .int .u8 0, .int .u8 0, .int .u8 0, .int .u8 0, .int .u8 0, .int .u8 0, .int .u8 0, .int .u8 0, .int .u8 0, .int .u8 0, .int .u8 0, .int .u8 0, .int .u8 0, .int .u8 0, .int .u8 0, .int .u8 0, .int .u8 0, .int .u8 0, .int .u8 0, .int .u8 0, .int .u8 0, .int .u8 0, .int .u8 0, .int .u8 0, .int .u8 0, .int .u8 0, .int .u8 0, .int .u8 0, .int .u8 0, .int .u8 0, .int .u8 0, .int .u8 0, .int .u8 0, .int .u8 0, .int .u8 0, .int .u8 0, .int .u8 0, .int .u8 0, .int .u8 0, .int .u8 0, .int .u8 0, .int .u8 0, .int .u8 0, .int .u8 0, .int .u8 0, .int .u8 0, .int .u8 0, .int .u8 0, .int .u8 0, .int .u8 0, .int .u8 0, .int .u8 0, .int .u8 0, .int .u8 0, .int .u8 0, .int .u8 0, .int .u8 0, .int .u8 0, .int .u8 0, .int .u8 0, .int .u8 0, .int .u8 0, .int .u8 0, .int .u8 0, .int .u8 0, .int .u8 0, .int .u8 0, .int .u8 0, .int .u8 0, .int .u8 0, .int .u8 0, .int .u8 0, .int .u8 0, .int .u8 0, .int .u8 0, .int .u8 0, .int .u8 0, .int .u8 0, .int .u8 0, .int .u8 0, .int .u8 0, .int .u8 0, .int .u8 0, .int .u8 0, .int .u8 0, .int .u8 0, .int .u8 0, .int .u8 0, .int .u8 0, .int .u8 0, .int .u8 0, .int .u8 0, .int .u8 0, .int .u8 0, .int .u8 0, .int .u8 0, .int .u8 0, .int .u8 0, .int .u8 0, .int .u8 0, .int .u8 0, .int .u8 0, .int .u8 0, .int .u8 0, .int .u8 0, .int .u8 0, .int .u8 0, .int .u8 0, .int .u8 0, .int .u8 0, .int .u8 0, .int .u8 0, .int .u8 0, .int .u8 0, .int .u8 0, .int .u8 0, .int .u8 0, .int .u8 0, .int .u8 0, .int .u8 0, .int .u8 0, .int .u8 0, .int .u8 0, .int .u8 0, .int .u8 0, .int .u8 0, .int .u8 0, .int .u8 0, .int .u8 0, .int .u8 0, .int .u8 0, .int .u8 0, .int .u8 0, .int .u8 0, .int .u8 0, .int .u8 0, .int .u8 0, .int .u8 0, .int .u8 0, .int .u8 0, .int .u8 0, .int .u8 0, .int .u8 0, .int .u8 0, .int .u8 0, .int .u8 0, .int .u8 0, .int .u8 0, .int .u8 0, .int .u8 0, .int .u8 0, .int .u8 0, .int .u8 0, .int .u8 0, .int .u8 0, .int .u8 0, .int .u8 0, .int .u8 0, .int .u8 0, .int .u8 0, .int .u8 0, .int .u8 0, .int .u8 0, .int .u8 0, .int .u8 0, .int .u8 0, .int .u8 0, .int .u8 0, .int .u8 0, .int .u8 0, .int .u8 0, .int .u8 0, .slice none 0 0] : List Value) = .string ⟨#[]⟩ :: .int .i64 0 :: (List.replicate 256 (.int .u8 0) ++ [.slice none 0 0]) := by kernel_rfl
theorem setN_mid (a c : Value) (cs vs : List Value) (d : Value) (h : cs.length = vs.length) : setN (a :: c :: (cs ++ [d])) 2 vs = some (a :: c :: (vs ++ [d])) := by
  rw [setN_of (by simp only [List.length_cons, List.length_append, List.length_nil, h]; omega)]
  simp only [List.take_succ_cons, List.take_zero, List.cons_append, List.nil_append, List.drop_succ_cons]
  rw [show 2 + vs.length = (vs.length + 1) + 1 by omega, List.drop_succ_cons, List.drop_succ_cons, ← h, List.drop_left]
theorem setN_pre (vs R : List Value) (d : Value) (h : R.length = vs.length) : setN (R ++ [d]) 0 vs = some (vs ++ [d]) := by
  rw [setN_of (by simp only [List.length_append, List.length_cons, List.length_nil, h]; omega), List.take_zero, List.nil_append, Nat.zero_add, ← h, List.drop_left]
theorem scn_fill0 (a0 b0 d0 v : Value) (vs R : List Value) (hR : R.length = 256) (hv : vs.length = 256) (h1 : v.cells.toList = [v]) : fillP (fun i => ([(0, 1), (1, 1), (2, 256), (258, 1)] : List (Nat × Nat))[i]?) (a0 :: b0 :: (R ++ [d0])) [(0, v), (2, .agg vs.toArray)] = some (v :: b0 :: (vs ++ [d0])) := by
  have h2 : (Value.agg vs.toArray).cells.toList = vs := rfl
  simp only [fillP, h2, List.getElem?_cons_succ, List.getElem?_cons_zero, hv, h1, List.length_cons, List.length_nil, Nat.zero_add, Nat.beq_refl, cond_true, bindO, setN, consO]
  rw [setN_pre _ _ _ (by rw [hR, hv])]
  exact forceL_eq _
theorem scn_fill (s : ByteArray) : fillP (fun i => ([(0, 1), (1, 1), (2, 256), (258, 1)] : List (Nat × Nat))[i]?) ([.string ⟨#[]⟩, .int .i64 0, .int .u8 0, .int .u8 0, .int .u8 0, .int .u8 0, .int .u8 0, .int .u8 0, .int .u8 0, .int .u8 0, .int .u8 0, .int .u8 0, .int .u8 0, .int .u8 0, .int .u8 0, .int .u8 0, .int .u8 0, .int .u8 0, .int .u8 0, .int .u8 0, .int .u8 0, .int .u8 0, .int .u8 0, .int .u8 0, .int .u8 0, .int .u8 0, .int .u8 0, .int .u8 0, .int .u8 0, .int .u8 0, .int .u8 0, .int .u8 0, .int .u8 0, .int .u8 0, .int .u8 0, .int .u8 0, .int .u8 0, .int .u8 0, .int .u8 0, .int .u8 0, .int .u8 0, .int .u8 0, .int .u8 0, .int .u8 0, .int .u8 0, .int .u8 0, .int .u8 0, .int .u8 0, .int .u8 0, .int .u8 0, .int .u8 0, .int .u8 0, .int .u8 0, .int .u8 0, .int .u8 0, .int .u8 0, .int .u8 0, .int .u8 0, .int .u8 0, .int .u8 0, .int .u8 0, .int .u8 0, .int .u8 0, .int .u8 0, .int .u8 0, .int .u8 0, .int .u8 0, .int .u8 0, .int .u8 0, .int .u8 0, .int .u8 0, .int .u8 0, .int .u8 0, .int .u8 0, .int .u8 0, .int .u8 0, .int .u8 0, .int .u8 0, .int .u8 0, .int .u8 0, .int .u8 0, .int .u8 0, .int .u8 0, .int .u8 0, .int .u8 0, .int .u8 0, .int .u8 0, .int .u8 0, .int .u8 0, .int .u8 0, .int .u8 0, .int .u8 0, .int .u8 0, .int .u8 0, .int .u8 0, .int .u8 0, .int .u8 0, .int .u8 0, .int .u8 0, .int .u8 0, .int .u8 0, .int .u8 0, .int .u8 0, .int .u8 0, .int .u8 0, .int .u8 0, .int .u8 0, .int .u8 0, .int .u8 0, .int .u8 0, .int .u8 0, .int .u8 0, .int .u8 0, .int .u8 0, .int .u8 0, .int .u8 0, .int .u8 0, .int .u8 0, .int .u8 0, .int .u8 0, .int .u8 0, .int .u8 0, .int .u8 0, .int .u8 0, .int .u8 0, .int .u8 0, .int .u8 0, .int .u8 0, .int .u8 0, .int .u8 0, .int .u8 0, .int .u8 0, .int .u8 0, .int .u8 0, .int .u8 0, .int .u8 0, .int .u8 0, .int .u8 0, .int .u8 0, .int .u8 0, .int .u8 0, .int .u8 0, .int .u8 0, .int .u8 0, .int .u8 0, .int .u8 0, .int .u8 0, .int .u8 0, .int .u8 0, .int .u8 0, .int .u8 0, .int .u8 0, .int .u8 0, .int .u8 0, .int .u8 0, .int .u8 0, .int .u8 0, .int .u8 0, .int .u8 0, .int .u8 0, .int .u8 0, .int .u8 0, .int .u8 0, .int .u8 0, .int .u8 0, .int .u8 0, .int .u8 0, .int .u8 0, .int .u8 0, .int .u8 0, .int .u8 0, .int .u8 0, .int .u8 0, .int .u8 0, .int .u8 0, .int .u8 0, .int .u8 0, .int .u8 0, .int .u8 0, .int .u8 0, .int .u8 0, .int .u8 0, .int .u8 0, .int .u8 0, .int .u8 0, .int .u8 0, .int .u8 0, .int .u8 0, .int .u8 0, .int .u8 0, .int .u8 0, .int .u8 0, .int .u8 0, .int .u8 0, .int .u8 0, .int .u8 0, .int .u8 0, .int .u8 0, .int .u8 0, .int .u8 0, .int .u8 0, .int .u8 0, .int .u8 0, .int .u8 0, .int .u8 0, .int .u8 0, .int .u8 0, .int .u8 0, .int .u8 0, .int .u8 0, .int .u8 0, .int .u8 0, .int .u8 0, .int .u8 0, .int .u8 0, .int .u8 0, .int .u8 0, .int .u8 0, .int .u8 0, .int .u8 0, .int .u8 0, .int .u8 0, .int .u8 0, .int .u8 0, .int .u8 0, .int .u8 0, .int .u8 0, .int .u8 0, .int .u8 0, .int .u8 0, .int .u8 0, .int .u8 0, .int .u8 0, .int .u8 0, .int .u8 0, .int .u8 0, .int .u8 0, .int .u8 0, .int .u8 0, .int .u8 0, .int .u8 0, .int .u8 0, .int .u8 0, .int .u8 0, .int .u8 0, .int .u8 0, .int .u8 0, .int .u8 0, .int .u8 0, .int .u8 0, .int .u8 0, .int .u8 0, .int .u8 0, .int .u8 0, .int .u8 0, .int .u8 0, .int .u8 0, .int .u8 0, .slice none 0 0]) ([0, 2].zip [.string s, .agg (tab cls).toArray]) = some (scn s 0 (.slice none 0 0)) := by
  rw [scn_zero]
  exact scn_fill0 _ _ _ _ _ _ (List.length_replicate ..) (tab_length _) rfl
def lexStep (s : ByteArray) (i : Nat) : Option (Nat × List Tok) :=
  if spN s i ≠ 0 then some (spN s i, [])
  else if wkind (s.extract i (i + wl s i)) ≠ 0 then some (wl s i, [⟨wkind (s.extract i (i + wl s i)), s.extract i (i + wl s i), i⟩])
  else if sgn s i ≠ 0 then some (sgn s i, [⟨3, s.extract i (i + sgn s i), i⟩])
  else none
def lexGo (s : ByteArray) : Nat → Nat → List Tok → Except Nat (List Tok)
  | 0, i, _ => .error i
  | f + 1, i, acc => if i < s.size then
      match lexStep s i with
      | some (n, t) => lexGo s f (i + n) (acc ++ t)
      | none => .error i
    else .ok (acc ++ [⟨4, s.extract i (i + 0), i⟩])
def lexAll (s : ByteArray) : Except (Nat × Int) (List Tok) := if 8000 < s.size then .error (0, 2) else match lexGo s (s.size + 1) 0 [] with
  | .error i => .error (i, 5)
  | .ok l => .ok l
theorem wkind_pos {s : ByteArray} {i n : Nat} (h : wkind (s.extract i (i + n)) ≠ 0) : n ≠ 0 := by
  rintro rfl
  apply h
  rw [wkind, if_pos]
  exact ByteArray.ext (by simp)
theorem lexStep_pos {s : ByteArray} {i n : Nat} {t : List Tok} (h : lexStep s i = some (n, t)) : 1 ≤ n ∧ t.length ≤ n := by
  unfold lexStep at h
  split at h
  · cases h; simp; omega
  · split at h
    · rename_i h2; have := wkind_pos h2; cases h; simp; omega
    · split at h
      · cases h; simp; omega
      · cases h

theorem c_lexer_Lex {s : ByteArray} {m : Mem} (G : Glob m) (hs : s.size ≤ 140737488355328) : Spec Tryz.prog 115 #[.string s] m [] (RetF fun m' v => match lexAll s with | .error (p, e) => v = .tuple #[.slice none 0 0, .int .i64 p, .int .i64 e] | .ok l => ∃ ad c, v = .tuple #[.slice ad l.length c, .int .i64 0, .int .i64 0] ∧ Slc m' 3 ad l.length c (tokCells l)) := by
  refine Spec.enter0 Tryz.func115 rfl 42 Tryz.ntmps115 rfl fun a w0 Lf A H => ?_
  have hM := Le.refl m
  refine wp_seq ?_
  refine wp_region_lit ?_
  refine step (Runs.assign A rfl) A rfl ?_; clear A a; intro a A
  refine step (Runs.assign A rfl) A rfl ?_; clear A a; intro a A
  refine step (Runs.assign A rfl) A rfl ?_; clear A a; intro a A
  refine wpList_nil ?_
  refine wp_scope_straight ?_
  refine wp_seq ?_
  refine wp_seq ?_
  refine wp_region_lit ?_
  refine step (Runs.move A rfl) A rfl ?_; clear A a; intro a A
  refine step (Runs.lenS A rfl StrC.h) A rfl ?_; clear A a; intro a A
  refine step (Runs.gtr A rfl rfl) A rfl ?_; clear A a; intro a A
  refine wpList_nil ?_
  refine cond_split A rfl (fun h1 => ?_) (fun h1 => ?_)
  · have g1 := h1
    try simp only [decide_eq_true_eq, decide_eq_false_iff_not, Bool.not_eq_true', Bool.not_eq_false', ne_eq, Decidable.not_not, Int.not_lt, Int.not_le] at g1
    refine wp_seq ?_
    refine wp_region_lit ?_
    refine step (Runs.assign A rfl) A rfl ?_; clear A a; intro a A
    refine step (Runs.assign A rfl) A rfl ?_; clear A a; intro a A
    refine step (Runs.assign A rfl) A rfl ?_; clear A a; intro a A
    refine wpList_nil ?_
    refine wp_ret ?_
    have e : lexAll s = .error (0, 2) := by rw [lexAll, if_pos (by omega)]
    exact retF3 A rfl rfl rfl rfl hM H (by simp only [e]; rfl)
  · have g1 := h1
    try simp only [decide_eq_true_eq, decide_eq_false_iff_not, Bool.not_eq_true', Bool.not_eq_false', ne_eq, Decidable.not_not, Int.not_lt, Int.not_le] at g1
    refine wp_skip ?_
    refine wp_seq ?_
    refine wp_region_lit ?_
    refine step (Runs.move A rfl) A rfl ?_; clear A a; intro a A
    refine step_callF A rfl rfl (c_lexer_classOf) H ?_
    rintro v3_1 a w m hm rfl A H
    have hM := hM.trans hm
    have G := G.mono hm
    refine step (Runs.build A rfl rfl (scn_fill s)) A rfl ?_; clear A a; intro a A
    refine step_box A H rfl (by simp only [Value.cells, List.toList_toArray]; rfl) rfl ?_; intro b1 a w A H
    refine step (Runs.assign A rfl) A rfl ?_; clear A a; intro a A
    refine wpList_nil ?_
    refine wp_seq ?_
    refine wp_region_lit ?_
    refine step (Runs.buildArr A rfl rfl rfl) A rfl ?_; clear A a; intro a A
    refine step_alloc A H rfl ?_; clear A a; intro b2 a w A H
    refine step_store A H rfl rfl rfl rfl rfl rfl ?_; intro w H
    refine wpList_nil ?_
    refine wp_seq ?_
    refine wp_label ?_
    refine wp_seq ?_
    refine wp_block ?_
    have H := H.row_nil 170 3
    have H := H.perm ((List.Perm.cons _ (List.Perm.swap _ _ _)).trans (List.Perm.swap _ _ _))
    refine wp_loop_ghost (fun q a w => ∃ (i : Nat) (toks : List Tok) (ad : Option Addr) (c : Nat) (m' : Mem), q = s.size + 1 - i ∧ (i ≤ s.size ∧ toks.length ≤ i ∧ ∃ f, s.size < i + f ∧ lexGo s f i toks = lexGo s (s.size + 1) 0 []) ∧ Le m m' ∧ Fr 42 a [(0, .string s), (5, .pointer (some ⟨b1, 0, none⟩)), (6, .pointer (some ⟨b2, 0, none⟩))] [] ∧ St w0 w m' (pt b1 (scn s i (.slice ad toks.length c)) 244 :: row 170 3 ad toks.length c (tokCells toks) :: pt b2 [.func (.func 147) #[] #[], .func (.func 148) #[] #[], .func (.func 149) #[] #[]] 246 :: Lf)) _ ⟨0, [], none, 0, m, rfl, ⟨by omega, by simp, s.size + 1, by omega, rfl⟩, Le.refl m, (Fr.cons A rfl (Fr.cons A rfl (Fr.cons A rfl (Fr.nil A)))), H⟩ ?_
    clear A H; rintro q a w ⟨i, toks, ad, c, m, rfl, hinv, hm, A, H⟩
    have hM := hM.trans hm
    have G := G.mono hm
    have hl1 := hm
    obtain ⟨hi, htk, fu, hfu, hgo⟩ := hinv
    refine wp_seq ?_
    refine wp_seq ?_
    refine wp_region_lit ?_
    refine step (Runs.move A rfl) A rfl ?_; clear A a; intro a A
    refine step (Runs.nilCheck A rfl) A rfl ?_; clear A a; intro a A
    refine step (Runs.fa A rfl) A rfl ?_; clear A a; intro a A
    refine step (Runs.ld1 A H rfl rfl) A rfl ?_; clear A a; intro a A
    refine step (Runs.move A rfl) A rfl ?_; clear A a; intro a A
    refine step (Runs.lenS A rfl StrC.h) A rfl ?_; clear A a; intro a A
    refine step (Runs.lss A rfl rfl) A rfl ?_; clear A a; intro a A
    refine wpList_nil ?_
    refine cond_split A rfl (fun h2 => ?_) (fun h2 => ?_)
    · have g2 := h2
      try simp only [decide_eq_true_eq, decide_eq_false_iff_not, Bool.not_eq_true', Bool.not_eq_false', ne_eq, Decidable.not_not, Int.not_lt, Int.not_le] at g2
      refine wp_skip ?_
      refine wp_block ?_
      refine wp_seq ?_
      refine wp_seq ?_
      refine wp_region_lit ?_
      refine step (Runs.ldN A H rfl rfl) A rfl ?_; clear A a; intro a A
      refine step (Runs.move A rfl) A rfl ?_; clear A a; intro a A
      refine wpList_nil ?_
      refine wp_block ?_
      refine wp_loop_ghost (fun q a w => ∃ (j : Nat) (m' : Mem), q = 4 - j ∧ (j ≤ 3 ∧ (0 < j → spN s i = 0) ∧ (1 < j → wkind (s.extract i (i + wl s i)) = 0) ∧ (2 < j → sgn s i = 0)) ∧ Le m m' ∧ Fr 42 a [(0, .string s), (5, .pointer (some ⟨b1, 0, none⟩)), (6, .pointer (some ⟨b2, 0, none⟩)), (24, .agg #[.func (.func 147) #[] #[], .func (.func 148) #[] #[], .func (.func 149) #[] #[]]), (25, .int .i64 j)] [] ∧ St w0 w m' (pt b1 (scn s i (.slice ad toks.length c)) 244 :: row 170 3 ad toks.length c (tokCells toks) :: pt b2 [.func (.func 147) #[] #[], .func (.func 148) #[] #[], .func (.func 149) #[] #[]] 246 :: Lf)) _ ⟨0, m, rfl, ⟨by omega, fun h => absurd h (by omega), fun h => absurd h (by omega), fun h => absurd h (by omega)⟩, Le.refl m, (Fr.cons A rfl (Fr.cons A rfl (Fr.cons A rfl (Fr.cons A rfl (Fr.cons A rfl (Fr.nil A)))))), H⟩ ?_
      clear A H; rintro q a w ⟨j, m, rfl, hinv, hm, A, H⟩
      have hM := hM.trans hm
      have hl1 := hl1.trans hm
      have G := G.mono hm
      have hl2 := hm
      obtain ⟨hj, hf0, hf1, hf2⟩ := hinv
      refine wp_seq ?_
      refine wp_region_lit ?_
      refine step (Runs.lss A rfl rfl) A rfl ?_; clear A a; intro a A
      refine wpList_nil ?_
      refine wp_seq ?_
      refine cond_split A rfl (fun h3 => ?_) (fun h3 => ?_)
      · have g3 := h3
        try simp only [decide_eq_true_eq, decide_eq_false_iff_not, Bool.not_eq_true', Bool.not_eq_false', ne_eq, Decidable.not_not, Int.not_lt, Int.not_le] at g3
        refine wp_skip ?_
        refine wp_seq ?_
        refine wp_block ?_
        refine wp_seq ?_
        refine wp_region_lit ?_
        obtain ⟨fv, hfv, hcase⟩ : ∃ v, ([.func (.func 147) #[] #[], .func (.func 148) #[] #[], .func (.func 149) #[] #[]] : List Value)[j]? = some v ∧ (j = 0 ∧ v = .func (.func 147) #[] #[] ∨ j = 1 ∧ v = .func (.func 148) #[] #[] ∨ j = 2 ∧ v = .func (.func 149) #[] #[]) := by
          have : j = 0 ∨ j = 1 ∨ j = 2 := by omega
          rcases this with rfl | rfl | rfl
          · exact ⟨_, rfl, .inl ⟨rfl, rfl⟩⟩
          · exact ⟨_, rfl, .inr (.inl ⟨rfl, rfl⟩)⟩
          · exact ⟨_, rfl, .inr (.inr ⟨rfl, rfl⟩)⟩
        refine step (Runs.indexArrV A rfl rfl (v := fv) (by omega) (by omega) (by simpa using hfv)) A rfl ?_; clear A a; intro a A
        refine step (Runs.assign A rfl) A rfl ?_; clear A a; intro a A
        rcases hcase with ⟨hj0, rfl⟩ | ⟨hj0, rfl⟩ | ⟨hj0, rfl⟩
        · refine wpList_nil ?_
          refine wp_seq ?_
          refine wp_region_lit ?_
          refine step (Runs.move A rfl) A rfl ?_; clear A a; intro a A
          refine step (Runs.move A rfl) A rfl ?_; clear A a; intro a A
          refine step_cloS A rfl rfl rfl (c_lexer_scanner_space (b := b1) (i := i) (s := s) (tv := .slice ad toks.length c) (by omega) (by omega)) H ?_
          rintro v9_2 a w m L' hm hpost A H
          have hM := hM.trans hm
          have hl1 := hl1.trans hm
          have hl2 := hl2.trans hm
          have G := G.mono hm
          rcases hpost with hpost | hpost
          · obtain ⟨hz, rfl, rfl⟩ := hpost
            obtain ⟨nn, tt, ad2, c2, hst, hnn, H⟩ : ∃ (nn : Nat) (tt : List Tok) (ad2 : Option Addr) (c2 : Nat), lexStep s i = some (nn, tt) ∧ i + nn ≤ s.size ∧ St w0 w m (pt b1 (scn s ((i + nn : Nat) : Int) (.slice ad2 (toks ++ tt).length c2)) 244 :: row 170 3 ad2 (toks ++ tt).length c2 (tokCells (toks ++ tt)) :: pt b2 [.func (.func 147) #[] #[], .func (.func 148) #[] #[], .func (.func 149) #[] #[]] 246 :: Lf) := ⟨spN s i, [], ad, c, by rw [lexStep, if_pos hz], spN_le s i (by omega), by rw [List.append_nil, Int.natCast_add]; exact H⟩
            refine wpList_nil ?_
            refine cond_true A rfl rfl ?_
            refine wp_exit ?_
            have hpos := lexStep_pos hst
            obtain ⟨fu', rfl⟩ : ∃ q, fu = q + 1 := ⟨fu - 1, by omega⟩
            have hgo2 : lexGo s fu' (i + nn) (toks ++ tt) = lexGo s (s.size + 1) 0 [] := by rw [← hgo]; simp only [lexGo]; rw [if_pos (show i < s.size by omega), hst]
            exact ⟨_, by omega, i + nn, toks ++ tt, ad2, c2, m, rfl, ⟨by omega, by rw [List.length_append]; omega, fu', by omega, hgo2⟩, hl1, (Fr.cons A rfl (Fr.cons A rfl (Fr.cons A rfl (Fr.nil A)))), H⟩
          · obtain ⟨hz, rfl, rfl⟩ := hpost
            simp only [List.cons_append, List.nil_append] at H
            have q0 : spN s i = 0 := hz
            refine wpList_nil ?_
            refine cond_false A rfl rfl ?_
            refine wp_skip ?_
            refine wp_region_lit ?_
            refine step (Runs.add A rfl rfl (by omega)) A rfl ?_; clear A a; intro a A
            refine step (Runs.move A rfl) A rfl ?_; clear A a; intro a A
            refine wpList_nil ?_
            exact ⟨_, by omega, j + 1, m, rfl, ⟨by omega, by intro _; first | exact q0 | (exfalso; omega), by intro _; first | exact q1 | (exfalso; omega), by intro _; first | exact q2 | (exfalso; omega)⟩, hl2, (Fr.cons A rfl (Fr.cons A rfl (Fr.cons A rfl (Fr.cons A rfl (Fr.cons A rfl (Fr.nil A)))))), H⟩
        · refine wpList_nil ?_
          refine wp_seq ?_
          refine wp_region_lit ?_
          refine step (Runs.move A rfl) A rfl ?_; clear A a; intro a A
          refine step (Runs.move A rfl) A rfl ?_; clear A a; intro a A
          refine step_cloS A rfl rfl rfl (c_lexer_scanner_word (b := b1) (i := i) (s := s) (ad := ad) (c := c) (toks := toks) G (by omega) (by omega) (by omega)) H ?_
          rintro v9_2 a w m L' hm hpost A H
          have hM := hM.trans hm
          have hl1 := hl1.trans hm
          have hl2 := hl2.trans hm
          have G := G.mono hm
          rcases hpost with hpost | hpost
          · obtain ⟨hz, rfl, ad', c', rfl⟩ := hpost
            obtain ⟨nn, tt, ad2, c2, hst, hnn, H⟩ : ∃ (nn : Nat) (tt : List Tok) (ad2 : Option Addr) (c2 : Nat), lexStep s i = some (nn, tt) ∧ i + nn ≤ s.size ∧ St w0 w m (pt b1 (scn s ((i + nn : Nat) : Int) (.slice ad2 (toks ++ tt).length c2)) 244 :: row 170 3 ad2 (toks ++ tt).length c2 (tokCells (toks ++ tt)) :: pt b2 [.func (.func 147) #[] #[], .func (.func 148) #[] #[], .func (.func 149) #[] #[]] 246 :: Lf) := ⟨wl s i, _, ad', c', by rw [lexStep, if_neg (by rw [Decidable.not_not]; exact hf0 (by omega)), if_pos hz], wl_le s i (by omega), by rw [Int.natCast_add, List.length_append]; exact H⟩
            refine wpList_nil ?_
            refine cond_true A rfl rfl ?_
            refine wp_exit ?_
            have hpos := lexStep_pos hst
            obtain ⟨fu', rfl⟩ : ∃ q, fu = q + 1 := ⟨fu - 1, by omega⟩
            have hgo2 : lexGo s fu' (i + nn) (toks ++ tt) = lexGo s (s.size + 1) 0 [] := by rw [← hgo]; simp only [lexGo]; rw [if_pos (show i < s.size by omega), hst]
            exact ⟨_, by omega, i + nn, toks ++ tt, ad2, c2, m, rfl, ⟨by omega, by rw [List.length_append]; omega, fu', by omega, hgo2⟩, hl1, (Fr.cons A rfl (Fr.cons A rfl (Fr.cons A rfl (Fr.nil A)))), H⟩
          · obtain ⟨hz, rfl, rfl⟩ := hpost
            simp only [List.cons_append, List.nil_append] at H
            have q0 : spN s i = 0 := hf0 (by omega)
            have q1 := hz
            refine wpList_nil ?_
            refine cond_false A rfl rfl ?_
            refine wp_skip ?_
            refine wp_region_lit ?_
            refine step (Runs.add A rfl rfl (by omega)) A rfl ?_; clear A a; intro a A
            refine step (Runs.move A rfl) A rfl ?_; clear A a; intro a A
            refine wpList_nil ?_
            exact ⟨_, by omega, j + 1, m, rfl, ⟨by omega, by intro _; first | exact q0 | (exfalso; omega), by intro _; first | exact q1 | (exfalso; omega), by intro _; first | exact q2 | (exfalso; omega)⟩, hl2, (Fr.cons A rfl (Fr.cons A rfl (Fr.cons A rfl (Fr.cons A rfl (Fr.cons A rfl (Fr.nil A)))))), H⟩
        · refine wpList_nil ?_
          refine wp_seq ?_
          refine wp_region_lit ?_
          refine step (Runs.move A rfl) A rfl ?_; clear A a; intro a A
          refine step (Runs.move A rfl) A rfl ?_; clear A a; intro a A
          refine step_cloS A rfl rfl rfl (c_lexer_scanner_sign (b := b1) (i := i) (s := s) (ad := ad) (c := c) (toks := toks) (by omega) (by omega) (by omega)) H ?_
          rintro v9_2 a w m L' hm hpost A H
          have hM := hM.trans hm
          have hl1 := hl1.trans hm
          have hl2 := hl2.trans hm
          have G := G.mono hm
          rcases hpost with hpost | hpost
          · obtain ⟨hz, rfl, ad', c', rfl⟩ := hpost
            obtain ⟨nn, tt, ad2, c2, hst, hnn, H⟩ : ∃ (nn : Nat) (tt : List Tok) (ad2 : Option Addr) (c2 : Nat), lexStep s i = some (nn, tt) ∧ i + nn ≤ s.size ∧ St w0 w m (pt b1 (scn s ((i + nn : Nat) : Int) (.slice ad2 (toks ++ tt).length c2)) 244 :: row 170 3 ad2 (toks ++ tt).length c2 (tokCells (toks ++ tt)) :: pt b2 [.func (.func 147) #[] #[], .func (.func 148) #[] #[], .func (.func 149) #[] #[]] 246 :: Lf) := ⟨sgn s i, _, ad', c', by rw [lexStep, if_neg (by rw [Decidable.not_not]; exact hf0 (by omega)), if_neg (by rw [Decidable.not_not]; exact hf1 (by omega)), if_pos hz], sgn_le s i (by omega), by rw [Int.natCast_add, List.length_append]; exact H⟩
            refine wpList_nil ?_
            refine cond_true A rfl rfl ?_
            refine wp_exit ?_
            have hpos := lexStep_pos hst
            obtain ⟨fu', rfl⟩ : ∃ q, fu = q + 1 := ⟨fu - 1, by omega⟩
            have hgo2 : lexGo s fu' (i + nn) (toks ++ tt) = lexGo s (s.size + 1) 0 [] := by rw [← hgo]; simp only [lexGo]; rw [if_pos (show i < s.size by omega), hst]
            exact ⟨_, by omega, i + nn, toks ++ tt, ad2, c2, m, rfl, ⟨by omega, by rw [List.length_append]; omega, fu', by omega, hgo2⟩, hl1, (Fr.cons A rfl (Fr.cons A rfl (Fr.cons A rfl (Fr.nil A)))), H⟩
          · obtain ⟨hz, rfl, rfl⟩ := hpost
            simp only [List.cons_append, List.nil_append] at H
            have q0 : spN s i = 0 := hf0 (by omega)
            have q1 := hf1 (by omega)
            have q2 := hz
            refine wpList_nil ?_
            refine cond_false A rfl rfl ?_
            refine wp_skip ?_
            refine wp_region_lit ?_
            refine step (Runs.add A rfl rfl (by omega)) A rfl ?_; clear A a; intro a A
            refine step (Runs.move A rfl) A rfl ?_; clear A a; intro a A
            refine wpList_nil ?_
            exact ⟨_, by omega, j + 1, m, rfl, ⟨by omega, by intro _; first | exact q0 | (exfalso; omega), by intro _; first | exact q1 | (exfalso; omega), by intro _; first | exact q2 | (exfalso; omega)⟩, hl2, (Fr.cons A rfl (Fr.cons A rfl (Fr.cons A rfl (Fr.cons A rfl (Fr.cons A rfl (Fr.nil A)))))), H⟩
      · have g3 := h3
        try simp only [decide_eq_true_eq, decide_eq_false_iff_not, Bool.not_eq_true', Bool.not_eq_false', ne_eq, Decidable.not_not, Int.not_lt, Int.not_le] at g3
        refine wp_exit ?_
        refine wp_seq ?_
        refine draw_begin0 (by kernel_rfl) (N := 7) rfl (by kernel_rfl) H ?_; clear H; intro w H hR
        have hS : SW m _ w := ⟨_, H⟩
        have hL := Le.refl m
        refine dstep hR (i := 0) rfl (by kernel_rfl) (fun _ _ _ h => h) (fun _ _ H' => (Runs.move A rfl)) A rfl hS ?_; clear A a hR; intro a A hR
        refine dstep hR (i := 1) rfl (by kernel_rfl) (fun _ _ _ h => h) (fun _ _ H' => (Runs.nilCheck A rfl)) A rfl hS ?_; clear A a hR; intro a A hR
        refine dstep hR (i := 2) rfl (by kernel_rfl) (fun _ _ _ h => h) (fun _ _ H' => (Runs.fa A rfl)) A rfl hS ?_; clear A a hR; intro a A hR
        refine dstep hR (i := 3) rfl (by kernel_rfl) (fun _ _ _ h => h) (fun _ _ H' => (Runs.ld1 A H' rfl rfl)) A rfl hS ?_; clear A a hR; intro a A hR
        refine dstep hR (i := 4) rfl (by kernel_rfl) (fun _ _ _ h => h) (fun _ _ H' => (Runs.assign A rfl)) A rfl hS ?_; clear A a hR; intro a A hR
        refine dstep hR (i := 5) rfl (by kernel_rfl) (fun _ _ _ h => h) (fun _ _ H' => (Runs.assign A rfl)) A rfl hS ?_; clear A a hR; intro a A hR
        refine dstep hR (i := 6) rfl (by kernel_rfl) (fun _ _ _ h => h) (fun _ _ H' => (Runs.assign A rfl)) A rfl hS ?_; clear A a hR; intro a A hR
        refine draw_done hR (by kernel_rfl) ?_
        clear hS hL hR
        refine wp_ret ?_
        have hj3 : j = 3 := by omega
        have hst : lexStep s i = none := by rw [lexStep, if_neg (by rw [Decidable.not_not]; exact hf0 (by omega)), if_neg (by rw [Decidable.not_not]; exact hf1 (by omega)), if_neg (by rw [Decidable.not_not]; exact hf2 (by omega))]
        obtain ⟨fu', rfl⟩ : ∃ q, fu = q + 1 := ⟨fu - 1, by omega⟩
        have e : lexAll s = .error (i, 5) := by
          rw [lexAll, if_neg (by omega), ← hgo]; simp only [lexGo]; rw [if_pos (show i < s.size by omega), hst]
        exact retF3 A rfl rfl rfl rfl hM H (by simp only [e])
    · have g2 := h2
      try simp only [decide_eq_true_eq, decide_eq_false_iff_not, Bool.not_eq_true', Bool.not_eq_false', ne_eq, Decidable.not_not, Int.not_lt, Int.not_le] at g2
      refine wp_exit ?_
      refine wp_seq ?_
      refine wp_region_lit ?_
      refine step (Runs.move A rfl) A rfl ?_; clear A a; intro a A
      refine step_callS A rfl rfl (c_lexer_scanner_take (b := b1) (s := s) (i := i) (k := 0) (ad := ad) (c := c) (toks := toks) (by omega) (by omega) (by omega)) H ?_
      rintro v12_1 a w m L' hm ⟨rfl, ad3, c3, rfl⟩ A H
      simp only [List.cons_append, List.nil_append] at H
      have hM := hM.trans hm
      have G := G.mono hm
      refine wpList_nil ?_
      refine wp_seq ?_
      refine wp_region_lit ?_
      refine step (Runs.move A rfl) A rfl ?_; clear A a; intro a A
      refine step (Runs.nilCheck A rfl) A rfl ?_; clear A a; intro a A
      refine step (Runs.fa A rfl) A rfl ?_; clear A a; intro a A
      refine step (Runs.ld1 A H rfl (scn_tok _ _ _)) A rfl ?_; clear A a; intro a A
      refine step (Runs.assign A rfl) A rfl ?_; clear A a; intro a A
      refine step (Runs.assign A rfl) A rfl ?_; clear A a; intro a A
      refine step (Runs.assign A rfl) A rfl ?_; clear A a; intro a A
      refine wpList_nil ?_
      refine wp_ret ?_
      obtain ⟨fu', rfl⟩ : ∃ q, fu = q + 1 := ⟨fu - 1, by omega⟩
      have e : lexAll s = .ok (toks ++ [⟨4, s.extract i (i + 0), i⟩]) := by
        rw [lexAll, if_neg (by omega), ← hgo]; simp only [lexGo]; rw [if_neg (show ¬ i < s.size by omega)]
      obtain ⟨m2, hm2, hslc, H⟩ := H.drop.row_freeze
      exact retF3 A rfl rfl rfl rfl (hM.trans hm2) H (by simp only [e]; exact ⟨ad3, c3, by rw [List.length_append]; rfl, by rw [List.length_append]; exact hslc⟩)
end Sl
end Go.Proofs.YtanhehbfbakdcaaGreatDoor
