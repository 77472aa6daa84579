/- Stores: the reference's Store: walk, printed by my gen.py out of annotations. -/
import Derived.Test.YtanhehbfbakdcaaGreatDoorObjB
import Derived.Test.YtanhehbfbakdcaaGreatDoorRaw
set_option linter.unusedSimpArgs false
set_option linter.unusedVariables false
namespace Go.Proofs.YtanhehbfbakdcaaGreatDoor
namespace Sl
open Go

def st1P (ls : List (List UInt8)) : List Obj := ls.foldl (fun s d => putR s (d.take 40)) []
def dmg1P (s : List Obj) (t : UInt8 × UInt8 × UInt8) : List Obj := match s[t.1.toNat % s.length]? with
  | some o => s.set (t.1.toNat % s.length) ⟨o.id, brkP o.data t.2.1 t.2.2⟩
  | none => s
def storeP (ls : List (List UInt8)) (ts : List (UInt8 × UInt8 × UInt8)) : List Obj := (ts.take 4).foldl dmg1P (st1P (ls.take 8))
theorem dmg_nil : ∀ (ts : List (UInt8 × UInt8 × UInt8)) (s : List Obj), s.length = 0 → ts.foldl dmg1P s = s
  | [], _, _ => rfl
  | t :: ts, s, h => by
    have e : dmg1P s t = s := by
      have : s = [] := List.eq_nil_of_length_eq_zero h
      subst this; rfl
    rw [List.foldl_cons, e, dmg_nil ts s h]
theorem putR_len (s : List Obj) (d : List UInt8) : (putR s d).length ≤ s.length + 1 := by
  unfold putR withP
  split
  · omega
  · simp only [List.length_append, List.length_take, List.length_drop, List.length_cons, List.length_nil]
    have := lbP_le s (dig d)
    omega
theorem st1P_snoc {ls : List (List UInt8)} {i : Nat} {d : List UInt8} (h : ls[i]? = some d) : st1P (ls.take (i + 1)) = putR (st1P (ls.take i)) (d.take 40) := by
  unfold st1P; rw [List.take_add_one, h, List.foldl_append]; rfl

theorem c_wireloomref18_Store {adL adB : Option Addr} {nL cL nB cB : Nat} {ls : List (List UInt8)} {ts : List (UInt8 × UInt8 × UInt8)} {m : Mem} (hLs : Dats m adL nL cL ls) (hB : Tris m adB nB cB ts) (hnL : nL ≤ 1100000) (hnB : nB ≤ 1100000) : Spec Tryz.prog 10 #[.agg #[.slice adL nL cL, .slice adB nB cB]] m [] (RetF fun m' v => ∃ ad' c', v = .slice ad' (storeP ls ts).length c' ∧ Objs m' ad' (storeP ls ts).length c' (storeP ls ts)) := by
  refine Spec.enter0 Tryz.func10 rfl 88 Tryz.ntmps10 rfl fun a w0 Lf A H => ?_
  have hM := Le.refl m
  have hmx : maxLen = 9223372036854775807 := rfl
  have eL := hLs.1
  have eB := hB.1
  refine wp_seq ?_
  refine wp_region_lit ?_
  refine step_box A H rfl (by simp only [Value.cells, List.toList_toArray]; rfl) rfl ?_; intro b1 a w A H
  refine step (Runs.assign A rfl) A rfl ?_; clear A a; intro a A
  refine wpList_nil ?_
  refine wp_seq ?_
  refine wp_region_lit ?_
  refine step_slice A H rfl rfl rfl rfl rfl rfl ?_; intro b2 a w A H
  refine step (Runs.assign A rfl) A rfl ?_; clear A a; intro a A
  refine wpList_nil ?_
  refine wp_seq ?_
  refine wp_seq ?_
  refine wp_region_lit ?_
  refine step (Runs.assign A rfl) A rfl ?_; clear A a; intro a A
  refine wpList_nil ?_
  refine wp_block ?_
  refine wp_loop_ghost (fun q a w => ∃ (i : Nat) (ad1 : Option Addr) (c1 : Nat) (s : List Obj) (m' : Mem), q = 9 - i ∧ (i ≤ nL ∧ i ≤ 8 ∧ s = st1P (ls.take i) ∧ s.length ≤ i ∧ Objs m' ad1 s.length c1 s) ∧ Le m m' ∧ Fr 88 a [(1, .pointer (some ⟨b1, 0, none⟩)), (3, .slice ad1 s.length c1), (4, .int .i64 i)] [] ∧ St w0 w m' (pt b1 [.slice adL nL cL, .slice adB nB cB] 25 :: Lf)) _ ⟨0, some ⟨b2, 0, none⟩, 0, [], m, rfl, ⟨by omega, by omega, rfl, by simp, rfl, [], Slc.nil m 2 _ 0 (by unfold maxLen; omega), trivial⟩, Le.refl m, (Fr.cons A rfl (Fr.cons A rfl (Fr.cons A rfl (Fr.nil A)))), H.subH⟩ ?_
  clear A H; rintro q a w ⟨i, ad1, c1, s, m, rfl, hinv, hm, A, H⟩
  have hM := hM.trans hm
  have hLs := hLs.mono hm
  have hB := hB.mono hm
  have hl1 := hm
  obtain ⟨hiL, hi8, hst, hsl, hs⟩ := hinv
  refine wp_seq ?_
  refine wp_seq ?_
  refine wp_region_lit ?_
  refine step (Runs.move A rfl) A rfl ?_; clear A a; intro a A
  refine step (Runs.fa A rfl) A rfl ?_; clear A a; intro a A
  refine step (Runs.ld1 A H rfl rfl) A rfl ?_; clear A a; intro a A
  refine step (Runs.lenL A rfl SlC.h) A rfl ?_; clear A a; intro a A
  refine step (Runs.lss A rfl rfl) A rfl ?_; clear A a; intro a A
  refine step (Runs.move A rfl) A rfl ?_; clear A a; intro a A
  refine onBool A (dj := 13) rfl (fun h1 => ?_) (fun h1 => ?_)
  · have g1 := h1
    try simp only [decide_eq_true_eq, decide_eq_false_iff_not, Bool.not_eq_true', Bool.not_eq_false', ne_eq, Decidable.not_not, Int.not_lt, Int.not_le] at g1
    refine stepG (dj := 13) rfl rfl h1 (Runs.move A rfl) A rfl ?_; clear A a; intro a A
    refine stepG (dj := 13) rfl rfl h1 (Runs.lss A rfl rfl) A rfl ?_; clear A a; intro a A
    refine step (Runs.pickT A rfl h1 rfl) A rfl ?_; clear A a; intro a A
    refine wpList_nil ?_
    refine cond_split A rfl (fun h2 => ?_) (fun h2 => ?_)
    · have g2 := h2
      try simp only [decide_eq_true_eq, decide_eq_false_iff_not, Bool.not_eq_true', Bool.not_eq_false', ne_eq, Decidable.not_not, Int.not_lt, Int.not_le] at g2
      refine wp_skip ?_
      refine wp_seq ?_
      refine wp_block ?_
      obtain ⟨d, hd⟩ := ex_at (l := ls) (i := i) (by omega)
      obtain ⟨bb, off, cs, e0, hfz, hcs⟩ := hLs.all_ (by omega)
      obtain ⟨vd, hd1, adx, nx, cx, rfl, hsx, hnx⟩ := hcs _ _ hd
      have hmn : (if (40 : Int) < (nx : Int) then (40 : Int) else (nx : Int)) = ((min nx 40 : Nat) : Int) := by split <;> omega
      have hcx := hsx.2.1
      have hsq : Slc m 1 (cutAd adx cx 0 1) (min nx 40) cx ((d.take 40).map u8) := by
        have := hsx.hi (hi := min nx 40) (by omega)
        rw [Nat.mul_one, ← List.map_take] at this
        rwa [show d.take (min nx 40) = d.take 40 by rw [← hsx.len8]; rcases Nat.le_total d.length 40 with h | h <;> simp [h, List.take_of_length_le]] at this
      refine draw_begin (ms := m) (Ls := [pt b1 [.slice adL nL cL, .slice adB nB cB] 25]) (by kernel_rfl) (N := 17) rfl (by kernel_rfl) H ?_; clear H; intro w H hR
      have hS : SW m [pt b1 [.slice adL nL cL, .slice adB nB cB] 25] w := H.sw (Le.refl m)
      have hL := Le.refl m
      refine dstep hR (i := 0) rfl (by kernel_rfl) (fun _ _ _ h => h) (fun _ _ H' => (Runs.move A rfl)) A rfl hS ?_; clear A a hR; intro a A hR
      refine dstep hR (i := 1) rfl (by kernel_rfl) (fun _ _ _ h => h) (fun _ _ H' => (Runs.fa A rfl)) A rfl hS ?_; clear A a hR; intro a A hR
      refine dstep hR (i := 2) rfl (by kernel_rfl) (fun _ _ _ h => h) (fun _ _ H' => (Runs.ld1 A H' rfl rfl)) A rfl hS ?_; clear A a hR; intro a A hR
      refine dstep hR (i := 3) rfl (by kernel_rfl) (fun _ _ _ h => h) (fun _ _ H' => (Runs.move A rfl)) A rfl hS ?_; clear A a hR; intro a A hR
      try rw [e0] at A
      refine dstep hR (i := 4) rfl (by kernel_rfl) (fun _ _ _ h => h) (fun _ _ H' => (Runs.indexAddr A rfl rfl SlC.h (by omega) (by omega))) A rfl hS ?_; clear A a hR; intro a A hR
      refine dstep hR (i := 5) rfl (by kernel_rfl) (fun _ _ _ h => h) (fun _ _ H' => (Runs.ld1 A H' rfl (v := .slice adx nx cx) (by simpa using hd1))) A rfl hS ?_; clear A a hR; intro a A hR
      refine dstep hR (i := 6) rfl (by kernel_rfl) (fun _ _ _ h => h) (fun _ _ H' => (Runs.fa A rfl)) A rfl hS ?_; clear A a hR; intro a A hR
      refine dstep hR (i := 7) rfl (by kernel_rfl) (fun _ _ _ h => h) (fun _ _ H' => (Runs.ld1 A H' rfl rfl)) A rfl hS ?_; clear A a hR; intro a A hR
      refine dstep hR (i := 8) rfl (by kernel_rfl) (fun _ _ _ h => h) (fun _ _ H' => (Runs.move A rfl)) A rfl hS ?_; clear A a hR; intro a A hR
      try rw [e0] at A
      refine dstep hR (i := 9) rfl (by kernel_rfl) (fun _ _ _ h => h) (fun _ _ H' => (Runs.indexAddr A rfl rfl SlC.h (by omega) (by omega))) A rfl hS ?_; clear A a hR; intro a A hR
      refine dstep hR (i := 10) rfl (by kernel_rfl) (fun _ _ _ h => h) (fun _ _ H' => (Runs.ld1 A H' rfl (v := .slice adx nx cx) (by simpa using hd1))) A rfl hS ?_; clear A a hR; intro a A hR
      refine dstep hR (i := 11) rfl (by kernel_rfl) (fun _ _ _ h => h) (fun _ _ H' => (Runs.lenL A rfl SlC.h)) A rfl hS ?_; clear A a hR; intro a A hR
      refine dstep hR (i := 12) rfl (by kernel_rfl) (fun _ _ _ h => h) (fun _ _ H' => (Runs.min2 A rfl rfl)) A rfl hS ?_; clear A a hR; intro a A hR
      rw [hmn] at A
      refine dstep hR (i := 13) rfl (by kernel_rfl) (fun _ _ _ h => h) (fun _ _ H' => (Runs.sliceLhi A rfl rfl SlC.h (by omega) (by omega))) A rfl hS ?_; clear A a hR; intro a A hR
      refine dlist hR (i := 14) rfl (by kernel_rfl) ?_
      have hR := hR.next (i := 14) (by kernel_rfl)
      refine step_callF A rfl rfl (c_wireloomref18_PutIn hs (by omega) ⟨_, _, _, rfl, hsq, by omega⟩) H ?_
      rintro v5_14 a w m hm ⟨adp, cp, rfl, hput⟩ A H
      have hM := hM.trans hm
      have hl1 := hl1.trans hm
      have hLs := hLs.mono hm
      have hB := hB.mono hm
      have hs := hs.mono hm
      have hL := hL.trans hm
      refine wpList_nil ?_
      clear hS; refine and_keep (H.sw hL) fun hS => ?_
      refine dstep hR (i := 15) rfl (by kernel_rfl) (fun _ _ _ h => h) (fun _ _ H' => (Runs.field1 (ty := 31) A rfl FldC.h (by kernel_rfl) TyC.h rfl)) A rfl hS ?_; clear A a hR; intro a A hR
      refine dstep hR (i := 16) rfl (by kernel_rfl) (fun _ _ _ h => h) (fun _ _ H' => (Runs.assign A rfl)) A rfl hS ?_; clear A a hR; intro a A hR
      refine draw_done hR (by kernel_rfl) ?_
      clear hS hL hR
      refine wp_region_lit ?_
      refine step (Runs.move A rfl) A rfl ?_; clear A a; intro a A
      refine step (Runs.add A rfl rfl (by omega)) A rfl ?_; clear A a; intro a A
      refine step (Runs.assign A rfl) A rfl ?_; clear A a; intro a A
      refine wpList_nil ?_
      exact ⟨_, by omega, i + 1, _, _, putR s (d.take 40), m, rfl, ⟨by omega, by omega, by rw [st1P_snoc hd, hst], by have := putR_len s (d.take 40); omega, hput⟩, hl1, (Fr.cons A rfl (Fr.cons A rfl (Fr.cons A rfl (Fr.nil A)))), H.subH⟩
    · have g2 := h2
      try simp only [decide_eq_true_eq, decide_eq_false_iff_not, Bool.not_eq_true', Bool.not_eq_false', ne_eq, Decidable.not_not, Int.not_lt, Int.not_le] at g2
      refine wp_exit ?_
      refine wp_seq ?_
      refine wp_region_lit ?_
      refine step_slice A H rfl rfl rfl rfl rfl rfl ?_; intro b3 a w A H
      refine step (Runs.move A rfl) A rfl ?_; clear A a; intro a A
      have H := H.row_pt (n := 0) (size := 2) rfl (by omega)
      have hs' := hs
      obtain ⟨_, ys, hS1, hO1⟩ := hs'
      refine step_appendR A H rfl rfl hS1 hO1.one (by decide) (by omega) (by omega) rfl rfl ?_; clear A a; intro ad1 c1 a w A H
      refine step (Runs.assign A rfl) A rfl ?_; clear A a; intro a A
      refine wpList_nil ?_
      refine wp_seq ?_
      refine wp_seq ?_
      refine wp_region_lit ?_
      refine step (Runs.assign A rfl) A rfl ?_; clear A a; intro a A
      refine wpList_nil ?_
      refine wp_block ?_
      rw [Nat.zero_add] at A H
      rw [List.nil_append] at H
      have hS8 : s = st1P (ls.take 8) := by
        rw [hst]; congr 1; rcases Nat.lt_or_ge i 8 with h | h
        · rw [List.take_of_length_le (by omega), List.take_of_length_le (by omega)]
        · rw [show i = 8 by omega]
      refine wp_loop_ghost (fun q a w => ∃ (i : Nat) (ad1 : Option Addr) (c1 : Nat) (s2 : List Obj) (xs : List Value) (m' : Mem), q = 5 - i ∧ (i ≤ nB ∧ i ≤ 4 ∧ s2 = (ts.take i).foldl dmg1P s ∧ s2.length = s.length ∧ OR m' xs s2) ∧ Le m m' ∧ Fr 88 a [(1, .pointer (some ⟨b1, 0, none⟩)), (3, .slice ad1 s2.length c1), (5, .int .i64 i)] [] ∧ St w0 w m' (row 66 2 ad1 s2.length c1 xs :: pt b1 [.slice adL nL cL, .slice adB nB cB] 25 :: Lf)) _ ⟨0, _, _, s, _, m, rfl, ⟨by omega, by omega, rfl, rfl, hO1⟩, Le.refl m, (Fr.cons A rfl (Fr.cons A rfl (Fr.cons A rfl (Fr.nil A)))), H⟩ ?_
      clear A H; rintro q a w ⟨i, ad1, c1, s2, xs, m, rfl, hinv, hm, A, H⟩
      have hM := hM.trans hm
      have hLs := hLs.mono hm
      have hB := hB.mono hm
      have hs := hs.mono hm
      have hl2 := hm
      obtain ⟨hiB, hi4, hs2, hsl2, hxs⟩ := hinv
      refine wp_seq ?_
      refine wp_seq ?_
      refine wp_region_lit ?_
      refine step (Runs.move A rfl) A rfl ?_; clear A a; intro a A
      refine step (Runs.fa A rfl) A rfl ?_; clear A a; intro a A
      refine step (Runs.ld1 A H rfl rfl) A rfl ?_; clear A a; intro a A
      refine step (Runs.lenL A rfl SlC.h) A rfl ?_; clear A a; intro a A
      refine step (Runs.lss A rfl rfl) A rfl ?_; clear A a; intro a A
      refine step (Runs.move A rfl) A rfl ?_; clear A a; intro a A
      refine onBool A (dj := 43) rfl (fun h3 => ?_) (fun h3 => ?_)
      · have g3 := h3
        try simp only [decide_eq_true_eq, decide_eq_false_iff_not, Bool.not_eq_true', Bool.not_eq_false', ne_eq, Decidable.not_not, Int.not_lt, Int.not_le] at g3
        refine stepG (dj := 43) rfl rfl h3 (Runs.move A rfl) A rfl ?_; clear A a; intro a A
        refine stepG (dj := 43) rfl rfl h3 (Runs.lss A rfl rfl) A rfl ?_; clear A a; intro a A
        refine step (Runs.pickT A rfl h3 rfl) A rfl ?_; clear A a; intro a A
        refine step (Runs.move A rfl) A rfl ?_; clear A a; intro a A
        refine onBool A (dj := 47) rfl (fun h4 => ?_) (fun h4 => ?_)
        · have g4 := h4
          try simp only [decide_eq_true_eq, decide_eq_false_iff_not, Bool.not_eq_true', Bool.not_eq_false', ne_eq, Decidable.not_not, Int.not_lt, Int.not_le] at g4
          refine stepG (dj := 47) rfl rfl h4 (Runs.move A rfl) A rfl ?_; clear A a; intro a A
          refine stepG (dj := 47) rfl rfl h4 (Runs.lenL A rfl SlC.h) A rfl ?_; clear A a; intro a A
          refine stepG (dj := 47) rfl rfl h4 (Runs.gtr A rfl rfl) A rfl ?_; clear A a; intro a A
          refine step (Runs.pickT A rfl h4 rfl) A rfl ?_; clear A a; intro a A
          refine wpList_nil ?_
          refine cond_split A rfl (fun h5 => ?_) (fun h5 => ?_)
          · have g5 := h5
            try simp only [decide_eq_true_eq, decide_eq_false_iff_not, Bool.not_eq_true', Bool.not_eq_false', ne_eq, Decidable.not_not, Int.not_lt, Int.not_le] at g5
            refine wp_skip ?_
            refine wp_seq ?_
            refine wp_block ?_
            refine wp_seq ?_
            obtain ⟨t, ht⟩ := ex_at (l := ts) (i := i) (by omega)
            obtain ⟨bb, off, cs, e0, hfz, hcs⟩ := hB.all_ (by omega)
            obtain ⟨ht1, ht2, ht3⟩ := hcs _ _ ht
            have hs0 : 0 < s2.length := by omega
            obtain ⟨j, hj⟩ : ∃ j, j = t.1.toNat % s2.length := ⟨_, rfl⟩
            have hjn : j < s2.length := by rw [hj]; exact Nat.mod_lt _ hs0
            have hix : ((t.1.toNat : Int) % (s2.length : Int)) = ((j : Nat) : Int) := by rw [hj]; exact (Int.natCast_emod _ _).symm
            have ht0 := u8_lt t.1
            refine wp_region_lit ?_
            refine step (Runs.fa A rfl) A rfl ?_; clear A a; intro a A
            refine step (Runs.ld1 A H rfl rfl) A rfl ?_; clear A a; intro a A
            refine step (Runs.move A rfl) A rfl ?_; clear A a; intro a A
            rw [e0] at A
            refine step (Runs.indexAddr A rfl rfl SlC.h (by omega) (by omega)) A rfl ?_; clear A a; intro a A
            refine step (Runs.indexArr A rfl rfl (by omega) (by omega)) A rfl ?_; clear A a; intro a A
            refine step (Runs.ld1 A H rfl (v := u8 t.1) (by simpa using ht1)) A rfl ?_; clear A a; intro a A
            refine step (Runs.convN A rfl (by first | exact wrap_i64 (by omega) (by omega) | rfl)) A rfl ?_; clear A a; intro a A
            refine step (Runs.move A rfl) A rfl ?_; clear A a; intro a A
            refine step (Runs.lenL A rfl SlC.h) A rfl ?_; clear A a; intro a A
            refine step (Runs.rem A rfl rfl (by omega) (by omega)) A rfl ?_; clear A a; intro a A
            rw [hix] at A
            refine step (Runs.assign A rfl) A rfl ?_; clear A a; intro a A
            refine wpList_nil ?_
            obtain ⟨hxl0, hsc, _⟩ := H.row_len
            obtain ⟨g, cur, rfl, hxl, hnc, hcm, hcl, hct, H⟩ := H.row_block (by omega)
            obtain ⟨x, hx⟩ := ex_at (l := s2) (i := j) hjn
            obtain ⟨vx, hv1, hv2, adx, nx, cx, rfl, hsx, hnx⟩ := hxs.at_ hx
            have hc1 : cur[j * 2]? = some (u64 x.id) := by rw [← hct, List.getElem?_take_of_lt (by omega)] at hv1; exact hv1
            have hc2 : cur[j * 2 + 1]? = some (.slice adx nx cx) := by rw [← hct, List.getElem?_take_of_lt (by omega)] at hv2; exact hv2
            refine draw_begin (ms := m) (Ls := [pt g cur 66, pt b1 [.slice adL nL cL, .slice adB nB cB] 25]) (by kernel_rfl) (N := 24) rfl (by kernel_rfl) H ?_; clear H; intro w H hR
            have hS : SW m [pt g cur 66, pt b1 [.slice adL nL cL, .slice adB nB cB] 25] w := H.sw (Le.refl m)
            have hL := Le.refl m
            refine dstep hR (i := 0) rfl (by kernel_rfl) (fun _ _ _ h => h) (fun _ _ H' => (Runs.move A rfl)) A rfl hS ?_; clear A a hR; intro a A hR
            refine dstep hR (i := 1) rfl (by kernel_rfl) (fun _ _ _ h => h) (fun _ _ H' => (Runs.move A rfl)) A rfl hS ?_; clear A a hR; intro a A hR
            refine dstep hR (i := 2) rfl (by kernel_rfl) (fun _ _ _ h => h) (fun _ _ H' => (Runs.move A rfl)) A rfl hS ?_; clear A a hR; intro a A hR
            refine dstep hR (i := 3) rfl (by kernel_rfl) (fun _ _ _ h => h) (fun _ _ H' => (Runs.move A rfl)) A rfl hS ?_; clear A a hR; intro a A hR
            refine dstep hR (i := 4) rfl (by kernel_rfl) (fun _ _ _ h => h) (fun _ _ H' => (Runs.indexAddr A rfl rfl SlC.h (by omega) (by omega))) A rfl hS ?_; clear A a hR; intro a A hR
            refine dstep hR (i := 5) rfl (by kernel_rfl) (fun _ _ _ h => h) (fun _ _ H' => (Runs.fa A rfl)) A rfl hS ?_; clear A a hR; intro a A hR
            refine dstep hR (i := 6) rfl (by kernel_rfl) (fun _ _ _ h => h) (fun _ _ H' => (Runs.ld1 A H' rfl (v := .slice adx nx cx) (by simpa using hc2))) A rfl hS ?_; clear A a hR; intro a A hR
            refine dstep hR (i := 7) rfl (by kernel_rfl) (fun _ _ _ h => h) (fun _ _ H' => (Runs.fa A rfl)) A rfl hS ?_; clear A a hR; intro a A hR
            refine dstep hR (i := 8) rfl (by kernel_rfl) (fun _ _ _ h => h) (fun _ _ H' => (Runs.ld1 A H' rfl rfl)) A rfl hS ?_; clear A a hR; intro a A hR
            refine dstep hR (i := 9) rfl (by kernel_rfl) (fun _ _ _ h => h) (fun _ _ H' => (Runs.move A rfl)) A rfl hS ?_; clear A a hR; intro a A hR
            try rw [e0] at A
            refine dstep hR (i := 10) rfl (by kernel_rfl) (fun _ _ _ h => h) (fun _ _ H' => (Runs.indexAddr A rfl rfl SlC.h (by omega) (by omega))) A rfl hS ?_; clear A a hR; intro a A hR
            refine dstep hR (i := 11) rfl (by kernel_rfl) (fun _ _ _ h => h) (fun _ _ H' => (Runs.indexArr A rfl rfl (by omega) (by omega))) A rfl hS ?_; clear A a hR; intro a A hR
            refine dstep hR (i := 12) rfl (by kernel_rfl) (fun _ _ _ h => h) (fun _ _ H' => (Runs.ld1 A H' rfl (v := u8 t.2.1) (by simpa using ht2))) A rfl hS ?_; clear A a hR; intro a A hR
            refine dstep hR (i := 13) rfl (by kernel_rfl) (fun _ _ _ h => h) (fun _ _ H' => (Runs.fa A rfl)) A rfl hS ?_; clear A a hR; intro a A hR
            refine dstep hR (i := 14) rfl (by kernel_rfl) (fun _ _ _ h => h) (fun _ _ H' => (Runs.ld1 A H' rfl rfl)) A rfl hS ?_; clear A a hR; intro a A hR
            refine dstep hR (i := 15) rfl (by kernel_rfl) (fun _ _ _ h => h) (fun _ _ H' => (Runs.move A rfl)) A rfl hS ?_; clear A a hR; intro a A hR
            try rw [e0] at A
            refine dstep hR (i := 16) rfl (by kernel_rfl) (fun _ _ _ h => h) (fun _ _ H' => (Runs.indexAddr A rfl rfl SlC.h (by omega) (by omega))) A rfl hS ?_; clear A a hR; intro a A hR
            refine dstep hR (i := 17) rfl (by kernel_rfl) (fun _ _ _ h => h) (fun _ _ H' => (Runs.indexArr A rfl rfl (by omega) (by omega))) A rfl hS ?_; clear A a hR; intro a A hR
            refine dstep hR (i := 18) rfl (by kernel_rfl) (fun _ _ _ h => h) (fun _ _ H' => (Runs.ld1 A H' rfl (v := u8 t.2.2) (by simpa using ht3))) A rfl hS ?_; clear A a hR; intro a A hR
            refine dstep hR (i := 19) rfl (by kernel_rfl) (fun _ _ _ h => h) (fun _ _ H' => (Runs.buildArr A rfl rfl rfl)) A rfl hS ?_; clear A a hR; intro a A hR
            refine dlist hR (i := 20) rfl (by kernel_rfl) ?_
            have hR := hR.next (i := 20) (by kernel_rfl)
            refine step_callF A rfl rfl (c_wireloomref18_Broken hsx (by omega)) H ?_
            rintro v11_20 a w m hm ⟨adk, nk, ck, rfl, hsk, hnk⟩ A H
            have hM := hM.trans hm
            have hl2 := hl2.trans hm
            have hLs := hLs.mono hm
            have hB := hB.mono hm
            have hs := hs.mono hm
            have hxs := hxs.mono hm
            have hL := hL.trans hm
            refine wpList_nil ?_
            clear hS; refine and_keep (H.sw hL) fun hS => ?_
            refine dstep hR (i := 21) rfl (by kernel_rfl) (fun _ _ _ h => h) (fun _ _ H' => (Runs.indexAddr A rfl rfl SlC.h (by omega) (by omega))) A rfl hS ?_; clear A a hR; intro a A hR
            refine dstep hR (i := 22) rfl (by kernel_rfl) (fun _ _ _ h => h) (fun _ _ H' => (Runs.fa A rfl)) A rfl hS ?_; clear A a hR; intro a A hR
            refine dlist hR (i := 23) rfl (by kernel_rfl) ?_
            have hR := hR.next (i := 23) (by kernel_rfl)
            refine step_store (cs' := cur.take (j * 2) ++ [u64 x.id, .slice adk nk ck] ++ cur.drop (j * 2 + 2)) A H rfl rfl rfl rfl rfl (by rw [Int.toNat_natCast, Nat.zero_add]; have := setN_put (cs := cur) (vs := [.slice adk nk ck]) (o := j * 2 + 1) (by show _ + 1 ≤ _; omega); rw [List.take_add_one, hc1] at this; refine Eq.trans this ?_; simp) ?_; intro w H
            refine wpList_nil ?_
            refine and_last (by kernel_rfl) ?_
            refine draw_done hR (by kernel_rfl) ?_
            clear hS hL hR
            refine wp_region_lit ?_
            refine step (Runs.move A rfl) A rfl ?_; clear A a; intro a A
            refine step (Runs.add A rfl rfl (by omega)) A rfl ?_; clear A a; intro a A
            refine step (Runs.assign A rfl) A rfl ?_; clear A a; intro a A
            refine wpList_nil ?_
            have hdm : dmg1P s2 t = s2.set j ⟨x.id, brkP x.data t.2.1 t.2.2⟩ := by rw [dmg1P, ← hj, hx]
            have hxs2 : OR m (xs.take (j * 2) ++ [u64 x.id, .slice adk nk ck] ++ xs.drop (j * 2 + 2)) (dmg1P s2 t) := by rw [hdm]; exact OR.set (o := ⟨x.id, brkP x.data t.2.1 t.2.2⟩) ⟨_, _, _, rfl, hsk, hnk⟩ j hjn hxs
            have hAl : (cur.take (j * 2)).length = j * 2 := by rw [List.length_take]; omega
            have H := H.block_row (k := s2.length) (c := c1) (size := 2) (xs := xs.take (j * 2) ++ [u64 x.id, .slice adk nk ck] ++ xs.drop (j * 2 + 2)) (by simp only [List.length_append, List.length_take, List.length_drop, List.length_cons, List.length_nil]; omega) (by omega) (by omega) (by simp only [List.length_append, List.length_take, List.length_drop, List.length_cons, List.length_nil]; omega) (by rw [← ins_take1 hct (show j * 2 ≤ s2.length * 2 by omega), ← ins_mid hct (show j * 2 + 2 ≤ s2.length * 2 by omega)]; exact take_put hAl rfl (by omega))
            have hlen : s2.length = (dmg1P s2 t).length := by rw [hdm, List.length_set]
            rw [hlen] at A H
            exact ⟨_, by omega, i + 1, _, _, dmg1P s2 t, _, m, rfl, ⟨by omega, by omega, by rw [List.take_add_one, ht, List.foldl_append, ← hs2]; rfl, by rw [hdm, List.length_set]; exact hsl2, hxs2⟩, hl2, (Fr.cons A rfl (Fr.cons A rfl (Fr.cons A rfl (Fr.nil A)))), H.subH⟩
          · have g5 := h5
            try simp only [decide_eq_true_eq, decide_eq_false_iff_not, Bool.not_eq_true', Bool.not_eq_false', ne_eq, Decidable.not_not, Int.not_lt, Int.not_le] at g5
            refine wp_exit ?_
            refine wp_seq ?_
            refine wp_region_lit ?_
            refine step (Runs.move A rfl) A rfl ?_; clear A a; intro a A
            refine step (Runs.assign A rfl) A rfl ?_; clear A a; intro a A
            refine wpList_nil ?_
            refine wp_ret ?_
            have e : storeP ls ts = s2 := by
              rw [storeP, ← hS8]
              have h0 : s.length = 0 := by omega
              rw [hs2, dmg_nil _ _ h0, dmg_nil _ _ h0]
            obtain ⟨m2, hm2, hO, H⟩ := H.row_objs hxs
            exact retF A rfl rfl (hM.trans hm2) H ⟨_, _, by rw [e], by rw [e]; exact hO⟩
        · have g4 := h4
          try simp only [decide_eq_true_eq, decide_eq_false_iff_not, Bool.not_eq_true', Bool.not_eq_false', ne_eq, Decidable.not_not, Int.not_lt, Int.not_le] at g4
          refine stepSkip (dj := 47) rfl rfl h4 A rfl ?_; clear A a; intro a A
          refine stepSkip (dj := 47) rfl rfl h4 A rfl ?_; clear A a; intro a A
          refine stepSkip (dj := 47) rfl rfl h4 A rfl ?_; clear A a; intro a A
          refine step (Runs.pickF A rfl h4 rfl) A rfl ?_; clear A a; intro a A
          refine wpList_nil ?_
          refine cond_false A rfl rfl ?_
          refine wp_exit ?_
          refine wp_seq ?_
          refine wp_region_lit ?_
          refine step (Runs.move A rfl) A rfl ?_; clear A a; intro a A
          refine step (Runs.assign A rfl) A rfl ?_; clear A a; intro a A
          refine wpList_nil ?_
          refine wp_ret ?_
          have e : storeP ls ts = s2 := by
            rw [storeP, ← hS8]
            rw [hs2, show i = 4 by omega]
          obtain ⟨m2, hm2, hO, H⟩ := H.row_objs hxs
          exact retF A rfl rfl (hM.trans hm2) H ⟨_, _, by rw [e], by rw [e]; exact hO⟩
      · have g3 := h3
        try simp only [decide_eq_true_eq, decide_eq_false_iff_not, Bool.not_eq_true', Bool.not_eq_false', ne_eq, Decidable.not_not, Int.not_lt, Int.not_le] at g3
        refine stepSkip (dj := 43) rfl rfl h3 A rfl ?_; clear A a; intro a A
        refine stepSkip (dj := 43) rfl rfl h3 A rfl ?_; clear A a; intro a A
        refine step (Runs.pickF A rfl h3 rfl) A rfl ?_; clear A a; intro a A
        refine step (Runs.move A rfl) A rfl ?_; clear A a; intro a A
        refine stepSkip (dj := 47) rfl rfl rfl A rfl ?_; clear A a; intro a A
        refine stepSkip (dj := 47) rfl rfl rfl A rfl ?_; clear A a; intro a A
        refine stepSkip (dj := 47) rfl rfl rfl A rfl ?_; clear A a; intro a A
        refine step (Runs.pickF A rfl rfl rfl) A rfl ?_; clear A a; intro a A
        refine wpList_nil ?_
        refine cond_false A rfl rfl ?_
        refine wp_exit ?_
        refine wp_seq ?_
        refine wp_region_lit ?_
        refine step (Runs.move A rfl) A rfl ?_; clear A a; intro a A
        refine step (Runs.assign A rfl) A rfl ?_; clear A a; intro a A
        refine wpList_nil ?_
        refine wp_ret ?_
        have e : storeP ls ts = s2 := by
          rw [storeP, ← hS8]
          rw [hs2, List.take_of_length_le (show ts.length ≤ i by omega), List.take_of_length_le (by omega)]
        obtain ⟨m2, hm2, hO, H⟩ := H.row_objs hxs
        exact retF A rfl rfl (hM.trans hm2) H ⟨_, _, by rw [e], by rw [e]; exact hO⟩
  · have g1 := h1
    try simp only [decide_eq_true_eq, decide_eq_false_iff_not, Bool.not_eq_true', Bool.not_eq_false', ne_eq, Decidable.not_not, Int.not_lt, Int.not_le] at g1
    refine stepSkip (dj := 13) rfl rfl h1 A rfl ?_; clear A a; intro a A
    refine stepSkip (dj := 13) rfl rfl h1 A rfl ?_; clear A a; intro a A
    refine step (Runs.pickF A rfl h1 rfl) A rfl ?_; clear A a; intro a A
    refine wpList_nil ?_
    refine cond_false A rfl rfl ?_
    refine wp_exit ?_
    refine wp_seq ?_
    refine wp_region_lit ?_
    refine step_slice A H rfl rfl rfl rfl rfl rfl ?_; intro b4 a w A H
    refine step (Runs.move A rfl) A rfl ?_; clear A a; intro a A
    have H := H.row_pt (n := 0) (size := 2) rfl (by omega)
    have hs' := hs
    obtain ⟨_, ys, hS1, hO1⟩ := hs'
    refine step_appendR A H rfl rfl hS1 hO1.one (by decide) (by omega) (by omega) rfl rfl ?_; clear A a; intro ad2 c2 a w A H
    refine step (Runs.assign A rfl) A rfl ?_; clear A a; intro a A
    refine wpList_nil ?_
    refine wp_seq ?_
    refine wp_seq ?_
    refine wp_region_lit ?_
    refine step (Runs.assign A rfl) A rfl ?_; clear A a; intro a A
    refine wpList_nil ?_
    refine wp_block ?_
    rw [Nat.zero_add] at A H
    rw [List.nil_append] at H
    have hS8 : s = st1P (ls.take 8) := by
      rw [hst]; congr 1; rcases Nat.lt_or_ge i 8 with h | h
      · rw [List.take_of_length_le (by omega), List.take_of_length_le (by omega)]
      · rw [show i = 8 by omega]
    refine wp_loop_ghost (fun q a w => ∃ (i : Nat) (ad1 : Option Addr) (c1 : Nat) (s2 : List Obj) (xs : List Value) (m' : Mem), q = 5 - i ∧ (i ≤ nB ∧ i ≤ 4 ∧ s2 = (ts.take i).foldl dmg1P s ∧ s2.length = s.length ∧ OR m' xs s2) ∧ Le m m' ∧ Fr 88 a [(1, .pointer (some ⟨b1, 0, none⟩)), (3, .slice ad1 s2.length c1), (5, .int .i64 i)] [] ∧ St w0 w m' (row 66 2 ad1 s2.length c1 xs :: pt b1 [.slice adL nL cL, .slice adB nB cB] 25 :: Lf)) _ ⟨0, _, _, s, _, m, rfl, ⟨by omega, by omega, rfl, rfl, hO1⟩, Le.refl m, (Fr.cons A rfl (Fr.cons A rfl (Fr.cons A rfl (Fr.nil A)))), H⟩ ?_
    clear A H; rintro q a w ⟨i, ad1, c1, s2, xs, m, rfl, hinv, hm, A, H⟩
    have hM := hM.trans hm
    have hLs := hLs.mono hm
    have hB := hB.mono hm
    have hs := hs.mono hm
    have hl3 := hm
    obtain ⟨hiB, hi4, hs2, hsl2, hxs⟩ := hinv
    refine wp_seq ?_
    refine wp_seq ?_
    refine wp_region_lit ?_
    refine step (Runs.move A rfl) A rfl ?_; clear A a; intro a A
    refine step (Runs.fa A rfl) A rfl ?_; clear A a; intro a A
    refine step (Runs.ld1 A H rfl rfl) A rfl ?_; clear A a; intro a A
    refine step (Runs.lenL A rfl SlC.h) A rfl ?_; clear A a; intro a A
    refine step (Runs.lss A rfl rfl) A rfl ?_; clear A a; intro a A
    refine step (Runs.move A rfl) A rfl ?_; clear A a; intro a A
    refine onBool A (dj := 43) rfl (fun h6 => ?_) (fun h6 => ?_)
    · have g6 := h6
      try simp only [decide_eq_true_eq, decide_eq_false_iff_not, Bool.not_eq_true', Bool.not_eq_false', ne_eq, Decidable.not_not, Int.not_lt, Int.not_le] at g6
      refine stepG (dj := 43) rfl rfl h6 (Runs.move A rfl) A rfl ?_; clear A a; intro a A
      refine stepG (dj := 43) rfl rfl h6 (Runs.lss A rfl rfl) A rfl ?_; clear A a; intro a A
      refine step (Runs.pickT A rfl h6 rfl) A rfl ?_; clear A a; intro a A
      refine step (Runs.move A rfl) A rfl ?_; clear A a; intro a A
      refine onBool A (dj := 47) rfl (fun h7 => ?_) (fun h7 => ?_)
      · have g7 := h7
        try simp only [decide_eq_true_eq, decide_eq_false_iff_not, Bool.not_eq_true', Bool.not_eq_false', ne_eq, Decidable.not_not, Int.not_lt, Int.not_le] at g7
        refine stepG (dj := 47) rfl rfl h7 (Runs.move A rfl) A rfl ?_; clear A a; intro a A
        refine stepG (dj := 47) rfl rfl h7 (Runs.lenL A rfl SlC.h) A rfl ?_; clear A a; intro a A
        refine stepG (dj := 47) rfl rfl h7 (Runs.gtr A rfl rfl) A rfl ?_; clear A a; intro a A
        refine step (Runs.pickT A rfl h7 rfl) A rfl ?_; clear A a; intro a A
        refine wpList_nil ?_
        refine cond_split A rfl (fun h8 => ?_) (fun h8 => ?_)
        · have g8 := h8
          try simp only [decide_eq_true_eq, decide_eq_false_iff_not, Bool.not_eq_true', Bool.not_eq_false', ne_eq, Decidable.not_not, Int.not_lt, Int.not_le] at g8
          refine wp_skip ?_
          refine wp_seq ?_
          refine wp_block ?_
          refine wp_seq ?_
          obtain ⟨t, ht⟩ := ex_at (l := ts) (i := i) (by omega)
          obtain ⟨bb, off, cs, e0, hfz, hcs⟩ := hB.all_ (by omega)
          obtain ⟨ht1, ht2, ht3⟩ := hcs _ _ ht
          have hs0 : 0 < s2.length := by omega
          obtain ⟨j, hj⟩ : ∃ j, j = t.1.toNat % s2.length := ⟨_, rfl⟩
          have hjn : j < s2.length := by rw [hj]; exact Nat.mod_lt _ hs0
          have hix : ((t.1.toNat : Int) % (s2.length : Int)) = ((j : Nat) : Int) := by rw [hj]; exact (Int.natCast_emod _ _).symm
          have ht0 := u8_lt t.1
          refine wp_region_lit ?_
          refine step (Runs.fa A rfl) A rfl ?_; clear A a; intro a A
          refine step (Runs.ld1 A H rfl rfl) A rfl ?_; clear A a; intro a A
          refine step (Runs.move A rfl) A rfl ?_; clear A a; intro a A
          rw [e0] at A
          refine step (Runs.indexAddr A rfl rfl SlC.h (by omega) (by omega)) A rfl ?_; clear A a; intro a A
          refine step (Runs.indexArr A rfl rfl (by omega) (by omega)) A rfl ?_; clear A a; intro a A
          refine step (Runs.ld1 A H rfl (v := u8 t.1) (by simpa using ht1)) A rfl ?_; clear A a; intro a A
          refine step (Runs.convN A rfl (by first | exact wrap_i64 (by omega) (by omega) | rfl)) A rfl ?_; clear A a; intro a A
          refine step (Runs.move A rfl) A rfl ?_; clear A a; intro a A
          refine step (Runs.lenL A rfl SlC.h) A rfl ?_; clear A a; intro a A
          refine step (Runs.rem A rfl rfl (by omega) (by omega)) A rfl ?_; clear A a; intro a A
          rw [hix] at A
          refine step (Runs.assign A rfl) A rfl ?_; clear A a; intro a A
          refine wpList_nil ?_
          obtain ⟨hxl0, hsc, _⟩ := H.row_len
          obtain ⟨g, cur, rfl, hxl, hnc, hcm, hcl, hct, H⟩ := H.row_block (by omega)
          obtain ⟨x, hx⟩ := ex_at (l := s2) (i := j) hjn
          obtain ⟨vx, hv1, hv2, adx, nx, cx, rfl, hsx, hnx⟩ := hxs.at_ hx
          have hc1 : cur[j * 2]? = some (u64 x.id) := by rw [← hct, List.getElem?_take_of_lt (by omega)] at hv1; exact hv1
          have hc2 : cur[j * 2 + 1]? = some (.slice adx nx cx) := by rw [← hct, List.getElem?_take_of_lt (by omega)] at hv2; exact hv2
          refine draw_begin (ms := m) (Ls := [pt g cur 66, pt b1 [.slice adL nL cL, .slice adB nB cB] 25]) (by kernel_rfl) (N := 24) rfl (by kernel_rfl) H ?_; clear H; intro w H hR
          have hS : SW m [pt g cur 66, pt b1 [.slice adL nL cL, .slice adB nB cB] 25] w := H.sw (Le.refl m)
          have hL := Le.refl m
          refine dstep hR (i := 0) rfl (by kernel_rfl) (fun _ _ _ h => h) (fun _ _ H' => (Runs.move A rfl)) A rfl hS ?_; clear A a hR; intro a A hR
          refine dstep hR (i := 1) rfl (by kernel_rfl) (fun _ _ _ h => h) (fun _ _ H' => (Runs.move A rfl)) A rfl hS ?_; clear A a hR; intro a A hR
          refine dstep hR (i := 2) rfl (by kernel_rfl) (fun _ _ _ h => h) (fun _ _ H' => (Runs.move A rfl)) A rfl hS ?_; clear A a hR; intro a A hR
          refine dstep hR (i := 3) rfl (by kernel_rfl) (fun _ _ _ h => h) (fun _ _ H' => (Runs.move A rfl)) A rfl hS ?_; clear A a hR; intro a A hR
          refine dstep hR (i := 4) rfl (by kernel_rfl) (fun _ _ _ h => h) (fun _ _ H' => (Runs.indexAddr A rfl rfl SlC.h (by omega) (by omega))) A rfl hS ?_; clear A a hR; intro a A hR
          refine dstep hR (i := 5) rfl (by kernel_rfl) (fun _ _ _ h => h) (fun _ _ H' => (Runs.fa A rfl)) A rfl hS ?_; clear A a hR; intro a A hR
          refine dstep hR (i := 6) rfl (by kernel_rfl) (fun _ _ _ h => h) (fun _ _ H' => (Runs.ld1 A H' rfl (v := .slice adx nx cx) (by simpa using hc2))) A rfl hS ?_; clear A a hR; intro a A hR
          refine dstep hR (i := 7) rfl (by kernel_rfl) (fun _ _ _ h => h) (fun _ _ H' => (Runs.fa A rfl)) A rfl hS ?_; clear A a hR; intro a A hR
          refine dstep hR (i := 8) rfl (by kernel_rfl) (fun _ _ _ h => h) (fun _ _ H' => (Runs.ld1 A H' rfl rfl)) A rfl hS ?_; clear A a hR; intro a A hR
          refine dstep hR (i := 9) rfl (by kernel_rfl) (fun _ _ _ h => h) (fun _ _ H' => (Runs.move A rfl)) A rfl hS ?_; clear A a hR; intro a A hR
          try rw [e0] at A
          refine dstep hR (i := 10) rfl (by kernel_rfl) (fun _ _ _ h => h) (fun _ _ H' => (Runs.indexAddr A rfl rfl SlC.h (by omega) (by omega))) A rfl hS ?_; clear A a hR; intro a A hR
          refine dstep hR (i := 11) rfl (by kernel_rfl) (fun _ _ _ h => h) (fun _ _ H' => (Runs.indexArr A rfl rfl (by omega) (by omega))) A rfl hS ?_; clear A a hR; intro a A hR
          refine dstep hR (i := 12) rfl (by kernel_rfl) (fun _ _ _ h => h) (fun _ _ H' => (Runs.ld1 A H' rfl (v := u8 t.2.1) (by simpa using ht2))) A rfl hS ?_; clear A a hR; intro a A hR
          refine dstep hR (i := 13) rfl (by kernel_rfl) (fun _ _ _ h => h) (fun _ _ H' => (Runs.fa A rfl)) A rfl hS ?_; clear A a hR; intro a A hR
          refine dstep hR (i := 14) rfl (by kernel_rfl) (fun _ _ _ h => h) (fun _ _ H' => (Runs.ld1 A H' rfl rfl)) A rfl hS ?_; clear A a hR; intro a A hR
          refine dstep hR (i := 15) rfl (by kernel_rfl) (fun _ _ _ h => h) (fun _ _ H' => (Runs.move A rfl)) A rfl hS ?_; clear A a hR; intro a A hR
          try rw [e0] at A
          refine dstep hR (i := 16) rfl (by kernel_rfl) (fun _ _ _ h => h) (fun _ _ H' => (Runs.indexAddr A rfl rfl SlC.h (by omega) (by omega))) A rfl hS ?_; clear A a hR; intro a A hR
          refine dstep hR (i := 17) rfl (by kernel_rfl) (fun _ _ _ h => h) (fun _ _ H' => (Runs.indexArr A rfl rfl (by omega) (by omega))) A rfl hS ?_; clear A a hR; intro a A hR
          refine dstep hR (i := 18) rfl (by kernel_rfl) (fun _ _ _ h => h) (fun _ _ H' => (Runs.ld1 A H' rfl (v := u8 t.2.2) (by simpa using ht3))) A rfl hS ?_; clear A a hR; intro a A hR
          refine dstep hR (i := 19) rfl (by kernel_rfl) (fun _ _ _ h => h) (fun _ _ H' => (Runs.buildArr A rfl rfl rfl)) A rfl hS ?_; clear A a hR; intro a A hR
          refine dlist hR (i := 20) rfl (by kernel_rfl) ?_
          have hR := hR.next (i := 20) (by kernel_rfl)
          refine step_callF A rfl rfl (c_wireloomref18_Broken hsx (by omega)) H ?_
          rintro v11_20 a w m hm ⟨adk, nk, ck, rfl, hsk, hnk⟩ A H
          have hM := hM.trans hm
          have hl3 := hl3.trans hm
          have hLs := hLs.mono hm
          have hB := hB.mono hm
          have hs := hs.mono hm
          have hxs := hxs.mono hm
          have hL := hL.trans hm
          refine wpList_nil ?_
          clear hS; refine and_keep (H.sw hL) fun hS => ?_
          refine dstep hR (i := 21) rfl (by kernel_rfl) (fun _ _ _ h => h) (fun _ _ H' => (Runs.indexAddr A rfl rfl SlC.h (by omega) (by omega))) A rfl hS ?_; clear A a hR; intro a A hR
          refine dstep hR (i := 22) rfl (by kernel_rfl) (fun _ _ _ h => h) (fun _ _ H' => (Runs.fa A rfl)) A rfl hS ?_; clear A a hR; intro a A hR
          refine dlist hR (i := 23) rfl (by kernel_rfl) ?_
          have hR := hR.next (i := 23) (by kernel_rfl)
          refine step_store (cs' := cur.take (j * 2) ++ [u64 x.id, .slice adk nk ck] ++ cur.drop (j * 2 + 2)) A H rfl rfl rfl rfl rfl (by rw [Int.toNat_natCast, Nat.zero_add]; have := setN_put (cs := cur) (vs := [.slice adk nk ck]) (o := j * 2 + 1) (by show _ + 1 ≤ _; omega); rw [List.take_add_one, hc1] at this; refine Eq.trans this ?_; simp) ?_; intro w H
          refine wpList_nil ?_
          refine and_last (by kernel_rfl) ?_
          refine draw_done hR (by kernel_rfl) ?_
          clear hS hL hR
          refine wp_region_lit ?_
          refine step (Runs.move A rfl) A rfl ?_; clear A a; intro a A
          refine step (Runs.add A rfl rfl (by omega)) A rfl ?_; clear A a; intro a A
          refine step (Runs.assign A rfl) A rfl ?_; clear A a; intro a A
          refine wpList_nil ?_
          have hdm : dmg1P s2 t = s2.set j ⟨x.id, brkP x.data t.2.1 t.2.2⟩ := by rw [dmg1P, ← hj, hx]
          have hxs2 : OR m (xs.take (j * 2) ++ [u64 x.id, .slice adk nk ck] ++ xs.drop (j * 2 + 2)) (dmg1P s2 t) := by rw [hdm]; exact OR.set (o := ⟨x.id, brkP x.data t.2.1 t.2.2⟩) ⟨_, _, _, rfl, hsk, hnk⟩ j hjn hxs
          have hAl : (cur.take (j * 2)).length = j * 2 := by rw [List.length_take]; omega
          have H := H.block_row (k := s2.length) (c := c1) (size := 2) (xs := xs.take (j * 2) ++ [u64 x.id, .slice adk nk ck] ++ xs.drop (j * 2 + 2)) (by simp only [List.length_append, List.length_take, List.length_drop, List.length_cons, List.length_nil]; omega) (by omega) (by omega) (by simp only [List.length_append, List.length_take, List.length_drop, List.length_cons, List.length_nil]; omega) (by rw [← ins_take1 hct (show j * 2 ≤ s2.length * 2 by omega), ← ins_mid hct (show j * 2 + 2 ≤ s2.length * 2 by omega)]; exact take_put hAl rfl (by omega))
          have hlen : s2.length = (dmg1P s2 t).length := by rw [hdm, List.length_set]
          rw [hlen] at A H
          exact ⟨_, by omega, i + 1, _, _, dmg1P s2 t, _, m, rfl, ⟨by omega, by omega, by rw [List.take_add_one, ht, List.foldl_append, ← hs2]; rfl, by rw [hdm, List.length_set]; exact hsl2, hxs2⟩, hl3, (Fr.cons A rfl (Fr.cons A rfl (Fr.cons A rfl (Fr.nil A)))), H.subH⟩
        · have g8 := h8
          try simp only [decide_eq_true_eq, decide_eq_false_iff_not, Bool.not_eq_true', Bool.not_eq_false', ne_eq, Decidable.not_not, Int.not_lt, Int.not_le] at g8
          refine wp_exit ?_
          refine wp_seq ?_
          refine wp_region_lit ?_
          refine step (Runs.move A rfl) A rfl ?_; clear A a; intro a A
          refine step (Runs.assign A rfl) A rfl ?_; clear A a; intro a A
          refine wpList_nil ?_
          refine wp_ret ?_
          have e : storeP ls ts = s2 := by
            rw [storeP, ← hS8]
            have h0 : s.length = 0 := by omega
            rw [hs2, dmg_nil _ _ h0, dmg_nil _ _ h0]
          obtain ⟨m2, hm2, hO, H⟩ := H.row_objs hxs
          exact retF A rfl rfl (hM.trans hm2) H ⟨_, _, by rw [e], by rw [e]; exact hO⟩
      · have g7 := h7
        try simp only [decide_eq_true_eq, decide_eq_false_iff_not, Bool.not_eq_true', Bool.not_eq_false', ne_eq, Decidable.not_not, Int.not_lt, Int.not_le] at g7
        refine stepSkip (dj := 47) rfl rfl h7 A rfl ?_; clear A a; intro a A
        refine stepSkip (dj := 47) rfl rfl h7 A rfl ?_; clear A a; intro a A
        refine stepSkip (dj := 47) rfl rfl h7 A rfl ?_; clear A a; intro a A
        refine step (Runs.pickF A rfl h7 rfl) A rfl ?_; clear A a; intro a A
        refine wpList_nil ?_
        refine cond_false A rfl rfl ?_
        refine wp_exit ?_
        refine wp_seq ?_
        refine wp_region_lit ?_
        refine step (Runs.move A rfl) A rfl ?_; clear A a; intro a A
        refine step (Runs.assign A rfl) A rfl ?_; clear A a; intro a A
        refine wpList_nil ?_
        refine wp_ret ?_
        have e : storeP ls ts = s2 := by
          rw [storeP, ← hS8]
          rw [hs2, show i = 4 by omega]
        obtain ⟨m2, hm2, hO, H⟩ := H.row_objs hxs
        exact retF A rfl rfl (hM.trans hm2) H ⟨_, _, by rw [e], by rw [e]; exact hO⟩
    · have g6 := h6
      try simp only [decide_eq_true_eq, decide_eq_false_iff_not, Bool.not_eq_true', Bool.not_eq_false', ne_eq, Decidable.not_not, Int.not_lt, Int.not_le] at g6
      refine stepSkip (dj := 43) rfl rfl h6 A rfl ?_; clear A a; intro a A
      refine stepSkip (dj := 43) rfl rfl h6 A rfl ?_; clear A a; intro a A
      refine step (Runs.pickF A rfl h6 rfl) A rfl ?_; clear A a; intro a A
      refine step (Runs.move A rfl) A rfl ?_; clear A a; intro a A
      refine stepSkip (dj := 47) rfl rfl rfl A rfl ?_; clear A a; intro a A
      refine stepSkip (dj := 47) rfl rfl rfl A rfl ?_; clear A a; intro a A
      refine stepSkip (dj := 47) rfl rfl rfl A rfl ?_; clear A a; intro a A
      refine step (Runs.pickF A rfl rfl rfl) A rfl ?_; clear A a; intro a A
      refine wpList_nil ?_
      refine cond_false A rfl rfl ?_
      refine wp_exit ?_
      refine wp_seq ?_
      refine wp_region_lit ?_
      refine step (Runs.move A rfl) A rfl ?_; clear A a; intro a A
      refine step (Runs.assign A rfl) A rfl ?_; clear A a; intro a A
      refine wpList_nil ?_
      refine wp_ret ?_
      have e : storeP ls ts = s2 := by
        rw [storeP, ← hS8]
        rw [hs2, List.take_of_length_le (show ts.length ≤ i by omega), List.take_of_length_le (by omega)]
      obtain ⟨m2, hm2, hO, H⟩ := H.row_objs hxs
      exact retF A rfl rfl (hM.trans hm2) H ⟨_, _, by rw [e], by rw [e]; exact hO⟩
end Sl
end Go.Proofs.YtanhehbfbakdcaaGreatDoor
