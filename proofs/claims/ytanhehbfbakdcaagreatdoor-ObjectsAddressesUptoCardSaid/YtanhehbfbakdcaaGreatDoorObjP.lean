/- Stores: Put, Get: walks, printed by my gen.py out of annotations. -/
import Derived.Test.YtanhehbfbakdcaaGreatDoorObjZ
set_option linter.unusedSimpArgs false
set_option linter.unusedVariables false
namespace Go.Proofs.YtanhehbfbakdcaaGreatDoor
namespace Sl
open Go

theorem atP_spec {l : List Obj} {id : UInt64} (h : atP l id = true) : ∃ x, l[lbP l id]? = some x ∧ x.id = id := by
  unfold atP at h
  cases hx : l[lbP l id]? with
  | none => rw [hx] at h; cases h
  | some x => rw [hx] at h; exact ⟨x, rfl, by simpa using h⟩
theorem OR.single {m : Mem} {o : Obj} {v : Value} (hv : Dat m v o.data) : OR m [u64 o.id, v] [o] := ⟨rfl, hv, trivial⟩
theorem take_put {A O R : List Value} {p k : Nat} (hA : A.length = p) (hO : O.length = 2) (hk : p + 2 ≤ k) : (A ++ O ++ R).take k = A ++ O ++ R.take (k - (p + 2)) := by
  rw [List.take_append, List.take_of_length_le (by simp [hA, hO]; omega)]
  simp [hA, hO]
def getP (l : List Obj) (id : UInt64) : Option (List UInt8) := if atP l id then (l[lbP l id]?).bind fun o => if sndP o then some o.data else none else none
def putP (l : List Obj) (d : List UInt8) : List Obj :=
  if atP l (dig d) then (if (l[lbP l (dig d)]?).any sndP then l else l.set (lbP l (dig d)) ⟨dig d, d⟩)
  else l.take (lbP l (dig d)) ++ [⟨dig d, d⟩] ++ l.drop (lbP l (dig d))
theorem OR.set {m : Mem} {o : Obj} {v : Value} (hv : Dat m v o.data) : ∀ {xs : List Value} {l : List Obj} (i : Nat), i < l.length → OR m xs l → OR m (xs.take (i * 2) ++ [u64 o.id, v] ++ xs.drop (i * 2 + 2)) (l.set i o)
  | [], [], i, h, _ => by simp at h
  | [], _ :: _, _, _, h => h.elim
  | [_], _, _, _, h => (by cases h)
  | _ :: _ :: _, [], _, _, h => h.elim
  | a :: w :: xs, p :: l, 0, _, ⟨_, _, h⟩ => ⟨rfl, hv, by simpa using h⟩
  | a :: w :: xs, p :: l, i + 1, hi, ⟨h1, h2, h⟩ => by
    have ih := OR.set hv i (by simpa using hi) h
    rw [show (i + 1) * 2 = i * 2 + 1 + 1 by omega]
    exact ⟨h1, h2, by simpa using ih⟩

theorem c_objects_Get {ad : Option Addr} {n c : Nat} {l : List Obj} {id : UInt64} {m : Mem} (hl : Objs m ad n c l) (hb : n ≤ 1100000) (hs : Srt l) : Spec Tryz.prog 56 #[.slice ad n c, u64 id] m [] (RetF fun m' v => match getP l id with | some d => ∃ u, v = .tuple #[u, .int .i64 0] ∧ Dat m' u d | none => v = .tuple #[.slice none 0 0, .int .i64 180]) := by
  refine Spec.enter0 Tryz.func56 rfl 29 Tryz.ntmps56 rfl fun a w0 Lf A H => ?_
  have hM := Le.refl m
  have hn := hl.1
  have hcap := hl.cap
  have hmx : maxLen = 9223372036854775807 := rfl
  refine wp_seq ?_
  refine wp_region_lit ?_
  refine step (Runs.assign A rfl) A rfl ?_; clear A a; intro a A
  refine step (Runs.assign A rfl) A rfl ?_; clear A a; intro a A
  refine wpList_nil ?_
  refine wp_seq ?_
  refine wp_region_lit ?_
  refine step (Runs.move A rfl) A rfl ?_; clear A a; intro a A
  refine step (Runs.move A rfl) A rfl ?_; clear A a; intro a A
  refine step_callF A rfl rfl (c_objects_find hl (by omega) hs) H ?_
  rintro v1_2 a w m hm rfl A H
  have hM := hM.trans hm
  have hl := hl.mono hm
  refine step (Runs.move A rfl) A rfl ?_; clear A a; intro a A
  refine step (Runs.extract A rfl rfl) A rfl ?_; clear A a; intro a A
  refine step (Runs.extract A rfl rfl) A rfl ?_; clear A a; intro a A
  refine step (Runs.assign A rfl) A rfl ?_; clear A a; intro a A
  refine step (Runs.assign A rfl) A rfl ?_; clear A a; intro a A
  refine wpList_nil ?_
  refine wp_seq ?_
  refine wp_seq ?_
  refine wp_region_lit ?_
  refine step (Runs.move A rfl) A rfl ?_; clear A a; intro a A
  refine step (Runs.not A rfl) A rfl ?_; clear A a; intro a A
  refine step (Runs.move A rfl) A rfl ?_; clear A a; intro a A
  refine onBool A (dj := 16) rfl (fun h1 => ?_) (fun h1 => ?_)
  · have g1 := h1
    try simp only [decide_eq_true_eq, decide_eq_false_iff_not, Bool.not_eq_true', Bool.not_eq_false', ne_eq, Decidable.not_not, Int.not_lt, Int.not_le] at g1
    refine stepSkip (dj := 16) rfl rfl h1 A rfl ?_; clear A a; intro a A
    refine stepSkip (dj := 16) rfl rfl h1 A rfl ?_; clear A a; intro a A
    refine stepSkip (dj := 16) rfl rfl h1 A rfl ?_; clear A a; intro a A
    refine stepSkip (dj := 16) rfl rfl h1 A rfl ?_; clear A a; intro a A
    refine stepSkip (dj := 16) rfl rfl h1 A rfl ?_; clear A a; intro a A
    refine stepSkip (dj := 16) rfl rfl h1 A rfl ?_; clear A a; intro a A
    refine step (Runs.pickT A rfl h1 rfl) A rfl ?_; clear A a; intro a A
    refine wpList_nil ?_
    refine cond_true A rfl rfl ?_
    refine wp_seq ?_
    refine wp_region_lit ?_
    refine step (Runs.assign A rfl) A rfl ?_; clear A a; intro a A
    refine step (Runs.assign A rfl) A rfl ?_; clear A a; intro a A
    refine wpList_nil ?_
    refine wp_ret ?_
    have e : getP l id = none := by rw [getP, if_neg (by simpa using h1)]
    exact retF2 A rfl rfl rfl hM H (by simp only [e])
  · have g1 := h1
    try simp only [decide_eq_true_eq, decide_eq_false_iff_not, Bool.not_eq_true', Bool.not_eq_false', ne_eq, Decidable.not_not, Int.not_lt, Int.not_le] at g1
    refine stepG (dj := 16) rfl rfl h1 (Runs.move A rfl) A rfl ?_; clear A a; intro a A
    refine stepG (dj := 16) rfl rfl h1 (Runs.move A rfl) A rfl ?_; clear A a; intro a A
    obtain ⟨x, hx, hxi⟩ := atP_spec (by simpa using g1)
    have hlb : lbP l id < l.length := (List.getElem?_eq_some_iff.1 hx).1
    obtain ⟨bb, off, cs, rfl, hfz, hcs⟩ := hl.all_ (by omega)
    obtain ⟨vx, hx1, hx2, hx3, hxd⟩ := hcs _ _ hx
    refine stepG (dj := 16) rfl rfl h1 (Runs.indexAddr A rfl rfl SlC.h (by omega) (by omega)) A rfl ?_; clear A a; intro a A
    refine stepG (dj := 16) rfl rfl h1 (Runs.ldN A H rfl (by rw [Int.toNat_natCast]; exact hx3)) A rfl ?_; clear A a; intro a A
    refine step_callFG (dj := 16) rfl rfl h1 A rfl rfl (c_objects_sound hxd) H ?_
    rintro v2_7 a w m hm rfl A H
    have hM := hM.trans hm
    have hl := hl.mono hm
    have hxd := hxd.mono hm
    refine stepG (dj := 16) rfl rfl h1 (Runs.not A rfl) A rfl ?_; clear A a; intro a A
    refine step (Runs.pickF A rfl h1 rfl) A rfl ?_; clear A a; intro a A
    refine wpList_nil ?_
    refine cond_split A rfl (fun h2 => ?_) (fun h2 => ?_)
    · have g2 := h2
      try simp only [decide_eq_true_eq, decide_eq_false_iff_not, Bool.not_eq_true', Bool.not_eq_false', ne_eq, Decidable.not_not, Int.not_lt, Int.not_le] at g2
      refine wp_seq ?_
      refine wp_region_lit ?_
      refine step (Runs.assign A rfl) A rfl ?_; clear A a; intro a A
      refine step (Runs.assign A rfl) A rfl ?_; clear A a; intro a A
      refine wpList_nil ?_
      refine wp_ret ?_
      have e : getP l id = none := by
        have hsx : sndP x = false := by simpa [sndP] using h2
        rw [getP, if_pos (by simpa using h1), hx]; simp [hsx]
      exact retF2 A rfl rfl rfl hM H (by simp only [e])
    · have g2 := h2
      try simp only [decide_eq_true_eq, decide_eq_false_iff_not, Bool.not_eq_true', Bool.not_eq_false', ne_eq, Decidable.not_not, Int.not_lt, Int.not_le] at g2
      refine wp_skip ?_
      refine wp_seq ?_
      refine wp_region_lit ?_
      refine step (Runs.move A rfl) A rfl ?_; clear A a; intro a A
      refine step (Runs.move A rfl) A rfl ?_; clear A a; intro a A
      obtain ⟨bb, off, cs, e0, hfz, hcs⟩ := hl.all_ (by omega)
      cases e0
      obtain ⟨vx, hx1, hx2, hx3, hxd⟩ := hcs _ _ hx
      refine step (Runs.indexAddr A rfl rfl SlC.h (by omega) (by omega)) A rfl ?_; clear A a; intro a A
      refine step (Runs.fa A rfl) A rfl ?_; clear A a; intro a A
      refine step (Runs.ld1 A H rfl (v := vx) (by rw [Int.toNat_natCast]; exact hx2)) A rfl ?_; clear A a; intro a A
      refine step (Runs.assign A rfl) A rfl ?_; clear A a; intro a A
      refine step (Runs.assign A rfl) A rfl ?_; clear A a; intro a A
      refine wpList_nil ?_
      refine wp_ret ?_
      have e : getP l id = some x.data := by
        have hsx : sndP x = true := by simpa [sndP] using h2
        rw [getP, if_pos (by simpa using h1), hx]; simp [hsx]
      exact retF2 A rfl rfl rfl hM H (by simp only [e]; exact ⟨_, rfl, hxd⟩)

theorem c_objects_Put {ad : Option Addr} {n c : Nat} {l : List Obj} {v0 : Value} {d : List UInt8} {m : Mem} (hl : Objs m ad n c l) (hb : n ≤ 1100000) (hs : Srt l) (hd : Dat m v0 d) : Spec Tryz.prog 47 #[.slice ad n c, v0] m [] (RetF fun m' v => ∃ ad' c', v = .tuple #[.slice ad' (putP l d).length c', u64 (dig d)] ∧ Objs m' ad' (putP l d).length c' (putP l d)) := by
  refine Spec.enter0 Tryz.func47 rfl 46 Tryz.ntmps47 rfl fun a w0 Lf A H => ?_
  have hM := Le.refl m
  obtain ⟨adq, nq, cq, rfl, hsd, hnd⟩ := hd
  obtain ⟨hn, xs, hXS, hOR⟩ := id hl
  have hcap := hl.cap
  have hmx : maxLen = 9223372036854775807 := rfl
  refine wp_seq ?_
  refine wp_region_lit ?_
  refine step (Runs.assign A rfl) A rfl ?_; clear A a; intro a A
  refine step (Runs.assign A rfl) A rfl ?_; clear A a; intro a A
  refine wpList_nil ?_
  refine wp_seq ?_
  refine wp_region_lit ?_
  refine step (Runs.move A rfl) A rfl ?_; clear A a; intro a A
  refine step_callF A rfl rfl (c_digest_Bytes hsd hnd) H ?_
  rintro v1_1 a w m hm rfl A H
  have hM := hM.trans hm
  have hl := hl.mono hm
  have hsd := hsd.mono hm
  have hXS := hXS.mono hm
  have hOR := hOR.mono hm
  refine step (Runs.assign A rfl) A rfl ?_; clear A a; intro a A
  refine wpList_nil ?_
  refine wp_seq ?_
  refine wp_region_lit ?_
  refine step (Runs.move A rfl) A rfl ?_; clear A a; intro a A
  refine step (Runs.move A rfl) A rfl ?_; clear A a; intro a A
  refine step_callF A rfl rfl (c_CloneB hsd hnd) H ?_
  rintro v2_2 a w m hm ⟨adk, nk, ck, rfl, hsk, hnk⟩ A H
  have hM := hM.trans hm
  have hl := hl.mono hm
  have hsd := hsd.mono hm
  have hXS := hXS.mono hm
  have hOR := hOR.mono hm
  refine step (Runs.build A rfl rfl rfl) A rfl ?_; clear A a; intro a A
  refine step_alloc A H rfl ?_; clear A a; intro b1 a w A H
  refine step_store A H rfl rfl rfl rfl rfl rfl ?_; intro w H
  refine wpList_nil ?_
  refine wp_seq ?_
  refine wp_region_lit ?_
  refine step (Runs.move A rfl) A rfl ?_; clear A a; intro a A
  refine step (Runs.move A rfl) A rfl ?_; clear A a; intro a A
  refine step_callF A rfl rfl (c_objects_find hl (by omega) hs) H ?_
  rintro v3_2 a w m hm rfl A H
  have hM := hM.trans hm
  have hl := hl.mono hm
  have hsd := hsd.mono hm
  have hXS := hXS.mono hm
  have hOR := hOR.mono hm
  have hsk := hsk.mono hm
  refine step (Runs.move A rfl) A rfl ?_; clear A a; intro a A
  refine step (Runs.extract A rfl rfl) A rfl ?_; clear A a; intro a A
  refine step (Runs.extract A rfl rfl) A rfl ?_; clear A a; intro a A
  refine step (Runs.assign A rfl) A rfl ?_; clear A a; intro a A
  refine step (Runs.assign A rfl) A rfl ?_; clear A a; intro a A
  refine wpList_nil ?_
  refine wp_seq ?_
  refine wp_block ?_
  refine wp_seq ?_
  refine wp_region_lit ?_
  refine step (Runs.move A rfl) A rfl ?_; clear A a; intro a A
  refine step (Runs.not A rfl) A rfl ?_; clear A a; intro a A
  refine step (Runs.assign A rfl) A rfl ?_; clear A a; intro a A
  refine wpList_nil ?_
  refine cond_split A rfl (fun h1 => ?_) (fun h1 => ?_)
  · have g1 := h1
    try simp only [decide_eq_true_eq, decide_eq_false_iff_not, Bool.not_eq_true', Bool.not_eq_false', ne_eq, Decidable.not_not, Int.not_lt, Int.not_le] at g1
    refine draw_begin (ms := m) (Ls := [pt b1 [u64 (dig d), .slice adk nk ck] 66]) (by kernel_rfl) (N := 7) rfl (by kernel_rfl) H ?_; clear H; intro w H hR
    have hS : SW m [pt b1 [u64 (dig d), .slice adk nk ck] 66] w := H.sw (Le.refl m)
    have hL := Le.refl m
    refine dstep hR (i := 0) rfl (by kernel_rfl) (fun _ _ _ h => h) (fun _ _ H' => (Runs.move A rfl)) A rfl hS ?_; clear A a hR; intro a A hR
    refine dstep hR (i := 2) rfl (by kernel_rfl) (fun _ _ _ h => h) (fun _ _ H' => (Runs.move A rfl)) A rfl hS ?_; clear A a hR; intro a A hR
    refine dstep hR (i := 3) rfl (by kernel_rfl) (fun _ _ _ h => h) (fun _ _ H' => (Runs.ldN A H' rfl rfl)) A rfl hS ?_; clear A a hR; intro a A hR
    refine draws_all hR (rs := [1, 4]) (by kernel_rfl) (by decide) ?_
    simp only [List.mem_cons, List.not_mem_nil, or_false, forall_eq_or_imp, forall_eq]
    refine ⟨?_, ?_⟩
    · refine dalt (i := 1) rfl ?_
      have hR := hR.next (i := 1) (by kernel_rfl)
      refine step_callS A rfl rfl (c_CloneO hXS hOR.one hb) H ?_
      rintro v5_1 a w m L' hm ⟨adc, cc, rfl, rfl⟩ A H
      simp only [List.cons_append, List.nil_append] at H
      have hM := hM.trans hm
      have hl := hl.mono hm
      have hsd := hsd.mono hm
      have hXS := hXS.mono hm
      have hOR := hOR.mono hm
      have hsk := hsk.mono hm
      have hL := hL.trans hm
      refine wpList_nil ?_
      clear hS; refine and_keep (H.sw hL) fun hS => ?_
      refine dlist hR (i := 4) rfl (by kernel_rfl) ?_
      have hR := hR.next (i := 4) (by kernel_rfl)
      refine step_slice A H rfl rfl rfl rfl rfl rfl ?_; intro b2 a w A H
      refine wpList_nil ?_
      clear hS; refine and_keep (H.sw hL) fun hS => ?_
      refine dlist hR (i := 5) rfl (by kernel_rfl) ?_
      have hR := hR.next (i := 5) (by kernel_rfl)
      refine step_callS A rfl rfl (c_InsertO (ad := adc) (n := n) (c := cc) (i := lbP l (dig d)) (b2 := b2) (adv := adk) (nv := nk) (cv := ck) (xs := xs) (id := dig d) (by have := lbP_le l (dig d); omega) hb hOR.one) H ?_
      rintro v5_5 a w m L' hm ⟨adi, ci, rfl, rfl⟩ A H
      simp only [List.cons_append, List.nil_append] at H
      have hM := hM.trans hm
      have hl := hl.mono hm
      have hsd := hsd.mono hm
      have hXS := hXS.mono hm
      have hOR := hOR.mono hm
      have hsk := hsk.mono hm
      have hL := hL.trans hm
      refine wpList_nil ?_
      clear hS; refine and_keep (H.sw hL) fun hS => ?_
      refine dstep hR (i := 6) rfl (by kernel_rfl) (fun _ _ _ h => h) (fun _ _ H' => (Runs.assign A rfl)) A rfl hS ?_; clear A a hR; intro a A hR
      refine draw_done hR (by kernel_rfl) ?_
      clear hS hL hR
      refine wp_seq ?_
      refine wp_region_lit ?_
      refine step (Runs.move A rfl) A rfl ?_; clear A a; intro a A
      refine step (Runs.move A rfl) A rfl ?_; clear A a; intro a A
      refine step (Runs.assign A rfl) A rfl ?_; clear A a; intro a A
      refine step (Runs.assign A rfl) A rfl ?_; clear A a; intro a A
      refine wpList_nil ?_
      refine wp_ret ?_
      have ha : atP l (dig d) = false := by simpa using h1
      have e : putP l d = l.take (lbP l (dig d)) ++ [⟨dig d, d⟩] ++ l.drop (lbP l (dig d)) := by rw [putP, if_neg (by rw [ha]; decide)]
      have hle := lbP_le l (dig d)
      have hlen : n + 1 = (putP l d).length := by rw [e]; simp only [List.length_append, List.length_take, List.length_drop, List.length_cons, List.length_nil]; omega
      have hOR2 : OR m (xs.take (lbP l (dig d) * 2) ++ [u64 (dig d), .slice adk nk ck] ++ xs.drop (lbP l (dig d) * 2)) (putP l d) := by rw [e]; exact ((hOR.take (lbP l (dig d))).app (OR.single (o := ⟨dig d, d⟩) ⟨_, _, _, rfl, hsk, hnk⟩)).app (hOR.drop (lbP l (dig d)))
      rw [hlen] at A
      obtain ⟨m2, hm2, hO, H⟩ := H.row_objs hOR2
      exact retF2 A rfl rfl rfl (hM.trans hm2) H ⟨_, _, rfl, hO⟩
    · refine dalt (i := 4) rfl ?_
      have hR := hR.next (i := 4) (by kernel_rfl)
      refine step_slice A H rfl rfl rfl rfl rfl rfl ?_; intro b2 a w A H
      refine wpList_nil ?_
      clear hS; refine and_keep (H.sw hL) fun hS => ?_
      refine dlist hR (i := 1) rfl (by kernel_rfl) ?_
      have hR := hR.next (i := 1) (by kernel_rfl)
      refine step_callS A rfl rfl (c_CloneO hXS hOR.one hb) H ?_
      rintro v5_1 a w m L' hm ⟨adc, cc, rfl, rfl⟩ A H
      simp only [List.cons_append, List.nil_append] at H
      have hM := hM.trans hm
      have hl := hl.mono hm
      have hsd := hsd.mono hm
      have hXS := hXS.mono hm
      have hOR := hOR.mono hm
      have hsk := hsk.mono hm
      have hL := hL.trans hm
      refine wpList_nil ?_
      clear hS; refine and_keep (H.sw hL) fun hS => ?_
      refine dlist hR (i := 5) rfl (by kernel_rfl) ?_
      have hR := hR.next (i := 5) (by kernel_rfl)
      refine step_callS A rfl rfl (c_InsertO (ad := adc) (n := n) (c := cc) (i := lbP l (dig d)) (b2 := b2) (adv := adk) (nv := nk) (cv := ck) (xs := xs) (id := dig d) (by have := lbP_le l (dig d); omega) hb hOR.one) H ?_
      rintro v5_5 a w m L' hm ⟨adi, ci, rfl, rfl⟩ A H
      simp only [List.cons_append, List.nil_append] at H
      have hM := hM.trans hm
      have hl := hl.mono hm
      have hsd := hsd.mono hm
      have hXS := hXS.mono hm
      have hOR := hOR.mono hm
      have hsk := hsk.mono hm
      have hL := hL.trans hm
      refine wpList_nil ?_
      clear hS; refine and_keep (H.sw hL) fun hS => ?_
      refine dstep hR (i := 6) rfl (by kernel_rfl) (fun _ _ _ h => h) (fun _ _ H' => (Runs.assign A rfl)) A rfl hS ?_; clear A a hR; intro a A hR
      refine draw_done hR (by kernel_rfl) ?_
      clear hS hL hR
      refine wp_seq ?_
      refine wp_region_lit ?_
      refine step (Runs.move A rfl) A rfl ?_; clear A a; intro a A
      refine step (Runs.move A rfl) A rfl ?_; clear A a; intro a A
      refine step (Runs.assign A rfl) A rfl ?_; clear A a; intro a A
      refine step (Runs.assign A rfl) A rfl ?_; clear A a; intro a A
      refine wpList_nil ?_
      refine wp_ret ?_
      have ha : atP l (dig d) = false := by simpa using h1
      have e : putP l d = l.take (lbP l (dig d)) ++ [⟨dig d, d⟩] ++ l.drop (lbP l (dig d)) := by rw [putP, if_neg (by rw [ha]; decide)]
      have hle := lbP_le l (dig d)
      have hlen : n + 1 = (putP l d).length := by rw [e]; simp only [List.length_append, List.length_take, List.length_drop, List.length_cons, List.length_nil]; omega
      have hOR2 : OR m (xs.take (lbP l (dig d) * 2) ++ [u64 (dig d), .slice adk nk ck] ++ xs.drop (lbP l (dig d) * 2)) (putP l d) := by rw [e]; exact ((hOR.take (lbP l (dig d))).app (OR.single (o := ⟨dig d, d⟩) ⟨_, _, _, rfl, hsk, hnk⟩)).app (hOR.drop (lbP l (dig d)))
      rw [hlen] at A
      obtain ⟨m2, hm2, hO, H⟩ := H.row_objs hOR2
      exact retF2 A rfl rfl rfl (hM.trans hm2) H ⟨_, _, rfl, hO⟩
  · have g1 := h1
    try simp only [decide_eq_true_eq, decide_eq_false_iff_not, Bool.not_eq_true', Bool.not_eq_false', ne_eq, Decidable.not_not, Int.not_lt, Int.not_le] at g1
    refine wp_seq ?_
    refine wp_region_lit ?_
    refine step (Runs.move A rfl) A rfl ?_; clear A a; intro a A
    refine step (Runs.move A rfl) A rfl ?_; clear A a; intro a A
    obtain ⟨x, hx, hxi⟩ := atP_spec (by simpa using g1)
    have hlb : lbP l (dig d) < l.length := (List.getElem?_eq_some_iff.1 hx).1
    obtain ⟨bb, off, cs, e0, hfz, hcs⟩ := hl.all_ (by omega)
    rw [e0] at A
    obtain ⟨vx, hx1, hx2, hx3, hxd⟩ := hcs _ _ hx
    refine step (Runs.indexAddr A rfl rfl SlC.h (by omega) (by omega)) A rfl ?_; clear A a; intro a A
    refine step (Runs.ldN A H rfl (by rw [Int.toNat_natCast]; exact hx3)) A rfl ?_; clear A a; intro a A
    rw [← e0] at A
    refine step_callF A rfl rfl (c_objects_sound hxd) H ?_
    rintro v6_4 a w m hm rfl A H
    have hM := hM.trans hm
    have hl := hl.mono hm
    have hsd := hsd.mono hm
    have hXS := hXS.mono hm
    have hOR := hOR.mono hm
    have hsk := hsk.mono hm
    have hxd := hxd.mono hm
    refine step (Runs.not A rfl) A rfl ?_; clear A a; intro a A
    refine step (Runs.assign A rfl) A rfl ?_; clear A a; intro a A
    refine wpList_nil ?_
    refine cond_split A rfl (fun h2 => ?_) (fun h2 => ?_)
    · have g2 := h2
      try simp only [decide_eq_true_eq, decide_eq_false_iff_not, Bool.not_eq_true', Bool.not_eq_false', ne_eq, Decidable.not_not, Int.not_lt, Int.not_le] at g2
      refine wp_seq ?_
      refine wp_region_lit ?_
      refine step (Runs.move A rfl) A rfl ?_; clear A a; intro a A
      refine step_callS A rfl rfl (c_CloneO hXS hOR.one hb) H ?_
      rintro v7_1 a w m L' hm ⟨adc, cc, rfl, rfl⟩ A H
      simp only [List.cons_append, List.nil_append] at H
      have hM := hM.trans hm
      have hl := hl.mono hm
      have hsd := hsd.mono hm
      have hXS := hXS.mono hm
      have hOR := hOR.mono hm
      have hsk := hsk.mono hm
      have hxd := hxd.mono hm
      refine step (Runs.assign A rfl) A rfl ?_; clear A a; intro a A
      refine wpList_nil ?_
      refine wp_region_lit ?_
      refine step (Runs.move A rfl) A rfl ?_; clear A a; intro a A
      refine step (Runs.move A rfl) A rfl ?_; clear A a; intro a A
      refine step (Runs.ldN A H rfl rfl) A rfl ?_; clear A a; intro a A
      obtain ⟨_, hncc, _⟩ := H.row_len
      obtain ⟨g, cur, rfl, hxl', hnc', hcm', hcl, hct, H⟩ := St.row_block (L := pt b1 [u64 (dig d), .slice adk nk ck] 66 :: Lf) H (by omega)
      refine step (Runs.indexAddr A rfl rfl SlC.h (by omega) (by omega)) A rfl ?_; clear A a; intro a A
      refine step_store (cs' := cur.take (lbP l (dig d) * 2) ++ [u64 (dig d), .slice adk nk ck] ++ cur.drop (lbP l (dig d) * 2 + 2)) A H rfl rfl rfl rfl rfl (by rw [Int.toNat_natCast, Nat.zero_add]; exact setN_put (cs := cur) (vs := [u64 (dig d), .slice adk nk ck]) (by show _ + 2 ≤ _; omega)) ?_; intro w H
      refine wpList_nil ?_
      refine wp_seq ?_
      refine wp_region_lit ?_
      refine step (Runs.move A rfl) A rfl ?_; clear A a; intro a A
      refine step (Runs.move A rfl) A rfl ?_; clear A a; intro a A
      refine step (Runs.assign A rfl) A rfl ?_; clear A a; intro a A
      refine step (Runs.assign A rfl) A rfl ?_; clear A a; intro a A
      refine wpList_nil ?_
      refine wp_ret ?_
      have hsx : sndP x = false := by simpa [sndP] using h2
      have e : putP l d = l.set (lbP l (dig d)) ⟨dig d, d⟩ := by rw [putP, if_pos (by simpa using h1), hx]; simp [hsx]
      have hlen : n = (putP l d).length := by rw [e, List.length_set]; exact hn
      have hp : lbP l (dig d) * 2 + 2 ≤ n * 2 := by omega
      have hAl : (cur.take (lbP l (dig d) * 2)).length = lbP l (dig d) * 2 := by rw [List.length_take]; omega
      have hxl2 := hXS.1
      have hOR2 : OR m (xs.take (lbP l (dig d) * 2) ++ [u64 (dig d), .slice adk nk ck] ++ xs.drop (lbP l (dig d) * 2 + 2)) (putP l d) := by rw [e]; exact OR.set (o := ⟨dig d, d⟩) ⟨_, _, _, rfl, hsk, hnk⟩ (lbP l (dig d)) hlb hOR
      have H := H.block_row (k := n) (c := cc) (size := 2) (xs := xs.take (lbP l (dig d) * 2) ++ [u64 (dig d), .slice adk nk ck] ++ xs.drop (lbP l (dig d) * 2 + 2)) (by simp only [List.length_append, List.length_take, List.length_drop, List.length_cons, List.length_nil]; omega) (by omega) (by omega) (by simp only [List.length_append, List.length_take, List.length_drop, List.length_cons, List.length_nil]; omega) (by rw [← ins_take1 hct (show lbP l (dig d) * 2 ≤ n * 2 by omega), ← ins_mid hct hp]; exact take_put hAl rfl (by omega))
      rw [hlen] at A H
      obtain ⟨m2, hm2, hO, H⟩ := H.row_objs hOR2
      exact retF2 A rfl rfl rfl (hM.trans hm2) H ⟨_, _, rfl, hO⟩
    · have g2 := h2
      try simp only [decide_eq_true_eq, decide_eq_false_iff_not, Bool.not_eq_true', Bool.not_eq_false', ne_eq, Decidable.not_not, Int.not_lt, Int.not_le] at g2
      refine wp_skip ?_
      refine wp_seq ?_
      refine wp_region_lit ?_
      refine step (Runs.move A rfl) A rfl ?_; clear A a; intro a A
      refine step (Runs.move A rfl) A rfl ?_; clear A a; intro a A
      refine step (Runs.assign A rfl) A rfl ?_; clear A a; intro a A
      refine step (Runs.assign A rfl) A rfl ?_; clear A a; intro a A
      refine wpList_nil ?_
      refine wp_ret ?_
      have hsx : sndP x = true := by simpa [sndP] using h2
      have e : putP l d = l := by rw [putP, if_pos (by simpa using h1), hx]; simp [hsx]
      exact retF2 A rfl rfl rfl hM H ⟨_, _, by rw [e, ← hn], by rw [e, ← hn]; exact hl⟩
end Sl
end Go.Proofs.YtanhehbfbakdcaaGreatDoor
