/- Stores: the reference's Broken, Store: walks, printed by my gen.py out of annotations. -/
import Derived.Test.YtanhehbfbakdcaaGreatDoorZ70
import Derived.WalkKit
import Derived.ProofKit
import Derived.Carry
import Derived.Deep.DeepWitnessRowRef
import Derived.OpenShut
import Derived.Deep.LoopGhost
/- From a walk of a law to its contract on readings, whatever its arguments' types. Own work. -/
set_option linter.unusedSimpArgs false
set_option linter.unusedVariables false
namespace Go.Proofs.YtanhehbfbakdcaaGreatDoor
namespace Sl
open Go Go.RowKit Go.ChangeShapes Go.WideShapes Go.Deep
def twoG (P : Program) (t e0 e1 : Nat) : Bool := match P.underlying t with
  | some (.struct fs) => (match fs.toList with
    | [f0, f1] => f0.type == e0 && f0.offset == 0 && f1.type == e1 && f1.offset == 1
    | _ => false)
  | _ => false
section
variable {H : Type} {enc : TypeId × Value → H} {P : Program} {w : World} {base : Nat} {sp : Nat → Bool} {held : Bool}
theorem twoG_spec {t e0 e1 : Nat} (h : twoG P t e0 e1 = true) : ∃ f0 f1, P.underlying t = some (.struct #[f0, f1]) ∧ f0.type = e0 ∧ f0.offset = 0 ∧ f1.type = e1 ∧ f1.offset = 1 := by
  unfold twoG at h
  split at h
  · rename_i fs hu
    split at h
    · rename_i f0 f1 hl
      simp only [Bool.and_eq_true, beq_iff_eq] at h
      obtain ⟨⟨⟨a, b⟩, c⟩, d⟩ := h
      refine ⟨f0, f1, ?_, a, b, c, d⟩
      rw [hu]
      congr 2
      cases fs
      simpa using hl
    · cases h
  · cases h
theorem open_twoG {t e0 e1 fuel : Nat} {v : Value} {x : DataW H × List MemPlace} {r : Reach} {b0 : Nat} (ht : twoG P t e0 e1 = true) (hc : P.cellsOf t = 2) (h0 : P.cellsOf e0 = 1) (h1 : P.cellsOf e1 = 1)
    (hv : Value.okWide P w r b0 t v) (h : DataW.trod enc P w base sp held fuel t v.cells.toList = some x) :
    ∃ v0 v1 y0 y1 n, v = .agg #[v0, v1] ∧ x = (.agg [y0.1, y1.1], y0.2 ++ y1.2) ∧ DataW.trod enc P w base sp held n e0 [v0] = some y0 ∧ DataW.trod enc P w base sp held n e1 [v1] = some y1 := by
  obtain ⟨f0, f1, hu, rfl, o0, rfl, o1⟩ := twoG_spec ht
  obtain ⟨cs, rfl, hl⟩ := okWide_struct hu hv
  obtain ⟨y0, y1, n, rfl, _, g0, g1⟩ := trod_struct2 hu h
  rw [hc] at hl
  obtain ⟨a, b, rfl⟩ : ∃ a b, cs = #[a, b] := by
    obtain ⟨l⟩ := cs
    match l, hl with
    | [a, b], _ => exact ⟨a, b, rfl⟩
  · skip
    rw [o0, h0] at g0
    rw [o1, h1] at g1
    exact ⟨a, b, y0, y1, n, rfl, rfl, by simpa [Value.cells] using g0, by simpa [Value.cells] using g1⟩
theorem open_u64 {t fuel : Nat} {v : Value} {x : DataW H × List MemPlace} {r : Reach} {b0 : Nat} (ht : P.underlying t = some (.int .u64)) (hv : Value.okWide P w r b0 t v) (h : DataW.trod enc P w base sp held fuel t v.cells.toList = some x) : ∃ z, v = u64 z := by
  obtain ⟨n, rfl⟩ := okWide_int ht hv
  obtain ⟨z, e, _, hw⟩ := DataW.trod_int ht h
  have e2 : n = z := by simpa [Value.cells] using e
  subst e2
  simp only [Lit.wf, Bool.and_eq_true, decide_eq_true_eq] at hw
  have h1 : 0 ≤ n := by simpa [IntKind.min, IntKind.signed] using hw.1
  have h2 : n ≤ 18446744073709551615 := by simpa [IntKind.max, IntKind.signed, IntKind.bits] using hw.2
  obtain ⟨k, rfl⟩ := Int.eq_ofNat_of_zero_le h1
  refine ⟨UInt64.ofNat k, ?_⟩
  have : k < 2 ^ 64 := by omega
  simp [u64, Nat.mod_eq_of_lt this]
end
section
variable {H : Type} {enc : TypeId × Value → H} {P : Program}
/-- Nothing that stood before has turned: the postcondition of a law that keeps its arguments. -/
theorem post_belowG {f : Func} {s : ChangeSpec} {apart fresh handsOn again : Bool} {W W' : World} {args : Array Value} {v : Value} {ds gs : List (DataW H)} {before pa pv : List MemPlace}
    (hW : DataW.Whole enc P f.params.toList s.vars apart W args.toList ds gs before)
    (hres : ∀ (b : Nat) (sp : Nat → Bool) (hd : Bool), DataW.TrodAll enc P W' b sp hd f.resultTypes.toList (v.resultList f.resultTypes.size) (s.fn H (ds ++ gs)).results [])
    (hargs : ∀ sp : Nat → Bool, (∀ p ∈ before, sp p.block = true) → DataW.TrodAll enc P W' 0 sp true f.params.toList args.toList (s.fn H (ds ++ gs)).args pa)
    (hvars : ∀ sp : Nat → Bool, (∀ p ∈ before, sp p.block = true) → DataW.TrodVars enc P W' sp s.vars (s.fn H (ds ++ gs)).vars pv)
    (hps : before = pa ++ pv) (hb : Below W.heap.size W W')
    (hok : ∀ (j : Nat) (t : TypeId) (r : Value), f.resultTypes[j]? = some t → (v.resultList f.resultTypes.size)[j]? = some r → Value.okWide P W' .any 0 t r) :
    s.post enc P f apart fresh handsOn again W args v W' := by
  have hold : ∀ p ∈ before, (fun b => decide (b < W.heap.size)) p.block = true := fun p hp => by simpa using hW.lt p hp
  have hlt := hW.lt
  refine ⟨ds, gs, before, [], pa, pv, hW, hres _ _ _, hargs _ hold, hvars _ hold, World.keptBut_mono (fun p hp => ⟨hp, ?_⟩) (hb.frame (· ∈ before)), fun _ => ?_⟩
  · rw [hps, List.mem_append] at hp
    exact Or.inr hp
  · obtain ⟨_, _, _, _, _, hz, hn⟩ := hW
    refine ⟨hok, _, _, ([] ++ pa) ++ pv, ⟨[] ++ pa, pv, trodAll_append (hargs _ (fun _ _ => rfl)) (hres _ _ _), hvars _ (fun _ _ => rfl), rfl, ?_, ?_⟩, ?_⟩
    · intro b off hp
      have hp' : MemPlace.cell b off ∈ before := by rw [hps]; simpa using hp
      rw [hb.frozen (p := ⟨b, off, none⟩) (hlt _ hp')]
      exact hz b off hp'
    · intro ha
      have := hn ha
      rw [hps] at this
      simpa using this
    · intro p hp _
      rw [hps]
      simpa using hp
theorem trodAll_stays (hl : laidOutB P = true) {W W' : World} {sp' : Nat → Bool} : ∀ {ts : List TypeId} {vs : List Value} {ds : List (DataW H)} {ps : List MemPlace}, (ts.all fun t => P.readableRec t && Nat.blt t P.types.size) = true →
    DataW.TrodAll enc P W 0 (fun _ => true) true ts vs ds ps → (∀ p ∈ ps, W.sameAt W' p) → (∀ p ∈ ps, sp' p.block = true) → DataW.TrodAll enc P W' 0 sp' true ts vs ds ps
  | [], _, _, _, _, h, _, _ => by
    obtain ⟨rfl, rfl, rfl⟩ := trodAll_nil h
    exact trodAll_mk0
  | t :: ts, _, _, _, hr, h, hs, hp => by
    obtain ⟨v, vs, d, ds, p, q, rfl, rfl, rfl, h1, h2⟩ := trodAll_cons h
    simp only [List.all_cons, Bool.and_eq_true] at hr
    exact trodAll_cons_mk (WideElems.Trod_stays hl hr.1.1 (by simpa [Nat.blt_eq] using hr.1.2) h1 (fun x hx => hs x (by simp [hx])) (fun x hx => hp x (by simp [hx])))
      (trodAll_stays hl hr.2 h2 (fun x hx => hs x (by simp [hx])) (fun x hx => hp x (by simp [hx])))
theorem trodAll_len {W : World} {base : Nat} {sp : Nat → Bool} {held : Bool} : ∀ {ts : List TypeId} {vs : List Value} {ds : List (DataW H)} {ps : List MemPlace}, DataW.TrodAll enc P W base sp held ts vs ds ps → ds.length = ts.length
  | [], _, _, _, h => by obtain ⟨rfl, rfl, rfl⟩ := trodAll_nil h; rfl
  | t :: ts, _, _, _, h => by
    obtain ⟨v, vs, d, ds, p, q, rfl, rfl, rfl, h1, h2⟩ := trodAll_cons h
    simp [trodAll_len h2]
end

/-! ### The types -/
abbrev gRaw : TypeId := 25
abbrev gBy : TypeId := 28
theorem ug_by : Tryz.prog.underlying gBy = some (.slice 5) := by kernel_rfl
theorem ug_u8 : Tryz.prog.underlying 5 = some (.int .u8) := by kernel_rfl
theorem ug_dats : Tryz.prog.underlying 22 = some (.slice gBy) := by kernel_rfl
theorem ug_tris : Tryz.prog.underlying 23 = some (.slice 84) := by kernel_rfl
theorem ug_tri : Tryz.prog.underlying 84 = some (.array 3 5) := by kernel_rfl
theorem ug_bool : Tryz.prog.underlying 4 = some .bool := by kernel_rfl
theorem laidOutG : laidOutB Tryz.prog = true := by kernel_rfl
section
variable {H : Type} {enc : TypeId × Value → H} {W : World} {base : Nat} {held : Bool}
set_option maxRecDepth 100000 in
theorem oRaw {v : Value} {d : DataW H} {p : List MemPlace} (ok : Value.okWide Tryz.prog W .any base gRaw v) (h : DataW.Trod enc Tryz.prog W 0 (fun _ => true) held gRaw v d p) (hb : Rows.uptoBulk d ≤ 1048576) :
    ∃ adL nL cL ls adB nB cB ts, v = .agg #[.slice adL nL cL, .slice adB nB cB] ∧ Dats (all W) adL nL cL ls ∧ Tris (all W) adB nB cB ts ∧ nL ≤ 1100000 ∧ nB ≤ 1100000 := by
  obtain ⟨f0, g0⟩ := h
  obtain ⟨a0, a1, y0, y1, n, rfl, hx, k0, k1⟩ := open_twoG (e0 := 22) (e1 := 23) (by kernel_rfl) (by kernel_rfl) (by kernel_rfl) (by kernel_rfl) ok g0
  obtain ⟨e1, _⟩ := Prod.mk.inj hx
  have hd0 : Rows.uptoBulk d = Rows.uptoBulk y0.1 + (Rows.uptoBulk y1.1 + 0) + 1 := by rw [e1]; simp only [Rows.uptoBulk, Rows.uptoBulkAll]
  obtain ⟨adL, nL, cL, ls, eL, hLs, bL⟩ := open_dats ug_dats (by kernel_rfl) ug_by ug_u8 (by kernel_rfl) k0 (by omega)
  obtain ⟨adB, nB, cB, ts, eB, hTs, bB⟩ := open_tris ug_tris ug_tri (by kernel_rfl) ug_u8 (by kernel_rfl) k1
  obtain rfl : a0 = .slice adL nL cL := by simpa using eL
  obtain rfl : a1 = .slice adB nB cB := by simpa using eB
  exact ⟨adL, nL, cL, ls, adB, nB, cB, ts, rfl, hLs, hTs, by omega, by omega⟩
end
theorem glist3 {α : Type} {l : List α} (h : l.length = 3) : ∃ a b c, l = [a, b, c] := by
  match l, h with
  | [a, b, c], _ => exact ⟨a, b, c, rfl⟩
theorem gval3 {K : TypeId → Value → Prop} {t0 t1 t2 : TypeId} {v0 v1 v2 : Value} (h : ∀ (j : Nat) t v, #[t0, t1, t2][j]? = some t → #[v0, v1, v2][j]? = some v → K t v) : K t0 v0 ∧ K t1 v1 ∧ K t2 v2 :=
  ⟨h 0 _ _ rfl rfl, h 1 _ _ rfl rfl, h 2 _ _ rfl rfl⟩
/-- What is left to show of a law: that it returns true where its arguments read so. -/
def LawG (f : Nat) (ps : Array TypeId) : Prop := ∀ {H : Type} {enc : TypeId × Value → H} {W : World} {base : Nat} {args : Array Value} {ds : List (DataW H)} {p : List MemPlace},
  DataW.TrodAll enc Tryz.prog W 0 (fun _ => true) true ps.toList args.toList ds p → (∀ (j : Nat) t v, ps[j]? = some t → args[j]? = some v → Value.okWide Tryz.prog W .any base t v) → Rows.uptoBulkAll ds ≤ 1048576 → Glob (all W) →
  Spec Tryz.prog f args (all W) [] (RetE (.bool true))
set_option maxRecDepth 100000 in
theorem law_gen {f : Nat} {fn : Func} {ps : Array TypeId} (law : LawG f ps) (hp : fn.params = ps) (hr : fn.resultTypes = #[4]) (hread : (ps.toList.all fun t => Tryz.prog.readableRec t && Nat.blt t Tryz.prog.types.size) = true) {s : ChangeSpec} (hs : s.vars = [])
    (hfn : ∀ (H : Type) (ds : List (DataW H)), ds.length = ps.toList.length → s.fn H ds = { results := [.lit (.bool true)], args := ds })
    {H : Type} {enc : TypeId × Value → H} {W : World} {base : Nat} {args : Array Value} {ds gs : List (DataW H)} {before : List MemPlace}
    (hval : ∀ (j : Nat) t v, fn.params[j]? = some t → args[j]? = some v → Value.okWide Tryz.prog W .any base t v)
    (hW : DataW.Whole enc Tryz.prog fn.params.toList s.vars false W args.toList ds gs before)
    (hcond : Rows.uptoSmall H (ds ++ gs) = true) (hL : laidMetH Tryz.prog lRow W) :
    Calls Tryz.prog f args W fun e W' => ∃ v, e = .returned v ∧ s.post enc Tryz.prog fn false true false false W args v W' := by
  have hW' := hW
  obtain ⟨p, q, hA0, hV, rfl, hfz, hnd⟩ := hW
  rw [hs] at hV
  obtain ⟨rfl, rfl⟩ := trodVars_none hV
  rw [hp] at hA0 hval
  have hbk : Rows.uptoBulkAll ds ≤ 1048576 := by
    have this : Rows.uptoBulkAll (ds ++ []) ≤ 1048576 := of_decide_eq_true hcond
    rwa [List.append_nil] at this
  have hlen := trodAll_len hA0
  refine Calls.mono (law hA0 hval hbk (glob_of_laid hL) W [] (St.start W)) ?_
  rintro e W' ⟨m', L', hle, hpost, HS⟩
  have hb := HS.below_all hle
  cases e with
  | returned v =>
  obtain ⟨rfl, rfl⟩ := hpost
  refine ⟨_, rfl, ?_⟩
  have lt := hW'.lt
  refine post_belowG (pa := p) (pv := []) hW' (fun b sp hd => ?_) (fun sp hsp => ?_) (fun sp hsp => ?_) (by simp) hb (fun j t r hj hrr => ?_)
  · rw [hr, List.append_nil, hfn _ _ hlen]
    exact trodAll_cons_mk (shut_bool ug_bool _) trodAll_mk0
  · rw [hp, List.append_nil, hfn _ _ hlen]
    exact trodAll_stays laidOutG hread hA0 (fun x hx => hb.same (lt x (by simp [hx]))) (fun x hx => hsp x (by simp [hx]))
  · rw [hs, List.append_nil, hfn _ _ hlen]
    exact rfl
  · revert hj hrr
    exact ok_one hr rfl (okWide_bool_mk ug_bool _) j t r
  | _ => exact hpost.elim
end Sl
end Go.Proofs.YtanhehbfbakdcaaGreatDoor
/- A world that holds what the rows list. Own work. -/
set_option linter.unusedSimpArgs false
set_option linter.unusedVariables false
namespace Go.Proofs.YtanhehbfbakdcaaGreatDoor
namespace Sl
open Go Go.RowKit Go.ChangeShapes Go.WideShapes Go.Deep
def putB (g : Nat) (cs : Array Value) (h : Array Go.Obj) : Array Go.Obj := h.modify g fun
  | .cells _ t fr => .cells cs t fr
  | o => o
def aggCells : DataW Unit → Array Value
  | .agg l => (l.map fun d => match d with | .lit x => decL x | _ => .nilIface).toArray
  | _ => #[]
def mapObj : DataW Unit → Go.Obj
  | .map l => .map (l.zipIdx.map fun p => (⟨(dec p.1).1, (dec p.1).2, p.2⟩ : MapEntry)).toArray l.length
  | _ => .map #[] 0
def errText : DataW Unit → Value
  | .iface _ (.ptr (.agg [.lit x])) => decL x
  | _ => .nilIface
noncomputable def low : Nat := (World.holding Tryz.prog default ⟨#[], #[], []⟩).heap.size
noncomputable def laidWorld (os : Os) : World :=
  let w0 := World.holding Tryz.prog os ⟨#[.cells #[errText Rows.laid_strconv_ErrRange] 314, .cells #[errText Rows.laid_strconv_ErrSyntax] 314, mapObj Rows.laid_wireloom_syntax_reserved, mapObj Rows.laid_wireloom_syntax_operators], #[], []⟩
  let h1 := putB 6 (aggCells Rows.laid_math_bits_deBruijn32tab) w0.heap
  let h2 := putB 7 (aggCells Rows.laid_math_bits_deBruijn64tab) h1
  let h3 := putB 3 (aggCells Rows.laid_internal_strconv_uint64pow10) h2
  let h4 := putB 5 #[Value.iface 312 (.pointer (some ⟨low, 0, none⟩))] h3
  let h5 := putB 4 #[Value.iface 312 (.pointer (some ⟨low + 1, 0, none⟩))] h4
  let h6 := putB 0 #[Value.map (some (low + 2))] h5
  let h7 := putB 1 #[Value.map (some (low + 3))] h6
  { w0 with heap := h7 }
end Sl
end Go.Proofs.YtanhehbfbakdcaaGreatDoor
/- Digests: walks, printed by my gen.py out of annotations. -/
set_option linter.unusedSimpArgs false
set_option linter.unusedVariables false
namespace Go.Proofs.YtanhehbfbakdcaaGreatDoor
namespace Sl
open Go

theorem c_wireloomref01_Step {h w : UInt64} {m : Mem} : Spec Tryz.prog 72 #[u64 h, u64 w] m [] (RetE (u64 (stp h w))) := by
  refine Spec.enter0 Tryz.func72 rfl 17 Tryz.ntmps72 rfl fun a w0 Lf A H => ?_
  have hM := Le.refl m
  refine wp_seq ?_
  refine wp_region_lit ?_
  refine step (Runs.assign A rfl) A rfl ?_; clear A a; intro a A
  refine wpList_nil ?_
  refine wp_seq ?_
  refine wp_region_lit ?_
  refine step (Runs.move A rfl) A rfl ?_; clear A a; intro a A
  refine step (Runs.move A rfl) A rfl ?_; clear A a; intro a A
  refine step (Runs.xor64 A rfl rfl) A rfl ?_; clear A a; intro a A
  refine step (Runs.mul64 (q := 15485907386658061715) A rfl rfl) A rfl ?_; clear A a; intro a A
  refine step (Runs.assign A rfl) A rfl ?_; clear A a; intro a A
  refine wpList_nil ?_
  refine wp_seq ?_
  refine wp_region_lit ?_
  refine step (Runs.move A rfl) A rfl ?_; clear A a; intro a A
  refine step (Runs.move A rfl) A rfl ?_; clear A a; intro a A
  refine step (Runs.shr64 (k := 32) A rfl rfl rfl (by omega)) A rfl ?_; clear A a; intro a A
  refine step (Runs.xor64 A rfl rfl) A rfl ?_; clear A a; intro a A
  refine step (Runs.assign A rfl) A rfl ?_; clear A a; intro a A
  refine wpList_nil ?_
  refine wp_seq ?_
  refine wp_region_lit ?_
  refine step (Runs.move A rfl) A rfl ?_; clear A a; intro a A
  refine step (Runs.mul64 (q := 11562461410679940143) A rfl rfl) A rfl ?_; clear A a; intro a A
  refine step (Runs.assign A rfl) A rfl ?_; clear A a; intro a A
  refine wpList_nil ?_
  refine wp_ret ?_
  exact retF A rfl rfl hM H rfl

theorem c_wireloomref01_Bytes {ad : Option Addr} {n c : Nat} {l : List UInt8} {m : Mem} (hb : Slc m 1 ad n c (l.map u8)) (hn : n ≤ 1000000000) : Spec Tryz.prog 43 #[.slice ad n c] m [] (RetE (u64 (dig l))) := by
  refine Spec.enter0 Tryz.func43 rfl 46 Tryz.ntmps43 rfl fun a w0 Lf A H => ?_
  have hM := Le.refl m
  have hl := hb.len8
  refine wp_seq ?_
  refine wp_region_lit ?_
  refine step (Runs.assign A rfl) A rfl ?_; clear A a; intro a A
  refine wpList_nil ?_
  refine wp_seq ?_
  refine wp_region_lit ?_
  refine step (Runs.assign A rfl) A rfl ?_; clear A a; intro a A
  refine wpList_nil ?_
  refine wp_seq ?_
  refine wp_seq ?_
  refine wp_region_lit ?_
  refine step (Runs.assign A rfl) A rfl ?_; clear A a; intro a A
  refine wpList_nil ?_
  refine wp_block ?_
  refine wp_loop_ghost (fun q a w => ∃ (i : Nat) (h : UInt64) (m' : Mem), q = n + 8 - i ∧ (i ≤ n + 8 ∧ (grp (l.drop i)).foldl stp h = (grp l).foldl stp dig0) ∧ Le m m' ∧ Fr 46 a [(0, .slice ad n c), (3, u64 h), (4, .int .i64 i)] [] ∧ St w0 w m' (Lf)) _ ⟨0, dig0, m, rfl, ⟨by omega, rfl⟩, Le.refl m, (Fr.cons A rfl (Fr.cons A rfl (Fr.cons A rfl (Fr.nil A)))), H⟩ ?_
  clear A H; rintro q a w ⟨i, h, m, rfl, hinv, hm, A, H⟩
  have hM := hM.trans hm
  have hb := hb.mono hm
  have hl1 := hm
  obtain ⟨hi, hgo⟩ := hinv
  refine wp_seq ?_
  refine wp_seq ?_
  refine wp_region_lit ?_
  refine step (Runs.move A rfl) A rfl ?_; clear A a; intro a A
  refine step (Runs.move A rfl) A rfl ?_; clear A a; intro a A
  refine step (Runs.lenL A rfl SlC.h) A rfl ?_; clear A a; intro a A
  refine step (Runs.lss A rfl rfl) A rfl ?_; clear A a; intro a A
  refine wpList_nil ?_
  refine cond_split A rfl (fun h1 => ?_) (fun h1 => ?_)
  · have g1 := h1
    try simp only [decide_eq_true_eq, decide_eq_false_iff_not, Bool.not_eq_true', Bool.not_eq_false', ne_eq, Decidable.not_not, Int.not_lt, Int.not_le] at g1
    refine wp_skip ?_
    refine wp_seq ?_
    refine wp_block ?_
    refine wp_seq ?_
    refine wp_region_lit ?_
    refine step (Runs.assign A rfl) A rfl ?_; clear A a; intro a A
    refine wpList_nil ?_
    refine wp_seq ?_
    refine wp_seq ?_
    refine wp_region_lit ?_
    refine step (Runs.assign A rfl) A rfl ?_; clear A a; intro a A
    refine wpList_nil ?_
    refine wp_block ?_
    refine wp_loop_ghost (fun q a w => ∃ (k : Nat) (m' : Mem), q = 9 - k ∧ (k ≤ 8 ∧ k ≤ n - i) ∧ Le m m' ∧ Fr 46 a [(0, .slice ad n c), (3, u64 h), (4, .int .i64 i), (5, u64 (wrdN (l.drop i) k)), (6, .int .i64 k)] [] ∧ St w0 w m' (Lf)) _ ⟨0, m, rfl, ⟨by omega, by omega⟩, Le.refl m, (Fr.cons A rfl (Fr.cons A rfl (Fr.cons A rfl (Fr.cons A rfl (Fr.cons A rfl (Fr.nil A)))))), H⟩ ?_
    clear A H; rintro q a w ⟨k, m, rfl, hinv, hm, A, H⟩
    have hM := hM.trans hm
    have hl1 := hl1.trans hm
    have hb := hb.mono hm
    have hl2 := hm
    obtain ⟨hk8, hkn⟩ := hinv
    refine wp_seq ?_
    refine wp_seq ?_
    refine wp_region_lit ?_
    refine step (Runs.move A rfl) A rfl ?_; clear A a; intro a A
    refine step (Runs.lss A rfl rfl) A rfl ?_; clear A a; intro a A
    refine step (Runs.move A rfl) A rfl ?_; clear A a; intro a A
    refine onBool A (dj := 15) rfl (fun h2 => ?_) (fun h2 => ?_)
    · have g2 := h2
      try simp only [decide_eq_true_eq, decide_eq_false_iff_not, Bool.not_eq_true', Bool.not_eq_false', ne_eq, Decidable.not_not, Int.not_lt, Int.not_le] at g2
      refine stepG (dj := 15) rfl rfl h2 (Runs.move A rfl) A rfl ?_; clear A a; intro a A
      refine stepG (dj := 15) rfl rfl h2 (Runs.move A rfl) A rfl ?_; clear A a; intro a A
      refine stepG (dj := 15) rfl rfl h2 (Runs.add A rfl rfl (by omega)) A rfl ?_; clear A a; intro a A
      refine stepG (dj := 15) rfl rfl h2 (Runs.move A rfl) A rfl ?_; clear A a; intro a A
      refine stepG (dj := 15) rfl rfl h2 (Runs.lenL A rfl SlC.h) A rfl ?_; clear A a; intro a A
      refine stepG (dj := 15) rfl rfl h2 (Runs.lss A rfl rfl) A rfl ?_; clear A a; intro a A
      refine step (Runs.pickT A rfl h2 rfl) A rfl ?_; clear A a; intro a A
      refine wpList_nil ?_
      refine cond_split A rfl (fun h3 => ?_) (fun h3 => ?_)
      · have g3 := h3
        try simp only [decide_eq_true_eq, decide_eq_false_iff_not, Bool.not_eq_true', Bool.not_eq_false', ne_eq, Decidable.not_not, Int.not_lt, Int.not_le] at g3
        refine wp_skip ?_
        refine wp_seq ?_
        refine wp_block ?_
        refine wp_region_lit ?_
        refine step (Runs.move A rfl) A rfl ?_; clear A a; intro a A
        refine step (Runs.move A rfl) A rfl ?_; clear A a; intro a A
        refine step (Runs.move A rfl) A rfl ?_; clear A a; intro a A
        refine step (Runs.move A rfl) A rfl ?_; clear A a; intro a A
        refine step (Runs.add A rfl rfl (by omega)) A rfl ?_; clear A a; intro a A
        obtain ⟨bb, off, cs, rfl, hfz, hcs⟩ := hb.at_ (by omega)
        refine step (Runs.indexAddr A rfl rfl SlC.h (by omega) (by omega)) A rfl ?_; clear A a; intro a A
        refine step (Runs.ld1 A H rfl (v := u8 (l.getD (i + k) 0)) (by rw [show off + ((i : Int) + (k : Int)).toNat * 1 = off + (i + k) by omega, hcs _ (by omega)]; exact u8_at (by omega))) A rfl ?_; clear A a; intro a A
        refine step (Runs.convTo64 A rfl rfl) A rfl ?_; clear A a; intro a A
        refine step (Runs.move A rfl) A rfl ?_; clear A a; intro a A
        refine step (Runs.mul A rfl rfl (by omega)) A rfl ?_; clear A a; intro a A
        refine step (Runs.convTo64 (p := 8 * k) A rfl (by omega)) A rfl ?_; clear A a; intro a A
        refine step (Runs.shl64 (k := 8 * k) A rfl rfl (by rw [UInt64.toNat_ofNat']; omega) (by omega)) A rfl ?_; clear A a; intro a A
        refine step (Runs.or64 A rfl rfl) A rfl ?_; clear A a; intro a A
        refine step (Runs.assign A rfl) A rfl ?_; clear A a; intro a A
        refine wpList_nil ?_
        refine wp_region_lit ?_
        refine step (Runs.move A rfl) A rfl ?_; clear A a; intro a A
        refine step (Runs.add A rfl rfl (by omega)) A rfl ?_; clear A a; intro a A
        refine step (Runs.assign A rfl) A rfl ?_; clear A a; intro a A
        refine wpList_nil ?_
        rw [← wrdN_succ] at A
        exact ⟨_, by omega, k + 1, m, rfl, ⟨by omega, by omega⟩, hl2, (Fr.cons A rfl (Fr.cons A rfl (Fr.cons A rfl (Fr.cons A rfl (Fr.cons A rfl (Fr.nil A)))))), H⟩
      · have g3 := h3
        try simp only [decide_eq_true_eq, decide_eq_false_iff_not, Bool.not_eq_true', Bool.not_eq_false', ne_eq, Decidable.not_not, Int.not_lt, Int.not_le] at g3
        refine wp_exit ?_
        refine wp_region_lit ?_
        refine step (Runs.move A rfl) A rfl ?_; clear A a; intro a A
        refine step (Runs.move A rfl) A rfl ?_; clear A a; intro a A
        refine step_callF A rfl rfl (c_wireloomref01_Step) H ?_
        rintro v10_2 a w m hm rfl A H
        have hM := hM.trans hm
        have hl1 := hl1.trans hm
        have hb := hb.mono hm
        refine step (Runs.assign A rfl) A rfl ?_; clear A a; intro a A
        refine wpList_nil ?_
        refine wp_region_lit ?_
        refine step (Runs.move A rfl) A rfl ?_; clear A a; intro a A
        refine step (Runs.add A rfl rfl (by omega)) A rfl ?_; clear A a; intro a A
        refine step (Runs.assign A rfl) A rfl ?_; clear A a; intro a A
        refine wpList_nil ?_
        have hk : k = min 8 (l.length - i) := by omega
        exact ⟨_, by omega, i + 8, stp h (wrdN (l.drop i) k), m, rfl, ⟨by omega, by rw [← hgo, grp_step (l := l) (i := i) (by omega), ← hk]⟩, hl1, (Fr.cons A rfl (Fr.cons A rfl (Fr.cons A rfl (Fr.nil A)))), H⟩
    · have g2 := h2
      try simp only [decide_eq_true_eq, decide_eq_false_iff_not, Bool.not_eq_true', Bool.not_eq_false', ne_eq, Decidable.not_not, Int.not_lt, Int.not_le] at g2
      refine stepSkip (dj := 15) rfl rfl h2 A rfl ?_; clear A a; intro a A
      refine stepSkip (dj := 15) rfl rfl h2 A rfl ?_; clear A a; intro a A
      refine stepSkip (dj := 15) rfl rfl h2 A rfl ?_; clear A a; intro a A
      refine stepSkip (dj := 15) rfl rfl h2 A rfl ?_; clear A a; intro a A
      refine stepSkip (dj := 15) rfl rfl h2 A rfl ?_; clear A a; intro a A
      refine stepSkip (dj := 15) rfl rfl h2 A rfl ?_; clear A a; intro a A
      refine step (Runs.pickF A rfl h2 rfl) A rfl ?_; clear A a; intro a A
      refine wpList_nil ?_
      refine cond_false A rfl rfl ?_
      refine wp_exit ?_
      refine wp_region_lit ?_
      refine step (Runs.move A rfl) A rfl ?_; clear A a; intro a A
      refine step (Runs.move A rfl) A rfl ?_; clear A a; intro a A
      refine step_callF A rfl rfl (c_wireloomref01_Step) H ?_
      rintro v10_2 a w m hm rfl A H
      have hM := hM.trans hm
      have hl1 := hl1.trans hm
      have hb := hb.mono hm
      refine step (Runs.assign A rfl) A rfl ?_; clear A a; intro a A
      refine wpList_nil ?_
      refine wp_region_lit ?_
      refine step (Runs.move A rfl) A rfl ?_; clear A a; intro a A
      refine step (Runs.add A rfl rfl (by omega)) A rfl ?_; clear A a; intro a A
      refine step (Runs.assign A rfl) A rfl ?_; clear A a; intro a A
      refine wpList_nil ?_
      have hk : k = min 8 (l.length - i) := by omega
      exact ⟨_, by omega, i + 8, stp h (wrdN (l.drop i) k), m, rfl, ⟨by omega, by rw [← hgo, grp_step (l := l) (i := i) (by omega), ← hk]⟩, hl1, (Fr.cons A rfl (Fr.cons A rfl (Fr.cons A rfl (Fr.nil A)))), H⟩
  · have g1 := h1
    try simp only [decide_eq_true_eq, decide_eq_false_iff_not, Bool.not_eq_true', Bool.not_eq_false', ne_eq, Decidable.not_not, Int.not_lt, Int.not_le] at g1
    refine wp_exit ?_
    refine wp_seq ?_
    refine wp_region_lit ?_
    refine step (Runs.move A rfl) A rfl ?_; clear A a; intro a A
    refine step (Runs.move A rfl) A rfl ?_; clear A a; intro a A
    refine step (Runs.lenL A rfl SlC.h) A rfl ?_; clear A a; intro a A
    refine step (Runs.convTo64 A rfl rfl) A rfl ?_; clear A a; intro a A
    refine step_callF A rfl rfl (c_wireloomref01_Step) H ?_
    rintro v11_4 a w m hm rfl A H
    have hM := hM.trans hm
    have hb := hb.mono hm
    refine step (Runs.assign A rfl) A rfl ?_; clear A a; intro a A
    refine wpList_nil ?_
    refine wp_ret ?_
    have e : h = (grp l).foldl stp dig0 := by rw [← hgo, grp_nil (by rw [List.length_drop]; omega)]; rfl
    exact retF A rfl rfl hM H (by rw [dig, ← e, hl])

theorem c_digest_sum_add {b b2 : Nat} {h z : UInt64} {m : Mem} : Spec Tryz.prog 59 #[.pointer (some ⟨b, 0, none⟩), .slice (some ⟨b2, 0, none⟩) 1 1] m [pt b [u64 h] 107, pt b2 [u64 z] 29] (RetV fun _ v L => v = .tuple #[] ∧ L = [pt b [u64 (stp h z)] 107, pt b2 [u64 z] 29]) := by
  refine Spec.enter Tryz.func59 rfl 27 Tryz.ntmps59 rfl fun a w0 Lf A H => ?_
  simp only [List.cons_append, List.nil_append] at H
  have hM := Le.refl m
  refine wp_seq ?_
  refine wp_region_lit ?_
  refine step (Runs.move A rfl) A rfl ?_; clear A a; intro a A
  refine step (Runs.lenL A rfl SlC.h) A rfl ?_; clear A a; intro a A
  refine step (Runs.move A rfl) A rfl ?_; clear A a; intro a A
  refine wpList_nil ?_
  refine wp_block ?_
  refine wp_loop_ghost (fun q a w => ∃ (j : Nat) (hh : UInt64) (m' : Mem), q = 2 - j ∧ (j = 0 ∧ hh = h ∨ j = 1 ∧ hh = stp h z) ∧ Le m m' ∧ Fr 27 a [(0, .pointer (some ⟨b, 0, none⟩)), (7, .slice (some ⟨b2, 0, none⟩) 1 1), (8, .int .i64 1), (9, .int .i64 j)] [] ∧ St w0 w m' (pt b [u64 hh] 107 :: pt b2 [u64 z] 29 :: Lf)) _ ⟨0, h, m, rfl, .inl ⟨rfl, rfl⟩, Le.refl m, (Fr.cons A rfl (Fr.cons A rfl (Fr.cons A rfl (Fr.cons A rfl (Fr.nil A))))), H⟩ ?_
  clear A H; rintro q a w ⟨j, hh, m, rfl, hinv, hm, A, H⟩
  have hM := hM.trans hm
  have hl1 := hm
  have hj : j ≤ 1 := by omega
  refine wp_seq ?_
  refine wp_region_lit ?_
  refine step (Runs.lss A rfl rfl) A rfl ?_; clear A a; intro a A
  refine wpList_nil ?_
  refine wp_seq ?_
  refine cond_split A rfl (fun h1 => ?_) (fun h1 => ?_)
  · have g1 := h1
    try simp only [decide_eq_true_eq, decide_eq_false_iff_not, Bool.not_eq_true', Bool.not_eq_false', ne_eq, Decidable.not_not, Int.not_lt, Int.not_le] at g1
    refine wp_skip ?_
    refine wp_seq ?_
    refine wp_block ?_
    refine wp_seq ?_
    refine wp_region_lit ?_
    have hj0 : j = 0 := by omega
    refine step (Runs.indexAddr A rfl rfl SlC.h (by omega) (by omega)) A rfl ?_; clear A a; intro a A
    refine step (Runs.ld1 A H rfl (v := u64 z) (by rw [hj0]; rfl)) A rfl ?_; clear A a; intro a A
    refine step (Runs.assign A rfl) A rfl ?_; clear A a; intro a A
    refine wpList_nil ?_
    refine wp_seq ?_
    refine wp_region_lit ?_
    refine step (Runs.move A rfl) A rfl ?_; clear A a; intro a A
    refine step (Runs.nilCheck A rfl) A rfl ?_; clear A a; intro a A
    refine step (Runs.ld1 A H rfl rfl) A rfl ?_; clear A a; intro a A
    refine step (Runs.move A rfl) A rfl ?_; clear A a; intro a A
    refine step (Runs.xor64 A rfl rfl) A rfl ?_; clear A a; intro a A
    refine step (Runs.mul64 (q := 15485907386658061715) A rfl rfl) A rfl ?_; clear A a; intro a A
    refine step (Runs.assign A rfl) A rfl ?_; clear A a; intro a A
    refine wpList_nil ?_
    refine wp_region_lit ?_
    refine step (Runs.move A rfl) A rfl ?_; clear A a; intro a A
    refine step (Runs.move A rfl) A rfl ?_; clear A a; intro a A
    refine step (Runs.move A rfl) A rfl ?_; clear A a; intro a A
    refine step (Runs.shr64 (k := 32) A rfl rfl rfl (by omega)) A rfl ?_; clear A a; intro a A
    refine step (Runs.xor64 A rfl rfl) A rfl ?_; clear A a; intro a A
    refine step (Runs.mul64 (q := 11562461410679940143) A rfl rfl) A rfl ?_; clear A a; intro a A
    refine step (Runs.nilCheck A rfl) A rfl ?_; clear A a; intro a A
    refine step_store A H rfl rfl rfl rfl rfl rfl ?_; intro w H
    refine wpList_nil ?_
    refine wp_region_lit ?_
    refine step (Runs.add A rfl rfl (by omega)) A rfl ?_; clear A a; intro a A
    refine step (Runs.move A rfl) A rfl ?_; clear A a; intro a A
    refine wpList_nil ?_
    exact ⟨_, by omega, j + 1, stp hh z, m, rfl, .inr ⟨by omega, by rw [show hh = h by rcases hinv with ⟨_, h⟩ | ⟨h, _⟩; exact h; omega]⟩, hl1, (Fr.cons A rfl (Fr.cons A rfl (Fr.cons A rfl (Fr.cons A rfl (Fr.nil A))))), H⟩
  · have g1 := h1
    try simp only [decide_eq_true_eq, decide_eq_false_iff_not, Bool.not_eq_true', Bool.not_eq_false', ne_eq, Decidable.not_not, Int.not_lt, Int.not_le] at g1
    refine wp_exit ?_
    have e : hh = stp h z := by rcases hinv with ⟨h, _⟩ | ⟨_, h⟩; omega; exact h
    subst e
    exact endV0 A rfl hM H ⟨rfl, rfl⟩

theorem c_digest_groups {ad : Option Addr} {n c : Nat} {m : Mem} : Spec Tryz.prog 58 #[.slice ad n c] m [] (RetV fun _ v L => ∃ b, v = .func (.func 87) #[] #[.pointer (some ⟨b, 0, none⟩)] ∧ L = [pt b [.slice ad n c] 28]) := by
  refine Spec.enter Tryz.func58 rfl 4 Tryz.ntmps58 rfl fun a w0 Lf A H => ?_
  simp only [List.cons_append, List.nil_append] at H
  have hM := Le.refl m
  refine wp_seq ?_
  refine wp_region_lit ?_
  refine step_box A H rfl (by simp only [Value.cells, List.toList_toArray]; rfl) rfl ?_; intro b1 a w A H
  refine step (Runs.assign A rfl) A rfl ?_; clear A a; intro a A
  refine wpList_nil ?_
  refine wp_seq ?_
  refine wp_region_lit ?_
  refine step (Runs.makeFunc A rfl) A rfl ?_; clear A a; intro a A
  refine step (Runs.assign A rfl) A rfl ?_; clear A a; intro a A
  refine wpList_nil ?_
  refine wp_ret ?_
  exact retV A rfl rfl hM H ⟨_, rfl, rfl⟩

theorem c_digest_groups_1 {tb : Nat} {ad : Option Addr} {n c : Nat} {l : List UInt8} {m : Mem} (hb : Slc m 1 ad n c (l.map u8)) (hn : n ≤ 1000000000) : Iter Tryz.prog 87 [.pointer (some ⟨tb, 0, none⟩)] m [pt tb [.slice ad n c] 28] u64 (grp l) := by
  intro lp J hY
  refine Spec.enter Tryz.func87 rfl 37 Tryz.ntmps87 rfl fun a w0 Lf A H => ?_
  simp only [List.cons_append, List.nil_append] at H
  have hM := Le.refl m
  refine wp_block ?_
  refine wp_loop_ghost (fun q a w => ∃ (pre : List UInt64) (ad' : Option Addr) (n' c' : Nat) (l' : List UInt8) (m' : Mem), q = n' + 1 ∧ (grp l = pre ++ grp l' ∧ Slc m' 1 ad' n' c' (l'.map u8) ∧ n' ≤ 1000000000) ∧ Le m m' ∧ Fr 37 a [(0, .func (.yield lp) #[] #[]), (1, .pointer (some ⟨tb, 0, none⟩))] [] ∧ St w0 w m' (pt tb [.slice ad' n' c'] 28 :: (J pre ++ Lf))) _ ⟨[], ad, n, c, l, m, rfl, ⟨rfl, hb, hn⟩, Le.refl m, (Fr.cons A rfl (Fr.cons A rfl (Fr.nil A))), H⟩ ?_
  clear A H; rintro q a w ⟨pre, ad', n', c', l', m, rfl, hinv, hm, A, H⟩
  have hM := hM.trans hm
  have hl1 := hm
  obtain ⟨hg, hs, hn'⟩ := hinv
  have hl' := hs.len8
  have hcap := hs.2.1
  refine wp_seq ?_
  refine wp_seq ?_
  refine wp_region_lit ?_
  refine step (Runs.ld1 A H rfl rfl) A rfl ?_; clear A a; intro a A
  refine step (Runs.lenL A rfl SlC.h) A rfl ?_; clear A a; intro a A
  refine step (Runs.gtr A rfl rfl) A rfl ?_; clear A a; intro a A
  refine wpList_nil ?_
  refine cond_split A rfl (fun h1 => ?_) (fun h1 => ?_)
  · have g1 := h1
    try simp only [decide_eq_true_eq, decide_eq_false_iff_not, Bool.not_eq_true', Bool.not_eq_false', ne_eq, Decidable.not_not, Int.not_lt, Int.not_le] at g1
    refine wp_skip ?_
    refine wp_block ?_
    refine wp_seq ?_
    refine wp_region_lit ?_
    refine step (Runs.ld1 A H rfl rfl) A rfl ?_; clear A a; intro a A
    refine step (Runs.lenL A rfl SlC.h) A rfl ?_; clear A a; intro a A
    refine step (Runs.min2 A rfl rfl) A rfl ?_; clear A a; intro a A
    have hmn : (if (n' : Int) < 8 then (n' : Int) else 8) = ((min 8 n' : Nat) : Int) := by split <;> omega
    rw [hmn] at A
    refine step (Runs.assign A rfl) A rfl ?_; clear A a; intro a A
    refine wpList_nil ?_
    refine wp_seq ?_
    refine wp_region_lit ?_
    refine step (Runs.assign A rfl) A rfl ?_; clear A a; intro a A
    refine wpList_nil ?_
    refine wp_seq ?_
    refine wp_seq ?_
    refine wp_region_lit ?_
    refine step (Runs.ld1 A H rfl rfl) A rfl ?_; clear A a; intro a A
    refine step (Runs.move A rfl) A rfl ?_; clear A a; intro a A
    refine step (Runs.sliceLhi A rfl rfl SlC.h (by omega) (by omega)) A rfl ?_; clear A a; intro a A
    simp only [Int.toNat_natCast] at A
    refine step (Runs.lenL A rfl SlC.h) A rfl ?_; clear A a; intro a A
    refine step (Runs.move A rfl) A rfl ?_; clear A a; intro a A
    refine wpList_nil ?_
    refine wp_block ?_
    refine wp_loop_ghost (fun q a w => ∃ (k : Nat) (m' : Mem), q = 9 - k ∧ (k ≤ min 8 n') ∧ Le m m' ∧ Fr 37 a [(0, .func (.yield lp) #[] #[]), (1, .pointer (some ⟨tb, 0, none⟩)), (3, .int .i64 (min 8 n' : Nat)), (4, u64 (wrdN l' k)), (15, .slice (cutAd ad' c' 0 1) (min 8 n') c'), (16, .int .i64 (min 8 n' : Nat)), (17, .int .i64 k)] [] ∧ St w0 w m' (pt tb [.slice ad' n' c'] 28 :: (J pre ++ Lf))) _ ⟨0, m, rfl, by omega, Le.refl m, (Fr.cons A rfl (Fr.cons A rfl (Fr.cons A rfl (Fr.cons A rfl (Fr.cons A rfl (Fr.cons A rfl (Fr.cons A rfl (Fr.nil A)))))))), H⟩ ?_
    clear A H; rintro q a w ⟨k, m, rfl, hinv, hm, A, H⟩
    have hM := hM.trans hm
    have hl1 := hl1.trans hm
    have hs := hs.mono hm
    have hl2 := hm
    refine wp_seq ?_
    refine wp_region_lit ?_
    refine step (Runs.lss A rfl rfl) A rfl ?_; clear A a; intro a A
    refine wpList_nil ?_
    refine wp_seq ?_
    refine cond_split A rfl (fun h2 => ?_) (fun h2 => ?_)
    · have g2 := h2
      try simp only [decide_eq_true_eq, decide_eq_false_iff_not, Bool.not_eq_true', Bool.not_eq_false', ne_eq, Decidable.not_not, Int.not_lt, Int.not_le] at g2
      refine wp_skip ?_
      refine wp_seq ?_
      refine wp_block ?_
      refine wp_seq ?_
      refine wp_region_lit ?_
      refine step (Runs.move A rfl) A rfl ?_; clear A a; intro a A
      obtain ⟨bb, off, cs, hcut, hfz, hcs⟩ := (hs.hi (hi := min 8 n') (by omega)).at_ (by omega)
      rw [hcut] at A
      refine step (Runs.indexAddr A rfl rfl SlC.h (by omega) (by omega)) A rfl ?_; clear A a; intro a A
      refine step (Runs.ld1 A H rfl (v := u8 (l'.getD k 0)) (by rw [show off + ((k : Int)).toNat * 1 = off + k by omega, hcs _ (by omega), List.getElem?_take_of_lt (by omega)]; exact u8_at (by omega))) A rfl ?_; clear A a; intro a A
      refine step (Runs.assign A rfl) A rfl ?_; clear A a; intro a A
      refine step (Runs.assign A rfl) A rfl ?_; clear A a; intro a A
      refine wpList_nil ?_
      refine wp_region_lit ?_
      refine step (Runs.move A rfl) A rfl ?_; clear A a; intro a A
      refine step (Runs.move A rfl) A rfl ?_; clear A a; intro a A
      refine step (Runs.convTo64 A rfl rfl) A rfl ?_; clear A a; intro a A
      refine step (Runs.move A rfl) A rfl ?_; clear A a; intro a A
      refine step (Runs.mul A rfl rfl (by omega)) A rfl ?_; clear A a; intro a A
      refine step (Runs.shl64 (k := 8 * k) A rfl rfl (by omega) (by omega)) A rfl ?_; clear A a; intro a A
      refine step (Runs.or64 A rfl rfl) A rfl ?_; clear A a; intro a A
      refine step (Runs.assign A rfl) A rfl ?_; clear A a; intro a A
      refine wpList_nil ?_
      refine wp_region_lit ?_
      refine step (Runs.add A rfl rfl (by omega)) A rfl ?_; clear A a; intro a A
      refine step (Runs.move A rfl) A rfl ?_; clear A a; intro a A
      refine wpList_nil ?_
      rw [← hcut] at A
      exact ⟨_, by omega, k + 1, m, rfl, by omega, hl2, (Fr.cons A rfl (Fr.cons A rfl (Fr.cons A rfl (Fr.cons A rfl (Fr.cons A rfl (Fr.cons A rfl (Fr.cons A rfl (Fr.nil A)))))))), H⟩
    · have g2 := h2
      try simp only [decide_eq_true_eq, decide_eq_false_iff_not, Bool.not_eq_true', Bool.not_eq_false', ne_eq, Decidable.not_not, Int.not_lt, Int.not_le] at g2
      refine wp_exit ?_
      refine wp_seq ?_
      refine wp_seq ?_
      have hg2 : grp l' = wrdN l' (min 8 n') :: grp (l'.drop 8) := by rw [grp_cons (by omega), hl']
      have hk2 : k = min 8 n' := by omega
      subst hk2
      have H' : St w0 w m (J pre ++ (pt tb [.slice ad' n' c'] 28 :: Lf)) := H.perm List.perm_middle.symm
      refine (wpIn_wide (n := 0)).1 ?_
      refine wpIn_region_lit ?_
      refine stepI (Runs.move A rfl) A rfl fun a A => ?_
      refine stepI (Runs.move A rfl) A rfl fun a A => ?_
      refine step_yield A rfl rfl rfl (hY pre (wrdN l' (min 8 n')) m w0 w _ hM ⟨grp (l'.drop 8), by rw [hg, hg2, List.append_assoc]; rfl⟩ H') ?_
      rintro e w ⟨rfl, m, hm, H⟩
      refine ⟨_, rfl, fun a A => ?_⟩
      have hM := hM.trans hm
      have hl1 := hl1.trans hm
      have hs := hs.mono hm
      replace H := H.perm List.perm_middle
      refine stepI (Runs.not A rfl) A rfl fun a A => ?_
      refine wpListIn_nil ?_
      refine cond_false A rfl rfl ?_
      refine wp_skip ?_
      refine wp_region_lit ?_
      refine step (Runs.ld1 A H rfl rfl) A rfl ?_; clear A a; intro a A
      refine step (Runs.move A rfl) A rfl ?_; clear A a; intro a A
      refine step (Runs.sliceLlo A rfl rfl SlC.h (by omega) (by omega)) A rfl ?_; clear A a; intro a A
      simp only [Int.toNat_natCast] at A
      refine step_store A H rfl rfl rfl rfl rfl rfl ?_; intro w H
      refine wpList_nil ?_
      have hs3 : Slc m 1 (cutAd ad' c' (min 8 n') 1) (n' - min 8 n') (c' - min 8 n') ((l'.drop 8).map u8) := by
        have := hs.lo (lo := min 8 n') (by omega)
        rw [Nat.mul_one, ← List.map_drop, ← hl', drop_min] at this
        rw [← hl']; exact this
      exact ⟨_, by omega, pre ++ [wrdN l' (min 8 n')], cutAd ad' c' (min 8 n') 1, n' - min 8 n', c' - min 8 n', l'.drop 8, m, rfl, ⟨by rw [hg, hg2, List.append_assoc]; rfl, hs3, by omega⟩, hl1, (Fr.cons A rfl (Fr.cons A rfl (Fr.nil A))), H⟩
  · have g1 := h1
    try simp only [decide_eq_true_eq, decide_eq_false_iff_not, Bool.not_eq_true', Bool.not_eq_false', ne_eq, Decidable.not_not, Int.not_lt, Int.not_le] at g1
    refine wp_exit ?_
    have e : pre = grp l := by rw [hg, grp_nil (l := l') (by omega), List.append_nil]
    subst e
    exact endI A rfl hM H.drop

theorem c_digest_Bytes {ad : Option Addr} {n c : Nat} {l : List UInt8} {m : Mem} (hb : Slc m 1 ad n c (l.map u8)) (hn : n ≤ 1000000000) : Spec Tryz.prog 35 #[.slice ad n c] m [] (RetE (u64 (dig l))) := by
  refine Spec.enterM (L := []) Tryz.func35 rfl 17 Tryz.ntmps35 rfl fun a w0 Lf A H => ?_
  simp only [List.cons_append, List.nil_append] at H
  have hM := Le.refl m
  refine wp_seq ?_
  refine wp_region_lit ?_
  refine step (Runs.assign A rfl) A rfl ?_; clear A a; intro a A
  refine wpList_nil ?_
  refine wp_seq ?_
  refine wp_region_lit ?_
  refine step_alloc A H rfl ?_; clear A a; intro b1 a w A H
  refine step_store A H rfl rfl rfl rfl rfl rfl ?_; intro w H
  refine wpList_nil ?_
  refine wp_seq ?_
  refine wp_seq ?_
  refine wp_region_lit ?_
  refine step (Runs.move A rfl) A rfl ?_; clear A a; intro a A
  refine step_callS A rfl rfl (c_digest_groups) H ?_
  rintro v2_1 a w m L' hm ⟨b9, rfl, rfl⟩ A H
  simp only [List.cons_append, List.nil_append] at H
  have hM := hM.trans hm
  have hb := hb.mono hm
  refine wpList_nil ?_
  refine wp_block ?_
  refine wp_range (xs := grp l) (enc := u64) (Lit := [pt b9 [.slice ad n c] 28]) (J := fun pre => [pt b1 [u64 (pre.foldl stp dig0)] 107]) (B := fun x a2 => Fr 17 a2 [(3, .pointer (some ⟨b1, 0, none⟩)), (4, u64 x)] []) (Lf := Lf) A rfl rfl (c_digest_groups_1 hb hn) H ?assign ?body ?k
  case assign =>
    intro lp x a W K A hK
    refine region_in_round (fun ⟨_, _, h⟩ => h) rfl ?_
    refine step (Runs.assign A rfl) A rfl ?_; clear A a; intro a A
    refine wpList_nil ?_
    exact hK _ (Fr.cons A rfl (Fr.cons A rfl (Fr.nil A)))
  case body =>
    intro lp pre x a m1 w1 w Lx hm1 hpre A H
    refine wpIn_block ?_
    refine region_in_round (fun ⟨_, _, h⟩ => h) rfl ?_
    have hM := Le.refl m1
    simp only [List.cons_append, List.nil_append] at H
    refine step (Runs.move A rfl) A rfl ?_; clear A a; intro a A
    refine step_slice A H rfl rfl rfl rfl rfl rfl ?_; intro b2 a w A H
    refine step_callS A rfl rfl (c_digest_sum_add (b := b1) (b2 := b2) (h := pre.foldl stp dig0) (z := x)) H ?_
    rintro v4_2 a w m L' hm ⟨rfl, rfl⟩ A H
    simp only [List.cons_append, List.nil_append] at H
    have hM := hM.trans hm
    refine wpList_nil ?_
    exact ⟨_, hM, by simp only [List.foldl_append, List.foldl_cons, List.foldl_nil]; exact St.subH (L' := pt b1 [u64 (stp (pre.foldl stp dig0) x)] 107 :: Lx) H⟩
  case k =>
    clear A H
    rintro D a m w hm A H
    have hM := hM.trans hm
    have hb := hb.mono hm
    simp only [List.cons_append, List.nil_append] at H
    refine wp_seq ?_
    refine wp_region_lit ?_
    refine step (Runs.move A rfl) A rfl ?_; clear A a; intro a A
    refine step (Runs.lenL A rfl SlC.h) A rfl ?_; clear A a; intro a A
    refine step (Runs.convTo64 A rfl rfl) A rfl ?_; clear A a; intro a A
    refine step_slice A H rfl rfl rfl rfl rfl rfl ?_; intro b3 a w A H
    refine step_callS A rfl rfl (c_digest_sum_add (b := b1) (b2 := b3) (h := (grp l).foldl stp dig0) (z := UInt64.ofNat n)) H ?_
    rintro v5_4 a w m L' hm ⟨rfl, rfl⟩ A H
    simp only [List.cons_append, List.nil_append] at H
    have hM := hM.trans hm
    have hb := hb.mono hm
    refine wpList_nil ?_
    refine wp_seq ?_
    refine wp_region_lit ?_
    refine step (Runs.ld1 A H rfl rfl) A rfl ?_; clear A a; intro a A
    refine step (Runs.assign A rfl) A rfl ?_; clear A a; intro a A
    refine wpList_nil ?_
    refine wp_ret ?_
    exact retFM A rfl rfl hM H (by rw [dig, hb.len8])
end Sl
end Go.Proofs.YtanhehbfbakdcaaGreatDoor
/- Stores: walks, printed by my gen.py out of annotations. -/
set_option linter.unusedSimpArgs false
set_option linter.unusedVariables false
namespace Go.Proofs.YtanhehbfbakdcaaGreatDoor
namespace Sl
open Go

theorem c_objects_sound {id : UInt64} {v : Value} {d : List UInt8} {m : Mem} (hd : Dat m v d) : Spec Tryz.prog 49 #[.agg #[u64 id, v]] m [] (RetE (.bool (decide (id = dig d)))) := by
  refine Spec.enter0 Tryz.func49 rfl 9 Tryz.ntmps49 rfl fun a w0 Lf A H => ?_
  have hM := Le.refl m
  obtain ⟨ad, n, c, rfl, hs, hn⟩ := hd
  refine wp_seq ?_
  refine wp_region_lit ?_
  refine step_box A H rfl (by simp only [Value.cells, List.toList_toArray]; rfl) rfl ?_; intro b1 a w A H
  refine step (Runs.assign A rfl) A rfl ?_; clear A a; intro a A
  refine wpList_nil ?_
  refine wp_seq ?_
  refine draw_begin (ms := m) (Ls := [pt b1 [u64 id, .slice ad n c] 66]) (by kernel_rfl) (N := 7) rfl (by kernel_rfl) H ?_; clear H; intro w H hR
  have hS : SW m [pt b1 [u64 id, .slice ad n c] 66] w := H.sw (Le.refl m)
  have hL := Le.refl m
  refine dstep hR (i := 0) rfl (by kernel_rfl) (fun _ _ _ h => h) (fun _ _ H' => (Runs.fa A rfl)) A rfl hS ?_; clear A a hR; intro a A hR
  refine dstep hR (i := 1) rfl (by kernel_rfl) (fun _ _ _ h => h) (fun _ _ H' => (Runs.ld1 A H' rfl rfl)) A rfl hS ?_; clear A a hR; intro a A hR
  refine dstep hR (i := 2) rfl (by kernel_rfl) (fun _ _ _ h => h) (fun _ _ H' => (Runs.fa A rfl)) A rfl hS ?_; clear A a hR; intro a A hR
  refine dstep hR (i := 3) rfl (by kernel_rfl) (fun _ _ _ h => h) (fun _ _ H' => (Runs.ld1 A H' rfl rfl)) A rfl hS ?_; clear A a hR; intro a A hR
  refine dlist hR (i := 4) rfl (by kernel_rfl) ?_
  have hR := hR.next (i := 4) (by kernel_rfl)
  refine step_callF A rfl rfl (c_digest_Bytes hs hn) H ?_
  rintro v1_4 a w m hm rfl A H
  have hM := hM.trans hm
  have hs := hs.mono hm
  have hL := hL.trans hm
  refine wpList_nil ?_
  clear hS; refine and_keep (H.sw hL) fun hS => ?_
  refine dstep hR (i := 5) rfl (by kernel_rfl) (fun _ _ _ h => h) (fun _ _ H' => (Runs.eql A rfl rfl)) A rfl hS ?_; clear A a hR; intro a A hR
  refine dstep hR (i := 6) rfl (by kernel_rfl) (fun _ _ _ h => h) (fun _ _ H' => (Runs.assign A rfl)) A rfl hS ?_; clear A a hR; intro a A hR
  refine draw_done hR (by kernel_rfl) ?_
  clear hS hL hR
  refine wp_ret ?_
  exact retF A rfl rfl hM H (by rw [dec64])

theorem c_wireloomref18_Sound {id : UInt64} {v : Value} {d : List UInt8} {m : Mem} (hd : Dat m v d) : Spec Tryz.prog 44 #[.agg #[u64 id, v]] m [] (RetE (.bool (decide (id = dig d)))) := by
  refine Spec.enter0 Tryz.func44 rfl 9 Tryz.ntmps44 rfl fun a w0 Lf A H => ?_
  have hM := Le.refl m
  obtain ⟨ad, n, c, rfl, hs, hn⟩ := hd
  refine wp_seq ?_
  refine wp_region_lit ?_
  refine step_box A H rfl (by simp only [Value.cells, List.toList_toArray]; rfl) rfl ?_; intro b1 a w A H
  refine step (Runs.assign A rfl) A rfl ?_; clear A a; intro a A
  refine wpList_nil ?_
  refine wp_seq ?_
  refine draw_begin (ms := m) (Ls := [pt b1 [u64 id, .slice ad n c] 66]) (by kernel_rfl) (N := 7) rfl (by kernel_rfl) H ?_; clear H; intro w H hR
  have hS : SW m [pt b1 [u64 id, .slice ad n c] 66] w := H.sw (Le.refl m)
  have hL := Le.refl m
  refine dstep hR (i := 0) rfl (by kernel_rfl) (fun _ _ _ h => h) (fun _ _ H' => (Runs.fa A rfl)) A rfl hS ?_; clear A a hR; intro a A hR
  refine dstep hR (i := 1) rfl (by kernel_rfl) (fun _ _ _ h => h) (fun _ _ H' => (Runs.ld1 A H' rfl rfl)) A rfl hS ?_; clear A a hR; intro a A hR
  refine dstep hR (i := 2) rfl (by kernel_rfl) (fun _ _ _ h => h) (fun _ _ H' => (Runs.fa A rfl)) A rfl hS ?_; clear A a hR; intro a A hR
  refine dstep hR (i := 3) rfl (by kernel_rfl) (fun _ _ _ h => h) (fun _ _ H' => (Runs.ld1 A H' rfl rfl)) A rfl hS ?_; clear A a hR; intro a A hR
  refine dlist hR (i := 4) rfl (by kernel_rfl) ?_
  have hR := hR.next (i := 4) (by kernel_rfl)
  refine step_callF A rfl rfl (c_wireloomref01_Bytes hs hn) H ?_
  rintro v1_4 a w m hm rfl A H
  have hM := hM.trans hm
  have hs := hs.mono hm
  have hL := hL.trans hm
  refine wpList_nil ?_
  clear hS; refine and_keep (H.sw hL) fun hS => ?_
  refine dstep hR (i := 5) rfl (by kernel_rfl) (fun _ _ _ h => h) (fun _ _ H' => (Runs.eql A rfl rfl)) A rfl hS ?_; clear A a hR; intro a A hR
  refine dstep hR (i := 6) rfl (by kernel_rfl) (fun _ _ _ h => h) (fun _ _ H' => (Runs.assign A rfl)) A rfl hS ?_; clear A a hR; intro a A hR
  refine draw_done hR (by kernel_rfl) ?_
  clear hS hL hR
  refine wp_ret ?_
  exact retF A rfl rfl hM H (by rw [dec64])

theorem c_objects_Is {ad : Option Addr} {n c : Nat} {l : List Obj} {m : Mem} (hl : Objs m ad n c l) : Spec Tryz.prog 14 #[.slice ad n c] m [] (RetE (.bool (decide (Srt l)))) := by
  refine Spec.enter0 Tryz.func14 rfl 22 Tryz.ntmps14 rfl fun a w0 Lf A H => ?_
  have hM := Le.refl m
  have hn := hl.1
  have hcap := hl.cap
  have hmx : maxLen = 9223372036854775807 := rfl
  refine wp_seq ?_
  refine wp_region_lit ?_
  refine step (Runs.assign A rfl) A rfl ?_; clear A a; intro a A
  refine wpList_nil ?_
  refine wp_seq ?_
  refine wp_seq ?_
  refine wp_region_lit ?_
  refine step (Runs.assign A rfl) A rfl ?_; clear A a; intro a A
  refine wpList_nil ?_
  refine wp_block ?_
  refine wp_loop_ghost (fun q a w => ∃ (i : Nat) (m' : Mem), q = n + 1 - i ∧ (1 ≤ i ∧ (i ≤ n ∨ i = 1) ∧ ∀ k x y, k + 1 < i → l[k]? = some x → l[k + 1]? = some y → x.id < y.id) ∧ Le m m' ∧ Fr 22 a [(0, .slice ad n c), (3, .int .i64 i)] [] ∧ St w0 w m' (Lf)) _ ⟨1, m, rfl, ⟨by omega, .inr rfl, fun k _ _ h => absurd h (by omega)⟩, Le.refl m, (Fr.cons A rfl (Fr.cons A rfl (Fr.nil A))), H⟩ ?_
  clear A H; rintro q a w ⟨i, m, rfl, hinv, hm, A, H⟩
  have hM := hM.trans hm
  have hl := hl.mono hm
  have hl1 := hm
  obtain ⟨hi1, hin, hall⟩ := hinv
  refine wp_seq ?_
  refine wp_seq ?_
  refine wp_region_lit ?_
  refine step (Runs.move A rfl) A rfl ?_; clear A a; intro a A
  refine step (Runs.move A rfl) A rfl ?_; clear A a; intro a A
  refine step (Runs.lenL A rfl SlC.h) A rfl ?_; clear A a; intro a A
  refine step (Runs.lss A rfl rfl) A rfl ?_; clear A a; intro a A
  refine wpList_nil ?_
  refine cond_split A rfl (fun h1 => ?_) (fun h1 => ?_)
  · have g1 := h1
    try simp only [decide_eq_true_eq, decide_eq_false_iff_not, Bool.not_eq_true', Bool.not_eq_false', ne_eq, Decidable.not_not, Int.not_lt, Int.not_le] at g1
    refine wp_skip ?_
    refine wp_seq ?_
    refine wp_block ?_
    refine wp_seq ?_
    refine draw_begin0 (by kernel_rfl) (N := 12) rfl (by kernel_rfl) H ?_; clear H; intro w H hR
    have hS : SW m _ w := ⟨_, H⟩
    have hL := Le.refl m
    obtain ⟨x, hx⟩ := ex_at (l := l) (i := i - 1) (by omega)
    obtain ⟨y, hy⟩ := ex_at (l := l) (i := i) (by omega)
    obtain ⟨bb, off, cs, rfl, hfz, hcs⟩ := hl.all_ (by omega)
    obtain ⟨vx, hx1, _, _, _⟩ := hcs _ _ hx
    obtain ⟨vy, hy1, _, _, _⟩ := hcs _ _ hy
    have ei : ((i : Int) - 1).toNat = i - 1 := by omega
    refine dstep hR (i := 0) rfl (by kernel_rfl) (fun _ _ _ h => h) (fun _ _ H' => (Runs.move A rfl)) A rfl hS ?_; clear A a hR; intro a A hR
    refine dstep hR (i := 1) rfl (by kernel_rfl) (fun _ _ _ h => h) (fun _ _ H' => (Runs.move A rfl)) A rfl hS ?_; clear A a hR; intro a A hR
    refine dstep hR (i := 2) rfl (by kernel_rfl) (fun _ _ _ h => h) (fun _ _ H' => (Runs.sub A rfl rfl (by omega))) A rfl hS ?_; clear A a hR; intro a A hR
    refine dstep hR (i := 3) rfl (by kernel_rfl) (fun _ _ _ h => h) (fun _ _ H' => (Runs.indexAddr A rfl rfl SlC.h (by omega) (by omega))) A rfl hS ?_; clear A a hR; intro a A hR
    refine dstep hR (i := 4) rfl (by kernel_rfl) (fun _ _ _ h => h) (fun _ _ H' => (Runs.fa A rfl)) A rfl hS ?_; clear A a hR; intro a A hR
    refine dstep hR (i := 5) rfl (by kernel_rfl) (fun _ _ _ h => h) (fun _ _ H' => (Runs.ld1 A H' rfl (v := u64 x.id) (by rw [ei]; simpa using hx1))) A rfl hS ?_; clear A a hR; intro a A hR
    refine dstep hR (i := 6) rfl (by kernel_rfl) (fun _ _ _ h => h) (fun _ _ H' => (Runs.move A rfl)) A rfl hS ?_; clear A a hR; intro a A hR
    refine dstep hR (i := 7) rfl (by kernel_rfl) (fun _ _ _ h => h) (fun _ _ H' => (Runs.move A rfl)) A rfl hS ?_; clear A a hR; intro a A hR
    refine dstep hR (i := 8) rfl (by kernel_rfl) (fun _ _ _ h => h) (fun _ _ H' => (Runs.indexAddr A rfl rfl SlC.h (by omega) (by omega))) A rfl hS ?_; clear A a hR; intro a A hR
    refine dstep hR (i := 9) rfl (by kernel_rfl) (fun _ _ _ h => h) (fun _ _ H' => (Runs.fa A rfl)) A rfl hS ?_; clear A a hR; intro a A hR
    refine dstep hR (i := 10) rfl (by kernel_rfl) (fun _ _ _ h => h) (fun _ _ H' => (Runs.ld1 A H' rfl (v := u64 y.id) (by simpa using hy1))) A rfl hS ?_; clear A a hR; intro a A hR
    refine dstep hR (i := 11) rfl (by kernel_rfl) (fun _ _ _ h => h) (fun _ _ H' => (Runs.geq A rfl rfl)) A rfl hS ?_; clear A a hR; intro a A hR
    refine draw_done hR (by kernel_rfl) ?_
    clear hS hL hR
    refine cond_split A rfl (fun h2 => ?_) (fun h2 => ?_)
    · have g2 := h2
      try simp only [decide_eq_true_eq, decide_eq_false_iff_not, Bool.not_eq_true', Bool.not_eq_false', ne_eq, Decidable.not_not, Int.not_lt, Int.not_le] at g2
      refine wp_seq ?_
      refine wp_region_lit ?_
      refine step (Runs.assign A rfl) A rfl ?_; clear A a; intro a A
      refine wpList_nil ?_
      refine wp_ret ?_
      refine retF A rfl rfl hM H (congrArg Value.bool (decide_eq_false fun hs => ?_)).symm
      have := hs.lt hx hy (by omega)
      rw [UInt64.lt_iff_toNat_lt] at this
      omega
    · have g2 := h2
      try simp only [decide_eq_true_eq, decide_eq_false_iff_not, Bool.not_eq_true', Bool.not_eq_false', ne_eq, Decidable.not_not, Int.not_lt, Int.not_le] at g2
      refine wp_skip ?_
      refine wp_region_lit ?_
      refine step (Runs.move A rfl) A rfl ?_; clear A a; intro a A
      refine step (Runs.add A rfl rfl (by omega)) A rfl ?_; clear A a; intro a A
      refine step (Runs.assign A rfl) A rfl ?_; clear A a; intro a A
      refine wpList_nil ?_
      have hxy : x.id < y.id := by have := g2; rw [UInt64.lt_iff_toNat_lt]; omega
      exact ⟨_, by omega, i + 1, m, rfl, ⟨by omega, by omega, fun k p q hk hp hq => (by
        rcases Nat.lt_or_ge (k + 1) i with h | h
        · exact hall k p q h hp hq
        · obtain rfl : k + 1 = i := by omega
          rw [show k = k + 1 - 1 by omega, hx] at hp; rw [hy] at hq; cases hp; cases hq; exact hxy)⟩, hl1, (Fr.cons A rfl (Fr.cons A rfl (Fr.nil A))), H⟩
  · have g1 := h1
    try simp only [decide_eq_true_eq, decide_eq_false_iff_not, Bool.not_eq_true', Bool.not_eq_false', ne_eq, Decidable.not_not, Int.not_lt, Int.not_le] at g1
    refine wp_exit ?_
    refine wp_seq ?_
    refine wp_region_lit ?_
    refine step (Runs.assign A rfl) A rfl ?_; clear A a; intro a A
    refine wpList_nil ?_
    refine wp_ret ?_
    refine retF A rfl rfl hM H (congrArg Value.bool (decide_eq_true (srt_of_adj fun k x y hx hy => hall k x y ?_ hx hy))).symm
    have := (List.getElem?_eq_some_iff.1 hy).1
    omega

theorem c_wireloomref18_Is {ad : Option Addr} {n c : Nat} {l : List Obj} {m : Mem} (hl : Objs m ad n c l) : Spec Tryz.prog 15 #[.slice ad n c] m [] (RetE (.bool (decide (Srt l)))) := by
  refine Spec.enter0 Tryz.func15 rfl 22 Tryz.ntmps15 rfl fun a w0 Lf A H => ?_
  have hM := Le.refl m
  have hn := hl.1
  have hcap := hl.cap
  have hmx : maxLen = 9223372036854775807 := rfl
  refine wp_seq ?_
  refine wp_region_lit ?_
  refine step (Runs.assign A rfl) A rfl ?_; clear A a; intro a A
  refine wpList_nil ?_
  refine wp_seq ?_
  refine wp_seq ?_
  refine wp_region_lit ?_
  refine step (Runs.assign A rfl) A rfl ?_; clear A a; intro a A
  refine wpList_nil ?_
  refine wp_block ?_
  refine wp_loop_ghost (fun q a w => ∃ (i : Nat) (m' : Mem), q = n + 1 - i ∧ (1 ≤ i ∧ (i ≤ n ∨ i = 1) ∧ ∀ k x y, k + 1 < i → l[k]? = some x → l[k + 1]? = some y → x.id < y.id) ∧ Le m m' ∧ Fr 22 a [(0, .slice ad n c), (3, .int .i64 i)] [] ∧ St w0 w m' (Lf)) _ ⟨1, m, rfl, ⟨by omega, .inr rfl, fun k _ _ h => absurd h (by omega)⟩, Le.refl m, (Fr.cons A rfl (Fr.cons A rfl (Fr.nil A))), H⟩ ?_
  clear A H; rintro q a w ⟨i, m, rfl, hinv, hm, A, H⟩
  have hM := hM.trans hm
  have hl := hl.mono hm
  have hl1 := hm
  obtain ⟨hi1, hin, hall⟩ := hinv
  refine wp_seq ?_
  refine wp_seq ?_
  refine wp_region_lit ?_
  refine step (Runs.move A rfl) A rfl ?_; clear A a; intro a A
  refine step (Runs.move A rfl) A rfl ?_; clear A a; intro a A
  refine step (Runs.lenL A rfl SlC.h) A rfl ?_; clear A a; intro a A
  refine step (Runs.lss A rfl rfl) A rfl ?_; clear A a; intro a A
  refine wpList_nil ?_
  refine cond_split A rfl (fun h1 => ?_) (fun h1 => ?_)
  · have g1 := h1
    try simp only [decide_eq_true_eq, decide_eq_false_iff_not, Bool.not_eq_true', Bool.not_eq_false', ne_eq, Decidable.not_not, Int.not_lt, Int.not_le] at g1
    refine wp_skip ?_
    refine wp_seq ?_
    refine wp_block ?_
    refine wp_seq ?_
    refine draw_begin0 (by kernel_rfl) (N := 12) rfl (by kernel_rfl) H ?_; clear H; intro w H hR
    have hS : SW m _ w := ⟨_, H⟩
    have hL := Le.refl m
    obtain ⟨x, hx⟩ := ex_at (l := l) (i := i - 1) (by omega)
    obtain ⟨y, hy⟩ := ex_at (l := l) (i := i) (by omega)
    obtain ⟨bb, off, cs, rfl, hfz, hcs⟩ := hl.all_ (by omega)
    obtain ⟨vx, hx1, _, _, _⟩ := hcs _ _ hx
    obtain ⟨vy, hy1, _, _, _⟩ := hcs _ _ hy
    have ei : ((i : Int) - 1).toNat = i - 1 := by omega
    refine dstep hR (i := 0) rfl (by kernel_rfl) (fun _ _ _ h => h) (fun _ _ H' => (Runs.move A rfl)) A rfl hS ?_; clear A a hR; intro a A hR
    refine dstep hR (i := 1) rfl (by kernel_rfl) (fun _ _ _ h => h) (fun _ _ H' => (Runs.move A rfl)) A rfl hS ?_; clear A a hR; intro a A hR
    refine dstep hR (i := 2) rfl (by kernel_rfl) (fun _ _ _ h => h) (fun _ _ H' => (Runs.sub A rfl rfl (by omega))) A rfl hS ?_; clear A a hR; intro a A hR
    refine dstep hR (i := 3) rfl (by kernel_rfl) (fun _ _ _ h => h) (fun _ _ H' => (Runs.indexAddr A rfl rfl SlC.h (by omega) (by omega))) A rfl hS ?_; clear A a hR; intro a A hR
    refine dstep hR (i := 4) rfl (by kernel_rfl) (fun _ _ _ h => h) (fun _ _ H' => (Runs.fa A rfl)) A rfl hS ?_; clear A a hR; intro a A hR
    refine dstep hR (i := 5) rfl (by kernel_rfl) (fun _ _ _ h => h) (fun _ _ H' => (Runs.ld1 A H' rfl (v := u64 x.id) (by rw [ei]; simpa using hx1))) A rfl hS ?_; clear A a hR; intro a A hR
    refine dstep hR (i := 6) rfl (by kernel_rfl) (fun _ _ _ h => h) (fun _ _ H' => (Runs.move A rfl)) A rfl hS ?_; clear A a hR; intro a A hR
    refine dstep hR (i := 7) rfl (by kernel_rfl) (fun _ _ _ h => h) (fun _ _ H' => (Runs.move A rfl)) A rfl hS ?_; clear A a hR; intro a A hR
    refine dstep hR (i := 8) rfl (by kernel_rfl) (fun _ _ _ h => h) (fun _ _ H' => (Runs.indexAddr A rfl rfl SlC.h (by omega) (by omega))) A rfl hS ?_; clear A a hR; intro a A hR
    refine dstep hR (i := 9) rfl (by kernel_rfl) (fun _ _ _ h => h) (fun _ _ H' => (Runs.fa A rfl)) A rfl hS ?_; clear A a hR; intro a A hR
    refine dstep hR (i := 10) rfl (by kernel_rfl) (fun _ _ _ h => h) (fun _ _ H' => (Runs.ld1 A H' rfl (v := u64 y.id) (by simpa using hy1))) A rfl hS ?_; clear A a hR; intro a A hR
    refine dstep hR (i := 11) rfl (by kernel_rfl) (fun _ _ _ h => h) (fun _ _ H' => (Runs.geq A rfl rfl)) A rfl hS ?_; clear A a hR; intro a A hR
    refine draw_done hR (by kernel_rfl) ?_
    clear hS hL hR
    refine cond_split A rfl (fun h2 => ?_) (fun h2 => ?_)
    · have g2 := h2
      try simp only [decide_eq_true_eq, decide_eq_false_iff_not, Bool.not_eq_true', Bool.not_eq_false', ne_eq, Decidable.not_not, Int.not_lt, Int.not_le] at g2
      refine wp_seq ?_
      refine wp_region_lit ?_
      refine step (Runs.assign A rfl) A rfl ?_; clear A a; intro a A
      refine wpList_nil ?_
      refine wp_ret ?_
      refine retF A rfl rfl hM H (congrArg Value.bool (decide_eq_false fun hs => ?_)).symm
      have := hs.lt hx hy (by omega)
      rw [UInt64.lt_iff_toNat_lt] at this
      omega
    · have g2 := h2
      try simp only [decide_eq_true_eq, decide_eq_false_iff_not, Bool.not_eq_true', Bool.not_eq_false', ne_eq, Decidable.not_not, Int.not_lt, Int.not_le] at g2
      refine wp_skip ?_
      refine wp_region_lit ?_
      refine step (Runs.move A rfl) A rfl ?_; clear A a; intro a A
      refine step (Runs.add A rfl rfl (by omega)) A rfl ?_; clear A a; intro a A
      refine step (Runs.assign A rfl) A rfl ?_; clear A a; intro a A
      refine wpList_nil ?_
      have hxy : x.id < y.id := by have := g2; rw [UInt64.lt_iff_toNat_lt]; omega
      exact ⟨_, by omega, i + 1, m, rfl, ⟨by omega, by omega, fun k p q hk hp hq => (by
        rcases Nat.lt_or_ge (k + 1) i with h | h
        · exact hall k p q h hp hq
        · obtain rfl : k + 1 = i := by omega
          rw [show k = k + 1 - 1 by omega, hx] at hp; rw [hy] at hq; cases hp; cases hq; exact hxy)⟩, hl1, (Fr.cons A rfl (Fr.cons A rfl (Fr.nil A))), H⟩
  · have g1 := h1
    try simp only [decide_eq_true_eq, decide_eq_false_iff_not, Bool.not_eq_true', Bool.not_eq_false', ne_eq, Decidable.not_not, Int.not_lt, Int.not_le] at g1
    refine wp_exit ?_
    refine wp_seq ?_
    refine wp_region_lit ?_
    refine step (Runs.assign A rfl) A rfl ?_; clear A a; intro a A
    refine wpList_nil ?_
    refine wp_ret ?_
    refine retF A rfl rfl hM H (congrArg Value.bool (decide_eq_true (srt_of_adj fun k x y hx hy => hall k x y ?_ hx hy))).symm
    have := (List.getElem?_eq_some_iff.1 hy).1
    omega

theorem c_wireloomref18_Find {ad : Option Addr} {n c : Nat} {l : List Obj} {id : UInt64} {m : Mem} (hl : Objs m ad n c l) : Spec Tryz.prog 37 #[.slice ad n c, u64 id] m [] (RetE (.int .i64 (findP l id))) := by
  refine Spec.enter0 Tryz.func37 rfl 20 Tryz.ntmps37 rfl fun a w0 Lf A H => ?_
  have hM := Le.refl m
  have hn := hl.1
  have hcap := hl.cap
  have hmx : maxLen = 9223372036854775807 := rfl
  refine wp_seq ?_
  refine wp_region_lit ?_
  refine step (Runs.assign A rfl) A rfl ?_; clear A a; intro a A
  refine wpList_nil ?_
  refine wp_seq ?_
  refine wp_seq ?_
  refine wp_region_lit ?_
  refine step (Runs.assign A rfl) A rfl ?_; clear A a; intro a A
  refine wpList_nil ?_
  refine wp_block ?_
  refine wp_loop_ghost (fun q a w => ∃ (i : Nat) (m' : Mem), q = n + 1 - i ∧ (i ≤ n ∧ ∀ (k : Nat) (x : Obj), k < i → l[k]? = some x → x.id ≠ id) ∧ Le m m' ∧ Fr 20 a [(0, .slice ad n c), (1, u64 id), (5, .int .i64 i)] [] ∧ St w0 w m' (Lf)) _ ⟨0, m, rfl, ⟨by omega, fun k _ h => absurd h (by omega)⟩, Le.refl m, (Fr.cons A rfl (Fr.cons A rfl (Fr.cons A rfl (Fr.nil A)))), H⟩ ?_
  clear A H; rintro q a w ⟨i, m, rfl, hinv, hm, A, H⟩
  have hM := hM.trans hm
  have hl := hl.mono hm
  have hl1 := hm
  obtain ⟨hin, hall⟩ := hinv
  refine wp_seq ?_
  refine wp_seq ?_
  refine wp_region_lit ?_
  refine step (Runs.move A rfl) A rfl ?_; clear A a; intro a A
  refine step (Runs.move A rfl) A rfl ?_; clear A a; intro a A
  refine step (Runs.lenL A rfl SlC.h) A rfl ?_; clear A a; intro a A
  refine step (Runs.lss A rfl rfl) A rfl ?_; clear A a; intro a A
  refine wpList_nil ?_
  refine cond_split A rfl (fun h1 => ?_) (fun h1 => ?_)
  · have g1 := h1
    try simp only [decide_eq_true_eq, decide_eq_false_iff_not, Bool.not_eq_true', Bool.not_eq_false', ne_eq, Decidable.not_not, Int.not_lt, Int.not_le] at g1
    refine wp_skip ?_
    refine wp_seq ?_
    refine wp_block ?_
    refine wp_seq ?_
    refine wp_region_lit ?_
    refine step (Runs.move A rfl) A rfl ?_; clear A a; intro a A
    refine step (Runs.move A rfl) A rfl ?_; clear A a; intro a A
    obtain ⟨x, hx⟩ := ex_at (l := l) (i := i) (by omega)
    obtain ⟨bb, off, cs, rfl, hfz, hcs⟩ := hl.all_ (by omega)
    obtain ⟨vx, hx1, hx2, hx3, hxd⟩ := hcs _ _ hx
    refine step (Runs.indexAddr A rfl rfl SlC.h (by omega) (by omega)) A rfl ?_; clear A a; intro a A
    refine step (Runs.fa A rfl) A rfl ?_; clear A a; intro a A
    refine step (Runs.ld1 A H rfl (v := u64 x.id) (by simpa using hx1)) A rfl ?_; clear A a; intro a A
    refine step (Runs.move A rfl) A rfl ?_; clear A a; intro a A
    refine step (Runs.eql A rfl rfl) A rfl ?_; clear A a; intro a A
    refine wpList_nil ?_
    refine cond_split A rfl (fun h2 => ?_) (fun h2 => ?_)
    · have g2 := h2
      try simp only [decide_eq_true_eq, decide_eq_false_iff_not, Bool.not_eq_true', Bool.not_eq_false', ne_eq, Decidable.not_not, Int.not_lt, Int.not_le] at g2
      refine wp_seq ?_
      refine wp_region_lit ?_
      refine step (Runs.move A rfl) A rfl ?_; clear A a; intro a A
      refine step (Runs.assign A rfl) A rfl ?_; clear A a; intro a A
      refine wpList_nil ?_
      refine wp_ret ?_
      refine retF A rfl rfl hM H (congrArg (Value.int .i64) (findP_some hx (by rw [← UInt64.toNat_inj]; omega) hall).symm)
    · have g2 := h2
      try simp only [decide_eq_true_eq, decide_eq_false_iff_not, Bool.not_eq_true', Bool.not_eq_false', ne_eq, Decidable.not_not, Int.not_lt, Int.not_le] at g2
      refine wp_skip ?_
      refine wp_region_lit ?_
      refine step (Runs.move A rfl) A rfl ?_; clear A a; intro a A
      refine step (Runs.add A rfl rfl (by omega)) A rfl ?_; clear A a; intro a A
      refine step (Runs.assign A rfl) A rfl ?_; clear A a; intro a A
      refine wpList_nil ?_
      have hne : x.id ≠ id := fun e => by rw [e] at g2; exact g2 rfl
      exact ⟨_, by omega, i + 1, m, rfl, ⟨by omega, lt_ext hall hx hne⟩, hl1, (Fr.cons A rfl (Fr.cons A rfl (Fr.cons A rfl (Fr.nil A)))), H⟩
  · have g1 := h1
    try simp only [decide_eq_true_eq, decide_eq_false_iff_not, Bool.not_eq_true', Bool.not_eq_false', ne_eq, Decidable.not_not, Int.not_lt, Int.not_le] at g1
    refine wp_exit ?_
    refine wp_seq ?_
    refine wp_region_lit ?_
    refine step (Runs.assign A rfl) A rfl ?_; clear A a; intro a A
    refine wpList_nil ?_
    refine wp_ret ?_
    refine retF A rfl rfl hM H (congrArg (Value.int .i64) (findP_none (lt_all hall (by omega))).symm)

theorem c_wireloomref18_In {ad : Option Addr} {n c : Nat} {l : List UInt64} {id : UInt64} {m : Mem} (hl : Ws m ad n c l) : Spec Tryz.prog 39 #[.slice ad n c, u64 id] m [] (RetE (.bool (decide (id ∈ l)))) := by
  refine Spec.enter0 Tryz.func39 rfl 18 Tryz.ntmps39 rfl fun a w0 Lf A H => ?_
  have hM := Le.refl m
  have hn := hl.len
  have hcap := hl.2.1
  have hcap2 := hl.2.2.1
  have hmx : maxLen = 9223372036854775807 := rfl
  refine wp_seq ?_
  refine wp_region_lit ?_
  refine step (Runs.assign A rfl) A rfl ?_; clear A a; intro a A
  refine wpList_nil ?_
  refine wp_seq ?_
  refine wp_seq ?_
  refine wp_region_lit ?_
  refine step (Runs.assign A rfl) A rfl ?_; clear A a; intro a A
  refine wpList_nil ?_
  refine wp_block ?_
  refine wp_loop_ghost (fun q a w => ∃ (i : Nat) (m' : Mem), q = n + 1 - i ∧ (i ≤ n ∧ ∀ (k : Nat) (x : UInt64), k < i → l[k]? = some x → x ≠ id) ∧ Le m m' ∧ Fr 18 a [(0, .slice ad n c), (1, u64 id), (5, .int .i64 i)] [] ∧ St w0 w m' (Lf)) _ ⟨0, m, rfl, ⟨by omega, fun k _ h => absurd h (by omega)⟩, Le.refl m, (Fr.cons A rfl (Fr.cons A rfl (Fr.cons A rfl (Fr.nil A)))), H⟩ ?_
  clear A H; rintro q a w ⟨i, m, rfl, hinv, hm, A, H⟩
  have hM := hM.trans hm
  have hl := hl.mono hm
  have hl1 := hm
  obtain ⟨hin, hall⟩ := hinv
  refine wp_seq ?_
  refine wp_seq ?_
  refine wp_region_lit ?_
  refine step (Runs.move A rfl) A rfl ?_; clear A a; intro a A
  refine step (Runs.move A rfl) A rfl ?_; clear A a; intro a A
  refine step (Runs.lenL A rfl SlC.h) A rfl ?_; clear A a; intro a A
  refine step (Runs.lss A rfl rfl) A rfl ?_; clear A a; intro a A
  refine wpList_nil ?_
  refine cond_split A rfl (fun h1 => ?_) (fun h1 => ?_)
  · have g1 := h1
    try simp only [decide_eq_true_eq, decide_eq_false_iff_not, Bool.not_eq_true', Bool.not_eq_false', ne_eq, Decidable.not_not, Int.not_lt, Int.not_le] at g1
    refine wp_skip ?_
    refine wp_seq ?_
    refine wp_block ?_
    refine wp_seq ?_
    refine wp_region_lit ?_
    refine step (Runs.move A rfl) A rfl ?_; clear A a; intro a A
    refine step (Runs.move A rfl) A rfl ?_; clear A a; intro a A
    obtain ⟨x, hx⟩ := ex_at (l := l) (i := i) (by omega)
    obtain ⟨bb, off, cs, rfl, hfz, hcs⟩ := hl.all_ (by omega)
    have hx1 := hcs _ _ hx
    refine step (Runs.indexAddr A rfl rfl SlC.h (by omega) (by omega)) A rfl ?_; clear A a; intro a A
    refine step (Runs.ld1 A H rfl (v := u64 x) (by simpa using hx1)) A rfl ?_; clear A a; intro a A
    refine step (Runs.move A rfl) A rfl ?_; clear A a; intro a A
    refine step (Runs.eql A rfl rfl) A rfl ?_; clear A a; intro a A
    refine wpList_nil ?_
    refine cond_split A rfl (fun h2 => ?_) (fun h2 => ?_)
    · have g2 := h2
      try simp only [decide_eq_true_eq, decide_eq_false_iff_not, Bool.not_eq_true', Bool.not_eq_false', ne_eq, Decidable.not_not, Int.not_lt, Int.not_le] at g2
      refine wp_seq ?_
      refine wp_region_lit ?_
      refine step (Runs.assign A rfl) A rfl ?_; clear A a; intro a A
      refine wpList_nil ?_
      refine wp_ret ?_
      have e : x = id := by rw [← UInt64.toNat_inj]; omega
      subst e
      exact retF A rfl rfl hM H (congrArg Value.bool (decide_eq_true (List.mem_of_getElem? hx))).symm
    · have g2 := h2
      try simp only [decide_eq_true_eq, decide_eq_false_iff_not, Bool.not_eq_true', Bool.not_eq_false', ne_eq, Decidable.not_not, Int.not_lt, Int.not_le] at g2
      refine wp_skip ?_
      refine wp_region_lit ?_
      refine step (Runs.move A rfl) A rfl ?_; clear A a; intro a A
      refine step (Runs.add A rfl rfl (by omega)) A rfl ?_; clear A a; intro a A
      refine step (Runs.assign A rfl) A rfl ?_; clear A a; intro a A
      refine wpList_nil ?_
      have hne : x ≠ id := fun e => by rw [e] at g2; exact g2 rfl
      exact ⟨_, by omega, i + 1, m, rfl, ⟨by omega, lt_ext hall hx hne⟩, hl1, (Fr.cons A rfl (Fr.cons A rfl (Fr.cons A rfl (Fr.nil A)))), H⟩
  · have g1 := h1
    try simp only [decide_eq_true_eq, decide_eq_false_iff_not, Bool.not_eq_true', Bool.not_eq_false', ne_eq, Decidable.not_not, Int.not_lt, Int.not_le] at g1
    refine wp_exit ?_
    refine wp_seq ?_
    refine wp_region_lit ?_
    refine step (Runs.assign A rfl) A rfl ?_; clear A a; intro a A
    refine wpList_nil ?_
    refine wp_ret ?_
    exact retF A rfl rfl hM H (congrArg Value.bool (decide_eq_false (not_mem_of (lt_all hall (by omega))))).symm

theorem c_slices_Index_uint64_uint64 {ad : Option Addr} {n c : Nat} {l : List UInt64} {id : UInt64} {m : Mem} (hl : Ws m ad n c l) : Spec Tryz.prog 80 #[.slice ad n c, u64 id] m [] (RetF fun _ v => ∃ r : Int, v = .int .i64 r ∧ (0 ≤ r ↔ id ∈ l)) := by
  refine Spec.enter0 Tryz.func80 rfl 19 Tryz.ntmps80 rfl fun a w0 Lf A H => ?_
  have hM := Le.refl m
  have hn := hl.len
  have hcap := hl.2.1
  have hcap2 := hl.2.2.1
  have hmx : maxLen = 9223372036854775807 := rfl
  refine wp_seq ?_
  refine wp_region_lit ?_
  refine step (Runs.assign A rfl) A rfl ?_; clear A a; intro a A
  refine wpList_nil ?_
  refine wp_seq ?_
  refine wp_seq ?_
  refine wp_region_lit ?_
  refine step (Runs.move A rfl) A rfl ?_; clear A a; intro a A
  refine step (Runs.lenL A rfl SlC.h) A rfl ?_; clear A a; intro a A
  refine step (Runs.move A rfl) A rfl ?_; clear A a; intro a A
  refine wpList_nil ?_
  refine wp_block ?_
  refine wp_loop_ghost (fun q a w => ∃ (i : Nat) (m' : Mem), q = n + 1 - i ∧ (i ≤ n ∧ ∀ (k : Nat) (x : UInt64), k < i → l[k]? = some x → x ≠ id) ∧ Le m m' ∧ Fr 19 a [(0, .slice ad n c), (1, u64 id), (7, .int .i64 n), (8, .int .i64 i)] [] ∧ St w0 w m' (Lf)) _ ⟨0, m, rfl, ⟨by omega, fun k _ h => absurd h (by omega)⟩, Le.refl m, (Fr.cons A rfl (Fr.cons A rfl (Fr.cons A rfl (Fr.cons A rfl (Fr.nil A))))), H⟩ ?_
  clear A H; rintro q a w ⟨i, m, rfl, hinv, hm, A, H⟩
  have hM := hM.trans hm
  have hl := hl.mono hm
  have hl1 := hm
  obtain ⟨hin, hall⟩ := hinv
  refine wp_seq ?_
  refine wp_region_lit ?_
  refine step (Runs.lss A rfl rfl) A rfl ?_; clear A a; intro a A
  refine wpList_nil ?_
  refine wp_seq ?_
  refine cond_split A rfl (fun h1 => ?_) (fun h1 => ?_)
  · have g1 := h1
    try simp only [decide_eq_true_eq, decide_eq_false_iff_not, Bool.not_eq_true', Bool.not_eq_false', ne_eq, Decidable.not_not, Int.not_lt, Int.not_le] at g1
    refine wp_skip ?_
    refine wp_seq ?_
    refine wp_block ?_
    refine wp_seq ?_
    refine wp_region_lit ?_
    refine step (Runs.move A rfl) A rfl ?_; clear A a; intro a A
    refine step (Runs.assign A rfl) A rfl ?_; clear A a; intro a A
    refine wpList_nil ?_
    refine wp_seq ?_
    refine wp_region_lit ?_
    refine step (Runs.move A rfl) A rfl ?_; clear A a; intro a A
    refine step (Runs.move A rfl) A rfl ?_; clear A a; intro a A
    refine step (Runs.move A rfl) A rfl ?_; clear A a; intro a A
    obtain ⟨x, hx⟩ := ex_at (l := l) (i := i) (by omega)
    obtain ⟨bb, off, cs, rfl, hfz, hcs⟩ := hl.all_ (by omega)
    have hx1 := hcs _ _ hx
    refine step (Runs.indexAddr A rfl rfl SlC.h (by omega) (by omega)) A rfl ?_; clear A a; intro a A
    refine step (Runs.ld1 A H rfl (v := u64 x) (by simpa using hx1)) A rfl ?_; clear A a; intro a A
    refine step (Runs.eql A rfl rfl) A rfl ?_; clear A a; intro a A
    refine wpList_nil ?_
    refine cond_split A rfl (fun h2 => ?_) (fun h2 => ?_)
    · have g2 := h2
      try simp only [decide_eq_true_eq, decide_eq_false_iff_not, Bool.not_eq_true', Bool.not_eq_false', ne_eq, Decidable.not_not, Int.not_lt, Int.not_le] at g2
      refine wp_seq ?_
      refine wp_region_lit ?_
      refine step (Runs.move A rfl) A rfl ?_; clear A a; intro a A
      refine step (Runs.assign A rfl) A rfl ?_; clear A a; intro a A
      refine wpList_nil ?_
      refine wp_ret ?_
      have e : id = x := by rw [← UInt64.toNat_inj]; omega
      subst e
      exact retF A rfl rfl hM H ⟨_, rfl, fun _ => List.mem_of_getElem? hx, fun _ => by omega⟩
    · have g2 := h2
      try simp only [decide_eq_true_eq, decide_eq_false_iff_not, Bool.not_eq_true', Bool.not_eq_false', ne_eq, Decidable.not_not, Int.not_lt, Int.not_le] at g2
      refine wp_skip ?_
      refine wp_region_lit ?_
      refine step (Runs.add A rfl rfl (by omega)) A rfl ?_; clear A a; intro a A
      refine step (Runs.move A rfl) A rfl ?_; clear A a; intro a A
      refine wpList_nil ?_
      have hne : x ≠ id := fun e => by rw [e] at g2; exact g2 rfl
      exact ⟨_, by omega, i + 1, m, rfl, ⟨by omega, lt_ext hall hx hne⟩, hl1, (Fr.cons A rfl (Fr.cons A rfl (Fr.cons A rfl (Fr.cons A rfl (Fr.nil A))))), H⟩
  · have g1 := h1
    try simp only [decide_eq_true_eq, decide_eq_false_iff_not, Bool.not_eq_true', Bool.not_eq_false', ne_eq, Decidable.not_not, Int.not_lt, Int.not_le] at g1
    refine wp_exit ?_
    refine wp_seq ?_
    refine wp_region_lit ?_
    refine step (Runs.assign A rfl) A rfl ?_; clear A a; intro a A
    refine wpList_nil ?_
    refine wp_ret ?_
    exact retF A rfl rfl hM H ⟨_, rfl, fun h => absurd h (by omega), fun h => absurd h (not_mem_of (lt_all hall (by omega)))⟩

theorem c_slices_Contains_uint64_uint64 {ad : Option Addr} {n c : Nat} {l : List UInt64} {id : UInt64} {m : Mem} (hl : Ws m ad n c l) : Spec Tryz.prog 53 #[.slice ad n c, u64 id] m [] (RetE (.bool (decide (id ∈ l)))) := by
  refine Spec.enter0 Tryz.func53 rfl 9 Tryz.ntmps53 rfl fun a w0 Lf A H => ?_
  have hM := Le.refl m
  refine wp_seq ?_
  refine wp_region_lit ?_
  refine step (Runs.assign A rfl) A rfl ?_; clear A a; intro a A
  refine wpList_nil ?_
  refine wp_seq ?_
  refine wp_region_lit ?_
  refine step (Runs.move A rfl) A rfl ?_; clear A a; intro a A
  refine step (Runs.move A rfl) A rfl ?_; clear A a; intro a A
  refine step_callF A rfl rfl (c_slices_Index_uint64_uint64 hl) H ?_
  rintro v1_2 a w m hm ⟨r, rfl, hr⟩ A H
  have hM := hM.trans hm
  have hl := hl.mono hm
  refine step (Runs.geq A rfl rfl) A rfl ?_; clear A a; intro a A
  refine step (Runs.assign A rfl) A rfl ?_; clear A a; intro a A
  refine wpList_nil ?_
  refine wp_ret ?_
  exact retF A rfl rfl hM H (congrArg Value.bool (decide_eq_decide.2 hr))
end Sl
end Go.Proofs.YtanhehbfbakdcaaGreatDoor
/- Stores: more walks, printed by my gen.py out of annotations. -/
set_option linter.unusedSimpArgs false
set_option linter.unusedVariables false
namespace Go.Proofs.YtanhehbfbakdcaaGreatDoor
namespace Sl
open Go

theorem c_wireloomref06_Same {ad ad2 : Option Addr} {n c n2 c2 : Nat} {l l2 : List UInt8} {m : Mem} (hl : Slc m 1 ad n c (l.map u8)) (hl2 : Slc m 1 ad2 n2 c2 (l2.map u8)) : Spec Tryz.prog 36 #[.slice ad n c, .slice ad2 n2 c2] m [] (RetE (.bool (decide (l = l2)))) := by
  refine Spec.enter0 Tryz.func36 rfl 26 Tryz.ntmps36 rfl fun a w0 Lf A H => ?_
  have hM := Le.refl m
  have hn := hl.len8.symm
  have hn2 := hl2.len8.symm
  have hcap := hl.2.1
  have hcap2 := hl.2.2.1
  have hmx : maxLen = 9223372036854775807 := rfl
  refine wp_seq ?_
  refine wp_region_lit ?_
  refine step (Runs.assign A rfl) A rfl ?_; clear A a; intro a A
  refine wpList_nil ?_
  refine wp_seq ?_
  refine wp_seq ?_
  refine wp_region_lit ?_
  refine step (Runs.move A rfl) A rfl ?_; clear A a; intro a A
  refine step (Runs.lenL A rfl SlC.h) A rfl ?_; clear A a; intro a A
  refine step (Runs.move A rfl) A rfl ?_; clear A a; intro a A
  refine step (Runs.lenL A rfl SlC.h) A rfl ?_; clear A a; intro a A
  refine step (Runs.neq A rfl rfl) A rfl ?_; clear A a; intro a A
  refine wpList_nil ?_
  refine cond_split A rfl (fun h1 => ?_) (fun h1 => ?_)
  · have g1 := h1
    try simp only [decide_eq_true_eq, decide_eq_false_iff_not, Bool.not_eq_true', Bool.not_eq_false', ne_eq, Decidable.not_not, Int.not_lt, Int.not_le] at g1
    refine wp_seq ?_
    refine wp_region_lit ?_
    refine step (Runs.assign A rfl) A rfl ?_; clear A a; intro a A
    refine wpList_nil ?_
    refine wp_ret ?_
    exact retF A rfl rfl hM H (congrArg Value.bool (decide_eq_false fun e => by subst e; omega)).symm
  · have g1 := h1
    try simp only [decide_eq_true_eq, decide_eq_false_iff_not, Bool.not_eq_true', Bool.not_eq_false', ne_eq, Decidable.not_not, Int.not_lt, Int.not_le] at g1
    refine wp_skip ?_
    refine wp_seq ?_
    refine wp_seq ?_
    refine wp_region_lit ?_
    refine step (Runs.assign A rfl) A rfl ?_; clear A a; intro a A
    refine wpList_nil ?_
    refine wp_block ?_
    refine wp_loop_ghost (fun q a w => ∃ (i : Nat) (m' : Mem), q = n + 1 - i ∧ (i ≤ n ∧ ∀ (k : Nat) (x : UInt8), k < i → l[k]? = some x → l2[k]? = some x) ∧ Le m m' ∧ Fr 26 a [(0, .slice ad n c), (1, .slice ad2 n2 c2), (5, .int .i64 i)] [] ∧ St w0 w m' (Lf)) _ ⟨0, m, rfl, ⟨by omega, fun k _ h => absurd h (by omega)⟩, Le.refl m, (Fr.cons A rfl (Fr.cons A rfl (Fr.cons A rfl (Fr.nil A)))), H⟩ ?_
    clear A H; rintro q a w ⟨i, m, rfl, hinv, hm, A, H⟩
    have hM := hM.trans hm
    have hl := hl.mono hm
    have hl2 := hl2.mono hm
    have hl1 := hm
    obtain ⟨hin, hall⟩ := hinv
    refine wp_seq ?_
    refine wp_seq ?_
    refine wp_region_lit ?_
    refine step (Runs.move A rfl) A rfl ?_; clear A a; intro a A
    refine step (Runs.move A rfl) A rfl ?_; clear A a; intro a A
    refine step (Runs.lenL A rfl SlC.h) A rfl ?_; clear A a; intro a A
    refine step (Runs.lss A rfl rfl) A rfl ?_; clear A a; intro a A
    refine wpList_nil ?_
    refine cond_split A rfl (fun h2 => ?_) (fun h2 => ?_)
    · have g2 := h2
      try simp only [decide_eq_true_eq, decide_eq_false_iff_not, Bool.not_eq_true', Bool.not_eq_false', ne_eq, Decidable.not_not, Int.not_lt, Int.not_le] at g2
      refine wp_skip ?_
      refine wp_seq ?_
      refine wp_block ?_
      refine wp_seq ?_
      refine draw_begin0 (by kernel_rfl) (N := 9) rfl (by kernel_rfl) H ?_; clear H; intro w H hR
      have hS : SW m _ w := ⟨_, H⟩
      have hL := Le.refl m
      obtain ⟨x, hx⟩ := ex_at (l := l) (i := i) (by omega)
      obtain ⟨y, hy⟩ := ex_at (l := l2) (i := i) (by omega)
      obtain ⟨bb, off, cs, rfl, hfz, hcs⟩ := hl.all8 (by omega)
      obtain ⟨bb2, off2, cs2, rfl, hfz2, hcs2⟩ := hl2.all8 (by omega)
      have hx1 := hcs _ _ hx
      have hy1 := hcs2 _ _ hy
      refine dstep hR (i := 0) rfl (by kernel_rfl) (fun _ _ _ h => h) (fun _ _ H' => (Runs.move A rfl)) A rfl hS ?_; clear A a hR; intro a A hR
      refine dstep hR (i := 1) rfl (by kernel_rfl) (fun _ _ _ h => h) (fun _ _ H' => (Runs.move A rfl)) A rfl hS ?_; clear A a hR; intro a A hR
      refine dstep hR (i := 2) rfl (by kernel_rfl) (fun _ _ _ h => h) (fun _ _ H' => (Runs.indexAddr A rfl rfl SlC.h (by omega) (by omega))) A rfl hS ?_; clear A a hR; intro a A hR
      refine dstep hR (i := 3) rfl (by kernel_rfl) (fun _ _ _ h => h) (fun _ _ H' => (Runs.ld1 A H' rfl (v := u8 x) (by simpa using hx1))) A rfl hS ?_; clear A a hR; intro a A hR
      refine dstep hR (i := 4) rfl (by kernel_rfl) (fun _ _ _ h => h) (fun _ _ H' => (Runs.move A rfl)) A rfl hS ?_; clear A a hR; intro a A hR
      refine dstep hR (i := 5) rfl (by kernel_rfl) (fun _ _ _ h => h) (fun _ _ H' => (Runs.move A rfl)) A rfl hS ?_; clear A a hR; intro a A hR
      refine dstep hR (i := 6) rfl (by kernel_rfl) (fun _ _ _ h => h) (fun _ _ H' => (Runs.indexAddr A rfl rfl SlC.h (by omega) (by omega))) A rfl hS ?_; clear A a hR; intro a A hR
      refine dstep hR (i := 7) rfl (by kernel_rfl) (fun _ _ _ h => h) (fun _ _ H' => (Runs.ld1 A H' rfl (v := u8 y) (by simpa using hy1))) A rfl hS ?_; clear A a hR; intro a A hR
      refine dstep hR (i := 8) rfl (by kernel_rfl) (fun _ _ _ h => h) (fun _ _ H' => (Runs.neq A rfl rfl)) A rfl hS ?_; clear A a hR; intro a A hR
      refine draw_done hR (by kernel_rfl) ?_
      clear hS hL hR
      refine cond_split A rfl (fun h3 => ?_) (fun h3 => ?_)
      · have g3 := h3
        try simp only [decide_eq_true_eq, decide_eq_false_iff_not, Bool.not_eq_true', Bool.not_eq_false', ne_eq, Decidable.not_not, Int.not_lt, Int.not_le] at g3
        refine wp_seq ?_
        refine wp_region_lit ?_
        refine step (Runs.assign A rfl) A rfl ?_; clear A a; intro a A
        refine wpList_nil ?_
        refine wp_ret ?_
        refine retF A rfl rfl hM H (congrArg Value.bool (decide_eq_false fun e => ?_)).symm
        subst e
        rw [hx] at hy
        cases hy
        omega
      · have g3 := h3
        try simp only [decide_eq_true_eq, decide_eq_false_iff_not, Bool.not_eq_true', Bool.not_eq_false', ne_eq, Decidable.not_not, Int.not_lt, Int.not_le] at g3
        refine wp_skip ?_
        refine wp_region_lit ?_
        refine step (Runs.move A rfl) A rfl ?_; clear A a; intro a A
        refine step (Runs.add A rfl rfl (by omega)) A rfl ?_; clear A a; intro a A
        refine step (Runs.assign A rfl) A rfl ?_; clear A a; intro a A
        refine wpList_nil ?_
        have hxy : x = y := by first | (rw [← UInt8.toNat_inj]; omega) | (rw [← UInt64.toNat_inj]; omega)
        exact ⟨_, by omega, i + 1, m, rfl, ⟨by omega, lt_ext hall hx (by rw [hy, hxy])⟩, hl1, (Fr.cons A rfl (Fr.cons A rfl (Fr.cons A rfl (Fr.nil A)))), H⟩
    · have g2 := h2
      try simp only [decide_eq_true_eq, decide_eq_false_iff_not, Bool.not_eq_true', Bool.not_eq_false', ne_eq, Decidable.not_not, Int.not_lt, Int.not_le] at g2
      refine wp_exit ?_
      refine wp_seq ?_
      refine wp_region_lit ?_
      refine step (Runs.assign A rfl) A rfl ?_; clear A a; intro a A
      refine wpList_nil ?_
      refine wp_ret ?_
      exact retF A rfl rfl hM H (congrArg Value.bool (decide_eq_true (List.ext_getElem? fun k => (by
        rcases Nat.lt_or_ge k l.length with h | h
        · obtain ⟨x, hx⟩ := ex_at h
          rw [hx, hall k x (by omega) hx]
        · rw [List.getElem?_eq_none h, List.getElem?_eq_none (by omega)])))).symm

theorem c_wireloomref01_Same {ad ad2 : Option Addr} {n c n2 c2 : Nat} {l l2 : List UInt64} {m : Mem} (hl : Ws m ad n c l) (hl2 : Ws m ad2 n2 c2 l2) : Spec Tryz.prog 19 #[.slice ad n c, .slice ad2 n2 c2] m [] (RetE (.bool (decide (l = l2)))) := by
  refine Spec.enter0 Tryz.func19 rfl 26 Tryz.ntmps19 rfl fun a w0 Lf A H => ?_
  have hM := Le.refl m
  have hn := hl.len
  have hn2 := hl2.len
  have hcap := hl.2.1
  have hcap2 := hl.2.2.1
  have hmx : maxLen = 9223372036854775807 := rfl
  refine wp_seq ?_
  refine wp_region_lit ?_
  refine step (Runs.assign A rfl) A rfl ?_; clear A a; intro a A
  refine wpList_nil ?_
  refine wp_seq ?_
  refine wp_seq ?_
  refine wp_region_lit ?_
  refine step (Runs.move A rfl) A rfl ?_; clear A a; intro a A
  refine step (Runs.lenL A rfl SlC.h) A rfl ?_; clear A a; intro a A
  refine step (Runs.move A rfl) A rfl ?_; clear A a; intro a A
  refine step (Runs.lenL A rfl SlC.h) A rfl ?_; clear A a; intro a A
  refine step (Runs.neq A rfl rfl) A rfl ?_; clear A a; intro a A
  refine wpList_nil ?_
  refine cond_split A rfl (fun h1 => ?_) (fun h1 => ?_)
  · have g1 := h1
    try simp only [decide_eq_true_eq, decide_eq_false_iff_not, Bool.not_eq_true', Bool.not_eq_false', ne_eq, Decidable.not_not, Int.not_lt, Int.not_le] at g1
    refine wp_seq ?_
    refine wp_region_lit ?_
    refine step (Runs.assign A rfl) A rfl ?_; clear A a; intro a A
    refine wpList_nil ?_
    refine wp_ret ?_
    exact retF A rfl rfl hM H (congrArg Value.bool (decide_eq_false fun e => by subst e; omega)).symm
  · have g1 := h1
    try simp only [decide_eq_true_eq, decide_eq_false_iff_not, Bool.not_eq_true', Bool.not_eq_false', ne_eq, Decidable.not_not, Int.not_lt, Int.not_le] at g1
    refine wp_skip ?_
    refine wp_seq ?_
    refine wp_seq ?_
    refine wp_region_lit ?_
    refine step (Runs.assign A rfl) A rfl ?_; clear A a; intro a A
    refine wpList_nil ?_
    refine wp_block ?_
    refine wp_loop_ghost (fun q a w => ∃ (i : Nat) (m' : Mem), q = n + 1 - i ∧ (i ≤ n ∧ ∀ (k : Nat) (x : UInt64), k < i → l[k]? = some x → l2[k]? = some x) ∧ Le m m' ∧ Fr 26 a [(0, .slice ad n c), (1, .slice ad2 n2 c2), (5, .int .i64 i)] [] ∧ St w0 w m' (Lf)) _ ⟨0, m, rfl, ⟨by omega, fun k _ h => absurd h (by omega)⟩, Le.refl m, (Fr.cons A rfl (Fr.cons A rfl (Fr.cons A rfl (Fr.nil A)))), H⟩ ?_
    clear A H; rintro q a w ⟨i, m, rfl, hinv, hm, A, H⟩
    have hM := hM.trans hm
    have hl := hl.mono hm
    have hl2 := hl2.mono hm
    have hl1 := hm
    obtain ⟨hin, hall⟩ := hinv
    refine wp_seq ?_
    refine wp_seq ?_
    refine wp_region_lit ?_
    refine step (Runs.move A rfl) A rfl ?_; clear A a; intro a A
    refine step (Runs.move A rfl) A rfl ?_; clear A a; intro a A
    refine step (Runs.lenL A rfl SlC.h) A rfl ?_; clear A a; intro a A
    refine step (Runs.lss A rfl rfl) A rfl ?_; clear A a; intro a A
    refine wpList_nil ?_
    refine cond_split A rfl (fun h2 => ?_) (fun h2 => ?_)
    · have g2 := h2
      try simp only [decide_eq_true_eq, decide_eq_false_iff_not, Bool.not_eq_true', Bool.not_eq_false', ne_eq, Decidable.not_not, Int.not_lt, Int.not_le] at g2
      refine wp_skip ?_
      refine wp_seq ?_
      refine wp_block ?_
      refine wp_seq ?_
      refine draw_begin0 (by kernel_rfl) (N := 9) rfl (by kernel_rfl) H ?_; clear H; intro w H hR
      have hS : SW m _ w := ⟨_, H⟩
      have hL := Le.refl m
      obtain ⟨x, hx⟩ := ex_at (l := l) (i := i) (by omega)
      obtain ⟨y, hy⟩ := ex_at (l := l2) (i := i) (by omega)
      obtain ⟨bb, off, cs, rfl, hfz, hcs⟩ := hl.all_ (by omega)
      obtain ⟨bb2, off2, cs2, rfl, hfz2, hcs2⟩ := hl2.all_ (by omega)
      have hx1 := hcs _ _ hx
      have hy1 := hcs2 _ _ hy
      refine dstep hR (i := 0) rfl (by kernel_rfl) (fun _ _ _ h => h) (fun _ _ H' => (Runs.move A rfl)) A rfl hS ?_; clear A a hR; intro a A hR
      refine dstep hR (i := 1) rfl (by kernel_rfl) (fun _ _ _ h => h) (fun _ _ H' => (Runs.move A rfl)) A rfl hS ?_; clear A a hR; intro a A hR
      refine dstep hR (i := 2) rfl (by kernel_rfl) (fun _ _ _ h => h) (fun _ _ H' => (Runs.indexAddr A rfl rfl SlC.h (by omega) (by omega))) A rfl hS ?_; clear A a hR; intro a A hR
      refine dstep hR (i := 3) rfl (by kernel_rfl) (fun _ _ _ h => h) (fun _ _ H' => (Runs.ld1 A H' rfl (v := u64 x) (by simpa using hx1))) A rfl hS ?_; clear A a hR; intro a A hR
      refine dstep hR (i := 4) rfl (by kernel_rfl) (fun _ _ _ h => h) (fun _ _ H' => (Runs.move A rfl)) A rfl hS ?_; clear A a hR; intro a A hR
      refine dstep hR (i := 5) rfl (by kernel_rfl) (fun _ _ _ h => h) (fun _ _ H' => (Runs.move A rfl)) A rfl hS ?_; clear A a hR; intro a A hR
      refine dstep hR (i := 6) rfl (by kernel_rfl) (fun _ _ _ h => h) (fun _ _ H' => (Runs.indexAddr A rfl rfl SlC.h (by omega) (by omega))) A rfl hS ?_; clear A a hR; intro a A hR
      refine dstep hR (i := 7) rfl (by kernel_rfl) (fun _ _ _ h => h) (fun _ _ H' => (Runs.ld1 A H' rfl (v := u64 y) (by simpa using hy1))) A rfl hS ?_; clear A a hR; intro a A hR
      refine dstep hR (i := 8) rfl (by kernel_rfl) (fun _ _ _ h => h) (fun _ _ H' => (Runs.neq A rfl rfl)) A rfl hS ?_; clear A a hR; intro a A hR
      refine draw_done hR (by kernel_rfl) ?_
      clear hS hL hR
      refine cond_split A rfl (fun h3 => ?_) (fun h3 => ?_)
      · have g3 := h3
        try simp only [decide_eq_true_eq, decide_eq_false_iff_not, Bool.not_eq_true', Bool.not_eq_false', ne_eq, Decidable.not_not, Int.not_lt, Int.not_le] at g3
        refine wp_seq ?_
        refine wp_region_lit ?_
        refine step (Runs.assign A rfl) A rfl ?_; clear A a; intro a A
        refine wpList_nil ?_
        refine wp_ret ?_
        refine retF A rfl rfl hM H (congrArg Value.bool (decide_eq_false fun e => ?_)).symm
        subst e
        rw [hx] at hy
        cases hy
        omega
      · have g3 := h3
        try simp only [decide_eq_true_eq, decide_eq_false_iff_not, Bool.not_eq_true', Bool.not_eq_false', ne_eq, Decidable.not_not, Int.not_lt, Int.not_le] at g3
        refine wp_skip ?_
        refine wp_region_lit ?_
        refine step (Runs.move A rfl) A rfl ?_; clear A a; intro a A
        refine step (Runs.add A rfl rfl (by omega)) A rfl ?_; clear A a; intro a A
        refine step (Runs.assign A rfl) A rfl ?_; clear A a; intro a A
        refine wpList_nil ?_
        have hxy : x = y := by first | (rw [← UInt8.toNat_inj]; omega) | (rw [← UInt64.toNat_inj]; omega)
        exact ⟨_, by omega, i + 1, m, rfl, ⟨by omega, lt_ext hall hx (by rw [hy, hxy])⟩, hl1, (Fr.cons A rfl (Fr.cons A rfl (Fr.cons A rfl (Fr.nil A)))), H⟩
    · have g2 := h2
      try simp only [decide_eq_true_eq, decide_eq_false_iff_not, Bool.not_eq_true', Bool.not_eq_false', ne_eq, Decidable.not_not, Int.not_lt, Int.not_le] at g2
      refine wp_exit ?_
      refine wp_seq ?_
      refine wp_region_lit ?_
      refine step (Runs.assign A rfl) A rfl ?_; clear A a; intro a A
      refine wpList_nil ?_
      refine wp_ret ?_
      exact retF A rfl rfl hM H (congrArg Value.bool (decide_eq_true (List.ext_getElem? fun k => (by
        rcases Nat.lt_or_ge k l.length with h | h
        · obtain ⟨x, hx⟩ := ex_at h
          rw [hx, hall k x (by omega) hx]
        · rw [List.getElem?_eq_none h, List.getElem?_eq_none (by omega)])))).symm

theorem c_wireloomref18_Same {ad ad2 : Option Addr} {n c n2 c2 : Nat} {l l2 : List Obj} {m : Mem} (hl : Objs m ad n c l) (hl2 : Objs m ad2 n2 c2 l2) : Spec Tryz.prog 22 #[.slice ad n c, .slice ad2 n2 c2] m [] (RetE (.bool (decide (l = l2)))) := by
  refine Spec.enter0 Tryz.func22 rfl 42 Tryz.ntmps22 rfl fun a w0 Lf A H => ?_
  have hM := Le.refl m
  have hn := hl.1
  have hn2 := hl2.1
  have hcap := hl.cap
  have hmx : maxLen = 9223372036854775807 := rfl
  refine wp_seq ?_
  refine wp_region_lit ?_
  refine step (Runs.assign A rfl) A rfl ?_; clear A a; intro a A
  refine wpList_nil ?_
  refine wp_seq ?_
  refine wp_seq ?_
  refine wp_region_lit ?_
  refine step (Runs.move A rfl) A rfl ?_; clear A a; intro a A
  refine step (Runs.lenL A rfl SlC.h) A rfl ?_; clear A a; intro a A
  refine step (Runs.move A rfl) A rfl ?_; clear A a; intro a A
  refine step (Runs.lenL A rfl SlC.h) A rfl ?_; clear A a; intro a A
  refine step (Runs.neq A rfl rfl) A rfl ?_; clear A a; intro a A
  refine wpList_nil ?_
  refine cond_split A rfl (fun h1 => ?_) (fun h1 => ?_)
  · have g1 := h1
    try simp only [decide_eq_true_eq, decide_eq_false_iff_not, Bool.not_eq_true', Bool.not_eq_false', ne_eq, Decidable.not_not, Int.not_lt, Int.not_le] at g1
    refine wp_seq ?_
    refine wp_region_lit ?_
    refine step (Runs.assign A rfl) A rfl ?_; clear A a; intro a A
    refine wpList_nil ?_
    refine wp_ret ?_
    exact retF A rfl rfl hM H (congrArg Value.bool (decide_eq_false fun e => by subst e; omega)).symm
  · have g1 := h1
    try simp only [decide_eq_true_eq, decide_eq_false_iff_not, Bool.not_eq_true', Bool.not_eq_false', ne_eq, Decidable.not_not, Int.not_lt, Int.not_le] at g1
    refine wp_skip ?_
    refine wp_seq ?_
    refine wp_seq ?_
    refine wp_region_lit ?_
    refine step (Runs.assign A rfl) A rfl ?_; clear A a; intro a A
    refine wpList_nil ?_
    refine wp_block ?_
    refine wp_loop_ghost (fun q a w => ∃ (i : Nat) (m' : Mem), q = n + 1 - i ∧ (i ≤ n ∧ ∀ (k : Nat) (x : Obj), k < i → l[k]? = some x → l2[k]? = some x) ∧ Le m m' ∧ Fr 42 a [(0, .slice ad n c), (1, .slice ad2 n2 c2), (5, .int .i64 i)] [] ∧ St w0 w m' (Lf)) _ ⟨0, m, rfl, ⟨by omega, fun k _ h => absurd h (by omega)⟩, Le.refl m, (Fr.cons A rfl (Fr.cons A rfl (Fr.cons A rfl (Fr.nil A)))), H⟩ ?_
    clear A H; rintro q a w ⟨i, m, rfl, hinv, hm, A, H⟩
    have hM := hM.trans hm
    have hl := hl.mono hm
    have hl2 := hl2.mono hm
    have hl1 := hm
    obtain ⟨hin, hall⟩ := hinv
    refine wp_seq ?_
    refine wp_seq ?_
    refine wp_region_lit ?_
    refine step (Runs.move A rfl) A rfl ?_; clear A a; intro a A
    refine step (Runs.move A rfl) A rfl ?_; clear A a; intro a A
    refine step (Runs.lenL A rfl SlC.h) A rfl ?_; clear A a; intro a A
    refine step (Runs.lss A rfl rfl) A rfl ?_; clear A a; intro a A
    refine wpList_nil ?_
    refine cond_split A rfl (fun h2 => ?_) (fun h2 => ?_)
    · have g2 := h2
      try simp only [decide_eq_true_eq, decide_eq_false_iff_not, Bool.not_eq_true', Bool.not_eq_false', ne_eq, Decidable.not_not, Int.not_lt, Int.not_le] at g2
      refine wp_skip ?_
      refine wp_seq ?_
      refine wp_block ?_
      refine wp_seq ?_
      refine draw_begin0 (by kernel_rfl) (N := 25) rfl (by kernel_rfl) H ?_; clear H; intro w H hR
      have hS : SW m _ w := ⟨_, H⟩
      have hL := Le.refl m
      obtain ⟨x, hx⟩ := ex_at (l := l) (i := i) (by omega)
      obtain ⟨y, hy⟩ := ex_at (l := l2) (i := i) (by omega)
      obtain ⟨bb, off, cs, rfl, hfz, hcs⟩ := hl.all_ (by omega)
      obtain ⟨bb2, off2, cs2, rfl, hfz2, hcs2⟩ := hl2.all_ (by omega)
      obtain ⟨vx, hx1, hx2, hx3, adx, nx, cx, rfl, hsx, _⟩ := hcs _ _ hx
      obtain ⟨vy, hy1, hy2, hy3, ady, ny, cy, rfl, hsy, _⟩ := hcs2 _ _ hy
      refine dstep hR (i := 0) rfl (by kernel_rfl) (fun _ _ _ h => h) (fun _ _ H' => (Runs.move A rfl)) A rfl hS ?_; clear A a hR; intro a A hR
      refine dstep hR (i := 1) rfl (by kernel_rfl) (fun _ _ _ h => h) (fun _ _ H' => (Runs.move A rfl)) A rfl hS ?_; clear A a hR; intro a A hR
      refine dstep hR (i := 2) rfl (by kernel_rfl) (fun _ _ _ h => h) (fun _ _ H' => (Runs.indexAddr A rfl rfl SlC.h (by omega) (by omega))) A rfl hS ?_; clear A a hR; intro a A hR
      refine dstep hR (i := 3) rfl (by kernel_rfl) (fun _ _ _ h => h) (fun _ _ H' => (Runs.fa A rfl)) A rfl hS ?_; clear A a hR; intro a A hR
      refine dstep hR (i := 4) rfl (by kernel_rfl) (fun _ _ _ h => h) (fun _ _ H' => (Runs.ld1 A H' rfl (v := u64 x.id) (by simpa using hx1))) A rfl hS ?_; clear A a hR; intro a A hR
      refine dstep hR (i := 5) rfl (by kernel_rfl) (fun _ _ _ h => h) (fun _ _ H' => (Runs.move A rfl)) A rfl hS ?_; clear A a hR; intro a A hR
      refine dstep hR (i := 6) rfl (by kernel_rfl) (fun _ _ _ h => h) (fun _ _ H' => (Runs.move A rfl)) A rfl hS ?_; clear A a hR; intro a A hR
      refine dstep hR (i := 7) rfl (by kernel_rfl) (fun _ _ _ h => h) (fun _ _ H' => (Runs.indexAddr A rfl rfl SlC.h (by omega) (by omega))) A rfl hS ?_; clear A a hR; intro a A hR
      refine dstep hR (i := 8) rfl (by kernel_rfl) (fun _ _ _ h => h) (fun _ _ H' => (Runs.fa A rfl)) A rfl hS ?_; clear A a hR; intro a A hR
      refine dstep hR (i := 9) rfl (by kernel_rfl) (fun _ _ _ h => h) (fun _ _ H' => (Runs.ld1 A H' rfl (v := u64 y.id) (by simpa using hy1))) A rfl hS ?_; clear A a hR; intro a A hR
      refine dstep hR (i := 10) rfl (by kernel_rfl) (fun _ _ _ h => h) (fun _ _ H' => (Runs.neq A rfl rfl)) A rfl hS ?_; clear A a hR; intro a A hR
      refine dstep hR (i := 11) rfl (by kernel_rfl) (fun _ _ _ h => h) (fun _ _ H' => (Runs.move A rfl)) A rfl hS ?_; clear A a hR; intro a A hR
      refine onBool A (dj := 28) rfl (fun h3 => ?_) (fun h3 => ?_)
      · have g3 := h3
        try simp only [decide_eq_true_eq, decide_eq_false_iff_not, Bool.not_eq_true', Bool.not_eq_false', ne_eq, Decidable.not_not, Int.not_lt, Int.not_le] at g3
        refine dskip hR (i := 12) (dj := 28) rfl (by kernel_rfl) (fun _ _ _ h => h) rfl rfl h3 A rfl hS ?_; clear A a hR; intro a A hR
        refine dskip hR (i := 13) (dj := 28) rfl (by kernel_rfl) (fun _ _ _ h => h) rfl rfl h3 A rfl hS ?_; clear A a hR; intro a A hR
        refine dskip hR (i := 14) (dj := 28) rfl (by kernel_rfl) (fun _ _ _ h => h) rfl rfl h3 A rfl hS ?_; clear A a hR; intro a A hR
        refine dskip hR (i := 15) (dj := 28) rfl (by kernel_rfl) (fun _ _ _ h => h) rfl rfl h3 A rfl hS ?_; clear A a hR; intro a A hR
        refine dskip hR (i := 16) (dj := 28) rfl (by kernel_rfl) (fun _ _ _ h => h) rfl rfl h3 A rfl hS ?_; clear A a hR; intro a A hR
        refine dskip hR (i := 17) (dj := 28) rfl (by kernel_rfl) (fun _ _ _ h => h) rfl rfl h3 A rfl hS ?_; clear A a hR; intro a A hR
        refine dskip hR (i := 18) (dj := 28) rfl (by kernel_rfl) (fun _ _ _ h => h) rfl rfl h3 A rfl hS ?_; clear A a hR; intro a A hR
        refine dskip hR (i := 19) (dj := 28) rfl (by kernel_rfl) (fun _ _ _ h => h) rfl rfl h3 A rfl hS ?_; clear A a hR; intro a A hR
        refine dskip hR (i := 20) (dj := 28) rfl (by kernel_rfl) (fun _ _ _ h => h) rfl rfl h3 A rfl hS ?_; clear A a hR; intro a A hR
        refine dskip hR (i := 21) (dj := 28) rfl (by kernel_rfl) (fun _ _ _ h => h) rfl rfl h3 A rfl hS ?_; clear A a hR; intro a A hR
        refine dskip hR (i := 22) (dj := 28) rfl (by kernel_rfl) (fun _ _ _ h => h) rfl rfl h3 A rfl hS ?_; clear A a hR; intro a A hR
        refine dskip hR (i := 23) (dj := 28) rfl (by kernel_rfl) (fun _ _ _ h => h) rfl rfl h3 A rfl hS ?_; clear A a hR; intro a A hR
        refine dstep hR (i := 24) rfl (by kernel_rfl) (fun _ _ _ h => h) (fun _ _ H' => (Runs.pickT A rfl h3 rfl)) A rfl hS ?_; clear A a hR; intro a A hR
        refine draw_done hR (by kernel_rfl) ?_
        clear hS hL hR
        refine cond_true A rfl rfl ?_
        refine wp_seq ?_
        refine wp_region_lit ?_
        refine step (Runs.assign A rfl) A rfl ?_; clear A a; intro a A
        refine wpList_nil ?_
        refine wp_ret ?_
        refine retF A rfl rfl hM H (congrArg Value.bool (decide_eq_false fun e => ?_)).symm
        subst e
        rw [hx] at hy
        cases hy
        omega
      · have g3 := h3
        try simp only [decide_eq_true_eq, decide_eq_false_iff_not, Bool.not_eq_true', Bool.not_eq_false', ne_eq, Decidable.not_not, Int.not_lt, Int.not_le] at g3
        refine dstepG hR (i := 12) (dj := 28) rfl (by kernel_rfl) (fun _ _ _ h => h) rfl rfl h3 (fun _ _ H' => (Runs.move A rfl)) A rfl hS ?_; clear A a hR; intro a A hR
        refine dstepG hR (i := 13) (dj := 28) rfl (by kernel_rfl) (fun _ _ _ h => h) rfl rfl h3 (fun _ _ H' => (Runs.move A rfl)) A rfl hS ?_; clear A a hR; intro a A hR
        refine dstepG hR (i := 14) (dj := 28) rfl (by kernel_rfl) (fun _ _ _ h => h) rfl rfl h3 (fun _ _ H' => (Runs.indexAddr A rfl rfl SlC.h (by omega) (by omega))) A rfl hS ?_; clear A a hR; intro a A hR
        refine dstepG hR (i := 15) (dj := 28) rfl (by kernel_rfl) (fun _ _ _ h => h) rfl rfl h3 (fun _ _ H' => (Runs.fa A rfl)) A rfl hS ?_; clear A a hR; intro a A hR
        refine dstepG hR (i := 16) (dj := 28) rfl (by kernel_rfl) (fun _ _ _ h => h) rfl rfl h3 (fun _ _ H' => (Runs.ld1 A H' rfl (v := .slice adx nx cx) (by simpa using hx2))) A rfl hS ?_; clear A a hR; intro a A hR
        refine dstepG hR (i := 17) (dj := 28) rfl (by kernel_rfl) (fun _ _ _ h => h) rfl rfl h3 (fun _ _ H' => (Runs.move A rfl)) A rfl hS ?_; clear A a hR; intro a A hR
        refine dstepG hR (i := 18) (dj := 28) rfl (by kernel_rfl) (fun _ _ _ h => h) rfl rfl h3 (fun _ _ H' => (Runs.move A rfl)) A rfl hS ?_; clear A a hR; intro a A hR
        refine dstepG hR (i := 19) (dj := 28) rfl (by kernel_rfl) (fun _ _ _ h => h) rfl rfl h3 (fun _ _ H' => (Runs.indexAddr A rfl rfl SlC.h (by omega) (by omega))) A rfl hS ?_; clear A a hR; intro a A hR
        refine dstepG hR (i := 20) (dj := 28) rfl (by kernel_rfl) (fun _ _ _ h => h) rfl rfl h3 (fun _ _ H' => (Runs.fa A rfl)) A rfl hS ?_; clear A a hR; intro a A hR
        refine dstepG hR (i := 21) (dj := 28) rfl (by kernel_rfl) (fun _ _ _ h => h) rfl rfl h3 (fun _ _ H' => (Runs.ld1 A H' rfl (v := .slice ady ny cy) (by simpa using hy2))) A rfl hS ?_; clear A a hR; intro a A hR
        refine dlist hR (i := 22) rfl (by kernel_rfl) ?_
        have hR := hR.next (i := 22) (by kernel_rfl)
        refine step_callFG (dj := 28) rfl rfl h3 A rfl rfl (c_wireloomref06_Same hsx hsy) H ?_
        rintro v6_22 a w m hm rfl A H
        have hM := hM.trans hm
        have hl1 := hl1.trans hm
        have hl := hl.mono hm
        have hl2 := hl2.mono hm
        have hL := hL.trans hm
        refine wpList_nil ?_
        clear hS; refine and_keep (H.sw hL) fun hS => ?_
        refine dstepG hR (i := 23) (dj := 28) rfl (by kernel_rfl) (fun _ _ _ h => h) rfl rfl h3 (fun _ _ H' => (Runs.not A rfl)) A rfl hS ?_; clear A a hR; intro a A hR
        refine dstep hR (i := 24) rfl (by kernel_rfl) (fun _ _ _ h => h) (fun _ _ H' => (Runs.pickF A rfl h3 rfl)) A rfl hS ?_; clear A a hR; intro a A hR
        refine draw_done hR (by kernel_rfl) ?_
        clear hS hL hR
        refine cond_split A rfl (fun h4 => ?_) (fun h4 => ?_)
        · have g4 := h4
          try simp only [decide_eq_true_eq, decide_eq_false_iff_not, Bool.not_eq_true', Bool.not_eq_false', ne_eq, Decidable.not_not, Int.not_lt, Int.not_le] at g4
          refine wp_seq ?_
          refine wp_region_lit ?_
          refine step (Runs.assign A rfl) A rfl ?_; clear A a; intro a A
          refine wpList_nil ?_
          refine wp_ret ?_
          refine retF A rfl rfl hM H (congrArg Value.bool (decide_eq_false fun e => ?_)).symm
          subst e
          rw [hx] at hy
          cases hy
          simp at h4
        · have g4 := h4
          try simp only [decide_eq_true_eq, decide_eq_false_iff_not, Bool.not_eq_true', Bool.not_eq_false', ne_eq, Decidable.not_not, Int.not_lt, Int.not_le] at g4
          refine wp_skip ?_
          refine wp_region_lit ?_
          refine step (Runs.move A rfl) A rfl ?_; clear A a; intro a A
          refine step (Runs.add A rfl rfl (by omega)) A rfl ?_; clear A a; intro a A
          refine step (Runs.assign A rfl) A rfl ?_; clear A a; intro a A
          refine wpList_nil ?_
          have hid : x.id = y.id := by rw [← UInt64.toNat_inj]; omega
          have hdt : x.data = y.data := by simpa using h4
          have hxy : x = y := by cases x; cases y; simp only at hid hdt; subst hid; subst hdt; rfl
          exact ⟨_, by omega, i + 1, m, rfl, ⟨by omega, lt_ext hall hx (by rw [hy, hxy])⟩, hl1, (Fr.cons A rfl (Fr.cons A rfl (Fr.cons A rfl (Fr.nil A)))), H⟩
    · have g2 := h2
      try simp only [decide_eq_true_eq, decide_eq_false_iff_not, Bool.not_eq_true', Bool.not_eq_false', ne_eq, Decidable.not_not, Int.not_lt, Int.not_le] at g2
      refine wp_exit ?_
      refine wp_seq ?_
      refine wp_region_lit ?_
      refine step (Runs.assign A rfl) A rfl ?_; clear A a; intro a A
      refine wpList_nil ?_
      refine wp_ret ?_
      exact retF A rfl rfl hM H (congrArg Value.bool (decide_eq_true (List.ext_getElem? fun k => (by
        rcases Nat.lt_or_ge k l.length with h | h
        · obtain ⟨x, hx⟩ := ex_at h
          rw [hx, hall k x (by omega) hx]
        · rw [List.getElem?_eq_none h, List.getElem?_eq_none (by omega)])))).symm

theorem c_wireloomref18_Ids {ad : Option Addr} {n c : Nat} {l : List Obj} {m : Mem} (hl : Objs m ad n c l) (hb : n ≤ 1100000) : Spec Tryz.prog 28 #[.slice ad n c] m [] (RetV fun _ v L => ∃ ad' c', v = .slice ad' n c' ∧ L = [row 29 1 ad' n c' ((l.map (·.id)).map u64)]) := by
  refine Spec.enter Tryz.func28 rfl 21 Tryz.ntmps28 rfl fun a w0 Lf A H => ?_
  simp only [List.cons_append, List.nil_append] at H
  have hM := Le.refl m
  have hn := hl.1
  have hcap := hl.cap
  have hmx : maxLen = 9223372036854775807 := rfl
  refine wp_seq ?_
  refine wp_region_lit ?_
  refine step (Runs.assign A rfl) A rfl ?_; clear A a; intro a A
  refine wpList_nil ?_
  refine wp_seq ?_
  refine wp_region_lit ?_
  refine step_slice A H rfl rfl rfl rfl rfl rfl ?_; intro b1 a w A H
  refine step (Runs.assign A rfl) A rfl ?_; clear A a; intro a A
  refine wpList_nil ?_
  refine wp_seq ?_
  refine wp_seq ?_
  refine wp_region_lit ?_
  refine step (Runs.assign A rfl) A rfl ?_; clear A a; intro a A
  refine wpList_nil ?_
  refine wp_block ?_
  have H := H.row_pt (n := 0) (size := 1) rfl (by omega)
  refine wp_loop_ghost (fun q a w => ∃ (i : Nat) (ad2 : Option Addr) (c2 : Nat) (m' : Mem), q = n + 1 - i ∧ (i ≤ n) ∧ Le m m' ∧ Fr 21 a [(0, .slice ad n c), (3, .slice ad2 i c2), (4, .int .i64 i)] [] ∧ St w0 w m' (row 29 1 ad2 i c2 (((l.take i).map (·.id)).map u64) :: Lf)) _ ⟨0, some ⟨b1, 0, none⟩, 0, m, rfl, by omega, Le.refl m, (Fr.cons A rfl (Fr.cons A rfl (Fr.cons A rfl (Fr.nil A)))), H⟩ ?_
  clear A H; rintro q a w ⟨i, ad2, c2, m, rfl, hinv, hm, A, H⟩
  have hM := hM.trans hm
  have hl := hl.mono hm
  have hl1 := hm
  refine wp_seq ?_
  refine wp_seq ?_
  refine wp_region_lit ?_
  refine step (Runs.move A rfl) A rfl ?_; clear A a; intro a A
  refine step (Runs.move A rfl) A rfl ?_; clear A a; intro a A
  refine step (Runs.lenL A rfl SlC.h) A rfl ?_; clear A a; intro a A
  refine step (Runs.lss A rfl rfl) A rfl ?_; clear A a; intro a A
  refine wpList_nil ?_
  refine cond_split A rfl (fun h1 => ?_) (fun h1 => ?_)
  · have g1 := h1
    try simp only [decide_eq_true_eq, decide_eq_false_iff_not, Bool.not_eq_true', Bool.not_eq_false', ne_eq, Decidable.not_not, Int.not_lt, Int.not_le] at g1
    refine wp_skip ?_
    refine wp_seq ?_
    refine wp_block ?_
    refine wp_region_lit ?_
    refine step (Runs.move A rfl) A rfl ?_; clear A a; intro a A
    refine step (Runs.move A rfl) A rfl ?_; clear A a; intro a A
    refine step (Runs.move A rfl) A rfl ?_; clear A a; intro a A
    obtain ⟨x, hx⟩ := ex_at (l := l) (i := i) (by omega)
    obtain ⟨bb, off, cs, rfl, hfz, hcs⟩ := hl.all_ (by omega)
    obtain ⟨vx, hx1, hx2, hx3, hxd⟩ := hcs _ _ hx
    refine step (Runs.indexAddr A rfl rfl SlC.h (by omega) (by omega)) A rfl ?_; clear A a; intro a A
    refine step (Runs.fa A rfl) A rfl ?_; clear A a; intro a A
    refine step (Runs.ld1 A H rfl (v := u64 x.id) (by simpa using hx1)) A rfl ?_; clear A a; intro a A
    refine step_slice A H rfl rfl rfl rfl rfl rfl ?_; intro b2 a w A H
    refine step_append A H rfl rfl rfl rfl (by decide) (by omega) (by simp only [maxLen]; omega) rfl rfl ?_; clear A a; intro ad1 c1 a w A H
    refine step (Runs.assign A rfl) A rfl ?_; clear A a; intro a A
    refine wpList_nil ?_
    refine wp_region_lit ?_
    refine step (Runs.move A rfl) A rfl ?_; clear A a; intro a A
    refine step (Runs.add A rfl rfl (by omega)) A rfl ?_; clear A a; intro a A
    refine step (Runs.assign A rfl) A rfl ?_; clear A a; intro a A
    refine wpList_nil ?_
    have ex : ((l.take i).map (·.id)).map u64 ++ [u64 x.id] = ((l.take (i + 1)).map (·.id)).map u64 := by rw [List.take_add_one, hx]; simp
    rw [ex] at H
    exact ⟨_, by omega, i + 1, ad1, c1, m, rfl, by omega, hl1, (Fr.cons A rfl (Fr.cons A rfl (Fr.cons A rfl (Fr.nil A)))), H.subH⟩
  · have g1 := h1
    try simp only [decide_eq_true_eq, decide_eq_false_iff_not, Bool.not_eq_true', Bool.not_eq_false', ne_eq, Decidable.not_not, Int.not_lt, Int.not_le] at g1
    refine wp_exit ?_
    refine wp_seq ?_
    refine wp_region_lit ?_
    refine step (Runs.move A rfl) A rfl ?_; clear A a; intro a A
    refine step (Runs.assign A rfl) A rfl ?_; clear A a; intro a A
    refine wpList_nil ?_
    refine wp_ret ?_
    have ei : i = n := by omega
    subst ei
    rw [show l.take i = l by rw [hn]; exact List.take_length ..] at H
    exact retV A rfl rfl hM H ⟨_, _, rfl, rfl⟩

def dmgP (l : List Obj) : List UInt64 := (l.filter fun o => !sndP o).map (·.id)
def keepP (l : List Obj) (ids : List UInt64) : List Obj := l.filter fun o => decide (o.id ∈ ids)
theorem take_filter {α : Type} {l : List α} {i : Nat} {x : α} (p : α → Bool) (h : l[i]? = some x) : (l.take (i + 1)).filter p = (l.take i).filter p ++ if p x then [x] else [] := by
  rw [List.take_add_one, h, List.filter_append]
  simp only [Option.toList_some]
  split
  · rename_i hp; simp [hp]
  · rename_i hp; simp [hp]
theorem filter_le {α : Type} {l : List α} {i : Nat} (p : α → Bool) : ((l.take i).filter p).length ≤ i := Nat.le_trans (List.length_filter_le _ _) (List.length_take_le _ _)

theorem c_objects_Damaged {ad : Option Addr} {n c : Nat} {l : List Obj} {m : Mem} (hl : Objs m ad n c l) (hb : n ≤ 1100000) : Spec Tryz.prog 20 #[.slice ad n c] m [] (RetF fun m' v => ∃ ad' c', v = .slice ad' (dmgP l).length c' ∧ Ws m' ad' (dmgP l).length c' (dmgP l)) := by
  refine Spec.enter0 Tryz.func20 rfl 22 Tryz.ntmps20 rfl fun a w0 Lf A H => ?_
  have hM := Le.refl m
  have hn := hl.1
  have hcap := hl.cap
  have hmx : maxLen = 9223372036854775807 := rfl
  refine wp_seq ?_
  refine wp_region_lit ?_
  refine step (Runs.assign A rfl) A rfl ?_; clear A a; intro a A
  refine wpList_nil ?_
  refine wp_seq ?_
  refine wp_region_lit ?_
  refine step (Runs.assign A rfl) A rfl ?_; clear A a; intro a A
  refine wpList_nil ?_
  refine wp_seq ?_
  refine wp_seq ?_
  refine wp_region_lit ?_
  refine step (Runs.move A rfl) A rfl ?_; clear A a; intro a A
  refine step (Runs.lenL A rfl SlC.h) A rfl ?_; clear A a; intro a A
  refine step (Runs.move A rfl) A rfl ?_; clear A a; intro a A
  refine wpList_nil ?_
  refine wp_block ?_
  have H := H.row_nil 29 1
  refine wp_loop_ghost (fun q a w => ∃ (i : Nat) (ad2 : Option Addr) (c2 : Nat) (m' : Mem), q = n + 1 - i ∧ (i ≤ n) ∧ Le m m' ∧ Fr 22 a [(3, .slice ad2 (dmgP (l.take i)).length c2), (6, .slice ad n c), (7, .int .i64 n), (8, .int .i64 i)] [] ∧ St w0 w m' (row 29 1 ad2 (dmgP (l.take i)).length c2 ((dmgP (l.take i)).map u64) :: Lf)) _ ⟨0, none, 0, m, rfl, by omega, Le.refl m, (Fr.cons A rfl (Fr.cons A rfl (Fr.cons A rfl (Fr.cons A rfl (Fr.nil A))))), H⟩ ?_
  clear A H; rintro q a w ⟨i, ad2, c2, m, rfl, hinv, hm, A, H⟩
  have hM := hM.trans hm
  have hl := hl.mono hm
  have hl1 := hm
  have hfl := filter_le (l := l) (i := i) (fun o => !sndP o)
  have hfl2 : (dmgP (l.take i)).length ≤ i := by rw [dmgP, List.length_map]; exact hfl
  refine wp_seq ?_
  refine wp_region_lit ?_
  refine step (Runs.lss A rfl rfl) A rfl ?_; clear A a; intro a A
  refine wpList_nil ?_
  refine wp_seq ?_
  refine cond_split A rfl (fun h1 => ?_) (fun h1 => ?_)
  · have g1 := h1
    try simp only [decide_eq_true_eq, decide_eq_false_iff_not, Bool.not_eq_true', Bool.not_eq_false', ne_eq, Decidable.not_not, Int.not_lt, Int.not_le] at g1
    refine wp_skip ?_
    refine wp_seq ?_
    refine wp_block ?_
    refine wp_seq ?_
    refine wp_region_lit ?_
    obtain ⟨x, hx⟩ := ex_at (l := l) (i := i) (by omega)
    obtain ⟨bb, off, cs, rfl, hfz, hcs⟩ := hl.all_ (by omega)
    obtain ⟨vx, hx1, hx2, hx3, hxd⟩ := hcs _ _ hx
    obtain ⟨adx, nx, cx, rfl, hsx, hnx⟩ := hxd
    have hxd : Dat m (.slice adx nx cx) x.data := ⟨_, _, _, rfl, hsx, hnx⟩
    refine step (Runs.indexAddr A rfl rfl SlC.h (by omega) (by omega)) A rfl ?_; clear A a; intro a A
    refine step (Runs.ldN A H rfl (by simpa using hx3)) A rfl ?_; clear A a; intro a A
    refine step_alloc A H rfl ?_; clear A a; intro b1 a w A H
    refine step_store A H rfl rfl rfl rfl rfl rfl ?_; intro w H
    refine wpList_nil ?_
    refine wp_seq ?_
    refine wp_region_lit ?_
    refine step (Runs.ldN A H rfl rfl) A rfl ?_; clear A a; intro a A
    refine step_callF A rfl rfl (c_objects_sound hxd) H ?_
    rintro v5_1 a w m hm rfl A H
    have hM := hM.trans hm
    have hl1 := hl1.trans hm
    have hl := hl.mono hm
    have hxd := hxd.mono hm
    refine step (Runs.not A rfl) A rfl ?_; clear A a; intro a A
    refine wpList_nil ?_
    refine cond_split A rfl (fun h2 => ?_) (fun h2 => ?_)
    · have g2 := h2
      try simp only [decide_eq_true_eq, decide_eq_false_iff_not, Bool.not_eq_true', Bool.not_eq_false', ne_eq, Decidable.not_not, Int.not_lt, Int.not_le] at g2
      refine wp_region_lit ?_
      refine step (Runs.move A rfl) A rfl ?_; clear A a; intro a A
      refine step (Runs.fa A rfl) A rfl ?_; clear A a; intro a A
      refine step (Runs.ld1 A H rfl (v := u64 x.id) rfl) A rfl ?_; clear A a; intro a A
      refine step_slice A H rfl rfl rfl rfl rfl rfl ?_; intro b2 a w A H
      refine step_append A H rfl rfl rfl rfl (by decide) (by omega) (by simp only [maxLen]; omega) rfl rfl ?_; clear A a; intro ad1 c1 a w A H
      refine step (Runs.assign A rfl) A rfl ?_; clear A a; intro a A
      refine wpList_nil ?_
      refine wp_region_lit ?_
      refine step (Runs.add A rfl rfl (by omega)) A rfl ?_; clear A a; intro a A
      refine step (Runs.move A rfl) A rfl ?_; clear A a; intro a A
      refine wpList_nil ?_
      have hsd : sndP x = false := by simpa [sndP] using h2
      have hst : dmgP (l.take (i + 1)) = dmgP (l.take i) ++ [x.id] := by simp [dmgP, take_filter _ hx, hsd]
      have hlen : (dmgP (l.take (i + 1))).length = (dmgP (l.take i)).length + 1 := by rw [hst]; simp
      have hcl : (dmgP (l.take (i + 1))).map u64 = (dmgP (l.take i)).map u64 ++ [u64 x.id] := by rw [hst]; simp
      rw [← hlen] at A H
      rw [← hcl] at H
      exact ⟨_, by omega, i + 1, ad1, c1, m, rfl, by omega, hl1, (Fr.cons A rfl (Fr.cons A rfl (Fr.cons A rfl (Fr.cons A rfl (Fr.nil A))))), H.subH⟩
    · have g2 := h2
      try simp only [decide_eq_true_eq, decide_eq_false_iff_not, Bool.not_eq_true', Bool.not_eq_false', ne_eq, Decidable.not_not, Int.not_lt, Int.not_le] at g2
      refine wp_skip ?_
      refine wp_region_lit ?_
      refine step (Runs.add A rfl rfl (by omega)) A rfl ?_; clear A a; intro a A
      refine step (Runs.move A rfl) A rfl ?_; clear A a; intro a A
      refine wpList_nil ?_
      have hsd : sndP x = true := by simpa [sndP] using h2
      have hst : dmgP (l.take (i + 1)) = dmgP (l.take i) := by simp [dmgP, take_filter _ hx, hsd]
      rw [← hst] at A H
      exact ⟨_, by omega, i + 1, ad2, c2, m, rfl, by omega, hl1, (Fr.cons A rfl (Fr.cons A rfl (Fr.cons A rfl (Fr.cons A rfl (Fr.nil A))))), H.subH⟩
  · have g1 := h1
    try simp only [decide_eq_true_eq, decide_eq_false_iff_not, Bool.not_eq_true', Bool.not_eq_false', ne_eq, Decidable.not_not, Int.not_lt, Int.not_le] at g1
    refine wp_exit ?_
    refine wp_seq ?_
    refine wp_region_lit ?_
    refine step (Runs.move A rfl) A rfl ?_; clear A a; intro a A
    refine step (Runs.assign A rfl) A rfl ?_; clear A a; intro a A
    refine wpList_nil ?_
    refine wp_ret ?_
    have ei : i = n := by omega
    subst ei
    rw [show l.take i = l by rw [hn]; exact List.take_length ..] at H A
    obtain ⟨m2, hm2, hw, H⟩ := H.row_freeze
    exact retF A rfl rfl (hM.trans hm2) H ⟨_, _, rfl, hw⟩

theorem c_objects_Keep {ad ad3 : Option Addr} {n c n3 c3 : Nat} {l : List Obj} {ids : List UInt64} {m : Mem} (hl : Objs m ad n c l) (hb : n ≤ 1100000) (hi : Ws m ad3 n3 c3 ids) : Spec Tryz.prog 26 #[.slice ad n c, .slice ad3 n3 c3] m [] (RetF fun m' v => ∃ ad' c', v = .slice ad' (keepP l ids).length c' ∧ Objs m' ad' (keepP l ids).length c' (keepP l ids)) := by
  refine Spec.enter0 Tryz.func26 rfl 24 Tryz.ntmps26 rfl fun a w0 Lf A H => ?_
  have hM := Le.refl m
  have hn := hl.1
  have hcap := hl.cap
  have hmx : maxLen = 9223372036854775807 := rfl
  refine wp_seq ?_
  refine wp_region_lit ?_
  refine step (Runs.assign A rfl) A rfl ?_; clear A a; intro a A
  refine wpList_nil ?_
  refine wp_seq ?_
  refine wp_region_lit ?_
  refine step (Runs.assign A rfl) A rfl ?_; clear A a; intro a A
  refine wpList_nil ?_
  refine wp_seq ?_
  refine wp_seq ?_
  refine wp_region_lit ?_
  refine step (Runs.move A rfl) A rfl ?_; clear A a; intro a A
  refine step (Runs.lenL A rfl SlC.h) A rfl ?_; clear A a; intro a A
  refine step (Runs.move A rfl) A rfl ?_; clear A a; intro a A
  refine wpList_nil ?_
  refine wp_block ?_
  have H := H.row_nil 66 2
  refine wp_loop_ghost (fun q a w => ∃ (i : Nat) (ad2 : Option Addr) (c2 : Nat) (xs : List Value) (m' : Mem), q = n + 1 - i ∧ (i ≤ n ∧ OR m' xs (keepP (l.take i) ids)) ∧ Le m m' ∧ Fr 24 a [(1, .slice ad3 n3 c3), (5, .slice ad2 (keepP (l.take i) ids).length c2), (8, .slice ad n c), (9, .int .i64 n), (10, .int .i64 i)] [] ∧ St w0 w m' (row 66 2 ad2 (keepP (l.take i) ids).length c2 xs :: Lf)) _ ⟨0, none, 0, [], m, rfl, ⟨by omega, trivial⟩, Le.refl m, (Fr.cons A rfl (Fr.cons A rfl (Fr.cons A rfl (Fr.cons A rfl (Fr.cons A rfl (Fr.nil A)))))), H⟩ ?_
  clear A H; rintro q a w ⟨i, ad2, c2, xs, m, rfl, hinv, hm, A, H⟩
  have hM := hM.trans hm
  have hl := hl.mono hm
  have hi := hi.mono hm
  have hl1 := hm
  obtain ⟨hin, hxs⟩ := hinv
  have hfl : (keepP (l.take i) ids).length ≤ i := filter_le (l := l) (i := i) (fun o => decide (o.id ∈ ids))
  refine wp_seq ?_
  refine wp_region_lit ?_
  refine step (Runs.lss A rfl rfl) A rfl ?_; clear A a; intro a A
  refine wpList_nil ?_
  refine wp_seq ?_
  refine cond_split A rfl (fun h1 => ?_) (fun h1 => ?_)
  · have g1 := h1
    try simp only [decide_eq_true_eq, decide_eq_false_iff_not, Bool.not_eq_true', Bool.not_eq_false', ne_eq, Decidable.not_not, Int.not_lt, Int.not_le] at g1
    refine wp_skip ?_
    refine wp_seq ?_
    refine wp_block ?_
    refine wp_seq ?_
    refine wp_region_lit ?_
    obtain ⟨x, hx⟩ := ex_at (l := l) (i := i) (by omega)
    obtain ⟨bb, off, cs, rfl, hfz, hcs⟩ := hl.all_ (by omega)
    obtain ⟨vx, hx1, hx2, hx3, hxd⟩ := hcs _ _ hx
    obtain ⟨adx, nx, cx, rfl, hsx, hnx⟩ := hxd
    have hxd : Dat m (.slice adx nx cx) x.data := ⟨_, _, _, rfl, hsx, hnx⟩
    refine step (Runs.indexAddr A rfl rfl SlC.h (by omega) (by omega)) A rfl ?_; clear A a; intro a A
    refine step (Runs.ldN A H rfl (by simpa using hx3)) A rfl ?_; clear A a; intro a A
    refine step_alloc A H rfl ?_; clear A a; intro b1 a w A H
    refine step_store A H rfl rfl rfl rfl rfl rfl ?_; intro w H
    refine wpList_nil ?_
    refine wp_seq ?_
    refine wp_region_lit ?_
    refine step (Runs.move A rfl) A rfl ?_; clear A a; intro a A
    refine step (Runs.fa A rfl) A rfl ?_; clear A a; intro a A
    refine step (Runs.ld1 A H rfl (v := u64 x.id) rfl) A rfl ?_; clear A a; intro a A
    refine step_callF A rfl rfl (c_slices_Contains_uint64_uint64 hi) H ?_
    rintro v5_3 a w m hm rfl A H
    have hM := hM.trans hm
    have hl1 := hl1.trans hm
    have hl := hl.mono hm
    have hi := hi.mono hm
    have hxs := hxs.mono hm
    have hxd := hxd.mono hm
    refine wpList_nil ?_
    refine cond_split A rfl (fun h2 => ?_) (fun h2 => ?_)
    · have g2 := h2
      try simp only [decide_eq_true_eq, decide_eq_false_iff_not, Bool.not_eq_true', Bool.not_eq_false', ne_eq, Decidable.not_not, Int.not_lt, Int.not_le] at g2
      refine wp_region_lit ?_
      refine step (Runs.move A rfl) A rfl ?_; clear A a; intro a A
      refine step (Runs.ldN A H rfl rfl) A rfl ?_; clear A a; intro a A
      refine step_slice A H rfl rfl rfl rfl rfl rfl ?_; intro b2 a w A H
      refine step_append A H rfl rfl rfl rfl (by decide) (by omega) (by simp only [maxLen]; omega) rfl rfl ?_; clear A a; intro ad1 c1 a w A H
      refine step (Runs.assign A rfl) A rfl ?_; clear A a; intro a A
      refine wpList_nil ?_
      refine wp_region_lit ?_
      refine step (Runs.add A rfl rfl (by omega)) A rfl ?_; clear A a; intro a A
      refine step (Runs.move A rfl) A rfl ?_; clear A a; intro a A
      refine wpList_nil ?_
      have hst : keepP (l.take (i + 1)) ids = keepP (l.take i) ids ++ [x] := by simp only [keepP, take_filter _ hx, h2, if_true]
      have hlen : (keepP (l.take (i + 1)) ids).length = (keepP (l.take i) ids).length + 1 := by rw [hst]; simp
      rw [← hlen] at A H
      exact ⟨_, by omega, i + 1, ad1, c1, xs ++ [u64 x.id, .slice adx nx cx], m, rfl, ⟨by omega, by rw [hst]; exact hxs.app ⟨rfl, hxd, trivial⟩⟩, hl1, (Fr.cons A rfl (Fr.cons A rfl (Fr.cons A rfl (Fr.cons A rfl (Fr.cons A rfl (Fr.nil A)))))), H.subH⟩
    · have g2 := h2
      try simp only [decide_eq_true_eq, decide_eq_false_iff_not, Bool.not_eq_true', Bool.not_eq_false', ne_eq, Decidable.not_not, Int.not_lt, Int.not_le] at g2
      refine wp_skip ?_
      refine wp_region_lit ?_
      refine step (Runs.add A rfl rfl (by omega)) A rfl ?_; clear A a; intro a A
      refine step (Runs.move A rfl) A rfl ?_; clear A a; intro a A
      refine wpList_nil ?_
      have hst : keepP (l.take (i + 1)) ids = keepP (l.take i) ids := by simp [keepP, take_filter _ hx, h2]
      rw [← hst] at A H
      exact ⟨_, by omega, i + 1, ad2, c2, xs, m, rfl, ⟨by omega, by rw [hst]; exact hxs⟩, hl1, (Fr.cons A rfl (Fr.cons A rfl (Fr.cons A rfl (Fr.cons A rfl (Fr.cons A rfl (Fr.nil A)))))), H.subH⟩
  · have g1 := h1
    try simp only [decide_eq_true_eq, decide_eq_false_iff_not, Bool.not_eq_true', Bool.not_eq_false', ne_eq, Decidable.not_not, Int.not_lt, Int.not_le] at g1
    refine wp_exit ?_
    refine wp_seq ?_
    refine wp_region_lit ?_
    refine step (Runs.move A rfl) A rfl ?_; clear A a; intro a A
    refine step (Runs.assign A rfl) A rfl ?_; clear A a; intro a A
    refine wpList_nil ?_
    refine wp_ret ?_
    have ei : i = n := by omega
    subst ei
    rw [show l.take i = l by rw [hn]; exact List.take_length ..] at H A hxs
    obtain ⟨m2, hm2, hw, H⟩ := H.row_objs hxs
    exact retF A rfl rfl (hM.trans hm2) H ⟨_, _, rfl, hw⟩
end Sl
end Go.Proofs.YtanhehbfbakdcaaGreatDoor
/- Stores: finding, putting: walks, printed by my gen.py out of annotations. -/
set_option linter.unusedSimpArgs false
set_option linter.unusedVariables false
namespace Go.Proofs.YtanhehbfbakdcaaGreatDoor
namespace Sl
open Go

theorem c_cmp_isNaN_uint64 {a : UInt64} {m : Mem} : Spec Tryz.prog 114 #[u64 a] m [] (RetE (.bool false)) := by
  refine Spec.enter0 Tryz.func114 rfl 6 Tryz.ntmps114 rfl fun a w0 Lf A H => ?_
  have hM := Le.refl m
  refine wp_seq ?_
  refine wp_region_lit ?_
  refine step (Runs.assign A rfl) A rfl ?_; clear A a; intro a A
  refine wpList_nil ?_
  refine wp_seq ?_
  refine wp_region_lit ?_
  refine step (Runs.move A rfl) A rfl ?_; clear A a; intro a A
  refine step (Runs.move A rfl) A rfl ?_; clear A a; intro a A
  refine step (Runs.neq A rfl rfl) A rfl ?_; clear A a; intro a A
  refine step (Runs.assign A rfl) A rfl ?_; clear A a; intro a A
  refine wpList_nil ?_
  refine wp_ret ?_
  exact retF A rfl rfl hM H (by simp)

theorem c_cmp_Compare_uint64 {p q : UInt64} {m : Mem} : Spec Tryz.prog 79 #[u64 p, u64 q] m [] (RetE (.int .i64 (cmpP p q))) := by
  refine Spec.enter0 Tryz.func79 rfl 20 Tryz.ntmps79 rfl fun a w0 Lf A H => ?_
  have hM := Le.refl m
  refine wp_seq ?_
  refine wp_region_lit ?_
  refine step (Runs.assign A rfl) A rfl ?_; clear A a; intro a A
  refine wpList_nil ?_
  refine wp_seq ?_
  refine wp_region_lit ?_
  refine step (Runs.move A rfl) A rfl ?_; clear A a; intro a A
  refine step_callF A rfl rfl (c_cmp_isNaN_uint64) H ?_
  rintro v1_1 a w m hm rfl A H
  have hM := hM.trans hm
  refine step (Runs.assign A rfl) A rfl ?_; clear A a; intro a A
  refine wpList_nil ?_
  refine wp_seq ?_
  refine wp_region_lit ?_
  refine step (Runs.move A rfl) A rfl ?_; clear A a; intro a A
  refine step_callF A rfl rfl (c_cmp_isNaN_uint64) H ?_
  rintro v2_1 a w m hm rfl A H
  have hM := hM.trans hm
  refine step (Runs.assign A rfl) A rfl ?_; clear A a; intro a A
  refine wpList_nil ?_
  refine wp_seq ?_
  refine wp_seq ?_
  refine wp_region_lit ?_
  refine step (Runs.move A rfl) A rfl ?_; clear A a; intro a A
  refine wpList_nil ?_
  refine cond_false A rfl rfl ?_
  refine wp_skip ?_
  refine wp_seq ?_
  refine wp_seq ?_
  refine wp_region_lit ?_
  refine step (Runs.move A rfl) A rfl ?_; clear A a; intro a A
  refine wpList_nil ?_
  refine cond_false A rfl rfl ?_
  refine wp_skip ?_
  refine wp_seq ?_
  refine wp_seq ?_
  refine wp_region_lit ?_
  refine step (Runs.move A rfl) A rfl ?_; clear A a; intro a A
  refine step (Runs.move A rfl) A rfl ?_; clear A a; intro a A
  refine step (Runs.lss A rfl rfl) A rfl ?_; clear A a; intro a A
  refine wpList_nil ?_
  refine cond_split A rfl (fun h1 => ?_) (fun h1 => ?_)
  · have g1 := h1
    try simp only [decide_eq_true_eq, decide_eq_false_iff_not, Bool.not_eq_true', Bool.not_eq_false', ne_eq, Decidable.not_not, Int.not_lt, Int.not_le] at g1
    refine wp_seq ?_
    refine wp_region_lit ?_
    refine step (Runs.assign A rfl) A rfl ?_; clear A a; intro a A
    refine wpList_nil ?_
    refine wp_ret ?_
    exact retF A rfl rfl hM H (by rw [cmpP, if_pos (by rw [UInt64.lt_iff_toNat_lt]; omega)])
  · have g1 := h1
    try simp only [decide_eq_true_eq, decide_eq_false_iff_not, Bool.not_eq_true', Bool.not_eq_false', ne_eq, Decidable.not_not, Int.not_lt, Int.not_le] at g1
    refine wp_skip ?_
    refine wp_seq ?_
    refine wp_seq ?_
    refine wp_region_lit ?_
    refine step (Runs.move A rfl) A rfl ?_; clear A a; intro a A
    refine step (Runs.move A rfl) A rfl ?_; clear A a; intro a A
    refine step (Runs.gtr A rfl rfl) A rfl ?_; clear A a; intro a A
    refine wpList_nil ?_
    refine cond_split A rfl (fun h2 => ?_) (fun h2 => ?_)
    · have g2 := h2
      try simp only [decide_eq_true_eq, decide_eq_false_iff_not, Bool.not_eq_true', Bool.not_eq_false', ne_eq, Decidable.not_not, Int.not_lt, Int.not_le] at g2
      refine wp_seq ?_
      refine wp_region_lit ?_
      refine step (Runs.assign A rfl) A rfl ?_; clear A a; intro a A
      refine wpList_nil ?_
      refine wp_ret ?_
      exact retF A rfl rfl hM H (by rw [cmpP, if_neg (by rw [UInt64.lt_iff_toNat_lt]; omega), if_pos (by rw [UInt64.lt_iff_toNat_lt]; omega)])
    · have g2 := h2
      try simp only [decide_eq_true_eq, decide_eq_false_iff_not, Bool.not_eq_true', Bool.not_eq_false', ne_eq, Decidable.not_not, Int.not_lt, Int.not_le] at g2
      refine wp_skip ?_
      refine wp_seq ?_
      refine wp_region_lit ?_
      refine step (Runs.assign A rfl) A rfl ?_; clear A a; intro a A
      refine wpList_nil ?_
      refine wp_ret ?_
      exact retF A rfl rfl hM H (by rw [cmpP, if_neg (by rw [UInt64.lt_iff_toNat_lt]; omega), if_neg (by rw [UInt64.lt_iff_toNat_lt]; omega)])

theorem c_objects_find_1 {i id : UInt64} {v : Value} {d : List UInt8} {m : Mem} (hd : Dat m v d) : Spec Tryz.prog 111 #[.agg #[u64 i, v], u64 id] m [] (RetE (.int .i64 (cmpP i id))) := by
  refine Spec.enter0 Tryz.func111 rfl 9 Tryz.ntmps111 rfl fun a w0 Lf A H => ?_
  have hM := Le.refl m
  obtain ⟨ad, n, c, rfl, hs, hn⟩ := hd
  refine wp_seq ?_
  refine wp_region_lit ?_
  refine step_box A H rfl (by simp only [Value.cells, List.toList_toArray]; rfl) rfl ?_; intro b1 a w A H
  refine step (Runs.assign A rfl) A rfl ?_; clear A a; intro a A
  refine wpList_nil ?_
  refine wp_seq ?_
  refine wp_region_lit ?_
  refine step (Runs.fa A rfl) A rfl ?_; clear A a; intro a A
  refine step (Runs.ld1 A H rfl rfl) A rfl ?_; clear A a; intro a A
  refine step (Runs.move A rfl) A rfl ?_; clear A a; intro a A
  refine step_callF A rfl rfl (c_cmp_Compare_uint64) H ?_
  rintro v1_3 a w m hm rfl A H
  have hM := hM.trans hm
  have hs := hs.mono hm
  refine step (Runs.assign A rfl) A rfl ?_; clear A a; intro a A
  refine wpList_nil ?_
  refine wp_ret ?_
  exact retF A rfl rfl hM H rfl

theorem c_api_Object_uint64 {ad : Option Addr} {n c : Nat} {l : List Obj} {id : UInt64} {m : Mem} (hl : Objs m ad n c l) (hb : n ≤ 1100000) (hs : Srt l) : Spec Tryz.prog 110 #[.slice ad n c, u64 id, .func (.func 111) #[] #[]] m [] (RetE (.tuple #[.int .i64 (lbP l id), .bool (atP l id)])) := by
  refine Spec.enter0 Tryz.func110 rfl 49 Tryz.ntmps110 rfl fun a w0 Lf A H => ?_
  have hM := Le.refl m
  have hn := hl.1
  have hcap := hl.cap
  have hmx : maxLen = 9223372036854775807 := rfl
  refine wp_seq ?_
  refine wp_region_lit ?_
  refine step (Runs.assign A rfl) A rfl ?_; clear A a; intro a A
  refine step (Runs.assign A rfl) A rfl ?_; clear A a; intro a A
  refine wpList_nil ?_
  refine wp_seq ?_
  refine wp_region_lit ?_
  refine step (Runs.move A rfl) A rfl ?_; clear A a; intro a A
  refine step (Runs.lenL A rfl SlC.h) A rfl ?_; clear A a; intro a A
  refine step (Runs.assign A rfl) A rfl ?_; clear A a; intro a A
  refine wpList_nil ?_
  refine wp_seq ?_
  refine wp_region_lit ?_
  refine step (Runs.move A rfl) A rfl ?_; clear A a; intro a A
  refine step (Runs.assign A rfl) A rfl ?_; clear A a; intro a A
  refine step (Runs.assign A rfl) A rfl ?_; clear A a; intro a A
  refine wpList_nil ?_
  refine wp_seq ?_
  refine wp_block ?_
  refine wp_loop_ghost (fun q a w => ∃ (i j : Nat) (m' : Mem), q = j - i ∧ (i ≤ j ∧ j ≤ n ∧ (∀ (k : Nat) (x : Obj), k < i → l[k]? = some x → x.id < id) ∧ (∀ (k : Nat) (x : Obj), j ≤ k → l[k]? = some x → ¬ x.id < id)) ∧ Le m m' ∧ Fr 49 a [(0, .slice ad n c), (1, u64 id), (2, .func (.func 111) #[] #[]), (8, .int .i64 n), (9, .int .i64 i), (10, .int .i64 j)] [] ∧ St w0 w m' (Lf)) _ ⟨0, n, m, rfl, ⟨by omega, by omega, fun k _ h => absurd h (by omega), fun k x h hx => absurd (List.getElem?_eq_some_iff.1 hx).1 (by omega)⟩, Le.refl m, (Fr.cons A rfl (Fr.cons A rfl (Fr.cons A rfl (Fr.cons A rfl (Fr.cons A rfl (Fr.cons A rfl (Fr.nil A))))))), H⟩ ?_
  clear A H; rintro q a w ⟨i, j, m, rfl, hinv, hm, A, H⟩
  have hM := hM.trans hm
  have hl := hl.mono hm
  have hl1 := hm
  obtain ⟨hij, hjn, hlo, hhi⟩ := hinv
  refine wp_seq ?_
  refine wp_seq ?_
  refine wp_region_lit ?_
  refine step (Runs.move A rfl) A rfl ?_; clear A a; intro a A
  refine step (Runs.move A rfl) A rfl ?_; clear A a; intro a A
  refine step (Runs.lss A rfl rfl) A rfl ?_; clear A a; intro a A
  refine wpList_nil ?_
  refine cond_split A rfl (fun h1 => ?_) (fun h1 => ?_)
  · have g1 := h1
    try simp only [decide_eq_true_eq, decide_eq_false_iff_not, Bool.not_eq_true', Bool.not_eq_false', ne_eq, Decidable.not_not, Int.not_lt, Int.not_le] at g1
    refine wp_skip ?_
    refine wp_block ?_
    refine wp_seq ?_
    refine wp_region_lit ?_
    refine step (Runs.move A rfl) A rfl ?_; clear A a; intro a A
    refine step (Runs.move A rfl) A rfl ?_; clear A a; intro a A
    refine step (Runs.add A rfl rfl (by omega)) A rfl ?_; clear A a; intro a A
    refine step (Runs.convN A rfl (wrap_u64 (by omega) (by omega))) A rfl ?_; clear A a; intro a A
    refine step (Runs.half (p := i + j) A rfl rfl (by omega)) A rfl ?_; clear A a; intro a A
    refine step (Runs.convN A rfl (wrap_i64 (by omega) (by omega))) A rfl ?_; clear A a; intro a A
    refine step (Runs.assign A rfl) A rfl ?_; clear A a; intro a A
    refine wpList_nil ?_
    refine wp_seq ?_
    refine wp_region_lit ?_
    refine step (Runs.move A rfl) A rfl ?_; clear A a; intro a A
    refine step (Runs.move A rfl) A rfl ?_; clear A a; intro a A
    refine step (Runs.move A rfl) A rfl ?_; clear A a; intro a A
    obtain ⟨x, hx⟩ := ex_at (l := l) (i := (i + j) / 2) (by omega)
    obtain ⟨bb, off, cs, rfl, hfz, hcs⟩ := hl.all_ (by omega)
    obtain ⟨vx, hx1, hx2, hx3, hxd⟩ := hcs _ _ hx
    refine step (Runs.indexAddr A rfl rfl SlC.h (by omega) (by omega)) A rfl ?_; clear A a; intro a A
    refine step (Runs.ldN A H rfl (by rw [Int.toNat_natCast]; exact hx3)) A rfl ?_; clear A a; intro a A
    refine step (Runs.move A rfl) A rfl ?_; clear A a; intro a A
    refine step_cloF A rfl rfl rfl (c_objects_find_1 hxd) H ?_
    rintro v5_6 a w m hm rfl A H
    have hM := hM.trans hm
    have hl1 := hl1.trans hm
    have hl := hl.mono hm
    refine step (Runs.lss A rfl rfl) A rfl ?_; clear A a; intro a A
    refine wpList_nil ?_
    refine cond_split A rfl (fun h2 => ?_) (fun h2 => ?_)
    · have g2 := h2
      try simp only [decide_eq_true_eq, decide_eq_false_iff_not, Bool.not_eq_true', Bool.not_eq_false', ne_eq, Decidable.not_not, Int.not_lt, Int.not_le] at g2
      refine wp_region_lit ?_
      refine step (Runs.move A rfl) A rfl ?_; clear A a; intro a A
      refine step (Runs.add A rfl rfl (by omega)) A rfl ?_; clear A a; intro a A
      refine step (Runs.assign A rfl) A rfl ?_; clear A a; intro a A
      refine wpList_nil ?_
      have hxi : x.id < id := (cmpP_lt _ _).1 (by simpa using h2)
      exact ⟨_, by omega, (i + j) / 2 + 1, j, m, rfl, ⟨by omega, by omega, fun k y hk hy => (by
        rcases Nat.lt_or_ge k ((i + j) / 2) with h | h
        · exact UInt64.lt_trans (hs.lt hy hx h) hxi
        · obtain rfl : k = (i + j) / 2 := by omega
          rw [hx] at hy; cases hy; exact hxi), hhi⟩, hl1, (Fr.cons A rfl (Fr.cons A rfl (Fr.cons A rfl (Fr.cons A rfl (Fr.cons A rfl (Fr.cons A rfl (Fr.nil A))))))), H⟩
    · have g2 := h2
      try simp only [decide_eq_true_eq, decide_eq_false_iff_not, Bool.not_eq_true', Bool.not_eq_false', ne_eq, Decidable.not_not, Int.not_lt, Int.not_le] at g2
      refine wp_region_lit ?_
      refine step (Runs.move A rfl) A rfl ?_; clear A a; intro a A
      refine step (Runs.assign A rfl) A rfl ?_; clear A a; intro a A
      refine wpList_nil ?_
      have hxi : ¬ x.id < id := fun h => absurd ((cmpP_lt _ _).2 h) (by simpa using h2)
      exact ⟨_, by omega, i, (i + j) / 2, m, rfl, ⟨by omega, by omega, hlo, fun k y hk hy => (by
        rcases Nat.lt_or_ge ((i + j) / 2) k with h | h
        · exact fun hlt => hxi (UInt64.lt_trans (hs.lt hx hy h) hlt)
        · obtain rfl : k = (i + j) / 2 := by omega
          rw [hx] at hy; cases hy; exact hxi)⟩, hl1, (Fr.cons A rfl (Fr.cons A rfl (Fr.cons A rfl (Fr.cons A rfl (Fr.cons A rfl (Fr.cons A rfl (Fr.nil A))))))), H⟩
  · have g1 := h1
    try simp only [decide_eq_true_eq, decide_eq_false_iff_not, Bool.not_eq_true', Bool.not_eq_false', ne_eq, Decidable.not_not, Int.not_lt, Int.not_le] at g1
    refine wp_exit ?_
    refine wp_seq ?_
    refine wp_region_lit ?_
    obtain rfl : i = j := by omega
    have hlb : lbP l id = i := lbP_of (by omega) hlo hhi
    refine step (Runs.move A rfl) A rfl ?_; clear A a; intro a A
    refine step (Runs.move A rfl) A rfl ?_; clear A a; intro a A
    refine step (Runs.move A rfl) A rfl ?_; clear A a; intro a A
    refine step (Runs.lss A rfl rfl) A rfl ?_; clear A a; intro a A
    refine step (Runs.move A rfl) A rfl ?_; clear A a; intro a A
    refine onBool A (dj := 39) rfl (fun h3 => ?_) (fun h3 => ?_)
    · have g3 := h3
      try simp only [decide_eq_true_eq, decide_eq_false_iff_not, Bool.not_eq_true', Bool.not_eq_false', ne_eq, Decidable.not_not, Int.not_lt, Int.not_le] at g3
      refine stepG (dj := 39) rfl rfl h3 (Runs.move A rfl) A rfl ?_; clear A a; intro a A
      refine stepG (dj := 39) rfl rfl h3 (Runs.move A rfl) A rfl ?_; clear A a; intro a A
      refine stepG (dj := 39) rfl rfl h3 (Runs.move A rfl) A rfl ?_; clear A a; intro a A
      obtain ⟨x, hx⟩ := ex_at (l := l) (i := i) (by omega)
      obtain ⟨bb, off, cs, rfl, hfz, hcs⟩ := hl.all_ (by omega)
      obtain ⟨vx, hx1, hx2, hx3, hxd⟩ := hcs _ _ hx
      refine stepG (dj := 39) rfl rfl h3 (Runs.indexAddr A rfl rfl SlC.h (by omega) (by omega)) A rfl ?_; clear A a; intro a A
      refine stepG (dj := 39) rfl rfl h3 (Runs.ldN A H rfl (by simpa using hx3)) A rfl ?_; clear A a; intro a A
      refine stepG (dj := 39) rfl rfl h3 (Runs.move A rfl) A rfl ?_; clear A a; intro a A
      refine step_cloFG (dj := 39) rfl rfl h3 A rfl rfl rfl (c_objects_find_1 hxd) H ?_
      rintro v8_11 a w m hm rfl A H
      have hM := hM.trans hm
      have hl := hl.mono hm
      refine stepG (dj := 39) rfl rfl h3 (Runs.eql A rfl rfl) A rfl ?_; clear A a; intro a A
      refine step (Runs.pickT A rfl h3 rfl) A rfl ?_; clear A a; intro a A
      refine step (Runs.assign A rfl) A rfl ?_; clear A a; intro a A
      refine step (Runs.assign A rfl) A rfl ?_; clear A a; intro a A
      refine wpList_nil ?_
      refine wp_ret ?_
      exact retF2 A rfl rfl rfl hM H (by rw [hlb, atP, hlb, hx]; simp only [Option.any_some, cmpP_eq])
    · have g3 := h3
      try simp only [decide_eq_true_eq, decide_eq_false_iff_not, Bool.not_eq_true', Bool.not_eq_false', ne_eq, Decidable.not_not, Int.not_lt, Int.not_le] at g3
      refine stepSkip (dj := 39) rfl rfl h3 A rfl ?_; clear A a; intro a A
      refine stepSkip (dj := 39) rfl rfl h3 A rfl ?_; clear A a; intro a A
      refine stepSkip (dj := 39) rfl rfl h3 A rfl ?_; clear A a; intro a A
      refine stepSkip (dj := 39) rfl rfl h3 A rfl ?_; clear A a; intro a A
      refine stepSkip (dj := 39) rfl rfl h3 A rfl ?_; clear A a; intro a A
      refine stepSkip (dj := 39) rfl rfl h3 A rfl ?_; clear A a; intro a A
      refine stepSkip (dj := 39) rfl rfl h3 A rfl ?_; clear A a; intro a A
      refine stepSkip (dj := 39) rfl rfl h3 A rfl ?_; clear A a; intro a A
      refine step (Runs.pickF A rfl h3 rfl) A rfl ?_; clear A a; intro a A
      refine step (Runs.assign A rfl) A rfl ?_; clear A a; intro a A
      refine step (Runs.assign A rfl) A rfl ?_; clear A a; intro a A
      refine wpList_nil ?_
      refine wp_ret ?_
      exact retF2 A rfl rfl rfl hM H (by rw [hlb, atP, hlb, List.getElem?_eq_none (by omega)]; rfl)

theorem c_objects_find {ad : Option Addr} {n c : Nat} {l : List Obj} {id : UInt64} {m : Mem} (hl : Objs m ad n c l) (hb : n ≤ 1100000) (hs : Srt l) : Spec Tryz.prog 76 #[.slice ad n c, u64 id] m [] (RetE (.tuple #[.int .i64 (lbP l id), .bool (atP l id)])) := by
  refine Spec.enter0 Tryz.func76 rfl 11 Tryz.ntmps76 rfl fun a w0 Lf A H => ?_
  have hM := Le.refl m
  refine wp_seq ?_
  refine wp_region_lit ?_
  refine step (Runs.assign A rfl) A rfl ?_; clear A a; intro a A
  refine step (Runs.assign A rfl) A rfl ?_; clear A a; intro a A
  refine wpList_nil ?_
  refine wp_seq ?_
  refine wp_region_lit ?_
  refine step (Runs.move A rfl) A rfl ?_; clear A a; intro a A
  refine step (Runs.move A rfl) A rfl ?_; clear A a; intro a A
  refine step_callF A rfl rfl (c_api_Object_uint64 hl (by omega) hs) H ?_
  rintro v1_2 a w m hm rfl A H
  have hM := hM.trans hm
  have hl := hl.mono hm
  refine step (Runs.extract A rfl rfl) A rfl ?_; clear A a; intro a A
  refine step (Runs.extract A rfl rfl) A rfl ?_; clear A a; intro a A
  refine step (Runs.assign A rfl) A rfl ?_; clear A a; intro a A
  refine step (Runs.assign A rfl) A rfl ?_; clear A a; intro a A
  refine wpList_nil ?_
  refine wp_ret ?_
  exact retF2 A rfl rfl rfl hM H rfl
end Sl
end Go.Proofs.YtanhehbfbakdcaaGreatDoor
/- Stores: Clone, Insert, Put, Get: walks, printed by my gen.py out of annotations. -/
set_option linter.unusedSimpArgs false
set_option linter.unusedVariables false
namespace Go.Proofs.YtanhehbfbakdcaaGreatDoor
namespace Sl
open Go

theorem c_CloneB {ad : Option Addr} {n c : Nat} {d : List UInt8} {m : Mem} (hs : Slc m 1 ad n c (d.map u8)) (hn : n ≤ 1000000000) : Spec Tryz.prog 75 #[.slice ad n c] m [] (RetF fun m' v => Dat m' v d) := by
  refine Spec.enter0 Tryz.func75 rfl 8 Tryz.ntmps75 rfl fun a w0 Lf A H => ?_
  have hM := Le.refl m
  have hmx : maxLen = 9223372036854775807 := rfl
  refine wp_seq ?_
  refine wp_region_lit ?_
  refine step (Runs.assign A rfl) A rfl ?_; clear A a; intro a A
  refine wpList_nil ?_
  refine wp_seq ?_
  refine wp_seq ?_
  refine wp_region_lit ?_
  refine step (Runs.move A rfl) A rfl ?_; clear A a; intro a A
  refine step (Runs.isNilL A rfl rfl) A rfl ?_; clear A a; intro a A
  refine wpList_nil ?_
  refine cond_split A rfl (fun h1 => ?_) (fun h1 => ?_)
  · have g1 := h1
    try simp only [decide_eq_true_eq, decide_eq_false_iff_not, Bool.not_eq_true', Bool.not_eq_false', ne_eq, Decidable.not_not, Int.not_lt, Int.not_le] at g1
    refine wp_seq ?_
    refine wp_region_lit ?_
    refine step (Runs.assign A rfl) A rfl ?_; clear A a; intro a A
    refine wpList_nil ?_
    refine wp_ret ?_
    cases ad with
    | some _ => cases g1
    | none =>
      have h0 : n = 0 := by
        rcases Nat.eq_zero_or_pos n with h | h
        · exact h
        · obtain ⟨_, _, _, e, _⟩ := hs.2.2.2 h; cases e
      have hd : d = [] := List.eq_nil_of_length_eq_zero (by have := hs.len8; omega)
      subst hd
      exact retF A rfl rfl hM H (Dat.nil m)
  · have g1 := h1
    try simp only [decide_eq_true_eq, decide_eq_false_iff_not, Bool.not_eq_true', Bool.not_eq_false', ne_eq, Decidable.not_not, Int.not_lt, Int.not_le] at g1
    refine wp_skip ?_
    refine wp_seq ?_
    refine wp_region_lit ?_
    refine step_slice A H rfl rfl rfl rfl rfl rfl ?_; intro b1 a w A H
    refine step (Runs.move A rfl) A rfl ?_; clear A a; intro a A
    have H := H.row_pt (n := 0) (size := 1) rfl (by omega)
    refine step_appendR A H rfl rfl hs (u8_one _) (by decide) (by omega) (by omega) rfl rfl ?_; clear A a; intro ad1 c1 a w A H
    refine step (Runs.assign A rfl) A rfl ?_; clear A a; intro a A
    refine wpList_nil ?_
    refine wp_ret ?_
    obtain ⟨m2, hm2, hw, H⟩ := H.row_freeze
    exact retF A rfl rfl (hM.trans hm2) H ⟨_, _, _, rfl, by simpa using hw, by omega⟩

theorem c_CloneO {ad : Option Addr} {n c : Nat} {xs : List Value} {m : Mem} (hs : Slc m 2 ad n c xs) (hone : xs.all (·.oneCell') = true) (hn : n ≤ 1100000) : Spec Tryz.prog 78 #[.slice ad n c] m [] (RetV fun _ v L => ∃ ad' c', v = .slice ad' n c' ∧ L = [row 66 2 ad' n c' xs]) := by
  refine Spec.enter Tryz.func78 rfl 8 Tryz.ntmps78 rfl fun a w0 Lf A H => ?_
  simp only [List.cons_append, List.nil_append] at H
  have hM := Le.refl m
  have hmx : maxLen = 9223372036854775807 := rfl
  refine wp_seq ?_
  refine wp_region_lit ?_
  refine step (Runs.assign A rfl) A rfl ?_; clear A a; intro a A
  refine wpList_nil ?_
  refine wp_seq ?_
  refine wp_seq ?_
  refine wp_region_lit ?_
  refine step (Runs.move A rfl) A rfl ?_; clear A a; intro a A
  refine step (Runs.isNilL A rfl rfl) A rfl ?_; clear A a; intro a A
  refine wpList_nil ?_
  refine cond_split A rfl (fun h1 => ?_) (fun h1 => ?_)
  · have g1 := h1
    try simp only [decide_eq_true_eq, decide_eq_false_iff_not, Bool.not_eq_true', Bool.not_eq_false', ne_eq, Decidable.not_not, Int.not_lt, Int.not_le] at g1
    refine wp_seq ?_
    refine wp_region_lit ?_
    refine step (Runs.assign A rfl) A rfl ?_; clear A a; intro a A
    refine wpList_nil ?_
    refine wp_ret ?_
    cases ad with
    | some _ => cases g1
    | none =>
      have h0 : n = 0 := by
        rcases Nat.eq_zero_or_pos n with h | h
        · exact h
        · obtain ⟨_, _, _, e, _⟩ := hs.2.2.2 h; cases e
      subst h0
      have hd : xs = [] := List.eq_nil_of_length_eq_zero (by have := hs.1; omega)
      subst hd
      have H := H.row_nil 66 2
      exact retV A rfl rfl hM H ⟨_, _, rfl, rfl⟩
  · have g1 := h1
    try simp only [decide_eq_true_eq, decide_eq_false_iff_not, Bool.not_eq_true', Bool.not_eq_false', ne_eq, Decidable.not_not, Int.not_lt, Int.not_le] at g1
    refine wp_skip ?_
    refine wp_seq ?_
    refine wp_region_lit ?_
    refine step_slice A H rfl rfl rfl rfl rfl rfl ?_; intro b1 a w A H
    refine step (Runs.move A rfl) A rfl ?_; clear A a; intro a A
    have H := H.row_pt (n := 0) (size := 2) rfl (by omega)
    refine step_appendR A H rfl rfl hs hone (by decide) (by omega) (by omega) rfl rfl ?_; clear A a; intro ad1 c1 a w A H
    refine step (Runs.assign A rfl) A rfl ?_; clear A a; intro a A
    refine wpList_nil ?_
    refine wp_ret ?_
    rw [Nat.zero_add, List.nil_append] at H
    rw [Nat.zero_add] at A
    exact retV A rfl rfl hM H ⟨_, _, rfl, rfl⟩

theorem ins_take1 {cur xs : List Value} {p q : Nat} (hct : cur.take q = xs) (hp : p ≤ q) : cur.take p = xs.take p := by
  rw [← hct, List.take_take, Nat.min_eq_left hp]
theorem ins_mid {cur xs : List Value} {p q : Nat} (hct : cur.take q = xs) (hp : p ≤ q) : (cur.drop p).take (q - p) = xs.drop p := by
  rw [← hct, List.drop_take]
theorem ins_shift {A V R O E : List Value} {p : Nat} (hA : A.length = p) (hE : E.length = 2) : (A ++ E ++ V ++ R).take p ++ O ++ (A ++ E ++ V ++ R).drop (p + 2) = A ++ O ++ V ++ R := by
  subst hA
  have e1 : (A ++ E ++ V ++ R).take A.length = A := by rw [List.append_assoc (A ++ E) V R, List.append_assoc A E, List.take_left]
  have e2 : (A ++ E ++ V ++ R).drop (A.length + 2) = V ++ R := by
    rw [List.append_assoc (A ++ E) V R, show A.length + 2 = (A ++ E).length by simp [hE], List.drop_left]
  rw [e1, e2, ← List.append_assoc]
theorem take_ins {A O V R : List Value} {k : Nat} (h : A.length + O.length + V.length = k) : (A ++ O ++ V ++ R).take k = A ++ O ++ V := by
  subst h
  rw [show A.length + O.length + V.length = (A ++ O ++ V).length by simp [Nat.add_assoc]]
  exact List.take_left
theorem set_mid {A O R : List Value} {p : Nat} (hA : A.length = p) (h : O.length ≤ R.length) : setN (A ++ R) p O = some (A ++ O ++ R.drop O.length) := by
  subst hA
  rw [setN_put (by simp; omega), List.take_left, ← List.drop_drop, List.drop_left]

theorem c_InsertO {ad adv : Option Addr} {n c i b2 nv cv : Nat} {xs : List Value} {id : UInt64} {m : Mem} (hi : i ≤ n) (hn : n ≤ 1100000) (hone : xs.all (·.oneCell') = true) : Spec Tryz.prog 77 #[.slice ad n c, .int .i64 i, .slice (some ⟨b2, 0, none⟩) 1 1] m [row 66 2 ad n c xs, pt b2 [u64 id, .slice adv nv cv] 66] (RetV fun _ v L => ∃ ad' c', v = .slice ad' (n + 1) c' ∧ L = [row 66 2 ad' (n + 1) c' (xs.take (i * 2) ++ [u64 id, .slice adv nv cv] ++ xs.drop (i * 2))]) := by
  refine Spec.enter Tryz.func77 rfl 95 Tryz.ntmps77 rfl fun a w0 Lf A H => ?_
  simp only [List.cons_append, List.nil_append] at H
  have hM := Le.refl m
  have hmx : maxLen = 9223372036854775807 := rfl
  obtain ⟨hxl, hnc, hcm⟩ := H.row_len
  refine wp_seq ?_
  refine wp_region_lit ?_
  refine step (Runs.assign A rfl) A rfl ?_; clear A a; intro a A
  refine wpList_nil ?_
  refine wp_seq ?_
  refine wp_region_lit ?_
  refine step (Runs.move A rfl) A rfl ?_; clear A a; intro a A
  refine step (Runs.move A rfl) A rfl ?_; clear A a; intro a A
  refine step (Runs.sliceLlo A rfl rfl SlC.h (by omega) (by omega)) A rfl ?_; clear A a; intro a A
  refine wpList_nil ?_
  refine wp_seq ?_
  refine wp_region_lit ?_
  refine step (Runs.move A rfl) A rfl ?_; clear A a; intro a A
  refine step (Runs.lenL A rfl SlC.h) A rfl ?_; clear A a; intro a A
  refine step (Runs.assign A rfl) A rfl ?_; clear A a; intro a A
  refine wpList_nil ?_
  refine wp_seq ?_
  refine wp_seq ?_
  refine wp_region_lit ?_
  refine step (Runs.move A rfl) A rfl ?_; clear A a; intro a A
  refine step (Runs.eql A rfl rfl) A rfl ?_; clear A a; intro a A
  refine wpList_nil ?_
  refine cond_split A rfl (fun h1 => ?_) (fun h1 => ?_)
  · have g1 := h1
    try simp only [decide_eq_true_eq, decide_eq_false_iff_not, Bool.not_eq_true', Bool.not_eq_false', ne_eq, Decidable.not_not, Int.not_lt, Int.not_le] at g1
    exact absurd g1 (by decide)
  · have g1 := h1
    try simp only [decide_eq_true_eq, decide_eq_false_iff_not, Bool.not_eq_true', Bool.not_eq_false', ne_eq, Decidable.not_not, Int.not_lt, Int.not_le] at g1
    refine wp_skip ?_
    refine wp_seq ?_
    refine wp_region_lit ?_
    refine step (Runs.move A rfl) A rfl ?_; clear A a; intro a A
    refine step (Runs.lenL A rfl SlC.h) A rfl ?_; clear A a; intro a A
    refine step (Runs.assign A rfl) A rfl ?_; clear A a; intro a A
    refine wpList_nil ?_
    refine wp_seq ?_
    refine wp_seq ?_
    refine wp_region_lit ?_
    refine step (Runs.move A rfl) A rfl ?_; clear A a; intro a A
    refine step (Runs.move A rfl) A rfl ?_; clear A a; intro a A
    refine step (Runs.eql A rfl rfl) A rfl ?_; clear A a; intro a A
    refine wpList_nil ?_
    refine cond_split A rfl (fun h2 => ?_) (fun h2 => ?_)
    · have g2 := h2
      try simp only [decide_eq_true_eq, decide_eq_false_iff_not, Bool.not_eq_true', Bool.not_eq_false', ne_eq, Decidable.not_not, Int.not_lt, Int.not_le] at g2
      refine wp_seq ?_
      refine wp_region_lit ?_
      refine step (Runs.move A rfl) A rfl ?_; clear A a; intro a A
      refine step (Runs.move A rfl) A rfl ?_; clear A a; intro a A
      refine step_append A H rfl rfl rfl rfl (by decide) (by omega) (by simp only [maxLen]; omega) rfl rfl ?_; clear A a; intro ad1 c1 a w A H
      refine step (Runs.assign A rfl) A rfl ?_; clear A a; intro a A
      refine wpList_nil ?_
      refine wp_ret ?_
      have ei : i = n := by omega
      subst ei
      rw [show xs ++ [u64 id, .slice adv nv cv] = (xs.take (i * 2) ++ [u64 id, .slice adv nv cv] ++ xs.drop (i * 2)) by rw [List.take_of_length_le (by omega), List.drop_of_length_le (by omega), List.append_nil]] at H
      exact retV A rfl rfl hM H ⟨_, _, rfl, rfl⟩
    · have g2 := h2
      try simp only [decide_eq_true_eq, decide_eq_false_iff_not, Bool.not_eq_true', Bool.not_eq_false', ne_eq, Decidable.not_not, Int.not_lt, Int.not_le] at g2
      refine wp_skip ?_
      refine wp_seq ?_
      refine wp_seq ?_
      refine wp_region_lit ?_
      obtain ⟨g, cur, rfl, hxl', hnc', hcm', hcl, hct, H⟩ := H.row_block (by omega)
      refine step (Runs.move A rfl) A rfl ?_; clear A a; intro a A
      refine step (Runs.move A rfl) A rfl ?_; clear A a; intro a A
      refine step (Runs.add A rfl rfl (by omega)) A rfl ?_; clear A a; intro a A
      refine step (Runs.move A rfl) A rfl ?_; clear A a; intro a A
      refine step (Runs.capL A rfl SlC.h) A rfl ?_; clear A a; intro a A
      refine step (Runs.gtr A rfl rfl) A rfl ?_; clear A a; intro a A
      refine wpList_nil ?_
      refine cond_split A rfl (fun h3 => ?_) (fun h3 => ?_)
      · have g3 := h3
        try simp only [decide_eq_true_eq, decide_eq_false_iff_not, Bool.not_eq_true', Bool.not_eq_false', ne_eq, Decidable.not_not, Int.not_lt, Int.not_le] at g3
        refine wp_seq ?_
        refine wp_region_lit ?_
        refine step (Runs.move A rfl) A rfl ?_; clear A a; intro a A
        refine step (Runs.move A rfl) A rfl ?_; clear A a; intro a A
        refine step (Runs.sliceLhi A rfl rfl SlC.h (by omega) (by omega)) A rfl ?_; clear A a; intro a A
        rw [cutAd_some (show 0 < c by omega)] at A
        simp only [Int.toNat_natCast, Nat.zero_mul, Nat.add_zero, Nat.zero_add] at A
        refine step (Runs.move A rfl) A rfl ?_; clear A a; intro a A
        refine step (Runs.move A rfl) A rfl ?_; clear A a; intro a A
        refine step (Runs.add A rfl rfl (by omega)) A rfl ?_; clear A a; intro a A
        refine step (Runs.move A rfl) A rfl ?_; clear A a; intro a A
        refine step (Runs.sub A rfl rfl (by omega)) A rfl ?_; clear A a; intro a A
        rw [show ((n : Int) + ((1 : Nat) : Int) - i) = ((n + 1 - i : Nat) : Int) by omega] at A
        refine step_appendZ (z := n + 1 - i) (old := cur.take (i * 2)) A H rfl rfl (by rw [getN_of (by omega)]; simp) (by omega) (by omega) (by decide) rfl (by omega) (by omega) rfl ?_; clear A a; intro g2 c2 rst a w hc2 hcm2 hrl A H
        rw [show i + (n + 1 - i) = n + 1 by omega] at A
        have hAl : (cur.take (i * 2)).length = i * 2 := by rw [List.length_take]; omega
        have hVl : (xs.drop (i * 2)).length = (n - i) * 2 := by rw [List.length_drop]; omega
        have hV : getN cur (i * 2) ((n - i) * 2) = some (xs.drop (i * 2)) := by rw [getN_of (by omega), ← ins_mid hct (show i * 2 ≤ n * 2 by omega)]; congr 2; omega
        refine step (Runs.assign A rfl) A rfl ?_; clear A a; intro a A
        refine wpList_nil ?_
        refine wp_seq ?_
        refine wp_region_lit ?_
        refine step (Runs.move A rfl) A rfl ?_; clear A a; intro a A
        refine step (Runs.move A rfl) A rfl ?_; clear A a; intro a A
        refine step (Runs.sliceLlo A rfl rfl SlC.h (by omega) (by omega)) A rfl ?_; clear A a; intro a A
        simp only [Int.toNat_natCast] at A
        rw [cutAd_some (show i < c2 by omega), Nat.zero_add] at A
        refine step (Runs.move A rfl) A rfl ?_; clear A a; intro a A
        refine step_copy (q := 1) (vs := [u64 id, .slice adv nv cv]) A H rfl rfl (by show min _ _ = _; omega) rfl rfl (set_mid hAl (by simp only [List.length_cons, List.length_nil]; omega)) rfl ?_; clear A a; intro a w A H
        refine wpList_nil ?_
        refine wp_seq ?_
        refine draw_begin (ms := m) (Ls := []) (by kernel_rfl) (N := 9) rfl (by kernel_rfl) H ?_; clear H; intro w H hR
        have hS : SW m [] w := H.sw (Le.refl m)
        have hL := Le.refl m
        refine dstep hR (i := 0) rfl (by kernel_rfl) (fun _ _ _ h => h) (fun _ _ H' => (Runs.move A rfl)) A rfl hS ?_; clear A a hR; intro a A hR
        refine dstep hR (i := 1) rfl (by kernel_rfl) (fun _ _ _ h => h) (fun _ _ H' => (Runs.move A rfl)) A rfl hS ?_; clear A a hR; intro a A hR
        refine dstep hR (i := 2) rfl (by kernel_rfl) (fun _ _ _ h => h) (fun _ _ H' => (Runs.move A rfl)) A rfl hS ?_; clear A a hR; intro a A hR
        refine dstep hR (i := 3) rfl (by kernel_rfl) (fun _ _ _ h => h) (fun _ _ H' => (Runs.add A rfl rfl (by omega))) A rfl hS ?_; clear A a hR; intro a A hR
        refine dstep hR (i := 4) rfl (by kernel_rfl) (fun _ _ _ h => h) (fun _ _ H' => (Runs.sliceLlo A rfl rfl SlC.h (by omega) (by omega))) A rfl hS ?_; clear A a hR; intro a A hR
        refine dstep hR (i := 5) rfl (by kernel_rfl) (fun _ _ _ h => h) (fun _ _ H' => (Runs.move A rfl)) A rfl hS ?_; clear A a hR; intro a A hR
        refine dstep hR (i := 6) rfl (by kernel_rfl) (fun _ _ _ h => h) (fun _ _ H' => (Runs.move A rfl)) A rfl hS ?_; clear A a hR; intro a A hR
        refine dstep hR (i := 7) rfl (by kernel_rfl) (fun _ _ _ h => h) (fun _ _ H' => (Runs.sliceLlo A rfl rfl SlC.h (by omega) (by omega))) A rfl hS ?_; clear A a hR; intro a A hR
        refine dlist hR (i := 8) rfl (by kernel_rfl) ?_
        have hR := hR.next (i := 8) (by kernel_rfl)
        have ei1 : ((i : Int) + ((1 : Nat) : Int)).toNat = i + 1 := by omega
        simp only [ei1, Int.toNat_natCast] at A
        rw [cutAd_some (show i + 1 < c2 by omega), cutAd_some (show i < c by omega), Nat.zero_add, Nat.zero_add] at A
        refine step_copy (q := n - i) (vs := xs.drop (i * 2)) A H rfl rfl (by show min _ _ = _; omega) hV (by rw [List.all_eq_true] at hone ⊢; exact fun x hx => hone x (List.mem_of_mem_drop hx)) (set_mid (by rw [List.length_append, hAl]; simp only [List.length_cons, List.length_nil]; omega) (by rw [hVl, List.length_drop]; simp only [List.length_cons, List.length_nil]; omega)) rfl ?_; clear A a; intro a w A H
        refine wpList_nil ?_
        clear hS; refine and_keep (H.sw hL) fun hS => ?_
        refine draw_done hR (by kernel_rfl) ?_
        clear hS hL hR
        refine wp_seq ?_
        refine wp_region_lit ?_
        refine step (Runs.move A rfl) A rfl ?_; clear A a; intro a A
        refine step (Runs.assign A rfl) A rfl ?_; clear A a; intro a A
        refine wpList_nil ?_
        refine wp_ret ?_
        have hA2 := ins_take1 hct (show i * 2 ≤ n * 2 by omega)
        rw [hA2] at H hAl
        have H := H.block_row (k := n + 1) (c := c2) (size := 2) (xs := (xs.take (i * 2) ++ [u64 id, .slice adv nv cv] ++ xs.drop (i * 2))) (by simp only [List.length_append, hAl, hVl, List.length_cons, List.length_nil]; omega) (by omega) (by omega) (by simp only [List.length_append, hAl, hVl, List.length_cons, List.length_nil, List.length_drop]; omega) (take_ins (by simp only [hAl, hVl, List.length_cons, List.length_nil]; omega))
        exact retV A rfl rfl hM H ⟨_, _, rfl, rfl⟩
      · have g3 := h3
        try simp only [decide_eq_true_eq, decide_eq_false_iff_not, Bool.not_eq_true', Bool.not_eq_false', ne_eq, Decidable.not_not, Int.not_lt, Int.not_le] at g3
        refine wp_skip ?_
        refine wp_seq ?_
        refine wp_region_lit ?_
        refine step (Runs.move A rfl) A rfl ?_; clear A a; intro a A
        refine step (Runs.move A rfl) A rfl ?_; clear A a; intro a A
        refine step (Runs.move A rfl) A rfl ?_; clear A a; intro a A
        refine step (Runs.add A rfl rfl (by omega)) A rfl ?_; clear A a; intro a A
        refine step (Runs.sliceLhi A rfl rfl SlC.h (by omega) (by omega)) A rfl ?_; clear A a; intro a A
        have en1 : ((n : Int) + ((1 : Nat) : Int)).toNat = n + 1 := by omega
        simp only [en1] at A
        rw [cutAd_some (show 0 < c by omega)] at A
        simp only [Nat.zero_mul, Nat.add_zero] at A
        refine step (Runs.assign A rfl) A rfl ?_; clear A a; intro a A
        refine wpList_nil ?_
        refine wp_seq ?_
        refine wp_seq ?_
        refine wp_region_lit ?_
        refine step (Runs.move A rfl) A rfl ?_; clear A a; intro a A
        refine step (Runs.move A rfl) A rfl ?_; clear A a; intro a A
        refine step (Runs.move A rfl) A rfl ?_; clear A a; intro a A
        refine step (Runs.move A rfl) A rfl ?_; clear A a; intro a A
        refine step (Runs.add A rfl rfl (by omega)) A rfl ?_; clear A a; intro a A
        refine step (Runs.sliceLlo A rfl rfl SlC.h (by omega) (by omega)) A rfl ?_; clear A a; intro a A
        have ei1 : ((i : Int) + ((1 : Nat) : Int)).toNat = i + 1 := by omega
        simp only [ei1] at A
        rw [cutAd_some (show i + 1 < c by omega), Nat.zero_add] at A
        refine step_overlaps (t := 31) (tR := 4) (fn := Tryz.f112) A H rfl rfl Tryz.func112 (by kernel_rfl) (by kernel_rfl) (by kernel_rfl) (by kernel_rfl) (by omega) rfl ?_; clear A a; intro a A
        refine step (Runs.not A rfl) A rfl ?_; clear A a; intro a A
        refine wpList_nil ?_
        refine cond_true A rfl rfl ?_
        refine wp_seq ?_
        refine draw_begin (ms := m) (Ls := []) (by kernel_rfl) (N := 9) rfl (by kernel_rfl) H ?_; clear H; intro w H hR
        have hS : SW m [] w := H.sw (Le.refl m)
        have hL := Le.refl m
        refine dstep hR (i := 0) rfl (by kernel_rfl) (fun _ _ _ h => h) (fun _ _ H' => (Runs.move A rfl)) A rfl hS ?_; clear A a hR; intro a A hR
        refine dstep hR (i := 1) rfl (by kernel_rfl) (fun _ _ _ h => h) (fun _ _ H' => (Runs.move A rfl)) A rfl hS ?_; clear A a hR; intro a A hR
        refine dstep hR (i := 2) rfl (by kernel_rfl) (fun _ _ _ h => h) (fun _ _ H' => (Runs.move A rfl)) A rfl hS ?_; clear A a hR; intro a A hR
        refine dstep hR (i := 3) rfl (by kernel_rfl) (fun _ _ _ h => h) (fun _ _ H' => (Runs.add A rfl rfl (by omega))) A rfl hS ?_; clear A a hR; intro a A hR
        refine dstep hR (i := 4) rfl (by kernel_rfl) (fun _ _ _ h => h) (fun _ _ H' => (Runs.sliceLlo A rfl rfl SlC.h (by omega) (by omega))) A rfl hS ?_; clear A a hR; intro a A hR
        refine dstep hR (i := 5) rfl (by kernel_rfl) (fun _ _ _ h => h) (fun _ _ H' => (Runs.move A rfl)) A rfl hS ?_; clear A a hR; intro a A hR
        refine dstep hR (i := 6) rfl (by kernel_rfl) (fun _ _ _ h => h) (fun _ _ H' => (Runs.move A rfl)) A rfl hS ?_; clear A a hR; intro a A hR
        refine dstep hR (i := 7) rfl (by kernel_rfl) (fun _ _ _ h => h) (fun _ _ H' => (Runs.sliceLlo A rfl rfl SlC.h (by omega) (by omega))) A rfl hS ?_; clear A a hR; intro a A hR
        refine dlist hR (i := 8) rfl (by kernel_rfl) ?_
        have hR := hR.next (i := 8) (by kernel_rfl)
        simp only [ei1, Int.toNat_natCast] at A
        rw [cutAd_some (show i + 1 < c by omega), cutAd_some (show i < c by omega), Nat.zero_add, Nat.zero_add] at A
        have hVl : (xs.drop (i * 2)).length = (n - i) * 2 := by rw [List.length_drop]; omega
        have hV : getN cur (i * 2) ((n - i) * 2) = some (xs.drop (i * 2)) := by rw [getN_of (by omega), ← ins_mid hct (show i * 2 ≤ n * 2 by omega)]; congr 2; omega
        have hE : ((cur.drop (i * 2)).take 2).length = 2 := by rw [List.length_take, List.length_drop]; omega
        have hAl : (cur.take (i * 2)).length = i * 2 := by rw [List.length_take]; omega
        have hT : cur.take ((i + 1) * 2) = cur.take (i * 2) ++ (cur.drop (i * 2)).take 2 := by rw [show (i + 1) * 2 = i * 2 + 2 by omega, List.take_add]
        refine step_copy (q := n - i) (vs := xs.drop (i * 2)) (cs' := cur.take (i * 2) ++ (cur.drop (i * 2)).take 2 ++ xs.drop (i * 2) ++ cur.drop ((i + 1) * 2 + (n - i) * 2)) A H rfl rfl (by show min _ _ = _; omega) hV (by rw [List.all_eq_true] at hone ⊢; exact fun x hx => hone x (List.mem_of_mem_drop hx)) (by rw [setN_put (by rw [hVl]; omega), hVl, hT]) rfl ?_; clear A a; intro a w A H
        refine wpList_nil ?_
        clear hS; refine and_keep (H.sw hL) fun hS => ?_
        refine draw_done hR (by kernel_rfl) ?_
        clear hS hL hR
        refine wp_seq ?_
        refine wp_region_lit ?_
        refine step (Runs.move A rfl) A rfl ?_; clear A a; intro a A
        refine step (Runs.move A rfl) A rfl ?_; clear A a; intro a A
        refine step (Runs.sliceLlo A rfl rfl SlC.h (by omega) (by omega)) A rfl ?_; clear A a; intro a A
        simp only [Int.toNat_natCast] at A
        rw [cutAd_some (show i < c by omega), Nat.zero_add] at A
        refine step (Runs.move A rfl) A rfl ?_; clear A a; intro a A
        refine step_copy (q := 1) (vs := [u64 id, .slice adv nv cv]) (cs' := cur.take (i * 2) ++ [u64 id, .slice adv nv cv] ++ xs.drop (i * 2) ++ cur.drop ((i + 1) * 2 + (n - i) * 2)) A H rfl rfl (by show min _ _ = _; omega) rfl rfl (by rw [setN_put (by simp only [List.length_append, hAl, hE, hVl, List.length_cons, List.length_nil]; omega)]; exact congrArg some (ins_shift hAl hE)) rfl ?_; clear A a; intro a w A H
        refine wpList_nil ?_
        refine wp_seq ?_
        refine wp_region_lit ?_
        refine step (Runs.move A rfl) A rfl ?_; clear A a; intro a A
        refine step (Runs.assign A rfl) A rfl ?_; clear A a; intro a A
        refine wpList_nil ?_
        refine wp_ret ?_
        have hA2 := ins_take1 hct (show i * 2 ≤ n * 2 by omega)
        rw [hA2] at H hAl
        have H := H.block_row (k := n + 1) (c := c) (size := 2) (xs := (xs.take (i * 2) ++ [u64 id, .slice adv nv cv] ++ xs.drop (i * 2))) (by simp only [List.length_append, hAl, hVl, List.length_cons, List.length_nil]; omega) (by omega) (by omega) (by simp only [List.length_append, hAl, hVl, List.length_cons, List.length_nil, List.length_drop]; omega) (take_ins (by simp only [hAl, hVl, List.length_cons, List.length_nil]; omega))
        exact retV A rfl rfl hM H ⟨_, _, rfl, rfl⟩
end Sl
end Go.Proofs.YtanhehbfbakdcaaGreatDoor
/- Stores: Put, Get: walks, printed by my gen.py out of annotations. -/
set_option linter.unusedSimpArgs false
set_option linter.unusedVariables false
namespace Go.Proofs.YtanhehbfbakdcaaGreatDoor
namespace Sl
open Go

theorem atP_spec {l : List Obj} {id : UInt64} (h : atP l id = true) : ∃ x, l[lbP l id]? = some x ∧ x.id = id := by
  unfold atP at h
  cases hx : l[lbP l id]? with
  | none => rw [hx] at h; cases h
  | some x => rw [hx] at h; exact ⟨x, rfl, by simpa using h⟩
theorem OR.single {m : Mem} {o : Obj} {v : Value} (hv : Dat m v o.data) : OR m [u64 o.id, v] [o] := ⟨rfl, hv, trivial⟩
theorem take_put {A O R : List Value} {p k : Nat} (hA : A.length = p) (hO : O.length = 2) (hk : p + 2 ≤ k) : (A ++ O ++ R).take k = A ++ O ++ R.take (k - (p + 2)) := by
  rw [List.take_append, List.take_of_length_le (by simp [hA, hO]; omega)]
  simp [hA, hO]
def getP (l : List Obj) (id : UInt64) : Option (List UInt8) := if atP l id then (l[lbP l id]?).bind fun o => if sndP o then some o.data else none else none
def putP (l : List Obj) (d : List UInt8) : List Obj :=
  if atP l (dig d) then (if (l[lbP l (dig d)]?).any sndP then l else l.set (lbP l (dig d)) ⟨dig d, d⟩)
  else l.take (lbP l (dig d)) ++ [⟨dig d, d⟩] ++ l.drop (lbP l (dig d))
theorem OR.set {m : Mem} {o : Obj} {v : Value} (hv : Dat m v o.data) : ∀ {xs : List Value} {l : List Obj} (i : Nat), i < l.length → OR m xs l → OR m (xs.take (i * 2) ++ [u64 o.id, v] ++ xs.drop (i * 2 + 2)) (l.set i o)
  | [], [], i, h, _ => by simp at h
  | [], _ :: _, _, _, h => h.elim
  | [_], _, _, _, h => (by cases h)
  | _ :: _ :: _, [], _, _, h => h.elim
  | a :: w :: xs, p :: l, 0, _, ⟨_, _, h⟩ => ⟨rfl, hv, by simpa using h⟩
  | a :: w :: xs, p :: l, i + 1, hi, ⟨h1, h2, h⟩ => by
    have ih := OR.set hv i (by simpa using hi) h
    rw [show (i + 1) * 2 = i * 2 + 1 + 1 by omega]
    exact ⟨h1, h2, by simpa using ih⟩

theorem c_objects_Get {ad : Option Addr} {n c : Nat} {l : List Obj} {id : UInt64} {m : Mem} (hl : Objs m ad n c l) (hb : n ≤ 1100000) (hs : Srt l) : Spec Tryz.prog 56 #[.slice ad n c, u64 id] m [] (RetF fun m' v => match getP l id with | some d => ∃ u, v = .tuple #[u, .int .i64 0] ∧ Dat m' u d | none => v = .tuple #[.slice none 0 0, .int .i64 180]) := by
  refine Spec.enter0 Tryz.func56 rfl 29 Tryz.ntmps56 rfl fun a w0 Lf A H => ?_
  have hM := Le.refl m
  have hn := hl.1
  have hcap := hl.cap
  have hmx : maxLen = 9223372036854775807 := rfl
  refine wp_seq ?_
  refine wp_region_lit ?_
  refine step (Runs.assign A rfl) A rfl ?_; clear A a; intro a A
  refine step (Runs.assign A rfl) A rfl ?_; clear A a; intro a A
  refine wpList_nil ?_
  refine wp_seq ?_
  refine wp_region_lit ?_
  refine step (Runs.move A rfl) A rfl ?_; clear A a; intro a A
  refine step (Runs.move A rfl) A rfl ?_; clear A a; intro a A
  refine step_callF A rfl rfl (c_objects_find hl (by omega) hs) H ?_
  rintro v1_2 a w m hm rfl A H
  have hM := hM.trans hm
  have hl := hl.mono hm
  refine step (Runs.move A rfl) A rfl ?_; clear A a; intro a A
  refine step (Runs.extract A rfl rfl) A rfl ?_; clear A a; intro a A
  refine step (Runs.extract A rfl rfl) A rfl ?_; clear A a; intro a A
  refine step (Runs.assign A rfl) A rfl ?_; clear A a; intro a A
  refine step (Runs.assign A rfl) A rfl ?_; clear A a; intro a A
  refine wpList_nil ?_
  refine wp_seq ?_
  refine wp_seq ?_
  refine wp_region_lit ?_
  refine step (Runs.move A rfl) A rfl ?_; clear A a; intro a A
  refine step (Runs.not A rfl) A rfl ?_; clear A a; intro a A
  refine step (Runs.move A rfl) A rfl ?_; clear A a; intro a A
  refine onBool A (dj := 16) rfl (fun h1 => ?_) (fun h1 => ?_)
  · have g1 := h1
    try simp only [decide_eq_true_eq, decide_eq_false_iff_not, Bool.not_eq_true', Bool.not_eq_false', ne_eq, Decidable.not_not, Int.not_lt, Int.not_le] at g1
    refine stepSkip (dj := 16) rfl rfl h1 A rfl ?_; clear A a; intro a A
    refine stepSkip (dj := 16) rfl rfl h1 A rfl ?_; clear A a; intro a A
    refine stepSkip (dj := 16) rfl rfl h1 A rfl ?_; clear A a; intro a A
    refine stepSkip (dj := 16) rfl rfl h1 A rfl ?_; clear A a; intro a A
    refine stepSkip (dj := 16) rfl rfl h1 A rfl ?_; clear A a; intro a A
    refine stepSkip (dj := 16) rfl rfl h1 A rfl ?_; clear A a; intro a A
    refine step (Runs.pickT A rfl h1 rfl) A rfl ?_; clear A a; intro a A
    refine wpList_nil ?_
    refine cond_true A rfl rfl ?_
    refine wp_seq ?_
    refine wp_region_lit ?_
    refine step (Runs.assign A rfl) A rfl ?_; clear A a; intro a A
    refine step (Runs.assign A rfl) A rfl ?_; clear A a; intro a A
    refine wpList_nil ?_
    refine wp_ret ?_
    have e : getP l id = none := by rw [getP, if_neg (by simpa using h1)]
    exact retF2 A rfl rfl rfl hM H (by simp only [e])
  · have g1 := h1
    try simp only [decide_eq_true_eq, decide_eq_false_iff_not, Bool.not_eq_true', Bool.not_eq_false', ne_eq, Decidable.not_not, Int.not_lt, Int.not_le] at g1
    refine stepG (dj := 16) rfl rfl h1 (Runs.move A rfl) A rfl ?_; clear A a; intro a A
    refine stepG (dj := 16) rfl rfl h1 (Runs.move A rfl) A rfl ?_; clear A a; intro a A
    obtain ⟨x, hx, hxi⟩ := atP_spec (by simpa using g1)
    have hlb : lbP l id < l.length := (List.getElem?_eq_some_iff.1 hx).1
    obtain ⟨bb, off, cs, rfl, hfz, hcs⟩ := hl.all_ (by omega)
    obtain ⟨vx, hx1, hx2, hx3, hxd⟩ := hcs _ _ hx
    refine stepG (dj := 16) rfl rfl h1 (Runs.indexAddr A rfl rfl SlC.h (by omega) (by omega)) A rfl ?_; clear A a; intro a A
    refine stepG (dj := 16) rfl rfl h1 (Runs.ldN A H rfl (by rw [Int.toNat_natCast]; exact hx3)) A rfl ?_; clear A a; intro a A
    refine step_callFG (dj := 16) rfl rfl h1 A rfl rfl (c_objects_sound hxd) H ?_
    rintro v2_7 a w m hm rfl A H
    have hM := hM.trans hm
    have hl := hl.mono hm
    have hxd := hxd.mono hm
    refine stepG (dj := 16) rfl rfl h1 (Runs.not A rfl) A rfl ?_; clear A a; intro a A
    refine step (Runs.pickF A rfl h1 rfl) A rfl ?_; clear A a; intro a A
    refine wpList_nil ?_
    refine cond_split A rfl (fun h2 => ?_) (fun h2 => ?_)
    · have g2 := h2
      try simp only [decide_eq_true_eq, decide_eq_false_iff_not, Bool.not_eq_true', Bool.not_eq_false', ne_eq, Decidable.not_not, Int.not_lt, Int.not_le] at g2
      refine wp_seq ?_
      refine wp_region_lit ?_
      refine step (Runs.assign A rfl) A rfl ?_; clear A a; intro a A
      refine step (Runs.assign A rfl) A rfl ?_; clear A a; intro a A
      refine wpList_nil ?_
      refine wp_ret ?_
      have e : getP l id = none := by
        have hsx : sndP x = false := by simpa [sndP] using h2
        rw [getP, if_pos (by simpa using h1), hx]; simp [hsx]
      exact retF2 A rfl rfl rfl hM H (by simp only [e])
    · have g2 := h2
      try simp only [decide_eq_true_eq, decide_eq_false_iff_not, Bool.not_eq_true', Bool.not_eq_false', ne_eq, Decidable.not_not, Int.not_lt, Int.not_le] at g2
      refine wp_skip ?_
      refine wp_seq ?_
      refine wp_region_lit ?_
      refine step (Runs.move A rfl) A rfl ?_; clear A a; intro a A
      refine step (Runs.move A rfl) A rfl ?_; clear A a; intro a A
      obtain ⟨bb, off, cs, e0, hfz, hcs⟩ := hl.all_ (by omega)
      cases e0
      obtain ⟨vx, hx1, hx2, hx3, hxd⟩ := hcs _ _ hx
      refine step (Runs.indexAddr A rfl rfl SlC.h (by omega) (by omega)) A rfl ?_; clear A a; intro a A
      refine step (Runs.fa A rfl) A rfl ?_; clear A a; intro a A
      refine step (Runs.ld1 A H rfl (v := vx) (by rw [Int.toNat_natCast]; exact hx2)) A rfl ?_; clear A a; intro a A
      refine step (Runs.assign A rfl) A rfl ?_; clear A a; intro a A
      refine step (Runs.assign A rfl) A rfl ?_; clear A a; intro a A
      refine wpList_nil ?_
      refine wp_ret ?_
      have e : getP l id = some x.data := by
        have hsx : sndP x = true := by simpa [sndP] using h2
        rw [getP, if_pos (by simpa using h1), hx]; simp [hsx]
      exact retF2 A rfl rfl rfl hM H (by simp only [e]; exact ⟨_, rfl, hxd⟩)

theorem c_objects_Put {ad : Option Addr} {n c : Nat} {l : List Obj} {v0 : Value} {d : List UInt8} {m : Mem} (hl : Objs m ad n c l) (hb : n ≤ 1100000) (hs : Srt l) (hd : Dat m v0 d) : Spec Tryz.prog 47 #[.slice ad n c, v0] m [] (RetF fun m' v => ∃ ad' c', v = .tuple #[.slice ad' (putP l d).length c', u64 (dig d)] ∧ Objs m' ad' (putP l d).length c' (putP l d)) := by
  refine Spec.enter0 Tryz.func47 rfl 46 Tryz.ntmps47 rfl fun a w0 Lf A H => ?_
  have hM := Le.refl m
  obtain ⟨adq, nq, cq, rfl, hsd, hnd⟩ := hd
  obtain ⟨hn, xs, hXS, hOR⟩ := id hl
  have hcap := hl.cap
  have hmx : maxLen = 9223372036854775807 := rfl
  refine wp_seq ?_
  refine wp_region_lit ?_
  refine step (Runs.assign A rfl) A rfl ?_; clear A a; intro a A
  refine step (Runs.assign A rfl) A rfl ?_; clear A a; intro a A
  refine wpList_nil ?_
  refine wp_seq ?_
  refine wp_region_lit ?_
  refine step (Runs.move A rfl) A rfl ?_; clear A a; intro a A
  refine step_callF A rfl rfl (c_digest_Bytes hsd hnd) H ?_
  rintro v1_1 a w m hm rfl A H
  have hM := hM.trans hm
  have hl := hl.mono hm
  have hsd := hsd.mono hm
  have hXS := hXS.mono hm
  have hOR := hOR.mono hm
  refine step (Runs.assign A rfl) A rfl ?_; clear A a; intro a A
  refine wpList_nil ?_
  refine wp_seq ?_
  refine wp_region_lit ?_
  refine step (Runs.move A rfl) A rfl ?_; clear A a; intro a A
  refine step (Runs.move A rfl) A rfl ?_; clear A a; intro a A
  refine step_callF A rfl rfl (c_CloneB hsd hnd) H ?_
  rintro v2_2 a w m hm ⟨adk, nk, ck, rfl, hsk, hnk⟩ A H
  have hM := hM.trans hm
  have hl := hl.mono hm
  have hsd := hsd.mono hm
  have hXS := hXS.mono hm
  have hOR := hOR.mono hm
  refine step (Runs.build A rfl rfl rfl) A rfl ?_; clear A a; intro a A
  refine step_alloc A H rfl ?_; clear A a; intro b1 a w A H
  refine step_store A H rfl rfl rfl rfl rfl rfl ?_; intro w H
  refine wpList_nil ?_
  refine wp_seq ?_
  refine wp_region_lit ?_
  refine step (Runs.move A rfl) A rfl ?_; clear A a; intro a A
  refine step (Runs.move A rfl) A rfl ?_; clear A a; intro a A
  refine step_callF A rfl rfl (c_objects_find hl (by omega) hs) H ?_
  rintro v3_2 a w m hm rfl A H
  have hM := hM.trans hm
  have hl := hl.mono hm
  have hsd := hsd.mono hm
  have hXS := hXS.mono hm
  have hOR := hOR.mono hm
  have hsk := hsk.mono hm
  refine step (Runs.move A rfl) A rfl ?_; clear A a; intro a A
  refine step (Runs.extract A rfl rfl) A rfl ?_; clear A a; intro a A
  refine step (Runs.extract A rfl rfl) A rfl ?_; clear A a; intro a A
  refine step (Runs.assign A rfl) A rfl ?_; clear A a; intro a A
  refine step (Runs.assign A rfl) A rfl ?_; clear A a; intro a A
  refine wpList_nil ?_
  refine wp_seq ?_
  refine wp_block ?_
  refine wp_seq ?_
  refine wp_region_lit ?_
  refine step (Runs.move A rfl) A rfl ?_; clear A a; intro a A
  refine step (Runs.not A rfl) A rfl ?_; clear A a; intro a A
  refine step (Runs.assign A rfl) A rfl ?_; clear A a; intro a A
  refine wpList_nil ?_
  refine cond_split A rfl (fun h1 => ?_) (fun h1 => ?_)
  · have g1 := h1
    try simp only [decide_eq_true_eq, decide_eq_false_iff_not, Bool.not_eq_true', Bool.not_eq_false', ne_eq, Decidable.not_not, Int.not_lt, Int.not_le] at g1
    refine draw_begin (ms := m) (Ls := [pt b1 [u64 (dig d), .slice adk nk ck] 66]) (by kernel_rfl) (N := 7) rfl (by kernel_rfl) H ?_; clear H; intro w H hR
    have hS : SW m [pt b1 [u64 (dig d), .slice adk nk ck] 66] w := H.sw (Le.refl m)
    have hL := Le.refl m
    refine dstep hR (i := 0) rfl (by kernel_rfl) (fun _ _ _ h => h) (fun _ _ H' => (Runs.move A rfl)) A rfl hS ?_; clear A a hR; intro a A hR
    refine dstep hR (i := 2) rfl (by kernel_rfl) (fun _ _ _ h => h) (fun _ _ H' => (Runs.move A rfl)) A rfl hS ?_; clear A a hR; intro a A hR
    refine dstep hR (i := 3) rfl (by kernel_rfl) (fun _ _ _ h => h) (fun _ _ H' => (Runs.ldN A H' rfl rfl)) A rfl hS ?_; clear A a hR; intro a A hR
    refine draws_all hR (rs := [1, 4]) (by kernel_rfl) (by decide) ?_
    simp only [List.mem_cons, List.not_mem_nil, or_false, forall_eq_or_imp, forall_eq]
    refine ⟨?_, ?_⟩
    · refine dalt (i := 1) rfl ?_
      have hR := hR.next (i := 1) (by kernel_rfl)
      refine step_callS A rfl rfl (c_CloneO hXS hOR.one hb) H ?_
      rintro v5_1 a w m L' hm ⟨adc, cc, rfl, rfl⟩ A H
      simp only [List.cons_append, List.nil_append] at H
      have hM := hM.trans hm
      have hl := hl.mono hm
      have hsd := hsd.mono hm
      have hXS := hXS.mono hm
      have hOR := hOR.mono hm
      have hsk := hsk.mono hm
      have hL := hL.trans hm
      refine wpList_nil ?_
      clear hS; refine and_keep (H.sw hL) fun hS => ?_
      refine dlist hR (i := 4) rfl (by kernel_rfl) ?_
      have hR := hR.next (i := 4) (by kernel_rfl)
      refine step_slice A H rfl rfl rfl rfl rfl rfl ?_; intro b2 a w A H
      refine wpList_nil ?_
      clear hS; refine and_keep (H.sw hL) fun hS => ?_
      refine dlist hR (i := 5) rfl (by kernel_rfl) ?_
      have hR := hR.next (i := 5) (by kernel_rfl)
      refine step_callS A rfl rfl (c_InsertO (ad := adc) (n := n) (c := cc) (i := lbP l (dig d)) (b2 := b2) (adv := adk) (nv := nk) (cv := ck) (xs := xs) (id := dig d) (by have := lbP_le l (dig d); omega) hb hOR.one) H ?_
      rintro v5_5 a w m L' hm ⟨adi, ci, rfl, rfl⟩ A H
      simp only [List.cons_append, List.nil_append] at H
      have hM := hM.trans hm
      have hl := hl.mono hm
      have hsd := hsd.mono hm
      have hXS := hXS.mono hm
      have hOR := hOR.mono hm
      have hsk := hsk.mono hm
      have hL := hL.trans hm
      refine wpList_nil ?_
      clear hS; refine and_keep (H.sw hL) fun hS => ?_
      refine dstep hR (i := 6) rfl (by kernel_rfl) (fun _ _ _ h => h) (fun _ _ H' => (Runs.assign A rfl)) A rfl hS ?_; clear A a hR; intro a A hR
      refine draw_done hR (by kernel_rfl) ?_
      clear hS hL hR
      refine wp_seq ?_
      refine wp_region_lit ?_
      refine step (Runs.move A rfl) A rfl ?_; clear A a; intro a A
      refine step (Runs.move A rfl) A rfl ?_; clear A a; intro a A
      refine step (Runs.assign A rfl) A rfl ?_; clear A a; intro a A
      refine step (Runs.assign A rfl) A rfl ?_; clear A a; intro a A
      refine wpList_nil ?_
      refine wp_ret ?_
      have ha : atP l (dig d) = false := by simpa using h1
      have e : putP l d = l.take (lbP l (dig d)) ++ [⟨dig d, d⟩] ++ l.drop (lbP l (dig d)) := by rw [putP, if_neg (by rw [ha]; decide)]
      have hle := lbP_le l (dig d)
      have hlen : n + 1 = (putP l d).length := by rw [e]; simp only [List.length_append, List.length_take, List.length_drop, List.length_cons, List.length_nil]; omega
      have hOR2 : OR m (xs.take (lbP l (dig d) * 2) ++ [u64 (dig d), .slice adk nk ck] ++ xs.drop (lbP l (dig d) * 2)) (putP l d) := by rw [e]; exact ((hOR.take (lbP l (dig d))).app (OR.single (o := ⟨dig d, d⟩) ⟨_, _, _, rfl, hsk, hnk⟩)).app (hOR.drop (lbP l (dig d)))
      rw [hlen] at A
      obtain ⟨m2, hm2, hO, H⟩ := H.row_objs hOR2
      exact retF2 A rfl rfl rfl (hM.trans hm2) H ⟨_, _, rfl, hO⟩
    · refine dalt (i := 4) rfl ?_
      have hR := hR.next (i := 4) (by kernel_rfl)
      refine step_slice A H rfl rfl rfl rfl rfl rfl ?_; intro b2 a w A H
      refine wpList_nil ?_
      clear hS; refine and_keep (H.sw hL) fun hS => ?_
      refine dlist hR (i := 1) rfl (by kernel_rfl) ?_
      have hR := hR.next (i := 1) (by kernel_rfl)
      refine step_callS A rfl rfl (c_CloneO hXS hOR.one hb) H ?_
      rintro v5_1 a w m L' hm ⟨adc, cc, rfl, rfl⟩ A H
      simp only [List.cons_append, List.nil_append] at H
      have hM := hM.trans hm
      have hl := hl.mono hm
      have hsd := hsd.mono hm
      have hXS := hXS.mono hm
      have hOR := hOR.mono hm
      have hsk := hsk.mono hm
      have hL := hL.trans hm
      refine wpList_nil ?_
      clear hS; refine and_keep (H.sw hL) fun hS => ?_
      refine dlist hR (i := 5) rfl (by kernel_rfl) ?_
      have hR := hR.next (i := 5) (by kernel_rfl)
      refine step_callS A rfl rfl (c_InsertO (ad := adc) (n := n) (c := cc) (i := lbP l (dig d)) (b2 := b2) (adv := adk) (nv := nk) (cv := ck) (xs := xs) (id := dig d) (by have := lbP_le l (dig d); omega) hb hOR.one) H ?_
      rintro v5_5 a w m L' hm ⟨adi, ci, rfl, rfl⟩ A H
      simp only [List.cons_append, List.nil_append] at H
      have hM := hM.trans hm
      have hl := hl.mono hm
      have hsd := hsd.mono hm
      have hXS := hXS.mono hm
      have hOR := hOR.mono hm
      have hsk := hsk.mono hm
      have hL := hL.trans hm
      refine wpList_nil ?_
      clear hS; refine and_keep (H.sw hL) fun hS => ?_
      refine dstep hR (i := 6) rfl (by kernel_rfl) (fun _ _ _ h => h) (fun _ _ H' => (Runs.assign A rfl)) A rfl hS ?_; clear A a hR; intro a A hR
      refine draw_done hR (by kernel_rfl) ?_
      clear hS hL hR
      refine wp_seq ?_
      refine wp_region_lit ?_
      refine step (Runs.move A rfl) A rfl ?_; clear A a; intro a A
      refine step (Runs.move A rfl) A rfl ?_; clear A a; intro a A
      refine step (Runs.assign A rfl) A rfl ?_; clear A a; intro a A
      refine step (Runs.assign A rfl) A rfl ?_; clear A a; intro a A
      refine wpList_nil ?_
      refine wp_ret ?_
      have ha : atP l (dig d) = false := by simpa using h1
      have e : putP l d = l.take (lbP l (dig d)) ++ [⟨dig d, d⟩] ++ l.drop (lbP l (dig d)) := by rw [putP, if_neg (by rw [ha]; decide)]
      have hle := lbP_le l (dig d)
      have hlen : n + 1 = (putP l d).length := by rw [e]; simp only [List.length_append, List.length_take, List.length_drop, List.length_cons, List.length_nil]; omega
      have hOR2 : OR m (xs.take (lbP l (dig d) * 2) ++ [u64 (dig d), .slice adk nk ck] ++ xs.drop (lbP l (dig d) * 2)) (putP l d) := by rw [e]; exact ((hOR.take (lbP l (dig d))).app (OR.single (o := ⟨dig d, d⟩) ⟨_, _, _, rfl, hsk, hnk⟩)).app (hOR.drop (lbP l (dig d)))
      rw [hlen] at A
      obtain ⟨m2, hm2, hO, H⟩ := H.row_objs hOR2
      exact retF2 A rfl rfl rfl (hM.trans hm2) H ⟨_, _, rfl, hO⟩
  · have g1 := h1
    try simp only [decide_eq_true_eq, decide_eq_false_iff_not, Bool.not_eq_true', Bool.not_eq_false', ne_eq, Decidable.not_not, Int.not_lt, Int.not_le] at g1
    refine wp_seq ?_
    refine wp_region_lit ?_
    refine step (Runs.move A rfl) A rfl ?_; clear A a; intro a A
    refine step (Runs.move A rfl) A rfl ?_; clear A a; intro a A
    obtain ⟨x, hx, hxi⟩ := atP_spec (by simpa using g1)
    have hlb : lbP l (dig d) < l.length := (List.getElem?_eq_some_iff.1 hx).1
    obtain ⟨bb, off, cs, e0, hfz, hcs⟩ := hl.all_ (by omega)
    rw [e0] at A
    obtain ⟨vx, hx1, hx2, hx3, hxd⟩ := hcs _ _ hx
    refine step (Runs.indexAddr A rfl rfl SlC.h (by omega) (by omega)) A rfl ?_; clear A a; intro a A
    refine step (Runs.ldN A H rfl (by rw [Int.toNat_natCast]; exact hx3)) A rfl ?_; clear A a; intro a A
    rw [← e0] at A
    refine step_callF A rfl rfl (c_objects_sound hxd) H ?_
    rintro v6_4 a w m hm rfl A H
    have hM := hM.trans hm
    have hl := hl.mono hm
    have hsd := hsd.mono hm
    have hXS := hXS.mono hm
    have hOR := hOR.mono hm
    have hsk := hsk.mono hm
    have hxd := hxd.mono hm
    refine step (Runs.not A rfl) A rfl ?_; clear A a; intro a A
    refine step (Runs.assign A rfl) A rfl ?_; clear A a; intro a A
    refine wpList_nil ?_
    refine cond_split A rfl (fun h2 => ?_) (fun h2 => ?_)
    · have g2 := h2
      try simp only [decide_eq_true_eq, decide_eq_false_iff_not, Bool.not_eq_true', Bool.not_eq_false', ne_eq, Decidable.not_not, Int.not_lt, Int.not_le] at g2
      refine wp_seq ?_
      refine wp_region_lit ?_
      refine step (Runs.move A rfl) A rfl ?_; clear A a; intro a A
      refine step_callS A rfl rfl (c_CloneO hXS hOR.one hb) H ?_
      rintro v7_1 a w m L' hm ⟨adc, cc, rfl, rfl⟩ A H
      simp only [List.cons_append, List.nil_append] at H
      have hM := hM.trans hm
      have hl := hl.mono hm
      have hsd := hsd.mono hm
      have hXS := hXS.mono hm
      have hOR := hOR.mono hm
      have hsk := hsk.mono hm
      have hxd := hxd.mono hm
      refine step (Runs.assign A rfl) A rfl ?_; clear A a; intro a A
      refine wpList_nil ?_
      refine wp_region_lit ?_
      refine step (Runs.move A rfl) A rfl ?_; clear A a; intro a A
      refine step (Runs.move A rfl) A rfl ?_; clear A a; intro a A
      refine step (Runs.ldN A H rfl rfl) A rfl ?_; clear A a; intro a A
      obtain ⟨_, hncc, _⟩ := H.row_len
      obtain ⟨g, cur, rfl, hxl', hnc', hcm', hcl, hct, H⟩ := St.row_block (L := pt b1 [u64 (dig d), .slice adk nk ck] 66 :: Lf) H (by omega)
      refine step (Runs.indexAddr A rfl rfl SlC.h (by omega) (by omega)) A rfl ?_; clear A a; intro a A
      refine step_store (cs' := cur.take (lbP l (dig d) * 2) ++ [u64 (dig d), .slice adk nk ck] ++ cur.drop (lbP l (dig d) * 2 + 2)) A H rfl rfl rfl rfl rfl (by rw [Int.toNat_natCast, Nat.zero_add]; exact setN_put (cs := cur) (vs := [u64 (dig d), .slice adk nk ck]) (by show _ + 2 ≤ _; omega)) ?_; intro w H
      refine wpList_nil ?_
      refine wp_seq ?_
      refine wp_region_lit ?_
      refine step (Runs.move A rfl) A rfl ?_; clear A a; intro a A
      refine step (Runs.move A rfl) A rfl ?_; clear A a; intro a A
      refine step (Runs.assign A rfl) A rfl ?_; clear A a; intro a A
      refine step (Runs.assign A rfl) A rfl ?_; clear A a; intro a A
      refine wpList_nil ?_
      refine wp_ret ?_
      have hsx : sndP x = false := by simpa [sndP] using h2
      have e : putP l d = l.set (lbP l (dig d)) ⟨dig d, d⟩ := by rw [putP, if_pos (by simpa using h1), hx]; simp [hsx]
      have hlen : n = (putP l d).length := by rw [e, List.length_set]; exact hn
      have hp : lbP l (dig d) * 2 + 2 ≤ n * 2 := by omega
      have hAl : (cur.take (lbP l (dig d) * 2)).length = lbP l (dig d) * 2 := by rw [List.length_take]; omega
      have hxl2 := hXS.1
      have hOR2 : OR m (xs.take (lbP l (dig d) * 2) ++ [u64 (dig d), .slice adk nk ck] ++ xs.drop (lbP l (dig d) * 2 + 2)) (putP l d) := by rw [e]; exact OR.set (o := ⟨dig d, d⟩) ⟨_, _, _, rfl, hsk, hnk⟩ (lbP l (dig d)) hlb hOR
      have H := H.block_row (k := n) (c := cc) (size := 2) (xs := xs.take (lbP l (dig d) * 2) ++ [u64 (dig d), .slice adk nk ck] ++ xs.drop (lbP l (dig d) * 2 + 2)) (by simp only [List.length_append, List.length_take, List.length_drop, List.length_cons, List.length_nil]; omega) (by omega) (by omega) (by simp only [List.length_append, List.length_take, List.length_drop, List.length_cons, List.length_nil]; omega) (by rw [← ins_take1 hct (show lbP l (dig d) * 2 ≤ n * 2 by omega), ← ins_mid hct hp]; exact take_put hAl rfl (by omega))
      rw [hlen] at A H
      obtain ⟨m2, hm2, hO, H⟩ := H.row_objs hOR2
      exact retF2 A rfl rfl rfl (hM.trans hm2) H ⟨_, _, rfl, hO⟩
    · have g2 := h2
      try simp only [decide_eq_true_eq, decide_eq_false_iff_not, Bool.not_eq_true', Bool.not_eq_false', ne_eq, Decidable.not_not, Int.not_lt, Int.not_le] at g2
      refine wp_skip ?_
      refine wp_seq ?_
      refine wp_region_lit ?_
      refine step (Runs.move A rfl) A rfl ?_; clear A a; intro a A
      refine step (Runs.move A rfl) A rfl ?_; clear A a; intro a A
      refine step (Runs.assign A rfl) A rfl ?_; clear A a; intro a A
      refine step (Runs.assign A rfl) A rfl ?_; clear A a; intro a A
      refine wpList_nil ?_
      refine wp_ret ?_
      have hsx : sndP x = true := by simpa [sndP] using h2
      have e : putP l d = l := by rw [putP, if_pos (by simpa using h1), hx]; simp [hsx]
      exact retF2 A rfl rfl rfl hM H ⟨_, _, by rw [e, ← hn], by rw [e, ← hn]; exact hl⟩
end Sl
end Go.Proofs.YtanhehbfbakdcaaGreatDoor
/- Stores: Union: walks, printed by my gen.py out of annotations. -/
set_option linter.unusedSimpArgs false
set_option linter.unusedVariables false
namespace Go.Proofs.YtanhehbfbakdcaaGreatDoor
namespace Sl
open Go

def pkP (x y : Obj) : Obj := if (!sndP x && sndP y) = true then y else x
def mergeP : List Obj → List Obj → List Obj
  | [], b => b
  | x :: a, [] => x :: a
  | x :: a, y :: b => if x.id < y.id then x :: mergeP a (y :: b) else if y.id < x.id then y :: mergeP (x :: a) b else pkP x y :: mergeP a b
termination_by a b => a.length + b.length
theorem mergeP_nil (a : List Obj) : mergeP a [] = a := by cases a <;> simp [mergeP]
theorem mergeP_nil' (b : List Obj) : mergeP [] b = b := by simp [mergeP]
theorem cons_of {l : List Obj} {x : Obj} (h : l[0]? = some x) : l = x :: l.drop 1 := by cases l with
  | nil => simp at h
  | cons y r => have : y = x := by simpa using h
                subst this; rfl
theorem mergeP_lt {a b : List Obj} {x y : Obj} (hx : a[0]? = some x) (hy : b[0]? = some y) (h : x.id < y.id) : mergeP a b = x :: mergeP (a.drop 1) b := by
  rw [cons_of hx, cons_of hy]; simp [mergeP, h]
theorem mergeP_gt {a b : List Obj} {x y : Obj} (hx : a[0]? = some x) (hy : b[0]? = some y) (h1 : ¬ x.id < y.id) (h : y.id < x.id) : mergeP a b = y :: mergeP a (b.drop 1) := by
  rw [cons_of hx, cons_of hy]; simp [mergeP, h, h1]
theorem mergeP_eq {a b : List Obj} {x y : Obj} (hx : a[0]? = some x) (hy : b[0]? = some y) (h1 : ¬ x.id < y.id) (h : ¬ y.id < x.id) : mergeP a b = pkP x y :: mergeP (a.drop 1) (b.drop 1) := by
  rw [cons_of hx, cons_of hy]; simp [mergeP, h, h1]
theorem cmpP_neg {a b : UInt64} (h : cmpP a b = -1) : a < b := (cmpP_lt a b).1 (by omega)
theorem cmpP_pos {a b : UInt64} (h : cmpP a b = 1) : ¬ a < b ∧ b < a := by
  unfold cmpP at h; split at h
  · omega
  · rename_i h1; split at h
    · rename_i h2; exact ⟨h1, h2⟩
    · omega
theorem cmpP_els {a b : UInt64} (h : cmpP a b ≠ -1) (h' : cmpP a b ≠ 1) : ¬ a < b ∧ ¬ b < a := by
  unfold cmpP at h h'; split at h
  · exact absurd rfl h
  · rename_i h1; rw [if_neg h1] at h'; split at h'
    · exact absurd rfl h'
    · rename_i h2; exact ⟨h1, h2⟩

theorem c_objects_Union_1 {i : UInt64} {ad : Option Addr} {n c : Nat} {m : Mem} : Spec Tryz.prog 51 #[.agg #[u64 i, .slice ad n c]] m [] (RetE (u64 i)) := by
  refine Spec.enter0 Tryz.func51 rfl 5 Tryz.ntmps51 rfl fun a w0 Lf A H => ?_
  have hM := Le.refl m
  refine wp_seq ?_
  refine wp_region_lit ?_
  refine step_box A H rfl (by simp only [Value.cells, List.toList_toArray]; rfl) rfl ?_; intro b1 a w A H
  refine step (Runs.assign A rfl) A rfl ?_; clear A a; intro a A
  refine wpList_nil ?_
  refine wp_seq ?_
  refine wp_region_lit ?_
  refine step (Runs.fa A rfl) A rfl ?_; clear A a; intro a A
  refine step (Runs.ld1 A H rfl rfl) A rfl ?_; clear A a; intro a A
  refine step (Runs.assign A rfl) A rfl ?_; clear A a; intro a A
  refine wpList_nil ?_
  refine wp_ret ?_
  exact retF A rfl rfl hM H rfl

theorem c_objects_Union_2 {x y : Obj} {ad ad2 : Option Addr} {n c n2 c2 : Nat} {m : Mem} (hx : Dat m (.slice ad n c) x.data) (hy : Dat m (.slice ad2 n2 c2) y.data) : Spec Tryz.prog 52 #[.agg #[u64 x.id, .slice ad n c], .agg #[u64 y.id, .slice ad2 n2 c2]] m [] (RetF fun m' v => ∃ ad3 n3 c3, v = .agg #[u64 (pkP x y).id, .slice ad3 n3 c3] ∧ Dat m' (.slice ad3 n3 c3) (pkP x y).data) := by
  refine Spec.enter0 Tryz.func52 rfl 14 Tryz.ntmps52 rfl fun a w0 Lf A H => ?_
  have hM := Le.refl m
  refine wp_seq ?_
  refine wp_region_lit ?_
  refine step_box A H rfl (by simp only [Value.cells, List.toList_toArray]; rfl) rfl ?_; intro b1 a w A H
  refine step_box A H rfl (by simp only [Value.cells, List.toList_toArray]; rfl) rfl ?_; intro b2 a w A H
  refine step_alloc A H rfl ?_; clear A a; intro b3 a w A H
  refine wpList_nil ?_
  refine wp_seq ?_
  refine wp_seq ?_
  refine wp_region_lit ?_
  refine step (Runs.ldN A H rfl rfl) A rfl ?_; clear A a; intro a A
  refine step_callF A rfl rfl (c_objects_sound hx) H ?_
  rintro v1_1 a w m hm rfl A H
  have hM := hM.trans hm
  have hx := hx.mono hm
  have hy := hy.mono hm
  refine step (Runs.not A rfl) A rfl ?_; clear A a; intro a A
  refine step (Runs.move A rfl) A rfl ?_; clear A a; intro a A
  refine onBool A (dj := 8) rfl (fun h1 => ?_) (fun h1 => ?_)
  · have g1 := h1
    try simp only [decide_eq_true_eq, decide_eq_false_iff_not, Bool.not_eq_true', Bool.not_eq_false', ne_eq, Decidable.not_not, Int.not_lt, Int.not_le] at g1
    refine stepG (dj := 8) rfl rfl h1 (Runs.ldN A H rfl rfl) A rfl ?_; clear A a; intro a A
    refine step_callFG (dj := 8) rfl rfl h1 A rfl rfl (c_objects_sound hy) H ?_
    rintro v1_5 a w m hm rfl A H
    have hM := hM.trans hm
    have hx := hx.mono hm
    have hy := hy.mono hm
    refine step (Runs.pickT A rfl h1 rfl) A rfl ?_; clear A a; intro a A
    refine wpList_nil ?_
    refine cond_split A rfl (fun h2 => ?_) (fun h2 => ?_)
    · have g2 := h2
      try simp only [decide_eq_true_eq, decide_eq_false_iff_not, Bool.not_eq_true', Bool.not_eq_false', ne_eq, Decidable.not_not, Int.not_lt, Int.not_le] at g2
      refine wp_seq ?_
      refine wp_region_lit ?_
      refine step (Runs.ldN A H rfl rfl) A rfl ?_; clear A a; intro a A
      refine step_store A H rfl rfl rfl rfl rfl rfl ?_; intro w H
      refine wpList_nil ?_
      refine wp_ret ?_
      have e : pkP x y = y := by
        have q1 : sndP x = false := by simpa [sndP] using h1
        have q2 : sndP y = true := by simpa [sndP] using h2
        simp [pkP, q1, q2]
      exact retFc A rfl rfl hM H rfl (by rw [e]; exact ⟨_, _, _, rfl, hy⟩)
    · have g2 := h2
      try simp only [decide_eq_true_eq, decide_eq_false_iff_not, Bool.not_eq_true', Bool.not_eq_false', ne_eq, Decidable.not_not, Int.not_lt, Int.not_le] at g2
      refine wp_skip ?_
      refine wp_seq ?_
      refine wp_region_lit ?_
      refine step (Runs.ldN A H rfl rfl) A rfl ?_; clear A a; intro a A
      refine step_store A H rfl rfl rfl rfl rfl rfl ?_; intro w H
      refine wpList_nil ?_
      refine wp_ret ?_
      have e : pkP x y = x := by
        have q2 : sndP y = false := by simpa [sndP] using h2
        simp [pkP, q2]
      exact retFc A rfl rfl hM H rfl (by rw [e]; exact ⟨_, _, _, rfl, hx⟩)
  · have g1 := h1
    try simp only [decide_eq_true_eq, decide_eq_false_iff_not, Bool.not_eq_true', Bool.not_eq_false', ne_eq, Decidable.not_not, Int.not_lt, Int.not_le] at g1
    refine stepSkip (dj := 8) rfl rfl h1 A rfl ?_; clear A a; intro a A
    refine stepSkip (dj := 8) rfl rfl h1 A rfl ?_; clear A a; intro a A
    refine step (Runs.pickF A rfl h1 rfl) A rfl ?_; clear A a; intro a A
    refine wpList_nil ?_
    refine cond_false A rfl rfl ?_
    refine wp_skip ?_
    refine wp_seq ?_
    refine wp_region_lit ?_
    refine step (Runs.ldN A H rfl rfl) A rfl ?_; clear A a; intro a A
    refine step_store A H rfl rfl rfl rfl rfl rfl ?_; intro w H
    refine wpList_nil ?_
    refine wp_ret ?_
    have e : pkP x y = x := by
      have q1 : sndP x = true := by simpa [sndP] using h1
      simp [pkP, q1]
    exact retFc A rfl rfl hM H rfl (by rw [e]; exact ⟨_, _, _, rfl, hx⟩)

theorem c_merge {ada adb : Option Addr} {na ca nb cb : Nat} {la lb : List Obj} {m : Mem} (ha : Objs m ada na ca la) (hb : Objs m adb nb cb lb) (hna : na ≤ 1100000) (hnb : nb ≤ 1100000) : Spec Tryz.prog 50 #[.slice ada na ca, .slice adb nb cb, .func (.func 51) #[] #[], .func (.func 52) #[] #[]] m [] (RetF fun m' v => ∃ ad' c', v = .slice ad' (mergeP la lb).length c' ∧ Objs m' ad' (mergeP la lb).length c' (mergeP la lb)) := by
  refine Spec.enter0 Tryz.func50 rfl 69 Tryz.ntmps50 rfl fun a w0 Lf A H => ?_
  have hM := Le.refl m
  have hmx : maxLen = 9223372036854775807 := rfl
  have hla := ha.1
  have hlb := hb.1
  refine wp_seq ?_
  refine wp_region_lit ?_
  refine step (Runs.assign A rfl) A rfl ?_; clear A a; intro a A
  refine wpList_nil ?_
  refine wp_seq ?_
  refine wp_region_lit ?_
  refine step (Runs.assign A rfl) A rfl ?_; clear A a; intro a A
  refine wpList_nil ?_
  refine wp_seq ?_
  refine wp_block ?_
  have H := H.row_nil 66 2
  refine wp_loop_ghost (fun q a w => ∃ (l1 l2 acc : List Obj) (ad1 ad2 ad3 : Option Addr) (n1 c1 n2 c2 c3 : Nat) (xs : List Value) (m' : Mem), q = n1 + n2 + 1 ∧ (mergeP la lb = acc ++ mergeP l1 l2 ∧ Objs m' ad1 n1 c1 l1 ∧ Objs m' ad2 n2 c2 l2 ∧ OR m' xs acc ∧ acc.length + n1 + n2 ≤ 2200000) ∧ Le m m' ∧ Fr 69 a [(0, .slice ad1 n1 c1), (1, .slice ad2 n2 c2), (2, .func (.func 51) #[] #[]), (3, .func (.func 52) #[] #[]), (9, .slice ad3 acc.length c3)] [] ∧ St w0 w m' (row 66 2 ad3 acc.length c3 xs :: Lf)) _ ⟨la, lb, [], ada, adb, none, na, ca, nb, cb, 0, [], m, rfl, ⟨rfl, ha, hb, trivial, by simp; omega⟩, Le.refl m, (Fr.cons A rfl (Fr.cons A rfl (Fr.cons A rfl (Fr.cons A rfl (Fr.cons A rfl (Fr.nil A)))))), H⟩ ?_
  clear A H; rintro q a w ⟨l1, l2, acc, ad1, ad2, ad3, n1, c1, n2, c2, c3, xs, m, rfl, hinv, hm, A, H⟩
  have hM := hM.trans hm
  have hl1 := hm
  obtain ⟨hg, p1, p2, hxs, hbd⟩ := hinv
  have e1 := p1.1
  have e2 := p2.1
  have k1 := p1.cap
  have k2 := p2.cap
  refine wp_seq ?_
  refine wp_seq ?_
  refine wp_region_lit ?_
  refine step (Runs.move A rfl) A rfl ?_; clear A a; intro a A
  refine step (Runs.lenL A rfl SlC.h) A rfl ?_; clear A a; intro a A
  refine step (Runs.gtr A rfl rfl) A rfl ?_; clear A a; intro a A
  refine step (Runs.move A rfl) A rfl ?_; clear A a; intro a A
  refine onBool A (dj := 13) rfl (fun h1 => ?_) (fun h1 => ?_)
  · have g1 := h1
    try simp only [decide_eq_true_eq, decide_eq_false_iff_not, Bool.not_eq_true', Bool.not_eq_false', ne_eq, Decidable.not_not, Int.not_lt, Int.not_le] at g1
    refine stepG (dj := 13) rfl rfl h1 (Runs.move A rfl) A rfl ?_; clear A a; intro a A
    refine stepG (dj := 13) rfl rfl h1 (Runs.lenL A rfl SlC.h) A rfl ?_; clear A a; intro a A
    refine stepG (dj := 13) rfl rfl h1 (Runs.gtr A rfl rfl) A rfl ?_; clear A a; intro a A
    refine step (Runs.pickT A rfl h1 rfl) A rfl ?_; clear A a; intro a A
    refine wpList_nil ?_
    refine cond_split A rfl (fun h2 => ?_) (fun h2 => ?_)
    · have g2 := h2
      try simp only [decide_eq_true_eq, decide_eq_false_iff_not, Bool.not_eq_true', Bool.not_eq_false', ne_eq, Decidable.not_not, Int.not_lt, Int.not_le] at g2
      refine wp_skip ?_
      refine wp_block ?_
      refine wp_seq ?_
      refine draw_begin (ms := m) (Ls := []) (by kernel_rfl) (N := 11) rfl (by kernel_rfl) H ?_; clear H; intro w H hR
      have hS : SW m [] w := H.sw (Le.refl m)
      have hL := Le.refl m
      obtain ⟨x, hx⟩ := ex_at (l := l1) (i := 0) (by omega)
      obtain ⟨y, hy⟩ := ex_at (l := l2) (i := 0) (by omega)
      obtain ⟨bb, off, cs, rfl, hfz, hcs⟩ := p1.all_ (by omega)
      obtain ⟨bb2, off2, cs2, rfl, hfz2, hcs2⟩ := p2.all_ (by omega)
      obtain ⟨vx, hx1, hx2, hx3, hxd⟩ := hcs _ _ hx
      obtain ⟨vy, hy1, hy2, hy3, hyd⟩ := hcs2 _ _ hy
      obtain ⟨adx, nx, cx, rfl, hsx, hnx⟩ := hxd
      have hxd : Dat m (.slice adx nx cx) x.data := ⟨_, _, _, rfl, hsx, hnx⟩
      obtain ⟨ady, ny, cy, rfl, hsy, hny⟩ := hyd
      have hyd : Dat m (.slice ady ny cy) y.data := ⟨_, _, _, rfl, hsy, hny⟩
      refine dstep hR (i := 0) rfl (by kernel_rfl) (fun _ _ _ h => h) (fun _ _ H' => (Runs.move A rfl)) A rfl hS ?_; clear A a hR; intro a A hR
      refine dstep hR (i := 1) rfl (by kernel_rfl) (fun _ _ _ h => h) (fun _ _ H' => (Runs.move A rfl)) A rfl hS ?_; clear A a hR; intro a A hR
      refine dstep hR (i := 2) rfl (by kernel_rfl) (fun _ _ _ h => h) (fun _ _ H' => (Runs.indexAddr A rfl rfl SlC.h (by omega) (by omega))) A rfl hS ?_; clear A a hR; intro a A hR
      refine dstep hR (i := 3) rfl (by kernel_rfl) (fun _ _ _ h => h) (fun _ _ H' => (Runs.ldN A H' rfl (by simpa using hx3))) A rfl hS ?_; clear A a hR; intro a A hR
      refine dstep hR (i := 5) rfl (by kernel_rfl) (fun _ _ _ h => h) (fun _ _ H' => (Runs.move A rfl)) A rfl hS ?_; clear A a hR; intro a A hR
      refine dstep hR (i := 6) rfl (by kernel_rfl) (fun _ _ _ h => h) (fun _ _ H' => (Runs.move A rfl)) A rfl hS ?_; clear A a hR; intro a A hR
      refine dstep hR (i := 7) rfl (by kernel_rfl) (fun _ _ _ h => h) (fun _ _ H' => (Runs.indexAddr A rfl rfl SlC.h (by omega) (by omega))) A rfl hS ?_; clear A a hR; intro a A hR
      refine dstep hR (i := 8) rfl (by kernel_rfl) (fun _ _ _ h => h) (fun _ _ H' => (Runs.ldN A H' rfl (by simpa using hy3))) A rfl hS ?_; clear A a hR; intro a A hR
      refine dlist hR (i := 4) rfl (by kernel_rfl) ?_
      have hR := hR.next (i := 4) (by kernel_rfl)
      refine step_cloF A rfl rfl rfl (c_objects_Union_1) H ?_
      rintro v3_4 a w m hm rfl A H
      have hM := hM.trans hm
      have hl1 := hl1.trans hm
      have p1 := p1.mono hm
      have p2 := p2.mono hm
      have hxs := hxs.mono hm
      have hxd := hxd.mono hm
      have hyd := hyd.mono hm
      have hfz := hfz.mono hm
      have hfz2 := hfz2.mono hm
      have hL := hL.trans hm
      refine wpList_nil ?_
      clear hS; refine and_keep (H.sw hL) fun hS => ?_
      refine dlist hR (i := 9) rfl (by kernel_rfl) ?_
      have hR := hR.next (i := 9) (by kernel_rfl)
      refine step_cloF A rfl rfl rfl (c_objects_Union_1) H ?_
      rintro v3_9 a w m hm rfl A H
      have hM := hM.trans hm
      have hl1 := hl1.trans hm
      have p1 := p1.mono hm
      have p2 := p2.mono hm
      have hxs := hxs.mono hm
      have hxd := hxd.mono hm
      have hyd := hyd.mono hm
      have hfz := hfz.mono hm
      have hfz2 := hfz2.mono hm
      have hL := hL.trans hm
      refine wpList_nil ?_
      clear hS; refine and_keep (H.sw hL) fun hS => ?_
      refine dlist hR (i := 10) rfl (by kernel_rfl) ?_
      have hR := hR.next (i := 10) (by kernel_rfl)
      refine step_callF A rfl rfl (c_cmp_Compare_uint64) H ?_
      rintro v3_10 a w m hm rfl A H
      have hM := hM.trans hm
      have hl1 := hl1.trans hm
      have p1 := p1.mono hm
      have p2 := p2.mono hm
      have hxs := hxs.mono hm
      have hxd := hxd.mono hm
      have hyd := hyd.mono hm
      have hfz := hfz.mono hm
      have hfz2 := hfz2.mono hm
      have hL := hL.trans hm
      refine wpList_nil ?_
      clear hS; refine and_keep (H.sw hL) fun hS => ?_
      refine draw_done hR (by kernel_rfl) ?_
      clear hS hL hR
      refine wp_block ?_
      refine wp_seq ?_
      refine wp_region_lit ?_
      refine step (Runs.eql A rfl rfl) A rfl ?_; clear A a; intro a A
      refine step (Runs.assign A rfl) A rfl ?_; clear A a; intro a A
      refine wpList_nil ?_
      refine cond_split A rfl (fun h3 => ?_) (fun h3 => ?_)
      · have g3 := h3
        try simp only [decide_eq_true_eq, decide_eq_false_iff_not, Bool.not_eq_true', Bool.not_eq_false', ne_eq, Decidable.not_not, Int.not_lt, Int.not_le] at g3
        refine draw_begin (ms := m) (Ls := []) (by kernel_rfl) (N := 10) rfl (by kernel_rfl) H ?_; clear H; intro w H hR
        have hS : SW m [] w := H.sw (Le.refl m)
        have hL := Le.refl m
        refine dstep hR (i := 0) rfl (by kernel_rfl) (fun _ _ _ h => h) (fun _ _ H' => (Runs.move A rfl)) A rfl hS ?_; clear A a hR; intro a A hR
        refine dstep hR (i := 1) rfl (by kernel_rfl) (fun _ _ _ h => h) (fun _ _ H' => (Runs.move A rfl)) A rfl hS ?_; clear A a hR; intro a A hR
        refine dstep hR (i := 2) rfl (by kernel_rfl) (fun _ _ _ h => h) (fun _ _ H' => (Runs.indexAddr A rfl rfl SlC.h (by omega) (by omega))) A rfl hS ?_; clear A a hR; intro a A hR
        refine dstep hR (i := 3) rfl (by kernel_rfl) (fun _ _ _ h => h) (fun _ _ H' => (Runs.ldN A H' rfl (by simpa using hx3))) A rfl hS ?_; clear A a hR; intro a A hR
        refine dstep hR (i := 6) rfl (by kernel_rfl) (fun _ _ _ h => h) (fun _ _ H' => (Runs.move A rfl)) A rfl hS ?_; clear A a hR; intro a A hR
        refine dstep hR (i := 7) rfl (by kernel_rfl) (fun _ _ _ h => h) (fun _ _ H' => (Runs.sliceLlo A rfl rfl SlC.h (by omega) (by omega))) A rfl hS ?_; clear A a hR; intro a A hR
        refine dlist hR (i := 4) rfl (by kernel_rfl) ?_
        have hR := hR.next (i := 4) (by kernel_rfl)
        refine step_slice A H rfl rfl rfl rfl rfl rfl ?_; intro b1 a w A H
        refine wpList_nil ?_
        clear hS; refine and_keep (H.sw hL) fun hS => ?_
        refine dlist hR (i := 5) rfl (by kernel_rfl) ?_
        have hR := hR.next (i := 5) (by kernel_rfl)
        refine step_append A H rfl rfl rfl rfl (by decide) (by omega) (by simp only [maxLen]; omega) rfl rfl ?_; clear A a; intro ad1 c1 a w A H
        refine wpList_nil ?_
        clear hS; refine and_keep (H.sw hL) fun hS => ?_
        refine dstep hR (i := 8) rfl (by kernel_rfl) (fun _ _ _ h => h) (fun _ _ H' => (Runs.assign A rfl)) A rfl hS ?_; clear A a hR; intro a A hR
        refine dstep hR (i := 9) rfl (by kernel_rfl) (fun _ _ _ h => h) (fun _ _ H' => (Runs.assign A rfl)) A rfl hS ?_; clear A a hR; intro a A hR
        refine draw_done hR (by kernel_rfl) ?_
        clear hS hL hR
        have hst : mergeP l1 l2 = x :: mergeP (l1.drop 1) l2 := mergeP_lt hx hy (cmpP_neg (by simpa using g3))
        have hlen : (acc ++ [x]).length = acc.length + 1 := by simp
        rw [← hlen] at A H
        exact ⟨_, by omega, l1.drop 1, l2, acc ++ [x], _, _, _, n1 - 1, _, n2, _, _, _, m, rfl, ⟨by rw [hg, hst, List.append_assoc]; rfl, p1.lo (i := 1) (by omega), p2, hxs.app (OR.single hxd), by simp; omega⟩, hl1, (Fr.cons A rfl (Fr.cons A rfl (Fr.cons A rfl (Fr.cons A rfl (Fr.cons A rfl (Fr.nil A)))))), H.subH⟩
      · have g3 := h3
        try simp only [decide_eq_true_eq, decide_eq_false_iff_not, Bool.not_eq_true', Bool.not_eq_false', ne_eq, Decidable.not_not, Int.not_lt, Int.not_le] at g3
        refine wp_seq ?_
        refine wp_region_lit ?_
        refine step (Runs.eql A rfl rfl) A rfl ?_; clear A a; intro a A
        refine step (Runs.assign A rfl) A rfl ?_; clear A a; intro a A
        refine wpList_nil ?_
        refine cond_split A rfl (fun h4 => ?_) (fun h4 => ?_)
        · have g4 := h4
          try simp only [decide_eq_true_eq, decide_eq_false_iff_not, Bool.not_eq_true', Bool.not_eq_false', ne_eq, Decidable.not_not, Int.not_lt, Int.not_le] at g4
          refine draw_begin (ms := m) (Ls := []) (by kernel_rfl) (N := 10) rfl (by kernel_rfl) H ?_; clear H; intro w H hR
          have hS : SW m [] w := H.sw (Le.refl m)
          have hL := Le.refl m
          refine dstep hR (i := 0) rfl (by kernel_rfl) (fun _ _ _ h => h) (fun _ _ H' => (Runs.move A rfl)) A rfl hS ?_; clear A a hR; intro a A hR
          refine dstep hR (i := 1) rfl (by kernel_rfl) (fun _ _ _ h => h) (fun _ _ H' => (Runs.move A rfl)) A rfl hS ?_; clear A a hR; intro a A hR
          refine dstep hR (i := 2) rfl (by kernel_rfl) (fun _ _ _ h => h) (fun _ _ H' => (Runs.indexAddr A rfl rfl SlC.h (by omega) (by omega))) A rfl hS ?_; clear A a hR; intro a A hR
          refine dstep hR (i := 3) rfl (by kernel_rfl) (fun _ _ _ h => h) (fun _ _ H' => (Runs.ldN A H' rfl (by simpa using hy3))) A rfl hS ?_; clear A a hR; intro a A hR
          refine dstep hR (i := 6) rfl (by kernel_rfl) (fun _ _ _ h => h) (fun _ _ H' => (Runs.move A rfl)) A rfl hS ?_; clear A a hR; intro a A hR
          refine dstep hR (i := 7) rfl (by kernel_rfl) (fun _ _ _ h => h) (fun _ _ H' => (Runs.sliceLlo A rfl rfl SlC.h (by omega) (by omega))) A rfl hS ?_; clear A a hR; intro a A hR
          refine dlist hR (i := 4) rfl (by kernel_rfl) ?_
          have hR := hR.next (i := 4) (by kernel_rfl)
          refine step_slice A H rfl rfl rfl rfl rfl rfl ?_; intro b2 a w A H
          refine wpList_nil ?_
          clear hS; refine and_keep (H.sw hL) fun hS => ?_
          refine dlist hR (i := 5) rfl (by kernel_rfl) ?_
          have hR := hR.next (i := 5) (by kernel_rfl)
          refine step_append A H rfl rfl rfl rfl (by decide) (by omega) (by simp only [maxLen]; omega) rfl rfl ?_; clear A a; intro ad2 c2 a w A H
          refine wpList_nil ?_
          clear hS; refine and_keep (H.sw hL) fun hS => ?_
          refine dstep hR (i := 8) rfl (by kernel_rfl) (fun _ _ _ h => h) (fun _ _ H' => (Runs.assign A rfl)) A rfl hS ?_; clear A a hR; intro a A hR
          refine dstep hR (i := 9) rfl (by kernel_rfl) (fun _ _ _ h => h) (fun _ _ H' => (Runs.assign A rfl)) A rfl hS ?_; clear A a hR; intro a A hR
          refine draw_done hR (by kernel_rfl) ?_
          clear hS hL hR
          have hc := cmpP_pos (show cmpP x.id y.id = 1 by simpa using g4)
          have hst : mergeP l1 l2 = y :: mergeP l1 (l2.drop 1) := mergeP_gt hx hy hc.1 hc.2
          have hlen : (acc ++ [y]).length = acc.length + 1 := by simp
          rw [← hlen] at A H
          exact ⟨_, by omega, l1, l2.drop 1, acc ++ [y], _, _, _, n1, _, n2 - 1, _, _, _, m, rfl, ⟨by rw [hg, hst, List.append_assoc]; rfl, p1, p2.lo (i := 1) (by omega), hxs.app (OR.single hyd), by simp; omega⟩, hl1, (Fr.cons A rfl (Fr.cons A rfl (Fr.cons A rfl (Fr.cons A rfl (Fr.cons A rfl (Fr.nil A)))))), H.subH⟩
        · have g4 := h4
          try simp only [decide_eq_true_eq, decide_eq_false_iff_not, Bool.not_eq_true', Bool.not_eq_false', ne_eq, Decidable.not_not, Int.not_lt, Int.not_le] at g4
          refine draw_begin (ms := m) (Ls := []) (by kernel_rfl) (N := 18) rfl (by kernel_rfl) H ?_; clear H; intro w H hR
          have hS : SW m [] w := H.sw (Le.refl m)
          have hL := Le.refl m
          refine dstep hR (i := 0) rfl (by kernel_rfl) (fun _ _ _ h => h) (fun _ _ H' => (Runs.move A rfl)) A rfl hS ?_; clear A a hR; intro a A hR
          refine dstep hR (i := 1) rfl (by kernel_rfl) (fun _ _ _ h => h) (fun _ _ H' => (Runs.move A rfl)) A rfl hS ?_; clear A a hR; intro a A hR
          refine dstep hR (i := 2) rfl (by kernel_rfl) (fun _ _ _ h => h) (fun _ _ H' => (Runs.move A rfl)) A rfl hS ?_; clear A a hR; intro a A hR
          refine dstep hR (i := 3) rfl (by kernel_rfl) (fun _ _ _ h => h) (fun _ _ H' => (Runs.indexAddr A rfl rfl SlC.h (by omega) (by omega))) A rfl hS ?_; clear A a hR; intro a A hR
          refine dstep hR (i := 4) rfl (by kernel_rfl) (fun _ _ _ h => h) (fun _ _ H' => (Runs.ldN A H' rfl (by simpa using hx3))) A rfl hS ?_; clear A a hR; intro a A hR
          refine dstep hR (i := 5) rfl (by kernel_rfl) (fun _ _ _ h => h) (fun _ _ H' => (Runs.move A rfl)) A rfl hS ?_; clear A a hR; intro a A hR
          refine dstep hR (i := 6) rfl (by kernel_rfl) (fun _ _ _ h => h) (fun _ _ H' => (Runs.indexAddr A rfl rfl SlC.h (by omega) (by omega))) A rfl hS ?_; clear A a hR; intro a A hR
          refine dstep hR (i := 7) rfl (by kernel_rfl) (fun _ _ _ h => h) (fun _ _ H' => (Runs.ldN A H' rfl (by simpa using hy3))) A rfl hS ?_; clear A a hR; intro a A hR
          refine dstep hR (i := 11) rfl (by kernel_rfl) (fun _ _ _ h => h) (fun _ _ H' => (Runs.move A rfl)) A rfl hS ?_; clear A a hR; intro a A hR
          refine dstep hR (i := 12) rfl (by kernel_rfl) (fun _ _ _ h => h) (fun _ _ H' => (Runs.sliceLlo A rfl rfl SlC.h (by omega) (by omega))) A rfl hS ?_; clear A a hR; intro a A hR
          refine dstep hR (i := 13) rfl (by kernel_rfl) (fun _ _ _ h => h) (fun _ _ H' => (Runs.move A rfl)) A rfl hS ?_; clear A a hR; intro a A hR
          refine dstep hR (i := 14) rfl (by kernel_rfl) (fun _ _ _ h => h) (fun _ _ H' => (Runs.sliceLlo A rfl rfl SlC.h (by omega) (by omega))) A rfl hS ?_; clear A a hR; intro a A hR
          refine dlist hR (i := 8) rfl (by kernel_rfl) ?_
          have hR := hR.next (i := 8) (by kernel_rfl)
          refine step_cloF A rfl rfl rfl (c_objects_Union_2 hxd hyd) H ?_
          rintro v4_8 a w m hm ⟨adz, nz, cz, rfl, hzd⟩ A H
          have hM := hM.trans hm
          have hl1 := hl1.trans hm
          have p1 := p1.mono hm
          have p2 := p2.mono hm
          have hxs := hxs.mono hm
          have hxd := hxd.mono hm
          have hyd := hyd.mono hm
          have hfz := hfz.mono hm
          have hfz2 := hfz2.mono hm
          have hL := hL.trans hm
          refine wpList_nil ?_
          clear hS; refine and_keep (H.sw hL) fun hS => ?_
          refine dlist hR (i := 9) rfl (by kernel_rfl) ?_
          have hR := hR.next (i := 9) (by kernel_rfl)
          refine step_slice A H rfl rfl rfl rfl rfl rfl ?_; intro b3 a w A H
          refine wpList_nil ?_
          clear hS; refine and_keep (H.sw hL) fun hS => ?_
          refine dlist hR (i := 10) rfl (by kernel_rfl) ?_
          have hR := hR.next (i := 10) (by kernel_rfl)
          refine step_append A H rfl rfl rfl rfl (by decide) (by omega) (by simp only [maxLen]; omega) rfl rfl ?_; clear A a; intro ad3 c3 a w A H
          refine wpList_nil ?_
          clear hS; refine and_keep (H.sw hL) fun hS => ?_
          refine dstep hR (i := 15) rfl (by kernel_rfl) (fun _ _ _ h => h) (fun _ _ H' => (Runs.assign A rfl)) A rfl hS ?_; clear A a hR; intro a A hR
          refine dstep hR (i := 16) rfl (by kernel_rfl) (fun _ _ _ h => h) (fun _ _ H' => (Runs.assign A rfl)) A rfl hS ?_; clear A a hR; intro a A hR
          refine dstep hR (i := 17) rfl (by kernel_rfl) (fun _ _ _ h => h) (fun _ _ H' => (Runs.assign A rfl)) A rfl hS ?_; clear A a hR; intro a A hR
          refine draw_done hR (by kernel_rfl) ?_
          clear hS hL hR
          have hc := cmpP_els (show cmpP x.id y.id ≠ -1 by simpa using g3) (show cmpP x.id y.id ≠ 1 by simpa using g4)
          have hst : mergeP l1 l2 = pkP x y :: mergeP (l1.drop 1) (l2.drop 1) := mergeP_eq hx hy hc.1 hc.2
          have hlen : (acc ++ [pkP x y]).length = acc.length + 1 := by simp
          rw [← hlen] at A H
          exact ⟨_, by omega, l1.drop 1, l2.drop 1, acc ++ [pkP x y], _, _, _, n1 - 1, _, n2 - 1, _, _, _, m, rfl, ⟨by rw [hg, hst, List.append_assoc]; rfl, p1.lo (i := 1) (by omega), p2.lo (i := 1) (by omega), hxs.app (OR.single hzd), by simp; omega⟩, hl1, (Fr.cons A rfl (Fr.cons A rfl (Fr.cons A rfl (Fr.cons A rfl (Fr.cons A rfl (Fr.nil A)))))), H.subH⟩
    · have g2 := h2
      try simp only [decide_eq_true_eq, decide_eq_false_iff_not, Bool.not_eq_true', Bool.not_eq_false', ne_eq, Decidable.not_not, Int.not_lt, Int.not_le] at g2
      refine wp_exit ?_
      refine wp_seq ?_
      refine wp_region_lit ?_
      obtain ⟨_, ys1, hS1, hO1⟩ := p1
      obtain ⟨_, ys2, hS2, hO2⟩ := p2
      refine step (Runs.move A rfl) A rfl ?_; clear A a; intro a A
      refine step (Runs.move A rfl) A rfl ?_; clear A a; intro a A
      refine step_appendR A H rfl rfl hS1 hO1.one (by decide) (by omega) (by omega) rfl rfl ?_; clear A a; intro ad4 c4 a w A H
      refine step (Runs.move A rfl) A rfl ?_; clear A a; intro a A
      refine step_appendR A H rfl rfl hS2 hO2.one (by decide) (by omega) (by omega) rfl rfl ?_; clear A a; intro ad5 c5 a w A H
      refine step (Runs.assign A rfl) A rfl ?_; clear A a; intro a A
      refine wpList_nil ?_
      refine wp_ret ?_
      have e : mergeP la lb = acc ++ l1 ++ l2 := by
        have h0 : l2 = [] := List.eq_nil_of_length_eq_zero (by omega)
        rw [hg, h0]; simp [mergeP_nil]
      have hlen : acc.length + n1 + n2 = (mergeP la lb).length := by rw [e]; simp; omega
      rw [hlen] at A
      have hOR2 : OR m (xs ++ ys1 ++ ys2) (mergeP la lb) := by rw [e]; exact (hxs.app hO1).app hO2
      obtain ⟨m2, hm2, hO, H⟩ := H.row_objs hOR2
      exact retF A rfl rfl (hM.trans hm2) H ⟨_, _, rfl, hO⟩
  · have g1 := h1
    try simp only [decide_eq_true_eq, decide_eq_false_iff_not, Bool.not_eq_true', Bool.not_eq_false', ne_eq, Decidable.not_not, Int.not_lt, Int.not_le] at g1
    refine stepSkip (dj := 13) rfl rfl h1 A rfl ?_; clear A a; intro a A
    refine stepSkip (dj := 13) rfl rfl h1 A rfl ?_; clear A a; intro a A
    refine stepSkip (dj := 13) rfl rfl h1 A rfl ?_; clear A a; intro a A
    refine step (Runs.pickF A rfl h1 rfl) A rfl ?_; clear A a; intro a A
    refine wpList_nil ?_
    refine cond_false A rfl rfl ?_
    refine wp_exit ?_
    refine wp_seq ?_
    refine wp_region_lit ?_
    obtain ⟨_, ys1, hS1, hO1⟩ := p1
    obtain ⟨_, ys2, hS2, hO2⟩ := p2
    refine step (Runs.move A rfl) A rfl ?_; clear A a; intro a A
    refine step (Runs.move A rfl) A rfl ?_; clear A a; intro a A
    refine step_appendR A H rfl rfl hS1 hO1.one (by decide) (by omega) (by omega) rfl rfl ?_; clear A a; intro ad6 c6 a w A H
    refine step (Runs.move A rfl) A rfl ?_; clear A a; intro a A
    refine step_appendR A H rfl rfl hS2 hO2.one (by decide) (by omega) (by omega) rfl rfl ?_; clear A a; intro ad7 c7 a w A H
    refine step (Runs.assign A rfl) A rfl ?_; clear A a; intro a A
    refine wpList_nil ?_
    refine wp_ret ?_
    have e : mergeP la lb = acc ++ l1 ++ l2 := by
      have h0 : l1 = [] := List.eq_nil_of_length_eq_zero (by omega)
      rw [hg, h0]; simp [mergeP_nil']
    have hlen : acc.length + n1 + n2 = (mergeP la lb).length := by rw [e]; simp; omega
    rw [hlen] at A
    have hOR2 : OR m (xs ++ ys1 ++ ys2) (mergeP la lb) := by rw [e]; exact (hxs.app hO1).app hO2
    obtain ⟨m2, hm2, hO, H⟩ := H.row_objs hOR2
    exact retF A rfl rfl (hM.trans hm2) H ⟨_, _, rfl, hO⟩

theorem c_objects_Union {ad ad2 : Option Addr} {n c n2 c2 : Nat} {l l2 : List Obj} {m : Mem} (hl : Objs m ad n c l) (hl2 : Objs m ad2 n2 c2 l2) (hn : n ≤ 1100000) (hn2 : n2 ≤ 1100000) : Spec Tryz.prog 23 #[.slice ad n c, .slice ad2 n2 c2] m [] (RetF fun m' v => ∃ ad' c', v = .slice ad' (mergeP l l2).length c' ∧ Objs m' ad' (mergeP l l2).length c' (mergeP l l2)) := by
  refine Spec.enter0 Tryz.func23 rfl 8 Tryz.ntmps23 rfl fun a w0 Lf A H => ?_
  have hM := Le.refl m
  refine wp_seq ?_
  refine wp_region_lit ?_
  refine step (Runs.assign A rfl) A rfl ?_; clear A a; intro a A
  refine wpList_nil ?_
  refine wp_seq ?_
  refine wp_region_lit ?_
  refine step (Runs.move A rfl) A rfl ?_; clear A a; intro a A
  refine step (Runs.move A rfl) A rfl ?_; clear A a; intro a A
  refine step_callF A rfl rfl (c_merge hl hl2 (by omega) (by omega)) H ?_
  rintro v1_2 a w m hm ⟨adm, cm, rfl, hmg⟩ A H
  have hM := hM.trans hm
  have hl := hl.mono hm
  have hl2 := hl2.mono hm
  refine step (Runs.assign A rfl) A rfl ?_; clear A a; intro a A
  refine wpList_nil ?_
  refine wp_ret ?_
  exact retF A rfl rfl hM H ⟨_, _, rfl, hmg⟩
end Sl
end Go.Proofs.YtanhehbfbakdcaaGreatDoor
/- Stores: the reference's with, PutIn: walks, printed by my gen.py out of annotations. -/
set_option linter.unusedSimpArgs false
set_option linter.unusedVariables false
namespace Go.Proofs.YtanhehbfbakdcaaGreatDoor
namespace Sl
open Go

def withP (l : List Obj) (o : Obj) : List Obj := l.take (lbP l o.id) ++ [o] ++ l.drop (lbP l o.id + if atP l o.id then 1 else 0)
theorem lbP_of2 {l : List Obj} {id : UInt64} {i : Nat} (hi : i ≤ l.length) (h1 : ∀ (k : Nat) (x : Obj), k < i → l[k]? = some x → x.id < id) (h2 : ∀ x, l[i]? = some x → ¬ x.id < id) : lbP l id = i :=
  tw_len hi (fun k x hk hx => decide_eq_true (h1 k x hk hx)) (fun x hx => decide_eq_false (h2 x hx))

theorem c_with {ad : Option Addr} {n c : Nat} {l : List Obj} {id : UInt64} {d : List UInt8} {ado : Option Addr} {no co : Nat} {m : Mem} (hl : Objs m ad n c l) (hb : n ≤ 1100000) (ho : Dat m (.slice ado no co) d) : Spec Tryz.prog 45 #[.slice ad n c, .agg #[u64 id, .slice ado no co]] m [] (RetF fun m' v => ∃ ad' c', v = .slice ad' (withP l ⟨id, d⟩).length c' ∧ Objs m' ad' (withP l ⟨id, d⟩).length c' (withP l ⟨id, d⟩)) := by
  refine Spec.enter0 Tryz.func45 rfl 56 Tryz.ntmps45 rfl fun a w0 Lf A H => ?_
  have hM := Le.refl m
  have hn := hl.1
  have hcap := hl.cap
  have hmx : maxLen = 9223372036854775807 := rfl
  refine wp_seq ?_
  refine wp_region_lit ?_
  refine step_box A H rfl (by simp only [Value.cells, List.toList_toArray]; rfl) rfl ?_; intro b1 a w A H
  refine step (Runs.assign A rfl) A rfl ?_; clear A a; intro a A
  refine wpList_nil ?_
  refine wp_seq ?_
  refine wp_region_lit ?_
  refine step_slice A H rfl rfl rfl rfl rfl rfl ?_; intro b2 a w A H
  refine step (Runs.assign A rfl) A rfl ?_; clear A a; intro a A
  refine wpList_nil ?_
  refine wp_seq ?_
  refine wp_region_lit ?_
  refine step (Runs.assign A rfl) A rfl ?_; clear A a; intro a A
  refine wpList_nil ?_
  refine wp_seq ?_
  refine wp_block ?_
  have H := H.row_pt (n := 0) (size := 2) rfl (by omega)
  refine wp_loop_ghost (fun q a w => ∃ (i : Nat) (ad2 : Option Addr) (c2 : Nat) (xs : List Value) (m' : Mem), q = n + 1 - i ∧ (i ≤ n ∧ (∀ (k : Nat) (x : Obj), k < i → l[k]? = some x → x.id < id) ∧ OR m' xs (l.take i)) ∧ Le m m' ∧ Fr 56 a [(0, .slice ad n c), (3, .pointer (some ⟨b1, 0, none⟩)), (5, .slice ad2 i c2), (6, .int .i64 i)] [] ∧ St w0 w m' (row 66 2 ad2 i c2 xs :: pt b1 [u64 id, .slice ado no co] 66 :: Lf)) _ ⟨0, some ⟨b2, 0, none⟩, 0, [], m, rfl, ⟨by omega, fun k _ h => absurd h (by omega), trivial⟩, Le.refl m, (Fr.cons A rfl (Fr.cons A rfl (Fr.cons A rfl (Fr.cons A rfl (Fr.nil A))))), H⟩ ?_
  clear A H; rintro q a w ⟨i, ad2, c2, xs, m, rfl, hinv, hm, A, H⟩
  have hM := hM.trans hm
  have hl := hl.mono hm
  have ho := ho.mono hm
  have hl1 := hm
  obtain ⟨hin, hall, hxs⟩ := hinv
  refine wp_seq ?_
  refine wp_seq ?_
  refine draw_begin (ms := m) (Ls := [pt b1 [u64 id, .slice ado no co] 66]) (by kernel_rfl) (N := 14) rfl (by kernel_rfl) H ?_; clear H; intro w H hR
  have hS : SW m [pt b1 [u64 id, .slice ado no co] 66] w := H.sw (Le.refl m)
  have hL := Le.refl m
  refine dstep hR (i := 0) rfl (by kernel_rfl) (fun _ _ _ h => h) (fun _ _ H' => (Runs.move A rfl)) A rfl hS ?_; clear A a hR; intro a A hR
  refine dstep hR (i := 1) rfl (by kernel_rfl) (fun _ _ _ h => h) (fun _ _ H' => (Runs.move A rfl)) A rfl hS ?_; clear A a hR; intro a A hR
  refine dstep hR (i := 2) rfl (by kernel_rfl) (fun _ _ _ h => h) (fun _ _ H' => (Runs.lenL A rfl SlC.h)) A rfl hS ?_; clear A a hR; intro a A hR
  refine dstep hR (i := 3) rfl (by kernel_rfl) (fun _ _ _ h => h) (fun _ _ H' => (Runs.lss A rfl rfl)) A rfl hS ?_; clear A a hR; intro a A hR
  refine dstep hR (i := 4) rfl (by kernel_rfl) (fun _ _ _ h => h) (fun _ _ H' => (Runs.move A rfl)) A rfl hS ?_; clear A a hR; intro a A hR
  refine onBool A (dj := 12) rfl (fun h1 => ?_) (fun h1 => ?_)
  · have g1 := h1
    try simp only [decide_eq_true_eq, decide_eq_false_iff_not, Bool.not_eq_true', Bool.not_eq_false', ne_eq, Decidable.not_not, Int.not_lt, Int.not_le] at g1
    refine dstepG hR (i := 5) (dj := 12) rfl (by kernel_rfl) (fun _ _ _ h => h) rfl rfl h1 (fun _ _ H' => (Runs.move A rfl)) A rfl hS ?_; clear A a hR; intro a A hR
    refine dstepG hR (i := 6) (dj := 12) rfl (by kernel_rfl) (fun _ _ _ h => h) rfl rfl h1 (fun _ _ H' => (Runs.move A rfl)) A rfl hS ?_; clear A a hR; intro a A hR
    obtain ⟨x, hx⟩ := ex_at (l := l) (i := i) (by omega)
    obtain ⟨bb, off, cs, e0, hfz, hcs⟩ := hl.all_ (by omega)
    rw [e0] at A
    obtain ⟨vx, hx1, hx2, hx3, hxd⟩ := hcs _ _ hx
    obtain ⟨adx, nx, cx, rfl, hsx, hnx⟩ := hxd
    have hxd : Dat m (.slice adx nx cx) x.data := ⟨_, _, _, rfl, hsx, hnx⟩
    refine dstepG hR (i := 7) (dj := 12) rfl (by kernel_rfl) (fun _ _ _ h => h) rfl rfl h1 (fun _ _ H' => (Runs.indexAddr A rfl rfl SlC.h (by omega) (by omega))) A rfl hS ?_; clear A a hR; intro a A hR
    refine dstepG hR (i := 8) (dj := 12) rfl (by kernel_rfl) (fun _ _ _ h => h) rfl rfl h1 (fun _ _ H' => (Runs.fa A rfl)) A rfl hS ?_; clear A a hR; intro a A hR
    refine dstepG hR (i := 9) (dj := 12) rfl (by kernel_rfl) (fun _ _ _ h => h) rfl rfl h1 (fun _ _ H' => (Runs.ld1 A H' rfl (v := u64 x.id) (by rw [Int.toNat_natCast]; exact hx1))) A rfl hS ?_; clear A a hR; intro a A hR
    refine dstepG hR (i := 10) (dj := 12) rfl (by kernel_rfl) (fun _ _ _ h => h) rfl rfl h1 (fun _ _ H' => (Runs.fa A rfl)) A rfl hS ?_; clear A a hR; intro a A hR
    refine dstepG hR (i := 11) (dj := 12) rfl (by kernel_rfl) (fun _ _ _ h => h) rfl rfl h1 (fun _ _ H' => (Runs.ld1 A H' rfl rfl)) A rfl hS ?_; clear A a hR; intro a A hR
    refine dstepG hR (i := 12) (dj := 12) rfl (by kernel_rfl) (fun _ _ _ h => h) rfl rfl h1 (fun _ _ H' => (Runs.lss A rfl rfl)) A rfl hS ?_; clear A a hR; intro a A hR
    refine dstep hR (i := 13) rfl (by kernel_rfl) (fun _ _ _ h => h) (fun _ _ H' => (Runs.pickT A rfl h1 rfl)) A rfl hS ?_; clear A a hR; intro a A hR
    refine draw_done hR (by kernel_rfl) ?_
    clear hS hL hR
    refine cond_split A rfl (fun h2 => ?_) (fun h2 => ?_)
    · have g2 := h2
      try simp only [decide_eq_true_eq, decide_eq_false_iff_not, Bool.not_eq_true', Bool.not_eq_false', ne_eq, Decidable.not_not, Int.not_lt, Int.not_le] at g2
      refine wp_skip ?_
      refine wp_block ?_
      refine wp_seq ?_
      refine wp_region_lit ?_
      refine step (Runs.move A rfl) A rfl ?_; clear A a; intro a A
      refine step (Runs.move A rfl) A rfl ?_; clear A a; intro a A
      refine step (Runs.move A rfl) A rfl ?_; clear A a; intro a A
      try rw [e0] at A
      refine step (Runs.indexAddr A rfl rfl SlC.h (by omega) (by omega)) A rfl ?_; clear A a; intro a A
      refine step (Runs.ldN A H rfl (by rw [Int.toNat_natCast]; exact hx3)) A rfl ?_; clear A a; intro a A
      refine step_slice A H rfl rfl rfl rfl rfl rfl ?_; intro b3 a w A H
      refine step_append A H rfl rfl rfl rfl (by decide) (by omega) (by simp only [maxLen]; omega) rfl rfl ?_; clear A a; intro ad1 c1 a w A H
      refine step (Runs.assign A rfl) A rfl ?_; clear A a; intro a A
      refine wpList_nil ?_
      refine wp_region_lit ?_
      refine step (Runs.move A rfl) A rfl ?_; clear A a; intro a A
      refine step (Runs.add A rfl rfl (by omega)) A rfl ?_; clear A a; intro a A
      refine step (Runs.assign A rfl) A rfl ?_; clear A a; intro a A
      refine wpList_nil ?_
      have hlt : x.id < id := by rw [UInt64.lt_iff_toNat_lt]; have := g2; omega
      rw [← e0] at A
      exact ⟨_, by omega, i + 1, _, _, _, m, rfl, ⟨by omega, lt_ext hall hx hlt, by rw [show l.take (i + 1) = l.take i ++ [x] by rw [List.take_add_one, hx]; rfl]; exact hxs.app (OR.single hxd)⟩, hl1, (Fr.cons A rfl (Fr.cons A rfl (Fr.cons A rfl (Fr.cons A rfl (Fr.nil A))))), H.subH⟩
    · have g2 := h2
      try simp only [decide_eq_true_eq, decide_eq_false_iff_not, Bool.not_eq_true', Bool.not_eq_false', ne_eq, Decidable.not_not, Int.not_lt, Int.not_le] at g2
      refine wp_exit ?_
      refine wp_seq ?_
      refine wp_region_lit ?_
      refine step (Runs.move A rfl) A rfl ?_; clear A a; intro a A
      refine step (Runs.ldN A H rfl rfl) A rfl ?_; clear A a; intro a A
      refine step_slice A H rfl rfl rfl rfl rfl rfl ?_; intro b4 a w A H
      refine step_append A H rfl rfl rfl rfl (by decide) (by omega) (by simp only [maxLen]; omega) rfl rfl ?_; clear A a; intro ad2 c2 a w A H
      refine step (Runs.assign A rfl) A rfl ?_; clear A a; intro a A
      refine wpList_nil ?_
      refine wp_seq ?_
      refine wp_seq ?_
      refine draw_begin (ms := m) (Ls := [pt b1 [u64 id, .slice ado no co] 66]) (by kernel_rfl) (N := 14) rfl (by kernel_rfl) H ?_; clear H; intro w H hR
      have hS : SW m [pt b1 [u64 id, .slice ado no co] 66] w := H.sw (Le.refl m)
      have hL := Le.refl m
      refine dstep hR (i := 0) rfl (by kernel_rfl) (fun _ _ _ h => h) (fun _ _ H' => (Runs.move A rfl)) A rfl hS ?_; clear A a hR; intro a A hR
      refine dstep hR (i := 1) rfl (by kernel_rfl) (fun _ _ _ h => h) (fun _ _ H' => (Runs.move A rfl)) A rfl hS ?_; clear A a hR; intro a A hR
      refine dstep hR (i := 2) rfl (by kernel_rfl) (fun _ _ _ h => h) (fun _ _ H' => (Runs.lenL A rfl SlC.h)) A rfl hS ?_; clear A a hR; intro a A hR
      refine dstep hR (i := 3) rfl (by kernel_rfl) (fun _ _ _ h => h) (fun _ _ H' => (Runs.lss A rfl rfl)) A rfl hS ?_; clear A a hR; intro a A hR
      refine dstep hR (i := 4) rfl (by kernel_rfl) (fun _ _ _ h => h) (fun _ _ H' => (Runs.move A rfl)) A rfl hS ?_; clear A a hR; intro a A hR
      refine onBool A (dj := 39) rfl (fun h3 => ?_) (fun h3 => ?_)
      · have g3 := h3
        try simp only [decide_eq_true_eq, decide_eq_false_iff_not, Bool.not_eq_true', Bool.not_eq_false', ne_eq, Decidable.not_not, Int.not_lt, Int.not_le] at g3
        refine dstepG hR (i := 5) (dj := 39) rfl (by kernel_rfl) (fun _ _ _ h => h) rfl rfl h3 (fun _ _ H' => (Runs.move A rfl)) A rfl hS ?_; clear A a hR; intro a A hR
        refine dstepG hR (i := 6) (dj := 39) rfl (by kernel_rfl) (fun _ _ _ h => h) rfl rfl h3 (fun _ _ H' => (Runs.move A rfl)) A rfl hS ?_; clear A a hR; intro a A hR
        try rw [e0] at A
        refine dstepG hR (i := 7) (dj := 39) rfl (by kernel_rfl) (fun _ _ _ h => h) rfl rfl h3 (fun _ _ H' => (Runs.indexAddr A rfl rfl SlC.h (by omega) (by omega))) A rfl hS ?_; clear A a hR; intro a A hR
        refine dstepG hR (i := 8) (dj := 39) rfl (by kernel_rfl) (fun _ _ _ h => h) rfl rfl h3 (fun _ _ H' => (Runs.fa A rfl)) A rfl hS ?_; clear A a hR; intro a A hR
        refine dstepG hR (i := 9) (dj := 39) rfl (by kernel_rfl) (fun _ _ _ h => h) rfl rfl h3 (fun _ _ H' => (Runs.ld1 A H' rfl (v := u64 x.id) (by rw [Int.toNat_natCast]; exact hx1))) A rfl hS ?_; clear A a hR; intro a A hR
        refine dstepG hR (i := 10) (dj := 39) rfl (by kernel_rfl) (fun _ _ _ h => h) rfl rfl h3 (fun _ _ H' => (Runs.fa A rfl)) A rfl hS ?_; clear A a hR; intro a A hR
        refine dstepG hR (i := 11) (dj := 39) rfl (by kernel_rfl) (fun _ _ _ h => h) rfl rfl h3 (fun _ _ H' => (Runs.ld1 A H' rfl rfl)) A rfl hS ?_; clear A a hR; intro a A hR
        refine dstepG hR (i := 12) (dj := 39) rfl (by kernel_rfl) (fun _ _ _ h => h) rfl rfl h3 (fun _ _ H' => (Runs.eql A rfl rfl)) A rfl hS ?_; clear A a hR; intro a A hR
        refine dstep hR (i := 13) rfl (by kernel_rfl) (fun _ _ _ h => h) (fun _ _ H' => (Runs.pickT A rfl h3 rfl)) A rfl hS ?_; clear A a hR; intro a A hR
        refine draw_done hR (by kernel_rfl) ?_
        clear hS hL hR
        refine cond_split A rfl (fun h4 => ?_) (fun h4 => ?_)
        · have g4 := h4
          try simp only [decide_eq_true_eq, decide_eq_false_iff_not, Bool.not_eq_true', Bool.not_eq_false', ne_eq, Decidable.not_not, Int.not_lt, Int.not_le] at g4
          refine wp_region_lit ?_
          refine step (Runs.move A rfl) A rfl ?_; clear A a; intro a A
          refine step (Runs.add A rfl rfl (by omega)) A rfl ?_; clear A a; intro a A
          refine step (Runs.assign A rfl) A rfl ?_; clear A a; intro a A
          refine wpList_nil ?_
          refine wp_seq ?_
          refine wp_region_lit ?_
          refine step (Runs.move A rfl) A rfl ?_; clear A a; intro a A
          refine step (Runs.move A rfl) A rfl ?_; clear A a; intro a A
          refine step (Runs.move A rfl) A rfl ?_; clear A a; intro a A
          refine step (Runs.sliceLlo A rfl rfl SlC.h (by omega) (by omega)) A rfl ?_; clear A a; intro a A
          rw [← e0] at A
          have ei1 : ((i : Int) + 1).toNat = i + 1 := by omega
          simp only [ei1] at A
          obtain ⟨_, ys1, hS1, hO1⟩ := hl.lo (i := i + 1) (by omega)
          refine step_appendR A H rfl rfl hS1 hO1.one (by decide) (by omega) (by omega) rfl rfl ?_; clear A a; intro ad3 c3 a w A H
          refine step (Runs.assign A rfl) A rfl ?_; clear A a; intro a A
          refine wpList_nil ?_
          refine wp_ret ?_
          have hlb : lbP l id = i := lbP_of2 (by omega) hall (fun y hy => (by rw [hx] at hy; cases hy; rw [UInt64.lt_iff_toNat_lt]; omega))
          have hat : atP l id = true := by rw [atP, hlb, hx]; simp only [Option.any_some, decide_eq_true_eq]; rw [← UInt64.toNat_inj]; omega
          have e : withP l ⟨id, d⟩ = l.take i ++ [⟨id, d⟩] ++ l.drop (i + 1) := by rw [withP, hlb, hat]; rfl
          have hOR2 : OR m (xs ++ [u64 id, .slice ado no co] ++ ys1) (withP l ⟨id, d⟩) := by rw [e]; exact (hxs.app (OR.single (o := ⟨id, d⟩) ho)).app hO1
          have hlen : i + 1 + (n - (i + 1)) = (withP l ⟨id, d⟩).length := by rw [e]; simp only [List.length_append, List.length_take, List.length_drop, List.length_cons, List.length_nil]; omega
          rw [hlen] at A
          obtain ⟨m2, hm2, hO, H⟩ := H.row_objs hOR2
          exact retF A rfl rfl (hM.trans hm2) H ⟨_, _, rfl, hO⟩
        · have g4 := h4
          try simp only [decide_eq_true_eq, decide_eq_false_iff_not, Bool.not_eq_true', Bool.not_eq_false', ne_eq, Decidable.not_not, Int.not_lt, Int.not_le] at g4
          refine wp_skip ?_
          refine wp_seq ?_
          refine wp_region_lit ?_
          refine step (Runs.move A rfl) A rfl ?_; clear A a; intro a A
          refine step (Runs.move A rfl) A rfl ?_; clear A a; intro a A
          refine step (Runs.move A rfl) A rfl ?_; clear A a; intro a A
          refine step (Runs.sliceLlo A rfl rfl SlC.h (by omega) (by omega)) A rfl ?_; clear A a; intro a A
          try rw [← e0] at A
          simp only [Int.toNat_natCast] at A
          obtain ⟨_, ys1, hS1, hO1⟩ := hl.lo (i := i) (by omega)
          refine step_appendR A H rfl rfl hS1 hO1.one (by decide) (by omega) (by omega) rfl rfl ?_; clear A a; intro ad4 c4 a w A H
          refine step (Runs.assign A rfl) A rfl ?_; clear A a; intro a A
          refine wpList_nil ?_
          refine wp_ret ?_
          have hlb : lbP l id = i := lbP_of2 (by omega) hall (fun y hy => (by rw [hx] at hy; cases hy; rw [UInt64.lt_iff_toNat_lt]; omega))
          have hat : atP l id = false := by rw [atP, hlb, hx]; simp only [Option.any_some, decide_eq_false_iff_not]; rw [← UInt64.toNat_inj]; omega
          have e : withP l ⟨id, d⟩ = l.take i ++ [⟨id, d⟩] ++ l.drop (i) := by rw [withP, hlb, hat]; rfl
          have hOR2 : OR m (xs ++ [u64 id, .slice ado no co] ++ ys1) (withP l ⟨id, d⟩) := by rw [e]; exact (hxs.app (OR.single (o := ⟨id, d⟩) ho)).app hO1
          have hlen : i + 1 + (n - (i)) = (withP l ⟨id, d⟩).length := by rw [e]; simp only [List.length_append, List.length_take, List.length_drop, List.length_cons, List.length_nil]; omega
          rw [hlen] at A
          obtain ⟨m2, hm2, hO, H⟩ := H.row_objs hOR2
          exact retF A rfl rfl (hM.trans hm2) H ⟨_, _, rfl, hO⟩
      · have g3 := h3
        try simp only [decide_eq_true_eq, decide_eq_false_iff_not, Bool.not_eq_true', Bool.not_eq_false', ne_eq, Decidable.not_not, Int.not_lt, Int.not_le] at g3
        exfalso; omega
  · have g1 := h1
    try simp only [decide_eq_true_eq, decide_eq_false_iff_not, Bool.not_eq_true', Bool.not_eq_false', ne_eq, Decidable.not_not, Int.not_lt, Int.not_le] at g1
    refine dskip hR (i := 5) (dj := 12) rfl (by kernel_rfl) (fun _ _ _ h => h) rfl rfl h1 A rfl hS ?_; clear A a hR; intro a A hR
    refine dskip hR (i := 6) (dj := 12) rfl (by kernel_rfl) (fun _ _ _ h => h) rfl rfl h1 A rfl hS ?_; clear A a hR; intro a A hR
    refine dskip hR (i := 7) (dj := 12) rfl (by kernel_rfl) (fun _ _ _ h => h) rfl rfl h1 A rfl hS ?_; clear A a hR; intro a A hR
    refine dskip hR (i := 8) (dj := 12) rfl (by kernel_rfl) (fun _ _ _ h => h) rfl rfl h1 A rfl hS ?_; clear A a hR; intro a A hR
    refine dskip hR (i := 9) (dj := 12) rfl (by kernel_rfl) (fun _ _ _ h => h) rfl rfl h1 A rfl hS ?_; clear A a hR; intro a A hR
    refine dskip hR (i := 10) (dj := 12) rfl (by kernel_rfl) (fun _ _ _ h => h) rfl rfl h1 A rfl hS ?_; clear A a hR; intro a A hR
    refine dskip hR (i := 11) (dj := 12) rfl (by kernel_rfl) (fun _ _ _ h => h) rfl rfl h1 A rfl hS ?_; clear A a hR; intro a A hR
    refine dskip hR (i := 12) (dj := 12) rfl (by kernel_rfl) (fun _ _ _ h => h) rfl rfl h1 A rfl hS ?_; clear A a hR; intro a A hR
    refine dstep hR (i := 13) rfl (by kernel_rfl) (fun _ _ _ h => h) (fun _ _ H' => (Runs.pickF A rfl h1 rfl)) A rfl hS ?_; clear A a hR; intro a A hR
    refine draw_done hR (by kernel_rfl) ?_
    clear hS hL hR
    refine cond_false A rfl rfl ?_
    refine wp_exit ?_
    refine wp_seq ?_
    refine wp_region_lit ?_
    refine step (Runs.move A rfl) A rfl ?_; clear A a; intro a A
    refine step (Runs.ldN A H rfl rfl) A rfl ?_; clear A a; intro a A
    refine step_slice A H rfl rfl rfl rfl rfl rfl ?_; intro b5 a w A H
    refine step_append A H rfl rfl rfl rfl (by decide) (by omega) (by simp only [maxLen]; omega) rfl rfl ?_; clear A a; intro ad5 c5 a w A H
    refine step (Runs.assign A rfl) A rfl ?_; clear A a; intro a A
    refine wpList_nil ?_
    refine wp_seq ?_
    refine wp_seq ?_
    refine draw_begin (ms := m) (Ls := [pt b1 [u64 id, .slice ado no co] 66]) (by kernel_rfl) (N := 14) rfl (by kernel_rfl) H ?_; clear H; intro w H hR
    have hS : SW m [pt b1 [u64 id, .slice ado no co] 66] w := H.sw (Le.refl m)
    have hL := Le.refl m
    refine dstep hR (i := 0) rfl (by kernel_rfl) (fun _ _ _ h => h) (fun _ _ H' => (Runs.move A rfl)) A rfl hS ?_; clear A a hR; intro a A hR
    refine dstep hR (i := 1) rfl (by kernel_rfl) (fun _ _ _ h => h) (fun _ _ H' => (Runs.move A rfl)) A rfl hS ?_; clear A a hR; intro a A hR
    refine dstep hR (i := 2) rfl (by kernel_rfl) (fun _ _ _ h => h) (fun _ _ H' => (Runs.lenL A rfl SlC.h)) A rfl hS ?_; clear A a hR; intro a A hR
    refine dstep hR (i := 3) rfl (by kernel_rfl) (fun _ _ _ h => h) (fun _ _ H' => (Runs.lss A rfl rfl)) A rfl hS ?_; clear A a hR; intro a A hR
    refine dstep hR (i := 4) rfl (by kernel_rfl) (fun _ _ _ h => h) (fun _ _ H' => (Runs.move A rfl)) A rfl hS ?_; clear A a hR; intro a A hR
    refine onBool A (dj := 39) rfl (fun h5 => ?_) (fun h5 => ?_)
    · have g5 := h5
      try simp only [decide_eq_true_eq, decide_eq_false_iff_not, Bool.not_eq_true', Bool.not_eq_false', ne_eq, Decidable.not_not, Int.not_lt, Int.not_le] at g5
      exfalso; omega
    · have g5 := h5
      try simp only [decide_eq_true_eq, decide_eq_false_iff_not, Bool.not_eq_true', Bool.not_eq_false', ne_eq, Decidable.not_not, Int.not_lt, Int.not_le] at g5
      refine dskip hR (i := 5) (dj := 39) rfl (by kernel_rfl) (fun _ _ _ h => h) rfl rfl h5 A rfl hS ?_; clear A a hR; intro a A hR
      refine dskip hR (i := 6) (dj := 39) rfl (by kernel_rfl) (fun _ _ _ h => h) rfl rfl h5 A rfl hS ?_; clear A a hR; intro a A hR
      refine dskip hR (i := 7) (dj := 39) rfl (by kernel_rfl) (fun _ _ _ h => h) rfl rfl h5 A rfl hS ?_; clear A a hR; intro a A hR
      refine dskip hR (i := 8) (dj := 39) rfl (by kernel_rfl) (fun _ _ _ h => h) rfl rfl h5 A rfl hS ?_; clear A a hR; intro a A hR
      refine dskip hR (i := 9) (dj := 39) rfl (by kernel_rfl) (fun _ _ _ h => h) rfl rfl h5 A rfl hS ?_; clear A a hR; intro a A hR
      refine dskip hR (i := 10) (dj := 39) rfl (by kernel_rfl) (fun _ _ _ h => h) rfl rfl h5 A rfl hS ?_; clear A a hR; intro a A hR
      refine dskip hR (i := 11) (dj := 39) rfl (by kernel_rfl) (fun _ _ _ h => h) rfl rfl h5 A rfl hS ?_; clear A a hR; intro a A hR
      refine dskip hR (i := 12) (dj := 39) rfl (by kernel_rfl) (fun _ _ _ h => h) rfl rfl h5 A rfl hS ?_; clear A a hR; intro a A hR
      refine dstep hR (i := 13) rfl (by kernel_rfl) (fun _ _ _ h => h) (fun _ _ H' => (Runs.pickF A rfl h5 rfl)) A rfl hS ?_; clear A a hR; intro a A hR
      refine draw_done hR (by kernel_rfl) ?_
      clear hS hL hR
      refine cond_false A rfl rfl ?_
      refine wp_skip ?_
      refine wp_seq ?_
      refine wp_region_lit ?_
      refine step (Runs.move A rfl) A rfl ?_; clear A a; intro a A
      refine step (Runs.move A rfl) A rfl ?_; clear A a; intro a A
      refine step (Runs.move A rfl) A rfl ?_; clear A a; intro a A
      refine step (Runs.sliceLlo A rfl rfl SlC.h (by omega) (by omega)) A rfl ?_; clear A a; intro a A
      try rw [← e0] at A
      simp only [Int.toNat_natCast] at A
      obtain ⟨_, ys1, hS1, hO1⟩ := hl.lo (i := i) (by omega)
      refine step_appendR A H rfl rfl hS1 hO1.one (by decide) (by omega) (by omega) rfl rfl ?_; clear A a; intro ad6 c6 a w A H
      refine step (Runs.assign A rfl) A rfl ?_; clear A a; intro a A
      refine wpList_nil ?_
      refine wp_ret ?_
      have hlb : lbP l id = i := lbP_of2 (by omega) hall (fun y hy => absurd (List.getElem?_eq_some_iff.1 hy).1 (by omega))
      have hat : atP l id = false := by rw [atP, hlb, List.getElem?_eq_none (by omega)]; rfl
      have e : withP l ⟨id, d⟩ = l.take i ++ [⟨id, d⟩] ++ l.drop (i) := by rw [withP, hlb, hat]; rfl
      have hOR2 : OR m (xs ++ [u64 id, .slice ado no co] ++ ys1) (withP l ⟨id, d⟩) := by rw [e]; exact (hxs.app (OR.single (o := ⟨id, d⟩) ho)).app hO1
      have hlen : i + 1 + (n - (i)) = (withP l ⟨id, d⟩).length := by rw [e]; simp only [List.length_append, List.length_take, List.length_drop, List.length_cons, List.length_nil]; omega
      rw [hlen] at A
      obtain ⟨m2, hm2, hO, H⟩ := H.row_objs hOR2
      exact retF A rfl rfl (hM.trans hm2) H ⟨_, _, rfl, hO⟩

theorem findP_ge {l : List Obj} {id : UInt64} (h : 0 ≤ findP l id) : ∃ (i : Nat) (x : Obj), findP l id = i ∧ l[i]? = some x := by
  unfold findP at h ⊢
  cases hf : l.findIdx? (fun o => o.id == id) with
  | none => rw [hf] at h; exact absurd h (by decide)
  | some i =>
    obtain ⟨h1, _⟩ := List.findIdx?_eq_some_iff_getElem.1 hf
    exact ⟨i, l[i], rfl, List.getElem?_eq_getElem h1⟩
def putR (l : List Obj) (d : List UInt8) : List Obj := if 0 ≤ findP l (dig d) ∧ (l[(findP l (dig d)).toNat]?).any sndP = true then l else withP l ⟨dig d, d⟩

theorem c_wireloomref18_PutIn {ad : Option Addr} {n c : Nat} {l : List Obj} {v0 : Value} {d : List UInt8} {m : Mem} (hl : Objs m ad n c l) (hb : n ≤ 1100000) (hd : Dat m v0 d) : Spec Tryz.prog 12 #[.slice ad n c, v0] m [] (RetF fun m' v => ∃ ad' c', v = .agg #[.slice ad' (putR l d).length c', u64 (dig d), .int .i64 0] ∧ Objs m' ad' (putR l d).length c' (putR l d)) := by
  refine Spec.enter0 Tryz.func12 rfl 31 Tryz.ntmps12 rfl fun a w0 Lf A H => ?_
  have hM := Le.refl m
  obtain ⟨adq, nq, cq, rfl, hsd, hnd⟩ := hd
  have hn := hl.1
  have hcap := hl.cap
  have hmx : maxLen = 9223372036854775807 := rfl
  refine wp_seq ?_
  refine wp_region_lit ?_
  refine step_alloc A H rfl ?_; clear A a; intro b1 a w A H
  refine wpList_nil ?_
  refine wp_seq ?_
  refine wp_region_lit ?_
  refine step (Runs.move A rfl) A rfl ?_; clear A a; intro a A
  refine step_callF A rfl rfl (c_wireloomref01_Bytes hsd hnd) H ?_
  rintro v1_1 a w m hm rfl A H
  have hM := hM.trans hm
  have hl := hl.mono hm
  have hsd := hsd.mono hm
  refine step (Runs.assign A rfl) A rfl ?_; clear A a; intro a A
  refine wpList_nil ?_
  refine wp_seq ?_
  refine wp_region_lit ?_
  refine step (Runs.move A rfl) A rfl ?_; clear A a; intro a A
  refine step (Runs.move A rfl) A rfl ?_; clear A a; intro a A
  refine step_callF A rfl rfl (c_wireloomref18_Find hl) H ?_
  rintro v2_2 a w m hm rfl A H
  have hM := hM.trans hm
  have hl := hl.mono hm
  have hsd := hsd.mono hm
  refine step (Runs.assign A rfl) A rfl ?_; clear A a; intro a A
  refine wpList_nil ?_
  refine wp_seq ?_
  refine wp_seq ?_
  refine wp_region_lit ?_
  refine step (Runs.move A rfl) A rfl ?_; clear A a; intro a A
  refine step (Runs.geq A rfl rfl) A rfl ?_; clear A a; intro a A
  refine step (Runs.move A rfl) A rfl ?_; clear A a; intro a A
  refine onBool A (dj := 14) rfl (fun h1 => ?_) (fun h1 => ?_)
  · have g1 := h1
    try simp only [decide_eq_true_eq, decide_eq_false_iff_not, Bool.not_eq_true', Bool.not_eq_false', ne_eq, Decidable.not_not, Int.not_lt, Int.not_le] at g1
    refine stepG (dj := 14) rfl rfl h1 (Runs.move A rfl) A rfl ?_; clear A a; intro a A
    refine stepG (dj := 14) rfl rfl h1 (Runs.move A rfl) A rfl ?_; clear A a; intro a A
    obtain ⟨i, x, hfi, hx⟩ := findP_ge (by simpa using g1)
    have h1 := h1
    rw [hfi] at A h1
    have hil := (List.getElem?_eq_some_iff.1 hx).1
    obtain ⟨bb, off, cs, e0, hfz, hcs⟩ := hl.all_ (by omega)
    rw [e0] at A
    obtain ⟨vx, hx1, hx2, hx3, hxd⟩ := hcs _ _ hx
    refine stepG (dj := 14) rfl rfl h1 (Runs.indexAddr A rfl rfl SlC.h (by omega) (by omega)) A rfl ?_; clear A a; intro a A
    refine stepG (dj := 14) rfl rfl h1 (Runs.ldN A H rfl (by rw [Int.toNat_natCast]; exact hx3)) A rfl ?_; clear A a; intro a A
    rw [← e0] at A
    refine step_callFG (dj := 14) rfl rfl h1 A rfl rfl (c_wireloomref18_Sound hxd) H ?_
    rintro v3_7 a w m hm rfl A H
    have hM := hM.trans hm
    have hl := hl.mono hm
    have hsd := hsd.mono hm
    have hxd := hxd.mono hm
    refine step (Runs.pickT A rfl h1 rfl) A rfl ?_; clear A a; intro a A
    refine wpList_nil ?_
    refine cond_split A rfl (fun h2 => ?_) (fun h2 => ?_)
    · have g2 := h2
      try simp only [decide_eq_true_eq, decide_eq_false_iff_not, Bool.not_eq_true', Bool.not_eq_false', ne_eq, Decidable.not_not, Int.not_lt, Int.not_le] at g2
      refine wp_seq ?_
      refine wp_region_lit ?_
      refine step (Runs.move A rfl) A rfl ?_; clear A a; intro a A
      refine step (Runs.move A rfl) A rfl ?_; clear A a; intro a A
      refine step (Runs.build A rfl rfl rfl) A rfl ?_; clear A a; intro a A
      refine step_store A H rfl rfl rfl rfl rfl rfl ?_; intro w H
      refine wpList_nil ?_
      refine wp_ret ?_
      have e : putR l d = l := by
        have hsx : sndP x = true := by simpa [sndP] using h2
        rw [putR, if_pos]
        rw [hfi, Int.toNat_natCast, hx]
        exact ⟨by omega, by simp [hsx]⟩
      exact retFc A rfl rfl hM H rfl ⟨_, _, by rw [e, ← hn], by rw [e, ← hn]; exact hl⟩
    · have g2 := h2
      try simp only [decide_eq_true_eq, decide_eq_false_iff_not, Bool.not_eq_true', Bool.not_eq_false', ne_eq, Decidable.not_not, Int.not_lt, Int.not_le] at g2
      refine wp_skip ?_
      refine wp_seq ?_
      refine wp_region_lit ?_
      refine step (Runs.move A rfl) A rfl ?_; clear A a; intro a A
      refine step (Runs.move A rfl) A rfl ?_; clear A a; intro a A
      refine step (Runs.move A rfl) A rfl ?_; clear A a; intro a A
      refine step (Runs.build A rfl rfl rfl) A rfl ?_; clear A a; intro a A
      refine step_callF A rfl rfl (c_with hl (by omega) ⟨_, _, _, rfl, hsd, hnd⟩) H ?_
      rintro v5_4 a w m hm ⟨adw, cw, rfl, hwi⟩ A H
      have hM := hM.trans hm
      have hl := hl.mono hm
      have hsd := hsd.mono hm
      have hxd := hxd.mono hm
      refine step (Runs.move A rfl) A rfl ?_; clear A a; intro a A
      refine step (Runs.build A rfl rfl rfl) A rfl ?_; clear A a; intro a A
      refine step_store A H rfl rfl rfl rfl rfl rfl ?_; intro w H
      refine wpList_nil ?_
      refine wp_ret ?_
      have e : putR l d = withP l ⟨dig d, d⟩ := by
        have hsx : sndP x = false := by simpa [sndP] using h2
        rw [putR, if_neg]
        rw [hfi, Int.toNat_natCast, hx]
        simp [hsx]
      exact retFc A rfl rfl hM H rfl ⟨_, _, by rw [e], by rw [e]; exact hwi⟩
  · have g1 := h1
    try simp only [decide_eq_true_eq, decide_eq_false_iff_not, Bool.not_eq_true', Bool.not_eq_false', ne_eq, Decidable.not_not, Int.not_lt, Int.not_le] at g1
    refine stepSkip (dj := 14) rfl rfl h1 A rfl ?_; clear A a; intro a A
    refine stepSkip (dj := 14) rfl rfl h1 A rfl ?_; clear A a; intro a A
    refine stepSkip (dj := 14) rfl rfl h1 A rfl ?_; clear A a; intro a A
    refine stepSkip (dj := 14) rfl rfl h1 A rfl ?_; clear A a; intro a A
    refine stepSkip (dj := 14) rfl rfl h1 A rfl ?_; clear A a; intro a A
    refine step (Runs.pickF A rfl h1 rfl) A rfl ?_; clear A a; intro a A
    refine wpList_nil ?_
    refine cond_false A rfl rfl ?_
    refine wp_skip ?_
    refine wp_seq ?_
    refine wp_region_lit ?_
    refine step (Runs.move A rfl) A rfl ?_; clear A a; intro a A
    refine step (Runs.move A rfl) A rfl ?_; clear A a; intro a A
    refine step (Runs.move A rfl) A rfl ?_; clear A a; intro a A
    refine step (Runs.build A rfl rfl rfl) A rfl ?_; clear A a; intro a A
    refine step_callF A rfl rfl (c_with hl (by omega) ⟨_, _, _, rfl, hsd, hnd⟩) H ?_
    rintro v5_4 a w m hm ⟨adw, cw, rfl, hwi⟩ A H
    have hM := hM.trans hm
    have hl := hl.mono hm
    have hsd := hsd.mono hm
    refine step (Runs.move A rfl) A rfl ?_; clear A a; intro a A
    refine step (Runs.build A rfl rfl rfl) A rfl ?_; clear A a; intro a A
    refine step_store A H rfl rfl rfl rfl rfl rfl ?_; intro w H
    refine wpList_nil ?_
    refine wp_ret ?_
    have e : putR l d = withP l ⟨dig d, d⟩ := by rw [putR, if_neg (fun h => by have := h.1; omega)]
    exact retFc A rfl rfl hM H rfl ⟨_, _, by rw [e], by rw [e]; exact hwi⟩
end Sl
end Go.Proofs.YtanhehbfbakdcaaGreatDoor
/- Stores: the reference's Broken, Store: walks, printed by my gen.py out of annotations. -/
set_option linter.unusedSimpArgs false
set_option linter.unusedVariables false
namespace Go.Proofs.YtanhehbfbakdcaaGreatDoor
namespace Sl
open Go

def brkP (d : List UInt8) (k0 k1 : UInt8) : List UInt8 := if d.length = 0 then [k1] else d.set (k0.toNat % d.length) (d.getD (k0.toNat % d.length) 0 ^^^ (1 <<< UInt8.ofNat (k1.toNat % 8)))
theorem brk_take {cur : List Value} {d : List UInt8} {j n : Nat} {z : UInt8} (h : cur.take n = d.map u8) (hn : d.length = n) (hj : j < n) : (cur.take j ++ [u8 z] ++ cur.drop (j + 1)).take n = (d.set j z).map u8 := by
  have hcl : n ≤ cur.length := by have := congrArg List.length h; rw [List.length_take, List.length_map] at this; omega
  rw [List.map_set, ← h]
  apply List.ext_getElem?
  intro k
  rw [List.getElem?_set, List.getElem?_take, List.getElem?_append, List.getElem?_append, List.getElem?_take, List.getElem?_drop, List.length_append, List.length_take, Nat.min_eq_left (by omega : j ≤ cur.length)]
  simp only [List.length_cons, List.length_nil, List.length_take, Nat.min_eq_left hcl]
  by_cases h1 : k < n
  · by_cases h2 : k < j
    · simp [h1, h2, show k < j + 1 by omega, show ¬ j = k by omega]
    · by_cases h3 : k = j
      · subst h3; simp [h1]
      · simp [h1, h2, show ¬ k < j + 1 by omega, show ¬ j = k by omega, show j + 1 + (k - (j + 1)) = k by omega]
  · simp [h1, show ¬ j = k by omega]; omega

theorem c_wireloomref18_Broken {ad : Option Addr} {n c : Nat} {d : List UInt8} {k0 k1 : UInt8} {m : Mem} (hs : Slc m 1 ad n c (d.map u8)) (hn : n ≤ 1000000000) : Spec Tryz.prog 38 #[.slice ad n c, .agg #[u8 k0, u8 k1]] m [] (RetF fun m' v => Dat m' v (brkP d k0 k1)) := by
  refine Spec.enter0 Tryz.func38 rfl 38 Tryz.ntmps38 rfl fun a w0 Lf A H => ?_
  have hM := Le.refl m
  have hmx : maxLen = 9223372036854775807 := rfl
  have hl := hs.len8
  have hk0 := u8_lt k0
  have hk1 := u8_lt k1
  refine wp_seq ?_
  refine wp_region_lit ?_
  refine step_box A H rfl (by simp only [Value.cells, List.toList_toArray]; rfl) rfl ?_; intro b1 a w A H
  refine step (Runs.assign A rfl) A rfl ?_; clear A a; intro a A
  refine wpList_nil ?_
  refine wp_seq ?_
  refine wp_region_lit ?_
  refine step_slice A H rfl rfl rfl rfl rfl rfl ?_; intro b2 a w A H
  refine step (Runs.move A rfl) A rfl ?_; clear A a; intro a A
  have H := H.row_pt (n := 0) (size := 1) rfl (by omega)
  refine step_appendR A H rfl rfl hs (u8_one _) (by decide) (by omega) (by omega) rfl rfl ?_; clear A a; intro ad1 c1 a w A H
  refine step (Runs.assign A rfl) A rfl ?_; clear A a; intro a A
  refine wpList_nil ?_
  refine wp_seq ?_
  refine wp_seq ?_
  refine wp_region_lit ?_
  rw [Nat.zero_add] at A H
  rw [List.nil_append] at H
  refine step (Runs.move A rfl) A rfl ?_; clear A a; intro a A
  refine step (Runs.lenL A rfl SlC.h) A rfl ?_; clear A a; intro a A
  refine step (Runs.eql A rfl rfl) A rfl ?_; clear A a; intro a A
  refine wpList_nil ?_
  refine cond_split A rfl (fun h1 => ?_) (fun h1 => ?_)
  · have g1 := h1
    try simp only [decide_eq_true_eq, decide_eq_false_iff_not, Bool.not_eq_true', Bool.not_eq_false', ne_eq, Decidable.not_not, Int.not_lt, Int.not_le] at g1
    refine wp_seq ?_
    refine wp_region_lit ?_
    refine step (Runs.indexArr A rfl rfl (by omega) (by omega)) A rfl ?_; clear A a; intro a A
    refine step (Runs.ld1 A H rfl rfl) A rfl ?_; clear A a; intro a A
    refine step_slice A H rfl rfl rfl rfl rfl rfl ?_; intro b3 a w A H
    refine step (Runs.assign A rfl) A rfl ?_; clear A a; intro a A
    refine wpList_nil ?_
    refine wp_ret ?_
    have hd : d.length = 0 := by omega
    have H := H.row_pt (n := 1) (size := 1) rfl (by omega)
    obtain ⟨m2, hm2, hw, H⟩ := H.row_freeze
    exact retF A rfl rfl (hM.trans hm2) H ⟨_, _, _, rfl, by rw [brkP, if_pos hd]; exact hw, by omega⟩
  · have g1 := h1
    try simp only [decide_eq_true_eq, decide_eq_false_iff_not, Bool.not_eq_true', Bool.not_eq_false', ne_eq, Decidable.not_not, Int.not_lt, Int.not_le] at g1
    refine wp_skip ?_
    refine wp_seq ?_
    obtain ⟨_, hnc1, _⟩ := H.row_len
    have hn0 : 0 < n := by omega
    obtain ⟨g, cur, rfl, hxl, hnc, hcm, hcl, hct, H⟩ := H.row_block (by omega)
    obtain ⟨j, hj⟩ : ∃ j, j = k0.toNat % n := ⟨_, rfl⟩
    have hjn : j < n := by rw [hj]; exact Nat.mod_lt _ hn0
    have hix : ((k0.toNat : Int) % (n : Int)) = ((j : Nat) : Int) := by rw [hj]; exact (Int.natCast_emod _ _).symm
    have hcj : cur[j]? = some (u8 (d.getD j 0)) := by
      have := u8_at (l := d) (i := j) (by omega)
      rw [← hct, Nat.mul_one, List.getElem?_take_of_lt hjn] at this; exact this
    refine draw_begin (ms := m) (Ls := [pt g cur 5, pt b1 [u8 k0, u8 k1] 68]) (by kernel_rfl) (N := 23) rfl (by kernel_rfl) H ?_; clear H; intro w H hR
    have hS : SW m [pt g cur 5, pt b1 [u8 k0, u8 k1] 68] w := H.sw (Le.refl m)
    have hL := Le.refl m
    refine dstep hR (i := 0) rfl (by kernel_rfl) (fun _ _ _ h => h) (fun _ _ H' => (Runs.move A rfl)) A rfl hS ?_; clear A a hR; intro a A hR
    refine dstep hR (i := 1) rfl (by kernel_rfl) (fun _ _ _ h => h) (fun _ _ H' => (Runs.indexArr A rfl rfl (by omega) (by omega))) A rfl hS ?_; clear A a hR; intro a A hR
    refine dstep hR (i := 2) rfl (by kernel_rfl) (fun _ _ _ h => h) (fun _ _ H' => (Runs.ld1 A H' rfl rfl)) A rfl hS ?_; clear A a hR; intro a A hR
    refine dstep hR (i := 4) rfl (by kernel_rfl) (fun _ _ _ h => h) (fun _ _ H' => (Runs.move A rfl)) A rfl hS ?_; clear A a hR; intro a A hR
    refine dstep hR (i := 5) rfl (by kernel_rfl) (fun _ _ _ h => h) (fun _ _ H' => (Runs.lenL A rfl SlC.h)) A rfl hS ?_; clear A a hR; intro a A hR
    refine dstep hR (i := 7) rfl (by kernel_rfl) (fun _ _ _ h => h) (fun _ _ H' => (Runs.move A rfl)) A rfl hS ?_; clear A a hR; intro a A hR
    refine dstep hR (i := 8) rfl (by kernel_rfl) (fun _ _ _ h => h) (fun _ _ H' => (Runs.indexArr A rfl rfl (by omega) (by omega))) A rfl hS ?_; clear A a hR; intro a A hR
    refine dstep hR (i := 9) rfl (by kernel_rfl) (fun _ _ _ h => h) (fun _ _ H' => (Runs.ld1 A H' rfl rfl)) A rfl hS ?_; clear A a hR; intro a A hR
    refine dstep hR (i := 11) rfl (by kernel_rfl) (fun _ _ _ h => h) (fun _ _ H' => (Runs.move A rfl)) A rfl hS ?_; clear A a hR; intro a A hR
    refine dstep hR (i := 12) rfl (by kernel_rfl) (fun _ _ _ h => h) (fun _ _ H' => (Runs.lenL A rfl SlC.h)) A rfl hS ?_; clear A a hR; intro a A hR
    refine dstep hR (i := 16) rfl (by kernel_rfl) (fun _ _ _ h => h) (fun _ _ H' => (Runs.indexArr A rfl rfl (by omega) (by omega))) A rfl hS ?_; clear A a hR; intro a A hR
    refine dstep hR (i := 17) rfl (by kernel_rfl) (fun _ _ _ h => h) (fun _ _ H' => (Runs.ld1 A H' rfl rfl)) A rfl hS ?_; clear A a hR; intro a A hR
    refine dstep hR (i := 18) rfl (by kernel_rfl) (fun _ _ _ h => h) (fun _ _ H' => (Runs.rem A rfl rfl (by omega) (by omega))) A rfl hS ?_; clear A a hR; intro a A hR
    refine dstep hR (i := 19) rfl (by kernel_rfl) (fun _ _ _ h => h) (fun _ _ H' => (Runs.shl8 (p := 1) (k := k1.toNat % 8) A rfl rfl (by omega) (by omega))) A rfl hS ?_; clear A a hR; intro a A hR
    refine draws_all hR (rs := [3, 10]) (by kernel_rfl) (by decide) ?_
    simp only [List.mem_cons, List.not_mem_nil, or_false, forall_eq_or_imp, forall_eq]
    refine ⟨?_, ?_⟩
    · refine dalt (i := 3) rfl ?_
      have hR := hR.next (i := 3) (by kernel_rfl)
      refine step (Runs.convN A rfl (by first | exact wrap_i64 (by omega) (by omega) | rfl)) A rfl ?_; clear A a; intro a A
      refine wpList_nil ?_
      clear hS; refine and_keep (H.sw hL) fun hS => ?_
      refine dstep hR (i := 6) rfl (by kernel_rfl) (fun _ _ _ h => h) (fun _ _ H' => (Runs.rem A rfl rfl (by omega) (by omega))) A rfl hS ?_; clear A a hR; intro a A hR
      refine dlist hR (i := 10) rfl (by kernel_rfl) ?_
      have hR := hR.next (i := 10) (by kernel_rfl)
      refine step (Runs.convN A rfl (by first | exact wrap_i64 (by omega) (by omega) | rfl)) A rfl ?_; clear A a; intro a A
      refine wpList_nil ?_
      clear hS; refine and_keep (H.sw hL) fun hS => ?_
      refine dstep hR (i := 13) rfl (by kernel_rfl) (fun _ _ _ h => h) (fun _ _ H' => (Runs.rem A rfl rfl (by omega) (by omega))) A rfl hS ?_; clear A a hR; intro a A hR
      try rw [hix] at A
      refine dstep hR (i := 14) rfl (by kernel_rfl) (fun _ _ _ h => h) (fun _ _ H' => (Runs.indexAddr A rfl rfl SlC.h (by omega) (by omega))) A rfl hS ?_; clear A a hR; intro a A hR
      refine dstep hR (i := 15) rfl (by kernel_rfl) (fun _ _ _ h => h) (fun _ _ H' => (Runs.ld1 A H' rfl (v := u8 (d.getD j 0)) (by simpa using hcj))) A rfl hS ?_; clear A a hR; intro a A hR
      refine dstep hR (i := 20) rfl (by kernel_rfl) (fun _ _ _ h => h) (fun _ _ H' => (Runs.xor8 A rfl rfl)) A rfl hS ?_; clear A a hR; intro a A hR
      try rw [hix] at A
      refine dstep hR (i := 21) rfl (by kernel_rfl) (fun _ _ _ h => h) (fun _ _ H' => (Runs.indexAddr A rfl rfl SlC.h (by omega) (by omega))) A rfl hS ?_; clear A a hR; intro a A hR
      refine dlist hR (i := 22) rfl (by kernel_rfl) ?_
      have hR := hR.next (i := 22) (by kernel_rfl)
      refine step_store (cs' := cur.take j ++ [u8 (d.getD j 0 ^^^ (1 <<< UInt8.ofNat (k1.toNat % 8)))] ++ cur.drop (j + 1)) A H rfl rfl rfl rfl rfl (by rw [Int.toNat_natCast, Nat.mul_one, Nat.zero_add]; exact setN_put (cs := cur) (vs := [_]) (by show _ + 1 ≤ _; omega)) ?_; intro w H
      refine wpList_nil ?_
      refine and_last (by kernel_rfl) ?_
      refine draw_done hR (by kernel_rfl) ?_
      clear hS hL hR
      refine wp_seq ?_
      refine wp_region_lit ?_
      refine step (Runs.move A rfl) A rfl ?_; clear A a; intro a A
      refine step (Runs.assign A rfl) A rfl ?_; clear A a; intro a A
      refine wpList_nil ?_
      refine wp_ret ?_
      have hb : brkP d k0 k1 = d.set j (d.getD j 0 ^^^ (1 <<< UInt8.ofNat (k1.toNat % 8))) := by rw [brkP, if_neg (by omega), hl, ← hj]
      have hct2 : cur.take n = d.map u8 := by rw [← hct, Nat.mul_one]
      have H := H.block_row (k := n) (c := c1) (size := 1) (xs := (brkP d k0 k1).map u8) (by rw [hb]; simp [hl]) (by omega) (by omega) (by simp only [List.length_append, List.length_take, List.length_drop, List.length_cons, List.length_nil]; omega) (by rw [hb, Nat.mul_one]; exact brk_take hct2 hl hjn)
      obtain ⟨m2, hm2, hw, H⟩ := H.row_freeze
      exact retF A rfl rfl (hM.trans hm2) H ⟨_, _, _, rfl, hw, by omega⟩
    · refine dalt (i := 10) rfl ?_
      have hR := hR.next (i := 10) (by kernel_rfl)
      refine step (Runs.convN A rfl (by first | exact wrap_i64 (by omega) (by omega) | rfl)) A rfl ?_; clear A a; intro a A
      refine wpList_nil ?_
      clear hS; refine and_keep (H.sw hL) fun hS => ?_
      refine dstep hR (i := 13) rfl (by kernel_rfl) (fun _ _ _ h => h) (fun _ _ H' => (Runs.rem A rfl rfl (by omega) (by omega))) A rfl hS ?_; clear A a hR; intro a A hR
      try rw [hix] at A
      refine dstep hR (i := 14) rfl (by kernel_rfl) (fun _ _ _ h => h) (fun _ _ H' => (Runs.indexAddr A rfl rfl SlC.h (by omega) (by omega))) A rfl hS ?_; clear A a hR; intro a A hR
      refine dstep hR (i := 15) rfl (by kernel_rfl) (fun _ _ _ h => h) (fun _ _ H' => (Runs.ld1 A H' rfl (v := u8 (d.getD j 0)) (by simpa using hcj))) A rfl hS ?_; clear A a hR; intro a A hR
      refine dstep hR (i := 20) rfl (by kernel_rfl) (fun _ _ _ h => h) (fun _ _ H' => (Runs.xor8 A rfl rfl)) A rfl hS ?_; clear A a hR; intro a A hR
      refine dlist hR (i := 3) rfl (by kernel_rfl) ?_
      have hR := hR.next (i := 3) (by kernel_rfl)
      refine step (Runs.convN A rfl (by first | exact wrap_i64 (by omega) (by omega) | rfl)) A rfl ?_; clear A a; intro a A
      refine wpList_nil ?_
      clear hS; refine and_keep (H.sw hL) fun hS => ?_
      refine dstep hR (i := 6) rfl (by kernel_rfl) (fun _ _ _ h => h) (fun _ _ H' => (Runs.rem A rfl rfl (by omega) (by omega))) A rfl hS ?_; clear A a hR; intro a A hR
      try rw [hix] at A
      refine dstep hR (i := 21) rfl (by kernel_rfl) (fun _ _ _ h => h) (fun _ _ H' => (Runs.indexAddr A rfl rfl SlC.h (by omega) (by omega))) A rfl hS ?_; clear A a hR; intro a A hR
      refine dlist hR (i := 22) rfl (by kernel_rfl) ?_
      have hR := hR.next (i := 22) (by kernel_rfl)
      refine step_store (cs' := cur.take j ++ [u8 (d.getD j 0 ^^^ (1 <<< UInt8.ofNat (k1.toNat % 8)))] ++ cur.drop (j + 1)) A H rfl rfl rfl rfl rfl (by rw [Int.toNat_natCast, Nat.mul_one, Nat.zero_add]; exact setN_put (cs := cur) (vs := [_]) (by show _ + 1 ≤ _; omega)) ?_; intro w H
      refine wpList_nil ?_
      refine and_last (by kernel_rfl) ?_
      refine draw_done hR (by kernel_rfl) ?_
      clear hS hL hR
      refine wp_seq ?_
      refine wp_region_lit ?_
      refine step (Runs.move A rfl) A rfl ?_; clear A a; intro a A
      refine step (Runs.assign A rfl) A rfl ?_; clear A a; intro a A
      refine wpList_nil ?_
      refine wp_ret ?_
      have hb : brkP d k0 k1 = d.set j (d.getD j 0 ^^^ (1 <<< UInt8.ofNat (k1.toNat % 8))) := by rw [brkP, if_neg (by omega), hl, ← hj]
      have hct2 : cur.take n = d.map u8 := by rw [← hct, Nat.mul_one]
      have H := H.block_row (k := n) (c := c1) (size := 1) (xs := (brkP d k0 k1).map u8) (by rw [hb]; simp [hl]) (by omega) (by omega) (by simp only [List.length_append, List.length_take, List.length_drop, List.length_cons, List.length_nil]; omega) (by rw [hb, Nat.mul_one]; exact brk_take hct2 hl hjn)
      obtain ⟨m2, hm2, hw, H⟩ := H.row_freeze
      exact retF A rfl rfl (hM.trans hm2) H ⟨_, _, _, rfl, hw, by omega⟩
end Sl
end Go.Proofs.YtanhehbfbakdcaaGreatDoor
