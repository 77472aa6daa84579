/- From a walk of a law over (Raw, []byte, []byte) to its contract on readings. Own work. -/
import Derived.Test.YtanhehbfbakdcaaGreatDoorLaid
import Derived.WalkKit
import Derived.ProofKit
import Derived.Carry
set_option linter.unusedSimpArgs false
set_option linter.unusedVariables false
namespace Go.Proofs.YtanhehbfbakdcaaGreatDoor
namespace Sl
open Go Go.RowKit Go.ChangeShapes Go.WideShapes Go.Deep
def twoF (P : Program) (t e0 e1 : Nat) : Bool := match P.underlying t with
  | some (.struct fs) => (match fs.toList with
    | [f0, f1] => f0.type == e0 && f0.offset == 0 && f1.type == e1 && f1.offset == 1
    | _ => false)
  | _ => false
section
variable {H : Type} {enc : TypeId × Value → H} {P : Program} {w : World} {base : Nat} {sp : Nat → Bool} {held : Bool}
theorem twoF_spec {t e0 e1 : Nat} (h : twoF P t e0 e1 = true) : ∃ f0 f1, P.underlying t = some (.struct #[f0, f1]) ∧ f0.type = e0 ∧ f0.offset = 0 ∧ f1.type = e1 ∧ f1.offset = 1 := by
  unfold twoF at h
  split at h
  · rename_i fs hu
    split at h
    · rename_i f0 f1 hl
      simp only [Bool.and_eq_true, beq_iff_eq] at h
      obtain ⟨⟨⟨a, b⟩, c⟩, d⟩ := h
      refine ⟨f0, f1, ?_, a, b, c, d⟩
      rw [hu]
      congr 2
      cases fs
      simpa using hl
    · cases h
  · cases h
theorem open_two {t e0 e1 fuel : Nat} {v : Value} {x : DataW H × List MemPlace} {r : Reach} {b0 : Nat} (ht : twoF P t e0 e1 = true) (hc : P.cellsOf t = 2) (h0 : P.cellsOf e0 = 1) (h1 : P.cellsOf e1 = 1)
    (hv : Value.okWide P w r b0 t v) (h : DataW.trod enc P w base sp held fuel t v.cells.toList = some x) :
    ∃ v0 v1 y0 y1 n, v = .agg #[v0, v1] ∧ x = (.agg [y0.1, y1.1], y0.2 ++ y1.2) ∧ DataW.trod enc P w base sp held n e0 [v0] = some y0 ∧ DataW.trod enc P w base sp held n e1 [v1] = some y1 := by
  obtain ⟨f0, f1, hu, rfl, o0, rfl, o1⟩ := twoF_spec ht
  obtain ⟨cs, rfl, hl⟩ := okWide_struct hu hv
  obtain ⟨y0, y1, n, rfl, _, g0, g1⟩ := trod_struct2 hu h
  rw [hc] at hl
  obtain ⟨a, b, rfl⟩ : ∃ a b, cs = #[a, b] := by
    obtain ⟨l⟩ := cs
    match l, hl with
    | [a, b], _ => exact ⟨a, b, rfl⟩
  · skip
    rw [o0, h0] at g0
    rw [o1, h1] at g1
    exact ⟨a, b, y0, y1, n, rfl, rfl, by simpa [Value.cells] using g0, by simpa [Value.cells] using g1⟩
theorem val_slice {t e : Nat} {v : Value} {ad : Option Addr} {n c : Nat} {r : Reach} {b0 : Nat} (ht : P.underlying t = some (.slice e)) (hv : Value.okWide P w r b0 t v) (h : v.cells.toList = [.slice ad n c]) : v = .slice ad n c := by
  cases v <;> simp_all [Value.cells]
  simp [Value.okWide, ht, Cell.okWide, Cell.ok] at hv
end
section
variable {H : Type} {enc : TypeId × Value → H} {P : Program}
/-- Nothing that stood before has turned: the postcondition of a law that keeps its arguments. -/
theorem post_below {f : Func} {s : ChangeSpec} {apart fresh handsOn again : Bool} {W W' : World} {args : Array Value} {v : Value} {ds gs : List (DataW H)} {before pa pv : List MemPlace}
    (hW : DataW.Whole enc P f.params.toList s.vars apart W args.toList ds gs before)
    (hres : ∀ (b : Nat) (sp : Nat → Bool) (hd : Bool), DataW.TrodAll enc P W' b sp hd f.resultTypes.toList (v.resultList f.resultTypes.size) (s.fn H (ds ++ gs)).results [])
    (hargs : ∀ sp : Nat → Bool, (∀ p ∈ before, sp p.block = true) → DataW.TrodAll enc P W' 0 sp true f.params.toList args.toList (s.fn H (ds ++ gs)).args pa)
    (hvars : ∀ sp : Nat → Bool, (∀ p ∈ before, sp p.block = true) → DataW.TrodVars enc P W' sp s.vars (s.fn H (ds ++ gs)).vars pv)
    (hps : before = pa ++ pv) (hb : Below W.heap.size W W')
    (hok : ∀ (j : Nat) (t : TypeId) (r : Value), f.resultTypes[j]? = some t → (v.resultList f.resultTypes.size)[j]? = some r → Value.okWide P W' .any 0 t r) :
    s.post enc P f apart fresh handsOn again W args v W' := by
  have hold : ∀ p ∈ before, (fun b => decide (b < W.heap.size)) p.block = true := fun p hp => by simpa using hW.lt p hp
  have hlt := hW.lt
  refine ⟨ds, gs, before, [], pa, pv, hW, hres _ _ _, hargs _ hold, hvars _ hold, World.keptBut_mono (fun p hp => ⟨hp, ?_⟩) (hb.frame (· ∈ before)), fun _ => ?_⟩
  · rw [hps, List.mem_append] at hp
    exact Or.inr hp
  · obtain ⟨_, _, _, _, _, hz, hn⟩ := hW
    refine ⟨hok, _, _, ([] ++ pa) ++ pv, ⟨[] ++ pa, pv, trodAll_append (hargs _ (fun _ _ => rfl)) (hres _ _ _), hvars _ (fun _ _ => rfl), rfl, ?_, ?_⟩, ?_⟩
    · intro b off hp
      have hp' : MemPlace.cell b off ∈ before := by rw [hps]; simpa using hp
      rw [hb.frozen (p := ⟨b, off, none⟩) (hlt _ hp')]
      exact hz b off hp'
    · intro ha
      have := hn ha
      rw [hps] at this
      simpa using this
    · intro p hp _
      rw [hps]
      simpa using hp
end

/-! ### The laws over a raw store and two texts -/
abbrev tRaw : TypeId := 25
abbrev tBy : TypeId := 28
theorem u_by : Tryz.prog.underlying tBy = some (.slice 5) := by kernel_rfl
theorem u_u8 : Tryz.prog.underlying 5 = some (.int .u8) := by kernel_rfl
theorem u_dats : Tryz.prog.underlying 22 = some (.slice tBy) := by kernel_rfl
theorem u_tris : Tryz.prog.underlying 23 = some (.slice 84) := by kernel_rfl
theorem u_tri : Tryz.prog.underlying 84 = some (.array 3 5) := by kernel_rfl
theorem u_bool : Tryz.prog.underlying 4 = some .bool := by kernel_rfl
theorem laidOut : laidOutB Tryz.prog = true := by kernel_rfl
theorem readRaw : Tryz.prog.readableRec tRaw = true := by kernel_rfl
theorem readBy : Tryz.prog.readableRec tBy = true := by kernel_rfl
/-- A law that for every raw store and two texts returns true. -/
def LawTrue (f : Nat) : Prop := ∀ {adL adB ada adb : Option Addr} {nL cL nB cB na ca nb cb : Nat} {ls : List (List UInt8)} {ts : List (UInt8 × UInt8 × UInt8)} {da db : List UInt8} {m : Mem}, Glob m → Dats m adL nL cL ls → Tris m adB nB cB ts → nL ≤ 1100000 → nB ≤ 1100000 → Slc m 1 ada na ca (da.map u8) → na ≤ 1000000000 → Slc m 1 adb nb cb (db.map u8) → nb ≤ 1000000000 →
  Spec Tryz.prog f #[.agg #[.slice adL nL cL, .slice adB nB cB], .slice ada na ca, .slice adb nb cb] m [] (RetE (.bool true))
theorem val3 {K : TypeId → Value → Prop} {t0 t1 t2 : TypeId} {v0 v1 v2 : Value} (h : ∀ (j : Nat) t v, #[t0, t1, t2][j]? = some t → #[v0, v1, v2][j]? = some v → K t v) : K t0 v0 ∧ K t1 v1 ∧ K t2 v2 :=
  ⟨h 0 _ _ rfl rfl, h 1 _ _ rfl rfl, h 2 _ _ rfl rfl⟩
set_option maxRecDepth 100000 in
theorem law_contract {f : Nat} {fn : Func} (law : LawTrue f) (hp : fn.params = #[tRaw, tBy, tBy]) (hr : fn.resultTypes = #[4]) {s : ChangeSpec} (hs : s.vars = [])
    (hfn : ∀ (H : Type) (d1 d2 d3 : DataW H), s.fn H [d1, d2, d3] = { results := [.lit (.bool true)], args := [d1, d2, d3] })
    {H : Type} {enc : TypeId × Value → H} {W : World} {base : Nat} {args : Array Value} {ds gs : List (DataW H)} {before : List MemPlace}
    (hval : ∀ (j : Nat) t v, fn.params[j]? = some t → args[j]? = some v → Value.okWide Tryz.prog W .any base t v)
    (hW : DataW.Whole enc Tryz.prog fn.params.toList s.vars false W args.toList ds gs before)
    (hcond : Rows.uptoSmall H (ds ++ gs) = true) (hL : laidMetH Tryz.prog lRow W) :
    Calls Tryz.prog f args W fun e W' => ∃ v, e = .returned v ∧ s.post enc Tryz.prog fn false true false false W args v W' := by
  have hW' := hW
  obtain ⟨p, q, hA0, hV, rfl, hfz, hnd⟩ := hW
  rw [hs] at hV
  obtain ⟨rfl, rfl⟩ := trodVars_none hV
  rw [hp] at hA0 hval
  obtain ⟨v0, v1, v2, d0, d1, d2, p0, p1, p2, rfl, rfl, rfl, h0, h1, h2⟩ := trodAll_three hA0
  obtain ⟨ok0, ok1, ok2⟩ := val3 (K := fun t v => Value.okWide Tryz.prog W .any base t v) hval
  have hbk : Rows.uptoBulk d0 + (Rows.uptoBulk d1 + (Rows.uptoBulk d2 + 0)) ≤ 1048576 := by
    have this : Rows.uptoBulkAll ([d0, d1, d2] ++ []) ≤ 1048576 := of_decide_eq_true hcond
    simp only [List.append_nil, Rows.uptoBulkAll] at this
    exact this
  obtain ⟨f0, g0⟩ := h0
  obtain ⟨f1, g1⟩ := h1
  obtain ⟨f2, g2⟩ := h2
  obtain ⟨a0, a1, y0, y1, n, rfl, hx, k0, k1⟩ := open_two (e0 := 22) (e1 := 23) (by kernel_rfl) (by kernel_rfl) (by kernel_rfl) (by kernel_rfl) ok0 g0
  obtain ⟨e1, _⟩ := Prod.mk.inj hx
  have hd0 : Rows.uptoBulk d0 = Rows.uptoBulk y0.1 + (Rows.uptoBulk y1.1 + 0) + 1 := by rw [e1]; simp only [Rows.uptoBulk, Rows.uptoBulkAll]
  obtain ⟨adL, nL, cL, ls, eL, hLs, bL⟩ := open_dats u_dats (by kernel_rfl) u_by u_u8 (by kernel_rfl) k0 (by omega)
  obtain ⟨adB, nB, cB, ts, eB, hTs, bB⟩ := open_tris u_tris u_tri (by kernel_rfl) u_u8 (by kernel_rfl) k1
  obtain ⟨ada, na, ca, da, ea, hsa, ba⟩ := open_bytes u_by u_u8 (by kernel_rfl) g1
  obtain ⟨adb, nb, cb, db, eb, hsb, bb⟩ := open_bytes u_by u_u8 (by kernel_rfl) g2
  obtain rfl : a0 = .slice adL nL cL := by simpa using eL
  obtain rfl : a1 = .slice adB nB cB := by simpa using eB
  obtain rfl := val_slice u_by ok1 ea
  obtain rfl := val_slice u_by ok2 eb
  simp only at ba bb
  have sp := law (glob_of_laid hL) hLs hTs (by omega) (by omega) hsa (by omega) hsb (by omega)
  refine Calls.mono (sp W [] (St.start W)) ?_
  rintro e W' ⟨m', L', hle, hpost, HS⟩
  have hb := HS.below_all hle
  cases e with
  | returned v =>
  obtain ⟨rfl, rfl⟩ := hpost
  refine ⟨_, rfl, ?_⟩
  have lt := hW'.lt
  have hargs : ∀ sp : Nat → Bool, (∀ x ∈ p0 ++ p1 ++ p2 ++ [], sp x.block = true) → DataW.TrodAll enc Tryz.prog W' 0 sp true [tRaw, tBy, tBy] _ [d0, d1, d2] (p0 ++ (p1 ++ p2)) := fun sp hsp =>
    trodAll_mk3
      (WideElems.Trod_stays laidOut readRaw (by decide +kernel) ⟨f0, g0⟩ (fun x hx => hb.same (lt x (by simp [hx]))) (fun x hx => hsp x (by simp [hx])))
      (WideElems.Trod_stays laidOut readBy (by decide +kernel) ⟨f1, g1⟩ (fun x hx => hb.same (lt x (by simp [hx]))) (fun x hx => hsp x (by simp [hx])))
      (WideElems.Trod_stays laidOut readBy (by decide +kernel) ⟨f2, g2⟩ (fun x hx => hb.same (lt x (by simp [hx]))) (fun x hx => hsp x (by simp [hx])))
  refine post_below (pa := p0 ++ (p1 ++ p2)) (pv := []) hW' (fun b sp hd => ?_) (fun sp hsp => ?_) (fun sp hsp => ?_) (by simp) hb (fun j t r hj hrr => ?_)
  · rw [hr, List.append_nil, hfn]
    exact trodAll_cons_mk (shut_bool u_bool _) trodAll_mk0
  · rw [hp, List.append_nil, hfn]
    exact hargs sp hsp
  · rw [hs, List.append_nil, hfn]
    exact rfl
  · revert hj hrr
    exact ok_one hr rfl (okWide_bool_mk u_bool _) j t r
  | _ => exact hpost.elim
end Sl
end Go.Proofs.YtanhehbfbakdcaaGreatDoor
