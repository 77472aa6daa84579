/- Strings and bytes turned to one another; results in cells. Own work. -/
import Derived.Test.YtanhehbfbakdcaaGreatDoorCopy
import Derived.Test.YtanhehbfbakdcaaGreatDoorMap
import Derived.Laws.BytesArg
import Derived.Lib.ConvBytes
set_option linter.unusedVariables false
set_option linter.unusedSimpArgs false
namespace Go.Proofs.YtanhehbfbakdcaaGreatDoor
namespace Sl
open Go Go.RowKit
section
variable {P : Program} {n : Nat} {a : Act} {F : List (Nat × Value)} {D : List Deferred} {w0 w : World} {m m0 : Mem} {L Lf : List Res} {ops : Array Oper} {Q : Exit → Act → World → Prop} {rest : List Oper}
variable {d t : Nat} {pos : String} {after : Array Edge} {x : Operand}
theorem str_nums (l : List UInt8) : strOfNums (l.map fun c => (c.toNat : Int)) = ⟨l.toArray⟩ := by
  unfold strOfNums
  simp [Function.comp_def]
theorem Runs.bytesStr {src dst e : Nat} {v : Value} {l : List UInt8} [hs : SlC P src e 1] [hd : StrC P dst] [he : IntC P e .u8] (A : Fr n a F D) (H : St w0 w m L) (hx : ev F x = some v) (hv : Dat m v l) : Runs P a w (.convert src dst x) (.string ⟨l.toArray⟩) := by
  intro _ _ _ _ _
  obtain ⟨ad, k, c, rfl, hS, hk⟩ := hv
  obtain ⟨q, g1, g2, g3⟩ := slEl_spec hs.h
  have hl : l.length = k := hS.len8
  rcases Nat.eq_zero_or_pos k with h0 | h0
  · have hnil : l = [] := List.eq_nil_of_length_eq_zero (by omega)
    subst hnil; subst h0
    have : (convert src dst (.slice ad 0 c)).run P w = .ok (.string ⟨#[]⟩) w := by
      rw [run_convert_bytes_string w src dst e ad 0 c g1 he.h hd.h]
      cases ad with
      | none => rfl
      | some ad => rw [run_bytesToString w ad 0 c [] (by simp [loadCells, loadCellsFrom])]; rfl
    simp only [execOp, A.ev hx, Sem.run_bind, this, Result.andThen_ok, Sem.run_pure]
  · obtain ⟨b, off, cs, rfl, hf, hcs⟩ := hS.all8 h0
    have := run_convert_bytes_arg (P := P) w src e g1 he.h b off k c (l.map fun c => (c.toNat : Int)) (by simpa using hl) (fun i hi => by
      obtain ⟨o, ho⟩ := ex_at (l := l) (i := i) (by omega)
      rw [H.cell (Blk.fz hf.h), hcs i o ho, List.getD_eq_getElem?_getD, List.getElem?_map, ho]; rfl) dst hd.h
    rw [str_nums] at this
    simp only [execOp, A.ev hx, Sem.run_bind, this, Result.andThen_ok, Sem.run_pure]
theorem step_strBytes {src dst e ts : Nat} {s : ByteArray} [hs : StrC P src] [hd : SlC P dst e 1] [he : IntC P e .u8] (A : Fr n a F D) (H : St w0 w m L) (hx : ev F x = some (.string s)) (hn : s.size ≤ 1000000000) (hdn : Nat.blt d n = true)
    (K : ∀ v a' w' m', Le m m' → Dat m' v s.data.toList → Fr n a' ((d, v) :: F) D → St w0 w' m' L → wpList P ops Q rest a' w') :
    wpList P ops Q (⟨some d, .convert src dst x, ts, pos, after, none⟩ :: rest) a w := by
  obtain ⟨q, g1, g2, g3⟩ := slEl_spec hd.h
  have hr := Lib.run_convert_string_bytes (P := P) w src dst e s hs.h g1 he.h
  have hb := Lib.bytesWorld_below w e s
  have hnew := Lib.bytesWorld_at_new w e s
  have H1 : St w0 (Lib.bytesWorld w e s) m (ob w.heap.size (.cells (Lib.bytesCells w e s) e ((Lib.bytesCells w e s).size, (Lib.bytesCells w e s).size + 1)) :: L) :=
    H.new ⟨by simp [Lib.bytesWorld, World.freeze, World.alloc, World.drew, -World.alloc_eq, -World.drew_eq], by simp [Lib.bytesWorld, World.freeze, World.alloc, World.drew, -World.alloc_eq, -World.drew_eq], by simp [Lib.bytesWorld, World.freeze, World.alloc, World.drew, -World.alloc_eq, -World.drew_eq], by rw [Lib.bytesWorld_size]; omega⟩ hnew (Nat.le_refl _) fun k hk => Lib.bytesWorld_at_old w e s k hk
  obtain ⟨m', hm, hf, H2⟩ := H1.freezeO
  have hcap := grownCap_ge w s.size 0 e
  have hcm : grownCap w s.size 0 e ≤ maxLen := grownCap_le_maxLen w s.size 0 e (by simp only [maxLen]; omega)
  refine wpList_plain rfl fun K' hK => ?_
  unfold Oper.wp
  simp only [execOp, A.ev hx, Sem.run_bind, hr, Result.andThen_ok, Sem.run_pure]
  refine hK _ _ (K _ _ _ m' hm ⟨_, _, _, rfl, ⟨by simp, hcap, hcm, fun _ => ⟨w.heap.size, 0, (Lib.bytesCells w e s).toList, rfl, ⟨_, _, by simpa using hf⟩, ?_⟩⟩, hn⟩ (A.put hdn _) H2)
  rw [List.drop_zero, Nat.mul_one]
  have e1 : (Lib.bytesCells w e s).toList = s.data.toList.map u8 ++ List.replicate (grownCap w s.size 0 e - s.size) (.int .u8 0) := by simp [Lib.bytesCells, u8]
  rw [e1, show s.size = (s.data.toList.map u8).length by simp, List.take_left]
/-- what a function hands back: a slot, or the variable that a slot leads to -/
def rvR (P : Program) (w : World) (F : List (Nat × Value)) : ResultVar → Value → Prop
  | .tmp t, v => lk F t = some v
  | .cell s ty, v => ∃ p, lk F s = some (.pointer (some p)) ∧ (loadVar ty p).run P w = .ok v w
theorem rv1 {s ty bytes b off : Nat} {zs cs : List Value} {v : Value} (H : St w0 w m L) (hp : lk F s = some (.pointer (some ⟨b, off, none⟩))) [T : TyC P ty false 1 bytes zs] [hb : BlkC m L b cs] (hv : cs[off]? = some v) : rvR P w F (.cell s ty) v := by
  refine ⟨_, hp, ?_⟩
  have hc : w.cell? ⟨b, off, none⟩ = some v := (H.cell hb.h off).trans hv
  simp [loadVar, Sem.run_bind, T.h.runAgg, load, Sem.run, hc]
theorem rvN {s ty k bytes b off : Nat} {zs cs vs : List Value} (H : St w0 w m L) (hp : lk F s = some (.pointer (some ⟨b, off, none⟩))) [T : TyC P ty true k bytes zs] [hb : BlkC m L b cs] (hv : getN cs off k = some vs) : rvR P w F (.cell s ty) (.agg vs.toArray) := by
  refine ⟨_, hp, ?_⟩
  obtain ⟨h1, h2⟩ := getN_some hv
  have hl : vs.length = k := by rw [h2]; simp; omega
  have hc : (loadCells ⟨b, off, none⟩ vs.length).run P w = .ok vs.toArray w := run_loadCells_list w ⟨b, off, none⟩ vs fun j v hj => by
    rw [addr_add, H.cell hb.h]
    rw [h2] at hj
    have hlt : j < k := by
      have := (List.getElem?_eq_some_iff.1 hj).1
      simp at this; omega
    rw [List.getElem?_take_of_lt hlt, List.getElem?_drop] at hj
    exact hj
  rw [hl] at hc
  simp [loadVar, Sem.run_bind, T.h.runAgg, T.h.runSize, hc]
theorem mapM3 {g : ResultVar → Sem Value} {r1 r2 r3 : ResultVar} {v1 v2 v3 : Value} (h1 : (g r1).run P w = .ok v1 w) (h2 : (g r2).run P w = .ok v2 w) (h3 : (g r3).run P w = .ok v3 w) : (#[r1, r2, r3].mapM g).run P w = .ok #[v1, v2, v3] w := by
  rw [Array.mapM_eq_mapM_toList]
  simp only [List.mapM_cons, List.mapM_nil, Sem.run_bind, Sem.run_map, h1, h2, h3, Result.andThen_ok, Sem.run_pure]
theorem mapM2 {g : ResultVar → Sem Value} {r1 r2 : ResultVar} {v1 v2 : Value} (h1 : (g r1).run P w = .ok v1 w) (h2 : (g r2).run P w = .ok v2 w) : (#[r1, r2].mapM g).run P w = .ok #[v1, v2] w := by
  rw [Array.mapM_eq_mapM_toList]
  simp only [List.mapM_cons, List.mapM_nil, Sem.run_bind, Sem.run_map, h1, h2, Result.andThen_ok, Sem.run_pure]
theorem rv_tmp {A' : Act} {t : Nat} {v : Value} (A : Fr n A' F D) (h : rvR P w F (.tmp t) v) : (Pure.pure (A'.tmps.getD t undef) : Sem Value).run P w = .ok v w := by
  simp [Array.getD_eq_getD_getElem?, A.at_ t v h]
theorem rv_cell {A' : Act} {s ty : Nat} {v : Value} (A : Fr n A' F D) (h : rvR P w F (.cell s ty) v) : (do loadVar ty (← asAddr (A'.tmps.getD s undef)) : Sem Value).run P w = .ok v w := by
  obtain ⟨p, hp, hl⟩ := h
  have : A'.tmps.getD s undef = .pointer (some p) := by rw [Array.getD_eq_getD_getElem?, A.at_ s _ hp]; rfl
  simp only [this, asAddr, Sem.run_bind, Sem.run_pure, Result.andThen_ok, hl]
theorem results3 {fn : Func} {r1 r2 r3 : ResultVar} {v1 v2 v3 : Value} (A : Fr n a F D) (hr : fn.results = #[r1, r2, r3]) (h1 : rvR P w F r1 v1) (h2 : rvR P w F r2 v2) (h3 : rvR P w F r3 v3) : (results fn a.tmps).run P w = .ok (.tuple #[v1, v2, v3]) w := by
  unfold results
  rw [hr, Sem.run_bind, mapM3 (v1 := v1) (v2 := v2) (v3 := v3)]
  · rfl
  · cases r1 with
    | tmp t => exact rv_tmp A h1
    | cell s ty => exact rv_cell A h1
  · cases r2 with
    | tmp t => exact rv_tmp A h2
    | cell s ty => exact rv_cell A h2
  · cases r3 with
    | tmp t => exact rv_tmp A h3
    | cell s ty => exact rv_cell A h3
theorem results2 {fn : Func} {r1 r2 : ResultVar} {v1 v2 : Value} (A : Fr n a F D) (hr : fn.results = #[r1, r2]) (h1 : rvR P w F r1 v1) (h2 : rvR P w F r2 v2) : (results fn a.tmps).run P w = .ok (.tuple #[v1, v2]) w := by
  unfold results
  rw [hr, Sem.run_bind, mapM2 (v1 := v1) (v2 := v2)]
  · rfl
  · cases r1 with
    | tmp t => exact rv_tmp A h1
    | cell s ty => exact rv_cell A h1
  · cases r2 with
    | tmp t => exact rv_tmp A h2
    | cell s ty => exact rv_cell A h2
theorem retR3 {fn : Func} {r1 r2 r3 : ResultVar} {v1 v2 v3 : Value} {R : Mem → Value → Prop} (A : Fr n a F []) (hr : fn.results = #[r1, r2, r3]) (h1 : rvR P w F r1 v1) (h2 : rvR P w F r2 v2) (h3 : rvR P w F r3 v3) (hM : Le m0 m) (H : St w0 w m L) [SubH Lf L] (h : R m (.tuple #[v1, v2, v3])) :
    bodyPost P fn (fun e w' => ∃ m' L', Le m0 m' ∧ RetF R m' e L' ∧ St w0 w' m' (L' ++ Lf)) .ret a w :=
  ⟨A.defers, _, results3 A hr h1 h2 h3, m, [], hM, ⟨rfl, h⟩, St.sub (L' := Lf) H⟩
theorem retR2 {fn : Func} {r1 r2 : ResultVar} {v1 v2 : Value} {R : Mem → Value → Prop} (A : Fr n a F []) (hr : fn.results = #[r1, r2]) (h1 : rvR P w F r1 v1) (h2 : rvR P w F r2 v2) (hM : Le m0 m) (H : St w0 w m L) [SubH Lf L] (h : R m (.tuple #[v1, v2])) :
    bodyPost P fn (fun e w' => ∃ m' L', Le m0 m' ∧ RetF R m' e L' ∧ St w0 w' m' (L' ++ Lf)) .ret a w :=
  ⟨A.defers, _, results2 A hr h1 h2, m, [], hM, ⟨rfl, h⟩, St.sub (L' := Lf) H⟩
end
end Sl
end Go.Proofs.YtanhehbfbakdcaaGreatDoor
