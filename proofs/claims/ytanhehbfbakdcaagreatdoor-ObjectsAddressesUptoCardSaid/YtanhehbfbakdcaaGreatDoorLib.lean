/- The library's contracts in the words of the separation logic, and what the package-level variables hold. Own work over the shelf's contracts. -/
import Derived.Test.YtanhehbfbakdcaaGreatDoorRow
import Derived.Test.YtanhehbfbakdcaaGreatDoorTypes
import Derived.Test.YtanhehbfbakdcaaGreatDoorShelf
import Derived.Lib.AtoiErrMem
import Derived.Lib.SmallJoins
set_option linter.unusedSimpArgs false
set_option linter.unusedVariables false
namespace Go.Proofs.YtanhehbfbakdcaaGreatDoor
namespace Sl
open Go Go.RowKit

/-! ### 1. From a contract on worlds -/
theorem St.below {w0 w w' : World} {m : Mem} {L : List Res} (H : St w0 w m L) (h : Below w.heap.size w w') : St w0 w' m L :=
  H.same ⟨h.os, h.tape, h.output, h.size⟩ fun k hk => h.block k hk
theorem Spec.ofBelow {P : Program} {f : FuncId} {args : Array Value} {m : Mem} {R : Value → Prop} (h : ∀ w Lf, St w w m Lf → Calls P f args w fun e w' => ∃ v, e = .returned v ∧ R v ∧ Below w.heap.size w w') : Spec P f args m [] (RetF fun _ v => R v) := by
  intro w Lf H
  refine Calls.mono (h w Lf H) ?_
  rintro e w' ⟨v, rfl, hr, hb⟩
  exact ⟨m, [], Le.refl m, ⟨rfl, hr⟩, H.below hb⟩
theorem below_grow0 (w : World) (k : Nat) (os : Array Obj) : Below w.heap.size w (Go.Sort.grow (w.drewN k) os) :=
  ⟨rfl, rfl, rfl, by simp [Go.Sort.grow], fun j hj => by
    show ((w.drewN k).heap ++ os)[j]? = _
    rw [show (w.drewN k).heap = w.heap from rfl, Array.getElem?_append_left hj]⟩

/-! ### 2. The package-level variables -/
/-- Block 'r' is a map whose entries are, in some order, those of 'l'. -/
def MapIs (m : Mem) (r : Nat) (l : List (Value × Value)) : Prop := ∃ es c, m r = some (.map es c) ∧ (es.toList.map fun e => (e.key, e.val)).Perm l ∧ (es.toList.map (·.born)).Nodup ∧ ∀ e ∈ es.toList, e.born < c
theorem MapIs.mono {m m' : Mem} {r : Nat} {l : List (Value × Value)} (h : MapIs m r l) (k : Le m m') : MapIs m' r l := by
  obtain ⟨es, c, h1, h2, h3, h4⟩ := h
  exact ⟨es, c, k _ _ h1, h2, h3, h4⟩
def ment (l : List (ByteArray × Value)) : List (Value × Value) := l.map fun p => (.string p.1, p.2)
def reservedL : List ByteArray := [⟨#[97, 100, 100]⟩, ⟨#[97, 116]⟩, ⟨#[99, 104, 97, 110]⟩, ⟨#[99, 111, 112, 121]⟩, ⟨#[105, 102]⟩, ⟨#[105, 110]⟩, ⟨#[105, 110, 105, 116]⟩, ⟨#[105, 110, 115, 116]⟩, ⟨#[107, 101, 101, 112]⟩, ⟨#[109, 101, 109]⟩, ⟨#[109, 111, 100, 117, 108, 101]⟩, ⟨#[111, 117, 116]⟩, ⟨#[112, 117, 116]⟩, ⟨#[114, 101, 103]⟩, ⟨#[116, 97, 107, 101]⟩, ⟨#[119, 105, 114, 101]⟩]
def opsL : List (ByteArray × Int) := [(⟨#[38]⟩, 3), (⟨#[43]⟩, 6), (⟨#[45]⟩, 7), (⟨#[46]⟩, 11), (⟨#[60]⟩, 9), (⟨#[61, 61]⟩, 8), (⟨#[94]⟩, 5), (⟨#[124]⟩, 4)]
def resV : List (ByteArray × Value) := reservedL.map fun k => (k, .bool true)
def opsV : List (ByteArray × Value) := opsL.map fun p => (p.1, .int .i64 p.2)
/-- What the variables that the code reads hold: two errors, the table of powers, two maps. -/
structure Glob (m : Mem) : Prop where
  errS : ∃ t p e fr, m 4 = some (.cells #[.iface t p] e fr)
  errR : ∃ t p e fr, m 5 = some (.cells #[.iface t p] e fr)
  pow : ∃ e fr, m 3 = some (.cells (Lib.pow10Tab.map fun z => Value.int .u64 z).toArray e fr)
  res : ∃ e fr r, m 0 = some (.cells #[.map (some r)] e fr) ∧ MapIs m r (ment resV)
  ops : ∃ e fr r, m 1 = some (.cells #[.map (some r)] e fr) ∧ MapIs m r (ment opsV)
theorem Glob.mono {m m' : Mem} (h : Glob m) (k : Le m m') : Glob m' where
  errS := by obtain ⟨t, p, e, fr, h1⟩ := h.errS; exact ⟨t, p, e, fr, k _ _ h1⟩
  errR := by obtain ⟨t, p, e, fr, h1⟩ := h.errR; exact ⟨t, p, e, fr, k _ _ h1⟩
  pow := by obtain ⟨e, fr, h1⟩ := h.pow; exact ⟨e, fr, k _ _ h1⟩
  res := by obtain ⟨e, fr, r, h1, h2⟩ := h.res; exact ⟨e, fr, r, k _ _ h1, h2.mono k⟩
  ops := by obtain ⟨e, fr, r, h1, h2⟩ := h.ops; exact ⟨e, fr, r, k _ _ h1, h2.mono k⟩
theorem globals_at : Tryz.prog.globalNamed "strconv.ErrSyntax" = some 4 ∧ Tryz.prog.globalNamed "strconv.ErrRange" = some 5 ∧ Tryz.prog.globalNamed "internal/strconv.uint64pow10" = some 3 := ⟨by kernel_rfl, by kernel_rfl, by kernel_rfl⟩
theorem St.tab {w0 w : World} {m : Mem} {L : List Res} (H : St w0 w m L) (G : Glob m) : Lib.TabIs Tryz.prog w "internal/strconv.uint64pow10" .u64 Lib.pow10Tab := by
  obtain ⟨e, fr, h⟩ := G.pow
  simp [Lib.TabIs, World.var?, globals_at.2.2, H.frz _ _ h]
theorem St.varS {w0 w : World} {m : Mem} {L : List Res} (H : St w0 w m L) (G : Glob m) : ∃ t p, w.var? Tryz.prog "strconv.ErrSyntax" = some #[.iface t p] := by
  obtain ⟨t, p, e, fr, h⟩ := G.errS
  exact ⟨t, p, by simp [World.var?, globals_at.1, H.frz _ _ h]⟩
theorem St.varR {w0 w : World} {m : Mem} {L : List Res} (H : St w0 w m L) (G : Glob m) : ∃ t p, w.var? Tryz.prog "strconv.ErrRange" = some #[.iface t p] := by
  obtain ⟨t, p, e, fr, h⟩ := G.errR
  exact ⟨t, p, by simp [World.var?, globals_at.2.1, H.frz _ _ h]⟩

/-! ### 3. Functions of the library -/
theorem c_HasPrefix {s p : ByteArray} {m : Mem} : Spec Tryz.prog 180 #[.string s, .string p] m [] (RetE (.bool (Lib.hasPrefix s.data.toList p.data.toList))) :=
  Spec.ofBelow fun w _ _ => (Tryz.strings_HasPrefix s p w).mono fun _ _ ⟨h1, h2⟩ => ⟨_, h1, rfl, h2 ▸ Below.refl _ _⟩
theorem c_IndexByte {s : ByteArray} {c : Int} {m : Mem} : Spec Tryz.prog 181 #[.string s, .int .u8 c] m [] (RetE (.int .i64 (Lib.indexByte s.data.toList c.toNat.toUInt8))) :=
  Spec.ofBelow fun w _ _ => (Tryz.strings_IndexByte s c w).mono fun _ _ ⟨h1, h2⟩ => ⟨_, h1, rfl, h2 ▸ Below.refl _ _⟩
theorem c_Itoa {n : Int} {m : Mem} (G : Glob m) (h0 : -9223372036854775808 ≤ n) (h1 : n ≤ 9223372036854775807) : Spec Tryz.prog 171 #[.int .i64 n] m [] (RetE (.string ⟨(Lib.itoa n).toArray⟩)) :=
  Spec.ofBelow fun w _ H => (Tryz.strconv_Itoa n h0 h1 w (H.tab G)).mono fun _ _ ⟨h1, k, os, h2⟩ => ⟨_, h1, rfl, h2 ▸ below_grow0 w k os⟩
/-- How Atoi ends: a number and no error, or an error. -/
def AtoiR (l : List UInt8) (v : Value) : Prop := (∃ n : Int, Lib.atoiAll l = .ok n ∧ v = .tuple #[.int .i64 n, .nilIface]) ∨ ((∀ n, Lib.atoiAll l ≠ .ok n) ∧ ∃ n t p, v = .tuple #[.int .i64 n, .iface t p])
theorem c_Atoi {s : ByteArray} {m : Mem} (G : Glob m) (hl : s.size ≤ 281474976710656) : Spec Tryz.prog 199 #[.string s] m [] (RetF fun _ v => AtoiR s.data.toList v) :=
  Spec.ofBelow fun w _ H => by
    cases h : Lib.atoiAll s.data.toList with
    | ok n =>
      refine (Tryz.strconv_Atoi_ok s (by omega) n h w).mono ?_
      rintro e w' ⟨h1, h2⟩
      refine ⟨_, h1, .inl ⟨n, h, rfl⟩, ?_⟩
      rcases h2 with rfl | ⟨t, rfl⟩
      · exact Below.refl _ _
      · exact Lib.bytesWorld_below w _ t
    | range =>
      obtain ⟨t, p, hv⟩ := H.varR G
      refine (Tryz.strconv_Atoi_range_var s hl h t p w hv).mono ?_
      rintro e w' ⟨N, h1, _, _, h2⟩
      exact ⟨_, h1, .inr ⟨fun n hn => (by rw [h] at hn; cases hn), _, _, _, rfl⟩, h2⟩
    | _ =>
      obtain ⟨t, p, hv⟩ := H.varS G
      refine (Tryz.strconv_Atoi_syntax_var s hl h t p w hv).mono ?_
      rintro e w' ⟨N, h1, _, _, h2⟩
      exact ⟨_, h1, .inr ⟨fun n hn => (by rw [h] at hn; cases hn), _, _, _, rfl⟩, h2⟩
section
variable {P : Program} {n : Nat} {a : Act} {F : List (Nat × Value)} {D : List Deferred} {w : World} {x y : Operand} {t t' : Nat}
theorem eval_const {a : Act} {v : Value} : a.eval (.const v) = v := rfl
theorem equal_nils {ms : Array (String × TypeId)} (hu : P.underlying t = some (.interface ms)) : (Op.equal t .nilIface .nilIface).run P w = .ok true w := by
  unfold Op.equal
  rw [show Op.maxDepth = 9999 + 1 from rfl]
  generalize 9999 = dd
  simp only [Op.equalIn, Sem.run_bind, run_underlying hu, Result.andThen_ok, Sem.run_pure]
theorem equal_some {ms : Array (String × TypeId)} {q : Nat} {v : Value} (hu : P.underlying t = some (.interface ms)) : (Op.equal t (.iface q v) .nilIface).run P w = .ok false w := by
  unfold Op.equal
  rw [show Op.maxDepth = 9999 + 1 from rfl]
  generalize 9999 = dd
  simp only [Op.equalIn, Sem.run_bind, run_underlying hu, Result.andThen_ok, Sem.run_pure]
def ifaceT (P : Program) (t : Nat) : Bool := (P.underlying t).map (fun d => match d with | .interface _ => true | _ => false) == some true
theorem ifaceT_spec (h : ifaceT P t = true) : ∃ ms, P.underlying t = some (.interface ms) := by
  unfold ifaceT at h
  cases hu : P.underlying t with
  | none => simp [hu] at h
  | some d => cases d <;> simp [hu] at h; exact ⟨_, rfl⟩
theorem Runs.nilErr (A : Fr n a F D) (hx : ev F x = some .nilIface) (ht : ifaceT P t = true) : Runs P a w (.binOp .neq t x (.const .nilIface) t') (.bool false) := by
  intro _ _ _ _ _
  obtain ⟨ms, hu⟩ := ifaceT_spec ht
  have e := equal_nils (w := w) hu
  have g : (eqGuard .neq t x (.const .nilIface) .nilIface .nilIface).run P w = .ok () w := by simp [eqGuard]
  simp only [execOp, A.ev hx, eval_const, Sem.run_bind, g, Result.andThen_ok, binOp, e, Sem.run_pure, Bool.not_true]
theorem Runs.someErr {q : Nat} {v : Value} (A : Fr n a F D) (hx : ev F x = some (.iface q v)) (ht : ifaceT P t = true) : Runs P a w (.binOp .neq t x (.const .nilIface) t') (.bool true) := by
  intro _ _ _ _ _
  obtain ⟨ms, hu⟩ := ifaceT_spec ht
  have e := equal_some (w := w) (q := q) (v := v) hu
  have g : (eqGuard .neq t x (.const .nilIface) (.iface q v) .nilIface).run P w = .ok () w := by simp [eqGuard]
  simp only [execOp, A.ev hx, eval_const, Sem.run_bind, g, Result.andThen_ok, binOp, e, Sem.run_pure, Bool.not_false]
end
end Sl
end Go.Proofs.YtanhehbfbakdcaaGreatDoor
