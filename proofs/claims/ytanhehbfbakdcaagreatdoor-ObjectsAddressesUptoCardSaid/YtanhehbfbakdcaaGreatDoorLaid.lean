/- From the row's listed variables to Glob. Own work. -/
import Derived.Test.YtanhehbfbakdcaaGreatDoorOpen
import Derived.Test.YtanhehbfbakdcaaGreatDoorLib
import Derived.Lib.LaidTab
import Derived.ChangeMaps3
import Derived.MakeChecks
set_option linter.unusedSimpArgs false
set_option linter.unusedVariables false
namespace Go.Proofs.YtanhehbfbakdcaaGreatDoor
namespace Sl
open Go Go.RowKit Go.ChangeShapes Go.WideShapes Go.Deep
section
variable {H : Type} {enc : TypeId × Value → H} {P : Program} {w : World} {base : Nat} {sp : Nat → Bool} {held : Bool}
theorem iface_cell {t fuel : Nat} {cs : List Value} {nm : String} {d : DataW H} {p : List MemPlace} {ms : Array (String × TypeId)} (ht : P.underlying t = some (.interface ms))
    (h : DataW.trod enc P w base sp held fuel t cs = some (.iface nm d, p)) : ∃ u v, cs = [.iface u v] := by
  cases fuel with
  | zero => simp [DataW.trod] at h
  | succ n =>
    rw [DataW.trod_step] at h
    unfold DataW.trodStep at h
    rw [ht] at h
    split at h <;> simp_all
theorem mapM_pair {α β γ : Type} {f : α → Option β} {g : α → γ} {k : β → γ} : ∀ {l : List α} {r : List β}, l.mapM f = some r → (∀ x ∈ l, ∀ y, f x = some y → g x = k y) → l.map g = r.map k := by
  intro l
  induction l with
  | nil => intro r h _; simp at h; subst h; rfl
  | cons a l ih =>
    intro r h hx
    rw [List.mapM_cons] at h
    cases ha : f a with
    | none => simp [ha] at h
    | some y =>
      cases hl : l.mapM f with
      | none => simp [ha, hl] at h
      | some ys =>
        simp [ha, hl] at h
        subst h
        rw [List.map_cons, List.map_cons, hx a (by simp) y ha, ih hl fun x hm => hx x (by simp [hm])]
def decL : Lit → Value
  | .string l => .string ⟨l.toArray⟩
  | .bool b => .bool b
  | .int k z => .int k z
  | _ => .nilIface
def dec (p : Lit × DataW H) : Value × Value := (decL p.1, match p.2 with | .lit l => decL l | _ => .nilIface)
def strMap (P : Program) (t : Nat) : Bool := match P.underlying t with
  | some (.map k e) => (match P.underlying k with | some .string => true | _ => false) && (match P.underlying e with | some .bool => true | some (.int _) => true | _ => false)
  | _ => false
theorem strMap_spec {t : Nat} (h : strMap P t = true) : ∃ k e, P.underlying t = some (.map k e) ∧ P.underlying k = some .string ∧ (P.underlying e = some .bool ∨ ∃ kd, P.underlying e = some (.int kd)) := by
  unfold strMap at h
  split at h
  · rename_i k e hu
    simp only [Bool.and_eq_true] at h
    refine ⟨k, e, hu, ?_, ?_⟩
    · have := h.1
      split at this
      · assumption
      · cases this
    · have := h.2
      split at this
      · exact .inl (by assumption)
      · exact .inr ⟨_, by assumption⟩
      · cases this
  · cases h
theorem key_of {k : Nat} (hk : P.underlying k = some .string) {v : Value} {l : Lit} (h : keyOf P k v = some l) : v = decL l := by
  rw [keyOf_string hk] at h
  unfold mapKey at h
  rw [hk] at h
  split at h <;> simp_all [decL]
  obtain ⟨_, rfl⟩ := h
  rfl
theorem val_of {e fuel : Nat} (he : P.underlying e = some .bool ∨ ∃ kd, P.underlying e = some (.int kd)) {v : Value} {y : DataW H × List MemPlace} (hf : v.formed P e = true)
    (h : DataW.trod enc P w base sp held fuel e v.cells.toList = some y) : v = (match y.1 with | .lit l => decL l | _ => .nilIface) := by
  have one : ∀ x, v.cells.toList = [x] → v = x := by
    intro x hx
    cases v <;> simp_all [Value.cells]
    rcases he with he | ⟨kd, he⟩ <;> simp [Value.formed, he] at hf
  rcases he with he | ⟨kd, he⟩
  · obtain ⟨b, h1, rfl⟩ := DataW.trod_bool he h
    exact one _ h1
  · obtain ⟨n, h1, rfl, _⟩ := DataW.trod_int he h
    exact one _ h1
theorem open_mapS {t fuel : Nat} {cs : List Value} {l : List (Lit × DataW H)} {p : List MemPlace} (ht : strMap P t = true)
    (h : DataW.trod enc P w base sp held fuel t cs = some (.map l, p)) :
    ∃ r es c, cs = [.map (some r)] ∧ w.heap[r]? = some (.map es c) ∧ (es.toList.map fun e => (e.key, e.val)).Perm (l.map dec) ∧ (es.toList.map (·.born)).Nodup ∧ ∀ e ∈ es.toList, e.born < c := by
  obtain ⟨k, e, ht, hk, he⟩ := strMap_spec ht
  cases fuel with
  | zero => simp [DataW.trod] at h
  | succ n =>
    rw [DataW.trod_step] at h
    unfold DataW.trodStep at h
    rw [ht] at h
    match cs, h with
    | [.map (some b)], h =>
      cases hb : w.heap[b]? with
      | none => simp [hb] at h
      | some o =>
        cases o with
        | map es clock =>
          simp only [hb] at h
          split at h
          · rename_i hc
            obtain ⟨c1, c2, c3, c4⟩ := hc
            simp only [Option.bind_eq_some_iff] at h
            obtain ⟨E, hE, h3⟩ := h
            split at h3
            · have hl : (E.map (·.1)).foldr DataW.insert [] = l := by simpa using congrArg (fun o => o.map (·.1)) h3
              refine ⟨b, es, clock, rfl, hb, ?_, ChangeMaps.nodup_of_eraseDups _ (by rw [c4]; simp), fun y hy => ?_⟩
              · have e1 : es.toList.map (fun e => (e.key, e.val)) = E.map (fun q => dec q.1) := mapM_pair hE fun x _ y hy => by
                  obtain ⟨key, h1, h2⟩ := Option.bind_eq_some_iff.1 hy
                  split at h2
                  · rename_i hfm
                    obtain ⟨z, hz, rfl⟩ := Option.map_eq_some_iff.1 h2
                    simp only [dec]
                    rw [key_of hk h1, ← val_of he hfm hz]
                  · cases h2
                rw [e1, ← hl, show E.map (fun q => dec q.1) = (E.map (·.1)).map dec by simp]
                exact ((sorted_perm _).map dec).symm
              · rw [← Array.all_toList] at c3
                simpa using List.all_eq_true.1 c3 y hy
            · cases h3
          · cases h
        | _ => simp [hb] at h
    | [.map none], h => simp at h
end
section
variable {P : Program} {w : World}
theorem laid_at {n : String} {d : DataW Unit} : ∀ {l : List (String × DataW Unit)} {ps : List MemPlace}, (n, d) ∈ l → DataW.LaidVars P w l ps →
    ∃ g t cs fuel p, P.globalNamed n = some g ∧ (P.globals[g]?).map (·.type) = some t ∧ w.var? P n = some cs ∧ DataW.trod (fun _ => ()) P w 0 (fun _ => true) false fuel t cs.toList = some (d, p)
  | [], _, h, _ => by cases h
  | (n', d') :: r, _, h, hv => by
    obtain ⟨g, t, cs, fuel, p, q, h1, h2, h3, h4, hq, rfl⟩ := hv
    rcases List.mem_cons.1 h with e | e
    · cases e; exact ⟨g, t, cs, fuel, p, h1, h2, h3, h4⟩
    · exact laid_at e hq
theorem var_cells {n : String} {g : Nat} {cs : Array Value} (hg : P.globalNamed n = some g) (h : w.var? P n = some cs) : ∃ e fr, w.heap[g]? = some (.cells cs e fr) := by
  unfold World.var? at h
  simp only [hg, Option.bind_some] at h
  cases hh : w.heap[g]? with
  | none => simp [hh] at h
  | some o => cases o <;> simp [hh] at h; subst h; exact ⟨_, _, rfl⟩
def gType (P : Program) (n : String) (f : Nat → Bool) : Bool := match P.globalNamed n with
  | some g => (match (P.globals[g]?).map (·.type) with | some t => f t | none => false)
  | none => false
theorem gType_spec {n : String} {f : Nat → Bool} {g t : Nat} (h : gType P n f = true) (hg : P.globalNamed n = some g) (ht : (P.globals[g]?).map (·.type) = some t) : f t = true := by
  unfold gType at h
  simpa [hg, ht] using h
theorem laid_err {n nm : String} {d : DataW Unit} {l : List (String × DataW Unit)} {ps : List MemPlace} {g : Nat} (hg : P.globalNamed n = some g) (hT : gType P n (ifaceT P) = true) (hm : (n, .iface nm d) ∈ l) (hV : DataW.LaidVars P w l ps) :
    ∃ t p e fr, all w g = some (.cells #[.iface t p] e fr) := by
  obtain ⟨g', t, cs, fuel, p, h1, h2, h3, h4⟩ := laid_at hm hV
  obtain rfl := Option.some.inj (hg.symm.trans h1)
  obtain ⟨ms, hu⟩ := ifaceT_spec (gType_spec hT h1 h2)
  obtain ⟨u, v, hcs⟩ := iface_cell hu h4
  obtain ⟨e, fr, hh⟩ := var_cells h1 h3
  have : cs = #[.iface u v] := by cases cs; simp_all
  subst this
  exact ⟨u, v, e, fr, hh⟩
theorem laid_map {n : String} {q : List (Lit × DataW Unit)} {l : List (String × DataW Unit)} {ps : List MemPlace} {g : Nat} {vs : List (Value × Value)} (hg : P.globalNamed n = some g) (hT : gType P n (strMap P) = true) (hm : (n, .map q) ∈ l) (hV : DataW.LaidVars P w l ps) (hq : q.map dec = vs) :
    ∃ e fr r, all w g = some (.cells #[.map (some r)] e fr) ∧ MapIs (all w) r vs := by
  obtain ⟨g', t, cs, fuel, p, h1, h2, h3, h4⟩ := laid_at hm hV
  obtain rfl := Option.some.inj (hg.symm.trans h1)
  obtain ⟨r, es, c, hcs, hr, hp, hnd, hbc⟩ := open_mapS (gType_spec hT h1 h2) h4
  obtain ⟨e, fr, hh⟩ := var_cells h1 h3
  have : cs = #[.map (some r)] := by cases cs; simp_all
  subst this
  exact ⟨e, fr, r, hh, es, c, hr, hq ▸ hp, hnd, hbc⟩
def arrT (P : Program) (n : Nat) (t : Nat) : Bool := match P.underlying t with
  | some (.array m e) => m == n && (match P.underlying e with | some (.int .u64) => true | _ => false) && P.cellsOf e == 1 && P.cellsOf t == n
  | _ => false
theorem laid_pow {n : String} {zs : List Int} {l : List (String × DataW Unit)} {ps : List MemPlace} {g : Nat} {d : DataW Unit} (hg : P.globalNamed n = some g) (hT : gType P n (arrT P zs.length) = true) (hm : (n, d) ∈ l) (hV : DataW.LaidVars P w l ps) (hd : d = Lib.tabData .u64 zs) :
    ∃ e fr, all w g = some (.cells (zs.map fun z => Value.int .u64 z).toArray e fr) := by
  subst hd
  obtain ⟨g', t, cs, fuel, p, h1, h2, h3, h4⟩ := laid_at hm hV
  obtain rfl := Option.some.inj (hg.symm.trans h1)
  have hT' := gType_spec hT h1 h2
  unfold arrT at hT'
  split at hT'
  · rename_i m e hu
    simp only [Bool.and_eq_true, beq_iff_eq] at hT'
    obtain ⟨⟨⟨rfl, a2⟩, a3⟩, a4⟩ := hT'
    have a2' : P.underlying e = some (.int .u64) := by
      split at a2
      · assumption
      · cases a2
    have := Lib.cells_of_tab hu a2' a3 a4 h4
    obtain ⟨e, fr, hh⟩ := var_cells h1 h3
    refine ⟨e, fr, ?_⟩
    have : cs = (zs.map fun z => Value.int .u64 z).toArray := by cases cs; simp_all
    rw [← this]; exact hh
  · cases hT'
end

/-! ### The program's own -/
def lRow : List (String × DataW Unit) := [("math/bits.deBruijn32tab", Rows.laid_math_bits_deBruijn32tab), ("math/bits.deBruijn64tab", Rows.laid_math_bits_deBruijn64tab), ("internal/strconv.uint64pow10", Rows.laid_internal_strconv_uint64pow10), ("strconv.ErrRange", Rows.laid_strconv_ErrRange), ("strconv.ErrSyntax", Rows.laid_strconv_ErrSyntax), ("wireloom/syntax.reserved", Rows.laid_wireloom_syntax_reserved), ("wireloom/syntax.operators", Rows.laid_wireloom_syntax_operators)]
theorem pow_data : (Rows.laid_internal_strconv_uint64pow10 : DataW Unit) = Lib.tabData .u64 Lib.pow10Tab := by kernel_rfl
theorem glob_of_laid {W : World} (h : laidMetH Tryz.prog lRow W) : Glob (all W) := by
  rw [MakeChecks.laidMetH_plain _ _ _ (by kernel_rfl)] at h
  obtain ⟨ps, hV, _, _⟩ := h
  exact {
    errS := laid_err (n := "strconv.ErrSyntax") (by kernel_rfl) (by kernel_rfl) (.tail _ (.tail _ (.tail _ (.tail _ (.head _))))) hV
    errR := laid_err (n := "strconv.ErrRange") (by kernel_rfl) (by kernel_rfl) (.tail _ (.tail _ (.tail _ (.head _)))) hV
    pow := laid_pow (n := "internal/strconv.uint64pow10") (by kernel_rfl) (by kernel_rfl) (.tail _ (.tail _ (.head _))) hV pow_data
    res := laid_map (n := "wireloom/syntax.reserved") (by kernel_rfl) (by kernel_rfl) (.tail _ (.tail _ (.tail _ (.tail _ (.tail _ (.head _)))))) hV (by kernel_rfl)
    ops := laid_map (n := "wireloom/syntax.operators") (by kernel_rfl) (by kernel_rfl) (.tail _ (.tail _ (.tail _ (.tail _ (.tail _ (.tail _ (.head _))))))) hV (by kernel_rfl) }
end Sl
end Go.Proofs.YtanhehbfbakdcaaGreatDoor
