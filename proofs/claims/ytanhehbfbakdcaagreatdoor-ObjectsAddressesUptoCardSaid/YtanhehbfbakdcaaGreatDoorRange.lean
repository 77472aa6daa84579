/- Ranges over functions, in the words of the separation logic. Own work; nothing about a program stands here. -/
import Derived.Test.YtanhehbfbakdcaaGreatDoorIter
import Derived.RangeFuncLeaves
import Derived.RangeFuncIn
import Derived.RangeFuncOwn
import Derived.RangeFuncCalls
import Derived.RangeFuncRecord
namespace Go.Proofs.YtanhehbfbakdcaaGreatDoor
namespace Sl
open Go Go.RowKit
section
variable {P : Program} {ops : Array Oper} {Q : Exit → Act → World → Prop} {n k : Nat} {a : Act} {w w0 : World} {F : List (Nat × Value)} {D : List Deferred} {m : Mem} {L L' Lf : List Res} {rest : List Oper} {K : Act → World → Prop}
/-- What is no defer statement does in a round what it does elsewhere. -/
theorem oper_in_round {o : Oper} {l : Nat} (hd : ∀ c, o.op ≠ .defer c) (h : o.wp P a w K Q) : o.wpIn (Fence.wide.inRound l) k P a w K Q := by
  refine ⟨fun _ _ => trivial, ?_⟩
  rw [show (Fence.wide.inRound l).round = some l from rfl, Oper.semAt_some l _ _ hd]
  unfold Oper.wp at h
  cases hr : (execOp a.eval o).run P w with
  | ok nx w' =>
    rw [hr] at h
    cases nx with
    | enter f args => exact ⟨fun hh => (by simp [Fence.wide] at hh), CallsIn.inRound l (callsIn_wide.2 h)⟩
    | row r args => exact ⟨fun hh => (by simp [Fence.wide] at hh), fun c cs _ => let ⟨v, w', r, s⟩ := h c cs; ⟨v, w', r, stepsIn_wide.2 s⟩⟩
    | round l f t a c => exact h.elim
    | _ => exact h
  | halt u w' =>
    rw [hr] at h
    cases u <;> exact h
theorem list_in_round {l : Nat} (hq : ¬ LetsOut Q) : ∀ (rest : List Oper) (a : Act) (w : World), (∀ o ∈ rest, ∀ c, o.op ≠ .defer c) → wpList P ops Q rest a w → wpListIn (Fence.wide.inRound l) k P ops Q rest a w
  | [], _, _, _, h => h
  | o :: rest, a, w, hd, h => by
    have ih := list_in_round (l := l) hq rest
    unfold wpList at h
    unfold wpListIn
    by_cases hw : Region.wanted o (yielded ops a.tmps) = true
    · rw [if_pos hw] at h ⊢
      rcases h with h | h
      · refine oper_in_round (hd o (by simp)) (Oper.wp_mono (fun a w x => ih a w (fun o ho => hd o (by simp [ho])) x) h)
      · exact absurd h.2 hq
    · rw [if_neg hw] at h ⊢
      exact ⟨fun _ _ => trivial, ih _ _ (fun o ho => hd o (by simp [ho])) h⟩
def noDefer (l : List Oper) : Bool := l.all fun o => match o.op with
  | .defer _ => false
  | _ => true
theorem noDefer_spec {l : List Oper} (h : noDefer l = true) : ∀ o ∈ l, ∀ c, o.op ≠ .defer c := by
  intro o ho c e
  have := List.all_eq_true.1 h o ho
  rw [e] at this
  cases this
theorem region_in_round {l id : Nat} {os : List Oper} (hq : ¬ LetsOut Q) (hd : noDefer os = true) (h : wpList P os.toArray Q os a w) : (Code.region id os.toArray false).wpIn (Fence.wide.inRound l) k P Q a w :=
  wpIn_region_lit (list_in_round hq _ _ _ (noDefer_spec hd) h)
/-- What a call of yield achieves. -/
def Yields (P : Program) (l : Nat) (vs : Array Value) (w : World) (R : Ending → World → Prop) : Prop := YieldAt Fence.wide 0 P l vs w R
/-- An iterator's contract: it hands over the elements of xs, one after the other; whatever the rounds keep. -/
def Iter {α : Type} (P : Program) (f : FuncId) (cap : List Value) (m : Mem) (Lit : List Res) (enc : α → Value) (xs : List α) : Prop :=
  ∀ (l : Nat) (J : List α → List Res),
    (∀ pre x m1 w1 w Lx, Le m m1 → pre ++ [x] <+: xs → St w1 w m1 (J pre ++ Lx) → Yields P l #[enc x] w fun e w' => e = .returned (.bool true) ∧ ∃ m2, Le m1 m2 ∧ St w1 w' m2 (J (pre ++ [x]) ++ Lx)) →
    Spec P f (.func (.yield l) #[] #[] :: cap).toArray m (Lit ++ J []) fun _ e L' => e = .returned (.tuple #[]) ∧ L' = J xs
theorem stepI {d t : Nat} {pos : String} {after : Array Edge} {op : Op} {v : Value} (R : Runs P a w op v) (A : Fr n a F D) (hd : Nat.blt d n = true) (h : ∀ a', Fr n a' ((d, v) :: F) D → wpListIn Fence.wide k P ops Q rest a' w) :
    wpListIn Fence.wide k P ops Q (⟨some d, op, t, pos, after, none⟩ :: rest) a w := by
  refine wpListIn_plain rfl fun K hK => ⟨fun _ _ => trivial, ?_⟩
  show Oper.uponIn _ _ _ _ _ _ _ ((execOp a.eval _).run P w)
  rw [R (some d) t pos after none]
  exact hK _ _ (h _ (A.put hd v))
theorem step_yield {d t l : Nat} {pos : String} {after : Array Edge} {x y : Operand} {v : Value} {tys : Array TypeId} {R : Ending → World → Prop} (A : Fr n a F D) (hx : ev F x = some (.func (.yield l) #[] #[])) (hy : ev F y = some v) (hd : Nat.blt d n = true) (Y : Yields P l #[v] w R)
    (h : ∀ e w', R e w' → ∃ u, e = .returned u ∧ ∀ a', Fr n a' ((d, u) :: F) D → wpListIn Fence.wide 0 P ops Q rest a' w') :
    wpListIn Fence.wide 0 P ops Q (⟨some d, .call { callee := .value x, args := #[y], argTypes := tys }, t, pos, after, none⟩ :: rest) a w := by
  refine wpListIn_plain rfl fun K hK => ⟨fun _ _ => trivial, ?_⟩
  obtain ⟨fn, tmps, assign, body, h1, h2⟩ := Y
  have hr : (execOp a.eval ⟨some d, .call { callee := .value x, args := #[y], argTypes := tys }, t, pos, after, none⟩).run P w = .ok (.round l fn tmps assign body) w := by
    simp [execOp, resolve, A.ev hx, A.ev hy, Deferred.ofValue, invoke, h1]
  have e0 : Fence.wide.round = none := rfl
  rw [e0, Oper.semAt_none, hr]
  refine ⟨fun hh => (by simp [Fence.wide] at hh), h2.mono ?_⟩
  intro e w' he
  obtain ⟨u, rfl, h⟩ := h e w' he
  exact hK _ _ (h _ (A.put hd u))
/-- What the round's body must achieve. -/
def goesOn (R : World → Prop) : Exit → Act → World → Prop
  | .normal, _, w => R w
  | _, _, _ => False
theorem wp_range {α : Type} {g : Operand} {p gf : Nat} {assign body : Code} {cap : List Value} {m : Mem} {enc : α → Value} {xs : List α} {Lit : List Res} {J : List α → List Res} {B : α → Act → Prop}
    (A : Fr n a F []) (hg : ev F g = some (.func (.func gf) #[] cap.toArray)) [hf : FnC P gf] (hp : Nat.blt p n = true) (S : Iter P gf cap m Lit enc xs) (H : St w0 w m (Lit ++ (J [] ++ Lf)))
    (hassign : ∀ l x a1 W (K : Act → World → Prop), Fr n a1 ((p, enc x) :: F) [] → (∀ a2, B x a2 → K a2 W) → assign.wpIn (Fence.wide.inRound l) 0 P (Exit.then K (fun _ _ _ => False)) a1 W)
    (hbody : ∀ l pre x a2 m1 w1 W Lx, Le m m1 → pre ++ [x] <+: xs → B x a2 → St w1 W m1 (J pre ++ Lx) → body.wpIn (Fence.wide.inRound l) 0 P (goesOn fun W' => ∃ m2, Le m1 m2 ∧ St w1 W' m2 (J (pre ++ [x]) ++ Lx)) a2 W)
    (k : ∀ D a' m' w', Le m m' → Fr n a' F [⟨.collected D, #[]⟩] → St w0 w' m' (J xs ++ (ob D (.deferred (some [])) :: Lf)) → Q .normal a' w') :
    (Code.rangeFunc g #[p] assign body).wp P Q a w := by
  refine (wpIn_wide (n := 0)).1 (wpIn_rangeFunc ?_)
  intro fn hfn
  rw [show Fence.wide.round = none from rfl]
  obtain ⟨rec, hrec⟩ : ∃ rec : LoopState → Option Code → Loop, rec = fun st pe => { state := st, pending := pe, fn, tmps := a.tmps, params := #[p], assign, body, defers := w.heap.size } := ⟨_, rfl⟩
  obtain ⟨W1, hW1⟩ : ∃ W1, (w.alloc (.deferred (some []))).alloc (.loop (rec .ready none)) = W1 := ⟨_, rfl⟩
  have H1 : St w0 W1 m (ob (w.heap.size + 1) (.loop (rec .ready none)) :: ob w.heap.size (.deferred (some [])) :: (Lit ++ (J [] ++ Lf))) := by
    rw [← hW1]
    have := (H.alloc (.deferred (some []))).alloc (.loop (rec .ready none))
    rwa [World.size_alloc] at this
  refine ⟨w.heap.size + 1, [{ target := .collected w.heap.size, args := #[] }], W1, { target := .fn (.func gf) cap.toArray, args := #[.func (.yield (w.heap.size + 1)) #[] #[]] }, W1, gf,
    #[.func (.yield (w.heap.size + 1)) #[] #[]] ++ cap.toArray, W1, ?_, ?_, fun _ _ => trivial, ?_, fun hh => (by simp [Fence.wide] at hh), callsIn_wide.2 ?_⟩
  · rw [← hW1, hrec]; exact run_enterLoop_outer _ _ _ _ _
  · simp only [resolve, A.ev hg]
    simp [go_sem]
  · simp [invoke, go_sem, hf.h]
  · let JJ : List α → List Res := fun pre => ob (w.heap.size + 1) (.loop (rec .ready none)) :: ob w.heap.size (.deferred (some [])) :: J pre
    have H2 : St W1 W1 m ((Lit ++ JJ []) ++ Lf) := by
      refine H1.reset.perm ?_
      simp only [JJ, List.append_assoc, List.cons_append]
      refine List.Perm.trans ?_ (List.perm_middle (l₁ := Lit)).symm
      refine List.Perm.cons _ ?_
      exact (List.perm_middle (l₁ := Lit)).symm
    have C := S (w.heap.size + 1) JJ ?_ W1 Lf H2
    · have earr : (Value.func (.yield (w.heap.size + 1)) #[] #[] :: cap).toArray = #[.func (.yield (w.heap.size + 1)) #[] #[]] ++ cap.toArray := by simp
      rw [earr] at C
      refine Calls.mono C ?_
      rintro e w3 ⟨m', L', hm, ⟨rfl, rfl⟩, H3⟩
      have H4 : St w0 w3 m' (ob (w.heap.size + 1) (.loop (rec .ready none)) :: (ob w.heap.size (.deferred (some [])) :: (J xs ++ Lf))) := by
        have := H1.rebase H3
        simpa [JJ] using this
      have hl := H4.block
      refine ⟨none, _, run_endLoop hl (by rw [hrec]; simp) |>.trans (by rw [hrec]), ?_⟩
      refine k w.heap.size _ m' _ hm ⟨A.size, by simp [A.defers], A.at_⟩ ?_
      have H5 := H4.update (w' := w3.putObj (w.heap.size + 1) (.loop { rec .ready none with state := .exhausted })) (o1 := .loop { rec .ready none with state := .exhausted }) ⟨rfl, rfl, rfl, by simp⟩ (World.putObj_heap_same (Array.getElem?_eq_some_iff.1 hl).1) (fun j hj _ => World.putObj_heap_other hj)
      subst hrec
      exact H5.drop.perm List.perm_middle.symm
    · intro pre x m1 w1 W Lx hm1 hpre HW
      have hl := HW.block (L := ob w.heap.size (.deferred (some [])) :: J pre ++ Lx)
      have hy := run_yield (P := P) (args := #[enc x]) hl (by rw [hrec]; rfl)
      rw [hrec] at hy
      refine ⟨fn, _, assign, body, hy, roundIn_of_wpIn trivial ?_⟩
      refine hassign _ x _ _ _ ?_ fun a2 hB => ?_
      · have := A.put hp (enc x)
        refine ⟨by simpa [Act.put] using this.size, rfl, fun i v hv => ?_⟩
        simpa [Act.put] using this.at_ i v hv
      · refine ⟨_, run_beginRound hl (by rw [hrec]), ?_⟩
        have hlt := (Array.getElem?_eq_some_iff.1 hl).1
        have HB := HW.update (L := ob w.heap.size (.deferred (some [])) :: J pre ++ Lx) (w' := W.putObj (w.heap.size + 1) (.loop { rec .ready none with state := .busy })) (o1 := .loop { rec .ready none with state := .busy }) ⟨rfl, rfl, rfl, by simp⟩ (World.putObj_heap_same hlt) (fun j hj _ => World.putObj_heap_other hj)
        have HB2 : St w1 (W.putObj (w.heap.size + 1) (.loop { rec .ready none with state := .busy })) m1 (J pre ++ (ob (w.heap.size + 1) (.loop { rec .ready none with state := .busy }) :: ob w.heap.size (.deferred (some [])) :: Lx)) := by
          refine HB.perm ?_
          refine List.Perm.trans ?_ List.perm_middle.symm
          refine List.Perm.cons _ ?_
          exact List.perm_middle.symm
        refine wpIn_mono (hbody _ pre x a2 m1 w1 _ _ hm1 hpre hB HB2) ?_
        rintro e a3 W3 h3
        cases e with
        | normal =>
          obtain ⟨m2, hm2, H3⟩ := h3
          have H4 : St w1 W3 m2 (ob (w.heap.size + 1) (.loop { rec .ready none with state := .busy }) :: (J (pre ++ [x]) ++ (ob w.heap.size (.deferred (some [])) :: Lx))) := H3.perm List.perm_middle
          have hl3 := H4.block
          have hend := run_endRound (P := P) none hl3
          refine ⟨_, _, hend, rfl, m2, hm2, ?_⟩
          have H5 := H4.update (w' := W3.putObj (w.heap.size + 1) (.loop (rec .ready none))) (o1 := .loop (rec .ready none)) ⟨rfl, rfl, rfl, by simp⟩ (World.putObj_heap_same (Array.getElem?_eq_some_iff.1 hl3).1) (fun j hj _ => World.putObj_heap_other hj)
          have H6 := H5.perm (List.Perm.cons _ List.perm_middle)
          have e2 : ({ rec .ready none with state := .busy, pending := none } : Loop) = { rec .ready none with state := .busy } := by rw [hrec]
          subst hrec
          exact H6
        | _ => exact h3.elim
theorem endI {fn : Func} {m0 : Mem} {Lz : List Res} (A : Fr n a F []) (hr : fn.results = #[]) (hM : Le m0 m) (H : St w0 w m (Lz ++ Lf)) :
    bodyPost P fn (fun e w' => ∃ m' L', Le m0 m' ∧ (e = .returned (.tuple #[]) ∧ L' = Lz) ∧ St w0 w' m' (L' ++ Lf)) .normal a w := end_none A hr ⟨m, Lz, hM, ⟨rfl, rfl⟩, H⟩
/-- A function whose body holds a range over a function. -/
theorem Spec.enterM {f : FuncId} {fn : Func} {c : Code} {vs : List Value} {m : Mem} {Post : Mem → Ending → List Res → Prop} (hf : P.funcs[f]? = some fn) (hb : fn.body = some c)
    (n : Nat) (hn : fn.ntmps = n) (hle' : Nat.ble vs.length n = true)
    (h : ∀ a w Lf, Fr n a (args0 0 vs) [] → St w w m (L ++ Lf) → c.wp P (bodyPostM Fence.wide 0 P fn fun e w' => ∃ m' L', Le m m' ∧ Post m' e L' ∧ St w w' m' (L' ++ Lf)) a w) : Spec P f vs.toArray m L Post := by
  intro w Lf H
  have hle : vs.length ≤ n := Nat.le_of_ble_eq_true hle'
  refine callsIn_wide.1 (callsIn_of_wp_marks hf hb trivial (wpIn_wide.2 (h _ w Lf ⟨?_, rfl, fun i v hv => ?_⟩ H)))
  · simp; omega
  · obtain ⟨_, h2⟩ := lk_args0 vs 0 i v hv
    have hi : i < vs.length := (List.getElem?_eq_some_iff.1 h2).1
    simp only [Array.getElem?_append, List.size_toArray, hi, if_true]
    simpa using h2
/-- The return behind a range over a function. -/
theorem retFM {fn : Func} {s : Nat} {v : Value} {R : Mem → Value → Prop} {D : Nat} {m0 : Mem} {Lr : List Res} (A : Fr n a F [⟨.collected D, #[]⟩]) (hr : fn.results = #[.tmp s]) (hv : lk F s = some v) (hM : Le m0 m) (H : St w0 w m L) [hD : HasOb L D (.deferred (some [])) Lr] [SubH Lf Lr] (h : R m v) :
    bodyPostM Fence.wide 0 P fn (fun e w' => ∃ m' L', Le m0 m' ∧ RetF R m' e L' ∧ St w0 w' m' (L' ++ Lf)) .ret a w := by
  have H1 := H.perm hD.p
  have hk := H1.block
  have H2 := H1.update (w' := w.putObj D (.deferred none)) (o1 := .deferred none) ⟨rfl, rfl, rfl, by simp⟩ (World.putObj_heap_same (Array.getElem?_eq_some_iff.1 hk).1) (fun j hj _ => World.putObj_heap_other hj)
  show LeavesInM _ _ _ _ _ _ a.defers _ _
  rw [A.defers]
  refine ⟨by simp, .inl ⟨_, _, rfl, run_takeDeferred hk, ?_⟩⟩
  exact ⟨v, by rw [results_tmp hr]; simp [Array.getD_eq_getD_getElem?, A.at_ s v hv], m, [], hM, ⟨rfl, h⟩, St.sub (L' := Lf) H2.drop⟩
end
end Sl
end Go.Proofs.YtanhehbfbakdcaaGreatDoor
