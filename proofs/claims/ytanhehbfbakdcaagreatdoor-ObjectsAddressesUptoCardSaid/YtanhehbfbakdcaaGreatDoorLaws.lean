/- The laws of stores, in plain Lean: lists of objects in order of their Ids. Own work; no program stands here. -/
import Derived.Test.YtanhehbfbakdcaaGreatDoorObjS
set_option linter.unusedVariables false
set_option linter.unusedSimpArgs false
namespace Go.Proofs.YtanhehbfbakdcaaGreatDoor
namespace Sl
open Go
theorem srt_cons {x : Obj} {l : List Obj} : Srt (x :: l) ↔ (∀ y ∈ l, x.id < y.id) ∧ Srt l := List.pairwise_cons
/-- what a store has under an Id -/
def lkp : List Obj → UInt64 → Option (List UInt8)
  | [], _ => none
  | o :: l, id => if o.id = id then some o.data else lkp l id
theorem lkp_none {l : List Obj} {id : UInt64} (h : ∀ y ∈ l, y.id ≠ id) : lkp l id = none := by
  induction l with
  | nil => rfl
  | cons x l ih => rw [lkp, if_neg (h x (by simp)), ih fun y hy => h y (by simp [hy])]
theorem lkp_above {l : List Obj} {id : UInt64} (h : ∀ y ∈ l, id < y.id) : lkp l id = none := lkp_none fun y hy e => by
  have := h y hy; rw [e] at this; exact UInt64.lt_irrefl _ this
theorem lkp_mem {l : List Obj} {id : UInt64} {d : List UInt8} (h : lkp l id = some d) : ⟨id, d⟩ ∈ l := by
  induction l with
  | nil => cases h
  | cons x l ih =>
    rw [lkp] at h
    split at h
    · rename_i e; cases h; subst e; simp
    · exact List.mem_cons_of_mem _ (ih h)
theorem mem_lkp {l : List Obj} (hs : Srt l) {o : Obj} (h : o ∈ l) : lkp l o.id = some o.data := by
  induction l with
  | nil => cases h
  | cons x l ih =>
    rcases List.mem_cons.1 h with rfl | h
    · rw [lkp, if_pos rfl]
    · have h1 := (srt_cons.1 hs).1 o h
      rw [lkp, if_neg (fun e => by rw [e] at h1; exact UInt64.lt_irrefl _ h1), ih (srt_cons.1 hs).2 h]
theorem lkp_isSome {l : List Obj} {id : UInt64} : (lkp l id).isSome = true ↔ id ∈ l.map (·.id) := by
  induction l with
  | nil => simp [lkp]
  | cons x l ih =>
    rw [lkp]
    split
    · rename_i e; simp [e]
    · rename_i e; rw [ih]; simp; exact fun h => absurd h.symm e
theorem srt_ext : ∀ {l l' : List Obj}, Srt l → Srt l' → (∀ id, lkp l id = lkp l' id) → l = l'
  | [], [], _, _, _ => rfl
  | [], y :: l', _, _, h => by have := h y.id; simp [lkp] at this
  | x :: l, [], _, _, h => by have := h x.id; simp [lkp] at this
  | x :: l, y :: l', hs, hs', h => by
    obtain ⟨a1, a2⟩ := srt_cons.1 hs
    obtain ⟨b1, b2⟩ := srt_cons.1 hs'
    have hid : x.id = y.id := by
      rcases Decidable.em (x.id = y.id) with e | ne
      · exact e
      · exfalso
        rcases UInt64.lt_or_lt_of_ne ne with hlt | hlt
        · have := h x.id
          rw [lkp, if_pos rfl, lkp, if_neg (Ne.symm ne), lkp_above fun z hz => UInt64.lt_trans hlt (b1 z hz)] at this
          cases this
        · have := h y.id
          rw [lkp, if_neg ne, lkp_above fun z hz => UInt64.lt_trans hlt (a1 z hz), lkp, if_pos rfl] at this
          cases this
    have hd : x.data = y.data := by
      have := h x.id
      rw [lkp, if_pos rfl, lkp, if_pos hid.symm] at this
      exact Option.some.inj this
    have hxy : x = y := by cases x; cases y; simp_all
    subst hxy
    rw [srt_ext a2 b2 fun id => ?_]
    have := h id
    rw [lkp, lkp] at this
    by_cases e : x.id = id
    · rw [← e, lkp_above a1, lkp_above b1]
    · rwa [if_neg e, if_neg e] at this

/-! ### Laying an object in its place -/
def insF (o : Obj) : List Obj → List Obj
  | [] => [o]
  | x :: l => if x.id < o.id then x :: insF o l else if x.id = o.id then o :: l else o :: x :: l
theorem insF_mem {o y : Obj} : ∀ {l : List Obj}, y ∈ insF o l → y = o ∨ y ∈ l
  | [], h => by simp [insF] at h; exact .inl h
  | x :: l, h => by
    rw [insF] at h
    split at h
    · rcases List.mem_cons.1 h with rfl | h
      · simp
      · rcases insF_mem h with e | e
        · exact .inl e
        · simp [e]
    · split at h
      · rcases List.mem_cons.1 h with rfl | h
        · simp
        · simp [h]
      · rcases List.mem_cons.1 h with rfl | h
        · simp
        · exact .inr h
theorem insF_srt {o : Obj} : ∀ {l : List Obj}, Srt l → Srt (insF o l)
  | [], _ => List.pairwise_singleton _ _
  | x :: l, h => by
    obtain ⟨h1, h2⟩ := srt_cons.1 h
    rw [insF]
    split
    · rename_i hlt
      refine srt_cons.2 ⟨fun y hy => ?_, insF_srt h2⟩
      rcases insF_mem hy with rfl | hy
      · exact hlt
      · exact h1 y hy
    · split
      · rename_i he
        exact srt_cons.2 ⟨fun y hy => by rw [← he]; exact h1 y hy, h2⟩
      · rename_i hlt he
        have hox : o.id < x.id := by
          rcases UInt64.lt_or_lt_of_ne he with h | h
          · exact absurd h hlt
          · exact h
        refine srt_cons.2 ⟨fun y hy => ?_, h⟩
        rcases List.mem_cons.1 hy with rfl | hy
        · exact hox
        · exact UInt64.lt_trans hox (h1 y hy)
theorem insF_lkp {o : Obj} {id : UInt64} : ∀ {l : List Obj}, Srt l → lkp (insF o l) id = if id = o.id then some o.data else lkp l id
  | [], _ => by
    show (if o.id = id then some o.data else none) = (if id = o.id then some o.data else none)
    by_cases e : id = o.id
    · rw [if_pos e.symm, if_pos e]
    · rw [if_neg (Ne.symm e), if_neg e]
  | x :: l, h => by
    obtain ⟨h1, h2⟩ := srt_cons.1 h
    rw [insF]
    split
    · rename_i hlt
      rw [lkp, insF_lkp h2, lkp]
      by_cases e : x.id = id
      · have : ¬ id = o.id := fun e2 => by rw [e, e2] at hlt; exact UInt64.lt_irrefl _ hlt
        rw [if_pos e, if_neg this, if_pos e]
      · rw [if_neg e, if_neg e]
    · split
      · rename_i he
        rw [lkp, lkp]
        by_cases e : id = o.id
        · rw [if_pos e.symm, if_pos e]
        · rw [if_neg (Ne.symm e), if_neg e, if_neg (fun e2 => e (by rw [← e2, he]))]
      · rw [lkp]
        by_cases e : id = o.id
        · rw [if_pos e.symm, if_pos e]
        · rw [if_neg (Ne.symm e), if_neg e]
theorem lbP_cons {x : Obj} {l : List Obj} {id : UInt64} : lbP (x :: l) id = if x.id < id then lbP l id + 1 else 0 := by
  unfold lbP
  by_cases h : x.id < id <;> simp [List.takeWhile_cons, h]
theorem atP_cons {x : Obj} {l : List Obj} {id : UInt64} : atP (x :: l) id = if x.id < id then atP l id else decide (x.id = id) := by
  unfold atP
  rw [lbP_cons]
  by_cases h : x.id < id <;> simp [h]
theorem withP_ins {o : Obj} : ∀ {l : List Obj}, withP l o = insF o l
  | [] => by simp [withP, insF, lbP, atP]
  | x :: l => by
    have ih := withP_ins (o := o) (l := l)
    unfold withP at ih ⊢
    rw [lbP_cons, atP_cons, insF]
    by_cases h : x.id < o.id
    · simp only [h, if_true]
      rw [List.take_succ_cons, show lbP l o.id + 1 + (if atP l o.id = true then 1 else 0) = (lbP l o.id + (if atP l o.id = true then 1 else 0)) + 1 by omega, List.drop_succ_cons, List.cons_append, List.cons_append, ih]
    · simp only [h, if_false]
      by_cases e : x.id = o.id <;> simp [e]
theorem atP_at {l : List Obj} (hs : Srt l) {id : UInt64} : (if atP l id then l[lbP l id]? else none) = (lkp l id).map fun d => ⟨id, d⟩ := by
  induction l with
  | nil => simp [atP, lbP, lkp]
  | cons x l ih =>
    obtain ⟨h1, h2⟩ := srt_cons.1 hs
    rw [lbP_cons, atP_cons, lkp]
    by_cases h : x.id < id
    · have hne : ¬ x.id = id := fun e => by rw [e] at h; exact UInt64.lt_irrefl _ h
      simp only [h, if_true, hne, if_false, List.getElem?_cons_succ]
      exact ih h2
    · simp only [h, if_false]
      by_cases e : x.id = id
      · simp only [e, decide_true, if_true, List.getElem?_cons_zero, Option.map_some]
        cases x; simp_all
      · have hlt : id < x.id := by
          rcases UInt64.lt_or_lt_of_ne e with k | k
          · exact absurd k h
          · exact k
        simp only [e, decide_false, if_false, Bool.false_eq_true]
        rw [lkp_above fun y hy => UInt64.lt_trans hlt (h1 y hy)]; rfl
/-- whether data are those of a digest -/
def soundB (id : UInt64) (d : List UInt8) : Bool := decide (id = dig d)
theorem soundB_self (d : List UInt8) : soundB (dig d) d = true := decide_eq_true rfl
theorem sndP_mk {i : UInt64} {d : List UInt8} : sndP ⟨i, d⟩ = soundB i d := rfl
theorem getP_lkp {l : List Obj} (hs : Srt l) {id : UInt64} : getP l id = (lkp l id).bind fun d => if soundB id d then some d else none := by
  have h := atP_at hs (id := id)
  unfold getP
  by_cases ha : atP l id = true
  · rw [if_pos ha] at h ⊢
    rw [h]
    cases lkp l id with
    | none => rfl
    | some d => rw [Option.map_some, Option.bind_some, Option.bind_some, sndP_mk]
  · rw [if_neg ha] at h ⊢
    cases hq : lkp l id with
    | none => rfl
    | some d => rw [hq] at h; cases h
/-- whether there is a sound object under an Id -/
def okAt (l : List Obj) (id : UInt64) : Bool := (lkp l id).any (soundB id)
theorem okAt_some {l : List Obj} {id : UInt64} {d : List UInt8} (h : lkp l id = some d) : okAt l id = soundB id d := by rw [okAt, h, Option.any_some]
theorem okAt_none {l : List Obj} {id : UInt64} (h : lkp l id = none) : okAt l id = false := by rw [okAt, h, Option.any_none]
theorem putP_ins {l : List Obj} (hs : Srt l) {d : List UInt8} : putP l d = if okAt l (dig d) then l else insF ⟨dig d, d⟩ l := by
  have h := atP_at hs (id := dig d)
  rw [← withP_ins]
  unfold putP withP
  by_cases ha : atP l (dig d) = true
  · rw [if_pos ha] at h ⊢
    rw [if_pos ha]
    cases hq : lkp l (dig d) with
    | none =>
      rw [hq] at h
      unfold atP at ha
      rw [h] at ha; cases ha
    | some e =>
      rw [hq] at h
      rw [h, okAt_some hq, Option.map_some, Option.any_some, sndP_mk]
      have hlt := (List.getElem?_eq_some_iff.1 h).1
      cases soundB (dig d) e with
      | true => rfl
      | false =>
        rw [if_neg Bool.false_ne_true, if_neg Bool.false_ne_true, List.set_eq_take_append_cons_drop, if_pos hlt, List.append_assoc]
        rfl
  · rw [if_neg ha] at h ⊢
    rw [if_neg ha]
    cases hq : lkp l (dig d) with
    | none => rw [okAt_none hq, if_neg Bool.false_ne_true, Nat.add_zero]
    | some e => rw [hq] at h; cases h
theorem putP_srt {l : List Obj} (hs : Srt l) {d : List UInt8} : Srt (putP l d) := by
  rw [putP_ins hs]; split
  · exact hs
  · exact insF_srt hs
theorem putP_lkp {l : List Obj} (hs : Srt l) {d : List UInt8} {id : UInt64} : lkp (putP l d) id = if id = dig d ∧ okAt l (dig d) = false then some d else lkp l id := by
  rw [putP_ins hs]
  cases h : okAt l (dig d) with
  | true => rw [if_pos rfl, if_neg (fun e => by cases e.2)]
  | false =>
    rw [if_neg Bool.false_ne_true, insF_lkp hs]
    by_cases e : id = dig d
    · rw [if_pos e, if_pos ⟨e, rfl⟩]
    · rw [if_neg e, if_neg (fun k => e k.1)]
theorem okAt_put {l : List Obj} (hs : Srt l) {d : List UInt8} {id : UInt64} : okAt (putP l d) id = (decide (id = dig d) || okAt l id) := by
  by_cases e : id = dig d
  · rw [decide_eq_true e, Bool.true_or]
    cases h : okAt l (dig d) with
    | true =>
      have : lkp (putP l d) id = lkp l id := by rw [putP_lkp hs, if_neg (fun k => by rw [h] at k; cases k.2)]
      rw [okAt, this, e]; exact h
    | false =>
      have : lkp (putP l d) id = some d := by rw [putP_lkp hs, if_pos ⟨e, h⟩]
      rw [okAt_some this, e]; exact soundB_self d
  · have : lkp (putP l d) id = lkp l id := by rw [putP_lkp hs, if_neg (fun k => e k.1)]
    rw [okAt, this, decide_eq_false e, Bool.false_or]; rfl
theorem getP_ok {l : List Obj} (hs : Srt l) {id : UInt64} : (getP l id).isSome = okAt l id := by
  rw [getP_lkp hs, okAt]
  cases lkp l id with
  | none => rfl
  | some d => rw [Option.bind_some, Option.any_some]; cases soundB id d <;> rfl
theorem findP_lkp {l : List Obj} {id : UInt64} : 0 ≤ findP l id ↔ (lkp l id).isSome = true := by
  rw [lkp_isSome]
  unfold findP
  split
  · rename_i i h
    obtain ⟨h1, h2, _⟩ := List.findIdx?_eq_some_iff_getElem.1 h
    exact ⟨fun _ => List.mem_map.2 ⟨_, List.getElem_mem h1, by simpa using h2⟩, fun _ => by omega⟩
  · rename_i h
    refine ⟨fun h => absurd h (by omega), fun hm => ?_⟩
    obtain ⟨o, ho, e⟩ := List.mem_map.1 hm
    have := List.findIdx?_eq_none_iff.1 h o ho
    simp [e] at this
theorem findP_at {l : List Obj} (hs : Srt l) {id : UInt64} (h : 0 ≤ findP l id) : l[(findP l id).toNat]? = (lkp l id).map fun d => ⟨id, d⟩ := by
  unfold findP at h ⊢
  split at h
  · rename_i i hi
    obtain ⟨h1, h2, _⟩ := List.findIdx?_eq_some_iff_getElem.1 hi
    have h2' : l[i].id = id := by simpa using h2
    have := mem_lkp hs (List.getElem_mem h1)
    rw [h2'] at this
    rw [this]
    simp only [Int.toNat_natCast, List.getElem?_eq_getElem h1, Option.map_some, Option.some.injEq]
    rw [← h2']
  · omega
theorem putR_put {l : List Obj} (hs : Srt l) {d : List UInt8} : putR l d = putP l d := by
  rw [putP_ins hs]
  unfold putR
  rw [withP_ins]
  by_cases h : 0 ≤ findP l (dig d)
  · have hat := findP_at hs h
    cases hq : lkp l (dig d) with
    | none => exact absurd (findP_lkp.1 h) (by rw [hq]; exact Bool.false_ne_true)
    | some e =>
      rw [hq, Option.map_some] at hat
      rw [okAt_some hq, hat, Option.any_some, sndP_mk]
      cases soundB (dig d) e with
      | true => rw [if_pos ⟨h, rfl⟩, if_pos rfl]
      | false => rw [if_neg (fun k => by cases k.2), if_neg Bool.false_ne_true]
  · have : lkp l (dig d) = none := by
      cases hq : lkp l (dig d) with
      | none => rfl
      | some e => exact absurd (findP_lkp.2 (by rw [hq]; rfl)) h
    rw [okAt_none this, if_neg (fun k => h k.1), if_neg Bool.false_ne_true]
theorem st1P_srt (ls : List (List UInt8)) : Srt (st1P ls) := by
  unfold st1P
  suffices h : ∀ (ls : List (List UInt8)) (s : List Obj), Srt s → Srt (ls.foldl (fun s d => putR s (d.take 40)) s) from h ls [] List.Pairwise.nil
  intro ls
  induction ls with
  | nil => exact fun s h => h
  | cons d ls ih => exact fun s h => ih _ (by show Srt (putR s (d.take 40)); rw [putR_put h]; exact putP_srt h)
theorem set_ids {l : List Obj} {i : Nat} {o : Obj} {d : List UInt8} (h : l[i]? = some o) : (l.set i ⟨o.id, d⟩).map (·.id) = l.map (·.id) := by
  rw [List.map_set]
  refine List.ext_getElem? fun k => ?_
  rw [List.getElem?_set]
  split
  · rename_i e; subst e
    simp only [List.getElem?_map, h, Option.map_some, List.length_map]
    split
    · rfl
    · rename_i hh; exact absurd (List.getElem?_eq_some_iff.1 h).1 hh
  · rfl
theorem srt_ids {l : List Obj} : Srt l ↔ (l.map (·.id)).Pairwise (· < ·) := by unfold Srt; rw [List.pairwise_map]
theorem dmg1P_srt {s : List Obj} {t : UInt8 × UInt8 × UInt8} (h : Srt s) : Srt (dmg1P s t) := by
  unfold dmg1P
  split
  · rename_i o ho; rw [srt_ids, set_ids ho]; exact srt_ids.1 h
  · exact h
theorem storeP_srt (ls : List (List UInt8)) (ts : List (UInt8 × UInt8 × UInt8)) : Srt (storeP ls ts) := by
  unfold storeP
  suffices h : ∀ (ts : List (UInt8 × UInt8 × UInt8)) (s : List Obj), Srt s → Srt (ts.foldl dmg1P s) from h _ _ (st1P_srt _)
  intro ts
  induction ts with
  | nil => exact fun s h => h
  | cons t ts ih => exact fun s h => ih _ (dmg1P_srt h)
theorem dmg1P_len (s : List Obj) (t : UInt8 × UInt8 × UInt8) : (dmg1P s t).length = s.length := by unfold dmg1P; split <;> simp
theorem storeP_len (ls : List (List UInt8)) (ts : List (UInt8 × UInt8 × UInt8)) : (storeP ls ts).length ≤ 8 := by
  have h1 : ∀ (ls : List (List UInt8)) (s : List Obj), (ls.foldl (fun s d => putR s (d.take 40)) s).length ≤ s.length + ls.length := by
    intro ls
    induction ls with
    | nil => simp
    | cons d ls ih => intro s; have := ih (putR s (d.take 40)); have := putR_len s (d.take 40); simp only [List.foldl_cons, List.length_cons]; omega
  have h2 : ∀ (ts : List (UInt8 × UInt8 × UInt8)) (s : List Obj), (ts.foldl dmg1P s).length = s.length := by
    intro ts
    induction ts with
    | nil => simp
    | cons t ts ih => intro s; rw [List.foldl_cons, ih, dmg1P_len]
  unfold storeP
  rw [h2]
  have := h1 (ls.take 8) []
  unfold st1P
  simp only [List.length_nil, List.length_take] at this
  omega
theorem putP_len (l : List Obj) (d : List UInt8) : (putP l d).length ≤ l.length + 1 := by
  have := lbP_le l (dig d)
  unfold putP; split
  · split <;> simp
  · simp only [List.length_append, List.length_take, List.length_drop, List.length_cons, List.length_nil]; omega

/-! ### ObjectsAddresses -/
theorem put_put {l : List Obj} (hs : Srt l) {d : List UInt8} : putP (putP l d) d = putP l d := by
  rw [putP_ins (putP_srt hs), if_pos (by rw [okAt_put hs, decide_eq_true rfl]; rfl)]
theorem get_put_same {l : List Obj} (hs : Srt l) {d : List UInt8} : (getP (putP l d) (dig d)).isSome = true := by
  rw [getP_ok (putP_srt hs), okAt_put hs, decide_eq_true rfl]; rfl
theorem get_put_new {l : List Obj} (hs : Srt l) {d : List UInt8} (h : getP l (dig d) = none) : getP (putP l d) (dig d) = some d := by
  have : okAt l (dig d) = false := by rw [← getP_ok hs, h]; rfl
  rw [getP_lkp (putP_srt hs), putP_lkp hs, if_pos ⟨rfl, this⟩, Option.bind_some, if_pos (soundB_self d)]
theorem get_put_other {l : List Obj} (hs : Srt l) {d : List UInt8} {id : UInt64} (h : id ≠ dig d) : getP (putP l d) id = getP l id := by
  rw [getP_lkp (putP_srt hs), getP_lkp hs, putP_lkp hs, if_neg (fun e => h e.1)]
theorem put_comm {l : List Obj} (hs : Srt l) {a b : List UInt8} (h : dig a ≠ dig b) : putP (putP l a) b = putP (putP l b) a := by
  refine srt_ext (putP_srt (putP_srt hs)) (putP_srt (putP_srt hs)) fun id => ?_
  rw [putP_lkp (putP_srt hs), putP_lkp (putP_srt hs), putP_lkp hs, putP_lkp hs, okAt_put hs, okAt_put hs]
  generalize dig a = x at *
  generalize dig b = y at *
  have hba : ¬ y = x := fun e => h e.symm
  simp only [h, hba, decide_false, Bool.false_or]
  by_cases e1 : id = x
  · subst e1; simp [h]
  · by_cases e2 : id = y
    · subst e2; simp [hba]
    · simp [e1, e2]
end Sl
end Go.Proofs.YtanhehbfbakdcaaGreatDoor
