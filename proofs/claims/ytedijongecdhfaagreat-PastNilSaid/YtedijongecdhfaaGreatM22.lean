/-
  An abstract interpreter of loaded code, proved to tell the truth; a part of the proof that redpencillaw48.PastNil returns true, whatever the input.
-/
import Derived.Test.YtedijongecdhfaaGreatM21
namespace Go.VI
open Go Go.RowKit

section
variable {P : Program} {T : Tab} {w0 : World} {ι ι' : Nat → Nat} {w w' : World} {ts : Fr} {a : Act} {t : Tr AO} {n l1 l2 : Nat}

/-! What 'low' says is nothing that the relations look at -/
theorem VB.relow {x : SV} {v : Value} (hv : VB P ⟨t, n, l1⟩ ι w x v) : VB P ⟨t, n, l2⟩ ι w x v := by
  cases hv with
  | int k n => exact .int k n
  | bool b => exact .bool b
  | str s => exact .str s
  | lit v hv => exact .lit v hv
  | ptr id ep off a h1 h2 h3 => exact .ptr id ep off a h1 h2 h3
  | sl id ep off len cap a h1 h2 h3 h4 => exact .sl id ep off len cap a h1 h2 h3 h4
  | slz a => exact .slz a
  | mp id h1 h2 => exact .mp id h1 h2
theorem FnR.relow {f f' : Fn} (hv : FnR ⟨t, n, l1⟩ ι f f') : FnR ⟨t, n, l2⟩ ι f f' := by
  cases hv with
  | func g => exact .func g
  | yield l h1 h2 => exact .yield l h1 h2
theorem VR.relow {x : SV} {v : Value} (hv : VR P ⟨t, n, l1⟩ ι w x v) : VR P ⟨t, n, l2⟩ ι w x v := by
  cases hv with
  | b hb => exact .b hb.relow
  | fn hf hc => exact .fn hf.relow (all2_imp (fun _ _ h => h.relow) hc)
theorem T1.relow {x : TV} {v : Value} (hv : T1 P ⟨t, n, l1⟩ ι w x v) : T1 P ⟨t, n, l2⟩ ι w x v := by
  cases hv with
  | one hx => exact .one hx.relow
  | agg hc => exact .agg (all2_imp (fun _ _ h => h.relow) hc)
theorem TR.relow {x : TV} {v : Value} (hv : TR P ⟨t, n, l1⟩ ι w x v) : TR P ⟨t, n, l2⟩ ι w x v := by
  cases hv with
  | t ht => exact .t ht.relow
  | tup hl => exact .tup (all2_imp (fun _ _ h => h.relow) hl)
theorem FrR.relow {f : Fr} {tm : Array Value} (hv : FrR P ⟨t, n, l1⟩ ι w f tm) : FrR P ⟨t, n, l2⟩ ι w f tm :=
  ⟨hv.size, fun i v e => let ⟨u, h1, h2⟩ := hv.at_ i v e; ⟨u, h1, h2.relow⟩⟩
theorem EntR.relow {e : TV × TV × Nat} {m : MapEntry} (hv : EntR P ⟨t, n, l1⟩ ι w e m) : EntR P ⟨t, n, l2⟩ ι w e m := ⟨hv.k.relow, hv.v.relow, hv.b⟩
theorem ObR.relow {o : AO} {ob : Obj} (hv : ObR P ⟨t, n, l1⟩ ι w o ob) : ObR P ⟨t, n, l2⟩ ι w o ob := by
  cases hv with
  | arr hc => exact .arr (fun j x hj => let ⟨v, h1, h2⟩ := hc j x hj; ⟨v, h1, h2.relow⟩)
  | map hm => exact .map (all2_imp (fun _ _ h => h.relow) hm)
  | mit m since seen st hm => exact .mit m since seen st hm
  | loop st pend fn ps asg body d hf hd hk => exact .loop st pend fn ps asg body d hf.relow hd hk
  | dfr b => exact .dfr b
theorem Ga.relow (g : Ga P w0 ⟨t, n, l1⟩ ι w) : Ga P w0 ⟨t, n, l2⟩ ι w :=
  ⟨g.below, g.own, g.inj, fun id o ho => let ⟨ob, h1, h2⟩ := g.obj id o ho; ⟨ob, h1, h2.relow⟩⟩
end

section
variable {P : Program} {T : Tab} {w0 : World} {h h1 h2 : Hp} {ι ι' ι2 : Nat → Nat} {w w' w2 : World} {ts : Fr} {a : Act}

/-! An activation's first temporaries -/
theorem setFrom_get : ∀ (l : List TV) (t : Tr TV) (i j : Nat), (setFrom t i l).get j = if i ≤ j ∧ j < i + l.length then l[j - i]? else t.get j
  | [], t, i, j => by rw [if_neg (by simp only [List.length_nil]; omega)]; rfl
  | v :: vs, t, i, j => by
    show (setFrom (t.set i v) (i + 1) vs).get j = _
    rw [setFrom_get vs (t.set i v) (i + 1) j, get_set]
    by_cases h1 : j = i
    · subst h1
      rw [if_neg (by omega), if_pos rfl, if_pos (by simp only [List.length_cons]; omega)]
      simp
    · by_cases h2 : i + 1 ≤ j ∧ j < i + 1 + vs.length
      · rw [if_pos h2, if_pos (by simp only [List.length_cons]; omega)]
        obtain ⟨k, hk⟩ : ∃ k, j = i + 1 + k := ⟨j - (i + 1), by omega⟩
        subst hk
        rw [show i + 1 + k - (i + 1) = k by omega, show i + 1 + k - i = k + 1 by omega]
        rfl
      · rw [if_neg h2, if_neg h1, if_neg (by simp only [List.length_cons]; omega)]

theorem init_FrR {args : List TV} {us : List Value} (hu : All2 (TR P h ι w) args us) (n : Nat) : FrR P h ι w (Fr.init args n) (us.toArray ++ Array.replicate (n - us.toArray.size) undef) := by
  have hl := hu.len
  constructor
  · show _ = bc (Nat.blt n args.length) args.length n
    rw [bc_eq]
    simp only [Array.size_append, List.size_toArray, Array.size_replicate]
    split
    · rename_i h1; rw [blt_iff] at h1; omega
    · rename_i h1; rw [blt_iff] at h1; omega
  · intro i v e
    rw [fget] at e
    have hn : (Fr.init args n).n = bc (Nat.blt n args.length) args.length n := rfl
    have ht : (Fr.init args n).t = setFrom .nil 0 args := rfl
    rw [hn, ht, setFrom_get] at e
    by_cases h1 : i < bc (Nat.blt n args.length) args.length n
    · rw [if_pos h1] at e
      cases e
      by_cases h2 : i < args.length
      · rw [if_pos (by omega), Nat.sub_zero]
        obtain ⟨u, h3, h4⟩ := hu.get (List.getElem?_eq_getElem h2)
        refine ⟨u, ?_, ?_⟩
        · rw [Array.getElem?_append_left (by simp; omega)]
          simpa using h3
        · rw [List.getElem?_eq_getElem h2]; exact h4
      · rw [if_neg (by omega)]
        refine ⟨undef, ?_, und_TR⟩
        have h5 : i < n := by
          rw [bc_eq] at h1
          split at h1
          · omega
          · exact h1
        rw [Array.getElem?_append_right (by simp; omega), Array.getElem?_replicate, if_pos (by simp; omega)]
    · rw [if_neg h1] at e; cases e

/-! The marks -/
theorem marksB_cons {d : Nat} {ms : List Nat} (e : marksB (d :: ms) h = true) : h.get d = some (.dfr true) ∧ marksB ms h = true := by
  have e' : (match h.get d with | some (.dfr b) => bc b (marksB ms h) false | _ => false) = true := e
  split at e'
  · rename_i b hb
    cases b with
    | true => exact ⟨hb, e'⟩
    | false => cases e'
  · cases e'
theorem memb_iff : ∀ {x : Nat} {l : List Nat}, memb x l = true ↔ x ∈ l
  | x, [] => by simp [memb]
  | x, y :: l => by
    have : memb x (y :: l) = bc (Nat.beq x y) true (memb x l) := rfl
    rw [this, bc_eq, List.mem_cons]
    split
    · rename_i h; rw [Nat.beq_eq] at h; simp [h]
    · rename_i h
      rw [memb_iff]
      constructor
      · exact .inr
      · rintro (rfl | h2)
        · exact absurd (Nat.beq_refl x) h
        · exact h2
theorem nodupB_cons {d : Nat} {ms : List Nat} (e : nodupB (d :: ms) = true) : d ∉ ms ∧ nodupB ms = true := by
  have e' : bc (memb d ms) false (nodupB ms) = true := e
  rw [bc_eq] at e'
  split at e'
  · cases e'
  · rename_i h; exact ⟨fun hm => h (memb_iff.2 hm), e'⟩
theorem marksB_set {d : Nat} {o : AO} (hd : d < h.n) : ∀ {ms : List Nat}, d ∉ ms → marksB ms h = true → marksB ms (h.set d o) = true
  | [], _, _ => rfl
  | m :: ms, hn, e => by
    obtain ⟨h1, h2⟩ := marksB_cons e
    have hne : m ≠ d := fun hh => hn (by simp [hh])
    show (match (h.set d o).get m with | some (.dfr b) => bc b (marksB ms (h.set d o)) false | _ => false) = true
    rw [hget_set _ _ _ _ hd, if_neg hne, h1]
    exact marksB_set hd (fun hh => hn (by simp [hh])) h2

theorem run_setObj_dfr {b : Nat} {c : Option (List Deferred)} (hb : w.heap[b]? = some (.deferred c)) (o' : Obj) : (setObj b o').run P w = .ok () (ChangeMaps.setBlock w b o') := by
  simp [setObj, Sem.run, hb, ChangeMaps.setBlock]

theorem marks_sound {F : Fence} {m : Nat} {fn : Func} {tm : Array Value} {R : Ending → World → Prop} : ∀ {ms : List Nat} {h : Hp} {w : World}, Ga P w0 h ι w → marksB ms h = true → nodupB ms = true →
    (∀ w', Ga P w0 (shutM ms h) ι w' → Evo h ι w (shutM ms h) ι w' → ∃ v, (results fn tm).run P w' = .ok v w' ∧ R (.returned v) w') → LeavesInM F m P fn tm R (ms.map fun d => { target := .collected (ι d), args := #[] }) .returning w
  | [], h, w, g, _, _, hR => hR w g (Evo.refl _ _ _)
  | d :: ms, h, w, g, e1, e2, hR => by
    obtain ⟨h1, h2⟩ := marksB_cons e1
    obtain ⟨h3, h4⟩ := nodupB_cons e2
    obtain ⟨ob, h5, h6⟩ := g.obj d _ h1
    cases h6
    simp only [if_true] at h5
    obtain ⟨g', ev⟩ := g.put (o' := .dfr false) (ob' := .deferred none) h1 rfl (Nat.le_refl _) rfl h5 (Nat.le_refl _) (only_setBlock h5) (.dfr false)
    refine ⟨by simp, .inl ⟨ι d, ChangeMaps.setBlock w (ι d) (.deferred none), rfl, ?_, ?_⟩⟩
    · unfold Instr.takeDeferred
      simp [getObj, Sem.run, h5, run_setObj_dfr h5]
    · exact marks_sound g' (marksB_set (hget_lt h1) h3 h2) h4 (fun w' g2 ev2 => hR w' g2 (ev.trans ev2))

/-! The results -/
theorem results_sound (hT : TabOk P T) (g : Ga P w0 h ι w) (ar : AR P h ι w ts a) : ∀ {l : List ResultVar} {vs : List TV}, resultsO T h ts l = some vs → ∃ us : List Value,
    (l.mapM fun x => (match x with | .tmp t => Pure.pure (a.tmps.getD t undef) | .cell p t => do loadVar t (← asAddr (a.tmps.getD p undef)) : Sem Value)).run P w = .ok us w ∧ All2 (TR P h ι w) vs us
  | [], _, e => by cases e; exact ⟨[], rfl, .nil⟩
  | x :: l, _, e => by
    obtain ⟨v, h1, e⟩ := ob_some_iff.1 (show (match x with | .tmp t => ts.get t | .cell p t => (ts.get p).ob fun p => loadAt T t p h).ob (fun v => (resultsO T h ts l).ob fun vs => some (v :: vs)) = some _ from e)
    obtain ⟨vs, h2, e⟩ := ob_some_iff.1 e
    cases e
    obtain ⟨us, h3, h4⟩ := results_sound hT g ar h2
    have hx : ∃ u, (match x with | .tmp t => Pure.pure (a.tmps.getD t undef) | .cell p t => do loadVar t (← asAddr (a.tmps.getD p undef)) : Sem Value).run P w = .ok u w ∧ TR P h ι w v u := by
      cases x with
      | tmp t => exact ⟨_, rfl, ar.f.get h1⟩
      | cell p t =>
        obtain ⟨pv, h5, h6⟩ := ob_some_iff.1 h1
        unfold loadAt at h6
        obtain ⟨ti, h7, h6⟩ := ob_some_iff.1 h6
        obtain ⟨s, h8, h6⟩ := ob_some_iff.1 h6
        have hp := (ar.f.get h5).one? h8
        obtain ⟨u, h9, h10⟩ := s_load hT g hp h7 h6
        refine ⟨u, ?_, .t h10⟩
        cases s with
        | ptr id ep off =>
          obtain ⟨ad, h11, _⟩ := ptr_inv hp
          show (do loadVar t (← asAddr (a.tmps.getD p undef)) : Sem Value).run P w = _
          rw [h11] at h9 ⊢
          have h12 : (Instr.loadAt t (.pointer (some ad))).run P w = (loadVar t ad).run P w := by simp [Instr.loadAt, Instr.sureAddr]
          rw [h12] at h9
          simpa [asAddr] using h9
        | _ => cases h6
    obtain ⟨u, h5, h6⟩ := hx
    refine ⟨u :: us, ?_, .cons h6 h4⟩
    rw [List.mapM_cons]
    simp only [Sem.run_bind, h5, h3, Result.andThen_ok]
    rfl

theorem noTup_all : ∀ {l : List TV} {us : List Value}, noTup l = true → All2 (TR P h ι w) l us → All2 (T1 P h ι w) l us
  | [], _, _, hu => by cases hu; exact .nil
  | v :: l, _, e, hu => by
    cases hu with
    | cons a b =>
      cases v with
      | tup _ => cases e
      | one x =>
        cases a with
        | t ht => exact .cons ht (noTup_all (show noTup l = true from e) b)
      | agg x =>
        cases a with
        | t ht => exact .cons ht (noTup_all (show noTup l = true from e) b)

theorem tupO_some {l : List TV} {us : List Value} {v : TV} (hu : All2 (TR P h ι w) l us) (e : tupO l = some v) : TR P h ι w v (if h : us.toArray.size = 1 then us.toArray[0] else .tuple us.toArray) := by
  unfold tupO at e
  split at e
  · cases hu
    cases e
    exact .tup .nil
  · rename_i x r
    cases hu with
    | cons a b =>
      rename_i u us
      cases b with
      | nil => cases e; simpa using a
      | cons a' b' =>
        obtain ⟨h1, e⟩ := bc_none_iff.1 e
        cases e
        rw [dif_neg (by simp)]
        exact .tup (noTup_all h1 (.cons a (.cons a' b')))

theorem run_results {fn : Func} {tm : Array Value} {us : List Value} (hr : (fn.results.toList.mapM fun x => (match x with | .tmp t => Pure.pure (tm.getD t undef) | .cell p t => do loadVar t (← asAddr (tm.getD p undef)) : Sem Value)).run P w = .ok us w) :
    (results fn tm).run P w = .ok (if h : us.toArray.size = 1 then us.toArray[0] else .tuple us.toArray) w := by
  have key : ∀ f : ResultVar → Sem Value, (∀ x, f x = (match x with | .tmp t => Pure.pure (tm.getD t undef) | .cell p t => do loadVar t (← asAddr (tm.getD p undef)) : Sem Value)) → (fn.results.toList.mapM f).run P w = .ok us w := by
    intro f hf
    rw [show f = _ from funext hf]
    exact hr
  unfold results
  rw [Array.mapM_eq_mapM_toList]
  simp only [Sem.run_bind, Sem.run_map]
  rw [key _ (fun x => by cases x <;> rfl)]
  rfl

/-! What a call leaves -/
theorem keep_old (g : Ga P w0 h ι w) (g2 : Ga P w0 h2 ι2 w2) (ev : Evo ⟨h.t, h.n, h.n⟩ ι w h2 ι2 w2) (hl : h.n ≤ h2.low) : Ga P w0 h ι w2 ∧ Evo h ι w h ι w2 := by
  have hall : ∀ id, id < h.n → h2.get id = h.get id ∧ ι2 id = ι id ∧ w2.heap[ι id]? = w.heap[ι id]? := fun id hi => ev.lows id hi (Nat.lt_of_lt_of_le hi hl)
  have ev' : Evo h ι w h ι w2 := ⟨Nat.le_refl _, fun _ _ => rfl, fun _ _ => Nat.le_refl _, fun _ _ _ => rfl, fun _ _ => rfl, ev.bs, Nat.le_refl _, fun id hi _ => ⟨rfl, rfl, (hall id hi).2.2⟩⟩
  refine ⟨⟨g2.below, fun id hi => ?_, g.inj, fun id o ho => ?_⟩, ev'⟩
  · refine ⟨(g.own id hi).1, ?_⟩
    have := (g2.own id (Nat.lt_of_lt_of_le hi ev.n)).2
    rwa [(hall id hi).2.1] at this
  · obtain ⟨ob, h3, h4⟩ := g.obj id o ho
    exact ⟨ob, by rw [(hall id (hget_lt ho)).2.2]; exact h3, h4.evo ev'⟩

theorem below_VR (hall : ∀ id, id < h.n → h2.get id = h.get id ∧ ι2 id = ι id) {x : SV} {v : Value} (hv : VR P h2 ι2 w2 x v) (hb : refsBelow h.n x = true) : VR P h ι w2 x v := by
  have hage : ∀ id, id < h.n → age h2 id = age h id := fun id hi => by unfold age; rw [(hall id hi).1]
  have helt : ∀ id, id < h.n → elt h2 id = elt h id := fun id hi => by unfold elt; rw [(hall id hi).1]
  have harr : ∀ id, id < h.n → isArr h2 id = isArr h id := fun id hi => by unfold isArr; rw [(hall id hi).1]
  cases hv with
  | fn _ _ => cases hb
  | b hv =>
    refine .b ?_
    cases hv with
    | int k n => exact .int k n
    | bool b => exact .bool b
    | str s => exact .str s
    | lit v hv => exact .lit v hv
    | slz a => exact .slz a
    | ptr id ep off a h1 h3 h4 =>
      have hi := (blt_iff _ _).1 hb
      rw [hage id hi] at h3 h4
      rw [(hall id hi).2] at h4
      exact .ptr id ep off a hi h3 h4
    | sl id ep off len cap a h1 h3 h4 h5 =>
      have hi := (blt_iff _ _).1 hb
      rw [hage id hi] at h3 h5
      rw [(hall id hi).2, helt id hi] at h5
      exact .sl id ep off len cap a hi h3 h4 h5
    | mp id h1 h3 =>
      have hi := (blt_iff _ _).1 hb
      rw [(hall id hi).2]
      exact .mp id hi (by rw [← harr id hi]; exact h3)

theorem belowC_all (hall : ∀ id, id < h.n → h2.get id = h.get id ∧ ι2 id = ι id) : ∀ {l : List SV} {vs : List Value}, belowC h.n l = true → All2 (VR P h2 ι2 w2) l vs → All2 (VR P h ι w2) l vs
  | [], _, _, hv => by cases hv; exact .nil
  | x :: l, _, e, hv => by
    cases hv with
    | cons a b =>
      have e' : bc (refsBelow h.n x) (belowC h.n l) false = true := e
      rw [bc_eq] at e'
      split at e'
      · exact .cons (below_VR hall a (by assumption)) (belowC_all hall e' b)
      · cases e'

theorem below_T1 (hall : ∀ id, id < h.n → h2.get id = h.get id ∧ ι2 id = ι id) {x : TV} {v : Value} (hv : T1 P h2 ι2 w2 x v) (hb : below1 h.n x = true) : T1 P h ι w2 x v := by
  cases hv with
  | one hx => exact .one (below_VR hall hx hb)
  | agg hc => exact .agg (belowC_all hall hb hc)

theorem below_TR (hall : ∀ id, id < h.n → h2.get id = h.get id ∧ ι2 id = ι id) {x : TV} {v : Value} (hv : TR P h2 ι2 w2 x v) (hb : belowT h.n x = true) : TR P h ι w2 x v := by
  cases hv with
  | t ht => 
    cases ht with
    | one hx => exact .t (below_T1 hall (.one hx) hb)
    | agg hc => exact .t (below_T1 hall (.agg hc) hb)
  | tup hl =>
    refine .tup ?_
    rename_i l vs
    have : ∀ {l : List TV} {vs : List Value}, (List.rec true (fun x _ r => bc (below1 h.n x) r false) l : Bool) = true → All2 (T1 P h2 ι2 w2) l vs → All2 (T1 P h ι w2) l vs := by
      intro l vs e hl
      induction hl with
      | nil => exact .nil
      | cons a t ih =>
        rename_i x v l vs
        have e' : bc (below1 h.n x) (List.rec true (fun x _ r => bc (below1 h.n x) r false) l) false = true := e
        rw [bc_eq] at e'
        split at e'
        · exact .cons (below_T1 hall a (by assumption)) (ih e')
        · cases e'
    exact this hb hl

theorem letGo_sound (g : Ga P w0 h ι w) (g2 : Ga P w0 h2 ι2 w2) (ev : Evo ⟨h.t, h.n, h.n⟩ ι w h2 ι2 w2) {v : TV} {u : Value} (hv : TR P h2 ι2 w2 v u) : RC P w0 h ι w v (letGo h h2 v) (.returned u) w2 := by
  have big : ∀ L, L ≤ h.low → (∀ id, id < h.n → id < L → id < h2.low) → RC P w0 h ι w v (some ⟨h2.t, h2.n, L⟩) (.returned u) w2 := fun L h1 h3 =>
    ⟨u, ι2, rfl, Ga.relow (l1 := h2.low) g2, ⟨ev.n, ev.kind, ev.age, ev.same, ev.elt, ev.bs, h1, fun id hi hl => ev.lows id hi (h3 id hi hl)⟩, TR.relow (l1 := h2.low) hv⟩
  unfold letGo
  rw [bc_eq]
  split
  · rename_i hl
    rw [Nat.ble_eq] at hl
    rw [bc_eq]
    split
    · rename_i hb
      obtain ⟨g3, ev3⟩ := keep_old g g2 ev hl
      exact ⟨u, ι, rfl, g3, ev3, below_TR (h := h) (fun id hi => let x := ev.lows id hi (Nat.lt_of_lt_of_le hi hl); ⟨x.1, x.2.1⟩) hv hb⟩
    · exact big _ (Nat.le_refl _) (fun id hi _ => Nat.lt_of_lt_of_le hi hl)
  · rw [bc_eq]
    split
    · rename_i h3; rw [blt_iff] at h3; exact big _ (Nat.le_refl _) (fun id _ hl => by omega)
    · rename_i h3; rw [blt_iff] at h3; exact big _ (by omega) (fun id _ hl => hl)
end
end Go.VI
