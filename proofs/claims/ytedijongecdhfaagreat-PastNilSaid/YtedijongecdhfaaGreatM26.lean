/-
  An abstract interpreter of loaded code, proved to tell the truth; a part of the proof that redpencillaw48.PastNil returns true, whatever the input.
-/
import Derived.Test.YtedijongecdhfaaGreatM25
namespace Go.VI
open Go Go.RowKit

section
variable {T : Tab} {run : Job → Res}

def stAt (rs : List Rec) (last : Fr × Hp) (k : Nat) : Fr × Hp := match rs[k]? with | some r => (r.ts, r.h) | none => last

theorem recs_spec {ops : List Oper} : ∀ {l : List Oper} {ts : Fr} {h : Hp} {rs : List Rec} {q : Fr × Hp}, recs T run ops l ts h = some (rs, q) → rs.length = l.length ∧ stAt rs q 0 = (ts, h) ∧
    ∀ (k : Nat) (r : Rec), rs[k]? = some r → ∃ oh, l[k]? = some r.o ∧ stepV T run ops r.o r.ts r.h = some (r.v, oh) ∧ r.md = oh.isSome ∧ stAt rs q (k + 1) = (putT r.ts r.o.dst r.v, orH r.h oh)
  | [], ts, h, rs, q, e => by
    have : some (([] : List Rec), ts, h) = some (rs, q) := e
    cases this
    exact ⟨rfl, rfl, fun k r hr => by simp at hr⟩
  | o :: l, ts, h, rs, q, e => by
    obtain ⟨p, h1, e⟩ := ob_some_iff.1 (show (stepV T run ops o ts h).ob (fun q => (recs T run ops l (putT ts o.dst q.1) (orH h q.2)).ob fun r => some ({ o := o, ts := ts, h := h, v := q.1, md := q.2.isSome } :: r.1, r.2)) = some (rs, q) from e)
    obtain ⟨r, h2, e⟩ := ob_some_iff.1 e
    cases e
    obtain ⟨h3, h4, h5⟩ := recs_spec h2
    refine ⟨by simp [h3], rfl, fun k r' hr => ?_⟩
    cases k with
    | zero =>
      simp at hr
      subst hr
      refine ⟨p.2, rfl, h1, rfl, ?_⟩
      show stAt r.1 r.2 0 = _
      rw [h4]
    | succ k =>
      obtain ⟨oh, h6, h7, h8, h9⟩ := h5 k r' (by simpa using hr)
      exact ⟨oh, by simpa using h6, h7, h8, h9⟩

theorem recs_of_ops {ops : List Oper} : ∀ {l : List Oper} {ts : Fr} {h : Hp} {q : Fr × Hp}, opsO T run ops l ts h = some q → ∃ rs, recs T run ops l ts h = some (rs, q)
  | [], ts, h, q, e => by cases e; exact ⟨[], rfl⟩
  | o :: l, ts, h, q, e => by
    obtain ⟨p, h1, e⟩ := ob_some_iff.1 (show (stepV T run ops o ts h).ob (fun q => opsO T run ops l (putT ts o.dst q.1) (orH h q.2)) = some q from e)
    obtain ⟨rs, h2⟩ := recs_of_ops e
    refine ⟨{ o := o, ts := ts, h := h, v := p.1, md := p.2.isSome } :: rs, ?_⟩
    show (stepV T run ops o ts h).ob (fun q => (recs T run ops l (putT ts o.dst q.1) (orH h q.2)).ob fun r => some ({ o := o, ts := ts, h := h, v := q.1, md := q.2.isSome } :: r.1, r.2)) = _
    rw [h1]
    show (recs T run ops l (putT ts o.dst p.1) (orH h p.2)).ob _ = _
    rw [h2]
    rfl

theorem eqVlit_true {a b : Value} (e : eqVlit a b = true) : a = b := by
  unfold eqVlit at e
  split at e <;> (try (cases e; done)) <;> (split at e <;> first | rfl | (cases e; done))
theorem bc_and {c : Bool} {a : Bool} (e : bc c a false = true) : c = true ∧ a = true := by cases c <;> simp_all [bc]
theorem eqSV_true {a b : SV} (e : eqSV a b = true) : a = b := by
  unfold eqSV at e
  split at e
  · split at e
    · obtain ⟨h1, h2⟩ := bc_and e
      rw [ikEq_iff] at h1; rw [eqI_iff] at h2; simp at h2; rw [h1, h2]
    · cases e
  · split at e
    · simp at e; rw [e]
    · cases e
  · split at e
    · obtain ⟨h1, e⟩ := bc_and e
      obtain ⟨h2, h3⟩ := bc_and e
      rw [Nat.beq_eq] at h1 h2 h3; rw [h1, h2, h3]
    · cases e
  · split at e
    · obtain ⟨h1, e⟩ := bc_and e
      obtain ⟨h2, e⟩ := bc_and e
      obtain ⟨h3, h4⟩ := bc_and e
      rw [Nat.beq_eq] at h1 h2 h3 h4; rw [h1, h2, h3, h4]
    · cases e
  · split at e
    · rfl
    · cases e
  · split at e
    · rw [Nat.beq_eq] at e; rw [e]
    · cases e
  · split at e
    · rw [eqVlit_true e]
    · cases e
  · cases e
theorem eqCs_true : ∀ {l m : List SV}, eqCs l m = true → l = m
  | [], [], _ => rfl
  | [], _ :: _, e => by cases e
  | _ :: _, [], e => by cases e
  | x :: l, y :: m, e => by
    obtain ⟨h1, h2⟩ := bc_and (show bc (eqSV x y) (eqCs l m) false = true from e)
    rw [eqSV_true h1, eqCs_true h2]
theorem eqT1_true {a b : TV} (e : eqT1 a b = true) : a = b := by
  unfold eqT1 at e
  split at e
  · split at e
    · rw [eqSV_true e]
    · cases e
  · split at e
    · rw [eqCs_true e]
    · cases e
  · cases e
theorem eqTs_true : ∀ {l m : List TV}, eqTs l m = true → l = m
  | [], [], _ => rfl
  | [], _ :: _, e => by cases e
  | _ :: _, [], e => by cases e
  | x :: l, y :: m, e => by
    obtain ⟨h1, h2⟩ := bc_and (show bc (eqT1 x y) (eqTs l m) false = true from e)
    rw [eqT1_true h1, eqTs_true h2]
theorem eqTV_true {a b : TV} (e : eqTV a b = true) : a = b := by
  cases a with
  | tup l =>
    cases b with
    | tup m => rw [eqTs_true (show eqTs l m = true from e)]
    | _ => cases e
  | one x => exact eqT1_true e
  | agg x => exact eqT1_true e

theorem sameAt_true {ops : List Oper} {r : Rec} {h : Hp} (e : sameAt T run ops r h = true) : stepV T run ops r.o r.ts h = some (r.v, none) := by
  unfold sameAt at e
  split at e
  · rename_i q hq
    split at e
    · rename_i h1
      rw [hq, ← eqTV_true e, ← h1]
    · cases e
  · cases e

theorem stepV_pure {ops : List Oper} {o : Oper} {ts : Fr} {h h' : Hp} (hp : isPure o.op = true) : stepV T run ops o ts h = stepV T run ops o ts h' := by
  unfold stepV; rw [pure_congr (h' := h') hp]
theorem stepV_none {ops : List Oper} {o : Oper} {ts : Fr} {h : Hp} {q : TV × Option Hp} (hp : isPure o.op = true ∨ isRd o.op = true) (e : stepV T run ops o ts h = some q) : q.2 = none := by
  unfold stepV at e
  obtain ⟨b, _, e⟩ := ob_some_iff.1 e
  cases b with
  | false => cases e; rfl
  | true => rcases hp with hp | hp; exact pure_none hp e; exact rd_none hp e

/-- A region's operations in their order of text, and what lets them be put in another order. -/
structure Runs (T : Tab) (run : Job → Res) (ops : List Oper) (S : Nat → Fr × Hp) (V : Nat → TV) (M : Nat → Bool) : Prop where
  step : ∀ (k : Nat) (o : Oper), ops[k]? = some o → ∃ oh, stepV T run ops o (S k).1 (S k).2 = some (V k, oh) ∧ M k = oh.isSome ∧ S (k + 1) = (putT (S k).1 o.dst (V k), orH (S k).2 oh)
  two : ∀ (i j : Nat) (p q : Oper), i < j → ops[i]? = some p → ops[j]? = some q → M i = true → M j = true → Anc ops i j ∨ Anc ops j i
  one : ∀ (i k : Nat) (p q : Oper), i ≠ k → ops[i]? = some p → ops[k]? = some q → M k = true → M i = false → (Anc ops i k ∨ Anc ops k i) ∨ isPure p.op = true ∨
    (stepV T run ops p (S i).1 (S k).2 = some (V i, none) ∧ stepV T run ops p (S i).1 (S (k + 1)).2 = some (V i, none))

theorem runs_of {ops : List Oper} {ts : Fr} {h : Hp} {q : Fr × Hp} (e : drawO T run ops ts h = some q) : Shape ops ∧ ∃ S V M, Runs T run ops S V M ∧ S 0 = (ts, h) ∧ S ops.length = q := by
  unfold drawO at e
  obtain ⟨h1, e⟩ := bc_none_iff.1 e
  refine ⟨shape_of h1, ?_⟩
  have hrecs : ∃ rs, recs T run ops ops ts h = some (rs, q) ∧ (simpleB ops = true ∨ allRR (swapB T run ops (ancs ops []) (nextH rs q.2)) rs 0 = true) := by
    rw [bc_eq] at e
    split at e
    · rename_i hs
      obtain ⟨rs, h2⟩ := recs_of_ops e
      exact ⟨rs, h2, .inl hs⟩
    · obtain ⟨r, h2, e⟩ := ob_some_iff.1 e
      obtain ⟨h3, e⟩ := bc_none_iff.1 e
      cases e
      exact ⟨r.1, h2, .inr h3⟩
  obtain ⟨rs, h2, h3⟩ := hrecs
  obtain ⟨h4, h5, h6⟩ := recs_spec h2
  have hlast : stAt rs q ops.length = q := by
    unfold stAt
    rw [List.getElem?_eq_none (by omega)]
  have hget : ∀ (k : Nat) (o : Oper), ops[k]? = some o → ∃ r, rs[k]? = some r ∧ r.o = o ∧ stAt rs q k = (r.ts, r.h) := by
    intro k o ho
    have hlt : k < rs.length := by rw [h4]; exact (List.getElem?_eq_some_iff.1 ho).1
    have hr := List.getElem?_eq_getElem hlt
    obtain ⟨oh, h7, _⟩ := h6 k _ hr
    rw [ho] at h7
    refine ⟨_, hr, (Option.some.inj h7).symm, ?_⟩
    unfold stAt
    rw [hr]
  have hnext : ∀ k, nextH rs q.2 k = (stAt rs q (k + 1)).2 := by
    intro k
    unfold nextH stAt
    rw [nth_eq]
    split
    · rename_i r hr; rw [hr]
    · rename_i hr; rw [hr]
  refine ⟨stAt rs q, fun k => (rs[k]?).elim und (·.v), fun k => (rs[k]?).elim false (·.md), ⟨fun k o ho => ?_, fun i j p p' hij hi hj hmi hmj => ?_, fun i k p p' hik hi hk hmk hmi => ?_⟩, h5, hlast⟩
  · obtain ⟨r, hr, rfl, hst⟩ := hget k o ho
    obtain ⟨oh, _, h8, h9, h10⟩ := h6 k r hr
    rw [hst, hr]
    exact ⟨oh, h8, h9, h10⟩
  · obtain ⟨r, hr, rfl, hst⟩ := hget i p hi
    obtain ⟨r', hr', rfl, hst'⟩ := hget j p' hj
    rw [hr] at hmi
    rw [hr'] at hmj
    simp only [Option.elim_some] at hmi hmj
    obtain ⟨oh, _, h8, h9, _⟩ := h6 i r hr
    obtain ⟨oh', _, h8', h9', _⟩ := h6 j r' hr'
    rw [hmi] at h9
    rw [hmj] at h9'
    have hno : ∀ {r : Rec} {oh : Option Hp}, stepV T run ops r.o r.ts r.h = some (r.v, oh) → true = oh.isSome → isPure r.o.op = false ∧ isRd r.o.op = false := by
      intro r oh hs hsome
      constructor
      · cases hp : isPure r.o.op with
        | false => rfl
        | true => have := stepV_none (.inl hp) hs; simp only at this; subst this; cases hsome
      · cases hp : isRd r.o.op with
        | false => rfl
        | true => have := stepV_none (.inr hp) hs; simp only at this; subst this; cases hsome
    have hn := hno h8 h9
    have hn' := hno h8' h9'
    rcases h3 with h3 | h3
    · have := allPP_get h3 i j _ _ hij hi hj
      simp only [Nat.zero_add] at this
      unfold kindB at this
      rw [hn.1, hn'.1, hn.2] at this
      rw [bc_eq] at this
      split at this
      · exact ordB_iff.1 (by assumption)
      · cases this
    · have := allRR_get h3 i j _ _ hij hr hr'
      simp only [Nat.zero_add] at this
      unfold swapB at this
      rw [hmi, hmj, bc_eq] at this
      split at this
      · exact ordB_iff.1 (by assumption)
      · cases this
  · obtain ⟨r, hr, rfl, hst⟩ := hget i p hi
    obtain ⟨r', hr', rfl, hst'⟩ := hget k p' hk
    rw [hr] at hmi
    rw [hr'] at hmk
    simp only [Option.elim_some] at hmi hmk
    rw [hst, hst', ← hnext, hr]
    simp only [Option.elim_some]
    obtain ⟨oh', _, h8', h9', _⟩ := h6 k r' hr'
    rw [hmk] at h9'
    have hn' : isPure r'.o.op = false ∧ isRd r'.o.op = false := by
      constructor
      · cases hp : isPure r'.o.op with
        | false => rfl
        | true => have := stepV_none (.inl hp) h8'; simp only at this; subst this; cases h9'
      · cases hp : isRd r'.o.op with
        | false => rfl
        | true => have := stepV_none (.inr hp) h8'; simp only at this; subst this; cases h9'
    rcases h3 with h3 | h3
    · rcases Nat.lt_or_gt_of_ne hik with hlt | hlt
      · have := allPP_get h3 i k _ _ hlt hi hk
        simp only [Nat.zero_add] at this
        unfold kindB at this
        rw [hn'.1, hn'.2] at this
        rw [bc_eq] at this
        split at this
        · exact .inl (ordB_iff.1 (by assumption))
        · rw [bc_eq] at this
          split at this
          · exact .inr (.inl (by assumption))
          · cases hrd : isRd r.o.op <;> rw [hrd] at this <;> cases this
      · have := allPP_get h3 k i _ _ hlt hk hi
        simp only [Nat.zero_add] at this
        unfold kindB at this
        rw [hn'.1, hn'.2] at this
        rw [bc_eq] at this
        split at this
        · exact .inl (ordB_iff.1 (by assumption)).symm
        · cases hpp : isPure r.o.op with
          | true => exact .inr (.inl rfl)
          | false => rw [hpp] at this; cases this
    · rcases Nat.lt_or_gt_of_ne hik with hlt | hlt
      · have := allRR_get h3 i k _ _ hlt hr hr'
        simp only [Nat.zero_add] at this
        unfold swapB at this
        rw [hmi, hmk, bc_eq] at this
        split at this
        · exact .inl (ordB_iff.1 (by assumption))
        · have this : bc (isPure r.o.op) true (bc (sameAt T run ops r r'.h) (sameAt T run ops r (nextH rs q.2 k)) false) = true := this
          rw [bc_eq] at this
          split at this
          · exact .inr (.inl (by assumption))
          · obtain ⟨h10, h11⟩ := bc_and this
            exact .inr (.inr ⟨sameAt_true h10, sameAt_true h11⟩)
      · have := allRR_get h3 k i _ _ hlt hr' hr
        simp only [Nat.zero_add] at this
        unfold swapB at this
        rw [hmi, hmk, bc_eq] at this
        split at this
        · exact .inl (ordB_iff.1 (by assumption)).symm
        · have this : bc (isPure r.o.op) true (bc (sameAt T run ops r r'.h) (sameAt T run ops r (nextH rs q.2 k)) false) = true := this
          rw [bc_eq] at this
          split at this
          · exact .inr (.inl (by assumption))
          · obtain ⟨h10, h11⟩ := bc_and this
            exact .inr (.inr ⟨sameAt_true h10, sameAt_true h11⟩)
end
end Go.VI
