/-
  An abstract interpreter of loaded code, proved to tell the truth; a part of the proof that redpencillaw48.PastNil returns true, whatever the input.
-/
import Derived.Test.YtedijongecdhfaaGreatM23
namespace Go.VI
open Go Go.RowKit

section
variable {T : Tab} {run : Job → Res} {h h' : Hp} {ts ts' : Fr}

theorem evalA_congr {r r' : Env} : ∀ {l : List Operand}, (∀ x ∈ l, r x = r' x) → evalA r l = evalA r' l
  | [], _ => rfl
  | x :: l, hl => by
    show (r x).ob (fun v => (evalA r l).ob fun vs => some (v :: vs)) = (r' x).ob (fun v => (evalA r' l).ob fun vs => some (v :: vs))
    rw [hl x (by simp), evalA_congr (fun y hy => hl y (by simp [hy]))]
theorem evalL_congr {r r' : Env} : ∀ {l : List (Nat × Operand)}, (∀ p ∈ l, r p.2 = r' p.2) → evalL r l = evalL r' l
  | [], _ => rfl
  | x :: l, hl => by
    show (r x.2).ob (fun v => (evalL r l).ob fun vs => some ((x.1, v) :: vs)) = (r' x.2).ob (fun v => (evalL r' l).ob fun vs => some ((x.1, v) :: vs))
    rw [hl x (by simp), evalL_congr (fun y hy => hl y (by simp [hy]))]

theorem exec_congr {o : Op} (hx : ∀ x ∈ o.operands.toList, evalO ts x = evalO ts' x) : execO { T := T, run := run, ts := ts, h := h } o = execO { T := T, run := run, ts := ts', h := h } o := by
  have he : ∀ (x : Operand), x ∈ o.operands.toList → evalO ts x = evalO ts' x := hx
  cases o <;> simp only [Op.operands] at he <;> simp only [execO] <;> try rfl
  case move x => simp only [y_move]; rw [he x (by simp)]
  case assign x => simp only [y_assign]; rw [he x (by simp)]
  case pick c a b => simp only [y_pick, x_pick]; rw [he c (by simp), he a (by simp), he b (by simp)]
  case box t x => simp only [y_box, x_box]; rw [he x (by simp)]
  case build t ps => simp only [y_build, x_build]; rw [evalL_congr (fun p hp => he p.2 (by simp; exact ⟨_, by simpa using hp⟩))]
  case buildSlice t l ps => simp only [y_buildSlice, x_buildSlice]; rw [evalL_congr (fun p hp => he p.2 (by simp; exact ⟨_, by simpa using hp⟩))]
  case insert t m k x => simp only [y_insert, x_update]; rw [he m (by simp), he k (by simp), he x (by simp)]
  case load t x => simp only [y_load, x_load]; rw [he x (by simp)]
  case store t x y => simp only [y_store, x_store]; rw [he x (by simp), he y (by simp)]
  case nilCheck x => simp only [y_nilCheck, x_nilCheck]; rw [he x (by simp)]
  case binOp op t x y _ => simp only [y_binOp, x_binOp]; rw [he x (by simp), he y (by simp)]
  case unOp op t x => simp only [y_unOp, x_unOp]; rw [he x (by simp)]
  case convert s d x => simp only [y_convert, x_convert]; rw [he x (by simp)]
  case makeFunc f x y => simp only [y_makeFunc, x_makeFunc]; rw [evalA_congr (fun z hz => he z (by simp; exact .inr (by simpa using hz)))]
  case makeMap t x =>
    simp only [y_makeMap, x_makeMap]
    cases x with
    | none => rfl
    | some x => simp only [hintO]; rw [he x (by simp)]
  case slice t x lo hi mx =>
    have hn : ∀ (d : Nat) (y : Option Operand), (∀ z, y = some z → z ∈ (#[x] ++ lo.toArray ++ hi.toArray ++ mx.toArray).toList) → natO (evalO ts) d y = natO (evalO ts') d y := by
      intro d y hy
      cases y with
      | none => rfl
      | some z => simp only [natO]; rw [he z (hy z rfl)]
    simp only [y_slice, x_slice]
    rw [he x (by simp)]
    simp only [hn 0 lo (fun z hz => by subst hz; simp)]
    have h2 : ∀ len, natO (evalO ts) len hi = natO (evalO ts') len hi := fun len => hn len hi (fun z hz => by subst hz; simp)
    simp only [h2]
    cases mx with
    | none => rfl
    | some z => simp only []; rw [he z (by simp)]
  case fieldAddr t x f => simp only [y_fieldAddr, x_fieldAddr]; rw [he x (by simp)]
  case indexAddr t x i => simp only [y_indexAddr, x_indexAddr]; rw [he x (by simp), he i (by simp)]
  case index t x i => simp only [y_index, x_index]; rw [he x (by simp), he i (by simp)]
  case lookup t m k ok => simp only [y_lookup, x_lookup]; rw [he m (by simp), he k (by simp)]
  case mapUpdate t m k x => simp only [y_mapUpdate, x_update]; rw [he m (by simp), he k (by simp), he x (by simp)]
  case range t x => simp only [y_range, x_range]; rw [he x (by simp)]
  case next x s => simp only [y_next, x_next]; rw [he x (by simp)]
  case entry x => simp only [y_entry, x_entry]; rw [he x (by simp)]
  case extract x i => simp only [y_extract, x_extract]; rw [he x (by simp)]
  case call c =>
    simp only [Call.operands] at he
    simp only [y_call, x_call]
    rw [evalA_congr (fun z hz => he z (by cases hc : c.callee <;> simp [hz]))]
    cases hc : c.callee with
    | value f => simp only [callC]; rw [he f (by simp [hc])]
    | builtin b => rfl
    | invoke _ _ => rfl

theorem step_congr {ops : List Oper} {o : Oper} (hx : ∀ x ∈ o.op.operands.toList, evalO ts x = evalO ts' x) (hg : ∀ g t, o.guard = some g → (nth ops g.1).ob (·.dst) = some t → ts.get t = ts'.get t) :
    stepV T run ops o ts h = stepV T run ops o ts' h := by
  unfold stepV
  rw [exec_congr hx]
  have : wantedO ops ts o.guard = wantedO ops ts' o.guard := by
    unfold wantedO
    cases hgd : o.guard with
    | none => rfl
    | some g =>
      simp only [guardB]
      cases hd : (nth ops g.1).ob (·.dst) with
      | none => rfl
      | some t =>
        show (ts.get t).ob _ = (ts'.get t).ob _
        rw [hg g t hgd hd]
  rw [this]

theorem pure_congr {o : Op} (hp : isPure o = true) : execO { T := T, run := run, ts := ts, h := h } o = execO { T := T, run := run, ts := ts, h := h' } o := by
  cases o <;> simp only [isPure] at hp <;> first | (cases hp; done) | rfl

theorem keep_snd {v : Option TV} {q : TV × Option Hp} (e : keep v = some q) : q.2 = none := (keep_some e).2

theorem pure_none {o : Op} (hp : isPure o = true) {q : TV × Option Hp} (e : execO { T := T, run := run, ts := ts, h := h } o = some q) : q.2 = none := by
  cases o <;> simp only [isPure] at hp <;> (try (cases hp; done)) <;> simp only [execO] at e
  case move x => exact keep_snd e
  case assign x => exact keep_snd e
  case pick c a b => simp only [y_pick, x_pick] at e; obtain ⟨_, _, e⟩ := ob_some_iff.1 e; exact keep_snd e
  case build t ps =>
    simp only [y_build, x_build] at e
    obtain ⟨_, _, e⟩ := ob_some_iff.1 e
    obtain ⟨_, _, e⟩ := ob_some_iff.1 e
    obtain ⟨_, _, e⟩ := ob_some_iff.1 e
    obtain ⟨_, _, e⟩ := ob_some_iff.1 e
    cases e; rfl
  case nilCheck x =>
    simp only [y_nilCheck, x_nilCheck] at e
    obtain ⟨_, _, e⟩ := ob_some_iff.1 e
    obtain ⟨_, _, e⟩ := ob_some_iff.1 e
    rw [bc_eq] at e
    split at e
    · cases e
    · cases e; rfl
  case binOp op t x y _ =>
    simp only [y_binOp, x_binOp] at e
    obtain ⟨_, _, e⟩ := ob_some_iff.1 e
    obtain ⟨_, _, e⟩ := ob_some_iff.1 e
    obtain ⟨_, _, e⟩ := ob_some_iff.1 e
    exact keep_snd e
  case unOp op t x => simp only [y_unOp, x_unOp] at e; obtain ⟨_, _, e⟩ := ob_some_iff.1 e; exact keep_snd e
  case makeFunc f x y =>
    simp only [y_makeFunc, x_makeFunc] at e
    split at e
    · obtain ⟨_, e⟩ := bc_none_iff.1 e
      obtain ⟨_, _, e⟩ := ob_some_iff.1 e
      cases e; rfl
    · cases e
  case fieldAddr t x f =>
    simp only [y_fieldAddr, x_fieldAddr] at e
    obtain ⟨_, _, e⟩ := ob_some_iff.1 e
    obtain ⟨_, _, e⟩ := ob_some_iff.1 e
    obtain ⟨_, _, e⟩ := ob_some_iff.1 e
    obtain ⟨_, _, e⟩ := ob_some_iff.1 e
    rw [bc_eq] at e
    split at e
    · cases e
    · obtain ⟨_, _, e⟩ := ob_some_iff.1 e
      exact keep_snd e
  case indexAddr t x i =>
    simp only [y_indexAddr, x_indexAddr] at e
    obtain ⟨_, _, e⟩ := ob_some_iff.1 e
    obtain ⟨_, _, e⟩ := ob_some_iff.1 e
    obtain ⟨_, _, e⟩ := ob_some_iff.1 e
    obtain ⟨_, _, e⟩ := ob_some_iff.1 e
    obtain ⟨_, _, e⟩ := ob_some_iff.1 e
    exact keep_snd e
  case index t x i =>
    simp only [y_index, x_index] at e
    obtain ⟨_, _, e⟩ := ob_some_iff.1 e
    split at e
    · obtain ⟨_, _, e⟩ := ob_some_iff.1 e
      obtain ⟨_, _, e⟩ := ob_some_iff.1 e
      exact keep_snd e
    · cases e
  case extract x i =>
    simp only [y_extract, x_extract] at e
    obtain ⟨_, _, e⟩ := ob_some_iff.1 e
    split at e
    · exact keep_snd e
    · cases e

theorem built_none {b : Builtin} (hp : isRdCall (.builtin b) = true) {tys : List TypeId} {args : List TV} {q : TV × Option Hp} (e : builtO T b tys args h = some q) : q.2 = none := by
  unfold builtO at e
  split at e
  · obtain ⟨_, _, e⟩ := ob_some_iff.1 e
    unfold b_len at e
    obtain ⟨_, _, e⟩ := ob_some_iff.1 e
    exact keep_snd e
  · cases hp
  · obtain ⟨_, _, e⟩ := ob_some_iff.1 e
    unfold b_cap at e
    obtain ⟨_, _, e⟩ := ob_some_iff.1 e
    obtain ⟨_, _, e⟩ := ob_some_iff.1 e
    exact keep_snd e
  · cases hp
  · obtain ⟨_, _, e⟩ := ob_some_iff.1 e
    obtain ⟨_, _, e⟩ := ob_some_iff.1 e
    exact keep_snd e
  · obtain ⟨_, _, e⟩ := ob_some_iff.1 e
    obtain ⟨_, _, e⟩ := ob_some_iff.1 e
    exact keep_snd e
  · cases e

theorem rd_none {o : Op} (hp : isRd o = true) {q : TV × Option Hp} (e : execO { T := T, run := run, ts := ts, h := h } o = some q) : q.2 = none := by
  cases o <;> simp only [isRd] at hp <;> (try (cases hp; done)) <;> simp only [execO] at e
  case load t x => exact keep_snd e
  case convert s d x =>
    simp only [y_convert, x_convert] at e
    obtain ⟨_, _, e⟩ := ob_some_iff.1 e
    obtain ⟨_, _, e⟩ := ob_some_iff.1 e
    obtain ⟨_, _, e⟩ := ob_some_iff.1 e
    exact keep_snd e
  case slice t x lo hi mx =>
    simp only [y_slice, x_slice] at e
    obtain ⟨_, _, e⟩ := ob_some_iff.1 e
    obtain ⟨_, _, e⟩ := ob_some_iff.1 e
    obtain ⟨_, _, e⟩ := ob_some_iff.1 e
    obtain ⟨_, _, e⟩ := ob_some_iff.1 e
    obtain ⟨_, _, e⟩ := ob_some_iff.1 e
    obtain ⟨_, _, e⟩ := ob_some_iff.1 e
    obtain ⟨_, e⟩ := bc_none_iff.1 e
    exact keep_snd e
  case lookup t m k ok =>
    simp only [y_lookup, x_lookup] at e
    obtain ⟨_, _, e⟩ := ob_some_iff.1 e
    obtain ⟨_, _, e⟩ := ob_some_iff.1 e
    obtain ⟨_, _, e⟩ := ob_some_iff.1 e
    obtain ⟨_, _, e⟩ := ob_some_iff.1 e
    obtain ⟨_, _, e⟩ := ob_some_iff.1 e
    obtain ⟨_, _, e⟩ := ob_some_iff.1 e
    obtain ⟨_, _, e⟩ := ob_some_iff.1 e
    obtain ⟨_, _, e⟩ := ob_some_iff.1 e
    obtain ⟨_, _, e⟩ := ob_some_iff.1 e
    cases e; rfl
  case call c =>
    simp only [y_call, x_call] at e
    obtain ⟨args, _, e⟩ := ob_some_iff.1 e
    cases hc : c.callee with
    | value f => rw [hc] at hp; cases hp
    | invoke _ _ => rw [hc] at hp; cases hp
    | builtin b =>
      rw [hc] at hp e
      exact built_none hp e
end
end Go.VI
