/-
  An abstract interpreter of loaded code, proved to tell the truth; a part of the proof that redpencillaw48.PastNil returns true, whatever the input.
-/
import Derived.Test.YtedijongecdhfaaGreatM8
namespace Go.VI
open Go Go.RowKit

/-- What an operation comes to: a value that fits, in a world that fits. -/
def Good (P : Program) (w0 : World) (h : Hp) (ι : Nat → Nat) (w : World) (s : Sem Next) (v : TV) (oh : Option Hp) : Prop :=
  ∃ (u : Value) (ι' : Nat → Nat) (w' : World), (s.run P w = .ok (.value u) w' ∨ (s.run P w = .ok .skip w' ∧ u = undef)) ∧ Ga P w0 (orH h oh) ι' w' ∧ Evo h ι w (orH h oh) ι' w' ∧ TR P (orH h oh) ι' w' v u

def EnvR (P : Program) (h : Hp) (ι : Nat → Nat) (w : World) (r : Env) (ρ : Operand → Value) : Prop := ∀ x v, r x = some v → TR P h ι w v (ρ x)

section
variable {P : Program} {T : Tab} {w0 : World} {h : Hp} {ι : Nat → Nat} {w : World} {t : TypeId} {r : Env} {ρ : Operand → Value}

theorem Good.pure (g : Ga P w0 h ι w) {s : Sem Next} {v : TV} {u : Value} (hr : s.run P w = .ok (.value u) w) (hv : TR P h ι w v u) : Good P w0 h ι w s v none :=
  ⟨u, ι, w, .inl hr, g, Evo.refl _ _ _, hv⟩
theorem Good.val (g : Ga P w0 h ι w) {s : Sem Value} {v : TV} {u : Value} (hr : s.run P w = .ok u w) (hv : TR P h ι w v u) : Good P w0 h ι w (do Pure.pure (Next.value (← s))) v none :=
  Good.pure g (by simp [hr]) hv
theorem Good.new (g : Ga P w0 h ι w) {s : Sem Value} {o : AO} {ob : Obj} {x : SV} {u : Value} (hr : s.run P w = .ok u { w with heap := w.heap.push ob }) (hob : ObR P h ι w o ob)
    (hv : VR P (h.new o) (up ι h.n w.heap.size) { w with heap := w.heap.push ob } x u) : Good P w0 h ι w (do Pure.pure (Next.value (← s))) (.one x) (some (h.new o)) :=
  ⟨u, _, _, .inl (by simp [hr]), g.new o ob hob, Evo.new g o ob, .one hv⟩

theorem g_move (g : Ga P w0 h ι w) (hρ : EnvR P h ι w r ρ) {x : Operand} {q : TV × Option Hp} (e : keep (r x) = some q) : Good P w0 h ι w (Pure.pure (.value (ρ x))) q.1 q.2 := by
  obtain ⟨h1, h2⟩ := keep_some e
  rw [h2]
  exact Good.pure g rfl (hρ x _ h1)

theorem g_pick (g : Ga P w0 h ι w) (hρ : EnvR P h ι w r ρ) {c a b : Operand} {q : TV × Option Hp} (e : x_pick r c a b = some q) :
    Good P w0 h ι w (do Pure.pure (.value (if ← asBool (ρ c) then ρ a else ρ b))) q.1 q.2 := by
  unfold x_pick at e
  obtain ⟨tb, h1, h2⟩ := ob_some_iff.1 e
  obtain ⟨x, h3, h4⟩ := ob_some_iff.1 h1
  have hb := (hρ c x h3).bool? h4
  obtain ⟨h5, h6⟩ := keep_some h2
  rw [h6]
  cases tb with
  | true => exact Good.pure g (by simp [hb, asBool]) (hρ a _ h5)
  | false => exact Good.pure g (by simp [hb, asBool]) (hρ b _ h5)

theorem g_alloc (hT : TabOk P T) (g : Ga P w0 h ι w) {q : TV × Option Hp} (e : x_alloc T h t = some q) : Good P w0 h ι w (do Pure.pure (.value (← Instr.alloc t true (.tuple #[])))) q.1 q.2 := by
  unfold x_alloc at e
  obtain ⟨ti, h1, h2⟩ := ob_some_iff.1 e
  cases h2
  obtain ⟨z, hz, hr⟩ := (hT t ti h1).zeroValue (w := w)
  refine Good.new g (ob := .cells z.cells t) ?_ (.arr ?_) (ptr_new _ _)
  · simp [Instr.alloc, hr, newVar, newRow_run]
  · have := all2_row (P := P) (h := h) (ι := ι) (w := w) (zero_row hz)
    simpa using this

theorem g_box (g : Ga P w0 h ι w) (hρ : EnvR P h ι w r ρ) {x : Operand} {q : TV × Option Hp} (e : x_box r h t x = some q) : Good P w0 h ι w (do Pure.pure (.value (← Instr.box t (ρ x)))) q.1 q.2 := by
  unfold x_box at e
  obtain ⟨cs, h1, h2⟩ := ob_some_iff.1 e
  obtain ⟨v, h3, h4⟩ := ob_some_iff.1 h1
  cases h2
  obtain ⟨_, h5⟩ := (hρ x v h3).cells h4
  refine Good.new g (ob := .cells (ρ x).cells t) ?_ (.arr ?_) (ptr_new _ _)
  · simp [Instr.box, newVar, newRow_run]
  · have := all2_row h5
    simpa using this

theorem evalL_some (hρ : EnvR P h ι w r ρ) : ∀ {l : List (Nat × Operand)} {vs : List (Nat × TV)}, evalL r l = some vs → All2 (fun (a : Nat × TV) (b : Nat × Value) => a.1 = b.1 ∧ TR P h ι w a.2 b.2) vs (l.map fun p => (p.1, ρ p.2))
  | [], _, e => by cases e; exact .nil
  | p :: l, _, e => by
    obtain ⟨v, h1, h2⟩ := ob_some_iff.1 (show (r p.2).ob _ = some _ from e)
    obtain ⟨vs, h3, h4⟩ := ob_some_iff.1 h2
    cases h4
    exact .cons ⟨rfl, hρ _ _ h1⟩ (evalL_some hρ h3)
theorem evalA_some (hρ : EnvR P h ι w r ρ) : ∀ {l : List Operand} {vs : List TV}, evalA r l = some vs → All2 (TR P h ι w) vs (l.map ρ)
  | [], _, e => by cases e; exact .nil
  | p :: l, _, e => by
    obtain ⟨v, h1, h2⟩ := ob_some_iff.1 (show (r p).ob _ = some _ from e)
    obtain ⟨vs, h3, h4⟩ := ob_some_iff.1 h2
    cases h4
    exact .cons (hρ _ _ h1) (evalA_some hρ h3)

/-- Cells put into a place one behind the other, as the model's 'fill' does. -/
theorem fold_cells : ∀ (vs : List Value) (off k : Nat) (cells : Array Value) (cur : List SV) (cs : List SV), All2 (VR P h ι w) cs vs → All2 (VR P h ι w) cur cells.toList → off + k + cs.length ≤ cur.length →
    All2 (VR P h ι w) (setAt cur (off + k) cs) ((vs.zipIdx k).foldl (fun (c : Array Value) (p : Value × Nat) => c.setIfInBounds (off + p.2) p.1) cells).toList
  | [], off, k, cells, cur, cs, hc, hcur, _ => by cases hc; exact hcur
  | v :: vs, off, k, cells, cur, cs, hc, hcur, hl => by
    cases hc with
    | cons a b =>
      rename_i x xs
      simp only [List.zipIdx_cons, List.foldl_cons]
      show All2 _ (setAt (cur.set (off + k) x) (off + k + 1) xs) _
      refine fold_cells vs off (k + 1) _ _ xs b ?_ (by simp only [List.length_set]; simp at hl; omega)
      rw [Array.toList_setIfInBounds]
      have : ∀ (l : List SV) (m : List Value) (i : Nat), All2 (VR P h ι w) l m → All2 (VR P h ι w) (l.set i x) (m.set i v) := by
        intro l m i hlm
        induction hlm generalizing i with
        | nil => exact .nil
        | cons a' t' ih => cases i with
          | zero => exact .cons a t'
          | succ i => exact .cons a' (ih i)
      exact this _ _ _ hcur

theorem fill_some {place : Nat → Option (Nat × Nat)} {place' : Nat → Option (Nat × Nat)} (hp : ∀ i p, place i = some p → place' i = some p) :
    ∀ {vs : List (Nat × TV)} {us : List (Nat × Value)} {cur out : List SV} {cells : Array Value}, fillP place vs cur = some out → All2 (fun (a : Nat × TV) (b : Nat × Value) => a.1 = b.1 ∧ TR P h ι w a.2 b.2) vs us →
      All2 (VR P h ι w) cur cells.toList → ∃ cells', Instr.fill place' cells us = some cells' ∧ All2 (VR P h ι w) out cells'.toList
  | [], _, cur, out, cells, e, hu, hc => by cases hu; cases e; exact ⟨cells, rfl, hc⟩
  | v :: vs, _, cur, out, cells, e, hu, hc => by
    cases hu with
    | cons a b =>
      rename_i u us
      obtain ⟨i, x⟩ := v
      obtain ⟨j, y⟩ := u
      obtain ⟨h1, h2⟩ := a
      simp only at h1 h2
      subst h1
      obtain ⟨p, e1, e⟩ := ob_some_iff.1 (show (place i).ob _ = some out from e)
      obtain ⟨cs, e2, e⟩ := ob_some_iff.1 e
      obtain ⟨e3, e⟩ := bc_none_iff.1 e
      simp only [Bool.and_eq_true, Nat.beq_eq, Nat.ble_eq] at e3
      obtain ⟨_, h3⟩ := h2.cells e2
      have hlen := h3.len
      have hcl := hc.len
      obtain ⟨off, size⟩ := p
      simp only at e3 e
      have hf := fold_cells y.cells.toList off 0 cells cur cs h3 hc (by omega)
      simp only [Nat.add_zero] at hf
      obtain ⟨cells', h4, h5⟩ := fill_some hp e b hf
      refine ⟨cells', ?_, h5⟩
      unfold Instr.fill
      simp only [hp _ _ e1]
      have e4 : y.cells.toList.length = y.cells.size := Array.length_toList
      have e5 : cells.toList.length = cells.size := Array.length_toList
      rw [if_neg (by simp only [ne_eq, Bool.or_eq_true, decide_eq_true_eq, gt_iff_lt]; omega)]
      have hz : (y.cells.zipIdx.foldl (fun cs (x : Value × Nat) => cs.setIfInBounds (off + x.2) x.1) cells) = (y.cells.toList.zipIdx.foldl (fun (c : Array Value) (p : Value × Nat) => c.setIfInBounds (off + p.2) p.1) cells) := by
        rw [← Array.foldl_toList, Array.toList_zipIdx]
      rw [← h4]
      congr 1
end
end Go.VI
