/-
  An abstract interpreter of loaded code, proved to tell the truth; a part of the proof that redpencillaw48.PastNil returns true, whatever the input.
-/
import Derived.Test.YtedijongecdhfaaGreatM3
namespace Go.VI
open Go Go.RowKit

/-! The tables -/
def KOk (P : Program) (t : TypeId) : K → Prop
  | .int k => P.underlying t = some (.int k)
  | .bool => P.underlying t = some .bool
  | .str => P.underlying t = some .string
  | .slice e => P.underlying t = some (.slice e)
  | .map k e => P.underlying t = some (.map k e)
  | .struct fs => ∃ arr : Array Field, P.underlying t = some (.struct arr) ∧ arr.toList.map (fun f => (f.offset, f.type)) = fs ∧ ∀ f ∈ arr.toList, (P.info? f.type).isSome = true
  | .ptr => ∃ e, P.underlying t = some (.pointer e)
  | .func => ∃ a b c, P.underlying t = some (.func a b c)
  | .other => False

structure ZeroOk (z : Value) (ti : TI) : Prop where
  cells : z.cells.toList.map liftS = ti.zero
  one : ∀ v ∈ z.cells.toList, v.oneCell' = true
  agg : ti.k.isAgg = true → ∃ cs, z = .agg cs
  plain : ti.k.isAgg = false → z.oneCell' = true
  len : ti.zero.length = ti.size

structure InfoOk (P : Program) (t : TypeId) (ti : TI) (i : TypeInfo) (z : Value) : Prop where
  info : P.info? t = some i
  size : i.size = ti.size
  bytes : i.bytes = ti.bytes
  zero : i.zero = some z
  z : ZeroOk z ti

structure TiOk (P : Program) (t : TypeId) (ti : TI) : Prop where
  info : ∃ i z, InfoOk P t ti i z
  kind : KOk P t ti.k

def TabOk (P : Program) (T : Tab) : Prop := ∀ t ti, T t = some ti → TiOk P t ti

section
variable {P : Program} {h : Hp} {ι : Nat → Nat} {w : World}

theorem liftS_VR {v : Value} (hv : v.oneCell' = true) : VR P h ι w (liftS v) v := by
  cases v <;> first
    | exact .b (.int _ _)
    | exact .b (.bool _)
    | exact .b (.str _)
    | exact .b (.lit _ hv)
    | (simp [Value.oneCell'] at hv)

theorem All2.of_map {α β : Type} {R : α → β → Prop} (f : β → α) : ∀ (l : List β), (∀ b ∈ l, R (f b) b) → All2 R (l.map f) l
  | [], _ => .nil
  | b :: l, hl => .cons (hl b (by simp)) (All2.of_map f l fun x hx => hl x (by simp [hx]))
theorem All2.len {α β : Type} {R : α → β → Prop} {l : List α} {m : List β} (hf : All2 R l m) : l.length = m.length := by
  induction hf with
  | nil => rfl
  | cons _ _ ih => simp [ih]
theorem All2.get {α β : Type} {R : α → β → Prop} {l : List α} {m : List β} (hf : All2 R l m) : ∀ {j : Nat} {x : α}, l[j]? = some x → ∃ v, m[j]? = some v ∧ R x v := by
  induction hf with
  | nil => intro j x hj; simp at hj
  | cons a _ ih =>
    intro j x hj
    cases j with
    | zero => simp at hj; subst hj; exact ⟨_, rfl, a⟩
    | succ j => simp at hj; obtain ⟨v, h1, h2⟩ := ih hj; exact ⟨v, by simpa using h1, h2⟩
theorem All2.drop {α β : Type} {R : α → β → Prop} {l : List α} {m : List β} (hf : All2 R l m) : ∀ n, All2 R (l.drop n) (m.drop n) := by
  induction hf with
  | nil => intro n; simpa using .nil
  | cons a t ih => intro n; cases n with
    | zero => exact .cons a t
    | succ n => exact ih n
theorem All2.take {α β : Type} {R : α → β → Prop} {l : List α} {m : List β} (hf : All2 R l m) : ∀ n, All2 R (l.take n) (m.take n) := by
  induction hf with
  | nil => intro n; simpa using .nil
  | cons a t ih => intro n; cases n with
    | zero => exact .nil
    | succ n => exact .cons a (ih n)
theorem All2.app {α β : Type} {R : α → β → Prop} {l l' : List α} {m m' : List β} (hf : All2 R l m) (hg : All2 R l' m') : All2 R (l ++ l') (m ++ m') := by
  induction hf with
  | nil => exact hg
  | cons a _ ih => exact .cons a ih
/-- A list that reads off places. -/
theorem All2.of_get {α β : Type} {R : α → β → Prop} : ∀ (l : List α) (f : Nat → Option β), (∀ j x, l[j]? = some x → ∃ v, f j = some v ∧ R x v) → ∃ m, All2 R l m ∧ ∀ j v, m[j]? = some v → f j = some v
  | [], f, _ => ⟨[], .nil, fun j v hv => by simp at hv⟩
  | a :: l, f, hf => by
    obtain ⟨b, h1, h2⟩ := hf 0 a rfl
    obtain ⟨m, h3, h4⟩ := All2.of_get l (fun j => f (j + 1)) (fun j x hx => hf (j + 1) x (by simpa using hx))
    refine ⟨b :: m, .cons h2 h3, fun j v hv => ?_⟩
    cases j with
    | zero => simp at hv; subst hv; exact h1
    | succ j => exact h4 j v (by simpa using hv)

theorem oneC_iff {v : Value} : oneC v = true ↔ v.oneCell' = true := by cases v <;> simp [oneC, Value.oneCell']
theorem oneCs_iff : ∀ {l : List Value}, oneCs l = true ↔ ∀ v ∈ l, v.oneCell' = true
  | [] => by simp [oneCs]
  | v :: l => by
    show bc (oneC v) (oneCs l) false = true ↔ _
    rw [bc_eq]
    have := @oneCs_iff l
    by_cases e : oneC v = true
    · rw [if_pos e, this]; simp [oneC_iff.1 e]
    · rw [if_neg e]; simp [← oneC_iff, e]

theorem VB.oneCell {x : SV} {v : Value} (hv : VB P h ι w x v) : v.oneCell' = true := by
  cases hv with
  | lit v hv => exact hv
  | _ => rfl
theorem VR.oneCell {x : SV} {v : Value} (hv : VR P h ι w x v) : v.oneCell' = true := by
  cases hv with
  | b hb => exact hb.oneCell
  | fn _ _ => rfl

theorem und_TR : TR P h ι w und undef := .tup .nil
theorem TR.one {x : SV} {v : Value} (hv : VR P h ι w x v) : TR P h ι w (.one x) v := .t (.one hv)
theorem TR.agg {cs : List SV} {vs : List Value} (hv : All2 (VR P h ι w) cs vs) : TR P h ι w (.agg cs) (.agg vs.toArray) := .t (.agg hv)
theorem TR.one? {x : TV} {s : SV} {v : Value} (hv : TR P h ι w x v) (e : x.one? = some s) : VR P h ι w s v := by
  cases hv with
  | t ht => cases ht with
    | one hx => simp [TV.one?] at e; subst e; exact hx
    | agg _ => simp [TV.one?] at e
  | tup _ => simp [TV.one?] at e
theorem TR.agg? {x : TV} {s : List SV} {v : Value} (hv : TR P h ι w x v) (e : x.agg? = some s) : ∃ vs : List Value, v = .agg vs.toArray ∧ All2 (VR P h ι w) s vs := by
  cases hv with
  | t ht => cases ht with
    | one hx => simp [TV.agg?] at e
    | agg hc => simp [TV.agg?] at e; subst e; exact ⟨_, rfl, hc⟩
  | tup _ => simp [TV.agg?] at e
/-- What has cells is no tuple. -/
theorem TR.cells {x : TV} {cs : List SV} {v : Value} (hv : TR P h ι w x v) (e : x.cells = some cs) : T1 P h ι w x v ∧ All2 (VR P h ι w) cs v.cells.toList := by
  cases hv with
  | t ht => cases ht with
    | one hx =>
      simp [TV.cells] at e; subst e
      refine ⟨.one hx, ?_⟩
      have h1 := hx.oneCell
      rename_i v'
      have : v.cells = #[v] := by cases v <;> first | rfl | (simp [Value.oneCell'] at h1)
      rw [this]; exact .cons hx .nil
    | agg hc => simp [TV.cells] at e; subst e; exact ⟨.agg hc, by simpa [Value.cells] using hc⟩
  | tup _ => simp [TV.cells] at e

theorem TR.bool? {x : TV} {b : Bool} {v : Value} (hv : TR P h ι w x v) (e : x.bool? = some b) : v = .bool b := by
  unfold TV.bool? at e
  obtain ⟨s, h1, h2⟩ := ob_some_iff.1 e
  have h3 := hv.one? h1
  cases s <;> simp [SV.bool?] at h2
  subst h2
  cases h3 with
  | b hb => cases hb; rfl
theorem TR.nat? {x : TV} {n : Nat} {v : Value} (hv : TR P h ι w x v) (e : x.nat? = some n) : ∃ k, v = .int k (n : Int) := by
  unfold TV.nat? at e
  obtain ⟨s, h1, h2⟩ := ob_some_iff.1 e
  have h3 := hv.one? h1
  cases s with
  | int k m =>
    cases m with
    | ofNat m =>
      simp [SV.nat?] at h2; subst h2
      cases h3 with
      | b hb => cases hb; exact ⟨k, rfl⟩
    | negSucc m => simp [SV.nat?] at h2
  | _ => simp [SV.nat?] at h2

theorem FrR.get {f : Fr} {tm : Array Value} (hf : FrR P h ι w f tm) {i : Nat} {v : TV} (e : f.get i = some v) : TR P h ι w v (tm.getD i undef) := by
  obtain ⟨u, h1, h2⟩ := hf.at_ i v e
  rw [Array.getD_eq_getD_getElem?, h1]; exact h2
theorem FrR.set {f : Fr} {tm : Array Value} (hf : FrR P h ι w f tm) (i : Nat) {v : TV} {u : Value} (hv : TR P h ι w v u) : FrR P h ι w (f.set i v) (tm.setIfInBounds i u) where
  size := by rw [Array.size_setIfInBounds]; exact hf.size
  at_ := fun j x hj => by
    rw [fget_set] at hj
    split at hj
    · rename_i hlt
      split at hj
      · rename_i e; subst e; cases hj
        refine ⟨u, ?_, hv⟩
        rw [Array.getElem?_setIfInBounds]; simp [hf.size, hlt]
      · rename_i e
        obtain ⟨y, h1, h2⟩ := hf.at_ j x hj
        refine ⟨y, ?_, h2⟩
        rw [Array.getElem?_setIfInBounds, if_neg (Ne.symm e)]; exact h1
    · cases hj
theorem FrR.putT {f : Fr} {a : Act} (hf : FrR P h ι w f a.tmps) (d : Option Tmp) {v : TV} {u : Value} (hv : TR P h ι w v u) : FrR P h ι w (putT f d v) (a.put d u).tmps := by
  cases d with
  | none => exact hf
  | some d => exact hf.set d hv

theorem evalO_TR {f : Fr} {a : Act} (hf : FrR P h ι w f a.tmps) {x : Operand} {v : TV} (e : evalO f x = some v) : TR P h ι w v (a.eval x) := by
  cases x with
  | tmp t => exact hf.get e
  | const c =>
    have e' : constO c = some v := e
    show TR P h ι w v c
    cases c with
    | agg cs =>
      have e2 : bc (oneCs cs.toList) (some (TV.agg (cs.toList.map liftS))) none = some v := e'
      obtain ⟨h1, h2⟩ := bc_none_iff.1 e2
      cases h2
      have := TR.agg (P := P) (h := h) (ι := ι) (w := w) (All2.of_map liftS cs.toList fun b hb => liftS_VR (oneCs_iff.1 h1 b hb))
      simpa using this
    | tuple _ => cases e'
    | _ => cases e'; exact .one (liftS_VR rfl)
  | global g => cases e
  | func g => cases e; exact .one (.fn (vs := []) (.func g) .nil)
end
end Go.VI
