/-
  An abstract interpreter of loaded code, proved to tell the truth; a part of the proof that redpencillaw48.PastNil returns true, whatever the input.
-/
import Derived.Test.YtedijongecdhfaaGreatVi
namespace Go.VI
open Go

@[simp] theorem bc_true {α : Type} (a b : α) : bc true a b = a := rfl
@[simp] theorem bc_false {α : Type} (a b : α) : bc false a b = b := rfl
theorem bc_eq {α : Type} (c : Bool) (a b : α) : bc c a b = if c = true then a else b := by cases c <;> rfl
@[simp] theorem ob_none {α β : Type} (f : α → Option β) : (none : Option α).ob f = none := rfl
@[simp] theorem ob_some {α β : Type} (a : α) (f : α → Option β) : (some a).ob f = f a := rfl
@[simp] theorem om_none {α β : Type} (f : α → β) : (none : Option α).om f = none := rfl
@[simp] theorem om_some {α β : Type} (a : α) (f : α → β) : (some a).om f = some (f a) := rfl
theorem ob_some_iff {α β : Type} {o : Option α} {f : α → Option β} {b : β} : o.ob f = some b ↔ ∃ a, o = some a ∧ f a = some b := by cases o <;> simp
theorem om_some_iff {α β : Type} {o : Option α} {f : α → β} {b : β} : o.om f = some b ↔ ∃ a, o = some a ∧ f a = b := by cases o <;> simp
theorem bc_none_iff {α : Type} {c : Bool} {a : Option α} {b : α} : bc c a none = some b ↔ c = true ∧ a = some b := by cases c <;> simp

theorem nth_eq {α : Type} (l : List α) (n : Nat) : nth l n = l[n]? := by
  induction l generalizing n with
  | nil => rfl
  | cons x l ih => cases n with
    | zero => rfl
    | succ n => exact (ih n).trans (by simp)

theorem get_nil {α : Type} (m : Nat) : (Tr.nil : Tr α).get m = none := rfl
theorem get_node {α : Type} (l : Tr α) (v : Option α) (r : Tr α) (m : Nat) :
    (Tr.node l v r).get m = if m = 0 then v else if m % 2 = 1 then l.get (m / 2) else r.get (m / 2 - 1) := by
  show bc (Nat.beq m 0) v (bc (Nat.beq (m % 2) 1) (l.get (m / 2)) (r.get (m / 2 - 1))) = _
  rw [bc_eq, bc_eq]; simp only [Nat.beq_eq]
theorem put_succ_nil {α : Type} (x : α) (f n : Nat) : Tr.put x (f + 1) .nil n =
    if n = 0 then .node .nil (some x) .nil else if n % 2 = 1 then .node (Tr.put x f .nil (n / 2)) none .nil else .node .nil none (Tr.put x f .nil (n / 2 - 1)) := by
  show bc (Nat.beq n 0) _ (bc (Nat.beq (n % 2) 1) _ _) = _
  rw [bc_eq, bc_eq]; simp only [Nat.beq_eq]; rfl
theorem put_succ_node {α : Type} (x : α) (f n : Nat) (l : Tr α) (v : Option α) (r : Tr α) : Tr.put x (f + 1) (.node l v r) n =
    if n = 0 then .node l (some x) r else if n % 2 = 1 then .node (Tr.put x f l (n / 2)) v r else .node l v (Tr.put x f r (n / 2 - 1)) := by
  show bc (Nat.beq n 0) _ (bc (Nat.beq (n % 2) 1) _ _) = _
  rw [bc_eq, bc_eq]; simp only [Nat.beq_eq]; rfl

theorem get_put {α : Type} (x : α) (f : Nat) : ∀ (n : Nat) (t : Tr α) (m : Nat), n < f → (Tr.put x f t n).get m = if m = n then some x else t.get m := by
  induction f with
  | zero => intro n t m h; omega
  | succ f ih =>
    intro n t m h
    cases t with
    | nil =>
      rw [put_succ_nil]
      by_cases h0 : n = 0
      · rw [if_pos h0, get_node, get_nil, get_nil, get_nil]; subst h0; split <;> simp
      · rw [if_neg h0]
        by_cases h1 : n % 2 = 1
        · rw [if_pos h1, get_node, ih _ _ _ (by omega), get_nil, get_nil, get_nil]
          by_cases e : m = n
          · subst e; simp [h0, h1]
          · rw [if_neg e]; split
            · rfl
            · split
              · rw [if_neg (by omega)]
              · rfl
        · rw [if_neg h1, get_node, ih _ _ _ (by omega), get_nil, get_nil, get_nil]
          by_cases e : m = n
          · subst e; simp [h0, h1]
          · rw [if_neg e]; split
            · rfl
            · split
              · rfl
              · rw [if_neg (by omega)]
    | node l v r =>
      rw [put_succ_node]
      by_cases h0 : n = 0
      · rw [if_pos h0, get_node, get_node]; subst h0; split <;> simp_all
      · rw [if_neg h0]
        by_cases h1 : n % 2 = 1
        · rw [if_pos h1, get_node, get_node, ih _ _ _ (by omega)]
          by_cases e : m = n
          · subst e; simp [h0, h1]
          · rw [if_neg e]; split
            · rfl
            · split
              · rw [if_neg (by omega)]
              · rfl
        · rw [if_neg h1, get_node, get_node, ih _ _ _ (by omega)]
          by_cases e : m = n
          · subst e; simp [h0, h1]
          · rw [if_neg e]; split
            · rfl
            · split
              · rfl
              · rw [if_neg (by omega)]

theorem get_set {α : Type} (t : Tr α) (n m : Nat) (x : α) : (t.set n x).get m = if m = n then some x else t.get m :=
  get_put x (Nat.succ n) n t m (Nat.lt_succ_self n)

theorem blt_iff (a b : Nat) : Nat.blt a b = true ↔ a < b := by
  simp [Nat.blt, Nat.ble_eq, Nat.succ_le_iff]
theorem hget (h : Hp) (id : Nat) : h.get id = if id < h.n then h.t.get id else none := by
  show bc (Nat.blt id h.n) _ _ = _
  rw [bc_eq]; simp only [blt_iff]
theorem hget_lt {h : Hp} {id : Nat} {o : AO} (e : h.get id = some o) : id < h.n := by
  rw [hget] at e; split at e
  · assumption
  · cases e
theorem hget_new (h : Hp) (o : AO) (id : Nat) : (h.new o).get id = if id = h.n then some o else h.get id := by
  rw [hget, hget]; show (if id < h.n + 1 then (h.t.set h.n o).get id else none) = _
  rw [get_set]
  by_cases e : id = h.n
  · subst e; simp
  · rw [if_neg e, if_neg e]; by_cases l : id < h.n
    · rw [if_pos l, if_pos (by omega)]
    · rw [if_neg l, if_neg (by omega)]
theorem hget_set (h : Hp) (i : Nat) (o : AO) (id : Nat) (hi : i < h.n) : (h.set i o).get id = if id = i then some o else h.get id := by
  rw [hget, hget]; show (if id < h.n then (h.t.set i o).get id else none) = _
  rw [get_set]
  by_cases e : id = i
  · subst e; rw [if_pos hi, if_pos rfl, if_pos rfl]
  · rw [if_neg e, if_neg e]
theorem fget (f : Fr) (i : Nat) : f.get i = if i < f.n then some ((f.t.get i).getD und) else none := by
  show bc (Nat.blt i f.n) _ _ = _
  rw [bc_eq]; simp only [blt_iff]
theorem fget_set (f : Fr) (i j : Nat) (v : TV) : (f.set i v).get j = if j < f.n then (if j = i then some v else f.get j) else none := by
  rw [fget, fget]; show (if j < f.n then some (((f.t.set i v).get j).getD und) else none) = _
  rw [get_set]
  by_cases l : j < f.n
  · simp only [if_pos l]; split <;> rfl
  · simp only [if_neg l]
end Go.VI
