/-
  An abstract interpreter of loaded code, proved to tell the truth; a part of the proof that redpencillaw48.PastNil returns true, whatever the input.
-/
import Derived.Test.YtedijongecdhfaaGreatM27
import Derived.KernelRfl
namespace Go.VI
open Go Go.RowKit

/-! The tables, checked -/
def allB {α : Type} (f : Nat → α → Bool) : Nat → Nat → Tr α → Bool
  | _, _, .nil => true
  | a, b, .node l v r => (match v with | some x => f b x | none => true) && (allB f (2 * a) (a + b) l && allB f (2 * a) (2 * a + b) r)

theorem get_zero {α : Type} (l : Tr α) (v : Option α) (r : Tr α) : (Tr.node l v r).get 0 = v := rfl

theorem allB_get {α : Type} {f : Nat → α → Bool} : ∀ {t : Tr α} {a b : Nat}, allB f a b t = true → ∀ (k : Nat) (x : α), t.get k = some x → f (a * k + b) x = true
  | .nil, _, _, _, k, x, h => by rw [get_nil] at h; cases h
  | .node l v r, a, b, e, k, x, h => by
    simp only [allB, Bool.and_eq_true] at e
    obtain ⟨e1, e2, e3⟩ := e
    rw [get_node] at h
    split at h
    · rename_i hk
      subst hk
      rw [h] at e1
      simpa using e1
    · split at h
      · rename_i h0 h1
        have := allB_get e2 (k / 2) x h
        have hk : k = 2 * (k / 2) + 1 := by omega
        have h2 : 2 * a * (k / 2) + (a + b) = a * k + b := by
          conv => rhs; rw [hk]
          rw [Nat.mul_add, Nat.mul_one, ← Nat.mul_assoc, Nat.mul_comm a 2]
          omega
        rw [← h2]; exact this
      · rename_i h0 h1
        have := allB_get e3 (k / 2 - 1) x h
        have hk : k = 2 * (k / 2 - 1) + 2 := by omega
        have h2 : 2 * a * (k / 2 - 1) + (2 * a + b) = a * k + b := by
          conv => rhs; rw [hk]
          rw [Nat.mul_add, ← Nat.mul_assoc, Nat.mul_comm a 2]
          omega
        rw [← h2]; exact this

def sameC : Value → SV → Bool
  | .int k n, .int k' n' => decide (k = k') && decide (n = n')
  | .bool b, .bool b' => b == b'
  | .string s, .str s' => decide (s.data.toList = s'.data.toList)
  | .pointer none, .lit (.pointer none) => true
  | .slice none 0 0, .lit (.slice none 0 0) => true
  | .map none, .lit (.map none) => true
  | .nilFunc, .lit .nilFunc => true
  | _, _ => false
def sameZ : List Value → List SV → Bool
  | [], [] => true
  | v :: vs, x :: xs => sameC v x && sameZ vs xs
  | _, _ => false

theorem sameC_ok {v : Value} {x : SV} (e : sameC v x = true) : liftS v = x ∧ v.oneCell' = true := by
  unfold sameC at e
  split at e
  · simp at e; rw [e.1, e.2]; exact ⟨rfl, rfl⟩
  · simp at e; rw [e]; exact ⟨rfl, rfl⟩
  · rename_i s s'
    simp only [decide_eq_true_eq] at e
    have : s = s' := by
      obtain ⟨⟨l⟩⟩ := s
      obtain ⟨⟨l'⟩⟩ := s'
      simp at e
      rw [e]
    rw [this]; exact ⟨rfl, rfl⟩
  · exact ⟨rfl, rfl⟩
  · exact ⟨rfl, rfl⟩
  · exact ⟨rfl, rfl⟩
  · exact ⟨rfl, rfl⟩
  · cases e
theorem sameZ_ok : ∀ {vs : List Value} {xs : List SV}, sameZ vs xs = true → vs.map liftS = xs ∧ ∀ v ∈ vs, v.oneCell' = true
  | [], [], _ => ⟨rfl, fun v hv => by cases hv⟩
  | [], _ :: _, e => by cases e
  | _ :: _, [], e => by cases e
  | v :: vs, x :: xs, e => by
    simp only [sameZ, Bool.and_eq_true] at e
    obtain ⟨h1, h2⟩ := sameC_ok e.1
    obtain ⟨h3, h4⟩ := sameZ_ok e.2
    refine ⟨by rw [List.map_cons, h1, h3], fun u hu => ?_⟩
    rcases List.mem_cons.1 hu with rfl | hu
    · exact h2
    · exact h4 u hu

def kindO (P : Program) (t : TypeId) : K → Bool
  | .int k => (match P.underlying t with | some (.int k') => decide (k' = k) | _ => false)
  | .bool => (match P.underlying t with | some .bool => true | _ => false)
  | .str => (match P.underlying t with | some .string => true | _ => false)
  | .slice e => (match P.underlying t with | some (.slice e') => decide (e' = e) | _ => false)
  | .map k e => (match P.underlying t with | some (.map k' e') => decide (k' = k) && decide (e' = e) | _ => false)
  | .struct fs => (match P.underlying t with | some (.struct arr) => decide (arr.toList.map (fun f => (f.offset, f.type)) = fs) && arr.toList.all (fun f => (P.info? f.type).isSome) | _ => false)
  | .ptr => (match P.underlying t with | some (.pointer _) => true | _ => false)
  | .func => (match P.underlying t with | some (.func _ _ _) => true | _ => false)
  | .other => false

theorem kindO_ok {P : Program} {t : TypeId} {k : K} (e : kindO P t k = true) : KOk P t k := by
  cases k <;> simp only [kindO] at e <;> try (cases e; done)
  case int k => split at e <;> first | (rename_i h; simp at e; subst e; exact h) | cases e
  case bool => split at e <;> first | (rename_i h; exact h) | cases e
  case str => split at e <;> first | (rename_i h; exact h) | cases e
  case slice el => split at e <;> first | (rename_i h; simp at e; subst e; exact h) | cases e
  case map k el => split at e <;> first | (rename_i h; simp at e; obtain ⟨rfl, rfl⟩ := e; exact h) | cases e
  case struct fs =>
    split at e
    · rename_i arr h
      rw [Bool.and_eq_true, decide_eq_true_eq, List.all_eq_true] at e
      exact ⟨arr, h, e.1, e.2⟩
    · cases e
  case ptr => split at e <;> first | (rename_i h; exact ⟨_, h⟩) | cases e
  case func => split at e <;> first | (rename_i h; exact ⟨_, _, _, h⟩) | cases e

def isAggV : Value → Bool | .agg _ => true | _ => false
def tiB (P : Program) (t : TypeId) (ti : TI) : Bool :=
  match P.info? t with
  | none => false
  | some i => match i.zero with
    | none => false
    | some z => (decide (i.size = ti.size) && decide (i.bytes = ti.bytes)) && (sameZ z.cells.toList ti.zero && (decide (ti.zero.length = ti.size) && ((match ti.k with | .struct _ => isAggV z | _ => z.oneCell') && kindO P t ti.k)))

theorem tiB_ok {P : Program} {t : TypeId} {ti : TI} (e : tiB P t ti = true) : TiOk P t ti := by
  unfold tiB at e
  split at e
  · cases e
  · rename_i i hi
    split at e
    · cases e
    · rename_i z hz
      simp only [Bool.and_eq_true, decide_eq_true_eq] at e
      obtain ⟨⟨h1, h2⟩, h3, h4, h5, h6⟩ := e
      obtain ⟨h7, h8⟩ := sameZ_ok h3
      refine ⟨⟨i, z, hi, h1, h2, hz, h7, h8, fun ha => ?_, fun ha => ?_, h4⟩, kindO_ok h6⟩
      · cases hk : ti.k <;> rw [hk] at ha h5 <;> simp only [K.isAgg] at ha <;> try (cases ha; done)
        simp only at h5
        unfold isAggV at h5
        split at h5
        · exact ⟨_, rfl⟩
        · cases h5
      · cases hk : ti.k <;> rw [hk] at ha h5 <;> simp only [K.isAgg] at ha <;> first | (cases ha; done) | exact h5

theorem tab_ok {P : Program} {t : Tr TI} (e : allB (tiB P) 1 0 t = true) : TabOk P t.get := fun k ti h => tiB_ok (by
  have := allB_get e k ti h
  rwa [Nat.one_mul, Nat.add_zero] at this)

/-- What holds of all that a tree holds. -/
inductive AllT {α : Type} (Q : Nat → α → Prop) : Nat → Nat → Tr α → Prop
  | nil (a b : Nat) : AllT Q a b .nil
  | some (a b : Nat) (l r : Tr α) (x : α) (h : Q b x) (hl : AllT Q (2 * a) (a + b) l) (hr : AllT Q (2 * a) (2 * a + b) r) : AllT Q a b (.node l (some x) r)
  | none (a b : Nat) (l r : Tr α) (hl : AllT Q (2 * a) (a + b) l) (hr : AllT Q (2 * a) (2 * a + b) r) : AllT Q a b (.node l none r)

theorem AllT.get {α : Type} {Q : Nat → α → Prop} : ∀ {t : Tr α} {a b : Nat}, AllT Q a b t → ∀ (k : Nat) (x : α), t.get k = Option.some x → Q (a * k + b) x := by
  intro t a b h
  induction h with
  | nil a b => intro k x h; rw [get_nil] at h; cases h
  | some a b l r y hy hl hr ihl ihr =>
    intro k x h
    rw [get_node] at h
    split at h
    · rename_i hk; subst hk; cases h; simpa using hy
    · split at h
      · have := ihl (k / 2) x h
        have hk : k = 2 * (k / 2) + 1 := by omega
        have h2 : 2 * a * (k / 2) + (a + b) = a * k + b := by
          conv => rhs; rw [hk]
          rw [Nat.mul_add, Nat.mul_one, ← Nat.mul_assoc, Nat.mul_comm a 2]
          omega
        rw [← h2]; exact this
      · have := ihr (k / 2 - 1) x h
        have hk : k = 2 * (k / 2 - 1) + 2 := by omega
        have h2 : 2 * a * (k / 2 - 1) + (2 * a + b) = a * k + b := by
          conv => rhs; rw [hk]
          rw [Nat.mul_add, ← Nat.mul_assoc, Nat.mul_comm a 2]
          omega
        rw [← h2]; exact this
  | none a b l r hl hr ihl ihr =>
    intro k x h
    rw [get_node] at h
    split at h
    · cases h
    · split at h
      · have := ihl (k / 2) x h
        have hk : k = 2 * (k / 2) + 1 := by omega
        have h2 : 2 * a * (k / 2) + (a + b) = a * k + b := by
          conv => rhs; rw [hk]
          rw [Nat.mul_add, Nat.mul_one, ← Nat.mul_assoc, Nat.mul_comm a 2]
          omega
        rw [← h2]; exact this
      · have := ihr (k / 2 - 1) x h
        have hk : k = 2 * (k / 2 - 1) + 2 := by omega
        have h2 : 2 * a * (k / 2 - 1) + (2 * a + b) = a * k + b := by
          conv => rhs; rw [hk]
          rw [Nat.mul_add, ← Nat.mul_assoc, Nat.mul_comm a 2]
          omega
        rw [← h2]; exact this
end Go.VI
