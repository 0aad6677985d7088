/-
  An abstract interpreter of loaded code, proved to tell the truth; a part of the proof that redpencillaw48.PastNil returns true, whatever the input.
-/
import Derived.Test.YtedijongecdhfaaGreatM5
import Derived.Laws.DeepBits32
namespace Go.VI
open Go Go.RowKit

theorem ikEq_iff {a b : IntKind} : ikEq a b = true ↔ a = b := by cases a <;> cases b <;> simp [ikEq, ikN]
theorem eqI_iff (x y : Int) : eqI x y = (x == y) := by
  cases x <;> cases y <;> simp only [eqI] <;> rw [Bool.eq_iff_iff] <;> simp <;> omega
theorem ltI_iff (x y : Int) : ltI x y = decide (x < y) := by
  cases x <;> cases y <;> simp only [ltI] <;> rw [Bool.eq_iff_iff] <;> simp <;> omega
theorem wrap_i32_neg (n : Int) (h0 : -2147483648 ≤ n) (h1 : n < 0) : IntKind.i32.wrap n = n := by
  simp [IntKind.wrap, IntKind.bits, IntKind.signed]
  split <;> omega
theorem wrS_eq (k : IntKind) (n : Int) : wrS k n = k.wrap n := by
  cases n with
  | ofNat a =>
    show bc (Nat.blt a (kHi k)) (a : Int) (k.wrap (a : Int)) = k.wrap (a : Int)
    rw [bc_eq]; split
    · rename_i h; rw [blt_iff] at h
      cases k
      case i64 => have h' : a < 9223372036854775808 := h; rw [IntKind.wrap_i64]; omega
      case i32 => have h' : a < 2147483648 := h; exact (wrap_i32_small _ (by omega) (by omega)).symm
      case u8 => have h' : a < 256 := h; rw [IntKind.wrap_u8]; omega
      case u64 => have h' : a < 18446744073709551616 := h; rw [IntKind.wrap_u64]; omega
      all_goals (have h' : a < 0 := h; omega)
    · rfl
  | negSucc a =>
    show bc (Nat.blt a (kLo k)) (Int.negSucc a) (k.wrap (.negSucc a)) = _
    rw [bc_eq]; split
    · rename_i h; rw [blt_iff] at h
      cases k
      case i64 => have h' : a < 9223372036854775808 := h; rw [IntKind.wrap_i64]; omega
      case i32 =>
        have h' : a < 2147483648 := h
        exact (wrap_i32_neg _ (by omega) (by omega)).symm
      all_goals (have h' : a < 0 := h; omega)
    · rfl

section
variable {P : Program} {h : Hp} {ι : Nat → Nat} {w : World}

theorem VR.int_inv {k : IntKind} {n : Int} {v : Value} (hv : VR P h ι w (.int k n) v) : v = .int k n := by cases hv with | b hb => cases hb; rfl
theorem VR.bool_inv {b : Bool} {v : Value} (hv : VR P h ι w (.bool b) v) : v = .bool b := by cases hv with | b hb => cases hb; rfl
theorem VR.str_inv {b : ByteArray} {v : Value} (hv : VR P h ι w (.str b) v) : v = .string b := by cases hv with | b hb => cases hb; rfl
theorem VR.lit_inv {x v : Value} (hv : VR P h ι w (.lit x) v) : v = x ∧ x.oneCell' = true := by cases hv with | b hb => cases hb with | lit _ h1 => exact ⟨rfl, h1⟩
theorem VR.slz_inv {v : Value} (hv : VR P h ι w .slz v) : ∃ a, v = .slice a 0 0 := by cases hv with | b hb => cases hb with | slz a => exact ⟨a, rfl⟩
theorem VR.mp_inv {id : Nat} {v : Value} (hv : VR P h ι w (.mp id) v) : v = .map (some (ι id)) ∧ id < h.n ∧ isArr h id = false := by cases hv with | b hb => cases hb with | mp _ h1 h2 => exact ⟨rfl, h1, h2⟩
theorem VR.fn_inv {f : Fn} {cs : List SV} {v : Value} (hv : VR P h ι w (.fn f cs) v) : ∃ f' vs, v = .func f' #[] (List.toArray vs) ∧ FnR h ι f f' ∧ All2 (VB P h ι w) cs vs := by
  cases hv with
  | b hb => cases hb
  | fn hf hc => exact ⟨_, _, rfl, hf, hc⟩

theorem VR.i (k : IntKind) (n : Int) : VR P h ι w (.int k n) (.int k n) := .b (.int k n)
theorem VR.bb (b : Bool) : VR P h ι w (.bool b) (.bool b) := .b (.bool b)
theorem VR.s (b : ByteArray) : VR P h ι w (.str b) (.string b) := .b (.str b)

theorem ii_VR {k : IntKind} {n : Int} {z : SV} (e : ii k n = some z) : VR P h ι w z (.int k (k.wrap n)) := by
  cases e; rw [wrS_eq]; exact .i _ _

theorem p_int {op : BinOp} {k : IntKind} {a b : Int} {z : SV} (hop : isShift op = false) (e : intOp op k a b = some z) (t : TypeId) : ∃ u, (binOp op t (.int k a) (.int k b)).run P w = .ok u w ∧ VR P h ι w z u := by
  cases op <;> simp only [isShift] at hop <;> simp only [intOp] at e
  case add => exact ⟨_, by simp [binOp, Op.intArith], ii_VR e⟩
  case sub => exact ⟨_, by simp [binOp, Op.intArith], ii_VR e⟩
  case mul => exact ⟨_, by simp [binOp, Op.intArith], ii_VR e⟩
  case quo =>
    unfold i_quo at e; rw [bc_eq] at e; split at e
    · cases e
    · rename_i h0; rw [eqI_iff] at h0
      exact ⟨_, by simp only [binOp, Op.intDiv]; rw [if_neg (by simp), if_neg (by simpa using h0)]; rfl, ii_VR e⟩
  case rem =>
    unfold i_rem at e; rw [bc_eq] at e; split at e
    · cases e
    · rename_i h0; rw [eqI_iff] at h0
      cases e
      exact ⟨_, by simp only [binOp, Op.intDiv]; rw [if_neg (by simp), if_neg (by simpa using h0)]; rfl, .i _ _⟩
  case and => exact ⟨_, by simp [binOp, Op.intBits], ii_VR e⟩
  case or => exact ⟨_, by simp [binOp, Op.intBits], ii_VR e⟩
  case xor => exact ⟨_, by simp [binOp, Op.intBits], ii_VR e⟩
  case andNot => exact ⟨_, by simp [binOp, Op.intBits], ii_VR e⟩
  case shl => cases hop
  case shr => cases hop
  all_goals (unfold bb at e; cases e; simp only [eqI_iff, ltI_iff]; refine ⟨_, by simp [binOp, Op.intCmp]; rfl, ?_⟩)
  · exact .bb _
  · exact .bb _
  · exact .bb _
  · rw [show (!decide (b < a)) = decide (a ≤ b) by rw [Bool.eq_iff_iff]; simp]; exact .bb _
  · exact .bb _
  · rw [show (!decide (a < b)) = decide (b ≤ a) by rw [Bool.eq_iff_iff]; simp]; exact .bb _

theorem p_shift {op : BinOp} {k k' : IntKind} {a b : Int} {z : SV} (hop : isShift op = true) (e : intOp op k a b = some z) (t : TypeId) : ∃ u, (binOp op t (.int k a) (.int k' b)).run P w = .ok u w ∧ VR P h ι w z u := by
  cases op <;> simp only [isShift] at hop <;> simp only [intOp] at e <;> try (cases hop; done)
  case shl =>
    unfold i_shl at e; rw [bc_eq] at e; split at e
    · cases e
    · rename_i h0; rw [ltI_iff] at h0
      exact ⟨_, by simp only [binOp, Op.shift]; rw [if_neg (by simpa using h0)]; rfl, ii_VR e⟩
  case shr =>
    unfold i_shr at e; rw [bc_eq] at e; split at e
    · cases e
    · rename_i h0; rw [ltI_iff] at h0
      cases e
      exact ⟨_, by simp only [binOp, Op.shift]; rw [if_neg (by simpa using h0)]; rfl, .i _ _⟩
end
end Go.VI
