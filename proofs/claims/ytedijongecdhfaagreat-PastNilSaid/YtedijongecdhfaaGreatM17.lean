/-
  An abstract interpreter of loaded code, proved to tell the truth; a part of the proof that redpencillaw48.PastNil returns true, whatever the input.
-/
import Derived.Test.YtedijongecdhfaaGreatM16
namespace Go.VI
open Go Go.RowKit

/-- What is appended, as the model takes it. -/
inductive XOk (P : Program) (w : World) (t' e : TypeId) (sz bytes n : Nat) (news : List Value) (z : Value) : Value → Prop
  | sl (e' : TypeId) (ax : Option Addr) (c : Nat) (ht : P.underlying t' = some (.slice e')) (hf : ∀ k, (Builtin.firstCells sz n (.slice ax n c)).run P { w with drawn := k } = .ok news.toArray { w with drawn := k }) : XOk P w t' e sz bytes n news z (.slice ax n c)
  | make (ik k : IntKind) (ht : P.underlying t' = some (.int ik)) (hn : n < 9223372036854775808) (hb : n * bytes ≤ 70368744177664) (hz : news = (Builtin.zeroCells z.cells n).toList) : XOk P w t' e sz bytes n news z (.int k n)

section
variable {P : Program} {T : Tab} {w0 : World} {h : Hp} {ι : Nat → Nat} {w : World} {t : TypeId} {r : Env} {ρ : Operand → Value}

theorem wrap_nat {n : Nat} (hn : n < 9223372036854775808) : IntKind.i64.wrap (n : Int) = n := by
  rw [← wrS_eq]
  show bc (Nat.blt n 9223372036854775808) (Int.ofNat n) _ = _
  rw [(blt_iff _ _).2 hn]
  rfl

theorem app_room {t' ty e : TypeId} {ie : TypeInfo} {z : Value} {n sLen sCap : Nat} {base : Option Addr} {news : List Value} {x : Value} (ht : P.underlying t = some (.slice e)) (hi : P.info? e = some ie) (hz : ie.zero = some z) (hsz : 0 < ie.size)
    (hx : XOk P w t' e ie.size ie.bytes n news z x) (hroom : sLen + n ≤ sCap) {w' : World} (hst : (match base with | some a => storeCells (a.add (sLen * ie.size)) news | none => Pure.pure ()).run P w = .ok () w') :
    (Builtin.append_ #[t, t'] ty #[.slice base sLen sCap, x]).run P w = .ok (.slice base (sLen + n) sCap) w' := by
  cases hx with
  | sl e' ax c ht' hf =>
    have hf := hf w.drawn
    have hf : (Builtin.firstCells ie.size n (.slice ax n c)).run P w = .ok news.toArray w := hf
    cases base with
    | none =>
      cases hst
      simp [Builtin.append_, Go.run_underlying ht, Go.run_underlying ht', sizeOf, typeInfo, program, Sem.run, hi, Builtin.lenOf, hroom, hf]
    | some a =>
      simp only at hst
      simp [Builtin.append_, Go.run_underlying ht, Go.run_underlying ht', sizeOf, typeInfo, program, Sem.run, hi, Builtin.lenOf, hroom, hf, hst]
  | make ik k ht' hn hb hz' =>
    have hneg : ¬ ((n : Int) < 0) := by omega
    have hbig : ¬ ((281474976710656 : Int) < (n : Int) * (ie.bytes : Int)) := by
      have : (n : Int) * (ie.bytes : Int) = ((n * ie.bytes : Nat) : Int) := by simp
      rw [this]; omega
    by_cases h0 : n * ie.size = 0
    · have hn0 : n = 0 := by
        rcases Nat.mul_eq_zero.1 h0 with h1 | h1
        · exact h1
        · omega
      subst hn0
      have hnews : news = [] := by rw [hz']; simp [Builtin.zeroCells]
      subst hnews
      have w0 : IntKind.i64.wrap (0 : Int) = 0 := wrap_nat (n := 0) (by omega)
      cases base with
      | none =>
        cases hst
        simp [Builtin.append_, Go.run_underlying ht, Go.run_underlying ht', sizeOf, typeInfo, program, Sem.run, hi, asInt, asIntOf, w0]
        intro h; omega
      | some a =>
        simp only at hst
        simp [Builtin.append_, Go.run_underlying ht, Go.run_underlying ht', sizeOf, typeInfo, program, Sem.run, hi, asInt, asIntOf, w0, hst]
        intro h; omega
    · cases base with
      | none =>
        cases hst
        simp [Builtin.append_, Go.run_underlying ht, Go.run_underlying ht', sizeOf, typeInfo, zeroValue, program, Sem.run, hi, hz, asInt, asIntOf, wrap_nat hn, hneg, hbig, hroom]
      | some a =>
        simp only at hst
        rw [hz'] at hst
        simp [Builtin.append_, Go.run_underlying ht, Go.run_underlying ht', sizeOf, typeInfo, zeroValue, program, Sem.run, hi, hz, asInt, asIntOf, wrap_nat hn, hneg, hbig, hroom, h0, hst]

theorem app_grow {t' ty e : TypeId} {ie : TypeInfo} {z : Value} {n sLen sCap : Nat} {base : Option Addr} {olds news : List Value} {x : Value} (ht : P.underlying t = some (.slice e)) (hi : P.info? e = some ie) (hz : ie.zero = some z) (hsz : 0 < ie.size)
    (hx : XOk P w t' e ie.size ie.bytes n news z x) (hfo : (Builtin.firstCells ie.size sLen (.slice base sLen sCap)).run P w.drew = .ok olds.toArray w.drew)
    (hg : sCap < sLen + n) (h63 : sLen + n < 9223372036854775808) (hfit : Builtin.nextslicecap (sLen + n) sCap * ie.bytes ≤ 281474976710656) :
    (Builtin.append_ #[t, t'] ty #[.slice base sLen sCap, x]).run P w =
      .ok (.slice (some ⟨w.heap.size, 0, none⟩) (sLen + n) (grownCap w (sLen + n) sCap e))
        (w.drew.alloc (.cells (olds.toArray ++ news.toArray ++ Builtin.zeroCells z.cells (grownCap w (sLen + n) sCap e - (sLen + n))) e)) := by
  have hroom : ¬ (sLen + n ≤ sCap) := by omega
  have h63' : ¬ (9223372036854775807 < ((sLen : Int) + (n : Int))) := by omega
  have h48' : ¬ (281474976710656 < Builtin.nextslicecap (sLen + n) sCap * ie.bytes) := by omega
  cases hx with
  | sl e' ax c ht' hf =>
    have hf : (Builtin.firstCells ie.size n (.slice ax n c)).run P w.drew = .ok news.toArray w.drew := hf (w.drawn + 1)
    simp [Builtin.append_, Go.run_underlying ht, Go.run_underlying ht', sizeOf, typeInfo, zeroValue, hi, hz, Builtin.lenOf, hroom, h63', h48', Question.forced, hf, hfo, newRow, grownCap]
    congr 2
    apply Array.ext'
    simp [List.append_assoc]
  | make ik k ht' hn hb hz' =>
    have hneg : ¬ ((n : Int) < 0) := by omega
    have hbig : ¬ ((281474976710656 : Int) < (n : Int) * (ie.bytes : Int)) := by
      have : (n : Int) * (ie.bytes : Int) = ((n * ie.bytes : Nat) : Int) := by simp
      rw [this]; omega
    by_cases h0 : n * ie.size = 0
    · have hn0 : n = 0 := by
        rcases Nat.mul_eq_zero.1 h0 with h1 | h1
        · exact h1
        · omega
      subst hn0
      have hnews : news = [] := by rw [hz']; simp [Builtin.zeroCells]
      subst hnews
      have w0 : IntKind.i64.wrap (0 : Int) = 0 := wrap_nat (n := 0) (by omega)
      simp only [Nat.add_zero] at hroom h48' ⊢
      have h63' : ¬ ((9223372036854775807 : Int) < (sLen : Int)) := by omega
      simp [Builtin.append_, Go.run_underlying ht, Go.run_underlying ht', sizeOf, typeInfo, zeroValue, hi, hz, asInt, asIntOf, w0, hroom, h63', h48', Question.forced, hfo, newRow, grownCap]
    · subst hz'
      simp [Builtin.append_, Go.run_underlying ht, Go.run_underlying ht', sizeOf, typeInfo, zeroValue, hi, hz, asInt, asIntOf, wrap_nat hn, hneg, hbig, hroom, h63', h48', h0, Question.forced, hfo, newRow, grownCap]
end
end Go.VI
