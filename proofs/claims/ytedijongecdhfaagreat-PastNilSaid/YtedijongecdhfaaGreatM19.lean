/-
  An abstract interpreter of loaded code, proved to tell the truth; a part of the proof that redpencillaw48.PastNil returns true, whatever the input.
-/
import Derived.Test.YtedijongecdhfaaGreatM18
namespace Go.VI
open Go Go.RowKit

section
variable {P : Program} {T : Tab} {w0 : World} {h : Hp} {ι : Nat → Nat} {w : World} {t : TypeId} {r : Env} {ρ : Operand → Value}

theorem g_built (hT : TabOk P T) (g : Ga P w0 h ι w) {b : Builtin} {tys : Array TypeId} {ty : TypeId} {cs : Array Bool} {args : List TV} {us : Array Value} (hu : All2 (TR P h ι w) args us.toList) {q : TV × Option Hp}
    (e : builtO T b tys.toList args h = some q) : Good P w0 h ι w (builtin b tys ty cs us) q.1 q.2 := by
  have hus : us = us.toList.toArray := by simp
  have hts : tys = tys.toList.toArray := by simp
  unfold builtO at e
  rw [hus]
  rw [hts]
  generalize us.toList = ul at hu
  generalize tys.toList = tl at e ⊢
  split at e
  · cases hu with
    | cons a b =>
      cases b
      obtain ⟨s, h1, e⟩ := ob_some_iff.1 e
      exact g_len hT g (a.one? h1) e
  · cases hu with
    | cons a b =>
      cases b with
      | cons a' b' =>
        cases b'
        exact g_append hT g a a' e
  · cases hu with
    | cons a b =>
      cases b
      obtain ⟨s, h1, e⟩ := ob_some_iff.1 e
      exact g_cap hT g (a.one? h1) e
  · cases hu with
    | cons a b =>
      cases b
      obtain ⟨s, h1, e⟩ := ob_some_iff.1 e
      exact g_clear hT g (a.one? h1) e
  · cases hu with
    | cons a b =>
      cases b with
      | cons a' b' =>
        cases b'
        obtain ⟨s, h1, e⟩ := ob_some_iff.1 e
        obtain ⟨s', h2, e⟩ := ob_some_iff.1 e
        obtain ⟨e, hq⟩ := keep_some e
        obtain ⟨z, h3, h4⟩ := om_some_iff.1 e
        rw [hq, ← h4]
        exact g_min g (a.one? h1) (a'.one? h2) h3
  · cases hu with
    | cons a b =>
      cases b with
      | cons a' b' =>
        cases b'
        obtain ⟨s, h1, e⟩ := ob_some_iff.1 e
        obtain ⟨s', h2, e⟩ := ob_some_iff.1 e
        obtain ⟨e, hq⟩ := keep_some e
        obtain ⟨z, h3, h4⟩ := om_some_iff.1 e
        rw [hq, ← h4]
        exact g_max g (a.one? h1) (a'.one? h2) h3
  · cases e

theorem env_of {f : Fr} {a : Act} (hf : FrR P h ι w f a.tmps) : EnvR P h ι w (evalO f) a.eval := fun _ _ e => evalO_TR hf e

/-- Every operation but a call of a function. -/
theorem exec_good (hT : TabOk P T) (hF : FlatOk P T) (hK : KeyOk P T) (g : Ga P w0 h ι w) {run : Job → Res} {ts : Fr} {a : Act} (hf : FrR P h ι w ts a.tmps) {o : Oper} {q : TV × Option Hp}
    (e : execO { T := T, run := run, ts := ts, h := h } o.op = some q) (hc : ∀ c f, o.op = .call c → c.callee ≠ .value f) : Good P w0 h ι w (execOp a.eval o) q.1 q.2 := by
  have hρ := env_of hf
  cases ho : o.op <;> rw [ho] at e <;> simp only [execO] at e <;> try (cases e; done)
  case nilCheck x => exact g_nilCheck g hρ ho e
  case call c =>
    have e' : (evalA (evalO ts) c.args.toList).ob (fun args => callC T run (evalO ts) h c.argTypes args c.callee) = some q := e
    obtain ⟨args, h1, h2⟩ := ob_some_iff.1 e'
    have hall := evalA_some hρ h1
    cases hcal : c.callee with
    | value f => exact absurd hcal (hc c f ho)
    | invoke _ _ => rw [hcal] at h2; cases h2
    | builtin b =>
      rw [hcal] at h2
      have h3 := g_built (ty := o.type) (cs := c.args.map fun | .const _ => true | _ => false) (us := c.args.map a.eval) hT g (by simpa using hall) h2
      unfold execOp
      simp only [ho, resolve, hcal]
      exact h3
  all_goals (unfold execOp; simp only [ho])
  case move x => exact g_move g hρ e
  case assign x => exact g_move g hρ e
  case pick c x y => exact g_pick g hρ e
  case alloc t => exact g_alloc hT g e
  case box t x => exact g_box g hρ e
  case build t ps => exact g_build hT g hρ e
  case buildSlice t l ps => exact g_buildSlice hT g hρ e
  case insert t m k x => exact g_update hT hF hK g hρ e
  case load t x => exact g_load hT g hρ e
  case store t x y => exact g_store hT g hρ e
  case binOp op t x y _ => exact g_binOp hT hF g hρ e
  case unOp op t x => exact g_unOp g hρ e
  case convert s d x => exact g_convert hT g hρ e
  case makeFunc f x y => exact g_makeFunc g hρ e
  case makeMap t x => exact g_makeMap hT g hρ e
  case slice t x lo hi mx => exact g_slice hT g hρ e
  case fieldAddr t x f => exact g_fieldAddr hT g hρ e
  case indexAddr t x i => exact g_indexAddr hT g hρ e
  case index t x i => exact g_index hT g hρ e
  case lookup t m k ok => exact g_lookup hT hF hK g hρ e
  case mapUpdate t m k x => exact g_update hT hF hK g hρ e
  case range t x => exact g_range hT g hρ e
  case next x s => exact g_next g hρ e
  case entry x => exact g_entry g hρ e
  case extract x i => exact g_extract g hρ e
end
end Go.VI
