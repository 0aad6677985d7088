/-
  An abstract interpreter of loaded code, proved to tell the truth; a part of the proof that redpencillaw48.PastNil returns true, whatever the input.
-/
import Derived.Test.YtedijongecdhfaaGreatM19
import Derived.OrdersIn
namespace Go.VI
open Go Go.RowKit

/-- The fence that lets all in, of a round's frame or of a function's. -/
def FW (ro : Option Nat) : Fence := { Fence.wide with round := ro }

def FunsOk (P : Program) (B : Funs) : Prop := ∀ f fn, B f = some fn → P.funcs[f]? = some fn ∧ fn.name ≠ "runtime.NumGoroutine"

def Ex.to : Ex → Exit | .normal => .normal | .ret => .ret | .exit id => .exit id

/-- An activation beside its abstract one. -/
structure AR (P : Program) (h : Hp) (ι : Nat → Nat) (w : World) (ts : Fr) (a : Act) : Prop where
  f : FrR P h ι w ts a.tmps
  d : a.defers = ts.ms.map fun d => { target := .collected (ι d), args := #[] }
  m : ∀ d ∈ ts.ms, d < h.n ∧ isArr h d = false

def QC (P : Program) (w0 : World) (h : Hp) (ι : Nat → Nat) (w : World) (e : Ex) (ts' : Fr) (h' : Hp) : Exit → Act → World → Prop :=
  fun x a' w' => x = e.to ∧ ∃ ι', Ga P w0 h' ι' w' ∧ Evo h ι w h' ι' w' ∧ AR P h' ι' w' ts' a'

def RC (P : Program) (w0 : World) (h : Hp) (ι : Nat → Nat) (w : World) (v : TV) (oh : Option Hp) : Ending → World → Prop :=
  fun x w' => ∃ u ι', x = .returned u ∧ Ga P w0 (orH h oh) ι' w' ∧ Evo h ι w (orH h oh) ι' w' ∧ TR P (orH h oh) ι' w' v u

structure SoundR (P : Program) (run : Job → Res) : Prop where
  code : ∀ c ts h e ts' h', run (.code c ts h) = some (.code e ts' h') → ts'.rd = ts.rd ∧ ∀ (ro : Option Nat) m w0 ι w a, ts.rd = ro.isSome → Ga P w0 h ι w → AR P h ι w ts a → c.wpIn (FW ro) m P (QC P w0 h ι w e ts' h') a w
  call : ∀ f args h v oh, run (.call f args h) = some (.val v oh) → (∃ fn c, P.funcs[f]? = some fn ∧ fn.name ≠ "runtime.NumGoroutine" ∧ fn.body = some c) ∧
    ∀ (ro : Option Nat) m w0 ι w (us : List Value), Ga P w0 h ι w → All2 (TR P h ι w) args us → CallsIn (FW ro) m P f us.toArray w (RC P w0 h ι w v oh)
  round : ∀ l args h v oh, run (.round l args h) = some (.val v oh) → ∀ (ro : Option Nat) m w0 ι w (us : List Value), Ga P w0 h ι w → l < h.n → All2 (TR P h ι w) args us →
    ∃ fn tmps asg body, (Instr.yield (ι l) us.toArray).run P w = .ok (.round (ι l) fn tmps asg body) w ∧ RoundIn (FW ro) m P (ι l) fn tmps asg body w (RC P w0 h ι w v oh)

section
variable {P : Program} {T : Tab} {w0 : World} {h h' : Hp} {ι ι' : Nat → Nat} {w w' : World} {ts : Fr} {a : Act}

theorem AR.evo (ar : AR P h ι w ts a) (e : Evo h ι w h' ι' w') : AR P h' ι' w' ts a where
  f := ar.f.evo e
  d := by
    rw [ar.d]
    apply List.map_congr_left
    intro d hd
    obtain ⟨h1, h2⟩ := ar.m d hd
    rw [e.nonArr h1 h2]
  m := fun d hd => by
    obtain ⟨h1, h2⟩ := ar.m d hd
    exact ⟨Nat.lt_of_lt_of_le h1 e.n, (e.kind d h1).trans h2⟩

theorem AR.put (ar : AR P h ι w ts a) (d : Option Tmp) {v : TV} {u : Value} (hv : TR P h ι w v u) : AR P h ι w (putT ts d v) (a.put d u) where
  f := ar.f.putT d hv
  d := by cases d <;> exact ar.d
  m := by cases d <;> exact ar.m

theorem putT_rd (ts : Fr) (d : Option Tmp) (v : TV) : (putT ts d v).rd = ts.rd := by cases d <;> rfl

theorem wanted_ok {ops : Array Oper} {o : Oper} (ar : AR P h ι w ts a) {b : Bool} (e : wantedO ops.toList ts o.guard = some b) : Region.wanted o (yielded ops a.tmps) = b := by
  unfold Region.wanted
  cases hg : o.guard with
  | none => rw [hg] at e; cases e; rfl
  | some g =>
    rw [hg] at e
    obtain ⟨j, want⟩ := g
    obtain ⟨d, h1, e⟩ := ob_some_iff.1 (show ((nth ops.toList j).ob (·.dst)).ob (fun d => (ts.get d).ob (guardV want)) = some b from e)
    obtain ⟨op, h2, h1⟩ := ob_some_iff.1 h1
    obtain ⟨v, h3, e⟩ := ob_some_iff.1 e
    rw [nth_eq, Array.getElem?_toList] at h2
    obtain ⟨u, h4, h5⟩ := ar.f.at_ d v h3
    simp only
    have hy : yielded ops a.tmps j = match u with | .bool b => some b | _ => none := by
      simp only [yielded, h2, Option.bind_some, h1, h4]
      cases u <;> rfl
    rw [hy]
    cases v with
    | one x =>
      obtain ⟨c, h6, h7⟩ := om_some_iff.1 (show x.bool?.om (fun b => bc b want (!want)) = some b from e)
      have h8 : u = .bool c := h5.bool? (x := .one x) h6
      subst h8
      subst h7
      cases c <;> cases want <;> rfl
    | agg _ => cases e
    | tup l =>
      cases e
      cases h5 with
      | t ht => cases ht
      | tup hl => simp

/-- A call of a function value. -/
theorem invoke_func {g : FuncId} {fn : Func} {c : Code} (hf : P.funcs[g]? = some fn) (hn : fn.name ≠ "runtime.NumGoroutine") (hb : fn.body = some c) (args caps : Array Value) (w : World) :
    (invoke (.fn (.func g) caps) args).run P w = .ok (.enter g (args ++ caps)) w := by
  unfold invoke callFunc
  simp [program, Sem.run, Sem.run_bind, hf, hb, hn]

theorem vb_one : ∀ {cs : List SV} {vs : List Value}, All2 (VB P h ι w) cs vs → All2 (TR P h ι w) (cs.map .one) vs
  | [], _, hv => by cases hv; exact .nil
  | _ :: _, _, hv => by cases hv with | cons a b => exact .cons (.one (.b a)) (vb_one b)

theorem call_op {run : Job → Res} (S : SoundR P run) (g : Ga P w0 h ι w) {ro : Option Nat} {m : Nat} (ar : AR P h ι w ts a) {o : Oper} {c : Call} {f : Operand} (ho : o.op = .call c) (hcal : c.callee = .value f) {args : List TV}
    (hargs : evalA (evalO ts) c.args.toList = some args) {q : TV × Option Hp} (e : ((evalO ts f).ob TV.one?).ob (callS run args h) = some q) {K : Act → World → Prop} {Q : Exit → Act → World → Prop}
    (hK : ∀ u ι' w', Ga P w0 (orH h q.2) ι' w' → Evo h ι w (orH h q.2) ι' w' → TR P (orH h q.2) ι' w' q.1 u → K (a.put o.dst u) w') : o.wpIn (FW ro) m P a w K Q := by
  refine ⟨fun _ _ => trivial, ?_⟩
  rw [Oper.semAt_eq _ _ _ (fun c' h' => by rw [ho] at h'; cases h')]
  obtain ⟨s, h1, e⟩ := ob_some_iff.1 e
  obtain ⟨fv, h2, h1⟩ := ob_some_iff.1 h1
  have hρ := env_of ar.f
  have hall := evalA_some hρ hargs
  have hfv := (hρ f fv h2).one? h1
  cases s with
  | fn fx caps =>
    obtain ⟨f', vs, h3, h4, h5⟩ := hfv.fn_inv
    have hall2 : All2 (TR P h ι w) args (c.args.map a.eval).toList := by simpa using hall
    have hsem : (execOp a.eval o).run P w = (invoke (.fn f' vs.toArray) (#[] ++ c.args.map a.eval)).run P w := by
      unfold execOp
      simp only [ho, resolve, hcal, h3, Deferred.ofValue, Sem.run_bind, Sem.run_pure, Result.andThen_ok]
    rw [hsem]
    cases h4 with
    | func k =>
      have e' : outV (run (.call k (args ++ caps.map .one) h)) = some q := e
      unfold outV at e'
      split at e'
      · rename_i v oh hr
        cases e'
        obtain ⟨⟨fn, code, hf, hn, hb⟩, hcall⟩ := S.call _ _ _ _ _ hr
        rw [invoke_func hf hn hb]
        refine ⟨(fun hd => by cases hd), ?_⟩
        have h6 := hcall ro (m - 1) w0 ι w _ g (hall2.app (vb_one h5))
        have h7 : ((#[] ++ c.args.map a.eval) ++ vs.toArray) = ((c.args.map a.eval).toList ++ vs).toArray := by simp
        rw [h7]
        refine h6.mono (fun e w' he => ?_)
        obtain ⟨u, ι', rfl, h8, h9, h10⟩ := he
        exact hK u ι' w' h8 h9 h10
      · cases e'
    | yield l hl hk =>
      have e' : outV (run (.round l args h)) = some q := e
      unfold outV at e'
      split at e'
      · rename_i v oh hr
        cases e'
        obtain ⟨fn, tmps, asg, body, h6, h7⟩ := S.round _ _ _ _ _ hr ro (m - 1) w0 ι w _ g hl hall2
        have h8 : (invoke (.fn (.yield (ι l)) vs.toArray) (#[] ++ c.args.map a.eval)).run P w = .ok (.round (ι l) fn tmps asg body) w := by
          rw [← h6]
          have h9 : (#[] ++ c.args.map a.eval : Array Value) = (c.args.map a.eval).toList.toArray := by rw [Array.empty_append]
          show (Instr.yield (ι l) (#[] ++ c.args.map a.eval)).run P w = _
          rw [h9]
        rw [h8]
        refine ⟨(fun hd => by cases hd), ?_⟩
        refine h7.mono (fun e w' he => ?_)
        obtain ⟨u, ι', rfl, h8, h9, h10⟩ := he
        exact hK u ι' w' h8 h9 h10
      · cases e'
  | _ => cases e

/-- One operation of a region, at its turn. -/
theorem step_op {run : Job → Res} (S : SoundR P run) (hT : TabOk P T) (hF : FlatOk P T) (hK : KeyOk P T) (g : Ga P w0 h ι w) {ro : Option Nat} {m : Nat} (ar : AR P h ι w ts a) {ops : Array Oper} {i : Nat} {o : Oper} (hi : ops[i]? = some o)
    {q : TV × Option Hp} (e : stepV T run ops.toList o ts h = some q) {K : Act → World → Prop} {Q : Exit → Act → World → Prop}
    (hN : ∀ u ι' w', Ga P w0 (orH h q.2) ι' w' → Evo h ι w (orH h q.2) ι' w' → TR P (orH h q.2) ι' w' q.1 u → K (a.put o.dst u) w') : wpOpIn (FW ro) m P ops Q i K a w := by
  unfold stepV at e
  obtain ⟨b, h1, e⟩ := ob_some_iff.1 e
  have hw := wanted_ok ar h1
  unfold wpOpIn
  simp only [hi, hw]
  cases b with
  | false =>
    cases e
    exact ⟨fun _ _ => trivial, hN undef ι w g (Evo.refl _ _ _) und_TR⟩
  | true =>
    change execO { T := T, run := run, ts := ts, h := h } o.op = some q at e
    simp only [if_true]
    by_cases hc : ∃ c f, o.op = .call c ∧ c.callee = .value f
    · obtain ⟨c, f, ho, hcal⟩ := hc
      rw [ho] at e
      have e' : (evalA (evalO ts) c.args.toList).ob (fun args => callC T run (evalO ts) h c.argTypes args c.callee) = some q := e
      obtain ⟨args, h2, h3⟩ := ob_some_iff.1 e'
      rw [hcal] at h3
      exact call_op S g ar ho hcal h2 h3 hN
    · obtain ⟨u, ι', w', h2, h3, h4, h5⟩ := exec_good hT hF hK g ar.f e (fun c f ho hcal => hc ⟨c, f, ho, hcal⟩)
      refine ⟨fun _ _ => trivial, ?_⟩
      rw [Oper.semAt_eq _ _ _ (fun c' h' => by rw [h'] at e; cases e)]
      rcases h2 with h2 | ⟨h2, rfl⟩
      · rw [h2]; exact hN u ι' w' h3 h4 h5
      · rw [h2]; exact hN undef ι' w' h3 h4 h5

theorem ops_sound {run : Job → Res} (S : SoundR P run) (hT : TabOk P T) (hF : FlatOk P T) (hK : KeyOk P T) {ro : Option Nat} {m : Nat} {ops : Array Oper} {Q : Exit → Act → World → Prop} :
    ∀ (l : List Oper) (i : Nat), ops.toList.drop i = l → ∀ {ts : Fr} {h : Hp} {ι : Nat → Nat} {w : World} {a : Act} {q : Fr × Hp}, opsO T run ops.toList l ts h = some q → Ga P w0 h ι w → AR P h ι w ts a →
      (∀ a' ι' w', Ga P w0 q.2 ι' w' → Evo h ι w q.2 ι' w' → AR P q.2 ι' w' q.1 a' → Q .normal a' w') → wpOpsIn (FW ro) m P ops Q (List.range' i l.length) a w
  | [], i, _, ts, h, ι, w, a, q, e, g, ar, hQ => by
    cases e
    exact hQ a ι w g (Evo.refl _ _ _) ar
  | o :: l, i, hd, ts, h, ι, w, a, q, e, g, ar, hQ => by
    obtain ⟨p, h1, e⟩ := ob_some_iff.1 (show (stepV T run ops.toList o ts h).ob (fun q => opsO T run ops.toList l (putT ts o.dst q.1) (orH h q.2)) = some q from e)
    have hi : ops[i]? = some o := by
      rw [← Array.getElem?_toList]
      have := congrArg (·[0]?) hd
      simpa [List.getElem?_drop] using this
    have hd' : ops.toList.drop (i + 1) = l := by
      rw [← List.drop_drop, hd]; rfl
    rw [List.length_cons, List.range'_succ, wpOpsIn_cons]
    refine step_op S hT hF hK g ar hi h1 (fun u ι' w' h2 h3 h4 => ?_)
    refine ops_sound S hT hF hK l (i + 1) hd' e h2 ((ar.evo h3).put o.dst h4) (fun a' ι2 w2 h5 h6 h7 => hQ a' ι2 w2 h5 (h3.trans h6) h7)

theorem opsO_rd {run : Job → Res} {ops : List Oper} : ∀ (l : List Oper) {ts : Fr} {h : Hp} {q : Fr × Hp}, opsO T run ops l ts h = some q → q.1.rd = ts.rd
  | [], ts, h, q, e => by cases e; rfl
  | o :: l, ts, h, q, e => by
    obtain ⟨p, h1, e⟩ := ob_some_iff.1 (show (stepV T run ops o ts h).ob (fun q => opsO T run ops l (putT ts o.dst q.1) (orH h q.2)) = some q from e)
    rw [opsO_rd l e, putT_rd]
end
end Go.VI
