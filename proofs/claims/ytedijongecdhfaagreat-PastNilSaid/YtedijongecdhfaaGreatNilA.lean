/-
  An abstract interpreter of loaded code, proved to tell the truth; a part of the proof that redpencillaw48.PastNil returns true, whatever the input.
-/
import Derived.Test.YtedijongecdhfaaGreatKnown
namespace Go.VI
open Go
section
variable {B : Funs} {T : Tab} {n : Nat} {ts ts1 : Fr} {h h1 : Hp}
theorem seq_step {x y : Code} (e : run B T n (.code x ts h) = some (.code .normal ts1 h1)) : run B T (n + 1) (.code (.seq x y) ts h) = run B T n (.code y ts1 h1) := by
  show c_seq (run B T n) y (run B T n (.code x ts h)) = _
  rw [e]; rfl
theorem seq_ret {x y : Code} (e : run B T n (.code x ts h) = some (.code .ret ts1 h1)) : run B T (n + 1) (.code (.seq x y) ts h) = some (.code .ret ts1 h1) := by
  show c_seq (run B T n) y (run B T n (.code x ts h)) = _
  rw [e]; rfl
theorem cond_step {x : Operand} {a b : Code} {t : Bool} (e : (evalO ts x).ob TV.bool? = some t) : run B T (n + 1) (.code (.cond x a b) ts h) = run B T n (.code (bc t a b) ts h) := by
  show ((evalO ts x).ob TV.bool?).ob _ = _
  rw [e]; rfl
noncomputable def backR (T : Tab) (fn : Func) (h : Hp) (r : Res) : Res := match r with
  | some (.code .normal ts h') => retO T fn h ts h'
  | some (.code .ret ts h') => retO T fn h ts h'
  | _ => none
theorem call_step {f : FuncId} {fn : Func} {c : Code} (hf : B f = some fn) (hb : fn.body = some c) (args : List TV) : run B T (n + 1) (.call f args h) = backR T fn h (run B T n (.code c (.init args fn.ntmps) ⟨h.t, h.n, h.n⟩)) := by
  show (B f).ob _ = _
  rw [hf]
  show fn.body.ob _ = _
  rw [hb]
  rfl
end
namespace Tryz
def sq1 : Code → Code | .seq a _ => a | c => c
def sq2 : Code → Code | .seq _ b => b | c => c
def thn : Code → Code | .cond _ a _ => a | c => c
noncomputable def body11 : Code := Go.Proofs.Tryz.f11.body.getD .skip
noncomputable def R0 : Code := sq1 body11
noncomputable def R1 : Code := sq1 (sq1 (sq2 body11))
noncomputable def R2 : Code := sq1 (thn (sq2 (sq1 (sq2 body11))))
noncomputable def Y : Code := sq2 (sq2 body11)
theorem body11_eq : Go.Proofs.Tryz.f11.body = some (.seq R0 (.seq (.seq R1 (.cond (.tmp 12) (.seq R2 .ret) .skip)) Y)) := by kernel_rfl
theorem fun11 : funs 11 = some Go.Proofs.Tryz.f11 := by kernel_rfl

noncomputable def t0 (a : Option Addr) (len cap : Nat) (n m : Int) : Fr := .init [.one (.lit (.slice a len cap)), .one (.int .i64 n), .one (.int .i64 m)] 74
noncomputable def t1 (a : Option Addr) (len cap : Nat) (n m : Int) : Fr := putT (t0 a len cap n m) (some 6) (bl false)
noncomputable def t2 (a : Option Addr) (len cap : Nat) (n m : Int) (b : Bool) : Fr := putT (putT (putT (t1 a len cap n m) (some 10) (.one (.lit (.slice a len cap)))) (some 11) (it len)) (some 12) (bl b)

theorem r0 (a : Option Addr) (len cap : Nat) (n m : Int) (k : Nat) : run funs tab (k + 1) (.code R0 (t0 a len cap n m) h0) = some (.code .normal (t1 a len cap n m) h0) := by kernel_rfl
theorem r1 (a : Option Addr) (len cap : Nat) (n m : Int) (k : Nat) : run funs tab (k + 1) (.code R1 (t1 a len cap n m) h0) = some (.code .normal (t2 a len cap n m (ltI 12 len)) h0) := by kernel_rfl
theorem c12 (a : Option Addr) (len cap : Nat) (n m : Int) (b : Bool) : (evalO (t2 a len cap n m b) (.tmp 12)).ob TV.bool? = some b := by kernel_rfl
def regOps : Code → List Oper | .region _ o _ => o.toList | _ => []
noncomputable def o1 : Oper := (regOps R2).getD 0 default
noncomputable def o2 : Oper := (regOps R2).getD 1 default
theorem r2 (a : Option Addr) (len cap : Nat) (n m : Int) (r : Job → Res) (hr : r (.call 44 [] h0) = some (.val (bl true) none)) :
    codeStep { T := tab, run := r, ts := t2 a len cap n m true, h := h0 } R2 = some (.code .normal (putT (putT (t2 a len cap n m true) (some 13) (bl true)) (some 6) (bl true)) h0) := by
  have s1 : stepV tab r [o1, o2] o1 (t2 a len cap n m true) h0 = some (bl true, none) := by
    have : stepV tab r [o1, o2] o1 (t2 a len cap n m true) h0 = outV (r (.call 44 [] h0)) := by kernel_rfl
    rw [this, hr]; rfl
  have s2 : stepV tab r [o1, o2] o2 (putT (t2 a len cap n m true) (some 13) (bl true)) h0 = some (bl true, none) := by kernel_rfl
  have e1 : opsO tab r [o1, o2] [o1, o2] (t2 a len cap n m true) h0 = (stepV tab r [o1, o2] o1 (t2 a len cap n m true) h0).ob (fun q => (stepV tab r [o1, o2] o2 (putT (t2 a len cap n m true) (some 13) q.1) (orH h0 q.2)).ob fun p => some (putT (putT (t2 a len cap n m true) (some 13) q.1) (some 6) p.1, orH (orH h0 q.2) p.2)) := by kernel_rfl
  have e2 : codeStep { T := tab, run := r, ts := t2 a len cap n m true, h := h0 } R2 = (opsO tab r [o1, o2] [o1, o2] (t2 a len cap n m true) h0).ob (fun q => some (.code .normal q.1 q.2)) := by kernel_rfl
  rw [e2, e1, s1]
  show ((stepV tab r [o1, o2] o2 (putT (t2 a len cap n m true) (some 13) (bl true)) h0).ob fun p => some (putT (putT (t2 a len cap n m true) (some 13) (bl true)) (some 6) p.1, orH h0 p.2)).ob _ = _
  rw [s2]
  rfl
theorem big (a : Option Addr) (len cap : Nat) (n m : Int) (hl : ltI 12 len = true) : run funs tab 100007 (.call 11 [.one (.lit (.slice a len cap)), .one (.int .i64 n), .one (.int .i64 m)] h0) = some (.val (bl true) none) := by
  have e2 : run funs tab 100001 (.code R2 (t2 a len cap n m true) h0) = some (.code .normal (putT (putT (t2 a len cap n m true) (some 13) (bl true)) (some 6) (bl true)) h0) := r2 a len cap n m (run funs tab 100000) k44
  have e3 : run funs tab 100002 (.code (.seq R2 .ret) (t2 a len cap n m true) h0) = some (.code .ret (putT (putT (t2 a len cap n m true) (some 13) (bl true)) (some 6) (bl true)) h0) := (seq_step (n := 100001) e2).trans rfl
  have e4 : run funs tab 100003 (.code (.cond (.tmp 12) (.seq R2 .ret) .skip) (t2 a len cap n m true) h0) = some (.code .ret (putT (putT (t2 a len cap n m true) (some 13) (bl true)) (some 6) (bl true)) h0) := (cond_step (n := 100002) (c12 a len cap n m true)).trans e3
  have f1 : run funs tab 100003 (.code R1 (t1 a len cap n m) h0) = some (.code .normal (t2 a len cap n m true) h0) := by
    have := r1 a len cap n m 100002
    rw [hl] at this
    exact this
  have e5 : run funs tab 100004 (.code (.seq R1 (.cond (.tmp 12) (.seq R2 .ret) .skip)) (t1 a len cap n m) h0) = some (.code .ret (putT (putT (t2 a len cap n m true) (some 13) (bl true)) (some 6) (bl true)) h0) := (seq_step (n := 100003) f1).trans e4
  have e6 : run funs tab 100005 (.code (.seq (.seq R1 (.cond (.tmp 12) (.seq R2 .ret) .skip)) Y) (t1 a len cap n m) h0) = some (.code .ret (putT (putT (t2 a len cap n m true) (some 13) (bl true)) (some 6) (bl true)) h0) := seq_ret (n := 100004) e5
  have e7 : run funs tab 100006 (.code (.seq R0 (.seq (.seq R1 (.cond (.tmp 12) (.seq R2 .ret) .skip)) Y)) (t0 a len cap n m) h0) = some (.code .ret (putT (putT (t2 a len cap n m true) (some 13) (bl true)) (some 6) (bl true)) h0) := (seq_step (n := 100005) (r0 a len cap n m 100004)).trans e6
  have e8 : backR tab Go.Proofs.Tryz.f11 h0 (some (.code .ret (putT (putT (t2 a len cap n m true) (some 13) (bl true)) (some 6) (bl true)) h0)) = some (.val (bl true) none) := by kernel_rfl
  exact (call_step (n := 100006) fun11 body11_eq _).trans ((congrArg (backR tab Go.Proofs.Tryz.f11 h0) e7).trans e8)
end Tryz
end Go.VI
