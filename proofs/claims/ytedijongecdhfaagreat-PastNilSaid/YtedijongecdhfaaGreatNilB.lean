/-
  An abstract interpreter of loaded code, proved to tell the truth; a part of the proof that redpencillaw48.PastNil returns true, whatever the input.
-/
import Derived.Test.YtedijongecdhfaaGreatNilA
namespace Go.VI
open Go
namespace Tryz
theorem restY (a : Option Addr) (len cap : Nat) (n m : Int) : backR tab Go.Proofs.Tryz.f11 h0 (run funs tab 100004 (.code Y (t2 a len cap n m false) h0)) = some (.val (bl true) none) := by kernel_rfl
theorem small (a : Option Addr) (len cap : Nat) (n m : Int) (hl : ltI 12 len = false) : run funs tab 100007 (.call 11 [.one (.lit (.slice a len cap)), .one (.int .i64 n), .one (.int .i64 m)] h0) = some (.val (bl true) none) := by
  have f1 : run funs tab 100003 (.code R1 (t1 a len cap n m) h0) = some (.code .normal (t2 a len cap n m false) h0) := by
    have := r1 a len cap n m 100002
    rw [hl] at this
    exact this
  have e4 : run funs tab 100003 (.code (.cond (.tmp 12) (.seq R2 .ret) .skip) (t2 a len cap n m false) h0) = some (.code .normal (t2 a len cap n m false) h0) := (cond_step (n := 100002) (c12 a len cap n m false)).trans rfl
  have e5 : run funs tab 100004 (.code (.seq R1 (.cond (.tmp 12) (.seq R2 .ret) .skip)) (t1 a len cap n m) h0) = some (.code .normal (t2 a len cap n m false) h0) := (seq_step (n := 100003) f1).trans e4
  have e6 : run funs tab 100005 (.code (.seq (.seq R1 (.cond (.tmp 12) (.seq R2 .ret) .skip)) Y) (t1 a len cap n m) h0) = run funs tab 100004 (.code Y (t2 a len cap n m false) h0) := seq_step (n := 100004) e5
  have e7 : run funs tab 100006 (.code (.seq R0 (.seq (.seq R1 (.cond (.tmp 12) (.seq R2 .ret) .skip)) Y)) (t0 a len cap n m) h0) = run funs tab 100004 (.code Y (t2 a len cap n m false) h0) := (seq_step (n := 100005) (r0 a len cap n m 100004)).trans e6
  exact (call_step (n := 100006) fun11 body11_eq _).trans ((congrArg (backR tab Go.Proofs.Tryz.f11 h0) e7).trans (restY a len cap n m))
theorem k11 (a : Option Addr) (len cap : Nat) (n m : Int) : run funs tab 100007 (.call 11 [.one (.lit (.slice a len cap)), .one (.int .i64 n), .one (.int .i64 m)] h0) = some (.val (bl true) none) := by
  cases hl : ltI 12 len with
  | true => exact big a len cap n m hl
  | false => exact small a len cap n m hl

end Tryz
end Go.VI
