/-
  An abstract interpreter of loaded code, proved to tell the truth; a part of the proof that redpencillaw48.PastNil returns true, whatever the input.
-/
import Derived.Test.YtedijongecdhfaaGreatNilB
import Derived.Below
namespace Go.VI
open Go Go.RowKit
namespace Tryz
/-- PastNil, whatever it is called with: true; all that lay before lies as it lay. -/
theorem calls11 (a : Option Addr) (len cap : Nat) (n m : Int) (w : World) : CallsIn Fence.wide 0 Go.Proofs.Tryz.prog 11 #[.slice a len cap, .int .i64 n, .int .i64 m] w (fun e w' => e = .returned (.bool true) ∧ Below w.heap.size w w') := by
  have S := run_ok mixed funsOk tabOk flatOk keyOk 100007
  obtain ⟨_, hc⟩ := S.call 11 _ h0 _ _ (k11 a len cap n m)
  have g : Ga Go.Proofs.Tryz.prog w h0 (fun _ => 0) w := ⟨Below.refl _ _, (fun id hi => by cases hi), (fun i j hi => by cases hi), (fun id o ho => by cases ho)⟩
  have hu : All2 (TR Go.Proofs.Tryz.prog h0 (fun _ => 0) w) [.one (.lit (.slice a len cap)), .one (.int .i64 n), .one (.int .i64 m)] [.slice a len cap, .int .i64 n, .int .i64 m] :=
    .cons (.one (.b (.lit _ rfl))) (.cons (.one (.i _ _)) (.cons (.one (.i _ _)) .nil))
  refine (hc none 0 w _ w _ g hu).mono (fun e w' he => ?_)
  obtain ⟨u, ι', rfl, g', _, hv⟩ := he
  have : u = .bool true := hv.bool? (x := bl true) rfl
  exact ⟨by rw [this], g'.below⟩
end Tryz
end Go.VI
