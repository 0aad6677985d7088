/-
  An abstract interpreter of loaded code, proved to tell the truth; a part of the proof that redpencillaw48.PastNil returns true, whatever the input.
-/
import Derived.Test.YtedijongecdhfaaGreatM30
import Derived.Test.YtedijongecdhfaaGreatTab
namespace Go.VI
open Go
namespace Tryz
theorem tabOk : TabOk Go.Proofs.Tryz.prog tab := tab_ok (by kernel_rfl)
theorem mixed : Go.Proofs.Tryz.prog.follows .mixedOrders = true := by kernel_rfl
theorem u3 : Go.Proofs.Tryz.prog.underlying 3 = some (.int .i64) := by kernel_rfl
theorem u21 : Go.Proofs.Tryz.prog.underlying 21 = some (.int .i32) := by kernel_rfl
theorem eq3 (d : Nat) : EqA Go.Proofs.Tryz.prog (d + 1) 3 [.i64] := EqA.int u3 d
theorem eq21 (d : Nat) : EqA Go.Proofs.Tryz.prog (d + 1) 21 [.i32] := EqA.int u21 d
theorem u32 : Go.Proofs.Tryz.prog.underlying 32 = some (.struct (Go.Proofs.Tryz.prog.fieldsOf 32)) := by kernel_rfl
theorem u70 : Go.Proofs.Tryz.prog.underlying 70 = some (.struct (Go.Proofs.Tryz.prog.fieldsOf 70)) := by kernel_rfl
theorem i32 : ∃ i, Go.Proofs.Tryz.prog.info? 32 = some i ∧ i.size = 2 := by
  obtain ⟨i, z, hi⟩ := (tabOk 32 ti32 (by kernel_rfl)).info
  exact ⟨i, hi.info, hi.size⟩
theorem i70 : ∃ i, Go.Proofs.Tryz.prog.info? 70 = some i ∧ i.size = 6 := by
  obtain ⟨i, z, hi⟩ := (tabOk 70 ti70 (by kernel_rfl)).info
  exact ⟨i, hi.info, hi.size⟩
theorem eq32 (d : Nat) : EqA Go.Proofs.Tryz.prog (d + 2) 32 [.i64, .i64] := by
  obtain ⟨i, h1, h2⟩ := i32
  exact EqA.struct (ts := [(3, [.i64]), (3, [.i64])]) u32 (by kernel_rfl) (by kernel_rfl) (by kernel_rfl) h1 h2 (fun p hp => by
    simp only [List.mem_cons, List.not_mem_nil, or_false] at hp
    rcases hp with rfl | rfl <;> exact eq3 d)
theorem eq70 (d : Nat) : EqA Go.Proofs.Tryz.prog (d + 3) 70 [.i64, .i64, .i64, .i64, .i64, .i32] := by
  obtain ⟨i, h1, h2⟩ := i70
  exact EqA.struct (ts := [(32, [.i64, .i64]), (32, [.i64, .i64]), (3, [.i64]), (21, [.i32])]) u70 (by kernel_rfl) (by kernel_rfl) (by kernel_rfl) h1 h2 (fun p hp => by
    simp only [List.mem_cons, List.not_mem_nil, or_false] at hp
    rcases hp with rfl | rfl | rfl | rfl
    · exact eq32 d
    · exact eq32 d
    · exact eq3 (d + 1)
    · exact eq21 (d + 1))
theorem flats : allB (fun t ti => !(ti.flat && (match ti.k with | .struct _ => true | _ => false)) || (t == 32 || t == 70)) 1 0 tabT = true := by kernel_rfl
theorem flat2 : ∀ t ti, tab t = some ti → ti.flat = true → ti.k.isAgg = true → EqAgg Go.Proofs.Tryz.prog t ti ∧ KeyAgg Go.Proofs.Tryz.prog t ti := by
  intro t ti ht hf ha
  have h := allB_get flats t ti ht
  rw [Nat.one_mul, Nat.add_zero] at h
  have hs : (match ti.k with | .struct _ => true | _ => false) = true := by
    cases hk : ti.k <;> rw [hk] at ha <;> first | rfl | cases ha
  simp only [hf, hs, Bool.and_self, Bool.not_true, Bool.false_or, Bool.or_eq_true, beq_iff_eq] at h
  rcases h with rfl | rfl
  · have h32 : tab 32 = some ti32 := by kernel_rfl
    rw [h32] at ht
    cases ht
    exact flat_of (ks := [.i64, .i64]) (tabOk 32 ti32 h32) rfl rfl rfl (eq32 9998) (by kernel_rfl)
  · have h70 : tab 70 = some ti70 := by kernel_rfl
    rw [h70] at ht
    cases ht
    exact flat_of (ks := [.i64, .i64, .i64, .i64, .i64, .i32]) (tabOk 70 ti70 h70) rfl rfl rfl (eq70 9997) (by kernel_rfl)
theorem flatOk : FlatOk Go.Proofs.Tryz.prog tab := fun t ti ht hf ha => (flat2 t ti ht hf ha).1
theorem keyOk : KeyOk Go.Proofs.Tryz.prog tab := fun t ti ht hf ha => (flat2 t ti ht hf ha).2
end Tryz
end Go.VI
