/-
  An abstract interpreter of loaded code, proved to tell the truth; a part of the proof that redpencillaw48.PastNil returns true, whatever the input.
-/
import Derived.Test.YtedijongecdhfaaGreatM22
namespace Go.VI
open Go Go.RowKit

section
variable {P : Program} {T : Tab} {B : Funs} {w0 : World} {h h1 h2 : Hp} {ι ι' ι2 : Nat → Nat} {w w' w2 : World} {ts : Fr} {a : Act}

theorem callsIn_FW {ro : Option Nat} {m : Nat} {f : FuncId} {args : Array Value} {R : Ending → World → Prop} (hc : CallsIn (FW none) m P f args w R) : CallsIn (FW ro) m P f args w R := hc

/-- A call. -/
theorem call_sound {run : Job → Res} (S : SoundR P run) (hB : FunsOk P B) (hT : TabOk P T) {f : FuncId} {args : List TV} {v : TV} {oh : Option Hp} (e1 : callStep B T run f args h = some (.val v oh)) :
    (∃ fn c, P.funcs[f]? = some fn ∧ fn.name ≠ "runtime.NumGoroutine" ∧ fn.body = some c) ∧
    ∀ (ro : Option Nat) m w0 ι w (us : List Value), Ga P w0 h ι w → All2 (TR P h ι w) args us → CallsIn (FW ro) m P f us.toArray w (RC P w0 h ι w v oh) := by
  unfold callStep at e1
  obtain ⟨fn, hf, e1⟩ := ob_some_iff.1 e1
  obtain ⟨c, hb, e1⟩ := ob_some_iff.1 e1
  obtain ⟨hf1, hf2⟩ := hB f fn hf
  refine ⟨⟨fn, c, hf1, hf2, hb⟩, fun ro m w0 ι w us g hu => callsIn_FW ?_⟩
  have fin : ∀ (e : Ex) ts' h', run (.code c (.init args fn.ntmps) ⟨h.t, h.n, h.n⟩) = some (.code e ts' h') → (e = .normal ∨ e = .ret) → retO T fn h ts' h' = some (.val v oh) → CallsIn (FW none) m P f us.toArray w (RC P w0 h ι w v oh) := by
    intro e ts' h' hr he hret
    obtain ⟨_, s⟩ := S.code _ _ _ _ _ _ hr
    have g0 : Ga P w0 ⟨h.t, h.n, h.n⟩ ι w := Ga.relow (l1 := h.low) g
    have hu0 : All2 (TR P ⟨h.t, h.n, h.n⟩ ι w) args us := all2_imp (fun _ _ hh => TR.relow (l1 := h.low) hh) hu
    have ar0 : AR P ⟨h.t, h.n, h.n⟩ ι w (.init args fn.ntmps) { tmps := us.toArray ++ Array.replicate (fn.ntmps - us.toArray.size) undef, defers := [] } := ⟨init_FrR hu0 _, rfl, fun d hd => by cases hd⟩
    refine callsIn_of_wp_marks hf1 hb trivial (wpIn_mono (s none m w0 ι w _ rfl g0 ar0) (fun x a' w' hx => ?_)) rfl
    obtain ⟨rfl, ι', g', ev, ar'⟩ := hx
    unfold retO at hret
    obtain ⟨hm1, hret⟩ := bc_none_iff.1 hret
    obtain ⟨hm2, hret⟩ := bc_none_iff.1 hret
    unfold retH at hret
    obtain ⟨vs, hv1, hret⟩ := ob_some_iff.1 hret
    obtain ⟨v', hv2, hret⟩ := ob_some_iff.1 hret
    cases hret
    have key : LeavesInM (FW none) m P fn a'.tmps (RC P w0 h ι w v (letGo h (shutM ts'.ms h') v)) a'.defers .returning w' := by
      rw [ar'.d]
      refine marks_sound g' hm1 hm2 (fun w2 g2 ev2 => ?_)
      obtain ⟨us', hr1, hr2⟩ := results_sound hT g2 (ar'.evo ev2) hv1
      exact ⟨_, run_results hr1, letGo_sound g g2 (ev.trans ev2) (tupO_some hr2 hv2)⟩
    rcases he with rfl | rfl
    · exact key
    · exact key
  split at e1
  · rename_i ts' h' hr; exact fin _ _ _ hr (.inl rfl) e1
  · rename_i ts' h' hr; exact fin _ _ _ hr (.inr rfl) e1
  · cases e1

theorem setL_ok : ∀ (ps : List Nat) {args : List TV} {us : List Value} {f : Fr} {tm : Array Value}, FrR P h ι w f tm → All2 (TR P h ι w) args us → args.length = ps.length →
    FrR P h ι w (f.setL ps args) ((ps.zip us).foldl (fun tmps (p : Nat × Value) => tmps.setIfInBounds p.1 p.2) tm) ∧ (f.setL ps args).rd = f.rd ∧ (f.setL ps args).ms = f.ms
  | [], args, us, f, tm, hf, hu, hl => by
    have : args = [] := List.eq_nil_of_length_eq_zero (by simpa using hl)
    subst this
    cases hu
    exact ⟨hf, rfl, rfl⟩
  | p :: ps, args, us, f, tm, hf, hu, hl => by
    cases hu with
    | nil => simp at hl
    | cons a b =>
      rename_i v u vs us
      obtain ⟨h1, h2, h3⟩ := setL_ok ps (hf.set p a) b (by simpa using hl)
      exact ⟨h1, h2, h3⟩

theorem yield_run {l : Nat} {r : Loop} {us : Array Value} (hl : w.heap[l]? = some (.loop r)) (hs : us.size = r.params.size) :
    (Instr.yield l us).run P w = .ok (.round l r.fn ((r.params.zip us).foldl (fun tmps (p : Nat × Value) => tmps.setIfInBounds p.1 p.2) r.tmps) r.assign r.body) w := by
  unfold Instr.yield Instr.getLoop
  simp [getObj, Sem.run, hl, hs]

theorem begin_sound (g : Ga P w0 h ι w) {l : Nat} {pend : Option Code} {f : Fr} {ps : List Tmp} {asg body : Code} {d : Nat} (e : h.get l = some (.loop .ready pend f ps asg body d)) :
    ∃ w4, (Instr.beginRound (ι l)).run P w = .ok () w4 ∧ Ga P w0 (h.set l (.loop .busy pend f ps asg body d)) ι w4 ∧ Evo h ι w (h.set l (.loop .busy pend f ps asg body d)) ι w4 := by
  obtain ⟨fn, tm, h1, h2, h3, h4⟩ := g.loop e
  obtain ⟨g', ev⟩ := g.put (o' := .loop .busy pend f ps asg body d) (ob' := .loop { state := .busy, pending := pend, fn := fn, tmps := tm, params := ps.toArray, assign := asg, body := body, defers := ι d }) e rfl (Nat.le_refl _) rfl h1 (Nat.le_refl _) (only_setBlock h1) (.loop _ _ _ _ _ _ _ h2 h3 h4)
  refine ⟨_, ?_, g', ev⟩
  unfold Instr.beginRound Instr.getLoop
  simp [getObj, Sem.run, h1, run_setObj_loop h1]

theorem endRound_sound (g : Ga P w0 h ι w) {l : Nat} (j : Option Code) {st : LoopState} {pend : Option Code} {f : Fr} {ps : List Tmp} {asg body : Code} {d : Nat} (e : h.get l = some (.loop st pend f ps asg body d)) :
    ∃ w4, (Instr.endRound (ι l) j).run P w = .ok (.bool j.isNone) w4 ∧ Ga P w0 (h.set l (.loop (bc j.isNone .ready .done) j f ps asg body d)) ι w4 ∧ Evo h ι w (h.set l (.loop (bc j.isNone .ready .done) j f ps asg body d)) ι w4 := by
  obtain ⟨fn, tm, h1, h2, h3, h4⟩ := g.loop e
  obtain ⟨g', ev⟩ := g.put (o' := .loop (bc j.isNone .ready .done) j f ps asg body d) (ob' := .loop { state := bc j.isNone .ready .done, pending := j, fn := fn, tmps := tm, params := ps.toArray, assign := asg, body := body, defers := ι d }) e rfl (Nat.le_refl _) rfl h1 (Nat.le_refl _) (only_setBlock h1) (.loop _ _ _ _ _ _ _ h2 h3 h4)
  refine ⟨_, ?_, g', ev⟩
  unfold Instr.endRound Instr.getLoop
  cases j <;> simp [getObj, Sem.run, h1, run_setObj_loop h1, bc]

/-- A round. -/
theorem round_sound {run : Job → Res} (S : SoundR P run) {l : Nat} {args : List TV} {v : TV} {oh : Option Hp} (e1 : roundStep run l args h = some (.val v oh)) (ro : Option Nat) (m : Nat) (w0 : World) (ι : Nat → Nat) (w : World) (us : List Value)
    (g : Ga P w0 h ι w) (hu : All2 (TR P h ι w) args us) :
    ∃ fn tmps asg body, (Instr.yield (ι l) us.toArray).run P w = .ok (.round (ι l) fn tmps asg body) w ∧ RoundIn (FW ro) m P (ι l) fn tmps asg body w (RC P w0 h ι w v oh) := by
  unfold roundStep at e1
  split at e1
  case h_2 => cases e1
  rename_i pend tmps ps asg body d hget
  obtain ⟨h1, e1⟩ := bc_none_iff.1 e1
  obtain ⟨h2, e1⟩ := bc_none_iff.1 e1
  obtain ⟨h3, e1⟩ := bc_none_iff.1 e1
  rw [Nat.beq_eq] at h1
  have h3 : tmps.ms = [] := by
    unfold noneL at h3
    split at h3
    · assumption
    · cases h3
  obtain ⟨fn, tm, hl1, hl2, hl3, hl4⟩ := g.loop hget
  have hk : isArr h l = false := by unfold isArr; rw [hget]
  have hlt := hget_lt hget
  have hus := hu.len
  split at e1
  case h_2 => cases e1
  rename_i ts1 hp1 hr1
  obtain ⟨hd1, s1⟩ := S.code _ _ _ _ _ _ hr1
  obtain ⟨hs1, hs2, hs3⟩ := setL_ok ps hl2 hu h1
  refine ⟨fn, _, asg, body, yield_run hl1 (by simp; omega), roundIn_of_wpIn trivial ?_⟩
  have ar0 : AR P h ι w (tmps.setL ps args) { tmps := ((ps.toArray.zip us.toArray).foldl (fun tmps (p : Nat × Value) => tmps.setIfInBounds p.1 p.2) tm), defers := [] } := by
    refine ⟨?_, ?_, ?_⟩
    · have : (ps.toArray.zip us.toArray) = (ps.zip us).toArray := by simp
      rw [this]
      simpa using hs1
    · rw [hs3, h3]; rfl
    · rw [hs3, h3]; intro d hd; cases hd
  refine wpIn_mono (s1 (some (ι l)) m w0 ι w _ (by rw [hs2, h2]; rfl) g ar0) (fun x a1 w1 hx => ?_)
  obtain ⟨rfl, ι1, g1, ev1, ar1⟩ := hx
  have hi1 : ι1 l = ι l := ev1.nonArr hlt hk
  unfold roundBody at e1
  split at e1
  case h_2 => cases e1
  rename_i pend1 tmps1 ps1 asg1 body1 d1 hget1
  split at e1
  case h_2 => cases e1
  rename_i e2 ts2 hp2 hr2
  obtain ⟨w2, hb1, g2, ev2⟩ := begin_sound g1 hget1
  rw [hi1] at hb1
  refine ⟨w2, hb1, ?_⟩
  obtain ⟨hd2, s2⟩ := S.code _ _ _ _ _ _ hr2
  refine wpIn_mono (s2 (some (ι l)) m w0 ι1 w2 a1 (by rw [hd1, hs2, h2]; rfl) g2 (ar1.evo ev2)) (fun x a3 w3 hx => ?_)
  obtain ⟨rfl, ι3, g3, ev3, ar3⟩ := hx
  have evt := (ev1.trans ev2).trans ev3
  have hi3 : ι3 l = ι l := evt.nonArr hlt hk
  unfold roundEnd at e1
  split at e1
  case h_2 => cases e1
  rename_i st4 pend4 tmps4 ps4 asg4 body4 d4 hget4
  cases e1
  obtain ⟨w4, hend, g4, ev4⟩ := endRound_sound g3 e2.jump hget4
  rw [hi3] at hend
  have hR : RC P w0 h ι w (bl e2.jump.isNone) (some (hp2.set l (.loop (bc e2.jump.isNone .ready .done) e2.jump tmps4 ps4 asg4 body4 d4))) (.returned (.bool e2.jump.isNone)) w4 :=
    ⟨_, ι3, rfl, g4, evt.trans ev4, .one (.bb _)⟩
  cases e2 with
  | normal => exact ⟨_, w4, hend, hR⟩
  | ret => exact ⟨_, w4, hend, hR⟩
  | exit id => exact ⟨_, w4, hend, hR⟩

theorem run_succ (n : Nat) (j : Job) : run B T (n + 1) j = jobStep B T (run B T n) j := rfl

/-- The abstract runs tell the truth. -/
theorem run_sound (hB : FunsOk P B) (hT : TabOk P T) (hF : FlatOk P T) (hK : KeyOk P T) (hD : ∀ r, SoundR P r → DrawS P T r) : ∀ n, SoundR P (run B T n) ∧ LoopR P n (run B T n)
  | 0 => by
    constructor
    · exact ⟨(fun c ts h e ts' h' hr => by cases hr), (fun f args h v oh hr => by cases hr), (fun l args h v oh hr => by cases hr)⟩
    · exact ⟨(fun b ts h e ts' h' hr => by cases hr)⟩
  | n + 1 => by
    obtain ⟨S, L⟩ := run_sound hB hT hF hK hD n
    constructor
    · refine ⟨fun c ts h e ts' h' hr => ?_, fun f args h v oh hr => ?_, fun l args h v oh hr => ?_⟩
      · exact code_sound S L hT hF hK (hD _ S) hr
      · exact call_sound S hB hT hr
      · exact fun ro m w0 ι w us g _ hu => round_sound S hr ro m w0 ι w us g hu
    · refine ⟨fun b ts h e ts' h' hr => ?_⟩
      exact loop_sound S L hr
end
end Go.VI
