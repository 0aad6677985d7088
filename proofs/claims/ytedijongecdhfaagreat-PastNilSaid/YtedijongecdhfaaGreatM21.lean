/-
  An abstract interpreter of loaded code, proved to tell the truth; a part of the proof that redpencillaw48.PastNil returns true, whatever the input.
-/
import Derived.Test.YtedijongecdhfaaGreatM20
import Derived.LoopNIn
import Derived.RangeFuncLeaves
namespace Go.VI
open Go Go.RowKit

def DrawS (P : Program) (T : Tab) (run : Job → Res) : Prop := ∀ (ops : Array Oper) ts h q, drawO T run ops.toList ts h = some q → q.1.rd = ts.rd ∧
  ∀ (ro : Option Nat) m w0 ι w a id, ts.rd = ro.isSome → Ga P w0 h ι w → AR P h ι w ts a → (Code.region id ops true).wpIn (FW ro) m P (QC P w0 h ι w .normal q.1 q.2) a w

structure LoopR (P : Program) (n : Nat) (run : Job → Res) : Prop where
  loop : ∀ b ts h e ts' h', run (.code (.loop b) ts h) = some (.code e ts' h') → ∀ (ro : Option Nat) m w0 ι w a, ts.rd = ro.isSome → Ga P w0 h ι w → AR P h ι w ts a →
    Code.roundsIn (FW ro) m P b (QC P w0 h ι w e ts' h') n a w

section
variable {P : Program} {T : Tab} {w0 : World} {h h' : Hp} {ι ι' : Nat → Nat} {w w' : World} {ts : Fr} {a : Act}

theorem roundsIn_mono {F : Fence} {m : Nat} {c : Code} {Q Q' : Exit → Act → World → Prop} (hq : ∀ e a w, Q e a w → Q' e a w) : ∀ n a w, Code.roundsIn F m P c Q n a w → Code.roundsIn F m P c Q' n a w
  | 0, _, _, e => e
  | n + 1, a, w, e => wpIn_mono e (fun x a' w' hx => by
      cases x with
      | normal => exact roundsIn_mono hq n a' w' hx
      | _ => exact hq _ _ _ hx)

theorem QC.trans {e : Ex} {ts2 : Fr} {h2 : Hp} (ev : Evo h ι w h' ι' w') {x : Exit} {a' : Act} {w2 : World} (hq : QC P w0 h' ι' w' e ts2 h2 x a' w2) : QC P w0 h ι w e ts2 h2 x a' w2 := by
  obtain ⟨rfl, ι2, h1, h2, h3⟩ := hq
  exact ⟨rfl, ι2, h1, ev.trans h2, h3⟩

/-- The order of two codes. -/
theorem seq_sound {run : Job → Res} (S : SoundR P run) {x b : Code} {e : Ex} {ts' : Fr} {r : Res} (hr : run (.code x ts h) = r) (e1 : c_seq run b r = some (.code e ts' h')) :
    ts'.rd = ts.rd ∧ ∀ (ro : Option Nat) m w0 ι w a, ts.rd = ro.isSome → Ga P w0 h ι w → AR P h ι w ts a → x.wpIn (FW ro) m P (Exit.then (b.wpIn (FW ro) m P (QC P w0 h ι w e ts' h')) (QC P w0 h ι w e ts' h')) a w := by
  unfold c_seq at e1
  split at e1
  · rename_i ts1 h1
    obtain ⟨hd1, s1⟩ := S.code _ _ _ _ _ _ hr
    obtain ⟨hd2, s2⟩ := S.code _ _ _ _ _ _ e1
    refine ⟨hd2.trans hd1, fun ro m w0 ι w a hro g ar => wpIn_mono (s1 ro m w0 ι w a hro g ar) (fun y a' w' hy => ?_)⟩
    obtain ⟨rfl, ι', g', ev, ar'⟩ := hy
    exact wpIn_mono (s2 ro m w0 ι' w' a' (hd1.trans hro) g' ar') (fun z a2 w2 hz => hz.trans ev)
  · rename_i hne
    subst e1
    obtain ⟨hd1, s1⟩ := S.code _ _ _ _ _ _ hr
    refine ⟨hd1, fun ro m w0 ι w a hro g ar => wpIn_mono (s1 ro m w0 ι w a hro g ar) (fun y a' w' hy => ?_)⟩
    cases e with
    | normal => exact absurd rfl (hne _ _)
    | ret => obtain ⟨rfl, hy⟩ := hy; exact ⟨rfl, hy⟩
    | exit id => obtain ⟨rfl, hy⟩ := hy; exact ⟨rfl, hy⟩

theorem loop_sound {n : Nat} {run : Job → Res} (S : SoundR P run) (L : LoopR P n run) {b : Code} {e : Ex} {ts' : Fr} (e1 : c_seq run (.loop b) (run (.code b ts h)) = some (.code e ts' h')) :
    ∀ (ro : Option Nat) m w0 ι w a, ts.rd = ro.isSome → Ga P w0 h ι w → AR P h ι w ts a → Code.roundsIn (FW ro) m P b (QC P w0 h ι w e ts' h') (n + 1) a w := by
  intro ro m w0 ι w a hro g ar
  rw [roundsIn_succ]
  generalize hr : run (.code b ts h) = r at e1
  unfold c_seq at e1
  split at e1
  · rename_i ts1 h1
    obtain ⟨hd1, s1⟩ := S.code _ _ _ _ _ _ hr
    refine wpIn_mono (s1 ro m w0 ι w a hro g ar) (fun y a' w' hy => ?_)
    obtain ⟨rfl, ι', g', ev, ar'⟩ := hy
    exact roundsIn_mono (fun z a2 w2 hz => hz.trans ev) _ _ _ (L.loop _ _ _ _ _ _ e1 ro m w0 ι' w' a' (hd1.trans hro) g' ar')
  · rename_i hne
    subst e1
    obtain ⟨hd1, s1⟩ := S.code _ _ _ _ _ _ hr
    refine wpIn_mono (s1 ro m w0 ι w a hro g ar) (fun y a' w' hy => ?_)
    cases e with
    | normal => exact absurd rfl (hne _ _)
    | ret => obtain ⟨rfl, hy⟩ := hy; exact ⟨rfl, hy⟩
    | exit id => obtain ⟨rfl, hy⟩ := hy; exact ⟨rfl, hy⟩

theorem run_setObj_loop {b : Nat} {r : Loop} (hb : w.heap[b]? = some (.loop r)) (o' : Obj) : (setObj b o').run P w = .ok () (ChangeMaps.setBlock w b o') := by
  simp [setObj, Sem.run, hb, ChangeMaps.setBlock]

theorem Ga.loop (g : Ga P w0 h ι w) {l : Nat} {st : LoopState} {pend : Option Code} {f : Fr} {ps : List Tmp} {asg body : Code} {d : Nat} (e : h.get l = some (.loop st pend f ps asg body d)) :
    ∃ fn tm, w.heap[ι l]? = some (.loop { state := st, pending := pend, fn := fn, tmps := tm, params := ps.toArray, assign := asg, body := body, defers := ι d }) ∧ FrR P h ι w f tm ∧ d < h.n ∧ isArr h d = false := by
  obtain ⟨ob, h1, h2⟩ := g.obj l _ e
  cases h2 with
  | loop _ _ fn _ _ _ _ hf hd hk => exact ⟨_, _, h1, hf, hd, hk⟩

theorem endLoop_sound (g : Ga P w0 h ι w) {l : Nat} {st : LoopState} {pend : Option Code} {f : Fr} {ps : List Tmp} {asg body : Code} {d : Nat} (e : h.get l = some (.loop st pend f ps asg body d)) (hst : st ≠ .busy) :
    ∃ w4, (Instr.endLoop (ι l)).run P w = .ok pend w4 ∧ Ga P w0 (h.set l (.loop .exhausted pend f ps asg body d)) ι w4 ∧ Evo h ι w (h.set l (.loop .exhausted pend f ps asg body d)) ι w4 := by
  obtain ⟨fn, tm, h1, h2, h3, h4⟩ := g.loop e
  obtain ⟨g', ev⟩ := g.put (o' := .loop .exhausted pend f ps asg body d) (ob' := .loop { state := .exhausted, pending := pend, fn := fn, tmps := tm, params := ps.toArray, assign := asg, body := body, defers := ι d }) e rfl (Nat.le_refl _) rfl h1 (Nat.le_refl _) (only_setBlock h1) (.loop _ _ _ _ _ _ _ h2 h3 h4)
  refine ⟨_, ?_, g', ev⟩
  unfold Instr.endLoop Instr.getLoop
  cases st <;> first | (exact absurd rfl hst) | simp [getObj, Sem.run, h1, run_setObj_loop h1]

def loopNew (ts : Fr) (h : Hp) (ps : Array Tmp) (asg body : Code) : AO := .loop .ready none { n := ts.n, t := ts.t, ms := [], rd := true } ps.toList asg body h.n

theorem enter_sound (g : Ga P w0 h ι w) (ar : AR P h ι w ts a) (fnid : FuncId) (ps : Array Tmp) (asg body : Code) :
    ∃ ι2 w2, (Instr.enterLoop fnid a.tmps ps asg body none).run P w = .ok (ι2 (h.n + 1), [{ target := .collected (ι2 h.n), args := #[] }]) w2 ∧
      Ga P w0 ((h.new (.dfr true)).new (loopNew ts h ps asg body)) ι2 w2 ∧ Evo h ι w ((h.new (.dfr true)).new (loopNew ts h ps asg body)) ι2 w2 ∧
      isArr ((h.new (.dfr true)).new (loopNew ts h ps asg body)) (h.n + 1) = false ∧ isArr ((h.new (.dfr true)).new (loopNew ts h ps asg body)) h.n = false := by
  have g1 := g.new (.dfr true) (.deferred (some [])) (.dfr true)
  have ev1 := Evo.new g (.dfr true) (.deferred (some []))
  have ar1 := ar.evo ev1
  have hfr : FrR P (h.new (.dfr true)) (up ι h.n w.heap.size) { w with heap := w.heap.push (.deferred (some [])) } { n := ts.n, t := ts.t, ms := [], rd := true } a.tmps := ⟨ar1.f.size, ar1.f.at_⟩
  have hob := ObR.loop (P := P) .ready none fnid ps.toList asg body h.n hfr (by show h.n < h.n + 1; omega) (by unfold isArr; rw [new_get])
  have g2 := g1.new _ _ hob
  have ev2 := Evo.new g1 (.loop .ready none { n := ts.n, t := ts.t, ms := [], rd := true } ps.toList asg body h.n) (.loop { state := .ready, pending := none, fn := fnid, tmps := a.tmps, params := ps.toList.toArray, assign := asg, body := body, defers := up ι h.n w.heap.size h.n })
  refine ⟨_, _, ?_, g2, ev1.trans ev2, ?_, ?_⟩
  · unfold Instr.enterLoop
    have h8 : up (up ι h.n w.heap.size) (h.new (.dfr true)).n ({ w with heap := w.heap.push (.deferred (some [])) } : World).heap.size (h.n + 1) = w.heap.size + 1 := by
      show up _ (h.n + 1) _ (h.n + 1) = _
      rw [up_same]; simp
    have h9 : up (up ι h.n w.heap.size) (h.new (.dfr true)).n ({ w with heap := w.heap.push (.deferred (some [])) } : World).heap.size h.n = w.heap.size := by
      rw [up_ne (by show h.n ≠ h.n + 1; omega), up_same]
    rw [h8, h9, up_same]
    simp [newObj, Sem.run]
    rfl
  · unfold isArr; rw [show h.n + 1 = (h.new (.dfr true)).n from rfl]; unfold loopNew; rw [new_get]
  · unfold isArr loopNew; rw [hget_new, if_neg (by show h.n ≠ h.n + 1; omega), new_get]

/-- A range over a function. -/
theorem rangeFunc_sound {run : Job → Res} (S : SoundR P run) {f : Operand} {ps : Array Tmp} {asg body : Code} {e : Ex} {ts' : Fr} (e1 : c_rangeFunc run ts h f ps asg body = some (.code e ts' h')) :
    ts'.rd = ts.rd ∧ ∀ (ro : Option Nat) m w0 ι w a, ts.rd = ro.isSome → Ga P w0 h ι w → AR P h ι w ts a → (Code.rangeFunc f ps asg body).wpIn (FW ro) m P (QC P w0 h ι w e ts' h') a w := by
  unfold c_rangeFunc at e1
  rw [bc_eq] at e1
  split at e1
  · cases e1
  rename_i hrd
  have hrd : ts.rd = false := by simpa using hrd
  obtain ⟨s, h1, e1⟩ := ob_some_iff.1 e1
  obtain ⟨fv, h2, h1⟩ := ob_some_iff.1 h1
  change (callG run [.one (.fn (.yield (h.n + 1)) [])] ((h.new (.dfr true)).new (loopNew ts h ps asg body)) s).ob (fun q => endLoop run (h.n + 1) { n := ts.n, t := ts.t, ms := h.n :: ts.ms, rd := ts.rd } (orH ((h.new (.dfr true)).new (loopNew ts h ps asg body)) q.2)) = _ at e1
  obtain ⟨q, h3, e1⟩ := ob_some_iff.1 e1
  cases s with
  | fn fx caps =>
    cases fx with
    | func k =>
      have h3' : outV (run (.call k ([.one (.fn (.yield (h.n + 1)) [])] ++ caps.map .one) ((h.new (.dfr true)).new (loopNew ts h ps asg body)))) = some q := h3
      unfold outV at h3'
      split at h3'
      case h_2 => cases h3'
      rename_i v oh hr
      cases h3'
      obtain ⟨⟨fn, code, hf, hn, hb⟩, hcall⟩ := S.call _ _ _ _ _ hr
      simp only at e1
      unfold endLoop at e1
      split at e1
      case h_2 => cases e1
      rename_i st pend tmps ps' asg' body' d hget
      have hst : st ≠ .busy ∧ ((pend = none ∧ some (Out.code Ex.normal { n := ts.n, t := ts.t, ms := h.n :: ts.ms, rd := ts.rd } ((orH ((h.new (.dfr true)).new (loopNew ts h ps asg body)) oh).set (h.n + 1) (.loop .exhausted pend tmps ps' asg' body' d))) = some (.code e ts' h')) ∨
          (∃ c, pend = some c ∧ run (.code c { n := ts.n, t := ts.t, ms := h.n :: ts.ms, rd := ts.rd } ((orH ((h.new (.dfr true)).new (loopNew ts h ps asg body)) oh).set (h.n + 1) (.loop .exhausted pend tmps ps' asg' body' d))) = some (.code e ts' h'))) := by
        cases st <;> simp only at e1 <;> try (cases e1; done)
        all_goals
          refine ⟨by simp, ?_⟩
          cases pend with
          | none => exact .inl ⟨rfl, e1⟩
          | some c => exact .inr ⟨c, rfl, e1⟩
      refine ⟨?_, fun ro m w0 ι w a hro g ar => ?_⟩
      · rcases hst.2 with ⟨_, h4⟩ | ⟨c, _, h4⟩
        · cases h4; rfl
        · exact (S.code _ _ _ _ _ _ h4).1
      · have hro' : ro = none := by cases ro with | none => rfl | some l => rw [hrd] at hro; cases hro
        subst hro'
        refine wpIn_rangeFunc (fun fnid _ => ?_)
        have hfv := (env_of ar.f f fv h2).one? h1
        obtain ⟨f', vs, h5, h6, h7⟩ := hfv.fn_inv
        cases h6
        obtain ⟨ι2, w2, he, g2, ev, hk1, hk0⟩ := enter_sound g ar fnid ps asg body
        have hy : TR P ((h.new (.dfr true)).new (loopNew ts h ps asg body)) ι2 w2 (.one (.fn (.yield (h.n + 1)) [])) (.func (.yield (ι2 (h.n + 1))) #[] #[]) :=
          .one (.fn (vs := []) (.yield (h.n + 1) (by show h.n + 1 < h.n + 1 + 1; omega) hk1) .nil)
        have hargs := All2.app (.cons hy .nil) (vb_one (all2_imp (fun _ _ hb => hb.evo ev) h7))
        have hcall' := hcall none (m - 1) w0 _ _ _ g2 hargs
        refine ⟨ι2 (h.n + 1), [{ target := .collected (ι2 h.n), args := #[] }], w2, { target := .fn (.func k) vs.toArray, args := #[.func (.yield (ι2 (h.n + 1))) #[] #[]] }, w2, k, #[.func (.yield (ι2 (h.n + 1))) #[] #[]] ++ vs.toArray, w2, he, ?_, fun _ _ => trivial, invoke_func hf hn hb _ _ _, (fun hd => by cases hd), ?_⟩
        · unfold rangeCall resolve
          simp [h5, Deferred.ofValue]
          rfl
        · have h9 : ([Value.func (.yield (ι2 (h.n + 1))) #[] #[]] ++ vs).toArray = #[.func (.yield (ι2 (h.n + 1))) #[] #[]] ++ vs.toArray := by simp
          rw [h9] at hcall'
          refine hcall'.mono (fun y w3 hy => ?_)
          obtain ⟨u, ι3, rfl, g3, ev3, _⟩ := hy
          have hi1 : ι3 (h.n + 1) = ι2 (h.n + 1) := ev3.nonArr (by show h.n + 1 < h.n + 1 + 1; omega) hk1
          have hi0 : ι3 h.n = ι2 h.n := ev3.nonArr (by show h.n < h.n + 1 + 1; omega) hk0
          obtain ⟨w4, hend, g4, ev4⟩ := endLoop_sound g3 hget hst.1
          rw [hi1] at hend
          have evt := (ev.trans ev3).trans ev4
          have ev34 := ev3.trans ev4
          have art := ar.evo evt
          have ar4 : AR P ((orH ((h.new (.dfr true)).new (loopNew ts h ps asg body)) oh).set (h.n + 1) (.loop .exhausted pend tmps ps' asg' body' d)) ι3 w4 { n := ts.n, t := ts.t, ms := h.n :: ts.ms, rd := ts.rd } { a with defers := [{ target := .collected (ι2 h.n), args := #[] }] ++ a.defers } := by
            refine ⟨⟨art.f.size, art.f.at_⟩, ?_, ?_⟩
            · show _ = List.map _ (h.n :: ts.ms)
              rw [List.map_cons, ← art.d, hi0]
              rfl
            · intro d' hd'
              rcases List.mem_cons.1 hd' with rfl | hd'
              · exact ⟨Nat.lt_of_lt_of_le (by show h.n < h.n + 1 + 1; omega) ev34.n, (ev34.kind h.n (by show h.n < h.n + 1 + 1; omega)).trans hk0⟩
              · exact art.m d' hd'
          refine ⟨pend, w4, hend, ?_⟩
          rcases hst.2 with ⟨rfl, h4⟩ | ⟨c, rfl, h4⟩
          · cases h4
            exact ⟨rfl, ι3, g4, evt, ar4⟩
          · obtain ⟨_, s4⟩ := S.code _ _ _ _ _ _ h4
            exact wpIn_mono (s4 none m w0 ι3 w4 _ hrd g4 ar4) (fun z a2 w5 hz => hz.trans evt)
    | _ => cases h3
  | _ => cases h3

/-- One layer of the code. -/
theorem code_sound {n : Nat} {run : Job → Res} (S : SoundR P run) (L : LoopR P n run) (hT : TabOk P T) (hF : FlatOk P T) (hK : KeyOk P T) (hD : DrawS P T run) {c : Code} {e : Ex} {ts' : Fr} (e1 : codeStep { T := T, run := run, ts := ts, h := h } c = some (.code e ts' h')) :
    ts'.rd = ts.rd ∧ ∀ (ro : Option Nat) m w0 ι w a, ts.rd = ro.isSome → Ga P w0 h ι w → AR P h ι w ts a → c.wpIn (FW ro) m P (QC P w0 h ι w e ts' h') a w := by
  cases c <;> simp only [codeStep] at e1 <;> try (cases e1; done)
  case skip => cases e1; exact ⟨rfl, fun ro m w0 ι w a hro g ar => wpIn_skip ⟨rfl, ι, g, Evo.refl _ _ _, ar⟩⟩
  case region id ops d =>
    have e1' : (bc d (drawO T run ops.toList ts h) (opsO T run ops.toList ops.toList ts h)).ob (fun q => (some (Out.code .normal q.1 q.2) : Option Out)) = some (Out.code e ts' h') := e1
    obtain ⟨q, h1, h2⟩ := ob_some_iff.1 e1'
    cases h2
    cases d with
    | true =>
      obtain ⟨hd, s⟩ := hD _ _ _ _ h1
      exact ⟨hd, fun ro m w0 ι w a hro g ar => s ro m w0 ι w a id hro g ar⟩
    | false =>
      refine ⟨opsO_rd _ h1, fun ro m w0 ι w a hro g ar => wpIn_region ?_⟩
      have := ops_sound S hT hF hK (ro := ro) (m := m) (Q := QC P w0 h ι w .normal q.1 q.2) ops.toList 0 rfl h1 g ar (fun a' ι' w' h1 h2 h3 => ⟨rfl, ι', h1, h2, h3⟩)
      rw [List.range_eq_range']
      simpa using this
  case seq x b =>
    obtain ⟨hd, s⟩ := seq_sound S rfl e1
    exact ⟨hd, fun ro m w0 ι w a hro g ar => wpIn_seq (s ro m w0 ι w a hro g ar)⟩
  case cond x y z =>
    have e1' : ((evalO ts x).ob TV.bool?).ob (fun t => run (.code (bc t y z) ts h)) = some (.code e ts' h') := e1
    obtain ⟨t, h1, h2⟩ := ob_some_iff.1 e1'
    obtain ⟨v, h3, h1⟩ := ob_some_iff.1 h1
    obtain ⟨hd, s⟩ := S.code _ _ _ _ _ _ h2
    refine ⟨hd, fun ro m w0 ι w a hro g ar => wpIn_cond (t := t) ((env_of ar.f x v h3).bool? h1) ?_⟩
    have := s ro m w0 ι w a hro g ar
    rw [bc_eq] at this
    exact this
  case block id b =>
    have e1' : c_block id (run (.code b ts h)) = some (.code e ts' h') := e1
    generalize hr : run (.code b ts h) = r at e1'
    unfold c_block at e1'
    split at e1'
    · rename_i i ts1 h1
      cases e1'
      obtain ⟨hd, s⟩ := S.code _ _ _ _ _ _ hr
      refine ⟨hd, fun ro m w0 ι w a hro g ar => wpIn_block (wpIn_mono (s ro m w0 ι w a hro g ar) (fun y a' w' hy => ?_))⟩
      obtain ⟨rfl, hy⟩ := hy
      show (if i = id then _ else _)
      rw [bc_eq]
      split
      · rename_i h2; rw [if_pos (by simpa using h2)]; exact ⟨rfl, hy⟩
      · rename_i h2; rw [if_neg (by simpa using h2)]; exact ⟨rfl, hy⟩
    · rename_i hne
      subst e1'
      obtain ⟨hd, s⟩ := S.code _ _ _ _ _ _ hr
      refine ⟨hd, fun ro m w0 ι w a hro g ar => wpIn_block (wpIn_mono (s ro m w0 ι w a hro g ar) (fun y a' w' hy => ?_))⟩
      obtain ⟨rfl, hy⟩ := hy
      cases e with
      | normal => exact ⟨rfl, hy⟩
      | ret => exact ⟨rfl, hy⟩
      | exit i => exact absurd rfl (hne _ _ _)
  case loop b =>
    obtain ⟨hd, _⟩ := seq_sound S (b := .loop b) rfl e1
    exact ⟨hd, fun ro m w0 ι w a hro g ar => wpIn_loop_rounds (n + 1) (loop_sound S L e1 ro m w0 ι w a hro g ar)⟩
  case rangeFunc f ps x y => exact rangeFunc_sound S e1
  case exit id => cases e1; exact ⟨rfl, fun ro m w0 ι w a hro g ar => wpIn_exit ⟨rfl, ι, g, Evo.refl _ _ _, ar⟩⟩
  case ret => cases e1; exact ⟨rfl, fun ro m w0 ι w a hro g ar => wpIn_ret ⟨rfl, ι, g, Evo.refl _ _ _, ar⟩⟩
end
end Go.VI
