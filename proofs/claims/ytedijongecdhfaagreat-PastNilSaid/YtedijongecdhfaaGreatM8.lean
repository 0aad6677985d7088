/-
  An abstract interpreter of loaded code, proved to tell the truth; a part of the proof that redpencillaw48.PastNil returns true, whatever the input.
-/
import Derived.Test.YtedijongecdhfaaGreatM7
namespace Go.VI
open Go Go.RowKit

noncomputable def cellV (x : SV) : Value := match x with
  | .int k n => .int k n | .bool b => .bool b | .str s => .string s | _ => undef

/-- '==' at a type of plain cells. -/
def EqAgg (P : Program) (t : TypeId) (ti : TI) : Prop := P.eqGuardType P.depth t = false ∧ ∀ (xs ys : List SV) (b : Bool), kindsC xs ti.zero = true → kindsC ys ti.zero = true → eqC xs ys = some b →
  ∀ w, (Op.equal t (.agg (xs.map cellV).toArray) (.agg (ys.map cellV).toArray)).run P w = .ok b w
def FlatOk (P : Program) (T : Tab) : Prop := ∀ t ti, T t = some ti → ti.flat = true → ti.k.isAgg = true → EqAgg P t ti

section
variable {P : Program} {T : Tab} {h : Hp} {ι : Nat → Nat} {w : World} {t : TypeId} {ti : TI}

theorem kindC_cell {x z : SV} {v : Value} (hk : kindC x z = true) (hx : VR P h ι w x v) : v = cellV x := by
  cases x <;> simp only [kindC] at hk <;> try (cases hk; done)
  · exact hx.int_inv
  · exact hx.bool_inv
  · exact hx.str_inv
theorem kindsC_cells : ∀ {xs zs : List SV} {vs : List Value}, kindsC xs zs = true → All2 (VR P h ι w) xs vs → vs = xs.map cellV
  | [], _, _, _, hx => by cases hx; rfl
  | x :: xs, [], _, hk, _ => by cases hk
  | x :: xs, z :: zs, _, hk, hx => by
    cases hx with
    | cons a b =>
      obtain ⟨h1, h2⟩ : kindC x z = true ∧ kindsC xs zs = true := by
        have : bc (kindC x z) (kindsC xs zs) false = true := hk
        rw [bc_eq] at this; split at this
        · exact ⟨by assumption, this⟩
        · cases this
      rw [kindC_cell h1 a, kindsC_cells h2 b]; rfl

theorem guard_plain {op : BinOp} {X Y : Operand} {a b : Value} (ha : ∀ cs, a ≠ .agg cs) (hn : a ≠ .nilIface) : (eqGuard op t X Y a b).run P w = .ok () w := by
  unfold eqGuard
  cases op <;> simp <;> (split <;> first | (exact absurd rfl hn) | (exact absurd rfl (ha _)) | rfl)
theorem guard_agg {op : BinOp} {X Y : Operand} {a b : Array Value} (hg : P.eqGuardType P.depth t = false) : (eqGuard op t X Y (.agg a) (.agg b)).run P w = .ok () w := by
  unfold eqGuard
  cases op <;> simp [program, Sem.run, hg]

theorem VR.not_nilIface_bin {tg : Nat} {op : BinOp} {x y z : SV} {v : Value} (e : binS tg op x y = some z) (hx : VR P h ι w x v) : v ≠ .nilIface := by
  rintro rfl
  cases x with
  | lit u =>
    obtain ⟨h1, _⟩ := hx.lit_inv
    subst h1
    have e' : binN tg op (.lit .nilIface) y = some z := e
    unfold binN at e'
    obtain ⟨h0, e'⟩ := bc_none_iff.1 e'
    obtain ⟨h1, e'⟩ := bc_none_iff.1 e'
    rw [blt_iff] at h0; rw [Nat.beq_eq] at h1
    simp only [tagS, tagV] at h1; omega
  | fn f cs => obtain ⟨_, _, h1, _⟩ := hx.fn_inv; cases h1
  | _ => cases hx with | b hb => cases hb

theorem p_binS {op : BinOp} {x y z : SV} {vx vy : Value} (ok : TiOk P t ti) (hx : VR P h ι w x vx) (hy : VR P h ι w y vy) (e : binS (tagK ti.k) op x y = some z) :
    ∃ u, (binOp op t vx vy).run P w = .ok u w ∧ VR P h ι w z u := by
  cases x with
  | int k a =>
    have e' : binI op k a y = some z := e
    cases y <;> simp only [binI] at e' <;> try (cases e'; done)
    rename_i k' b
    obtain ⟨h1, h2⟩ := bc_none_iff.1 e'
    rw [hx.int_inv, hy.int_inv]
    cases hs : isShift op with
    | true => exact p_shift hs h2 t
    | false =>
      rw [hs, bc_eq] at h1
      split at h1
      · rename_i hk; rw [ikEq_iff] at hk; subst hk; exact p_int hs h2 t
      · cases h1
  | bool a =>
    have e' : binB (tagK ti.k) op a y = some z := e
    cases y <;> simp only [binB] at e' <;> try (cases e'; done)
    rename_i b
    obtain ⟨h1, h2⟩ := bc_none_iff.1 e'
    rw [Nat.beq_eq] at h1
    rw [hx.bool_inv, hy.bool_inv]
    exact p_bool ok h1 h2
  | str a =>
    have e' : binT op a y = some z := e
    cases y <;> simp only [binT] at e' <;> try (cases e'; done)
    rw [hx.str_inv, hy.str_inv]
    exact p_str e'
  | lit _ => exact p_nil ok hx hy e
  | ptr _ _ _ => exact p_nil ok hx hy e
  | sl _ _ _ _ => exact p_nil ok hx hy e
  | slz => exact p_nil ok hx hy e
  | mp _ => exact p_nil ok hx hy e
  | fn _ _ => exact p_nil ok hx hy e

theorem p_bin (hT : TabOk P T) (hF : FlatOk P T) (ht : T t = some ti) {op : BinOp} {X Y : Operand} {x y z : TV} {vx vy : Value} (hx : TR P h ι w x vx) (hy : TR P h ι w y vy) (e : binO ti op x y = some z) :
    ∃ u, (do eqGuard op t X Y vx vy; binOp op t vx vy : Sem Value).run P w = .ok u w ∧ TR P h ι w z u := by
  have ok := hT t ti ht
  cases x with
  | one a =>
    cases y with
    | one b =>
      obtain ⟨s, h1, rfl⟩ := om_some_iff.1 (show (binS (tagK ti.k) op a b).om TV.one = some z from e)
      have ha := hx.one? rfl
      have hb := hy.one? rfl
      obtain ⟨u, h2, h3⟩ := p_binS (w := w) ok ha hb h1
      refine ⟨u, ?_, .one h3⟩
      have hag : ∀ cs, vx ≠ .agg cs := fun cs hc => by have := ha.oneCell; rw [hc] at this; cases this
      rw [Sem.run_bind, guard_plain hag (VR.not_nilIface_bin h1 ha)]; exact h2
    | _ => cases e
  | agg xs =>
    cases y with
    | agg ys =>
      obtain ⟨s, h1, rfl⟩ := om_some_iff.1 (show (binA ti op xs ys).om TV.one = some z from e)
      unfold binA at h1
      obtain ⟨f1, h1⟩ := bc_none_iff.1 h1
      obtain ⟨hag, h1⟩ := bc_none_iff.1 h1
      obtain ⟨f2, h1⟩ := bc_none_iff.1 h1
      obtain ⟨f3, h1⟩ := bc_none_iff.1 h1
      obtain ⟨vs, rfl, ha⟩ := hx.agg? rfl
      obtain ⟨us, rfl, hb⟩ := hy.agg? rfl
      have ea := kindsC_cells f2 ha
      have eb := kindsC_cells f3 hb
      obtain ⟨g1, g2⟩ := hF t ti ht f1 hag
      obtain ⟨c, hc, _⟩ := eqOp_some h1
      have hq := g2 xs ys c f2 f3 hc w
      rw [← ea, ← eb] at hq
      obtain ⟨u, h2, h3⟩ := eqlneq_run (P := P) (h := h) (ι := ι) (w := w) (t := t) h1 (fun c' hc' => by rw [hc] at hc'; cases hc'; exact hq) (fun op' ho => by rcases ho with rfl | rfl <;> rfl)
      refine ⟨u, ?_, .one h3⟩
      rw [Sem.run_bind, guard_agg g1]; exact h2
    | _ => cases e
  | tup _ => cases e

theorem p_un {op : UnOp} {x z : SV} {v : Value} (hx : VR P h ι w x v) (e : unS op x = some z) : ∃ u, (Op.unary op v).run P w = .ok u w ∧ VR P h ι w z u := by
  cases op <;> simp only [unS] at e <;> try (cases e; done)
  case neg =>
    cases x <;> simp only at e <;> try (cases e; done)
    rw [hx.int_inv]
    exact ⟨_, by simp [Op.unary, Op.intArith], ii_VR e⟩
  case not =>
    cases x <;> simp only at e <;> try (cases e; done)
    rw [hx.bool_inv]
    cases e
    exact ⟨_, by simp [Op.unary], .bb _⟩
end
end Go.VI
