/-
  An abstract interpreter of loaded code, proved to tell the truth; a part of the proof that redpencillaw48.PastNil returns true, whatever the input.
-/
import Derived.Test.YtedijongecdhfaaGreatM6
namespace Go.VI
open Go Go.RowKit

section
variable {P : Program} {T : Tab} {h : Hp} {ι : Nat → Nat} {w : World} {t : TypeId} {ti : TI}

theorem keep_some {v : Option TV} {r : TV × Option Hp} (e : keep v = some r) : v = some r.1 ∧ r.2 = none := by
  unfold keep at e
  obtain ⟨a, h1, h2⟩ := om_some_iff.1 e
  subst h2; exact ⟨h1, rfl⟩

theorem eqOp_some {op : BinOp} {b : Option Bool} {z : SV} (e : eqOp op b = some z) : ∃ c, b = some c ∧ ((op = .eql ∧ z = .bool c) ∨ (op = .neq ∧ z = .bool !c)) := by
  unfold eqOp at e
  split at e
  · cases e; exact ⟨_, rfl, .inl ⟨rfl, rfl⟩⟩
  · cases e; exact ⟨_, rfl, .inr ⟨rfl, rfl⟩⟩
  · cases e

/-- '==' and '!=' of values that are told by 'equal'. -/
theorem eqlneq_run {op : BinOp} {b : Option Bool} {z : SV} {x y : Value} (e : eqOp op b = some z) (hq : ∀ c, b = some c → (Op.equal t x y).run P w = .ok c w)
    (hb : ∀ op', op' = BinOp.eql ∨ op' = BinOp.neq → binOp op' t x y = (if op' = .eql then (do pure (.bool (← Op.equal t x y))) else (do pure (.bool (!(← Op.equal t x y)))))) :
    ∃ u, (binOp op t x y).run P w = .ok u w ∧ VR P h ι w z u := by
  obtain ⟨c, h1, ⟨rfl, rfl⟩ | ⟨rfl, rfl⟩⟩ := eqOp_some e
  · refine ⟨_, ?_, .bb c⟩
    rw [hb _ (.inl rfl)]; simp [hq c h1]
  · refine ⟨_, ?_, .bb _⟩
    rw [hb _ (.inr rfl)]; simp [hq c h1]

theorem equal_eq (t : TypeId) (x y : Value) : Op.equal t x y = Op.equalIn (9999 + 1) t x y := rfl

def kindV : Nat → Bool → Value → Prop
  | 1, true, v => v = .pointer none
  | 1, false, v => ∃ a, v = .pointer (some a)
  | 2, true, v => ∃ n c, v = .slice none n c
  | 2, false, v => ∃ a n c, v = .slice (some a) n c
  | 3, true, v => v = .map none
  | 3, false, v => ∃ r, v = .map (some r)
  | 4, true, v => v = .nilFunc
  | 4, false, v => ∃ f a b, v = .func f a b
  | _, _, _ => False

theorem tagV_inv {v : Value} {tg : Nat} (h0 : 0 < tg) (e : tagV v = tg) : nilV v = some true ∧ kindV tg true v := by
  cases v with
  | pointer a => cases a <;> simp only [tagV] at e <;> subst e <;> first | omega | exact ⟨rfl, rfl⟩
  | slice a n c => cases a <;> simp only [tagV] at e <;> subst e <;> first | omega | exact ⟨rfl, _, _, rfl⟩
  | map a => cases a <;> simp only [tagV] at e <;> subst e <;> first | omega | exact ⟨rfl, rfl⟩
  | nilFunc => simp only [tagV] at e; subst e; exact ⟨rfl, rfl⟩
  | _ => simp only [tagV] at e; omega

theorem tagS_inv {x : SV} {v : Value} {tg : Nat} (hx : VR P h ι w x v) (h0 : 0 < tg) (e : tagS x = tg) : ∃ b, isNil x = some b ∧ kindV tg b v := by
  cases x with
  | ptr i ep o => simp only [tagS] at e; subst e; cases hx with | b hb => cases hb; exact ⟨false, rfl, _, rfl⟩
  | sl i ep o l => simp only [tagS] at e; subst e; cases hx with | b hb => cases hb; exact ⟨false, rfl, _, _, _, rfl⟩
  | mp i => simp only [tagS] at e; subst e; cases hx with | b hb => cases hb; exact ⟨false, rfl, _, rfl⟩
  | fn f cs => simp only [tagS] at e; subst e; obtain ⟨f', vs, rfl, _, _⟩ := hx.fn_inv; exact ⟨false, rfl, _, _, _, rfl⟩
  | lit u =>
    obtain ⟨rfl, _⟩ := hx.lit_inv
    obtain ⟨h1, h2⟩ := tagV_inv h0 (show tagV v = tg from e)
    exact ⟨true, h1, h2⟩
  | _ => simp only [tagS] at e; omega

theorem kind_eq (d : Nat) {tg : Nat} {b b' c : Bool} {v v' : Value} (hk : KOk P t ti.k) (htg : tagK ti.k = tg) (hv : kindV tg b v) (hv' : kindV tg b' v') (e : eqN (some b) (some b') = some c) :
    (Op.equalIn (d + 1) t v v').run P w = .ok c w ∧ binOp .eql t v v' = (do pure (.bool (← Op.equal t v v'))) ∧ binOp .neq t v v' = (do pure (.bool (!(← Op.equal t v v')))) := by
  match tg, b, b', hv, hv' with
  | 1, false, false, _, _ => simp [eqN] at e
  | 1, true, true, hv, hv' =>
    simp only [kindV] at hv hv'
    obtain rfl := hv
    obtain rfl := hv'
    cases ek : ti.k <;> rw [ek] at hk htg <;> simp only [tagK] at htg <;> try omega
    obtain ⟨_, hu⟩ := hk
    cases e; exact ⟨by simp [Op.equalIn, run_underlying hu], rfl, rfl⟩
  | 1, true, false, hv, hv' =>
    simp only [kindV] at hv hv'
    obtain rfl := hv
    obtain ⟨_, rfl⟩ := hv'
    cases ek : ti.k <;> rw [ek] at hk htg <;> simp only [tagK] at htg <;> try omega
    obtain ⟨_, hu⟩ := hk
    cases e; exact ⟨by simp [Op.equalIn, run_underlying hu], rfl, rfl⟩
  | 1, false, true, hv, hv' =>
    simp only [kindV] at hv hv'
    obtain ⟨_, rfl⟩ := hv
    obtain rfl := hv'
    cases ek : ti.k <;> rw [ek] at hk htg <;> simp only [tagK] at htg <;> try omega
    obtain ⟨_, hu⟩ := hk
    cases e; exact ⟨by simp [Op.equalIn, run_underlying hu], rfl, rfl⟩
  | 2, false, false, _, _ => simp [eqN] at e
  | 2, true, true, hv, hv' =>
    simp only [kindV] at hv hv'
    obtain ⟨_, _, rfl⟩ := hv
    obtain ⟨_, _, rfl⟩ := hv'
    cases ek : ti.k <;> rw [ek] at hk htg <;> simp only [tagK] at htg <;> try omega
    cases e; exact ⟨by simp [Op.equalIn, run_underlying hk], rfl, rfl⟩
  | 2, true, false, hv, hv' =>
    simp only [kindV] at hv hv'
    obtain ⟨_, _, rfl⟩ := hv
    obtain ⟨_, _, _, rfl⟩ := hv'
    cases ek : ti.k <;> rw [ek] at hk htg <;> simp only [tagK] at htg <;> try omega
    cases e; exact ⟨by simp [Op.equalIn, run_underlying hk], rfl, rfl⟩
  | 2, false, true, hv, hv' =>
    simp only [kindV] at hv hv'
    obtain ⟨_, _, _, rfl⟩ := hv
    obtain ⟨_, _, rfl⟩ := hv'
    cases ek : ti.k <;> rw [ek] at hk htg <;> simp only [tagK] at htg <;> try omega
    cases e; exact ⟨by simp [Op.equalIn, run_underlying hk], rfl, rfl⟩
  | 3, false, false, _, _ => simp [eqN] at e
  | 3, true, true, hv, hv' =>
    simp only [kindV] at hv hv'
    obtain rfl := hv
    obtain rfl := hv'
    cases ek : ti.k <;> rw [ek] at hk htg <;> simp only [tagK] at htg <;> try omega
    cases e; exact ⟨by simp [Op.equalIn, run_underlying hk], rfl, rfl⟩
  | 3, true, false, hv, hv' =>
    simp only [kindV] at hv hv'
    obtain rfl := hv
    obtain ⟨_, rfl⟩ := hv'
    cases ek : ti.k <;> rw [ek] at hk htg <;> simp only [tagK] at htg <;> try omega
    cases e; exact ⟨by simp [Op.equalIn, run_underlying hk], rfl, rfl⟩
  | 3, false, true, hv, hv' =>
    simp only [kindV] at hv hv'
    obtain ⟨_, rfl⟩ := hv
    obtain rfl := hv'
    cases ek : ti.k <;> rw [ek] at hk htg <;> simp only [tagK] at htg <;> try omega
    cases e; exact ⟨by simp [Op.equalIn, run_underlying hk], rfl, rfl⟩
  | 4, false, false, _, _ => simp [eqN] at e
  | 4, true, true, hv, hv' =>
    simp only [kindV] at hv hv'
    obtain rfl := hv
    obtain rfl := hv'
    cases ek : ti.k <;> rw [ek] at hk htg <;> simp only [tagK] at htg <;> try omega
    obtain ⟨_, _, _, hu⟩ := hk
    cases e; exact ⟨by simp [Op.equalIn, run_underlying hu], rfl, rfl⟩
  | 4, true, false, hv, hv' =>
    simp only [kindV] at hv hv'
    obtain rfl := hv
    obtain ⟨_, _, _, rfl⟩ := hv'
    cases ek : ti.k <;> rw [ek] at hk htg <;> simp only [tagK] at htg <;> try omega
    obtain ⟨_, _, _, hu⟩ := hk
    cases e; exact ⟨by simp [Op.equalIn, run_underlying hu], rfl, rfl⟩
  | 4, false, true, hv, hv' =>
    simp only [kindV] at hv hv'
    obtain ⟨_, _, _, rfl⟩ := hv
    obtain rfl := hv'
    cases ek : ti.k <;> rw [ek] at hk htg <;> simp only [tagK] at htg <;> try omega
    obtain ⟨_, _, _, hu⟩ := hk
    cases e; exact ⟨by simp [Op.equalIn, run_underlying hu], rfl, rfl⟩
  | 0, _, _, hv, _ => exact absurd hv (by simp [kindV])
  | n + 5, _, _, hv, _ => exact absurd hv (by simp [kindV])

theorem p_nil {op : BinOp} {x y z : SV} {vx vy : Value} (ok : TiOk P t ti) (hx : VR P h ι w x vx) (hy : VR P h ι w y vy) (e : binN (tagK ti.k) op x y = some z) :
    ∃ u, (binOp op t vx vy).run P w = .ok u w ∧ VR P h ι w z u := by
  unfold binN at e
  obtain ⟨h0, e⟩ := bc_none_iff.1 e
  obtain ⟨h1, e⟩ := bc_none_iff.1 e
  obtain ⟨h2, e⟩ := bc_none_iff.1 e
  rw [blt_iff] at h0
  rw [Nat.beq_eq] at h1 h2
  obtain ⟨b, e1, k1⟩ := tagS_inv hx h0 h1
  obtain ⟨b', e2, k2⟩ := tagS_inv hy h0 h2
  rw [e1, e2] at e
  obtain ⟨c, hc, _⟩ := eqOp_some e
  obtain ⟨q1, q2, q3⟩ := kind_eq (w := w) 9999 ok.kind rfl k1 k2 hc
  exact eqlneq_run e (fun c' hc' => by rw [hc] at hc'; cases hc'; rw [equal_eq]; exact q1) (fun op' ho => by
    rcases ho with rfl | rfl
    · exact q2
    · exact q3)

theorem p_bool {op : BinOp} {a b : Bool} {z : SV} (ok : TiOk P t ti) (htg : tagK ti.k = 5) (e : eqOp op (some (a == b)) = some z) :
    ∃ u, (binOp op t (.bool a) (.bool b)).run P w = .ok u w ∧ VR P h ι w z u := by
  have hk := ok.kind
  cases ek : ti.k <;> rw [ek] at hk htg <;> simp only [tagK] at htg <;> try omega
  refine eqlneq_run e (fun c hc => ?_) (fun op' ho => by rcases ho with rfl | rfl <;> rfl)
  cases hc
  have hd : ∀ d, (Op.equalIn (d + 1) t (.bool a) (.bool b)).run P w = .ok (a == b) w := fun d => by simp [Op.equalIn, run_underlying hk]
  rw [equal_eq]; exact hd 9999

theorem p_str {op : BinOp} {a b : ByteArray} {z : SV} (e : strOp op a b = some z) : ∃ u, (binOp op t (.string a) (.string b)).run P w = .ok u w ∧ VR P h ι w z u := by
  cases op <;> simp only [strOp] at e <;> try (cases e; done)
  case add =>
    obtain ⟨h1, h2⟩ := bc_none_iff.1 e
    cases h2
    rw [blt_iff] at h1
    refine ⟨_, ?_, .s _⟩
    simp only [binOp, Op.stringOp]
    rw [if_neg (by show ¬ (((a.size + b.size : Nat) : Int) > 9223372036854775807); omega)]; rfl
  case eql => cases e; exact ⟨_, by simp [binOp, Op.stringOp], .bb _⟩
  case neq => cases e; exact ⟨_, by simp [binOp, Op.stringOp], .bb _⟩
end
end Go.VI
