/-
  An abstract interpreter of loaded code, proved to tell the truth; a part of the proof that redpencillaw48.PastNil returns true, whatever the input.
-/
import Derived.Test.YtedijongecdhfaaGreatM12
namespace Go.VI
open Go Go.RowKit

section
variable {P : Program} {T : Tab} {w0 : World} {h : Hp} {ι : Nat → Nat} {w : World} {t : TypeId} {r : Env} {ρ : Operand → Value}

/-- The cells that a slice shows. -/
theorem rowS_some (g : Ga P w0 h ι w) {x : SV} {v : Value} {size n : Nat} {cs : List SV} (hx : VR P h ι w x v) (e : rowS h size x = some cs) (hn : lenS x = some n) :
    ∃ a cap vs, v = .slice a n cap ∧ All2 (VR P h ι w) cs vs ∧ vs.length = n * size ∧ ∀ k, (Builtin.firstCells size n (.slice a n cap)).run P { w with drawn := k } = .ok vs.toArray { w with drawn := k } := by
  cases x <;> simp only [rowS] at e <;> try (cases e; done)
  case sl =>
    obtain ⟨c, h1, e⟩ := ob_some_iff.1 e
    obtain ⟨h2, e⟩ := bc_none_iff.1 e
    cases e
    cases hn
    rw [Nat.ble_eq] at h2
    obtain ⟨a, cap, h12, h13, h14, h15, h16⟩ := sl_inv hx
    have ho := arr?_some h1
    obtain ⟨c', h3, h4⟩ := g.row ho
    obtain ⟨vs, h5, h6, h7⟩ := row_part h4 _ (n * size) h2
    refine ⟨some a, cap, vs, h12, h6, h5, fun k => ?_⟩
    unfold Builtin.firstCells
    rw [← h5]
    apply run_loadCells_list
    intro j u hj
    rcases (h16 (by rw [age_of ho]; rfl)).1 with h17 | h17
    · have h0 : n = 0 := by omega
      subst h0
      have : vs = [] := List.eq_nil_of_length_eq_zero (by simpa using h5)
      subst this
      simp at hj
    · rw [h17, Addr.add_lit, cell_at (w := { w with drawn := k }) (by exact h3)]
      exact h7 j u hj
  case slz =>
    cases e
    cases hn
    obtain ⟨a, ha⟩ := hx.slz_inv
    refine ⟨a, 0, [], ha, .nil, by simp, fun k => ?_⟩
    cases a with
    | none => rfl
    | some a => simp [Builtin.firstCells, loadCells, loadCellsFrom]
  case lit =>
    obtain ⟨e1, e⟩ := bc_none_iff.1 e
    cases e
    have h1 := slice_lit e1 hx.lit_inv.1
    have h2 := slice_lit e1 rfl
    subst h2
    cases hn
    exact ⟨none, 0, [], h1, .nil, by simp, fun k => rfl⟩

theorem runes_some : ∀ {cs : List SV} {vs : List Value} {b z : ByteArray}, runesB cs b = some z → All2 (VR P h ι w) cs vs → ∃ ns : List Int, vs = ns.map (Value.int .i32) ∧ z = ns.foldl (fun r n => r ++ Utf8.encode n) b
  | [], _, b, z, e, hv => by cases hv; cases e; exact ⟨[], rfl, rfl⟩
  | x :: cs, _, b, z, e, hv => by
    cases hv with
    | cons a t =>
      cases x <;> try (cases e; done)
      case int k n =>
        cases k <;> try (cases e; done)
        obtain ⟨ns, h1, h2⟩ := runes_some (show runesB cs (b ++ Utf8.encode n) = some z from e) t
        exact ⟨n :: ns, by rw [a.int_inv, h1]; rfl, h2⟩

theorem conv_rest {e : TypeId} {src dst : TypeId} (hs : P.underlying src = some (.slice e)) (he : P.underlying e = some (.int .i32)) (hd : P.underlying dst = some .string) (g : Ga P w0 h ι w) {x : SV} {v : Value} {cs : List SV} {z : ByteArray}
    (hx : VR P h ι w x v) (h1 : rowS h 1 x = some cs) (h2 : runesB cs .empty = some z) : (convert src dst v).run P w = .ok (.string z) w := by
  have hn : ∃ n, lenS x = some n := by
    cases x <;> simp only [rowS] at h1 <;> try (cases h1; done)
    case sl => exact ⟨_, rfl⟩
    case slz => exact ⟨_, rfl⟩
    case lit =>
      obtain ⟨e1, e⟩ := bc_none_iff.1 h1
      have h2 := slice_lit e1 rfl
      subst h2
      exact ⟨_, rfl⟩
  obtain ⟨n, hn⟩ := hn
  obtain ⟨a, cap, vs, h3, h4, h5, h6⟩ := rowS_some g hx h1 hn
  obtain ⟨ns, h7, h8⟩ := runes_some h2 h4
  rw [h3, run_convert_runes_string w src dst e _ _ _ hs he hd]
  have h9 := h6 w.drawn
  cases a with
  | none =>
    have h10 : vs = [] := by
      have : (#[] : Array Value) = vs.toArray := by
        have h11 : (Builtin.firstCells 1 n (.slice none n cap)).run P w = .ok #[] w := rfl
        have h12 := h11.symm.trans h9
        cases h12
        rfl
      simpa using congrArg Array.toList this.symm
    subst h10
    have : ns = [] := by cases ns with | nil => rfl | cons _ _ => simp at h7
    subst this
    rw [h8]
    rfl
  | some a =>
    have h10 : (loadCells a n).run P w = .ok (ns.map (Value.int .i32)).toArray w := by
      have : (Builtin.firstCells 1 n (.slice (some a) n cap)).run P w = .ok vs.toArray w := h9
      unfold Builtin.firstCells at this
      rw [Nat.mul_one] at this
      rw [this, h7]
    rw [run_runesToString w a n cap ns h10, h8]
    rfl

theorem g_convert (hT : TabOk P T) (g : Ga P w0 h ι w) (hρ : EnvR P h ι w r ρ) {src dst : TypeId} {x : Operand} {q : TV × Option Hp} (e : x_convert T r h src dst x = some q) :
    Good P w0 h ι w (do Pure.pure (.value (← convert src dst (ρ x)))) q.1 q.2 := by
  unfold x_convert at e
  obtain ⟨ts, h1, e⟩ := ob_some_iff.1 e
  obtain ⟨td, h2, e⟩ := ob_some_iff.1 e
  obtain ⟨s, h5, e⟩ := ob_some_iff.1 e
  obtain ⟨xv, h6, h5⟩ := ob_some_iff.1 h5
  obtain ⟨e, hq⟩ := keep_some e
  rw [hq]
  obtain ⟨z, h7, h8⟩ := om_some_iff.1 e
  rw [← h8]
  have hv := (hρ x xv h6).one? h5
  have hk := (hT dst td h2).kind
  obtain ⟨d, _, hd, _⟩ := (hT src ts h1).run_underlying (w := w)
  have rest : ∀ (o : Option SV), o = some z → (o = match td.k with
    | .str => ts.k.slice?.ob fun e => (T e).ob fun te => match te.k with
      | .int .i32 => (rowS h 1 s).ob fun cs => (runesB cs .empty).om .str
      | _ => none
    | _ => none) → ∃ u, (convert src dst (ρ x)).run P w = .ok u w ∧ VR P h ι w z u := by
    intro o ho he
    rw [ho] at he
    replace he := he.symm
    split at he
    · rename_i hkd
      obtain ⟨el, e1, he⟩ := ob_some_iff.1 he
      obtain ⟨te, e2, he⟩ := ob_some_iff.1 he
      split at he
      · rename_i hke
        obtain ⟨cs, e3, he⟩ := ob_some_iff.1 he
        obtain ⟨b, e4, he⟩ := om_some_iff.1 he
        subst he
        rw [hkd] at hk
        have hks := (hT src ts h1).kind
        rw [K.slice?_some e1] at hks
        have hkee := (hT el te e2).kind
        rw [hke] at hkee
        exact ⟨_, conv_rest hks hkee hk g hv e3 e4, .s b⟩
      · cases he
    · cases he
  have hfin : ∃ u, (convert src dst (ρ x)).run P w = .ok u w ∧ VR P h ι w z u := by
    cases s with
    | int k n =>
      obtain ⟨k', e1, e2⟩ := ob_some_iff.1 (show td.k.int?.ob (fun k => ii k n) = some z from h7)
      cases e2
      rw [K.int?_some e1] at hk
      rw [hv.int_inv, wrS_eq]
      refine ⟨_, ?_, .i _ _⟩
      unfold convert
      simp [hd, Go.run_underlying hk, Conv.intToInt]
    | str b =>
      have h7' : (match td.k with | .str => some (SV.str b) | _ => none) = some z := h7
      split at h7'
      · rename_i hkd
        cases h7'
        rw [hkd] at hk
        rw [hv.str_inv]
        refine ⟨_, ?_, .s _⟩
        unfold convert
        simp [hd, Go.run_underlying hk]
      · cases h7'
    | bool b => exact rest _ h7 rfl
    | lit b => exact rest _ h7 rfl
    | ptr _ _ _ => exact rest _ h7 rfl
    | sl _ _ _ _ => exact rest _ h7 rfl
    | slz => exact rest _ h7 rfl
    | mp _ => exact rest _ h7 rfl
    | fn _ _ => exact rest _ h7 rfl
  obtain ⟨u, h9, h10⟩ := hfin
  exact Good.val g h9 (.one h10)
end
end Go.VI
