/-
  An abstract interpreter of loaded code, proved to tell the truth; a part of the proof that redpencillaw48.PastNil returns true, whatever the input.
-/
import Derived.Test.YtedijongecdhfaaGreatM15
import Derived.Laws.Append
import Derived.Laws.AppendOwn
namespace Go.VI
open Go Go.RowKit

section
variable {P : Program} {T : Tab} {w0 : World} {h : Hp} {ι : Nat → Nat} {w : World} {t : TypeId} {r : Env} {ρ : Operand → Value}

theorem it_TR (n : Nat) : TR P h ι w (it n) (goInt n) := .one (.i _ _)

theorem slLen_some {x : SV} {v : Value} {n : Nat} (hx : VR P h ι w x v) (e : slLen x = some n) : ∃ a cap, v = .slice a n cap := by
  cases x <;> simp only [slLen] at e <;> try (cases e; done)
  case sl => cases e; obtain ⟨a, cap, h1, _⟩ := sl_inv hx; exact ⟨_, _, h1⟩
  case slz => cases e; obtain ⟨a, h1⟩ := hx.slz_inv; exact ⟨_, _, h1⟩
  case lit =>
    have h1 := hx.lit_inv.1
    unfold litLen at e
    split at e
    · cases e; exact ⟨_, _, h1⟩
    · cases e

theorem g_len (hT : TabOk P T) (g : Ga P w0 h ι w) {ty : TypeId} {x : SV} {u : Value} (hx : VR P h ι w x u) {q : TV × Option Hp} (e : b_len T t h x = some q) :
    Good P w0 h ι w (do Pure.pure (.value (← Builtin.len_ #[t] ty #[u]))) q.1 q.2 := by
  unfold b_len at e
  obtain ⟨ti, h1, e⟩ := ob_some_iff.1 e
  obtain ⟨e, hq⟩ := keep_some e
  rw [hq]
  obtain ⟨n, h2, h3⟩ := om_some_iff.1 e
  rw [← h3]
  have hk := (hT t ti h1).kind
  refine Good.val g ?_ (it_TR n)
  unfold Builtin.len_
  cases hkk : ti.k <;> rw [hkk] at h2 hk <;> simp only [lenK] at h2 <;> try (cases h2; done)
  case slice el =>
    obtain ⟨a, cap, rfl⟩ := slLen_some hx h2
    simp [Go.run_underlying hk]
  case str =>
    cases x <;> simp only [strLen] at h2 <;> try (cases h2; done)
    cases h2
    rw [hx.str_inv]
    simp [Go.run_underlying hk]
  case map kt et =>
    cases x <;> simp only [mapLen] at h2 <;> try (cases h2; done)
    case mp =>
      obtain ⟨mq, h4, h5⟩ := om_some_iff.1 h2
      obtain ⟨ms, h6, h7⟩ := g.map h4
      rw [hx.mp_inv.1]
      have := h7.len
      simp [Go.run_underlying hk, getObj, Sem.run, h6, ← h5, this]
    case lit =>
      obtain ⟨h4, h5⟩ := bc_none_iff.1 h2
      cases h5
      have h6 := hx.lit_inv.1
      unfold isNilMap at h4
      split at h4
      · subst h6; simp [Go.run_underlying hk]
      · cases h4

theorem g_cap (hT : TabOk P T) (g : Ga P w0 h ι w) {ty : TypeId} {x : SV} {u : Value} (hx : VR P h ι w x u) {q : TV × Option Hp} (e : b_cap T t x = some q) :
    Good P w0 h ι w (do Pure.pure (.value (← Builtin.cap_ #[t] ty #[u]))) q.1 q.2 := by
  unfold b_cap at e
  obtain ⟨ti, h1, e⟩ := ob_some_iff.1 e
  obtain ⟨el, h2, e⟩ := ob_some_iff.1 e
  obtain ⟨e, hq⟩ := keep_some e
  rw [hq]
  obtain ⟨n, h3, h4⟩ := om_some_iff.1 e
  rw [← h4]
  have hk := (hT t ti h1).kind
  rw [K.slice?_some h2] at hk
  refine Good.val g ?_ (it_TR n)
  unfold Builtin.cap_
  cases x <;> simp only [capS] at h3 <;> try (cases h3; done)
  case slz =>
    cases h3
    obtain ⟨a, rfl⟩ := hx.slz_inv
    simp [Go.run_underlying hk]
  case lit =>
    obtain ⟨h5, h6⟩ := bc_none_iff.1 h3
    cases h6
    rw [slice_lit h5 hx.lit_inv.1]
    simp [Go.run_underlying hk]

theorem g_min (g : Ga P w0 h ι w) {tys : Array TypeId} {ty : TypeId} {x y z : SV} {u v : Value} (hx : VR P h ι w x u) (hy : VR P h ι w y v) (e : minS x y = some z) :
    Good P w0 h ι w (do Pure.pure (.value (← Builtin.min_ tys ty #[u, v]))) (.one z) none := by
  unfold minS at e
  split at e
  · split at e
    · obtain ⟨_, h2⟩ := bc_none_iff.1 e
      cases h2
      rw [hx.int_inv, hy.int_inv]
      refine Good.val g (by simp [Builtin.min_, Builtin.min2]; rfl) (.one ?_)
      rw [ltI_iff, bc_eq]
      simp only [decide_eq_true_eq]
      exact .i _ _
    · cases e
  · cases e
theorem g_max (g : Ga P w0 h ι w) {tys : Array TypeId} {ty : TypeId} {x y z : SV} {u v : Value} (hx : VR P h ι w x u) (hy : VR P h ι w y v) (e : maxS x y = some z) :
    Good P w0 h ι w (do Pure.pure (.value (← Builtin.max_ tys ty #[u, v]))) (.one z) none := by
  unfold maxS at e
  split at e
  · split at e
    · obtain ⟨_, h2⟩ := bc_none_iff.1 e
      cases h2
      rw [hx.int_inv, hy.int_inv]
      refine Good.val g (by simp [Builtin.max_, Builtin.max2]; rfl) (.one ?_)
      rw [ltI_iff, bc_eq]
      simp only [decide_eq_true_eq]
      exact .i _ _
    · cases e
  · cases e

theorem only_self {b : Nat} {ob : Obj} (hb : w.heap[b]? = some ob) : Only w b ob w := ⟨rfl, rfl, rfl, rfl, hb, fun _ _ => rfl⟩

theorem zero_cells {te : TI} {z : Value} (hz : ZeroOk z te) (n : Nat) : All2 (VR P h ι w) (repCells te.zero n) (Builtin.zeroCells z.cells n).toList := by
  have := rep_all2 (P := P) (h := h) (ι := ι) (w := w) (zero_row hz) n
  have hl : te.zero.length = z.cells.size := by
    have h1 := (zero_row (P := P) (h := h) (ι := ι) (w := w) hz).len
    rw [h1, Array.length_toList]
  rw [hl] at this
  exact this

theorem g_clear (hT : TabOk P T) (g : Ga P w0 h ι w) {ty : TypeId} {x : SV} {u : Value} (hx : VR P h ι w x u) {q : TV × Option Hp} (e : b_clear T t x h = some q) :
    Good P w0 h ι w (do Pure.pure (.value (← Builtin.clear_ #[t] ty #[u]))) q.1 q.2 := by
  unfold b_clear at e
  obtain ⟨ti, h1, e⟩ := ob_some_iff.1 e
  obtain ⟨el, h2, e⟩ := ob_some_iff.1 e
  obtain ⟨te, h3, e⟩ := ob_some_iff.1 e
  have hk := (hT t ti h1).kind
  rw [K.slice?_some h2] at hk
  cases x with
  | sl id ep off len =>
    obtain ⟨c, h4, e⟩ := ob_some_iff.1 (show (arr? h id ep).ob _ = some q from e)
    obtain ⟨h5, e⟩ := bc_none_iff.1 e
    cases e
    simp only [Bool.and_eq_true, Nat.ble_eq, Nat.beq_eq] at h5
    have ho := arr?_some h4
    obtain ⟨a, cap, h12, h13, h14, h15, h16⟩ := sl_inv hx
    obtain ⟨z, hz, hr⟩ := (hT el te h3).zeroValue (w := w)
    have hcs := zero_cells (P := P) (h := h) (ι := ι) (w := w) hz len
    obtain ⟨w', h17, h18, h19⟩ := s_cells g (off := off) ho hcs (by rw [rep_len, h5.2]; exact h5.1)
    refine ⟨undef, ι, w', .inl ?_, h18, h19, und_TR⟩
    rcases (h16 (by rw [age_of ho]; rfl)).1 with h20 | h20
    · have h0 : len = 0 := by omega
      subst h0
      have hw : w' = w := by
        have : (Builtin.zeroCells z.cells 0).toList = [] := by simp [Builtin.zeroCells]
        rw [this] at h17
        have h21 : (storeCells (⟨ι id, off, none⟩ : Addr) []).run P w = .ok () w := rfl
        have := h21.symm.trans h17
        cases this
        rfl
      subst hw
      rw [h12]
      unfold Builtin.clear_
      simp [Go.run_underlying hk]
      rfl
    · subst h20
      rw [h12]
      unfold Builtin.clear_
      cases len with
      | zero =>
        have hw : w' = w := by
          have : (Builtin.zeroCells z.cells 0).toList = [] := by simp [Builtin.zeroCells]
          rw [this] at h17
          have h21 : (storeCells (⟨ι id, off, none⟩ : Addr) []).run P w = .ok () w := rfl
          have := h21.symm.trans h17
          cases this
          rfl
        subst hw
        simp [Go.run_underlying hk]
        rfl
      | succ n =>
        simp [Go.run_underlying hk, hr, h17]
        rfl
  | slz =>
    cases e
    obtain ⟨a, rfl⟩ := hx.slz_inv
    refine Good.val g ?_ und_TR
    unfold Builtin.clear_
    cases a <;> simp [Go.run_underlying hk] <;> rfl
  | lit v =>
    obtain ⟨h4, e⟩ := bc_none_iff.1 (show bc (isNilSl v) _ none = some q from e)
    cases e
    rw [slice_lit h4 hx.lit_inv.1]
    refine Good.val g ?_ und_TR
    unfold Builtin.clear_
    simp [Go.run_underlying hk]
    rfl
  | _ => cases e
end
end Go.VI
