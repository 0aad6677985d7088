/-
  An abstract interpreter of loaded code, proved to tell the truth; a part of the proof that redpencillaw48.PastNil returns true, whatever the input.
-/
import Derived.Test.YtedijongecdhfaaGreatM11
import Derived.Laws.Cover4
import Derived.Laws.Slices
import Derived.Laws.Strings
namespace Go.VI
open Go Go.RowKit

section
variable {P : Program} {T : Tab} {w0 : World} {h : Hp} {ι : Nat → Nat} {w : World} {t : TypeId} {r : Env} {ρ : Operand → Value}

theorem run_sliceBounds_ok (isSlice : Bool) {len cap l hh : Nat} {lo hi : Option Operand} (hl : natO r 0 lo = some l) (hh' : natO r len hi = some hh) (hρ : EnvR P h ι w r ρ) (h1 : l ≤ hh) (h2 : hh ≤ len) (h3 : len ≤ cap) :
    (Instr.sliceBounds isSlice len cap (lo.map ρ) (hi.map ρ) none).run P w = .ok (l, hh, cap) w := by
  have hB : ∀ (k : IntKind) (n y : Nat) (c : BoundsCode), n ≤ y → (Instr.sliceBound (.int k (n : Int)) y c).run P w = .ok n w := by
    intro k n y c hn
    rw [run_sliceBound w k (n : Int) y c (by omega) (by omega)]
    simp
  unfold Instr.sliceBounds
  cases lo with
  | none => 
    cases hl
    cases hi with
    | none => cases hh'; simp
    | some b =>
      obtain ⟨bv, e1, e2⟩ := ob_some_iff.1 (show (r b).ob TV.nat? = some hh from hh')
      obtain ⟨k, e3⟩ := (hρ b bv e1).nat? e2
      simp [e3, hB k hh cap _ (by omega)]
  | some a =>
    obtain ⟨av, e1, e2⟩ := ob_some_iff.1 (show (r a).ob TV.nat? = some l from hl)
    obtain ⟨k, e3⟩ := (hρ a av e1).nat? e2
    cases hi with
    | none => cases hh'; simp [e3, hB k l len _ (by omega)]
    | some b =>
      obtain ⟨bv, e4, e5⟩ := ob_some_iff.1 (show (r b).ob TV.nat? = some hh from hh')
      obtain ⟨k', e6⟩ := (hρ b bv e4).nat? e5
      simp [e3, e6, hB k' hh cap _ (by omega), hB k l hh _ (by omega)]

theorem run_sliceBounds_okm (isSlice : Bool) {len cap l hh m : Nat} {lo : Option Operand} {hi mx : Operand} (hl : natO r 0 lo = some l) (hh' : (r hi).ob TV.nat? = some hh) (hm : (r mx).ob TV.nat? = some m) (hρ : EnvR P h ι w r ρ)
    (h1 : l ≤ hh) (h2 : hh ≤ m) (h3 : m ≤ cap) :
    (Instr.sliceBounds isSlice len cap (lo.map ρ) (some (ρ hi)) (some (ρ mx))).run P w = .ok (l, hh, m) w := by
  have hB : ∀ (k : IntKind) (n y : Nat) (c : BoundsCode), n ≤ y → (Instr.sliceBound (.int k (n : Int)) y c).run P w = .ok n w := by
    intro k n y c hn
    rw [run_sliceBound w k (n : Int) y c (by omega) (by omega)]
    simp
  obtain ⟨bv, e1, e2⟩ := ob_some_iff.1 hh'
  obtain ⟨k, e3⟩ := (hρ hi bv e1).nat? e2
  obtain ⟨cv, e4, e5⟩ := ob_some_iff.1 hm
  obtain ⟨k', e6⟩ := (hρ mx cv e4).nat? e5
  unfold Instr.sliceBounds
  cases lo with
  | none => 
    cases hl
    simp [e3, e6, hB k' m cap _ h3, hB k hh m _ h2]
  | some a =>
    obtain ⟨av, e7, e8⟩ := ob_some_iff.1 (show (r a).ob TV.nat? = some l from hl)
    obtain ⟨k2, e9⟩ := (hρ a av e7).nat? e8
    simp [e3, e6, e9, hB k' m cap _ h3, hB k hh m _ h2, hB k2 l hh _ h1]

/-- A slice of a slice. -/
def cutV (a : Option Addr) (l hh m s : Nat) : Value := .slice (if m = l then a else a.map (·.add (l * s))) (hh - l) (m - l)

theorem run_slice_row {e : TypeId} (hk : P.underlying t = some (.slice e)) {a : Option Addr} {len cap l hh m s : Nat} {lo hi mx : Option Value} (hs : (sizeOf e).run P w = .ok s w)
    (hb : (Instr.sliceBounds true len cap lo hi mx).run P w = .ok (l, hh, m) w) : (Instr.sliceAt t (.slice a len cap) lo hi mx).run P w = .ok (cutV a l hh m s) w := by
  unfold Instr.sliceAt Instr.slice
  simp [Go.run_underlying hk, hb, hs, cutV]

theorem eltB_elt {id : Nat} {e : TypeId} (h1 : eltB h id e = true) : elt h id = e := by
  unfold eltB at h1; unfold elt
  split at h1
  · rename_i hh; rw [hh]; simpa using h1
  · cases h1

theorem cut_sl {id ep off len cap l hh : Nat} {a : Addr} {s : Nat} (h13 : id < h.n) (h14 : ep ≤ age h id) (h15 : len ≤ cap) (h16 : ep = age h id → (cap = 0 ∨ a = ⟨ι id, off, none⟩) ∧ off + cap * P.cellsOf (elt h id) ≤ bsz w (ι id))
    (hs : P.cellsOf (elt h id) = s) (h1 : l ≤ hh) (h2 : hh ≤ len) : VR P h ι w (.sl id ep (off + l * s) (hh - l)) (cutV (some a) l hh cap s) := by
  have : cutV (some a) l hh cap s = .slice (some (if cap = l then a else a.add (l * s))) (hh - l) (cap - l) := by
    unfold cutV; split <;> rfl
  rw [this]
  refine .b (.sl _ _ _ _ _ _ h13 h14 (by omega) (fun he => ?_))
  obtain ⟨h17, h18⟩ := h16 he
  constructor
  · by_cases hc : cap = l
    · left; omega
    · right
      rw [if_neg hc]
      rcases h17 with h17 | h17
      · omega
      · rw [h17]; unfold Addr.add; split
        · rename_i h0; simp
        · rfl
  · rw [hs] at h18 ⊢
    have : l * s + (cap - l) * s = cap * s := by rw [← Nat.add_mul]; congr 1; omega
    omega

theorem slice_lit {v x : Value} (e : isNilSl x = true) (hv : v = x) : v = .slice none 0 0 := by
  subst hv; unfold isNilSl at e; split at e
  · rfl
  · cases e

theorem g_slice (hT : TabOk P T) (g : Ga P w0 h ι w) (hρ : EnvR P h ι w r ρ) {x : Operand} {lo hi mx : Option Operand} {q : TV × Option Hp} (e : x_slice T r h t x lo hi mx = some q) :
    Good P w0 h ι w (do Pure.pure (.value (← Instr.sliceAt t (ρ x) (lo.map ρ) (hi.map ρ) (mx.map ρ)))) q.1 q.2 := by
  unfold x_slice at e
  obtain ⟨ti, h1, e⟩ := ob_some_iff.1 e
  obtain ⟨s, h5, e⟩ := ob_some_iff.1 e
  obtain ⟨xv, h6, h5⟩ := ob_some_iff.1 h5
  obtain ⟨len, h7, e⟩ := ob_some_iff.1 e
  obtain ⟨l, h8, e⟩ := ob_some_iff.1 e
  obtain ⟨hh, h9, e⟩ := ob_some_iff.1 e
  obtain ⟨m, h10, e⟩ := ob_some_iff.1 e
  obtain ⟨hb, e⟩ := bc_none_iff.1 e
  obtain ⟨e, hq⟩ := keep_some e
  rw [hq]
  obtain ⟨z, h11, h12⟩ := om_some_iff.1 e
  rw [← h12]
  have hv := (hρ x xv h6).one? h5
  have hk := (hT t ti h1).kind
  simp only [Bool.and_eq_true, Nat.ble_eq] at hb
  obtain ⟨⟨hb1, hb2⟩, hb3⟩ := hb
  -- the bounds, whatever the slice's capacity
  have hbd : ∀ (sl : Bool) (cap : Nat), len ≤ cap → ∃ m', (Instr.sliceBounds sl len cap (lo.map ρ) (hi.map ρ) (mx.map ρ)).run P w = .ok (l, hh, m') w ∧ hh ≤ m' ∧ m' ≤ cap ∧ (m = none → m' = cap ∧ mx = none) ∧ (∀ (y : Nat), m = some y → m' = y) := by
    intro sl cap hc
    cases mx with
    | none => cases h10; exact ⟨cap, run_sliceBounds_ok sl h8 h9 hρ hb1 hb2 hc, by omega, by omega, fun _ => ⟨rfl, rfl⟩, fun y hy => by cases hy⟩
    | some y =>
      obtain ⟨hi', e1, e2⟩ := ob_some_iff.1 (show hi.ob (fun _ => ((r y).ob TV.nat?).om some) = some m from h10)
      obtain ⟨mm, e3, e4⟩ := om_some_iff.1 e2
      subst e4
      subst e1
      simp only [Bool.and_eq_true, Nat.ble_eq] at hb3
      exact ⟨mm, run_sliceBounds_okm sl h8 h9 e3 hρ hb1 hb3.1 (by omega), hb3.1, by omega, ⟨(fun h => by cases h), (fun z hz => by cases hz; rfl)⟩⟩
  cases s <;> simp only [cutS] at h11 <;> try (cases h11; done)
  case sl =>
    obtain ⟨el, e1, h11⟩ := ob_some_iff.1 h11
    obtain ⟨te, e2, h11⟩ := ob_some_iff.1 h11
    obtain ⟨a, cap, h12, h13, h14, h15, h16⟩ := sl_inv hv
    rw [K.slice?_some e1] at hk
    cases h7
    obtain ⟨m', e3, e4, e5, e6, e7⟩ := hbd true cap h15
    have hrun := run_slice_row (t := t) hk (a := some a) ((hT el te e2).sizeOf (w := w)) e3
    rw [h12]
    cases m with
    | none =>
      obtain ⟨e8, h11⟩ := bc_none_iff.1 h11
      cases h11
      obtain ⟨rfl, _⟩ := e6 rfl
      refine Good.val g hrun (.one (cut_sl h13 h14 h15 h16 ?_ hb1 hb2))
      rw [eltB_elt e8, (hT el te e2).cellsOf]
    | some mm =>
      obtain ⟨e8, h11⟩ := bc_none_iff.1 h11
      cases h11
      have := e7 _ rfl
      rw [Nat.beq_eq] at e8
      refine Good.val g hrun (.one ?_)
      have e9 : hh - l = 0 := by omega
      have e10 : m' - l = 0 := by omega
      unfold cutV
      rw [e9, e10]
      exact .b (.slz _)
  case slz =>
    obtain ⟨el, e1, h11⟩ := ob_some_iff.1 h11
    obtain ⟨te, e2, h11⟩ := ob_some_iff.1 h11
    cases h11
    cases h7
    obtain ⟨a, ha⟩ := hv.slz_inv
    rw [K.slice?_some e1] at hk
    obtain ⟨m', e3, e4, e5, e6, e7⟩ := hbd true 0 (Nat.le_refl _)
    have hrun := run_slice_row (t := t) hk (a := a) ((hT el te e2).sizeOf (w := w)) e3
    rw [ha]
    refine Good.val g hrun (.one ?_)
    have e9 : hh - l = 0 := by omega
    have e10 : m' - l = 0 := by omega
    unfold cutV
    rw [e9, e10]
    exact .b (.slz _)
  case lit =>
    obtain ⟨e0, h11⟩ := bc_none_iff.1 h11
    obtain ⟨el, e1, h11⟩ := ob_some_iff.1 h11
    obtain ⟨te, e2, h11⟩ := ob_some_iff.1 h11
    cases h11
    have ha := slice_lit e0 hv.lit_inv.1
    have hy := slice_lit e0 rfl
    subst hy
    cases h7
    rw [K.slice?_some e1] at hk
    obtain ⟨m', e3, e4, e5, e6, e7⟩ := hbd true 0 (Nat.le_refl _)
    have hrun := run_slice_row (t := t) hk (a := none) ((hT el te e2).sizeOf (w := w)) e3
    rw [ha]
    refine Good.val g hrun (.one ?_)
    have e9 : hh - l = 0 := by omega
    have e10 : m' - l = 0 := by omega
    unfold cutV
    rw [e9, e10]
    have e11 : (if m' = l then (none : Option Addr) else none.map (fun (a : Addr) => a.add (l * te.size))) = none := by split <;> rfl
    rw [e11]
    exact .b (.lit _ rfl)
  case str =>
    split at h11
    · rename_i hkk
      rw [hkk] at hk
      cases m with
      | none =>
        cases h11
        cases h7
        obtain ⟨m', e3, e4, e5, e6, e7⟩ := hbd false _ (Nat.le_refl _)
        obtain ⟨_, rfl⟩ := e6 rfl
        refine Good.val g ?_ (.one (.s _))
        rw [hv.str_inv]
        simp only [Option.map_none] at e3
        unfold Instr.sliceAt Instr.slice
        simp [Go.run_underlying hk, e3]
      | some _ => cases h11
    · cases h11
end
end Go.VI
