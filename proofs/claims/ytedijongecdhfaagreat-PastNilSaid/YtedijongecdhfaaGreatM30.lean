/-
  An abstract interpreter of loaded code, proved to tell the truth; a part of the proof that redpencillaw48.PastNil returns true, whatever the input.
-/
import Derived.Test.YtedijongecdhfaaGreatM29
namespace Go.VI
open Go Go.RowKit

theorem kindsC_ints : ∀ {ks : List IntKind} {xs : List SV}, kindsC xs (ks.map fun k => .int k 0) = true → ∃ ns : List Int, ns.length = ks.length ∧ xs = List.zipWith SV.int ks ns
  | [], [], _ => ⟨[], rfl, rfl⟩
  | [], x :: xs, h => by cases h
  | k :: ks, [], h => by cases h
  | k :: ks, x :: xs, h => by
    obtain ⟨h1, h2⟩ := bc_and (show bc (kindC x (.int k 0)) (kindsC xs (ks.map fun k => .int k 0)) false = true from h)
    obtain ⟨ns, h3, h4⟩ := kindsC_ints h2
    cases x with
    | int k' n =>
      have : ikEq k' k = true := h1
      rw [ikEq_iff] at this
      subst this
      exact ⟨n :: ns, by simp [h3], by simp [h4]⟩
    | _ => cases h1

theorem eqC_ints : ∀ {ks : List IntKind} {ns ms : List Int}, ns.length = ks.length → ms.length = ks.length → eqC (List.zipWith SV.int ks ns) (List.zipWith SV.int ks ms) = some (decide (ns = ms))
  | [], ns, ms, h1, h2 => by
    have : ns = [] := List.eq_nil_of_length_eq_zero (by simpa using h1)
    subst this
    have : ms = [] := List.eq_nil_of_length_eq_zero (by simpa using h2)
    subst this
    rfl
  | k :: ks, ns, ms, h1, h2 => by
    cases ns with
    | nil => simp at h1
    | cons n ns =>
      cases ms with
      | nil => simp at h2
      | cons m ms =>
        have ih := eqC_ints (ks := ks) (ns := ns) (ms := ms) (by simpa using h1) (by simpa using h2)
        have e1 : eqS (.int k n) (.int k m) = some (n == m) := by
          show bc (ikEq k k) (some (eqI n m)) none = _
          rw [ikEq_iff.2 rfl, eqI_iff]; rfl
        show (match eqS (.int k n) (.int k m), eqC (List.zipWith SV.int ks ns) (List.zipWith SV.int ks ms) with | some a, some b => some (a && b) | _, _ => none) = _
        rw [e1, ih]
        by_cases h : n = m
        · subst h; simp
        · simp [h]

theorem lay_zip {ks : List IntKind} {ns : List Int} : Lay ks ns ((List.zipWith SV.int ks ns).map cellV).toArray 0 := by
  intro j k x hk hx
  rw [Nat.zero_add, List.getElem?_toArray, List.getElem?_map, List.getElem?_zipWith, hk, hx]
  rfl

theorem flat_of {P : Program} {t : TypeId} {ti : TI} {ks : List IntKind} (ok : TiOk P t ti) (hk : ti.k.isAgg = true) (hz : ti.zero = ks.map fun k => .int k 0) (hs : ti.size = ks.length) (h : EqA P 10000 t ks) (hg : P.eqGuardType P.depth t = false) : EqAgg P t ti ∧ KeyAgg P t ti := by
  have hpart : ∀ (ns : List Int) (w : World), ns.length = ks.length → (part t ((List.zipWith SV.int ks ns).map cellV).toArray 0).run P w = .ok (.agg ((List.zipWith SV.int ks ns).map cellV).toArray) w := by
    intro ns w hn
    have ha := ok.isAgg (w := w)
    rw [hk] at ha
    have hsz := ok.sizeOf (w := w)
    have : ((List.zipWith SV.int ks ns).map cellV).toArray.extract 0 (0 + ti.size) = ((List.zipWith SV.int ks ns).map cellV).toArray := by
      rw [Array.extract_eq_self_of_le (by simp [hs]; omega)]
    unfold part
    simp only [Sem.run_bind, ha, Result.andThen_ok, if_true, hsz, this, Sem.run_pure]
  constructor
  · refine ⟨hg, fun xs ys b h1 h2 h3 w => ?_⟩
    rw [hz] at h1 h2
    obtain ⟨ns, hn, rfl⟩ := kindsC_ints h1
    obtain ⟨ms, hm, rfl⟩ := kindsC_ints h2
    rw [eqC_ints hn hm] at h3
    cases h3
    obtain ⟨a, b, p1, p2, p3, _⟩ := h ns ms _ _ 0 w hn hm lay_zip lay_zip
    rw [hpart ns w hn] at p1
    rw [hpart ms w hm] at p2
    cases p1
    cases p2
    exact p3
  · intro xs h1 em w
    rw [hz] at h1
    obtain ⟨ns, hn, rfl⟩ := kindsC_ints h1
    obtain ⟨a, b, p1, _, _, p4⟩ := h ns ns _ _ 0 w hn hn lay_zip lay_zip
    rw [hpart ns w hn] at p1
    cases p1
    exact p4 em
end Go.VI
