/-
  An abstract interpreter of loaded code, proved to tell the truth; a part of the proof that redpencillaw48.PastNil returns true, whatever the input.
-/
import Derived.Test.YtedijongecdhfaaGreatM28
import Derived.Laws.StructEq
namespace Go.VI
open Go Go.RowKit

/-! Structs of numbers, held against one another and as keys -/
def Lay (ks : List IntKind) (xs : List Int) (A : Array Value) (o : Nat) : Prop := ∀ (j : Nat) (k : IntKind) (x : Int), ks[j]? = some k → xs[j]? = some x → A[o + j]? = some (.int k x)

def EqA (P : Program) (d : Nat) (t : TypeId) (ks : List IntKind) : Prop := ∀ (xs ys : List Int) (A B : Array Value) (o : Nat) (w : World), xs.length = ks.length → ys.length = ks.length → Lay ks xs A o → Lay ks ys B o →
  ∃ a b, (part t A o).run P w = .ok a w ∧ (part t B o).run P w = .ok b w ∧ (Op.equalIn d t a b).run P w = .ok (decide (xs = ys)) w ∧ ∀ em, (Instr.checkKey em d t a).run P w = .ok () w

def offs : Nat → List (TypeId × List IntKind) → List (Bool × TypeId × Nat)
  | _, [] => []
  | o, (t, ks) :: r => (false, t, o) :: offs (o + ks.length) r

section
variable {P : Program}

theorem EqA.int {t : TypeId} {k : IntKind} (hu : P.underlying t = some (.int k)) (d : Nat) : EqA P (d + 1) t [k] := by
  intro xs ys A B o w hx hy ha hb
  match xs, ys, hx, hy with
  | [x], [y], _, _ =>
    have hag : (isAgg t).run P w = .ok false w := by simp [isAgg, Go.run_underlying hu]
    have h1 := ha 0 k x rfl rfl
    have h2 := hb 0 k y rfl rfl
    rw [Nat.add_zero] at h1 h2
    refine ⟨.int k x, .int k y, by simp [part, hag, h1], by simp [part, hag, h2], ?_, fun em => ?_⟩
    · rw [run_equalIn_int w d t k k x y hu]
      by_cases h : x = y
      · subst h; simp
      · simp [h]
    · unfold Instr.checkKey; simp [Go.run_underlying hu]

theorem lay_left {k1 k2 : List IntKind} {xs : List Int} {A : Array Value} {o : Nat} (h : Lay (k1 ++ k2) xs A o) : Lay k1 (xs.take k1.length) A o := by
  intro j k x hk hx
  have hlt : j < k1.length := (List.getElem?_eq_some_iff.1 hk).1
  exact h j k x (by rw [List.getElem?_append_left hlt]; exact hk) (by rw [List.getElem?_take, if_pos hlt] at hx; exact hx)
theorem lay_right {k1 k2 : List IntKind} {xs : List Int} {A : Array Value} {o : Nat} (h : Lay (k1 ++ k2) xs A o) : Lay k2 (xs.drop k1.length) A (o + k1.length) := by
  intro j k x hk hx
  have := h (k1.length + j) k x (by rw [List.getElem?_append_right (by omega)]; simpa using hk) (by rw [List.getElem?_drop] at hx; exact hx)
  rwa [← Nat.add_assoc] at this

theorem eqFs (d : Nat) (w : World) : ∀ (ts : List (TypeId × List IntKind)) (fs : List Field) (o : Nat) (xs ys : List Int) (A B : Array Value), (fs.map fun f => (f.name == "_", f.type, f.offset)) = offs o ts → (∀ p ∈ ts, EqA P d p.1 p.2) →
    xs.length = (ts.flatMap (·.2)).length → ys.length = (ts.flatMap (·.2)).length → Lay (ts.flatMap (·.2)) xs A o → Lay (ts.flatMap (·.2)) ys B o → (Op.eqFields d A B fs).run P w = .ok (decide (xs = ys)) w
  | [], fs, o, xs, ys, A, B, h, _, hx, hy, _, _ => by
    have : fs = [] := by cases fs with | nil => rfl | cons _ _ => simp [offs] at h
    subst this
    have : xs = [] := List.eq_nil_of_length_eq_zero (by simpa using hx)
    subst this
    have : ys = [] := List.eq_nil_of_length_eq_zero (by simpa using hy)
    subst this
    simp [Op.eqFields]
  | (t, ks) :: ts, fs, o, xs, ys, A, B, h, hall, hx, hy, ha, hb => by
    cases fs with
    | nil => simp [offs] at h
    | cons f fs =>
      simp only [offs, List.map_cons, List.cons.injEq, Prod.mk.injEq] at h
      obtain ⟨⟨h1, h2, h3⟩, h4⟩ := h
      rw [List.flatMap_cons] at hx hy ha hb
      rw [List.length_append] at hx hy
      have hn : f.name ≠ "_" := by simpa using h1
      obtain ⟨a, b, p1, p2, p3, _⟩ := hall (t, ks) (by simp) (xs.take ks.length) (ys.take ks.length) A B o w (by simp; simp only at hx; omega) (by simp; simp only at hy; omega) (lay_left ha) (lay_left hb)
      have ih := eqFs d w ts fs (o + ks.length) (xs.drop ks.length) (ys.drop ks.length) A B h4 (fun p hp => hall p (by simp [hp])) (by simp only [List.length_drop]; simp only at hx; omega) (by simp only [List.length_drop]; simp only at hy; omega) (lay_right ha) (lay_right hb)
      simp only [Op.eqFields, hn, ne_eq, not_false_eq_true, if_true, h2, h3, Sem.run_bind, p1, p2, p3, Result.andThen_ok]
      by_cases hq : xs.take ks.length = ys.take ks.length
      · have : (xs.drop ks.length = ys.drop ks.length) ↔ xs = ys := by
          constructor
          · intro h5; rw [← List.take_append_drop ks.length xs, ← List.take_append_drop ks.length ys, hq, h5]
          · intro h5; rw [h5]
        rw [hq]
        simp only [decide_true, Bool.not_true, Bool.false_eq_true, if_false, ih, this]
      · have : xs ≠ ys := fun h5 => hq (by rw [h5])
        simp [hq, this]

theorem EqA.struct {t : TypeId} (hu : P.underlying t = some (.struct (P.fieldsOf t))) (hp : P.stoodInHeld t = false) {ts : List (TypeId × List IntKind)} (hfs : ((P.fieldsOf t).toList.map fun f => (f.name == "_", f.type, f.offset)) = offs 0 ts)
    (hc : P.cellsOf t = (ts.flatMap (·.2)).length) {i : TypeInfo} (hi : P.info? t = some i) (his : i.size = (ts.flatMap (·.2)).length) {d : Nat} (hall : ∀ p ∈ ts, EqA P d p.1 p.2) : EqA P (d + 1) t (ts.flatMap (·.2)) := by
  intro xs ys A B o w hx hy ha hb
  have hag : (isAgg t).run P w = .ok true w := by simp [isAgg, Go.run_underlying hu]
  have hsz : (sizeOf t).run P w = .ok (ts.flatMap (·.2)).length w := by rw [run_sizeOf_info hi, his]
  have hl : ∀ {zs : List Int} {C : Array Value}, zs.length = (ts.flatMap (·.2)).length → Lay (ts.flatMap (·.2)) zs C o → Lay (ts.flatMap (·.2)) zs (C.extract o (o + (ts.flatMap (·.2)).length)) 0 := by
    intro zs C _ hC j k x hk hz
    have hlt : j < (ts.flatMap (·.2)).length := (List.getElem?_eq_some_iff.1 hk).1
    rw [Nat.zero_add, Array.getElem?_extract]
    have := hC j k x hk hz
    have hlt2 : o + j < C.size := (Array.getElem?_eq_some_iff.1 this).1
    rw [if_pos (by omega)]
    exact this
  refine ⟨.agg (A.extract o (o + (ts.flatMap (·.2)).length)), .agg (B.extract o (o + (ts.flatMap (·.2)).length)), by simp [part, hag, hsz], by simp [part, hag, hsz], ?_, fun em => ?_⟩
  · rw [run_equalIn_struct w d t _ _ hu hp]
    exact eqFs d w ts _ 0 xs ys _ _ hfs hall hx hy (hl hx ha) (hl hy hb)
  · have hA := hl hx ha
    generalize A.extract o (o + (ts.flatMap (·.2)).length) = C at hA
    unfold Instr.checkKey
    simp only [Sem.run_bind, Go.run_underlying hu, Result.andThen_ok]
    rw [← Array.forIn_toList]
    generalize (P.fieldsOf t).toList = fs at hfs
    generalize (0 : Nat) = o' at hfs hA
    clear hl hsz hag hi his hc hb hy hp hu ha
    induction ts generalizing fs o' xs with
    | nil =>
      have : fs = [] := by cases fs with | nil => rfl | cons _ _ => simp [offs] at hfs
      subst this
      simp
    | cons p ts ih =>
      obtain ⟨t', ks⟩ := p
      cases fs with
      | nil => simp [offs] at hfs
      | cons f fs =>
        simp only [offs, List.map_cons, List.cons.injEq, Prod.mk.injEq] at hfs
        obtain ⟨⟨h1, h2, h3⟩, h4⟩ := hfs
        rw [List.flatMap_cons] at hx hA
        rw [List.length_append] at hx
        simp only at hx
        have hn : f.name ≠ "_" := by simpa using h1
        obtain ⟨a, b, p1, _, _, p4⟩ := hall (t', ks) (by simp) (xs.take ks.length) (xs.take ks.length) C C o' w (by simp; omega) (by simp; omega) (lay_left hA) (lay_left hA)
        have := ih (fun p hp => hall p (by simp [hp])) (xs.drop ks.length) (by simp only [List.length_drop]; omega) fs (o' + ks.length) h4 (lay_right hA)
        simp only [List.forIn_cons, Sem.run_bind, hn, ne_eq, not_false_eq_true, if_true, h2, h3, p1, p4, Result.andThen_ok, Sem.run_pure]
        simpa using this
end
end Go.VI
