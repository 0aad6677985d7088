/-
  An abstract interpreter of loaded code, proved to tell the truth; a part of the proof that redpencillaw48.PastNil returns true, whatever the input.
-/
import Derived.Test.YtedijongecdhfaaGreatM9
namespace Go.VI
open Go Go.RowKit

section
variable {P : Program} {T : Tab} {w0 : World} {h : Hp} {ι : Nat → Nat} {w : World} {t : TypeId} {r : Env} {ρ : Operand → Value}

theorem run_mapM_list {α β : Type} (f : α → Sem β) (g : α → β) (w : World) : ∀ (l : List α), (∀ x ∈ l, (f x).run P w = .ok (g x) w) → (l.mapM f).run P w = .ok (l.map g) w
  | [], _ => by simp
  | x :: l, hl => by
    have h1 := hl x (by simp)
    have h2 := run_mapM_list f g w l (fun y hy => hl y (by simp [hy]))
    simp [h1, h2]
theorem run_mapM {α β : Type} (f : α → Sem β) (g : α → β) (w : World) (a : Array α) (hl : ∀ x ∈ a.toList, (f x).run P w = .ok (g x) w) : (a.mapM f).run P w = .ok (a.map g) w := by
  rw [Array.mapM_eq_mapM_toList]
  simp only [Sem.run_map, run_mapM_list f g w a.toList hl, Result.andThen_ok]
  congr 1
  apply Array.toList_inj.1
  simp

theorem run_sizeOf_info {u : TypeId} {i : TypeInfo} (hi : P.info? u = some i) : (sizeOf u).run P w = .ok i.size w := by
  simp [Go.sizeOf, Go.typeInfo, program, Sem.run, hi, Sem.run_bind]

theorem TabOk.size? (hT : TabOk P T) {u : TypeId} {tu : TI} (e : T u = some tu) : ∃ i, P.info? u = some i ∧ i.size = tu.size := by
  obtain ⟨i, z, hi⟩ := (hT u tu e).info
  exact ⟨i, hi.info, hi.size⟩

theorem K.struct?_some {k : K} {fs : List (Nat × TypeId)} (e : k.struct? = some fs) : k = .struct fs := by cases k <;> simp_all [K.struct?]
theorem K.slice?_some {k : K} {e : TypeId} (h : k.slice? = some e) : k = .slice e := by cases k <;> simp_all [K.slice?]
theorem K.map?_some {k : K} {e : TypeId × TypeId} (h : k.map? = some e) : k = .map e.1 e.2 := by
  cases k <;> simp_all [K.map?]
  subst h; simp
theorem K.int?_some {k : K} {e : IntKind} (h : k.int? = some e) : k = .int e := by cases k <;> simp_all [K.int?]

theorem evalA_map {l : List (Nat × Operand)} : (l.map fun p => (p.1, ρ p.2)) = l.map (fun (x : Nat × Operand) => match x with | (i, x) => (i, ρ x)) := rfl

theorem g_build (hT : TabOk P T) (g : Ga P w0 h ι w) (hρ : EnvR P h ι w r ρ) {ps : Array (Nat × Operand)} {q : TV × Option Hp} (e : x_build T r t ps = some q) :
    Good P w0 h ι w (do Pure.pure (.value (← Instr.build t (ps.map fun (i, x) => (i, ρ x))))) q.1 q.2 := by
  unfold x_build at e
  obtain ⟨ti, h1, e⟩ := ob_some_iff.1 e
  obtain ⟨fs, h2, e⟩ := ob_some_iff.1 e
  obtain ⟨vs, h3, e⟩ := ob_some_iff.1 e
  obtain ⟨cs, h4, e⟩ := ob_some_iff.1 e
  cases e
  have ok := hT t ti h1
  obtain ⟨z, hz, hr⟩ := ok.zeroValue (w := w)
  have hk := ok.kind
  rw [K.struct?_some h2] at hk
  obtain ⟨arr, ha, hb, hc⟩ := hk
  have hall := evalL_some hρ h3
  have hplace : ∀ i p, placeS T fs i = some p → (arr.map fun f => (f.offset, (P.info? f.type).elim 0 (·.size)))[i]? = some p := by
    intro i p hp
    unfold placeS at hp
    obtain ⟨f, h5, h6⟩ := ob_some_iff.1 hp
    obtain ⟨tf, h7, h8⟩ := om_some_iff.1 h6
    rw [nth_eq, ← hb, List.getElem?_map] at h5
    obtain ⟨fd, h9, h10⟩ := Option.map_eq_some_iff.1 h5
    subst h10
    obtain ⟨i', h11, h12⟩ := hT.size? h7
    subst h8
    rw [Array.getElem?_map, ← Array.getElem?_toList, h9]
    simp [h11, h12]
  obtain ⟨cells', h5, h6⟩ := fill_some (place' := fun i => (arr.map fun f => (f.offset, (P.info? f.type).elim 0 (·.size)))[i]?) hplace h4 hall (zero_row hz)
  refine Good.val (u := .agg cells') g ?_ (.t (by simpa using T1.agg (P := P) (h := h) (ι := ι) (w := w) h6))
  have hm : (arr.mapM fun f => (do Pure.pure (f.offset, ← sizeOf f.type) : Sem (Nat × Nat))).run P w = .ok (arr.map fun f => (f.offset, (P.info? f.type).elim 0 (·.size))) w := by
    apply run_mapM
    intro f hf
    obtain ⟨i', hi'⟩ := Option.isSome_iff_exists.1 (hc f hf)
    simp [run_sizeOf_info hi', hi']
  unfold Instr.build
  simp only [Sem.run_bind, hr, Result.andThen_ok, Go.run_underlying ha, hm, Array.toList_map]
  have h7 : Instr.fill (fun i => (arr.map fun f => (f.offset, (P.info? f.type).elim 0 (·.size)))[i]?) z.cells (List.map (fun (x : Nat × Operand) => match x with | (i, x) => (i, ρ x)) ps.toList) = some cells' := h5
  rw [h7]
  rfl

theorem rep_len (z : List SV) : ∀ n, (repCells z n).length = n * z.length
  | 0 => by show ([] : List SV).length = _; simp
  | n + 1 => by
    show (z ++ repCells z n).length = _
    rw [List.length_append, rep_len z n, Nat.succ_mul, Nat.add_comm]
theorem rep_get (z : List SV) : ∀ n j, j < n * z.length → (repCells z n)[j]? = z[j % z.length]?
  | 0, j, hj => by simp at hj
  | n + 1, j, hj => by
    show (z ++ repCells z n)[j]? = _
    rw [List.getElem?_append]
    split
    · rename_i hl; rw [Nat.mod_eq_of_lt hl]
    · rename_i hl
      have hl' : z.length ≤ j := by omega
      rw [rep_get z n (j - z.length) (by rw [Nat.succ_mul] at hj; omega), ← Nat.mod_eq_sub_mod hl']

theorem All2.of_gets {α β : Type} {R : α → β → Prop} : ∀ (l : List α) (m : List β), l.length = m.length → (∀ (j : Nat) (x : α), l[j]? = some x → ∃ v, m[j]? = some v ∧ R x v) → All2 R l m
  | [], [], _, _ => .nil
  | [], _ :: _, hl, _ => by simp at hl
  | _ :: _, [], hl, _ => by simp at hl
  | x :: l, y :: m, hl, hg => by
    obtain ⟨v, h1, h2⟩ := hg 0 x rfl
    simp at h1
    subst h1
    exact .cons h2 (All2.of_gets l m (by simpa using hl) (fun j x hj => hg (j + 1) x (by simpa using hj)))

theorem rep_all2 {z : List SV} {zs : Array Value} (hz : All2 (VR P h ι w) z zs.toList) (n : Nat) :
    All2 (VR P h ι w) (repCells z n) ((Array.range (n * z.length)).map (zs[· % zs.size]!)).toList := by
  have hl : z.length = zs.size := by rw [hz.len, Array.length_toList]
  apply All2.of_gets
  · rw [rep_len]; simp
  · intro j x hj
    have hj' : j < n * z.length := by
      rcases Nat.lt_or_ge j (n * z.length) with h1 | h1
      · exact h1
      · rw [List.getElem?_eq_none (by rw [rep_len]; exact h1)] at hj; cases hj
    rw [rep_get z n j hj'] at hj
    obtain ⟨v, h1, h2⟩ := hz.get hj
    refine ⟨v, ?_, h2⟩
    rw [Array.getElem?_toList] at h1 ⊢
    rw [Array.getElem?_map, Array.getElem?_range, if_pos hj', Option.map_some, ← hl]
    congr 1
    rw [getElem!_def, h1]

theorem g_buildSlice (hT : TabOk P T) (g : Ga P w0 h ι w) (hρ : EnvR P h ι w r ρ) {len : Nat} {ps : Array (Nat × Operand)} {q : TV × Option Hp} (e : x_buildSlice T r h t len ps = some q) :
    Good P w0 h ι w (do Pure.pure (.value (← Instr.buildSlice t len (ps.map fun (i, x) => (i, ρ x))))) q.1 q.2 := by
  unfold x_buildSlice at e
  obtain ⟨ti, h1, e⟩ := ob_some_iff.1 e
  obtain ⟨el, h2, e⟩ := ob_some_iff.1 e
  obtain ⟨te, h3, e⟩ := ob_some_iff.1 e
  obtain ⟨vs, h4, e⟩ := ob_some_iff.1 e
  obtain ⟨hle, e⟩ := bc_none_iff.1 e
  obtain ⟨cs, h5, e⟩ := ob_some_iff.1 e
  cases e
  rw [Nat.ble_eq] at hle
  have hk := (hT t ti h1).kind
  rw [K.slice?_some h2] at hk
  have ok := hT el te h3
  obtain ⟨z, hz, hr⟩ := ok.zeroValue (w := w)
  have hzr := zero_row (P := P) (h := h) (ι := ι) (w := w) hz
  have hall := evalL_some hρ h4
  have hbase := rep_all2 hzr len
  rw [hz.len] at hbase
  obtain ⟨cells', h6, h7⟩ := fill_some (place' := fun i => some (i * te.size, te.size)) (fun i p hp => hp) h5 hall hbase
  have hcl : cs.length = len * te.size := by
    have : ∀ (vs : List (Nat × TV)) (cur out : List SV), fillP (fun i => some (i * te.size, te.size)) vs cur = some out → out.length = cur.length := by
      intro vs
      induction vs with
      | nil => intro cur out e; cases e; rfl
      | cons v vs ih =>
        intro cur out e
        obtain ⟨p, e1, e⟩ := ob_some_iff.1 (show (some (v.1 * te.size, te.size)).ob (fun q => v.2.cells.ob fun cs => bc ( Nat.beq cs.length q.2 && Nat.ble (q.1 + q.2) cur.length ) ( fillP (fun i => some (i * te.size, te.size)) vs (setAt cur q.1 cs) ) none) = some out from e)
        obtain ⟨cs, e2, e⟩ := ob_some_iff.1 e
        obtain ⟨e3, e⟩ := bc_none_iff.1 e
        rw [ih _ _ e, setAt_len]
    rw [this _ _ _ h5, rep_len, hz.len]
  refine Good.new g (ob := .cells cells' el) (u := .slice (some ⟨w.heap.size, 0, none⟩) len len) ?_ (.arr ?_) ?_
  · unfold Instr.buildSlice
    have h9 : Instr.fill (fun i => some (i * te.size, te.size)) ((Array.range (len * te.size)).map (z.cells[· % z.cells.size]!)) (List.map (fun (x : Nat × Operand) => match x with | (i, x) => (i, ρ x)) ps.toList) = some cells' := h6
    simp only [Sem.run_bind, Go.run_underlying hk, Result.andThen_ok, ok.sizeOf]
    rw [if_neg (by omega)]
    by_cases h0 : len * te.size = 0
    · have h8 : (Array.range (len * te.size)).map ((#[] : Array Value)[· % (#[] : Array Value).size]!) = (Array.range (len * te.size)).map (z.cells[· % z.cells.size]!) := by rw [h0]; simp
      simp only [h0, if_true, Sem.run_bind, Sem.run_pure, Result.andThen_ok, Array.toList_map]
      rw [h0] at h8 h9
      rw [h8, h9]
      simp [newRow_run]
    · simp only [if_neg h0, Sem.run_bind, hr, Sem.run_pure, Result.andThen_ok, Array.toList_map]
      rw [h9]
      simp [newRow_run]
  · have := all2_row (P := P) (h := h) (ι := ι) (w := w) h7
    simpa using this
  · refine .b (.sl _ _ _ _ _ _ (by show h.n < h.n + 1; omega) (Nat.zero_le _) (Nat.le_refl _) (fun _ => ⟨.inr (by rw [up_same]), ?_⟩))
    have he : elt (h.new (.arr 0 el cs)) h.n = el := by unfold elt; rw [new_get]
    rw [he, ok.cellsOf, up_same, bsz_at (heap_push_new _ _)]
    have := h7.len
    have h10 : cells'.toList.length = cells'.size := Array.length_toList
    show 0 + len * te.size ≤ cells'.size
    omega
end
end Go.VI
