/-
  An abstract interpreter of loaded code, proved to tell the truth; a part of the proof that redpencillaw48.PastNil returns true, whatever the input.
-/
import Derived.Test.YtedijongecdhfaaGreatM4
namespace Go.VI
open Go Go.RowKit

section
variable {P : Program} {T : Tab} {w0 : World} {h : Hp} {ι : Nat → Nat} {w : World} {t : TypeId} {ti : TI}

theorem TiOk.run_underlying (ok : TiOk P t ti) : ∃ d, P.underlying t = some d ∧ (underlying t).run P w = .ok d w ∧ (ti.k.isAgg = true ↔ ∃ fs, d = .struct fs) ∧ (∀ n e, d ≠ .array n e) := by
  have hk := ok.kind
  cases e : ti.k <;> rw [e] at hk <;> simp only [KOk] at hk
  case struct fs => obtain ⟨arr, h1, _⟩ := hk; exact ⟨_, h1, Go.run_underlying h1 w, by simp [K.isAgg], by simp⟩
  case ptr => obtain ⟨_, h1⟩ := hk; exact ⟨_, h1, Go.run_underlying h1 w, by simp [K.isAgg], by simp⟩
  case func => obtain ⟨_, _, _, h1⟩ := hk; exact ⟨_, h1, Go.run_underlying h1 w, by simp [K.isAgg], by simp⟩
  all_goals first | exact hk.elim | exact ⟨_, hk, Go.run_underlying hk w, by simp [K.isAgg], by simp⟩

theorem TiOk.isAgg (ok : TiOk P t ti) : (isAgg t).run P w = .ok ti.k.isAgg w := by
  obtain ⟨d, _, h2, h3, h4⟩ := ok.run_underlying (w := w)
  unfold Go.isAgg
  simp only [Sem.run_bind, h2, Result.andThen_ok]
  cases e : ti.k.isAgg with
  | true => obtain ⟨fs, rfl⟩ := h3.1 e; rfl
  | false =>
    split
    · have := h3.2 ⟨_, rfl⟩; rw [e] at this; cases this
    · exact absurd rfl (h4 _ _)
    · rfl

theorem TiOk.typeInfo (ok : TiOk P t ti) : ∃ i z, InfoOk P t ti i z ∧ (typeInfo t).run P w = .ok i w := by
  obtain ⟨i, z, hi⟩ := ok.info
  exact ⟨i, z, hi, by simp [Go.typeInfo, program, Sem.run, hi.info, Sem.run_bind]⟩
theorem TiOk.sizeOf (ok : TiOk P t ti) : (sizeOf t).run P w = .ok ti.size w := by
  obtain ⟨i, z, hi, hr⟩ := ok.typeInfo (w := w)
  simp only [Go.sizeOf, Sem.run_bind, hr, Result.andThen_ok, Sem.run_pure, hi.size]
theorem TiOk.zeroValue (ok : TiOk P t ti) : ∃ z, ZeroOk z ti ∧ (zeroValue t).run P w = .ok z w := by
  obtain ⟨i, z, hi, hr⟩ := ok.typeInfo (w := w)
  exact ⟨z, hi.z, by simp only [Go.zeroValue, Sem.run_bind, hr, Result.andThen_ok, hi.zero]; rfl⟩
theorem TiOk.cellsOf (ok : TiOk P t ti) : P.cellsOf t = ti.size := by
  obtain ⟨i, z, hi⟩ := ok.info
  simp [Program.cellsOf, hi.info, hi.size]

theorem arr?_some {id ep : Nat} {c : TypeId × List SV} (e : arr? h id ep = some c) : h.get id = some (.arr ep c.1 c.2) := by
  unfold arr? at e
  split at e
  · rename_i ep' e' cells hh
    obtain ⟨h1, h2⟩ := bc_none_iff.1 e
    cases h2
    rw [Nat.beq_eq] at h1; subst h1; exact hh
  · cases e
theorem map?_some {id : Nat} {q : List (TV × TV × Nat) × Nat} (e : map? h id = some q) : h.get id = some (.map q.1 q.2) := by
  unfold map? at e
  split at e
  · cases e; assumption
  · cases e

/-- A live row's block. -/
theorem Ga.row (g : Ga P w0 h ι w) {id ep : Nat} {e : TypeId} {cells : List SV} (ho : h.get id = some (.arr ep e cells)) :
    ∃ c : Array Value, w.heap[ι id]? = some (.cells c e (0, 0)) ∧ ∀ (j : Nat) (x : SV), cells[j]? = some x → ∃ v : Value, c[j]? = some v ∧ VR P h ι w x v := by
  obtain ⟨ob, h1, h2⟩ := g.obj id _ ho
  cases h2 with
  | arr hc => exact ⟨_, h1, hc⟩

theorem cell_at {b o : Nat} {c : Array Value} {e : TypeId} {fz : Nat × Nat} (hb : w.heap[b]? = some (.cells c e fz)) : w.cell? ⟨b, o, none⟩ = c[o]? := by
  simp [World.cell?, hb]

theorem row_len {cells : List SV} {c : Array Value} (hc : ∀ (j : Nat) (x : SV), cells[j]? = some x → ∃ v : Value, c[j]? = some v ∧ VR P h ι w x v) : cells.length ≤ c.size := by
  rcases Nat.lt_or_ge c.size cells.length with hl | hl
  · obtain ⟨v, h1, _⟩ := hc c.size _ (List.getElem?_eq_getElem hl)
    simp at h1
  · exact hl

/-- What stands in a part of a row. -/
theorem row_part {cells : List SV} {c : Array Value} (hc : ∀ (j : Nat) (x : SV), cells[j]? = some x → ∃ v : Value, c[j]? = some v ∧ VR P h ι w x v) (off n : Nat) (hl : off + n ≤ cells.length) :
    ∃ vs : List Value, vs.length = n ∧ All2 (VR P h ι w) ((cells.drop off).take n) vs ∧ ∀ j v, vs[j]? = some v → c[off + j]? = some v := by
  obtain ⟨m, h1, h2⟩ := All2.of_get (R := VR P h ι w) ((cells.drop off).take n) (fun j => c[off + j]?) (fun j x hj => by
    rw [List.getElem?_take] at hj
    split at hj
    · rw [List.getElem?_drop] at hj; exact hc _ _ hj
    · cases hj)
  refine ⟨m, ?_, h1, h2⟩
  rw [← h1.len, List.length_take, List.length_drop]; omega

theorem s_load (hT : TabOk P T) (g : Ga P w0 h ι w) {x : SV} {va : Value} {v : TV} (hx : VR P h ι w x va) (ht : T t = some ti) (hl : loadS ti h x = some v) :
    ∃ u, (Instr.loadAt t va).run P w = .ok u w ∧ T1 P h ι w v u := by
  have ok := hT t ti ht
  cases x with
  | ptr id ep off =>
    obtain ⟨c, hc, hv⟩ := ob_some_iff.1 hl
    have ho := arr?_some hc
    obtain ⟨row, hb, hcells⟩ := g.row ho
    have hlen := row_len hcells
    cases hx with
    | b hb' =>
      cases hb' with
      | ptr _ _ _ a hid hep ha =>
        have := ha (by rw [age_of ho]; rfl)
        subst this
        unfold loadC at hv
        unfold Instr.loadAt Instr.sureAddr
        simp only [Sem.run_bind, Sem.run_pure, Result.andThen_ok]
        unfold loadVar
        simp only [Sem.run_bind, ok.isAgg, Result.andThen_ok]
        cases e : ti.k.isAgg with
        | true =>
          rw [e] at hv
          obtain ⟨h1, h2⟩ := bc_none_iff.1 (show bc (Nat.ble (off + ti.size) c.2.length) (some (TV.agg ((c.2.drop off).take ti.size))) none = some v from hv)
          cases h2
          rw [Nat.ble_eq] at h1
          obtain ⟨vs, h3, h4, h5⟩ := row_part hcells off ti.size h1
          have h6 := run_loadCells_list (P := P) w ⟨ι id, off, none⟩ vs (fun j v hj => by rw [Addr.add_lit, cell_at hb]; exact h5 j v hj)
          rw [h3] at h6
          refine ⟨.agg vs.toArray, ?_, .agg h4⟩
          simp only [if_true, Sem.run_bind, ok.sizeOf, Result.andThen_ok, h6, Sem.run_pure]
        | false =>
          rw [e] at hv
          obtain ⟨y, h1, h2⟩ := om_some_iff.1 (show (nth c.2 off).om TV.one = some v from hv)
          subst h2
          rw [nth_eq] at h1
          obtain ⟨u, h3, h4⟩ := hcells _ _ h1
          refine ⟨u, ?_, .one h4⟩
          simp [load, Sem.run, cell_at hb, h3]
  | _ => cases hl

theorem setAt_get : ∀ (cs l : List SV) (off j : Nat), off + cs.length ≤ l.length → (setAt l off cs)[j]? = if off ≤ j ∧ j < off + cs.length then cs[j - off]? else l[j]?
  | [], l, off, j, _ => by rw [if_neg (by simp only [List.length_nil]; omega)]; rfl
  | c :: cs, l, off, j, hl => by
    have hl' : off + (cs.length + 1) ≤ l.length := hl
    show (setAt (l.set off c) (off + 1) cs)[j]? = _
    rw [setAt_get cs (l.set off c) (off + 1) j (by simp; omega)]
    by_cases e : j = off
    · subst e; rw [if_neg (by omega), if_pos (by simp)]; rw [Nat.sub_self, List.getElem?_set_self (by omega)]; rfl
    · by_cases e2 : off + 1 ≤ j ∧ j < off + 1 + cs.length
      · rw [if_pos e2, if_pos (by simp only [List.length_cons]; omega)]
        rw [show j - off = (j - (off + 1)) + 1 by omega]; simp
      · rw [if_neg e2, if_neg (by simp only [List.length_cons]; omega), List.getElem?_set_ne (Ne.symm e)]
theorem setAt_len : ∀ (cs l : List SV) (off : Nat), (setAt l off cs).length = l.length
  | [], _, _ => rfl
  | c :: cs, l, off => by show (setAt (l.set off c) (off + 1) cs).length = _; rw [setAt_len cs]; simp

/-- Cells laid into a row: the row, abstract and as it lies. -/
theorem put_row {cells cs : List SV} {c : Array Value} {vs : List Value} (hc : ∀ (j : Nat) (x : SV), cells[j]? = some x → ∃ v : Value, c[j]? = some v ∧ VR P h ι w x v)
    (h2 : All2 (VR P h ι w) cs vs) (off : Nat) (hl : off + cs.length ≤ cells.length) :
    ∀ (j : Nat) (x : SV), (setAt cells off cs)[j]? = some x → ∃ v : Value, (c.toList.take off ++ vs ++ c.toList.drop (off + vs.length)).toArray[j]? = some v ∧ VR P h ι w x v := by
  intro j x hj
  have hlen := row_len hc
  have hvs := h2.len
  rw [setAt_get _ _ _ _ hl] at hj
  simp only [List.getElem?_toArray]
  rw [List.append_assoc]
  split at hj
  · rename_i e
    obtain ⟨v, h3, h4⟩ := h2.get hj
    refine ⟨v, ?_, h4⟩
    rw [List.getElem?_append_right (by simp; omega), List.getElem?_append_left (by simp; omega)]
    simp only [List.length_take, Array.length_toList]
    rw [Nat.min_eq_left (by omega)]; exact h3
  · rename_i e
    obtain ⟨v, h3, h4⟩ := hc j x hj
    refine ⟨v, ?_, h4⟩
    by_cases e2 : j < off
    · rw [List.getElem?_append_left (by simp; omega), List.getElem?_take, if_pos e2]; simpa using h3
    · rw [List.getElem?_append_right (by simp; omega), List.getElem?_append_right (by simp; omega), List.getElem?_drop]
      simp only [List.length_take, Array.length_toList]
      rw [Nat.min_eq_left (by omega), show off + vs.length + (j - off - vs.length) = j by omega]; simpa using h3

theorem only_setRow {g : Nat} {old cs : Array Value} {e : TypeId} (hg : w.heap[g]? = some (.cells old e (0, 0))) : Only w g (.cells cs e (0, 0)) (w.setRow g cs) where
  os := rfl
  tape := rfl
  output := rfl
  size := by simp
  at_ := setRow_heap w g old cs e (0, 0) hg
  ne := fun k hk => setRow_other w g k cs hk

/-- Cells stored into a live row. -/
theorem s_cells (g : Ga P w0 h ι w) {id ep off : Nat} {e : TypeId} {cells cs : List SV} {vs : List Value} (ho : h.get id = some (.arr ep e cells)) (h2 : All2 (VR P h ι w) cs vs)
    (hl : off + cs.length ≤ cells.length) : ∃ w', (storeCells ⟨ι id, off, none⟩ vs).run P w = .ok () w' ∧ Ga P w0 (h.set id (.arr ep e (setAt cells off cs))) ι w' ∧ Evo h ι w (h.set id (.arr ep e (setAt cells off cs))) ι w' := by
  obtain ⟨c, hb, hc⟩ := g.row ho
  have hlen := row_len hc
  have hvs := h2.len
  have h1 : ∀ v ∈ vs, v.oneCell' = true := by
    clear hvs hl
    induction h2 with
    | nil => simp
    | cons a _ ih => intro v hv; simp at hv; rcases hv with rfl | hv; exact a.oneCell; exact ih v hv
  have hr := run_storeCells_at (P := P) (ι id) off e vs 0 c w hb (by omega) h1
  simp only [Nat.add_zero] at hr
  have hp := g.put (o' := .arr ep e (setAt cells off cs)) ho rfl (Nat.le_refl _) rfl hb (ob' := .cells (c.toList.take off ++ vs ++ c.toList.drop (off + vs.length)).toArray e (0, 0))
    (by simp [obSz]; omega) (only_setRow hb) (.arr (put_row hc h2 off hl))
  exact ⟨_, hr, hp⟩

theorem s_store (hT : TabOk P T) (g : Ga P w0 h ι w) {x : SV} {va vx : Value} {y : TV} {cs : List SV} {h' : Hp} (hx : VR P h ι w x va) (hy : TR P h ι w y vx) (hcs : y.cells = some cs) (ht : T t = some ti)
    (hl : storeS ti.size cs h x = some h') : ∃ w', (Instr.storeAt t va vx).run P w = .ok () w' ∧ Ga P w0 h' ι w' ∧ Evo h ι w h' ι w' := by
  have ok := hT t ti ht
  obtain ⟨_, h2⟩ := hy.cells hcs
  cases x with
  | ptr id ep off =>
    obtain ⟨c, hc, hv⟩ := ob_some_iff.1 hl
    have ho := arr?_some hc
    obtain ⟨h3, h4⟩ := bc_none_iff.1 hv
    cases h4
    simp only [Bool.and_eq_true, Nat.beq_eq, Nat.ble_eq] at h3
    cases hx with
    | b hb' =>
      cases hb' with
      | ptr _ _ _ a hid hep ha =>
        have := ha (by rw [age_of ho]; rfl)
        subst this
        obtain ⟨w', h5, h6⟩ := s_cells g ho h2 h3.2
        refine ⟨w', ?_, h6⟩
        have hsz : vx.cells.size = ti.size := by rw [← h3.1, h2.len, Array.length_toList]
        unfold Instr.storeAt Instr.sureAddr storeVar
        simp only [Sem.run_bind, Sem.run_pure, Result.andThen_ok, ok.sizeOf, hsz, ne_eq, not_true_eq_false, if_false]
        exact h5
  | _ => cases hl

theorem newRow_run (e : TypeId) (c : Array Value) : (newRow e c).run P w = .ok ⟨w.heap.size, 0, none⟩ { w with heap := w.heap.push (.cells c e) } := by
  simp [newRow, newObj, Sem.run]

theorem new_get (h : Hp) (o : AO) : (h.new o).get h.n = some o := by rw [hget_new, if_pos rfl]

/-- A new row. -/
theorem s_row (g : Ga P w0 h ι w) (e : TypeId) {cs : List SV} {c : Array Value} (hc : ∀ (j : Nat) (x : SV), cs[j]? = some x → ∃ v : Value, c[j]? = some v ∧ VR P h ι w x v) :
    Ga P w0 (h.new (.arr 0 e cs)) (up ι h.n w.heap.size) { w with heap := w.heap.push (.cells c e) } := g.new _ _ (.arr hc)

theorem all2_row {cs : List SV} {vs : List Value} (h2 : All2 (VR P h ι w) cs vs) : ∀ (j : Nat) (x : SV), cs[j]? = some x → ∃ v : Value, vs.toArray[j]? = some v ∧ VR P h ι w x v := fun j x hj => by
  obtain ⟨v, h3, h4⟩ := h2.get hj
  exact ⟨v, by simpa using h3, h4⟩

theorem zero_row {z : Value} (hz : ZeroOk z ti) : All2 (VR P h ι w) ti.zero z.cells.toList := by
  rw [← hz.cells]; exact All2.of_map liftS _ fun b hb => liftS_VR (hz.one b hb)

theorem ptr_new (o : AO) (ob : Obj) : VR P (h.new o) (up ι h.n w.heap.size) { w with heap := w.heap.push ob } (.ptr h.n 0 0) (.pointer (some ⟨w.heap.size, 0, none⟩)) :=
  .b (.ptr _ _ _ _ (by show h.n < h.n + 1; omega) (Nat.zero_le _) (fun _ => by rw [up_same]))
end
end Go.VI
