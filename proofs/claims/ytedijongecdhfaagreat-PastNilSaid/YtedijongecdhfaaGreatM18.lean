/-
  An abstract interpreter of loaded code, proved to tell the truth; a part of the proof that redpencillaw48.PastNil returns true, whatever the input.
-/
import Derived.Test.YtedijongecdhfaaGreatM17
namespace Go.VI
open Go Go.RowKit

section
variable {P : Program} {T : Tab} {w0 : World} {h : Hp} {ι : Nat → Nat} {w : World} {t : TypeId} {r : Env} {ρ : Operand → Value}

theorem TabOk.info (hT : TabOk P T) {u : TypeId} {tu : TI} (e : T u = some tu) : ∃ (i : TypeInfo) (z : Value), P.info? u = some i ∧ i.size = tu.size ∧ i.bytes = tu.bytes ∧ i.zero = some z ∧ ZeroOk z tu := by
  obtain ⟨i, z, hi⟩ := (hT u tu e).info
  exact ⟨i, z, hi.info, hi.size, hi.bytes, hi.zero, hi.z⟩

/-- What is appended, abstractly and as the model takes it. -/
theorem g_appX (hT : TabOk P T) (g : Ga P w0 h ι w) {t' e : TypeId} {te tx : TI} (hx : T t' = some tx) {x : TV} {u z : Value} (hu : TR P h ι w x u) (hz : ZeroOk z te) {n : Nat} {cs : List SV}
    (hm : (∃ ik, tx.k = .int ik ∧ x.nat? = some n ∧ n < 9223372036854775808 ∧ n * te.bytes ≤ 70368744177664 ∧ cs = repCells te.zero n) ∨ (∃ e' y, tx.k = .slice e' ∧ x.one? = some y ∧ lenS y = some n ∧ rowS h te.size y = some cs)) :
    ∃ news, XOk P w t' e te.size te.bytes n news z u ∧ All2 (VR P h ι w) cs news := by
  have hk := (hT t' tx hx).kind
  rcases hm with ⟨ik, h1, h2, h3, h4, h5⟩ | ⟨e', y, h1, h2, h3, h4⟩
  · rw [h1] at hk
    obtain ⟨k, h6⟩ := hu.nat? h2
    subst h6
    subst h5
    exact ⟨_, .make ik k hk h3 h4 rfl, zero_cells hz n⟩
  · rw [h1] at hk
    obtain ⟨a, cap, vs, h6, h7, h8, h9⟩ := rowS_some g (hu.one? h2) h4 h3
    subst h6
    exact ⟨vs, .sl e' a cap hk h9, h7⟩

theorem grown_size {z : Value} {te : TI} (hz : ZeroOk z te) {olds news : List Value} {len n c : Nat} (ho : olds.length = len * te.size) (hn : news.length = n * te.size) (hc : len + n ≤ c) :
    (olds.toArray ++ news.toArray ++ Builtin.zeroCells z.cells (c - (len + n))).size = c * te.size := by
  have h1 : z.cells.size = te.size := by
    have := congrArg List.length hz.cells
    simp at this
    rw [this, hz.len]
  simp only [Array.size_append, List.size_toArray, size_zeroCells, ho, hn, h1]
  rw [← Nat.add_mul, ← Nat.add_mul]
  congr 1
  omega

theorem g_appNew (hT : TabOk P T) (g : Ga P w0 h ι w) {t' ty e : TypeId} {te : TI} (ht : P.underlying t = some (.slice e)) (he : T e = some te) (hsz : 0 < te.size) {s : SV} {base : Option Addr} {u : Value} (hs : VR P h ι w s (.slice base 0 0))
    {i : TypeInfo} {z : Value} (hi : P.info? e = some i) (his : i.size = te.size) (hib : i.bytes = te.bytes) (hiz : i.zero = some z) (hz : ZeroOk z te) {n : Nat} {cs : List SV} {news : List Value} (hx : XOk P w t' e te.size te.bytes n news z u)
    (hcs : All2 (VR P h ι w) cs news) (hl : cs.length = n * te.size) {q : TV × Option Hp} (e1 : appNew e te.bytes s cs n h = some q) :
    Good P w0 h ι w (do Pure.pure (.value (← Builtin.append_ #[t, t'] ty #[.slice base 0 0, u]))) q.1 q.2 := by
  rw [← his, ← hib] at hx
  have hnl : news.length = n * te.size := by rw [← hcs.len]; exact hl
  unfold appNew at e1
  rw [bc_eq] at e1
  split at e1
  · rename_i h0
    rw [Nat.beq_eq] at h0
    subst h0
    cases e1
    have hn0 : news = [] := List.eq_nil_of_length_eq_zero (by rw [hnl]; simp)
    subst hn0
    have := app_room (ty := ty) (sLen := 0) (sCap := 0) (base := base) ht hi hiz (by rw [his]; exact hsz) hx (by omega) (w' := w) (by cases base <;> rfl)
    exact Good.val g this (.one hs)
  · rename_i h0
    obtain ⟨h1, e1⟩ := bc_none_iff.1 e1
    cases e1
    simp only [Bool.and_eq_true, Nat.ble_eq, blt_iff, maxRoom] at h1
    have hn0 : n ≠ 0 := fun hh => h0 (by rw [hh]; rfl)
    have hgc : 0 + n ≤ grownCap w (0 + n) 0 e := grownCap_ge w (0 + n) 0 e
    have hrun := app_grow (ty := ty) (sLen := 0) (sCap := 0) (base := base) (olds := []) ht hi hiz (by rw [his]; exact hsz) hx (by cases base <;> simp [Builtin.firstCells, loadCells, loadCellsFrom]) (by omega) (by omega)
      (by rw [hib]; exact growslice_fits (by omega) (by rw [Nat.zero_add]; omega))
    rw [Nat.zero_add] at hrun hgc
    have hg2 := g.drew
    have hev := Evo.drew (h := h) (ι := ι) (w := w)
    have hsize := grown_size hz (olds := []) (len := 0) (by simp) hnl (by rw [Nat.zero_add]; exact hgc)
    rw [Nat.zero_add] at hsize
    generalize hc : ((#[] : Array Value) ++ news.toArray ++ Builtin.zeroCells z.cells (grownCap w n 0 e - n)) = cells at hrun
    have hc' : cells.size = grownCap w n 0 e * te.size := by rw [← hc]; exact hsize
    have hob : ObR P h ι w.drew (.arr 0 e cs) (.cells cells e) := by
      refine .arr (fun j x hj => ?_)
      obtain ⟨v, h2, h3⟩ := hcs.get hj
      refine ⟨v, ?_, h3.evo hev⟩
      rw [← hc]
      have hlt : j < news.length := (List.getElem?_eq_some_iff.1 h2).1
      rw [Array.getElem?_append_left (by simpa using hlt)]
      simpa using h2
    refine ⟨_, up ι h.n w.heap.size, w.drew.alloc (.cells cells e), .inl (by simp only [Sem.run_bind, hrun, Result.andThen_ok]; rfl), hg2.new _ _ hob, hev.trans (Evo.new hg2 _ _), .one (.b (.sl _ _ _ _ _ _ (by show h.n < h.n + 1; omega) (Nat.zero_le _) hgc (fun _ => ⟨.inr (by rw [up_same]), ?_⟩)))⟩
    have he' : elt (h.new (.arr 0 e cs)) h.n = e := by unfold elt; rw [new_get]
    simp only [orH]
    rw [he', (hT e te he).cellsOf, up_same]
    have : (w.drew.alloc (.cells cells e)).heap[w.heap.size]? = some (.cells cells e) := heap_push_new w.drew _
    rw [bsz_at this]
    show 0 + _ ≤ cells.size
    omega

theorem g_appS (hT : TabOk P T) (g : Ga P w0 h ι w) {t' ty e : TypeId} {te : TI} (ht : P.underlying t = some (.slice e)) (he : T e = some te) (hsz : 0 < te.size) {s : SV} {us u : Value} (hs : VR P h ι w s us)
    {i : TypeInfo} {z : Value} (hi : P.info? e = some i) (his : i.size = te.size) (hib : i.bytes = te.bytes) (hiz : i.zero = some z) (hz : ZeroOk z te) {n : Nat} {cs : List SV} {news : List Value} (hx : XOk P w t' e te.size te.bytes n news z u)
    (hcs : All2 (VR P h ι w) cs news) (hl : cs.length = n * te.size) {q : TV × Option Hp} (e1 : appS e te s cs n h = some q) :
    Good P w0 h ι w (do Pure.pure (.value (← Builtin.append_ #[t, t'] ty #[us, u]))) q.1 q.2 := by
  have hnl : news.length = n * te.size := by rw [← hcs.len]; exact hl
  have hx' := hx
  rw [← his, ← hib] at hx'
  cases s with
  | sl id ep off len =>
    obtain ⟨c, h1, e1⟩ := ob_some_iff.1 (show (arr? h id ep).ob _ = some q from e1)
    obtain ⟨h2, e1⟩ := bc_none_iff.1 e1
    cases e1
    simp only [Bool.and_eq_true, Nat.beq_eq, Nat.ble_eq, blt_iff, maxRoom] at h2
    obtain ⟨⟨⟨⟨h2, h3⟩, h4⟩, h5⟩, h6⟩ := h2
    subst h2
    subst h3
    have ho := arr?_some h1
    have hage : ep = age h id := by rw [age_of ho]; rfl
    obtain ⟨a, cap, h12, h13, h14, h15, h16⟩ := sl_inv hs
    obtain ⟨h17, h18⟩ := h16 hage
    rw [elt_of ho] at h18
    change 0 + cap * P.cellsOf c.1 ≤ _ at h18
    rw [(hT c.1 te he).cellsOf, Nat.zero_add] at h18
    obtain ⟨cur, hb, hcur⟩ := g.row ho
    have hrow : rowS h te.size (.sl id ep 0 len) = some ((c.2.drop 0).take (len * te.size)) := by
      show (arr? h id ep).ob (fun c => bc ( Nat.ble (0 + len * te.size) c.2.length ) ( some ((c.2.drop 0).take (len * te.size)) ) none) = _
      rw [h1]
      show bc (Nat.ble (0 + len * te.size) c.2.length) _ none = _
      rw [Nat.zero_add, Nat.ble_eq_true_of_le h4]
      rfl
    obtain ⟨a', cap', olds, h19, h20, h21, h22⟩ := rowS_some g hs hrow rfl
    rw [h12] at h19
    cases h19
    simp only [List.drop_zero] at h20
    subst h12
    have hall : All2 (VR P h ι w) (c.2.take (len * te.size) ++ cs) (olds ++ news) := h20.app hcs
    have hfin : age (h.set id (.arr (ep + 1) c.1 (c.2.take (len * te.size) ++ cs))) id = ep + 1 ∧ elt (h.set id (.arr (ep + 1) c.1 (c.2.take (len * te.size) ++ cs))) id = c.1 := by
      have : (h.set id (.arr (ep + 1) c.1 (c.2.take (len * te.size) ++ cs))).get id = some (.arr (ep + 1) c.1 (c.2.take (len * te.size) ++ cs)) := by rw [hget_set _ _ _ _ h13, if_pos rfl]
      exact ⟨by rw [age_of this]; rfl, by rw [elt_of this]; rfl⟩
    by_cases hroom : len + n ≤ cap
    · -- there is room
      have hst : ∃ w' cells', (storeCells (a.add (len * i.size)) news).run P w = .ok () w' ∧ Only w (ι id) (.cells cells' c.1 (0, 0)) w' ∧ cur.size ≤ cells'.size ∧
          ObR P h ι w (.arr (ep + 1) c.1 (c.2.take (len * te.size) ++ cs)) (.cells cells' c.1 (0, 0)) := by
        rcases h17 with h17 | h17
        · have hl0 : len = 0 := by omega
          have hn0 : n = 0 := by omega
          subst hl0
          subst hn0
          have : news = [] := List.eq_nil_of_length_eq_zero (by rw [hnl]; simp)
          subst this
          cases hcs
          refine ⟨w, cur, rfl, only_self hb, Nat.le_refl _, .arr (fun j x hj => ?_)⟩
          simp at hj
        · subst h17
          have hbz : bsz w (ι id) = cur.size := by rw [bsz_at hb]; rfl
          have hcap : len * te.size + n * te.size ≤ cap * te.size := by rw [← Nat.add_mul]; exact Nat.mul_le_mul_right _ hroom
          have hst := run_storeCells_at P (ι id) (len * i.size) c.1 news 0 cur w hb (by rw [his, hnl]; omega) (fun v hv => by
            have : ∀ {l : List SV} {m : List Value}, All2 (VR P h ι w) l m → ∀ v ∈ m, v.oneCell' = true := by
              intro l m hl
              induction hl with
              | nil => intro v hv; cases hv
              | cons a t ih => intro v hv; rcases List.mem_cons.1 hv with rfl | hv; exact a.oneCell; exact ih v hv
            exact this hcs v hv)
          simp only [Nat.add_zero] at hst
          refine ⟨_, _, by rw [Addr.add_lit, Nat.zero_add]; exact hst, only_setRow hb, ?_, .arr (fun j x hj => ?_)⟩
          · simp
            omega
          · have hall' := hall.get hj
            obtain ⟨v, h23, h24⟩ := hall'
            refine ⟨v, ?_, h24⟩
            have hlt : j < (olds ++ news).length := (List.getElem?_eq_some_iff.1 h23).1
            have holds : olds = cur.toList.take (len * i.size) := by
              have h25 := h22 w.drawn
              have h26 : (loadCells ⟨ι id, 0, none⟩ (len * te.size)).run P w = .ok olds.toArray w := h25
              have h27 : (loadCells ⟨ι id, 0, none⟩ (cur.toList.take (len * te.size)).length).run P w = .ok (cur.toList.take (len * te.size)).toArray w := by
                apply run_loadCells_list
                intro j v hj
                rw [Addr.add_lit, Nat.zero_add, cell_at hb]
                rw [List.getElem?_take] at hj
                split at hj
                · simpa using hj
                · cases hj
              have hln : (cur.toList.take (len * te.size)).length = len * te.size := by
                rw [List.length_take, Array.length_toList]
                omega
              rw [hln, h26] at h27
              rw [his]
              have := Result.ok.inj h27
              simpa using congrArg Array.toList this.1
            rw [List.getElem?_toArray, ← holds, List.getElem?_append_left hlt]
            exact h23
      obtain ⟨w', cells', hst, hon, hsz', hob⟩ := hst
      have hrun := app_room (ty := ty) (base := some a) ht hi hiz (by rw [his]; exact hsz) hx' hroom hst
      obtain ⟨g', ev⟩ := g.put (o' := .arr (ep + 1) c.1 (c.2.take (len * te.size) ++ cs)) (ob' := .cells cells' c.1 (0, 0)) ho rfl (by show ep ≤ ep + 1; omega) rfl hb hsz' hon hob
      refine ⟨_, ι, w', .inl (by simp only [Sem.run_bind, hrun, Result.andThen_ok]; rfl), g', ev, .one (.b (.sl _ _ _ _ _ _ h13 (by simp only [orH]; rw [hfin.1]; exact Nat.le_refl _) hroom (fun _ => ⟨h17, ?_⟩)))⟩
      simp only [orH]
      rw [hfin.2, (hT c.1 te he).cellsOf, Nat.zero_add]
      exact Nat.le_trans h18 (ev.bs _)
    · -- the row moves on
      have hfo : (Builtin.firstCells i.size len (.slice (some a) len cap)).run P w.drew = .ok olds.toArray w.drew := by rw [his]; exact h22 (w.drawn + 1)
      have hgc : len + n ≤ grownCap w (len + n) cap c.1 := grownCap_ge w (len + n) cap c.1
      have hrun := app_grow (ty := ty) (base := some a) ht hi hiz (by rw [his]; exact hsz) hx' hfo (by omega) (by omega) (by rw [hib]; exact growslice_fits (by omega) (by omega))
      have hsize := grown_size hz h21 hnl hgc
      generalize hc : (olds.toArray ++ news.toArray ++ Builtin.zeroCells z.cells (grownCap w (len + n) cap c.1 - (len + n))) = cells at hrun hsize
      have hev := Evo.drew (h := h) (ι := ι) (w := w)
      have hob : ObR P h ι w.drew (.arr (ep + 1) c.1 (c.2.take (len * te.size) ++ cs)) (.cells cells c.1) := by
        refine .arr (fun j x hj => ?_)
        obtain ⟨v, h23, h24⟩ := hall.get hj
        refine ⟨v, ?_, h24.evo hev⟩
        have hlt : j < (olds ++ news).length := (List.getElem?_eq_some_iff.1 h23).1
        rw [← hc, Array.getElem?_append_left (by simpa using hlt)]
        simpa using h23
      obtain ⟨g', ev⟩ := g.drew.move (ep := ep + 1) (e := c.1) (cells := c.2.take (len * te.size) ++ cs) (ob := .cells cells c.1) ho rfl (by show ep < ep + 1; omega) rfl hob
      refine ⟨_, _, _, .inl (by simp only [Sem.run_bind, hrun, Result.andThen_ok]; rfl), g', hev.trans ev, .one (.b (.sl _ _ _ _ _ _ h13 (by simp only [orH]; rw [hfin.1]; exact Nat.le_refl _) hgc (fun _ => ⟨.inr (by rw [up_same]; rfl), ?_⟩)))⟩
      simp only [orH]
      rw [hfin.2, (hT c.1 te he).cellsOf, up_same]
      have : (w.drew.alloc (.cells cells c.1)).heap[w.heap.size]? = some (.cells cells c.1) := heap_push_new w.drew _
      have h30 : bsz (w.drew.alloc (.cells cells c.1)) w.heap.size = cells.size := by rw [bsz_at this]; rfl
      show 0 + _ ≤ bsz (w.drew.alloc (.cells cells c.1)) w.heap.size
      rw [h30]
      omega
  | slz =>
    obtain ⟨a, rfl⟩ := hs.slz_inv
    exact g_appNew hT g ht he hsz hs hi his hib hiz hz hx hcs hl e1
  | lit v =>
    obtain ⟨h1, e1⟩ := bc_none_iff.1 (show bc (isNilSl v) _ none = some q from e1)
    have h2 := slice_lit h1 hs.lit_inv.1
    subst h2
    exact g_appNew hT g ht he hsz hs hi his hib hiz hz hx hcs hl e1
  | _ => cases e1

theorem g_append (hT : TabOk P T) (g : Ga P w0 h ι w) {t' ty : TypeId} {s x : TV} {us u : Value} (hs : TR P h ι w s us) (hu : TR P h ι w x u) {q : TV × Option Hp} (e : b_append T t t' s x h = some q) :
    Good P w0 h ι w (do Pure.pure (.value (← Builtin.append_ #[t, t'] ty #[us, u]))) q.1 q.2 := by
  unfold b_append at e
  obtain ⟨ti, h1, e⟩ := ob_some_iff.1 e
  obtain ⟨el, h2, e⟩ := ob_some_iff.1 e
  obtain ⟨te, h3, e⟩ := ob_some_iff.1 e
  obtain ⟨tx, h4, e⟩ := ob_some_iff.1 e
  have hk := (hT t ti h1).kind
  rw [K.slice?_some h2] at hk
  obtain ⟨i, z, hi, his, hib, hiz, hz⟩ := hT.info h3
  have key : ∃ n cs, ((∃ ik, tx.k = .int ik ∧ x.nat? = some n ∧ n < 9223372036854775808 ∧ n * te.bytes ≤ 70368744177664 ∧ cs = repCells te.zero n) ∨ (∃ e' y, tx.k = .slice e' ∧ x.one? = some y ∧ lenS y = some n ∧ rowS h te.size y = some cs)) ∧ appO el te s cs n h = some q := by
    split at e
    · rename_i ik hkk
      obtain ⟨n, h5, e⟩ := ob_some_iff.1 e
      obtain ⟨h6, e⟩ := bc_none_iff.1 e
      simp only [Bool.and_eq_true, Nat.ble_eq, blt_iff, maxRoom] at h6
      exact ⟨n, _, .inl ⟨ik, hkk, h5, h6.1, h6.2, rfl⟩, e⟩
    · rename_i e' hkk
      obtain ⟨y, h5, e⟩ := ob_some_iff.1 e
      obtain ⟨n, h6, e⟩ := ob_some_iff.1 e
      obtain ⟨cs, h7, e⟩ := ob_some_iff.1 e
      exact ⟨n, cs, .inr ⟨e', y, hkk, h5, h6, h7⟩, e⟩
    · cases e
  obtain ⟨n, cs, hm, e⟩ := key
  obtain ⟨news, hx, hcs⟩ := g_appX hT g (e := el) h4 hu hz hm
  unfold appO at e
  obtain ⟨h5, e⟩ := bc_none_iff.1 e
  simp only [Bool.and_eq_true, Nat.beq_eq, blt_iff] at h5
  obtain ⟨sv, h6, e⟩ := ob_some_iff.1 e
  exact g_appS hT g hk h3 h5.1 (hs.one? h6) hi his hib hiz hz hx hcs h5.2 e
end
end Go.VI
