/-
  An abstract interpreter of loaded code, proved to tell the truth; a part of the proof that redpencillaw48.PastNil returns true, whatever the input.
-/
import Derived.Test.YtedijongecdhfaaGreatM24
namespace Go.VI
open Go Go.RowKit

/-! Of each operation those ahead of it -/
theorem addL_mem {x : Nat} : ∀ {l acc : List Nat}, x ∈ addL l acc ↔ x ∈ l ∨ x ∈ acc
  | [], acc => by show x ∈ acc ↔ _; simp
  | y :: l, acc => by
    have : addL (y :: l) acc = bc (memb y (addL l acc)) (addL l acc) (y :: addL l acc) := rfl
    rw [this, bc_eq]
    split
    · rename_i h
      rw [memb_iff] at h
      rw [addL_mem, List.mem_cons]
      constructor
      · rintro (h1 | h1)
        · exact .inl (.inr h1)
        · exact .inr h1
      · rintro ((rfl | h1) | h1)
        · exact addL_mem.1 h
        · exact .inl h1
        · exact .inr h1
    · rw [List.mem_cons, addL_mem, List.mem_cons, or_assoc]

theorem ancE_mem {done : List (List Nat)} {x : Nat} : ∀ {l : List Edge}, x ∈ ancE done l ↔ ∃ e ∈ l, bindsE e = true ∧ (x = e.on ∨ x ∈ (nth done e.on).getD [])
  | [] => by show x ∈ ([] : List Nat) ↔ _; simp
  | e :: l => by
    have : ancE done (e :: l) = bc (bindsE e) (addL (e.on :: (nth done e.on).getD []) (ancE done l)) (ancE done l) := rfl
    rw [this, bc_eq]
    split
    · rename_i h
      rw [addL_mem, List.mem_cons, ancE_mem]
      constructor
      · rintro (h1 | ⟨e', h1, h2⟩)
        · exact ⟨e, by simp, h, h1⟩
        · exact ⟨e', by simp [h1], h2⟩
      · rintro ⟨e', h1, h2, h3⟩
        rcases List.mem_cons.1 h1 with rfl | h1
        · exact .inl h3
        · exact .inr ⟨e', h1, h2, h3⟩
    · rename_i h
      rw [ancE_mem]
      constructor
      · rintro ⟨e', h1, h2⟩
        exact ⟨e', by simp [h1], h2⟩
      · rintro ⟨e', h1, h2, h3⟩
        rcases List.mem_cons.1 h1 with rfl | h1
        · exact absurd h2 h
        · exact ⟨e', h1, h2, h3⟩

theorem ancs_spec : ∀ (l : List Oper) (done : List (List Nat)), (∃ r, ancs l done = done ++ r) ∧ ∀ (i : Nat) (o : Oper), l[i]? = some o → (ancs l done)[done.length + i]? = some (ancE ((ancs l done).take (done.length + i)) o.after.toList)
  | [], done => ⟨⟨[], by show done = _; simp⟩, fun i o h => by simp at h⟩
  | o :: l, done => by
    have he : ancs (o :: l) done = ancs l (done ++ [ancE done o.after.toList]) := rfl
    obtain ⟨⟨r, h1⟩, h2⟩ := ancs_spec l (done ++ [ancE done o.after.toList])
    rw [he]
    refine ⟨⟨ancE done o.after.toList :: r, by rw [h1]; simp⟩, fun i o' h => ?_⟩
    cases i with
    | zero =>
      simp at h
      subst h
      rw [h1]
      simp
    | succ i =>
      have := h2 i o' (by simpa using h)
      rw [List.length_append, List.length_singleton] at this
      rw [show done.length + (i + 1) = done.length + 1 + i by omega]
      exact this

def Anc (ops : List Oper) (i j : Nat) : Prop := memb i ((nth (ancs ops []) j).getD []) = true

theorem anc_iff {ops : List Oper} {i j : Nat} {o : Oper} (ho : ops[j]? = some o) : Anc ops i j ↔ ∃ e ∈ o.after.toList, bindsE e = true ∧ (i = e.on ∨ (e.on < j ∧ Anc ops i e.on)) := by
  have h := (ancs_spec ops []).2 j o ho
  simp only [List.length_nil, Nat.zero_add] at h
  unfold Anc
  rw [nth_eq, h, Option.getD_some, memb_iff, ancE_mem]
  constructor
  · rintro ⟨e, h1, h2, h3⟩
    refine ⟨e, h1, h2, ?_⟩
    rcases h3 with h3 | h3
    · exact .inl h3
    · rw [nth_eq, List.getElem?_take] at h3
      split at h3
      · rename_i hlt; exact .inr ⟨hlt, by rw [memb_iff, nth_eq]; exact h3⟩
      · simp at h3
  · rintro ⟨e, h1, h2, h3⟩
    refine ⟨e, h1, h2, ?_⟩
    rcases h3 with h3 | ⟨h3, h4⟩
    · exact .inl h3
    · rw [memb_iff, nth_eq] at h4
      rw [nth_eq, List.getElem?_take, if_pos h3]
      exact .inr h4

theorem anc_some {ops : List Oper} {i j : Nat} (h : Anc ops i j) : ∃ o, ops[j]? = some o := by
  have hl : (ancs ops []).length ≤ ops.length := by
    have : ∀ (l : List Oper) (done : List (List Nat)), (ancs l done).length = done.length + l.length := by
      intro l
      induction l with
      | nil => intro done; rfl
      | cons o l ih => intro done; show (ancs l (done ++ [ancE done o.after.toList])).length = _; rw [ih]; simp; omega
    rw [this]; simp
  unfold Anc at h
  rw [nth_eq] at h
  rcases Nat.lt_or_ge j ops.length with h1 | h1
  · exact ⟨_, List.getElem?_eq_getElem h1⟩
  · rw [List.getElem?_eq_none (by omega)] at h
    cases h

theorem anc_lt {ops : List Oper} : ∀ {j i : Nat}, Anc ops i j → (∀ (k : Nat) (o : Oper), ops[k]? = some o → ∀ e ∈ o.after.toList, bindsE e = true → e.on < k) → i < j := by
  intro j
  induction j using Nat.strongRecOn with
  | _ j ih =>
    intro i h hb
    obtain ⟨o, ho⟩ := anc_some h
    obtain ⟨e, h1, h2, h3⟩ := (anc_iff ho).1 h
    have := hb j o ho e h1 h2
    rcases h3 with rfl | ⟨h3, h4⟩
    · exact this
    · have := ih e.on h3 h4 hb; omega

/-- What is carried out is closed downwards. -/
def Dc (ops : List Oper) (L : Nat → Prop) : Prop := ∀ (j : Nat) (o : Oper), ops[j]? = some o → L j → ∀ e ∈ o.after.toList, bindsE e = true → L e.on

theorem anc_closed {ops : List Oper} {L : Nat → Prop} (hd : Dc ops L) : ∀ {j i : Nat}, L j → Anc ops i j → L i := by
  intro j
  induction j using Nat.strongRecOn with
  | _ j ih =>
    intro i hj h
    obtain ⟨o, ho⟩ := anc_some h
    obtain ⟨e, h1, h2, h3⟩ := (anc_iff ho).1 h
    have := hd j o ho hj e h1 h2
    rcases h3 with rfl | ⟨h3, h4⟩
    · exact this
    · exact ih e.on h3 this h4

theorem anc_ready {ops : List Oper} {L : Nat → Prop} (hd : Dc ops L) {i j : Nat} {o : Oper} (ho : ops[j]? = some o) (hr : ∀ e ∈ o.after.toList, bindsE e = true → L e.on) (h : Anc ops i j) : L i := by
  obtain ⟨e, h1, h2, h3⟩ := (anc_iff ho).1 h
  rcases h3 with rfl | ⟨h3, h4⟩
  · exact hr e h1 h2
  · exact anc_closed hd (hr e h1 h2) h4

/-! What is asked of all, and of all pairs -/
theorem allP_get {f : Nat → Oper → Bool} : ∀ {l : List Oper} {i : Nat}, allP f l i = true → ∀ (k : Nat) (o : Oper), l[k]? = some o → f (i + k) o = true
  | [], _, _, k, o, h => by simp at h
  | p :: l, i, e, k, o, h => by
    have e' : bc (f i p) (allP f l (i + 1)) false = true := e
    rw [bc_eq] at e'
    split at e'
    · cases k with
      | zero => simp at h; subst h; assumption
      | succ k =>
        have := allP_get e' k o (by simpa using h)
        rwa [show i + 1 + k = i + (k + 1) by omega] at this
    · cases e'
theorem allPP_get {f : Nat → Oper → Nat → Oper → Bool} : ∀ {l : List Oper} {i : Nat}, allPP f l i = true → ∀ (k m : Nat) (p q : Oper), k < m → l[k]? = some p → l[m]? = some q → f (i + k) p (i + m) q = true
  | [], _, _, k, m, p, q, _, h, _ => by simp at h
  | x :: l, i, e, k, m, p, q, hkm, h1, h2 => by
    have e' : bc (allP (f i x) l (i + 1)) (allPP f l (i + 1)) false = true := e
    rw [bc_eq] at e'
    split at e'
    · rename_i ha
      obtain ⟨m, rfl⟩ : ∃ m', m = m' + 1 := ⟨m - 1, by omega⟩
      cases k with
      | zero =>
        simp at h1; subst h1
        have := allP_get ha m q (by simpa using h2)
        rwa [show i + 1 + m = i + (m + 1) by omega] at this
      | succ k =>
        have := allPP_get e' k m p q (by omega) (by simpa using h1) (by simpa using h2)
        rwa [show i + 1 + k = i + (k + 1) by omega, show i + 1 + m = i + (m + 1) by omega] at this
    · cases e'
theorem allR_get {f : Nat → Rec → Bool} : ∀ {l : List Rec} {i : Nat}, allR f l i = true → ∀ (k : Nat) (o : Rec), l[k]? = some o → f (i + k) o = true
  | [], _, _, k, o, h => by simp at h
  | p :: l, i, e, k, o, h => by
    have e' : bc (f i p) (allR f l (i + 1)) false = true := e
    rw [bc_eq] at e'
    split at e'
    · cases k with
      | zero => simp at h; subst h; assumption
      | succ k =>
        have := allR_get e' k o (by simpa using h)
        rwa [show i + 1 + k = i + (k + 1) by omega] at this
    · cases e'
theorem allRR_get {f : Nat → Rec → Nat → Rec → Bool} : ∀ {l : List Rec} {i : Nat}, allRR f l i = true → ∀ (k m : Nat) (p q : Rec), k < m → l[k]? = some p → l[m]? = some q → f (i + k) p (i + m) q = true
  | [], _, _, k, m, p, q, _, h, _ => by simp at h
  | x :: l, i, e, k, m, p, q, hkm, h1, h2 => by
    have e' : bc (allR (f i x) l (i + 1)) (allRR f l (i + 1)) false = true := e
    rw [bc_eq] at e'
    split at e'
    · rename_i ha
      obtain ⟨m, rfl⟩ : ∃ m', m = m' + 1 := ⟨m - 1, by omega⟩
      cases k with
      | zero =>
        simp at h1; subst h1
        have := allR_get ha m q (by simpa using h2)
        rwa [show i + 1 + m = i + (m + 1) by omega] at this
      | succ k =>
        have := allRR_get e' k m p q (by omega) (by simpa using h1) (by simpa using h2)
        rwa [show i + 1 + k = i + (k + 1) by omega, show i + 1 + m = i + (m + 1) by omega] at this
    · cases e'

theorem edgesB_all {n : Nat} : ∀ {l : List Edge}, edgesB n l = true → ∀ e ∈ l, bindsE e = true → e.on < n
  | [], _, e, h, _ => by cases h
  | x :: l, hb, e, h, h2 => by
    have hb' : bc (bindsE x) (bc (Nat.blt x.on n) (edgesB n l) false) (edgesB n l) = true := hb
    rw [bc_eq] at hb'
    rcases List.mem_cons.1 h with rfl | h
    · rw [if_pos h2, bc_eq] at hb'
      split at hb'
      · rename_i h3; exact (blt_iff _ _).1 h3
      · cases hb'
    · split at hb'
      · rw [bc_eq] at hb'
        split at hb'
        · exact edgesB_all hb' e h h2
        · cases hb'
      · exact edgesB_all hb' e h h2

theorem ordB_iff {ops : List Oper} {i j : Nat} : ordB (ancs ops []) i j = true ↔ Anc ops i j ∨ Anc ops j i := by
  unfold ordB Anc
  rw [bc_eq]
  split
  · rename_i h; simp [h]
  · rename_i h; simp [h]

theorem usesT_cons (t : Tmp) (x : Operand) (l : List Operand) : usesT t (x :: l) = (match x with | .tmp u => bc (Nat.beq t u) true (usesT t l) | _ => usesT t l) := rfl
theorem usesT_mem {t : Tmp} : ∀ {l : List Operand}, Operand.tmp t ∈ l → usesT t l = true
  | [], h => by cases h
  | x :: l, h => by
    rw [usesT_cons]
    rcases List.mem_cons.1 h with h | h
    · subst h; simp [Nat.beq_refl, bc]
    · have := usesT_mem h
      split
      · rw [this, bc_eq]; simp
      · exact this

/-- What a region's shape says. -/
structure Shape (ops : List Oper) : Prop where
  back : ∀ (k : Nat) (o : Oper), ops[k]? = some o → ∀ e ∈ o.after.toList, bindsE e = true → e.on < k
  dst : ∀ (i j : Nat) (p q : Oper) (t : Tmp), i ≠ j → ops[i]? = some p → ops[j]? = some q → p.dst = some t → q.dst ≠ some t
  looks : ∀ (i j : Nat) (p q : Oper) (t : Tmp), i ≠ j → ops[i]? = some p → ops[j]? = some q → p.dst = some t → (Operand.tmp t ∈ q.op.operands.toList ∨ ∃ g, q.guard = some g ∧ (nth ops g.1).ob (·.dst) = some t) → Anc ops i j ∨ Anc ops j i

theorem looksB_of {ops : List Oper} {p q : Oper} {t : Tmp} (h1 : p.dst = some t) (h2 : Operand.tmp t ∈ q.op.operands.toList ∨ ∃ g, q.guard = some g ∧ (nth ops g.1).ob (·.dst) = some t) : looksB ops p q = true := by
  unfold looksB
  rw [h1]
  simp only
  rw [bc_eq]
  split
  · rfl
  · rename_i h3
    rcases h2 with h2 | ⟨g, h4, h5⟩
    · exact absurd (usesT_mem h2) h3
    · unfold guardT
      rw [h4]
      simp only [h5]
      exact Nat.beq_refl t

theorem shape_of {ops : List Oper} (e : shapeB ops = true) : Shape ops := by
  have e' : bc (allP (fun i o => bc (edgesB i o.after.toList) (bc (guardOk (ancs ops []) i o) (noSelect o.op) false) false) ops 0) (allPP (pairB ops (ancs ops [])) ops 0) false = true := e
  rw [bc_eq] at e'
  split at e'
  case isFalse => cases e'
  rename_i ha
  have hpair : ∀ (i j : Nat) (p q : Oper), i < j → ops[i]? = some p → ops[j]? = some q → dstEq p.dst q.dst = false ∧ (ordB (ancs ops []) i j = true ∨ (looksB ops p q = false ∧ looksB ops q p = false)) := by
    intro i j p q hij h1 h2
    have h3 := allPP_get e' i j p q hij h1 h2
    simp only [Nat.zero_add] at h3
    unfold pairB at h3
    rw [bc_eq] at h3
    split at h3
    · cases h3
    · rename_i h4
      refine ⟨by simpa using h4, ?_⟩
      rw [bc_eq] at h3
      split at h3
      · exact .inl (by assumption)
      · rw [bc_eq] at h3
        split at h3
        · cases h3
        · rename_i h5
          rw [bc_eq] at h3
          split at h3
          · cases h3
          · rename_i h6
            exact .inr ⟨by simpa using h5, by simpa using h6⟩
  refine ⟨fun k o ho ed he hb => ?_, fun i j p q t hij h1 h2 h3 h4 => ?_, fun i j p q t hij h1 h2 h3 h4 => ?_⟩
  · have h1 := allP_get ha k o ho
    simp only [Nat.zero_add] at h1
    rw [bc_eq] at h1
    split at h1
    · rename_i h2; exact edgesB_all h2 ed he hb
    · cases h1
  · rcases Nat.lt_or_gt_of_ne hij with h5 | h5
    · have := (hpair i j p q h5 h1 h2).1
      rw [h3, h4] at this
      simp [dstEq] at this
    · have := (hpair j i q p h5 h2 h1).1
      rw [h3, h4] at this
      simp [dstEq] at this
  · have hl := looksB_of h3 h4
    rcases Nat.lt_or_gt_of_ne hij with h5 | h5
    · rcases (hpair i j p q h5 h1 h2).2 with h6 | ⟨h6, _⟩
      · exact ordB_iff.1 h6
      · rw [hl] at h6; cases h6
    · rcases (hpair j i q p h5 h2 h1).2 with h6 | ⟨_, h6⟩
      · exact (ordB_iff.1 h6).symm
      · rw [hl] at h6; cases h6
end Go.VI
