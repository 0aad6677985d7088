/-
  An abstract interpreter of loaded code, proved to tell the truth; a part of the proof that redpencillaw48.PastNil returns true, whatever the input.
-/
import Derived.Test.YtedijongecdhfaaGreatM2
namespace Go.VI
open Go Go.RowKit

section
variable {P : Program} {w0 : World} {h h' : Hp} {ι ι' : Nat → Nat} {w w' : World}

theorem Ga.turn (g : Ga P w0 h ι w) (e : Evo h ι w h' ι' w') (hb : Below w0.heap.size w0 w')
    (own : ∀ id, id < h'.n → w0.heap.size ≤ ι' id ∧ ι' id < w'.heap.size) (inj : ∀ i j, i < h'.n → j < h'.n → ι' i = ι' j → i = j)
    (hobj : ∀ id o, h'.get id = some o → (h.get id = some o ∧ ι' id = ι id ∧ w'.heap[ι id]? = w.heap[ι id]?) ∨ ∃ ob, w'.heap[ι' id]? = some ob ∧ ObR P h' ι' w' o ob) : Ga P w0 h' ι' w' where
  below := hb
  own := own
  inj := inj
  obj := fun id o ho => by
    rcases hobj id o ho with ⟨h1, h2, h3⟩ | h1
    · obtain ⟨ob, h4, h5⟩ := g.obj id o h1
      exact ⟨ob, by rw [h2, h3, h4], h5.evo e⟩
    · exact h1

theorem Ga.size_le (g : Ga P w0 h ι w) : w0.heap.size ≤ w.heap.size := g.below.size

/-- Where a new object lies. -/
def up (ι : Nat → Nat) (id b : Nat) : Nat → Nat := fun i => if i = id then b else ι i
theorem up_same (ι : Nat → Nat) (id b : Nat) : up ι id b id = b := by simp [up]
theorem up_ne {ι : Nat → Nat} {id b i : Nat} (h : i ≠ id) : up ι id b i = ι i := by simp [up, h]

theorem bsz_of {w w' : World} {b : Nat} (e : w'.heap[b]? = w.heap[b]?) : bsz w' b = bsz w b := by unfold bsz; rw [e]

theorem heap_push (w : World) (ob : Obj) (b : Nat) (hb : b < w.heap.size) : ({ w with heap := w.heap.push ob } : World).heap[b]? = w.heap[b]? := by
  simp [Array.getElem?_push, Nat.ne_of_lt hb]
theorem heap_push_new (w : World) (ob : Obj) : ({ w with heap := w.heap.push ob } : World).heap[w.heap.size]? = some ob := by
  simp

theorem Evo.new (g : Ga P w0 h ι w) (o : AO) (ob : Obj) : Evo h ι w (h.new o) (up ι h.n w.heap.size) { w with heap := w.heap.push ob } where
  n := by show h.n ≤ h.n + 1; omega
  kind := fun id hi => by unfold isArr; rw [hget_new, if_neg (by omega)]
  age := fun id hi => by unfold VI.age; rw [hget_new, if_neg (by omega)]; exact Nat.le_refl _
  same := fun id hi _ => up_ne (by omega)
  elt := fun id hi => by unfold VI.elt; rw [hget_new, if_neg (by omega)]
  bs := fun b => by
    by_cases hb : b < w.heap.size
    · rw [bsz_of (heap_push w ob b hb)]; exact Nat.le_refl _
    · unfold bsz; rw [Array.getElem?_eq_none (by omega)]; simp
  low := Nat.le_refl _
  lows := fun id hi _ => ⟨by rw [hget_new, if_neg (by omega)], up_ne (by omega), heap_push w ob _ (g.own id hi).2⟩

theorem Ga.new (g : Ga P w0 h ι w) (o : AO) (ob : Obj) (hr : ObR P h ι w o ob) :
    Ga P w0 (h.new o) (up ι h.n w.heap.size) { w with heap := w.heap.push ob } := by
  have hs := g.size_le
  refine g.turn (Evo.new g o ob) ⟨g.below.os, g.below.tape, g.below.output, by simp; omega, fun k hk => ?_⟩ (fun id hid => ?_) (fun i j hi hj e => ?_) (fun id o' ho => ?_)
  · rw [heap_push w ob k (by omega)]; exact g.below.block k hk
  · have hid' : id < h.n + 1 := hid
    by_cases e : id = h.n
    · subst e; rw [up_same]; simp; omega
    · rw [up_ne e]; have := g.own id (by omega); simp; omega
  · have hi' : i < h.n + 1 := hi
    have hj' : j < h.n + 1 := hj
    by_cases e1 : i = h.n <;> by_cases e2 : j = h.n
    · omega
    · subst e1; rw [up_same, up_ne e2] at e; have := g.own j (by omega); omega
    · subst e2; rw [up_same, up_ne e1] at e; have := g.own i (by omega); omega
    · rw [up_ne e1, up_ne e2] at e; exact g.inj i j (by omega) (by omega) e
  · rw [hget_new] at ho
    by_cases e : id = h.n
    · subst e; rw [if_pos rfl] at ho; cases ho
      exact .inr ⟨ob, by rw [up_same]; exact heap_push_new w ob, hr.evo (Evo.new g o ob)⟩
    · rw [if_neg e] at ho
      have hlt := hget_lt ho
      exact .inl ⟨ho, up_ne e, heap_push w ob _ (g.own id hlt).2⟩

/-- One block has turned and no other. -/
structure Only (w : World) (b : Nat) (ob : Obj) (w' : World) : Prop where
  os : w'.os = w.os
  tape : w'.tape = w.tape
  output : w'.output = w.output
  size : w'.heap.size = w.heap.size
  at_ : w'.heap[b]? = some ob
  ne : ∀ k, k ≠ b → w'.heap[k]? = w.heap[k]?

def aoAge : AO → Nat | .arr ep _ _ => ep | _ => 0
def aoElt : AO → TypeId | .arr _ e _ => e | _ => 0
def aoArr : AO → Bool | .arr .. => true | _ => false
theorem age_of {id : Nat} {o : AO} (e : h.get id = some o) : age h id = aoAge o := by unfold age; rw [e]; cases o <;> rfl
theorem elt_of {id : Nat} {o : AO} (e : h.get id = some o) : elt h id = aoElt o := by unfold elt; rw [e]; cases o <;> rfl
theorem isArr_of {id : Nat} {o : AO} (e : h.get id = some o) : isArr h id = aoArr o := by unfold isArr; rw [e]; cases o <;> rfl
def obSz : Obj → Nat | .cells c _ _ => c.size | _ => 0
theorem bsz_at {b : Nat} {ob : Obj} (e : w.heap[b]? = some ob) : bsz w b = obSz ob := by unfold bsz; rw [e]; cases ob <;> rfl

theorem low_set (h : Hp) (id : Nat) (o : AO) : (h.set id o).low ≤ h.low := by
  show bc (Nat.blt id h.low) id h.low ≤ h.low
  rw [bc_eq]
  split
  · rename_i e; rw [blt_iff] at e; omega
  · exact Nat.le_refl _
theorem low_ne {h : Hp} {id i : Nat} {o : AO} (hl : i < (h.set id o).low) : i ≠ id := by
  have hl' : i < bc (Nat.blt id h.low) id h.low := hl
  rw [bc_eq] at hl'
  split at hl'
  · omega
  · rename_i e; rw [blt_iff] at e; omega

theorem Evo.put (hinj : ∀ i j, i < h.n → j < h.n → ι i = ι j → i = j) {id : Nat} {o o' : AO} {ob ob' : Obj} (hid : id < h.n) (ho : h.get id = some o) (hk : aoArr o' = aoArr o) (ha : aoAge o ≤ aoAge o') (he : aoElt o' = aoElt o)
    (hob : w.heap[ι id]? = some ob) (hz : obSz ob ≤ obSz ob') (hw : Only w (ι id) ob' w') : Evo h ι w (h.set id o') ι w' where
  n := Nat.le_refl _
  kind := fun i hi => by
    by_cases e : i = id
    · subst e; rw [isArr_of ho, isArr_of (o := o') (by rw [hget_set _ _ _ _ hid, if_pos rfl])]; exact hk
    · unfold isArr; rw [hget_set _ _ _ _ hid, if_neg e]
  age := fun i hi => by
    by_cases e : i = id
    · subst e; rw [age_of ho, age_of (o := o') (by rw [hget_set _ _ _ _ hid, if_pos rfl])]; exact ha
    · unfold VI.age; rw [hget_set _ _ _ _ hid, if_neg e]; exact Nat.le_refl _
  same := fun _ _ _ => rfl
  elt := fun i hi => by
    by_cases e : i = id
    · subst e; rw [elt_of ho, elt_of (o := o') (by rw [hget_set _ _ _ _ hid, if_pos rfl])]; exact he
    · unfold VI.elt; rw [hget_set _ _ _ _ hid, if_neg e]
  bs := fun b => by
    by_cases e : b = ι id
    · subst e; rw [bsz_at hob, bsz_at hw.at_]; exact hz
    · rw [bsz_of (hw.ne b e)]; exact Nat.le_refl _
  low := low_set h id o'
  lows := fun i hi hl => by
    have hne := low_ne hl
    exact ⟨by rw [hget_set _ _ _ _ hid, if_neg hne], rfl, hw.ne _ (fun e => hne (hinj i id hi hid e))⟩

theorem Ga.put (g : Ga P w0 h ι w) {id : Nat} {o o' : AO} {ob ob' : Obj} (ho : h.get id = some o) (hk : aoArr o' = aoArr o) (ha : aoAge o ≤ aoAge o') (he : aoElt o' = aoElt o)
    (hob : w.heap[ι id]? = some ob) (hz : obSz ob ≤ obSz ob') (hw : Only w (ι id) ob' w') (hr : ObR P h ι w o' ob') :
    Ga P w0 (h.set id o') ι w' ∧ Evo h ι w (h.set id o') ι w' := by
  have hid := hget_lt ho
  have hE := Evo.put g.inj hid ho hk ha he hob hz hw
  have hown := g.own id hid
  refine ⟨g.turn hE ⟨hw.os.trans g.below.os, hw.tape.trans g.below.tape, hw.output.trans g.below.output, by rw [hw.size]; exact g.below.size, fun k hk => ?_⟩ (fun i hi => by rw [hw.size]; exact g.own i hi) (fun i j hi hj e => g.inj i j hi hj e) (fun i o2 ho2 => ?_), hE⟩
  · rw [hw.ne k (by omega)]; exact g.below.block k hk
  · rw [hget_set _ _ _ _ hid] at ho2
    by_cases e : i = id
    · subst e; rw [if_pos rfl] at ho2; cases ho2
      exact .inr ⟨ob', hw.at_, hr.evo hE⟩
    · rw [if_neg e] at ho2
      exact .inl ⟨ho2, rfl, hw.ne _ (fun e2 => e (g.inj i id (hget_lt ho2) hid e2))⟩

theorem Evo.move (g : Ga P w0 h ι w) {id : Nat} {o : AO} {ep : Nat} {e : TypeId} {cells : List SV} {ob : Obj} (hid : id < h.n) (ho : h.get id = some o) (hk : aoArr o = true) (ha : aoAge o < ep) (he : e = aoElt o) :
    Evo h ι w (h.set id (.arr ep e cells)) (up ι id w.heap.size) { w with heap := w.heap.push ob } where
  n := Nat.le_refl _
  kind := fun i hi => by
    by_cases e' : i = id
    · subst e'; rw [isArr_of ho, isArr_of (o := .arr ep e cells) (by rw [hget_set _ _ _ _ hid, if_pos rfl])]; exact hk.symm
    · unfold isArr; rw [hget_set _ _ _ _ hid, if_neg e']
  age := fun i hi => by
    by_cases e' : i = id
    · subst e'; rw [age_of ho, age_of (o := .arr ep e cells) (by rw [hget_set _ _ _ _ hid, if_pos rfl])]; exact Nat.le_of_lt ha
    · unfold VI.age; rw [hget_set _ _ _ _ hid, if_neg e']; exact Nat.le_refl _
  same := fun i hi hs => by
    by_cases e' : i = id
    · subst e'; rw [age_of ho, age_of (o := .arr ep e cells) (by rw [hget_set _ _ _ _ hid, if_pos rfl])] at hs; change ep = aoAge o at hs; omega
    · exact up_ne e'
  elt := fun i hi => by
    by_cases e' : i = id
    · subst e'; rw [elt_of ho, elt_of (o := .arr ep e cells) (by rw [hget_set _ _ _ _ hid, if_pos rfl])]; exact he
    · unfold VI.elt; rw [hget_set _ _ _ _ hid, if_neg e']
  bs := fun b => by
    by_cases hb : b < w.heap.size
    · rw [bsz_of (heap_push w ob b hb)]; exact Nat.le_refl _
    · unfold bsz; rw [Array.getElem?_eq_none (by omega)]; simp
  low := low_set h id _
  lows := fun i hi hl => by
    have hne := low_ne hl
    exact ⟨by rw [hget_set _ _ _ _ hid, if_neg hne], up_ne hne, heap_push w ob _ (g.own i hi).2⟩

theorem Ga.move (g : Ga P w0 h ι w) {id : Nat} {o : AO} {ep : Nat} {e : TypeId} {cells : List SV} {ob : Obj} (ho : h.get id = some o) (hk : aoArr o = true) (ha : aoAge o < ep) (he : e = aoElt o)
    (hr : ObR P h ι w (.arr ep e cells) ob) :
    Ga P w0 (h.set id (.arr ep e cells)) (up ι id w.heap.size) { w with heap := w.heap.push ob } ∧ Evo h ι w (h.set id (.arr ep e cells)) (up ι id w.heap.size) { w with heap := w.heap.push ob } := by
  have hid := hget_lt ho
  have hE : Evo h ι w (h.set id (.arr ep e cells)) (up ι id w.heap.size) { w with heap := w.heap.push ob } := Evo.move g hid ho hk ha he
  have hs := g.size_le
  refine ⟨g.turn hE ⟨g.below.os, g.below.tape, g.below.output, by simp; omega, fun k hk => ?_⟩ (fun i hi => ?_) (fun i j hi hj e2 => ?_) (fun i o2 ho2 => ?_), hE⟩
  · rw [heap_push w ob k (by omega)]; exact g.below.block k hk
  · by_cases e2 : i = id
    · subst e2; rw [up_same]; simp; omega
    · rw [up_ne e2]; have := g.own i hi; simp; omega
  · by_cases e3 : i = id <;> by_cases e4 : j = id
    · omega
    · subst e3; rw [up_same, up_ne e4] at e2; have := g.own j hj; omega
    · subst e4; rw [up_same, up_ne e3] at e2; have := g.own i hi; omega
    · rw [up_ne e3, up_ne e4] at e2; exact g.inj i j hi hj e2
  · rw [hget_set _ _ _ _ hid] at ho2
    by_cases e2 : i = id
    · subst e2; rw [if_pos rfl] at ho2; cases ho2
      exact .inr ⟨ob, by rw [up_same]; exact heap_push_new w ob, hr.evo hE⟩
    · rw [if_neg e2] at ho2
      exact .inl ⟨ho2, up_ne e2, heap_push w ob _ (g.own i (hget_lt ho2)).2⟩

/-- Draws change nothing of this. -/
theorem Evo.drawn (k : Nat) : Evo h ι w h ι { w with drawn := k } := ⟨Nat.le_refl _, fun _ _ => rfl, fun _ _ => Nat.le_refl _, fun _ _ _ => rfl, fun _ _ => rfl, fun _ => Nat.le_refl _, Nat.le_refl _, fun _ _ _ => ⟨rfl, rfl, rfl⟩⟩
theorem Ga.drawn (g : Ga P w0 h ι w) (k : Nat) : Ga P w0 h ι { w with drawn := k } :=
  g.turn (Evo.drawn k) ⟨g.below.os, g.below.tape, g.below.output, g.below.size, g.below.block⟩ g.own g.inj (fun _ _ ho => .inl ⟨ho, rfl, rfl⟩)
end
end Go.VI
