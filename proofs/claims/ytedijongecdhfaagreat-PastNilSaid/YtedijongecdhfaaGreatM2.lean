/-
  An abstract interpreter of loaded code, proved to tell the truth; a part of the proof that redpencillaw48.PastNil returns true, whatever the input.
-/
import Derived.Test.YtedijongecdhfaaGreatM1
import Derived.WalkKit
namespace Go.VI
open Go Go.RowKit

/-- Two lists, element by element. -/
inductive All2 {α β : Type} (R : α → β → Prop) : List α → List β → Prop
  | nil : All2 R [] []
  | cons {a : α} {b : β} {l : List α} {m : List β} (h : R a b) (t : All2 R l m) : All2 R (a :: l) (b :: m)

/-! What an abstract memory says of a world -/

noncomputable def age (h : Hp) (id : Nat) : Nat := match h.get id with | some (.arr ep _ _) => ep | _ => 0
noncomputable def elt (h : Hp) (id : Nat) : TypeId := match h.get id with | some (.arr _ e _) => e | _ => 0
noncomputable def isArr (h : Hp) (id : Nat) : Bool := match h.get id with | some (.arr ..) => true | _ => false
def bsz (w : World) (b : Nat) : Nat := match w.heap[b]? with | some (.cells c _ _) => c.size | _ => 0

section
variable (P : Program) (h : Hp) (ι : Nat → Nat) (w : World)

inductive VB : SV → Value → Prop
  | int (k : IntKind) (n : Int) : VB (.int k n) (.int k n)
  | bool (b : Bool) : VB (.bool b) (.bool b)
  | str (s : ByteArray) : VB (.str s) (.string s)
  | lit (v : Value) (hv : v.oneCell' = true) : VB (.lit v) v
  | ptr (id ep off : Nat) (a : Addr) (hid : id < h.n) (hep : ep ≤ age h id) (ha : ep = age h id → a = ⟨ι id, off, none⟩) : VB (.ptr id ep off) (.pointer (some a))
  | sl (id ep off len cap : Nat) (a : Addr) (hid : id < h.n) (hep : ep ≤ age h id) (hl : len ≤ cap)
      (ha : ep = age h id → (cap = 0 ∨ a = ⟨ι id, off, none⟩) ∧ off + cap * P.cellsOf (elt h id) ≤ bsz w (ι id)) : VB (.sl id ep off len) (.slice (some a) len cap)
  | slz (a : Option Addr) : VB .slz (.slice a 0 0)
  | mp (id : Nat) (hid : id < h.n) (hk : isArr h id = false) : VB (.mp id) (.map (some (ι id)))

inductive FnR : Fn → Fn → Prop
  | func (g : FuncId) : FnR (.func g) (.func g)
  | yield (l : Nat) (hl : l < h.n) (hk : isArr h l = false) : FnR (.yield l) (.yield (ι l))

inductive VR : SV → Value → Prop
  | b {x : SV} {v : Value} (hb : VB P h ι w x v) : VR x v
  | fn {f f' : Fn} {cs : List SV} {vs : List Value} (hf : FnR h ι f f') (hc : All2 (VB P h ι w) cs vs) : VR (.fn f cs) (.func f' #[] vs.toArray)

inductive T1 : TV → Value → Prop
  | one {x : SV} {v : Value} (hx : VR P h ι w x v) : T1 (.one x) v
  | agg {cs : List SV} {vs : List Value} (hc : All2 (VR P h ι w) cs vs) : T1 (.agg cs) (.agg vs.toArray)

inductive TR : TV → Value → Prop
  | t {x : TV} {v : Value} (ht : T1 P h ι w x v) : TR x v
  | tup {l : List TV} {vs : List Value} (hl : All2 (T1 P h ι w) l vs) : TR (.tup l) (.tuple vs.toArray)

/-- An activation's temporaries. -/
structure FrR (f : Fr) (tm : Array Value) : Prop where
  size : tm.size = f.n
  at_ : ∀ i v, f.get i = some v → ∃ u, tm[i]? = some u ∧ TR P h ι w v u

structure EntR (e : TV × TV × Nat) (m : MapEntry) : Prop where
  k : T1 P h ι w e.1 m.key
  v : T1 P h ι w e.2.1 m.val
  b : e.2.2 = m.born

inductive ObR : AO → Obj → Prop
  | arr {ep : Nat} {e : TypeId} {cells : List SV} {c : Array Value} (hc : ∀ (j : Nat) (x : SV), cells[j]? = some x → ∃ v : Value, c[j]? = some v ∧ VR P h ι w x v) : ObR (.arr ep e cells) (.cells c e (0, 0))
  | map {es : List (TV × TV × Nat)} {ms : List MapEntry} {clock : Nat} (hm : All2 (EntR P h ι w) es ms) : ObR (.map es clock) (.map ms.toArray clock)
  | mit (m : Option Nat) (since : Nat) (seen : List Nat) (st : Nat) (hm : ∀ id, m = some id → id < h.n ∧ isArr h id = false) : ObR (.mit m since seen st) (.mapIter (m.map ι) since seen.toArray st)
  | loop (st : LoopState) (pend : Option Code) (fn : FuncId) {f : Fr} {tm : Array Value} (ps : List Tmp) (asg body : Code) (d : Nat) (hf : FrR P h ι w f tm) (hd : d < h.n) (hk : isArr h d = false) :
      ObR (.loop st pend f ps asg body d) (.loop { state := st, pending := pend, fn := fn, tmps := tm, params := ps.toArray, assign := asg, body := body, defers := ι d })
  | dfr (b : Bool) : ObR (.dfr b) (.deferred (if b then some [] else none))
end

/-- The abstract memory fits the world; all that lay in 'w0' lies as it lay. -/
structure Ga (P : Program) (w0 : World) (h : Hp) (ι : Nat → Nat) (w : World) : Prop where
  below : Below w0.heap.size w0 w
  own : ∀ id, id < h.n → w0.heap.size ≤ ι id ∧ ι id < w.heap.size
  inj : ∀ i j, i < h.n → j < h.n → ι i = ι j → i = j
  obj : ∀ id o, h.get id = some o → ∃ ob, w.heap[ι id]? = some ob ∧ ObR P h ι w o ob

/-- How memory goes on: no row grows younger; a row of the same age lies where it lay. -/
structure Evo (h : Hp) (ι : Nat → Nat) (w : World) (h' : Hp) (ι' : Nat → Nat) (w' : World) : Prop where
  n : h.n ≤ h'.n
  kind : ∀ id, id < h.n → isArr h' id = isArr h id
  age : ∀ id, id < h.n → age h id ≤ age h' id
  same : ∀ id, id < h.n → VI.age h' id = VI.age h id → ι' id = ι id
  elt : ∀ id, id < h.n → elt h' id = elt h id
  bs : ∀ b, bsz w b ≤ bsz w' b
  low : h'.low ≤ h.low
  lows : ∀ id, id < h.n → id < h'.low → h'.get id = h.get id ∧ ι' id = ι id ∧ w'.heap[ι id]? = w.heap[ι id]?

theorem age_nonArr {h : Hp} {id : Nat} (e : isArr h id = false) : age h id = 0 := by
  unfold isArr at e; unfold age
  split
  · rename_i hh; rw [hh] at e; cases e
  · rfl

section
variable {P : Program} {h h' : Hp} {ι ι' : Nat → Nat} {w w' : World}

theorem Evo.refl (h : Hp) (ι : Nat → Nat) (w : World) : Evo h ι w h ι w := ⟨Nat.le_refl _, fun _ _ => rfl, fun _ _ => Nat.le_refl _, fun _ _ _ => rfl, fun _ _ => rfl, fun _ => Nat.le_refl _, Nat.le_refl _, fun _ _ _ => ⟨rfl, rfl, rfl⟩⟩
theorem Evo.trans {h2 : Hp} {ι2 : Nat → Nat} {w2 : World} (a : Evo h ι w h' ι' w') (b : Evo h' ι' w' h2 ι2 w2) : Evo h ι w h2 ι2 w2 where
  n := Nat.le_trans a.n b.n
  kind := fun id hi => (b.kind id (Nat.lt_of_lt_of_le hi a.n)).trans (a.kind id hi)
  age := fun id hi => Nat.le_trans (a.age id hi) (b.age id (Nat.lt_of_lt_of_le hi a.n))
  same := fun id hi e => by
    have h1 := a.age id hi
    have h2 := b.age id (Nat.lt_of_lt_of_le hi a.n)
    exact (b.same id (Nat.lt_of_lt_of_le hi a.n) (by omega)).trans (a.same id hi (by omega))
  elt := fun id hi => (b.elt id (Nat.lt_of_lt_of_le hi a.n)).trans (a.elt id hi)
  bs := fun x => Nat.le_trans (a.bs x) (b.bs x)
  low := Nat.le_trans b.low a.low
  lows := fun id hi hl => by
    obtain ⟨h1, h2, h3⟩ := a.lows id hi (Nat.lt_of_lt_of_le hl b.low)
    obtain ⟨h4, h5, h6⟩ := b.lows id (Nat.lt_of_lt_of_le hi a.n) hl
    rw [h2] at h5 h6
    exact ⟨h4.trans h1, h5, h6.trans h3⟩

theorem Evo.nonArr (e : Evo h ι w h' ι' w') {id : Nat} (hi : id < h.n) (hk : isArr h id = false) : ι' id = ι id :=
  e.same id hi (by rw [age_nonArr hk, age_nonArr ((e.kind id hi).trans hk)])

theorem VB.evo (e : Evo h ι w h' ι' w') {x : SV} {v : Value} (hv : VB P h ι w x v) : VB P h' ι' w' x v := by
  cases hv with
  | int k n => exact .int k n
  | bool b => exact .bool b
  | str s => exact .str s
  | lit v hv => exact .lit v hv
  | ptr id ep off a hid hep ha =>
    have := e.age id hid
    exact .ptr id ep off a (Nat.lt_of_lt_of_le hid e.n) (by omega) (fun he => by
      rw [e.same id hid (by omega)]; exact ha (by omega))
  | sl id ep off len cap a hid hep hl ha =>
    have := e.age id hid
    refine .sl id ep off len cap a (Nat.lt_of_lt_of_le hid e.n) (by omega) hl (fun he => ?_)
    rw [e.same id hid (by omega), e.elt id hid]
    obtain ⟨h1, h2⟩ := ha (by omega)
    exact ⟨h1, Nat.le_trans h2 (e.bs _)⟩
  | slz a => exact .slz a
  | mp id hid hk =>
    rw [← e.nonArr hid hk]
    exact .mp id (Nat.lt_of_lt_of_le hid e.n) ((e.kind id hid).trans hk)

theorem FnR.evo (e : Evo h ι w h' ι' w') {f f' : Fn} (hv : FnR h ι f f') : FnR h' ι' f f' := by
  cases hv with
  | func g => exact .func g
  | yield l hl hk => rw [← e.nonArr hl hk]; exact .yield l (Nat.lt_of_lt_of_le hl e.n) ((e.kind l hl).trans hk)

theorem all2_imp {α β : Type} {R S : α → β → Prop} (hi : ∀ a b, R a b → S a b) {l : List α} {m : List β} (hf : All2 R l m) : All2 S l m := by
  induction hf with
  | nil => exact .nil
  | cons a _ ih => exact .cons (hi _ _ a) ih

theorem VR.evo (e : Evo h ι w h' ι' w') {x : SV} {v : Value} (hv : VR P h ι w x v) : VR P h' ι' w' x v := by
  cases hv with
  | b hb => exact .b (hb.evo e)
  | fn hf hc => exact .fn (hf.evo e) (all2_imp (fun _ _ => VB.evo e) hc)
theorem T1.evo (e : Evo h ι w h' ι' w') {x : TV} {v : Value} (hv : T1 P h ι w x v) : T1 P h' ι' w' x v := by
  cases hv with
  | one hx => exact .one (hx.evo e)
  | agg hc => exact .agg (all2_imp (fun _ _ => VR.evo e) hc)
theorem TR.evo (e : Evo h ι w h' ι' w') {x : TV} {v : Value} (hv : TR P h ι w x v) : TR P h' ι' w' x v := by
  cases hv with
  | t ht => exact .t (ht.evo e)
  | tup hl => exact .tup (all2_imp (fun _ _ => T1.evo e) hl)
theorem FrR.evo (e : Evo h ι w h' ι' w') {f : Fr} {tm : Array Value} (hv : FrR P h ι w f tm) : FrR P h' ι' w' f tm :=
  ⟨hv.size, fun i v hi => let ⟨u, h1, h2⟩ := hv.at_ i v hi; ⟨u, h1, h2.evo e⟩⟩
theorem EntR.evo (e : Evo h ι w h' ι' w') {x : TV × TV × Nat} {m : MapEntry} (hv : EntR P h ι w x m) : EntR P h' ι' w' x m := ⟨hv.k.evo e, hv.v.evo e, hv.b⟩
theorem ObR.evo (e : Evo h ι w h' ι' w') {o : AO} {ob : Obj} (hv : ObR P h ι w o ob) : ObR P h' ι' w' o ob := by
  cases hv with
  | arr hc => exact .arr (fun j x hj => let ⟨v, h1, h2⟩ := hc j x hj; ⟨v, h1, h2.evo e⟩)
  | map hm => exact .map (all2_imp (fun _ _ => EntR.evo e) hm)
  | mit m since seen st hm =>
    have : m.map ι = m.map ι' := by
      cases m with
      | none => rfl
      | some id => obtain ⟨h1, h2⟩ := hm id rfl; simp [e.nonArr h1 h2]
    rw [this]
    exact .mit m since seen st (fun id hi => let ⟨h1, h2⟩ := hm id hi; ⟨Nat.lt_of_lt_of_le h1 e.n, (e.kind id h1).trans h2⟩)
  | loop st pend fn ps asg body d hf hd hk =>
    rw [← e.nonArr hd hk]
    exact .loop st pend fn ps asg body d (hf.evo e) (Nat.lt_of_lt_of_le hd e.n) ((e.kind d hd).trans hk)
  | dfr b => exact .dfr b
end
end Go.VI
