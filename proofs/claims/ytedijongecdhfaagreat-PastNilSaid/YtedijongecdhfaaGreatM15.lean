/-
  An abstract interpreter of loaded code, proved to tell the truth; a part of the proof that redpencillaw48.PastNil returns true, whatever the input.
-/
import Derived.Test.YtedijongecdhfaaGreatM14
import Derived.Maps.RangeRun
namespace Go.VI
open Go Go.RowKit
open Go.ChangeMaps (setBlock)

section
variable {P : Program} {T : Tab} {w0 : World} {h : Hp} {ι : Nat → Nat} {w : World} {t : TypeId} {r : Env} {ρ : Operand → Value}

theorem only_setBlock {b : Nat} {o o' : Obj} (hb : w.heap[b]? = some o) : Only w b o' (setBlock w b o') where
  os := rfl
  tape := rfl
  output := rfl
  size := by simp [setBlock]
  at_ := (MapKept.heap_set hb).1
  ne := (MapKept.heap_set hb).2
theorem run_setObj_map {b : Nat} {es : Array MapEntry} {c : Nat} (hb : w.heap[b]? = some (.map es c)) (o' : Obj) : (setObj b o').run P w = .ok () (setBlock w b o') := by
  simp [setObj, Sem.run, hb, setBlock]

theorem Ga.map (g : Ga P w0 h ι w) {id : Nat} {q : List (TV × TV × Nat) × Nat} (e : map? h id = some q) : ∃ ms : List MapEntry, w.heap[ι id]? = some (.map ms.toArray q.2) ∧ All2 (EntR P h ι w) q.1 ms := by
  obtain ⟨ob, h1, h2⟩ := g.obj id _ (map?_some e)
  cases h2 with
  | map hm => exact ⟨_, h1, hm⟩

theorem zeroOf_some (hT : TabOk P T) {u : TypeId} {te : TI} (hu : T u = some te) {z : TV} (e : zeroOf te = some z) : ∃ v, (zeroValue u).run P w = .ok v w ∧ T1 P h ι w z v := by
  have ok := hT u te hu
  obtain ⟨v, hz, hr⟩ := ok.zeroValue (w := w)
  refine ⟨v, hr, ?_⟩
  have hzr := zero_row (P := P) (h := h) (ι := ι) (w := w) hz
  unfold zeroOf at e
  cases ha : te.k.isAgg with
  | true =>
    rw [ha] at e; cases e
    obtain ⟨cs, rfl⟩ := hz.agg ha
    have := T1.agg hzr
    simpa [Value.cells] using this
  | false =>
    rw [ha] at e
    obtain ⟨x, h1, h2⟩ := om_some_iff.1 (show (nth te.zero 0).om TV.one = some z from e)
    subst h2
    rw [nth_eq] at h1
    obtain ⟨u', h3, h4⟩ := hzr.get h1
    have hp := hz.plain ha
    have : v.cells = #[v] := by cases v <;> first | rfl | (simp [Value.oneCell'] at hp)
    rw [this] at h3
    simp at h3
    subst h3
    exact .one h4

theorem entriesS_some (g : Ga P w0 h ι w) {s : SV} {v : Value} (hs : VR P h ι w s v) {es : List (TV × TV × Nat)} (e : entriesS h s = some es) :
    ∃ ms : List MapEntry, All2 (EntR P h ι w) es ms ∧ ((v = .map none ∧ ms = []) ∨ ∃ b c, v = .map (some b) ∧ w.heap[b]? = some (.map ms.toArray c)) := by
  cases s <;> simp only [entriesS] at e <;> try (cases e; done)
  case mp =>
    obtain ⟨q, h1, h2⟩ := om_some_iff.1 e
    subst h2
    obtain ⟨ms, h3, h4⟩ := g.map h1
    exact ⟨ms, h4, .inr ⟨_, _, hs.mp_inv.1, h3⟩⟩
  case lit =>
    obtain ⟨h1, h2⟩ := bc_none_iff.1 e
    cases h2
    refine ⟨[], .nil, .inl ⟨?_, rfl⟩⟩
    rw [hs.lit_inv.1]
    unfold isNilMap at h1
    split at h1
    · rfl
    · cases h1

theorem g_lookup (hT : TabOk P T) (hF : FlatOk P T) (hK : KeyOk P T) (g : Ga P w0 h ι w) (hρ : EnvR P h ι w r ρ) {m k : Operand} {ok : Bool} {q : TV × Option Hp} (e : x_lookup T r h t m k ok = some q) :
    Good P w0 h ι w (do Pure.pure (.value (← Instr.lookup t (ρ m) (ρ k) ok))) q.1 q.2 := by
  unfold x_lookup at e
  obtain ⟨ti, h1, e⟩ := ob_some_iff.1 e
  obtain ⟨et, h2, e⟩ := ob_some_iff.1 e
  obtain ⟨tk, h3, e⟩ := ob_some_iff.1 e
  obtain ⟨te, h4, e⟩ := ob_some_iff.1 e
  obtain ⟨s, h5, e⟩ := ob_some_iff.1 e
  obtain ⟨mv, h6, h5⟩ := ob_some_iff.1 h5
  obtain ⟨es, h7, e⟩ := ob_some_iff.1 e
  obtain ⟨ks, h8, e⟩ := ob_some_iff.1 e
  obtain ⟨kv, h9, h8⟩ := ob_some_iff.1 h8
  obtain ⟨f, h10, e⟩ := ob_some_iff.1 e
  obtain ⟨p, h11, e⟩ := ob_some_iff.1 e
  cases e
  have hk := (hT t ti h1).kind
  rw [K.map?_some h2] at hk
  have hm := (hρ m mv h6).one? h5
  obtain ⟨ms, h12, h13⟩ := entriesS_some g hm h7
  obtain ⟨hkv, _⟩ := keyO_some (hρ k kv h9) h8
  obtain ⟨f', h14, h15⟩ := find_key hT hF h3 (w := w) hkv h12 h10
  have hchk := fun em => hkv.check (w := w) hT hK h3 em
  have hp : ∃ u b, (Instr.lookup t (ρ m) (ρ k) ok).run P w = .ok (if ok then .tuple #[u, .bool b] else u) w ∧ T1 P h ι w p.1 u ∧ p.2 = b := by
    cases h15 with
    | none =>
      obtain ⟨z, h16, h17⟩ := om_some_iff.1 (show (zeroOf te).om (fun z => (z, false)) = some p from h11)
      subst h17
      obtain ⟨u, h18, h19⟩ := zeroOf_some (w := w) hT h4 h16
      refine ⟨u, false, ?_, h19, rfl⟩
      unfold Instr.lookup
      rcases h13 with ⟨h20, h21⟩ | ⟨bb, c, h20, h21⟩
      · subst h21
        simp [Go.run_underlying hk, h20, hchk, h14, h18]
      · simp [Go.run_underlying hk, h20, getObj, Sem.run, h21, hchk, h14, h18]
    | some j e' m' he hm' hk' hv' =>
      cases h11
      refine ⟨m'.val, true, ?_, hv', rfl⟩
      unfold Instr.lookup
      rcases h13 with ⟨h20, h21⟩ | ⟨bb, c, h20, h21⟩
      · subst h21
        simp [Go.run_underlying hk, h20, hchk, h14]
      · simp [Go.run_underlying hk, h20, getObj, Sem.run, h21, hchk, h14]
  obtain ⟨u, b, h16, h17, h18⟩ := hp
  refine Good.val (u := if ok then .tuple #[u, .bool b] else u) g h16 ?_
  · cases ok with
    | false => exact .t h17
    | true =>
      show TR P h ι w (.tup [p.1, bl p.2]) (.tuple #[u, .bool b])
      rw [h18]
      exact .tup (vs := [u, .bool b]) (.cons h17 (.cons (.one (.bb b)) .nil))

theorem All2.set {α β : Type} {R : α → β → Prop} {l : List α} {m : List β} (hf : All2 R l m) : ∀ (i : Nat) {x : α} {y : β}, R x y → All2 R (l.set i x) (m.set i y) := by
  induction hf with
  | nil => intro i x y hr; exact .nil
  | cons a t ih => intro i x y hr; cases i with
    | zero => exact .cons hr t
    | succ i => exact .cons a (ih i hr)

theorem g_update (hT : TabOk P T) (hF : FlatOk P T) (hK : KeyOk P T) (g : Ga P w0 h ι w) (hρ : EnvR P h ι w r ρ) {m k x : Operand} {q : TV × Option Hp} (e : x_update T r h t m k x = some q) :
    Good P w0 h ι w (do Instr.mapUpdate t (ρ m) (ρ k) (ρ x); Pure.pure .skip) q.1 q.2 := by
  unfold x_update at e
  obtain ⟨ti, h1, e⟩ := ob_some_iff.1 e
  obtain ⟨et, h2, e⟩ := ob_some_iff.1 e
  obtain ⟨tk, h3, e⟩ := ob_some_iff.1 e
  obtain ⟨id, h4, e⟩ := ob_some_iff.1 e
  obtain ⟨s, h5, h4⟩ := ob_some_iff.1 h4
  obtain ⟨mv, h6, h5⟩ := ob_some_iff.1 h5
  obtain ⟨mq, h7, e⟩ := ob_some_iff.1 e
  obtain ⟨kv, h9, e⟩ := ob_some_iff.1 e
  obtain ⟨ks, h8, e⟩ := ob_some_iff.1 e
  obtain ⟨xv, h10, e⟩ := ob_some_iff.1 e
  obtain ⟨xc, h11, e⟩ := ob_some_iff.1 e
  obtain ⟨f, h12, e⟩ := ob_some_iff.1 e
  have hk := (hT t ti h1).kind
  rw [K.map?_some h2] at hk
  have hs : s = .mp id := by cases s <;> simp only [SV.mp?] at h4 <;> cases h4; rfl
  subst hs
  have hm := ((hρ m mv h6).one? h5).mp_inv
  obtain ⟨ms, h13, h14⟩ := g.map h7
  obtain ⟨hkv, hkt⟩ := keyO_some (hρ k kv h9) h8
  obtain ⟨hxt, _⟩ := (hρ x xv h10).cells h11
  obtain ⟨f', h15, h16⟩ := find_key hT hF h3 (w := w) hkv h14 h12
  have hchk := fun em => hkv.check (w := w) hT hK h3 em
  have ho := map?_some h7
  have fin : ∀ (es' : List (TV × TV × Nat)) (ms' : List MapEntry) (c' : Nat), All2 (EntR P h ι w) es' ms' → (Instr.mapUpdate t (ρ m) (ρ k) (ρ x)).run P w = .ok () (setBlock w (ι id) (.map ms'.toArray c')) →
      Good P w0 h ι w (do Instr.mapUpdate t (ρ m) (ρ k) (ρ x); Pure.pure .skip) und (some (h.set id (.map es' c'))) := by
    intro es' ms' c' hall hrun
    obtain ⟨g', ev⟩ := g.put (o' := .map es' c') (ob' := .map ms'.toArray c') ho rfl (Nat.le_refl _) rfl h13 (Nat.le_refl _) (only_setBlock h13) (.map hall)
    exact ⟨undef, ι, _, .inr ⟨by simp [hrun], rfl⟩, g', ev, und_TR⟩
  cases h16 with
  | none =>
    cases e
    refine fin _ (ms ++ [{ key := ρ k, val := ρ x, born := mq.2 }]) _ (h14.app (.cons ⟨hkt, hxt, rfl⟩ .nil)) ?_
    unfold Instr.mapUpdate
    simp only [Sem.run_bind, Go.run_underlying hk, Result.andThen_ok, hm.1, getObj, Sem.run, h13, hchk]
    simp only [h15, Result.andThen_ok, run_setObj_map h13]
    simp
  | some j e' m' he hm' hkey hv' =>
    cases e
    simp only [Nat.zero_add] at h15 ⊢
    refine fin _ (ms.set j { key := ρ k, val := ρ x, born := m'.born }) _ (h14.set j ⟨hkt, hxt, ?_⟩) ?_
    · obtain ⟨m2, h17, h18⟩ := h14.get he
      rw [hm'] at h17; cases h17
      show bornAt mq.1 j = _
      unfold bornAt
      rw [nth_eq, he]
      exact h18.b
    · unfold Instr.mapUpdate
      simp only [Sem.run_bind, Go.run_underlying hk, Result.andThen_ok, hm.1, getObj, Sem.run, h13, hchk]
      have hst : (Instr.keyThatStays (((ms.toArray[j]?).map (·.key)).getD (ρ k)) (ρ k)).run P w = .ok (ρ k) w := by
        have : ((ms.toArray[j]?).map (·.key)).getD (ρ k) = ρ k := by
          rw [List.getElem?_toArray, hm']; exact hkey
        rw [this]
        exact hkv.stays
      simp only [h15, Result.andThen_ok, Sem.run_bind, hst, run_setObj_map h13]
      congr 3
      apply Array.toList_inj.1
      rw [Array.toList_modify]
      apply List.ext_getElem?
      intro i
      rw [List.getElem?_modify, List.getElem?_set]
      have hlt : j < ms.length := (List.getElem?_eq_some_iff.1 hm').1
      by_cases hij : j = i
      · subst hij; rw [if_pos rfl, if_pos hlt, show ms.toArray.toList[j]? = some m' from hm']; simp
      · simp [hij]

theorem All2.filter {α β : Type} {R : α → β → Prop} {p : α → Bool} {p' : β → Bool} (hp : ∀ a b, R a b → p a = p' b) {l : List α} {m : List β} (hf : All2 R l m) : All2 R (l.filter p) (m.filter p') := by
  induction hf with
  | nil => exact .nil
  | cons a t ih =>
    rw [List.filter_cons, List.filter_cons, hp _ _ a]
    split
    · exact .cons a ih
    · exact ih

theorem Ga.mit (g : Ga P w0 h ι w) {s : SV} {v : Value} (hs : VR P h ι w s v) {q : Nat × Option Nat × Nat × List Nat × Nat} (e : mit? h s = some q) :
    v = .pointer (some ⟨ι q.1, 0, none⟩) ∧ h.get q.1 = some (.mit q.2.1 q.2.2.1 q.2.2.2.1 q.2.2.2.2) ∧ w.heap[ι q.1]? = some (.mapIter (q.2.1.map ι) q.2.2.1 q.2.2.2.1.toArray q.2.2.2.2) ∧ ∀ id, q.2.1 = some id → id < h.n ∧ isArr h id = false := by
  unfold mit? at e
  split at e
  · rename_i id
    split at e
    · rename_i m since seen st ho
      cases e
      obtain ⟨ob, h1, h2⟩ := g.obj id _ ho
      cases h2 with
      | mit _ _ _ _ hm =>
        obtain ⟨a, h3, h4, h5, h6⟩ := ptr_inv hs
        have h7 := h6 (by rw [age_nonArr (by unfold isArr; rw [ho])])
        subst h7
        exact ⟨h3, ho, h1, hm⟩
    · cases e
  · cases e

theorem g_range (hT : TabOk P T) (g : Ga P w0 h ι w) (hρ : EnvR P h ι w r ρ) {x : Operand} {q : TV × Option Hp} (e : x_range T r h t x = some q) :
    Good P w0 h ι w (do Pure.pure (.value (← Instr.range t (ρ x)))) q.1 q.2 := by
  unfold x_range at e
  obtain ⟨ti, h1, e⟩ := ob_some_iff.1 e
  obtain ⟨et, h2, e⟩ := ob_some_iff.1 e
  obtain ⟨s, h5, e⟩ := ob_some_iff.1 e
  obtain ⟨xv, h6, h5⟩ := ob_some_iff.1 h5
  have hk := (hT t ti h1).kind
  rw [K.map?_some h2] at hk
  have hv := (hρ x xv h6).one? h5
  clear h5
  cases s <;> simp only at e <;> try (cases e; done)
  case mp id =>
    obtain ⟨mq, h7, e⟩ := ob_some_iff.1 e
    cases e
    obtain ⟨ms, h8, _⟩ := g.map h7
    have ho := map?_some h7
    obtain ⟨h9, h10, h11⟩ := hv.mp_inv
    refine Good.new g (ob := .mapIter (some (ι id)) mq.2 #[] mq.2) (u := .pointer (some ⟨w.heap.size, 0, none⟩)) ?_ ?_ (ptr_new _ _)
    · unfold Instr.range
      simp [Go.run_underlying hk, h9, getObj, Sem.run, h8, newObj]
    · exact .mit (some id) mq.2 [] mq.2 (fun j hj => by cases hj; exact ⟨h10, h11⟩)
  case lit v =>
    obtain ⟨h7, e⟩ := bc_none_iff.1 e
    cases e
    have h8 := hv.lit_inv.1
    have h9 : ρ x = .map none := by
      rw [h8]
      unfold isNilMap at h7
      split at h7
      · rfl
      · cases h7
    refine Good.new g (ob := .mapIter none 0 #[] 0) (u := .pointer (some ⟨w.heap.size, 0, none⟩)) ?_ ?_ (ptr_new _ _)
    · unfold Instr.range
      simp [Go.run_underlying hk, h9, newObj, Sem.run]
    · exact .mit none 0 [] 0 (fun j hj => by cases hj)

theorem Evo.drew : Evo h ι w h ι w.drew := Evo.drawn _
theorem Ga.drew (g : Ga P w0 h ι w) : Ga P w0 h ι w.drew := g.drawn _

theorem g_next (g : Ga P w0 h ι w) (hρ : EnvR P h ι w r ρ) {x : Operand} {st : Bool} {ty : TypeId} {q : TV × Option Hp} (e : x_next r h x st = some q) :
    Good P w0 h ι w (do Pure.pure (.value (← Instr.next (ρ x) st ty))) q.1 q.2 := by
  unfold x_next at e
  rw [bc_eq] at e
  split at e
  · cases e
  rename_i hst
  have hst : st = false := by simpa using hst
  subst hst
  obtain ⟨mq, h1, e⟩ := ob_some_iff.1 e
  obtain ⟨s, h5, h1⟩ := ob_some_iff.1 h1
  obtain ⟨xv, h6, h5⟩ := ob_some_iff.1 h5
  obtain ⟨h2, h3, h4, h7⟩ := g.mit ((hρ x xv h6).one? h5) h1
  have hF : TR P h ι w (.tup [bl false]) (.tuple #[.bool false]) := .tup (vs := [.bool false]) (.cons (.one (.bb _)) .nil)
  obtain ⟨id, m, since, seen, stp⟩ := mq
  simp only at e h2 h3 h4 h7
  cases m with
  | none =>
    cases e
    refine Good.val (u := .tuple #[.bool false]) g ?_ hF
    unfold Instr.next
    simp only [Option.map_none] at h4
    simp [h2, getObj, Sem.run, h4]
  | some m =>
    obtain ⟨es, h8, e⟩ := ob_some_iff.1 (show (map? h m).ob _ = some q from e)
    obtain ⟨h9, e⟩ := bc_none_iff.1 e
    obtain ⟨h9, h10⟩ : since ≤ stp ∧ es.1.all (fun e => Nat.blt e.2.2 since) = true := by
      rw [bc_eq] at h9
      split at h9
      · rename_i h11; exact ⟨by simpa using h11, h9⟩
      · cases h9
    obtain ⟨ms, h11, h12⟩ := g.map h8
    have hold : ∀ y ∈ ms.toArray.toList, y.born < since := by
      intro y hy
      have : ∀ {l : List (TV × TV × Nat)} {m : List MapEntry}, All2 (EntR P h ι w) l m → l.all (fun e => Nat.blt e.2.2 since) = true → ∀ y ∈ m, y.born < since := by
        intro l m hl
        induction hl with
        | nil => intro _ y hy; cases hy
        | cons a t ih =>
          intro hall y hy
          rw [List.all_cons, Bool.and_eq_true] at hall
          rcases List.mem_cons.1 hy with rfl | hy
          · rw [← a.b]; exact (blt_iff _ _).1 hall.1
          · exact ih hall.2 y hy
      exact this h12 h10 y hy
    have hleft : All2 (EntR P h ι w) (es.1.filter (fun e => !seen.contains e.2.2)) (leftOf ms.toArray seen.toArray).toList := by
      have := h12.filter (p := fun e => !seen.contains e.2.2) (p' := fun e => !seen.contains e.born) (fun a b hr => by rw [hr.b])
      unfold leftOf
      simpa using this
    have hrun := run_next_at (P := P) w ty (ι id) (ι m) since stp seen.toArray ms.toArray es.2 h4 h11 hold h9
    split at e
    · rename_i hl
      cases e
      rw [hl] at hleft
      rcases hrun with ⟨_, hr⟩ | ⟨y, hy, _⟩
      · exact Good.val (u := .tuple #[.bool false]) g (by rw [h2]; exact hr) hF
      · exfalso
        generalize (leftOf ms.toArray seen.toArray).toList = L at hleft hy
        cases hleft
        cases hy
    · rename_i e0 hl
      cases e
      rw [hl] at hleft
      generalize hL : (leftOf ms.toArray seen.toArray).toList = L at hleft hrun
      cases hleft with
      | cons a b =>
        cases b
        rename_i y0
        rcases hrun with ⟨h0, _⟩ | ⟨y, hy, w1, hw1, hr⟩
        · exfalso
          have : (leftOf ms.toArray seen.toArray).toList.length = 0 := h0
          rw [hL] at this
          simp at this
        · have hyy : y = y0 := by simpa using hy
          subst hyy
          have g1 : Ga P w0 h ι w1 := by rcases hw1 with rfl | rfl; exact g; exact g.drew
          have ev1 : Evo h ι w h ι w1 := by rcases hw1 with rfl | rfl; exact Evo.refl _ _ _; exact Evo.drew
          have h41 : w1.heap[ι id]? = some (.mapIter (some (ι m)) since seen.toArray stp) := by rcases hw1 with rfl | rfl <;> exact h4
          obtain ⟨g2, ev2⟩ := g1.put (o' := .mit (some m) since (seen ++ [e0.2.2]) es.2) (ob' := .mapIter (some (ι m)) since (seen.toArray.push y.born) es.2) h3 rfl (Nat.le_refl _) rfl h41 (Nat.le_refl _) (only_setBlock h41)
            (by
              have := ObR.mit (P := P) (h := h) (ι := ι) (w := w1) (some m) since (seen ++ [e0.2.2]) es.2 (fun j hj => h7 j hj)
              rw [a.b] at this ⊢
              simpa using this)
          have ev := ev1.trans ev2
          refine ⟨.tuple #[.bool true, y.key, y.val], ι, _, .inl (by rw [h2]; simp [hr]), g2, ev, ?_⟩
          exact .tup (vs := [.bool true, y.key, y.val]) (.cons (.one (.bb _)) (.cons (a.k.evo ev) (.cons (a.v.evo ev) .nil)))
    · cases e

theorem All2.find {α β : Type} {R : α → β → Prop} {p : α → Bool} {p' : β → Bool} (hp : ∀ a b, R a b → p a = p' b) {l : List α} {m : List β} (hf : All2 R l m) {x : α} (e : l.find? p = some x) : ∃ y, m.find? p' = some y ∧ R x y := by
  induction hf with
  | nil => cases e
  | cons a t ih =>
    rw [List.find?_cons] at e ⊢
    rw [← hp _ _ a]
    split at e
    · cases e; exact ⟨_, rfl, a⟩
    · exact ih e

theorem g_entry (g : Ga P w0 h ι w) (hρ : EnvR P h ι w r ρ) {x : Operand} {q : TV × Option Hp} (e : x_entry r h x = some q) :
    Good P w0 h ι w (do Pure.pure (.value (← Instr.entry (ρ x)))) q.1 q.2 := by
  unfold x_entry at e
  obtain ⟨mq, h1, e⟩ := ob_some_iff.1 e
  obtain ⟨s, h5, h1⟩ := ob_some_iff.1 h1
  obtain ⟨xv, h6, h5⟩ := ob_some_iff.1 h5
  obtain ⟨h2, h3, h4, h7⟩ := g.mit ((hρ x xv h6).one? h5) h1
  obtain ⟨m, h8, e⟩ := ob_some_iff.1 e
  obtain ⟨es, h9, e⟩ := ob_some_iff.1 e
  obtain ⟨b, h10, e⟩ := ob_some_iff.1 e
  obtain ⟨h11, e⟩ := bc_none_iff.1 e
  obtain ⟨e0, h12, e⟩ := ob_some_iff.1 e
  cases e
  obtain ⟨ms, h13, h14⟩ := g.map h9
  rw [Nat.beq_eq] at h11
  rw [h8] at h4
  obtain ⟨y, h15, h16⟩ := h14.find (p' := fun (e : MapEntry) => e.born == b) (fun a c hr => by rw [hr.b, Bool.eq_iff_iff, Nat.beq_eq, beq_iff_eq]) h12
  refine Good.val (u := .tuple #[y.key, y.val]) g ?_ (.tup (vs := [y.key, y.val]) (.cons h16.k (.cons h16.v .nil)))
  unfold Instr.entry
  have h17 : mq.2.2.2.1.toArray.back? = some b := by rw [List.back?_toArray]; exact h10
  have h18 : ms.toArray.find? (fun (e : MapEntry) => e.born == b) = some y := by rw [← Array.find?_toList]; exact h15
  simp only [Option.map_some] at h4
  simp [h2, getObj, Sem.run, h4, h13, h11, h10, h15]
end
end Go.VI
