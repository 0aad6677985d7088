/-
  An abstract interpreter of loaded code, proved to tell the truth; a part of the proof that redpencillaw48.PastNil returns true, whatever the input.
-/
import Derived.Test.YtedijongecdhfaaGreatM10
namespace Go.VI
open Go Go.RowKit

section
variable {P : Program} {T : Tab} {w0 : World} {h : Hp} {ι : Nat → Nat} {w : World} {t : TypeId} {r : Env} {ρ : Operand → Value}

theorem g_load (hT : TabOk P T) (g : Ga P w0 h ι w) (hρ : EnvR P h ι w r ρ) {a : Operand} {q : TV × Option Hp} (e : x_load T r h t a = some q) :
    Good P w0 h ι w (do Pure.pure (.value (← Instr.loadAt t (ρ a)))) q.1 q.2 := by
  unfold x_load at e
  obtain ⟨e, hq⟩ := keep_some e
  rw [hq]
  obtain ⟨av, h1, e⟩ := ob_some_iff.1 e
  unfold loadAt at e
  obtain ⟨ti, h2, e⟩ := ob_some_iff.1 e
  obtain ⟨s, h3, e⟩ := ob_some_iff.1 e
  obtain ⟨u, h4, h5⟩ := s_load hT g ((hρ a av h1).one? h3) h2 e
  exact Good.val g h4 (.t h5)

theorem g_store (hT : TabOk P T) (g : Ga P w0 h ι w) (hρ : EnvR P h ι w r ρ) {a x : Operand} {q : TV × Option Hp} (e : x_store T r h t a x = some q) :
    Good P w0 h ι w (do Instr.storeAt t (ρ a) (ρ x); Pure.pure .skip) q.1 q.2 := by
  unfold x_store at e
  obtain ⟨av, h1, e⟩ := ob_some_iff.1 e
  obtain ⟨xv, h2, e⟩ := ob_some_iff.1 e
  obtain ⟨h', h3, e⟩ := ob_some_iff.1 e
  cases e
  unfold storeAt at h3
  obtain ⟨ti, h4, h3⟩ := ob_some_iff.1 h3
  obtain ⟨cs, h5, h3⟩ := ob_some_iff.1 h3
  obtain ⟨s, h6, h3⟩ := ob_some_iff.1 h3
  obtain ⟨w', h7, h8, h9⟩ := s_store hT g ((hρ a av h1).one? h6) (hρ x xv h2) h5 h4 h3
  exact ⟨undef, ι, w', .inr ⟨by simp [h7], rfl⟩, h8, h9, und_TR⟩

theorem isNil_false {x : SV} {v : Value} (hx : VR P h ι w x v) (e : isNil x = some false) : v ≠ .pointer none ∧ v ≠ .nilIface ∧ v ≠ .nilFunc ∧ ∀ n f c, v ≠ .func (.method n) f c := by
  cases x <;> simp only [isNil] at e <;> try (cases e; done)
  case lit x => 
    exfalso
    unfold nilV at e
    split at e <;> cases e
  case ptr => cases hx with | b hb => cases hb; simp
  case sl => cases hx with | b hb => cases hb; simp
  case mp => cases hx with | b hb => cases hb; simp
  case fn f cs =>
    obtain ⟨f', vs, rfl, h1, _⟩ := hx.fn_inv
    cases h1 <;> simp

theorem g_nilCheck (g : Ga P w0 h ι w) (hρ : EnvR P h ι w r ρ) {o : Oper} {x : Operand} (ho : o.op = .nilCheck x) {q : TV × Option Hp} (e : x_nilCheck r x = some q) :
    Good P w0 h ι w (execOp ρ o) q.1 q.2 := by
  unfold x_nilCheck at e
  obtain ⟨s, h1, e⟩ := ob_some_iff.1 e
  obtain ⟨xv, h0, h1⟩ := ob_some_iff.1 h1
  obtain ⟨b, h2, e⟩ := ob_some_iff.1 e
  rw [bc_eq] at e
  split at e
  · cases e
  · rename_i hb
    cases e
    have hv := (hρ x xv h0).one? h1
    obtain ⟨e1, e2, e3, e4⟩ := isNil_false hv (by rw [h2]; simpa using hb)
    refine Good.pure (u := ρ x) g ?_ (.one hv)
    unfold execOp
    simp only [ho]
    generalize ρ x = v at e1 e2 e3 e4
    cases v with
    | pointer a => cases a with
      | none => exact absurd rfl e1
      | some a => rfl
    | nilIface => exact absurd rfl e2
    | nilFunc => exact absurd rfl e3
    | func f a b => cases f with
      | method n => exact absurd rfl (e4 _ _ _)
      | _ => rfl
    | _ => rfl

theorem g_binOp (hT : TabOk P T) (hF : FlatOk P T) (g : Ga P w0 h ι w) (hρ : EnvR P h ι w r ρ) {op : BinOp} {x y : Operand} {q : TV × Option Hp} (e : x_binOp T r op t x y = some q) :
    Good P w0 h ι w ((do eqGuard op t x y (ρ x) (ρ y); binOp op t (ρ x) (ρ y) : Sem Value) >>= fun u => Pure.pure (.value u)) q.1 q.2 := by
  unfold x_binOp at e
  obtain ⟨ti, h1, e⟩ := ob_some_iff.1 e
  obtain ⟨a, h2, e⟩ := ob_some_iff.1 e
  obtain ⟨b, h3, e⟩ := ob_some_iff.1 e
  obtain ⟨e, hq⟩ := keep_some e
  rw [hq]
  obtain ⟨u, h4, h5⟩ := p_bin hT hF h1 (X := x) (Y := y) (w := w) (hρ x a h2) (hρ y b h3) e
  exact Good.val g h4 h5

theorem g_unOp (g : Ga P w0 h ι w) (hρ : EnvR P h ι w r ρ) {op : UnOp} {x : Operand} {q : TV × Option Hp} (e : x_unOp r op x = some q) :
    Good P w0 h ι w (do Pure.pure (.value (← Op.unary op (ρ x)))) q.1 q.2 := by
  unfold x_unOp at e
  obtain ⟨s, h1, e⟩ := ob_some_iff.1 e
  obtain ⟨xv, h0, h1⟩ := ob_some_iff.1 h1
  obtain ⟨e, hq⟩ := keep_some e
  rw [hq]
  obtain ⟨z, h2, h3⟩ := om_some_iff.1 e
  rw [← h3]
  obtain ⟨u, h4, h5⟩ := p_un (w := w) ((hρ x xv h0).one? h1) h2
  exact Good.val g h4 (.one h5)

theorem onesL_some : ∀ {l : List TV} {vs : List Value} {cs : List SV}, onesL l = some cs → All2 (TR P h ι w) l vs → All2 (VB P h ι w) cs vs
  | [], _, _, e, hv => by cases hv; cases e; exact .nil
  | x :: l, _, _, e, hv => by
    cases hv with
    | cons a b =>
      obtain ⟨y, h1, e⟩ := ob_some_iff.1 (show (x.one?.ob plainS).ob (fun x => (onesL l).ob fun xs => some (x :: xs)) = some _ from e)
      obtain ⟨ys, h2, e⟩ := ob_some_iff.1 e
      cases e
      obtain ⟨z, h3, h4⟩ := ob_some_iff.1 h1
      have hz := a.one? h3
      refine .cons ?_ (onesL_some h2 b)
      cases z <;> simp only [plainS] at h4 <;> cases h4 <;> (cases hz; assumption)

theorem g_makeFunc (g : Ga P w0 h ι w) (hρ : EnvR P h ι w r ρ) {f : Fn} {first caps : Array Operand} {q : TV × Option Hp} (e : x_makeFunc r f first caps = some q) :
    Good P w0 h ι w (do Pure.pure (.value (← Instr.makeFunc f (first.map ρ) (caps.map ρ)))) q.1 q.2 := by
  unfold x_makeFunc at e
  split at e
  case h_2 => cases e
  rename_i k
  obtain ⟨h1, e⟩ := bc_none_iff.1 e
  obtain ⟨cs, h2, e⟩ := ob_some_iff.1 e
  obtain ⟨vs, h3, h2⟩ := ob_some_iff.1 h2
  cases e
  have h4 := onesL_some h2 (evalA_some hρ h3)
  have h5 : first = #[] := Array.eq_empty_of_size_eq_zero (by simpa using h1)
  subst h5
  refine Good.val (u := .func (.func k) #[] (caps.map ρ)) g (by simp [Instr.makeFunc]) (.one ?_)
  have : caps.map ρ = (caps.toList.map ρ).toArray := by apply Array.toList_inj.1; simp
  rw [this]
  exact .fn (.func k) h4

theorem run_asInt {v : Value} {k : IntKind} {n : Nat} (e : v = .int k (n : Int)) : (asInt v).run P w = .ok (n : Int) w := by subst e; simp [asInt, asIntOf]

theorem g_makeMap (hT : TabOk P T) (g : Ga P w0 h ι w) (hρ : EnvR P h ι w r ρ) {s : Option Operand} {q : TV × Option Hp} (e : x_makeMap T r h t s = some q) :
    Good P w0 h ι w (do Pure.pure (.value (← Instr.makeMap t (s.map ρ)))) q.1 q.2 := by
  unfold x_makeMap at e
  obtain ⟨_, h1, e⟩ := ob_some_iff.1 e
  cases e
  refine Good.new g (ob := .map #[] 0) (u := .map (some w.heap.size)) ?_ (by simpa using ObR.map (P := P) (h := h) (ι := ι) (w := w) (clock := 0) All2.nil) (.b ?_)
  · unfold Instr.makeMap
    cases s with
    | none => simp [newObj, Sem.run]
    | some x =>
      unfold hintO at h1
      obtain ⟨ti, h2, h1⟩ := ob_some_iff.1 h1
      obtain ⟨e1, h3, h1⟩ := ob_some_iff.1 h1
      obtain ⟨n, h4, _⟩ := ob_some_iff.1 h1
      obtain ⟨xv, h5, h4⟩ := ob_some_iff.1 h4
      have hk := (hT t ti h2).kind
      rw [K.map?_some h3] at hk
      obtain ⟨k, h6⟩ := (hρ x xv h5).nat? h4
      have h7 : (asInt (ρ x)).run P w = .ok (n : Int) w := run_asInt h6
      simp [Go.run_underlying hk, h7, newObj, Sem.run]
  · have hu : Value.map (some w.heap.size) = .map (some (up ι h.n w.heap.size h.n)) := by rw [up_same]
    rw [hu]
    exact .mp _ (by show h.n < h.n + 1; omega) (by unfold isArr; rw [new_get])

theorem g_extract (g : Ga P w0 h ι w) (hρ : EnvR P h ι w r ρ) {x : Operand} {i : Nat} {q : TV × Option Hp} (e : x_extract r x i = some q) :
    Good P w0 h ι w (do Pure.pure (.value (← Instr.extract (ρ x) i))) q.1 q.2 := by
  unfold x_extract at e
  obtain ⟨v, h1, e⟩ := ob_some_iff.1 e
  have hx := hρ x v h1
  split at e
  · rename_i l
    obtain ⟨h2, hq⟩ := keep_some e
    rw [hq]
    rw [nth_eq] at h2
    generalize hu : ρ x = u at hx
    cases hx with
    | t ht => cases ht
    | tup hl =>
      obtain ⟨y, h3, h4⟩ := hl.get h2
      refine Good.val (u := y) g ?_ (.t h4)
      unfold Instr.extract
      simp [h3]
  · cases e

theorem ptr_inv {id ep off : Nat} {v : Value} (hx : VR P h ι w (.ptr id ep off) v) : ∃ a, v = .pointer (some a) ∧ id < h.n ∧ ep ≤ age h id ∧ (ep = age h id → a = ⟨ι id, off, none⟩) := by
  cases hx with | b hb => cases hb with | ptr _ _ _ a h1 h2 h3 => exact ⟨a, rfl, h1, h2, h3⟩
theorem sl_inv {id ep off len : Nat} {v : Value} (hx : VR P h ι w (.sl id ep off len) v) : ∃ a cap, v = .slice (some a) len cap ∧ id < h.n ∧ ep ≤ age h id ∧ len ≤ cap ∧
    (ep = age h id → (cap = 0 ∨ a = ⟨ι id, off, none⟩) ∧ off + cap * P.cellsOf (elt h id) ≤ bsz w (ι id)) := by
  cases hx with | b hb => cases hb with | sl _ _ _ _ cap a h1 h2 h3 h4 => exact ⟨a, cap, rfl, h1, h2, h3, h4⟩

theorem g_fieldAddr (hT : TabOk P T) (g : Ga P w0 h ι w) (hρ : EnvR P h ι w r ρ) {x : Operand} {f : Nat} {q : TV × Option Hp} (e : x_fieldAddr T r t x f = some q) :
    Good P w0 h ι w (do Pure.pure (.value (← Instr.fieldAt t (ρ x) f))) q.1 q.2 := by
  unfold x_fieldAddr at e
  obtain ⟨ti, h1, e⟩ := ob_some_iff.1 e
  obtain ⟨fs, h2, e⟩ := ob_some_iff.1 e
  obtain ⟨fd, h3, e⟩ := ob_some_iff.1 e
  obtain ⟨tf, h4, e⟩ := ob_some_iff.1 e
  rw [bc_eq] at e
  split at e
  · cases e
  rename_i hsz
  obtain ⟨s, h5, e⟩ := ob_some_iff.1 e
  obtain ⟨xv, h6, h5⟩ := ob_some_iff.1 h5
  obtain ⟨e, hq⟩ := keep_some e
  rw [hq]
  obtain ⟨z, h7, h8⟩ := om_some_iff.1 e
  rw [← h8]
  have hv := (hρ x xv h6).one? h5
  have hk := (hT t ti h1).kind
  rw [K.struct?_some h2] at hk
  obtain ⟨arr, ha, hb, hc⟩ := hk
  rw [nth_eq, ← hb, List.getElem?_map] at h3
  obtain ⟨f', h9, h10⟩ := Option.map_eq_some_iff.1 h3
  subst h10
  have h11 : arr[f]? = some f' := by rw [← Array.getElem?_toList]; exact h9
  cases s <;> simp only [ptrAdd] at h7 <;> try (cases h7; done)
  case ptr =>
    cases h7
    obtain ⟨a, h12, h13, h14, h15⟩ := ptr_inv hv
    refine Good.val (u := .pointer (some (a.add f'.offset))) g ?_ (.one (.b (.ptr _ _ _ _ h13 h14 (fun he => ?_))))
    · unfold Instr.fieldAt
      have hs := (hT _ _ h4).sizeOf (w := w)
      have hne : ¬ tf.size = 0 := by simpa using hsz
      simp [Go.run_underlying ha, h11, h12, Instr.sureAddr, fieldPlace, hs, hne]
    · rw [h15 he]; simp [Addr.add]

theorem g_indexAddr (hT : TabOk P T) (g : Ga P w0 h ι w) (hρ : EnvR P h ι w r ρ) {x i : Operand} {q : TV × Option Hp} (e : x_indexAddr T r t x i = some q) :
    Good P w0 h ι w (do Pure.pure (.value (← Instr.indexAt t (ρ x) (ρ i)))) q.1 q.2 := by
  unfold x_indexAddr at e
  obtain ⟨ti, h1, e⟩ := ob_some_iff.1 e
  obtain ⟨el, h2, e⟩ := ob_some_iff.1 e
  obtain ⟨te, h3, e⟩ := ob_some_iff.1 e
  obtain ⟨s, h5, e⟩ := ob_some_iff.1 e
  obtain ⟨xv, h6, h5⟩ := ob_some_iff.1 h5
  obtain ⟨n, h7, e⟩ := ob_some_iff.1 e
  obtain ⟨iv, h8, h7⟩ := ob_some_iff.1 h7
  obtain ⟨e, hq⟩ := keep_some e
  rw [hq]
  obtain ⟨z, h9, h10⟩ := om_some_iff.1 e
  rw [← h10]
  have hv := (hρ x xv h6).one? h5
  obtain ⟨k, hi⟩ := (hρ i iv h8).nat? h7
  have hk := (hT t ti h1).kind
  rw [K.slice?_some h2] at hk
  cases s <;> simp only [idxS] at h9 <;> try (cases h9; done)
  case sl =>
    obtain ⟨hlt, h9⟩ := bc_none_iff.1 h9
    cases h9
    rw [blt_iff] at hlt
    obtain ⟨a, cap, h12, h13, h14, h15, h16⟩ := sl_inv hv
    refine Good.val (u := .pointer (some (a.add (n * te.size)))) g ?_ (.one (.b (.ptr _ _ _ _ h13 h14 (fun he => ?_))))
    · unfold Instr.indexAt
      have hs := (hT _ _ h3).sizeOf (w := w)
      have hlt' := Int.ofNat_lt.2 hlt
      simp [Go.run_underlying hk, hi, h12, asIntOf, hs, hlt]
    · rcases (h16 he).1 with h17 | h17
      · omega
      · rw [h17]; simp [Addr.add]

theorem g_index (hT : TabOk P T) (g : Ga P w0 h ι w) (hρ : EnvR P h ι w r ρ) {x i : Operand} {q : TV × Option Hp} (e : x_index T r t x i = some q) :
    Good P w0 h ι w (do Pure.pure (.value (← Instr.index t (ρ x) (ρ i)))) q.1 q.2 := by
  unfold x_index at e
  obtain ⟨ti, h1, e⟩ := ob_some_iff.1 e
  split at e
  · rename_i hkk
    obtain ⟨n, h7, e⟩ := ob_some_iff.1 e
    obtain ⟨iv, h8, h7⟩ := ob_some_iff.1 h7
    obtain ⟨s, h5, e⟩ := ob_some_iff.1 e
    obtain ⟨xv, h6, h5⟩ := ob_some_iff.1 h5
    obtain ⟨e, hq⟩ := keep_some e
    rw [hq]
    obtain ⟨z, h9, h10⟩ := om_some_iff.1 e
    rw [← h10]
    have hv := (hρ x xv h6).one? h5
    obtain ⟨k, hi⟩ := (hρ i iv h8).nat? h7
    have hk := (hT t ti h1).kind
    rw [hkk] at hk
    cases s <;> simp only [strIx] at h9 <;> try (cases h9; done)
    case str b =>
      obtain ⟨c, h11, h12⟩ := om_some_iff.1 h9
      subst h12
      refine Good.val (u := .int .u8 (c.toNat : Nat)) g ?_ (.one (.i _ _))
      unfold Instr.index
      simp [Go.run_underlying hk, hi, hv.str_inv, asIntOf, h11]
  · cases e
end
end Go.VI
