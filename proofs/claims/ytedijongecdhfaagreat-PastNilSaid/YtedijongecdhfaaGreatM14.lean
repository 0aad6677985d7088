/-
  An abstract interpreter of loaded code, proved to tell the truth; a part of the proof that redpencillaw48.PastNil returns true, whatever the input.
-/
import Derived.Test.YtedijongecdhfaaGreatM13
namespace Go.VI
open Go Go.RowKit

/-- A struct of plain cells as a key. -/
def KeyAgg (P : Program) (t : TypeId) (ti : TI) : Prop := ∀ (xs : List SV), kindsC xs ti.zero = true → ∀ em w, (Instr.checkKey em 10000 t (.agg (xs.map cellV).toArray)).run P w = .ok () w
def KeyOk (P : Program) (T : Tab) : Prop := ∀ t ti, T t = some ti → ti.flat = true → ti.k.isAgg = true → KeyAgg P t ti

/-- A key. -/
inductive KV (ti : TI) : List SV → Value → Prop
  | int (k0 k : IntKind) (n : Int) (hk : ti.k = .int k0) : KV ti [.int k n] (.int k n)
  | bool (b : Bool) (hk : ti.k = .bool) : KV ti [.bool b] (.bool b)
  | str (s : ByteArray) (hk : ti.k = .str) : KV ti [.str s] (.string s)
  | agg (xs : List SV) (hf : ti.flat = true) (ha : ti.k.isAgg = true) (hz : kindsC xs ti.zero = true) : KV ti xs (.agg (xs.map cellV).toArray)

section
variable {P : Program} {T : Tab} {w0 : World} {h : Hp} {ι : Nat → Nat} {w : World} {t : TypeId} {ti : TI} {r : Env} {ρ : Operand → Value}

theorem keyO_some {v : TV} {u : Value} {ks : List SV} (hv : TR P h ι w v u) (e : keyO ti v = some ks) : KV ti ks u ∧ T1 P h ι w v u := by
  cases v with
  | one x =>
    have hx := hv.one? rfl
    have e' : keyK ti.k x = some ks := e
    refine ⟨?_, .one hx⟩
    cases hk : ti.k <;> rw [hk] at e' <;> simp only [keyK] at e' <;> try (cases e'; done)
    case int k0 => cases x <;> simp only at e' <;> cases e'; rw [hx.int_inv]; exact .int _ _ _ hk
    case bool => cases x <;> simp only at e' <;> cases e'; rw [hx.bool_inv]; exact .bool _ hk
    case str => cases x <;> simp only at e' <;> cases e'; rw [hx.str_inv]; exact .str _ hk
  | agg xs =>
    obtain ⟨h1, e⟩ := bc_none_iff.1 (show bc ti.flat (bc ti.k.isAgg (bc (kindsC xs ti.zero) (some xs) none) none) none = some ks from e)
    obtain ⟨h2, e⟩ := bc_none_iff.1 e
    obtain ⟨h3, e⟩ := bc_none_iff.1 e
    cases e
    obtain ⟨vs, rfl, ha⟩ := hv.agg? rfl
    refine ⟨?_, .agg ha⟩
    rw [kindsC_cells h3 ha]
    exact .agg _ h1 h2 h3
  | tup _ => cases e

theorem KV.check (hT : TabOk P T) (hK : KeyOk P T) (ht : T t = some ti) {ks : List SV} {u : Value} (hk : KV ti ks u) (em : Bool) : (Instr.checkKey em 10000 t u).run P w = .ok () w := by
  have hkd := (hT t ti ht).kind
  cases hk with
  | int k0 k n hk => rw [hk] at hkd; show (Instr.checkKey em (9999 + 1) t _).run P w = _; unfold Instr.checkKey; simp [Go.run_underlying hkd]
  | bool b hk => rw [hk] at hkd; show (Instr.checkKey em (9999 + 1) t _).run P w = _; unfold Instr.checkKey; simp [Go.run_underlying hkd]
  | str b hk => rw [hk] at hkd; show (Instr.checkKey em (9999 + 1) t _).run P w = _; unfold Instr.checkKey; simp [Go.run_underlying hkd]
  | agg _ hf ha hz => exact hK t ti ht hf ha _ hz em w

theorem eqS_true {x y : SV} (e : eqS x y = some true) : x = y := by
  unfold eqS at e
  split at e
  · split at e
    · obtain ⟨h1, h2⟩ := bc_none_iff.1 e
      rw [ikEq_iff] at h1
      rw [eqI_iff] at h2
      simp at h2
      rw [h1, h2]
    · cases e
  · split at e
    · simp at e; rw [e]
    · cases e
  · split at e
    · rw [(MapKept.bytes_beq _ _).1 (Option.some.inj e)]
    · cases e
  · cases e

theorem eqC_true : ∀ {xs ys : List SV}, eqC xs ys = some true → xs = ys
  | [], [], _ => rfl
  | [], _ :: _, e => by cases e
  | _ :: _, [], e => by cases e
  | x :: xs, y :: ys, e => by
    have e' : (match eqS x y, eqC xs ys with | some a, some b => some (a && b) | _, _ => none) = some true := e
    split at e'
    · rename_i a b h1 h2
      simp at e'
      obtain ⟨rfl, rfl⟩ := e'
      rw [eqS_true h1, eqC_true h2]
    · cases e'

theorem KV.same {ks : List SV} {u u' : Value} (h1 : KV ti ks u) (h2 : KV ti ks u') : u = u' := by
  cases h1 with
  | int k0 k n hk => cases h2 with
    | int _ _ _ _ => rfl
    | agg _ hf ha hz => rw [hk] at ha; cases ha
  | bool b hk => cases h2 with
    | bool _ _ => rfl
    | agg _ hf ha hz => rw [hk] at ha; cases ha
  | str b hk => cases h2 with
    | str _ _ => rfl
    | agg _ hf ha hz => rw [hk] at ha; cases ha
  | agg _ hf ha hz => 
    cases h2 with
    | int _ _ _ hk => rw [hk] at ha; cases ha
    | bool _ hk => rw [hk] at ha; cases ha
    | str _ hk => rw [hk] at ha; cases ha
    | agg _ _ _ _ => rfl

theorem sameBits_cell (n : Nat) {x z : SV} (hk : kindC x z = true) : Instr.sameBits n (cellV x) (cellV x) = true := by
  cases x <;> simp only [kindC] at hk <;> try (cases hk; done)
  all_goals (unfold cellV; cases n <;> first | (simp [Instr.sameBits]; done) | exact (MapKept.bytes_beq _ _).2 rfl)
theorem sameBits_all (n : Nat) : ∀ {xs zs : List SV}, kindsC xs zs = true → (((xs.map cellV).zip (xs.map cellV)).all fun p => Instr.sameBits n p.1 p.2) = true
  | [], _, _ => rfl
  | x :: xs, [], hk => by cases hk
  | x :: xs, z :: zs, hk => by
    obtain ⟨h1, h2⟩ : kindC x z = true ∧ kindsC xs zs = true := by
      have : bc (kindC x z) (kindsC xs zs) false = true := hk
      rw [bc_eq] at this; split at this
      · exact ⟨by assumption, this⟩
      · cases this
    simp only [List.map_cons, List.zip_cons_cons, List.all_cons, sameBits_cell n h1, Bool.true_and]
    exact sameBits_all n h2

theorem KV.stays {ks : List SV} {u : Value} (hk : KV ti ks u) : (Instr.keyThatStays u u).run P w = .ok u w := by
  have : Instr.sameBits 10000 u u = true := by
    cases hk with
    | int k0 k n hk => simp [Instr.sameBits]
    | bool b hk => simp [Instr.sameBits]
    | str b hk => exact (MapKept.bytes_beq _ _).2 rfl
    | agg _ hf ha hz =>
      show Instr.sameBits (9999 + 1) _ _ = true
      unfold Instr.sameBits
      simp only [beq_self_eq_true, Bool.true_and]
      exact sameBits_all 9999 hz
  unfold Instr.keyThatStays
  rw [if_pos this]
  rfl

/-- What is found, beside what the model finds. -/
inductive FR (P : Program) (h : Hp) (ι : Nat → Nat) (w : World) (u : Value) (es : List (TV × TV × Nat)) (ms : List MapEntry) (i : Nat) : Option (Nat × TV) → Option (Nat × Value) → Prop
  | none : FR P h ι w u es ms i none none
  | some (j : Nat) (e : TV × TV × Nat) (m : MapEntry) (he : es[j]? = some e) (hm : ms[j]? = some m) (hk : m.key = u) (hv : T1 P h ι w e.2.1 m.val) : FR P h ι w u es ms i (some (i + j, e.2.1)) (some (i + j, m.val))

theorem FR.up {u : Value} {es : List (TV × TV × Nat)} {ms : List MapEntry} {i : Nat} {a : Option (Nat × TV)} {b : Option (Nat × Value)} (e0 : TV × TV × Nat) (m0 : MapEntry) (hf : FR P h ι w u es ms (i + 1) a b) : FR P h ι w u (e0 :: es) (m0 :: ms) i a b := by
  cases hf with
  | none => exact .none
  | some j e m he hm hk hv =>
    have := FR.some (P := P) (h := h) (ι := ι) (w := w) (u := u) (es := e0 :: es) (ms := m0 :: ms) (i := i) (j + 1) e m (by simpa using he) (by simpa using hm) hk hv
    rw [← Nat.add_assoc, Nat.add_right_comm] at this
    exact this

/-- The first entry with a key, at a one-cell key. -/
theorem find_now {d : TypeDesc} {ks : List SV} {u : Value} (hs : ∀ ks' u' b, KV ti ks' u' → eqC ks ks' = some b → Instr.sameNow d u u' = some b) (hku : KV ti ks u) :
    ∀ {es : List (TV × TV × Nat)} {ms : List MapEntry} {i : Nat} {res : Option (Nat × TV)}, All2 (EntR P h ι w) es ms → findE ti ks es i = some res → ∃ res', Instr.findNow d u ms i = some res' ∧ FR P h ι w u es ms i res res'
  | [], _, i, _, hm, e => by cases hm; cases e; exact ⟨none, rfl, .none⟩
  | p :: es, _, i, _, hm, e => by
    cases hm with
    | cons a b =>
      rename_i m ms
      obtain ⟨c, h1, e⟩ := ob_some_iff.1 (show ((keyO ti p.1).ob (eqC ks)).ob (fun b => bc b (some (some (i, p.2.1))) (findE ti ks es (i + 1))) = some _ from e)
      obtain ⟨ks', h2, h3⟩ := ob_some_iff.1 h1
      have hk' := (keyO_some (.t a.k) h2).1
      have hsn := hs ks' _ c hk' h3
      cases c with
      | true =>
        cases e
        refine ⟨some (i, m.val), by unfold Instr.findNow; rw [hsn], ?_⟩
        have hks := eqC_true h3
        subst hks
        exact FR.some 0 p m rfl rfl (hk'.same hku) a.v
      | false =>
        obtain ⟨res', h4, h5⟩ := find_now hs hku b (show findE ti ks es (i + 1) = some _ from e)
        exact ⟨res', by unfold Instr.findNow; rw [hsn]; exact h4, h5.up p m⟩

theorem find_asking {ks : List SV} {u : Value} (hs : ∀ ks' u' b, KV ti ks' u' → eqC ks ks' = some b → (Op.equal t u u').run P w = .ok b w) (hku : KV ti ks u) :
    ∀ {es : List (TV × TV × Nat)} {ms : List MapEntry} {i : Nat} {res : Option (Nat × TV)}, All2 (EntR P h ι w) es ms → findE ti ks es i = some res → ∃ res', (Instr.findAsking t u ms i).run P w = .ok res' w ∧ FR P h ι w u es ms i res res'
  | [], _, i, _, hm, e => by cases hm; cases e; exact ⟨none, rfl, .none⟩
  | p :: es, _, i, _, hm, e => by
    cases hm with
    | cons a b =>
      rename_i m ms
      obtain ⟨c, h1, e⟩ := ob_some_iff.1 (show ((keyO ti p.1).ob (eqC ks)).ob (fun b => bc b (some (some (i, p.2.1))) (findE ti ks es (i + 1))) = some _ from e)
      obtain ⟨ks', h2, h3⟩ := ob_some_iff.1 h1
      have hk' := (keyO_some (.t a.k) h2).1
      have hsn := hs ks' _ c hk' h3
      cases c with
      | true =>
        cases e
        refine ⟨some (i, m.val), by unfold Instr.findAsking; simp [hsn], ?_⟩
        have hks := eqC_true h3
        subst hks
        exact FR.some 0 p m rfl rfl (hk'.same hku) a.v
      | false =>
        obtain ⟨res', h4, h5⟩ := find_asking hs hku b (show findE ti ks es (i + 1) = some _ from e)
        exact ⟨res', by unfold Instr.findAsking; simp [hsn, h4], h5.up p m⟩

theorem eqC_one {x y : SV} {b : Bool} (e : eqC [x] [y] = some b) : eqS x y = some b := by
  have e' : (match eqS x y, eqC [] [] with | some a, some b => some (a && b) | _, _ => none) = some b := e
  have h0 : eqC [] [] = some true := rfl
  rw [h0] at e'
  cases h1 : eqS x y with
  | none => rw [h1] at e'; cases e'
  | some c => rw [h1] at e'; simpa using e'

theorem find_key (hT : TabOk P T) (hF : FlatOk P T) (ht : T t = some ti) {ks : List SV} {u : Value} (hku : KV ti ks u)
    {es : List (TV × TV × Nat)} {ms : List MapEntry} {res : Option (Nat × TV)} (hm : All2 (EntR P h ι w) es ms) (e : findE ti ks es 0 = some res) :
    ∃ res', (Instr.findKey t u ms).run P w = .ok res' w ∧ FR P h ι w u es ms 0 res res' := by
  have hkd := (hT t ti ht).kind
  have now : ∀ d, P.underlying t = some d → (∀ ks' u' b, KV ti ks' u' → eqC ks ks' = some b → Instr.sameNow d u u' = some b) → ∃ res', (Instr.findKey t u ms).run P w = .ok res' w ∧ FR P h ι w u es ms 0 res res' := by
    intro d hd hs
    obtain ⟨res', h1, h2⟩ := find_now hs hku hm e
    refine ⟨res', ?_, h2⟩
    unfold Instr.findKey
    simp only [Sem.run_bind, Go.run_underlying hd, Result.andThen_ok, h1]
    rfl
  cases hku with
  | int k0 k n hk =>
    rw [hk] at hkd
    refine now _ hkd (fun ks' u' b h1 h2 => ?_)
    cases h1 with
    | int k0' k' n' _ =>
      have h3 := eqC_one h2
      obtain ⟨h4, h5⟩ := bc_none_iff.1 (show bc (ikEq k k') (some (eqI n n')) none = some b from h3)
      rw [ikEq_iff] at h4
      subst h4
      rw [eqI_iff] at h5
      show (if k = k then some (n == n') else none) = some b
      rw [if_pos rfl]; exact h5
    | bool _ hk' => rw [hk] at hk'; cases hk'
    | str _ hk' => rw [hk] at hk'; cases hk'
    | agg _ _ ha _ => rw [hk] at ha; cases ha
  | bool c hk =>
    rw [hk] at hkd
    refine now _ hkd (fun ks' u' b h1 h2 => ?_)
    cases h1 with
    | bool c' _ => exact eqC_one h2
    | int _ _ _ hk' => rw [hk] at hk'; cases hk'
    | str _ hk' => rw [hk] at hk'; cases hk'
    | agg _ _ ha _ => rw [hk] at ha; cases ha
  | str c hk =>
    rw [hk] at hkd
    refine now _ hkd (fun ks' u' b h1 h2 => ?_)
    cases h1 with
    | str c' _ => exact eqC_one h2
    | int _ _ _ hk' => rw [hk] at hk'; cases hk'
    | bool _ hk' => rw [hk] at hk'; cases hk'
    | agg _ _ ha _ => rw [hk] at ha; cases ha
  | agg _ hf ha hz =>
    obtain ⟨_, hq⟩ := hF t ti ht hf ha
    obtain ⟨d, hd, _, hstr, _⟩ := (hT t ti ht).run_underlying (w := w)
    obtain ⟨fs, rfl⟩ := hstr.1 ha
    have hs : ∀ ks' u' b, KV ti ks' u' → eqC ks ks' = some b → (Op.equal t (.agg (ks.map cellV).toArray) u').run P w = .ok b w := by
      intro ks' u' b h1 h2
      cases h1 with
      | agg _ _ _ hz' => exact hq _ _ _ hz hz' h2 w
      | int _ _ _ hk' => rw [hk'] at ha; cases ha
      | bool _ hk' => rw [hk'] at ha; cases ha
      | str _ hk' => rw [hk'] at ha; cases ha
    obtain ⟨res', h1, h2⟩ := find_asking hs (.agg ks hf ha hz) hm e
    refine ⟨res', ?_, h2⟩
    unfold Instr.findKey
    simp only [Sem.run_bind, Go.run_underlying hd, Result.andThen_ok]
    cases ms with
    | nil =>
      cases hm
      cases h1
      rfl
    | cons m ms =>
      have : Instr.findNow (.struct fs) (.agg (ks.map cellV).toArray) (m :: ms) 0 = none := by
        unfold Instr.findNow Instr.sameNow
        rfl
      rw [this]
      exact h1
end
end Go.VI
