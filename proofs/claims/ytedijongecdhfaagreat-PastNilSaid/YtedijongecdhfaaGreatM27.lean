/-
  An abstract interpreter of loaded code, proved to tell the truth; a part of the proof that redpencillaw48.PastNil returns true, whatever the input.
-/
import Derived.Test.YtedijongecdhfaaGreatM26
namespace Go.VI
open Go Go.RowKit

theorem binds_any (e : Edge) : Region.binds .any e = bindsE e := by
  unfold Region.binds bindsE
  cases e.ground <;> rfl

/-- How many are yet to come. -/
def cnt : List Bool → Nat
  | [] => 0
  | b :: l => (if b then 0 else 1) + cnt l
theorem cnt_set : ∀ {l : List Bool} {i : Nat}, l[i]? = some false → cnt (l.set i true) + 1 = cnt l
  | [], i, h => by simp at h
  | b :: l, 0, h => by simp at h; subst h; simp [cnt]; omega
  | b :: l, i + 1, h => by
    have := cnt_set (l := l) (i := i) (by simpa using h)
    simp only [List.set_cons_succ, cnt]; omega
theorem cnt_zero : ∀ {l : List Bool}, cnt l = 0 → ∀ (i : Nat), i < l.length → l[i]? = some true
  | [], _, i, h => by simp at h
  | b :: l, hz, i, h => by
    cases b with
    | false => simp [cnt] at hz
    | true =>
      cases i with
      | zero => rfl
      | succ i => exact cnt_zero (l := l) (by simpa [cnt] using hz) i (by simpa using h)
theorem cnt_rep : ∀ n, cnt (List.replicate n false) = n
  | 0 => rfl
  | n + 1 => by rw [List.replicate_succ]; simp [cnt, cnt_rep n]; omega
theorem cnt_pos : ∀ {l : List Bool}, 0 < cnt l → ∃ i : Nat, l[i]? = some false ∧ ∀ j : Nat, j < i → l[j]? = some true
  | [], h => by simp [cnt] at h
  | b :: l, h => by
    cases b with
    | false => exact ⟨0, rfl, fun j hj => by omega⟩
    | true =>
      obtain ⟨i, h1, h2⟩ := cnt_pos (l := l) (by simpa [cnt] using h)
      refine ⟨i + 1, by simpa using h1, fun j hj => ?_⟩
      cases j with
      | zero => rfl
      | succ j => simpa using h2 j (by omega)

section
variable {P : Program} {T : Tab} {run : Job → Res} {ops : Array Oper} {S : Nat → Fr × Hp} {V : Nat → TV} {M : Nat → Bool}

theorem putT_get (f : Fr) (d : Option Tmp) (v : TV) (t : Tmp) : (putT f d v).get t = if d = some t then (if t < f.n then some v else none) else f.get t := by
  cases d with
  | none => rfl
  | some d =>
    show (f.set d v).get t = _
    rw [fget_set]
    by_cases h : t = d
    · subst h; simp
    · have h' : ¬ (some d = some t) := by simp; exact fun hh => h hh.symm
      rw [if_neg h, if_neg h']
      split
      · rfl
      · rename_i hn; rw [fget, if_neg hn]
theorem putT_n (f : Fr) (d : Option Tmp) (v : TV) : (putT f d v).n = f.n ∧ (putT f d v).ms = f.ms ∧ (putT f d v).rd = f.rd := by cases d <;> exact ⟨rfl, rfl, rfl⟩

theorem S_n (R : Runs T run ops.toList S V M) : ∀ k, k ≤ ops.size → (S k).1.n = (S 0).1.n ∧ (S k).1.ms = (S 0).1.ms ∧ (S k).1.rd = (S 0).1.rd
  | 0, _ => ⟨rfl, rfl, rfl⟩
  | k + 1, h => by
    have hk : ops.toList[k]? = some ops[k] := by rw [Array.getElem?_toList]; exact Array.getElem?_eq_getElem (by omega)
    obtain ⟨oh, _, _, h3⟩ := R.step k _ hk
    rw [h3]
    obtain ⟨a, b, c⟩ := putT_n (S k).1 ops[k].dst (V k)
    obtain ⟨a', b', c'⟩ := S_n R k (by omega)
    exact ⟨a.trans a', b.trans b', c.trans c'⟩

theorem S_none (R : Runs T run ops.toList S V M) {t : Tmp} : ∀ k, k ≤ ops.size → (∀ (j : Nat) (o : Oper), j < k → ops.toList[j]? = some o → o.dst ≠ some t) → (S k).1.get t = (S 0).1.get t
  | 0, _, _ => rfl
  | k + 1, h, hn => by
    have hk : ops.toList[k]? = some ops[k] := by rw [Array.getElem?_toList]; exact Array.getElem?_eq_getElem (by omega)
    obtain ⟨oh, _, _, h3⟩ := R.step k _ hk
    rw [h3, putT_get, if_neg (hn k _ (by omega) hk)]
    exact S_none R k (by omega) (fun j o hj => hn j o (by omega))

theorem S_some (R : Runs T run ops.toList S V M) (sh : Shape ops.toList) {t : Tmp} {j : Nat} {p : Oper} (hj : ops.toList[j]? = some p) (hd : p.dst = some t) : ∀ k, j < k → k ≤ ops.size → (S k).1.get t = (S (j + 1)).1.get t
  | 0, h, _ => by omega
  | k + 1, h1, h2 => by
    by_cases hjk : j = k
    · subst hjk; rfl
    · have hk : ops.toList[k]? = some ops[k] := by rw [Array.getElem?_toList]; exact Array.getElem?_eq_getElem (by omega)
      obtain ⟨oh, _, _, h3⟩ := R.step k _ hk
      have : ops[k].dst ≠ some t := sh.dst j k p _ t hjk hj hk hd
      rw [h3, putT_get, if_neg this]
      exact S_some R sh hj hd k (by omega) (by omega)

theorem S_heap (R : Runs T run ops.toList S V M) {x : Nat} : ∀ y, x ≤ y → y ≤ ops.size → (∀ k, x ≤ k → k < y → M k = false) → (S y).2 = (S x).2
  | 0, h, _, _ => by have : x = 0 := by omega
                     subst this; rfl
  | y + 1, h, hy, hm => by
    by_cases hxy : x = y + 1
    · subst hxy; rfl
    · have hk : ops.toList[y]? = some ops[y] := by rw [Array.getElem?_toList]; exact Array.getElem?_eq_getElem (by omega)
      obtain ⟨oh, _, h2, h3⟩ := R.step y _ hk
      have := hm y (by omega) (by omega)
      rw [this] at h2
      have hoh : oh = none := by cases oh with | none => rfl | some x => simp at h2
      rw [h3, hoh]
      exact S_heap R y (by omega) (by omega) (fun k h1 h2 => hm k h1 (by omega))

/-- Up to which operation memory has turned. -/
structure Cut (N : Nat) (M : Nat → Bool) (L : Nat → Prop) (p : Nat) : Prop where
  le : p ≤ N
  lo : ∀ k, k < p → M k = true → L k
  hi : ∀ k, p ≤ k → k < N → M k = true → ¬ L k

/-- An operation at its turn does what it did in the order of text. -/
theorem turn (R : Runs T run ops.toList S V M) (sh : Shape ops.toList) {L : Nat → Prop} (hd : Dc ops.toList L) {i : Nat} {o : Oper} (ho : ops.toList[i]? = some o) (hr : ∀ e ∈ o.after.toList, bindsE e = true → L e.on) (hi : ¬ L i)
    {p : Nat} (hc : Cut ops.size M L p) : ∃ oh, stepV T run ops.toList o (S i).1 (S p).2 = some (V i, oh) ∧ M i = oh.isSome ∧ ∃ p', Cut ops.size M (fun k => L k ∨ k = i) p' ∧ (S p').2 = orH (S p).2 oh := by
  have hiN : i < ops.size := by
    have := (List.getElem?_eq_some_iff.1 ho).1
    simpa using this
  have hanc : ∀ j, Anc ops.toList j i → L j := fun j h => anc_ready hd ho hr h
  have hnanc : ∀ j, L j → ¬ Anc ops.toList i j := fun j hj h => hi (anc_closed hd hj h)
  have hlt : ∀ {j i : Nat}, Anc ops.toList j i → j < i := fun h => anc_lt h sh.back
  obtain ⟨oh, h1, h2, h3⟩ := R.step i o ho
  have opAt : ∀ k, k < ops.size → ∃ q, ops.toList[k]? = some q := fun k hk => ⟨ops[k], by rw [Array.getElem?_toList]; exact Array.getElem?_eq_getElem hk⟩
  cases hMi : M i with
  | true =>
    have hbefore : ∀ k, k < i → M k = true → L k := by
      intro k hk hm
      obtain ⟨q, hq⟩ := opAt k (by omega)
      rcases R.two k i q o hk hq ho hm hMi with h | h
      · exact hanc k h
      · have := hlt h; omega
    have hafter : ∀ k, i < k → k < ops.size → M k = true → ¬ L k := by
      intro k hk hkN hm hl
      obtain ⟨q, hq⟩ := opAt k hkN
      rcases R.two i k o q hk ho hq hMi hm with h | h
      · exact hnanc k hl h
      · have := hlt h; omega
    have hpi : p ≤ i := by
      rcases Nat.lt_or_ge i p with h | h
      · exact absurd (hc.lo i h hMi) hi
      · exact h
    have hsame : (S i).2 = (S p).2 := S_heap R i hpi (by omega) (fun k hk1 hk2 => by
      cases hm : M k with
      | false => rfl
      | true => exact absurd (hbefore k hk2 hm) (hc.hi k hk1 (by omega) hm))
    refine ⟨oh, by rw [← hsame]; exact h1, by rw [← h2, hMi], i + 1, ⟨by omega, fun k hk hm => ?_, fun k hk hkN hm => ?_⟩, ?_⟩
    · rcases Nat.lt_or_ge k i with h | h
      · exact .inl (hbefore k h hm)
      · exact .inr (by omega)
    · rintro (h | h)
      · exact hafter k (by omega) hkN hm h
      · omega
    · rw [h3, ← hsame]
  | false =>
    have hoh : oh = none := by rw [hMi] at h2; cases oh with | none => rfl | some x => simp at h2
    subst hoh
    refine ⟨none, ?_, rfl, p, ⟨hc.le, fun k hk hm => .inl (hc.lo k hk hm), fun k hk hkN hm => ?_⟩, rfl⟩
    · -- memory at the turn, beside memory in the order of text
      by_cases hpi : p ≤ i
      · by_cases hex : ∃ k, p ≤ k ∧ k < i ∧ M k = true
        · -- the first that is yet to come
          have : ∃ k, (p ≤ k ∧ k < i ∧ M k = true) ∧ ∀ j, p ≤ j → j < k → M j = false := by
            obtain ⟨k0, hk0⟩ := hex
            induction k0 using Nat.strongRecOn with
            | _ k0 ih =>
              by_cases hsm : ∃ j, p ≤ j ∧ j < k0 ∧ M j = true
              · obtain ⟨j, hj1, hj2, hj3⟩ := hsm
                exact ih j hj2 ⟨hj1, by omega, hj3⟩
              · refine ⟨k0, hk0, fun j hj1 hj2 => ?_⟩
                cases hm : M j with
                | false => rfl
                | true => exact absurd ⟨j, hj1, hj2, hm⟩ hsm
          obtain ⟨k, ⟨hk1, hk2, hk3⟩, hk4⟩ := this
          obtain ⟨q, hq⟩ := opAt k (by omega)
          have hS : (S k).2 = (S p).2 := S_heap R k hk1 (by omega) (fun j hj1 hj2 => hk4 j hj1 hj2)
          rcases R.one i k o q (by omega) ho hq hk3 hMi with (h | h) | h | ⟨h, _⟩
          · have := hlt h; omega
          · exact absurd (hanc k h) (hc.hi k hk1 (by omega) hk3)
          · rw [← h1]; exact stepV_pure h
          · rw [← hS]; exact h
        · have hS : (S i).2 = (S p).2 := S_heap R i hpi (by omega) (fun j hj1 hj2 => by
            cases hm : M j with
            | false => rfl
            | true => exact absurd ⟨j, hj1, hj2, hm⟩ hex)
          rw [← hS]; exact h1
      · have hip : i < p := by omega
        by_cases hex : ∃ k, i ≤ k ∧ k < p ∧ M k = true
        · have : ∃ k, (i ≤ k ∧ k < p ∧ M k = true) ∧ ∀ j, k < j → j < p → M j = false := by
            obtain ⟨k0, hk0⟩ := hex
            generalize hd : p - k0 = d
            induction d using Nat.strongRecOn generalizing k0 with
            | _ d ih =>
              by_cases hsm : ∃ j, k0 < j ∧ j < p ∧ M j = true
              · obtain ⟨j, hj1, hj2, hj3⟩ := hsm
                exact ih (p - j) (by omega) j ⟨by omega, hj2, hj3⟩ rfl
              · refine ⟨k0, hk0, fun j hj1 hj2 => ?_⟩
                cases hm : M j with
                | false => rfl
                | true => exact absurd ⟨j, hj1, hj2, hm⟩ hsm
          obtain ⟨k, ⟨hk1, hk2, hk3⟩, hk4⟩ := this
          have hne : i ≠ k := fun hh => by rw [hh] at hMi; rw [hMi] at hk3; cases hk3
          obtain ⟨q, hq⟩ := opAt k (by have := hc.le; omega)
          have hS : (S p).2 = (S (k + 1)).2 := S_heap R p (by omega) hc.le (fun j hj1 hj2 => hk4 j (by omega) hj2)
          rcases R.one i k o q hne ho hq hk3 hMi with (h | h) | h | ⟨_, h⟩
          · exact absurd h (hnanc k (hc.lo k hk2 hk3))
          · have := hlt h; omega
          · rw [← h1]; exact stepV_pure h
          · rw [hS]; exact h
        · have hS : (S p).2 = (S i).2 := S_heap R p (by omega) hc.le (fun j hj1 hj2 => by
            cases hm : M j with
            | false => rfl
            | true => exact absurd ⟨j, hj1, hj2, hm⟩ hex)
          rw [hS]; exact h1
    · rintro (h | h)
      · exact hc.hi k hk hkN hm h
      · rw [h, hMi] at hm; cases hm

/-- The temporaries, some operations carried out. -/
structure Temps (ops : Array Oper) (S : Nat → Fr × Hp) (L : Nat → Prop) (f : Fr) : Prop where
  n : f.n = (S 0).1.n
  ms : f.ms = (S 0).1.ms
  rd : f.rd = (S 0).1.rd
  done : ∀ (j : Nat) (p : Oper) (t : Tmp), ops.toList[j]? = some p → L j → p.dst = some t → f.get t = (S (j + 1)).1.get t
  rest : ∀ (t : Tmp), (∀ (j : Nat) (p : Oper), ops.toList[j]? = some p → L j → p.dst ≠ some t) → f.get t = (S 0).1.get t

theorem temps_same (R : Runs T run ops.toList S V M) (sh : Shape ops.toList) {L : Nat → Prop} (hd : Dc ops.toList L) {i : Nat} {o : Oper} (ho : ops.toList[i]? = some o) (hr : ∀ e ∈ o.after.toList, bindsE e = true → L e.on) (hi : ¬ L i)
    {f : Fr} (ht : Temps ops S L f) {t : Tmp} (hu : Operand.tmp t ∈ o.op.operands.toList ∨ ∃ g, o.guard = some g ∧ (nth ops.toList g.1).ob (·.dst) = some t) : (S i).1.get t = f.get t := by
  have hiN : i < ops.size := by
    have := (List.getElem?_eq_some_iff.1 ho).1
    simpa using this
  by_cases hex : ∃ (j : Nat) (p : Oper), j ≠ i ∧ ops.toList[j]? = some p ∧ p.dst = some t
  · obtain ⟨j, p, hji, hj, hp⟩ := hex
    have huniq : ∀ (j' : Nat) (p' : Oper), ops.toList[j']? = some p' → p'.dst = some t → j' = j := by
      intro j' p' hj' hp'
      by_cases hne : j' = j
      · exact hne
      · exact absurd hp (sh.dst j' j p' p t hne hj' hj hp')
    have hlt : ∀ {j i : Nat}, Anc ops.toList j i → j < i := fun h => anc_lt h sh.back
    rcases sh.looks j i p o t hji hj ho hp hu with h | h
    · have hL := anc_ready hd ho hr h
      rw [ht.done j p t hj hL hp]
      exact S_some R sh hj hp i (hlt h) (by omega)
    · have hL : ¬ L j := fun hl => hi (anc_closed hd hl h)
      rw [ht.rest t (fun j' p' hj' hl hp' => hL (huniq j' p' hj' hp' ▸ hl))]
      exact S_none R i (by omega) (fun j' p' hlt' hj' hp' => by
        have := huniq j' p' hj' hp'
        have := hlt h
        omega)
  · rw [ht.rest t (fun j p hj hl hp => hex ⟨j, p, fun hh => hi (hh ▸ hl), hj, hp⟩)]
    exact S_none R i (by omega) (fun j p hlt hj hp => hex ⟨j, p, by omega, hj, hp⟩)

theorem temps_put (R : Runs T run ops.toList S V M) (sh : Shape ops.toList) {L : Nat → Prop} {i : Nat} {o : Oper} (ho : ops.toList[i]? = some o) (hi : ¬ L i) {f : Fr} (ht : Temps ops S L f) : Temps ops S (fun k => L k ∨ k = i) (putT f o.dst (V i)) := by
  have hiN : i < ops.size := by
    have := (List.getElem?_eq_some_iff.1 ho).1
    simpa using this
  obtain ⟨hn, hms, hrd⟩ := putT_n f o.dst (V i)
  obtain ⟨oh, _, _, h3⟩ := R.step i o ho
  refine ⟨hn.trans ht.n, hms.trans ht.ms, hrd.trans ht.rd, fun j p t hj hl hp => ?_, fun t hall => ?_⟩
  · rw [putT_get]
    by_cases hji : j = i
    · subst hji
      rw [ho] at hj
      cases hj
      rw [if_pos hp, h3, putT_get, if_pos hp, (S_n R j (by omega)).1, ht.n]
    · rw [if_neg (sh.dst j i p o t hji hj ho hp)]
      rcases hl with hl | hl
      · exact ht.done j p t hj hl hp
      · exact absurd hl hji
  · rw [putT_get, if_neg (hall i o ho (.inr rfl))]
    exact ht.rest t (fun j p hj hl => hall j p hj (.inl hl))

theorem FrR.same {h : Hp} {ι : Nat → Nat} {w : World} {f f' : Fr} {tm : Array Value} (hf : FrR P h ι w f tm) (hn : f'.n = f.n) (hg : ∀ t, f'.get t = f.get t) : FrR P h ι w f' tm :=
  ⟨hf.size.trans hn.symm, fun i v e => hf.at_ i v (by rw [← hg]; exact e)⟩

theorem any_sound {w0 ws : World} {ι0 : Nat → Nat} (SR : SoundR P run) (hT : TabOk P T) (hF : FlatOk P T) (hK : KeyOk P T) (R : Runs T run ops.toList S V M) (sh : Shape ops.toList) {ro : Option Nat} {m : Nat} :
    ∀ (fuel : Nat) (listed : Array Bool) (a : Act) (w : World) (ι : Nat → Nat) (f : Fr) (p : Nat), listed.size = ops.size → cnt listed.toList = fuel → Dc ops.toList (fun k => listed[k]? = some true) → Cut ops.size M (fun k => listed[k]? = some true) p →
      Temps ops S (fun k => listed[k]? = some true) f → Ga P w0 (S p).2 ι w → Evo (S 0).2 ι0 ws (S p).2 ι w → AR P (S p).2 ι w f a →
      wpAnyIn (FW ro) m P .any ops (QC P w0 (S 0).2 ι0 ws .normal (S ops.size).1 (S ops.size).2) fuel listed a w := by
  intro fuel
  induction fuel with
  | zero =>
    intro listed a w ι f p hs hcnt hdc hcut ht g ev ar
    have hall : ∀ k, k < ops.size → listed[k]? = some true := fun k hk => by
      rw [← Array.getElem?_toList]; exact cnt_zero hcnt k (by simpa [hs] using hk)
    refine ⟨?_, rfl, ι, ?_⟩
    · unfold Region.ready
      rw [List.filter_eq_nil_iff]
      intro k hk
      have hk' := hall k (by simpa using hk)
      simp [Array.getD_eq_getD_getElem?, hk']
    · have hS : (S ops.size).2 = (S p).2 := S_heap R _ hcut.le (Nat.le_refl _) (fun k hk1 hk2 => by
        cases hm : M k with
        | false => rfl
        | true => exact absurd (hall k hk2) (hcut.hi k hk1 hk2 hm))
      rw [hS]
      obtain ⟨hn, hms, _⟩ := S_n R ops.size (Nat.le_refl _)
      refine ⟨g, ev, ⟨ar.f.same (hn.trans ht.n.symm) (fun t => ?_), ?_, ?_⟩⟩
      · by_cases hex : ∃ (j : Nat) (q : Oper), ops.toList[j]? = some q ∧ q.dst = some t
        · obtain ⟨j, q, hj, hq⟩ := hex
          have hjN : j < ops.size := by have := (List.getElem?_eq_some_iff.1 hj).1; simpa using this
          rw [ht.done j q t hj (hall j hjN) hq]
          exact S_some R sh hj hq _ hjN (Nat.le_refl _)
        · rw [ht.rest t (fun j q hj _ hq => hex ⟨j, q, hj, hq⟩)]
          exact S_none R _ (Nat.le_refl _) (fun j q _ hj hq => hex ⟨j, q, hj, hq⟩)
      · rw [hms, ← ht.ms]; exact ar.d
      · rw [hms, ← ht.ms]; exact ar.m
  | succ fuel ih =>
    intro listed a w ι f p hs hcnt hdc hcut ht g ev ar
    constructor
    · intro hnil
      exfalso
      obtain ⟨i, h1, h2⟩ := cnt_pos (l := listed.toList) (by omega)
      have hi : i < ops.size := by have := (List.getElem?_eq_some_iff.1 h1).1; simpa [hs] using this
      have ho : ops.toList[i]? = some ops[i] := by rw [Array.getElem?_toList]; exact Array.getElem?_eq_getElem hi
      have hmem : i ∈ Region.ready .any ops listed := by
        unfold Region.ready
        rw [List.mem_filter]
        refine ⟨by simpa using hi, ?_⟩
        rw [Array.getElem?_toList] at h1
        simp only [Array.getD_eq_getD_getElem?, h1, Option.getD_some, Bool.not_false, Bool.true_and, Array.getElem?_eq_getElem hi, Option.map_some]
        rw [← Array.all_toList, List.all_eq_true]
        intro e he
        rw [binds_any]
        cases hb : bindsE e with
        | false => rfl
        | true =>
          have := h2 e.on (sh.back i _ ho e he hb)
          rw [Array.getElem?_toList] at this
          simp [this]
      rw [hnil] at hmem
      cases hmem
    · intro i hmem
      unfold Region.ready at hmem
      rw [List.mem_filter] at hmem
      obtain ⟨hi, hmem⟩ := hmem
      have hi : i < ops.size := by simpa using hi
      have ho' : ops[i]? = some ops[i] := Array.getElem?_eq_getElem hi
      have ho : ops.toList[i]? = some ops[i] := by rw [Array.getElem?_toList]; exact ho'
      have hli : i < listed.size := by omega
      simp only [Array.getD_eq_getD_getElem?, ho', Option.map_some, Option.getD_some, Bool.and_eq_true, Array.getElem?_eq_getElem hli] at hmem
      obtain ⟨hm1, hm2⟩ := hmem
      have hfalse : listed[i]? = some false := by
        rw [Array.getElem?_eq_getElem hli]
        simpa using hm1
      have hnl : ¬ (listed[i]? = some true) := by rw [hfalse]; simp
      have hr : ∀ e ∈ (ops[i]).after.toList, bindsE e = true → listed[e.on]? = some true := by
        intro e he hb
        rw [← Array.all_toList, List.all_eq_true] at hm2
        have := hm2 e he
        rw [binds_any, hb] at this
        simp only [Bool.not_true, Bool.false_or] at this
        cases hx : listed[e.on]? with
        | none => rw [hx] at this; simp at this
        | some b => rw [hx] at this; simp at this; rw [this]
      obtain ⟨oh, h1, _, p', hcut', hS'⟩ := turn R sh hdc ho hr hnl hcut
      have hcongr : stepV T run ops.toList ops[i] f (S p).2 = some (V i, oh) := by
        rw [← h1]
        refine (step_congr (fun x hx => ?_) (fun gd t hg hd => ?_)).symm
        · cases x with
          | tmp t => exact temps_same R sh hdc ho hr hnl ht (.inl hx)
          | _ => rfl
        · exact temps_same R sh hdc ho hr hnl ht (.inr ⟨gd, hg, hd⟩)
      refine step_op SR hT hF hK g ar ho' hcongr (fun u ι' w' g' ev' hv => ?_)
      have hset : ∀ k, ((listed.setIfInBounds i true)[k]? = some true) ↔ (listed[k]? = some true ∨ k = i) := by
        intro k
        rw [Array.getElem?_setIfInBounds]
        by_cases hik : i = k
        · subst hik; simp [hli]
        · rw [if_neg hik]
          constructor
          · exact .inl
          · rintro (h | h)
            · exact h
            · exact absurd h.symm hik
      have hL : (fun k => (listed.setIfInBounds i true)[k]? = some true) = (fun k => listed[k]? = some true ∨ k = i) := funext fun k => propext (hset k)
      simp only at g' ev' hv
      rw [← hS'] at g' ev' hv
      refine ih (listed.setIfInBounds i true) (a.put ops[i].dst u) w' ι' (putT f ops[i].dst (V i)) p' (by simpa using hs) ?_ ?_ ?_ ?_ g' (ev.trans ev') ((ar.evo ev').put _ hv)
      · have := cnt_set (l := listed.toList) (i := i) (by rw [Array.getElem?_toList]; exact hfalse)
        rw [Array.toList_setIfInBounds]
        omega
      · rw [hL]
        intro j q hj hl e he hb
        rcases hl with hl | hl
        · exact .inl (hdc j q hj hl e he hb)
        · subst hl
          rw [ho] at hj
          cases hj
          exact .inl (hr e he hb)
      · rw [hL]; exact hcut'
      · rw [hL]; exact temps_put R sh ho hnl ht

theorem draw_sound (hm : P.follows .mixedOrders = true) (hT : TabOk P T) (hF : FlatOk P T) (hK : KeyOk P T) (SR : SoundR P run) : DrawS P T run := by
  intro ops ts h q e
  obtain ⟨sh, S, V, M, R, h0, hN⟩ := runs_of e
  rw [Array.length_toList] at hN
  have hrd := (S_n R ops.size (Nat.le_refl _)).2.2
  rw [hN, h0] at hrd
  refine ⟨hrd, fun ro m w0 ι w a id hro g ar => ?_⟩
  refine wpIn_region_any hm ?_
  have hz : ∀ k : Nat, ¬ ((Array.replicate ops.size false)[k]? = some true) := by
    intro k hk
    rw [Array.getElem?_replicate] at hk
    split at hk <;> simp at hk
  have gd := g.drawn (w.drawn + 1)
  have evd : Evo h ι w h ι { w with drawn := w.drawn + 1 } := Evo.drawn _
  have := any_sound (w0 := w0) (ws := w) (ι0 := ι) (ro := ro) (m := m) SR hT hF hK R sh ops.size (Array.replicate ops.size false) a { w with drawn := w.drawn + 1 } ι ts 0 (by simp) (by rw [Array.toList_replicate]; exact cnt_rep _) (fun j o _ hl => absurd hl (hz j))
    ⟨Nat.zero_le _, fun k hk => by omega, fun k _ _ _ hl => hz k hl⟩ ⟨by rw [h0], by rw [h0], by rw [h0], fun j p t _ hl => absurd hl (hz j), fun t _ => by rw [h0]⟩ (by rw [h0]; exact gd) (by rw [h0]; exact evd) (by rw [h0]; exact ar.evo evd)
  rw [hN, h0] at this
  exact this
end

/-- **The abstract runs tell the truth.** -/
theorem run_ok {P : Program} {T : Tab} {B : Funs} (hm : P.follows .mixedOrders = true) (hB : FunsOk P B) (hT : TabOk P T) (hF : FlatOk P T) (hK : KeyOk P T) (n : Nat) : SoundR P (run B T n) :=
  (run_sound hB hT hF hK (fun _ S => draw_sound hm hT hF hK S) n).1
end Go.VI
