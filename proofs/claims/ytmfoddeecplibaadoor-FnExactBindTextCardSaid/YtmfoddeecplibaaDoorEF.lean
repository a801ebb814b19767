/- Regions whose order is open. -/
import Derived.Test.YtmfoddeecplibaaDoorEE
set_option linter.unusedVariables false
set_option linter.unusedSimpArgs false
namespace Go.Ev

/-- i comes ahead of j, by the edges. -/
inductive Rch (ops : Array Oper) (i : Nat) : Nat → Prop
  | edge {j : Nat} {o : Oper} {e : Edge} : ops[j]? = some o → e ∈ o.after → Region.binds .any e = true → e.on = i → Rch ops i j
  | step {j : Nat} {o : Oper} {e : Edge} : ops[j]? = some o → e ∈ o.after → Region.binds .any e = true → Rch ops i e.on → Rch ops i j

theorem before_rch (ops : Array Oper) : (Region.before ops).size = ops.size ∧ ∀ j, j < ops.size → ∀ i, ((Region.before ops).getD j 0).testBit i = true → Rch ops i j := by
  unfold Region.before
  refine Array.foldl_induction (as := ops) (motive := fun (k : Nat) (acc : Array Nat) => acc.size = k ∧ ∀ j, j < k → ∀ i, (acc.getD j 0).testBit i = true → Rch ops i j) ⟨rfl, fun j hj => by omega⟩ ?_
  rintro ⟨k, hk⟩ acc ⟨hs0, hr0⟩
  have hs : acc.size = k := hs0
  have hr : ∀ j, j < k → ∀ i, (acc.getD j 0).testBit i = true → Rch ops i j := hr0
  refine ⟨by simp [hs], fun j hj i hi => ?_⟩
  by_cases hjk : j < k
  · refine hr j hjk i ?_
    simp only [Array.getD_eq_getD_getElem?, Array.getElem?_push] at hi
    rw [if_neg (by omega)] at hi
    simpa [Array.getD_eq_getD_getElem?] using hi
  · have : j = k := by simp only at hj; omega
    subst this
    simp only [Array.getD_eq_getD_getElem?, Array.getElem?_push] at hi
    rw [if_pos (by omega)] at hi
    simp only [Option.getD_some] at hi
    have hget : ops[j]? = some ops[j] := Array.getElem?_eq_getElem hk
    have key := Array.foldl_induction (as := ops[j].after) (motive := fun (_ : Nat) (s : Nat) => ∀ i, s.testBit i = true → Rch ops i j)
      (init := 0) (fun i hi => by simp at hi) (f := fun s e => if Region.binds .any e then s ||| 2 ^ e.on ||| acc.getD e.on 0 else s) (by
        rintro ⟨m, hm⟩ s ih i hi
        simp only [Fin.getElem_fin] at hi
        split at hi
        · rename_i hb
          have hmem : ops[j].after[m] ∈ ops[j].after := Array.getElem_mem hm
          simp only [Nat.testBit_or, Bool.or_eq_true] at hi
          rcases hi with (hi | hi) | hi
          · exact ih i hi
          · rw [Nat.testBit_two_pow] at hi
            exact .edge hget hmem hb (by simpa using hi)
          · by_cases hlt : (ops[j].after[m]).on < j
            · exact .step hget hmem hb (hr _ hlt i hi)
            · rw [Array.getD_eq_getD_getElem?, Array.getElem?_eq_none (by omega)] at hi
              simp at hi
        · exact ih i hi)
    exact key i (by simpa [Array.getD_eq_getD_getElem?] using hi)

/-- What two operations that may come in either order have to do with each other: nothing. -/
def Apart (mode : FuncId → Mode) (ops : Array Oper) (p o : Oper) : Prop :=
  (∀ d, p.dst = some d → d ∉ looks ops o ∧ o.dst ≠ some d) ∧ (∀ d, o.dst = some d → d ∉ looks ops p ∧ p.dst ≠ some d) ∧
  (touch mode p.op = 0 ∨ touch mode o.op = 0 ∨ (touch mode p.op = 1 ∧ touch mode o.op = 1))

theorem Apart.symm {mode : FuncId → Mode} {ops : Array Oper} {p o : Oper} (h : Apart mode ops p o) : Apart mode ops o p :=
  ⟨h.2.1, h.1, by rcases h.2.2 with h | h | ⟨h1, h2⟩ <;> simp_all⟩

theorem drawOk_spec [TInv] {mode : FuncId → Mode} {ops : Array Oper} (h : drawOk mode ops = true) :
    (∀ j o e, ops[j]? = some o → e ∈ o.after → Region.binds .any e = true → e.on < j) ∧
    ∀ i j p o, i < j → ops[i]? = some p → ops[j]? = some o → Rch ops i j ∨ Apart mode ops p o := by
  unfold drawOk at h
  simp only [List.all_eq_true] at h
  have mem : ∀ (j : Nat) (o : Oper), ops[j]? = some o → (o, j) ∈ ops.toList.zipIdx := fun j o ho => by
    rw [List.mem_zipIdx_iff_getElem?]
    simpa using ho
  refine ⟨fun j o e ho he hb => ?_, fun i j p o hij hp ho => ?_⟩
  · have := h (o, j) (mem j o ho)
    simp only [Bool.and_eq_true] at this
    have h1 := Array.all_eq_true'.1 this.1 e he
    simpa [hb] using h1
  · have := h (o, j) (mem j o ho)
    simp only [Bool.and_eq_true, List.all_eq_true] at this
    have h2 := this.2 (p, i) (mem i p hp)
    simp only at h2
    by_cases hb : ((Region.before ops).getD j 0).testBit i = true
    · exact .inl ((before_rch ops).2 j (Array.getElem?_eq_some_iff.1 ho).1 i hb)
    · right
      have hb' := (Bool.not_eq_true _).mp hb
      rw [if_pos ⟨decide_eq_true hij, by rw [hb']; rfl⟩] at h2
      simp only [Bool.and_eq_true, Bool.or_eq_true, beq_iff_eq] at h2
      obtain ⟨⟨h3, h4⟩, h5⟩ := h2
      have g3 : ∀ d, p.dst = some d → d ∉ looks ops o ∧ o.dst ≠ some d := fun d hd => by
        rw [hd] at h3
        simpa using h3
      have g4 : ∀ d, o.dst = some d → d ∉ looks ops p := fun d hd => by
        rw [hd] at h4
        simpa using h4
      exact ⟨g3, fun d hd => ⟨g4 d hd, fun hp => (g3 d hp).2 hd⟩, by
        rcases h5 with (h5 | h5) | h5
        · exact .inl h5
        · exact .inr (.inl h5)
        · exact .inr (.inr h5)⟩

theorem Rch.lt {ops : Array Oper} (h1 : ∀ j o e, ops[j]? = some o → e ∈ o.after → Region.binds .any e = true → e.on < j) {i j : Nat} (h : Rch ops i j) : i < j := by
  induction h with
  | edge ho he hb h => rw [← h]; exact h1 _ _ _ ho he hb
  | step ho he hb _ ih => exact Nat.lt_trans ih (h1 _ _ _ ho he hb)

theorem trace {c : Cfg} {ops : Array Oper} : ∀ (l : List Oper) (σ σ' : St), opsE c ops l σ = some σ' →
    ∃ f : Nat → St, f 0 = σ ∧ f l.length = σ' ∧ ∀ (i : Nat) (o : Oper), l[i]? = some o → operE c ops o (f i) = some (f (i + 1))
  | [], σ, σ', h => by simp only [opsE, Option.some.injEq] at h; subst h; exact ⟨fun _ => σ, rfl, rfl, fun i o hi => by simp at hi⟩
  | o :: l, σ, σ', h => by
    simp only [opsE] at h
    split at h
    · rename_i σ1 h1
      obtain ⟨f, f0, fl, hf⟩ := trace l σ1 σ' h
      refine ⟨fun i => match i with | 0 => σ | i + 1 => f i, rfl, by simpa using fl, fun i o' hi => ?_⟩
      cases i with
      | zero => simp at hi; subst hi; simp only [f0]; exact h1
      | succ i => exact hf i o' (by simpa using hi)
    · cases h

section
variable {c : Cfg} {ops : Array Oper} {n : Nat} {f : Nat → St} {val : Nat → V} {wb : Nat → Bool}

/-- How an operation touches memory when it comes to it. -/
def teff (c : Cfg) (ops : Array Oper) (wb : Nat → Bool) (i : Nat) : Nat :=
  match ops[i]? with
  | some o => if wb i then touch c.mode o.op else 0
  | none => 0

/-- The frame behind those operations that have come up. -/
def envAt (ops : Array Oper) (f : Nat → St) (val : Nat → V) (S : Nat → Bool) : Nat → Nat → V
  | 0 => (f 0).env
  | k + 1 =>
    match ops[k]? with
    | some o => if S k then envPut (envAt ops f val S k) o.dst (val k) else envAt ops f val S k
    | none => envAt ops f val S k

theorem envPut_at (env : Nat → V) (d : Option Nat) (x : V) (t : Nat) : envPut env d x t = if d = some t then x else env t := by
  cases d with
  | none => simp [envPut]
  | some n => simp only [envPut, upd, Option.some.injEq]; by_cases h : t = n
              · subst h; simp
              · rw [if_neg h, if_neg (fun e => h e.symm)]

structure Tr [TInv] (c : Cfg) (ops : Array Oper) (n : Nat) (f : Nat → St) (val : Nat → V) (wb : Nat → Bool) : Prop where
  call : CallOk c
  st : ∀ i o, ops[i]? = some o → Step1 c ops o (f i) (f (i + 1)) (val i) (wb i)
  dst : ∀ o ∈ ops, ∀ d, o.dst = some d → d < n
  draw : drawOk c.mode ops = true
  ok : HpOk (f 0).hp

theorem Tr.hpStep [TInv] (T : Tr c ops n f val wb) {i : Nat} (hi : i < ops.size) (hok : HpOk (f i).hp) : HpOk (f (i + 1)).hp ∧ (f i).hp.next ≤ (f (i + 1)).hp.next := by
  have st := T.st i _ (Array.getElem?_eq_getElem hi)
  cases hb : wb i with
  | false => rw [(st.skip hb).2]; exact ⟨hok, Nat.le_refl _⟩
  | true => exact opE_hpOk T.call (st.run hb) hok

theorem Tr.hpOk [TInv] (T : Tr c ops n f val wb) : ∀ i, i ≤ ops.size → HpOk (f i).hp
  | 0, _ => T.ok
  | i + 1, hi => (T.hpStep hi (T.hpOk i (by omega))).1

theorem Tr.mono [TInv] (T : Tr c ops n f val wb) {i : Nat} : ∀ j, i ≤ j → j ≤ ops.size → (f i).hp.next ≤ (f j).hp.next
  | 0, h, _ => by have : i = 0 := by omega
                  subst this; exact Nat.le_refl _
  | j + 1, h, hj => by
    by_cases he : i = j + 1
    · subst he; exact Nat.le_refl _
    · exact Nat.le_trans (T.mono j (by omega) (by omega)) (T.hpStep hj (T.hpOk j (by omega))).2

theorem Tr.grow1 [TInv] (T : Tr c ops n f val wb) {i : Nat} (hi : i < ops.size) (ht : teff c ops wb i ≤ 1) : Grow (f i).hp (f (i + 1)).hp := by
  have hget : ops[i]? = some ops[i] := Array.getElem?_eq_getElem hi
  have st := T.st i _ hget
  cases hb : wb i with
  | false => rw [(st.skip hb).2]; exact Grow.refl _
  | true =>
    unfold teff at ht
    rw [hget, hb] at ht
    exact opE_grow (by simpa using ht) (st.run hb)

theorem Tr.grow [TInv] (T : Tr c ops n f val wb) {i : Nat} : ∀ j, i ≤ j → j ≤ ops.size → (∀ k, i ≤ k → k < j → teff c ops wb k ≤ 1) → Grow (f i).hp (f j).hp
  | 0, h, _, _ => by have : i = 0 := by omega
                     subst this; exact Grow.refl _
  | j + 1, h, hj, hk => by
    by_cases he : i = j + 1
    · subst he; exact Grow.refl _
    · exact (T.grow j (by omega) (by omega) (fun k a b => hk k a (by omega))).trans (T.grow1 hj (hk j (by omega) (by omega)))

/-- The next operation that writes, from s on. -/
theorem nextWriter (c : Cfg) (ops : Array Oper) (wb : Nat → Bool) : ∀ (m s : Nat), s + m = ops.size → ∃ q, s ≤ q ∧ q ≤ ops.size ∧ (q < ops.size → 2 ≤ teff c ops wb q) ∧ ∀ k, s ≤ k → k < q → teff c ops wb k ≤ 1
  | 0, s, h => ⟨s, Nat.le_refl _, by omega, fun h2 => by omega, fun k a b => by omega⟩
  | m + 1, s, h => by
    by_cases hw : 2 ≤ teff c ops wb s
    · exact ⟨s, Nat.le_refl _, by omega, fun _ => hw, fun k a b => by omega⟩
    · obtain ⟨q, h1, h2, h3, h4⟩ := nextWriter c ops wb m (s + 1) (by omega)
      exact ⟨q, by omega, h2, h3, fun k a b => by
        by_cases hk : k = s
        · subst hk; omega
        · exact h4 k (by omega) b⟩

theorem Tr.sep [TInv] (T : Tr c ops n f val wb) {i j : Nat} (hij : i ≠ j) {p o : Oper} (hp : ops[i]? = some p) (ho : ops[j]? = some o) : Rch ops i j ∨ Rch ops j i ∨ Apart c.mode ops p o := by
  obtain ⟨_, h2⟩ := drawOk_spec T.draw
  rcases Nat.lt_or_gt_of_ne hij with h | h
  · rcases h2 i j p o h hp ho with h | h
    · exact .inl h
    · exact .inr (.inr h)
  · rcases h2 j i o p h ho hp with h | h
    · exact .inr (.inl h)
    · exact .inr (.inr h.symm)

/-- What holds once the operations S have come up: all that write ahead of q, and none behind. -/
structure Mid [TInv] (c : Cfg) (ops : Array Oper) (n : Nat) (f : Nat → St) (val : Nat → V) (wb : Nat → Bool) (ρ0 : Rho) (I0 : Nat → Prop) (w0 : World) (S : Nat → Bool) (q : Nat) (ρ : Rho) (I : Nat → Prop) (a : Act) (w : World) : Prop where
  le : q ≤ ops.size
  here : q < ops.size → 2 ≤ teff c ops wb q ∧ S q = false
  past : ∀ i, i < q → 2 ≤ teff c ops wb i → S i = true
  down : ∀ i j, S j = true → Rch ops i j → S i = true
  env : EnvOk ρ I w (envAt ops f val S ops.size) a
  rel : Rel ρ I (f q).hp w
  dom : ∀ b p, ρ b = some p → b < (f 0).hp.next ∨ ∃ i, i < ops.size ∧ S i = true ∧ 1 ≤ teff c ops wb i ∧ (f i).hp.next ≤ b ∧ b < (f (i + 1)).hp.next
  stp : Stp ρ0 I0 (f 0).hp w0 ρ I (f q).hp w
  size : a.tmps.size = n
  defers : a.defers = []

theorem envAt_look [TInv] (T : Tr c ops n f val wb) {S : Nat → Bool} {j : Nat} {o : Oper} (ho : ops[j]? = some o) (hS : S j = false) (hpre : ∀ i, Rch ops i j → S i = true) (down : ∀ i k, S k = true → Rch ops i k → S i = true)
    {t : Nat} (ht : t ∈ looks ops o) : envAt ops f val S ops.size t = (f j).env t := by
  obtain ⟨hlt, _⟩ := drawOk_spec T.draw
  have hjs : j < ops.size := (Array.getElem?_eq_some_iff.1 ho).1
  have lo : ∀ i p, i < j → ops[i]? = some p → p.dst = some t → S i = true := fun i p hi hp hd => by
    rcases T.sep (by omega) hp ho with h | h | h
    · exact hpre i h
    · have := Rch.lt hlt h; omega
    · exact absurd ht (h.1 t hd).1
  have hi : ∀ i p, j < i → ops[i]? = some p → p.dst = some t → S i = false := fun i p hi hp hd => by
    rcases T.sep (by omega) hp ho with h | h | h
    · have := Rch.lt hlt h; omega
    · cases hSi : S i with
      | false => rfl
      | true => have := down j i hSi h; rw [hS] at this; cases this
    · exact absurd ht (h.1 t hd).1
  have up : ∀ k, k ≤ j → envAt ops f val S k t = (f k).env t := by
    intro k
    induction k with
    | zero => intro _; rfl
    | succ k ih =>
      intro hk
      have hget : ops[k]? = some (ops[k]'(by omega)) := Array.getElem?_eq_getElem (by omega)
      have st := T.st k _ hget
      simp only [envAt, hget]
      rw [st.env, envPut_at, ← ih (by omega)]
      cases hSk : S k with
      | true => simp only [if_true, envPut_at]
      | false =>
        simp only [Bool.false_eq_true, if_false]
        rw [if_neg]
        intro hd
        have := lo k _ (by omega) hget hd
        rw [hSk] at this; cases this
  have over : ∀ m, j + m ≤ ops.size → envAt ops f val S (j + m) t = envAt ops f val S j t := by
    intro m
    induction m with
    | zero => intro _; rfl
    | succ m ih =>
      intro hm
      have hget : ops[j + m]? = some (ops[j + m]'(by omega)) := Array.getElem?_eq_getElem (by omega)
      show envAt ops f val S (j + m + 1) t = _
      simp only [envAt, hget]
      rw [← ih (by omega)]
      by_cases hm0 : m = 0
      · subst hm0
        simp only [Nat.add_zero, hS, Bool.false_eq_true, if_false]
      · cases hSk : S (j + m) with
        | false => simp only [Bool.false_eq_true, if_false]
        | true =>
          simp only [if_true, envPut_at]
          rw [if_neg]
          intro hd
          have := hi (j + m) _ (by omega) hget hd
          rw [hSk] at this; cases this
  have := over (ops.size - j) (by omega)
  rw [show j + (ops.size - j) = ops.size by omega] at this
  rw [this, up j (Nat.le_refl _)]

theorem envAt_put [TInv] (T : Tr c ops n f val wb) {S : Nat → Bool} {j : Nat} {o : Oper} (ho : ops[j]? = some o) (hS : S j = false) (down : ∀ i k, S k = true → Rch ops i k → S i = true) :
    envAt ops f val (fun i => if i = j then true else S i) ops.size = envPut (envAt ops f val S ops.size) o.dst (val j) := by
  obtain ⟨hlt, _⟩ := drawOk_spec T.draw
  have hjs : j < ops.size := (Array.getElem?_eq_some_iff.1 ho).1
  have hi : ∀ i p t, j < i → ops[i]? = some p → p.dst = some t → o.dst = some t → S i = false := fun i p t hi hp hd hd' => by
    rcases T.sep (by omega) hp ho with h | h | h
    · have := Rch.lt hlt h; omega
    · cases hSi : S i with
      | false => rfl
      | true => have := down j i hSi h; rw [hS] at this; cases this
    · exact absurd hd' (h.1 t hd).2
  have up : ∀ k, k ≤ j → envAt ops f val (fun i => if i = j then true else S i) k = envAt ops f val S k := by
    intro k
    induction k with
    | zero => intro _; rfl
    | succ k ih =>
      intro hk
      have hget : ops[k]? = some (ops[k]'(by omega)) := Array.getElem?_eq_getElem (by omega)
      simp only [envAt, hget]
      rw [ih (by omega)]
      simp only [if_neg (show ¬ k = j by omega)]
  have over : ∀ m, j + 1 + m ≤ ops.size → envAt ops f val (fun i => if i = j then true else S i) (j + 1 + m) = envPut (envAt ops f val S (j + 1 + m)) o.dst (val j) := by
    intro m
    induction m with
    | zero =>
      intro _
      show envAt ops f val _ (j + 1) = envPut (envAt ops f val S (j + 1)) o.dst (val j)
      simp only [envAt, ho, if_true, hS, Bool.false_eq_true, if_false]
      rw [up j (Nat.le_refl _)]
    | succ m ih =>
      intro hm
      have hget : ops[j + 1 + m]? = some (ops[j + 1 + m]'(by omega)) := Array.getElem?_eq_getElem (by omega)
      show envAt ops f val _ (j + 1 + m + 1) = envPut (envAt ops f val S (j + 1 + m + 1)) o.dst (val j)
      simp only [envAt, hget]
      rw [ih (by omega)]
      simp only [if_neg (show ¬ j + 1 + m = j by omega)]
      cases hSk : S (j + 1 + m) with
      | false => simp only [Bool.false_eq_true, if_false]
      | true =>
        simp only [if_true]
        funext t
        simp only [envPut_at]
        by_cases h1 : (ops[j + 1 + m]'(by omega)).dst = some t
        · by_cases h2 : o.dst = some t
          · have := hi (j + 1 + m) _ t (by omega) hget h1 h2
            rw [hSk] at this; cases this
          · simp [h1, h2]
        · simp [h1]
  have := over (ops.size - (j + 1)) (by omega)
  rwa [show j + 1 + (ops.size - (j + 1)) = ops.size by omega] at this

end
end Go.Ev
