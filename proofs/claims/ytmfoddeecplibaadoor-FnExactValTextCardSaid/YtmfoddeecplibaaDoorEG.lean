/- Regions whose order is open: each order leaves the same. -/
import Derived.Test.YtmfoddeecplibaaDoorEF
set_option linter.unusedVariables false
set_option linter.unusedSimpArgs false
namespace Go.Ev

theorem rel_sub [TInv] {ρ : Rho} {I : Nat → Prop} {h h2 : Hp} {w : World} (R : Rel ρ I h2 w) (hs : ∀ b k p, ρ b = some p → h.at_ b = some k → h2.at_ b = some k) : Rel ρ I h w :=
  ⟨R.imm, fun b k r o h1 h2 => R.blk b k r o (hs b k _ h2 h1) h2, fun b b' k k' r o o' h1 h2 h3 h4 => R.inj b b' k k' r o o' (hs b k _ h3 h1) (hs b' k' _ h4 h2) h3 h4⟩

theorem stp_sub {ρ : Rho} {I : Nat → Prop} {h h2 : Hp} {w : World} (g : Grow h h2) (d : Dom ρ h.next) : Stp ρ I h w ρ I h2 w where
  next := g.next
  rho := fun _ _ => rfl
  imm := fun _ h => h
  immNew := fun _ h => .inl h
  frame := fun _ _ _ => rfl
  wr := fun r ⟨b, k, o, h1, h2⟩ => by
    have hb : b < h.next := by
      apply Nat.lt_of_not_le
      intro hb; rw [d b hb] at h2; cases h2
    rw [g.at_ b (.inl hb)] at h1
    exact .inl ⟨b, k, o, h1, h2⟩
  cells := fun _ h => ⟨h, rfl⟩
  size := Nat.le_refl _
  os := rfl
  tape := rfl
  output := rfl

section
variable {c : Cfg} {ops : Array Oper} {n : Nat} {f : Nat → St} {val : Nat → V} {wb : Nat → Bool} {ρ0 : Rho} {I0 : Nat → Prop} {w0 : World}

theorem compat_of {mode : FuncId → Mode} {p o : Oper} {ops : Array Oper} (h : Apart mode ops p o) (h1 : 2 ≤ touch mode p.op) (h2 : 1 ≤ touch mode o.op) : False := by
  rcases h.2.2 with h | h | ⟨h, _⟩ <;> omega

theorem teff_touch {i : Nat} {o : Oper} (ho : ops[i]? = some o) {m : Nat} (hm : 0 < m) (h : m ≤ teff c ops wb i) : wb i = true ∧ m ≤ touch c.mode o.op := by
  unfold teff at h
  rw [ho] at h
  simp only at h
  split at h
  · rename_i hb; exact ⟨hb, h⟩
  · omega

theorem mid_step [TInv] (T : Tr c ops n f val wb) {S : Nat → Bool} {q : Nat} {ρ : Rho} {I : Nat → Prop} {a : Act} {w : World} (M : Mid c ops n f val wb ρ0 I0 w0 S q ρ I a w)
    {j : Nat} {o : Oper} (ho : ops[j]? = some o) (hS : S j = false) (hpre : ∀ i, Rch ops i j → S i = true) {K : Act → World → Prop} {Q : Exit → Act → World → Prop}
    (hK : ∀ a' w' ρ' I' q', Mid c ops n f val wb ρ0 I0 w0 (fun i => if i = j then true else S i) q' ρ' I' a' w' → K a' w') : wpOp c.P ops Q j K a w := by
  obtain ⟨hlt, _⟩ := drawOk_spec T.draw
  have hj : j < ops.size := (Array.getElem?_eq_some_iff.1 ho).1
  have st := T.st j o ho
  have look : ∀ t, t ∈ looks ops o → RepV ρ I w ((f j).env t) (a.tmps.getD t undef) := fun t ht => by
    rw [← envAt_look T ho hS hpre M.down ht]; exact M.env t
  have hw := guard_ok (ρ := ρ) (I := I) (w := w) (a := a) st.guard (fun g want t hg ht => look t (by
    unfold looks; rw [hg]; exact List.mem_append.2 (.inr (by simp only; rw [ht]; simp))))
  have hdst : ∀ m, o.dst = some m → m < a.tmps.size := fun m hm => by rw [M.size]; exact T.dst o (Array.mem_of_getElem? ho) m hm
  have hS' : ∀ i, S i = true → (if i = j then true else S i) = true := fun i hi => by split <;> first | rfl | exact hi
  have hdown : ∀ i k, (if k = j then true else S k) = true → Rch ops i k → (if i = j then true else S i) = true := fun i k hk hr => by
    split at hk
    · rename_i hkj; subst hkj; exact hS' i (hpre i hr)
    · exact hS' i (M.down i k hk hr)
  have hdom : ∀ b p, ρ b = some p → b < (f 0).hp.next ∨ ∃ i, i < ops.size ∧ (if i = j then true else S i) = true ∧ 1 ≤ teff c ops wb i ∧ (f i).hp.next ≤ b ∧ b < (f (i + 1)).hp.next := fun b p hp => by
    rcases M.dom b p hp with h | ⟨i, h1, h2, h3⟩
    · exact .inl h
    · exact .inr ⟨i, h1, hS' i h2, h3⟩
  have hpast : ∀ i, i < q → 2 ≤ teff c ops wb i → (if i = j then true else S i) = true := fun i h1 h2 => hS' i (M.past i h1 h2)
  unfold wpOp
  rw [ho]
  simp only
  rw [hw]
  cases hb : wb j with
  | false =>
    obtain ⟨hval, hhp⟩ := st.skip hb
    simp only [Bool.false_eq_true, if_false]
    have hq : q < ops.size → q ≠ j := fun h e => by
      have := (M.here h).1
      rw [e] at this
      have := (teff_touch ho (by omega) this).1
      rw [hb] at this; cases this
    refine hK _ w ρ I q ⟨M.le, fun h => ⟨(M.here h).1, by rw [if_neg (hq h)]; exact (M.here h).2⟩, hpast, hdown, ?_, M.rel, hdom, M.stp, by rw [put_size]; exact M.size, by rw [put_defers']; exact M.defers⟩
    rw [envAt_put T ho hS M.down, hval]
    exact M.env.put (RepV.tup (vs := #[]) rfl (fun j x v hx _ => by simp at hx)) hdst
  | true =>
    have hrun := st.run hb
    simp only [if_true]
    have he : ∀ x ∈ o.op.operands, RepV ρ I w ((f j).eval x) (a.eval x) := fun x hx => by
      cases x with
      | tmp t => exact look t (by
          unfold looks
          refine List.mem_append.2 (.inl (List.mem_filterMap.2 ⟨.tmp t, by simpa using hx, rfl⟩)))
      | const v => exact ofValue_repV v
      | global g => exact .one (.imm (.lit rfl))
      | func f => exact .one (.imm .fn)
    have hteff : teff c ops wb j = touch c.mode o.op := by unfold teff; rw [ho]; simp only [hb, if_true]
    by_cases h0 : touch c.mode o.op = 0
    · -- it does not touch memory
      obtain ⟨_, hpure⟩ := opE_pure h0 hrun
      have hrun' := hpure (f q).hp
      have hq : q < ops.size → q ≠ j := fun h e => by
        have := (M.here h).1
        rw [e, hteff, h0] at this; omega
      refine .inl (quiet_ok T.call (σ := { f j with hp := (f q).hp }) hrun' (by omega) M.rel (fun x hx => by rw [eval_hp]; exact he x hx) (fun b h1 h2 => absurd h2 (by have h1' : (f q).hp.next ≤ b := h1; omega)) (fun v' w' ρ' I' qs m R' hv => ?_))
      have hrho : ∀ b, ρ' b = ρ b := fun b => qs.rho b (by show b < (f q).hp.next ∨ (f q).hp.next ≤ b; omega)
      refine hK _ w' ρ' I' q ⟨M.le, fun h => ⟨(M.here h).1, by rw [if_neg (hq h)]; exact (M.here h).2⟩, hpast, hdown, ?_, R', fun b p hp => hdom b p (by rw [← hrho]; exact hp), M.stp.trans qs.stp, by rw [put_size]; exact M.size, by rw [put_defers']; exact M.defers⟩
      rw [envAt_put T ho hS M.down]
      exact (M.env.evo (qs.evo M.rel.imm) m).put hv hdst
    · by_cases h1 : touch c.mode o.op ≤ 1
      · -- it reads, or makes
        have ht1 : 1 ≤ touch c.mode o.op := by omega
        have hjq : j < q := by
          apply Nat.lt_of_not_le
          intro hqj
          have hqs : q < ops.size := by omega
          obtain ⟨g1, g2⟩ := M.here hqs
          have hne : q ≠ j := fun e => by rw [e, hteff] at g1; omega
          have hget : ops[q]? = some ops[q] := Array.getElem?_eq_getElem hqs
          rcases T.sep hne hget ho with h | h | h
          · have := hpre q h; rw [g2] at this; cases this
          · have := Rch.lt hlt h; omega
          · exact compat_of h (teff_touch hget (by omega) g1).2 ht1
        have quiet : ∀ k, j ≤ k → k < q → teff c ops wb k ≤ 1 := fun k hk1 hk2 => by
          apply Nat.le_of_not_lt
          intro hk
          have hks : k < ops.size := by have := M.le; omega
          have hSk := M.past k hk2 hk
          have hne : k ≠ j := fun e => by rw [e, hS] at hSk; cases hSk
          have hget : ops[k]? = some ops[k] := Array.getElem?_eq_getElem hks
          rcases T.sep hne hget ho with h | h | h
          · have := Rch.lt hlt h; omega
          · have := M.down j k hSk h; rw [hS] at this; cases this
          · exact compat_of h (teff_touch hget (by omega) hk).2 ht1
        have gr := T.grow q (Nat.le_of_lt hjq) M.le quiet
        have gr1 := T.grow (i := j + 1) q hjq M.le (fun k a b => quiet k (by omega) b)
        have g0 := T.grow1 hj (by rw [hteff]; exact h1)
        have RJ : Rel ρ I (f j).hp w := rel_sub M.rel (fun b k p _ hb' => by
          have hbn : b < (f j).hp.next := by
            apply Nat.lt_of_not_le
            intro hge; rw [T.hpOk j (by omega) b hge] at hb'; cases hb'
          rw [gr.at_ b (.inl hbn)]; exact hb')
        have m0 := T.mono (i := 0) j (by omega) (by omega)
        have hn : ∀ b, (f j).hp.next ≤ b → b < (f (j + 1)).hp.next → ρ b = none := fun b b1 b2 => by
          cases hρ : ρ b with
          | none => rfl
          | some p =>
            exfalso
            rcases M.dom b p hρ with h | ⟨i, i1, i2, i3, i4, i5⟩
            · omega
            · rcases Nat.lt_trichotomy i j with h | h | h
              · have := T.mono (i := i + 1) j h (by omega); omega
              · subst h; rw [hS] at i2; cases i2
              · have := T.mono (i := j + 1) i h (by omega); omega
        refine .inl (quiet_ok T.call hrun h1 RJ he hn (fun v' w' ρ' I' qs m R' hv => ?_))
        have hq : q < ops.size → q ≠ j := fun _ e => by omega
        have hold : ∀ b, ¬ ((f j).hp.next ≤ b ∧ b < (f (j + 1)).hp.next) → ρ' b = ρ b := fun b hb' => qs.rho b (by omega)
        have hnew : ∀ b, (f j).hp.next ≤ b → b < (f (j + 1)).hp.next → (f q).hp.at_ b = (f (j + 1)).hp.at_ b := fun b _ b2 => gr1.at_ b (.inl b2)
        have hev := qs.evo M.rel.imm
        have nI : ∀ r, r < w.heap.size → ¬ I r → ¬ I' r := fun r hr hi hi' => by
          rcases qs.immNew r hi' with h | h
          · exact hi h
          · omega
        have RQ : Rel ρ' I' (f q).hp w' := by
          refine ⟨R'.imm, fun b k r o' b1 b2 => ?_, fun b b' k k' r o1 o2 b1 b2 b3 b4 => ?_⟩
          · by_cases hin : (f j).hp.next ≤ b ∧ b < (f (j + 1)).hp.next
            · rw [hnew b hin.1 hin.2] at b1
              exact R'.blk b k r o' b1 b2
            · rw [hold b hin] at b2
              obtain ⟨z1, z2, z3⟩ := M.rel.blk b k r o' b1 b2
              exact ⟨Nat.lt_of_lt_of_le z1 qs.size, nI r z1 z2, z3.evo hev m (qs.frame r z1)⟩
          · by_cases hin : (f j).hp.next ≤ b ∧ b < (f (j + 1)).hp.next
            · by_cases hin' : (f j).hp.next ≤ b' ∧ b' < (f (j + 1)).hp.next
              · rw [hnew b hin.1 hin.2] at b1
                rw [hnew b' hin'.1 hin'.2] at b2
                exact R'.inj b b' k k' r o1 o2 b1 b2 b3 b4
              · rw [hold b' hin'] at b4
                have := (M.rel.blk b' k' r o2 b2 b4).1
                have := qs.fresh b r o1 hin.1 hin.2 b3
                omega
            · rw [hold b hin] at b3
              by_cases hin' : (f j).hp.next ≤ b' ∧ b' < (f (j + 1)).hp.next
              · have := (M.rel.blk b k r o1 b1 b3).1
                have := qs.fresh b' r o2 hin'.1 hin'.2 b4
                omega
              · rw [hold b' hin'] at b4
                exact M.rel.inj b b' k k' r o1 o2 b1 b2 b3 b4
        refine hK _ w' ρ' I' q ⟨M.le, fun h => ⟨(M.here h).1, by rw [if_neg (hq h)]; exact (M.here h).2⟩, hpast, hdown, ?_, RQ, fun b p hp => ?_, ?_, by rw [put_size]; exact M.size, by rw [put_defers']; exact M.defers⟩
        · rw [envAt_put T ho hS M.down]
          exact (M.env.evo hev m).put hv hdst
        · by_cases hin : (f j).hp.next ≤ b ∧ b < (f (j + 1)).hp.next
          · exact .inr ⟨j, hj, by simp, by rw [hteff]; exact ht1, hin.1, hin.2⟩
          · rw [hold b hin] at hp; exact hdom b p hp
        · have z := M.stp
          exact ⟨z.next, fun b hb' => by rw [hold b (by have := gr1.next; omega), z.rho b hb'], fun r hr => qs.imm r (z.imm r hr),
            fun r hr => by
              rcases qs.immNew r hr with h | h
              · exact z.immNew r h
              · exact .inr (.inl (Nat.le_trans z.size h)),
            fun r hr hm => by rw [qs.frame r (Nat.lt_of_lt_of_le hr z.size), z.frame r hr hm],
            fun r ⟨b, k, o', b1, b2⟩ => by
              by_cases hin : (f j).hp.next ≤ b ∧ b < (f (j + 1)).hp.next
              · exact .inr (Nat.le_trans z.size (qs.fresh b r o' hin.1 hin.2 b2))
              · rw [hold b hin] at b2; exact z.wr r ⟨b, k, o', b1, b2⟩,
            fun x hx => by
              obtain ⟨y1, y2⟩ := z.cells x hx
              obtain ⟨y3, y4⟩ := hev.cells x y1
              exact ⟨y3, y4.trans y2⟩,
            Nat.le_trans z.size qs.size, qs.os.trans z.os, qs.tape.trans z.tape, qs.output.trans z.output⟩
      · -- it writes
        have ht2 : 2 ≤ touch c.mode o.op := by omega
        have hjq : j = q := by
          rcases Nat.lt_trichotomy j q with h | h | h
          · have := M.past j h (by rw [hteff]; exact ht2); rw [hS] at this; cases this
          · exact h
          · have hqs : q < ops.size := by omega
            obtain ⟨g1, g2⟩ := M.here hqs
            have hget : ops[q]? = some ops[q] := Array.getElem?_eq_getElem hqs
            rcases T.sep (by omega : q ≠ j) hget ho with h' | h' | h'
            · have := hpre q h'; rw [g2] at this; cases this
            · have := Rch.lt hlt h'; omega
            · exact (compat_of h' (teff_touch hget (by omega) g1).2 (by omega)).elim
        subst hjq
        have hd : Dom ρ (f j).hp.next := fun b hb' => by
          cases hρ : ρ b with
          | none => rfl
          | some p =>
            exfalso
            have m0 := T.mono (i := 0) j (by omega) (by omega)
            rcases M.dom b p hρ with h | ⟨i, i1, i2, i3, i4, i5⟩
            · omega
            · rcases Nat.lt_trichotomy i j with h | h | h
              · have := T.mono (i := i + 1) j h (by omega); omega
              · subst h; rw [hS] at i2; cases i2
              · have hget : ops[i]? = some ops[i] := Array.getElem?_eq_getElem i1
                rcases T.sep (by omega : j ≠ i) ho hget with h' | h' | h'
                · have := M.down j i i2 h'; rw [hS] at this; cases this
                · have := Rch.lt hlt h'; omega
                · exact compat_of h' ht2 (teff_touch hget (by omega) i3).2
        refine .inl (op_ok T.call hrun (T.hpOk j (by omega)) hd M.rel he (fun v' w' ρ' I' s R' hv => ?_))
        obtain ⟨q', q1, q2, q3, q4⟩ := nextWriter c ops wb (ops.size - (j + 1)) (j + 1) (by omega)
        have gr := T.grow (i := j + 1) q' q1 q2 q4
        have d' := s.dom hd
        have hm := s.more hd
        refine hK _ w' ρ' I' q' ⟨q2, fun h => ⟨q3 h, ?_⟩, fun i i1 i2 => ?_, hdown, ?_, rel_sub R' (fun b k p hp hb' => ?_), fun b p hp => ?_, (M.stp.trans s).trans (stp_sub gr d'), by rw [put_size]; exact M.size, by rw [put_defers']; exact M.defers⟩
        · rw [if_neg (by omega)]
          cases hSq : S q' with
          | false => rfl
          | true =>
            exfalso
            have hget : ops[q']? = some ops[q'] := Array.getElem?_eq_getElem h
            rcases T.sep (by omega : j ≠ q') ho hget with h' | h' | h'
            · have := M.down j q' hSq h'; rw [hS] at this; cases this
            · have := Rch.lt hlt h'; omega
            · exact compat_of h' ht2 (by have := (teff_touch hget (by omega) (q3 h)).2; omega)
        · rcases Nat.lt_trichotomy i j with h | h | h
          · exact hpast i h i2
          · rw [if_pos h]
          · have := q4 i (by omega) i1; omega
        · rw [envAt_put T ho hS M.down]
          exact (M.env.evo (M.rel.evo s) hm).put hv hdst
        · have hbn : b < (f (j + 1)).hp.next := by
            apply Nat.lt_of_not_le
            intro hge; rw [d' b hge] at hp; cases hp
          rw [gr.at_ b (.inl hbn)] at hb'; exact hb'
        · by_cases hin : (f j).hp.next ≤ b ∧ b < (f (j + 1)).hp.next
          · exact .inr ⟨j, hj, by simp, by rw [hteff]; omega, hin.1, hin.2⟩
          · rw [s.rho b (by omega)] at hp; exact hdom b p hp

theorem countP_set_true (l : List Bool) (i : Nat) (h : l[i]? = some false) : (l.set i true).countP (· == false) + 1 = l.countP (· == false) := by
  induction l generalizing i with
  | nil => simp at h
  | cons x l ih =>
    cases i with
    | zero => simp at h; subst h; simp
    | succ i =>
      have := ih i (by simpa using h)
      simp only [List.set_cons_succ, List.countP_cons]
      omega

theorem ready_none {listed : Array Bool} (hs : listed.size = ops.size) (hd : ∀ j o e, ops[j]? = some o → e ∈ o.after → Region.binds .any e = true → e.on < j)
    (h : Region.ready .any ops listed = []) : ∀ j, j < ops.size → listed.getD j false = true := by
  intro j
  induction j using Nat.strongRecOn with
  | _ j ih =>
    intro hj
    cases hl : listed.getD j false with
    | true => rfl
    | false =>
      exfalso
      have hget : ops[j]? = some ops[j] := Array.getElem?_eq_getElem hj
      have : j ∈ Region.ready .any ops listed := by
        rw [mem_ready]
        refine ⟨?_, _, hget, fun e he hb => ?_⟩
        · have hlt : j < listed.size := by omega
          rw [Array.getD_eq_getD_getElem?, Array.getElem?_eq_getElem hlt] at hl ⊢
          simpa using hl
        · have hlt := hd j _ e hget he hb
          exact ih _ hlt (by omega)
      rw [h] at this
      cases this

theorem any_ok [TInv] (T : Tr c ops n f val wb) {Q : Exit → Act → World → Prop}
    (hQ : ∀ a w ρ I, EnvOk ρ I w (envAt ops f val (fun _ => true) ops.size) a → Rel ρ I (f ops.size).hp w → Dom ρ (f ops.size).hp.next → Stp ρ0 I0 (f 0).hp w0 ρ I (f ops.size).hp w → a.tmps.size = n → a.defers = [] → Q .normal a w) :
    ∀ (fuel : Nat) (listed : Array Bool) (q : Nat) (ρ : Rho) (I : Nat → Prop) (a : Act) (w : World), listed.size = ops.size → listed.toList.countP (· == false) ≤ fuel →
      Mid c ops n f val wb ρ0 I0 w0 (fun i => listed.getD i false) q ρ I a w → wpAny c.P .any ops Q fuel listed a w := by
  obtain ⟨hlt, _⟩ := drawOk_spec T.draw
  have done : ∀ (listed : Array Bool) (q : Nat) (ρ : Rho) (I : Nat → Prop) (a : Act) (w : World), listed.size = ops.size → Mid c ops n f val wb ρ0 I0 w0 (fun i => listed.getD i false) q ρ I a w → Region.ready .any ops listed = [] → Q .normal a w := by
    intro listed q ρ I a w hs M hr
    have hall := ready_none hs hlt hr
    have hq : q = ops.size := by
      apply Nat.le_antisymm M.le
      apply Nat.le_of_not_lt
      intro h
      have := (M.here h).2
      rw [hall q h] at this; cases this
    subst hq
    have henv : envAt ops f val (fun i => listed.getD i false) ops.size = envAt ops f val (fun _ => true) ops.size := by
      have : ∀ k, k ≤ ops.size → envAt ops f val (fun i => listed.getD i false) k = envAt ops f val (fun _ => true) k := by
        intro k
        induction k with
        | zero => intro _; rfl
        | succ k ih =>
          intro hk
          have hget : ops[k]? = some (ops[k]'(by omega)) := Array.getElem?_eq_getElem (by omega)
          simp only [envAt, hget, if_true]
          rw [ih (by omega), if_pos (hall k (by omega))]
      exact this _ (Nat.le_refl _)
    refine hQ a w ρ I (by rw [← henv]; exact M.env) M.rel (fun b hb => ?_) M.stp M.size M.defers
    cases hρ : ρ b with
    | none => rfl
    | some p =>
      exfalso
      rcases M.dom b p hρ with h | ⟨i, i1, _, _, _, i5⟩
      · have := T.mono (i := 0) ops.size (by omega) (Nat.le_refl _); omega
      · have := T.mono (i := i + 1) ops.size (by omega) (Nat.le_refl _); omega
  intro fuel
  induction fuel with
  | zero =>
    intro listed q ρ I a w hs hcnt M
    have hr : Region.ready .any ops listed = [] := by
      apply List.eq_nil_iff_forall_not_mem.2
      intro j hj
      rw [mem_ready] at hj
      obtain ⟨h1, o, ho, _⟩ := hj
      have hjs : j < listed.size := by rw [hs]; exact (Array.getElem?_eq_some_iff.1 ho).1
      have hz : listed.toList.countP (· == false) = 0 := by omega
      rw [List.countP_eq_zero] at hz
      rw [Array.getD_eq_getD_getElem?, Array.getElem?_eq_getElem hjs] at h1
      simp only [Option.getD_some] at h1
      have := hz listed[j] (by simp)
      rw [h1] at this
      exact this rfl
    exact ⟨hr, done listed q ρ I a w hs M hr⟩
  | succ fuel ih =>
    intro listed q ρ I a w hs hcnt M
    refine ⟨done listed q ρ I a w hs M, fun j hj => ?_⟩
    rw [mem_ready] at hj
    obtain ⟨h1, o, ho, hpre⟩ := hj
    have hjs : j < listed.size := by rw [hs]; exact (Array.getElem?_eq_some_iff.1 ho).1
    have hlj : listed[j] = false := by
      rw [Array.getD_eq_getD_getElem?, Array.getElem?_eq_getElem hjs] at h1
      simpa using h1
    refine mid_step T M ho (by show listed.getD j false = false; rw [Array.getD_eq_getD_getElem?, Array.getElem?_eq_getElem hjs, hlj]; rfl) (fun i hr => ?_) (fun a' w' ρ' I' q' M' => ?_)
    · cases hr with
      | edge ho' he hb hon => rw [ho] at ho'; cases ho'; rw [← hon]; exact hpre _ he hb
      | step ho' he hb hr' => rw [ho] at ho'; cases ho'; exact M.down i _ (hpre _ he hb) hr'
    · refine ih _ q' ρ' I' a' w' (by simpa using hs) ?_ ?_
      · have : (listed.setIfInBounds j true).toList = listed.toList.set j true := by simp
        rw [this]
        have := countP_set_true listed.toList j (by simp [Array.getElem?_eq_getElem hjs, hlj])
        omega
      · have he : (fun i => (listed.setIfInBounds j true).getD i false) = (fun i => if i = j then true else listed.getD i false) := by
          funext i
          by_cases hij : i = j
          · subst hij
            simp [hjs]
          · rw [if_neg hij, getD_set_ne false (Ne.symm hij)]
        rw [he]; exact M'

theorem envAt_all (hst : ∀ i o, ops[i]? = some o → Step1 c ops o (f i) (f (i + 1)) (val i) (wb i)) : ∀ k, k ≤ ops.size → envAt ops f val (fun _ => true) k = (f k).env
  | 0, _ => rfl
  | k + 1, hk => by
    have hget : ops[k]? = some (ops[k]'(by omega)) := Array.getElem?_eq_getElem (by omega)
    simp only [envAt, hget, if_true]
    rw [envAt_all hst k (by omega), (hst k _ hget).env]
end

theorem rep_false (n i : Nat) : (Array.replicate n false).getD i false = false := by
  rw [Array.getD_eq_getD_getElem?, Array.getElem?_replicate]
  split <;> rfl

theorem draw_ok [TInv] {c : Cfg} (hc : CallOk c) (hP : c.P.follows .mixedOrders = true) {ops : Array Oper} {n : Nat} (hd : ∀ o ∈ ops, ∀ d, o.dst = some d → d < n) (hdr : drawOk c.mode ops = true)
    {ρ : Rho} {I : Nat → Prop} {w : World} {σ σ' : St} {a : Act} {id : Nat} (ho : opsE c ops ops.toList σ = some σ') (s : Sim n ρ I σ a w) {Q : Exit → Act → World → Prop}
    (hQ : ∀ a' w' ρ' I', Sim n ρ' I' σ' a' w' → Stp ρ I σ.hp w ρ' I' σ'.hp w' → Q .normal a' w') : (Code.region id ops true).wp c.P Q a w := by
  refine wp_region_any hP ?_
  show wpAny c.P .any ops Q ops.size (Array.replicate ops.size false) a w.drew
  obtain ⟨f, f0, fl, hf⟩ := trace ops.toList σ σ' ho
  have hex : ∀ i, ∃ vb : V × Bool, ∀ o, ops[i]? = some o → Step1 c ops o (f i) (f (i + 1)) vb.1 vb.2 := fun i => by
    cases hi : ops[i]? with
    | none => exact ⟨(.undef, false), fun o h => by cases h⟩
    | some o =>
      obtain ⟨v, b, st⟩ := operE_step (hf i o (by rw [Array.getElem?_toList]; exact hi))
      exact ⟨(v, b), fun o' h => by cases h; exact st⟩
  have hst := fun i => Classical.choose_spec (hex i)
  have hfl : f ops.size = σ' := by rw [← fl]; simp
  have T : Tr c ops n f (fun i => (Classical.choose (hex i)).1) (fun i => (Classical.choose (hex i)).2) := ⟨hc, hst, hd, hdr, by rw [f0]; exact s.ok⟩
  obtain ⟨q, _, q2, q3, q4⟩ := nextWriter c ops (fun i => (Classical.choose (hex i)).2) ops.size 0 (by omega)
  have gr := T.grow (i := 0) q (by omega) q2 q4
  have s' := s.drew
  refine any_ok (ρ0 := ρ) (I0 := I) (w0 := w.drew) T (fun a' w' ρ' I' he R d st hs hdf => ?_) ops.size _ q ρ I a w.drew (by simp) (by rw [Array.toList_replicate]; exact Nat.le_trans List.countP_le_length (by simp)) ⟨q2, fun h => ⟨q3 h, rep_false _ _⟩, fun i i1 i2 => by have := q4 i (by omega) i1; omega, fun i j hj _ => ?_, ?_, ?_, ?_, ?_, s.size, s.defers⟩
  · rw [envAt_all hst ops.size (Nat.le_refl _), hfl] at he
    rw [hfl] at R d st
    rw [f0] at st
    refine hQ a' w' ρ' I' ⟨he, R, d, by rw [← hfl]; exact T.hpOk _ (Nat.le_refl _), hs, hdf⟩ ?_
    exact (Stp.refl ρ I σ.hp w).drew.trans st
  · exfalso
    rw [rep_false] at hj; cases hj
  · have hz : envAt ops f (fun i => (Classical.choose (hex i)).1) (fun i => (Array.replicate ops.size false).getD i false) ops.size = (f 0).env := by
      have : ∀ k, envAt ops f (fun i => (Classical.choose (hex i)).1) (fun i => (Array.replicate ops.size false).getD i false) k = (f 0).env := by
        intro k
        induction k with
        | zero => rfl
        | succ k ih =>
          simp only [envAt]
          split
          · rw [rep_false, if_neg (by simp), ih]
          · exact ih
      exact this _
    rw [hz, f0]; exact s'.env
  · refine rel_sub (h2 := σ.hp) s'.rel (fun b k p hp hb => ?_)
    have hbn : b < (f 0).hp.next := by
      rw [f0]
      apply Nat.lt_of_not_le
      intro hge; rw [s.dom b hge] at hp; cases hp
    rw [gr.at_ b (.inl hbn), f0] at hb; exact hb
  · intro b p hp
    refine .inl ?_
    rw [f0]
    apply Nat.lt_of_not_le
    intro hge; rw [s.dom b hge] at hp; cases hp
  · exact stp_sub gr (by rw [f0]; exact s.dom)

end Go.Ev
