/- Requests as text; the three laws, found true by the evaluator. -/
import Derived.Test.YtmfoddeecplibaaDoorD4
set_option maxRecDepth 100000
set_option maxHeartbeats 4000000
set_option linter.unusedVariables false
set_option linter.unusedSimpArgs false
namespace Go.Ev.D
open Go Go.Ev Go.Proofs
def bindsOk (l : List Bnd) : Bool := l.all (fun x => oidOk x.o && valOk x.v)
theorem bindsOk_cons {x : Bnd} {l : List Bnd} : bindsOk (x :: l) = (oidOk x.o && valOk x.v && bindsOk l) := rfl
theorem pduOk_eq (p : Pdu) : pduOk p = ((if p.kind = 160 ∨ p.kind = 161 ∨ p.kind = 163 then decide (p.a = 0) && decide (p.b = 0)
   else if p.kind = 162 ∨ p.kind = 165 then inR p.a 0 1000 && inR p.b 0 1000 else false) && bindsOk p.binds && decide (p.binds.length ≤ 10) && isInt p.id) := rfl
@[go_sem] theorem l4Kind_run (n : Nat) (k : Int) : Pn (n+1) 43 [.i64 k] = some (.bool (decide (k = 160 ∨ k = 161 ∨ k = 162 ∨ k = 163 ∨ k = 165))) := by
  refine fnP rfl Tryd.func43 (by kernel_rfl) rfl (fun R hR => ?_)
  repeat' (first | simp (config := {contextual := true, maxSteps := 10000000}) (disch := first | assumption | omega) only [go_sem, Tryd.f43, ↓reduceIte, Nat.reduceEqDiff, Nat.reduceAdd, Nat.reduceSub, Nat.reduceMul, Nat.reduceLeDiff, Nat.reduceLT, Int.reduceNeg, Int.reduceToNat, Int.reduceLT, Int.reduceLE, Int.reduceEq, Int.reduceAdd, Int.reduceSub, reduceCtorEq, *] | intro _ | refine contC_split ?_ ?_ | refine contG_split ?_ ?_)
  all_goals (have hR2 : R = _ := hR; subst hR2)
  all_goals simp [*]
@[go_sem] theorem l26Kind_run (n : Nat) (k : Int) : Pn (n+1) 32 [.i64 k] = some (.str (kindWord k)) := by
  refine fnP rfl Tryd.func32 (by kernel_rfl) rfl (fun R hR => ?_)
  repeat' (first | simp (config := {contextual := true, maxSteps := 10000000}) (disch := first | assumption | omega) only [go_sem, Tryd.f32, ↓reduceIte, Nat.reduceEqDiff, Nat.reduceAdd, Nat.reduceSub, Nat.reduceMul, Nat.reduceLeDiff, Nat.reduceLT, Int.reduceNeg, Int.reduceToNat, Int.reduceLT, Int.reduceLE, Int.reduceEq, Int.reduceAdd, Int.reduceSub, reduceCtorEq, *] | intro _ | refine contC_split ?_ ?_ | refine contG_split ?_ ?_)
  all_goals (have hR2 : R = _ := hR; subst hR2)
  all_goals simp [kindWord, *]
def headOk (k a b : Int) : Bool := if k = 160 ∨ k = 161 ∨ k = 163 then decide (a = 0) && decide (b = 0) else if k = 162 ∨ k = 165 then inR a 0 1000 && inR b 0 1000 else false
theorem pduOk_eq2 (k i a b : Int) (l : List Bnd) : pduOk ⟨k, i, a, b, l⟩ = (headOk k a b && bindsOk l && decide (l.length ≤ 10) && isInt i) := rfl
theorem headOk_k {k a b : Int} (h : headOk k a b = true) : ((k = 160 ∨ k = 161 ∨ k = 163) ∧ a = 0 ∧ b = 0) ∨ ((k = 162 ∨ k = 165) ∧ inR a 0 1000 = true ∧ inR b 0 1000 = true) := by
  unfold headOk at h; grind
@[go_sem] theorem impl_PduOk_run (n : Nat) (a_kind : Int) (a_id : Int) (a_a : Int) (a_b : Int) (a_binds : List Bnd) (hb : (⟨a_kind, a_id, a_a, a_b, a_binds⟩ : Pdu).Bd) : Pn (n+4) 34 [.agg [.lit (.int .i64 a_kind), .lit (.int .i64 a_id), .lit (.int .i64 a_a), .lit (.int .i64 a_b), .sl 5 (a_binds.map Bnd.cs)]] = some (.bool (pduOk ⟨a_kind, a_id, a_a, a_b, a_binds⟩)) := by
  have hbl : a_binds.length ≤ 1048576 := hb.binds.1
  have hbA : ∀ y ∈ a_binds, y.Bd := hb.binds.2
  have hpo := Hd.mk (pduOk_eq2 a_kind a_id a_a a_b a_binds)
  refine fnP rfl Tryd.func34 (by kernel_rfl) rfl (fun R hR => ?_)
  by_cases hh : headOk a_kind a_a a_b = true
  · have hh2 := Hd.mk hh
    have hk := headOk_k hh
    clear hh
    rcases hk with ⟨hk | hk | hk, ha, hbb⟩ | ⟨hk | hk, ha, hbb⟩
    all_goals
      repeat' (first | simp (config := {contextual := true, maxSteps := 10000000}) (disch := first | assumption | omega) only [go_sem, Tryd.f34, ↓reduceIte, Nat.reduceEqDiff, Nat.reduceAdd, Nat.reduceSub, Nat.reduceMul, Nat.reduceLeDiff, Nat.reduceLT, Int.reduceNeg, Int.reduceToNat, Int.reduceLT, Int.reduceLE, Int.reduceEq, Int.reduceAdd, Int.reduceSub, reduceCtorEq, *] | intro _ | refine contC_split ?_ ?_ | refine contG_split ?_ ?_)
      refine wp_loopF [1, 33, 34] [35] (fun j vs hp => ∃ (i : Nat), (i + j = a_binds.length ∧ i ≤ 10 ∧ bindsOk (a_binds.drop i) = bindsOk a_binds) ∧ vs = [.i64 i] ∧ (hp.at_ 0 = some ⟨5, [[.lit (.int .i64 a_kind), .lit (.int .i64 a_id), .lit (.int .i64 a_a), .lit (.int .i64 a_b), .sl 5 (a_binds.map Bnd.cs)]]⟩ ∧ 1 ≤ hp.next)) (a_binds.length) (by unfold NN; omega) (by decide) ?_ ?_
      · refine ⟨0, ?_, ?_, ?_⟩
        · (exact ⟨by omega, by omega, rfl⟩)
        all_goals try (simp (config := {maxSteps := 10000000}) (disch := first | assumption | omega) only [go_sem, ↓reduceIte, Nat.reduceEqDiff, Nat.reduceAdd, Nat.reduceSub, Nat.reduceMul, Nat.reduceLeDiff, Nat.reduceLT, Int.reduceNeg, Int.reduceToNat, Int.reduceLT, Int.reduceLE, Int.reduceEq, Int.reduceAdd, Int.reduceSub, reduceCtorEq, List.cons.injEq, *])
        all_goals try (first | done | rfl | (constructor <;> rfl) | omega | (simp (disch := omega) [upd]; done) | (simp (disch := omega) [upd]; omega))
      · intro j env' hat hnx hj hu hI Lp hLp
        obtain ⟨i, hR0, he, hH⟩ := hI
        try simp (config := {maxSteps := 10000000}) (disch := first | assumption | omega) only [go_sem, ↓reduceIte, Nat.reduceEqDiff, Nat.reduceAdd, Nat.reduceSub, Nat.reduceMul, Nat.reduceLeDiff, Nat.reduceLT, Int.reduceNeg, Int.reduceToNat, Int.reduceLT, Int.reduceLE, Int.reduceEq, Int.reduceAdd, Int.reduceSub, reduceCtorEq, List.cons.injEq, and_true, true_and] at hu
        try simp (config := {maxSteps := 10000000}) (disch := first | assumption | omega) only [go_sem, ↓reduceIte, Nat.reduceEqDiff, Nat.reduceAdd, Nat.reduceSub, Nat.reduceMul, Nat.reduceLeDiff, Nat.reduceLT, Int.reduceNeg, Int.reduceToNat, Int.reduceLT, Int.reduceLE, Int.reduceEq, Int.reduceAdd, Int.reduceSub, reduceCtorEq, List.cons.injEq, and_true, true_and] at he
        try simp (config := {maxSteps := 10000000}) (disch := first | assumption | omega) only [go_sem, ↓reduceIte, Nat.reduceEqDiff, Nat.reduceAdd, Nat.reduceSub, Nat.reduceMul, Nat.reduceLeDiff, Nat.reduceLT, Int.reduceNeg, Int.reduceToNat, Int.reduceLT, Int.reduceLE, Int.reduceEq, Int.reduceAdd, Int.reduceSub, reduceCtorEq, List.cons.injEq, and_true, true_and] at hH
        obtain ⟨hij, hi10, hf⟩ := hR0
        by_cases hi : i < a_binds.length
        · have hy := hbA a_binds[i] (List.getElem_mem hi)
          have hyo : a_binds[i].o.length ≤ 140737488355328 := by have := hy.o; omega
          have hyv : a_binds[i].v.o.length ≤ 140737488355328 := by have := hy.v.o; omega
          rw [List.drop_eq_getElem_cons hi, bindsOk_cons] at hf
          have hf2 := Hd.mk hf
          clear hf
          repeat' (first | simp (config := {contextual := true, maxSteps := 10000000}) (disch := first | assumption | omega) only [go_sem, Tryd.f34, ↓reduceIte, Nat.reduceEqDiff, Nat.reduceAdd, Nat.reduceSub, Nat.reduceMul, Nat.reduceLeDiff, Nat.reduceLT, Int.reduceNeg, Int.reduceToNat, Int.reduceLT, Int.reduceLE, Int.reduceEq, Int.reduceAdd, Int.reduceSub, reduceCtorEq, Int.ofNat_lt, Nat.zero_add, *] | intro _ | refine contC_split ?_ ?_ | refine contG_split ?_ ?_)
          all_goals first
            | (refine hLp.out (j - 1) _ _ (by omega) ⟨i + 1, ⟨by omega, by omega, ?_⟩, rfl, ?_⟩
               · rw [← hf2.out]; simp_all
               · obtain ⟨q1, q2⟩ := hH
                 refine ⟨?_, by simp only; omega⟩
                 simp (disch := omega) [upd, ne_nat, q1])
            | ((have hR2 : R = _ := hR; subst hR2); rw [hpo.out, ← hf2.out]; simp_all; try omega)
        · have hi' : i = a_binds.length := by omega
          subst hi'
          have hf2 := Hd.mk hf
          clear hf
          repeat' (first | simp (config := {contextual := true, maxSteps := 10000000}) (disch := first | assumption | omega) only [go_sem, Tryd.f34, ↓reduceIte, Nat.reduceEqDiff, Nat.reduceAdd, Nat.reduceSub, Nat.reduceMul, Nat.reduceLeDiff, Nat.reduceLT, Int.reduceNeg, Int.reduceToNat, Int.reduceLT, Int.reduceLE, Int.reduceEq, Int.reduceAdd, Int.reduceSub, reduceCtorEq, Int.ofNat_lt, Nat.lt_irrefl, *] | intro _ | refine contC_split ?_ ?_ | refine contG_split ?_ ?_)
          all_goals (have hR2 : R = _ := hR; subst hR2)
          rw [hpo.out, ← hf2.out, hh2.out]
          simp [bindsOk, hi10]
  · simp only [Bool.not_eq_true] at hh
    have hn : pduOk ⟨a_kind, a_id, a_a, a_b, a_binds⟩ = false := by rw [hpo.out, hh]; rfl
    have hh2 := Hd.mk hh
    clear hh
    repeat' (first | simp (config := {contextual := true, maxSteps := 10000000}) (disch := first | assumption | omega) only [go_sem, Tryd.f34, ↓reduceIte, Nat.reduceEqDiff, Nat.reduceAdd, Nat.reduceSub, Nat.reduceMul, Nat.reduceLeDiff, Nat.reduceLT, Int.reduceNeg, Int.reduceToNat, Int.reduceLT, Int.reduceLE, Int.reduceEq, Int.reduceAdd, Int.reduceSub, reduceCtorEq, *] | intro _ | refine contC_split ?_ ?_ | refine contG_split ?_ ?_)
    all_goals first
      | ((have hR2 : R = _ := hR; subst hR2); rw [hn]; done)
      | (exfalso; have := hh2.out; unfold headOk at this; simp_all; done)
theorem spec_tail (k i a b : Int) : ((!(decide (k ≠ 162) && decide (k ≠ 165) && (decide (a ≠ 0) || decide (b ≠ 0)))) && (decide (k = 160 ∨ k = 161 ∨ k = 162 ∨ k = 163 ∨ k = 165) && decide (clip i = i) && inR a 0 1000 && inR b 0 1000)) = (headOk k a b && isInt i) := by
  rw [clip_eq]
  generalize isInt i = c
  by_cases h1 : k = 160
  · subst h1; by_cases ha : a = 0 <;> by_cases hb : b = 0 <;> simp [headOk, inR, *]
  · by_cases h2 : k = 161
    · subst h2; by_cases ha : a = 0 <;> by_cases hb : b = 0 <;> simp [headOk, inR, *]
    · by_cases h3 : k = 163
      · subst h3; by_cases ha : a = 0 <;> by_cases hb : b = 0 <;> simp [headOk, inR, *]
      · by_cases h4 : k = 162
        · subst h4; cases c <;> simp [headOk]
        · by_cases h5 : k = 165
          · subst h5; cases c <;> simp [headOk]
          · simp [headOk, *]
@[go_sem] theorem spec_PduOk_run (n : Nat) (a_kind : Int) (a_id : Int) (a_a : Int) (a_b : Int) (a_binds : List Bnd) (hb : (⟨a_kind, a_id, a_a, a_b, a_binds⟩ : Pdu).Bd) : Pn (n+4) 31 [.agg [.lit (.int .i64 a_kind), .lit (.int .i64 a_id), .lit (.int .i64 a_a), .lit (.int .i64 a_b), .sl 5 (a_binds.map Bnd.cs)]] = some (.bool (pduOk ⟨a_kind, a_id, a_a, a_b, a_binds⟩)) := by
  have hbl : a_binds.length ≤ 1048576 := hb.binds.1
  have hbA : ∀ y ∈ a_binds, y.Bd := hb.binds.2
  have hpo := Hd.mk (pduOk_eq2 a_kind a_id a_a a_b a_binds)
  have hst := Hd.mk (spec_tail a_kind a_id a_a a_b)
  refine fnP rfl Tryd.func31 (by kernel_rfl) rfl (fun R hR => ?_)
  repeat' (first | simp (config := {contextual := true, maxSteps := 10000000}) (disch := first | assumption | omega) only [go_sem, Tryd.f31, ↓reduceIte, Nat.reduceEqDiff, Nat.reduceAdd, Nat.reduceSub, Nat.reduceMul, Nat.reduceLeDiff, Nat.reduceLT, Int.reduceNeg, Int.reduceToNat, Int.reduceLT, Int.reduceLE, Int.reduceEq, Int.reduceAdd, Int.reduceSub, reduceCtorEq, *] | intro _ | refine contC_split ?_ ?_ | refine contG_split ?_ ?_)
  refine wp_loopF [1] [3] (fun j vs hp => ∃ (i : Nat), (i + j = a_binds.length ∧ bindsOk (a_binds.drop i) = bindsOk a_binds) ∧ vs = [.i64 i] ∧ (hp.at_ 0 = some ⟨5, [[.lit (.int .i64 a_kind), .lit (.int .i64 a_id), .lit (.int .i64 a_a), .lit (.int .i64 a_b), .sl 5 (a_binds.map Bnd.cs)]]⟩ ∧ 1 ≤ hp.next)) (a_binds.length) (by unfold NN; omega) (by decide) ?_ ?_
  · refine ⟨0, ?_, ?_, ?_⟩
    · (exact ⟨by omega, rfl⟩)
    all_goals try (simp (config := {maxSteps := 10000000}) (disch := first | assumption | omega) only [go_sem, ↓reduceIte, Nat.reduceEqDiff, Nat.reduceAdd, Nat.reduceSub, Nat.reduceMul, Nat.reduceLeDiff, Nat.reduceLT, Int.reduceNeg, Int.reduceToNat, Int.reduceLT, Int.reduceLE, Int.reduceEq, Int.reduceAdd, Int.reduceSub, reduceCtorEq, List.cons.injEq, *])
    all_goals try (first | done | rfl | (constructor <;> rfl) | omega | (simp (disch := omega) [upd]; done) | (simp (disch := omega) [upd]; omega))
  · intro j env' hat hnx hj hu hI Lp hLp
    obtain ⟨i, hR0, he, hH⟩ := hI
    try simp (config := {maxSteps := 10000000}) (disch := first | assumption | omega) only [go_sem, ↓reduceIte, Nat.reduceEqDiff, Nat.reduceAdd, Nat.reduceSub, Nat.reduceMul, Nat.reduceLeDiff, Nat.reduceLT, Int.reduceNeg, Int.reduceToNat, Int.reduceLT, Int.reduceLE, Int.reduceEq, Int.reduceAdd, Int.reduceSub, reduceCtorEq, List.cons.injEq, and_true, true_and] at hu
    try simp (config := {maxSteps := 10000000}) (disch := first | assumption | omega) only [go_sem, ↓reduceIte, Nat.reduceEqDiff, Nat.reduceAdd, Nat.reduceSub, Nat.reduceMul, Nat.reduceLeDiff, Nat.reduceLT, Int.reduceNeg, Int.reduceToNat, Int.reduceLT, Int.reduceLE, Int.reduceEq, Int.reduceAdd, Int.reduceSub, reduceCtorEq, List.cons.injEq, and_true, true_and] at he
    try simp (config := {maxSteps := 10000000}) (disch := first | assumption | omega) only [go_sem, ↓reduceIte, Nat.reduceEqDiff, Nat.reduceAdd, Nat.reduceSub, Nat.reduceMul, Nat.reduceLeDiff, Nat.reduceLT, Int.reduceNeg, Int.reduceToNat, Int.reduceLT, Int.reduceLE, Int.reduceEq, Int.reduceAdd, Int.reduceSub, reduceCtorEq, List.cons.injEq, and_true, true_and] at hH
    obtain ⟨hij, hf⟩ := hR0
    by_cases hi : i < a_binds.length
    · have hy := hbA a_binds[i] (List.getElem_mem hi)
      have hyo : a_binds[i].o.length ≤ 140737488355328 := by have := hy.o; omega
      have hyv : a_binds[i].v.o.length ≤ 140737488355328 := by have := hy.v.o; omega
      rw [List.drop_eq_getElem_cons hi, bindsOk_cons] at hf
      have hf2 := Hd.mk hf
      clear hf
      repeat' (first | simp (config := {contextual := true, maxSteps := 10000000}) (disch := first | assumption | omega) only [go_sem, Tryd.f31, ↓reduceIte, Nat.reduceEqDiff, Nat.reduceAdd, Nat.reduceSub, Nat.reduceMul, Nat.reduceLeDiff, Nat.reduceLT, Int.reduceNeg, Int.reduceToNat, Int.reduceLT, Int.reduceLE, Int.reduceEq, Int.reduceAdd, Int.reduceSub, reduceCtorEq, Int.ofNat_lt, Nat.zero_add, *] | intro _ | refine contC_split ?_ ?_ | refine contG_split ?_ ?_)
      all_goals first
        | (refine hLp.out (j - 1) _ _ (by omega) ⟨i + 1, ⟨by omega, ?_⟩, rfl, hH⟩
           rw [← hf2.out]; simp_all; done)
        | ((have hR2 : R = _ := hR; subst hR2); rw [hpo.out, ← hf2.out]; simp_all; done)
    · have hi' : i = a_binds.length := by omega
      subst hi'
      have hf2 := Hd.mk hf
      clear hf
      have h10 : decide ((a_binds.length : Int) ≤ 10) = decide (a_binds.length ≤ 10) := by apply decide_eq_decide.2; omega
      repeat' (first | simp (config := {contextual := true, maxSteps := 10000000}) (disch := first | assumption | omega) only [go_sem, Tryd.f31, ↓reduceIte, Nat.reduceEqDiff, Nat.reduceAdd, Nat.reduceSub, Nat.reduceMul, Nat.reduceLeDiff, Nat.reduceLT, Int.reduceNeg, Int.reduceToNat, Int.reduceLT, Int.reduceLE, Int.reduceEq, Int.reduceAdd, Int.reduceSub, reduceCtorEq, Int.ofNat_lt, Nat.lt_irrefl, *] | intro _ | refine contC_split ?_ ?_ | refine contG_split ?_ ?_)
      all_goals
        (have hR2 : R = _ := hR; subst hR2)
        have e1 := hst.out
        rw [hpo.out, ← hf2.out]
        simp [bindsOk] at * <;> grind
end Go.Ev.D
