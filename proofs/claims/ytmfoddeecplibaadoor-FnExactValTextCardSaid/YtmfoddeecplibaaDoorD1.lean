/- What the program's functions of names and values answer, and the reference's. -/
import Derived.Test.YtmfoddeecplibaaDoorD0
import Derived.Test.YtmfoddeecplibaaDoorM5
set_option maxRecDepth 100000
set_option maxHeartbeats 4000000
set_option linter.unusedVariables false
set_option linter.unusedSimpArgs false
namespace Go.Ev.D
open Go Go.Ev Go.Proofs
theorem NN_lt {n : Nat} (h : n ≤ 4000000000) : n < NN := by unfold NN; omega
@[go_sem] theorem impl_in_run (n : Nat) (a b c : Int) : Pn (n+1) 45 [.i64 a, .i64 b, .i64 c] = some (.bool (inR a b c)) := by
  refine fnP rfl Tryd.func45 (by kernel_rfl) rfl (fun R hR => ?_)
  repeat' (first | simp (config := {contextual := true, maxSteps := 10000000}) (disch := first | assumption | omega) only [go_sem, Tryd.f45, ↓reduceIte, Nat.reduceEqDiff, Nat.reduceAdd, Nat.reduceSub, Nat.reduceMul, Nat.reduceLeDiff, Nat.reduceLT, Int.reduceNeg, Int.reduceToNat, Int.reduceLT, Int.reduceLE, Int.reduceEq, Int.reduceAdd, Int.reduceSub, reduceCtorEq, *] | intro _ | refine contC_split ?_ ?_ | refine contG_split ?_ ?_)
  all_goals (have hR2 : R = _ := hR; subst hR2)
  all_goals (simp [inR, *] <;> omega)
@[go_sem] theorem spec_l1In_run (n : Nat) (a b c : Int) : Pn (n+1) 44 [.i64 a, .i64 b, .i64 c] = some (.bool (inR a b c)) := by
  refine fnP rfl Tryd.func44 (by kernel_rfl) rfl (fun R hR => ?_)
  repeat' (first | simp (config := {contextual := true, maxSteps := 10000000}) (disch := first | assumption | omega) only [go_sem, Tryd.f44, ↓reduceIte, Nat.reduceEqDiff, Nat.reduceAdd, Nat.reduceSub, Nat.reduceMul, Nat.reduceLeDiff, Nat.reduceLT, Int.reduceNeg, Int.reduceToNat, Int.reduceLT, Int.reduceLE, Int.reduceEq, Int.reduceAdd, Int.reduceSub, reduceCtorEq, *] | intro _ | refine contC_split ?_ ?_ | refine contG_split ?_ ?_)
  all_goals (have hR2 : R = _ := hR; subst hR2)
  all_goals (simp [inR, *] <;> omega)
@[go_sem] theorem isInt_run (n : Nat) (a : Int) : Pn (n+2) 38 [.i64 a] = some (.bool (isInt a)) := by
  refine fnP rfl Tryd.func38 (by kernel_rfl) rfl (fun R hR => ?_)
  repeat' (first | simp (config := {contextual := true, maxSteps := 10000000}) (disch := first | assumption | omega) only [go_sem, Tryd.f38, ↓reduceIte, Nat.reduceEqDiff, Nat.reduceAdd, Nat.reduceSub, Nat.reduceMul, Nat.reduceLeDiff, Nat.reduceLT, Int.reduceNeg, Int.reduceToNat, Int.reduceLT, Int.reduceLE, Int.reduceEq, Int.reduceAdd, Int.reduceSub, reduceCtorEq, *] | intro _ | refine contC_split ?_ ?_ | refine contG_split ?_ ?_)
  all_goals (have hR2 : R = _ := hR; subst hR2)
  rfl
def clip (a : Int) : Int := if a > 2147483647 then 2147483647 else if a < -2147483648 then -2147483648 else a
@[go_sem] theorem clip_run (n : Nat) (a : Int) : Pn (n+1) 36 [.i64 a] = some (.i64 (clip a)) := by
  refine fnP rfl Tryd.func36 (by kernel_rfl) rfl (fun R hR => ?_)
  repeat' (first | simp (config := {contextual := true, maxSteps := 10000000}) (disch := first | assumption | omega) only [go_sem, Tryd.f36, ↓reduceIte, Nat.reduceEqDiff, Nat.reduceAdd, Nat.reduceSub, Nat.reduceMul, Nat.reduceLeDiff, Nat.reduceLT, Int.reduceNeg, Int.reduceToNat, Int.reduceLT, Int.reduceLE, Int.reduceEq, Int.reduceAdd, Int.reduceSub, reduceCtorEq, *] | intro _ | refine contC_split ?_ ?_ | refine contG_split ?_ ?_)
  all_goals (have hR2 : R = _ := hR; subst hR2)
  all_goals grind [clip]
theorem clip_eq (a : Int) : decide (clip a = a) = isInt a := by
  unfold clip isInt inR; grind
@[go_sem] theorem impl_OidOk_run (n : Nat) (o : List Int) (hl : o.length ≤ 140737488355328) : Pn (n+2) 39 [.one (.sl 1 (o.map intC))] = some (.bool (oidOk o)) := by
  refine fnP rfl Tryd.func39 (by kernel_rfl) rfl (fun R hR => ?_)
  repeat' (first | simp (config := {contextual := true, maxSteps := 10000000}) (disch := first | assumption | omega) only [go_sem, Tryd.f39, ↓reduceIte, Nat.reduceEqDiff, Nat.reduceAdd, Nat.reduceSub, Nat.reduceMul, Nat.reduceLeDiff, Nat.reduceLT, Int.reduceNeg, Int.reduceToNat, Int.reduceLT, Int.reduceLE, Int.reduceEq, Int.reduceAdd, Int.reduceSub, reduceCtorEq, *] | intro _ | refine contC_split ?_ ?_ | refine contG_split ?_ ?_)
  refine wp_loopF [0, 5, 6] [7] (fun j vs hp => ∃ (i : Nat), (i + j = o.length ∧ (o.drop i).all (fun n => inR n 0 100000) = o.all (fun n => inR n 0 100000)) ∧ vs = [.i64 i]) (o.length) (by unfold NN; omega) (by decide) ?_ ?_
  · refine ⟨0, ?_, ?_⟩
    all_goals try (simp (config := {maxSteps := 10000000}) (disch := first | assumption | omega) only [go_sem, ↓reduceIte, Nat.reduceEqDiff, Nat.reduceAdd, Nat.reduceSub, Nat.reduceMul, Nat.reduceLeDiff, Nat.reduceLT, Int.reduceNeg, Int.reduceToNat, Int.reduceLT, Int.reduceLE, Int.reduceEq, Int.reduceAdd, Int.reduceSub, reduceCtorEq, List.cons.injEq, *])
    all_goals try (first | done | omega | (simp (disch := omega) [upd]; done) | (simp (disch := omega) [upd]; omega))
  · intro j env' hat hnx hj hu hI Lp hLp
    obtain ⟨i, hR0, he⟩ := hI
    try simp (config := {maxSteps := 10000000}) (disch := first | assumption | omega) only [go_sem, ↓reduceIte, Nat.reduceEqDiff, Nat.reduceAdd, Nat.reduceSub, Nat.reduceMul, Nat.reduceLeDiff, Nat.reduceLT, Int.reduceNeg, Int.reduceToNat, Int.reduceLT, Int.reduceLE, Int.reduceEq, Int.reduceAdd, Int.reduceSub, reduceCtorEq, List.cons.injEq, and_true, true_and] at hu
    try simp (config := {maxSteps := 10000000}) (disch := first | assumption | omega) only [go_sem, ↓reduceIte, Nat.reduceEqDiff, Nat.reduceAdd, Nat.reduceSub, Nat.reduceMul, Nat.reduceLeDiff, Nat.reduceLT, Int.reduceNeg, Int.reduceToNat, Int.reduceLT, Int.reduceLE, Int.reduceEq, Int.reduceAdd, Int.reduceSub, reduceCtorEq, List.cons.injEq, and_true, true_and] at he
    obtain ⟨hij, hf⟩ := hR0
    by_cases hi : i < o.length
    · rw [List.drop_eq_getElem_cons hi, List.all_cons] at hf
      repeat' (first | simp (config := {contextual := true, maxSteps := 10000000}) (disch := first | assumption | omega) only [go_sem, Tryd.f39, ↓reduceIte, Nat.reduceEqDiff, Nat.reduceAdd, Nat.reduceSub, Nat.reduceMul, Nat.reduceLeDiff, Nat.reduceLT, Int.reduceNeg, Int.reduceToNat, Int.reduceLT, Int.reduceLE, Int.reduceEq, Int.reduceAdd, Int.reduceSub, reduceCtorEq, Int.ofNat_lt, *] | intro _ | refine contC_split ?_ ?_ | refine contG_split ?_ ?_)
      all_goals first
        | (refine hLp.out (j - 1) _ _ (by omega) ⟨i + 1, ⟨by omega, ?_⟩, ?_⟩ <;> first | rfl | omega | (grind))
        | (have hR2 : R = _ := hR; subst hR2; grind [oidOk])
    · repeat' (first | simp (config := {contextual := true, maxSteps := 10000000}) (disch := first | assumption | omega) only [go_sem, Tryd.f39, ↓reduceIte, Nat.reduceEqDiff, Nat.reduceAdd, Nat.reduceSub, Nat.reduceMul, Nat.reduceLeDiff, Nat.reduceLT, Int.reduceNeg, Int.reduceToNat, Int.reduceLT, Int.reduceLE, Int.reduceEq, Int.reduceAdd, Int.reduceSub, reduceCtorEq, Int.ofNat_lt, *] | intro _ | refine contC_split ?_ ?_ | refine contG_split ?_ ?_)
      all_goals (have hR2 : R = _ := hR; subst hR2)
      have : i = o.length := by omega
      subst this
      simp at hf
      grind [oidOk]
@[go_sem] theorem spec_OidOk_run (n : Nat) (o : List Int) (hl : o.length ≤ 140737488355328) : Pn (n+2) 37 [.one (.sl 1 (o.map intC))] = some (.bool (oidOk o)) := by
  refine fnP rfl Tryd.func37 (by kernel_rfl) rfl (fun R hR => ?_)
  repeat' (first | simp (config := {contextual := true, maxSteps := 10000000}) (disch := first | assumption | omega) only [go_sem, Tryd.f37, ↓reduceIte, Nat.reduceEqDiff, Nat.reduceAdd, Nat.reduceSub, Nat.reduceMul, Nat.reduceLeDiff, Nat.reduceLT, Int.reduceNeg, Int.reduceToNat, Int.reduceLT, Int.reduceLE, Int.reduceEq, Int.reduceAdd, Int.reduceSub, reduceCtorEq, *] | intro _ | refine contC_split ?_ ?_ | refine contG_split ?_ ?_)
  refine wp_loopF [0] [3] (fun j vs hp => ∃ (i : Nat), (i + j = o.length ∧ (o.drop i).all (fun n => inR n 0 100000) = o.all (fun n => inR n 0 100000)) ∧ vs = [.i64 i]) (o.length) (by unfold NN; omega) (by decide) ?_ ?_
  · refine ⟨0, ?_, ?_⟩
    all_goals try (simp (config := {maxSteps := 10000000}) (disch := first | assumption | omega) only [go_sem, ↓reduceIte, Nat.reduceEqDiff, Nat.reduceAdd, Nat.reduceSub, Nat.reduceMul, Nat.reduceLeDiff, Nat.reduceLT, Int.reduceNeg, Int.reduceToNat, Int.reduceLT, Int.reduceLE, Int.reduceEq, Int.reduceAdd, Int.reduceSub, reduceCtorEq, List.cons.injEq, *])
    all_goals try (first | done | omega | (simp (disch := omega) [upd]; done) | (simp (disch := omega) [upd]; omega))
  · intro j env' hat hnx hj hu hI Lp hLp
    obtain ⟨i, hR0, he⟩ := hI
    try simp (config := {maxSteps := 10000000}) (disch := first | assumption | omega) only [go_sem, ↓reduceIte, Nat.reduceEqDiff, Nat.reduceAdd, Nat.reduceSub, Nat.reduceMul, Nat.reduceLeDiff, Nat.reduceLT, Int.reduceNeg, Int.reduceToNat, Int.reduceLT, Int.reduceLE, Int.reduceEq, Int.reduceAdd, Int.reduceSub, reduceCtorEq, List.cons.injEq, and_true, true_and] at hu
    try simp (config := {maxSteps := 10000000}) (disch := first | assumption | omega) only [go_sem, ↓reduceIte, Nat.reduceEqDiff, Nat.reduceAdd, Nat.reduceSub, Nat.reduceMul, Nat.reduceLeDiff, Nat.reduceLT, Int.reduceNeg, Int.reduceToNat, Int.reduceLT, Int.reduceLE, Int.reduceEq, Int.reduceAdd, Int.reduceSub, reduceCtorEq, List.cons.injEq, and_true, true_and] at he
    obtain ⟨hij, hf⟩ := hR0
    by_cases hi : i < o.length
    · rw [List.drop_eq_getElem_cons hi, List.all_cons] at hf
      repeat' (first | simp (config := {contextual := true, maxSteps := 10000000}) (disch := first | assumption | omega) only [go_sem, Tryd.f37, ↓reduceIte, Nat.reduceEqDiff, Nat.reduceAdd, Nat.reduceSub, Nat.reduceMul, Nat.reduceLeDiff, Nat.reduceLT, Int.reduceNeg, Int.reduceToNat, Int.reduceLT, Int.reduceLE, Int.reduceEq, Int.reduceAdd, Int.reduceSub, reduceCtorEq, Int.ofNat_lt, *] | intro _ | refine contC_split ?_ ?_ | refine contG_split ?_ ?_)
      all_goals first
        | (refine hLp.out (j - 1) _ _ (by omega) ⟨i + 1, ⟨by omega, ?_⟩, ?_⟩ <;> first | rfl | omega | (grind))
        | (have hR2 : R = _ := hR; subst hR2; grind [oidOk])
    · repeat' (first | simp (config := {contextual := true, maxSteps := 10000000}) (disch := first | assumption | omega) only [go_sem, Tryd.f37, ↓reduceIte, Nat.reduceEqDiff, Nat.reduceAdd, Nat.reduceSub, Nat.reduceMul, Nat.reduceLeDiff, Nat.reduceLT, Int.reduceNeg, Int.reduceToNat, Int.reduceLT, Int.reduceLE, Int.reduceEq, Int.reduceAdd, Int.reduceSub, reduceCtorEq, Int.ofNat_lt, *] | intro _ | refine contC_split ?_ ?_ | refine contG_split ?_ ?_)
      all_goals (have hR2 : R = _ := hR; subst hR2)
      have : i = o.length := by omega
      subst this
      simp at hf
      grind [oidOk]
@[go_sem] theorem impl_SameOid_run (n : Nat) (a b : List Int) (hl : a.length ≤ 140737488355328) : Pn (n+1) 46 [.one (.sl 1 (a.map intC)), .one (.sl 1 (b.map intC))] = some (.bool (decide (a = b))) := by
  refine fnP rfl Tryd.func46 (by kernel_rfl) rfl (fun R hR => ?_)
  by_cases hab : a.length = b.length
  · repeat' (first | simp (config := {contextual := true, maxSteps := 10000000}) (disch := first | assumption | omega) only [go_sem, Tryd.f46, ↓reduceIte, Nat.reduceEqDiff, Nat.reduceAdd, Nat.reduceSub, Nat.reduceMul, Nat.reduceLeDiff, Nat.reduceLT, Int.reduceNeg, Int.reduceToNat, Int.reduceLT, Int.reduceLE, Int.reduceEq, Int.reduceAdd, Int.reduceSub, reduceCtorEq, *] | intro _ | refine contC_split ?_ ?_ | refine contG_split ?_ ?_)
    refine wp_loopF [0, 1, 12] [13] (fun j vs hp => ∃ (i : Nat), (i + j = a.length ∧ (a.drop i = b.drop i ↔ a = b)) ∧ vs = [.i64 i]) (a.length) (by unfold NN; omega) (by decide) ?_ ?_
    · refine ⟨0, ?_, ?_⟩
      all_goals try (simp (config := {maxSteps := 10000000}) (disch := first | assumption | omega) only [go_sem, ↓reduceIte, Nat.reduceEqDiff, Nat.reduceAdd, Nat.reduceSub, Nat.reduceMul, Nat.reduceLeDiff, Nat.reduceLT, Int.reduceNeg, Int.reduceToNat, Int.reduceLT, Int.reduceLE, Int.reduceEq, Int.reduceAdd, Int.reduceSub, reduceCtorEq, List.cons.injEq, *])
      all_goals try (first | done | omega | (simp (disch := omega) [upd]; done) | (simp (disch := omega) [upd]; omega))
    · intro j env' hat hnx hj hu hI Lp hLp
      obtain ⟨i, hR0, he⟩ := hI
      try simp (config := {maxSteps := 10000000}) (disch := first | assumption | omega) only [go_sem, ↓reduceIte, Nat.reduceEqDiff, Nat.reduceAdd, Nat.reduceSub, Nat.reduceMul, Nat.reduceLeDiff, Nat.reduceLT, Int.reduceNeg, Int.reduceToNat, Int.reduceLT, Int.reduceLE, Int.reduceEq, Int.reduceAdd, Int.reduceSub, reduceCtorEq, List.cons.injEq, and_true, true_and] at hu
      try simp (config := {maxSteps := 10000000}) (disch := first | assumption | omega) only [go_sem, ↓reduceIte, Nat.reduceEqDiff, Nat.reduceAdd, Nat.reduceSub, Nat.reduceMul, Nat.reduceLeDiff, Nat.reduceLT, Int.reduceNeg, Int.reduceToNat, Int.reduceLT, Int.reduceLE, Int.reduceEq, Int.reduceAdd, Int.reduceSub, reduceCtorEq, List.cons.injEq, and_true, true_and] at he
      obtain ⟨hij, hf⟩ := hR0
      by_cases hi : i < a.length
      · have hib : i < b.length := by omega
        rw [List.drop_eq_getElem_cons hi, List.drop_eq_getElem_cons hib, List.cons.injEq] at hf
        repeat' (first | simp (config := {contextual := true, maxSteps := 10000000}) (disch := first | assumption | omega) only [go_sem, Tryd.f46, ↓reduceIte, Nat.reduceEqDiff, Nat.reduceAdd, Nat.reduceSub, Nat.reduceMul, Nat.reduceLeDiff, Nat.reduceLT, Int.reduceNeg, Int.reduceToNat, Int.reduceLT, Int.reduceLE, Int.reduceEq, Int.reduceAdd, Int.reduceSub, reduceCtorEq, Int.ofNat_lt, *] | intro _ | refine contC_split ?_ ?_ | refine contG_split ?_ ?_)
        all_goals first
          | (refine hLp.out (j - 1) _ _ (by omega) ⟨i + 1, ⟨by omega, ?_⟩, ?_⟩ <;> first | rfl | omega | (grind))
          | (have hR2 : R = _ := hR; subst hR2; grind)
      · have hib : ¬ i < b.length := by omega
        repeat' (first | simp (config := {contextual := true, maxSteps := 10000000}) (disch := first | assumption | omega) only [go_sem, Tryd.f46, ↓reduceIte, Nat.reduceEqDiff, Nat.reduceAdd, Nat.reduceSub, Nat.reduceMul, Nat.reduceLeDiff, Nat.reduceLT, Int.reduceNeg, Int.reduceToNat, Int.reduceLT, Int.reduceLE, Int.reduceEq, Int.reduceAdd, Int.reduceSub, reduceCtorEq, Int.ofNat_lt, *] | intro _ | refine contC_split ?_ ?_ | refine contG_split ?_ ?_)
        all_goals (have hR2 : R = _ := hR; subst hR2)
        have : i = a.length := by omega
        subst this
        simp [hab] at hf
        grind
  · have hne : a ≠ b := fun h => hab (by rw [h])
    repeat' (first | simp (config := {contextual := true, maxSteps := 10000000}) (disch := first | assumption | omega) only [go_sem, Tryd.f46, ↓reduceIte, Nat.reduceEqDiff, Nat.reduceAdd, Nat.reduceSub, Nat.reduceMul, Nat.reduceLeDiff, Nat.reduceLT, Int.reduceNeg, Int.reduceToNat, Int.reduceLT, Int.reduceLE, Int.reduceEq, Int.reduceAdd, Int.reduceSub, reduceCtorEq, *] | intro _ | refine contC_split ?_ ?_ | refine contG_split ?_ ?_)
    all_goals (have hR2 : R = _ := hR; subst hR2)
    all_goals grind
@[go_sem] theorem SameVal_run (n : Nat) (a_k : Int) (a_n : Int) (a_s : ByteArray) (a_o : List Int) (b_k : Int) (b_n : Int) (b_s : ByteArray) (b_o : List Int) (hl : a_o.length ≤ 140737488355328) : Pn (n+2) 40 [.agg [.lit (.int .i64 a_k), .lit (.int .i64 a_n), .lit (.string a_s), .sl 1 (a_o.map intC)], .agg [.lit (.int .i64 b_k), .lit (.int .i64 b_n), .lit (.string b_s), .sl 1 (b_o.map intC)]] = some (.bool (decide (a_k = b_k) && decide (a_n = b_n) && decide (a_s = b_s) && decide (a_o = b_o))) := by
  refine fnP rfl Tryd.func40 (by kernel_rfl) rfl (fun R hR => ?_)
  repeat' (first | simp (config := {contextual := true, maxSteps := 10000000}) (disch := first | assumption | omega) only [go_sem, Tryd.f40, ↓reduceIte, Nat.reduceEqDiff, Nat.reduceAdd, Nat.reduceSub, Nat.reduceMul, Nat.reduceLeDiff, Nat.reduceLT, Int.reduceNeg, Int.reduceToNat, Int.reduceLT, Int.reduceLE, Int.reduceEq, Int.reduceAdd, Int.reduceSub, reduceCtorEq, *] | intro _ | refine contC_split ?_ ?_ | refine contG_split ?_ ?_)
  all_goals (have hR2 : R = _ := hR; subst hR2)
  all_goals grind
@[go_sem] theorem SameVal_run0 (n : Nat) (a_k : Int) (a_n : Int) (a_s : ByteArray) (a_o : List Int) (b_k b_n : Int) (b_s : ByteArray) (hl : a_o.length ≤ 140737488355328) : Pn (n+2) 40 [.agg [.lit (.int .i64 a_k), .lit (.int .i64 a_n), .lit (.string a_s), .sl 1 (a_o.map intC)], .agg [.lit (.int .i64 b_k), .lit (.int .i64 b_n), .lit (.string b_s), .sl 1 []]] = some (.bool (decide (a_k = b_k) && decide (a_n = b_n) && decide (a_s = b_s) && decide (a_o = []))) :=
  SameVal_run n a_k a_n a_s a_o b_k b_n b_s [] hl
theorem sz0 {s : ByteArray} : s.size = 0 ↔ s = ⟨#[]⟩ := by
  constructor
  · intro h
    cases s with
    | mk d => 
      have : d = #[] := Array.eq_empty_of_size_eq_zero h
      rw [this]
  · intro h; rw [h]; rfl
@[go_sem] theorem impl_ValOk_run (n : Nat) (a_k : Int) (a_n : Int) (a_s : ByteArray) (a_o : List Int) (hl : a_o.length ≤ 140737488355328) : Pn (n+3) 26 [.agg [.lit (.int .i64 a_k), .lit (.int .i64 a_n), .lit (.string a_s), .sl 1 (a_o.map intC)]] = some (.bool (valOk ⟨a_k, a_n, a_s, a_o⟩)) := by
  refine fnP rfl Tryd.func26 (by kernel_rfl) rfl (fun R hR => ?_)
  repeat' (first | simp (config := {contextual := true, maxSteps := 10000000}) (disch := first | assumption | omega) only [go_sem, Tryd.f26, ↓reduceIte, Nat.reduceEqDiff, Nat.reduceAdd, Nat.reduceSub, Nat.reduceMul, Nat.reduceLeDiff, Nat.reduceLT, Int.reduceNeg, Int.reduceToNat, Int.reduceLT, Int.reduceLE, Int.reduceEq, Int.reduceAdd, Int.reduceSub, reduceCtorEq, *] | intro _ | refine contC_split ?_ ?_ | refine contG_split ?_ ?_)
  all_goals (have hR2 : R = _ := hR; subst hR2)
  all_goals grind [valOk]
@[go_sem] theorem spec_ValOk_run (n : Nat) (a_k : Int) (a_n : Int) (a_s : ByteArray) (a_o : List Int) (hl : a_o.length ≤ 140737488355328) : Pn (n+3) 22 [.agg [.lit (.int .i64 a_k), .lit (.int .i64 a_n), .lit (.string a_s), .sl 1 (a_o.map intC)]] = some (.bool (valOk ⟨a_k, a_n, a_s, a_o⟩)) := by
  have hc := clip_eq a_n
  have ho : decide ((a_o.length : Int) = 0) = decide (a_o = []) := by cases a_o <;> simp <;> omega
  refine fnP rfl Tryd.func22 (by kernel_rfl) rfl (fun R hR => ?_)
  repeat' (first | simp (config := {contextual := true, maxSteps := 10000000}) (disch := first | assumption | omega) only [go_sem, Tryd.f22, ↓reduceIte, Nat.reduceEqDiff, Nat.reduceAdd, Nat.reduceSub, Nat.reduceMul, Nat.reduceLeDiff, Nat.reduceLT, Int.reduceNeg, Int.reduceToNat, Int.reduceLT, Int.reduceLE, Int.reduceEq, Int.reduceAdd, Int.reduceSub, reduceCtorEq, *] | intro _ | refine contC_split ?_ ?_ | refine contG_split ?_ ?_)
  all_goals (have hR2 : R = _ := hR; subst hR2)
  all_goals grind [valOk]
end Go.Ev.D
