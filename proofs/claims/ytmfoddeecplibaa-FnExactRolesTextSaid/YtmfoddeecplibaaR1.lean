/- What the program's functions of vectors and ports answer. -/
import Derived.Test.YtmfoddeecplibaaR0
import Derived.Test.YtmfoddeecplibaaM1
set_option maxRecDepth 100000
set_option maxHeartbeats 4000000
set_option linter.unusedVariables false
set_option linter.unusedSimpArgs false
namespace Go.Ev.R
open Go Go.Ev Go.Proofs
@[go_sem] theorem impl_in_run (n : Nat) (a b c : Int) : Pn (n+1) 31 [.i64 a, .i64 b, .i64 c] = some (.bool (inR a b c)) := by
  refine fnP rfl Try.func31 (by kernel_rfl) rfl (fun R hR => ?_)
  repeat' (first | simp (config := {contextual := true, maxSteps := 10000000}) (disch := first | assumption | omega) only [go_sem, Try.f31, ↓reduceIte, Nat.reduceEqDiff, Nat.reduceAdd, Nat.reduceSub, Nat.reduceMul, Nat.reduceLeDiff, Nat.reduceLT, Int.reduceNeg, Int.reduceToNat, Int.reduceLT, Int.reduceLE, Int.reduceEq, Int.reduceAdd, Int.reduceSub, reduceCtorEq, *] | intro _ | refine contC_split ?_ ?_ | refine contG_split ?_ ?_)
  all_goals (have hR2 : R = _ := hR; subst hR2)
  all_goals (simp [inR, *] <;> omega)
@[go_sem] theorem spec_l1In_run (n : Nat) (a b c : Int) : Pn (n+1) 23 [.i64 a, .i64 b, .i64 c] = some (.bool (inR a b c)) := by
  refine fnP rfl Try.func23 (by kernel_rfl) rfl (fun R hR => ?_)
  repeat' (first | simp (config := {contextual := true, maxSteps := 10000000}) (disch := first | assumption | omega) only [go_sem, Try.f23, ↓reduceIte, Nat.reduceEqDiff, Nat.reduceAdd, Nat.reduceSub, Nat.reduceMul, Nat.reduceLeDiff, Nat.reduceLT, Int.reduceNeg, Int.reduceToNat, Int.reduceLT, Int.reduceLE, Int.reduceEq, Int.reduceAdd, Int.reduceSub, reduceCtorEq, *] | intro _ | refine contC_split ?_ ?_ | refine contG_split ?_ ?_)
  all_goals (have hR2 : R = _ := hR; subst hR2)
  all_goals (simp [inR, *] <;> omega)
@[go_sem] theorem impl_LessVec_run (n : Nat) (a_root : Int) (a_cost : Int) (a_hops : Int) (a_bridge : Int) (a_port : Int) (b_root : Int) (b_cost : Int) (b_hops : Int) (b_bridge : Int) (b_port : Int) : Pn (n+1) 33 [.agg [.lit (.int .i64 a_root), .lit (.int .i64 a_cost), .lit (.int .i64 a_hops), .lit (.int .i64 a_bridge), .lit (.int .i64 a_port)], .agg [.lit (.int .i64 b_root), .lit (.int .i64 b_cost), .lit (.int .i64 b_hops), .lit (.int .i64 b_bridge), .lit (.int .i64 b_port)]] = some (.bool (lessVec ⟨a_root, a_cost, a_hops, a_bridge, a_port⟩ ⟨b_root, b_cost, b_hops, b_bridge, b_port⟩)) := by
  refine fnP rfl Try.func33 (by kernel_rfl) rfl (fun R hR => ?_)
  repeat' (first | simp (config := {contextual := true, maxSteps := 10000000}) (disch := first | assumption | omega) only [go_sem, Try.f33, ↓reduceIte, Nat.reduceEqDiff, Nat.reduceAdd, Nat.reduceSub, Nat.reduceMul, Nat.reduceLeDiff, Nat.reduceLT, Int.reduceNeg, Int.reduceToNat, Int.reduceLT, Int.reduceLE, Int.reduceEq, Int.reduceAdd, Int.reduceSub, reduceCtorEq, *] | intro _ | refine contC_split ?_ ?_ | refine contG_split ?_ ?_)
  all_goals (have hR2 : R = _ := hR; subst hR2)
  all_goals grind [lessVec]
@[go_sem] theorem impl_VecOk_run (n : Nat) (a_root : Int) (a_cost : Int) (a_hops : Int) (a_bridge : Int) (a_port : Int) : Pn (n+2) 51 [.agg [.lit (.int .i64 a_root), .lit (.int .i64 a_cost), .lit (.int .i64 a_hops), .lit (.int .i64 a_bridge), .lit (.int .i64 a_port)]] = some (.bool (vecOk ⟨a_root, a_cost, a_hops, a_bridge, a_port⟩)) := by
  refine fnP rfl Try.func51 (by kernel_rfl) rfl (fun R hR => ?_)
  repeat' (first | simp (config := {contextual := true, maxSteps := 10000000}) (disch := first | assumption | omega) only [go_sem, Try.f51, ↓reduceIte, Nat.reduceEqDiff, Nat.reduceAdd, Nat.reduceSub, Nat.reduceMul, Nat.reduceLeDiff, Nat.reduceLT, Int.reduceNeg, Int.reduceToNat, Int.reduceLT, Int.reduceLE, Int.reduceEq, Int.reduceAdd, Int.reduceSub, reduceCtorEq, *] | intro _ | refine contC_split ?_ ?_ | refine contG_split ?_ ?_)
  all_goals (have hR2 : R = _ := hR; subst hR2)
  all_goals grind [vecOk]
@[go_sem] theorem impl_StepVec_run (n : Nat) (a_root : Int) (a_cost : Int) (a_hops : Int) (a_bridge : Int) (a_port : Int) (c : Int) : Pn (n+3) 45 [.agg [.lit (.int .i64 a_root), .lit (.int .i64 a_cost), .lit (.int .i64 a_hops), .lit (.int .i64 a_bridge), .lit (.int .i64 a_port)], .i64 c] = some (.tup [.agg (stepVec ⟨a_root, a_cost, a_hops, a_bridge, a_port⟩ c).1.cs, .bool (stepVec ⟨a_root, a_cost, a_hops, a_bridge, a_port⟩ c).2]) := by
  refine fnP rfl Try.func45 (by kernel_rfl) rfl (fun R hR => ?_)
  repeat' (first | simp (config := {contextual := true, maxSteps := 10000000}) (disch := first | assumption | omega) only [go_sem, Try.f45, ↓reduceIte, Nat.reduceEqDiff, Nat.reduceAdd, Nat.reduceSub, Nat.reduceMul, Nat.reduceLeDiff, Nat.reduceLT, Int.reduceNeg, Int.reduceToNat, Int.reduceLT, Int.reduceLE, Int.reduceEq, Int.reduceAdd, Int.reduceSub, reduceCtorEq, *] | intro _ | refine contC_split ?_ ?_ | refine contG_split ?_ ?_)
  all_goals (have hR2 : R = _ := hR; subst hR2)
  all_goals grind [stepVec, Vec.cs]
@[go_sem] theorem spec_LessVec_run (n : Nat) (a_root : Int) (a_cost : Int) (a_hops : Int) (a_bridge : Int) (a_port : Int) (b_root : Int) (b_cost : Int) (b_hops : Int) (b_bridge : Int) (b_port : Int) : Pn (n+1) 25 [.agg [.lit (.int .i64 a_root), .lit (.int .i64 a_cost), .lit (.int .i64 a_hops), .lit (.int .i64 a_bridge), .lit (.int .i64 a_port)], .agg [.lit (.int .i64 b_root), .lit (.int .i64 b_cost), .lit (.int .i64 b_hops), .lit (.int .i64 b_bridge), .lit (.int .i64 b_port)]] = some (.bool (lessVec ⟨a_root, a_cost, a_hops, a_bridge, a_port⟩ ⟨b_root, b_cost, b_hops, b_bridge, b_port⟩)) := by
  refine fnP rfl Try.func25 (by kernel_rfl) rfl (fun R hR => ?_)
  repeat' (first | simp (config := {contextual := true, maxSteps := 10000000}) (disch := first | assumption | omega) only [go_sem, Try.f25, ↓reduceIte, Nat.reduceEqDiff, Nat.reduceAdd, Nat.reduceSub, Nat.reduceMul, Nat.reduceLeDiff, Nat.reduceLT, Int.reduceNeg, Int.reduceToNat, Int.reduceLT, Int.reduceLE, Int.reduceEq, Int.reduceAdd, Int.reduceSub, reduceCtorEq, *] | intro _ | refine contC_split ?_ ?_ | refine contG_split ?_ ?_)
  all_goals (have hR2 : R = _ := hR; subst hR2)
  all_goals grind [lessVec]
@[go_sem] theorem spec_VecOk_run (n : Nat) (a_root : Int) (a_cost : Int) (a_hops : Int) (a_bridge : Int) (a_port : Int) : Pn (n+2) 50 [.agg [.lit (.int .i64 a_root), .lit (.int .i64 a_cost), .lit (.int .i64 a_hops), .lit (.int .i64 a_bridge), .lit (.int .i64 a_port)]] = some (.bool (vecOk ⟨a_root, a_cost, a_hops, a_bridge, a_port⟩)) := by
  refine fnP rfl Try.func50 (by kernel_rfl) rfl (fun R hR => ?_)
  repeat' (first | simp (config := {contextual := true, maxSteps := 10000000}) (disch := first | assumption | omega) only [go_sem, Try.f50, ↓reduceIte, Nat.reduceEqDiff, Nat.reduceAdd, Nat.reduceSub, Nat.reduceMul, Nat.reduceLeDiff, Nat.reduceLT, Int.reduceNeg, Int.reduceToNat, Int.reduceLT, Int.reduceLE, Int.reduceEq, Int.reduceAdd, Int.reduceSub, reduceCtorEq, *] | intro _ | refine contC_split ?_ ?_ | refine contG_split ?_ ?_)
  all_goals (have hR2 : R = _ := hR; subst hR2)
  all_goals grind [vecOk]
@[go_sem] theorem spec_StepVec_run (n : Nat) (a_root : Int) (a_cost : Int) (a_hops : Int) (a_bridge : Int) (a_port : Int) (c : Int) : Pn (n+3) 42 [.agg [.lit (.int .i64 a_root), .lit (.int .i64 a_cost), .lit (.int .i64 a_hops), .lit (.int .i64 a_bridge), .lit (.int .i64 a_port)], .i64 c] = some (.tup [.agg (stepVec ⟨a_root, a_cost, a_hops, a_bridge, a_port⟩ c).1.cs, .bool (stepVec ⟨a_root, a_cost, a_hops, a_bridge, a_port⟩ c).2]) := by
  refine fnP rfl Try.func42 (by kernel_rfl) rfl (fun R hR => ?_)
  repeat' (first | simp (config := {contextual := true, maxSteps := 10000000}) (disch := first | assumption | omega) only [go_sem, Try.f42, ↓reduceIte, Nat.reduceEqDiff, Nat.reduceAdd, Nat.reduceSub, Nat.reduceMul, Nat.reduceLeDiff, Nat.reduceLT, Int.reduceNeg, Int.reduceToNat, Int.reduceLT, Int.reduceLE, Int.reduceEq, Int.reduceAdd, Int.reduceSub, reduceCtorEq, *] | intro _ | refine contC_split ?_ ?_ | refine contG_split ?_ ?_)
  all_goals (have hR2 : R = _ := hR; subst hR2)
  all_goals grind [stepVec, Vec.cs]
@[go_sem] theorem impl_BestVec_run (n : Nat) (id : Int) (l : List Pt) (hl : l.length ≤ 1048576) : Pn (n+4) 32 [.i64 id, .one (.sl 8 (l.map Pt.cs))] = some (.tup [.agg (bestVec id l).1.cs, .i64 (bestVec id l).2]) := by
  refine fnP rfl Try.func32 (by kernel_rfl) rfl (fun R hR => ?_)
  repeat' (first | simp (config := {contextual := true, maxSteps := 10000000}) (disch := first | assumption | omega) only [go_sem, Try.f32, ↓reduceIte, Nat.reduceEqDiff, Nat.reduceAdd, Nat.reduceSub, Nat.reduceMul, Nat.reduceLeDiff, Nat.reduceLT, Int.reduceNeg, Int.reduceToNat, Int.reduceLT, Int.reduceLE, Int.reduceEq, Int.reduceAdd, Int.reduceSub, reduceCtorEq, *] | intro _ | refine contC_split ?_ ?_ | refine contG_split ?_ ?_)
  refine wp_loop [0, 4, 6, 7, 8, 16, 17, 18] (fun j vs hp => ∃ (i : Nat) (s : Vec × Vec × Int), i + j = l.length ∧ bestFold id (l.drop i) i s = bestFold id l 0 (⟨id, 0, 0, id, 0⟩, ⟨0, 0, 0, 0, 0⟩, -1) ∧
    vs = [.i64 id, .one (.ptr 5 0 0 0), .one (.ptr 5 1 0 0), .i64 s.2.2, .one (.ptr 5 2 0 0), .one (.sl 8 (l.map Pt.cs)), .i64 l.length, .i64 i] ∧
    hp.at_ 0 = some ⟨5, [Vec.cs ⟨0, 0, 0, 0, 0⟩]⟩ ∧ hp.at_ 1 = some ⟨5, [s.1.cs]⟩ ∧ hp.at_ 2 = some ⟨5, [s.2.1.cs]⟩ ∧ 3 ≤ hp.next) l.length (by unfold NN; omega) ?_ ?_
  · refine ⟨0, (⟨id, 0, 0, id, 0⟩, ⟨0, 0, 0, 0, 0⟩, -1), by omega, rfl, ?_⟩
    repeat' (first | simp (config := {contextual := true, maxSteps := 10000000}) (disch := first | assumption | omega) only [go_sem, Try.f32, ↓reduceIte, Nat.reduceEqDiff, Nat.reduceAdd, Nat.reduceSub, Nat.reduceMul, Nat.reduceLeDiff, Nat.reduceLT, Int.reduceNeg, Int.reduceToNat, Int.reduceLT, Int.reduceLE, Int.reduceEq, Int.reduceAdd, Int.reduceSub, reduceCtorEq, *] | intro _ | refine contC_split ?_ ?_ | refine contG_split ?_ ?_)
    simp
  · intro j env a m hj hI Lp hLp
    obtain ⟨i, s, hij, hf, he, a0, a1, a2, hm⟩ := hI
    simp only [vals_cons, vals_nil, List.cons.injEq, and_true] at he a0 a1 a2 hm
    obtain ⟨h0, h4, h6, h7, h8, h16, h17, h18⟩ := he
    by_cases hi : i < l.length
    · have hd : l.drop i = l[i] :: l.drop (i + 1) := List.drop_eq_getElem_cons hi
      rw [hd, bestFold] at hf
      clear hd
      repeat' (first | simp (config := {contextual := true, maxSteps := 10000000}) (disch := first | assumption | omega) only [go_sem, Try.f32, ↓reduceIte, Nat.reduceEqDiff, Nat.reduceAdd, Nat.reduceSub, Nat.reduceMul, Nat.reduceLeDiff, Nat.reduceLT, Int.reduceNeg, Int.reduceToNat, Int.reduceLT, Int.reduceLE, Int.reduceEq, Int.reduceAdd, Int.reduceSub, reduceCtorEq, h0, h4, h6, h7, h8, h16, h17, h18, a0, a1, a2, hi, ne_nat, Int.ofNat_lt, *] | intro _ | refine contC_split ?_ ?_ | refine contG_split ?_ ?_)
      all_goals refine hLp.out (j - 1) _ _ (by omega) ⟨i + 1, _, by omega, hf, ?_⟩
      all_goals simp (disch := omega) [upd, a0, a1, a2, Vec.cs, ne_nat]
      all_goals try omega
      all_goals grind [bestStep]
    · repeat' (first | simp (config := {contextual := true, maxSteps := 10000000}) (disch := first | assumption | omega) only [go_sem, Try.f32, ↓reduceIte, Nat.reduceEqDiff, Nat.reduceAdd, Nat.reduceSub, Nat.reduceMul, Nat.reduceLeDiff, Nat.reduceLT, Int.reduceNeg, Int.reduceToNat, Int.reduceLT, Int.reduceLE, Int.reduceEq, Int.reduceAdd, Int.reduceSub, reduceCtorEq, h0, h4, h6, h7, h8, h16, h17, h18, a0, a1, a2, hi, ne_nat, Int.ofNat_lt, *] | intro _ | refine contC_split ?_ ?_ | refine contG_split ?_ ?_)
      have hi' : i = l.length := by omega
      subst hi'
      rw [List.drop_length, bestFold] at hf
      subst hf
      exact hR.out.symm
@[go_sem] theorem spec_BestVec_run (n : Nat) (id : Int) (l : List Pt) (hl : l.length ≤ 1048576) : Pn (n+4) 24 [.i64 id, .one (.sl 8 (l.map Pt.cs))] = some (.tup [.agg (bestVec id l).1.cs, .i64 (bestVec id l).2]) := by
  refine fnP rfl Try.func24 (by kernel_rfl) rfl (fun R hR => ?_)
  repeat' (first | simp (config := {contextual := true, maxSteps := 10000000}) (disch := first | assumption | omega) only [go_sem, Try.f24, ↓reduceIte, Nat.reduceEqDiff, Nat.reduceAdd, Nat.reduceSub, Nat.reduceMul, Nat.reduceLeDiff, Nat.reduceLT, Int.reduceNeg, Int.reduceToNat, Int.reduceLT, Int.reduceLE, Int.reduceEq, Int.reduceAdd, Int.reduceSub, reduceCtorEq, *] | intro _ | refine contC_split ?_ ?_ | refine contG_split ?_ ?_)
  refine wp_loop [0, 1, 4, 6, 7, 8, 9] (fun j vs hp => ∃ (i : Nat) (s : Vec × Vec × Int), i + j = l.length ∧ bestFold id (l.drop i) i s = bestFold id l 0 (⟨id, 0, 0, id, 0⟩, ⟨0, 0, 0, 0, 0⟩, -1) ∧
    vs = [.i64 id, .one (.sl 8 (l.map Pt.cs)), .one (.ptr 5 0 0 0), .one (.ptr 5 1 0 0), .one (.ptr 5 2 0 0), .i64 s.2.2, .i64 i] ∧
    hp.at_ 0 = some ⟨5, [Vec.cs ⟨0, 0, 0, 0, 0⟩]⟩ ∧ hp.at_ 1 = some ⟨5, [s.1.cs]⟩ ∧ hp.at_ 2 = some ⟨5, [s.2.1.cs]⟩ ∧ 3 ≤ hp.next) l.length (by unfold NN; omega) ?_ ?_
  · refine ⟨0, (⟨id, 0, 0, id, 0⟩, ⟨0, 0, 0, 0, 0⟩, -1), by omega, rfl, ?_⟩
    repeat' (first | simp (config := {contextual := true, maxSteps := 10000000}) (disch := first | assumption | omega) only [go_sem, Try.f24, ↓reduceIte, Nat.reduceEqDiff, Nat.reduceAdd, Nat.reduceSub, Nat.reduceMul, Nat.reduceLeDiff, Nat.reduceLT, Int.reduceNeg, Int.reduceToNat, Int.reduceLT, Int.reduceLE, Int.reduceEq, Int.reduceAdd, Int.reduceSub, reduceCtorEq, *] | intro _ | refine contC_split ?_ ?_ | refine contG_split ?_ ?_)
    simp
  · intro j env a m hj hI Lp hLp
    obtain ⟨i, s, hij, hf, he, a0, a1, a2, hm⟩ := hI
    simp only [vals_cons, vals_nil, List.cons.injEq, and_true] at he a0 a1 a2 hm
    obtain ⟨h0, h1, h4, h6, h7, h8, h9⟩ := he
    by_cases hi : i < l.length
    · have hd : l.drop i = l[i] :: l.drop (i + 1) := List.drop_eq_getElem_cons hi
      rw [hd, bestFold] at hf
      clear hd
      repeat' (first | simp (config := {contextual := true, maxSteps := 10000000}) (disch := first | assumption | omega) only [go_sem, Try.f24, ↓reduceIte, Nat.reduceEqDiff, Nat.reduceAdd, Nat.reduceSub, Nat.reduceMul, Nat.reduceLeDiff, Nat.reduceLT, Int.reduceNeg, Int.reduceToNat, Int.reduceLT, Int.reduceLE, Int.reduceEq, Int.reduceAdd, Int.reduceSub, reduceCtorEq, h0, h1, h4, h6, h7, h8, h9, a0, a1, a2, hi, ne_nat, Int.ofNat_lt, *] | intro _ | refine contC_split ?_ ?_ | refine contG_split ?_ ?_)
      all_goals refine hLp.out (j - 1) _ _ (by omega) ⟨i + 1, _, by omega, hf, ?_⟩
      all_goals simp (disch := omega) [upd, a0, a1, a2, Vec.cs, ne_nat]
      all_goals try omega
      all_goals grind [bestStep]
    · repeat' (first | simp (config := {contextual := true, maxSteps := 10000000}) (disch := first | assumption | omega) only [go_sem, Try.f24, ↓reduceIte, Nat.reduceEqDiff, Nat.reduceAdd, Nat.reduceSub, Nat.reduceMul, Nat.reduceLeDiff, Nat.reduceLT, Int.reduceNeg, Int.reduceToNat, Int.reduceLT, Int.reduceLE, Int.reduceEq, Int.reduceAdd, Int.reduceSub, reduceCtorEq, h0, h1, h4, h6, h7, h8, h9, a0, a1, a2, hi, ne_nat, Int.ofNat_lt, *] | intro _ | refine contC_split ?_ ?_ | refine contG_split ?_ ?_)
      have hi' : i = l.length := by omega
      subst hi'
      rw [List.drop_length, bestFold] at hf
      subst hf
      exact hR.out.symm
@[go_sem] theorem impl_SayVec_run (n : Nat) (id : Int) (l : List Pt) (port : Int) (hl : l.length ≤ 1048576) : Pn (n+5) 34 [.i64 id, .one (.sl 8 (l.map Pt.cs)), .i64 port] = some (.agg (sayVec id l port).cs) := by
  refine fnP rfl Try.func34 (by kernel_rfl) rfl (fun R hR => ?_)
  repeat' (first | simp (config := {contextual := true, maxSteps := 10000000}) (disch := first | assumption | omega) only [go_sem, Try.f34, ↓reduceIte, Nat.reduceEqDiff, Nat.reduceAdd, Nat.reduceSub, Nat.reduceMul, Nat.reduceLeDiff, Nat.reduceLT, Int.reduceNeg, Int.reduceToNat, Int.reduceLT, Int.reduceLE, Int.reduceEq, Int.reduceAdd, Int.reduceSub, reduceCtorEq, *] | intro _ | refine contC_split ?_ ?_ | refine contG_split ?_ ?_)
  all_goals (have hR2 : R = _ := hR; subst hR2)
  simp [sayVec, Vec.cs]
@[go_sem] theorem impl_RoleOf_run (n : Nat) (id : Int) (l : List Pt) (port : Int) (hl : l.length ≤ 1048576) : Pn (n+6) 16 [.i64 id, .one (.sl 8 (l.map Pt.cs)), .i64 port] = some (.i64 (roleOf id l port)) := by
  refine fnP rfl Try.func16 (by kernel_rfl) rfl (fun R hR => ?_)
  by_cases hp : 0 ≤ port ∧ port < l.length
  · obtain ⟨i, rfl⟩ := Int.eq_ofNat_of_zero_le hp.1
    have hi : i < l.length := by omega
    have hin : inR (i : Int) 0 ((l.length : Int) - 1) = true := by simp [inR]; omega
    repeat' (first | simp (config := {contextual := true, maxSteps := 10000000}) (disch := first | assumption | omega) only [go_sem, Try.f16, ↓reduceIte, Nat.reduceEqDiff, Nat.reduceAdd, Nat.reduceSub, Nat.reduceMul, Nat.reduceLeDiff, Nat.reduceLT, Int.reduceNeg, Int.reduceToNat, Int.reduceLT, Int.reduceLE, Int.reduceEq, Int.reduceAdd, Int.reduceSub, reduceCtorEq, hin, hi, *] | intro _ | refine contC_split ?_ ?_ | refine contG_split ?_ ?_)
    all_goals (have hR2 : R = _ := hR; subst hR2)
    all_goals grind [roleOf, sayVec]
  · have hin : inR port 0 ((l.length : Int) - 1) = false := by simp [inR]; omega
    repeat' (first | simp (config := {contextual := true, maxSteps := 10000000}) (disch := first | assumption | omega) only [go_sem, Try.f16, ↓reduceIte, Nat.reduceEqDiff, Nat.reduceAdd, Nat.reduceSub, Nat.reduceMul, Nat.reduceLeDiff, Nat.reduceLT, Int.reduceNeg, Int.reduceToNat, Int.reduceLT, Int.reduceLE, Int.reduceEq, Int.reduceAdd, Int.reduceSub, reduceCtorEq, hin, *] | intro _ | refine contC_split ?_ ?_ | refine contG_split ?_ ?_)
    all_goals (have hR2 : R = _ := hR; subst hR2)
    simp [roleOf, hin]
@[go_sem] theorem spec_SayVec_run (n : Nat) (id : Int) (l : List Pt) (port : Int) (hl : l.length ≤ 1048576) : Pn (n+5) 26 [.i64 id, .one (.sl 8 (l.map Pt.cs)), .i64 port] = some (.agg (sayVec id l port).cs) := by
  refine fnP rfl Try.func26 (by kernel_rfl) rfl (fun R hR => ?_)
  repeat' (first | simp (config := {contextual := true, maxSteps := 10000000}) (disch := first | assumption | omega) only [go_sem, Try.f26, ↓reduceIte, Nat.reduceEqDiff, Nat.reduceAdd, Nat.reduceSub, Nat.reduceMul, Nat.reduceLeDiff, Nat.reduceLT, Int.reduceNeg, Int.reduceToNat, Int.reduceLT, Int.reduceLE, Int.reduceEq, Int.reduceAdd, Int.reduceSub, reduceCtorEq, *] | intro _ | refine contC_split ?_ ?_ | refine contG_split ?_ ?_)
  all_goals (have hR2 : R = _ := hR; subst hR2)
  simp [sayVec, Vec.cs]
@[go_sem] theorem spec_RoleOf_run (n : Nat) (id : Int) (l : List Pt) (port : Int) (hl : l.length ≤ 1048576) : Pn (n+6) 12 [.i64 id, .one (.sl 8 (l.map Pt.cs)), .i64 port] = some (.i64 (roleOf id l port)) := by
  refine fnP rfl Try.func12 (by kernel_rfl) rfl (fun R hR => ?_)
  by_cases hp : 0 ≤ port ∧ port < l.length
  · obtain ⟨i, rfl⟩ := Int.eq_ofNat_of_zero_le hp.1
    have hi : i < l.length := by omega
    have hin : inR (i : Int) 0 ((l.length : Int) - 1) = true := by simp [inR]; omega
    repeat' (first | simp (config := {contextual := true, maxSteps := 10000000}) (disch := first | assumption | omega) only [go_sem, Try.f12, ↓reduceIte, Nat.reduceEqDiff, Nat.reduceAdd, Nat.reduceSub, Nat.reduceMul, Nat.reduceLeDiff, Nat.reduceLT, Int.reduceNeg, Int.reduceToNat, Int.reduceLT, Int.reduceLE, Int.reduceEq, Int.reduceAdd, Int.reduceSub, reduceCtorEq, hin, hi, *] | intro _ | refine contC_split ?_ ?_ | refine contG_split ?_ ?_)
    all_goals (have hR2 : R = _ := hR; subst hR2)
    all_goals grind [roleOf, sayVec]
  · have hin : inR port 0 ((l.length : Int) - 1) = false := by simp [inR]; omega
    repeat' (first | simp (config := {contextual := true, maxSteps := 10000000}) (disch := first | assumption | omega) only [go_sem, Try.f12, ↓reduceIte, Nat.reduceEqDiff, Nat.reduceAdd, Nat.reduceSub, Nat.reduceMul, Nat.reduceLeDiff, Nat.reduceLT, Int.reduceNeg, Int.reduceToNat, Int.reduceLT, Int.reduceLE, Int.reduceEq, Int.reduceAdd, Int.reduceSub, reduceCtorEq, hin, *] | intro _ | refine contC_split ?_ ?_ | refine contG_split ?_ ?_)
    all_goals (have hR2 : R = _ := hR; subst hR2)
    simp [roleOf, hin]
end Go.Ev.R
