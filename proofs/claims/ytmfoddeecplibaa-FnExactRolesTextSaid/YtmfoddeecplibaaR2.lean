/- What the laws' own functions answer: sizes, copies, sameness. -/
import Derived.Test.YtmfoddeecplibaaR0
import Derived.Test.YtmfoddeecplibaaM2
set_option maxRecDepth 100000
set_option maxHeartbeats 4000000
set_option linter.unusedVariables false
set_option linter.unusedSimpArgs false
namespace Go.Ev.R
open Go Go.Ev Go.Proofs
@[go_sem] theorem laws_szPtS_run (n : Nat) (l : List Pt) (left : Int) (s : Nat) (h1 : -1 ≤ left) (h2 : left ≤ 1048576) (h3 : l.length ≤ 140737488355328) : Pn (n+1) 9 [.one (.sl s (l.map Pt.cs)), .i64 left] = some (.i64 (szL left l.length)) := by
  refine fnP rfl Try.func9 (by kernel_rfl) rfl (fun R hR => ?_)
  repeat' (first | simp (config := {contextual := true, maxSteps := 10000000}) (disch := first | assumption | omega) only [go_sem, Try.f9, ↓reduceIte, Nat.reduceEqDiff, Nat.reduceAdd, Nat.reduceSub, Nat.reduceMul, Nat.reduceLeDiff, Nat.reduceLT, Int.reduceNeg, Int.reduceToNat, Int.reduceLT, Int.reduceLE, Int.reduceEq, Int.reduceAdd, Int.reduceSub, reduceCtorEq, *] | intro _ | refine contC_split ?_ ?_ | refine contG_split ?_ ?_)
  all_goals (have hR2 : R = _ := hR; subst hR2)
  all_goals grind [szL]
@[go_sem] theorem laws_szFentS_run (n : Nat) (l : List Fent) (left : Int) (s : Nat) (h1 : -1 ≤ left) (h2 : left ≤ 1048576) (h3 : l.length ≤ 140737488355328) : Pn (n+1) 10 [.one (.sl s (l.map Fent.cs)), .i64 left] = some (.i64 (szL left l.length)) := by
  refine fnP rfl Try.func10 (by kernel_rfl) rfl (fun R hR => ?_)
  repeat' (first | simp (config := {contextual := true, maxSteps := 10000000}) (disch := first | assumption | omega) only [go_sem, Try.f10, ↓reduceIte, Nat.reduceEqDiff, Nat.reduceAdd, Nat.reduceSub, Nat.reduceMul, Nat.reduceLeDiff, Nat.reduceLT, Int.reduceNeg, Int.reduceToNat, Int.reduceLT, Int.reduceLE, Int.reduceEq, Int.reduceAdd, Int.reduceSub, reduceCtorEq, *] | intro _ | refine contC_split ?_ ?_ | refine contG_split ?_ ?_)
  all_goals (have hR2 : R = _ := hR; subst hR2)
  all_goals grind [szL]
@[go_sem] theorem laws_szVrowS_run (n : Nat) (l : List Vrow) (left : Int) (s : Nat) (h1 : -1 ≤ left) (h2 : left ≤ 1048576) (h3 : l.length ≤ 140737488355328) : Pn (n+1) 21 [.one (.sl s (l.map Vrow.cs)), .i64 left] = some (.i64 (szL left l.length)) := by
  refine fnP rfl Try.func21 (by kernel_rfl) rfl (fun R hR => ?_)
  repeat' (first | simp (config := {contextual := true, maxSteps := 10000000}) (disch := first | assumption | omega) only [go_sem, Try.f21, ↓reduceIte, Nat.reduceEqDiff, Nat.reduceAdd, Nat.reduceSub, Nat.reduceMul, Nat.reduceLeDiff, Nat.reduceLT, Int.reduceNeg, Int.reduceToNat, Int.reduceLT, Int.reduceLE, Int.reduceEq, Int.reduceAdd, Int.reduceSub, reduceCtorEq, *] | intro _ | refine contC_split ?_ ?_ | refine contG_split ?_ ?_)
  all_goals (have hR2 : R = _ := hR; subst hR2)
  all_goals grind [szL]
@[go_sem] theorem laws_szIntS_run (n : Nat) (l : List Int) (left : Int) (s : Nat) (h1 : -1 ≤ left) (h2 : left ≤ 1048576) (h3 : l.length ≤ 140737488355328) : Pn (n+1) 22 [.one (.sl s (l.map intC)), .i64 left] = some (.i64 (szL left l.length)) := by
  refine fnP rfl Try.func22 (by kernel_rfl) rfl (fun R hR => ?_)
  repeat' (first | simp (config := {contextual := true, maxSteps := 10000000}) (disch := first | assumption | omega) only [go_sem, Try.f22, ↓reduceIte, Nat.reduceEqDiff, Nat.reduceAdd, Nat.reduceSub, Nat.reduceMul, Nat.reduceLeDiff, Nat.reduceLT, Int.reduceNeg, Int.reduceToNat, Int.reduceLT, Int.reduceLE, Int.reduceEq, Int.reduceAdd, Int.reduceSub, reduceCtorEq, *] | intro _ | refine contC_split ?_ ?_ | refine contG_split ?_ ?_)
  all_goals (have hR2 : R = _ := hR; subst hR2)
  all_goals grind [szL]
@[go_sem] theorem laws_toVec_run (n : Nat) (a_root : Int) (a_cost : Int) (a_hops : Int) (a_bridge : Int) (a_port : Int) : Pn (n+1) 43 [.agg [.lit (.int .i64 a_root), .lit (.int .i64 a_cost), .lit (.int .i64 a_hops), .lit (.int .i64 a_bridge), .lit (.int .i64 a_port)]] = some (.agg [.lit (.int .i64 a_root), .lit (.int .i64 a_cost), .lit (.int .i64 a_hops), .lit (.int .i64 a_bridge), .lit (.int .i64 a_port)]) := by
  refine fnP rfl Try.func43 (by kernel_rfl) rfl (fun R hR => ?_)
  repeat' (first | simp (config := {contextual := true, maxSteps := 10000000}) (disch := first | assumption | omega) only [go_sem, Try.f43, ↓reduceIte, Nat.reduceEqDiff, Nat.reduceAdd, Nat.reduceSub, Nat.reduceMul, Nat.reduceLeDiff, Nat.reduceLT, Int.reduceNeg, Int.reduceToNat, Int.reduceLT, Int.reduceLE, Int.reduceEq, Int.reduceAdd, Int.reduceSub, reduceCtorEq, *] | intro _ | refine contC_split ?_ ?_ | refine contG_split ?_ ?_)
  all_goals (have hR2 : R = _ := hR; subst hR2)
  all_goals rfl
@[go_sem] theorem laws_toVrow_run (n : Nat) (a_id : Int) (a_members : Int) (a_bare : Int) : Pn (n+1) 44 [.agg [.lit (.int .i64 a_id), .lit (.int .i64 a_members), .lit (.int .i64 a_bare)]] = some (.agg [.lit (.int .i64 a_id), .lit (.int .i64 a_members), .lit (.int .i64 a_bare)]) := by
  refine fnP rfl Try.func44 (by kernel_rfl) rfl (fun R hR => ?_)
  repeat' (first | simp (config := {contextual := true, maxSteps := 10000000}) (disch := first | assumption | omega) only [go_sem, Try.f44, ↓reduceIte, Nat.reduceEqDiff, Nat.reduceAdd, Nat.reduceSub, Nat.reduceMul, Nat.reduceLeDiff, Nat.reduceLT, Int.reduceNeg, Int.reduceToNat, Int.reduceLT, Int.reduceLE, Int.reduceEq, Int.reduceAdd, Int.reduceSub, reduceCtorEq, *] | intro _ | refine contC_split ?_ ?_ | refine contG_split ?_ ?_)
  all_goals (have hR2 : R = _ := hR; subst hR2)
  all_goals rfl
@[go_sem] theorem laws_toFent_run (n : Nat) (a_tag : Int) (a_mac : Int) (a_port : Int) (a_age : Int) (a_static : Bool) : Pn (n+1) 28 [.agg [.lit (.int .i64 a_tag), .lit (.int .i64 a_mac), .lit (.int .i64 a_port), .lit (.int .i64 a_age), .lit (.bool a_static)]] = some (.agg [.lit (.int .i64 a_tag), .lit (.int .i64 a_mac), .lit (.int .i64 a_port), .lit (.int .i64 a_age), .lit (.bool a_static)]) := by
  refine fnP rfl Try.func28 (by kernel_rfl) rfl (fun R hR => ?_)
  repeat' (first | simp (config := {contextual := true, maxSteps := 10000000}) (disch := first | assumption | omega) only [go_sem, Try.f28, ↓reduceIte, Nat.reduceEqDiff, Nat.reduceAdd, Nat.reduceSub, Nat.reduceMul, Nat.reduceLeDiff, Nat.reduceLT, Int.reduceNeg, Int.reduceToNat, Int.reduceLT, Int.reduceLE, Int.reduceEq, Int.reduceAdd, Int.reduceSub, reduceCtorEq, *] | intro _ | refine contC_split ?_ ?_ | refine contG_split ?_ ?_)
  all_goals (have hR2 : R = _ := hR; subst hR2)
  all_goals rfl
@[go_sem] theorem laws_toPt_run (n : Nat) (a_up : Bool) (a_cost : Int) (a_has : Bool) (a_heard_root : Int) (a_heard_cost : Int) (a_heard_hops : Int) (a_heard_bridge : Int) (a_heard_port : Int) : Pn (n+2) 27 [.agg [.lit (.bool a_up), .lit (.int .i64 a_cost), .lit (.bool a_has), .lit (.int .i64 a_heard_root), .lit (.int .i64 a_heard_cost), .lit (.int .i64 a_heard_hops), .lit (.int .i64 a_heard_bridge), .lit (.int .i64 a_heard_port)]] = some (.agg [.lit (.bool a_up), .lit (.int .i64 a_cost), .lit (.bool a_has), .lit (.int .i64 a_heard_root), .lit (.int .i64 a_heard_cost), .lit (.int .i64 a_heard_hops), .lit (.int .i64 a_heard_bridge), .lit (.int .i64 a_heard_port)]) := by
  refine fnP rfl Try.func27 (by kernel_rfl) rfl (fun R hR => ?_)
  repeat' (first | simp (config := {contextual := true, maxSteps := 10000000}) (disch := first | assumption | omega) only [go_sem, Try.f27, ↓reduceIte, Nat.reduceEqDiff, Nat.reduceAdd, Nat.reduceSub, Nat.reduceMul, Nat.reduceLeDiff, Nat.reduceLT, Int.reduceNeg, Int.reduceToNat, Int.reduceLT, Int.reduceLE, Int.reduceEq, Int.reduceAdd, Int.reduceSub, reduceCtorEq, *] | intro _ | refine contC_split ?_ ?_ | refine contG_split ?_ ?_)
  all_goals (have hR2 : R = _ := hR; subst hR2)
  all_goals rfl
@[go_sem] theorem laws_eqVec_run (n : Nat) (a_root : Int) (a_cost : Int) (a_hops : Int) (a_bridge : Int) (a_port : Int) : Pn (n+1) 48 [.agg [.lit (.int .i64 a_root), .lit (.int .i64 a_cost), .lit (.int .i64 a_hops), .lit (.int .i64 a_bridge), .lit (.int .i64 a_port)], .agg [.lit (.int .i64 a_root), .lit (.int .i64 a_cost), .lit (.int .i64 a_hops), .lit (.int .i64 a_bridge), .lit (.int .i64 a_port)]] = some (.bool true) := by
  refine fnP rfl Try.func48 (by kernel_rfl) rfl (fun R hR => ?_)
  repeat' (first | simp (config := {contextual := true, maxSteps := 10000000}) (disch := first | assumption | omega) only [go_sem, Try.f48, ↓reduceIte, Nat.reduceEqDiff, Nat.reduceAdd, Nat.reduceSub, Nat.reduceMul, Nat.reduceLeDiff, Nat.reduceLT, Int.reduceNeg, Int.reduceToNat, Int.reduceLT, Int.reduceLE, Int.reduceEq, Int.reduceAdd, Int.reduceSub, reduceCtorEq, beq_self_eq_true, *] | intro _ | refine contC_split ?_ ?_ | refine contG_split ?_ ?_)
  all_goals (have hR2 : R = _ := hR; subst hR2)
  all_goals rfl
@[go_sem] theorem laws_eqVrow_run (n : Nat) (a_id : Int) (a_members : Int) (a_bare : Int) : Pn (n+1) 49 [.agg [.lit (.int .i64 a_id), .lit (.int .i64 a_members), .lit (.int .i64 a_bare)], .agg [.lit (.int .i64 a_id), .lit (.int .i64 a_members), .lit (.int .i64 a_bare)]] = some (.bool true) := by
  refine fnP rfl Try.func49 (by kernel_rfl) rfl (fun R hR => ?_)
  repeat' (first | simp (config := {contextual := true, maxSteps := 10000000}) (disch := first | assumption | omega) only [go_sem, Try.f49, ↓reduceIte, Nat.reduceEqDiff, Nat.reduceAdd, Nat.reduceSub, Nat.reduceMul, Nat.reduceLeDiff, Nat.reduceLT, Int.reduceNeg, Int.reduceToNat, Int.reduceLT, Int.reduceLE, Int.reduceEq, Int.reduceAdd, Int.reduceSub, reduceCtorEq, beq_self_eq_true, *] | intro _ | refine contC_split ?_ ?_ | refine contG_split ?_ ?_)
  all_goals (have hR2 : R = _ := hR; subst hR2)
  all_goals rfl
@[go_sem] theorem laws_eqFent_run (n : Nat) (a_tag : Int) (a_mac : Int) (a_port : Int) (a_age : Int) (a_static : Bool) : Pn (n+1) 39 [.agg [.lit (.int .i64 a_tag), .lit (.int .i64 a_mac), .lit (.int .i64 a_port), .lit (.int .i64 a_age), .lit (.bool a_static)], .agg [.lit (.int .i64 a_tag), .lit (.int .i64 a_mac), .lit (.int .i64 a_port), .lit (.int .i64 a_age), .lit (.bool a_static)]] = some (.bool true) := by
  refine fnP rfl Try.func39 (by kernel_rfl) rfl (fun R hR => ?_)
  repeat' (first | simp (config := {contextual := true, maxSteps := 10000000}) (disch := first | assumption | omega) only [go_sem, Try.f39, ↓reduceIte, Nat.reduceEqDiff, Nat.reduceAdd, Nat.reduceSub, Nat.reduceMul, Nat.reduceLeDiff, Nat.reduceLT, Int.reduceNeg, Int.reduceToNat, Int.reduceLT, Int.reduceLE, Int.reduceEq, Int.reduceAdd, Int.reduceSub, reduceCtorEq, beq_self_eq_true, *] | intro _ | refine contC_split ?_ ?_ | refine contG_split ?_ ?_)
  all_goals (have hR2 : R = _ := hR; subst hR2)
  all_goals rfl
@[go_sem] theorem laws_eqPt_run (n : Nat) (a_up : Bool) (a_cost : Int) (a_has : Bool) (a_heard_root : Int) (a_heard_cost : Int) (a_heard_hops : Int) (a_heard_bridge : Int) (a_heard_port : Int) : Pn (n+2) 38 [.agg [.lit (.bool a_up), .lit (.int .i64 a_cost), .lit (.bool a_has), .lit (.int .i64 a_heard_root), .lit (.int .i64 a_heard_cost), .lit (.int .i64 a_heard_hops), .lit (.int .i64 a_heard_bridge), .lit (.int .i64 a_heard_port)], .agg [.lit (.bool a_up), .lit (.int .i64 a_cost), .lit (.bool a_has), .lit (.int .i64 a_heard_root), .lit (.int .i64 a_heard_cost), .lit (.int .i64 a_heard_hops), .lit (.int .i64 a_heard_bridge), .lit (.int .i64 a_heard_port)]] = some (.bool true) := by
  refine fnP rfl Try.func38 (by kernel_rfl) rfl (fun R hR => ?_)
  repeat' (first | simp (config := {contextual := true, maxSteps := 10000000}) (disch := first | assumption | omega) only [go_sem, Try.f38, ↓reduceIte, Nat.reduceEqDiff, Nat.reduceAdd, Nat.reduceSub, Nat.reduceMul, Nat.reduceLeDiff, Nat.reduceLT, Int.reduceNeg, Int.reduceToNat, Int.reduceLT, Int.reduceLE, Int.reduceEq, Int.reduceAdd, Int.reduceSub, reduceCtorEq, beq_self_eq_true, *] | intro _ | refine contC_split ?_ ?_ | refine contG_split ?_ ?_)
  all_goals (have hR2 : R = _ := hR; subst hR2)
  all_goals rfl
@[go_sem] theorem laws_toPtS_run (n : Nat) (l : List Pt) (hl : l.length ≤ 1048576) : Pn (n+3) 13 [.one (.sl 8 (l.map Pt.cs))] = some (.one (.sl 8 (l.map Pt.cs))) := by
  refine fnP rfl Try.func13 (by kernel_rfl) rfl (fun R hR => ?_)
  repeat' (first | simp (config := {contextual := true, maxSteps := 10000000}) (disch := first | assumption | omega) only [go_sem, Try.f13, ↓reduceIte, Nat.reduceEqDiff, Nat.reduceAdd, Nat.reduceSub, Nat.reduceMul, Nat.reduceLeDiff, Nat.reduceLT, Int.reduceNeg, Int.reduceToNat, Int.reduceLT, Int.reduceLE, Int.reduceEq, Int.reduceAdd, Int.reduceSub, reduceCtorEq, *] | intro _ | refine contC_split ?_ ?_ | refine contG_split ?_ ?_)
  refine wp_loop [0, 3, 4] (fun j vs hp => ∃ (i : Nat) (rows : List (List C)), i + j = l.length ∧ Filled rows (l.map Pt.cs) i 8 ∧
    vs = [.one (.sl 8 (l.map Pt.cs)), .one (.ref 8 0 0 l.length), .i64 i] ∧ hp.at_ 0 = some ⟨8, rows⟩ ∧ 1 ≤ hp.next) l.length (by unfold NN; omega) ?_ ?_
  · refine ⟨0, _, by omega, Filled.start (z := Pt.cs (⟨false, 0, false, ⟨0, 0, 0, 0, 0⟩⟩ : Pt)) (n := l.length) (by simp) rfl, ?_⟩
    repeat' (first | simp (config := {contextual := true, maxSteps := 10000000}) (disch := first | assumption | omega) only [go_sem, Try.f13, ↓reduceIte, Nat.reduceEqDiff, Nat.reduceAdd, Nat.reduceSub, Nat.reduceMul, Nat.reduceLeDiff, Nat.reduceLT, Int.reduceNeg, Int.reduceToNat, Int.reduceLT, Int.reduceLE, Int.reduceEq, Int.reduceAdd, Int.reduceSub, reduceCtorEq, *] | intro _ | refine contC_split ?_ ?_ | refine contG_split ?_ ?_)
    all_goals simp [Pt.cs]
  · intro j env a m hj hI Lp hLp
    obtain ⟨i, rows, hij, hF, he, a0, hm⟩ := hI
    simp only [vals_cons, vals_nil, List.cons.injEq, and_true] at he a0 hm
    obtain ⟨h0, h3, h4⟩ := he
    have hrl : rows.length = l.length := by rw [hF.1]; simp
    by_cases hi : i < l.length
    · have hz := hF.drop (j := i) (by simpa using hi)
      have hF2 := Hd.mk (hF.next (r := Pt.cs l[i]) (by simp [hi]) rfl)
      clear hF
      repeat' (first | simp (config := {contextual := true, maxSteps := 10000000}) (disch := first | assumption | omega) only [go_sem, Try.f13, ↓reduceIte, Nat.reduceEqDiff, Nat.reduceAdd, Nat.reduceSub, Nat.reduceMul, Nat.reduceLeDiff, Nat.reduceLT, Int.reduceNeg, Int.reduceToNat, Int.reduceLT, Int.reduceLE, Int.reduceEq, Int.reduceAdd, Int.reduceSub, reduceCtorEq, Int.ofNat_lt, Nat.zero_add, *] | intro _ | refine contC_split ?_ ?_ | refine contG_split ?_ ?_)
      refine hLp.out (j - 1) _ _ (by omega) ⟨i + 1, _, by omega, hF2.out, ?_⟩
      simp [upd, Pt.cs]
      try omega
    · have hi' : i = l.length := by omega
      subst hi'
      have hr := (show Filled rows (l.map Pt.cs) (l.map Pt.cs).length 8 by simpa using hF).done
      subst hr
      clear hF
      repeat' (first | simp (config := {contextual := true, maxSteps := 10000000}) (disch := first | assumption | omega) only [go_sem, Try.f13, ↓reduceIte, Nat.reduceEqDiff, Nat.reduceAdd, Nat.reduceSub, Nat.reduceMul, Nat.reduceLeDiff, Nat.reduceLT, Int.reduceNeg, Int.reduceToNat, Int.reduceLT, Int.reduceLE, Int.reduceEq, Int.reduceAdd, Int.reduceSub, reduceCtorEq, Int.ofNat_lt, Nat.zero_add, Nat.le_refl, take_map_len, Nat.lt_irrefl, *] | intro _ | refine contC_split ?_ ?_ | refine contG_split ?_ ?_)
      exact hR.out.symm
@[go_sem] theorem laws_toFentS_run (n : Nat) (l : List Fent) (hl : l.length ≤ 1048576) : Pn (n+2) 14 [.one (.sl 5 (l.map Fent.cs))] = some (.one (.sl 5 (l.map Fent.cs))) := by
  refine fnP rfl Try.func14 (by kernel_rfl) rfl (fun R hR => ?_)
  repeat' (first | simp (config := {contextual := true, maxSteps := 10000000}) (disch := first | assumption | omega) only [go_sem, Try.f14, ↓reduceIte, Nat.reduceEqDiff, Nat.reduceAdd, Nat.reduceSub, Nat.reduceMul, Nat.reduceLeDiff, Nat.reduceLT, Int.reduceNeg, Int.reduceToNat, Int.reduceLT, Int.reduceLE, Int.reduceEq, Int.reduceAdd, Int.reduceSub, reduceCtorEq, *] | intro _ | refine contC_split ?_ ?_ | refine contG_split ?_ ?_)
  refine wp_loop [0, 3, 4] (fun j vs hp => ∃ (i : Nat) (rows : List (List C)), i + j = l.length ∧ Filled rows (l.map Fent.cs) i 5 ∧
    vs = [.one (.sl 5 (l.map Fent.cs)), .one (.ref 5 0 0 l.length), .i64 i] ∧ hp.at_ 0 = some ⟨5, rows⟩ ∧ 1 ≤ hp.next) l.length (by unfold NN; omega) ?_ ?_
  · refine ⟨0, _, by omega, Filled.start (z := Fent.cs (⟨0, 0, 0, 0, false⟩ : Fent)) (n := l.length) (by simp) rfl, ?_⟩
    repeat' (first | simp (config := {contextual := true, maxSteps := 10000000}) (disch := first | assumption | omega) only [go_sem, Try.f14, ↓reduceIte, Nat.reduceEqDiff, Nat.reduceAdd, Nat.reduceSub, Nat.reduceMul, Nat.reduceLeDiff, Nat.reduceLT, Int.reduceNeg, Int.reduceToNat, Int.reduceLT, Int.reduceLE, Int.reduceEq, Int.reduceAdd, Int.reduceSub, reduceCtorEq, *] | intro _ | refine contC_split ?_ ?_ | refine contG_split ?_ ?_)
    all_goals simp [Fent.cs]
  · intro j env a m hj hI Lp hLp
    obtain ⟨i, rows, hij, hF, he, a0, hm⟩ := hI
    simp only [vals_cons, vals_nil, List.cons.injEq, and_true] at he a0 hm
    obtain ⟨h0, h3, h4⟩ := he
    have hrl : rows.length = l.length := by rw [hF.1]; simp
    by_cases hi : i < l.length
    · have hz := hF.drop (j := i) (by simpa using hi)
      have hF2 := Hd.mk (hF.next (r := Fent.cs l[i]) (by simp [hi]) rfl)
      clear hF
      repeat' (first | simp (config := {contextual := true, maxSteps := 10000000}) (disch := first | assumption | omega) only [go_sem, Try.f14, ↓reduceIte, Nat.reduceEqDiff, Nat.reduceAdd, Nat.reduceSub, Nat.reduceMul, Nat.reduceLeDiff, Nat.reduceLT, Int.reduceNeg, Int.reduceToNat, Int.reduceLT, Int.reduceLE, Int.reduceEq, Int.reduceAdd, Int.reduceSub, reduceCtorEq, Int.ofNat_lt, Nat.zero_add, *] | intro _ | refine contC_split ?_ ?_ | refine contG_split ?_ ?_)
      refine hLp.out (j - 1) _ _ (by omega) ⟨i + 1, _, by omega, hF2.out, ?_⟩
      simp [upd, Fent.cs]
      try omega
    · have hi' : i = l.length := by omega
      subst hi'
      have hr := (show Filled rows (l.map Fent.cs) (l.map Fent.cs).length 5 by simpa using hF).done
      subst hr
      clear hF
      repeat' (first | simp (config := {contextual := true, maxSteps := 10000000}) (disch := first | assumption | omega) only [go_sem, Try.f14, ↓reduceIte, Nat.reduceEqDiff, Nat.reduceAdd, Nat.reduceSub, Nat.reduceMul, Nat.reduceLeDiff, Nat.reduceLT, Int.reduceNeg, Int.reduceToNat, Int.reduceLT, Int.reduceLE, Int.reduceEq, Int.reduceAdd, Int.reduceSub, reduceCtorEq, Int.ofNat_lt, Nat.zero_add, Nat.le_refl, take_map_len, Nat.lt_irrefl, *] | intro _ | refine contC_split ?_ ?_ | refine contG_split ?_ ?_)
      exact hR.out.symm
@[go_sem] theorem laws_toVrowS_run (n : Nat) (l : List Vrow) (hl : l.length ≤ 1048576) : Pn (n+2) 29 [.one (.sl 3 (l.map Vrow.cs))] = some (.one (.sl 3 (l.map Vrow.cs))) := by
  refine fnP rfl Try.func29 (by kernel_rfl) rfl (fun R hR => ?_)
  repeat' (first | simp (config := {contextual := true, maxSteps := 10000000}) (disch := first | assumption | omega) only [go_sem, Try.f29, ↓reduceIte, Nat.reduceEqDiff, Nat.reduceAdd, Nat.reduceSub, Nat.reduceMul, Nat.reduceLeDiff, Nat.reduceLT, Int.reduceNeg, Int.reduceToNat, Int.reduceLT, Int.reduceLE, Int.reduceEq, Int.reduceAdd, Int.reduceSub, reduceCtorEq, *] | intro _ | refine contC_split ?_ ?_ | refine contG_split ?_ ?_)
  refine wp_loop [0, 3, 4] (fun j vs hp => ∃ (i : Nat) (rows : List (List C)), i + j = l.length ∧ Filled rows (l.map Vrow.cs) i 3 ∧
    vs = [.one (.sl 3 (l.map Vrow.cs)), .one (.ref 3 0 0 l.length), .i64 i] ∧ hp.at_ 0 = some ⟨3, rows⟩ ∧ 1 ≤ hp.next) l.length (by unfold NN; omega) ?_ ?_
  · refine ⟨0, _, by omega, Filled.start (z := Vrow.cs (⟨0, 0, 0⟩ : Vrow)) (n := l.length) (by simp) rfl, ?_⟩
    repeat' (first | simp (config := {contextual := true, maxSteps := 10000000}) (disch := first | assumption | omega) only [go_sem, Try.f29, ↓reduceIte, Nat.reduceEqDiff, Nat.reduceAdd, Nat.reduceSub, Nat.reduceMul, Nat.reduceLeDiff, Nat.reduceLT, Int.reduceNeg, Int.reduceToNat, Int.reduceLT, Int.reduceLE, Int.reduceEq, Int.reduceAdd, Int.reduceSub, reduceCtorEq, *] | intro _ | refine contC_split ?_ ?_ | refine contG_split ?_ ?_)
    all_goals simp [Vrow.cs]
  · intro j env a m hj hI Lp hLp
    obtain ⟨i, rows, hij, hF, he, a0, hm⟩ := hI
    simp only [vals_cons, vals_nil, List.cons.injEq, and_true] at he a0 hm
    obtain ⟨h0, h3, h4⟩ := he
    have hrl : rows.length = l.length := by rw [hF.1]; simp
    by_cases hi : i < l.length
    · have hz := hF.drop (j := i) (by simpa using hi)
      have hF2 := Hd.mk (hF.next (r := Vrow.cs l[i]) (by simp [hi]) rfl)
      clear hF
      repeat' (first | simp (config := {contextual := true, maxSteps := 10000000}) (disch := first | assumption | omega) only [go_sem, Try.f29, ↓reduceIte, Nat.reduceEqDiff, Nat.reduceAdd, Nat.reduceSub, Nat.reduceMul, Nat.reduceLeDiff, Nat.reduceLT, Int.reduceNeg, Int.reduceToNat, Int.reduceLT, Int.reduceLE, Int.reduceEq, Int.reduceAdd, Int.reduceSub, reduceCtorEq, Int.ofNat_lt, Nat.zero_add, *] | intro _ | refine contC_split ?_ ?_ | refine contG_split ?_ ?_)
      refine hLp.out (j - 1) _ _ (by omega) ⟨i + 1, _, by omega, hF2.out, ?_⟩
      simp [upd, Vrow.cs]
      try omega
    · have hi' : i = l.length := by omega
      subst hi'
      have hr := (show Filled rows (l.map Vrow.cs) (l.map Vrow.cs).length 3 by simpa using hF).done
      subst hr
      clear hF
      repeat' (first | simp (config := {contextual := true, maxSteps := 10000000}) (disch := first | assumption | omega) only [go_sem, Try.f29, ↓reduceIte, Nat.reduceEqDiff, Nat.reduceAdd, Nat.reduceSub, Nat.reduceMul, Nat.reduceLeDiff, Nat.reduceLT, Int.reduceNeg, Int.reduceToNat, Int.reduceLT, Int.reduceLE, Int.reduceEq, Int.reduceAdd, Int.reduceSub, reduceCtorEq, Int.ofNat_lt, Nat.zero_add, Nat.le_refl, take_map_len, Nat.lt_irrefl, *] | intro _ | refine contC_split ?_ ?_ | refine contG_split ?_ ?_)
      exact hR.out.symm
@[go_sem] theorem laws_toIntS_run (n : Nat) (l : List Int) (hl : l.length ≤ 1048576) : Pn (n+1) 30 [.one (.sl 1 (l.map intC))] = some (.one (.sl 1 (l.map intC))) := by
  refine fnP rfl Try.func30 (by kernel_rfl) rfl (fun R hR => ?_)
  repeat' (first | simp (config := {contextual := true, maxSteps := 10000000}) (disch := first | assumption | omega) only [go_sem, Try.f30, ↓reduceIte, Nat.reduceEqDiff, Nat.reduceAdd, Nat.reduceSub, Nat.reduceMul, Nat.reduceLeDiff, Nat.reduceLT, Int.reduceNeg, Int.reduceToNat, Int.reduceLT, Int.reduceLE, Int.reduceEq, Int.reduceAdd, Int.reduceSub, reduceCtorEq, *] | intro _ | refine contC_split ?_ ?_ | refine contG_split ?_ ?_)
  refine wp_loop [0, 3, 4] (fun j vs hp => ∃ (i : Nat) (rows : List (List C)), i + j = l.length ∧ Filled rows (l.map intC) i 1 ∧
    vs = [.one (.sl 1 (l.map intC)), .one (.ref 1 0 0 l.length), .i64 i] ∧ hp.at_ 0 = some ⟨1, rows⟩ ∧ 1 ≤ hp.next) l.length (by unfold NN; omega) ?_ ?_
  · refine ⟨0, _, by omega, Filled.start (z := intC 0) (n := l.length) (by simp) rfl, ?_⟩
    repeat' (first | simp (config := {contextual := true, maxSteps := 10000000}) (disch := first | assumption | omega) only [go_sem, Try.f30, ↓reduceIte, Nat.reduceEqDiff, Nat.reduceAdd, Nat.reduceSub, Nat.reduceMul, Nat.reduceLeDiff, Nat.reduceLT, Int.reduceNeg, Int.reduceToNat, Int.reduceLT, Int.reduceLE, Int.reduceEq, Int.reduceAdd, Int.reduceSub, reduceCtorEq, *] | intro _ | refine contC_split ?_ ?_ | refine contG_split ?_ ?_)
    all_goals simp [intC]
  · intro j env a m hj hI Lp hLp
    obtain ⟨i, rows, hij, hF, he, a0, hm⟩ := hI
    simp only [vals_cons, vals_nil, List.cons.injEq, and_true] at he a0 hm
    obtain ⟨h0, h3, h4⟩ := he
    have hrl : rows.length = l.length := by rw [hF.1]; simp
    by_cases hi : i < l.length
    · have hz := hF.drop (j := i) (by simpa using hi)
      have hF2 := Hd.mk (hF.next (r := intC l[i]) (by simp [hi]) rfl)
      clear hF
      repeat' (first | simp (config := {contextual := true, maxSteps := 10000000}) (disch := first | assumption | omega) only [go_sem, Try.f30, ↓reduceIte, Nat.reduceEqDiff, Nat.reduceAdd, Nat.reduceSub, Nat.reduceMul, Nat.reduceLeDiff, Nat.reduceLT, Int.reduceNeg, Int.reduceToNat, Int.reduceLT, Int.reduceLE, Int.reduceEq, Int.reduceAdd, Int.reduceSub, reduceCtorEq, Int.ofNat_lt, Nat.zero_add, *] | intro _ | refine contC_split ?_ ?_ | refine contG_split ?_ ?_)
      refine hLp.out (j - 1) _ _ (by omega) ⟨i + 1, _, by omega, hF2.out, ?_⟩
      simp [upd, intC]
      try omega
    · have hi' : i = l.length := by omega
      subst hi'
      have hr := (show Filled rows (l.map intC) (l.map intC).length 1 by simpa using hF).done
      subst hr
      clear hF
      repeat' (first | simp (config := {contextual := true, maxSteps := 10000000}) (disch := first | assumption | omega) only [go_sem, Try.f30, ↓reduceIte, Nat.reduceEqDiff, Nat.reduceAdd, Nat.reduceSub, Nat.reduceMul, Nat.reduceLeDiff, Nat.reduceLT, Int.reduceNeg, Int.reduceToNat, Int.reduceLT, Int.reduceLE, Int.reduceEq, Int.reduceAdd, Int.reduceSub, reduceCtorEq, Int.ofNat_lt, Nat.zero_add, Nat.le_refl, take_map_len, Nat.lt_irrefl, *] | intro _ | refine contC_split ?_ ?_ | refine contG_split ?_ ?_)
      exact hR.out.symm
@[go_sem] theorem laws_eqPtS_run (n : Nat) (l : List Pt) (hl : l.length ≤ 1048576) : Pn (n+3) 18 [.one (.sl 8 (l.map Pt.cs)), .one (.sl 8 (l.map Pt.cs))] = some (.bool true) := by
  refine fnP rfl Try.func18 (by kernel_rfl) rfl (fun R hR => ?_)
  repeat' (first | simp (config := {contextual := true, maxSteps := 10000000}) (disch := first | assumption | omega) only [go_sem, Try.f18, ↓reduceIte, Nat.reduceEqDiff, Nat.reduceAdd, Nat.reduceSub, Nat.reduceMul, Nat.reduceLeDiff, Nat.reduceLT, Int.reduceNeg, Int.reduceToNat, Int.reduceLT, Int.reduceLE, Int.reduceEq, Int.reduceAdd, Int.reduceSub, reduceCtorEq, Nat.lt_irrefl, *] | intro _ | refine contC_split ?_ ?_ | refine contG_split ?_ ?_)
  refine wp_loop [0, 1, 5] (fun j vs hp => ∃ (i : Nat), i + j = l.length ∧ vs = [.one (.sl 8 (l.map Pt.cs)), .one (.sl 8 (l.map Pt.cs)), .i64 i]) l.length (by unfold NN; omega) ?_ ?_
  · refine ⟨0, by omega, ?_⟩
    repeat' (first | simp (config := {contextual := true, maxSteps := 10000000}) (disch := first | assumption | omega) only [go_sem, Try.f18, ↓reduceIte, Nat.reduceEqDiff, Nat.reduceAdd, Nat.reduceSub, Nat.reduceMul, Nat.reduceLeDiff, Nat.reduceLT, Int.reduceNeg, Int.reduceToNat, Int.reduceLT, Int.reduceLE, Int.reduceEq, Int.reduceAdd, Int.reduceSub, reduceCtorEq, *] | intro _ | refine contC_split ?_ ?_ | refine contG_split ?_ ?_)
    all_goals simp
  · intro j env a m hj hI Lp hLp
    obtain ⟨i, hij, he⟩ := hI
    simp only [vals_cons, vals_nil, List.cons.injEq, and_true] at he
    obtain ⟨h0, h1, h5⟩ := he
    by_cases hi : i < l.length
    · repeat' (first | simp (config := {contextual := true, maxSteps := 10000000}) (disch := first | assumption | omega) only [go_sem, Try.f18, ↓reduceIte, Nat.reduceEqDiff, Nat.reduceAdd, Nat.reduceSub, Nat.reduceMul, Nat.reduceLeDiff, Nat.reduceLT, Int.reduceNeg, Int.reduceToNat, Int.reduceLT, Int.reduceLE, Int.reduceEq, Int.reduceAdd, Int.reduceSub, reduceCtorEq, Int.ofNat_lt, *] | intro _ | refine contC_split ?_ ?_ | refine contG_split ?_ ?_)
      exact hLp.out (j - 1) _ _ (by omega) ⟨i + 1, by omega, rfl⟩
    · repeat' (first | simp (config := {contextual := true, maxSteps := 10000000}) (disch := first | assumption | omega) only [go_sem, Try.f18, ↓reduceIte, Nat.reduceEqDiff, Nat.reduceAdd, Nat.reduceSub, Nat.reduceMul, Nat.reduceLeDiff, Nat.reduceLT, Int.reduceNeg, Int.reduceToNat, Int.reduceLT, Int.reduceLE, Int.reduceEq, Int.reduceAdd, Int.reduceSub, reduceCtorEq, Int.ofNat_lt, *] | intro _ | refine contC_split ?_ ?_ | refine contG_split ?_ ?_)
      exact hR.out.symm
@[go_sem] theorem laws_eqFentS_run (n : Nat) (l : List Fent) (hl : l.length ≤ 1048576) : Pn (n+2) 19 [.one (.sl 5 (l.map Fent.cs)), .one (.sl 5 (l.map Fent.cs))] = some (.bool true) := by
  refine fnP rfl Try.func19 (by kernel_rfl) rfl (fun R hR => ?_)
  repeat' (first | simp (config := {contextual := true, maxSteps := 10000000}) (disch := first | assumption | omega) only [go_sem, Try.f19, ↓reduceIte, Nat.reduceEqDiff, Nat.reduceAdd, Nat.reduceSub, Nat.reduceMul, Nat.reduceLeDiff, Nat.reduceLT, Int.reduceNeg, Int.reduceToNat, Int.reduceLT, Int.reduceLE, Int.reduceEq, Int.reduceAdd, Int.reduceSub, reduceCtorEq, Nat.lt_irrefl, *] | intro _ | refine contC_split ?_ ?_ | refine contG_split ?_ ?_)
  refine wp_loop [0, 1, 5] (fun j vs hp => ∃ (i : Nat), i + j = l.length ∧ vs = [.one (.sl 5 (l.map Fent.cs)), .one (.sl 5 (l.map Fent.cs)), .i64 i]) l.length (by unfold NN; omega) ?_ ?_
  · refine ⟨0, by omega, ?_⟩
    repeat' (first | simp (config := {contextual := true, maxSteps := 10000000}) (disch := first | assumption | omega) only [go_sem, Try.f19, ↓reduceIte, Nat.reduceEqDiff, Nat.reduceAdd, Nat.reduceSub, Nat.reduceMul, Nat.reduceLeDiff, Nat.reduceLT, Int.reduceNeg, Int.reduceToNat, Int.reduceLT, Int.reduceLE, Int.reduceEq, Int.reduceAdd, Int.reduceSub, reduceCtorEq, *] | intro _ | refine contC_split ?_ ?_ | refine contG_split ?_ ?_)
    all_goals simp
  · intro j env a m hj hI Lp hLp
    obtain ⟨i, hij, he⟩ := hI
    simp only [vals_cons, vals_nil, List.cons.injEq, and_true] at he
    obtain ⟨h0, h1, h5⟩ := he
    by_cases hi : i < l.length
    · repeat' (first | simp (config := {contextual := true, maxSteps := 10000000}) (disch := first | assumption | omega) only [go_sem, Try.f19, ↓reduceIte, Nat.reduceEqDiff, Nat.reduceAdd, Nat.reduceSub, Nat.reduceMul, Nat.reduceLeDiff, Nat.reduceLT, Int.reduceNeg, Int.reduceToNat, Int.reduceLT, Int.reduceLE, Int.reduceEq, Int.reduceAdd, Int.reduceSub, reduceCtorEq, Int.ofNat_lt, *] | intro _ | refine contC_split ?_ ?_ | refine contG_split ?_ ?_)
      exact hLp.out (j - 1) _ _ (by omega) ⟨i + 1, by omega, rfl⟩
    · repeat' (first | simp (config := {contextual := true, maxSteps := 10000000}) (disch := first | assumption | omega) only [go_sem, Try.f19, ↓reduceIte, Nat.reduceEqDiff, Nat.reduceAdd, Nat.reduceSub, Nat.reduceMul, Nat.reduceLeDiff, Nat.reduceLT, Int.reduceNeg, Int.reduceToNat, Int.reduceLT, Int.reduceLE, Int.reduceEq, Int.reduceAdd, Int.reduceSub, reduceCtorEq, Int.ofNat_lt, *] | intro _ | refine contC_split ?_ ?_ | refine contG_split ?_ ?_)
      exact hR.out.symm
@[go_sem] theorem laws_eqVrowS_run (n : Nat) (l : List Vrow) (hl : l.length ≤ 1048576) : Pn (n+2) 40 [.one (.sl 3 (l.map Vrow.cs)), .one (.sl 3 (l.map Vrow.cs))] = some (.bool true) := by
  refine fnP rfl Try.func40 (by kernel_rfl) rfl (fun R hR => ?_)
  repeat' (first | simp (config := {contextual := true, maxSteps := 10000000}) (disch := first | assumption | omega) only [go_sem, Try.f40, ↓reduceIte, Nat.reduceEqDiff, Nat.reduceAdd, Nat.reduceSub, Nat.reduceMul, Nat.reduceLeDiff, Nat.reduceLT, Int.reduceNeg, Int.reduceToNat, Int.reduceLT, Int.reduceLE, Int.reduceEq, Int.reduceAdd, Int.reduceSub, reduceCtorEq, Nat.lt_irrefl, *] | intro _ | refine contC_split ?_ ?_ | refine contG_split ?_ ?_)
  refine wp_loop [0, 1, 5] (fun j vs hp => ∃ (i : Nat), i + j = l.length ∧ vs = [.one (.sl 3 (l.map Vrow.cs)), .one (.sl 3 (l.map Vrow.cs)), .i64 i]) l.length (by unfold NN; omega) ?_ ?_
  · refine ⟨0, by omega, ?_⟩
    repeat' (first | simp (config := {contextual := true, maxSteps := 10000000}) (disch := first | assumption | omega) only [go_sem, Try.f40, ↓reduceIte, Nat.reduceEqDiff, Nat.reduceAdd, Nat.reduceSub, Nat.reduceMul, Nat.reduceLeDiff, Nat.reduceLT, Int.reduceNeg, Int.reduceToNat, Int.reduceLT, Int.reduceLE, Int.reduceEq, Int.reduceAdd, Int.reduceSub, reduceCtorEq, *] | intro _ | refine contC_split ?_ ?_ | refine contG_split ?_ ?_)
    all_goals simp
  · intro j env a m hj hI Lp hLp
    obtain ⟨i, hij, he⟩ := hI
    simp only [vals_cons, vals_nil, List.cons.injEq, and_true] at he
    obtain ⟨h0, h1, h5⟩ := he
    by_cases hi : i < l.length
    · repeat' (first | simp (config := {contextual := true, maxSteps := 10000000}) (disch := first | assumption | omega) only [go_sem, Try.f40, ↓reduceIte, Nat.reduceEqDiff, Nat.reduceAdd, Nat.reduceSub, Nat.reduceMul, Nat.reduceLeDiff, Nat.reduceLT, Int.reduceNeg, Int.reduceToNat, Int.reduceLT, Int.reduceLE, Int.reduceEq, Int.reduceAdd, Int.reduceSub, reduceCtorEq, Int.ofNat_lt, *] | intro _ | refine contC_split ?_ ?_ | refine contG_split ?_ ?_)
      exact hLp.out (j - 1) _ _ (by omega) ⟨i + 1, by omega, rfl⟩
    · repeat' (first | simp (config := {contextual := true, maxSteps := 10000000}) (disch := first | assumption | omega) only [go_sem, Try.f40, ↓reduceIte, Nat.reduceEqDiff, Nat.reduceAdd, Nat.reduceSub, Nat.reduceMul, Nat.reduceLeDiff, Nat.reduceLT, Int.reduceNeg, Int.reduceToNat, Int.reduceLT, Int.reduceLE, Int.reduceEq, Int.reduceAdd, Int.reduceSub, reduceCtorEq, Int.ofNat_lt, *] | intro _ | refine contC_split ?_ ?_ | refine contG_split ?_ ?_)
      exact hR.out.symm
@[go_sem] theorem laws_eqIntS_run (n : Nat) (l : List Int) (hl : l.length ≤ 1048576) : Pn (n+1) 41 [.one (.sl 1 (l.map intC)), .one (.sl 1 (l.map intC))] = some (.bool true) := by
  refine fnP rfl Try.func41 (by kernel_rfl) rfl (fun R hR => ?_)
  repeat' (first | simp (config := {contextual := true, maxSteps := 10000000}) (disch := first | assumption | omega) only [go_sem, Try.f41, ↓reduceIte, Nat.reduceEqDiff, Nat.reduceAdd, Nat.reduceSub, Nat.reduceMul, Nat.reduceLeDiff, Nat.reduceLT, Int.reduceNeg, Int.reduceToNat, Int.reduceLT, Int.reduceLE, Int.reduceEq, Int.reduceAdd, Int.reduceSub, reduceCtorEq, Nat.lt_irrefl, *] | intro _ | refine contC_split ?_ ?_ | refine contG_split ?_ ?_)
  refine wp_loop [0, 1, 5] (fun j vs hp => ∃ (i : Nat), i + j = l.length ∧ vs = [.one (.sl 1 (l.map intC)), .one (.sl 1 (l.map intC)), .i64 i]) l.length (by unfold NN; omega) ?_ ?_
  · refine ⟨0, by omega, ?_⟩
    repeat' (first | simp (config := {contextual := true, maxSteps := 10000000}) (disch := first | assumption | omega) only [go_sem, Try.f41, ↓reduceIte, Nat.reduceEqDiff, Nat.reduceAdd, Nat.reduceSub, Nat.reduceMul, Nat.reduceLeDiff, Nat.reduceLT, Int.reduceNeg, Int.reduceToNat, Int.reduceLT, Int.reduceLE, Int.reduceEq, Int.reduceAdd, Int.reduceSub, reduceCtorEq, *] | intro _ | refine contC_split ?_ ?_ | refine contG_split ?_ ?_)
    all_goals simp
  · intro j env a m hj hI Lp hLp
    obtain ⟨i, hij, he⟩ := hI
    simp only [vals_cons, vals_nil, List.cons.injEq, and_true] at he
    obtain ⟨h0, h1, h5⟩ := he
    by_cases hi : i < l.length
    · repeat' (first | simp (config := {contextual := true, maxSteps := 10000000}) (disch := first | assumption | omega) only [go_sem, Try.f41, ↓reduceIte, Nat.reduceEqDiff, Nat.reduceAdd, Nat.reduceSub, Nat.reduceMul, Nat.reduceLeDiff, Nat.reduceLT, Int.reduceNeg, Int.reduceToNat, Int.reduceLT, Int.reduceLE, Int.reduceEq, Int.reduceAdd, Int.reduceSub, reduceCtorEq, Int.ofNat_lt, *] | intro _ | refine contC_split ?_ ?_ | refine contG_split ?_ ?_)
      exact hLp.out (j - 1) _ _ (by omega) ⟨i + 1, by omega, rfl⟩
    · repeat' (first | simp (config := {contextual := true, maxSteps := 10000000}) (disch := first | assumption | omega) only [go_sem, Try.f41, ↓reduceIte, Nat.reduceEqDiff, Nat.reduceAdd, Nat.reduceSub, Nat.reduceMul, Nat.reduceLeDiff, Nat.reduceLT, Int.reduceNeg, Int.reduceToNat, Int.reduceLT, Int.reduceLE, Int.reduceEq, Int.reduceAdd, Int.reduceSub, reduceCtorEq, Int.ofNat_lt, *] | intro _ | refine contC_split ?_ ?_ | refine contG_split ?_ ?_)
      exact hR.out.symm
end Go.Ev.R
