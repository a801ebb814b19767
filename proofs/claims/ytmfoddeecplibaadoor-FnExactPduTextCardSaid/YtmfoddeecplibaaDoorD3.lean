/- Names, values, requests as text. -/
import Derived.Test.YtmfoddeecplibaaDoorD2
set_option maxRecDepth 100000
set_option maxHeartbeats 4000000
set_option linter.unusedVariables false
set_option linter.unusedSimpArgs false
namespace Go.Ev.D
open Go Go.Ev Go.Proofs
@[go_sem] theorem impl_OidText_run (n : Nat) (o : List Int) (hl : o.length ≤ 140737488355328) : Pn (n+3) 28 [.one (.sl 1 (o.map intC))] = some (.str (oidText o)) := by
  refine fnP rfl Tryd.func28 (by kernel_rfl) rfl (fun R hR => ?_)
  by_cases ho : oidOk o = true
  · obtain ⟨ho1, ho2, ho3⟩ := oidOk_at ho
    have hot : oidText o = joinB (o.map itoaB) dotB := by unfold oidText; rw [if_pos ho]
    repeat' (first | simp (config := {contextual := true, maxSteps := 10000000}) (disch := first | assumption | omega) only [go_sem, Tryd.f28, ↓reduceIte, Nat.reduceEqDiff, Nat.reduceAdd, Nat.reduceSub, Nat.reduceMul, Nat.reduceLeDiff, Nat.reduceLT, Int.reduceNeg, Int.reduceToNat, Int.reduceLT, Int.reduceLE, Int.reduceEq, Int.reduceAdd, Int.reduceSub, reduceCtorEq, *] | intro _ | refine contC_split ?_ ?_ | refine contG_split ?_ ?_)
    refine wp_loopF [9, 10] [3, 11] (fun j vs hp => ∃ (i : Nat) (out : V), (i + j = o.length) ∧ vs = [out, .i64 i] ∧ (Own hp.at_ hp.next 0 out 1 (((o.take i).map itoaB).map strC))) (o.length) (by unfold NN; omega) (by decide) ?_ ?_
    · refine ⟨0, .nilSl, ?_, ?_, ?_⟩
      all_goals try (simp (config := {maxSteps := 10000000}) (disch := first | assumption | omega) only [go_sem, ↓reduceIte, Nat.reduceEqDiff, Nat.reduceAdd, Nat.reduceSub, Nat.reduceMul, Nat.reduceLeDiff, Nat.reduceLT, Int.reduceNeg, Int.reduceToNat, Int.reduceLT, Int.reduceLE, Int.reduceEq, Int.reduceAdd, Int.reduceSub, reduceCtorEq, List.cons.injEq, *])
      all_goals try (first | done | rfl | (constructor <;> rfl) | omega | (simp (disch := omega) [upd]; done) | (simp (disch := omega) [upd]; omega))
    · intro j env' hat hnx hj hu hI Lp hLp
      obtain ⟨i, out, hR0, he, hH⟩ := hI
      try simp (config := {maxSteps := 10000000}) (disch := first | assumption | omega) only [go_sem, ↓reduceIte, Nat.reduceEqDiff, Nat.reduceAdd, Nat.reduceSub, Nat.reduceMul, Nat.reduceLeDiff, Nat.reduceLT, Int.reduceNeg, Int.reduceToNat, Int.reduceLT, Int.reduceLE, Int.reduceEq, Int.reduceAdd, Int.reduceSub, reduceCtorEq, List.cons.injEq, and_true, true_and] at hu
      try simp (config := {maxSteps := 10000000}) (disch := first | assumption | omega) only [go_sem, ↓reduceIte, Nat.reduceEqDiff, Nat.reduceAdd, Nat.reduceSub, Nat.reduceMul, Nat.reduceLeDiff, Nat.reduceLT, Int.reduceNeg, Int.reduceToNat, Int.reduceLT, Int.reduceLE, Int.reduceEq, Int.reduceAdd, Int.reduceSub, reduceCtorEq, List.cons.injEq, and_true, true_and] at he
      try simp (config := {maxSteps := 10000000}) (disch := first | assumption | omega) only [go_sem, ↓reduceIte, Nat.reduceEqDiff, Nat.reduceAdd, Nat.reduceSub, Nat.reduceMul, Nat.reduceLeDiff, Nat.reduceLT, Int.reduceNeg, Int.reduceToNat, Int.reduceLT, Int.reduceLE, Int.reduceEq, Int.reduceAdd, Int.reduceSub, reduceCtorEq, List.cons.injEq, and_true, true_and] at hH
      by_cases hi : i < o.length
      · have hv := ho3 i hi
        rw [show o.getD i 0 = o[i] by simp [List.getD, hi]] at hv
        obtain ⟨rows, hrw⟩ : ∃ rows, rows = List.map strC (List.map itoaB (o.take i)) := ⟨_, rfl⟩
        have hrl : rows.length = i := by rw [hrw]; simp; omega
        have hnext : Hd (List.map strC (List.map itoaB (o.take (i + 1))) = rows ++ [strC (itoaB o[i])]) := Hd.mk (by rw [hrw, List.take_succ_eq_append_getElem hi]; simp only [List.map_append, List.map_cons, List.map_nil])
        rw [← hrw] at hH
        clear hrw
        rcases hH with ⟨rfl, rfl⟩ | ⟨b, rfl, hb, hb1, hb2⟩
        all_goals repeat' (first | simp (config := {contextual := true, maxSteps := 10000000}) (disch := first | assumption | omega) only [go_sem, Tryd.f28, ↓reduceIte, Nat.reduceEqDiff, Nat.reduceAdd, Nat.reduceSub, Nat.reduceMul, Nat.reduceLeDiff, Nat.reduceLT, Int.reduceNeg, Int.reduceToNat, Int.reduceLT, Int.reduceLE, Int.reduceEq, Int.reduceAdd, Int.reduceSub, reduceCtorEq, Int.ofNat_lt, ne_nat, *] | intro _ | refine contC_split ?_ ?_ | refine contG_split ?_ ?_)
        all_goals refine hLp.out (j - 1) _ _ (by omega) ⟨i + 1, _, by omega, rfl, ?_⟩
        all_goals rw [hnext.out]
        all_goals refine Own.mk ?_ ?_ (by omega) (by simp)
        all_goals simp (disch := omega) [upd, ne_nat, strC, hrl]
        all_goals try exact List.take_of_length_le (by omega)
      · have hi' : i = o.length := by omega
        subst hi'
        have htl : List.take o.length o = o := List.take_length
        rw [htl] at hH
        have hjl : (Lib.join ((o.map itoaB).map (·.data.toList)) (⟨#[46]⟩ : ByteArray).data.toList).length ≤ 140737488355328 := by
          have h1 := oidText_size o
          rw [hot] at h1
          have e : (joinB (o.map itoaB) dotB).size = (Lib.join ((o.map itoaB).map (·.data.toList)) (⟨#[46]⟩ : ByteArray).data.toList).length := by
            unfold joinB dotB
            exact List.size_toArray
          omega
        rcases hH with ⟨rfl, h0⟩ | ⟨b, rfl, hb, hb1, hb2⟩
        · cases o with
          | nil => simp at ho1
          | cons x o => simp at h0
        · have hwl : (o.map itoaB).length ≤ 140737488355328 := by simp; omega
          have htt : List.take o.length (List.map strC (List.map itoaB o)) = List.map strC (List.map itoaB o) := List.take_of_length_le (by simp)
          repeat' (first | simp (config := {contextual := true, maxSteps := 10000000}) (disch := first | assumption | omega) only [go_sem, Tryd.f28, ↓reduceIte, Nat.reduceEqDiff, Nat.reduceAdd, Nat.reduceSub, Nat.reduceMul, Nat.reduceLeDiff, Nat.reduceLT, Int.reduceNeg, Int.reduceToNat, Int.reduceLT, Int.reduceLE, Int.reduceEq, Int.reduceAdd, Int.reduceSub, reduceCtorEq, Int.ofNat_lt, ne_nat, Nat.lt_irrefl, *] | intro _ | refine contC_split ?_ ?_ | refine contG_split ?_ ?_)
          all_goals (have hR2 : R = _ := hR; subst hR2)
          rw [hot]; rfl
  · simp only [Bool.not_eq_true] at ho
    have hot : oidText o = ⟨#[]⟩ := by unfold oidText; rw [ho]; rfl
    repeat' (first | simp (config := {contextual := true, maxSteps := 10000000}) (disch := first | assumption | omega) only [go_sem, Tryd.f28, ↓reduceIte, Nat.reduceEqDiff, Nat.reduceAdd, Nat.reduceSub, Nat.reduceMul, Nat.reduceLeDiff, Nat.reduceLT, Int.reduceNeg, Int.reduceToNat, Int.reduceLT, Int.reduceLE, Int.reduceEq, Int.reduceAdd, Int.reduceSub, reduceCtorEq, *] | intro _ | refine contC_split ?_ ?_ | refine contG_split ?_ ?_)
    all_goals (have hR2 : R = _ := hR; subst hR2)
    rw [hot]
@[go_sem] theorem spec_OidText_run (n : Nat) (o : List Int) (hl : o.length ≤ 140737488355328) : Pn (n+16) 24 [.one (.sl 1 (o.map intC))] = some (.str (oidText o)) := by
  refine fnP rfl Tryd.func24 (by kernel_rfl) rfl (fun R hR => ?_)
  by_cases ho : oidOk o = true
  · obtain ⟨ho1, ho2, ho3⟩ := oidOk_at ho
    have hot := oidText_join o
    rw [if_pos ho] at hot
    have hts := accText_size (fun i => itoaB (o.getD i 0)) dotB 22 o.length (fun i hi => by
      have := itoaB_size (n := o.getD i 0) (by have := ho3 i hi; omega) (by have := ho3 i hi; omega)
      have e : dotB.size = 1 := rfl
      show (itoaB (o.getD i 0)).size + dotB.size ≤ 22
      omega)
    repeat' (first | simp (config := {contextual := true, maxSteps := 10000000}) (disch := first | assumption | omega) only [go_sem, Tryd.f24, ↓reduceIte, Nat.reduceEqDiff, Nat.reduceAdd, Nat.reduceSub, Nat.reduceMul, Nat.reduceLeDiff, Nat.reduceLT, Int.reduceNeg, Int.reduceToNat, Int.reduceLT, Int.reduceLE, Int.reduceEq, Int.reduceAdd, Int.reduceSub, reduceCtorEq, *] | intro _ | refine contC_split ?_ ?_ | refine contG_split ?_ ?_)
    refine wp_loopF [0] [3, 4] (fun j vs hp => ∃ (i : Nat), (i + j = o.length) ∧ vs = [.str (accText (fun i => itoaB (o.getD i 0)) dotB i), .i64 i]) (o.length) (by unfold NN; omega) (by decide) ?_ ?_
    · refine ⟨0, ?_, ?_⟩
      all_goals try (simp (config := {maxSteps := 10000000}) (disch := first | assumption | omega) only [go_sem, ↓reduceIte, Nat.reduceEqDiff, Nat.reduceAdd, Nat.reduceSub, Nat.reduceMul, Nat.reduceLeDiff, Nat.reduceLT, Int.reduceNeg, Int.reduceToNat, Int.reduceLT, Int.reduceLE, Int.reduceEq, Int.reduceAdd, Int.reduceSub, reduceCtorEq, List.cons.injEq, *])
      all_goals try (first | done | rfl | (constructor <;> rfl) | omega | (simp (disch := omega) [upd]; done) | (simp (disch := omega) [upd]; omega))
    · intro j env' hat hnx hj hu hI Lp hLp
      obtain ⟨i, hR0, he⟩ := hI
      try simp (config := {maxSteps := 10000000}) (disch := first | assumption | omega) only [go_sem, ↓reduceIte, Nat.reduceEqDiff, Nat.reduceAdd, Nat.reduceSub, Nat.reduceMul, Nat.reduceLeDiff, Nat.reduceLT, Int.reduceNeg, Int.reduceToNat, Int.reduceLT, Int.reduceLE, Int.reduceEq, Int.reduceAdd, Int.reduceSub, reduceCtorEq, List.cons.injEq, and_true, true_and] at hu
      try simp (config := {maxSteps := 10000000}) (disch := first | assumption | omega) only [go_sem, ↓reduceIte, Nat.reduceEqDiff, Nat.reduceAdd, Nat.reduceSub, Nat.reduceMul, Nat.reduceLeDiff, Nat.reduceLT, Int.reduceNeg, Int.reduceToNat, Int.reduceLT, Int.reduceLE, Int.reduceEq, Int.reduceAdd, Int.reduceSub, reduceCtorEq, List.cons.injEq, and_true, true_and] at he
      by_cases hi : i < o.length
      · have hv := ho3 i hi
        have hv2 := Hd.mk hv
        rw [show o.getD i 0 = o[i] by simp [List.getD, hi]] at hv
        have hsz := hts i (by omega)
        have hsi := itoaB_size (n := o[i]) (by omega) (by omega)
        have hd : (⟨#[46]⟩ : ByteArray).size = 1 := rfl
        have hnx2 := Hd.mk (show accText (fun i => itoaB (o.getD i 0)) dotB (i + 1) = (if 0 < i then accText (fun i => itoaB (o.getD i 0)) dotB i ++ dotB else accText (fun i => itoaB (o.getD i 0)) dotB i) ++ itoaB (o.getD i 0) from rfl)
        have hge := Hd.mk (show o.getD i 0 = o[i] by simp [List.getD, hi])
        generalize hs0 : accText (fun i => itoaB (o.getD i 0)) dotB i = s0 at he hsz hnx2
        by_cases hi0 : 0 < i
        all_goals repeat' (first | simp (config := {contextual := true, maxSteps := 10000000}) (disch := first | assumption | omega) only [go_sem, Tryd.f24, ↓reduceIte, Nat.reduceEqDiff, Nat.reduceAdd, Nat.reduceSub, Nat.reduceMul, Nat.reduceLeDiff, Nat.reduceLT, Int.reduceNeg, Int.reduceToNat, Int.reduceLT, Int.reduceLE, Int.reduceEq, Int.reduceAdd, Int.reduceSub, reduceCtorEq, Int.ofNat_lt, Int.natCast_pos, ByteArray.size_append, *] | intro _ | refine contC_split ?_ ?_ | refine contG_split ?_ ?_)
        all_goals refine hLp.out (j - 1) _ _ (by omega) ⟨i + 1, by omega, ?_⟩
        all_goals (rw [hnx2.out, hge.out]; simp [hi0, dotB])
      · have hi' : i = o.length := by omega
        subst hi'
        repeat' (first | simp (config := {contextual := true, maxSteps := 10000000}) (disch := first | assumption | omega) only [go_sem, Tryd.f24, ↓reduceIte, Nat.reduceEqDiff, Nat.reduceAdd, Nat.reduceSub, Nat.reduceMul, Nat.reduceLeDiff, Nat.reduceLT, Int.reduceNeg, Int.reduceToNat, Int.reduceLT, Int.reduceLE, Int.reduceEq, Int.reduceAdd, Int.reduceSub, reduceCtorEq, Int.ofNat_lt, Nat.lt_irrefl, *] | intro _ | refine contC_split ?_ ?_ | refine contG_split ?_ ?_)
        all_goals (have hR2 : R = _ := hR; subst hR2)
        rw [hot]
  · simp only [Bool.not_eq_true] at ho
    have hot : oidText o = ⟨#[]⟩ := by unfold oidText; rw [ho]; rfl
    repeat' (first | simp (config := {contextual := true, maxSteps := 10000000}) (disch := first | assumption | omega) only [go_sem, Tryd.f24, ↓reduceIte, Nat.reduceEqDiff, Nat.reduceAdd, Nat.reduceSub, Nat.reduceMul, Nat.reduceLeDiff, Nat.reduceLT, Int.reduceNeg, Int.reduceToNat, Int.reduceLT, Int.reduceLE, Int.reduceEq, Int.reduceAdd, Int.reduceSub, reduceCtorEq, *] | intro _ | refine contC_split ?_ ?_ | refine contG_split ?_ ?_)
    all_goals (have hR2 : R = _ := hR; subst hR2)
    rw [hot]
theorem valOk_n {v : Val} (h : valOk v = true) (hk : v.k = 2) : -2147483648 ≤ v.n ∧ v.n ≤ 2147483647 := by
  unfold valOk at h
  rw [if_pos hk] at h
  simp only [isInt, inR, Bool.and_eq_true, decide_eq_true_eq] at h
  omega
theorem valOk_s {v : Val} (h : valOk v = true) (hk : v.k = 4) : v.s.size ≤ 20 := by
  unfold valOk at h
  rw [if_neg (by omega), if_pos hk] at h
  simp only [Bool.and_eq_true, decide_eq_true_eq] at h
  omega
theorem valOk_k {v : Val} (h : valOk v = true) : v.k = 2 ∨ v.k = 4 ∨ v.k = 6 ∨ v.k = 5 ∨ v.k = 128 ∨ v.k = 130 := by
  unfold valOk at h; grind
@[go_sem] theorem impl_ValText_run (n : Nat) (a_k : Int) (a_n : Int) (a_s : ByteArray) (a_o : List Int) (hl : a_o.length ≤ 140737488355328) : Pn (n+3+1) 9 [.agg [.lit (.int .i64 a_k), .lit (.int .i64 a_n), .lit (.string a_s), .sl 1 (a_o.map intC)]] = some (.str (valText ⟨a_k, a_n, a_s, a_o⟩)) := by
  refine fnP rfl Tryd.func9 (by kernel_rfl) rfl (fun R hR => ?_)
  have hq : (⟨#[39]⟩ : ByteArray).size = 1 := rfl
  by_cases hv : valOk ⟨a_k, a_n, a_s, a_o⟩ = true
  · by_cases hk : a_k = 2
    · have hn := valOk_n hv hk
      simp only at hn
      repeat' (first | simp (config := {contextual := true, maxSteps := 10000000}) (disch := first | assumption | omega) only [go_sem, Tryd.f9, ↓reduceIte, Nat.reduceEqDiff, Nat.reduceAdd, Nat.reduceSub, Nat.reduceMul, Nat.reduceLeDiff, Nat.reduceLT, Int.reduceNeg, Int.reduceToNat, Int.reduceLT, Int.reduceLE, Int.reduceEq, Int.reduceAdd, Int.reduceSub, reduceCtorEq, *] | intro _ | refine contC_split ?_ ?_ | refine contG_split ?_ ?_)
      all_goals (have hR2 : R = _ := hR; subst hR2)
      all_goals (unfold valText; simp_all)
    · by_cases hk4 : a_k = 4
      · have hn := valOk_s hv hk4
        simp only at hn
        repeat' (first | simp (config := {contextual := true, maxSteps := 10000000}) (disch := first | assumption | omega) only [go_sem, Tryd.f9, ↓reduceIte, Nat.reduceEqDiff, Nat.reduceAdd, Nat.reduceSub, Nat.reduceMul, Nat.reduceLeDiff, Nat.reduceLT, Int.reduceNeg, Int.reduceToNat, Int.reduceLT, Int.reduceLE, Int.reduceEq, Int.reduceAdd, Int.reduceSub, reduceCtorEq, ByteArray.size_append, *] | intro _ | refine contC_split ?_ ?_ | refine contG_split ?_ ?_)
        all_goals (have hR2 : R = _ := hR; subst hR2)
        all_goals (unfold valText; simp_all [quoB])
      · have hvk := valOk_k hv
        simp only at hvk
        repeat' (first | simp (config := {contextual := true, maxSteps := 10000000}) (disch := first | assumption | omega) only [go_sem, Tryd.f9, ↓reduceIte, Nat.reduceEqDiff, Nat.reduceAdd, Nat.reduceSub, Nat.reduceMul, Nat.reduceLeDiff, Nat.reduceLT, Int.reduceNeg, Int.reduceToNat, Int.reduceLT, Int.reduceLE, Int.reduceEq, Int.reduceAdd, Int.reduceSub, reduceCtorEq, *] | intro _ | refine contC_split ?_ ?_ | refine contG_split ?_ ?_)
        all_goals (have hR2 : R = _ := hR; subst hR2)
        all_goals (unfold valText; simp_all)
  · simp only [Bool.not_eq_true] at hv
    repeat' (first | simp (config := {contextual := true, maxSteps := 10000000}) (disch := first | assumption | omega) only [go_sem, Tryd.f9, ↓reduceIte, Nat.reduceEqDiff, Nat.reduceAdd, Nat.reduceSub, Nat.reduceMul, Nat.reduceLeDiff, Nat.reduceLT, Int.reduceNeg, Int.reduceToNat, Int.reduceLT, Int.reduceLE, Int.reduceEq, Int.reduceAdd, Int.reduceSub, reduceCtorEq, *] | intro _ | refine contC_split ?_ ?_ | refine contG_split ?_ ?_)
    all_goals (have hR2 : R = _ := hR; subst hR2)
    all_goals (unfold valText; simp_all)
@[go_sem] theorem spec_ValText_run (n : Nat) (a_k : Int) (a_n : Int) (a_s : ByteArray) (a_o : List Int) (hl : a_o.length ≤ 140737488355328) : Pn (n+16+1) 7 [.agg [.lit (.int .i64 a_k), .lit (.int .i64 a_n), .lit (.string a_s), .sl 1 (a_o.map intC)]] = some (.str (valText ⟨a_k, a_n, a_s, a_o⟩)) := by
  refine fnP rfl Tryd.func7 (by kernel_rfl) rfl (fun R hR => ?_)
  have hq : (⟨#[39]⟩ : ByteArray).size = 1 := rfl
  by_cases hv : valOk ⟨a_k, a_n, a_s, a_o⟩ = true
  · by_cases hk : a_k = 2
    · have hn := valOk_n hv hk
      simp only at hn
      repeat' (first | simp (config := {contextual := true, maxSteps := 10000000}) (disch := first | assumption | omega) only [go_sem, Tryd.f7, ↓reduceIte, Nat.reduceEqDiff, Nat.reduceAdd, Nat.reduceSub, Nat.reduceMul, Nat.reduceLeDiff, Nat.reduceLT, Int.reduceNeg, Int.reduceToNat, Int.reduceLT, Int.reduceLE, Int.reduceEq, Int.reduceAdd, Int.reduceSub, reduceCtorEq, *] | intro _ | refine contC_split ?_ ?_ | refine contG_split ?_ ?_)
      all_goals (have hR2 : R = _ := hR; subst hR2)
      all_goals (unfold valText; simp_all)
    · by_cases hk4 : a_k = 4
      · have hn := valOk_s hv hk4
        simp only at hn
        repeat' (first | simp (config := {contextual := true, maxSteps := 10000000}) (disch := first | assumption | omega) only [go_sem, Tryd.f7, ↓reduceIte, Nat.reduceEqDiff, Nat.reduceAdd, Nat.reduceSub, Nat.reduceMul, Nat.reduceLeDiff, Nat.reduceLT, Int.reduceNeg, Int.reduceToNat, Int.reduceLT, Int.reduceLE, Int.reduceEq, Int.reduceAdd, Int.reduceSub, reduceCtorEq, ByteArray.size_append, *] | intro _ | refine contC_split ?_ ?_ | refine contG_split ?_ ?_)
        all_goals (have hR2 : R = _ := hR; subst hR2)
        all_goals (unfold valText; simp_all [quoB])
      · have hvk := valOk_k hv
        simp only at hvk
        repeat' (first | simp (config := {contextual := true, maxSteps := 10000000}) (disch := first | assumption | omega) only [go_sem, Tryd.f7, ↓reduceIte, Nat.reduceEqDiff, Nat.reduceAdd, Nat.reduceSub, Nat.reduceMul, Nat.reduceLeDiff, Nat.reduceLT, Int.reduceNeg, Int.reduceToNat, Int.reduceLT, Int.reduceLE, Int.reduceEq, Int.reduceAdd, Int.reduceSub, reduceCtorEq, *] | intro _ | refine contC_split ?_ ?_ | refine contG_split ?_ ?_)
        all_goals (have hR2 : R = _ := hR; subst hR2)
        all_goals (unfold valText; simp_all)
  · simp only [Bool.not_eq_true] at hv
    repeat' (first | simp (config := {contextual := true, maxSteps := 10000000}) (disch := first | assumption | omega) only [go_sem, Tryd.f7, ↓reduceIte, Nat.reduceEqDiff, Nat.reduceAdd, Nat.reduceSub, Nat.reduceMul, Nat.reduceLeDiff, Nat.reduceLT, Int.reduceNeg, Int.reduceToNat, Int.reduceLT, Int.reduceLE, Int.reduceEq, Int.reduceAdd, Int.reduceSub, reduceCtorEq, *] | intro _ | refine contC_split ?_ ?_ | refine contG_split ?_ ?_)
    all_goals (have hR2 : R = _ := hR; subst hR2)
    all_goals (unfold valText; simp_all)
@[go_sem] theorem impl_BindText_run (n : Nat) (a_o : List Int) (a_v_k : Int) (a_v_n : Int) (a_v_s : ByteArray) (a_v_o : List Int) (hl : a_o.length ≤ 140737488355328) (hl2 : a_v_o.length ≤ 140737488355328) : Pn (n+4+1) 14 [.agg [.sl 1 (a_o.map intC), .lit (.int .i64 a_v_k), .lit (.int .i64 a_v_n), .lit (.string a_v_s), .sl 1 (a_v_o.map intC)]] = some (.str (bindText ⟨a_o, ⟨a_v_k, a_v_n, a_v_s, a_v_o⟩⟩)) := by
  refine fnP rfl Tryd.func14 (by kernel_rfl) rfl (fun R hR => ?_)
  have h1 := oidText_size a_o
  have h2 := valText_size ⟨a_v_k, a_v_n, a_v_s, a_v_o⟩
  have hq : (⟨#[32, 61, 32]⟩ : ByteArray).size = 3 := rfl
  repeat' (first | simp (config := {contextual := true, maxSteps := 10000000}) (disch := first | assumption | omega) only [go_sem, Tryd.f14, ↓reduceIte, Nat.reduceEqDiff, Nat.reduceAdd, Nat.reduceSub, Nat.reduceMul, Nat.reduceLeDiff, Nat.reduceLT, Int.reduceNeg, Int.reduceToNat, Int.reduceLT, Int.reduceLE, Int.reduceEq, Int.reduceAdd, Int.reduceSub, reduceCtorEq, ByteArray.size_append, *] | intro _ | refine contC_split ?_ ?_ | refine contG_split ?_ ?_)
  all_goals (have hR2 : R = _ := hR; subst hR2)
  rfl
@[go_sem] theorem spec_BindText_run (n : Nat) (a_o : List Int) (a_v_k : Int) (a_v_n : Int) (a_v_s : ByteArray) (a_v_o : List Int) (hl : a_o.length ≤ 140737488355328) (hl2 : a_v_o.length ≤ 140737488355328) : Pn (n+17+1) 12 [.agg [.sl 1 (a_o.map intC), .lit (.int .i64 a_v_k), .lit (.int .i64 a_v_n), .lit (.string a_v_s), .sl 1 (a_v_o.map intC)]] = some (.str (bindText ⟨a_o, ⟨a_v_k, a_v_n, a_v_s, a_v_o⟩⟩)) := by
  refine fnP rfl Tryd.func12 (by kernel_rfl) rfl (fun R hR => ?_)
  have h1 := oidText_size a_o
  have h2 := valText_size ⟨a_v_k, a_v_n, a_v_s, a_v_o⟩
  have hq : (⟨#[32, 61, 32]⟩ : ByteArray).size = 3 := rfl
  repeat' (first | simp (config := {contextual := true, maxSteps := 10000000}) (disch := first | assumption | omega) only [go_sem, Tryd.f12, ↓reduceIte, Nat.reduceEqDiff, Nat.reduceAdd, Nat.reduceSub, Nat.reduceMul, Nat.reduceLeDiff, Nat.reduceLT, Int.reduceNeg, Int.reduceToNat, Int.reduceLT, Int.reduceLE, Int.reduceEq, Int.reduceAdd, Int.reduceSub, reduceCtorEq, ByteArray.size_append, *] | intro _ | refine contC_split ?_ ?_ | refine contG_split ?_ ?_)
  all_goals (have hR2 : R = _ := hR; subst hR2)
  rfl
end Go.Ev.D
