/- What the laws' own functions answer: sizes, copies, sameness. -/
import Derived.Test.YtmfoddeecplibaaDoorD0
import Derived.Test.YtmfoddeecplibaaDoorM6
import Derived.Test.YtmfoddeecplibaaDoorD3
set_option maxRecDepth 100000
set_option maxHeartbeats 4000000
set_option linter.unusedVariables false
set_option linter.unusedSimpArgs false
namespace Go.Ev.D
open Go Go.Ev Go.Proofs
@[go_sem] theorem szIntS_run (n : Nat) (l : List Int) (left : Int) (h1 : Small left) (h3 : l.length ≤ 140737488351232) : Pn (n+1) 21 [.one (.sl 1 (l.map intC)), .i64 left] = some (.i64 (szL left l.length)) := by
  unfold Small at h1
  refine fnP rfl Tryd.func21 (by kernel_rfl) rfl (fun R hR => ?_)
  repeat' (first | simp (config := {contextual := true, maxSteps := 10000000}) (disch := first | assumption | omega) only [go_sem, Tryd.f21, ↓reduceIte, Nat.reduceEqDiff, Nat.reduceAdd, Nat.reduceSub, Nat.reduceMul, Nat.reduceLeDiff, Nat.reduceLT, Int.reduceNeg, Int.reduceToNat, Int.reduceLT, Int.reduceLE, Int.reduceEq, Int.reduceAdd, Int.reduceSub, reduceCtorEq, *] | intro _ | refine contC_split ?_ ?_ | refine contG_split ?_ ?_)
  all_goals (have hR2 : R = _ := hR; subst hR2)
  all_goals grind [szL]
@[go_sem] theorem szVal_run (n : Nat) (a_k : Int) (a_n : Int) (a_s : ByteArray) (a_o : List Int) (left : Int) (h1 : Small left) (hf : (⟨a_k, a_n, a_s, a_o⟩ : Val).Fits) : Pn (n+2) 6 [.agg [.lit (.int .i64 a_k), .lit (.int .i64 a_n), .lit (.string a_s), .sl 1 (a_o.map intC)], .i64 left] = some (.i64 (szVal ⟨a_k, a_n, a_s, a_o⟩ left)) := by
  have hf_s : a_s.size ≤ 140737488351232 := hf.s
  have hf_o : a_o.length ≤ 140737488351232 := by have t : a_o.length * 8 ≤ reachBytes := hf.o.1; have e : reachBytes = 140737488351232 := rfl; omega
  have s0 : Small (szL (left) a_s.size) := szL_small h1
  have s1 : Small (szL (szL (left) a_s.size) a_o.length) := szL_small s0
  have hv : szVal ⟨a_k, a_n, a_s, a_o⟩ left = szL (szL (left) a_s.size) a_o.length := rfl
  have q0 := s0
  unfold Small at q0
  have q1 := s1
  unfold Small at q1
  have q := h1
  unfold Small at q
  have e0 : szL (left) a_s.size = if (left) - a_s.size < 0 then -1 else (left) - a_s.size := rfl
  refine fnP rfl Tryd.func6 (by kernel_rfl) rfl (fun R hR => ?_)
  by_cases hn : (left) - a_s.size < 0
  · rw [if_pos hn] at e0
    have hneg : szVal ⟨a_k, a_n, a_s, a_o⟩ left = -1 := by rw [hv, e0]; first | rfl | exact szneg_tail _ | (simp [szL_m1, szVtabS_m1, szBridgeS_m1, szValS_m1, szBndS_m1, szPduS_m1, szFrameS_m1, szOutpS_m1, szGotS_m1, szDoneS_m1, szJobS_m1, szAgentS_m1, szNetS_m1, szVtab_m1, szBridge_m1, szVal_m1, szBnd_m1, szPdu_m1, szFrame_m1, szOutp_m1, szGot_m1, szDone_m1, szJob_m1, szAgent_m1, szNet_m1])
    repeat' (first | simp (config := {contextual := true, maxSteps := 10000000}) (disch := first | assumption | omega) only [go_sem, Tryd.f6, ↓reduceIte, Nat.reduceEqDiff, Nat.reduceAdd, Nat.reduceSub, Nat.reduceMul, Nat.reduceLeDiff, Nat.reduceLT, Int.reduceNeg, Int.reduceToNat, Int.reduceLT, Int.reduceLE, Int.reduceEq, Int.reduceAdd, Int.reduceSub, reduceCtorEq, *] | intro _ | refine contC_split ?_ ?_ | refine contG_split ?_ ?_)
    all_goals (have hR2 : R = _ := hR; subst hR2)
    all_goals (rw [hneg])
  · rw [if_neg hn] at e0
    rw [e0] at hv
    rw [e0] at s0 q0
    rw [e0] at s1 q1
    repeat' (first | simp (config := {contextual := true, maxSteps := 10000000}) (disch := first | assumption | omega) only [go_sem, Tryd.f6, ↓reduceIte, Nat.reduceEqDiff, Nat.reduceAdd, Nat.reduceSub, Nat.reduceMul, Nat.reduceLeDiff, Nat.reduceLT, Int.reduceNeg, Int.reduceToNat, Int.reduceLT, Int.reduceLE, Int.reduceEq, Int.reduceAdd, Int.reduceSub, reduceCtorEq, *] | intro _ | refine contC_split ?_ ?_ | refine contG_split ?_ ?_)
    all_goals (have hR2 : R = _ := hR; subst hR2)
    all_goals first | (rw [hv]; done) | (rw [hv]; first | rfl | grind [szL_m1, szVtab_neg, szBridge_neg, szVal_neg, szBnd_neg, szPdu_neg, szFrame_neg, szOutp_neg, szGot_neg, szDone_neg, szJob_neg, szAgent_neg, szNet_neg, szVtabS_neg, szBridgeS_neg, szValS_neg, szBndS_neg, szPduS_neg, szFrameS_neg, szOutpS_neg, szGotS_neg, szDoneS_neg, szJobS_neg, szAgentS_neg, szNetS_neg])
@[go_sem] theorem szBnd_run (n : Nat) (a_o : List Int) (a_v_k : Int) (a_v_n : Int) (a_v_s : ByteArray) (a_v_o : List Int) (left : Int) (h1 : Small left) (hf : (⟨a_o, ⟨a_v_k, a_v_n, a_v_s, a_v_o⟩⟩ : Bnd).Fits) : Pn (n+3) 11 [.agg [.sl 1 (a_o.map intC), .lit (.int .i64 a_v_k), .lit (.int .i64 a_v_n), .lit (.string a_v_s), .sl 1 (a_v_o.map intC)], .i64 left] = some (.i64 (szBnd ⟨a_o, ⟨a_v_k, a_v_n, a_v_s, a_v_o⟩⟩ left)) := by
  have hf_o : a_o.length ≤ 140737488351232 := by have t : a_o.length * 8 ≤ reachBytes := hf.o.1; have e : reachBytes = 140737488351232 := rfl; omega
  have hf_v : (⟨a_v_k, a_v_n, a_v_s, a_v_o⟩ : Val).Fits := hf.v
  have hf_v_s : a_v_s.size ≤ 140737488351232 := hf_v.s
  have hf_v_o : a_v_o.length ≤ 140737488351232 := by have t : a_v_o.length * 8 ≤ reachBytes := hf_v.o.1; have e : reachBytes = 140737488351232 := rfl; omega
  have s0 : Small (szL (left) a_o.length) := szL_small h1
  have s1 : Small (szVal ⟨a_v_k, a_v_n, a_v_s, a_v_o⟩ (szL (left) a_o.length)) := szVal_small s0
  have hv : szBnd ⟨a_o, ⟨a_v_k, a_v_n, a_v_s, a_v_o⟩⟩ left = szVal ⟨a_v_k, a_v_n, a_v_s, a_v_o⟩ (szL (left) a_o.length) := rfl
  have q0 := s0
  unfold Small at q0
  have q1 := s1
  unfold Small at q1
  have q := h1
  unfold Small at q
  refine fnP rfl Tryd.func11 (by kernel_rfl) rfl (fun R hR => ?_)
  repeat' (first | simp (config := {contextual := true, maxSteps := 10000000}) (disch := first | assumption | omega) only [go_sem, Tryd.f11, ↓reduceIte, Nat.reduceEqDiff, Nat.reduceAdd, Nat.reduceSub, Nat.reduceMul, Nat.reduceLeDiff, Nat.reduceLT, Int.reduceNeg, Int.reduceToNat, Int.reduceLT, Int.reduceLE, Int.reduceEq, Int.reduceAdd, Int.reduceSub, reduceCtorEq, *] | intro _ | refine contC_split ?_ ?_ | refine contG_split ?_ ?_)
  all_goals (have hR2 : R = _ := hR; subst hR2)
  all_goals first | (rw [hv]; done) | (rw [hv]; first | rfl | grind [szL_neg, szVtab_neg, szBridge_neg, szVal_neg, szBnd_neg, szPdu_neg, szFrame_neg, szOutp_neg, szGot_neg, szDone_neg, szJob_neg, szAgent_neg, szNet_neg, szVtabS_neg, szBridgeS_neg, szValS_neg, szBndS_neg, szPduS_neg, szFrameS_neg, szOutpS_neg, szGotS_neg, szDoneS_neg, szJobS_neg, szAgentS_neg, szNetS_neg])
@[go_sem] theorem szBndS_run (n : Nat) (l : List Bnd) (left : Int) (h1 : Small left) (h3 : l.length ≤ 140737488351232) (hA : ∀ y ∈ l, y.Fits) : Pn (n+4) 30 [.one (.sl 5 (l.map Bnd.cs)), .i64 left] = some (.i64 (szBndS l left)) := by
  have q := h1
  unfold Small at q
  have e0 : szL left l.length = if left - l.length < 0 then -1 else left - l.length := rfl
  refine fnP rfl Tryd.func30 (by kernel_rfl) rfl (fun R hR => ?_)
  by_cases hn : left - l.length < 0
  · have hneg : szBndS l left = -1 := fold_neg (fun r y hr => szBnd_neg hr) _ _ (by rw [e0, if_pos hn])
    repeat' (first | simp (config := {contextual := true, maxSteps := 10000000}) (disch := first | assumption | omega) only [go_sem, Tryd.f30, ↓reduceIte, Nat.reduceEqDiff, Nat.reduceAdd, Nat.reduceSub, Nat.reduceMul, Nat.reduceLeDiff, Nat.reduceLT, Int.reduceNeg, Int.reduceToNat, Int.reduceLT, Int.reduceLE, Int.reduceEq, Int.reduceAdd, Int.reduceSub, reduceCtorEq, *] | intro _ | refine contC_split ?_ ?_ | refine contG_split ?_ ?_)
    all_goals (have hR2 : R = _ := hR; subst hR2)
    rw [hneg]
  · repeat' (first | simp (config := {contextual := true, maxSteps := 10000000}) (disch := first | assumption | omega) only [go_sem, Tryd.f30, ↓reduceIte, Nat.reduceEqDiff, Nat.reduceAdd, Nat.reduceSub, Nat.reduceMul, Nat.reduceLeDiff, Nat.reduceLT, Int.reduceNeg, Int.reduceToNat, Int.reduceLT, Int.reduceLE, Int.reduceEq, Int.reduceAdd, Int.reduceSub, reduceCtorEq, *] | intro _ | refine contC_split ?_ ?_ | refine contG_split ?_ ?_)
    refine wp_loopF [0] [1, 5] (fun j vs hp => ∃ (i : Nat) (acc : Int), (i + j = l.length ∧ Small acc ∧ 0 ≤ acc ∧ (l.drop i).foldl (fun r y => szBnd y r) acc = szBndS l left) ∧ vs = [.i64 acc, .i64 i]) (l.length) (by unfold NN; omega) (by decide) ?_ ?_
    · refine ⟨0, left - l.length, ?_, ?_⟩
      · (refine ⟨by omega, by unfold Small; omega, by omega, ?_⟩; unfold szBndS; rw [e0, if_neg hn]; rfl)
      all_goals try (simp (config := {maxSteps := 10000000}) (disch := first | assumption | omega) only [go_sem, ↓reduceIte, Nat.reduceEqDiff, Nat.reduceAdd, Nat.reduceSub, Nat.reduceMul, Nat.reduceLeDiff, Nat.reduceLT, Int.reduceNeg, Int.reduceToNat, Int.reduceLT, Int.reduceLE, Int.reduceEq, Int.reduceAdd, Int.reduceSub, reduceCtorEq, List.cons.injEq, *])
      all_goals try (first | done | rfl | (constructor <;> rfl) | omega | (simp (disch := omega) [upd]; done) | (simp (disch := omega) [upd]; omega))
    · intro j env' hat hnx hj hu hI Lp hLp
      obtain ⟨i, acc, hR0, he⟩ := hI
      try simp (config := {maxSteps := 10000000}) (disch := first | assumption | omega) only [go_sem, ↓reduceIte, Nat.reduceEqDiff, Nat.reduceAdd, Nat.reduceSub, Nat.reduceMul, Nat.reduceLeDiff, Nat.reduceLT, Int.reduceNeg, Int.reduceToNat, Int.reduceLT, Int.reduceLE, Int.reduceEq, Int.reduceAdd, Int.reduceSub, reduceCtorEq, List.cons.injEq, and_true, true_and] at hu
      try simp (config := {maxSteps := 10000000}) (disch := first | assumption | omega) only [go_sem, ↓reduceIte, Nat.reduceEqDiff, Nat.reduceAdd, Nat.reduceSub, Nat.reduceMul, Nat.reduceLeDiff, Nat.reduceLT, Int.reduceNeg, Int.reduceToNat, Int.reduceLT, Int.reduceLE, Int.reduceEq, Int.reduceAdd, Int.reduceSub, reduceCtorEq, List.cons.injEq, and_true, true_and] at he
      obtain ⟨hij, hs, h0, hf⟩ := hR0
      by_cases hi : i < l.length
      · have hy := hA l[i] (List.getElem_mem hi)
        have hsm := szBnd_small (x := l[i]) hs
        rw [List.drop_eq_getElem_cons hi, List.foldl_cons] at hf
        have hf2 := Hd.mk hf
        clear hf
        have qs := hsm
        unfold Small at qs
        by_cases hg : szBnd l[i] acc < 0
        · have hm1 : szBndS l left = -1 := by
            rw [← hf2.out]
            exact fold_neg (fun r y hr => szBnd_neg hr) _ _ (by omega)
          repeat' (first | simp (config := {contextual := true, maxSteps := 10000000}) (disch := first | assumption | omega) only [go_sem, Tryd.f30, ↓reduceIte, Nat.reduceEqDiff, Nat.reduceAdd, Nat.reduceSub, Nat.reduceMul, Nat.reduceLeDiff, Nat.reduceLT, Int.reduceNeg, Int.reduceToNat, Int.reduceLT, Int.reduceLE, Int.reduceEq, Int.reduceAdd, Int.reduceSub, reduceCtorEq, Int.ofNat_lt, *] | intro _ | refine contC_split ?_ ?_ | refine contG_split ?_ ?_)
          all_goals (have hR2 : R = _ := hR; subst hR2)
          rw [hm1]
        · repeat' (first | simp (config := {contextual := true, maxSteps := 10000000}) (disch := first | assumption | omega) only [go_sem, Tryd.f30, ↓reduceIte, Nat.reduceEqDiff, Nat.reduceAdd, Nat.reduceSub, Nat.reduceMul, Nat.reduceLeDiff, Nat.reduceLT, Int.reduceNeg, Int.reduceToNat, Int.reduceLT, Int.reduceLE, Int.reduceEq, Int.reduceAdd, Int.reduceSub, reduceCtorEq, Int.ofNat_lt, *] | intro _ | refine contC_split ?_ ?_ | refine contG_split ?_ ?_)
          exact hLp.out (j - 1) _ _ (by omega) ⟨i + 1, szBnd l[i] acc, ⟨by omega, hsm, by omega, hf2.out⟩, rfl⟩
      · have hi' : i = l.length := by omega
        subst hi'
        simp only [List.drop_length, List.foldl_nil] at hf
        subst hf
        repeat' (first | simp (config := {contextual := true, maxSteps := 10000000}) (disch := first | assumption | omega) only [go_sem, Tryd.f30, ↓reduceIte, Nat.reduceEqDiff, Nat.reduceAdd, Nat.reduceSub, Nat.reduceMul, Nat.reduceLeDiff, Nat.reduceLT, Int.reduceNeg, Int.reduceToNat, Int.reduceLT, Int.reduceLE, Int.reduceEq, Int.reduceAdd, Int.reduceSub, reduceCtorEq, Int.ofNat_lt, Nat.lt_irrefl, *] | intro _ | refine contC_split ?_ ?_ | refine contG_split ?_ ?_)
        exact hR.out.symm
@[go_sem] theorem szPdu_run (n : Nat) (a_kind : Int) (a_id : Int) (a_a : Int) (a_b : Int) (a_binds : List Bnd) (left : Int) (h1 : Small left) (hf : (⟨a_kind, a_id, a_a, a_b, a_binds⟩ : Pdu).Fits) : Pn (n+5) 16 [.agg [.lit (.int .i64 a_kind), .lit (.int .i64 a_id), .lit (.int .i64 a_a), .lit (.int .i64 a_b), .sl 5 (a_binds.map Bnd.cs)], .i64 left] = some (.i64 (szPdu ⟨a_kind, a_id, a_a, a_b, a_binds⟩ left)) := by
  have hf_binds : a_binds.length ≤ 140737488351232 := by have t : a_binds.length * 80 ≤ reachBytes := hf.binds.1; have e : reachBytes = 140737488351232 := rfl; omega
  have hf_bindsA : ∀ y ∈ a_binds, y.Fits := hf.binds.2
  have s0 : Small (szBndS a_binds (left)) := szBndS_small h1
  have hv : szPdu ⟨a_kind, a_id, a_a, a_b, a_binds⟩ left = szBndS a_binds (left) := rfl
  have q0 := s0
  unfold Small at q0
  have q := h1
  unfold Small at q
  refine fnP rfl Tryd.func16 (by kernel_rfl) rfl (fun R hR => ?_)
  repeat' (first | simp (config := {contextual := true, maxSteps := 10000000}) (disch := first | assumption | omega) only [go_sem, Tryd.f16, ↓reduceIte, Nat.reduceEqDiff, Nat.reduceAdd, Nat.reduceSub, Nat.reduceMul, Nat.reduceLeDiff, Nat.reduceLT, Int.reduceNeg, Int.reduceToNat, Int.reduceLT, Int.reduceLE, Int.reduceEq, Int.reduceAdd, Int.reduceSub, reduceCtorEq, *] | intro _ | refine contC_split ?_ ?_ | refine contG_split ?_ ?_)
  all_goals (have hR2 : R = _ := hR; subst hR2)
  all_goals first | (rw [hv]; done) | (rw [hv]; first | rfl | grind [szL_neg, szVtab_neg, szBridge_neg, szVal_neg, szBnd_neg, szPdu_neg, szFrame_neg, szOutp_neg, szGot_neg, szDone_neg, szJob_neg, szAgent_neg, szNet_neg, szVtabS_neg, szBridgeS_neg, szValS_neg, szBndS_neg, szPduS_neg, szFrameS_neg, szOutpS_neg, szGotS_neg, szDoneS_neg, szJobS_neg, szAgentS_neg, szNetS_neg])
@[go_sem] theorem toIntS_run (n : Nat) (l : List Int) (hl : l.length ≤ 1048576) : Pn (n+1) 25 [.one (.sl 1 (l.map intC))] = some (.one (.sl 1 (l.map intC))) := by
  refine fnP rfl Tryd.func25 (by kernel_rfl) rfl (fun R hR => ?_)
  repeat' (first | simp (config := {contextual := true, maxSteps := 10000000}) (disch := first | assumption | omega) only [go_sem, Tryd.f25, ↓reduceIte, Nat.reduceEqDiff, Nat.reduceAdd, Nat.reduceSub, Nat.reduceMul, Nat.reduceLeDiff, Nat.reduceLT, Int.reduceNeg, Int.reduceToNat, Int.reduceLT, Int.reduceLE, Int.reduceEq, Int.reduceAdd, Int.reduceSub, reduceCtorEq, *] | intro _ | refine contC_split ?_ ?_ | refine contG_split ?_ ?_)
  refine wp_loopF [0, 3] [4] (fun j vs hp => ∃ (i : Nat) (rows : List (List C)), (i + j = l.length ∧ Filled rows (l.map intC) i 1) ∧ vs = [.i64 i] ∧ (hp.at_ 0 = some ⟨1, rows⟩ ∧ 1 ≤ hp.next)) (l.length) (by unfold NN; omega) (by decide) ?_ ?_
  · refine ⟨0, List.replicate l.length [.lit (.int .i64 0)], ?_, ?_, ?_⟩
    · (exact ⟨by omega, Filled.start (by simp) rfl⟩)
    all_goals try (simp (config := {maxSteps := 10000000}) (disch := first | assumption | omega) only [go_sem, ↓reduceIte, Nat.reduceEqDiff, Nat.reduceAdd, Nat.reduceSub, Nat.reduceMul, Nat.reduceLeDiff, Nat.reduceLT, Int.reduceNeg, Int.reduceToNat, Int.reduceLT, Int.reduceLE, Int.reduceEq, Int.reduceAdd, Int.reduceSub, reduceCtorEq, List.cons.injEq, *])
    all_goals try (first | done | rfl | (constructor <;> rfl) | omega | (simp (disch := omega) [upd]; done) | (simp (disch := omega) [upd]; omega))
  · intro j env' hat hnx hj hu hI Lp hLp
    obtain ⟨i, rows, hR0, he, hH⟩ := hI
    try simp (config := {maxSteps := 10000000}) (disch := first | assumption | omega) only [go_sem, ↓reduceIte, Nat.reduceEqDiff, Nat.reduceAdd, Nat.reduceSub, Nat.reduceMul, Nat.reduceLeDiff, Nat.reduceLT, Int.reduceNeg, Int.reduceToNat, Int.reduceLT, Int.reduceLE, Int.reduceEq, Int.reduceAdd, Int.reduceSub, reduceCtorEq, List.cons.injEq, and_true, true_and] at hu
    try simp (config := {maxSteps := 10000000}) (disch := first | assumption | omega) only [go_sem, ↓reduceIte, Nat.reduceEqDiff, Nat.reduceAdd, Nat.reduceSub, Nat.reduceMul, Nat.reduceLeDiff, Nat.reduceLT, Int.reduceNeg, Int.reduceToNat, Int.reduceLT, Int.reduceLE, Int.reduceEq, Int.reduceAdd, Int.reduceSub, reduceCtorEq, List.cons.injEq, and_true, true_and] at he
    try simp (config := {maxSteps := 10000000}) (disch := first | assumption | omega) only [go_sem, ↓reduceIte, Nat.reduceEqDiff, Nat.reduceAdd, Nat.reduceSub, Nat.reduceMul, Nat.reduceLeDiff, Nat.reduceLT, Int.reduceNeg, Int.reduceToNat, Int.reduceLT, Int.reduceLE, Int.reduceEq, Int.reduceAdd, Int.reduceSub, reduceCtorEq, List.cons.injEq, and_true, true_and] at hH
    obtain ⟨hij, hF⟩ := hR0
    obtain ⟨a0, hm⟩ := hH
    have hrl : rows.length = l.length := by rw [hF.1]; simp
    by_cases hi : i < l.length
    · have hz := hF.drop (j := i) (by simpa using hi)
      have hF2 := Hd.mk (hF.next (r := intC l[i]) (by simp [hi]) rfl)
      clear hF
      repeat' (first | simp (config := {contextual := true, maxSteps := 10000000}) (disch := first | assumption | omega) only [go_sem, Tryd.f25, ↓reduceIte, Nat.reduceEqDiff, Nat.reduceAdd, Nat.reduceSub, Nat.reduceMul, Nat.reduceLeDiff, Nat.reduceLT, Int.reduceNeg, Int.reduceToNat, Int.reduceLT, Int.reduceLE, Int.reduceEq, Int.reduceAdd, Int.reduceSub, reduceCtorEq, Int.ofNat_lt, Nat.zero_add, *] | intro _ | refine contC_split ?_ ?_ | refine contG_split ?_ ?_)
      refine hLp.out (j - 1) _ _ (by omega) ⟨i + 1, _, ⟨by omega, hF2.out⟩, rfl, ?_⟩
      simp [upd, intC]
      try omega
    · have hi' : i = l.length := by omega
      subst hi'
      have hr := (show Filled rows (l.map intC) (l.map intC).length 1 by simpa using hF).done
      subst hr
      clear hF
      repeat' (first | simp (config := {contextual := true, maxSteps := 10000000}) (disch := first | assumption | omega) only [go_sem, Tryd.f25, ↓reduceIte, Nat.reduceEqDiff, Nat.reduceAdd, Nat.reduceSub, Nat.reduceMul, Nat.reduceLeDiff, Nat.reduceLT, Int.reduceNeg, Int.reduceToNat, Int.reduceLT, Int.reduceLE, Int.reduceEq, Int.reduceAdd, Int.reduceSub, reduceCtorEq, Int.ofNat_lt, Nat.zero_add, Nat.le_refl, take_map_len, Nat.lt_irrefl, *] | intro _ | refine contC_split ?_ ?_ | refine contG_split ?_ ?_)
      exact hR.out.symm
@[go_sem] theorem toVal_run (n : Nat) (a_k : Int) (a_n : Int) (a_s : ByteArray) (a_o : List Int) (hb : (⟨a_k, a_n, a_s, a_o⟩ : Val).Bd) : Pn (n+2) 8 [.agg [.lit (.int .i64 a_k), .lit (.int .i64 a_n), .lit (.string a_s), .sl 1 (a_o.map intC)]] = some (.agg [.lit (.int .i64 a_k), .lit (.int .i64 a_n), .lit (.string a_s), .sl 1 (a_o.map intC)]) := by
  have hb_s : a_s.size ≤ 1048576 := hb.s
  have hb_o : a_o.length ≤ 1048576 := hb.o
  refine fnP rfl Tryd.func8 (by kernel_rfl) rfl (fun R hR => ?_)
  repeat' (first | simp (config := {contextual := true, maxSteps := 10000000}) (disch := first | assumption | omega) only [go_sem, Tryd.f8, ↓reduceIte, Nat.reduceEqDiff, Nat.reduceAdd, Nat.reduceSub, Nat.reduceMul, Nat.reduceLeDiff, Nat.reduceLT, Int.reduceNeg, Int.reduceToNat, Int.reduceLT, Int.reduceLE, Int.reduceEq, Int.reduceAdd, Int.reduceSub, reduceCtorEq, *] | intro _ | refine contC_split ?_ ?_ | refine contG_split ?_ ?_)
  all_goals (have hR2 : R = _ := hR; subst hR2)
  all_goals rfl
@[go_sem] theorem toBnd_run (n : Nat) (a_o : List Int) (a_v_k : Int) (a_v_n : Int) (a_v_s : ByteArray) (a_v_o : List Int) (hb : (⟨a_o, ⟨a_v_k, a_v_n, a_v_s, a_v_o⟩⟩ : Bnd).Bd) : Pn (n+3) 13 [.agg [.sl 1 (a_o.map intC), .lit (.int .i64 a_v_k), .lit (.int .i64 a_v_n), .lit (.string a_v_s), .sl 1 (a_v_o.map intC)]] = some (.agg [.sl 1 (a_o.map intC), .lit (.int .i64 a_v_k), .lit (.int .i64 a_v_n), .lit (.string a_v_s), .sl 1 (a_v_o.map intC)]) := by
  have hb_o : a_o.length ≤ 1048576 := hb.o
  have hb_v : (⟨a_v_k, a_v_n, a_v_s, a_v_o⟩ : Val).Bd := hb.v
  have hb_v_s : a_v_s.size ≤ 1048576 := hb_v.s
  have hb_v_o : a_v_o.length ≤ 1048576 := hb_v.o
  refine fnP rfl Tryd.func13 (by kernel_rfl) rfl (fun R hR => ?_)
  repeat' (first | simp (config := {contextual := true, maxSteps := 10000000}) (disch := first | assumption | omega) only [go_sem, Tryd.f13, ↓reduceIte, Nat.reduceEqDiff, Nat.reduceAdd, Nat.reduceSub, Nat.reduceMul, Nat.reduceLeDiff, Nat.reduceLT, Int.reduceNeg, Int.reduceToNat, Int.reduceLT, Int.reduceLE, Int.reduceEq, Int.reduceAdd, Int.reduceSub, reduceCtorEq, *] | intro _ | refine contC_split ?_ ?_ | refine contG_split ?_ ?_)
  all_goals (have hR2 : R = _ := hR; subst hR2)
  all_goals rfl
@[go_sem] theorem toBndS_run (n : Nat) (l : List Bnd) (hl : l.length ≤ 1048576) (hA : ∀ y ∈ l, y.Bd) : Pn (n+4) 33 [.one (.sl 5 (l.map Bnd.cs))] = some (.one (.sl 5 (l.map Bnd.cs))) := by
  refine fnP rfl Tryd.func33 (by kernel_rfl) rfl (fun R hR => ?_)
  repeat' (first | simp (config := {contextual := true, maxSteps := 10000000}) (disch := first | assumption | omega) only [go_sem, Tryd.f33, ↓reduceIte, Nat.reduceEqDiff, Nat.reduceAdd, Nat.reduceSub, Nat.reduceMul, Nat.reduceLeDiff, Nat.reduceLT, Int.reduceNeg, Int.reduceToNat, Int.reduceLT, Int.reduceLE, Int.reduceEq, Int.reduceAdd, Int.reduceSub, reduceCtorEq, *] | intro _ | refine contC_split ?_ ?_ | refine contG_split ?_ ?_)
  refine wp_loopF [0, 3] [4] (fun j vs hp => ∃ (i : Nat) (rows : List (List C)), (i + j = l.length ∧ Filled rows (l.map Bnd.cs) i 5) ∧ vs = [.i64 i] ∧ (hp.at_ 0 = some ⟨5, rows⟩ ∧ 1 ≤ hp.next)) (l.length) (by unfold NN; omega) (by decide) ?_ ?_
  · refine ⟨0, List.replicate l.length [.lit (.slice none 0 0), .lit (.int .i64 0), .lit (.int .i64 0), .lit (.string ⟨#[]⟩), .lit (.slice none 0 0)], ?_, ?_, ?_⟩
    · (exact ⟨by omega, Filled.start (by simp) rfl⟩)
    all_goals try (simp (config := {maxSteps := 10000000}) (disch := first | assumption | omega) only [go_sem, ↓reduceIte, Nat.reduceEqDiff, Nat.reduceAdd, Nat.reduceSub, Nat.reduceMul, Nat.reduceLeDiff, Nat.reduceLT, Int.reduceNeg, Int.reduceToNat, Int.reduceLT, Int.reduceLE, Int.reduceEq, Int.reduceAdd, Int.reduceSub, reduceCtorEq, List.cons.injEq, *])
    all_goals try (first | done | rfl | (constructor <;> rfl) | omega | (simp (disch := omega) [upd]; done) | (simp (disch := omega) [upd]; omega))
  · intro j env' hat hnx hj hu hI Lp hLp
    obtain ⟨i, rows, hR0, he, hH⟩ := hI
    try simp (config := {maxSteps := 10000000}) (disch := first | assumption | omega) only [go_sem, ↓reduceIte, Nat.reduceEqDiff, Nat.reduceAdd, Nat.reduceSub, Nat.reduceMul, Nat.reduceLeDiff, Nat.reduceLT, Int.reduceNeg, Int.reduceToNat, Int.reduceLT, Int.reduceLE, Int.reduceEq, Int.reduceAdd, Int.reduceSub, reduceCtorEq, List.cons.injEq, and_true, true_and] at hu
    try simp (config := {maxSteps := 10000000}) (disch := first | assumption | omega) only [go_sem, ↓reduceIte, Nat.reduceEqDiff, Nat.reduceAdd, Nat.reduceSub, Nat.reduceMul, Nat.reduceLeDiff, Nat.reduceLT, Int.reduceNeg, Int.reduceToNat, Int.reduceLT, Int.reduceLE, Int.reduceEq, Int.reduceAdd, Int.reduceSub, reduceCtorEq, List.cons.injEq, and_true, true_and] at he
    try simp (config := {maxSteps := 10000000}) (disch := first | assumption | omega) only [go_sem, ↓reduceIte, Nat.reduceEqDiff, Nat.reduceAdd, Nat.reduceSub, Nat.reduceMul, Nat.reduceLeDiff, Nat.reduceLT, Int.reduceNeg, Int.reduceToNat, Int.reduceLT, Int.reduceLE, Int.reduceEq, Int.reduceAdd, Int.reduceSub, reduceCtorEq, List.cons.injEq, and_true, true_and] at hH
    obtain ⟨hij, hF⟩ := hR0
    obtain ⟨a0, hm⟩ := hH
    have hrl : rows.length = l.length := by rw [hF.1]; simp
    by_cases hi : i < l.length
    · have hz := hF.drop (j := i) (by simpa using hi)
      have hF2 := Hd.mk (hF.next (r := Bnd.cs l[i]) (by simp [hi]) rfl)
      clear hF
      have hb := hA l[i] (List.getElem_mem hi)
      repeat' (first | simp (config := {contextual := true, maxSteps := 10000000}) (disch := first | assumption | omega) only [go_sem, Tryd.f33, ↓reduceIte, Nat.reduceEqDiff, Nat.reduceAdd, Nat.reduceSub, Nat.reduceMul, Nat.reduceLeDiff, Nat.reduceLT, Int.reduceNeg, Int.reduceToNat, Int.reduceLT, Int.reduceLE, Int.reduceEq, Int.reduceAdd, Int.reduceSub, reduceCtorEq, Int.ofNat_lt, Nat.zero_add, *] | intro _ | refine contC_split ?_ ?_ | refine contG_split ?_ ?_)
      refine hLp.out (j - 1) _ _ (by omega) ⟨i + 1, _, ⟨by omega, hF2.out⟩, rfl, ?_⟩
      simp [upd, Bnd.cs]
      try omega
    · have hi' : i = l.length := by omega
      subst hi'
      have hr := (show Filled rows (l.map Bnd.cs) (l.map Bnd.cs).length 5 by simpa using hF).done
      subst hr
      clear hF
      repeat' (first | simp (config := {contextual := true, maxSteps := 10000000}) (disch := first | assumption | omega) only [go_sem, Tryd.f33, ↓reduceIte, Nat.reduceEqDiff, Nat.reduceAdd, Nat.reduceSub, Nat.reduceMul, Nat.reduceLeDiff, Nat.reduceLT, Int.reduceNeg, Int.reduceToNat, Int.reduceLT, Int.reduceLE, Int.reduceEq, Int.reduceAdd, Int.reduceSub, reduceCtorEq, Int.ofNat_lt, Nat.zero_add, Nat.le_refl, take_map_len, Nat.lt_irrefl, *] | intro _ | refine contC_split ?_ ?_ | refine contG_split ?_ ?_)
      exact hR.out.symm
@[go_sem] theorem toPdu_run (n : Nat) (a_kind : Int) (a_id : Int) (a_a : Int) (a_b : Int) (a_binds : List Bnd) (hb : (⟨a_kind, a_id, a_a, a_b, a_binds⟩ : Pdu).Bd) : Pn (n+5) 18 [.agg [.lit (.int .i64 a_kind), .lit (.int .i64 a_id), .lit (.int .i64 a_a), .lit (.int .i64 a_b), .sl 5 (a_binds.map Bnd.cs)]] = some (.agg [.lit (.int .i64 a_kind), .lit (.int .i64 a_id), .lit (.int .i64 a_a), .lit (.int .i64 a_b), .sl 5 (a_binds.map Bnd.cs)]) := by
  have hb_binds : a_binds.length ≤ 1048576 := hb.binds.1
  have hb_bindsA : ∀ y ∈ a_binds, y.Bd := hb.binds.2
  refine fnP rfl Tryd.func18 (by kernel_rfl) rfl (fun R hR => ?_)
  repeat' (first | simp (config := {contextual := true, maxSteps := 10000000}) (disch := first | assumption | omega) only [go_sem, Tryd.f18, ↓reduceIte, Nat.reduceEqDiff, Nat.reduceAdd, Nat.reduceSub, Nat.reduceMul, Nat.reduceLeDiff, Nat.reduceLT, Int.reduceNeg, Int.reduceToNat, Int.reduceLT, Int.reduceLE, Int.reduceEq, Int.reduceAdd, Int.reduceSub, reduceCtorEq, *] | intro _ | refine contC_split ?_ ?_ | refine contG_split ?_ ?_)
  all_goals (have hR2 : R = _ := hR; subst hR2)
  all_goals rfl
@[go_sem] theorem eqIntS_run (n : Nat) (l : List Int) (hl : l.length ≤ 1048576) : Pn (n+1) 29 [.one (.sl 1 (l.map intC)), .one (.sl 1 (l.map intC))] = some (.bool true) := by
  refine fnP rfl Tryd.func29 (by kernel_rfl) rfl (fun R hR => ?_)
  repeat' (first | simp (config := {contextual := true, maxSteps := 10000000}) (disch := first | assumption | omega) only [go_sem, Tryd.f29, ↓reduceIte, Nat.reduceEqDiff, Nat.reduceAdd, Nat.reduceSub, Nat.reduceMul, Nat.reduceLeDiff, Nat.reduceLT, Int.reduceNeg, Int.reduceToNat, Int.reduceLT, Int.reduceLE, Int.reduceEq, Int.reduceAdd, Int.reduceSub, reduceCtorEq, Nat.lt_irrefl, *] | intro _ | refine contC_split ?_ ?_ | refine contG_split ?_ ?_)
  refine wp_loopF [0, 1] [5] (fun j vs hp => ∃ (i : Nat), (i + j = l.length) ∧ vs = [.i64 i]) (l.length) (by unfold NN; omega) (by decide) ?_ ?_
  · refine ⟨0, ?_, ?_⟩
    all_goals try (simp (config := {maxSteps := 10000000}) (disch := first | assumption | omega) only [go_sem, ↓reduceIte, Nat.reduceEqDiff, Nat.reduceAdd, Nat.reduceSub, Nat.reduceMul, Nat.reduceLeDiff, Nat.reduceLT, Int.reduceNeg, Int.reduceToNat, Int.reduceLT, Int.reduceLE, Int.reduceEq, Int.reduceAdd, Int.reduceSub, reduceCtorEq, List.cons.injEq, *])
    all_goals try (first | done | rfl | (constructor <;> rfl) | omega | (simp (disch := omega) [upd]; done) | (simp (disch := omega) [upd]; omega))
  · intro j env' hat hnx hj hu hI Lp hLp
    obtain ⟨i, hR0, he⟩ := hI
    try simp (config := {maxSteps := 10000000}) (disch := first | assumption | omega) only [go_sem, ↓reduceIte, Nat.reduceEqDiff, Nat.reduceAdd, Nat.reduceSub, Nat.reduceMul, Nat.reduceLeDiff, Nat.reduceLT, Int.reduceNeg, Int.reduceToNat, Int.reduceLT, Int.reduceLE, Int.reduceEq, Int.reduceAdd, Int.reduceSub, reduceCtorEq, List.cons.injEq, and_true, true_and] at hu
    try simp (config := {maxSteps := 10000000}) (disch := first | assumption | omega) only [go_sem, ↓reduceIte, Nat.reduceEqDiff, Nat.reduceAdd, Nat.reduceSub, Nat.reduceMul, Nat.reduceLeDiff, Nat.reduceLT, Int.reduceNeg, Int.reduceToNat, Int.reduceLT, Int.reduceLE, Int.reduceEq, Int.reduceAdd, Int.reduceSub, reduceCtorEq, List.cons.injEq, and_true, true_and] at he
    by_cases hi : i < l.length
    · repeat' (first | simp (config := {contextual := true, maxSteps := 10000000}) (disch := first | assumption | omega) only [go_sem, Tryd.f29, ↓reduceIte, Nat.reduceEqDiff, Nat.reduceAdd, Nat.reduceSub, Nat.reduceMul, Nat.reduceLeDiff, Nat.reduceLT, Int.reduceNeg, Int.reduceToNat, Int.reduceLT, Int.reduceLE, Int.reduceEq, Int.reduceAdd, Int.reduceSub, reduceCtorEq, Int.ofNat_lt, *] | intro _ | refine contC_split ?_ ?_ | refine contG_split ?_ ?_)
      exact hLp.out (j - 1) _ _ (by omega) ⟨i + 1, by omega, rfl⟩
    · repeat' (first | simp (config := {contextual := true, maxSteps := 10000000}) (disch := first | assumption | omega) only [go_sem, Tryd.f29, ↓reduceIte, Nat.reduceEqDiff, Nat.reduceAdd, Nat.reduceSub, Nat.reduceMul, Nat.reduceLeDiff, Nat.reduceLT, Int.reduceNeg, Int.reduceToNat, Int.reduceLT, Int.reduceLE, Int.reduceEq, Int.reduceAdd, Int.reduceSub, reduceCtorEq, Int.ofNat_lt, *] | intro _ | refine contC_split ?_ ?_ | refine contG_split ?_ ?_)
      exact hR.out.symm
@[go_sem] theorem eqVal_run (n : Nat) (a_k : Int) (a_n : Int) (a_s : ByteArray) (a_o : List Int) (hb : (⟨a_k, a_n, a_s, a_o⟩ : Val).Bd) : Pn (n+2) 10 [.agg [.lit (.int .i64 a_k), .lit (.int .i64 a_n), .lit (.string a_s), .sl 1 (a_o.map intC)], .agg [.lit (.int .i64 a_k), .lit (.int .i64 a_n), .lit (.string a_s), .sl 1 (a_o.map intC)]] = some (.bool true) := by
  have hb_s : a_s.size ≤ 1048576 := hb.s
  have hb_o : a_o.length ≤ 1048576 := hb.o
  refine fnP rfl Tryd.func10 (by kernel_rfl) rfl (fun R hR => ?_)
  repeat' (first | simp (config := {contextual := true, maxSteps := 10000000}) (disch := first | assumption | omega) only [go_sem, Tryd.f10, ↓reduceIte, Nat.reduceEqDiff, Nat.reduceAdd, Nat.reduceSub, Nat.reduceMul, Nat.reduceLeDiff, Nat.reduceLT, Int.reduceNeg, Int.reduceToNat, Int.reduceLT, Int.reduceLE, Int.reduceEq, Int.reduceAdd, Int.reduceSub, reduceCtorEq, beq_self_eq_true, *] | intro _ | refine contC_split ?_ ?_ | refine contG_split ?_ ?_)
  all_goals (have hR2 : R = _ := hR; subst hR2)
  all_goals rfl
@[go_sem] theorem eqBnd_run (n : Nat) (a_o : List Int) (a_v_k : Int) (a_v_n : Int) (a_v_s : ByteArray) (a_v_o : List Int) (hb : (⟨a_o, ⟨a_v_k, a_v_n, a_v_s, a_v_o⟩⟩ : Bnd).Bd) : Pn (n+3) 15 [.agg [.sl 1 (a_o.map intC), .lit (.int .i64 a_v_k), .lit (.int .i64 a_v_n), .lit (.string a_v_s), .sl 1 (a_v_o.map intC)], .agg [.sl 1 (a_o.map intC), .lit (.int .i64 a_v_k), .lit (.int .i64 a_v_n), .lit (.string a_v_s), .sl 1 (a_v_o.map intC)]] = some (.bool true) := by
  have hb_o : a_o.length ≤ 1048576 := hb.o
  have hb_v : (⟨a_v_k, a_v_n, a_v_s, a_v_o⟩ : Val).Bd := hb.v
  have hb_v_s : a_v_s.size ≤ 1048576 := hb_v.s
  have hb_v_o : a_v_o.length ≤ 1048576 := hb_v.o
  refine fnP rfl Tryd.func15 (by kernel_rfl) rfl (fun R hR => ?_)
  repeat' (first | simp (config := {contextual := true, maxSteps := 10000000}) (disch := first | assumption | omega) only [go_sem, Tryd.f15, ↓reduceIte, Nat.reduceEqDiff, Nat.reduceAdd, Nat.reduceSub, Nat.reduceMul, Nat.reduceLeDiff, Nat.reduceLT, Int.reduceNeg, Int.reduceToNat, Int.reduceLT, Int.reduceLE, Int.reduceEq, Int.reduceAdd, Int.reduceSub, reduceCtorEq, beq_self_eq_true, *] | intro _ | refine contC_split ?_ ?_ | refine contG_split ?_ ?_)
  all_goals (have hR2 : R = _ := hR; subst hR2)
  all_goals rfl
@[go_sem] theorem eqBndS_run (n : Nat) (l : List Bnd) (hl : l.length ≤ 1048576) (hA : ∀ y ∈ l, y.Bd) : Pn (n+4) 35 [.one (.sl 5 (l.map Bnd.cs)), .one (.sl 5 (l.map Bnd.cs))] = some (.bool true) := by
  refine fnP rfl Tryd.func35 (by kernel_rfl) rfl (fun R hR => ?_)
  repeat' (first | simp (config := {contextual := true, maxSteps := 10000000}) (disch := first | assumption | omega) only [go_sem, Tryd.f35, ↓reduceIte, Nat.reduceEqDiff, Nat.reduceAdd, Nat.reduceSub, Nat.reduceMul, Nat.reduceLeDiff, Nat.reduceLT, Int.reduceNeg, Int.reduceToNat, Int.reduceLT, Int.reduceLE, Int.reduceEq, Int.reduceAdd, Int.reduceSub, reduceCtorEq, Nat.lt_irrefl, *] | intro _ | refine contC_split ?_ ?_ | refine contG_split ?_ ?_)
  refine wp_loopF [0, 1] [5] (fun j vs hp => ∃ (i : Nat), (i + j = l.length) ∧ vs = [.i64 i]) (l.length) (by unfold NN; omega) (by decide) ?_ ?_
  · refine ⟨0, ?_, ?_⟩
    all_goals try (simp (config := {maxSteps := 10000000}) (disch := first | assumption | omega) only [go_sem, ↓reduceIte, Nat.reduceEqDiff, Nat.reduceAdd, Nat.reduceSub, Nat.reduceMul, Nat.reduceLeDiff, Nat.reduceLT, Int.reduceNeg, Int.reduceToNat, Int.reduceLT, Int.reduceLE, Int.reduceEq, Int.reduceAdd, Int.reduceSub, reduceCtorEq, List.cons.injEq, *])
    all_goals try (first | done | rfl | (constructor <;> rfl) | omega | (simp (disch := omega) [upd]; done) | (simp (disch := omega) [upd]; omega))
  · intro j env' hat hnx hj hu hI Lp hLp
    obtain ⟨i, hR0, he⟩ := hI
    try simp (config := {maxSteps := 10000000}) (disch := first | assumption | omega) only [go_sem, ↓reduceIte, Nat.reduceEqDiff, Nat.reduceAdd, Nat.reduceSub, Nat.reduceMul, Nat.reduceLeDiff, Nat.reduceLT, Int.reduceNeg, Int.reduceToNat, Int.reduceLT, Int.reduceLE, Int.reduceEq, Int.reduceAdd, Int.reduceSub, reduceCtorEq, List.cons.injEq, and_true, true_and] at hu
    try simp (config := {maxSteps := 10000000}) (disch := first | assumption | omega) only [go_sem, ↓reduceIte, Nat.reduceEqDiff, Nat.reduceAdd, Nat.reduceSub, Nat.reduceMul, Nat.reduceLeDiff, Nat.reduceLT, Int.reduceNeg, Int.reduceToNat, Int.reduceLT, Int.reduceLE, Int.reduceEq, Int.reduceAdd, Int.reduceSub, reduceCtorEq, List.cons.injEq, and_true, true_and] at he
    by_cases hi : i < l.length
    · have hb := hA l[i] (List.getElem_mem hi)
      repeat' (first | simp (config := {contextual := true, maxSteps := 10000000}) (disch := first | assumption | omega) only [go_sem, Tryd.f35, ↓reduceIte, Nat.reduceEqDiff, Nat.reduceAdd, Nat.reduceSub, Nat.reduceMul, Nat.reduceLeDiff, Nat.reduceLT, Int.reduceNeg, Int.reduceToNat, Int.reduceLT, Int.reduceLE, Int.reduceEq, Int.reduceAdd, Int.reduceSub, reduceCtorEq, Int.ofNat_lt, *] | intro _ | refine contC_split ?_ ?_ | refine contG_split ?_ ?_)
      exact hLp.out (j - 1) _ _ (by omega) ⟨i + 1, by omega, rfl⟩
    · repeat' (first | simp (config := {contextual := true, maxSteps := 10000000}) (disch := first | assumption | omega) only [go_sem, Tryd.f35, ↓reduceIte, Nat.reduceEqDiff, Nat.reduceAdd, Nat.reduceSub, Nat.reduceMul, Nat.reduceLeDiff, Nat.reduceLT, Int.reduceNeg, Int.reduceToNat, Int.reduceLT, Int.reduceLE, Int.reduceEq, Int.reduceAdd, Int.reduceSub, reduceCtorEq, Int.ofNat_lt, *] | intro _ | refine contC_split ?_ ?_ | refine contG_split ?_ ?_)
      exact hR.out.symm
@[go_sem] theorem eqPdu_run (n : Nat) (a_kind : Int) (a_id : Int) (a_a : Int) (a_b : Int) (a_binds : List Bnd) (hb : (⟨a_kind, a_id, a_a, a_b, a_binds⟩ : Pdu).Bd) : Pn (n+5) 20 [.agg [.lit (.int .i64 a_kind), .lit (.int .i64 a_id), .lit (.int .i64 a_a), .lit (.int .i64 a_b), .sl 5 (a_binds.map Bnd.cs)], .agg [.lit (.int .i64 a_kind), .lit (.int .i64 a_id), .lit (.int .i64 a_a), .lit (.int .i64 a_b), .sl 5 (a_binds.map Bnd.cs)]] = some (.bool true) := by
  have hb_binds : a_binds.length ≤ 1048576 := hb.binds.1
  have hb_bindsA : ∀ y ∈ a_binds, y.Bd := hb.binds.2
  refine fnP rfl Tryd.func20 (by kernel_rfl) rfl (fun R hR => ?_)
  repeat' (first | simp (config := {contextual := true, maxSteps := 10000000}) (disch := first | assumption | omega) only [go_sem, Tryd.f20, ↓reduceIte, Nat.reduceEqDiff, Nat.reduceAdd, Nat.reduceSub, Nat.reduceMul, Nat.reduceLeDiff, Nat.reduceLT, Int.reduceNeg, Int.reduceToNat, Int.reduceLT, Int.reduceLE, Int.reduceEq, Int.reduceAdd, Int.reduceSub, reduceCtorEq, beq_self_eq_true, *] | intro _ | refine contC_split ?_ ?_ | refine contG_split ?_ ?_)
  all_goals (have hR2 : R = _ := hR; subst hR2)
  all_goals rfl
end Go.Ev.D
