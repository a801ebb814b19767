/- The three laws, found true by the evaluator. -/
import Derived.Test.YtmfoddeecplibaaDoorD6
set_option maxRecDepth 100000
set_option maxHeartbeats 4000000
set_option linter.unusedVariables false
set_option linter.unusedSimpArgs false
namespace Go.Ev.D
open Go Go.Ev Go.Proofs
theorem laws_FnExactValText_law (n : Nat) (a_k : Int) (a_n : Int) (a_s : ByteArray) (a_o : List Int) (hf : (⟨a_k, a_n, a_s, a_o⟩ : Val).Fits) : Pn (n+20) 3 [.agg [.lit (.int .i64 a_k), .lit (.int .i64 a_n), .lit (.string a_s), .sl 1 (a_o.map intC)]] = some (.bool true) := by
  have hs : Small 1048576 := by unfold Small; omega
  refine fnP rfl Tryd.func3 (by kernel_rfl) rfl (fun R hR => ?_)
  by_cases hz : szVal ⟨a_k, a_n, a_s, a_o⟩ 1048576 < 0
  · repeat' (first | simp (config := {contextual := true, maxSteps := 10000000}) (disch := first | assumption | omega) only [go_sem, Tryd.f3, ↓reduceIte, Nat.reduceEqDiff, Nat.reduceAdd, Nat.reduceSub, Nat.reduceMul, Nat.reduceLeDiff, Nat.reduceLT, Int.reduceNeg, Int.reduceToNat, Int.reduceLT, Int.reduceLE, Int.reduceEq, Int.reduceAdd, Int.reduceSub, reduceCtorEq, *] | intro _ | refine contC_split ?_ ?_ | refine contG_split ?_ ?_)
    exact hR.out.symm
  · have hb := (szVal_bd (x := ⟨a_k, a_n, a_s, a_o⟩) hs (by omega)).1
    have hb_s : a_s.size ≤ 1048576 := hb.s
    have hb_o : a_o.length ≤ 1048576 := hb.o
    repeat' (first | simp (config := {contextual := true, maxSteps := 10000000}) (disch := first | assumption | omega) only [go_sem, Tryd.f3, ↓reduceIte, Nat.reduceEqDiff, Nat.reduceAdd, Nat.reduceSub, Nat.reduceMul, Nat.reduceLeDiff, Nat.reduceLT, Int.reduceNeg, Int.reduceToNat, Int.reduceLT, Int.reduceLE, Int.reduceEq, Int.reduceAdd, Int.reduceSub, reduceCtorEq, beq_self_eq_true, decide_true, *] | intro _ | refine contC_split ?_ ?_ | refine contG_split ?_ ?_)
    exact hR.out.symm
theorem laws_FnExactBindText_law (n : Nat) (a_o : List Int) (a_v_k : Int) (a_v_n : Int) (a_v_s : ByteArray) (a_v_o : List Int) (hf : (⟨a_o, ⟨a_v_k, a_v_n, a_v_s, a_v_o⟩⟩ : Bnd).Fits) : Pn (n+20) 4 [.agg [.sl 1 (a_o.map intC), .lit (.int .i64 a_v_k), .lit (.int .i64 a_v_n), .lit (.string a_v_s), .sl 1 (a_v_o.map intC)]] = some (.bool true) := by
  have hs : Small 1048576 := by unfold Small; omega
  refine fnP rfl Tryd.func4 (by kernel_rfl) rfl (fun R hR => ?_)
  by_cases hz : szBnd ⟨a_o, ⟨a_v_k, a_v_n, a_v_s, a_v_o⟩⟩ 1048576 < 0
  · repeat' (first | simp (config := {contextual := true, maxSteps := 10000000}) (disch := first | assumption | omega) only [go_sem, Tryd.f4, ↓reduceIte, Nat.reduceEqDiff, Nat.reduceAdd, Nat.reduceSub, Nat.reduceMul, Nat.reduceLeDiff, Nat.reduceLT, Int.reduceNeg, Int.reduceToNat, Int.reduceLT, Int.reduceLE, Int.reduceEq, Int.reduceAdd, Int.reduceSub, reduceCtorEq, *] | intro _ | refine contC_split ?_ ?_ | refine contG_split ?_ ?_)
    exact hR.out.symm
  · have hb := (szBnd_bd (x := ⟨a_o, ⟨a_v_k, a_v_n, a_v_s, a_v_o⟩⟩) hs (by omega)).1
    have hb_o : a_o.length ≤ 1048576 := hb.o
    have hb_v : (⟨a_v_k, a_v_n, a_v_s, a_v_o⟩ : Val).Bd := hb.v
    have hb_v_s : a_v_s.size ≤ 1048576 := hb_v.s
    have hb_v_o : a_v_o.length ≤ 1048576 := hb_v.o
    repeat' (first | simp (config := {contextual := true, maxSteps := 10000000}) (disch := first | assumption | omega) only [go_sem, Tryd.f4, ↓reduceIte, Nat.reduceEqDiff, Nat.reduceAdd, Nat.reduceSub, Nat.reduceMul, Nat.reduceLeDiff, Nat.reduceLT, Int.reduceNeg, Int.reduceToNat, Int.reduceLT, Int.reduceLE, Int.reduceEq, Int.reduceAdd, Int.reduceSub, reduceCtorEq, beq_self_eq_true, decide_true, *] | intro _ | refine contC_split ?_ ?_ | refine contG_split ?_ ?_)
    exact hR.out.symm
theorem laws_FnExactPduText_law (n : Nat) (a_kind : Int) (a_id : Int) (a_a : Int) (a_b : Int) (a_binds : List Bnd) (hf : (⟨a_kind, a_id, a_a, a_b, a_binds⟩ : Pdu).Fits) : Pn (n+20) 5 [.agg [.lit (.int .i64 a_kind), .lit (.int .i64 a_id), .lit (.int .i64 a_a), .lit (.int .i64 a_b), .sl 5 (a_binds.map Bnd.cs)]] = some (.bool true) := by
  have hs : Small 1048576 := by unfold Small; omega
  refine fnP rfl Tryd.func5 (by kernel_rfl) rfl (fun R hR => ?_)
  by_cases hz : szPdu ⟨a_kind, a_id, a_a, a_b, a_binds⟩ 1048576 < 0
  · repeat' (first | simp (config := {contextual := true, maxSteps := 10000000}) (disch := first | assumption | omega) only [go_sem, Tryd.f5, ↓reduceIte, Nat.reduceEqDiff, Nat.reduceAdd, Nat.reduceSub, Nat.reduceMul, Nat.reduceLeDiff, Nat.reduceLT, Int.reduceNeg, Int.reduceToNat, Int.reduceLT, Int.reduceLE, Int.reduceEq, Int.reduceAdd, Int.reduceSub, reduceCtorEq, *] | intro _ | refine contC_split ?_ ?_ | refine contG_split ?_ ?_)
    exact hR.out.symm
  · have hb := (szPdu_bd (x := ⟨a_kind, a_id, a_a, a_b, a_binds⟩) hs (by omega)).1
    have hb_binds : a_binds.length ≤ 1048576 := hb.binds.1
    have hb_bindsA : ∀ y ∈ a_binds, y.Bd := hb.binds.2
    repeat' (first | simp (config := {contextual := true, maxSteps := 10000000}) (disch := first | assumption | omega) only [go_sem, Tryd.f5, ↓reduceIte, Nat.reduceEqDiff, Nat.reduceAdd, Nat.reduceSub, Nat.reduceMul, Nat.reduceLeDiff, Nat.reduceLT, Int.reduceNeg, Int.reduceToNat, Int.reduceLT, Int.reduceLE, Int.reduceEq, Int.reduceAdd, Int.reduceSub, reduceCtorEq, beq_self_eq_true, decide_true, *] | intro _ | refine contC_split ?_ ?_ | refine contG_split ?_ ?_)
    exact hR.out.symm
end Go.Ev.D
