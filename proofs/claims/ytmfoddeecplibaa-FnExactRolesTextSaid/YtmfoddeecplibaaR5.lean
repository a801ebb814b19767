/- The law FnExactRolesText, found true by the evaluator. -/
import Derived.Test.YtmfoddeecplibaaR4
set_option maxRecDepth 100000
set_option maxHeartbeats 4000000
set_option linter.unusedVariables false
set_option linter.unusedSimpArgs false
namespace Go.Ev.R
open Go Go.Ev Go.Proofs
theorem text_eq (id : Int) (l : List Pt) (n : Nat) : joinB (rolesWords id l n) spB = specText id l n := by
  have h := specText_join id l n
  unfold joinB
  rw [← h]
theorem size_bounds {b : Bridge} (h : ¬ szBridge b 1048576 < 0) : b.v.rows.length ≤ 1048576 ∧ b.v.pvid.length ≤ 1048576 ∧ b.ports.length ≤ 1048576 ∧ b.f.length ≤ 1048576 := by
  unfold szBridge szVtab szL at h
  grind
theorem law_run (n : Nat) (a_id : Int) (a_name : ByteArray) (a_ports : List Pt) (a_f : List Fent) (a_v_rows : List Vrow) (a_v_pvid : List Int) (a_ticks : Int) (a_parse : Int) (a_word : Int) (a_drops : Int) (a_vers : Int) (h3 : a_v_rows.length ≤ 140737488355328) (h4 : a_v_pvid.length ≤ 140737488355328) (h5 : a_ports.length ≤ 140737488355328) (h6 : a_f.length ≤ 140737488355328) (h7 : a_name.size ≤ 140737488355328) :
    Pn (n+8) 3 [.agg [.lit (.int .i64 a_id), .lit (.string a_name), .sl 8 (a_ports.map Pt.cs), .sl 5 (a_f.map Fent.cs), .sl 3 (a_v_rows.map Vrow.cs), .sl 1 (a_v_pvid.map intC), .lit (.int .i64 a_ticks), .lit (.int .i64 a_parse), .lit (.int .i64 a_word), .lit (.int .i64 a_drops), .lit (.int .i64 a_vers)]] = some (.bool true) := by
  refine fnP rfl Try.func3 (by kernel_rfl) rfl (fun R hR => ?_)
  by_cases hz : szBridge ⟨a_id, a_name, a_ports, a_f, ⟨a_v_rows, a_v_pvid⟩, a_ticks, a_parse, a_word, a_drops, a_vers⟩ 1048576 < 0
  · repeat' (first | simp (config := {contextual := true, maxSteps := 10000000}) (disch := first | assumption | omega) only [go_sem, Try.f3, ↓reduceIte, Nat.reduceEqDiff, Nat.reduceAdd, Nat.reduceSub, Nat.reduceMul, Nat.reduceLeDiff, Nat.reduceLT, Int.reduceNeg, Int.reduceToNat, Int.reduceLT, Int.reduceLE, Int.reduceEq, Int.reduceAdd, Int.reduceSub, reduceCtorEq, *] | intro _ | refine contC_split ?_ ?_ | refine contG_split ?_ ?_)
    exact hR.out.symm
  · obtain ⟨b1, b2, b3, b4⟩ := size_bounds hz
    simp only at b1 b2 b3 b4
    have he := text_eq a_id a_ports a_ports.length
    repeat' (first | simp (config := {contextual := true, maxSteps := 10000000}) (disch := first | assumption | omega) only [go_sem, Try.f3, ↓reduceIte, Nat.reduceEqDiff, Nat.reduceAdd, Nat.reduceSub, Nat.reduceMul, Nat.reduceLeDiff, Nat.reduceLT, Int.reduceNeg, Int.reduceToNat, Int.reduceLT, Int.reduceLE, Int.reduceEq, Int.reduceAdd, Int.reduceSub, reduceCtorEq, beq_self_eq_true, *] | intro _ | refine contC_split ?_ ?_ | refine contG_split ?_ ?_)
    exact hR.out.symm
end Go.Ev.R
