/- Requests as text. -/
import Derived.Test.YtmfoddeecplibaaDoorD5
set_option maxRecDepth 100000
set_option maxHeartbeats 4000000
set_option linter.unusedVariables false
set_option linter.unusedSimpArgs false
namespace Go.Ev.D
open Go Go.Ev Go.Proofs
theorem pduOk_parts {k i a b : Int} {l : List Bnd} (h : pduOk ⟨k, i, a, b, l⟩ = true) : headOk k a b = true ∧ (-2147483648 ≤ i ∧ i ≤ 2147483647) ∧ (0 ≤ a ∧ a ≤ 1000) ∧ (0 ≤ b ∧ b ≤ 1000) ∧ l.length ≤ 10 := by
  rw [pduOk_eq2] at h
  simp only [Bool.and_eq_true, isInt, inR, decide_eq_true_eq] at h
  obtain ⟨⟨⟨h1, _⟩, h2⟩, h3⟩ := h
  have h4 := headOk_k h1
  simp only [inR, decide_eq_true_eq] at h4
  refine ⟨h1, h3, ?_, ?_, h2⟩ <;> omega
theorem ba_assoc (a b c : ByteArray) : a ++ b ++ c = a ++ (b ++ c) := ba_ext (by simp [ba_append])
def pduTxt (p : Pdu) (i : Nat) : ByteArray := pduHead p ++ pduLines (p.binds.take i)
theorem pduTxt_succ (p : Pdu) (i : Nat) (h : i < p.binds.length) : pduTxt p (i + 1) = pduTxt p i ++ (nlB ++ bindText p.binds[i]) := by
  unfold pduTxt
  rw [List.take_succ_eq_append_getElem h, pduLines_append]
  apply ba_ext
  simp [ba_append, pduLines]
theorem pduTxt_zero (p : Pdu) : pduTxt p 0 = pduHead p := by
  unfold pduTxt
  apply ba_ext
  simp [ba_append, pduLines]
theorem pduTxt_end (p : Pdu) (h : pduOk p = true) : pduTxt p p.binds.length = pduText p := by
  unfold pduTxt pduText
  rw [if_pos h, List.take_length]
theorem pduTxt_size (p : Pdu) (h : pduOk p = true) (i : Nat) : (pduTxt p i).size ≤ 200 + 501 * i := by
  obtain ⟨k, id, a, b, l⟩ := p
  obtain ⟨_, h1, h2, h3, _⟩ := pduOk_parts h
  have e1 := itoaB_size (n := id) (by omega) (by omega)
  have e2 := itoaB_size (n := a) (by omega) (by omega)
  have e3 := itoaB_size (n := b) (by omega) (by omega)
  have e4 := kindWord_size k
  have e5 : blB.size = 1 := rfl
  have e6 := pduLines_size (l.take i)
  have e7 : (l.take i).length ≤ i := by simp; omega
  unfold pduTxt pduHead
  simp only [ByteArray.size_append]
  split <;> simp only [ByteArray.size_append] <;> omega
@[go_sem] theorem spec_PduText_run (n : Nat) (a_kind : Int) (a_id : Int) (a_a : Int) (a_b : Int) (a_binds : List Bnd) (hb : (⟨a_kind, a_id, a_a, a_b, a_binds⟩ : Pdu).Bd) : Pn (n+19) 17 [.agg [.lit (.int .i64 a_kind), .lit (.int .i64 a_id), .lit (.int .i64 a_a), .lit (.int .i64 a_b), .sl 5 (a_binds.map Bnd.cs)]] = some (.str (pduText ⟨a_kind, a_id, a_a, a_b, a_binds⟩)) := by
  have hbl : a_binds.length ≤ 1048576 := hb.binds.1
  have hbA : ∀ y ∈ a_binds, y.Bd := hb.binds.2
  refine fnP rfl Tryd.func17 (by kernel_rfl) rfl (fun R hR => ?_)
  by_cases hv : pduOk ⟨a_kind, a_id, a_a, a_b, a_binds⟩ = true
  · obtain ⟨hh, hid, ha1, hb1, hl10⟩ := pduOk_parts hv
    have hv2 := Hd.mk hv
    have w6 : (⟨#[32]⟩ : ByteArray).size = 1 := rfl
    have w7 : (⟨#[10]⟩ : ByteArray).size = 1 := rfl
    have w8 := kindWord_size a_kind
    have e1 := itoaB_size (n := a_id) (by omega) (by omega)
    have e2 := itoaB_size (n := a_a) (by omega) (by omega)
    have e3 := itoaB_size (n := a_b) (by omega) (by omega)
    clear hh
    obtain ⟨kk, hkk⟩ : ∃ kk : Int, Hd (kk = a_kind) := ⟨_, rfl⟩
    have hv3 : Hd (pduOk ⟨kk, a_id, a_a, a_b, a_binds⟩ = true) := by rw [hkk.out]; exact hv2
    have hR3 : Hd (R = .str (pduText ⟨kk, a_id, a_a, a_b, a_binds⟩)) := by rw [hkk.out]; exact hR
    clear hv2 hR
    have hk3 : (a_kind ≠ 162 ∧ a_kind ≠ 165) ∨ a_kind = 162 ∨ a_kind = 165 := by omega
    rcases hk3 with ⟨hk1, hk2⟩ | hk | hk
    all_goals try subst hk
    all_goals
      repeat' (first | simp (config := {contextual := true, maxSteps := 10000000}) (disch := first | assumption | omega) only [go_sem, Tryd.f17, ↓reduceIte, Nat.reduceEqDiff, Nat.reduceAdd, Nat.reduceSub, Nat.reduceMul, Nat.reduceLeDiff, Nat.reduceLT, Int.reduceNeg, Int.reduceToNat, Int.reduceLT, Int.reduceLE, Int.reduceEq, Int.reduceAdd, Int.reduceSub, reduceCtorEq, ByteArray.size_append, *] | intro _ | refine contC_split ?_ ?_ | refine contG_split ?_ ?_)
      refine wp_loopF [1] [3, 4] (fun j vs hp => ∃ (i : Nat), (i + j = a_binds.length) ∧ vs = [.str (pduTxt ⟨kk, a_id, a_a, a_b, a_binds⟩ i), .i64 i] ∧ (hp.at_ 0 = some ⟨5, [[.lit (.int .i64 kk), .lit (.int .i64 a_id), .lit (.int .i64 a_a), .lit (.int .i64 a_b), .sl 5 (a_binds.map Bnd.cs)]]⟩ ∧ 1 ≤ hp.next)) (a_binds.length) (by unfold NN; omega) (by decide) ?_ ?_
      · refine ⟨0, ?_, ?_, ?_⟩
        · omega
        · (rw [pduTxt_zero, hkk.out]; simp only [go_sem, List.cons.injEq]; simp [pduHead, blB, *])
        · (rw [hkk.out]; simp [upd])
        all_goals try (simp (config := {maxSteps := 10000000}) (disch := first | assumption | omega) only [go_sem, ↓reduceIte, Nat.reduceEqDiff, Nat.reduceAdd, Nat.reduceSub, Nat.reduceMul, Nat.reduceLeDiff, Nat.reduceLT, Int.reduceNeg, Int.reduceToNat, Int.reduceLT, Int.reduceLE, Int.reduceEq, Int.reduceAdd, Int.reduceSub, reduceCtorEq, List.cons.injEq, *])
        all_goals try (first | done | rfl | (constructor <;> rfl) | omega | (simp (disch := omega) [upd]; done) | (simp (disch := omega) [upd]; omega))
      · intro j env' hat hnx hj hu hI Lp hLp
        obtain ⟨i, hR0, he, hH⟩ := hI
        try simp (config := {maxSteps := 10000000}) (disch := first | assumption | omega) only [go_sem, ↓reduceIte, Nat.reduceEqDiff, Nat.reduceAdd, Nat.reduceSub, Nat.reduceMul, Nat.reduceLeDiff, Nat.reduceLT, Int.reduceNeg, Int.reduceToNat, Int.reduceLT, Int.reduceLE, Int.reduceEq, Int.reduceAdd, Int.reduceSub, reduceCtorEq, List.cons.injEq, and_true, true_and] at hu
        try simp (config := {maxSteps := 10000000}) (disch := first | assumption | omega) only [go_sem, ↓reduceIte, Nat.reduceEqDiff, Nat.reduceAdd, Nat.reduceSub, Nat.reduceMul, Nat.reduceLeDiff, Nat.reduceLT, Int.reduceNeg, Int.reduceToNat, Int.reduceLT, Int.reduceLE, Int.reduceEq, Int.reduceAdd, Int.reduceSub, reduceCtorEq, List.cons.injEq, and_true, true_and] at he
        try simp (config := {maxSteps := 10000000}) (disch := first | assumption | omega) only [go_sem, ↓reduceIte, Nat.reduceEqDiff, Nat.reduceAdd, Nat.reduceSub, Nat.reduceMul, Nat.reduceLeDiff, Nat.reduceLT, Int.reduceNeg, Int.reduceToNat, Int.reduceLT, Int.reduceLE, Int.reduceEq, Int.reduceAdd, Int.reduceSub, reduceCtorEq, List.cons.injEq, and_true, true_and] at hH
        by_cases hi : i < a_binds.length
        · have hy := hbA a_binds[i] (List.getElem_mem hi)
          have hyo : a_binds[i].o.length ≤ 140737488355328 := by have := hy.o; omega
          have hyv : a_binds[i].v.o.length ≤ 140737488355328 := by have := hy.v.o; omega
          have hsz := pduTxt_size ⟨kk, a_id, a_a, a_b, a_binds⟩ hv3.out i
          have hbs := bindText_size a_binds[i]
          have hs2 := Hd.mk (pduTxt_succ ⟨kk, a_id, a_a, a_b, a_binds⟩ i hi)
          generalize hs0 : pduTxt ⟨kk, a_id, a_a, a_b, a_binds⟩ i = s0 at he hsz hs2
          clear hs0
          repeat' (first | simp (config := {contextual := true, maxSteps := 10000000}) (disch := first | assumption | omega) only [go_sem, Tryd.f17, ↓reduceIte, Nat.reduceEqDiff, Nat.reduceAdd, Nat.reduceSub, Nat.reduceMul, Nat.reduceLeDiff, Nat.reduceLT, Int.reduceNeg, Int.reduceToNat, Int.reduceLT, Int.reduceLE, Int.reduceEq, Int.reduceAdd, Int.reduceSub, reduceCtorEq, Int.ofNat_lt, Nat.zero_add, ByteArray.size_append, *] | intro _ | refine contC_split ?_ ?_ | refine contG_split ?_ ?_)
          refine hLp.out (j - 1) _ _ (by omega) ⟨i + 1, by omega, ?_, ?_⟩
          · rw [hs2.out]
            first
              | rfl
              | (rw [show s0 ++ (nlB ++ bindText a_binds[i]) = s0 ++ nlB ++ bindText a_binds[i] from ba_ext (by simp [ba_append])]; rfl)
          · obtain ⟨q1, q2⟩ := hH
            refine ⟨?_, by simp only; omega⟩
            simp (disch := omega) [upd, ne_nat, q1]
        · have hi' : i = a_binds.length := by omega
          subst hi'
          repeat' (first | simp (config := {contextual := true, maxSteps := 10000000}) (disch := first | assumption | omega) only [go_sem, Tryd.f17, ↓reduceIte, Nat.reduceEqDiff, Nat.reduceAdd, Nat.reduceSub, Nat.reduceMul, Nat.reduceLeDiff, Nat.reduceLT, Int.reduceNeg, Int.reduceToNat, Int.reduceLT, Int.reduceLE, Int.reduceEq, Int.reduceAdd, Int.reduceSub, reduceCtorEq, Int.ofNat_lt, Nat.lt_irrefl, *] | intro _ | refine contC_split ?_ ?_ | refine contG_split ?_ ?_)
          have hR2 : R = _ := hR3
          subst hR2
          have hpe := pduTxt_end _ hv3.out
          simp only at hpe
          rw [hpe]
  · simp only [Bool.not_eq_true] at hv
    have hn : pduText ⟨a_kind, a_id, a_a, a_b, a_binds⟩ = ⟨#[]⟩ := by unfold pduText; rw [if_neg (by rw [hv]; decide)]
    repeat' (first | simp (config := {contextual := true, maxSteps := 10000000}) (disch := first | assumption | omega) only [go_sem, Tryd.f17, ↓reduceIte, Nat.reduceEqDiff, Nat.reduceAdd, Nat.reduceSub, Nat.reduceMul, Nat.reduceLeDiff, Nat.reduceLT, Int.reduceNeg, Int.reduceToNat, Int.reduceLT, Int.reduceLE, Int.reduceEq, Int.reduceAdd, Int.reduceSub, reduceCtorEq, *] | intro _ | refine contC_split ?_ ?_ | refine contG_split ?_ ?_)
    (have hR2 : R = _ := hR; subst hR2)
    rw [hn]
@[go_sem] theorem impl_PduText_run (n : Nat) (a_kind : Int) (a_id : Int) (a_a : Int) (a_b : Int) (a_binds : List Bnd) (hb : (⟨a_kind, a_id, a_a, a_b, a_binds⟩ : Pdu).Bd) : Pn (n+6) 19 [.agg [.lit (.int .i64 a_kind), .lit (.int .i64 a_id), .lit (.int .i64 a_a), .lit (.int .i64 a_b), .sl 5 (a_binds.map Bnd.cs)]] = some (.str (pduText ⟨a_kind, a_id, a_a, a_b, a_binds⟩)) := by
  have hbl : a_binds.length ≤ 1048576 := hb.binds.1
  have hbA : ∀ y ∈ a_binds, y.Bd := hb.binds.2
  refine fnP rfl Tryd.func19 (by kernel_rfl) rfl (fun R hR => ?_)
  by_cases hv : pduOk ⟨a_kind, a_id, a_a, a_b, a_binds⟩ = true
  · obtain ⟨hh, hid, ha1, hb1, hl10⟩ := pduOk_parts hv
    have hv2 := Hd.mk hv
    have w6 : (⟨#[32]⟩ : ByteArray).size = 1 := rfl
    have w7 : (⟨#[10]⟩ : ByteArray).size = 1 := rfl
    have w8 := kindWord_size a_kind
    have e1 := itoaB_size (n := a_id) (by omega) (by omega)
    have e2 := itoaB_size (n := a_a) (by omega) (by omega)
    have e3 := itoaB_size (n := a_b) (by omega) (by omega)
    obtain ⟨kk, hkk⟩ : ∃ kk : Int, Hd (kk = a_kind) := ⟨_, rfl⟩
    have hv3 : Hd (pduOk ⟨kk, a_id, a_a, a_b, a_binds⟩ = true) := by rw [hkk.out]; exact hv2
    have hR3 : Hd (R = .str (pduText ⟨kk, a_id, a_a, a_b, a_binds⟩)) := by rw [hkk.out]; exact hR
    clear hv2 hR
    have hk := headOk_k hh
    have hk3 : a_kind = 160 ∨ a_kind = 161 ∨ a_kind = 162 ∨ a_kind = 163 ∨ a_kind = 165 := by
      rcases hk with ⟨h | h | h, _⟩ | ⟨h | h, _⟩ <;> simp [h]
    clear hh hk
    have w1 : (⟨#[103, 101, 116]⟩ : ByteArray).size = 3 := rfl
    have w2 : (⟨#[110, 101, 120, 116]⟩ : ByteArray).size = 4 := rfl
    have w3 : (⟨#[97, 110, 115, 119, 101, 114]⟩ : ByteArray).size = 6 := rfl
    have w4 : (⟨#[115, 101, 116]⟩ : ByteArray).size = 3 := rfl
    have w5 : (⟨#[98, 117, 108, 107]⟩ : ByteArray).size = 4 := rfl
    rcases hk3 with hk | hk | hk | hk | hk
    all_goals try subst hk
    all_goals
      repeat' (first | simp (config := {contextual := true, maxSteps := 10000000}) (disch := first | assumption | omega) only [go_sem, Tryd.f19, ↓reduceIte, Nat.reduceEqDiff, Nat.reduceAdd, Nat.reduceSub, Nat.reduceMul, Nat.reduceLeDiff, Nat.reduceLT, Int.reduceNeg, Int.reduceToNat, Int.reduceLT, Int.reduceLE, Int.reduceEq, Int.reduceAdd, Int.reduceSub, reduceCtorEq, ByteArray.size_append, *] | intro _ | refine contC_split ?_ ?_ | refine contG_split ?_ ?_)
      refine wp_loopF [46, 47] [4, 48] (fun j vs hp => ∃ (i : Nat), (i + j = a_binds.length) ∧ vs = [.str (pduTxt ⟨kk, a_id, a_a, a_b, a_binds⟩ i), .i64 i] ∧ (hp.at_ 0 = some ⟨5, [[.lit (.int .i64 kk), .lit (.int .i64 a_id), .lit (.int .i64 a_a), .lit (.int .i64 a_b), .sl 5 (a_binds.map Bnd.cs)]]⟩ ∧ 1 ≤ hp.next)) (a_binds.length) (by unfold NN; omega) (by decide) ?_ ?_
      · refine ⟨0, ?_, ?_, ?_⟩
        · omega
        · (rw [pduTxt_zero, hkk.out]; simp only [go_sem, List.cons.injEq]; simp [pduHead, blB, kindWord, ba_assoc, *])
        · (rw [hkk.out]; simp [upd])
        all_goals try (simp (config := {maxSteps := 10000000}) (disch := first | assumption | omega) only [go_sem, ↓reduceIte, Nat.reduceEqDiff, Nat.reduceAdd, Nat.reduceSub, Nat.reduceMul, Nat.reduceLeDiff, Nat.reduceLT, Int.reduceNeg, Int.reduceToNat, Int.reduceLT, Int.reduceLE, Int.reduceEq, Int.reduceAdd, Int.reduceSub, reduceCtorEq, List.cons.injEq, *])
        all_goals try (first | done | rfl | (constructor <;> rfl) | omega | (simp (disch := omega) [upd]; done) | (simp (disch := omega) [upd]; omega))
      · intro j env' hat hnx hj hu hI Lp hLp
        obtain ⟨i, hR0, he, hH⟩ := hI
        try simp (config := {maxSteps := 10000000}) (disch := first | assumption | omega) only [go_sem, ↓reduceIte, Nat.reduceEqDiff, Nat.reduceAdd, Nat.reduceSub, Nat.reduceMul, Nat.reduceLeDiff, Nat.reduceLT, Int.reduceNeg, Int.reduceToNat, Int.reduceLT, Int.reduceLE, Int.reduceEq, Int.reduceAdd, Int.reduceSub, reduceCtorEq, List.cons.injEq, and_true, true_and] at hu
        try simp (config := {maxSteps := 10000000}) (disch := first | assumption | omega) only [go_sem, ↓reduceIte, Nat.reduceEqDiff, Nat.reduceAdd, Nat.reduceSub, Nat.reduceMul, Nat.reduceLeDiff, Nat.reduceLT, Int.reduceNeg, Int.reduceToNat, Int.reduceLT, Int.reduceLE, Int.reduceEq, Int.reduceAdd, Int.reduceSub, reduceCtorEq, List.cons.injEq, and_true, true_and] at he
        try simp (config := {maxSteps := 10000000}) (disch := first | assumption | omega) only [go_sem, ↓reduceIte, Nat.reduceEqDiff, Nat.reduceAdd, Nat.reduceSub, Nat.reduceMul, Nat.reduceLeDiff, Nat.reduceLT, Int.reduceNeg, Int.reduceToNat, Int.reduceLT, Int.reduceLE, Int.reduceEq, Int.reduceAdd, Int.reduceSub, reduceCtorEq, List.cons.injEq, and_true, true_and] at hH
        by_cases hi : i < a_binds.length
        · have hy := hbA a_binds[i] (List.getElem_mem hi)
          have hyo : a_binds[i].o.length ≤ 140737488355328 := by have := hy.o; omega
          have hyv : a_binds[i].v.o.length ≤ 140737488355328 := by have := hy.v.o; omega
          have hsz := pduTxt_size ⟨kk, a_id, a_a, a_b, a_binds⟩ hv3.out i
          have hbs := bindText_size a_binds[i]
          have hs2 := Hd.mk (pduTxt_succ ⟨kk, a_id, a_a, a_b, a_binds⟩ i hi)
          generalize hs0 : pduTxt ⟨kk, a_id, a_a, a_b, a_binds⟩ i = s0 at he hsz hs2
          clear hs0
          repeat' (first | simp (config := {contextual := true, maxSteps := 10000000}) (disch := first | assumption | omega) only [go_sem, Tryd.f19, ↓reduceIte, Nat.reduceEqDiff, Nat.reduceAdd, Nat.reduceSub, Nat.reduceMul, Nat.reduceLeDiff, Nat.reduceLT, Int.reduceNeg, Int.reduceToNat, Int.reduceLT, Int.reduceLE, Int.reduceEq, Int.reduceAdd, Int.reduceSub, reduceCtorEq, Int.ofNat_lt, Nat.zero_add, ByteArray.size_append, *] | intro _ | refine contC_split ?_ ?_ | refine contG_split ?_ ?_)
          refine hLp.out (j - 1) _ _ (by omega) ⟨i + 1, by omega, ?_, ?_⟩
          · rw [hs2.out]
            first
              | rfl
              | (rw [show s0 ++ (nlB ++ bindText a_binds[i]) = s0 ++ nlB ++ bindText a_binds[i] from ba_ext (by simp [ba_append])]; rfl)
          · obtain ⟨q1, q2⟩ := hH
            refine ⟨?_, by simp only; omega⟩
            simp (disch := omega) [upd, ne_nat, q1]
        · have hi' : i = a_binds.length := by omega
          subst hi'
          repeat' (first | simp (config := {contextual := true, maxSteps := 10000000}) (disch := first | assumption | omega) only [go_sem, Tryd.f19, ↓reduceIte, Nat.reduceEqDiff, Nat.reduceAdd, Nat.reduceSub, Nat.reduceMul, Nat.reduceLeDiff, Nat.reduceLT, Int.reduceNeg, Int.reduceToNat, Int.reduceLT, Int.reduceLE, Int.reduceEq, Int.reduceAdd, Int.reduceSub, reduceCtorEq, Int.ofNat_lt, Nat.lt_irrefl, *] | intro _ | refine contC_split ?_ ?_ | refine contG_split ?_ ?_)
          have hR2 : R = _ := hR3
          subst hR2
          have hpe := pduTxt_end _ hv3.out
          simp only at hpe
          rw [hpe]
  · simp only [Bool.not_eq_true] at hv
    have hn : pduText ⟨a_kind, a_id, a_a, a_b, a_binds⟩ = ⟨#[]⟩ := by unfold pduText; rw [if_neg (by rw [hv]; decide)]
    repeat' (first | simp (config := {contextual := true, maxSteps := 10000000}) (disch := first | assumption | omega) only [go_sem, Tryd.f19, ↓reduceIte, Nat.reduceEqDiff, Nat.reduceAdd, Nat.reduceSub, Nat.reduceMul, Nat.reduceLeDiff, Nat.reduceLT, Int.reduceNeg, Int.reduceToNat, Int.reduceLT, Int.reduceLE, Int.reduceEq, Int.reduceAdd, Int.reduceSub, reduceCtorEq, *] | intro _ | refine contC_split ?_ ?_ | refine contG_split ?_ ?_)
    (have hR2 : R = _ := hR; subst hR2)
    rw [hn]
end Go.Ev.D
