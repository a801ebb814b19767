/- What the program's functions of text answer, and the reference's. -/
import Derived.Test.YtmfoddeecplibaaDoorD1
set_option maxRecDepth 100000
set_option maxHeartbeats 4000000
set_option linter.unusedVariables false
set_option linter.unusedSimpArgs false
namespace Go.Ev.D
open Go Go.Ev Go.Proofs
@[go_sem] theorem bytesOf_nil : bytesOf [] = some [] := rfl
@[go_sem] theorem bytesOf_one {n : Int} : bytesOf [[.lit (.int .u8 n)]] = some [UInt8.ofNat n.toNat] := rfl
theorem wrap_u8 {n : Int} (h1 : 0 ≤ n) (h2 : n ≤ 255) : IntKind.wrap .u8 n = n := by
  have e : IntKind.wrap .u8 n = n % 256 := by simp [IntKind.wrap, IntKind.bits, IntKind.signed]
  rw [e]; omega
theorem itoaB_small {m : Nat} (h : m < 10) : itoaB (m : Int) = ⟨#[UInt8.ofNat (48 + m)]⟩ := by
  unfold itoaB Lib.itoa
  rw [if_neg (by omega), Int.toNat_natCast, Lib.decDigits, dif_pos h]
theorem itoaB_step {m : Nat} (h : ¬ m < 10) : itoaB (m : Int) = itoaB ((m / 10 : Nat) : Int) ++ ⟨#[UInt8.ofNat (48 + m % 10)]⟩ := by
  apply ba_ext
  unfold itoaB Lib.itoa
  rw [if_neg (by omega), if_neg (by omega), ba_append, Int.toNat_natCast, Int.toNat_natCast]
  rw [show Lib.decDigits m = Lib.decDigits (m / 10) ++ [UInt8.ofNat (48 + m % 10)] by rw [Lib.decDigits, dif_neg h]]
theorem itoaB_neg {m : Nat} (h : 0 < m) : itoaB (-(m : Int)) = ⟨#[45]⟩ ++ itoaB (m : Int) := by
  apply ba_ext
  unfold itoaB Lib.itoa
  rw [if_pos (by omega), if_neg (by omega), ba_append]
  simp
@[go_sem] theorem itoa_run (n : Nat) (m : Int) (h1 : -9223372036854775808 ≤ m) (h2 : m ≤ 9223372036854775807) : Pn (n+1) 27 [.i64 m] = some (.str (itoaB m)) := by
  show Cfg.pureN _ _ _ = _
  unfold Cfg.pureN
  have : (Kn 0 (n+1)).call 27 [.i64 m] .empty = itoaG [.i64 m] .empty := rfl
  rw [this, itoaG_int, if_pos ⟨h1, h2⟩]
  simp only [go_sem]
@[go_sem] theorem join_run (n : Nat) (args : List V) (h : Hp) : Rn (n+1) 42 args h = joinG args h := rfl
theorem l2Num_nat : ∀ (d n m : Nat), m < 10 ^ (d + 1) → m ≤ 4000000000000 → Pn (n + d + 1) 23 [.i64 (m : Int)] = some (.str (itoaB (m : Int))) := by
  intro d
  induction d with
  | zero =>
    intro n m hm _
    have hm : m < 10 := by simpa using hm
    have hm0 : ¬ ((m : Int) < 0) := by omega
    have hm1 : (m : Int) < 10 := by omega
    have h1 := wrap_u8 (n := 48 + (m : Int)) (by omega) (by omega)
    have h2 := itoaB_small hm
    have h3 : ((48 : Int) + m).toNat = 48 + m := by omega
    refine fnP rfl Tryd.func23 (by kernel_rfl) rfl (fun R hR => ?_)
    repeat' (first | simp (config := {contextual := true, maxSteps := 10000000}) (disch := first | assumption | omega) only [go_sem, Tryd.f23, ↓reduceIte, Nat.reduceEqDiff, Nat.reduceAdd, Nat.reduceSub, Nat.reduceMul, Nat.reduceLeDiff, Nat.reduceLT, Int.reduceNeg, Int.reduceToNat, Int.reduceLT, Int.reduceLE, Int.reduceEq, Int.reduceAdd, Int.reduceSub, reduceCtorEq, *] | intro _ | refine contC_split ?_ ?_ | refine contG_split ?_ ?_)
    all_goals (have hR2 : R = _ := hR; subst hR2)
    rw [h2]
  | succ d ih =>
    intro n m hm hd
    have ihm : Pn (n + (d + 1)) 23 [.i64 ((m / 10 : Nat) : Int)] = some (.str (itoaB ((m / 10 : Nat) : Int))) := ih n (m / 10) (by rw [Nat.pow_succ] at hm; omega) (by omega)
    have hT : (m : Int).tdiv 10 = ((m / 10 : Nat) : Int) := rfl
    have hM : (m : Int).tmod 10 = ((m % 10 : Nat) : Int) := rfl
    have h1 := wrap_u8 (n := 48 + ((m % 10 : Nat) : Int)) (by omega) (by omega)
    have hm0 : ¬ ((m : Int) < 0) := by omega
    refine fnP rfl Tryd.func23 (by kernel_rfl) rfl (fun R hR => ?_)
    by_cases hs : m < 10
    · have hm1 : (m : Int) < 10 := by omega
      have h1 := wrap_u8 (n := 48 + (m : Int)) (by omega) (by omega)
      have h2 := itoaB_small hs
      have h3 : ((48 : Int) + m).toNat = 48 + m := by omega
      repeat' (first | simp (config := {contextual := true, maxSteps := 10000000}) (disch := first | assumption | omega) only [go_sem, Tryd.f23, ↓reduceIte, Nat.reduceEqDiff, Nat.reduceAdd, Nat.reduceSub, Nat.reduceMul, Nat.reduceLeDiff, Nat.reduceLT, Int.reduceNeg, Int.reduceToNat, Int.reduceLT, Int.reduceLE, Int.reduceEq, Int.reduceAdd, Int.reduceSub, reduceCtorEq, *] | intro _ | refine contC_split ?_ ?_ | refine contG_split ?_ ?_)
      all_goals (have hR2 : R = _ := hR; subst hR2)
      rw [h2]
    · have hm1 : ¬ (m : Int) < 10 := by omega
      have hk := itoaB_step hs
      have hsz := itoaB_size (n := ((m / 10 : Nat) : Int)) (by omega) (by omega)
      have h3 : ((48 : Int) + ((m % 10 : Nat) : Int)).toNat = 48 + m % 10 := by omega
      have hq : 10 ≠ (0 : Int) := by omega
      have h4 : (⟨#[UInt8.ofNat (48 + m % 10)]⟩ : ByteArray).size = 1 := rfl
      generalize hk2 : m / 10 = q at *
      generalize hk3 : m % 10 = r at *
      have hr9 : r ≤ 9 := by omega
      repeat' (first | simp (config := {contextual := true, maxSteps := 10000000}) (disch := first | assumption | omega) only [go_sem, Tryd.f23, ↓reduceIte, Nat.reduceEqDiff, Nat.reduceAdd, Nat.reduceSub, Nat.reduceMul, Nat.reduceLeDiff, Nat.reduceLT, Int.reduceNeg, Int.reduceToNat, Int.reduceLT, Int.reduceLE, Int.reduceEq, Int.reduceAdd, Int.reduceSub, reduceCtorEq, be_quo, be_rem, *] | intro _ | refine contC_split ?_ ?_ | refine contG_split ?_ ?_)
      all_goals (have hR2 : R = _ := hR; subst hR2)
      rw [hk]
theorem l2Num_all (n : Nat) (m : Int) (h1 : -1000000000000 ≤ m) (h2 : m ≤ 1000000000000) : Pn (n + 15) 23 [.i64 m] = some (.str (itoaB m)) := by
  by_cases hm : 0 ≤ m
  · obtain ⟨k, rfl⟩ := Int.eq_ofNat_of_zero_le hm
    exact l2Num_nat 13 (n + 1) k (by omega) (by omega)
  · obtain ⟨k, hk⟩ : ∃ k : Nat, m = -(k : Int) := ⟨(-m).toNat, by omega⟩
    subst hk
    have ih := l2Num_nat 13 n k (by omega) (by omega)
    have hm0 : -(k : Int) < 0 := by omega
    have hk2 := itoaB_neg (m := k) (by omega)
    have hsz := itoaB_size (n := (k : Int)) (by omega) (by omega)
    have hz : (0 : Int) - -(k : Int) = k := by omega
    have h4 : (⟨#[45]⟩ : ByteArray).size = 1 := rfl
    refine fnP rfl Tryd.func23 (by kernel_rfl) rfl (fun R hR => ?_)
    repeat' (first | simp (config := {contextual := true, maxSteps := 10000000}) (disch := first | assumption | omega) only [go_sem, Tryd.f23, ↓reduceIte, Nat.reduceEqDiff, Nat.reduceAdd, Nat.reduceSub, Nat.reduceMul, Nat.reduceLeDiff, Nat.reduceLT, Int.reduceNeg, Int.reduceToNat, Int.reduceLT, Int.reduceLE, Int.reduceEq, Int.reduceAdd, Int.reduceSub, reduceCtorEq, *] | intro _ | refine contC_split ?_ ?_ | refine contG_split ?_ ?_)
    all_goals (have hR2 : R = _ := hR; subst hR2)
    rw [hk2]
@[go_sem] theorem l2Num_run (n : Nat) (m : Int) (h1 : -1000000000000 ≤ m) (h2 : m ≤ 1000000000000) : Pn (n + 15) 23 [.i64 m] = some (.str (itoaB m)) := l2Num_all n m h1 h2
end Go.Ev.D
