/- Names, values and requests as text: what the functions answer, in plain Lean. -/
import Derived.Test.YtmfoddeecplibaaDoorM1
import Derived.Lib.ItoaNum
import Derived.Lib.Join
set_option linter.unusedVariables false
set_option linter.unusedSimpArgs false
namespace Go.Ev
open Go.Lib
def joinB (xs : List ByteArray) (sep : ByteArray) : ByteArray := ⟨(Lib.join (xs.map (·.data.toList)) sep.data.toList).toArray⟩
theorem ba_append (a b : ByteArray) : (a ++ b).data.toList = a.data.toList ++ b.data.toList := by
  simp [ByteArray.data_append]
theorem ba_ext {a b : ByteArray} (h : a.data.toList = b.data.toList) : a = b := by
  cases a; cases b
  simp only at h
  rw [Array.toList_inj.1 h]
theorem inter_snoc {α : Type} (s w : List α) : ∀ (r : List (List α)) (x : List α), s.intercalate (x :: (r ++ [w])) = s.intercalate (x :: r) ++ (s ++ w)
  | [], x => by simp [List.intercalate, List.intersperse]
  | y :: r, x => by
    have h := inter_snoc s w r y
    have e : ∀ (z : List (List α)), s.intercalate (x :: y :: z) = x ++ s ++ s.intercalate (y :: z) := fun z => by simp [List.intercalate, List.intersperse]
    rw [List.cons_append, e, h, e]
    simp
/-- Words written one by one, a sign between. -/
def accText (w : Nat → ByteArray) (sep : ByteArray) : Nat → ByteArray
  | 0 => ⟨#[]⟩
  | i + 1 => (if 0 < i then accText w sep i ++ sep else accText w sep i) ++ w i
theorem accText_data (w : Nat → ByteArray) (sep : ByteArray) : ∀ n, (accText w sep n).data.toList = Lib.join (((List.range n).map w).map (·.data.toList)) sep.data.toList := by
  intro n
  induction n with
  | zero => simp [accText]; rfl
  | succ n ih =>
    rw [List.range_succ]
    simp only [accText, List.map_append, List.map_cons, List.map_nil]
    rw [ba_append]
    cases n with
    | zero => simp [accText, Lib.join]
    | succ m =>
      rw [if_pos (by omega), ba_append, ih]
      have hne : ∃ x r, ((List.range (m + 1)).map w).map (·.data.toList) = x :: r := by
        cases h : ((List.range (m + 1)).map w).map (·.data.toList) with
        | nil => have := congrArg List.length h; simp at this
        | cons x r => exact ⟨x, r, rfl⟩
      obtain ⟨x, r, hx⟩ := hne
      rw [hx]
      simp only [Lib.join, List.cons_append, inter_snoc, List.append_assoc]
theorem accText_join (w : Nat → ByteArray) (sep : ByteArray) (n : Nat) : accText w sep n = joinB ((List.range n).map w) sep := by
  apply ba_ext
  rw [accText_data]
  rfl
theorem accText_size (w : Nat → ByteArray) (sep : ByteArray) (k : Nat) (n : Nat) (h : ∀ i, i < n → (w i).size + sep.size ≤ k) : ∀ i, i ≤ n → (accText w sep i).size ≤ k * i := by
  intro i
  induction i with
  | zero => intro _; simp [accText]; rfl
  | succ i ih =>
    intro hi
    have h1 := ih (by omega)
    have h2 := h i (by omega)
    have e : k * (i + 1) = k * i + k := by rw [Nat.mul_succ]
    simp only [accText, ByteArray.size_append]
    split
    · simp only [ByteArray.size_append]; omega
    · omega
theorem range_map_getD {α β : Type} (l : List α) (d : α) (f : α → β) : (List.range l.length).map (fun i => f (l.getD i d)) = l.map f := by
  apply List.ext_getElem
  · simp
  · intro i h1 h2
    simp at h1 h2
    simp [List.getD, h2]

def itoaB (n : Int) : ByteArray := ⟨(Lib.itoa n).toArray⟩
theorem decDigits_len : ∀ (d u : Nat), u < 10 ^ (d + 1) → (decDigits u).length ≤ d + 1
  | 0, u, h => by rw [decDigits, dif_pos (by simpa using h)]; simp
  | d + 1, u, h => by
    rw [decDigits]
    split
    · simp
    · have := decDigits_len d (u / 10) (by rw [Nat.pow_succ] at h; omega)
      simp; omega
theorem itoaB_size {n : Int} (h1 : -9223372036854775808 ≤ n) (h2 : n ≤ 9223372036854775807) : (itoaB n).size ≤ 21 := by
  have e : (itoaB n).size = (Lib.itoa n).length := by unfold itoaB; show (Lib.itoa n).toArray.size = _; simp
  rw [e]
  unfold Lib.itoa
  split
  · have := decDigits_len 19 n.natAbs (by omega)
    simp; omega
  · have := decDigits_len 19 n.toNat (by omega)
    omega

def isInt (n : Int) : Bool := inR n (-2147483648) 2147483647
def oidOk (o : List Int) : Bool := o.all (fun n => inR n 0 100000) && inR o.length 1 10
def valOk (v : Val) : Bool :=
  if v.k = 2 then isInt v.n && decide (v.s = ⟨#[]⟩) && decide (v.o = [])
  else if v.k = 4 then decide (v.s.size ≤ 20) && decide (v.n = 0) && decide (v.o = [])
  else if v.k = 6 then oidOk v.o && decide (v.n = 0) && decide (v.s = ⟨#[]⟩)
  else (decide (v.k = 5) || decide (v.k = 128) || decide (v.k = 130)) && decide (v.n = 0) && decide (v.s = ⟨#[]⟩) && decide (v.o = [])
def dotB : ByteArray := ⟨#[46]⟩
def oidText (o : List Int) : ByteArray := if oidOk o = true then joinB (o.map itoaB) dotB else ⟨#[]⟩
def quoB : ByteArray := ⟨#[39]⟩
def valText (v : Val) : ByteArray :=
  if valOk v = false then ⟨#[]⟩
  else if v.k = 5 then ⟨#[110, 117, 108, 108]⟩
  else if v.k = 2 then itoaB v.n
  else if v.k = 4 then quoB ++ v.s ++ quoB
  else if v.k = 6 then oidText v.o
  else if v.k = 128 then ⟨#[110, 111, 110, 101]⟩
  else ⟨#[101, 110, 100]⟩
def isB : ByteArray := ⟨#[32, 61, 32]⟩
def bindText (x : Bnd) : ByteArray := oidText x.o ++ isB ++ valText x.v
theorem oidText_join (o : List Int) : oidText o = if oidOk o = true then accText (fun i => itoaB (o.getD i 0)) dotB o.length else ⟨#[]⟩ := by
  unfold oidText
  split
  · rw [accText_join, range_map_getD]
  · rfl
theorem oidOk_at {o : List Int} (h : oidOk o = true) : 1 ≤ o.length ∧ o.length ≤ 10 ∧ ∀ i, i < o.length → 0 ≤ o.getD i 0 ∧ o.getD i 0 ≤ 100000 := by
  simp only [oidOk, inR, Bool.and_eq_true, List.all_eq_true, decide_eq_true_eq] at h
  refine ⟨by omega, by omega, fun i hi => ?_⟩
  have := h.1 o[i] (List.getElem_mem hi)
  simpa [List.getD, hi] using this
theorem oidText_size (o : List Int) : (oidText o).size ≤ 220 := by
  rw [oidText_join]
  split
  · rename_i h
    obtain ⟨h1, h2, h3⟩ := oidOk_at h
    have := accText_size (fun i => itoaB (o.getD i 0)) dotB 22 o.length (fun i hi => by
      have := itoaB_size (n := o.getD i 0) (by have := h3 i hi; omega) (by have := h3 i hi; omega)
      have e : dotB.size = 1 := rfl
      show (itoaB (o.getD i 0)).size + dotB.size ≤ 22
      omega) o.length (Nat.le_refl _)
    omega
  · show 0 ≤ 220; omega
theorem valText_size (v : Val) : (valText v).size ≤ 220 := by
  unfold valText
  split
  · show 0 ≤ 220; omega
  · rename_i hv
    split
    · show 4 ≤ 220; omega
    · split
      · rename_i _ hk
        have : isInt v.n = true := by
          simp only [Bool.not_eq_false] at hv
          unfold valOk at hv
          rw [if_pos hk] at hv
          simp only [Bool.and_eq_true] at hv
          exact hv.1.1
        simp only [isInt, inR, decide_eq_true_eq] at this
        have := itoaB_size (n := v.n) (by omega) (by omega)
        omega
      · split
        · rename_i _ hk2 hk
          have : v.s.size ≤ 20 := by
            simp only [Bool.not_eq_false] at hv
            unfold valOk at hv
            rw [if_neg hk2, if_pos hk] at hv
            simp only [Bool.and_eq_true, decide_eq_true_eq] at hv
            exact hv.1.1
          simp only [ByteArray.size_append]
          have e : quoB.size = 1 := rfl
          omega
        · split
          · exact oidText_size v.o
          · split
            · show 4 ≤ 220; omega
            · show 3 ≤ 220; omega
theorem bindText_size (x : Bnd) : (bindText x).size ≤ 500 := by
  have h1 := oidText_size x.o
  have h2 := valText_size x.v
  unfold bindText
  simp only [ByteArray.size_append]
  have e : isB.size = 3 := rfl
  omega
def pduOk (p : Pdu) : Bool :=
  (if p.kind = 160 ∨ p.kind = 161 ∨ p.kind = 163 then decide (p.a = 0) && decide (p.b = 0)
   else if p.kind = 162 ∨ p.kind = 165 then inR p.a 0 1000 && inR p.b 0 1000 else false) &&
  p.binds.all (fun x => oidOk x.o && valOk x.v) && decide (p.binds.length ≤ 10) && isInt p.id
def kindWord (k : Int) : ByteArray :=
  if k = 160 then ⟨#[103, 101, 116]⟩ else if k = 161 then ⟨#[110, 101, 120, 116]⟩ else if k = 162 then ⟨#[97, 110, 115, 119, 101, 114]⟩ else if k = 163 then ⟨#[115, 101, 116]⟩ else ⟨#[98, 117, 108, 107]⟩
def blB : ByteArray := ⟨#[32]⟩
def nlB : ByteArray := ⟨#[10]⟩
def pduHead (p : Pdu) : ByteArray :=
  let s := kindWord p.kind ++ blB ++ itoaB p.id
  if p.kind = 162 ∨ p.kind = 165 then s ++ blB ++ itoaB p.a ++ blB ++ itoaB p.b else s
def pduLines : List Bnd → ByteArray
  | [] => ⟨#[]⟩
  | x :: xs => nlB ++ bindText x ++ pduLines xs
def pduText (p : Pdu) : ByteArray := if pduOk p = true then pduHead p ++ pduLines p.binds else ⟨#[]⟩
theorem pduLines_append : ∀ (a b : List Bnd), pduLines (a ++ b) = pduLines a ++ pduLines b
  | [], b => by simp only [List.nil_append, pduLines]; exact (ba_ext (by simp [ba_append])).symm
  | x :: a, b => by
    simp only [List.cons_append, pduLines, pduLines_append a b]
    exact ba_ext (by simp [ba_append])
theorem pduLines_size : ∀ (l : List Bnd), (pduLines l).size ≤ 501 * l.length
  | [] => Nat.le_refl _
  | x :: l => by
    have h1 := bindText_size x
    have h2 := pduLines_size l
    have e : nlB.size = 1 := rfl
    simp only [pduLines, ByteArray.size_append, List.length_cons]
    omega
theorem kindWord_size (k : Int) : (kindWord k).size ≤ 6 := by
  unfold kindWord
  repeat' split
  all_goals decide
end Go.Ev
