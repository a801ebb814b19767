/- The roles of a bridge's ports, as text. -/
import Derived.Test.YtmfoddeecplibaaM2
import Derived.Shelf.Strings.OnBuilder
set_option linter.unusedVariables false
namespace Go.Ev
open Go.Proofs
def spB : ByteArray := ⟨#[32]⟩
def wordOf (r : Int) : ByteArray := if r = 1 then ⟨#[114, 111, 111, 116]⟩ else if r = 2 then ⟨#[116, 111, 108, 100]⟩ else if r = 3 then ⟨#[105, 100, 108, 101]⟩ else ⟨#[100, 111, 119, 110]⟩
def rolesWords (id : Int) (l : List Pt) (n : Nat) : List ByteArray := (List.range n).map fun (i : Nat) => wordOf (roleOf id l (i : Int))
theorem rolesWords_succ {id : Int} {l : List Pt} {n : Nat} : rolesWords id l (n + 1) = rolesWords id l n ++ [wordOf (roleOf id l n)] := by
  simp [rolesWords, List.range_succ]
theorem rolesWords_len {id : Int} {l : List Pt} {n : Nat} : (rolesWords id l n).length = n := by simp [rolesWords]
theorem roleOf_cases (id : Int) (l : List Pt) (p : Int) : roleOf id l p = 1 ∨ roleOf id l p = 2 ∨ roleOf id l p = 3 ∨ roleOf id l p = 4 := by
  unfold roleOf
  split
  · simp
  · split
    · simp
    · split
      · simp
      · split
        · simp
        · split <;> simp
theorem wordOf_size (r : Int) : (wordOf r).size = 4 := by
  unfold wordOf
  split
  · rfl
  · split
    · rfl
    · split <;> rfl
/-- What the reference writes, word by word. -/
def specText (id : Int) (l : List Pt) : Nat → ByteArray
  | 0 => ByteArray.empty
  | i + 1 => (if 0 < i then specText id l i ++ spB else specText id l i) ++ wordOf (roleOf id l i)
theorem ba_append (a b : ByteArray) : (a ++ b).data.toList = a.data.toList ++ b.data.toList := by
  simp [ByteArray.data_append]
theorem inter_snoc {α : Type} (s w : List α) : ∀ (r : List (List α)) (x : List α), s.intercalate (x :: (r ++ [w])) = s.intercalate (x :: r) ++ (s ++ w)
  | [], x => by simp [List.intercalate, List.intersperse]
  | y :: r, x => by
    have h := inter_snoc s w r y
    have e : ∀ (z : List (List α)), s.intercalate (x :: y :: z) = x ++ s ++ s.intercalate (y :: z) := fun z => by simp [List.intercalate, List.intersperse]
    rw [List.cons_append, e, h, e]
    simp
theorem specText_join (id : Int) (l : List Pt) : ∀ n, (specText id l n).data.toList = Lib.join ((rolesWords id l n).map (·.data.toList)) spB.data.toList := by
  intro n
  induction n with
  | zero => simp [specText, rolesWords]; rfl
  | succ n ih =>
    rw [rolesWords_succ]
    simp only [specText, List.map_append, List.map_cons, List.map_nil]
    rw [ba_append]
    cases n with
    | zero => simp [specText, rolesWords, Lib.join]
    | succ m =>
      rw [if_pos (by omega), ba_append, ih]
      have hne : ∃ x r, (rolesWords id l (m + 1)).map (·.data.toList) = x :: r := by
        cases h : (rolesWords id l (m + 1)).map (·.data.toList) with
        | nil => have := congrArg List.length h; simp [rolesWords_len] at this
        | cons x r => exact ⟨x, r, rfl⟩
      obtain ⟨x, r, hx⟩ := hne
      rw [hx]
      simp only [Lib.join, List.cons_append, inter_snoc, List.append_assoc]
theorem specText_size (id : Int) (l : List Pt) : ∀ n, (specText id l n).size ≤ 5 * n := by
  intro n
  induction n with
  | zero => simp [specText]
  | succ n ih =>
    simp only [specText, ByteArray.size_append, wordOf_size]
    split
    · simp only [ByteArray.size_append]
      have : spB.size = 1 := rfl
      omega
    · omega
end Go.Ev
