/- Copies, sizes: what the laws' own functions answer. -/
import Derived.Test.YtmfoddeecplibaaM1
set_option linter.unusedVariables false
namespace Go.Ev
/-- A row of rows, of which the first i are told. -/
def Filled (rows : List (List C)) (l : List (List C)) (i s : Nat) : Prop :=
  rows.length = l.length ∧ (∀ k, k < i → rows[k]? = l[k]?) ∧ ∀ r ∈ rows, r.length = s
theorem Filled.start {l : List (List C)} {z : List C} {s n : Nat} (hn : n = l.length) (hz : z.length = s) : Filled (List.replicate n z) l 0 s :=
  ⟨by simp [hn], fun k hk => by omega, fun r hr => by rw [(List.mem_replicate.1 hr).2]; exact hz⟩
theorem Filled.done {rows l : List (List C)} {s : Nat} (h : Filled rows l l.length s) : rows = l := by
  apply List.ext_getElem?
  intro k
  by_cases hk : k < l.length
  · exact h.2.1 k hk
  · rw [List.getElem?_eq_none (by rw [h.1]; omega), List.getElem?_eq_none (by omega)]
theorem Filled.next {rows l : List (List C)} {i s : Nat} {r : List C} (h : Filled rows l i s) (hi : l[i]? = some r) (hr : r.length = s) : Filled (rows.set i r) l (i + 1) s := by
  have hil : i < l.length := (List.getElem?_eq_some_iff.1 hi).1
  refine ⟨by simp [h.1], fun k hk => ?_, fun x hx => ?_⟩
  · by_cases hki : k = i
    · subst hki
      rw [List.getElem?_set_self (by rw [h.1]; exact hil), hi]
    · rw [List.getElem?_set_ne (by omega)]; exact h.2.1 k (by omega)
  · rcases List.mem_or_eq_of_mem_set hx with hx | rfl
    · exact h.2.2 x hx
    · exact hr
theorem Filled.drop {rows l : List (List C)} {i s j : Nat} (h : Filled rows l i s) (hj : j < l.length) : (rows.getD j []).drop s = [] := by
  have hj' : j < rows.length := by rw [h.1]; exact hj
  have : rows.getD j [] = rows[j] := by simp [List.getD, hj']
  rw [this]
  exact List.drop_eq_nil_of_le (by rw [h.2.2 _ (List.getElem_mem hj')]; exact Nat.le_refl _)
def szL (left : Int) (n : Nat) : Int := if left - n < 0 then -1 else left - n
def szVtab (v : Vtab) (left : Int) : Int := szL (szL left v.rows.length) v.pvid.length
def szBridge (b : Bridge) (left : Int) : Int := szVtab b.v (szL (szL (szL left b.name.size) b.ports.length) b.f.length)
end Go.Ev
