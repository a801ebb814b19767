/- What a law is handed, as the things that the program speaks of. -/
import Derived.Test.YtmfoddeecplibaaEM
import Derived.Test.YtmfoddeecplibaaM0
set_option linter.unusedVariables false
namespace Go.Ev
theorem fit_st {fs : List TD} {cs : List C} (h : FitT (.st fs) cs) : FitTs fs cs := by cases h; assumption
theorem fits_nil {cs : List C} (h : FitTs [] cs) : cs = [] := by cases h; rfl
theorem fits_cons {t : TD} {ts : List TD} {cs : List C} (h : FitTs (t :: ts) cs) : ∃ a b, cs = a ++ b ∧ FitT t a ∧ FitTs ts b := by
  cases h with | cons _ _ a b h1 h2 => exact ⟨a, b, rfl, h1, h2⟩
theorem fit_i {k : IntKind} {cs : List C} (h : FitT (.int k) cs) : ∃ n, cs = [.lit (.int k n)] ∧ (Lit.int k n).wf = true := by
  cases h with | int _ n h => exact ⟨n, rfl, h⟩
theorem fit_b {cs : List C} (h : FitT .bool cs) : ∃ b, cs = [.lit (.bool b)] := by cases h with | bool b => exact ⟨b, rfl⟩
theorem fit_s {cs : List C} (h : FitT .str cs) : ∃ s, cs = [.lit (.string s)] ∧ s.size ≤ reachBytes := by cases h with | str s h => exact ⟨s, rfl, h⟩
theorem rows_map {α : Type} {f : α → List C} {td : TD} (h : ∀ r, FitT td r → ∃ x, r = f x) : ∀ (rows : List (List C)), (∀ r ∈ rows, FitT td r) → ∃ l : List α, rows = l.map f
  | [], _ => ⟨[], rfl⟩
  | r :: rows, hr => by
    obtain ⟨x, rfl⟩ := h r (hr r (by simp))
    obtain ⟨l, rfl⟩ := rows_map h rows (fun r hx => hr r (by simp [hx]))
    exact ⟨x :: l, rfl⟩
theorem fit_l {α : Type} {f : α → List C} {td : TD} {s by_ : Nat} (h : ∀ r, FitT td r → ∃ x, r = f x) {cs : List C} (hc : FitT (.slc s by_ td) cs) : ∃ l : List α, cs = [.sl s (l.map f)] ∧ l.length * by_ ≤ reachBytes := by
  cases hc with
  | slc _ _ _ rows h1 h2 =>
    obtain ⟨l, rfl⟩ := rows_map h rows h1
    exact ⟨l, rfl, by simpa using h2⟩
theorem fit_int {cs : List C} (h : FitT (.int .i64) cs) : ∃ n, cs = intC n := by obtain ⟨n, h, _⟩ := fit_i h; exact ⟨n, h⟩
theorem fit_li {by_ : Nat} {cs : List C} (h : FitT (.slc 1 by_ (.int .i64)) cs) : ∃ l : List Int, cs = [.sl 1 (l.map intC)] ∧ l.length * by_ ≤ reachBytes := fit_l (fun _ => fit_int) h
def td_Vec : TD := .st [.int .i64, .int .i64, .int .i64, .int .i64, .int .i64]
theorem fit_Vec {cs : List C} (h : FitT td_Vec cs) : ∃ x : Vec, cs = x.cs := by
  have H0 := fit_st h
  clear h
  obtain ⟨a0, r0, rfl, h0, H1⟩ := fits_cons H0
  clear H0
  obtain ⟨x0, rfl, _⟩ := fit_i h0
  obtain ⟨a1, r1, rfl, h1, H2⟩ := fits_cons H1
  clear H1
  obtain ⟨x1, rfl, _⟩ := fit_i h1
  obtain ⟨a2, r2, rfl, h2, H3⟩ := fits_cons H2
  clear H2
  obtain ⟨x2, rfl, _⟩ := fit_i h2
  obtain ⟨a3, r3, rfl, h3, H4⟩ := fits_cons H3
  clear H3
  obtain ⟨x3, rfl, _⟩ := fit_i h3
  obtain ⟨a4, r4, rfl, h4, H5⟩ := fits_cons H4
  clear H4
  obtain ⟨x4, rfl, _⟩ := fit_i h4
  obtain rfl := fits_nil H5
  exact ⟨⟨x0, x1, x2, x3, x4⟩, rfl⟩
def td_Pt : TD := .st [.bool, .int .i64, .bool, td_Vec]
theorem fit_Pt {cs : List C} (h : FitT td_Pt cs) : ∃ x : Pt, cs = x.cs := by
  have H0 := fit_st h
  clear h
  obtain ⟨a0, r0, rfl, h0, H1⟩ := fits_cons H0
  clear H0
  obtain ⟨x0, rfl⟩ := fit_b h0
  obtain ⟨a1, r1, rfl, h1, H2⟩ := fits_cons H1
  clear H1
  obtain ⟨x1, rfl, _⟩ := fit_i h1
  obtain ⟨a2, r2, rfl, h2, H3⟩ := fits_cons H2
  clear H2
  obtain ⟨x2, rfl⟩ := fit_b h2
  obtain ⟨a3, r3, rfl, h3, H4⟩ := fits_cons H3
  clear H3
  obtain ⟨x3, rfl⟩ := fit_Vec h3
  obtain rfl := fits_nil H4
  exact ⟨⟨x0, x1, x2, x3⟩, rfl⟩
def td_Fent : TD := .st [.int .i64, .int .i64, .int .i64, .int .i64, .bool]
theorem fit_Fent {cs : List C} (h : FitT td_Fent cs) : ∃ x : Fent, cs = x.cs := by
  have H0 := fit_st h
  clear h
  obtain ⟨a0, r0, rfl, h0, H1⟩ := fits_cons H0
  clear H0
  obtain ⟨x0, rfl, _⟩ := fit_i h0
  obtain ⟨a1, r1, rfl, h1, H2⟩ := fits_cons H1
  clear H1
  obtain ⟨x1, rfl, _⟩ := fit_i h1
  obtain ⟨a2, r2, rfl, h2, H3⟩ := fits_cons H2
  clear H2
  obtain ⟨x2, rfl, _⟩ := fit_i h2
  obtain ⟨a3, r3, rfl, h3, H4⟩ := fits_cons H3
  clear H3
  obtain ⟨x3, rfl, _⟩ := fit_i h3
  obtain ⟨a4, r4, rfl, h4, H5⟩ := fits_cons H4
  clear H4
  obtain ⟨x4, rfl⟩ := fit_b h4
  obtain rfl := fits_nil H5
  exact ⟨⟨x0, x1, x2, x3, x4⟩, rfl⟩
def td_Vrow : TD := .st [.int .i64, .int .i64, .int .i64]
theorem fit_Vrow {cs : List C} (h : FitT td_Vrow cs) : ∃ x : Vrow, cs = x.cs := by
  have H0 := fit_st h
  clear h
  obtain ⟨a0, r0, rfl, h0, H1⟩ := fits_cons H0
  clear H0
  obtain ⟨x0, rfl, _⟩ := fit_i h0
  obtain ⟨a1, r1, rfl, h1, H2⟩ := fits_cons H1
  clear H1
  obtain ⟨x1, rfl, _⟩ := fit_i h1
  obtain ⟨a2, r2, rfl, h2, H3⟩ := fits_cons H2
  clear H2
  obtain ⟨x2, rfl, _⟩ := fit_i h2
  obtain rfl := fits_nil H3
  exact ⟨⟨x0, x1, x2⟩, rfl⟩
def td_Vtab : TD := .st [.slc 3 24 td_Vrow, .slc 1 8 (.int .i64)]
theorem fit_Vtab' {cs : List C} (h : FitT td_Vtab cs) : ∃ x : Vtab, cs = x.cs ∧ x.rows.length * 24 ≤ reachBytes ∧ x.pvid.length * 8 ≤ reachBytes := by
  have H0 := fit_st h
  clear h
  obtain ⟨a0, r0, rfl, h0, H1⟩ := fits_cons H0
  clear H0
  obtain ⟨x0, rfl, g0⟩ := fit_l (fun _ => fit_Vrow) h0
  obtain ⟨a1, r1, rfl, h1, H2⟩ := fits_cons H1
  clear H1
  obtain ⟨x1, rfl, g1⟩ := fit_li h1
  obtain rfl := fits_nil H2
  exact ⟨⟨x0, x1⟩, rfl, g0, g1⟩
def td_Bridge : TD := .st [.int .i64, .str, .slc 8 64 td_Pt, .slc 5 40 td_Fent, td_Vtab, .int .i64, .int .i64, .int .i64, .int .i64, .int .i64]
theorem fit_Bridge' {cs : List C} (h : FitT td_Bridge cs) : ∃ x : Bridge, cs = x.cs ∧ x.name.size ≤ reachBytes ∧ x.ports.length * 64 ≤ reachBytes ∧ x.f.length * 40 ≤ reachBytes ∧ x.v.rows.length * 24 ≤ reachBytes ∧ x.v.pvid.length * 8 ≤ reachBytes := by
  have H0 := fit_st h
  clear h
  obtain ⟨a0, r0, rfl, h0, H1⟩ := fits_cons H0
  clear H0
  obtain ⟨x0, rfl, _⟩ := fit_i h0
  obtain ⟨a1, r1, rfl, h1, H2⟩ := fits_cons H1
  clear H1
  obtain ⟨x1, rfl, g1⟩ := fit_s h1
  obtain ⟨a2, r2, rfl, h2, H3⟩ := fits_cons H2
  clear H2
  obtain ⟨x2, rfl, g2⟩ := fit_l (fun _ => fit_Pt) h2
  obtain ⟨a3, r3, rfl, h3, H4⟩ := fits_cons H3
  clear H3
  obtain ⟨x3, rfl, g3⟩ := fit_l (fun _ => fit_Fent) h3
  obtain ⟨a4, r4, rfl, h4, H5⟩ := fits_cons H4
  clear H4
  obtain ⟨x4, rfl, g4_0, g4_1⟩ := fit_Vtab' h4
  obtain ⟨a5, r5, rfl, h5, H6⟩ := fits_cons H5
  clear H5
  obtain ⟨x5, rfl, _⟩ := fit_i h5
  obtain ⟨a6, r6, rfl, h6, H7⟩ := fits_cons H6
  clear H6
  obtain ⟨x6, rfl, _⟩ := fit_i h6
  obtain ⟨a7, r7, rfl, h7, H8⟩ := fits_cons H7
  clear H7
  obtain ⟨x7, rfl, _⟩ := fit_i h7
  obtain ⟨a8, r8, rfl, h8, H9⟩ := fits_cons H8
  clear H8
  obtain ⟨x8, rfl, _⟩ := fit_i h8
  obtain ⟨a9, r9, rfl, h9, H10⟩ := fits_cons H9
  clear H9
  obtain ⟨x9, rfl, _⟩ := fit_i h9
  obtain rfl := fits_nil H10
  exact ⟨⟨x0, x1, x2, x3, x4, x5, x6, x7, x8, x9⟩, rfl, g1, g2, g3, g4_0, g4_1⟩
end Go.Ev
