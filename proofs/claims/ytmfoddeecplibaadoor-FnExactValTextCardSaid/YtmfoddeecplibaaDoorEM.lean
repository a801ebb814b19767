/- A law's arguments, all of them; what a pure run says of a law. -/
import Derived.Test.YtmfoddeecplibaaDoorEL
import Derived.WideShapes
import Derived.Carry
import Derived.OpenShut
set_option linter.unusedVariables false
set_option linter.unusedSimpArgs false
namespace Go.Ev
open Go.WideShapes Go.RowKit Go.ChangeShapes

/-- A value of such a type. -/
inductive FitV : TD → V → Prop
  | one {t : TD} {c : C} : FitT t [c] → FitV t (.one c)
  | agg {fs : List TD} {cs : List C} : FitT (.st fs) cs → FitV (.st fs) (.agg cs)

inductive FitVs : List TD → List V → Prop
  | nil : FitVs [] []
  | cons {t : TD} {ts : List TD} {v : V} {vs : List V} : FitV t v → FitVs ts vs → FitVs (t :: ts) (v :: vs)

section
variable {H : Type} {enc : TypeId × Value → H} {P : Program} {w : World} {spare : Nat → Bool} {held : Bool}

theorem repIs_one {w : World} {ccs : List C} {v : Value} (h : RepIs w ccs [v]) : ∃ c, ccs = [c] ∧ RepI (fun r => r < w.heap.size) w c v := by
  have hl := h.1
  cases ccs with
  | nil => simp at hl
  | cons c r =>
    cases r with
    | nil => exact ⟨c, rfl, h.2 0 c v rfl rfl⟩
    | cons => simp at hl

theorem arg_read {t : TypeId} {td : TD} {v : Value} {d : DataW H} {ps : List MemPlace} {r : Reach} {base : Nat} {n : Nat} (htd : tdT P n t = some td) (hT : DataW.Trod enc P w 0 spare held t v d ps)
    (hv : Value.okWide P w r base t v) (hw : ∀ n ∈ d.weights P t, n ≤ reachBytes) : ∃ a, FitV td a ∧ RepV (fun _ => none) (fun r => r < w.heap.size) w a v := by
  obtain ⟨fuel, hf⟩ := hT
  obtain ⟨ccs, h1, h2⟩ := trod_fit n t td fuel _ _ htd hf hw
  have one : ∀ u, v = u → u.cells = #[u] → ∃ c, FitT td [c] ∧ RepV (fun _ => none) (fun r => r < w.heap.size) w (.one c) v := by
    intro u he hc
    subst he
    rw [hc] at h2
    obtain ⟨c, rfl, hr⟩ := repIs_one h2
    exact ⟨c, h1, .one (.imm hr)⟩
  cases n with
  | zero => simp [tdT] at htd
  | succ n =>
    have htd' := htd
    unfold tdT at htd
    split at htd
    · rename_i hu
      obtain ⟨b, hb⟩ := okWide_bool hu hv
      obtain ⟨c, f1, f2⟩ := one _ hb rfl
      exact ⟨_, .one f1, f2⟩
    · rename_i k hu
      obtain ⟨b, hb⟩ := okWide_int hu hv
      obtain ⟨c, f1, f2⟩ := one _ hb rfl
      exact ⟨_, .one f1, f2⟩
    · rename_i hu
      obtain ⟨b, hb⟩ := okWide_string hu hv
      obtain ⟨c, f1, f2⟩ := one _ hb rfl
      exact ⟨_, .one f1, f2⟩
    · rename_i e hu
      obtain ⟨a, l, k, hb⟩ := okWide_slice hu hv
      obtain ⟨c, f1, f2⟩ := one _ hb rfl
      exact ⟨_, .one f1, f2⟩
    · rename_i fs hu
      obtain ⟨cs, rfl, hcs⟩ := okWide_struct hu hv
      split at htd
      case h_2 => cases htd
      split at htd
      case isFalse => cases htd
      cases htd
      exact ⟨.agg ccs, .agg h1, .agg ⟨h2.1, fun j c v hc hv => .imm (h2.2 j c v hc hv)⟩⟩
    · cases htd

theorem args_read {r : Reach} {base : Nat} {m : Nat} : ∀ {ts : List TypeId} {tds : List TD} {vs : List Value} {ds : List (DataW H)} {ps : List MemPlace}, ts.map (tdT P m) = tds.map some →
    DataW.TrodAll enc P w 0 spare held ts vs ds ps → (∀ (j : Nat) (t : TypeId) (v : Value), ts[j]? = some t → vs[j]? = some v → Value.okWide P w r base t v) →
    (∀ n ∈ DataW.weightsEach P ts ds, n ≤ reachBytes) → ∃ as, FitVs tds as ∧ RepVs (fun _ => none) (fun r => r < w.heap.size) w as vs
  | [], tds, vs, ds, ps, ht, hA, hv, hw => by
    cases tds with
    | cons => simp at ht
    | nil =>
      cases vs with
      | nil => exact ⟨[], .nil, rfl, fun j x v hx => by simp at hx⟩
      | cons => cases ds <;> exact hA.elim
  | t :: ts, tds, vs, ds, ps, ht, hA, hv, hw => by
    cases tds with
    | nil => simp at ht
    | cons td tds =>
      cases vs with
      | nil => exact hA.elim
      | cons v vs =>
        cases ds with
        | nil => exact hA.elim
        | cons d ds =>
          obtain ⟨p, q, h1, h2, _⟩ := hA
          simp only [List.map_cons, List.cons.injEq] at ht
          simp only [DataW.weightsEach, List.mem_append] at hw
          obtain ⟨a, f1, f2⟩ := arg_read ht.1 h1 (hv 0 t v rfl rfl) (fun n hn => hw n (.inl hn))
          obtain ⟨as', g1, g2⟩ := args_read ht.2 h2 (fun j t v hj hv' => hv (j + 1) t v (by simpa using hj) (by simpa using hv')) (fun n hn => hw n (.inr hn))
          refine ⟨a :: as', .cons f1 g1, by simp [g2.1], fun j x u hx hu => ?_⟩
          cases j with
          | zero => simp at hx hu; subst hx; subst hu; exact f2
          | succ j => exact g2.2 j x u (by simpa using hx) (by simpa using hu)

theorem trodAll_below {W W' : World} (hl : laidOutB P = true) (hb : Below W.heap.size W W') : ∀ {ts : List TypeId} {vs : List Value} {ds : List (DataW H)} {ps : List MemPlace},
    (ts.all fun t => P.readableRec t && decide (t < P.types.size)) = true → DataW.TrodAll enc P W 0 (fun _ => true) true ts vs ds ps →
    DataW.TrodAll enc P W' 0 (fun b => decide (b < W.heap.size)) true ts vs ds ps
  | [], [], [], ps, _, h => h
  | [], [], _ :: _, ps, _, h => h.elim
  | [], _ :: _, [], ps, _, h => h.elim
  | [], _ :: _, _ :: _, ps, _, h => h.elim
  | _ :: _, [], _, ps, _, h => h.elim
  | _ :: _, _ :: _, [], ps, _, h => h.elim
  | t :: ts, v :: vs, d :: ds, ps, hr, h => by
    obtain ⟨p, q, h1, h2, e⟩ := h
    simp only [List.all_cons, Bool.and_eq_true, decide_eq_true_eq] at hr
    refine ⟨p, q, Below.trod hl hr.1.1 hr.1.2 h1 hb (fun x hx => ?_), trodAll_below hl hb hr.2 h2, e⟩
    obtain ⟨m, hm⟩ := h1
    exact DataW.trod_lt m _ _ _ hm x hx
end

/-- A law that the evaluator finds true is true of the program. -/
theorem law_calls [TInv] {P : Program} (hP : P.follows .mixedOrders = true) {mode : FuncId → FuncId → Mode} {ext : FuncId → Option (List V → Hp → Option (V × Hp))} (hext : ExtOk P ext) {N n : Nat} {m : FuncId → Mode} {f : FuncId} {as : List V}
    (h : (⟨P, m, run P mode ext N n⟩ : Cfg).pureN f as = some (.bool true)) {w : World} {vs : Array Value} (hI : TInv.T (fun r => r < w.heap.size) w) (hvs : RepVs (fun _ => none) (fun r => r < w.heap.size) w as vs.toList) :
    Calls P f vs w (fun e w' => e = .returned (.bool true) ∧ Below w.heap.size w w') := by
  refine (pureN_ok (run_ok hP hext n m) h ⟨fun r hr => hr, hI⟩ hvs).mono ?_
  rintro e w' ⟨v, I', rfl, g, hr⟩
  refine ⟨?_, g.os, g.tape, g.output, g.size, fun k hk => g.frame k hk⟩
  have := rep_one hr
  cases this with
  | imm hi => cases hi with | lit _ => rfl

end Go.Ev
