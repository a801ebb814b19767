/- Code; functions; programs. -/
import Derived.Test.YtmfoddeecplibaaDoorEG
import Derived.LoopN
set_option linter.unusedVariables false
set_option linter.unusedSimpArgs false
namespace Go.Ev

def Ex.of : Ex → Exit
  | .normal => .normal
  | .exit id => .exit id
  | .ret => .ret

theorem dst_lt {n id : Nat} {ops : Array Oper} {b : Bool} (h : dstOk n (.region id ops b) = true) : ∀ o ∈ ops, ∀ d, o.dst = some d → d < n := fun o ho d hd => by
  simp only [dstOk, List.all_eq_true] at h
  have := h o (by simpa using ho)
  rw [hd] at this
  simpa using this

theorem code_ok [TInv] {c : Cfg} (hc : CallOk c) (hP : c.P.follows .mixedOrders = true) {N n : Nat} : ∀ (code : Code), dstOk n code = true → ∀ (σ : St) (e : Ex) (σ' : St), codeE c N code σ = some (e, σ') →
    ∀ (ρ : Rho) (I : Nat → Prop) (a : Act) (w : World), Sim n ρ I σ a w → ∀ (Q : Exit → Act → World → Prop),
    (∀ a' w' ρ' I', Sim n ρ' I' σ' a' w' → Stp ρ I σ.hp w ρ' I' σ'.hp w' → Q e.of a' w') → code.wp c.P Q a w := by
  intro code
  induction code with
  | skip =>
    intro hd σ e σ' h ρ I a w s Q hQ
    simp only [codeE, Option.some.injEq, Prod.mk.injEq] at h
    obtain ⟨rfl, rfl⟩ := h
    exact wp_skip (hQ a w ρ I s (Stp.refl _ _ _ _))
  | label l =>
    intro hd σ e σ' h ρ I a w s Q hQ
    simp only [codeE, Option.some.injEq, Prod.mk.injEq] at h
    obtain ⟨rfl, rfl⟩ := h
    exact wp_label (hQ a w ρ I s (Stp.refl _ _ _ _))
  | ret =>
    intro hd σ e σ' h ρ I a w s Q hQ
    simp only [codeE, Option.some.injEq, Prod.mk.injEq] at h
    obtain ⟨rfl, rfl⟩ := h
    exact wp_ret (hQ a w ρ I s (Stp.refl _ _ _ _))
  | exit id =>
    intro hd σ e σ' h ρ I a w s Q hQ
    simp only [codeE, Option.some.injEq, Prod.mk.injEq] at h
    obtain ⟨rfl, rfl⟩ := h
    exact wp_exit (hQ a w ρ I s (Stp.refl _ _ _ _))
  | region id ops draw =>
    intro hd σ e σ' h ρ I a w s Q hQ
    simp only [codeE] at h
    split at h
    · cases h
    · rename_i hdr
      split at h
      · rename_i σ1 ho
        simp only [Option.some.injEq, Prod.mk.injEq] at h
        obtain ⟨rfl, rfl⟩ := h
        have hdl := dst_lt hd
        cases draw with
        | false =>
          refine wp_region ?_
          rw [List.range_eq_range']
          exact ops_ok hc hdl ops.size 0 σ ρ I a w (by omega) (by simpa using ho) s (fun a' w' ρ' I' s' q => hQ a' w' ρ' I' s' q)
        | true =>
          have hdr' : drawOk c.mode ops = true := by simpa using hdr
          exact draw_ok hc hP hdl hdr' ho s (fun a' w' ρ' I' s' q => hQ a' w' ρ' I' s' q)
      · cases h
  | seq x y ihx ihy =>
    intro hd σ e σ' h ρ I a w s Q hQ
    simp only [dstOk, Bool.and_eq_true] at hd
    simp only [codeE] at h
    split at h
    · rename_i σ1 hx
      refine wp_seq (ihx hd.1 σ .normal σ1 hx ρ I a w s _ (fun a1 w1 ρ1 I1 s1 q1 => ?_))
      exact ihy hd.2 σ1 e σ' h ρ1 I1 a1 w1 s1 Q (fun a' w' ρ' I' s' q => hQ a' w' ρ' I' s' (q1.trans q))
    · rename_i hne
      refine wp_seq (ihx hd.1 σ e σ' h ρ I a w s _ (fun a1 w1 ρ1 I1 s1 q1 => ?_))
      cases e with
      | normal => exact absurd h (hne σ')
      | exit id => exact hQ a1 w1 ρ1 I1 s1 q1
      | ret => exact hQ a1 w1 ρ1 I1 s1 q1
  | cond x u v ihu ihv =>
    intro hd σ e σ' h ρ I a w s Q hQ
    simp only [dstOk, Bool.and_eq_true] at hd
    simp only [codeE] at h
    split at h
    · rename_i t hx
      have hr := eval_ok s.env x
      rw [hx] at hr
      refine wp_cond (repV_lit hr) ?_
      cases t with
      | true => simp only [if_true] at h ⊢; exact ihu hd.1 σ e σ' h ρ I a w s Q hQ
      | false => simp only [Bool.false_eq_true, if_false] at h ⊢; exact ihv hd.2 σ e σ' h ρ I a w s Q hQ
    · cases h
  | block id x ih =>
    intro hd σ e σ' h ρ I a w s Q hQ
    simp only [dstOk] at hd
    simp only [codeE] at h
    split at h
    · rename_i id' σ1 hx
      refine wp_block (ih hd σ (.exit id') σ1 hx ρ I a w s _ (fun a1 w1 ρ1 I1 s1 q1 => ?_))
      split at h
      · rename_i hid
        simp only [Option.some.injEq, Prod.mk.injEq] at h
        obtain ⟨rfl, rfl⟩ := h
        simp only [Ex.of, Exit.inBlock, hid, if_true]
        exact hQ a1 w1 ρ1 I1 s1 q1
      · rename_i hid
        simp only [Option.some.injEq, Prod.mk.injEq] at h
        obtain ⟨rfl, rfl⟩ := h
        simp only [Ex.of, Exit.inBlock, hid, if_false]
        exact hQ a1 w1 ρ1 I1 s1 q1
    · rename_i hne
      refine wp_block (ih hd σ e σ' h ρ I a w s _ (fun a1 w1 ρ1 I1 s1 q1 => ?_))
      cases e with
      | normal => exact hQ a1 w1 ρ1 I1 s1 q1
      | exit id' => exact absurd h (hne id' σ')
      | ret => exact hQ a1 w1 ρ1 I1 s1 q1
  | loop x ih =>
    intro hd σ e σ' h ρ I a w s Q hQ
    simp only [dstOk] at hd
    simp only [codeE] at h
    have key : ∀ (m : Nat) (σ : St), roundsE (codeE c N x) m σ = some (e, σ') → ∀ (ρ : Rho) (I : Nat → Prop) (a : Act) (w : World), Sim n ρ I σ a w →
        (∀ a' w' ρ' I', Sim n ρ' I' σ' a' w' → Stp ρ I σ.hp w ρ' I' σ'.hp w' → Q e.of a' w') → Code.rounds c.P x Q m a w := by
      intro m
      induction m with
      | zero => intro σ h; simp [roundsE] at h
      | succ m ihm =>
        intro σ h ρ I a w s hQ
        simp only [roundsE] at h
        rw [rounds_succ]
        split at h
        · rename_i σ1 hx
          refine ih hd σ .normal σ1 hx ρ I a w s _ (fun a1 w1 ρ1 I1 s1 q1 => ?_)
          exact ihm σ1 h ρ1 I1 a1 w1 s1 (fun a' w' ρ' I' s' q => hQ a' w' ρ' I' s' (q1.trans q))
        · rename_i hne
          refine ih hd σ e σ' h ρ I a w s _ (fun a1 w1 ρ1 I1 s1 q1 => ?_)
          cases e with
          | normal => exact absurd h (hne σ')
          | exit id => exact hQ a1 w1 ρ1 I1 s1 q1
          | ret => exact hQ a1 w1 ρ1 I1 s1 q1
    exact wp_loop_rounds N (key N σ h ρ I a w s hQ)
  | _ => intro hd σ e σ' h; simp [codeE] at h

def resSem (tmps : Array Value) : ResultVar → Sem Value
  | .tmp t => pure (tmps.getD t undef)
  | .cell x t => do loadVar t (← asAddr (tmps.getD x undef))

theorem result_ok [TInv] {P : Program} {ρ : Rho} {I : Nat → Prop} {n : Nat} {σ : St} {a : Act} {w : World} (s : Sim n ρ I σ a w) {r : ResultVar} {v : V} (h : resultE P σ r = some v) :
    ∃ v', (resSem a.tmps r).run P w = .ok v' w ∧ RepV ρ I w v v' := by
  cases r with
  | tmp t =>
    simp only [resultE, Option.some.injEq] at h
    subst h
    exact ⟨_, rfl, s.env t⟩
  | cell x t =>
    simp only [resultE] at h
    have henv := s.env x
    simp only [resSem]
    generalize a.tmps.getD x undef = vx at henv
    obtain ⟨v', hr, hv⟩ := load_run s.rel h henv
    have hx : ∃ ad, vx = .pointer (some ad) := by
      unfold loadE at h
      split at h
      · rename_i cells hk hx0
        rw [hx0] at henv
        cases rep_one henv with
        | imm hi => cases hi; exact ⟨_, rfl⟩
      · rename_i hk hx0
        rw [hx0] at henv
        cases rep_one henv with
        | imm hi => cases hi
        | ptr hp => exact ⟨_, rfl⟩
      · cases h
    obtain ⟨ad, rfl⟩ := hx
    refine ⟨v', ?_, hv⟩
    simpa [Instr.loadAt, Instr.sureAddr, asAddr] using hr

theorem results_ok [TInv] {P : Program} {ρ : Rho} {I : Nat → Prop} {n : Nat} {σ : St} {a : Act} {w : World} (s : Sim n ρ I σ a w) : ∀ (rs : List ResultVar) (vs : List V), resultsE P σ rs = some vs →
    ∃ vs', (rs.mapM (resSem a.tmps)).run P w = .ok vs' w ∧ RepVs ρ I w vs vs'
  | [], vs, h => by
    simp only [resultsE, Option.some.injEq] at h
    subst h
    exact ⟨[], by simp, rfl, fun j x v hx _ => by simp at hx⟩
  | r :: rs, vs, h => by
    simp only [resultsE] at h
    split at h
    · rename_i v vs0 h1 h2
      cases h
      obtain ⟨v', g1, g2⟩ := result_ok s h1
      obtain ⟨vs', g3, g4⟩ := results_ok s rs vs0 h2
      refine ⟨v' :: vs', ?_, by simp [g4.1], fun j x u hx hu => ?_⟩
      · rw [List.mapM_cons]
        simp only [Sem.run_bind, g1, g3, Result.andThen_ok, Sem.run_pure]
      · cases j with
        | zero => simp at hx hu; subst hx; subst hu; exact g2
        | succ j => exact g4.2 j x u (by simpa using hx) (by simpa using hu)
    · cases h

theorem run_results [TInv] {P : Program} {ρ : Rho} {I : Nat → Prop} {n : Nat} {σ : St} {a : Act} {w : World} (s : Sim n ρ I σ a w) {fn : Func} {vs : List V} (h : resultsE P σ fn.results.toList = some vs) :
    ∃ v', (results fn a.tmps).run P w = .ok v' w ∧ RepV ρ I w (joinV vs) v' := by
  obtain ⟨vs', g1, g2⟩ := results_ok s _ _ h
  refine ⟨if h : vs'.toArray.size = 1 then vs'.toArray[0] else .tuple vs'.toArray, ?_, ?_⟩
  · have he : results fn a.tmps = (do let vs ← fn.results.mapM (resSem a.tmps); pure (if h : vs.size = 1 then vs[0] else .tuple vs)) := by
      unfold results
      congr 1
    rw [he, Array.mapM_eq_mapM_toList]
    simp only [Sem.run_bind, Sem.run_map, g1, Result.andThen_ok, Sem.run_pure]
  · have hl := g2.1
    unfold joinV
    split
    · rename_i v
      cases vs' with
      | nil => simp at hl
      | cons v1 r =>
        have : r = [] := List.eq_nil_of_length_eq_zero (by simpa using hl.symm)
        subst this
        simpa using g2.2 0 v v1 rfl rfl
    · rename_i hne
      have hsz : ¬ vs'.toArray.size = 1 := by
        intro h1
        cases vs with
        | nil => simp at hl h1; omega
        | cons v r =>
          cases r with
          | nil => exact hne v rfl
          | cons v2 r2 => simp at hl h1; omega
      rw [dif_neg hsz]
      exact .tup (by simpa using hl) (fun j x v hx hv => g2.2 j x v hx (by simpa using hv))

theorem opsE_hpOk [TInv] {c : Cfg} (hc : CallOk c) {ops : Array Oper} : ∀ (l : List Oper) (σ σ' : St), opsE c ops l σ = some σ' → HpOk σ.hp → HpOk σ'.hp ∧ σ.hp.next ≤ σ'.hp.next
  | [], σ, σ', h, ho => by simp only [opsE, Option.some.injEq] at h; subst h; exact ⟨ho, Nat.le_refl _⟩
  | o :: l, σ, σ', h, ho => by
    simp only [opsE] at h
    split at h
    · rename_i σ1 h1
      obtain ⟨v, b, st⟩ := operE_step h1
      have g : HpOk σ1.hp ∧ σ.hp.next ≤ σ1.hp.next := by
        cases b with
        | false => rw [(st.skip rfl).2]; exact ⟨ho, Nat.le_refl _⟩
        | true => exact opE_hpOk hc (st.run rfl) ho
      obtain ⟨g1, g2⟩ := opsE_hpOk hc l σ1 σ' h g.1
      exact ⟨g1, Nat.le_trans g.2 g2⟩
    · cases h

theorem codeE_hpOk [TInv] {c : Cfg} (hc : CallOk c) {N : Nat} : ∀ (code : Code) (σ : St) (e : Ex) (σ' : St), codeE c N code σ = some (e, σ') → HpOk σ.hp → HpOk σ'.hp ∧ σ.hp.next ≤ σ'.hp.next := by
  intro code
  induction code with
  | skip => intro σ e σ' h ho; simp only [codeE, Option.some.injEq, Prod.mk.injEq] at h; obtain ⟨_, rfl⟩ := h; exact ⟨ho, Nat.le_refl _⟩
  | label l => intro σ e σ' h ho; simp only [codeE, Option.some.injEq, Prod.mk.injEq] at h; obtain ⟨_, rfl⟩ := h; exact ⟨ho, Nat.le_refl _⟩
  | ret => intro σ e σ' h ho; simp only [codeE, Option.some.injEq, Prod.mk.injEq] at h; obtain ⟨_, rfl⟩ := h; exact ⟨ho, Nat.le_refl _⟩
  | exit id => intro σ e σ' h ho; simp only [codeE, Option.some.injEq, Prod.mk.injEq] at h; obtain ⟨_, rfl⟩ := h; exact ⟨ho, Nat.le_refl _⟩
  | region id ops draw =>
    intro σ e σ' h ho
    simp only [codeE] at h
    split at h
    · cases h
    · split at h
      · rename_i σ1 h1
        simp only [Option.some.injEq, Prod.mk.injEq] at h; obtain ⟨_, rfl⟩ := h
        exact opsE_hpOk hc _ _ _ h1 ho
      · cases h
  | seq x y ihx ihy =>
    intro σ e σ' h ho
    simp only [codeE] at h
    split at h
    · rename_i σ1 hx
      obtain ⟨g1, g2⟩ := ihx _ _ _ hx ho
      obtain ⟨g3, g4⟩ := ihy _ _ _ h g1
      exact ⟨g3, Nat.le_trans g2 g4⟩
    · exact ihx _ _ _ h ho
  | cond x u v ihu ihv =>
    intro σ e σ' h ho
    simp only [codeE] at h
    split at h
    · split at h
      · exact ihu _ _ _ h ho
      · exact ihv _ _ _ h ho
    · cases h
  | block id x ih =>
    intro σ e σ' h ho
    simp only [codeE] at h
    split at h
    · rename_i id' σ1 hx
      have g := ih _ _ _ hx ho
      split at h <;> (simp only [Option.some.injEq, Prod.mk.injEq] at h; obtain ⟨_, rfl⟩ := h; exact g)
    · exact ih _ _ _ h ho
  | loop x ih =>
    intro σ e σ' h ho
    simp only [codeE] at h
    have key : ∀ (m : Nat) (σ : St), roundsE (codeE c N x) m σ = some (e, σ') → HpOk σ.hp → HpOk σ'.hp ∧ σ.hp.next ≤ σ'.hp.next := by
      intro m
      induction m with
      | zero => intro σ h; simp [roundsE] at h
      | succ m ihm =>
        intro σ h ho
        simp only [roundsE] at h
        split at h
        · rename_i σ1 hx
          obtain ⟨g1, g2⟩ := ih _ _ _ hx ho
          obtain ⟨g3, g4⟩ := ihm _ h g1
          exact ⟨g3, Nat.le_trans g2 g4⟩
        · exact ih _ _ _ h ho
    exact key N σ h ho
  | _ => intro σ e σ' h; simp [codeE] at h

theorem env_init {ρ : Rho} {I : Nat → Prop} {w : World} {args : List V} {vs : Array Value} {m : Nat} (hvs : RepVs ρ I w args vs.toList) :
    EnvOk ρ I w (envOf args) { tmps := vs ++ Array.replicate m undef, defers := [] } := by
  intro t
  unfold envOf
  have hl : args.length = vs.size := by simpa using hvs.1
  have hu : RepV ρ I w V.undef undef := RepV.tup (vs := #[]) rfl (fun j x v hx _ => by simp at hx)
  by_cases ht : t < args.length
  · have h1 : args.getD t .undef = args[t] := by simp [List.getD, List.getElem?_eq_getElem ht]
    have h2 : (vs ++ Array.replicate m undef).getD t undef = vs[t] := by
      rw [Array.getD_eq_getD_getElem?, Array.getElem?_append_left (by omega), Array.getElem?_eq_getElem (by omega)]; rfl
    rw [h1]
    show RepV ρ I w args[t] ((vs ++ Array.replicate m undef).getD t undef)
    rw [h2]
    refine hvs.2 t _ _ (List.getElem?_eq_getElem ht) ?_
    rw [Array.getElem?_toList]
    exact Array.getElem?_eq_getElem (by omega)
  · have h1 : args.getD t .undef = .undef := by simp [List.getD, List.getElem?_eq_none (Nat.le_of_not_lt ht)]
    have h2 : (vs ++ Array.replicate m undef).getD t undef = undef := by
      rw [Array.getD_eq_getD_getElem?, Array.getElem?_append_right (by omega), Array.getElem?_replicate]
      split <;> rfl
    rw [h1]
    show RepV ρ I w V.undef ((vs ++ Array.replicate m undef).getD t undef)
    rw [h2]; exact hu

/-- A function, by its own text. -/
theorem func_ok [TInv] {c : Cfg} (hc : CallOk c) (hP : c.P.follows .mixedOrders = true) {N : Nat} {f : FuncId} {args : List V} {h h' : Hp} {r : V} (hf : funcE c N f args h = some (r, h')) :
    (HpOk h → HpOk h' ∧ h.next ≤ h'.next) ∧ (∃ fn, c.P.funcs[f]? = some fn ∧ fn.body.isSome = true ∧ fn.name ≠ "runtime.NumGoroutine") ∧
    ∀ (ρ : Rho) (I : Nat → Prop) (w : World) (vs : Array Value), HpOk h → Dom ρ h.next → Rel ρ I h w → RepVs ρ I w args vs.toList →
      Calls c.P f vs w (fun e w' => ∃ v ρ' I', e = .returned v ∧ Stp ρ I h w ρ' I' h' w' ∧ Rel ρ' I' h' w' ∧ RepV ρ' I' w' r v) := by
  unfold funcE at hf
  split at hf
  case h_2 => cases hf
  rename_i fn hfn
  split at hf
  case h_2 => cases hf
  rename_i body hb
  split at hf
  case isTrue => cases hf
  rename_i hcond
  simp only [not_or] at hcond
  obtain ⟨c1, c2, c3⟩ := hcond
  have c3' : dstOk fn.ntmps body = true := by simpa using c3
  have key : ∀ (e : Ex) (σ : St), (e = .normal ∨ e = .ret) → codeE c N body ⟨envOf args, h⟩ = some (e, σ) → (match resultsE c.P σ fn.results.toList with | some vs => some (joinV vs, σ.hp) | none => none) = some (r, h') →
      (HpOk h → HpOk h' ∧ h.next ≤ h'.next) ∧ ∀ (ρ : Rho) (I : Nat → Prop) (w : World) (vs : Array Value), HpOk h → Dom ρ h.next → Rel ρ I h w → RepVs ρ I w args vs.toList →
      Calls c.P f vs w (fun e w' => ∃ v ρ' I', e = .returned v ∧ Stp ρ I h w ρ' I' h' w' ∧ Rel ρ' I' h' w' ∧ RepV ρ' I' w' r v) := by
    intro e σ he hrun hres
    obtain ⟨vs, hvs, hr, hh⟩ : ∃ vs, resultsE c.P σ fn.results.toList = some vs ∧ r = joinV vs ∧ h' = σ.hp := by
      split at hres
      · rename_i vs hv; cases hres; exact ⟨vs, hv, rfl, rfl⟩
      · cases hres
    subst hh
    refine ⟨codeE_hpOk hc body ⟨envOf args, h⟩ e σ hrun, fun ρ I w us hok d R hus => ?_⟩
    have s0 : Sim fn.ntmps ρ I ⟨envOf args, h⟩ { tmps := us ++ Array.replicate (fn.ntmps - us.size) undef, defers := [] } w :=
      ⟨env_init hus, R, d, hok, by simp; have := hus.1; simp at this; omega, rfl⟩
    refine calls_of_wp hfn hb (code_ok hc hP body c3' _ e σ hrun ρ I _ w s0 _ (fun a' w' ρ' I' s q => ?_))
    obtain ⟨v', g1, g2⟩ := run_results s hvs
    rw [← hr] at g2
    have hpost : a'.defers = [] ∧ ∃ v, (results fn a'.tmps).run c.P w' = .ok v w' ∧ ∃ v0 ρ' I', Ending.returned v = .returned v0 ∧ Stp ρ I h w ρ' I' σ.hp w' ∧ Rel ρ' I' σ.hp w' ∧ RepV ρ' I' w' r v0 :=
      ⟨s.defers, v', g1, v', ρ', I', rfl, q, s.rel, g2⟩
    rcases he with rfl | rfl
    · exact hpost
    · exact hpost
  have hex : ∃ fn, c.P.funcs[f]? = some fn ∧ fn.body.isSome = true ∧ fn.name ≠ "runtime.NumGoroutine" := ⟨fn, hfn, by rw [hb]; rfl, c1⟩
  split at hf
  · rename_i σ hrun
    obtain ⟨k1, k2⟩ := key .normal σ (.inl rfl) hrun hf
    exact ⟨k1, hex, k2⟩
  · rename_i σ hrun
    obtain ⟨k1, k2⟩ := key .ret σ (.inr rfl) hrun hf
    exact ⟨k1, hex, k2⟩
  · cases hf

/-- Functions that are known by other means. -/
def ExtOk [TInv] (P : Program) (ext : FuncId → Option (List V → Hp → Option (V × Hp))) : Prop :=
  ∀ f g, ext f = some g → CallOk ⟨P, fun _ => .step, fun f' args h => if f' = f then g args h else none⟩

theorem run_ok [TInv] {P : Program} (hP : P.follows .mixedOrders = true) {mode : FuncId → FuncId → Mode} {ext : FuncId → Option (List V → Hp → Option (V × Hp))} (hext : ExtOk P ext) {N : Nat} :
    ∀ (n : Nat) (m : FuncId → Mode), CallOk ⟨P, m, run P mode ext N n⟩
  | 0, m => by intro f args h r h' hr; simp [run] at hr
  | n + 1, m => by
    intro f args h r h' hr
    simp only [run] at hr
    split at hr
    · rename_i g hg
      have := hext f g hg f args h r h' (by simp [hr])
      exact this
    · exact func_ok (run_ok hP hext n (mode f)) hP hr

/-- No function is known by other means. -/
def noExt [TInv] : FuncId → Option (List V → Hp → Option (V × Hp)) := fun _ => none
theorem noExt_ok [TInv] (P : Program) : ExtOk P noExt := fun f g h => by cases h

/-- A law of values alone: what the evaluator answers is what a call comes to; what was there is as it was. -/
theorem pure_run [TInv] {P : Program} (hP : P.follows .mixedOrders = true) {mode : FuncId → FuncId → Mode} {ext : FuncId → Option (List V → Hp → Option (V × Hp))} (hext : ExtOk P ext) {N n : Nat} {f : FuncId} {as : List V} {r : V}
    (h : (⟨P, mode f, run P mode ext N n⟩ : Cfg).pure f as = some r) {I : Nat → Prop} {w : World} (hI : Imm I w) {vs : Array Value} (hvs : RepVs (fun _ => none) I w as vs.toList) :
    Calls P f vs w (fun e w' => ∃ v I', e = .returned v ∧ Gone I w I' w' ∧ RepV (fun _ => none) I' w' r v) :=
  pure_ok (run_ok hP hext n (mode f)) h hI hvs

end Go.Ev
