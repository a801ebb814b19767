/- Calls; any operation, in its turn. -/
import Derived.Test.YtmfoddeecplibaaDoorEB
set_option linter.unusedVariables false
set_option linter.unusedSimpArgs false
namespace Go.Ev
variable {w : World} {ρ : Rho} {I : Nat → Prop} {h : Hp}

/-- The real blocks of some of ours. -/
def MutL (ρ : Rho) (h : Hp) (l : List Nat) (r : Nat) : Prop := ∃ b k o, b ∈ l ∧ h.at_ b = some k ∧ ρ b = some (r, o)

theorem frz0_seen {c t : C} (hf : frzC 0 h c = some t) : c.seen = [] := by
  cases c <;> first | rfl | simp [frzC] at hf

theorem frz1C [TInv] (R : Rel ρ I h w) {c t : C} {v : Value} (hf : frzC 1 h c = some t) (hr : Rep ρ I w c v) : RepI (fun r => I r ∨ MutL ρ h c.seen r) w t v := by
  by_cases hc : ∃ s b o l, c = .ref s b o l
  · obtain ⟨s, b, off, len, rfl⟩ := hc
    simp only [frzC] at hf
    split at hf
    case h_2 => cases hf
    rename_i k hk
    split at hf
    case isFalse => cases hf
    rename_i hcond
    obtain ⟨hs, hle⟩ := hcond
    simp only [Option.map_eq_some_iff] at hf
    obtain ⟨ts, hts, rfl⟩ := hf
    obtain ⟨hlen, hrow⟩ := mapO_spec hts
    have hrl : ((k.rows.drop off).take len).length = len := by simp; omega
    rw [hrl] at hlen
    cases hr with
    | imm hi => cases hi
    | @ref _ _ _ _ a cap hlc hor =>
      rw [← hlen]
      have key : ∀ (i : Nat) (row : List C), ts[i]? = some row → ∃ r o row0, ρ b = some (r, o) ∧ a = some ⟨r, o + off * s, none⟩ ∧ k.rows[off + i]? = some row0 ∧ mapO (frzC 0 h) row0 = some row := by
        intro i row hi
        obtain ⟨row0, hr0, hm⟩ := hrow i row hi
        have hi' : i < len := by rw [← hlen]; exact (List.getElem?_eq_some_iff.1 hi).1
        rcases hor with h0 | ⟨r, o, h1, h2, _⟩
        · omega
        · refine ⟨r, o, row0, h1, h2, ?_, hm⟩
          rw [List.getElem?_take, if_pos hi', List.getElem?_drop] at hr0
          exact hr0
      refine .sl (fun i j => match a with | some ad => (w.cell? (ad.add (i * s + j))).getD undef | none => undef) (by omega) ?_ ?_ ?_
      · intro i row hi
        obtain ⟨r, o, row0, h1, h2, h3, h4⟩ := key i row hi
        rw [(mapO_spec h4).1, ← hs]
        exact ((R.blk b k r o hk h1).2.2 _ row0 h3).1
      · intro i row j c hi hj
        obtain ⟨r, o, row0, h1, h2, h3, h4⟩ := key i row hi
        obtain ⟨c0, hc0, _⟩ := (mapO_spec h4).2 j c hj
        obtain ⟨u, hu, _, _⟩ := ((R.blk b k r o hk h1).2.2 _ row0 h3).2 j c0 hc0
        have he : (⟨r, o + off * s, none⟩ : Addr).add (i * s + j) = ⟨r, o + ((off + i) * k.s + j), none⟩ := by
          rw [add_plain, hs]; congr 1; rw [Nat.add_mul]; omega
        refine ⟨_, h2, .inr ⟨b, k, o, by simp [C.seen], hk, h1⟩, ?_⟩
        subst h2
        simp only [he, hu, Option.getD_some]
      · intro i row j c hi hj
        obtain ⟨r, o, row0, h1, h2, h3, h4⟩ := key i row hi
        obtain ⟨c0, hc0, hfc⟩ := (mapO_spec h4).2 j c hj
        obtain ⟨u, hu, _, hrep⟩ := ((R.blk b k r o hk h1).2.2 _ row0 h3).2 j c0 hc0
        have he : (⟨r, o + off * s, none⟩ : Addr).add (i * s + j) = ⟨r, o + ((off + i) * k.s + j), none⟩ := by
          rw [add_plain, hs]; congr 1; rw [Nat.add_mul]; omega
        subst h2
        simp only [he, hu, Option.getD_some]
        exact (unseenC R (frz0_seen hfc) hfc hrep).mono (fun _ h => .inl h)
  · have hs : c.seen = [] := by
      cases c <;> first | rfl | exact absurd ⟨_, _, _, _, rfl⟩ hc
    exact (unseenC R hs hf hr).mono (fun _ h => .inl h)

theorem MutL.mono {l l' : List Nat} (hl : ∀ b ∈ l, b ∈ l') {r : Nat} (hr : MutL ρ h l r) : MutL ρ h l' r :=
  let ⟨b, k, o, h1, h2, h3⟩ := hr; ⟨b, k, o, hl b h1, h2, h3⟩

theorem frz1L [TInv] (R : Rel ρ I h w) {cs ts : List C} {vs : List Value} (hf : mapO (frzC 1 h) cs = some ts) (hr : RepL ρ I w cs vs) :
    RepL (fun _ => none) (fun r => I r ∨ MutL ρ h (cs.flatMap C.seen) r) w ts vs := by
  obtain ⟨h1, h2⟩ := mapO_spec hf
  refine ⟨h1.trans hr.1, fun j c v hc hv => ?_⟩
  obtain ⟨x, hx, hfx⟩ := h2 j c hc
  exact .imm ((frz1C R hfx (hr.2 j x v hx hv)).mono (fun r hr => hr.imp id (MutL.mono (fun b hb => List.mem_flatMap.2 ⟨x, List.mem_of_getElem? hx, hb⟩))))

theorem RepV.monoI [TInv] {I' : Nat → Prop} (hI : ∀ r, I r → I' r) {x : V} {v : Value} (hr : RepV ρ I w x v) : RepV ρ I' w x v :=
  hr.evo ⟨hI, fun _ _ => rfl, fun _ h => ⟨h, rfl⟩⟩ (More.refl _)

mutual
theorem frz1V [TInv] (R : Rel ρ I h w) : ∀ (x t : V) (v : Value), frzV 1 h x = some t → RepV ρ I w x v → RepV (fun _ => none) (fun r => I r ∨ MutL ρ h x.seen r) w t v
  | .junk, _, _, hf, _ => by simp [frzV] at hf
  | .one c, t, v, hf, hr => by
    simp only [frzV, Option.map_eq_some_iff] at hf
    obtain ⟨c', hc', rfl⟩ := hf
    simp only [V.seen]
    exact .one (.imm (frz1C R hc' (rep_one hr)))
  | .agg cs, t, v, hf, hr => by
    simp only [frzV, Option.map_eq_some_iff] at hf
    obtain ⟨cs', hc', rfl⟩ := hf
    obtain ⟨vs, rfl, hl⟩ := rep_agg hr
    simp only [V.seen]
    exact .agg (frz1L R hc' hl)
  | .tup xs, t, v, hf, hr => by
    simp only [frzV, Option.map_eq_some_iff] at hf
    obtain ⟨ts, hts, rfl⟩ := hf
    simp only [V.seen]
    cases hr with
    | @tup _ vs h1 h2 =>
      have := frz1Vs R xs ts vs.toList hts ⟨by simpa using h1, fun j x v hx hv => h2 j x v hx (by simpa using hv)⟩
      exact .tup (by simpa using this.1) (fun j x v hx hv => this.2 j x v hx (by simpa using hv))
theorem frz1Vs [TInv] (R : Rel ρ I h w) : ∀ (xs ts : List V) (vs : List Value), frzVs 1 h xs = some ts → RepVs ρ I w xs vs → RepVs (fun _ => none) (fun r => I r ∨ MutL ρ h (V.seens xs) r) w ts vs
  | [], ts, vs, hf, hr => by
    simp only [frzVs, Option.some.injEq] at hf
    subst hf
    exact ⟨hr.1, fun j x v hx _ => by simp at hx⟩
  | x :: xs, ts, vs, hf, hr => by
    simp only [frzVs] at hf
    split at hf
    · rename_i t ts' h1 h2
      cases hf
      simp only [V.seens]
      cases vs with
      | nil => have := hr.1; simp at this
      | cons v vs =>
        have i1 := (frz1V R x t v h1 (hr.2 0 x v rfl rfl)).monoI (I' := fun r => I r ∨ MutL ρ h (x.seen ++ V.seens xs) r) (fun r hr => hr.imp id (MutL.mono (fun b hb => List.mem_append.2 (.inl hb))))
        have i2 := frz1Vs R xs ts' vs h2 ⟨by simpa using hr.1, fun j x v hx hv => hr.2 (j + 1) x v (by simpa using hx) (by simpa using hv)⟩
        refine ⟨by simp [i2.1], fun j y u hy hu => ?_⟩
        cases j with
        | zero => simp at hy hu; subst hy; subst hu; exact i1
        | succ j => exact (i2.2 j y u (by simpa using hy) (by simpa using hu)).monoI (fun r hr => hr.imp id (MutL.mono (fun b hb => List.mem_append.2 (.inr hb))))
    · cases hf
end

theorem QStp.toStp [TInv] {ρ' : Rho} {I' : Nat → Prop} {h' : Hp} {w' : World} (q : QStp ρ I h w ρ' I' h' w') : Stp ρ I h w ρ' I' h' w' := q.stp

/-- Any call. -/
theorem call_ok [TInv] {c : Cfg} (hc : CallOk c) {f : FuncId} {args : List V} {v : V} {h' : Hp} (hb : callE c f args h = some (v, h')) (hok : HpOk h) (d : Dom ρ h.next)
    (R : Rel ρ I h w) {vs : Array Value} (hvs : RepVs ρ I w args vs.toList) :
    (∃ fn, c.P.funcs[f]? = some fn ∧ fn.body.isSome = true ∧ fn.name ≠ "runtime.NumGoroutine") ∧
    Calls c.P f vs w (fun e w' => ∃ v' ρ' I', e = .returned v' ∧ Stp ρ I h w ρ' I' h' w' ∧ Rel ρ' I' h' w' ∧ RepV ρ' I' w' v v') := by
  cases hm : c.mode f with
  | look =>
    obtain ⟨h1, h2⟩ := quiet_call hc (.inl hm) hb R hvs
    exact ⟨h1, h2.mono fun e w' ⟨v', I', he, q, R', hr⟩ => ⟨v', ρ, I', he, q.stp, R', hr⟩⟩
  | plain =>
    obtain ⟨h1, h2⟩ := quiet_call hc (.inr hm) hb R hvs
    exact ⟨h1, h2.mono fun e w' ⟨v', I', he, q, R', hr⟩ => ⟨v', ρ, I', he, q.stp, R', hr⟩⟩
  | step =>
    unfold callE at hb
    rw [hm] at hb
    obtain ⟨_, h1, h2⟩ := hc f args h v h' hb
    exact ⟨h1, h2 ρ I w vs hok d R hvs⟩
  | give =>
    unfold callE at hb
    rw [hm] at hb
    simp only at hb
    split at hb
    · rename_i as has
      split at hb
      · rename_i r hp
        simp only [Option.some.injEq, Prod.mk.injEq] at hb
        obtain ⟨rfl, rfl⟩ := hb
        obtain ⟨_, x, hx⟩ := pure_exists hp
        refine ⟨(hc _ _ _ _ _ hx).2.1, ?_⟩
        have hfr := frz1Vs R args as vs.toList has hvs
        have hI : Imm (fun r => I r ∨ MutL ρ h (V.seens args) r) w := R.imm.go (fun r hr => by
          rcases hr with hr | ⟨b, k, o, _, h1, h2⟩
          · exact R.imm r hr
          · exact (R.blk b k r o h1 h2).1) (fun _ h => .inl h) (fun _ _ => rfl)
        refine (pure_ok hc hp hI hfr).mono ?_
        rintro e w' ⟨v', I', rfl, g, hr⟩
        have up : ∀ b k, (h.kills (V.seens args)).at_ b = some k → h.at_ b = some k ∧ b ∉ V.seens args := fun b k hb => by
          simp only [Hp.kills] at hb
          split at hb
          · cases hb
          · rename_i hn; exact ⟨hb, hn⟩
        have hev : Evo I w I' w' := ⟨fun r hr => g.imm r (.inl hr), fun a ha => cell?_of_heap (g.frame _ (R.imm _ ha)), fun a ha => by
          have hl := g.frame _ (lt_of_cell ha)
          rw [cell?_of_heap hl, frozen_of_heap hl]
          exact ⟨ha, rfl⟩⟩
        refine ⟨v', ρ, I', rfl, ⟨Nat.le_refl _, fun _ _ => rfl, fun r hr => g.imm r (.inl hr), fun r hr => ?_, fun r hr _ => g.frame r hr, fun r ⟨b, k, o, h1, h2⟩ => .inl ⟨b, k, o, (up b k h1).1, h2⟩, hev.cells, g.size, g.os, g.tape, g.output⟩, ⟨R.imm.go g.immLt (fun r hr => g.imm r (.inl hr)) (fun r hr => g.frame r (R.imm r hr)), fun b k r o h1 h2 => ?_, fun b b' k k' r o o' h1 h2 => R.inj b b' k k' r o o' (up _ _ h1).1 (up _ _ h2).1⟩, hr.up⟩
        · rcases g.immNew r hr with (h1 | ⟨b, k, o, _, h1, h2⟩) | h1
          · exact .inl h1
          · exact .inr (.inr ⟨b, k, o, h1, h2⟩)
          · exact .inr (.inl h1)
        · obtain ⟨h3, h4⟩ := up b k h1
          obtain ⟨a1, a2, a3⟩ := R.blk b k r o h3 h2
          refine ⟨Nat.lt_of_lt_of_le a1 g.size, fun hi => ?_, a3.evo hev (More.refl _) (g.frame r a1)⟩
          rcases g.immNew r hi with (h5 | ⟨b', k', o', h5, h6, h7⟩) | h5
          · exact a2 h5
          · have := R.inj b b' k k' r o o' h3 h6 h2 h7
            exact h4 (this ▸ h5)
          · omega
      · cases hb
    · cases hb

theorem op_ok [TInv] {c : Cfg} (hc : CallOk c) {o : Oper} {σ : St} {v : V} {h' : Hp} (ho : opE c o σ = some (v, h')) {a : Act} (hok : HpOk σ.hp) (d : Dom ρ σ.hp.next) (R : Rel ρ I σ.hp w)
    (he : ∀ x ∈ o.op.operands, RepV ρ I w (σ.eval x) (a.eval x)) {K : Act → World → Prop} {Q : Exit → Act → World → Prop}
    (hK : ∀ v' w' ρ' I', Stp ρ I σ.hp w ρ' I' h' w' → Rel ρ' I' h' w' → RepV ρ' I' w' v v' → K (a.put o.dst v') w') : o.wp c.P a w K Q := by
  by_cases ht : touch c.mode o.op ≤ 1
  · exact quiet_ok hc ho ht R he (fun b hb _ => d b hb) (fun v' w' ρ' I' q m R' hv => hK v' w' ρ' I' q.stp R' hv)
  obtain ⟨dst, op, type, pos, after, guard⟩ := o
  have one : ∀ x, x ∈ (op.operands) → RepV ρ I w (σ.eval x) (a.eval x) := he
  clear he
  cases op with
  | store t x y =>
    simp only [opE, Option.map_eq_some_iff, Prod.mk.injEq] at ho
    obtain ⟨h1, hs, rfl, rfl⟩ := ho
    obtain ⟨w', hr, s, R'⟩ := store_ok (P := c.P) R hs (one x (by simp [Op.operands])) (one y (by simp [Op.operands]))
    unfold Oper.wp
    have hx : (execOp a.eval { dst, op := .store t x y, type, pos, after, guard }).run c.P w = .ok .skip w' := by
      simp only [execOp, Sem.run_bind, hr, Result.andThen_ok, Sem.run_pure]
    rw [hx]
    simp only [Oper.upon]
    exact hK undef w' ρ I s R' (.tup rfl (fun j x v hx _ => by simp at hx))
  | call k =>
    obtain ⟨callee, args, argTypes⟩ := k
    cases callee with
    | builtin b =>
      cases b with
      | append =>
        simp only [opE] at ho
        split at ho
        · rename_i x y t u hx htl
          have ha : args = #[x, y] := Array.toList_inj.1 hx
          have hat : argTypes = #[t, u] := Array.toList_inj.1 htl
          subst ha; subst hat
          obtain ⟨v', w', ρ', hr, s, R', hv⟩ := append_ok (P := c.P) (ty := type) R d ho (one x (by simp [Op.operands, Call.operands])) (one y (by simp [Op.operands, Call.operands]))
          unfold Oper.wp
          have hx : (execOp a.eval { dst, op := .call { callee := .builtin .append, args := #[x, y], argTypes := #[t, u] }, type, pos, after, guard }).run c.P w = .ok (.value v') w' := by
            simp [execOp, resolve, invoke, builtin, hr]
          rw [hx]
          simp only [Oper.upon]
          exact hK v' w' ρ' I s R' hv
        · cases ho
      | len => simp [touch] at ht
      | min => simp [touch] at ht
      | max => simp [touch] at ht
      | _ => simp [opE] at ho
    | value fo =>
      simp only [opE] at ho
      split at ho
      · rename_i f caps hfo
        have h1 := one fo (by simp [Op.operands, Call.operands])
        rw [hfo] at h1
        have hargs := args_rep (ρ := ρ) (I := I) (w := w) (σ := σ) (a := a) (args := args) (fun x hx => one x (by simp [Op.operands, Call.operands]; exact .inr hx))
        have hfn : ∃ vs : Array Value, a.eval fo = .func (.func f) #[] vs ∧ RepL ρ I w caps vs.toList := by
          generalize a.eval fo = af at h1
          cases rep_one h1 with
          | imm hi => cases hi; exact ⟨#[], rfl, rfl, fun j c v hc _ => by simp at hc⟩
          | @fn _ _ vs g1 g2 => exact ⟨vs, rfl, by simpa using g1, fun j c v hc hv => g2 j c v hc (by simpa using hv)⟩
        obtain ⟨cvs, hae, hcap⟩ := hfn
        have hcaps : RepVs ρ I w (caps.map .one) cvs.toList := ⟨by simpa using hcap.1, fun j x v hx hv => by
          simp only [List.getElem?_map, Option.map_eq_some_iff] at hx
          obtain ⟨c', hc', rfl⟩ := hx
          exact .one (hcap.2 j c' v hc' hv)⟩
        have hall : RepVs ρ I w (args.toList.map σ.eval ++ caps.map .one) (args.map a.eval ++ cvs).toList := by
          rw [Array.toList_append]
          exact hargs.append hcaps
        obtain ⟨hf, hcalls⟩ := call_ok hc ho hok d R hall
        refine wp_call (c := c) (f := f) (vs := args.map a.eval ++ cvs) ?_ hf hcalls ?_
        · simp [execOp, resolve, Deferred.ofValue, invoke, hae]
        · rintro e w' ⟨v', ρ', I', rfl, s, R', hv⟩
          exact ⟨v', rfl, hK v' w' ρ' I' s R' hv⟩
      · cases ho
    | invoke _ _ => simp [opE] at ho
  | _ => first | (simp [opE] at ho; done) | (simp [touch] at ht; done) | (exfalso; revert ht; simp [touch])

end Go.Ev
