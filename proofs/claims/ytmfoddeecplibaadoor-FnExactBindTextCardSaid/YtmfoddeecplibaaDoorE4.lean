/- Memory made still; calls by values. -/
import Derived.Test.YtmfoddeecplibaaDoorE3
set_option linter.unusedVariables false
set_option linter.unusedSimpArgs false
namespace Go.Ev
variable {P : Program} {w : World} {ρ : Rho} {I : Nat → Prop} {h : Hp}

theorem mapO_spec {α β : Type} {f : α → Option β} : ∀ {xs : List α} {ys : List β}, mapO f xs = some ys →
    ys.length = xs.length ∧ ∀ (j : Nat) (y : β), ys[j]? = some y → ∃ x, xs[j]? = some x ∧ f x = some y
  | [], ys, h => by simp [mapO] at h; subst h; exact ⟨rfl, fun j y hy => by simp at hy⟩
  | x :: xs, ys, h => by
    simp only [mapO] at h
    split at h
    · rename_i y ys' h1 h2
      cases h
      obtain ⟨h3, h4⟩ := mapO_spec h2
      refine ⟨by simp [h3], fun j z hz => ?_⟩
      cases j with
      | zero => simp at hz; subst hz; exact ⟨x, rfl, h1⟩
      | succ j => simpa using h4 j z (by simpa using hz)
    · cases h

theorem RepI.mono [TInv] {I I' : Nat → Prop} (hI : ∀ r, I r → I' r) {c : C} {v : Value} (h : RepI I w c v) : RepI I' w c v :=
  h.evo ⟨hI, fun _ _ => rfl, fun _ h => ⟨h, rfl⟩⟩

theorem frzC_ok [TInv] (R : Rel ρ I h w) : ∀ (d : Nat) (c t : C) (v : Value), frzC d h c = some t → Rep ρ I w c v → RepI (fun r => I r ∨ Mut ρ h r) w t v := by
  have still : ∀ (d : Nat) (c t : C) (v : Value), (∀ s b o l, c ≠ .ref s b o l) → frzC d h c = some t → Rep ρ I w c v → RepI (fun r => I r ∨ Mut ρ h r) w t v := by
    intro d c t v hc hf hr
    cases hr with
    | imm hi =>
      cases hi with
      | lit hl => have : t = .lit v := by cases d <;> (simp only [frzC, Option.some.injEq] at hf; exact hf.symm)
                  subst this; exact .lit hl
      | @sl s rows a cap vs h0 h1 h2 h3 =>
        have : t = .sl s rows := by cases d <;> (simp only [frzC, Option.some.injEq] at hf; exact hf.symm)
        subst this
        exact (RepI.sl vs h0 h1 h2 h3).mono (fun _ h => .inl h)
      | @ip cells ad vs h1 h2 =>
        have : t = .ip cells := by cases d <;> (simp only [frzC, Option.some.injEq] at hf; exact hf.symm)
        subst this
        exact (RepI.ip vs h1 h2).mono (fun _ h => .inl h)
      | fn =>
        rename_i f
        have : t = .fn f [] := by cases d <;> (simp only [frzC, Option.some.injEq] at hf; exact hf.symm)
        subst this; exact .fn
    | ref => exact absurd rfl (hc _ _ _ _)
    | ptr => cases d <;> simp [frzC] at hf
    | @fn f caps vs h1 h2 =>
      cases caps with
      | nil =>
        have : t = .fn f [] := by cases d <;> (simp only [frzC, Option.some.injEq] at hf; exact hf.symm)
        subst this
        have hz : vs = #[] := by apply Array.eq_empty_of_size_eq_zero; simpa using h1.symm
        subst hz; exact .fn
      | cons c cs => cases d <;> simp [frzC] at hf
  intro d
  induction d with
  | zero =>
    intro c t v hf hr
    refine still 0 c t v (fun s b o l hc => ?_) hf hr
    subst hc; simp [frzC] at hf
  | succ d ih =>
    intro c t v hf hr
    by_cases hc : ∃ s b o l, c = .ref s b o l
    · obtain ⟨s, b, off, len, rfl⟩ := hc
      simp only [frzC] at hf
      split at hf
      · rename_i k hk
        split at hf
        · rename_i hcond
          obtain ⟨hs, hle⟩ := hcond
          simp only [Option.map_eq_some_iff] at hf
          obtain ⟨ts, hts, rfl⟩ := hf
          obtain ⟨hlen, hrow⟩ := mapO_spec hts
          have hrl : ((k.rows.drop off).take len).length = len := by simp; omega
          rw [hrl] at hlen
          cases hr with
          | imm hi => cases hi
          | @ref _ _ _ _ a cap hlc hor =>
            rw [← hlen]
            have key : ∀ (i : Nat) (row : List C), ts[i]? = some row → ∃ r o row0, ρ b = some (r, o) ∧ a = some ⟨r, o + off * s, none⟩ ∧ k.rows[off + i]? = some row0 ∧ mapO (frzC d h) row0 = some row := by
              intro i row hi
              obtain ⟨row0, hr0, hm⟩ := hrow i row hi
              have hi' : i < len := by rw [← hlen]; exact (List.getElem?_eq_some_iff.1 hi).1
              rcases hor with h0 | ⟨r, o, h1, h2, _⟩
              · omega
              · refine ⟨r, o, row0, h1, h2, ?_, hm⟩
                rw [List.getElem?_take, if_pos hi', List.getElem?_drop] at hr0
                exact hr0
            refine .sl (fun i j => match a with | some ad => (w.cell? (ad.add (i * s + j))).getD undef | none => undef) (by omega) ?_ ?_ ?_
            · intro i row hi
              obtain ⟨r, o, row0, h1, h2, h3, h4⟩ := key i row hi
              rw [(mapO_spec h4).1, ← hs]
              exact ((R.blk b k r o hk h1).2.2 _ row0 h3).1
            · intro i row j c hi hj
              obtain ⟨r, o, row0, h1, h2, h3, h4⟩ := key i row hi
              obtain ⟨c0, hc0, _⟩ := (mapO_spec h4).2 j c hj
              obtain ⟨u, hu, _, _⟩ := ((R.blk b k r o hk h1).2.2 _ row0 h3).2 j c0 hc0
              have he : (⟨r, o + off * s, none⟩ : Addr).add (i * s + j) = ⟨r, o + ((off + i) * k.s + j), none⟩ := by
                rw [add_plain, hs]; congr 1; rw [Nat.add_mul]; omega
              refine ⟨_, h2, .inr ⟨b, k, o, hk, h1⟩, ?_⟩
              subst h2
              simp only [he, hu, Option.getD_some]
            · intro i row j c hi hj
              obtain ⟨r, o, row0, h1, h2, h3, h4⟩ := key i row hi
              obtain ⟨c0, hc0, hfc⟩ := (mapO_spec h4).2 j c hj
              obtain ⟨u, hu, _, hrep⟩ := ((R.blk b k r o hk h1).2.2 _ row0 h3).2 j c0 hc0
              have he : (⟨r, o + off * s, none⟩ : Addr).add (i * s + j) = ⟨r, o + ((off + i) * k.s + j), none⟩ := by
                rw [add_plain, hs]; congr 1; rw [Nat.add_mul]; omega
              subst h2
              simp only [he, hu, Option.getD_some]
              exact ih c0 c u hfc hrep
        · cases hf
      · cases hf
    · refine still (d + 1) c t v (fun s b o l he => hc ⟨s, b, o, l, he⟩) hf hr

theorem frzL_ok [TInv] (R : Rel ρ I h w) {d : Nat} {cs ts : List C} {vs : List Value} (hf : mapO (frzC d h) cs = some ts) (hr : RepL ρ I w cs vs) :
    RepL (fun _ => none) (fun r => I r ∨ Mut ρ h r) w ts vs := by
  obtain ⟨h1, h2⟩ := mapO_spec hf
  refine ⟨h1.trans hr.1, fun j c v hc hv => ?_⟩
  obtain ⟨x, hx, hfx⟩ := h2 j c hc
  exact .imm (frzC_ok R d x c v hfx (hr.2 j x v hx hv))

mutual
theorem frzV_ok [TInv] (R : Rel ρ I h w) {d : Nat} : ∀ (x t : V) (v : Value), frzV d h x = some t → RepV ρ I w x v → RepV (fun _ => none) (fun r => I r ∨ Mut ρ h r) w t v
  | .junk, _, _, hf, _ => by simp [frzV] at hf
  | .one c, t, v, hf, hr => by
    simp only [frzV, Option.map_eq_some_iff] at hf
    obtain ⟨c', hc', rfl⟩ := hf
    exact .one (.imm (frzC_ok R d c c' v hc' (rep_one hr)))
  | .agg cs, t, v, hf, hr => by
    simp only [frzV, Option.map_eq_some_iff] at hf
    obtain ⟨cs', hc', rfl⟩ := hf
    obtain ⟨vs, rfl, hl⟩ := rep_agg hr
    exact .agg (frzL_ok R hc' hl)
  | .tup xs, t, v, hf, hr => by
    simp only [frzV, Option.map_eq_some_iff] at hf
    obtain ⟨ts, hts, rfl⟩ := hf
    cases hr with
    | @tup _ vs h1 h2 =>
      have := frzVs_ok R xs ts vs.toList hts ⟨by simpa using h1, fun j x v hx hv => h2 j x v hx (by simpa using hv)⟩
      exact .tup (by simpa using this.1) (fun j x v hx hv => this.2 j x v hx (by simpa using hv))
theorem frzVs_ok [TInv] (R : Rel ρ I h w) {d : Nat} : ∀ (xs ts : List V) (vs : List Value), frzVs d h xs = some ts → RepVs ρ I w xs vs → RepVs (fun _ => none) (fun r => I r ∨ Mut ρ h r) w ts vs
  | [], ts, vs, hf, hr => by
    simp only [frzVs, Option.some.injEq] at hf
    subst hf
    exact ⟨hr.1, fun j x v hx _ => by simp at hx⟩
  | x :: xs, ts, vs, hf, hr => by
    simp only [frzVs] at hf
    split at hf
    · rename_i t ts' h1 h2
      cases hf
      cases vs with
      | nil => have := hr.1; simp at this
      | cons v vs =>
        have i1 := frzV_ok R x t v h1 (hr.2 0 x v rfl rfl)
        have i2 := frzVs_ok R xs ts' vs h2 ⟨by simpa using hr.1, fun j x v hx hv => hr.2 (j + 1) x v (by simpa using hx) (by simpa using hv)⟩
        refine ⟨by simp [i2.1], fun j y u hy hu => ?_⟩
        cases j with
        | zero => simp at hy hu; subst hy; subst hu; exact i1
        | succ j => exact i2.2 j y u (by simpa using hy) (by simpa using hu)
    · cases hf
end

/-- Nothing stands behind the numbers that are given out. -/
def HpOk (h : Hp) : Prop := ∀ b, h.next ≤ b → h.at_ b = none

/-- What is promised of the calls that a function makes. -/
def CallOk [TInv] (c : Cfg) : Prop :=
  ∀ f args h r h', c.call f args h = some (r, h') → (HpOk h → HpOk h' ∧ h.next ≤ h'.next) ∧
    (∃ fn, c.P.funcs[f]? = some fn ∧ fn.body.isSome = true ∧ fn.name ≠ "runtime.NumGoroutine") ∧
    ∀ (ρ : Rho) (I : Nat → Prop) (w : World) (vs : Array Value), HpOk h → Dom ρ h.next → Rel ρ I h w → RepVs ρ I w args vs.toList →
      Calls c.P f vs w (fun e w' => ∃ v ρ' I', e = .returned v ∧ Stp ρ I h w ρ' I' h' w' ∧ Rel ρ' I' h' w' ∧ RepV ρ' I' w' r v)

/-- From w to w' only new blocks have come; I' are still, of the old ones no more than I. -/
structure Gone (I : Nat → Prop) (w : World) (I' : Nat → Prop) (w' : World) : Prop where
  imm : ∀ r, I r → I' r
  immNew : ∀ r, I' r → I r ∨ w.heap.size ≤ r
  immLt : ∀ r, I' r → r < w'.heap.size
  frame : ∀ r, r < w.heap.size → w'.heap[r]? = w.heap[r]?
  size : w.heap.size ≤ w'.heap.size
  os : w'.os = w.os
  tape : w'.tape = w.tape
  output : w'.output = w.output

theorem nrmC_ok : ∀ (d : Nat) (sh : Sh) (c : C) (v : Value), RepI I w c v → RepI I w (nrmC d sh c) v := by
  intro d
  induction d with
  | zero => intro sh c v h; exact h
  | succ d ih =>
    intro sh c v h
    cases sh with
    | leaf => exact h
    | slc s es =>
      simp only [nrmC]
      split
      · cases h with
        | lit _ => exact RepI.sl (rows := []) (fun _ _ => undef) (Nat.le_refl _) (fun i row hi => by simp at hi) (fun i row j c hi => by simp at hi) (fun i row j c hi => by simp at hi)
      · rename_i s' rows
        split
        · exact h
        · cases h with
          | @sl _ _ a cap vs h0 h1 h2 h3 =>
            have hz : ∀ (es : List Sh) (row : List C), (zipSh (nrmC d) es row).length = row.length ∧ ∀ (j : Nat) (c : C), (zipSh (nrmC d) es row)[j]? = some c → ∃ c0 sh, row[j]? = some c0 ∧ (c = nrmC d sh c0 ∨ c = c0) := by
              intro es
              induction es with
              | nil => intro row; exact ⟨by simp [zipSh], fun j c hj => ⟨c, .leaf, by simpa [zipSh] using hj, .inr rfl⟩⟩
              | cons s ss ihs =>
                intro row
                cases row with
                | nil => exact ⟨rfl, fun j c hj => by simp [zipSh] at hj⟩
                | cons x xs =>
                  refine ⟨by simp [zipSh, (ihs xs).1], fun j c hj => ?_⟩
                  cases j with
                  | zero => simp [zipSh] at hj; exact ⟨x, s, rfl, .inl hj.symm⟩
                  | succ j => simp [zipSh] at hj; simpa using (ihs xs).2 j c hj
            have hm : ∀ (i : Nat) (row : List C), (rows.map (zipSh (nrmC d) es))[i]? = some row → ∃ row0, rows[i]? = some row0 ∧ row = zipSh (nrmC d) es row0 := by
              intro i row hi
              rw [List.getElem?_map, Option.map_eq_some_iff] at hi
              obtain ⟨row0, h1, h2⟩ := hi
              exact ⟨row0, h1, h2.symm⟩
            have hl : rows.length = (rows.map (zipSh (nrmC d) es)).length := by simp
            rw [hl]
            refine .sl vs (by omega) (fun i row hi => ?_) (fun i row j c hi hj => ?_) (fun i row j c hi hj => ?_)
            · obtain ⟨row0, g1, rfl⟩ := hm i row hi
              rw [(hz es row0).1]; exact h1 i row0 g1
            · obtain ⟨row0, g1, rfl⟩ := hm i row hi
              obtain ⟨c0, sh, g2, _⟩ := (hz es row0).2 j c hj
              exact h2 i row0 j c0 g1 g2
            · obtain ⟨row0, g1, rfl⟩ := hm i row hi
              obtain ⟨c0, sh, g2, g3⟩ := (hz es row0).2 j c hj
              rcases g3 with rfl | rfl
              · exact ih sh c0 _ (h3 i row0 j c0 g1 g2)
              · exact h3 i row0 j _ g1 g2
      · exact h

theorem nrmRep [TInv] (sh : Sh) (c : C) (v : Value) (d : Nat) (h : Rep ρ I w c v) : Rep ρ I w (nrmC d sh c) v := by
  cases h with
  | imm hi => exact .imm (nrmC_ok d sh c v hi)
  | ref h1 h2 => cases d <;> cases sh <;> exact .ref h1 h2
  | ptr h1 => cases d <;> cases sh <;> exact .ptr h1
  | fn h1 h2 => cases d <;> cases sh <;> exact .fn h1 h2

theorem nrmL_ok [TInv] (d : Nat) : ∀ (ss : List Sh) (cs : List C) (vs : List Value), RepL ρ I w cs vs → RepL ρ I w (zipSh (nrmC d) ss cs) vs
  | [], cs, vs, h => h
  | s :: ss, [], vs, h => h
  | s :: ss, c :: cs, vs, h => by
    cases vs with
    | nil => have := h.1; simp at this
    | cons v vs =>
      have i := nrmL_ok d ss cs vs ⟨by simpa using h.1, fun j x v hx hv => h.2 (j + 1) x v (by simpa using hx) (by simpa using hv)⟩
      refine ⟨by simp [zipSh, i.1], fun j x u hx hu => ?_⟩
      cases j with
      | zero => simp [zipSh] at hx hu; subst hx; subst hu; exact nrmRep s c _ d (h.2 0 c v rfl rfl)
      | succ j => exact i.2 j x u (by simpa [zipSh] using hx) (by simpa using hu)

theorem nrmV_ok [TInv] (ss : List Sh) (x : V) (v : Value) (h : RepV ρ I w x v) : RepV ρ I w (nrmV ss x) v := by
  cases h with
  | junk => exact .junk
  | one h => exact .one (nrmRep _ _ _ _ h)
  | agg h => exact .agg (nrmL_ok _ _ _ _ h)
  | tup h1 h2 => exact .tup h1 h2

theorem nrmVs_ok [TInv] : ∀ (sss : List (List Sh)) (xs : List V) (vs : List Value), RepVs ρ I w xs vs → RepVs ρ I w (nrmVs sss xs) vs
  | [], xs, vs, h => h
  | s :: ss, [], vs, h => h
  | s :: ss, c :: cs, vs, h => by
    cases vs with
    | nil => have := h.1; simp at this
    | cons v vs =>
      have i := nrmVs_ok ss cs vs ⟨by simpa using h.1, fun j x v hx hv => h.2 (j + 1) x v (by simpa using hx) (by simpa using hv)⟩
      refine ⟨by simp [nrmVs, i.1], fun j x u hx hu => ?_⟩
      cases j with
      | zero => simp [nrmVs] at hx hu; subst hx; subst hu; exact nrmV_ok s c _ (h.2 0 c v rfl rfl)
      | succ j => exact i.2 j x u (by simpa [nrmVs] using hx) (by simpa using hu)

theorem nrmR_ok [TInv] (sss : List (List Sh)) (x : V) (v : Value) (h : RepV ρ I w x v) : RepV ρ I w (nrmR sss x) v := by
  unfold nrmR
  split
  · exact nrmV_ok _ _ _ h
  · split
    · rename_i xs
      cases h with
      | @tup _ us h1 h2 =>
        have := nrmVs_ok sss xs us.toList ⟨by simpa using h1, fun j x v hx hv => h2 j x v hx (by simpa using hv)⟩
        exact .tup (by simpa using this.1) (fun j x v hx hv => this.2 j x v hx (by simpa using hv))
    · exact h

theorem pureN_ok [TInv] {c : Cfg} (hc : CallOk c) {f : FuncId} {as : List V} {r : V} (hp : c.pureN f as = some r) {I : Nat → Prop} {w : World} (hI : Imm I w)
    {vs : Array Value} (hvs : RepVs (fun _ => none) I w as vs.toList) :
    Calls c.P f vs w (fun e w' => ∃ v I', e = .returned v ∧ Gone I w I' w' ∧ RepV (fun _ => none) I' w' r v) := by
  unfold Cfg.pureN at hp
  split at hp
  · rename_i r0 h' hcall
    split at hp
    case h_2 => cases hp
    rename_i r1 hfz
    cases hp
    have h0 : Rel (fun _ => none) I Hp.empty w := ⟨hI, fun b k r o h1 _ => by simp [Hp.empty] at h1, fun b b' k k' r o o' h1 => by simp [Hp.empty] at h1⟩
    refine ((hc f as Hp.empty r0 h' hcall).2.2 (fun _ => none) I w vs (fun _ _ => rfl) (fun _ _ => rfl) h0 hvs).mono ?_
    rintro e w' ⟨v, ρ', I', rfl, s, R, hr⟩
    have hm : ∀ r, ¬ Mut (fun _ => none) Hp.empty r := fun r ⟨b, k, o, h1, _⟩ => by simp [Hp.empty] at h1
    refine ⟨v, fun r => I' r ∨ Mut ρ' h' r, rfl, ⟨fun r hr => .inl (s.imm r hr), fun r hr => ?_, fun r hr => ?_, fun r hr => s.frame r hr (hm r), s.size, s.os, s.tape, s.output⟩, nrmR_ok _ _ _ (frzV_ok R _ _ _ hfz hr)⟩
    · rcases hr with hr | hr
      · rcases s.immNew r hr with h | h | h
        · exact .inl h
        · exact .inr h
        · exact absurd h (hm r)
      · rcases s.wr r hr with h | h
        · exact absurd h (hm r)
        · exact .inr h
    · rcases hr with hr | ⟨b, k, o, h1, h2⟩
      · exact R.imm r hr
      · exact (R.blk b k r o h1 h2).1
  · cases hp

theorem pure_ok [TInv] {c : Cfg} (hc : CallOk c) {f : FuncId} {as : List V} {r : V} (hp : c.pure f as = some r) {I : Nat → Prop} {w : World} (hI : Imm I w)
    {vs : Array Value} (hvs : RepVs (fun _ => none) I w as vs.toList) :
    Calls c.P f vs w (fun e w' => ∃ v I', e = .returned v ∧ Gone I w I' w' ∧ RepV (fun _ => none) I' w' r v) :=
  pureN_ok hc hp hI (nrmVs_ok (parSh c.P f) _ _ hvs)

end Go.Ev
