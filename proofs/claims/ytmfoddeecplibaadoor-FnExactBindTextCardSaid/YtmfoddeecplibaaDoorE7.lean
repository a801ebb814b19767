/- Operations that write nothing that was there, the last ones. -/
import Derived.Test.YtmfoddeecplibaaDoorE6
set_option linter.unusedVariables false
set_option linter.unusedSimpArgs false
namespace Go.Ev
variable {P : Program} {w : World} {ρ : Rho} {I : Nat → Prop} {h : Hp}

theorem out_unOp [TInv] {op : UnOp} {x v : V} {x' : Value} (R : Rel ρ I h w) (hb : unOpE op x = some v) (hx : RepV ρ I w x x') : Out P ρ I h w v h (Op.unary op x') := by
  unfold unOpE at hb
  split at hb
  · cases hb; rw [repV_lit hx]; exact Out.same R (by simp [Op.unary, Op.intArith]) (rep_mk rfl)
  · cases hb; rw [repV_lit hx]; exact Out.same R (by simp [Op.unary]) (rep_mk rfl)
  · cases hb

theorem len_nn (n : Nat) : (goInt (n : Int)) = .int .i64 n := rfl

theorem out_len [TInv] {t : TypeId} {x v : V} {x' : Value} {ty : TypeId} (R : Rel ρ I h w) (hb : lenE P t x = some v) (hx : RepV ρ I w x x') : Out P ρ I h w v h (Builtin.len_ #[t] ty #[x']) := by
  unfold lenE at hb
  split at hb
  · rename_i hd; cases hb; rw [repV_lit hx]
    exact Out.same R (by simp [Builtin.len_, run_underlying hd, goInt]) (rep_mk rfl)
  · rename_i hd; cases hb; rw [repV_lit hx]
    exact Out.same R (by simp [Builtin.len_, run_underlying hd, goInt]) (rep_mk rfl)
  · rename_i hd; cases hb
    cases rep_one hx with
    | imm hi => cases hi; exact Out.same R (by simp [Builtin.len_, run_underlying hd, goInt]) (rep_mk rfl)
  · rename_i hd; cases hb
    cases rep_one hx with
    | imm hi => cases hi
    | ref => exact Out.same R (by simp [Builtin.len_, run_underlying hd, goInt]) (rep_mk rfl)
  · cases hb

theorem out_indexAddr [TInv] {t : TypeId} {x i v : V} {x' i' : Value} (R : Rel ρ I h w) (hb : indexAddrE P t x i = some v) (hx : RepV ρ I w x x') (hi : RepV ρ I w i i') : Out P ρ I h w v h (Instr.indexAt t x' i') := by
  unfold indexAddrE at hb
  split at hb
  · rename_i e s rows k j he
    split at hb
    · rename_i hc
      obtain ⟨c1, c2, c3⟩ := hc
      cases hb
      rw [repV_lit hi]
      cases rep_one hx with
      | imm hi =>
        cases hi with
        | @sl _ _ a cap vs hcap h1 h2 h3 =>
          have hrow := row_get (show j.toNat < rows.length by omega)
          have hlen := h1 _ _ hrow
          cases hz : a with
          | none =>
            -- a row without cells needs no address; but there is none: its place is then asked for all the same
            by_cases h0 : 0 < s
            · obtain ⟨ad, ha, _⟩ := h2 _ _ 0 _ hrow (List.getElem?_eq_getElem (by omega))
              rw [hz] at ha; cases ha
            · exact absurd c1.2 h0
          | some ad =>
            refine Out.same R (v' := .pointer (some (ad.add (j.toNat * s)))) ?_ (.one (.imm (.ip (fun m => vs j.toNat m) (fun m c hm => ?_) (fun m c hm => h3 _ _ m c hrow hm))))
            · simp [Instr.indexAt, asIntOf, run_underlying (elemT_some he), run_sizeOf' e s c1.1, c2, c3]
            · obtain ⟨ad', ha', hI, hc⟩ := h2 _ _ m c hrow hm
              rw [hz] at ha'; cases ha'
              refine ⟨by unfold Addr.add; split <;> exact hI, ?_⟩
              rw [add_add]; exact hc
    · cases hb
  · rename_i e s b off len k j he
    split at hb
    · rename_i hc
      obtain ⟨c1, c2, c3⟩ := hc
      cases hb
      rw [repV_lit hi]
      cases rep_one hx with
      | imm hi => cases hi
      | @ref _ _ _ _ a cap hl hor =>
        rcases hor with h0 | ⟨r, o, h1, h2, h3⟩
        · omega
        · subst h2
          refine Out.same R (v' := .pointer (some ((⟨r, o + off * s, none⟩ : Addr).add (j.toNat * s)))) ?_ (.one ?_)
          · simp [Instr.indexAt, asIntOf, run_underlying (elemT_some he), run_sizeOf' e s c1.1, c2, c3]
          · rw [add_plain]
            have : Rep ρ I w (.ptr s b (off + j.toNat) 0) (.pointer (some ⟨r, o + ((off + j.toNat) * s + 0), none⟩)) := .ptr h1
            rw [Nat.add_mul, Nat.add_zero, ← Nat.add_assoc] at this
            exact this
    · cases hb
  · cases hb

theorem out_index [TInv] {t : TypeId} {x i v : V} {x' i' : Value} (R : Rel ρ I h w) (hb : indexE P t x i = some v) (hx : RepV ρ I w x x') (hi : RepV ρ I w i i') : Out P ρ I h w v h (Instr.index t x' i') := by
  unfold indexE at hb
  split at hb
  · rename_i s k j hd
    split at hb
    · rename_i h0
      simp only [Option.map_eq_some_iff] at hb
      obtain ⟨b, hb, rfl⟩ := hb
      rw [repV_lit hi, repV_lit hx]
      refine Out.same R (v' := .int .u8 b.toNat) ?_ (rep_mk rfl)
      simp [Instr.index, asIntOf, run_underlying hd, h0, hb]
    · cases hb
  · cases hb

theorem fieldT_some {t : TypeId} {i : Nat} {f : Field} (h : fieldT P t i = some f) : ∃ fs, P.underlying t = some (.struct fs) ∧ fs[i]? = some f := by
  unfold fieldT at h
  split at h
  · rename_i fs hd; exact ⟨fs, hd, h⟩
  · cases h

theorem out_fieldAddr [TInv] {t : TypeId} {i : Nat} {x v : V} {x' : Value} (R : Rel ρ I h w) (hb : fieldAddrE P t x i = some v) (hx : RepV ρ I w x x') : Out P ρ I h w v h (Instr.fieldAt t x' i) := by
  unfold fieldAddrE at hb
  split at hb
  · rename_i f hf
    obtain ⟨fs, hd, hfi⟩ := fieldT_some hf
    split at hb
    · cases hb
    · rename_i hsz
      obtain ⟨k, hk⟩ : ∃ k, sizeT P f.type = some k := by
        cases hk : sizeT P f.type with
        | none => simp [hk] at hsz
        | some k => exact ⟨k, rfl⟩
      have hk0 : k ≠ 0 := by simpa [hk] using hsz
      have hplace : ∀ a, (fieldPlace a f).run P w = .ok (a.add f.offset) w := fun a => by
        simp [fieldPlace, run_sizeOf' f.type k hk, hk0]
      split at hb
      · rename_i cells
        cases hb
        cases rep_one hx with
        | imm hi =>
          cases hi with
          | @ip _ ad vs h1 h2 =>
            refine Out.same R (v' := .pointer (some (ad.add f.offset))) ?_ (.one (.imm (.ip (fun m => vs (f.offset + m)) (fun m c hm => ?_) (fun m c hm => ?_))))
            · simp [Instr.fieldAt, Instr.sureAddr, run_underlying hd, hfi, hplace]
            · rw [List.getElem?_drop] at hm
              obtain ⟨g1, g2⟩ := h1 _ c hm
              refine ⟨by unfold Addr.add; split <;> exact g1, ?_⟩
              rw [add_add]; exact g2
            · rw [List.getElem?_drop] at hm
              exact h2 _ c hm
      · rename_i s b row off
        cases hb
        cases rep_one hx with
        | imm hi => cases hi
        | @ptr _ _ _ _ r o hρ =>
          refine Out.same R (v' := .pointer (some ((⟨r, o + (row * s + off), none⟩ : Addr).add f.offset))) ?_ (.one ?_)
          · simp [Instr.fieldAt, Instr.sureAddr, run_underlying hd, hfi, hplace]
          · rw [add_plain]
            have : Rep ρ I w (.ptr s b row (off + f.offset)) (.pointer (some ⟨r, o + (row * s + (off + f.offset)), none⟩)) := .ptr hρ
            rw [← Nat.add_assoc (row * s), ← Nat.add_assoc o] at this
            exact this
      · cases hb
  · cases hb

theorem out_field [TInv] {t : TypeId} {i : Nat} {x v : V} {x' : Value} (R : Rel ρ I h w) (hb : fieldE P t x i = some v) (hx : RepV ρ I w x x') : Out P ρ I h w v h (Instr.field t x' i) := by
  unfold fieldE at hb
  split at hb
  · rename_i f cs hf
    obtain ⟨fs, hd, hfi⟩ := fieldT_some hf
    split at hb
    · rename_i k hk
      split at hb
      · rename_i hc
        obtain ⟨hdf, hc⟩ := hc
        obtain ⟨d, hdf⟩ := Option.isSome_iff_exists.1 hdf
        obtain ⟨vs, rfl, hl⟩ := rep_agg hx
        have hone : isAggD (some d) = false → k = 1 := fun h0 => by
          unfold packT at hb
          rw [if_neg (by rw [hdf, h0]; simp)] at hb
          split at hb
          · rename_i c hcs
            have := congrArg List.length hcs
            simp at this; omega
          · cases hb
        obtain ⟨v', hr, ht⟩ := run_part hdf hk hl hc hone
        refine Out.same R (v' := v') ?_ ?_
        · simp [Instr.field, run_underlying hd, hfi, asAgg, hr]
        · unfold IsT at ht
          unfold packT at hb
          split at hb
          · rename_i ha
            cases hb
            rw [if_pos ha] at ht
            obtain ⟨us, rfl, hus⟩ := ht
            exact .agg hus
          · rename_i ha
            rw [if_neg ha] at ht
            obtain ⟨c, hcs, hr⟩ := ht
            rw [hcs] at hb
            cases hb
            exact .one hr
      · cases hb
    · cases hb
  · cases hb

theorem bound_ok {x : Option V} {x' : Option Value} {d n : Nat} (hb : boundE x d = some n) (hx : ∀ v, x = some v → ∃ v', x' = some v' ∧ RepV ρ I w v v') (hn : x = none → x' = none) :
    (x' = none ∧ n = d) ∨ ∃ k, x' = some (.int k (n : Int)) := by
  unfold boundE at hb
  split at hb
  · cases hb; exact .inl ⟨hn rfl, rfl⟩
  · rename_i k j
    split at hb
    · rename_i h0
      cases hb
      obtain ⟨v', rfl, hr⟩ := hx _ rfl
      rw [repV_lit hr]
      exact .inr ⟨k, by rw [Int.toNat_of_nonneg h0]⟩
    · cases hb
  · cases hb

theorem run_bounds {isS : Bool} {len cap : Nat} {lo hi : Option Value} {l h' : Nat} (hl : (lo = none ∧ l = 0) ∨ ∃ k, lo = some (.int k (l : Int))) (hh : (hi = none ∧ h' = len) ∨ ∃ k, hi = some (.int k (h' : Int)))
    (h1 : l ≤ h') (h2 : h' ≤ len) (h3 : len ≤ cap) : (Instr.sliceBounds isS len cap lo hi none).run P w = .ok (l, h', cap) w := by
  have hb : ∀ (k : IntKind) (n y : Nat) (code : BoundsCode), n ≤ y → (Instr.sliceBound (.int k (n : Int)) y code).run P w = .ok n w := fun k n y code hn => by
    simp [Instr.sliceBound, asIntOf, hn]
  rcases hl with ⟨rfl, rfl⟩ | ⟨k, rfl⟩ <;> rcases hh with ⟨rfl, rfl⟩ | ⟨k', rfl⟩
  · simp [Instr.sliceBounds]
  · cases isS <;> simp [Instr.sliceBounds, hb k' h' cap _ (by omega)]
  · cases isS <;> simp [Instr.sliceBounds, hb k l _ _ h1]
  · cases isS <;> simp [Instr.sliceBounds, hb k' h' cap _ (by omega), hb k l _ _ h1]

theorem out_slice [TInv] {t : TypeId} {x v : V} {lo hi : Option V} {x' : Value} {lo' hi' : Option Value} (R : Rel ρ I h w) (hb : sliceE P t x lo hi = some v) (hx : RepV ρ I w x x')
    (hlo : ∀ v, lo = some v → ∃ v', lo' = some v' ∧ RepV ρ I w v v') (hlon : lo = none → lo' = none) (hhi : ∀ v, hi = some v → ∃ v', hi' = some v' ∧ RepV ρ I w v v') (hhin : hi = none → hi' = none) :
    Out P ρ I h w v h (Instr.sliceAt t x' lo' hi' none) := by
  unfold sliceE at hb
  split at hb
  · rename_i s hd
    split at hb
    · rename_i l h' hl hh
      split at hb
      · rename_i hc
        cases hb
        rw [repV_lit hx]
        have hbd := run_bounds (isS := false) (P := P) (w := w) (bound_ok hl hlo hlon) (bound_ok hh hhi hhin) hc.1 hc.2 (Nat.le_refl _)
        refine Out.same R (v' := .string (s.extract l h')) ?_ (rep_mk rfl)
        simp [Instr.sliceAt, Instr.slice, run_underlying hd, hbd]
      · cases hb
    · cases hb
  · rename_i e s rows hd
    split at hb
    · rename_i l h' hl hh
      split at hb
      · rename_i hc
        obtain ⟨c0, c1, c2⟩ := hc
        cases hb
        cases rep_one hx with
        | imm hi =>
          cases hi with
          | @sl _ _ a cap vs hcap h1 h2 h3 =>
            have hbd : (Instr.sliceBounds true rows.length cap lo' hi' none).run P w = .ok (l, h', cap) w :=
              run_bounds (bound_ok hl hlo hlon) (bound_ok hh hhi hhin) c1 c2 hcap
            have hsl : ((rows.drop l).take (h' - l)).length = h' - l := by simp; omega
            have hget : ∀ (i : Nat) (row : List C), ((rows.drop l).take (h' - l))[i]? = some row → rows[l + i]? = some row ∧ i < h' - l := fun i row hi => by
              rw [List.getElem?_take] at hi
              split at hi
              · rename_i hlt; rw [List.getElem?_drop] at hi; exact ⟨hi, hlt⟩
              · cases hi
            refine Out.same R (v' := .slice (if cap = l then a else a.map (·.add (l * s))) (h' - l) (cap - l)) ?_ (.one (.imm ?_))
            · simp [Instr.sliceAt, Instr.slice, run_underlying hd, hbd, run_sizeOf' e s c0]
            · suffices hr : RepI I w (.sl s ((rows.drop l).take (h' - l))) (.slice (if cap = l then a else a.map (·.add (l * s))) ((rows.drop l).take (h' - l)).length (cap - l)) by rw [hsl] at hr; exact hr
              refine .sl (fun i j => vs (l + i) j) ?_ (fun i row hi => h1 _ row (hget i row hi).1) (fun i row j c hi hj => ?_) (fun i row j c hi hj => h3 _ row j c (hget i row hi).1 hj)
              · rw [hsl]; omega
              obtain ⟨hi', hlt⟩ := hget i row hi
              obtain ⟨ad, ha, hI, hcell⟩ := h2 _ row j c hi' hj
              refine ⟨ad.add (l * s), ?_, by unfold Addr.add; split <;> exact hI, ?_⟩
              · have hne : ¬ cap = l := by omega
                rw [if_neg hne, ha]; rfl
              · rw [add_add, ← hcell, show l * s + (i * s + j) = (l + i) * s + j by rw [Nat.add_mul]; omega]
      · cases hb
    · cases hb
  · rename_i e s b off len hd
    split at hb
    · rename_i l h' hl hh
      split at hb
      · rename_i hc
        obtain ⟨c0, c1, c2⟩ := hc
        cases hb
        cases rep_one hx with
        | imm hi => cases hi
        | @ref _ _ _ _ a cap hlc hor =>
          have hbd : (Instr.sliceBounds true len cap lo' hi' none).run P w = .ok (l, h', cap) w := run_bounds (bound_ok hl hlo hlon) (bound_ok hh hhi hhin) c1 c2 hlc
          refine Out.same R (v' := .slice (if cap = l then a else a.map (·.add (l * s))) (h' - l) (cap - l)) ?_ (.one (.ref (by omega) ?_))
          · simp [Instr.sliceAt, Instr.slice, run_underlying hd, hbd, run_sizeOf' e s c0]
          · by_cases hcl : cap = l
            · exact .inl (by omega)
            · rcases hor with h0 | ⟨r, o, h1, h2, h3⟩
              · omega
              · refine .inr ⟨r, o, h1, ?_, ?_⟩
                · rw [if_neg hcl, h2]
                  simp only [Option.map_some, add_plain, Option.some.injEq, Addr.mk.injEq, true_and, and_true]
                  rw [Nat.add_mul]; omega
                · intro j hj
                  have := h3 (l * s + j) (by rw [Nat.sub_mul] at hj; omega)
                  rw [show o + off * s + (l * s + j) = o + (off + l) * s + j by rw [Nat.add_mul]; omega] at this
                  exact this
      · cases hb
    · cases hb
  · rename_i e hd
    split at hb
    · rename_i l h' hl hh
      split at hb
      · rename_i hc
        obtain ⟨c0, rfl, rfl⟩ := hc
        cases hb
        obtain ⟨k, c0⟩ := Option.isSome_iff_exists.1 c0
        rw [repV_lit hx]
        have hbd : (Instr.sliceBounds true 0 0 lo' hi' none).run P w = .ok (0, 0, 0) w := run_bounds (bound_ok hl hlo hlon) (bound_ok hh hhi hhin) (Nat.le_refl _) (Nat.le_refl _) (Nat.le_refl _)
        refine Out.same R (v' := .slice none 0 0) ?_ (rep_mk rfl)
        simp [Instr.sliceAt, Instr.slice, run_underlying hd, hbd, run_sizeOf' e k c0]
      · cases hb
    · cases hb
  · cases hb

end Go.Ev
