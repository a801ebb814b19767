/- Operations that write nothing that was there, the others. -/
import Derived.Test.YtmfoddeecplibaaDoorE5
set_option linter.unusedVariables false
set_option linter.unusedSimpArgs false
namespace Go.Ev
variable {P : Program} {w : World} {ρ : Rho} {I : Nat → Prop} {h : Hp}

theorem elemT_some {t e : TypeId} (h : elemT P t = some e) : P.underlying t = some (.slice e) := by
  unfold elemT at h
  split at h
  · rename_i hd; cases h; exact hd
  · cases h

/-- Rows stand for one list of values. -/
def FitRows (ρ : Rho) (I : Nat → Prop) (w : World) (s : Nat) (rows : List (List C)) (vs : Array Value) : Prop :=
  vs.size = rows.length * s ∧ ∀ (i : Nat) (row : List C), rows[i]? = some row → row.length = s ∧ ∀ (j : Nat) (c : C), row[j]? = some c → ∃ u, vs[i * s + j]? = some u ∧ Rep ρ I w c u

theorem idx_lt {i s n j : Nat} (hi : i < n) (hj : j < s) : i * s + j < n * s := by
  have : (i + 1) * s ≤ n * s := Nat.mul_le_mul_right s hi
  rw [Nat.add_mul] at this; omega

theorem idx_ne {i k s j m : Nat} (h : i ≠ k) (hj : j < s) (hm : m < s) : i * s + j ≠ k * s + m := by
  rcases Nat.lt_or_gt_of_ne h with h | h
  · have : (i + 1) * s ≤ k * s := Nat.mul_le_mul_right s h
    rw [Nat.add_mul] at this; omega
  · have : (k + 1) * s ≤ i * s := Nat.mul_le_mul_right s h
    rw [Nat.add_mul] at this; omega

theorem fillRows_ok [TInv] {s : Nat} (hs : 0 < s) : ∀ (parts : List (Nat × V)) (parts' : List (Nat × Value)) (rows rows' : List (List C)) (vs : Array Value), fillRows s rows parts = some rows' →
    parts.length = parts'.length → (∀ (j : Nat) (p : Nat × V) (p' : Nat × Value), parts[j]? = some p → parts'[j]? = some p' → p.1 = p'.1 ∧ RepV ρ I w p.2 p'.2) →
    FitRows ρ I w s rows vs → ∃ vs', Instr.fill (fun i => some (i * s, s)) vs parts' = some vs' ∧ FitRows ρ I w s rows' vs' ∧ rows'.length = rows.length
  | [], [], rows, rows', vs, hf, _, _, hfit => by simp only [fillRows, Option.some.injEq] at hf; subst hf; exact ⟨vs, rfl, hfit, rfl⟩
  | [], _ :: _, _, _, _, _, hl, _, _ => by simp at hl
  | _ :: _, [], _, _, _, _, hl, _, _ => by simp at hl
  | (i, x) :: parts, (i', v) :: parts', rows, rows', vs, hf, hl, hp, hfit => by
    obtain ⟨h1, h2⟩ := hp 0 _ _ rfl rfl
    simp only at h1 h2
    subst h1
    simp only [fillRows] at hf
    split at hf
    · rename_i hc
      obtain ⟨hc1, hc2⟩ := hc
      have he := (h2.cellsEq (by omega)).1
      have hz : v.cells.zipIdx.foldl (fun cs (c, j) => cs.setIfInBounds (i * s + j) c) vs = (v.cells.toList.zipIdx 0).foldl (fun cs (c, j) => cs.setIfInBounds (i * s + j) c) vs := by
        rw [← Array.foldl_toList]; simp
      have hroom : i * s + s ≤ vs.size := by
        rw [hfit.1]
        have : (i + 1) * s ≤ rows.length * s := Nat.mul_le_mul_right s hc1
        rw [Nat.add_mul] at this; omega
      obtain ⟨f1, f2⟩ := fold_set (i * s) v.cells.toList 0 vs (by simp; omega)
      have hfit' : FitRows ρ I w s (rows.set i x.cells) (v.cells.zipIdx.foldl (fun cs (c, j) => cs.setIfInBounds (i * s + j) c) vs) := by
        rw [hz]
        refine ⟨by rw [f1, hfit.1]; simp, fun k row hk => ?_⟩
        rw [List.getElem?_set] at hk
        by_cases hik : i = k
        · subst hik
          rw [if_pos rfl, if_pos hc1] at hk
          cases hk
          refine ⟨hc2, fun j c hj => ?_⟩
          obtain ⟨u, hu, hr⟩ := h2.at j c hj
          have hjs : j < s := by rw [← hc2]; exact (List.getElem?_eq_some_iff.1 hj).1
          refine ⟨u, ?_, hr⟩
          rw [f2, if_pos (by simp; omega)]
          simpa using hu
        · rw [if_neg hik] at hk
          obtain ⟨g1, g2⟩ := hfit.2 k row hk
          refine ⟨g1, fun j c hj => ?_⟩
          obtain ⟨u, hu, hr⟩ := g2 j c hj
          have hjs : j < s := by rw [← g1]; exact (List.getElem?_eq_some_iff.1 hj).1
          refine ⟨u, ?_, hr⟩
          rw [f2, if_neg]
          · exact hu
          · simp only [Nat.add_zero, Array.length_toList]
            intro ⟨a1, a2⟩
            have := idx_ne (s := s) (j := j) (m := k * s + j - i * s) (Ne.symm hik) hjs (by omega)
            omega
      have := fillRows_ok hs parts parts' _ rows' _ hf (by simpa using hl) (fun j p p' a b => hp (j + 1) p p' (by simpa using a) (by simpa using b)) hfit'
      obtain ⟨vs', hv, hfit2, hlen⟩ := this
      refine ⟨vs', ?_, hfit2, by simpa using hlen⟩
      simp only [Instr.fill]
      rw [if_neg]
      · exact hv
      · simp only [Bool.or_eq_true, bne_iff_ne, ne_eq, decide_eq_true_eq, not_or, Decidable.not_not]
        omega
    · cases hf

theorem madeCells_get (z : Array Value) (hz : 0 < z.size) (n k : Nat) (hk : k < n) : (madeCells z n)[k]? = z[k % z.size]? := by
  unfold madeCells
  have hm := Nat.mod_lt k hz
  rw [Array.getElem?_map, Array.getElem?_eq_getElem (by simpa using hk)]
  simp [Array.getElem?_eq_getElem hm, getElem!_pos, hm]

theorem replicate_fit [TInv] {v : Value} {s n : Nat} (hs : 0 < s) (hz : (ofValue v).cells.length = s) (hv : v.cells.size = s) : FitRows ρ I w s (List.replicate n (ofValue v).cells) (madeCells v.cells (n * s)) := by
  refine ⟨by rw [size_madeCells]; simp, fun i row hi => ?_⟩
  rw [List.getElem?_replicate] at hi
  split at hi
  · rename_i hin
    cases hi
    refine ⟨hz, fun j c hj => ?_⟩
    obtain ⟨u, hu, hr⟩ := ofValue_rep (ρ := ρ) (I := I) (w := w) v j c hj
    have hjs : j < s := by rw [← hz]; exact (List.getElem?_eq_some_iff.1 hj).1
    refine ⟨u, ?_, hr⟩
    rw [madeCells_get _ (by omega) _ _ (idx_lt hin hjs), hv]
    rw [Nat.add_comm, Nat.add_mul_mod_self_right, Nat.mod_eq_of_lt hjs]
    exact hu
  · cases hi

theorem out_buildSlice [TInv] {t : TypeId} {len : Nat} {parts : List (Nat × V)} {parts' : Array (Nat × Value)} {v : V} {h' : Hp} (R : Rel ρ I h w) (hn : ∀ b, h.next ≤ b → b < h'.next → ρ b = none) (hb : buildSliceE P h t len parts = some (v, h')) (hl : parts.length = parts'.toList.length)
    (hp : ∀ (j : Nat) (p : Nat × V) (p' : Nat × Value), parts[j]? = some p → parts'.toList[j]? = some p' → p.1 = p'.1 ∧ RepV ρ I w p.2 p'.2) :
    Out P ρ I h w v h' (Instr.buildSlice t len parts') := by
  unfold buildSliceE at hb
  split at hb
  · cases hb
  · rename_i e he
    split at hb
    · rename_i s z hs hz
      split at hb
      · rename_i hc
        obtain ⟨c1, c2, c3⟩ := hc
        split at hb
        · rename_i rows hrows
          cases hb
          have hn' := hn h.next (Nat.le_refl _) (by simp [Hp.new])
          obtain ⟨it, zv, hit, hzv, rfl, hzl⟩ := zeroT_info hz
          obtain ⟨it', hit', hsz⟩ := sizeT_info hs
          rw [hit] at hit'; cases hit'
          have hfit := replicate_fit (ρ := ρ) (I := I) (w := w) (n := len) c2 c1 (by omega)
          obtain ⟨vs', hv, hfit', hlen⟩ := fillRows_ok c2 parts parts'.toList _ rows _ hrows hl hp hfit
          have hlen' : rows.length = len := by rw [hlen]; simp
          refine Out.newRef (k := ⟨s, rows⟩) (cs := vs') (e := e) (cap := len) R hn' ?_ (Nat.le_refl _) (by rw [hfit'.1, hlen']; exact Nat.le_refl _) hfit'.2
          have hu := elemT_some he
          by_cases h0 : len * s = 0
          · have hlen0 : len = 0 := by
              rcases Nat.mul_eq_zero.1 h0 with h0 | h0 <;> omega
            subst hlen0
            simp only [Nat.zero_mul] at hv
            have hm : madeCells zv.cells 0 = #[] := by simp [madeCells, Array.range_zero']
            rw [hm] at hv
            simp [Instr.buildSlice, run_underlying hu, sizeOf, typeInfo, hit, hsz, hv, newRow, Array.range_zero']
          · have hm : (Array.range (len * s)).map (fun x => zv.cells[x % zv.cells.size]!) = madeCells zv.cells (len * s) := rfl
            have hlt : ¬ 2 ^ 24 < len * s := by omega
            simp only [Instr.buildSlice, Sem.run_bind, run_underlying hu, Result.andThen_ok, sizeOf, typeInfo, run_program, hit, Sem.run_pure, hsz, h0, if_false, hlt, zeroValue, hzv, hm, hv, newRow, run_newObj, Sem.run_ite, gt_iff_lt]
            rfl
        · cases hb
      · cases hb
    · cases hb

theorem out_makeSlice [TInv] {t : TypeId} {len cap : V} {len' cap' : Value} {v : V} {h' : Hp} (R : Rel ρ I h w) (hn : ∀ b, h.next ≤ b → b < h'.next → ρ b = none) (hb : makeSliceE P h t len cap = some (v, h')) (hl : RepV ρ I w len len') (hc : RepV ρ I w cap cap') :
    Out P ρ I h w v h' (Instr.makeSlice t len' cap') := by
  unfold makeSliceE at hb
  split at hb
  · rename_i e k n k' m he
    split at hb
    · rename_i i z hi hz
      split at hb
      · rename_i hcond
        obtain ⟨c1, c2, c3, c4, c5, c6⟩ := hcond
        cases hb
        subst c3
        rw [repV_lit hl, repV_lit hc]
        have hn' := hn h.next (Nat.le_refl _) (by simp [Hp.new])
        obtain ⟨it, zv, hit, hzv, rfl, hzl⟩ := zeroT_info hz
        rw [hi] at hit; cases hit
        have hr := run_make (P := P) w t e i zv (elemT_some he) hi hzv k k' n n c4 (Int.le_refl _) (by unfold most at c5; omega) c6
        have hfit := replicate_fit (ρ := ρ) (I := I) (w := w) (n := n.toNat) c2 c1 (by omega)
        exact Out.newRef (k := ⟨i.size, List.replicate n.toNat (ofValue zv).cells⟩) (cs := madeCells zv.cells (n.toNat * i.size)) (e := e) (cap := n.toNat) R hn' hr (Nat.le_refl _) (by rw [size_madeCells]; exact Nat.le_refl _) hfit.2
      · cases hb
    · cases hb
  · cases hb

theorem underlying_of_pack {t : TypeId} {cs : List C} {x : V} (hsz : ∃ k, sizeT P t = some k) (h : packT P t cs = some x) : (∃ d, P.underlying t = some d) ∨ P.underlying t = none := by
  cases P.underlying t with
  | none => exact .inr rfl
  | some d => exact .inl ⟨d, rfl⟩

theorem row_get {rows : List (List C)} {row : Nat} (hr : row < rows.length) : rows[row]? = some (rows.getD row []) := by
  simp [List.getD, List.getElem?_eq_getElem hr]

theorem load_run [TInv] {t : TypeId} {x v : V} {x' : Value} (R : Rel ρ I h w) (hl : loadE P h t x = some v) (hx : RepV ρ I w x x') : ∃ v', (Instr.loadAt t x').run P w = .ok v' w ∧ RepV ρ I w v v' := by
  unfold loadE at hl
  split at hl
  · rename_i k cells hk
    split at hl
    · rename_i hc
      obtain ⟨hd, hc⟩ := hc
      cases rep_one hx with
      | imm hi =>
        cases hi with
        | @ip _ ad vs h1 h2 =>
          obtain ⟨u, hu, hr⟩ := run_loadVar (ρ := ρ) (I := I) hk (a := ad) (cs := cells.take k) (by simp; omega) hl (Option.isSome_iff_exists.1 hd) (fun j c hj => by
            rw [List.getElem?_take] at hj
            split at hj
            · exact ⟨_, (h1 j c hj).2, .imm (h2 j c hj)⟩
            · cases hj)
          refine ⟨u, ?_, hr⟩
          simp [Instr.loadAt, Instr.sureAddr, hu]
    · cases hl
  · rename_i k s b row off hk
    split at hl
    · rename_i blk hblk
      split at hl
      · rename_i hc
        obtain ⟨hd, c1, c2, c3⟩ := hc
        cases rep_one hx with
        | imm hi => cases hi
        | @ptr _ _ _ _ r o hρ =>
          obtain ⟨_, _, hlies⟩ := R.blk b blk r o hblk hρ
          obtain ⟨g1, g2⟩ := hlies row _ (row_get c2)
          obtain ⟨u, hu, hr⟩ := run_loadVar (ρ := ρ) (I := I) hk (a := ⟨r, o + (row * s + off), none⟩) (cs := ((blk.rows.getD row []).drop off).take k) (by simp only [List.length_take, List.length_drop, g1]; omega) hl (Option.isSome_iff_exists.1 hd) (fun j c hj => by
            rw [List.getElem?_take] at hj
            split at hj
            · rw [List.getElem?_drop] at hj
              obtain ⟨u, hu, _, hr⟩ := g2 _ c hj
              refine ⟨u, ?_, hr⟩
              rw [add_plain, ← hu]; congr 2; subst c1; omega
            · cases hj)
          refine ⟨u, ?_, hr⟩
          simp [Instr.loadAt, Instr.sureAddr, hu]
      · cases hl
    · cases hl
  · cases hl

theorem out_load [TInv] {t : TypeId} {x v : V} {x' : Value} (R : Rel ρ I h w) (hl : loadE P h t x = some v) (hx : RepV ρ I w x x') : Out P ρ I h w v h (Instr.loadAt t x') := by
  obtain ⟨v', h1, h2⟩ := load_run R hl hx
  exact Out.same R h1 h2

theorem out_nilCheck [TInv] {x : V} {x' : Value} (R : Rel ρ I h w) (hx : RepV ρ I w x x') (hp : (∃ s b r f, x = .one (.ptr s b r f)) ∨ ∃ cs, x = .one (.ip cs)) : ∃ a, x' = .pointer (some a) := by
  rcases hp with ⟨s, b, r, f, rfl⟩ | ⟨cs, rfl⟩
  · cases rep_one hx with
    | imm hi => cases hi
    | ptr => exact ⟨_, rfl⟩
  · cases rep_one hx with
    | imm hi => cases hi; exact ⟨_, rfl⟩

theorem out_binOp [TInv] {op : BinOp} {t : TypeId} {x y v : V} {x' y' : Value} {ox oy : Operand} (R : Rel ρ I h w) (hb : binOpE P op t x y = some v) (hx : RepV ρ I w x x') (hy : RepV ρ I w y y') :
    Out P ρ I h w v h (do eqGuard op t ox oy x' y'; binOp op t x' y') := by
  unfold binOpE at hb
  split at hb
  · rename_i k a k' b
    rw [repV_lit hx, repV_lit hy]
    have hg : (eqGuard op t ox oy (.int k a) (.int k' b)).run P w = .ok () w := by unfold eqGuard; split <;> rfl
    split at hb
    · obtain ⟨u, rfl, hu, hr⟩ := binShift_ok (k' := k') (t := t) (P := P) (w := w) hb
      exact Out.same R (by simp [hg, hr]) (rep_mk hu)
    · obtain ⟨u, rfl, hu, hr⟩ := binShift_ok (k' := k') (t := t) (P := P) (w := w) hb
      exact Out.same R (by simp [hg, hr]) (rep_mk hu)
    · rename_i h1 h2
      split at hb
      · rename_i hk; subst hk
        obtain ⟨u, rfl, hu, hr⟩ := binInt_ok (t := t) (P := P) (w := w) (fun e => h1 e) (fun e => h2 e) hb
        exact Out.same R (by simp [hg, hr]) (rep_mk hu)
      · cases hb
  · rename_i a b
    rw [repV_lit hx, repV_lit hy]
    have hg : (eqGuard op t ox oy (.string a) (.string b)).run P w = .ok () w := by unfold eqGuard; split <;> rfl
    obtain ⟨u, rfl, hu, hr⟩ := binStr_ok (t := t) (P := P) (w := w) hb
    exact Out.same R (by simp [hg, hr]) (rep_mk hu)
  · rename_i a b
    rw [repV_lit hx, repV_lit hy]
    have hg : (eqGuard op t ox oy (.bool a) (.bool b)).run P w = .ok () w := by unfold eqGuard; split <;> rfl
    split at hb
    · rename_i hd; cases hb
      refine Out.same R (v' := .bool (a == b)) ?_ (rep_mk rfl)
      simp only [Sem.run_bind, hg, Result.andThen_ok]
      have he : (Op.equal t (.bool a) (.bool b)).run P w = .ok (a == b) w := eqCell_ok (ρ := ρ) (I := I) hd (x := .lit (.bool a)) (y := .lit (.bool b)) (b := a == b) rfl (.imm (.lit rfl)) (.imm (.lit rfl)) 9999
      unfold binOp
      simp only [Sem.run_bind, he, Result.andThen_ok, Sem.run_pure]
    · rename_i hd; cases hb
      refine Out.same R (v' := .bool (!(a == b))) ?_ (rep_mk rfl)
      simp only [Sem.run_bind, hg, Result.andThen_ok]
      have he : (Op.equal t (.bool a) (.bool b)).run P w = .ok (a == b) w := eqCell_ok (ρ := ρ) (I := I) hd (x := .lit (.bool a)) (y := .lit (.bool b)) (b := a == b) rfl (.imm (.lit rfl)) (.imm (.lit rfl)) 9999
      unfold binOp
      simp only [Sem.run_bind, he, Result.andThen_ok, Sem.run_pure]
    · cases hb
  · rename_i xs ys
    by_cases hagg : isAggD (P.underlying t) = true
    case neg => rw [if_neg hagg] at hb; cases hb
    rw [if_pos hagg] at hb
    obtain ⟨vx, rfl, hlx⟩ := rep_agg hx
    obtain ⟨vy, rfl, hly⟩ := rep_agg hy
    have key : ∀ b, eqT P 8 t xs ys = some b → (eqGuard op t ox oy (.agg vx) (.agg vy)).run P w = .ok () w ∧ (Op.equal t (.agg vx) (.agg vy)).run P w = .ok b w := by
      intro b he
      have hg : P.eqGuardType P.depth t = false ∧ isAggD (P.underlying t) = true := by
        unfold eqT at he
        split at he
        · rename_i hu
          split at he
          · cases he
          · rename_i hz; simp only [Bool.or_eq_true, not_or, Bool.not_eq_true] at hz; rw [hu]; exact ⟨hz.2, rfl⟩
        · cases he
        · rename_i d h1 h2 hu
          exfalso
          rw [hu] at hagg
          unfold isAggD at hagg
          split at hagg
          · rename_i hs; cases hs; exact h1 _ rfl
          · rename_i hs; cases hs; exact h2 _ _ rfl
          · cases hagg
        · cases he
      refine ⟨?_, ?_⟩
      · unfold eqGuard
        split <;> simp [hg.1]
      · exact eqT_ok (ρ := ρ) (I := I) 8 t xs ys b he Op.maxDepth (by decide) _ _ (by unfold IsT; rw [if_pos hg.2]; exact ⟨vx, rfl, hlx⟩) (by unfold IsT; rw [if_pos hg.2]; exact ⟨vy, rfl, hly⟩)
    split at hb
    · simp only [Option.map_eq_some_iff] at hb
      obtain ⟨b, he, rfl⟩ := hb
      obtain ⟨h1, h2⟩ := key b he
      refine Out.same R (v' := .bool b) ?_ (rep_mk rfl)
      simp only [Sem.run_bind, h1, Result.andThen_ok]
      unfold binOp
      simp only [Sem.run_bind, h2, Result.andThen_ok, Sem.run_pure]
    · simp only [Option.map_eq_some_iff] at hb
      obtain ⟨b, he, rfl⟩ := hb
      obtain ⟨h1, h2⟩ := key b he
      refine Out.same R (v' := .bool (!b)) ?_ (rep_mk rfl)
      simp only [Sem.run_bind, h1, Result.andThen_ok]
      unfold binOp
      simp only [Sem.run_bind, h2, Result.andThen_ok, Sem.run_pure]
    · cases hb
  · cases hb

end Go.Ev
