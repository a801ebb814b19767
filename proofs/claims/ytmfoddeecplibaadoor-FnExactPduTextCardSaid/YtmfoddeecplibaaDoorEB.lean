/- Appends. -/
import Derived.Test.YtmfoddeecplibaaDoorEA
set_option linter.unusedVariables false
set_option linter.unusedSimpArgs false
namespace Go.Ev
variable {P : Program} {w : World} {ρ : Rho} {I : Nat → Prop} {h : Hp}

/-- The cells of a row of rows. -/
theorem cells_list [TInv] {s n : Nat} {rows : List (List C)} (hn : rows.length = n) (hs : ∀ r ∈ rows, r.length = s) {at_ : Nat → Option Value}
    (hc : ∀ (i : Nat) (row : List C) (j : Nat) (c : C), rows[i]? = some row → row[j]? = some c → ∃ u, at_ (i * s + j) = some u ∧ Rep ρ I w c u) :
    ∃ news : List Value, news.length = n * s ∧ (∀ (j : Nat) (u : Value), news[j]? = some u → at_ j = some u) ∧ (∀ u ∈ news, u.oneCell' = true) ∧
      ∀ (i : Nat) (row : List C) (j : Nat) (c : C), rows[i]? = some row → row[j]? = some c → ∃ u, news[i * s + j]? = some u ∧ Rep ρ I w c u := by
  have key : ∀ k, k < n * s → ∃ u, at_ k = some u ∧ u.oneCell' = true := fun k hk => by
    have hs0 : 0 < s := by
      rcases Nat.eq_zero_or_pos s with h0 | h0
      · subst h0; omega
      · exact h0
    have hi : k / s < rows.length := by rw [hn]; exact Nat.div_lt_of_lt_mul (by rw [Nat.mul_comm]; exact hk)
    have hrow := List.getElem?_eq_getElem hi
    have hj : k % s < (rows[k / s]).length := by rw [hs _ (List.getElem_mem hi)]; exact Nat.mod_lt _ hs0
    obtain ⟨u, hu, hr⟩ := hc _ _ _ _ hrow (List.getElem?_eq_getElem hj)
    have he : k / s * s + k % s = k := by rw [Nat.mul_comm]; exact Nat.div_add_mod k s
    rw [he] at hu
    exact ⟨u, hu, hr.cell⟩
  refine ⟨(List.range (n * s)).map fun k => (at_ k).getD undef, by simp, fun j u hj => ?_, fun u hu => ?_, fun i row j c hi hj => ?_⟩
  · simp only [List.getElem?_map, Option.map_eq_some_iff] at hj
    obtain ⟨j', hj', rfl⟩ := hj
    obtain ⟨hlt, rfl⟩ := List.getElem?_eq_some_iff.1 hj'
    simp only [List.length_range] at hlt
    obtain ⟨u, hu, _⟩ := key _ hlt
    simp [hu]
  · simp only [List.mem_map, List.mem_range] at hu
    obtain ⟨k, hk, rfl⟩ := hu
    obtain ⟨u, hu, h1⟩ := key k hk
    simpa [hu] using h1
  · obtain ⟨u, hu, hr⟩ := hc i row j c hi hj
    have hjs : j < s := by rw [← hs _ (List.mem_of_getElem? hi)]; exact (List.getElem?_eq_some_iff.1 hj).1
    have hin : i < n := by rw [← hn]; exact (List.getElem?_eq_some_iff.1 hi).1
    refine ⟨u, ?_, hr⟩
    simp only [List.getElem?_map]
    rw [List.getElem?_range (idx_lt hin hjs)]
    simp [hu]

theorem rows_run [TInv] {c : C} {v : Value} {rows : List (List C)} {s : Nat} (R : Rel ρ I h w) (hr : Rep ρ I w c v) (he : rowsE h c = some rows) (hs : ∀ r ∈ rows, r.length = s) (hs0 : 0 < s) :
    ∃ (xa : Option Addr) (xc : Nat) (news : List Value), v = .slice xa rows.length xc ∧ news.length = rows.length * s ∧ (∀ u ∈ news, u.oneCell' = true) ∧
      (∀ (i : Nat) (row : List C) (j : Nat) (c : C), rows[i]? = some row → row[j]? = some c → ∃ u, news[i * s + j]? = some u ∧ Rep ρ I w c u) ∧
      ∀ w2 : World, (∀ a, w2.cell? a = w.cell? a) → (Builtin.firstCells s rows.length v).run P w2 = .ok news.toArray w2 := by
  cases c with
  | lit u =>
    unfold rowsE at he
    split at he
    · rename_i heq
      cases heq
      cases he
      rw [rep_lit hr]
      exact ⟨none, 0, [], rfl, by simp, by simp, fun i row j c hi => by simp at hi, fun w2 _ => by simp [Builtin.firstCells]⟩
    · rename_i heq; cases heq
    · rename_i heq; cases heq
    · cases he
  | sl s' rows' =>
    simp only [rowsE, Option.some.injEq] at he
    subst he
    cases hr with
    | imm hi =>
      cases hi with
      | @sl _ _ a cap vs h0 h1 h2 h3 =>
        cases hrows : rows' with
        | nil =>
          refine ⟨a, cap, [], rfl, by simp, by simp, fun i row j c hi => by simp at hi, fun w2 _ => ?_⟩
          cases a <;> simp [Builtin.firstCells, loadCells, loadCellsFrom]
        | cons row0 rest =>
          rw [← hrows]
          have hss : s' = s := by
            have e1 := h1 0 row0 (by rw [hrows]; rfl)
            have e2 := hs row0 (by rw [hrows]; simp)
            omega
          subst hss
          obtain ⟨ad, had⟩ : ∃ ad, a = some ad := by
            have hl := h1 0 row0 (by rw [hrows]; rfl)
            obtain ⟨ad, ha, _⟩ := h2 0 row0 0 _ (by rw [hrows]; rfl) (List.getElem?_eq_getElem (by omega))
            exact ⟨ad, ha⟩
          obtain ⟨news, n1, n2, n3, n4⟩ := cells_list (ρ := ρ) (I := I) (w := w) (rows := rows') rfl hs (at_ := fun k => w.cell? (ad.add k)) (fun i row j c hi hj => by
            obtain ⟨ad', ha', _, hc⟩ := h2 i row j c hi hj
            rw [had] at ha'; cases ha'
            exact ⟨_, hc, .imm (h3 i row j c hi hj)⟩)
          refine ⟨a, cap, news, rfl, n1, n3, n4, fun w2 hw => ?_⟩
          subst had
          exact run_firstCells_some (P := P) w2 s' rows'.length ad rows'.length cap news n1 (fun j u hj => by rw [hw]; exact n2 j u hj)
  | ref s' b off len =>
    simp only [rowsE] at he
    split at he
    · rename_i k hk
      split at he
      · rename_i hc
        obtain ⟨c1, c2⟩ := hc
        cases he
        have hlen : ((k.rows.drop off).take len).length = len := by simp; omega
        rw [hlen]
        have hget : ∀ (i : Nat) (row : List C), ((k.rows.drop off).take len)[i]? = some row → k.rows[off + i]? = some row ∧ i < len := fun i row hi => by
          rw [List.getElem?_take] at hi
          split at hi
          · rename_i hlt; rw [List.getElem?_drop] at hi; exact ⟨hi, hlt⟩
          · cases hi
        cases hr with
        | imm hi => cases hi
        | @ref _ _ _ _ a cap hl hor =>
          by_cases h0 : len = 0
          · subst h0
            refine ⟨a, cap, [], rfl, by simp, by simp, fun i row j c hi => by simp at hi, fun w2 _ => ?_⟩
            cases a <;> simp [Builtin.firstCells, loadCells, loadCellsFrom]
          · rcases hor with hz | ⟨r, o, hρ, ha, _⟩
            · omega
            · obtain ⟨_, _, hlies⟩ := R.blk b k r o hk hρ
              have hss : s' = s := by
                have hlt0 : 0 < ((k.rows.drop off).take len).length := by omega
                have hrow := List.getElem?_eq_getElem hlt0
                have e1 := (hlies _ _ (hget 0 _ hrow).1).1
                have e2 := hs _ (List.mem_of_getElem? hrow)
                omega
              subst hss
              obtain ⟨news, n1, n2, n3, n4⟩ := cells_list (ρ := ρ) (I := I) (w := w) (rows := (k.rows.drop off).take len) hlen hs (at_ := fun m => w.cell? ((⟨r, o + off * s', none⟩ : Addr).add m)) (fun i row j c hi hj => by
                obtain ⟨u, hu, _, hrep⟩ := (hlies _ row (hget i row hi).1).2 j c hj
                refine ⟨u, ?_, hrep⟩
                rw [add_plain, ← hu, c1]
                congr 2
                rw [Nat.add_mul]; omega)
              refine ⟨a, cap, news, rfl, n1, n3, n4, fun w2 hw => ?_⟩
              subst ha
              exact run_firstCells_some (P := P) w2 s' len ⟨r, o + off * s', none⟩ len cap news n1 (fun j u hj => by rw [hw]; exact n2 j u hj)
      · cases he
    · cases he
  | _ => simp [rowsE] at he

theorem run_append_fits' {t u ty e e' : TypeId} {i : TypeInfo} (ht : P.underlying t = some (.slice e)) (hu : P.underlying u = some (.slice e')) (hi : P.info? e = some i)
    {base : Option Addr} {sLen sCap m xc : Nat} {xa : Option Addr} {news : List Value} (hf : (Builtin.firstCells i.size m (.slice xa m xc)).run P w = .ok news.toArray w) (hroom : sLen + m ≤ sCap) {w' : World}
    (hst : (match base with | some a => storeCells (a.add (sLen * i.size)) news | none => (pure () : Sem Unit)).run P w = .ok () w') :
    (Builtin.append_ #[t, u] ty #[.slice base sLen sCap, .slice xa m xc]).run P w = .ok (.slice base (sLen + m) sCap) w' := by
  cases base with
  | none =>
    simp only [Sem.run_pure, Result.ok.injEq, true_and] at hst
    subst hst
    simp [Builtin.append_, run_underlying ht, run_underlying hu, sizeOf, typeInfo, hi, Builtin.lenOf, hroom, hf]
  | some a =>
    simp only at hst
    simp [Builtin.append_, run_underlying ht, run_underlying hu, sizeOf, typeInfo, hi, Builtin.lenOf, hroom, hf, hst]

theorem run_append_grow' {t u ty e e' : TypeId} {i : TypeInfo} {z : Value} (ht : P.underlying t = some (.slice e)) (hu : P.underlying u = some (.slice e')) (hi : P.info? e = some i) (hz : i.zero = some z)
    {base : Option Addr} {sLen sCap m xc : Nat} {xa : Option Addr} {olds news : List Value} (hfo : (Builtin.firstCells i.size sLen (.slice base sLen sCap)).run P w.drew = .ok olds.toArray w.drew)
    (hf : (Builtin.firstCells i.size m (.slice xa m xc)).run P w.drew = .ok news.toArray w.drew) (hg : sCap < sLen + m) (hbytes : Builtin.nextslicecap (sLen + m) sCap * i.bytes ≤ 281474976710656) (hb : 0 < i.bytes) :
    (Builtin.append_ #[t, u] ty #[.slice base sLen sCap, .slice xa m xc]).run P w = .ok (.slice (some ⟨w.heap.size, 0, none⟩) (sLen + m) (grownCap w (sLen + m) sCap e))
      (w.drew.alloc (.cells (olds.toArray ++ news.toArray ++ Builtin.zeroCells z.cells (grownCap w (sLen + m) sCap e - (sLen + m))) e)) := by
  have h1 : ¬ sLen + m ≤ sCap := by omega
  have h2 : ¬ (2 ^ 48 < Builtin.nextslicecap (sLen + m) sCap * i.bytes) := by omega
  have h3 : ¬ i.bytes = 0 := by omega
  simp [Builtin.append_, run_underlying ht, run_underlying hu, sizeOf, typeInfo, hi, Builtin.lenOf, h1, h2, h3, Question.forced, hfo, hf, zeroValue, hz, newRow, grownCap]
  congr 2
  apply Array.ext'
  simp only [Array.toList_append, List.append_assoc]

/-- What an append leaves. -/
theorem append_ok [TInv] {t u ty : TypeId} {x y v : V} {x' y' : Value} {h' : Hp} (R : Rel ρ I h w) (d : Dom ρ h.next) (ha : appendE P h t u x y = some (v, h')) (hx : RepV ρ I w x x') (hy : RepV ρ I w y y') :
    ∃ v' w' ρ', (Builtin.append_ #[t, u] ty #[x', y']).run P w = .ok v' w' ∧ Stp ρ I h w ρ' I h' w' ∧ Rel ρ' I h' w' ∧ RepV ρ' I w' v v' := by
  unfold appendE at ha
  split at ha
  case h_2 => cases ha
  rename_i e du he hdu
  split at ha
  case h_2 => cases ha
  rename_i i z rows hi hz hrows
  split at ha
  case isFalse => cases ha
  rename_i hc
  obtain ⟨c1, c2, c3, c4⟩ := hc
  have ht := elemT_some he
  obtain ⟨it, zv, hit, hzv, rfl, hzl⟩ := zeroT_info hz
  rw [hi] at hit; cases hit
  -- what is appended
  unfold newRowsE at hrows
  split at hrows
  case h_2 => cases hrows
  rename_i e' c
  obtain ⟨xa, xc, news, rfl, n1, n2, n3, n4⟩ := rows_run (P := P) R (rep_one hy) hrows c3 c2
  have hdrew : ∀ a, w.drew.cell? a = w.cell? a := fun _ => rfl
  have zcells : ∀ n, (Builtin.zeroCells zv.cells n).size = n * i.size := fun n => by rw [size_zeroCells]; rw [← hzl, c1]
  -- a new row of olds and news
  have grow : ∀ (h0 : Hp) (base : Option Addr) (sLen sCap : Nat) (olds : List Value) (orows : List (List C)), Rel ρ I h0 w → h0.next = h.next → Stp ρ I h w ρ I h0 w →
      (∀ w2 : World, (∀ a, w2.cell? a = w.cell? a) → (Builtin.firstCells i.size sLen (.slice base sLen sCap)).run P w2 = .ok olds.toArray w2) → orows.length = sLen → olds.length = sLen * i.size →
      (∀ r ∈ orows, r.length = i.size) → (∀ (k : Nat) (row : List C) (j : Nat) (c : C), orows[k]? = some row → row[j]? = some c → ∃ u, olds[k * i.size + j]? = some u ∧ Rep ρ I w c u) →
      sCap < sLen + rows.length → (2 * (sLen + rows.length) + 1024) * i.bytes ≤ most →
      ∃ v' w' ρ', (Builtin.append_ #[t, u] ty #[.slice base sLen sCap, .slice xa rows.length xc]).run P w = .ok v' w' ∧ Stp ρ I h w ρ' I (h0.new ⟨i.size, orows ++ rows⟩) w' ∧ Rel ρ' I (h0.new ⟨i.size, orows ++ rows⟩) w' ∧
        RepV ρ' I w' (.one (.ref i.size h.next 0 (sLen + rows.length))) v' := by
    intro h0 base sLen sCap olds orows R0 hnx s0 hfo ol1 ol2 ow orep hg hby
    have hn1 : Builtin.nextslicecap (sLen + rows.length) sCap ≤ 2 * (sLen + rows.length) := nextslicecap_le hg
    have hb1 : Builtin.nextslicecap (sLen + rows.length) sCap * i.bytes ≤ 281474976710656 := by
      refine Nat.le_trans (Nat.mul_le_mul_right _ hn1) ?_
      unfold most at hby
      refine Nat.le_trans (Nat.mul_le_mul_right _ ?_) hby
      omega
    have hrun := run_append_grow' (P := P) (w := w) (ty := ty) (xc := xc) ht hdu hi hzv (hfo w.drew hdrew) (n4 w.drew hdrew) hg hb1 c4
    have hcap := grownCap_ge w (sLen + rows.length) sCap e
    have hn' : ρ h0.next = none := by rw [hnx]; exact d _ (Nat.le_refl _)
    have hsz : (olds.toArray ++ news.toArray ++ Builtin.zeroCells zv.cells (grownCap w (sLen + rows.length) sCap e - (sLen + rows.length))).size = grownCap w (sLen + rows.length) sCap e * i.size := by
      simp only [Array.size_append, List.size_toArray, zcells, ol2, n1, ← Nat.add_mul]
      congr 1; omega
    obtain ⟨R', q, m⟩ := rel_new (k := ⟨i.size, orows ++ rows⟩) (cs := olds.toArray ++ news.toArray ++ Builtin.zeroCells zv.cells (grownCap w (sLen + rows.length) sCap e - (sLen + rows.length))) (e := e) (fz := (0, 0)) R0.drew hn' (by simp) (by
      intro k row hk
      simp only at hk
      rw [List.getElem?_append] at hk
      split at hk
      · rename_i hlt
        refine ⟨ow row (List.mem_of_getElem? hk), fun j c hj => ?_⟩
        obtain ⟨u, hu, hr⟩ := orep k row j c hk hj
        refine ⟨u, ?_, hr.evo (⟨fun _ h => h, fun _ _ => rfl, fun _ h => ⟨h, rfl⟩⟩ : Evo I w I w.drew) (More.refl _)⟩
        have hlt2 : k * i.size + j < olds.length := (List.getElem?_eq_some_iff.1 hu).1
        rw [Array.append_assoc, Array.getElem?_append_left (by simpa using hlt2)]
        simpa using hu
      · rename_i hlt
        refine ⟨c3 row (List.mem_of_getElem? hk), fun j c hj => ?_⟩
        obtain ⟨u, hu, hr⟩ := n3 (k - orows.length) row j c hk hj
        refine ⟨u, ?_, hr.evo (⟨fun _ h => h, fun _ _ => rfl, fun _ h => ⟨h, rfl⟩⟩ : Evo I w I w.drew) (More.refl _)⟩
        have hlt2 : (k - orows.length) * i.size + j < news.length := (List.getElem?_eq_some_iff.1 hu).1
        have hidx : k * i.size + j = olds.length + ((k - orows.length) * i.size + j) := by
          rw [ol2, ← ol1, ← Nat.add_assoc, ← Nat.add_mul]; congr 2; omega
        rw [Array.append_assoc, Array.getElem?_append_right (by simp; omega), Array.getElem?_append_left (by simp; omega)]
        simp only [List.size_toArray, List.getElem?_toArray]
        rw [hidx, Nat.add_sub_cancel_left]
        exact hu)
    refine ⟨_, _, _, hrun, s0.trans (((Stp.refl ρ I h0 w).drew).trans q.stp), R', .one (.ref (by omega) (.inr ⟨w.heap.size, 0, ?_, by simp, fun j hj => ?_⟩))⟩
    · rw [← hnx]; exact upd_same _ _ _
    · have hlt : j < (olds.toArray ++ news.toArray ++ Builtin.zeroCells zv.cells (grownCap w (sLen + rows.length) sCap e - (sLen + rows.length))).size := by rw [hsz]; exact hj
      refine ⟨?_, ?_⟩
      · have hcell := World.cell?_alloc_mark w.drew (olds.toArray ++ news.toArray ++ Builtin.zeroCells zv.cells (grownCap w (sLen + rows.length) sCap e - (sLen + rows.length))) e (0, 0) (0 + 0 * i.size + j)
        have hcell' : (w.drew.alloc (.cells (olds.toArray ++ news.toArray ++ Builtin.zeroCells zv.cells (grownCap w (sLen + rows.length) sCap e - (sLen + rows.length))) e (0, 0))).cell? ⟨w.heap.size, 0 + 0 * i.size + j, none⟩ = _ := hcell
        rw [hcell', show 0 + 0 * i.size + j = j by omega, Array.getElem?_eq_getElem hlt]; rfl
      · have hcell' : (w.drew.alloc (.cells (olds.toArray ++ news.toArray ++ Builtin.zeroCells zv.cells (grownCap w (sLen + rows.length) sCap e - (sLen + rows.length))) e (0, 0))).frozen? ⟨w.heap.size, 0 + 0 * i.size + j, none⟩ = _ := World.frozen?_alloc_mark w.drew _ _ _ _ _
        rw [hcell']; simp
  split at ha
  · -- onto nil
    split at ha
    case isFalse => cases ha
    rename_i hby
    simp only [Option.some.injEq, Prod.mk.injEq] at ha
    obtain ⟨rfl, rfl⟩ := ha
    rw [repV_lit hx]
    by_cases h0 : rows.length = 0
    · have hr0 : rows = [] := List.eq_nil_of_length_eq_zero h0
      subst hr0
      have hnews : news = [] := List.eq_nil_of_length_eq_zero (by rw [n1]; simp)
      have hrun := run_append_fits' (P := P) (w := w) (ty := ty) (base := none) (sLen := 0) (sCap := 0) (m := 0) (xc := xc) (xa := xa) (w' := w) ht hdu hi (n4 w (fun _ => rfl)) (Nat.le_refl _) rfl
      refine ⟨_, w, ρ, hrun, ?_, ?_, .one (.ref (Nat.le_refl _) (.inl rfl))⟩
      · exact ⟨Nat.le_succ _, fun _ _ => rfl, fun _ h => h, fun _ h => .inl h, fun _ _ _ => rfl, fun r ⟨b, k, o, g1, g2⟩ => by
          simp only [Hp.new] at g1
          unfold upd at g1
          split at g1
          · rename_i hb; subst hb; rw [d _ (Nat.le_refl _)] at g2; cases g2
          · exact .inl ⟨b, k, o, g1, g2⟩, fun _ h => ⟨h, rfl⟩, Nat.le_refl _, rfl, rfl, rfl⟩
      · have up : ∀ b k r o, (h.new ⟨i.size, []⟩).at_ b = some k → ρ b = some (r, o) → h.at_ b = some k := fun b k r o g1 g2 => by
          simp only [Hp.new] at g1
          unfold upd at g1
          split at g1
          · rename_i hb; subst hb; rw [d _ (Nat.le_refl _)] at g2; cases g2
          · exact g1
        exact ⟨R.imm, fun b k r o g1 g2 => R.blk b k r o (up _ _ _ _ g1 g2) g2, fun b b' k k' r o o' g1 g2 g3 g4 => R.inj b b' k k' r o o' (up _ _ _ _ g1 g3) (up _ _ _ _ g2 g4) g3 g4⟩
    · have := grow h none 0 0 [] [] R rfl (Stp.refl _ _ _ _) (fun w2 _ => by simp [Builtin.firstCells]) rfl (by simp) (by simp) (by simp) (by omega) (by simpa using hby)
      simpa using this
  · -- onto one of ours
    rename_i s b off len
    split at ha
    case h_2 => cases ha
    rename_i k hk
    split at ha
    case isFalse => cases ha
    rename_i hc
    obtain ⟨k1, k2, k3, hby⟩ := hc
    simp only [Option.some.injEq, Prod.mk.injEq] at ha
    obtain ⟨rfl, rfl⟩ := ha
    subst k2
    obtain ⟨Rk, sk⟩ := rel_kill R b
    have hlen : ((k.rows.drop off).take len).length = len := by simp; omega
    have hget : ∀ (j : Nat) (row : List C), ((k.rows.drop off).take len)[j]? = some row → k.rows[off + j]? = some row ∧ j < len := fun j row hj => by
      rw [List.getElem?_take] at hj
      split at hj
      · rename_i hlt; rw [List.getElem?_drop] at hj; exact ⟨hj, hlt⟩
      · cases hj
    cases rep_one hx with
    | imm hi => cases hi
    | @ref _ _ _ _ a cap hl hor =>
      by_cases hfit : len + rows.length ≤ cap
      · -- there is room
        by_cases hcap0 : cap = 0
        · -- none at all
          have h0 : rows.length = 0 := by omega
          have hlen0 : len = 0 := by omega
          have hr0 : rows = [] := List.eq_nil_of_length_eq_zero h0
          subst hr0; subst hcap0; subst hlen0
          have hnews : news = [] := List.eq_nil_of_length_eq_zero (by rw [n1]; simp)
          subst hnews
          have hrun := run_append_fits' (P := P) (w := w) (ty := ty) (base := a) (sLen := 0) (sCap := 0) (m := 0) (xc := xc) (xa := xa) (w' := w) ht hdu hi (n4 w (fun _ => rfl)) (Nat.le_refl _) (by cases a <;> rfl)
          have up : ∀ b' k' r o, ((h.kill b).new ⟨i.size, (k.rows.drop off).take 0 ++ []⟩).at_ b' = some k' → ρ b' = some (r, o) → (h.kill b).at_ b' = some k' := fun b' k' r o g1 g2 => by
            simp only [Hp.new] at g1
            unfold upd at g1
            split at g1
            · rename_i hb
              have : ρ b' = none := d _ (by rw [hb]; exact Nat.le_refl _)
              rw [this] at g2; cases g2
            · exact g1
          refine ⟨_, w, ρ, hrun, sk.trans ⟨Nat.le_succ _, fun _ _ => rfl, fun _ h => h, fun _ h => .inl h, fun _ _ _ => rfl, fun r ⟨b', k', o, g1, g2⟩ => .inl ⟨b', k', o, up _ _ _ _ g1 g2, g2⟩, fun _ h => ⟨h, rfl⟩, Nat.le_refl _, rfl, rfl, rfl⟩, ?_, .one (.ref (Nat.le_refl _) (.inl rfl))⟩
          exact ⟨Rk.imm, fun b' k' r o g1 g2 => Rk.blk b' k' r o (up _ _ _ _ g1 g2) g2, fun b1 b2 k1 k2 r o o' g1 g2 g3 g4 => Rk.inj b1 b2 k1 k2 r o o' (up _ _ _ _ g1 g3) (up _ _ _ _ g2 g4) g3 g4⟩
        · rcases hor with hz | ⟨r, o, hρ, hae, hroom⟩
          · exact absurd hz hcap0
          subst hae
          obtain ⟨g0, g1, hlies⟩ := R.blk b k r o hk hρ
          have hnl : news.length = rows.length * i.size := n1
          have hroom' : Room w r (o + off * i.size + len * i.size) news.length := fun j hj => by
            have h1 : (len + rows.length) * i.size ≤ cap * i.size := Nat.mul_le_mul_right _ hfit
            rw [Nat.add_mul] at h1
            have := hroom (len * i.size + j) (by omega)
            rwa [← Nat.add_assoc (o + off * i.size)] at this
          have hrun := run_append_fits' (P := P) (w := w) (ty := ty) (base := some ⟨r, o + off * i.size, none⟩) (sLen := len) (sCap := cap) (m := rows.length) (xc := xc) (xa := xa) (news := news)
            (w' := w.setCells r (o + off * i.size + len * i.size) news) ht hdu hi (n4 w (fun _ => rfl)) hfit (by simp only [add_plain]; exact storeCells_run hroom' n2)
          have hev := setCells_evo (w := w) (r := r) (o := o + off * i.size + len * i.size) (vs := news) g1
          have hm : More ρ (upd ρ h.next (some (r, o + off * i.size))) := fun b' p hp => by
            unfold upd; split
            · rename_i hb; rw [d b' (by rw [hb]; exact Nat.le_refl _)] at hp; cases hp
            · exact hp
          have hbn : b ≠ h.next := fun e => by
            rw [d b (by rw [e]; exact Nat.le_refl _)] at hρ; cases hρ
          refine ⟨_, _, upd ρ h.next (some (r, o + off * i.size)), hrun, ?_, ?_, .one (.ref (by omega) (.inr ⟨r, o + off * i.size, upd_same _ _ _, by simp, fun j hj => ?_⟩))⟩
          · exact ⟨Nat.le_succ _, fun b' hb' => by
                unfold upd; split
                · rename_i hb; simp only [Hp.new, Hp.kill] at hb'; omega
                · rfl,
              fun _ h => h, fun _ h => .inl h, fun r' hr' hmut => setCells_heap r _ _ w r' (fun e => hmut (e ▸ ⟨b, k, o, hk, hρ⟩)),
              fun r' ⟨b', k', o', q1, q2⟩ => by
                simp only [Hp.new, Hp.kill] at q1
                unfold upd at q1 q2
                split at q2
                · cases q2; exact .inl ⟨b, k, o, hk, hρ⟩
                · rename_i hb
                  rw [if_neg hb] at q1
                  split at q1
                  · cases q1
                  · exact .inl ⟨b', k', o', q1, q2⟩,
              hev.cells, Nat.le_of_eq (setCells_size _ _ _ _).symm, (setCells_os _ _ _ _).1, (setCells_os _ _ _ _).2.1, (setCells_os _ _ _ _).2.2⟩
          · refine ⟨R.imm.go (fun r' hr' => by rw [setCells_size]; exact R.imm r' hr') (fun _ h => h) (fun r' hr' => setCells_heap r _ _ w r' (fun e => g1 (e ▸ hr'))), fun b' k' r' o' q1 q2 => ?_, fun b1 b2 k1' k2' r1 o1 o2 q1 q2 q3 q4 => ?_⟩
            · simp only [Hp.new, Hp.kill] at q1
              unfold upd at q1 q2
              split at q2
              · rename_i hb
                cases q2
                rw [if_pos hb] at q1
                cases q1
                refine ⟨by rw [setCells_size]; exact g0, g1, fun j row hj => ?_⟩
                simp only at hj
                rw [List.getElem?_append] at hj
                split at hj
                · obtain ⟨hj', hjl⟩ := hget j row hj
                  obtain ⟨l1, l2⟩ := hlies _ row hj'
                  refine ⟨by rw [l1, k1], fun m c hmc => ?_⟩
                  obtain ⟨u, hu, hf, hr⟩ := l2 m c hmc
                  have hmi : m < i.size := by rw [← k1, ← l1]; exact (List.getElem?_eq_some_iff.1 hmc).1
                  have hidx : o + ((off + j) * k.s + m) = o + off * i.size + (j * i.size + m) := by rw [k1, Nat.add_mul]; omega
                  rw [hidx] at hu hf
                  refine ⟨u, ?_, by rw [World.frozen?_setCells]; exact hf, hr.evo hev hm⟩
                  rw [World.cell?_setCells_out r news _ w _ (fun _ _ => by
                    left
                    have := idx_lt hjl hmi
                    simp only; omega)]
                  exact hu
                · rename_i hnl2
                  rw [hlen] at hj hnl2
                  refine ⟨c3 row (List.mem_of_getElem? hj), fun m c hmc => ?_⟩
                  obtain ⟨u, hu, hr⟩ := n3 (j - len) row m c hj hmc
                  have hlt : (j - len) * i.size + m < news.length := (List.getElem?_eq_some_iff.1 hu).1
                  have hidx : o + off * i.size + (j * i.size + m) = o + off * i.size + len * i.size + ((j - len) * i.size + m) := by
                    have : j * i.size = len * i.size + (j - len) * i.size := by rw [← Nat.add_mul]; congr 1; omega
                    omega
                  have hin := World.cell?_setCells_in r news (o + off * i.size + len * i.size) w (fun x hx => (hroom' x hx).1) _ hlt
                  refine ⟨u, ?_, ?_, hr.evo hev hm⟩
                  · rw [hidx, hin, ← hu, List.getElem?_eq_getElem hlt]
                  · rw [World.frozen?_setCells, hidx]; exact (hroom' _ hlt).2
              · rename_i hb
                rw [if_neg hb] at q1
                split at q1
                · cases q1
                · rename_i hbb
                  obtain ⟨m0, m1, m2⟩ := R.blk b' k' r' o' q1 q2
                  refine ⟨by rw [setCells_size]; exact m0, m1, m2.evo hev hm (setCells_heap _ _ _ _ _ (fun e => hbb ?_))⟩
                  subst e
                  exact R.inj b' b k' k r' o' o q1 hk q2 hρ
            · simp only [Hp.new, Hp.kill] at q1 q2
              unfold upd at q1 q2 q3 q4
              split at q3 <;> split at q4
              · rename_i e1 e2; rw [e1, e2]
              · rename_i e1 e2
                cases q3
                rw [if_neg e2] at q2
                split at q2
                · cases q2
                · rename_i hbb; exact absurd (R.inj b2 b k2' k r o2 o q2 hk q4 hρ) hbb
              · rename_i e1 e2
                cases q4
                rw [if_neg e1] at q1
                split at q1
                · cases q1
                · rename_i hbb; exact absurd (R.inj b1 b k1' k r o1 o q1 hk q3 hρ) hbb
              · rename_i e1 e2
                rw [if_neg e1] at q1; rw [if_neg e2] at q2
                split at q1
                · cases q1
                · split at q2
                  · cases q2
                  · exact R.inj b1 b2 k1' k2' r1 o1 o2 q1 q2 q3 q4
          · have := hroom j hj
            rw [show o + off * i.size + 0 * i.size + j = o + off * i.size + j by omega]
            exact ⟨setCells_some _ _ _ _ _ this.1, by rw [World.frozen?_setCells]; exact this.2⟩
      · -- a new row
        have holds : ∃ olds : List Value, olds.length = len * i.size ∧ (∀ (j : Nat) (row : List C) (m : Nat) (c : C), ((k.rows.drop off).take len)[j]? = some row → row[m]? = some c → ∃ u, olds[j * i.size + m]? = some u ∧ Rep ρ I w c u) ∧
            (∀ r ∈ (k.rows.drop off).take len, r.length = i.size) ∧ ∀ w2 : World, (∀ a, w2.cell? a = w.cell? a) → (Builtin.firstCells i.size len (.slice a len cap)).run P w2 = .ok olds.toArray w2 := by
          by_cases hl0 : len = 0
          · subst hl0
            refine ⟨[], by simp, by simp, by simp, fun w2 _ => ?_⟩
            cases a <;> simp [Builtin.firstCells, loadCells, loadCellsFrom]
          · rcases hor with hz | ⟨r, o, hρ, hae, hroom⟩
            · omega
            · obtain ⟨g0, g1, hlies⟩ := R.blk b k r o hk hρ
              have hw : ∀ row ∈ (k.rows.drop off).take len, row.length = i.size := fun row hrow => by
                obtain ⟨j, hj, rfl⟩ := List.getElem_of_mem hrow
                rw [(hlies _ _ (hget j _ (List.getElem?_eq_getElem hj)).1).1, k1]
              obtain ⟨olds, o1, o2, o3, o4⟩ := cells_list (ρ := ρ) (I := I) (w := w) (rows := (k.rows.drop off).take len) hlen hw (at_ := fun m => w.cell? ((⟨r, o + off * i.size, none⟩ : Addr).add m)) (fun j row m c hj hm => by
                obtain ⟨u, hu, _, hrep⟩ := (hlies _ row (hget j row hj).1).2 m c hm
                refine ⟨u, ?_, hrep⟩
                rw [add_plain, ← hu, k1]
                congr 2
                rw [Nat.add_mul]; omega)
              refine ⟨olds, o1, o4, hw, fun w2 hw2 => ?_⟩
              subst hae
              exact run_firstCells_some (P := P) w2 i.size len ⟨r, o + off * i.size, none⟩ len cap olds o1 (fun j u hj => by rw [hw2]; exact o2 j u hj)
        obtain ⟨olds, o1, o4, hw, hfo⟩ := holds
        exact grow (h.kill b) a len cap olds _ Rk rfl sk hfo hlen o1 hw o4 (by omega) hby
  · cases ha

end Go.Ev
