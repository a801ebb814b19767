/- Conversions; calls by values; all that writes nothing that was there. -/
import Derived.Test.YtmfoddeecplibaaDoorE7
import Derived.Laws.IdiomStrings
import Derived.Laws.BytesArg
set_option linter.unusedVariables false
set_option linter.unusedSimpArgs false
namespace Go.Ev
variable {P : Program} {w : World} {ρ : Rho} {I : Nat → Prop} {h : Hp}

theorem repI_lit {u v : Value} (h : RepI I w (.lit u) v) : v = u := by
  cases h with
  | lit h => rfl

theorem bytesOf_spec : ∀ (rows : List (List C)) (l : List UInt8), bytesOf rows = some l → ∃ ns : List Int, rows = ns.map (fun n => [.lit (.int .u8 n)]) ∧ l = ns.map (fun n => UInt8.ofNat n.toNat)
  | [], l, h => by simp only [bytesOf, Option.some.injEq] at h; subst h; exact ⟨[], rfl, rfl⟩
  | row :: rows, l, h => by
    unfold bytesOf at h
    split at h
    · rename_i heq; cases heq
    · rename_i n rest heq
      cases heq
      simp only [Option.map_eq_some_iff] at h
      obtain ⟨l', hl', rfl⟩ := h
      obtain ⟨ns, rfl, rfl⟩ := bytesOf_spec _ l' hl'
      exact ⟨n :: ns, rfl, rfl⟩
    · cases h

/-- Rows of one cell each, and where they lie. -/
theorem rows_one [TInv] {c : C} {v : Value} {ns : List Int} (R : Rel ρ I h w) (hr : Rep ρ I w c v) (he : rowsE h c = some (ns.map (fun n => [.lit (.int .u8 n)]))) :
    ∃ a cap, v = .slice a ns.length cap ∧ (a = none → ns = []) ∧ ∀ ad, a = some ad → (loadCells ad ns.length).run P w = .ok (ns.map (Value.int .u8)).toArray w := by
  unfold rowsE at he
  split at he
  · have hz : ns = [] := by cases ns with | nil => rfl | cons => simp at he
    subst hz
    rw [rep_lit hr]
    exact ⟨none, 0, rfl, fun _ => rfl, fun ad ha => by cases ha⟩
  · rename_i s rows
    simp only [Option.some.injEq] at he
    subst he
    cases hr with
    | imm hi =>
      cases hi with
      | @sl _ _ a cap vs h0 h1 h2 h3 =>
        refine ⟨a, cap, by simp, fun ha => ?_, fun ad ha => ?_⟩
        · cases ns with
          | nil => rfl
          | cons n ns =>
            obtain ⟨ad, hc, _⟩ := h2 0 _ 0 _ rfl rfl
            rw [ha] at hc; cases hc
        · have := run_loadCells_list (P := P) w ad (ns.map (Value.int .u8)) (fun j v hj => by
            simp only [List.getElem?_map, Option.map_eq_some_iff] at hj
            obtain ⟨n, hn, rfl⟩ := hj
            have hrow : (ns.map (fun n => [C.lit (.int .u8 n)]))[j]? = some [.lit (.int .u8 n)] := by simp [hn]
            have hs := h1 j _ hrow
            obtain ⟨ad', hc, _, hcell⟩ := h2 j _ 0 _ hrow rfl
            rw [ha] at hc; cases hc
            have hv := repI_lit (h3 j _ 0 _ hrow rfl)
            simp only [List.length_cons, List.length_nil] at hs
            rw [← hs, hv] at hcell
            simpa using hcell)
          simpa using this
  · rename_i s b off len
    split at he
    · rename_i k hk
      split at he
      · rename_i hc
        obtain ⟨c1, c2⟩ := hc
        simp only [Option.some.injEq] at he
        have hlen : ns.length = len := by
          have := congrArg List.length he
          simp at this; omega
        cases hr with
        | imm hi => cases hi
        | @ref _ _ _ _ a cap hl hor =>
          refine ⟨a, cap, by rw [hlen], fun ha => ?_, fun ad ha => ?_⟩
          · rcases hor with h0 | ⟨r, o, h1, h2, _⟩
            · have : ns.length = 0 := by omega
              exact List.eq_nil_of_length_eq_zero this
            · rw [ha] at h2; cases h2
          · rcases hor with h0 | ⟨r, o, h1, h2, _⟩
            · have : ns.length = 0 := by omega
              have hz := List.eq_nil_of_length_eq_zero this
              subst hz
              simp [loadCells, loadCellsFrom]
            · rw [ha] at h2; cases h2
              obtain ⟨_, _, hlies⟩ := R.blk b k r o hk h1
              have := run_loadCells_list (P := P) w ⟨r, o + off * s, none⟩ (ns.map (Value.int .u8)) (fun j v hj => by
                simp only [List.getElem?_map, Option.map_eq_some_iff] at hj
                obtain ⟨n, hn, rfl⟩ := hj
                have hrow : k.rows[off + j]? = some [.lit (.int .u8 n)] := by
                  have h3 : ((k.rows.drop off).take len)[j]? = some [.lit (.int .u8 n)] := by rw [he]; simp [hn]
                  rw [List.getElem?_take] at h3
                  split at h3
                  · rwa [List.getElem?_drop] at h3
                  · cases h3
                obtain ⟨g1, g2⟩ := hlies _ _ hrow
                obtain ⟨u, hu, _, hr⟩ := g2 0 _ rfl
                rw [rep_lit hr] at hu
                simp only [List.length_cons, List.length_nil] at g1
                rw [add_plain, ← hu]
                congr 2
                rw [c1] at g1
                rw [c1, ← g1]; omega)
              simpa using this
      · cases he
    · cases he
  · cases he

theorem out_convert [TInv] {s d : TypeId} {x v : V} {x' : Value} {h' : Hp} (R : Rel ρ I h w) (hn : ∀ b, h.next ≤ b → b < h'.next → ρ b = none) (hb : convertE P h s d x = some (v, h')) (hx : RepV ρ I w x x') : Out P ρ I h w v h' (convert s d x') := by
  unfold convertE at hb
  split at hb
  · rename_i k k' k2 n hs hd
    cases hb; rw [repV_lit hx]
    exact Out.same R (v' := .int k' (k'.wrap n)) (by simp [convert, run_underlying hs, run_underlying hd, Conv.intToInt]) (rep_mk rfl)
  · rename_i a hs hd
    cases hb; rw [repV_lit hx]
    exact Out.same R (by simp [convert, run_underlying hs, run_underlying hd]) (rep_mk rfl)
  · rename_i e a hs hd
    split at hb
    · rename_i he
      cases hb; rw [repV_lit hx]
      have hn' := hn h.next (Nat.le_refl _) (by simp [Hp.new])
      have hrun := run_bytes_of_string (P := P) w s d e a hs hd he
      have hcap : a.size ≤ grownCap w a.size 0 e := grownCap_ge w a.size 0 e
      have hsz : (bytesRow a (grownCap w a.size 0 e)).size = grownCap w a.size 0 e := by
        have : a.data.size = a.size := rfl
        simp [bytesRow]; omega
      obtain ⟨R', q, m⟩ := rel_new (k := ⟨1, a.data.toList.map fun b => [.lit (.int .u8 b.toNat)]⟩) (cs := bytesRow a (grownCap w a.size 0 e)) (e := e)
        (fz := ((bytesRow a (grownCap w a.size 0 e)).size, (bytesRow a (grownCap w a.size 0 e)).size + 1)) R.drew hn' (by intro j hj; simp only []; omega) (by
          intro i row hi
          simp only [List.getElem?_map, Option.map_eq_some_iff] at hi
          obtain ⟨b, hb, rfl⟩ := hi
          refine ⟨rfl, fun j c hj => ?_⟩
          cases j with
          | succ j => simp at hj
          | zero =>
            simp at hj; subst hj
            obtain ⟨hlt, hbe⟩ := List.getElem?_eq_some_iff.1 hb
            have hat := bytesRow_at a (grownCap w a.size 0 e) i (by simpa using hlt)
            refine ⟨_, by simpa using hat, .imm ?_⟩
            have : a.data[i]'(by simpa using hlt) = b := by simpa using hbe
            rw [this]
            exact .lit rfl)
      refine ⟨_, _, _, _, hrun, ⟨q.next, q.rho, q.imm, q.immNew, q.frame, q.at_, q.fresh, q.size, q.os, q.tape, q.output⟩, m, R', .one (.ref hcap (.inr ⟨w.heap.size, 0, upd_same _ _ _, by simp, fun j hj => ?_⟩))⟩
      have hlt : j < (bytesRow a (grownCap w a.size 0 e)).size := by omega
      refine ⟨?_, ?_⟩
      · have hcell : (w.drew.alloc (.cells (bytesRow a (grownCap w a.size 0 e)) e ((bytesRow a (grownCap w a.size 0 e)).size, (bytesRow a (grownCap w a.size 0 e)).size + 1))).cell? ⟨w.heap.size, 0 + 0 * 1 + j, none⟩ = (bytesRow a (grownCap w a.size 0 e))[0 + 0 * 1 + j]? := World.cell?_alloc_mark w.drew _ _ _ _
        rw [hcell, show 0 + 0 * 1 + j = j by omega, Array.getElem?_eq_getElem hlt]; rfl
      · have hcell : (w.drew.alloc (.cells (bytesRow a (grownCap w a.size 0 e)) e ((bytesRow a (grownCap w a.size 0 e)).size, (bytesRow a (grownCap w a.size 0 e)).size + 1))).frozen? ⟨w.heap.size, 0 + 0 * 1 + j, none⟩ = _ := World.frozen?_alloc_mark w.drew _ _ _ _ _
        rw [hcell]
        simp; omega
    · cases hb
  · rename_i e c hs hd
    split at hb
    · rename_i rows he hrows
      split at hb
      · rename_i l hl
        cases hb
        obtain ⟨ns, rfl, rfl⟩ := bytesOf_spec _ _ hl
        obtain ⟨a, cap, rfl, hnone, hsome⟩ := rows_one (P := P) R (rep_one hx) hrows
        refine Out.same R (v' := .string ⟨(ns.map (fun n => UInt8.ofNat n.toNat)).toArray⟩) ?_ (rep_mk rfl)
        rw [run_convert_bytes_string w s d e a _ cap hs he hd]
        cases a with
        | none =>
          have := hnone rfl; subst this
          simp [Conv.bytesToString]; rfl
        | some ad =>
          rw [run_bytesToString w ad ns.length cap ns (hsome ad rfl), foldl_push_bytes]
          have he0 : ByteArray.empty.data = #[] := rfl
          rw [he0, Array.empty_append]
      · cases hb
    · cases hb
  · cases hb

theorem out_min {f : Int → Int → Int} {g : Value → Value → Sem Value} (hg : ∀ (k k' : IntKind) (a b : Int), (g (.int k a) (.int k' b)).run P w = .ok (.int k (f a b)) w) :
    ∀ (rest : List V) (x v : V) (x' : Value) (rest' : List Value), foldMin f x rest = some v → RepV ρ I w x x' → RepVs ρ I w rest rest' → ∃ v', (rest'.foldlM g x').run P w = .ok v' w ∧ RepV ρ I w v v'
  | [], x, v, x', rest', hb, hx, hr => by
    simp only [foldMin, Option.some.injEq] at hb
    subst hb
    have : rest' = [] := List.eq_nil_of_length_eq_zero (by simpa using hr.1.symm)
    subst this
    exact ⟨x', by simp, hx⟩
  | y :: rest, x, v, x', rest', hb, hx, hr => by
    unfold foldMin at hb
    split at hb
    · rename_i heq; cases heq
    · rename_i k a k' b rest0 heq
      cases heq
      cases rest' with
      | nil => have := hr.1; simp at this
      | cons y' rest' =>
        have hy := hr.2 0 _ _ rfl rfl
        rw [repV_lit hx, repV_lit hy]
        have := out_min hg rest _ v (.int k (f a b)) rest' hb (rep_mk rfl) ⟨by simpa using hr.1, fun j x v hx hv => hr.2 (j + 1) x v (by simpa using hx) (by simpa using hv)⟩
        obtain ⟨v', h1, h2⟩ := this
        exact ⟨v', by simp [List.foldlM_cons, hg, h1], h2⟩
    · cases hb

/-! ### calls by values -/
theorem Gone.qstp [TInv] {I' : Nat → Prop} {w' : World} (R : Rel ρ I h w) (g : Gone I w I' w') : QStp ρ I h w ρ I' h w' ∧ Rel ρ I' h w' := by
  have q : QStp ρ I h w ρ I' h w' := ⟨Nat.le_refl _, fun _ _ => rfl, g.imm, g.immNew, g.frame, fun _ _ => rfl, fun b _ _ h1 h2 => by omega, g.size, g.os, g.tape, g.output⟩
  refine ⟨q, R.imm.go g.immLt g.imm (fun r hr => g.frame r (R.imm r hr)), fun b k r o h1 h2 => ?_, R.inj⟩
  obtain ⟨a1, a2, a3⟩ := R.blk b k r o h1 h2
  refine ⟨Nat.lt_of_lt_of_le a1 g.size, fun hi => ?_, a3.evo (q.evo R.imm.lt) (More.refl _) (g.frame r a1)⟩
  rcases g.immNew r hi with hi | hi
  · exact a2 hi
  · omega

theorem bareC {c : C} {v : Value} {ρ' : Rho} {I' : Nat → Prop} {w' : World} (hb : c.bare = true) (hr : Rep ρ I w c v) : Rep ρ' I' w' c v := by
  unfold C.bare at hb
  split at hb
  · rw [rep_lit hr]; exact .imm (.lit (by have := hr.cell; rw [rep_lit hr] at this; exact this))
  · cases hb

mutual
theorem bareV [TInv] {ρ' : Rho} {I' : Nat → Prop} {w' : World} : ∀ (x : V) (v : Value), x.bare = true → RepV ρ I w x v → RepV ρ' I' w' x v
  | .junk, _, hb, _ => .junk
  | .one c, v, hb, hr => .one (bareC (by simpa [V.bare] using hb) (rep_one hr))
  | .agg cs, v, hb, hr => by
    obtain ⟨vs, rfl, hl⟩ := rep_agg hr
    refine .agg ⟨hl.1, fun j c v hc hv => bareC ?_ (hl.2 j c v hc hv)⟩
    exact List.all_eq_true.1 (by simpa [V.bare] using hb) c (List.mem_of_getElem? hc)
  | .tup xs, v, hb, hr => by
    cases hr with
    | @tup _ vs h1 h2 =>
      have := baresV (ρ' := ρ') (I' := I') (w' := w') xs vs.toList (by simpa [V.bare] using hb) ⟨by simpa using h1, fun j x v hx hv => h2 j x v hx (by simpa using hv)⟩
      exact .tup h1 (fun j x v hx hv => this.2 j x v hx (by simpa using hv))
theorem baresV [TInv] {ρ' : Rho} {I' : Nat → Prop} {w' : World} : ∀ (xs : List V) (vs : List Value), V.bares xs = true → RepVs ρ I w xs vs → RepVs ρ' I' w' xs vs
  | [], vs, _, hr => ⟨hr.1, fun j x v hx _ => by simp at hx⟩
  | x :: xs, vs, hb, hr => by
    simp only [V.bares, Bool.and_eq_true] at hb
    cases vs with
    | nil => have := hr.1; simp at this
    | cons v vs =>
      have i1 := bareV (ρ' := ρ') (I' := I') (w' := w') x v hb.1 (hr.2 0 x v rfl rfl)
      have i2 := baresV (ρ' := ρ') (I' := I') (w' := w') xs vs hb.2 ⟨by simpa using hr.1, fun j x v hx hv => hr.2 (j + 1) x v (by simpa using hx) (by simpa using hv)⟩
      refine ⟨by simp [i2.1], fun j y u hy hu => ?_⟩
      cases j with
      | zero => simp at hy hu; subst hy; subst hu; exact i1
      | succ j => exact i2.2 j y u (by simpa using hy) (by simpa using hu)
end

/-- What leads to no block of ours is still as it is. -/
theorem unseenC [TInv] (R : Rel ρ I h w) {d : Nat} {c t : C} {v : Value} (hs : c.seen = []) (hf : frzC d h c = some t) (hr : Rep ρ I w c v) : RepI I w t v := by
  cases hr with
  | imm hi =>
    cases hi with
    | lit hl => have : t = .lit v := by cases d <;> (simp only [frzC, Option.some.injEq] at hf; exact hf.symm)
                subst this; exact .lit hl
    | @sl s rows a cap vs h0 h1 h2 h3 =>
      have : t = .sl s rows := by cases d <;> (simp only [frzC, Option.some.injEq] at hf; exact hf.symm)
      subst this
      exact RepI.sl vs h0 h1 h2 h3
    | @ip cells ad vs h1 h2 =>
      have : t = .ip cells := by cases d <;> (simp only [frzC, Option.some.injEq] at hf; exact hf.symm)
      subst this
      exact RepI.ip vs h1 h2
    | fn =>
      rename_i f
      have : t = .fn f [] := by cases d <;> (simp only [frzC, Option.some.injEq] at hf; exact hf.symm)
      subst this; exact .fn
  | ref => simp [C.seen] at hs
  | ptr => cases d <;> simp [frzC] at hf
  | @fn f caps vs h1 h2 =>
    cases caps with
    | nil =>
      have : t = .fn f [] := by cases d <;> (simp only [frzC, Option.some.injEq] at hf; exact hf.symm)
      subst this
      have hz : vs = #[] := by apply Array.eq_empty_of_size_eq_zero; simpa using h1.symm
      subst hz; exact .fn
    | cons c cs => cases d <;> simp [frzC] at hf

theorem unseenL [TInv] (R : Rel ρ I h w) {d : Nat} {cs ts : List C} {vs : List Value} (hs : ∀ c ∈ cs, c.seen = []) (hf : mapO (frzC d h) cs = some ts) (hr : RepL ρ I w cs vs) : RepL (fun _ => none) I w ts vs := by
  obtain ⟨h1, h2⟩ := mapO_spec hf
  refine ⟨h1.trans hr.1, fun j c v hc hv => ?_⟩
  obtain ⟨x, hx, hfx⟩ := h2 j c hc
  exact .imm (unseenC R (hs x (List.mem_of_getElem? hx)) hfx (hr.2 j x v hx hv))

mutual
theorem unseenV [TInv] (R : Rel ρ I h w) {d : Nat} : ∀ (x t : V) (v : Value), x.seen = [] → frzV d h x = some t → RepV ρ I w x v → RepV (fun _ => none) I w t v
  | .junk, _, _, _, hf, _ => by simp [frzV] at hf
  | .one c, t, v, hs, hf, hr => by
    simp only [frzV, Option.map_eq_some_iff] at hf
    obtain ⟨c', hc', rfl⟩ := hf
    exact .one (.imm (unseenC R (by simpa [V.seen] using hs) hc' (rep_one hr)))
  | .agg cs, t, v, hs, hf, hr => by
    simp only [frzV, Option.map_eq_some_iff] at hf
    obtain ⟨cs', hc', rfl⟩ := hf
    obtain ⟨vs, rfl, hl⟩ := rep_agg hr
    exact .agg (unseenL R (by simpa [V.seen] using hs) hc' hl)
  | .tup xs, t, v, hs, hf, hr => by
    simp only [frzV, Option.map_eq_some_iff] at hf
    obtain ⟨ts, hts, rfl⟩ := hf
    cases hr with
    | @tup _ vs h1 h2 =>
      have := unseenVs R xs ts vs.toList (by simpa [V.seen] using hs) hts ⟨by simpa using h1, fun j x v hx hv => h2 j x v hx (by simpa using hv)⟩
      exact .tup (by simpa using this.1) (fun j x v hx hv => this.2 j x v hx (by simpa using hv))
theorem unseenVs [TInv] (R : Rel ρ I h w) {d : Nat} : ∀ (xs ts : List V) (vs : List Value), V.seens xs = [] → frzVs d h xs = some ts → RepVs ρ I w xs vs → RepVs (fun _ => none) I w ts vs
  | [], ts, vs, _, hf, hr => by
    simp only [frzVs, Option.some.injEq] at hf
    subst hf
    exact ⟨hr.1, fun j x v hx _ => by simp at hx⟩
  | x :: xs, ts, vs, hs, hf, hr => by
    simp only [V.seens, List.append_eq_nil_iff] at hs
    simp only [frzVs] at hf
    split at hf
    · rename_i t ts' h1 h2
      cases hf
      cases vs with
      | nil => have := hr.1; simp at this
      | cons v vs =>
        have i1 := unseenV R x t v hs.1 h1 (hr.2 0 x v rfl rfl)
        have i2 := unseenVs R xs ts' vs hs.2 h2 ⟨by simpa using hr.1, fun j x v hx hv => hr.2 (j + 1) x v (by simpa using hx) (by simpa using hv)⟩
        refine ⟨by simp [i2.1], fun j y u hy hu => ?_⟩
        cases j with
        | zero => simp at hy hu; subst hy; subst hu; exact i1
        | succ j => exact i2.2 j y u (by simpa using hy) (by simpa using hu)
    · cases hf
end

theorem RepV.up [TInv] {x : V} {v : Value} (hr : RepV (fun _ => none) I w x v) : RepV ρ I w x v := hr.evo ⟨fun _ h => h, fun _ _ => rfl, fun _ h => ⟨h, rfl⟩⟩ (fun _ _ h => by cases h)

theorem pure_exists {c : Cfg} {f : FuncId} {as : List V} {r : V} (hp : c.pure f as = some r) : ∃ as' x, c.call f as' .empty = some x := by
  unfold Cfg.pure Cfg.pureN at hp
  split at hp
  · exact ⟨_, _, by assumption⟩
  · cases hp

/-- A call that writes nothing that was there. -/
theorem quiet_call [TInv] {c : Cfg} (hc : CallOk c) {f : FuncId} {args : List V} {v : V} {h' : Hp} (hm : c.mode f = .look ∨ c.mode f = .plain) (hb : callE c f args h = some (v, h'))
    (R : Rel ρ I h w) {vs : Array Value} (hvs : RepVs ρ I w args vs.toList) :
    (∃ fn, c.P.funcs[f]? = some fn ∧ fn.body.isSome = true ∧ fn.name ≠ "runtime.NumGoroutine") ∧
    Calls c.P f vs w (fun e w' => ∃ v' I', e = .returned v' ∧ QStp ρ I h w ρ I' h' w' ∧ Rel ρ I' h' w' ∧ RepV ρ I' w' v v') := by
  unfold callE at hb
  rcases hm with hm | hm
  · rw [hm] at hb
    simp only at hb
    split at hb
    · rename_i as has
      split at hb
      · rename_i r hp
        split at hb
        · rename_i hbare
          cases hb
          obtain ⟨_, x, hx⟩ := pure_exists hp
          refine ⟨(hc _ _ _ _ _ hx).2.1, ?_⟩
          have hfr := frzVs_ok R args as vs.toList has hvs
          have hI : Imm (fun r => I r ∨ Mut ρ h r) w := R.imm.go (fun r hr => by
            rcases hr with hr | ⟨b, k, o, h1, h2⟩
            · exact R.imm r hr
            · exact (R.blk b k r o h1 h2).1) (fun _ h => .inl h) (fun _ _ => rfl)
          refine (pure_ok hc hp hI hfr).mono ?_
          rintro e w' ⟨v', I', rfl, g, hr⟩
          have g' : Gone I w I w' := ⟨fun _ h => h, fun _ h => .inl h, fun r hr => Nat.lt_of_lt_of_le (R.imm r hr) g.size, g.frame, g.size, g.os, g.tape, g.output⟩
          obtain ⟨q, R'⟩ := g'.qstp R
          exact ⟨v', I, rfl, q, R', bareV _ _ hbare hr⟩
        · cases hb
      · cases hb
    · cases hb
  · rw [hm] at hb
    simp only at hb
    split at hb
    · rename_i hseen
      split at hb
      · rename_i as has
        split at hb
        · rename_i r hp
          cases hb
          obtain ⟨_, x, hx⟩ := pure_exists hp
          refine ⟨(hc _ _ _ _ _ hx).2.1, ?_⟩
          have hfr := unseenVs R args as vs.toList hseen has hvs
          refine (pure_ok hc hp R.imm hfr).mono ?_
          rintro e w' ⟨v', I', rfl, g, hr⟩
          obtain ⟨q, R'⟩ := g.qstp R
          exact ⟨v', I', rfl, q, R', hr.up⟩
        · cases hb
      · cases hb
    · cases hb

end Go.Ev
