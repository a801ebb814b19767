/- Rules for calls, for memory made still, and for a whole function. -/
import Derived.Test.YtmfoddeecplibaaDoorEJ
import Derived.Attr
set_option linter.unusedVariables false
set_option linter.unusedSimpArgs false
namespace Go.Ev

theorem toList_lit {α : Type} {l : List α} : l.toArray.toList = l := by simp

def consO {α : Type} : Option α → Option (List α) → Option (List α)
  | some a, some l => some (a :: l)
  | _, _ => none
theorem consO_some {α : Type} {a : α} {l : List α} : consO (some a) (some l) = some (a :: l) := rfl
theorem mapO_nil {α β : Type} {f : α → Option β} : mapO f [] = some [] := rfl
theorem mapO_cons {α β : Type} {f : α → Option β} {x : α} {xs : List α} : mapO f (x :: xs) = consO (f x) (mapO f xs) := by
  simp only [mapO, consO]; cases f x <;> cases mapO f xs <;> rfl

def oneO : Option C → Option V
  | some c => some (.one c)
  | none => none
def aggO : Option (List C) → Option V
  | some c => some (.agg c)
  | none => none
def tupO : Option (List V) → Option V
  | some c => some (.tup c)
  | none => none
def slO (s : Nat) : Option (List (List C)) → Option C
  | some c => some (.sl s c)
  | none => none
theorem oneO_some {c : C} : oneO (some c) = some (.one c) := rfl
theorem aggO_some {c : List C} : aggO (some c) = some (.agg c) := rfl
theorem tupO_some {c : List V} : tupO (some c) = some (.tup c) := rfl
theorem slO_some {s : Nat} {c : List (List C)} : slO s (some c) = some (.sl s c) := rfl

section frz
variable {d : Nat} {h : Hp}
theorem frzV_one {c : C} : frzV d h (.one c) = oneO (frzC d h c) := by simp only [frzV]; cases frzC d h c <;> rfl
theorem frzV_agg {cs : List C} : frzV d h (.agg cs) = aggO (mapO (frzC d h) cs) := by simp only [frzV]; cases mapO (frzC d h) cs <;> rfl
theorem frzV_tup {vs : List V} : frzV d h (.tup vs) = tupO (frzVs d h vs) := by simp only [frzV]; cases frzVs d h vs <;> rfl
theorem frzVs_nil : frzVs d h [] = some [] := by simp only [frzVs]
theorem frzVs_cons {v : V} {vs : List V} : frzVs d h (v :: vs) = consO (frzV d h v) (frzVs d h vs) := by
  simp only [frzVs, consO]; cases frzV d h v <;> cases frzVs d h vs <;> rfl
theorem frzC_lit {v : Value} : frzC d h (.lit v) = some (.lit v) := by cases d <;> simp only [frzC]
theorem frzC_sl {s : Nat} {r : List (List C)} : frzC d h (.sl s r) = some (.sl s r) := by cases d <;> simp only [frzC]
theorem frzC_ip {cs : List C} : frzC d h (.ip cs) = some (.ip cs) := by cases d <;> simp only [frzC]
theorem frzC_fn {f : FuncId} : frzC d h (.fn f []) = some (.fn f []) := by cases d <;> simp only [frzC]
def frzK (d : Nat) (h : Hp) (s off len : Nat) : Option Blk → Option C
  | some ⟨s', rows⟩ => if s' = s ∧ off + len ≤ rows.length then slO s (mapO (mapO (frzC d h)) ((rows.drop off).take len)) else none
  | none => none
theorem frzC_ref {s b off len : Nat} : frzC (d + 1) h (.ref s b off len) = frzK d h s off len (h.at_ b) := by
  simp only [frzC, frzK]
  cases h.at_ b with
  | none => rfl
  | some k =>
    simp only
    split
    · cases mapO (mapO (frzC d h)) _ <;> rfl
    · rfl
theorem frzK_some {s s' off len : Nat} {rows : List (List C)} : frzK d h s off len (some ⟨s', rows⟩) = if s' = s ∧ off + len ≤ rows.length then slO s (mapO (mapO (frzC d h)) ((rows.drop off).take len)) else none := rfl
end frz

/-- No row of memory that is written in it. -/
def C.still : C → Bool
  | .lit _ => true
  | .sl _ _ => true
  | .ip _ => true
  | .fn _ [] => true
  | _ => false
theorem frzC_still {d : Nat} {h : Hp} {c : C} (hs : c.still = true) : frzC d h c = some c := by
  cases c with
  | fn f caps => cases caps <;> first | exact frzC_fn | cases hs
  | lit v => exact frzC_lit
  | sl s r => exact frzC_sl
  | ip cs => exact frzC_ip
  | _ => cases hs
theorem mapO_id {α : Type} {f : α → Option α} : ∀ {l : List α}, (∀ x ∈ l, f x = some x) → mapO f l = some l
  | [], _ => rfl
  | x :: xs, h => by rw [mapO_cons, h x (by simp), mapO_id (fun y hy => h y (by simp [hy]))]; rfl
def Still (rows : List (List C)) : Prop := ∀ r ∈ rows, ∀ c ∈ r, c.still = true
theorem mapO_row {d : Nat} {h : Hp} {r : List C} (hs : ∀ c ∈ r, c.still = true) : mapO (frzC d h) r = some r := mapO_id (fun c hc => frzC_still (hs c hc))
theorem mapO_still {d : Nat} {h : Hp} {rows : List (List C)} (hs : Still rows) : mapO (mapO (frzC d h)) rows = some rows := mapO_id (fun r hr => mapO_row (hs r hr))
theorem Still.nil : Still [] := fun r hr => by simp at hr
theorem Still.cons {r : List C} {rows : List (List C)} (h1 : r.all C.still = true) (h2 : Still rows) : Still (r :: rows) := fun x hx c hc => by
  rcases List.mem_cons.1 hx with rfl | hx
  · exact List.all_eq_true.1 h1 c hc
  · exact h2 x hx c hc
theorem Still.map {α : Type} {f : α → List C} (hf : ∀ x, (f x).all C.still = true) (l : List α) : Still (l.map f) := fun r hr c hc => by
  obtain ⟨x, _, rfl⟩ := List.mem_map.1 hr
  exact List.all_eq_true.1 (hf x) c hc
theorem Still.append {a b : List (List C)} (h1 : Still a) (h2 : Still b) : Still (a ++ b) := fun r hr => by
  rcases List.mem_append.1 hr with h | h
  · exact h1 r h
  · exact h2 r h

theorem take_map_len {α β : Type} {f : α → β} {l : List α} : (l.map f).take l.length = l.map f := by
  have := List.take_length (l := l.map f)
  rwa [List.length_map] at this

/-! ### normal forms -/
theorem nrmVs_nil {sss : List (List Sh)} : nrmVs sss [] = [] := by cases sss <;> rfl
theorem nrmVs_none {vs : List V} : nrmVs [] vs = vs := by cases vs <;> rfl
theorem nrmVs_cons {ss : List Sh} {sss : List (List Sh)} {v : V} {vs : List V} : nrmVs (ss :: sss) (v :: vs) = nrmV ss v :: nrmVs sss vs := rfl
theorem nrmV_one {s : Sh} {ss : List Sh} {c : C} : nrmV (s :: ss) (.one c) = .one (nrmC 6 s c) := rfl
theorem nrmV_agg {ss : List Sh} {cs : List C} : nrmV ss (.agg cs) = .agg (zipSh (nrmC 6) ss cs) := rfl
theorem nrmV_tup {ss : List Sh} {vs : List V} : nrmV ss (.tup vs) = .tup vs := rfl
theorem zipSh_cons {f : Sh → C → C} {s : Sh} {ss : List Sh} {c : C} {cs : List C} : zipSh f (s :: ss) (c :: cs) = f s c :: zipSh f ss cs := rfl
theorem zipSh_nil {f : Sh → C → C} {ss : List Sh} : zipSh f ss [] = [] := by cases ss <;> rfl
theorem zipSh_none {f : Sh → C → C} {cs : List C} : zipSh f [] cs = cs := by cases cs <;> rfl
theorem nrmC_leaf {d : Nat} {c : C} : nrmC d .leaf c = c := by cases d <;> rfl
theorem nrmC_nil {d s : Nat} {es : List Sh} : nrmC (d + 1) (.slc s es) (.lit (.slice none 0 0)) = .sl s [] := rfl
theorem nrmC_sl {d s s' : Nat} {es : List Sh} {rows : List (List C)} : nrmC (d + 1) (.slc s es) (.sl s' rows) = if es.all Sh.flat then .sl s' rows else .sl s' (rows.map (zipSh (nrmC d) es)) := rfl
theorem flat_leaf : Sh.flat .leaf = true := rfl
theorem flat_slc {s : Nat} {es : List Sh} : Sh.flat (.slc s es) = false := rfl
theorem nrmR_one {ss : List Sh} {r : V} : nrmR [ss] r = nrmV ss r := rfl
theorem nrmR_tup {s1 s2 : List Sh} {sss : List (List Sh)} {vs : List V} : nrmR (s1 :: s2 :: sss) (.tup vs) = .tup (nrmVs (s1 :: s2 :: sss) vs) := rfl
theorem map_same {α : Type} {g : List C → List C} {f : α → List C} (h : ∀ x, g (f x) = f x) (l : List α) : (l.map f).map g = l.map f := by
  rw [List.map_map]; exact List.map_congr_left (fun x _ => h x)

/-! ### what is seen -/
theorem seens_nil : V.seens [] = [] := by simp only [V.seens]
theorem seens_cons {v : V} {vs : List V} : V.seens (v :: vs) = v.seen ++ V.seens vs := by simp only [V.seens]
theorem seen_one {c : C} : V.seen (.one c) = c.seen := by simp only [V.seen]
theorem seen_agg {cs : List C} : V.seen (.agg cs) = cs.flatMap C.seen := by simp only [V.seen]
theorem seen_tup {vs : List V} : V.seen (.tup vs) = V.seens vs := by simp only [V.seen]
theorem seen_lit {v : Value} : C.seen (.lit v) = [] := rfl
theorem seen_sl {s : Nat} {r : List (List C)} : C.seen (.sl s r) = [] := rfl
theorem seen_ip {cs : List C} : C.seen (.ip cs) = [] := rfl
theorem seen_ptr {s b r o : Nat} : C.seen (.ptr s b r o) = [] := rfl
theorem seen_fn {f : FuncId} {cs : List C} : C.seen (.fn f cs) = [] := rfl
theorem seen_ref {s b o l : Nat} : C.seen (.ref s b o l) = [b] := rfl
theorem bare_one {c : C} : V.bare (.one c) = c.bare := by simp only [V.bare]
theorem bare_agg {cs : List C} : V.bare (.agg cs) = cs.all C.bare := by simp only [V.bare]
theorem bare_tup {vs : List V} : V.bare (.tup vs) = V.bares vs := by simp only [V.bare]
theorem bares_nil : V.bares [] = true := by simp only [V.bares]
theorem bares_cons {v : V} {vs : List V} : V.bares (v :: vs) = (v.bare && V.bares vs) := by simp only [V.bares]
theorem cbare_lit {v : Value} : C.bare (.lit v) = true := rfl

/-! ### calls -/
def callM (c : Cfg) (f : FuncId) (args : List V) (h : Hp) (m : Mode) : Option (V × Hp) :=
  match m with
  | .step => c.call f args h
  | .look =>
    match frzVs 6 h args with
    | some as =>
      match c.pure f as with
      | some r => if r.bare then some (r, h) else none
      | none => none
    | none => none
  | .plain =>
    if V.seens args = [] then
      match frzVs 1 h args with
      | some as =>
        match c.pure f as with
        | some r => some (r, h)
        | none => none
      | none => none
    else none
  | .give =>
    match frzVs 1 h args with
    | some as =>
      match c.pure f as with
      | some r => some (r, h.kills (V.seens args))
      | none => none
    | none => none
def retK (h : Hp) : Option V → Option (V × Hp)
  | some r => some (r, h)
  | none => none
def lookR (h : Hp) : Option V → Option (V × Hp)
  | some r => if r.bare then some (r, h) else none
  | none => none
def pureK (c : Cfg) (f : FuncId) : Option (List V) → Option V
  | some as => c.pureN f (nrmVs (parSh c.P f) as)
  | none => none
def plainK (x : Option (V × Hp)) : List Nat → Option (V × Hp)
  | [] => x
  | _ => none
section calls
variable {c : Cfg} {f : FuncId} {args : List V} {h : Hp}
theorem callE_mode : callE c f args h = callM c f args h (c.mode f) := by
  unfold callE callM; cases c.mode f <;> rfl
theorem callM_step : callM c f args h .step = c.call f args h := rfl
theorem callM_look : callM c f args h .look = lookR h (pureK c f (frzVs 6 h args)) := by
  simp only [callM]
  cases frzVs 6 h args with
  | none => rfl
  | some as => simp only [pureK, Cfg.pure]; cases c.pureN f _ <;> rfl
theorem callM_plain : callM c f args h .plain = plainK (retK h (pureK c f (frzVs 1 h args))) (V.seens args) := by
  simp only [callM]
  cases V.seens args with
  | nil =>
    simp only [if_true, plainK]
    cases frzVs 1 h args with
    | none => rfl
    | some as => simp only [pureK, Cfg.pure]; cases c.pureN f _ <;> rfl
  | cons x xs => rfl
theorem callM_give : callM c f args h .give = retK (h.kills (V.seens args)) (pureK c f (frzVs 1 h args)) := by
  simp only [callM]
  cases frzVs 1 h args with
  | none => rfl
  | some as => simp only [pureK, Cfg.pure]; cases c.pureN f _ <;> rfl
theorem retK_some {r : V} : retK h (some r) = some (r, h) := rfl
theorem lookR_some {r : V} : lookR h (some r) = if r.bare then some (r, h) else none := rfl
theorem pureK_some {as : List V} : pureK c f (some as) = c.pureN f (nrmVs (parSh c.P f) as) := rfl
theorem plainK_nil {x : Option (V × Hp)} : plainK x [] = x := rfl
theorem kills_nil : h.kills [] = h := by cases h; simp [Hp.kills]
end calls

/-- A test of sizes. -/
theorem opt_om {α : Type} {p : Prop} [Decidable p] {a : α} (h : p) : (if p then some a else none) = some a := if_pos h
theorem opt_om2 {α : Type} {p : Prop} [Decidable p] {a : Option α} (h : p) : (if p then a else none) = a := if_pos h

/-! ### a whole function -/
def frzE (sss : List (List Sh)) : Option V → Option V
  | some r => some (nrmR sss r)
  | none => none
theorem frzE_some {sss : List (List Sh)} {r : V} : frzE sss (some r) = some (nrmR sss r) := rfl
def Frz (sss : List (List Sh)) (r : V) (v : V) (h : Hp) : Prop := frzE sss (frzV 6 h v) = some r
theorem Frz_eq {sss : List (List Sh)} {r v : V} {h : Hp} : Frz sss r v h = (frzE sss (frzV 6 h v) = some r) := rfl

theorem pureN_wp {P : Program} {mode : FuncId → FuncId → Mode} {ext : FuncId → Option (List V → Hp → Option (V × Hp))} {N n : Nat} {m : FuncId → Mode} {f : FuncId} {fn : Func} {body : Code} {args : List V} {r : V}
    (hx : ext f = none) (hfn : P.funcs[f]? = some fn) (hk : fnOk (mode f) fn args.length = true) (hb : fn.body = some body)
    (H : wp ⟨P, mode f, run P mode ext N n⟩ N (Qf P fn.results.toList (Frz (resSh P f) r)) [] body (envOf args) ⟨fun _ => none, 0⟩) :
    (⟨P, m, run P mode ext N (n + 1)⟩ : Cfg).pureN f args = some r := by
  obtain ⟨v, h', h1, h2⟩ := func_wp (c := ⟨P, mode f, run P mode ext N n⟩) (h := .empty) hfn hk hb H
  unfold Cfg.pureN
  simp only [run, hx, h1]
  unfold Frz at h2
  cases hz : frzV 6 h' v with
  | none => rw [hz] at h2; cases h2
  | some r0 => rw [hz] at h2; simpa [frzE] using h2

theorem step_wp {P : Program} {mode : FuncId → FuncId → Mode} {ext : FuncId → Option (List V → Hp → Option (V × Hp))} {N n : Nat} {f : FuncId} {fn : Func} {body : Code} {args : List V} {h : Hp} {Post : V → Hp → Prop}
    (hx : ext f = none) (hfn : P.funcs[f]? = some fn) (hk : fnOk (mode f) fn args.length = true) (hb : fn.body = some body)
    (H : wp ⟨P, mode f, run P mode ext N n⟩ N (Qf P fn.results.toList Post) [] body (envOf args) h) :
    ∃ r h', run P mode ext N (n + 1) f args h = some (r, h') ∧ Post r h' := by
  obtain ⟨v, h', h1, h2⟩ := func_wp (c := ⟨P, mode f, run P mode ext N n⟩) hfn hk hb H
  exact ⟨v, h', by simp only [run, hx, h1], h2⟩

attribute [go_sem] wp_seq wp_skip wp_label wp_ret wp_exit wp_block wp_cond wp_region wpO_nil wpO_cons wpO_guard
  go_nil_normal go_nil_ret go_seq_normal go_seq_ret go_seq_exit go_block_normal go_block_ret go_block_exit go_loop_normal go_loop_ret go_loop_exit vals_nil vals_cons
  contO_some contC_true contC_false contG_tt contG_ff contG_tf contG_ft contG_undef guardD_some putE_some putE_none gdst
  Qf_eq finE_nil finE_tmp finE_cell finM_some joinV
  mapV_some mapH_some pickK_bool pick_bools nilK_ptr nilK_ip exK_tup callK_fn callK_caps
  ev_tmp ev_int ev_bool ev_str ev_slice ev_func ev_global evs_nil evs_cons evps_nil evps_cons evo_none evo_some
  opX_move opX_assign opX_pick opX_alloc opX_box opX_build opX_buildSlice opX_load opX_store opX_nilCheck opX_binOp opX_unOp opX_convert opX_makeSlice opX_slice opX_fieldAddr opX_field opX_indexAddr opX_index opX_extract opX_makeFunc opX_len opX_append opX_call
  new_mk kill_mk set_mk upd_eq envOf_nil envOf_zero envOf_succ
  load_ty loadI_ty alloc_ty box_ty store_ty loadK_agg loadK_one loadIK_agg loadIK_one allocK_agg allocK_one boxK_agg boxK_one storeK_agg storeK_one cells_one cells_agg fa_ty fv_ty faK_ip faK_ptr fvK_agg fvK_one len_ty ix_ty lenK_sl lenK_ref lenK_nil ixK_sl ixK_ref
  loadA_some loadO_some oneK_cons storeB_some setCells_eq
  build_ty buildK_some aggP_some fillP_nil fillP_cons fillQ_some bslice_ty bsliceK_some bsR_some fillRows_nil fillRows_cons List.replicate_succ List.replicate_zero
  make_ty makeK_some WideL_nil WideL_cons WideL_append rowsE_nil rowsE_sl rowsE_ref rowsB_some app_ty appK_some appR_some appX_nil appX_ref appB_some rowsV_one isSl_slice most_eq
  sliceK_sl sliceK_ref sliceK_nil slcI_some slcR_some slcN_some slcS_true slcT_some bound_none bound_some isStr_string slice_ty lenS_true idxS_true
  conv_ty convK_int convK_str convK_bytes convK_text textR_some strO_some be_agg eqAggK_eql eqAggK_neq eqR_some neR_some eqChainO_nil eqChainO_cons andO_some
  bin_shl bin_shr be_add be_sub be_mul be_eql be_neq be_lss be_leq be_gtr be_geq be_quo be_rem be_str bs_eql bs_neq bs_add be_bool beBool_eql beBool_neq un_not un_neg wrap_i64
  ixI_nat ixI_pos ixR_pos getD_map List.length_map Int.toNat_natCast
  toList_lit consO_some mapO_nil mapO_cons oneO_some aggO_some tupO_some slO_some frzV_one frzV_agg frzV_tup frzVs_nil frzVs_cons frzC_lit frzC_sl frzC_ip frzC_fn frzC_ref frzK_some
  nrmVs_nil nrmVs_none nrmVs_cons nrmV_one nrmV_agg nrmV_tup zipSh_cons zipSh_nil zipSh_none nrmC_leaf nrmC_nil nrmC_sl flat_leaf flat_slc nrmR_one nrmR_tup
  seens_nil seens_cons seen_one seen_agg seen_tup seen_lit seen_sl seen_ip seen_ptr seen_fn seen_ref bare_one bare_agg bare_tup bares_nil bares_cons cbare_lit
  callE_mode callM_step callM_look callM_plain callM_give retK_some lookR_some pureK_some plainK_nil kills_nil
  frzE_some Frz_eq
  List.getD_cons_zero List.getD_cons_succ List.drop_succ_cons List.drop_zero List.take_succ_cons List.take_zero List.drop_nil List.take_nil List.length_cons List.length_nil List.cons_append List.nil_append List.append_nil List.set_cons_zero List.set_cons_succ
  List.map_nil List.map_cons List.all_cons List.all_nil List.flatMap_nil List.flatMap_cons List.reverse_cons List.reverse_nil List.getElem?_cons_zero List.getElem?_cons_succ
  Option.some.injEq and_self and_true true_and if_true if_false Bool.and_self Bool.and_true Bool.true_and reduceCtorEq decide_eq_true_eq decide_eq_false_iff_not Bool.not_eq_true' Bool.not_eq_false' forall_const true_implies false_implies implies_true Bool.true_eq_false Bool.false_eq_true Bool.not_true Bool.not_false decide_true decide_false

attribute [go_sem] Nat.zero_add Nat.add_zero Nat.le_refl take_map_len List.take_length List.getD_cons_zero
attribute [go_sem low] opt_om opt_om2
attribute [go_sem high] ixI_map ixI_mapI ixR_nat slice_str len_str index_str

end Go.Ev
