/- What a law is handed, as the things that the program speaks of. -/
import Derived.Test.YtmfoddeecplibaaDoorEM
import Derived.Test.YtmfoddeecplibaaDoorM0
set_option linter.unusedVariables false
set_option linter.unusedSimpArgs false
namespace Go.Ev
theorem fit_st {fs : List TD} {cs : List C} (h : FitT (.st fs) cs) : FitTs fs cs := by cases h; assumption
theorem fits_nil {cs : List C} (h : FitTs [] cs) : cs = [] := by cases h; rfl
theorem fits_cons {t : TD} {ts : List TD} {cs : List C} (h : FitTs (t :: ts) cs) : ∃ a b, cs = a ++ b ∧ FitT t a ∧ FitTs ts b := by
  cases h with | cons _ _ a b h1 h2 => exact ⟨a, b, rfl, h1, h2⟩
theorem fit_i {k : IntKind} {cs : List C} (h : FitT (.int k) cs) : ∃ n, cs = [.lit (.int k n)] ∧ (Lit.int k n).wf = true := by
  cases h with | int _ n h => exact ⟨n, rfl, h⟩
theorem fit_b {cs : List C} (h : FitT .bool cs) : ∃ b, cs = [.lit (.bool b)] := by cases h with | bool b => exact ⟨b, rfl⟩
theorem fit_s {cs : List C} (h : FitT .str cs) : ∃ s, cs = [.lit (.string s)] ∧ s.size ≤ reachBytes := by cases h with | str s h => exact ⟨s, rfl, h⟩
theorem rows_map {α : Type} {f : α → List C} {td : TD} {ok : α → Prop} (h : ∀ r, FitT td r → ∃ x, r = f x ∧ ok x) : ∀ (rows : List (List C)), (∀ r ∈ rows, FitT td r) → ∃ l : List α, rows = l.map f ∧ ∀ x ∈ l, ok x
  | [], _ => ⟨[], rfl, fun _ h => by cases h⟩
  | r :: rows, hr => by
    obtain ⟨x, rfl, hx⟩ := h r (hr r (by simp))
    obtain ⟨l, rfl, hl⟩ := rows_map h rows (fun r hx => hr r (by simp [hx]))
    exact ⟨x :: l, rfl, fun y hy => (List.mem_cons.1 hy).elim (fun e => e ▸ hx) (hl y)⟩
theorem fit_l {α : Type} {f : α → List C} {td : TD} {s by_ : Nat} {ok : α → Prop} (h : ∀ r, FitT td r → ∃ x, r = f x ∧ ok x) {cs : List C} (hc : FitT (.slc s by_ td) cs) : ∃ l : List α, cs = [.sl s (l.map f)] ∧ (l.length * by_ ≤ reachBytes ∧ ∀ x ∈ l, ok x) := by
  cases hc with
  | slc _ _ _ rows h1 h2 =>
    obtain ⟨l, rfl, hl⟩ := rows_map h rows h1
    exact ⟨l, rfl, by simpa using h2, hl⟩
def i64Ok (n : Int) : Prop := -9223372036854775808 ≤ n ∧ n ≤ 9223372036854775807
def u8Ok (n : Int) : Prop := 0 ≤ n ∧ n ≤ 255
theorem wf_i64 {n : Int} (h : (Lit.int .i64 n).wf = true) : i64Ok n := by
  have h1 : IntKind.min .i64 ≤ n ∧ n ≤ 9223372036854775807 := by simpa [Lit.wf] using h
  exact h1
theorem wf_u8 {n : Int} (h : (Lit.int .u8 n).wf = true) : u8Ok n := by
  have h1 : IntKind.min .u8 ≤ n ∧ n ≤ IntKind.max .u8 := by simpa [Lit.wf] using h
  exact h1
theorem fit_i64 {cs : List C} (h : FitT (.int .i64) cs) : ∃ n, cs = [.lit (.int .i64 n)] ∧ i64Ok n := by obtain ⟨n, h, hw⟩ := fit_i h; exact ⟨n, h, wf_i64 hw⟩
theorem fit_int {cs : List C} (h : FitT (.int .i64) cs) : ∃ n, cs = intC n ∧ i64Ok n := fit_i64 h
theorem fit_byte {cs : List C} (h : FitT (.int .u8) cs) : ∃ n, cs = byteC n ∧ u8Ok n := by obtain ⟨n, h, hw⟩ := fit_i h; exact ⟨n, h, wf_u8 hw⟩
theorem fit_li {by_ : Nat} {cs : List C} (h : FitT (.slc 1 by_ (.int .i64)) cs) : ∃ l : List Int, cs = [.sl 1 (l.map intC)] ∧ (l.length * by_ ≤ reachBytes ∧ ∀ x ∈ l, i64Ok x) := fit_l (fun _ => fit_int) h
theorem fit_lb {by_ : Nat} {cs : List C} (h : FitT (.slc 1 by_ (.int .u8)) cs) : ∃ l : List Int, cs = [.sl 1 (l.map byteC)] ∧ (l.length * by_ ≤ reachBytes ∧ ∀ x ∈ l, u8Ok x) := fit_l (fun _ => fit_byte) h
def td_Vec : TD := .st [.int .i64, .int .i64, .int .i64, .int .i64, .int .i64]
structure Vec.Fits (x : Vec) : Prop where
  root : i64Ok x.root
  cost : i64Ok x.cost
  hops : i64Ok x.hops
  bridge : i64Ok x.bridge
  port : i64Ok x.port
theorem fit_Vec {cs : List C} (h : FitT td_Vec cs) : ∃ x : Vec, cs = x.cs ∧ x.Fits := by
  have H0 := fit_st h
  clear h
  obtain ⟨a0, r0, rfl, h0, H1⟩ := fits_cons H0
  clear H0
  obtain ⟨x0, rfl, g0⟩ := fit_i64 h0
  obtain ⟨a1, r1, rfl, h1, H2⟩ := fits_cons H1
  clear H1
  obtain ⟨x1, rfl, g1⟩ := fit_i64 h1
  obtain ⟨a2, r2, rfl, h2, H3⟩ := fits_cons H2
  clear H2
  obtain ⟨x2, rfl, g2⟩ := fit_i64 h2
  obtain ⟨a3, r3, rfl, h3, H4⟩ := fits_cons H3
  clear H3
  obtain ⟨x3, rfl, g3⟩ := fit_i64 h3
  obtain ⟨a4, r4, rfl, h4, H5⟩ := fits_cons H4
  clear H4
  obtain ⟨x4, rfl, g4⟩ := fit_i64 h4
  obtain rfl := fits_nil H5
  exact ⟨⟨x0, x1, x2, x3, x4⟩, rfl, ⟨g0, g1, g2, g3, g4⟩⟩
def td_Pt : TD := .st [.bool, .int .i64, .bool, td_Vec]
structure Pt.Fits (x : Pt) : Prop where
  up : True
  cost : i64Ok x.cost
  has : True
  heard : x.heard.Fits
theorem fit_Pt {cs : List C} (h : FitT td_Pt cs) : ∃ x : Pt, cs = x.cs ∧ x.Fits := by
  have H0 := fit_st h
  clear h
  obtain ⟨a0, r0, rfl, h0, H1⟩ := fits_cons H0
  clear H0
  obtain ⟨x0, rfl⟩ := fit_b h0
  obtain ⟨a1, r1, rfl, h1, H2⟩ := fits_cons H1
  clear H1
  obtain ⟨x1, rfl, g1⟩ := fit_i64 h1
  obtain ⟨a2, r2, rfl, h2, H3⟩ := fits_cons H2
  clear H2
  obtain ⟨x2, rfl⟩ := fit_b h2
  obtain ⟨a3, r3, rfl, h3, H4⟩ := fits_cons H3
  clear H3
  obtain ⟨x3, rfl, g3⟩ := fit_Vec h3
  obtain rfl := fits_nil H4
  exact ⟨⟨x0, x1, x2, x3⟩, rfl, ⟨trivial, g1, trivial, g3⟩⟩
def td_Fent : TD := .st [.int .i64, .int .i64, .int .i64, .int .i64, .bool]
structure Fent.Fits (x : Fent) : Prop where
  tag : i64Ok x.tag
  mac : i64Ok x.mac
  port : i64Ok x.port
  age : i64Ok x.age
  static : True
theorem fit_Fent {cs : List C} (h : FitT td_Fent cs) : ∃ x : Fent, cs = x.cs ∧ x.Fits := by
  have H0 := fit_st h
  clear h
  obtain ⟨a0, r0, rfl, h0, H1⟩ := fits_cons H0
  clear H0
  obtain ⟨x0, rfl, g0⟩ := fit_i64 h0
  obtain ⟨a1, r1, rfl, h1, H2⟩ := fits_cons H1
  clear H1
  obtain ⟨x1, rfl, g1⟩ := fit_i64 h1
  obtain ⟨a2, r2, rfl, h2, H3⟩ := fits_cons H2
  clear H2
  obtain ⟨x2, rfl, g2⟩ := fit_i64 h2
  obtain ⟨a3, r3, rfl, h3, H4⟩ := fits_cons H3
  clear H3
  obtain ⟨x3, rfl, g3⟩ := fit_i64 h3
  obtain ⟨a4, r4, rfl, h4, H5⟩ := fits_cons H4
  clear H4
  obtain ⟨x4, rfl⟩ := fit_b h4
  obtain rfl := fits_nil H5
  exact ⟨⟨x0, x1, x2, x3, x4⟩, rfl, ⟨g0, g1, g2, g3, trivial⟩⟩
def td_Vrow : TD := .st [.int .i64, .int .i64, .int .i64]
structure Vrow.Fits (x : Vrow) : Prop where
  id : i64Ok x.id
  members : i64Ok x.members
  bare : i64Ok x.bare
theorem fit_Vrow {cs : List C} (h : FitT td_Vrow cs) : ∃ x : Vrow, cs = x.cs ∧ x.Fits := by
  have H0 := fit_st h
  clear h
  obtain ⟨a0, r0, rfl, h0, H1⟩ := fits_cons H0
  clear H0
  obtain ⟨x0, rfl, g0⟩ := fit_i64 h0
  obtain ⟨a1, r1, rfl, h1, H2⟩ := fits_cons H1
  clear H1
  obtain ⟨x1, rfl, g1⟩ := fit_i64 h1
  obtain ⟨a2, r2, rfl, h2, H3⟩ := fits_cons H2
  clear H2
  obtain ⟨x2, rfl, g2⟩ := fit_i64 h2
  obtain rfl := fits_nil H3
  exact ⟨⟨x0, x1, x2⟩, rfl, ⟨g0, g1, g2⟩⟩
def td_Vtab : TD := .st [.slc 3 24 td_Vrow, .slc 1 8 (.int .i64)]
structure Vtab.Fits (x : Vtab) : Prop where
  rows : (x.rows.length * 24 ≤ reachBytes ∧ ∀ y ∈ x.rows, y.Fits)
  pvid : (x.pvid.length * 8 ≤ reachBytes ∧ ∀ y ∈ x.pvid, i64Ok y)
theorem fit_Vtab {cs : List C} (h : FitT td_Vtab cs) : ∃ x : Vtab, cs = x.cs ∧ x.Fits := by
  have H0 := fit_st h
  clear h
  obtain ⟨a0, r0, rfl, h0, H1⟩ := fits_cons H0
  clear H0
  obtain ⟨x0, rfl, g0⟩ := fit_l (fun _ => fit_Vrow) h0
  obtain ⟨a1, r1, rfl, h1, H2⟩ := fits_cons H1
  clear H1
  obtain ⟨x1, rfl, g1⟩ := fit_li h1
  obtain rfl := fits_nil H2
  exact ⟨⟨x0, x1⟩, rfl, ⟨g0, g1⟩⟩
def td_Bridge : TD := .st [.int .i64, .str, .slc 8 64 td_Pt, .slc 5 40 td_Fent, td_Vtab, .int .i64, .int .i64, .int .i64, .int .i64, .int .i64]
structure Bridge.Fits (x : Bridge) : Prop where
  id : i64Ok x.id
  name : x.name.size ≤ reachBytes
  ports : (x.ports.length * 64 ≤ reachBytes ∧ ∀ y ∈ x.ports, y.Fits)
  f : (x.f.length * 40 ≤ reachBytes ∧ ∀ y ∈ x.f, y.Fits)
  v : x.v.Fits
  ticks : i64Ok x.ticks
  parse : i64Ok x.parse
  word : i64Ok x.word
  drops : i64Ok x.drops
  vers : i64Ok x.vers
theorem fit_Bridge {cs : List C} (h : FitT td_Bridge cs) : ∃ x : Bridge, cs = x.cs ∧ x.Fits := by
  have H0 := fit_st h
  clear h
  obtain ⟨a0, r0, rfl, h0, H1⟩ := fits_cons H0
  clear H0
  obtain ⟨x0, rfl, g0⟩ := fit_i64 h0
  obtain ⟨a1, r1, rfl, h1, H2⟩ := fits_cons H1
  clear H1
  obtain ⟨x1, rfl, g1⟩ := fit_s h1
  obtain ⟨a2, r2, rfl, h2, H3⟩ := fits_cons H2
  clear H2
  obtain ⟨x2, rfl, g2⟩ := fit_l (fun _ => fit_Pt) h2
  obtain ⟨a3, r3, rfl, h3, H4⟩ := fits_cons H3
  clear H3
  obtain ⟨x3, rfl, g3⟩ := fit_l (fun _ => fit_Fent) h3
  obtain ⟨a4, r4, rfl, h4, H5⟩ := fits_cons H4
  clear H4
  obtain ⟨x4, rfl, g4⟩ := fit_Vtab h4
  obtain ⟨a5, r5, rfl, h5, H6⟩ := fits_cons H5
  clear H5
  obtain ⟨x5, rfl, g5⟩ := fit_i64 h5
  obtain ⟨a6, r6, rfl, h6, H7⟩ := fits_cons H6
  clear H6
  obtain ⟨x6, rfl, g6⟩ := fit_i64 h6
  obtain ⟨a7, r7, rfl, h7, H8⟩ := fits_cons H7
  clear H7
  obtain ⟨x7, rfl, g7⟩ := fit_i64 h7
  obtain ⟨a8, r8, rfl, h8, H9⟩ := fits_cons H8
  clear H8
  obtain ⟨x8, rfl, g8⟩ := fit_i64 h8
  obtain ⟨a9, r9, rfl, h9, H10⟩ := fits_cons H9
  clear H9
  obtain ⟨x9, rfl, g9⟩ := fit_i64 h9
  obtain rfl := fits_nil H10
  exact ⟨⟨x0, x1, x2, x3, x4, x5, x6, x7, x8, x9⟩, rfl, ⟨g0, g1, g2, g3, g4, g5, g6, g7, g8, g9⟩⟩
def td_Val : TD := .st [.int .i64, .int .i64, .str, .slc 1 8 (.int .i64)]
structure Val.Fits (x : Val) : Prop where
  k : i64Ok x.k
  n : i64Ok x.n
  s : x.s.size ≤ reachBytes
  o : (x.o.length * 8 ≤ reachBytes ∧ ∀ y ∈ x.o, i64Ok y)
theorem fit_Val {cs : List C} (h : FitT td_Val cs) : ∃ x : Val, cs = x.cs ∧ x.Fits := by
  have H0 := fit_st h
  clear h
  obtain ⟨a0, r0, rfl, h0, H1⟩ := fits_cons H0
  clear H0
  obtain ⟨x0, rfl, g0⟩ := fit_i64 h0
  obtain ⟨a1, r1, rfl, h1, H2⟩ := fits_cons H1
  clear H1
  obtain ⟨x1, rfl, g1⟩ := fit_i64 h1
  obtain ⟨a2, r2, rfl, h2, H3⟩ := fits_cons H2
  clear H2
  obtain ⟨x2, rfl, g2⟩ := fit_s h2
  obtain ⟨a3, r3, rfl, h3, H4⟩ := fits_cons H3
  clear H3
  obtain ⟨x3, rfl, g3⟩ := fit_li h3
  obtain rfl := fits_nil H4
  exact ⟨⟨x0, x1, x2, x3⟩, rfl, ⟨g0, g1, g2, g3⟩⟩
def td_Bnd : TD := .st [.slc 1 8 (.int .i64), td_Val]
structure Bnd.Fits (x : Bnd) : Prop where
  o : (x.o.length * 8 ≤ reachBytes ∧ ∀ y ∈ x.o, i64Ok y)
  v : x.v.Fits
theorem fit_Bnd {cs : List C} (h : FitT td_Bnd cs) : ∃ x : Bnd, cs = x.cs ∧ x.Fits := by
  have H0 := fit_st h
  clear h
  obtain ⟨a0, r0, rfl, h0, H1⟩ := fits_cons H0
  clear H0
  obtain ⟨x0, rfl, g0⟩ := fit_li h0
  obtain ⟨a1, r1, rfl, h1, H2⟩ := fits_cons H1
  clear H1
  obtain ⟨x1, rfl, g1⟩ := fit_Val h1
  obtain rfl := fits_nil H2
  exact ⟨⟨x0, x1⟩, rfl, ⟨g0, g1⟩⟩
def td_Pdu : TD := .st [.int .i64, .int .i64, .int .i64, .int .i64, .slc 5 80 td_Bnd]
structure Pdu.Fits (x : Pdu) : Prop where
  kind : i64Ok x.kind
  id : i64Ok x.id
  a : i64Ok x.a
  b : i64Ok x.b
  binds : (x.binds.length * 80 ≤ reachBytes ∧ ∀ y ∈ x.binds, y.Fits)
theorem fit_Pdu {cs : List C} (h : FitT td_Pdu cs) : ∃ x : Pdu, cs = x.cs ∧ x.Fits := by
  have H0 := fit_st h
  clear h
  obtain ⟨a0, r0, rfl, h0, H1⟩ := fits_cons H0
  clear H0
  obtain ⟨x0, rfl, g0⟩ := fit_i64 h0
  obtain ⟨a1, r1, rfl, h1, H2⟩ := fits_cons H1
  clear H1
  obtain ⟨x1, rfl, g1⟩ := fit_i64 h1
  obtain ⟨a2, r2, rfl, h2, H3⟩ := fits_cons H2
  clear H2
  obtain ⟨x2, rfl, g2⟩ := fit_i64 h2
  obtain ⟨a3, r3, rfl, h3, H4⟩ := fits_cons H3
  clear H3
  obtain ⟨x3, rfl, g3⟩ := fit_i64 h3
  obtain ⟨a4, r4, rfl, h4, H5⟩ := fits_cons H4
  clear H4
  obtain ⟨x4, rfl, g4⟩ := fit_l (fun _ => fit_Bnd) h4
  obtain rfl := fits_nil H5
  exact ⟨⟨x0, x1, x2, x3, x4⟩, rfl, ⟨g0, g1, g2, g3, g4⟩⟩
def td_Frame : TD := .st [.int .i64, .int .i64, .int .i64, .slc 1 1 (.int .u8)]
structure Frame.Fits (x : Frame) : Prop where
  dst : i64Ok x.dst
  src : i64Ok x.src
  tag : i64Ok x.tag
  data : (x.data.length * 1 ≤ reachBytes ∧ ∀ y ∈ x.data, u8Ok y)
theorem fit_Frame {cs : List C} (h : FitT td_Frame cs) : ∃ x : Frame, cs = x.cs ∧ x.Fits := by
  have H0 := fit_st h
  clear h
  obtain ⟨a0, r0, rfl, h0, H1⟩ := fits_cons H0
  clear H0
  obtain ⟨x0, rfl, g0⟩ := fit_i64 h0
  obtain ⟨a1, r1, rfl, h1, H2⟩ := fits_cons H1
  clear H1
  obtain ⟨x1, rfl, g1⟩ := fit_i64 h1
  obtain ⟨a2, r2, rfl, h2, H3⟩ := fits_cons H2
  clear H2
  obtain ⟨x2, rfl, g2⟩ := fit_i64 h2
  obtain ⟨a3, r3, rfl, h3, H4⟩ := fits_cons H3
  clear H3
  obtain ⟨x3, rfl, g3⟩ := fit_lb h3
  obtain rfl := fits_nil H4
  exact ⟨⟨x0, x1, x2, x3⟩, rfl, ⟨g0, g1, g2, g3⟩⟩
def td_Outp : TD := .st [.int .i64, td_Frame]
structure Outp.Fits (x : Outp) : Prop where
  port : i64Ok x.port
  f : x.f.Fits
theorem fit_Outp {cs : List C} (h : FitT td_Outp cs) : ∃ x : Outp, cs = x.cs ∧ x.Fits := by
  have H0 := fit_st h
  clear h
  obtain ⟨a0, r0, rfl, h0, H1⟩ := fits_cons H0
  clear H0
  obtain ⟨x0, rfl, g0⟩ := fit_i64 h0
  obtain ⟨a1, r1, rfl, h1, H2⟩ := fits_cons H1
  clear H1
  obtain ⟨x1, rfl, g1⟩ := fit_Frame h1
  obtain rfl := fits_nil H2
  exact ⟨⟨x0, x1⟩, rfl, ⟨g0, g1⟩⟩
def td_Got : TD := .st [.int .i64, .int .i64, td_Frame]
structure Got.Fits (x : Got) : Prop where
  b : i64Ok x.b
  p : i64Ok x.p
  f : x.f.Fits
theorem fit_Got {cs : List C} (h : FitT td_Got cs) : ∃ x : Got, cs = x.cs ∧ x.Fits := by
  have H0 := fit_st h
  clear h
  obtain ⟨a0, r0, rfl, h0, H1⟩ := fits_cons H0
  clear H0
  obtain ⟨x0, rfl, g0⟩ := fit_i64 h0
  obtain ⟨a1, r1, rfl, h1, H2⟩ := fits_cons H1
  clear H1
  obtain ⟨x1, rfl, g1⟩ := fit_i64 h1
  obtain ⟨a2, r2, rfl, h2, H3⟩ := fits_cons H2
  clear H2
  obtain ⟨x2, rfl, g2⟩ := fit_Frame h2
  obtain rfl := fits_nil H3
  exact ⟨⟨x0, x1, x2⟩, rfl, ⟨g0, g1, g2⟩⟩
def td_Done : TD := .st [.int .i64, td_Pdu]
structure Done.Fits (x : Done) : Prop where
  id : i64Ok x.id
  p : x.p.Fits
theorem fit_Done {cs : List C} (h : FitT td_Done cs) : ∃ x : Done, cs = x.cs ∧ x.Fits := by
  have H0 := fit_st h
  clear h
  obtain ⟨a0, r0, rfl, h0, H1⟩ := fits_cons H0
  clear H0
  obtain ⟨x0, rfl, g0⟩ := fit_i64 h0
  obtain ⟨a1, r1, rfl, h1, H2⟩ := fits_cons H1
  clear H1
  obtain ⟨x1, rfl, g1⟩ := fit_Pdu h1
  obtain rfl := fits_nil H2
  exact ⟨⟨x0, x1⟩, rfl, ⟨g0, g1⟩⟩
def td_Job : TD := .st [.int .i64, .slc 1 1 (.int .u8), .int .i64, td_Pdu, td_Bridge, .int .i64, .int .i64]
structure Job.Fits (x : Job) : Prop where
  id : i64Ok x.id
  b : (x.b.length * 1 ≤ reachBytes ∧ ∀ y ∈ x.b, u8Ok y)
  phase : i64Ok x.phase
  p : x.p.Fits
  snap : x.snap.Fits
  pos : i64Ok x.pos
  tries : i64Ok x.tries
theorem fit_Job {cs : List C} (h : FitT td_Job cs) : ∃ x : Job, cs = x.cs ∧ x.Fits := by
  have H0 := fit_st h
  clear h
  obtain ⟨a0, r0, rfl, h0, H1⟩ := fits_cons H0
  clear H0
  obtain ⟨x0, rfl, g0⟩ := fit_i64 h0
  obtain ⟨a1, r1, rfl, h1, H2⟩ := fits_cons H1
  clear H1
  obtain ⟨x1, rfl, g1⟩ := fit_lb h1
  obtain ⟨a2, r2, rfl, h2, H3⟩ := fits_cons H2
  clear H2
  obtain ⟨x2, rfl, g2⟩ := fit_i64 h2
  obtain ⟨a3, r3, rfl, h3, H4⟩ := fits_cons H3
  clear H3
  obtain ⟨x3, rfl, g3⟩ := fit_Pdu h3
  obtain ⟨a4, r4, rfl, h4, H5⟩ := fits_cons H4
  clear H4
  obtain ⟨x4, rfl, g4⟩ := fit_Bridge h4
  obtain ⟨a5, r5, rfl, h5, H6⟩ := fits_cons H5
  clear H5
  obtain ⟨x5, rfl, g5⟩ := fit_i64 h5
  obtain ⟨a6, r6, rfl, h6, H7⟩ := fits_cons H6
  clear H6
  obtain ⟨x6, rfl, g6⟩ := fit_i64 h6
  obtain rfl := fits_nil H7
  exact ⟨⟨x0, x1, x2, x3, x4, x5, x6⟩, rfl, ⟨g0, g1, g2, g3, g4, g5, g6⟩⟩
def td_Agent : TD := .st [td_Bridge, .str, .slc 21 272 td_Job, .int .i64, .int .i64]
structure Agent.Fits (x : Agent) : Prop where
  b : x.b.Fits
  word : x.word.size ≤ reachBytes
  jobs : (x.jobs.length * 272 ≤ reachBytes ∧ ∀ y ∈ x.jobs, y.Fits)
  lost : i64Ok x.lost
  last : i64Ok x.last
theorem fit_Agent {cs : List C} (h : FitT td_Agent cs) : ∃ x : Agent, cs = x.cs ∧ x.Fits := by
  have H0 := fit_st h
  clear h
  obtain ⟨a0, r0, rfl, h0, H1⟩ := fits_cons H0
  clear H0
  obtain ⟨x0, rfl, g0⟩ := fit_Bridge h0
  obtain ⟨a1, r1, rfl, h1, H2⟩ := fits_cons H1
  clear H1
  obtain ⟨x1, rfl, g1⟩ := fit_s h1
  obtain ⟨a2, r2, rfl, h2, H3⟩ := fits_cons H2
  clear H2
  obtain ⟨x2, rfl, g2⟩ := fit_l (fun _ => fit_Job) h2
  obtain ⟨a3, r3, rfl, h3, H4⟩ := fits_cons H3
  clear H3
  obtain ⟨x3, rfl, g3⟩ := fit_i64 h3
  obtain ⟨a4, r4, rfl, h4, H5⟩ := fits_cons H4
  clear H4
  obtain ⟨x4, rfl, g4⟩ := fit_i64 h4
  obtain rfl := fits_nil H5
  exact ⟨⟨x0, x1, x2, x3, x4⟩, rfl, ⟨g0, g1, g2, g3, g4⟩⟩
def td_Link : TD := .st [.int .i64, .int .i64, .int .i64, .int .i64]
structure Link.Fits (x : Link) : Prop where
  a : i64Ok x.a
  p : i64Ok x.p
  b : i64Ok x.b
  q : i64Ok x.q
theorem fit_Link {cs : List C} (h : FitT td_Link cs) : ∃ x : Link, cs = x.cs ∧ x.Fits := by
  have H0 := fit_st h
  clear h
  obtain ⟨a0, r0, rfl, h0, H1⟩ := fits_cons H0
  clear H0
  obtain ⟨x0, rfl, g0⟩ := fit_i64 h0
  obtain ⟨a1, r1, rfl, h1, H2⟩ := fits_cons H1
  clear H1
  obtain ⟨x1, rfl, g1⟩ := fit_i64 h1
  obtain ⟨a2, r2, rfl, h2, H3⟩ := fits_cons H2
  clear H2
  obtain ⟨x2, rfl, g2⟩ := fit_i64 h2
  obtain ⟨a3, r3, rfl, h3, H4⟩ := fits_cons H3
  clear H3
  obtain ⟨x3, rfl, g3⟩ := fit_i64 h3
  obtain rfl := fits_nil H4
  exact ⟨⟨x0, x1, x2, x3⟩, rfl, ⟨g0, g1, g2, g3⟩⟩
def td_Say : TD := .st [.int .i64, .bool, td_Vec]
structure Say.Fits (x : Say) : Prop where
  link : i64Ok x.link
  back : True
  v : x.v.Fits
theorem fit_Say {cs : List C} (h : FitT td_Say cs) : ∃ x : Say, cs = x.cs ∧ x.Fits := by
  have H0 := fit_st h
  clear h
  obtain ⟨a0, r0, rfl, h0, H1⟩ := fits_cons H0
  clear H0
  obtain ⟨x0, rfl, g0⟩ := fit_i64 h0
  obtain ⟨a1, r1, rfl, h1, H2⟩ := fits_cons H1
  clear H1
  obtain ⟨x1, rfl⟩ := fit_b h1
  obtain ⟨a2, r2, rfl, h2, H3⟩ := fits_cons H2
  clear H2
  obtain ⟨x2, rfl, g2⟩ := fit_Vec h2
  obtain rfl := fits_nil H3
  exact ⟨⟨x0, x1, x2⟩, rfl, ⟨g0, trivial, g2⟩⟩
def td_Net : TD := .st [.slc 11 160 td_Bridge, .slc 4 32 td_Link, .slc 7 56 td_Say]
structure Net.Fits (x : Net) : Prop where
  bridges : (x.bridges.length * 160 ≤ reachBytes ∧ ∀ y ∈ x.bridges, y.Fits)
  links : (x.links.length * 32 ≤ reachBytes ∧ ∀ y ∈ x.links, y.Fits)
  said : (x.said.length * 56 ≤ reachBytes ∧ ∀ y ∈ x.said, y.Fits)
theorem fit_Net {cs : List C} (h : FitT td_Net cs) : ∃ x : Net, cs = x.cs ∧ x.Fits := by
  have H0 := fit_st h
  clear h
  obtain ⟨a0, r0, rfl, h0, H1⟩ := fits_cons H0
  clear H0
  obtain ⟨x0, rfl, g0⟩ := fit_l (fun _ => fit_Bridge) h0
  obtain ⟨a1, r1, rfl, h1, H2⟩ := fits_cons H1
  clear H1
  obtain ⟨x1, rfl, g1⟩ := fit_l (fun _ => fit_Link) h1
  obtain ⟨a2, r2, rfl, h2, H3⟩ := fits_cons H2
  clear H2
  obtain ⟨x2, rfl, g2⟩ := fit_l (fun _ => fit_Say) h2
  obtain rfl := fits_nil H3
  exact ⟨⟨x0, x1, x2⟩, rfl, ⟨g0, g1, g2⟩⟩
end Go.Ev
