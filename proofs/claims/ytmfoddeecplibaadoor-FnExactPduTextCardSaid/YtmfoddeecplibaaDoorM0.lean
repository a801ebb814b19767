/- The things that the program speaks of, as rows of cells. -/
import Derived.Test.YtmfoddeecplibaaDoorEN
set_option linter.unusedVariables false
set_option linter.unusedSimpArgs false
namespace Go.Ev
@[go_sem] theorem ba_empty : ByteArray.empty = ⟨#[]⟩ := rfl
@[go_sem] def intC (n : Int) : List C := [.lit (.int .i64 n)]
@[go_sem] def byteC (n : Int) : List C := [.lit (.int .u8 n)]
@[go_sem] def strC (s : ByteArray) : List C := [.lit (.string s)]
@[go_sem] def boolC (s : Bool) : List C := [.lit (.bool s)]
@[go_sem] def intsC (o : List Int) : List C := [.sl 1 (o.map intC)]
theorem wide_int (l : List Int) : WideL 1 (l.map intC) = True := WideL_map (f := intC) (fun _ => rfl) l
theorem still_int (l : List Int) : Still (l.map intC) := Still.map (f := intC) (fun _ => rfl) l
theorem frz_int {d : Nat} {h : Hp} (l : List Int) : mapO (mapO (frzC d h)) (l.map intC) = some (l.map intC) := mapO_still (still_int l)
attribute [go_sem] wide_int frz_int
theorem wide_byte (l : List Int) : WideL 1 (l.map byteC) = True := WideL_map (f := byteC) (fun _ => rfl) l
theorem still_byte (l : List Int) : Still (l.map byteC) := Still.map (f := byteC) (fun _ => rfl) l
theorem frz_byte {d : Nat} {h : Hp} (l : List Int) : mapO (mapO (frzC d h)) (l.map byteC) = some (l.map byteC) := mapO_still (still_byte l)
attribute [go_sem] wide_byte frz_byte
theorem wide_str (l : List ByteArray) : WideL 1 (l.map strC) = True := WideL_map (f := strC) (fun _ => rfl) l
theorem still_str (l : List ByteArray) : Still (l.map strC) := Still.map (f := strC) (fun _ => rfl) l
theorem frz_str {d : Nat} {h : Hp} (l : List ByteArray) : mapO (mapO (frzC d h)) (l.map strC) = some (l.map strC) := mapO_still (still_str l)
attribute [go_sem] wide_str frz_str
theorem wide_bool (l : List Bool) : WideL 1 (l.map boolC) = True := WideL_map (f := boolC) (fun _ => rfl) l
theorem still_bool (l : List Bool) : Still (l.map boolC) := Still.map (f := boolC) (fun _ => rfl) l
theorem frz_bool {d : Nat} {h : Hp} (l : List Bool) : mapO (mapO (frzC d h)) (l.map boolC) = some (l.map boolC) := mapO_still (still_bool l)
attribute [go_sem] wide_bool frz_bool
theorem wide_ints (l : List (List Int)) : WideL 1 (l.map intsC) = True := WideL_map (f := intsC) (fun _ => rfl) l
theorem still_ints (l : List (List Int)) : Still (l.map intsC) := Still.map (f := intsC) (fun _ => rfl) l
theorem frz_ints {d : Nat} {h : Hp} (l : List (List Int)) : mapO (mapO (frzC d h)) (l.map intsC) = some (l.map intsC) := mapO_still (still_ints l)
attribute [go_sem] wide_ints frz_ints
theorem nrmrows_ints {d : Nat} (l : List (List Int)) : (l.map intsC).map (zipSh (nrmC (d + 1)) [.slc 1 [.leaf]]) = l.map intsC := map_same (f := intsC) (fun x => rfl) l
structure Vec where
  root : Int
  cost : Int
  hops : Int
  bridge : Int
  port : Int
@[go_sem] def Vec.cs (x : Vec) : List C := [.lit (.int .i64 x.root), .lit (.int .i64 x.cost), .lit (.int .i64 x.hops), .lit (.int .i64 x.bridge), .lit (.int .i64 x.port)]
@[go_sem] theorem Vec_eta (x : Vec) : (⟨x.root, x.cost, x.hops, x.bridge, x.port⟩ : Vec) = x := rfl
theorem wide_Vec (l : List Vec) : WideL 5 (l.map Vec.cs) = True := WideL_map (f := Vec.cs) (fun _ => rfl) l
theorem still_Vec (l : List Vec) : Still (l.map Vec.cs) := Still.map (f := Vec.cs) (fun _ => rfl) l
theorem frz_Vec {d : Nat} {h : Hp} (l : List Vec) : mapO (mapO (frzC d h)) (l.map Vec.cs) = some (l.map Vec.cs) := mapO_still (still_Vec l)
attribute [go_sem] wide_Vec frz_Vec
structure Pt where
  up : Bool
  cost : Int
  has : Bool
  heard : Vec
@[go_sem] def Pt.cs (x : Pt) : List C := [.lit (.bool x.up), .lit (.int .i64 x.cost), .lit (.bool x.has), .lit (.int .i64 x.heard.root), .lit (.int .i64 x.heard.cost), .lit (.int .i64 x.heard.hops), .lit (.int .i64 x.heard.bridge), .lit (.int .i64 x.heard.port)]
@[go_sem] theorem Pt_eta (x : Pt) : (⟨x.up, x.cost, x.has, x.heard⟩ : Pt) = x := rfl
theorem wide_Pt (l : List Pt) : WideL 8 (l.map Pt.cs) = True := WideL_map (f := Pt.cs) (fun _ => rfl) l
theorem still_Pt (l : List Pt) : Still (l.map Pt.cs) := Still.map (f := Pt.cs) (fun _ => rfl) l
theorem frz_Pt {d : Nat} {h : Hp} (l : List Pt) : mapO (mapO (frzC d h)) (l.map Pt.cs) = some (l.map Pt.cs) := mapO_still (still_Pt l)
attribute [go_sem] wide_Pt frz_Pt
structure Fent where
  tag : Int
  mac : Int
  port : Int
  age : Int
  static : Bool
@[go_sem] def Fent.cs (x : Fent) : List C := [.lit (.int .i64 x.tag), .lit (.int .i64 x.mac), .lit (.int .i64 x.port), .lit (.int .i64 x.age), .lit (.bool x.static)]
@[go_sem] theorem Fent_eta (x : Fent) : (⟨x.tag, x.mac, x.port, x.age, x.static⟩ : Fent) = x := rfl
theorem wide_Fent (l : List Fent) : WideL 5 (l.map Fent.cs) = True := WideL_map (f := Fent.cs) (fun _ => rfl) l
theorem still_Fent (l : List Fent) : Still (l.map Fent.cs) := Still.map (f := Fent.cs) (fun _ => rfl) l
theorem frz_Fent {d : Nat} {h : Hp} (l : List Fent) : mapO (mapO (frzC d h)) (l.map Fent.cs) = some (l.map Fent.cs) := mapO_still (still_Fent l)
attribute [go_sem] wide_Fent frz_Fent
structure Vrow where
  id : Int
  members : Int
  bare : Int
@[go_sem] def Vrow.cs (x : Vrow) : List C := [.lit (.int .i64 x.id), .lit (.int .i64 x.members), .lit (.int .i64 x.bare)]
@[go_sem] theorem Vrow_eta (x : Vrow) : (⟨x.id, x.members, x.bare⟩ : Vrow) = x := rfl
theorem wide_Vrow (l : List Vrow) : WideL 3 (l.map Vrow.cs) = True := WideL_map (f := Vrow.cs) (fun _ => rfl) l
theorem still_Vrow (l : List Vrow) : Still (l.map Vrow.cs) := Still.map (f := Vrow.cs) (fun _ => rfl) l
theorem frz_Vrow {d : Nat} {h : Hp} (l : List Vrow) : mapO (mapO (frzC d h)) (l.map Vrow.cs) = some (l.map Vrow.cs) := mapO_still (still_Vrow l)
attribute [go_sem] wide_Vrow frz_Vrow
structure Vtab where
  rows : List Vrow
  pvid : List Int
@[go_sem] def Vtab.cs (x : Vtab) : List C := [.sl 3 (x.rows.map Vrow.cs), .sl 1 (x.pvid.map intC)]
@[go_sem] theorem Vtab_eta (x : Vtab) : (⟨x.rows, x.pvid⟩ : Vtab) = x := rfl
theorem wide_Vtab (l : List Vtab) : WideL 2 (l.map Vtab.cs) = True := WideL_map (f := Vtab.cs) (fun _ => rfl) l
theorem still_Vtab (l : List Vtab) : Still (l.map Vtab.cs) := Still.map (f := Vtab.cs) (fun _ => rfl) l
theorem frz_Vtab {d : Nat} {h : Hp} (l : List Vtab) : mapO (mapO (frzC d h)) (l.map Vtab.cs) = some (l.map Vtab.cs) := mapO_still (still_Vtab l)
attribute [go_sem] wide_Vtab frz_Vtab
theorem nrmrows_Vtab {d : Nat} (l : List Vtab) : (l.map Vtab.cs).map (zipSh (nrmC (d + 1)) [.slc 3 [.leaf, .leaf, .leaf], .slc 1 [.leaf]]) = l.map Vtab.cs := map_same (f := Vtab.cs) (fun x => by simp only [Vtab.cs, zipSh_cons, zipSh_nil, nrmC_leaf, nrmC_sl, flat_leaf, flat_slc, List.all_cons, List.all_nil, Bool.and_true, Bool.and_self, Bool.and_false, Bool.false_and, Bool.false_eq_true, ↓reduceIte]) l
attribute [go_sem] nrmrows_Vtab
structure Bridge where
  id : Int
  name : ByteArray
  ports : List Pt
  f : List Fent
  v : Vtab
  ticks : Int
  parse : Int
  word : Int
  drops : Int
  vers : Int
@[go_sem] def Bridge.cs (x : Bridge) : List C := [.lit (.int .i64 x.id), .lit (.string x.name), .sl 8 (x.ports.map Pt.cs), .sl 5 (x.f.map Fent.cs), .sl 3 (x.v.rows.map Vrow.cs), .sl 1 (x.v.pvid.map intC), .lit (.int .i64 x.ticks), .lit (.int .i64 x.parse), .lit (.int .i64 x.word), .lit (.int .i64 x.drops), .lit (.int .i64 x.vers)]
@[go_sem] theorem Bridge_eta (x : Bridge) : (⟨x.id, x.name, x.ports, x.f, x.v, x.ticks, x.parse, x.word, x.drops, x.vers⟩ : Bridge) = x := rfl
theorem wide_Bridge (l : List Bridge) : WideL 11 (l.map Bridge.cs) = True := WideL_map (f := Bridge.cs) (fun _ => rfl) l
theorem still_Bridge (l : List Bridge) : Still (l.map Bridge.cs) := Still.map (f := Bridge.cs) (fun _ => rfl) l
theorem frz_Bridge {d : Nat} {h : Hp} (l : List Bridge) : mapO (mapO (frzC d h)) (l.map Bridge.cs) = some (l.map Bridge.cs) := mapO_still (still_Bridge l)
attribute [go_sem] wide_Bridge frz_Bridge
theorem nrmrows_Bridge {d : Nat} (l : List Bridge) : (l.map Bridge.cs).map (zipSh (nrmC (d + 1)) [.leaf, .leaf, .slc 8 [.leaf, .leaf, .leaf, .leaf, .leaf, .leaf, .leaf, .leaf], .slc 5 [.leaf, .leaf, .leaf, .leaf, .leaf], .slc 3 [.leaf, .leaf, .leaf], .slc 1 [.leaf], .leaf, .leaf, .leaf, .leaf, .leaf]) = l.map Bridge.cs := map_same (f := Bridge.cs) (fun x => by simp only [Bridge.cs, zipSh_cons, zipSh_nil, nrmC_leaf, nrmC_sl, flat_leaf, flat_slc, List.all_cons, List.all_nil, Bool.and_true, Bool.and_self, Bool.and_false, Bool.false_and, Bool.false_eq_true, ↓reduceIte]) l
attribute [go_sem] nrmrows_Bridge
structure Val where
  k : Int
  n : Int
  s : ByteArray
  o : List Int
@[go_sem] def Val.cs (x : Val) : List C := [.lit (.int .i64 x.k), .lit (.int .i64 x.n), .lit (.string x.s), .sl 1 (x.o.map intC)]
@[go_sem] theorem Val_eta (x : Val) : (⟨x.k, x.n, x.s, x.o⟩ : Val) = x := rfl
theorem wide_Val (l : List Val) : WideL 4 (l.map Val.cs) = True := WideL_map (f := Val.cs) (fun _ => rfl) l
theorem still_Val (l : List Val) : Still (l.map Val.cs) := Still.map (f := Val.cs) (fun _ => rfl) l
theorem frz_Val {d : Nat} {h : Hp} (l : List Val) : mapO (mapO (frzC d h)) (l.map Val.cs) = some (l.map Val.cs) := mapO_still (still_Val l)
attribute [go_sem] wide_Val frz_Val
theorem nrmrows_Val {d : Nat} (l : List Val) : (l.map Val.cs).map (zipSh (nrmC (d + 1)) [.leaf, .leaf, .leaf, .slc 1 [.leaf]]) = l.map Val.cs := map_same (f := Val.cs) (fun x => by simp only [Val.cs, zipSh_cons, zipSh_nil, nrmC_leaf, nrmC_sl, flat_leaf, flat_slc, List.all_cons, List.all_nil, Bool.and_true, Bool.and_self, Bool.and_false, Bool.false_and, Bool.false_eq_true, ↓reduceIte]) l
attribute [go_sem] nrmrows_Val
structure Bnd where
  o : List Int
  v : Val
@[go_sem] def Bnd.cs (x : Bnd) : List C := [.sl 1 (x.o.map intC), .lit (.int .i64 x.v.k), .lit (.int .i64 x.v.n), .lit (.string x.v.s), .sl 1 (x.v.o.map intC)]
@[go_sem] theorem Bnd_eta (x : Bnd) : (⟨x.o, x.v⟩ : Bnd) = x := rfl
theorem wide_Bnd (l : List Bnd) : WideL 5 (l.map Bnd.cs) = True := WideL_map (f := Bnd.cs) (fun _ => rfl) l
theorem still_Bnd (l : List Bnd) : Still (l.map Bnd.cs) := Still.map (f := Bnd.cs) (fun _ => rfl) l
theorem frz_Bnd {d : Nat} {h : Hp} (l : List Bnd) : mapO (mapO (frzC d h)) (l.map Bnd.cs) = some (l.map Bnd.cs) := mapO_still (still_Bnd l)
attribute [go_sem] wide_Bnd frz_Bnd
theorem nrmrows_Bnd {d : Nat} (l : List Bnd) : (l.map Bnd.cs).map (zipSh (nrmC (d + 1)) [.slc 1 [.leaf], .leaf, .leaf, .leaf, .slc 1 [.leaf]]) = l.map Bnd.cs := map_same (f := Bnd.cs) (fun x => by simp only [Bnd.cs, zipSh_cons, zipSh_nil, nrmC_leaf, nrmC_sl, flat_leaf, flat_slc, List.all_cons, List.all_nil, Bool.and_true, Bool.and_self, Bool.and_false, Bool.false_and, Bool.false_eq_true, ↓reduceIte]) l
attribute [go_sem] nrmrows_Bnd
structure Pdu where
  kind : Int
  id : Int
  a : Int
  b : Int
  binds : List Bnd
@[go_sem] def Pdu.cs (x : Pdu) : List C := [.lit (.int .i64 x.kind), .lit (.int .i64 x.id), .lit (.int .i64 x.a), .lit (.int .i64 x.b), .sl 5 (x.binds.map Bnd.cs)]
@[go_sem] theorem Pdu_eta (x : Pdu) : (⟨x.kind, x.id, x.a, x.b, x.binds⟩ : Pdu) = x := rfl
theorem wide_Pdu (l : List Pdu) : WideL 5 (l.map Pdu.cs) = True := WideL_map (f := Pdu.cs) (fun _ => rfl) l
theorem still_Pdu (l : List Pdu) : Still (l.map Pdu.cs) := Still.map (f := Pdu.cs) (fun _ => rfl) l
theorem frz_Pdu {d : Nat} {h : Hp} (l : List Pdu) : mapO (mapO (frzC d h)) (l.map Pdu.cs) = some (l.map Pdu.cs) := mapO_still (still_Pdu l)
attribute [go_sem] wide_Pdu frz_Pdu
theorem nrmrows_Pdu {d : Nat} (l : List Pdu) : (l.map Pdu.cs).map (zipSh (nrmC (d + 2)) [.leaf, .leaf, .leaf, .leaf, .slc 5 [.slc 1 [.leaf], .leaf, .leaf, .leaf, .slc 1 [.leaf]]]) = l.map Pdu.cs := map_same (f := Pdu.cs) (fun x => by simp only [Pdu.cs, zipSh_cons, zipSh_nil, nrmC_leaf, nrmC_sl, flat_leaf, flat_slc, List.all_cons, List.all_nil, Bool.and_true, Bool.and_self, Bool.and_false, Bool.false_and, Bool.false_eq_true, ↓reduceIte, nrmrows_Bnd]) l
attribute [go_sem] nrmrows_Pdu
structure Frame where
  dst : Int
  src : Int
  tag : Int
  data : List Int
@[go_sem] def Frame.cs (x : Frame) : List C := [.lit (.int .i64 x.dst), .lit (.int .i64 x.src), .lit (.int .i64 x.tag), .sl 1 (x.data.map byteC)]
@[go_sem] theorem Frame_eta (x : Frame) : (⟨x.dst, x.src, x.tag, x.data⟩ : Frame) = x := rfl
theorem wide_Frame (l : List Frame) : WideL 4 (l.map Frame.cs) = True := WideL_map (f := Frame.cs) (fun _ => rfl) l
theorem still_Frame (l : List Frame) : Still (l.map Frame.cs) := Still.map (f := Frame.cs) (fun _ => rfl) l
theorem frz_Frame {d : Nat} {h : Hp} (l : List Frame) : mapO (mapO (frzC d h)) (l.map Frame.cs) = some (l.map Frame.cs) := mapO_still (still_Frame l)
attribute [go_sem] wide_Frame frz_Frame
theorem nrmrows_Frame {d : Nat} (l : List Frame) : (l.map Frame.cs).map (zipSh (nrmC (d + 1)) [.leaf, .leaf, .leaf, .slc 1 [.leaf]]) = l.map Frame.cs := map_same (f := Frame.cs) (fun x => by simp only [Frame.cs, zipSh_cons, zipSh_nil, nrmC_leaf, nrmC_sl, flat_leaf, flat_slc, List.all_cons, List.all_nil, Bool.and_true, Bool.and_self, Bool.and_false, Bool.false_and, Bool.false_eq_true, ↓reduceIte]) l
attribute [go_sem] nrmrows_Frame
structure Outp where
  port : Int
  f : Frame
@[go_sem] def Outp.cs (x : Outp) : List C := [.lit (.int .i64 x.port), .lit (.int .i64 x.f.dst), .lit (.int .i64 x.f.src), .lit (.int .i64 x.f.tag), .sl 1 (x.f.data.map byteC)]
@[go_sem] theorem Outp_eta (x : Outp) : (⟨x.port, x.f⟩ : Outp) = x := rfl
theorem wide_Outp (l : List Outp) : WideL 5 (l.map Outp.cs) = True := WideL_map (f := Outp.cs) (fun _ => rfl) l
theorem still_Outp (l : List Outp) : Still (l.map Outp.cs) := Still.map (f := Outp.cs) (fun _ => rfl) l
theorem frz_Outp {d : Nat} {h : Hp} (l : List Outp) : mapO (mapO (frzC d h)) (l.map Outp.cs) = some (l.map Outp.cs) := mapO_still (still_Outp l)
attribute [go_sem] wide_Outp frz_Outp
theorem nrmrows_Outp {d : Nat} (l : List Outp) : (l.map Outp.cs).map (zipSh (nrmC (d + 1)) [.leaf, .leaf, .leaf, .leaf, .slc 1 [.leaf]]) = l.map Outp.cs := map_same (f := Outp.cs) (fun x => by simp only [Outp.cs, zipSh_cons, zipSh_nil, nrmC_leaf, nrmC_sl, flat_leaf, flat_slc, List.all_cons, List.all_nil, Bool.and_true, Bool.and_self, Bool.and_false, Bool.false_and, Bool.false_eq_true, ↓reduceIte]) l
attribute [go_sem] nrmrows_Outp
structure Got where
  b : Int
  p : Int
  f : Frame
@[go_sem] def Got.cs (x : Got) : List C := [.lit (.int .i64 x.b), .lit (.int .i64 x.p), .lit (.int .i64 x.f.dst), .lit (.int .i64 x.f.src), .lit (.int .i64 x.f.tag), .sl 1 (x.f.data.map byteC)]
@[go_sem] theorem Got_eta (x : Got) : (⟨x.b, x.p, x.f⟩ : Got) = x := rfl
theorem wide_Got (l : List Got) : WideL 6 (l.map Got.cs) = True := WideL_map (f := Got.cs) (fun _ => rfl) l
theorem still_Got (l : List Got) : Still (l.map Got.cs) := Still.map (f := Got.cs) (fun _ => rfl) l
theorem frz_Got {d : Nat} {h : Hp} (l : List Got) : mapO (mapO (frzC d h)) (l.map Got.cs) = some (l.map Got.cs) := mapO_still (still_Got l)
attribute [go_sem] wide_Got frz_Got
theorem nrmrows_Got {d : Nat} (l : List Got) : (l.map Got.cs).map (zipSh (nrmC (d + 1)) [.leaf, .leaf, .leaf, .leaf, .leaf, .slc 1 [.leaf]]) = l.map Got.cs := map_same (f := Got.cs) (fun x => by simp only [Got.cs, zipSh_cons, zipSh_nil, nrmC_leaf, nrmC_sl, flat_leaf, flat_slc, List.all_cons, List.all_nil, Bool.and_true, Bool.and_self, Bool.and_false, Bool.false_and, Bool.false_eq_true, ↓reduceIte]) l
attribute [go_sem] nrmrows_Got
structure Done where
  id : Int
  p : Pdu
@[go_sem] def Done.cs (x : Done) : List C := [.lit (.int .i64 x.id), .lit (.int .i64 x.p.kind), .lit (.int .i64 x.p.id), .lit (.int .i64 x.p.a), .lit (.int .i64 x.p.b), .sl 5 (x.p.binds.map Bnd.cs)]
@[go_sem] theorem Done_eta (x : Done) : (⟨x.id, x.p⟩ : Done) = x := rfl
theorem wide_Done (l : List Done) : WideL 6 (l.map Done.cs) = True := WideL_map (f := Done.cs) (fun _ => rfl) l
theorem still_Done (l : List Done) : Still (l.map Done.cs) := Still.map (f := Done.cs) (fun _ => rfl) l
theorem frz_Done {d : Nat} {h : Hp} (l : List Done) : mapO (mapO (frzC d h)) (l.map Done.cs) = some (l.map Done.cs) := mapO_still (still_Done l)
attribute [go_sem] wide_Done frz_Done
theorem nrmrows_Done {d : Nat} (l : List Done) : (l.map Done.cs).map (zipSh (nrmC (d + 2)) [.leaf, .leaf, .leaf, .leaf, .leaf, .slc 5 [.slc 1 [.leaf], .leaf, .leaf, .leaf, .slc 1 [.leaf]]]) = l.map Done.cs := map_same (f := Done.cs) (fun x => by simp only [Done.cs, zipSh_cons, zipSh_nil, nrmC_leaf, nrmC_sl, flat_leaf, flat_slc, List.all_cons, List.all_nil, Bool.and_true, Bool.and_self, Bool.and_false, Bool.false_and, Bool.false_eq_true, ↓reduceIte, nrmrows_Bnd]) l
attribute [go_sem] nrmrows_Done
structure Job where
  id : Int
  b : List Int
  phase : Int
  p : Pdu
  snap : Bridge
  pos : Int
  tries : Int
@[go_sem] def Job.cs (x : Job) : List C := [.lit (.int .i64 x.id), .sl 1 (x.b.map byteC), .lit (.int .i64 x.phase), .lit (.int .i64 x.p.kind), .lit (.int .i64 x.p.id), .lit (.int .i64 x.p.a), .lit (.int .i64 x.p.b), .sl 5 (x.p.binds.map Bnd.cs), .lit (.int .i64 x.snap.id), .lit (.string x.snap.name), .sl 8 (x.snap.ports.map Pt.cs), .sl 5 (x.snap.f.map Fent.cs), .sl 3 (x.snap.v.rows.map Vrow.cs), .sl 1 (x.snap.v.pvid.map intC), .lit (.int .i64 x.snap.ticks), .lit (.int .i64 x.snap.parse), .lit (.int .i64 x.snap.word), .lit (.int .i64 x.snap.drops), .lit (.int .i64 x.snap.vers), .lit (.int .i64 x.pos), .lit (.int .i64 x.tries)]
@[go_sem] theorem Job_eta (x : Job) : (⟨x.id, x.b, x.phase, x.p, x.snap, x.pos, x.tries⟩ : Job) = x := rfl
theorem wide_Job (l : List Job) : WideL 21 (l.map Job.cs) = True := WideL_map (f := Job.cs) (fun _ => rfl) l
theorem still_Job (l : List Job) : Still (l.map Job.cs) := Still.map (f := Job.cs) (fun _ => rfl) l
theorem frz_Job {d : Nat} {h : Hp} (l : List Job) : mapO (mapO (frzC d h)) (l.map Job.cs) = some (l.map Job.cs) := mapO_still (still_Job l)
attribute [go_sem] wide_Job frz_Job
theorem nrmrows_Job {d : Nat} (l : List Job) : (l.map Job.cs).map (zipSh (nrmC (d + 2)) [.leaf, .slc 1 [.leaf], .leaf, .leaf, .leaf, .leaf, .leaf, .slc 5 [.slc 1 [.leaf], .leaf, .leaf, .leaf, .slc 1 [.leaf]], .leaf, .leaf, .slc 8 [.leaf, .leaf, .leaf, .leaf, .leaf, .leaf, .leaf, .leaf], .slc 5 [.leaf, .leaf, .leaf, .leaf, .leaf], .slc 3 [.leaf, .leaf, .leaf], .slc 1 [.leaf], .leaf, .leaf, .leaf, .leaf, .leaf, .leaf, .leaf]) = l.map Job.cs := map_same (f := Job.cs) (fun x => by simp only [Job.cs, zipSh_cons, zipSh_nil, nrmC_leaf, nrmC_sl, flat_leaf, flat_slc, List.all_cons, List.all_nil, Bool.and_true, Bool.and_self, Bool.and_false, Bool.false_and, Bool.false_eq_true, ↓reduceIte, nrmrows_Bnd]) l
attribute [go_sem] nrmrows_Job
structure Agent where
  b : Bridge
  word : ByteArray
  jobs : List Job
  lost : Int
  last : Int
@[go_sem] def Agent.cs (x : Agent) : List C := [.lit (.int .i64 x.b.id), .lit (.string x.b.name), .sl 8 (x.b.ports.map Pt.cs), .sl 5 (x.b.f.map Fent.cs), .sl 3 (x.b.v.rows.map Vrow.cs), .sl 1 (x.b.v.pvid.map intC), .lit (.int .i64 x.b.ticks), .lit (.int .i64 x.b.parse), .lit (.int .i64 x.b.word), .lit (.int .i64 x.b.drops), .lit (.int .i64 x.b.vers), .lit (.string x.word), .sl 21 (x.jobs.map Job.cs), .lit (.int .i64 x.lost), .lit (.int .i64 x.last)]
@[go_sem] theorem Agent_eta (x : Agent) : (⟨x.b, x.word, x.jobs, x.lost, x.last⟩ : Agent) = x := rfl
theorem wide_Agent (l : List Agent) : WideL 15 (l.map Agent.cs) = True := WideL_map (f := Agent.cs) (fun _ => rfl) l
theorem still_Agent (l : List Agent) : Still (l.map Agent.cs) := Still.map (f := Agent.cs) (fun _ => rfl) l
theorem frz_Agent {d : Nat} {h : Hp} (l : List Agent) : mapO (mapO (frzC d h)) (l.map Agent.cs) = some (l.map Agent.cs) := mapO_still (still_Agent l)
attribute [go_sem] wide_Agent frz_Agent
theorem nrmrows_Agent {d : Nat} (l : List Agent) : (l.map Agent.cs).map (zipSh (nrmC (d + 3)) [.leaf, .leaf, .slc 8 [.leaf, .leaf, .leaf, .leaf, .leaf, .leaf, .leaf, .leaf], .slc 5 [.leaf, .leaf, .leaf, .leaf, .leaf], .slc 3 [.leaf, .leaf, .leaf], .slc 1 [.leaf], .leaf, .leaf, .leaf, .leaf, .leaf, .leaf, .slc 21 [.leaf, .slc 1 [.leaf], .leaf, .leaf, .leaf, .leaf, .leaf, .slc 5 [.slc 1 [.leaf], .leaf, .leaf, .leaf, .slc 1 [.leaf]], .leaf, .leaf, .slc 8 [.leaf, .leaf, .leaf, .leaf, .leaf, .leaf, .leaf, .leaf], .slc 5 [.leaf, .leaf, .leaf, .leaf, .leaf], .slc 3 [.leaf, .leaf, .leaf], .slc 1 [.leaf], .leaf, .leaf, .leaf, .leaf, .leaf, .leaf, .leaf], .leaf, .leaf]) = l.map Agent.cs := map_same (f := Agent.cs) (fun x => by simp only [Agent.cs, zipSh_cons, zipSh_nil, nrmC_leaf, nrmC_sl, flat_leaf, flat_slc, List.all_cons, List.all_nil, Bool.and_true, Bool.and_self, Bool.and_false, Bool.false_and, Bool.false_eq_true, ↓reduceIte, nrmrows_Job]) l
attribute [go_sem] nrmrows_Agent
structure Link where
  a : Int
  p : Int
  b : Int
  q : Int
@[go_sem] def Link.cs (x : Link) : List C := [.lit (.int .i64 x.a), .lit (.int .i64 x.p), .lit (.int .i64 x.b), .lit (.int .i64 x.q)]
@[go_sem] theorem Link_eta (x : Link) : (⟨x.a, x.p, x.b, x.q⟩ : Link) = x := rfl
theorem wide_Link (l : List Link) : WideL 4 (l.map Link.cs) = True := WideL_map (f := Link.cs) (fun _ => rfl) l
theorem still_Link (l : List Link) : Still (l.map Link.cs) := Still.map (f := Link.cs) (fun _ => rfl) l
theorem frz_Link {d : Nat} {h : Hp} (l : List Link) : mapO (mapO (frzC d h)) (l.map Link.cs) = some (l.map Link.cs) := mapO_still (still_Link l)
attribute [go_sem] wide_Link frz_Link
structure Say where
  link : Int
  back : Bool
  v : Vec
@[go_sem] def Say.cs (x : Say) : List C := [.lit (.int .i64 x.link), .lit (.bool x.back), .lit (.int .i64 x.v.root), .lit (.int .i64 x.v.cost), .lit (.int .i64 x.v.hops), .lit (.int .i64 x.v.bridge), .lit (.int .i64 x.v.port)]
@[go_sem] theorem Say_eta (x : Say) : (⟨x.link, x.back, x.v⟩ : Say) = x := rfl
theorem wide_Say (l : List Say) : WideL 7 (l.map Say.cs) = True := WideL_map (f := Say.cs) (fun _ => rfl) l
theorem still_Say (l : List Say) : Still (l.map Say.cs) := Still.map (f := Say.cs) (fun _ => rfl) l
theorem frz_Say {d : Nat} {h : Hp} (l : List Say) : mapO (mapO (frzC d h)) (l.map Say.cs) = some (l.map Say.cs) := mapO_still (still_Say l)
attribute [go_sem] wide_Say frz_Say
structure Net where
  bridges : List Bridge
  links : List Link
  said : List Say
@[go_sem] def Net.cs (x : Net) : List C := [.sl 11 (x.bridges.map Bridge.cs), .sl 4 (x.links.map Link.cs), .sl 7 (x.said.map Say.cs)]
@[go_sem] theorem Net_eta (x : Net) : (⟨x.bridges, x.links, x.said⟩ : Net) = x := rfl
theorem wide_Net (l : List Net) : WideL 3 (l.map Net.cs) = True := WideL_map (f := Net.cs) (fun _ => rfl) l
theorem still_Net (l : List Net) : Still (l.map Net.cs) := Still.map (f := Net.cs) (fun _ => rfl) l
theorem frz_Net {d : Nat} {h : Hp} (l : List Net) : mapO (mapO (frzC d h)) (l.map Net.cs) = some (l.map Net.cs) := mapO_still (still_Net l)
attribute [go_sem] wide_Net frz_Net
theorem nrmrows_Net {d : Nat} (l : List Net) : (l.map Net.cs).map (zipSh (nrmC (d + 2)) [.slc 11 [.leaf, .leaf, .slc 8 [.leaf, .leaf, .leaf, .leaf, .leaf, .leaf, .leaf, .leaf], .slc 5 [.leaf, .leaf, .leaf, .leaf, .leaf], .slc 3 [.leaf, .leaf, .leaf], .slc 1 [.leaf], .leaf, .leaf, .leaf, .leaf, .leaf], .slc 4 [.leaf, .leaf, .leaf, .leaf], .slc 7 [.leaf, .leaf, .leaf, .leaf, .leaf, .leaf, .leaf]]) = l.map Net.cs := map_same (f := Net.cs) (fun x => by simp only [Net.cs, zipSh_cons, zipSh_nil, nrmC_leaf, nrmC_sl, flat_leaf, flat_slc, List.all_cons, List.all_nil, Bool.and_true, Bool.and_self, Bool.and_false, Bool.false_and, Bool.false_eq_true, ↓reduceIte, nrmrows_Bridge]) l
attribute [go_sem] nrmrows_Net
structure Cur where
  b : List Int
  i : Int
  h : Int
@[go_sem] def Cur.cs (x : Cur) : List C := [.sl 1 (x.b.map byteC), .lit (.int .i64 x.i), .lit (.int .i64 x.h)]
@[go_sem] theorem Cur_eta (x : Cur) : (⟨x.b, x.i, x.h⟩ : Cur) = x := rfl
theorem wide_Cur (l : List Cur) : WideL 3 (l.map Cur.cs) = True := WideL_map (f := Cur.cs) (fun _ => rfl) l
theorem still_Cur (l : List Cur) : Still (l.map Cur.cs) := Still.map (f := Cur.cs) (fun _ => rfl) l
theorem frz_Cur {d : Nat} {h : Hp} (l : List Cur) : mapO (mapO (frzC d h)) (l.map Cur.cs) = some (l.map Cur.cs) := mapO_still (still_Cur l)
attribute [go_sem] wide_Cur frz_Cur
theorem nrmrows_Cur {d : Nat} (l : List Cur) : (l.map Cur.cs).map (zipSh (nrmC (d + 1)) [.slc 1 [.leaf], .leaf, .leaf]) = l.map Cur.cs := map_same (f := Cur.cs) (fun x => by simp only [Cur.cs, zipSh_cons, zipSh_nil, nrmC_leaf, nrmC_sl, flat_leaf, flat_slc, List.all_cons, List.all_nil, Bool.and_true, Bool.and_self, Bool.and_false, Bool.false_and, Bool.false_eq_true, ↓reduceIte]) l
attribute [go_sem] nrmrows_Cur
end Go.Ev
