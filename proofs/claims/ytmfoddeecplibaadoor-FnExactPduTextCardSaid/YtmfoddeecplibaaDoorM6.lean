/- Sizes: what the laws count ahead of a call. -/
import Derived.Test.YtmfoddeecplibaaDoorM4
set_option linter.unusedVariables false
set_option linter.unusedSimpArgs false
namespace Go.Ev
def szL (left : Int) (n : Nat) : Int := if left - n < 0 then -1 else left - n
def Small (r : Int) : Prop := -1 ≤ r ∧ r ≤ 1048576
theorem szL_small {left : Int} {n : Nat} (h : Small left) : Small (szL left n) := by unfold szL Small at *; split <;> omega
theorem szL_neg {left : Int} {n : Nat} (h : left < 0) : szL left n = -1 := by unfold szL; split <;> omega
theorem szL_bd {left : Int} {n : Nat} (h : Small left) (h2 : 0 ≤ szL left n) : n ≤ 1048576 ∧ 0 ≤ left := by unfold szL Small at *; split at h2 <;> omega
theorem fold_small {α : Type} {f : Int → α → Int} (hf : ∀ r x, Small r → Small (f r x)) : ∀ (l : List α) (r : Int), Small r → Small (l.foldl f r)
  | [], r, h => h
  | x :: l, r, h => fold_small hf l _ (hf r x h)
theorem fold_neg {α : Type} {f : Int → α → Int} (hf : ∀ r x, r < 0 → f r x = -1) : ∀ (l : List α) (r : Int), r = -1 → l.foldl f r = -1
  | [], r, h => h
  | x :: l, r, h => fold_neg hf l _ (hf r x (by omega))
theorem fold_bd {α : Type} {f : Int → α → Int} {B : α → Prop} (hs : ∀ r x, Small r → Small (f r x)) (hn : ∀ r x, r < 0 → f r x = -1) (hb : ∀ r x, Small r → 0 ≤ f r x → B x ∧ 0 ≤ r) :
    ∀ (l : List α) (r : Int), Small r → 0 ≤ l.foldl f r → (∀ x ∈ l, B x) ∧ 0 ≤ r
  | [], r, h, h2 => ⟨fun _ h => (by cases h), h2⟩
  | x :: l, r, h, h2 => by
    obtain ⟨a, b⟩ := fold_bd hs hn hb l (f r x) (hs r x h) h2
    obtain ⟨c, d⟩ := hb r x h b
    exact ⟨fun y hy => (List.mem_cons.1 hy).elim (fun e => e ▸ c) (a y), d⟩
def szVtab (x : Vtab) (left : Int) : Int := szL (szL (left) x.rows.length) x.pvid.length
structure Vtab.Bd (x : Vtab) : Prop where
  rows : x.rows.length ≤ 1048576
  pvid : x.pvid.length ≤ 1048576
theorem szVtab_small {x : Vtab} {left : Int} (h : Small left) : Small (szVtab x left) := (szL_small (szL_small h))
theorem szVtab_neg {x : Vtab} {left : Int} (h : left < 0) : szVtab x left = -1 := (szL_neg (by rw [(szL_neg h)]; decide))
theorem szVtab_bd {x : Vtab} {left : Int} (h : Small left) (h2 : 0 ≤ szVtab x left) : x.Bd ∧ 0 ≤ left := by
  obtain ⟨b1, c1⟩ := szL_bd (szL_small h) h2
  obtain ⟨b0, c0⟩ := szL_bd h c1
  exact ⟨⟨b0, b1⟩, c0⟩
def szVtabS (l : List Vtab) (left : Int) : Int := l.foldl (fun r y => szVtab y r) (szL left l.length)
theorem szVtabS_small {l : List Vtab} {left : Int} (h : Small left) : Small (szVtabS l left) := fold_small (fun r y hr => szVtab_small hr) _ _ (szL_small h)
theorem szVtabS_neg {l : List Vtab} {left : Int} (h : left < 0) : szVtabS l left = -1 := fold_neg (fun r y hr => szVtab_neg hr) _ _ (szL_neg h)
theorem szVtabS_bd {l : List Vtab} {left : Int} (h : Small left) (h2 : 0 ≤ szVtabS l left) : (l.length ≤ 1048576 ∧ ∀ y ∈ l, y.Bd) ∧ 0 ≤ left := by
  obtain ⟨a, b⟩ := fold_bd (B := Vtab.Bd) (fun r y hr => szVtab_small hr) (fun r y hr => szVtab_neg hr) (fun r y hr h2 => szVtab_bd hr h2) l _ (szL_small h) h2
  obtain ⟨c, d⟩ := szL_bd h b
  exact ⟨⟨c, a⟩, d⟩
def szBridge (x : Bridge) (left : Int) : Int := szVtab x.v (szL (szL (szL (left) x.name.size) x.ports.length) x.f.length)
structure Bridge.Bd (x : Bridge) : Prop where
  name : x.name.size ≤ 1048576
  ports : x.ports.length ≤ 1048576
  f : x.f.length ≤ 1048576
  v : x.v.Bd
theorem szBridge_small {x : Bridge} {left : Int} (h : Small left) : Small (szBridge x left) := (szVtab_small (szL_small (szL_small (szL_small h))))
theorem szBridge_neg {x : Bridge} {left : Int} (h : left < 0) : szBridge x left = -1 := (szVtab_neg (by rw [(szL_neg (by rw [(szL_neg (by rw [(szL_neg h)]; decide))]; decide))]; decide))
theorem szBridge_bd {x : Bridge} {left : Int} (h : Small left) (h2 : 0 ≤ szBridge x left) : x.Bd ∧ 0 ≤ left := by
  obtain ⟨b3, c3⟩ := szVtab_bd (szL_small (szL_small (szL_small h))) h2
  obtain ⟨b2, c2⟩ := szL_bd (szL_small (szL_small h)) c3
  obtain ⟨b1, c1⟩ := szL_bd (szL_small h) c2
  obtain ⟨b0, c0⟩ := szL_bd h c1
  exact ⟨⟨b0, b1, b2, b3⟩, c0⟩
def szBridgeS (l : List Bridge) (left : Int) : Int := l.foldl (fun r y => szBridge y r) (szL left l.length)
theorem szBridgeS_small {l : List Bridge} {left : Int} (h : Small left) : Small (szBridgeS l left) := fold_small (fun r y hr => szBridge_small hr) _ _ (szL_small h)
theorem szBridgeS_neg {l : List Bridge} {left : Int} (h : left < 0) : szBridgeS l left = -1 := fold_neg (fun r y hr => szBridge_neg hr) _ _ (szL_neg h)
theorem szBridgeS_bd {l : List Bridge} {left : Int} (h : Small left) (h2 : 0 ≤ szBridgeS l left) : (l.length ≤ 1048576 ∧ ∀ y ∈ l, y.Bd) ∧ 0 ≤ left := by
  obtain ⟨a, b⟩ := fold_bd (B := Bridge.Bd) (fun r y hr => szBridge_small hr) (fun r y hr => szBridge_neg hr) (fun r y hr h2 => szBridge_bd hr h2) l _ (szL_small h) h2
  obtain ⟨c, d⟩ := szL_bd h b
  exact ⟨⟨c, a⟩, d⟩
def szVal (x : Val) (left : Int) : Int := szL (szL (left) x.s.size) x.o.length
structure Val.Bd (x : Val) : Prop where
  s : x.s.size ≤ 1048576
  o : x.o.length ≤ 1048576
theorem szVal_small {x : Val} {left : Int} (h : Small left) : Small (szVal x left) := (szL_small (szL_small h))
theorem szVal_neg {x : Val} {left : Int} (h : left < 0) : szVal x left = -1 := (szL_neg (by rw [(szL_neg h)]; decide))
theorem szVal_bd {x : Val} {left : Int} (h : Small left) (h2 : 0 ≤ szVal x left) : x.Bd ∧ 0 ≤ left := by
  obtain ⟨b1, c1⟩ := szL_bd (szL_small h) h2
  obtain ⟨b0, c0⟩ := szL_bd h c1
  exact ⟨⟨b0, b1⟩, c0⟩
def szValS (l : List Val) (left : Int) : Int := l.foldl (fun r y => szVal y r) (szL left l.length)
theorem szValS_small {l : List Val} {left : Int} (h : Small left) : Small (szValS l left) := fold_small (fun r y hr => szVal_small hr) _ _ (szL_small h)
theorem szValS_neg {l : List Val} {left : Int} (h : left < 0) : szValS l left = -1 := fold_neg (fun r y hr => szVal_neg hr) _ _ (szL_neg h)
theorem szValS_bd {l : List Val} {left : Int} (h : Small left) (h2 : 0 ≤ szValS l left) : (l.length ≤ 1048576 ∧ ∀ y ∈ l, y.Bd) ∧ 0 ≤ left := by
  obtain ⟨a, b⟩ := fold_bd (B := Val.Bd) (fun r y hr => szVal_small hr) (fun r y hr => szVal_neg hr) (fun r y hr h2 => szVal_bd hr h2) l _ (szL_small h) h2
  obtain ⟨c, d⟩ := szL_bd h b
  exact ⟨⟨c, a⟩, d⟩
def szBnd (x : Bnd) (left : Int) : Int := szVal x.v (szL (left) x.o.length)
structure Bnd.Bd (x : Bnd) : Prop where
  o : x.o.length ≤ 1048576
  v : x.v.Bd
theorem szBnd_small {x : Bnd} {left : Int} (h : Small left) : Small (szBnd x left) := (szVal_small (szL_small h))
theorem szBnd_neg {x : Bnd} {left : Int} (h : left < 0) : szBnd x left = -1 := (szVal_neg (by rw [(szL_neg h)]; decide))
theorem szBnd_bd {x : Bnd} {left : Int} (h : Small left) (h2 : 0 ≤ szBnd x left) : x.Bd ∧ 0 ≤ left := by
  obtain ⟨b1, c1⟩ := szVal_bd (szL_small h) h2
  obtain ⟨b0, c0⟩ := szL_bd h c1
  exact ⟨⟨b0, b1⟩, c0⟩
def szBndS (l : List Bnd) (left : Int) : Int := l.foldl (fun r y => szBnd y r) (szL left l.length)
theorem szBndS_small {l : List Bnd} {left : Int} (h : Small left) : Small (szBndS l left) := fold_small (fun r y hr => szBnd_small hr) _ _ (szL_small h)
theorem szBndS_neg {l : List Bnd} {left : Int} (h : left < 0) : szBndS l left = -1 := fold_neg (fun r y hr => szBnd_neg hr) _ _ (szL_neg h)
theorem szBndS_bd {l : List Bnd} {left : Int} (h : Small left) (h2 : 0 ≤ szBndS l left) : (l.length ≤ 1048576 ∧ ∀ y ∈ l, y.Bd) ∧ 0 ≤ left := by
  obtain ⟨a, b⟩ := fold_bd (B := Bnd.Bd) (fun r y hr => szBnd_small hr) (fun r y hr => szBnd_neg hr) (fun r y hr h2 => szBnd_bd hr h2) l _ (szL_small h) h2
  obtain ⟨c, d⟩ := szL_bd h b
  exact ⟨⟨c, a⟩, d⟩
def szPdu (x : Pdu) (left : Int) : Int := szBndS x.binds (left)
structure Pdu.Bd (x : Pdu) : Prop where
  binds : x.binds.length ≤ 1048576 ∧ ∀ y ∈ x.binds, y.Bd
theorem szPdu_small {x : Pdu} {left : Int} (h : Small left) : Small (szPdu x left) := (szBndS_small h)
theorem szPdu_neg {x : Pdu} {left : Int} (h : left < 0) : szPdu x left = -1 := (szBndS_neg h)
theorem szPdu_bd {x : Pdu} {left : Int} (h : Small left) (h2 : 0 ≤ szPdu x left) : x.Bd ∧ 0 ≤ left := by
  obtain ⟨b0, c0⟩ := szBndS_bd h h2
  exact ⟨⟨b0⟩, c0⟩
def szPduS (l : List Pdu) (left : Int) : Int := l.foldl (fun r y => szPdu y r) (szL left l.length)
theorem szPduS_small {l : List Pdu} {left : Int} (h : Small left) : Small (szPduS l left) := fold_small (fun r y hr => szPdu_small hr) _ _ (szL_small h)
theorem szPduS_neg {l : List Pdu} {left : Int} (h : left < 0) : szPduS l left = -1 := fold_neg (fun r y hr => szPdu_neg hr) _ _ (szL_neg h)
theorem szPduS_bd {l : List Pdu} {left : Int} (h : Small left) (h2 : 0 ≤ szPduS l left) : (l.length ≤ 1048576 ∧ ∀ y ∈ l, y.Bd) ∧ 0 ≤ left := by
  obtain ⟨a, b⟩ := fold_bd (B := Pdu.Bd) (fun r y hr => szPdu_small hr) (fun r y hr => szPdu_neg hr) (fun r y hr h2 => szPdu_bd hr h2) l _ (szL_small h) h2
  obtain ⟨c, d⟩ := szL_bd h b
  exact ⟨⟨c, a⟩, d⟩
def szFrame (x : Frame) (left : Int) : Int := szL (left) x.data.length
structure Frame.Bd (x : Frame) : Prop where
  data : x.data.length ≤ 1048576
theorem szFrame_small {x : Frame} {left : Int} (h : Small left) : Small (szFrame x left) := (szL_small h)
theorem szFrame_neg {x : Frame} {left : Int} (h : left < 0) : szFrame x left = -1 := (szL_neg h)
theorem szFrame_bd {x : Frame} {left : Int} (h : Small left) (h2 : 0 ≤ szFrame x left) : x.Bd ∧ 0 ≤ left := by
  obtain ⟨b0, c0⟩ := szL_bd h h2
  exact ⟨⟨b0⟩, c0⟩
def szFrameS (l : List Frame) (left : Int) : Int := l.foldl (fun r y => szFrame y r) (szL left l.length)
theorem szFrameS_small {l : List Frame} {left : Int} (h : Small left) : Small (szFrameS l left) := fold_small (fun r y hr => szFrame_small hr) _ _ (szL_small h)
theorem szFrameS_neg {l : List Frame} {left : Int} (h : left < 0) : szFrameS l left = -1 := fold_neg (fun r y hr => szFrame_neg hr) _ _ (szL_neg h)
theorem szFrameS_bd {l : List Frame} {left : Int} (h : Small left) (h2 : 0 ≤ szFrameS l left) : (l.length ≤ 1048576 ∧ ∀ y ∈ l, y.Bd) ∧ 0 ≤ left := by
  obtain ⟨a, b⟩ := fold_bd (B := Frame.Bd) (fun r y hr => szFrame_small hr) (fun r y hr => szFrame_neg hr) (fun r y hr h2 => szFrame_bd hr h2) l _ (szL_small h) h2
  obtain ⟨c, d⟩ := szL_bd h b
  exact ⟨⟨c, a⟩, d⟩
def szOutp (x : Outp) (left : Int) : Int := szFrame x.f (left)
structure Outp.Bd (x : Outp) : Prop where
  f : x.f.Bd
theorem szOutp_small {x : Outp} {left : Int} (h : Small left) : Small (szOutp x left) := (szFrame_small h)
theorem szOutp_neg {x : Outp} {left : Int} (h : left < 0) : szOutp x left = -1 := (szFrame_neg h)
theorem szOutp_bd {x : Outp} {left : Int} (h : Small left) (h2 : 0 ≤ szOutp x left) : x.Bd ∧ 0 ≤ left := by
  obtain ⟨b0, c0⟩ := szFrame_bd h h2
  exact ⟨⟨b0⟩, c0⟩
def szOutpS (l : List Outp) (left : Int) : Int := l.foldl (fun r y => szOutp y r) (szL left l.length)
theorem szOutpS_small {l : List Outp} {left : Int} (h : Small left) : Small (szOutpS l left) := fold_small (fun r y hr => szOutp_small hr) _ _ (szL_small h)
theorem szOutpS_neg {l : List Outp} {left : Int} (h : left < 0) : szOutpS l left = -1 := fold_neg (fun r y hr => szOutp_neg hr) _ _ (szL_neg h)
theorem szOutpS_bd {l : List Outp} {left : Int} (h : Small left) (h2 : 0 ≤ szOutpS l left) : (l.length ≤ 1048576 ∧ ∀ y ∈ l, y.Bd) ∧ 0 ≤ left := by
  obtain ⟨a, b⟩ := fold_bd (B := Outp.Bd) (fun r y hr => szOutp_small hr) (fun r y hr => szOutp_neg hr) (fun r y hr h2 => szOutp_bd hr h2) l _ (szL_small h) h2
  obtain ⟨c, d⟩ := szL_bd h b
  exact ⟨⟨c, a⟩, d⟩
def szGot (x : Got) (left : Int) : Int := szFrame x.f (left)
structure Got.Bd (x : Got) : Prop where
  f : x.f.Bd
theorem szGot_small {x : Got} {left : Int} (h : Small left) : Small (szGot x left) := (szFrame_small h)
theorem szGot_neg {x : Got} {left : Int} (h : left < 0) : szGot x left = -1 := (szFrame_neg h)
theorem szGot_bd {x : Got} {left : Int} (h : Small left) (h2 : 0 ≤ szGot x left) : x.Bd ∧ 0 ≤ left := by
  obtain ⟨b0, c0⟩ := szFrame_bd h h2
  exact ⟨⟨b0⟩, c0⟩
def szGotS (l : List Got) (left : Int) : Int := l.foldl (fun r y => szGot y r) (szL left l.length)
theorem szGotS_small {l : List Got} {left : Int} (h : Small left) : Small (szGotS l left) := fold_small (fun r y hr => szGot_small hr) _ _ (szL_small h)
theorem szGotS_neg {l : List Got} {left : Int} (h : left < 0) : szGotS l left = -1 := fold_neg (fun r y hr => szGot_neg hr) _ _ (szL_neg h)
theorem szGotS_bd {l : List Got} {left : Int} (h : Small left) (h2 : 0 ≤ szGotS l left) : (l.length ≤ 1048576 ∧ ∀ y ∈ l, y.Bd) ∧ 0 ≤ left := by
  obtain ⟨a, b⟩ := fold_bd (B := Got.Bd) (fun r y hr => szGot_small hr) (fun r y hr => szGot_neg hr) (fun r y hr h2 => szGot_bd hr h2) l _ (szL_small h) h2
  obtain ⟨c, d⟩ := szL_bd h b
  exact ⟨⟨c, a⟩, d⟩
def szDone (x : Done) (left : Int) : Int := szPdu x.p (left)
structure Done.Bd (x : Done) : Prop where
  p : x.p.Bd
theorem szDone_small {x : Done} {left : Int} (h : Small left) : Small (szDone x left) := (szPdu_small h)
theorem szDone_neg {x : Done} {left : Int} (h : left < 0) : szDone x left = -1 := (szPdu_neg h)
theorem szDone_bd {x : Done} {left : Int} (h : Small left) (h2 : 0 ≤ szDone x left) : x.Bd ∧ 0 ≤ left := by
  obtain ⟨b0, c0⟩ := szPdu_bd h h2
  exact ⟨⟨b0⟩, c0⟩
def szDoneS (l : List Done) (left : Int) : Int := l.foldl (fun r y => szDone y r) (szL left l.length)
theorem szDoneS_small {l : List Done} {left : Int} (h : Small left) : Small (szDoneS l left) := fold_small (fun r y hr => szDone_small hr) _ _ (szL_small h)
theorem szDoneS_neg {l : List Done} {left : Int} (h : left < 0) : szDoneS l left = -1 := fold_neg (fun r y hr => szDone_neg hr) _ _ (szL_neg h)
theorem szDoneS_bd {l : List Done} {left : Int} (h : Small left) (h2 : 0 ≤ szDoneS l left) : (l.length ≤ 1048576 ∧ ∀ y ∈ l, y.Bd) ∧ 0 ≤ left := by
  obtain ⟨a, b⟩ := fold_bd (B := Done.Bd) (fun r y hr => szDone_small hr) (fun r y hr => szDone_neg hr) (fun r y hr h2 => szDone_bd hr h2) l _ (szL_small h) h2
  obtain ⟨c, d⟩ := szL_bd h b
  exact ⟨⟨c, a⟩, d⟩
def szJob (x : Job) (left : Int) : Int := szBridge x.snap (szPdu x.p (szL (left) x.b.length))
structure Job.Bd (x : Job) : Prop where
  b : x.b.length ≤ 1048576
  p : x.p.Bd
  snap : x.snap.Bd
theorem szJob_small {x : Job} {left : Int} (h : Small left) : Small (szJob x left) := (szBridge_small (szPdu_small (szL_small h)))
theorem szJob_neg {x : Job} {left : Int} (h : left < 0) : szJob x left = -1 := (szBridge_neg (by rw [(szPdu_neg (by rw [(szL_neg h)]; decide))]; decide))
theorem szJob_bd {x : Job} {left : Int} (h : Small left) (h2 : 0 ≤ szJob x left) : x.Bd ∧ 0 ≤ left := by
  obtain ⟨b2, c2⟩ := szBridge_bd (szPdu_small (szL_small h)) h2
  obtain ⟨b1, c1⟩ := szPdu_bd (szL_small h) c2
  obtain ⟨b0, c0⟩ := szL_bd h c1
  exact ⟨⟨b0, b1, b2⟩, c0⟩
def szJobS (l : List Job) (left : Int) : Int := l.foldl (fun r y => szJob y r) (szL left l.length)
theorem szJobS_small {l : List Job} {left : Int} (h : Small left) : Small (szJobS l left) := fold_small (fun r y hr => szJob_small hr) _ _ (szL_small h)
theorem szJobS_neg {l : List Job} {left : Int} (h : left < 0) : szJobS l left = -1 := fold_neg (fun r y hr => szJob_neg hr) _ _ (szL_neg h)
theorem szJobS_bd {l : List Job} {left : Int} (h : Small left) (h2 : 0 ≤ szJobS l left) : (l.length ≤ 1048576 ∧ ∀ y ∈ l, y.Bd) ∧ 0 ≤ left := by
  obtain ⟨a, b⟩ := fold_bd (B := Job.Bd) (fun r y hr => szJob_small hr) (fun r y hr => szJob_neg hr) (fun r y hr h2 => szJob_bd hr h2) l _ (szL_small h) h2
  obtain ⟨c, d⟩ := szL_bd h b
  exact ⟨⟨c, a⟩, d⟩
def szAgent (x : Agent) (left : Int) : Int := szJobS x.jobs (szL (szBridge x.b (left)) x.word.size)
structure Agent.Bd (x : Agent) : Prop where
  b : x.b.Bd
  word : x.word.size ≤ 1048576
  jobs : x.jobs.length ≤ 1048576 ∧ ∀ y ∈ x.jobs, y.Bd
theorem szAgent_small {x : Agent} {left : Int} (h : Small left) : Small (szAgent x left) := (szJobS_small (szL_small (szBridge_small h)))
theorem szAgent_neg {x : Agent} {left : Int} (h : left < 0) : szAgent x left = -1 := (szJobS_neg (by rw [(szL_neg (by rw [(szBridge_neg h)]; decide))]; decide))
theorem szAgent_bd {x : Agent} {left : Int} (h : Small left) (h2 : 0 ≤ szAgent x left) : x.Bd ∧ 0 ≤ left := by
  obtain ⟨b2, c2⟩ := szJobS_bd (szL_small (szBridge_small h)) h2
  obtain ⟨b1, c1⟩ := szL_bd (szBridge_small h) c2
  obtain ⟨b0, c0⟩ := szBridge_bd h c1
  exact ⟨⟨b0, b1, b2⟩, c0⟩
def szAgentS (l : List Agent) (left : Int) : Int := l.foldl (fun r y => szAgent y r) (szL left l.length)
theorem szAgentS_small {l : List Agent} {left : Int} (h : Small left) : Small (szAgentS l left) := fold_small (fun r y hr => szAgent_small hr) _ _ (szL_small h)
theorem szAgentS_neg {l : List Agent} {left : Int} (h : left < 0) : szAgentS l left = -1 := fold_neg (fun r y hr => szAgent_neg hr) _ _ (szL_neg h)
theorem szAgentS_bd {l : List Agent} {left : Int} (h : Small left) (h2 : 0 ≤ szAgentS l left) : (l.length ≤ 1048576 ∧ ∀ y ∈ l, y.Bd) ∧ 0 ≤ left := by
  obtain ⟨a, b⟩ := fold_bd (B := Agent.Bd) (fun r y hr => szAgent_small hr) (fun r y hr => szAgent_neg hr) (fun r y hr h2 => szAgent_bd hr h2) l _ (szL_small h) h2
  obtain ⟨c, d⟩ := szL_bd h b
  exact ⟨⟨c, a⟩, d⟩
def szNet (x : Net) (left : Int) : Int := szL (szL (szBridgeS x.bridges (left)) x.links.length) x.said.length
structure Net.Bd (x : Net) : Prop where
  bridges : x.bridges.length ≤ 1048576 ∧ ∀ y ∈ x.bridges, y.Bd
  links : x.links.length ≤ 1048576
  said : x.said.length ≤ 1048576
theorem szNet_small {x : Net} {left : Int} (h : Small left) : Small (szNet x left) := (szL_small (szL_small (szBridgeS_small h)))
theorem szNet_neg {x : Net} {left : Int} (h : left < 0) : szNet x left = -1 := (szL_neg (by rw [(szL_neg (by rw [(szBridgeS_neg h)]; decide))]; decide))
theorem szNet_bd {x : Net} {left : Int} (h : Small left) (h2 : 0 ≤ szNet x left) : x.Bd ∧ 0 ≤ left := by
  obtain ⟨b2, c2⟩ := szL_bd (szL_small (szBridgeS_small h)) h2
  obtain ⟨b1, c1⟩ := szL_bd (szBridgeS_small h) c2
  obtain ⟨b0, c0⟩ := szBridgeS_bd h c1
  exact ⟨⟨b0, b1, b2⟩, c0⟩
def szNetS (l : List Net) (left : Int) : Int := l.foldl (fun r y => szNet y r) (szL left l.length)
theorem szNetS_small {l : List Net} {left : Int} (h : Small left) : Small (szNetS l left) := fold_small (fun r y hr => szNet_small hr) _ _ (szL_small h)
theorem szNetS_neg {l : List Net} {left : Int} (h : left < 0) : szNetS l left = -1 := fold_neg (fun r y hr => szNet_neg hr) _ _ (szL_neg h)
theorem szNetS_bd {l : List Net} {left : Int} (h : Small left) (h2 : 0 ≤ szNetS l left) : (l.length ≤ 1048576 ∧ ∀ y ∈ l, y.Bd) ∧ 0 ≤ left := by
  obtain ⟨a, b⟩ := fold_bd (B := Net.Bd) (fun r y hr => szNet_small hr) (fun r y hr => szNet_neg hr) (fun r y hr h2 => szNet_bd hr h2) l _ (szL_small h) h2
  obtain ⟨c, d⟩ := szL_bd h b
  exact ⟨⟨c, a⟩, d⟩
theorem szL_m1 {n : Nat} : szL (-1) n = -1 := szL_neg (by omega)
theorem szVtab_m1 {x : Vtab} : szVtab x (-1) = -1 := szVtab_neg (by omega)
theorem szVtabS_m1 {x : List Vtab} : szVtabS x (-1) = -1 := szVtabS_neg (by omega)
theorem szBridge_m1 {x : Bridge} : szBridge x (-1) = -1 := szBridge_neg (by omega)
theorem szBridgeS_m1 {x : List Bridge} : szBridgeS x (-1) = -1 := szBridgeS_neg (by omega)
theorem szVal_m1 {x : Val} : szVal x (-1) = -1 := szVal_neg (by omega)
theorem szValS_m1 {x : List Val} : szValS x (-1) = -1 := szValS_neg (by omega)
theorem szBnd_m1 {x : Bnd} : szBnd x (-1) = -1 := szBnd_neg (by omega)
theorem szBndS_m1 {x : List Bnd} : szBndS x (-1) = -1 := szBndS_neg (by omega)
theorem szPdu_m1 {x : Pdu} : szPdu x (-1) = -1 := szPdu_neg (by omega)
theorem szPduS_m1 {x : List Pdu} : szPduS x (-1) = -1 := szPduS_neg (by omega)
theorem szFrame_m1 {x : Frame} : szFrame x (-1) = -1 := szFrame_neg (by omega)
theorem szFrameS_m1 {x : List Frame} : szFrameS x (-1) = -1 := szFrameS_neg (by omega)
theorem szOutp_m1 {x : Outp} : szOutp x (-1) = -1 := szOutp_neg (by omega)
theorem szOutpS_m1 {x : List Outp} : szOutpS x (-1) = -1 := szOutpS_neg (by omega)
theorem szGot_m1 {x : Got} : szGot x (-1) = -1 := szGot_neg (by omega)
theorem szGotS_m1 {x : List Got} : szGotS x (-1) = -1 := szGotS_neg (by omega)
theorem szDone_m1 {x : Done} : szDone x (-1) = -1 := szDone_neg (by omega)
theorem szDoneS_m1 {x : List Done} : szDoneS x (-1) = -1 := szDoneS_neg (by omega)
theorem szJob_m1 {x : Job} : szJob x (-1) = -1 := szJob_neg (by omega)
theorem szJobS_m1 {x : List Job} : szJobS x (-1) = -1 := szJobS_neg (by omega)
theorem szAgent_m1 {x : Agent} : szAgent x (-1) = -1 := szAgent_neg (by omega)
theorem szAgentS_m1 {x : List Agent} : szAgentS x (-1) = -1 := szAgentS_neg (by omega)
theorem szNet_m1 {x : Net} : szNet x (-1) = -1 := szNet_neg (by omega)
theorem szNetS_m1 {x : List Net} : szNetS x (-1) = -1 := szNetS_neg (by omega)
/-- A row of rows, of which the first i are told. -/
def Filled (rows : List (List C)) (l : List (List C)) (i s : Nat) : Prop :=
  rows.length = l.length ∧ (∀ k, k < i → rows[k]? = l[k]?) ∧ ∀ r ∈ rows, r.length = s
theorem Filled.start {l : List (List C)} {z : List C} {s n : Nat} (hn : n = l.length) (hz : z.length = s) : Filled (List.replicate n z) l 0 s :=
  ⟨by simp [hn], fun k hk => by omega, fun r hr => by rw [(List.mem_replicate.1 hr).2]; exact hz⟩
theorem Filled.done {rows l : List (List C)} {s : Nat} (h : Filled rows l l.length s) : rows = l := by
  apply List.ext_getElem?
  intro k
  by_cases hk : k < l.length
  · exact h.2.1 k hk
  · rw [List.getElem?_eq_none (by rw [h.1]; omega), List.getElem?_eq_none (by omega)]
theorem Filled.next {rows l : List (List C)} {i s : Nat} {r : List C} (h : Filled rows l i s) (hi : l[i]? = some r) (hr : r.length = s) : Filled (rows.set i r) l (i + 1) s := by
  have hil : i < l.length := (List.getElem?_eq_some_iff.1 hi).1
  refine ⟨by simp [h.1], fun k hk => ?_, fun x hx => ?_⟩
  · by_cases hki : k = i
    · subst hki
      rw [List.getElem?_set_self (by rw [h.1]; exact hil), hi]
    · rw [List.getElem?_set_ne (by omega)]; exact h.2.1 k (by omega)
  · rcases List.mem_or_eq_of_mem_set hx with hx | rfl
    · exact h.2.2 x hx
    · exact hr
theorem Filled.drop {rows l : List (List C)} {i s j : Nat} (h : Filled rows l i s) (hj : j < l.length) : (rows.getD j []).drop s = [] := by
  have hj' : j < rows.length := by rw [h.1]; exact hj
  have : rows.getD j [] = rows[j] := by simp [List.getD, hj']
  rw [this]
  exact List.drop_eq_nil_of_le (by rw [h.2.2 _ (List.getElem_mem hj')]; exact Nat.le_refl _)

end Go.Ev
