/-
  Conf of samaritanlaw55 hands back a configuration; with no heartbeat interval statemachine.New refuses it in every later world; slices.Sort of an empty list: three runs of the verified evaluator by the kernel.
  With a configuration that statemachine.New refuses: what analyse, Summarize, ByDistrict and Waits answer; what the law's sum answers.
  With a configuration that statemachine.New refuses: what Waits, ByDistrict and Summarize answer; what the law's sum answers. Printed by mkuses.py.
-/
import Derived.Test.YtgaimkgaooiieaaGreatDoorAwakeTrD
import Derived.Test.YtgaimkgaooiieaaGreatDoorAwakeTrPS
namespace Go.Proofs.YtgaimkgaooiieaaGreatDoor
open Go Go.RowKit Go.Ev

/-- the second run's answer is 'nil, error 1', and it leaves what was there -/
noncomputable def refused (n : Nat) (r : Option (Value × St)) : Bool :=
  match r with
  | some (.tuple ⟨[.pointer none, .int k z]⟩, st) => kindEq k .i64 && eqI z 1 && Nat.ble n st.low
  | _ => false
noncomputable def okConf [OTab] (P : Program) (f1 f2 : FuncId) (G : Nat) : Bool :=
  match run P f1 [] (stT G []) with
  | some (.agg ⟨v⟩, st) => aggN 15 (.agg ⟨v⟩) && Nat.ble G st.low && refused st.nxt (run P f2 [.agg ⟨v.set 5 (.int .i64 0)⟩] ⟨st.mem, st.nxt, st.nxt⟩)
  | _ => false
theorem refused_some {n : Nat} {r : Option (Value × St)} (h : refused n r = true) : ∃ st, r = some (.tuple ⟨[.pointer none, .int .i64 1]⟩, st) ∧ n ≤ st.low := by
  unfold refused at h
  split at h
  · rename_i k z st
    simp only [Bool.and_eq_true] at h
    obtain ⟨⟨h1, h2⟩, h3⟩ := h
    have e1 : k = .i64 := by simpa [kindEq] using h1
    have e2 : z = 1 := by rw [eqI_eq] at h2; simpa using h2
    subst e1 e2
    exact ⟨st, rfl, Nat.le_of_ble_eq_true h3⟩
  · cases h
section
variable [OTab] [OVal]
theorem concL_set {m : Map} {z : Value} (hz : conc m z = some z) : ∀ {l c : List Value} (i : Nat), concL m l = some c → concL m (l.set i z) = some (c.set i z)
  | [], c, i, h => by
    rw [concL_nil] at h
    cases h
    simp [concL_nil]
  | v :: r, c, i, h => by
    obtain ⟨a, b, h1, h2, rfl⟩ := concL_cons h
    cases i with
    | zero => exact concL_cons' hz h2
    | succ i => exact concL_cons' h1 (concL_set hz i h2)
variable {P : Program}
theorem conf_of_run (hmix : P.follows .mixedOrders = true) (hC : ∀ r ∈ OTab.calls, CRule.Holds P OVal.val r) {f1 f2 : FuncId} {G : Nat} (hG : P.globals.size ≤ G) (h : okConf P f1 f2 G = true) {w : World} (hw : G ≤ w.heap.size) :
    Calls P f1 #[] w fun e w' => ∃ cs : List Value, e = .returned (.agg ⟨cs⟩) ∧ cs.length = 15 ∧ (∀ u ∈ cs, u.oneCell' = true) ∧ Below w.heap.size w w' ∧ ∀ W, Below w'.heap.size w' W → Calls P f2 #[.agg ⟨cs.set 5 (.int .i64 0)⟩] W fun e W' => e = .returned (.tuple #[.pointer none, .int .i64 1]) ∧ Below W.heap.size W W' := by
  unfold okConf at h
  split at h
  · rename_i v st h1
    simp only [Bool.and_eq_true] at h
    obtain ⟨⟨hagg, hlow⟩, h2⟩ := h
    have hlow := Nat.le_of_ble_eq_true hlow
    obtain ⟨st2, h2, hlow2⟩ := refused_some h2
    have hr := rel_tabs (P := P) (l := []) hG hw (fun _ h => by cases h) (fun _ h => by cases h)
    obtain ⟨m', w', cv, s, hv, _, q⟩ := run_sound hmix hC h1 hr (cargs := []) (fun b hb _ => if_neg (by have : G ≤ b := hb; omega)) (concL_nil _)
    have hc := s.chk G w (Nat.le_refl _) hlow ⟨fun b x k _ hk hb => (by rw [hr.wf b hb] at hk; cases hk), Nat.le_refl _, fun _ _ => rfl⟩
    obtain ⟨vs, rfl, hcs1, hcs2⟩ := aggN_conc hagg hv
    have hB : Below w.heap.size w w' := ⟨s.os, s.tape, s.output, s.size, fun k hk => hc.2.2 k hk⟩
    have hvs : concL m' v = some vs := by
      simp only [conc] at hv
      obtain ⟨cs, h1, h2⟩ := Option.map_eq_some_iff.1 hv
      have : cs = vs := by simpa using h2
      rw [h1, this]
    have key : ∀ W, Below w'.heap.size w' W → Calls P f2 #[.agg ⟨vs.set 5 (.int .i64 0)⟩] W fun e W' => e = .returned (.tuple #[.pointer none, .int .i64 1]) ∧ Below W.heap.size W W' := fun W hW => by
      have hr2 : Rel P m' ⟨st.mem, st.nxt, st.nxt⟩ W := by
        have := s.rel.below hW
        exact ⟨this.glob, this.inb, this.blks, this.dist, this.wf⟩
      have hfree : Free m' st.nxt st2.nxt := fun b hb _ => by
        cases e : m' b with
        | none => rfl
        | some x =>
          rcases s.newm b x e with h | ⟨_, h⟩
          · obtain ⟨hg, _⟩ := gmap_some h
            have : (stT G []).nxt ≤ st.nxt := s.nxt
            have : G ≤ st.nxt := this
            omega
          · omega
      have hargs : concL m' [.agg ⟨v.set 5 (.int .i64 0)⟩] = some [.agg ⟨vs.set 5 (.int .i64 0)⟩] := by
        refine concL_cons' ?_ (concL_nil _)
        simp only [conc]
        rw [concL_set (by simp [conc]) 5 hvs]
        rfl
      obtain ⟨m2, W', cv2, s2, hv2, _, q2⟩ := run_sound hmix hC h2 hr2 hfree hargs
      have hv' : some (Value.tuple #[.pointer none, .int .i64 1]) = some cv2 := by rw [← hv2]; simp [conc, concL]
      cases hv'
      have hc2 := s2.chk st.nxt W (Nat.le_refl _) hlow2 ⟨fun b x k _ hk hb => (by rw [hr2.wf b hb] at hk; cases hk), Nat.le_refl _, fun _ _ => rfl⟩
      have hB2 : Below W.heap.size W W' := ⟨s2.os, s2.tape, s2.output, s2.size, fun k hk => hc2.2.2 k hk⟩
      intro cs
      obtain ⟨fr, a1, a2, a3⟩ := q2 cs
      exact ⟨_, W', fr, ⟨rfl, hB2⟩, a1, a2, a3⟩
    intro cs
    obtain ⟨fr, a1, a2, a3⟩ := q cs
    exact ⟨_, w', fr, ⟨vs, rfl, hcs1, hcs2, hB, key⟩, a1, a2, a3⟩
  · cases h
end
theorem conf_run : @okConf tab0 Tryz.prog 13 35 2 = true := by kernel_rfl
theorem conf_any (w : World) (hw : 2 ≤ w.heap.size) : Calls Tryz.prog 13 #[] w fun e w' => ∃ cs : List Value, e = .returned (.agg ⟨cs⟩) ∧ cs.length = 15 ∧ (∀ u ∈ cs, u.oneCell' = true) ∧ Below w.heap.size w w' ∧ ∀ W, Below w'.heap.size w' W → Calls Tryz.prog 35 #[.agg ⟨cs.set 5 (.int .i64 0)⟩] W fun e W' => e = .returned (.tuple #[.pointer none, .int .i64 1]) ∧ Below W.heap.size W W' :=
  @conf_of_run tab0 val0 Tryz.prog mix (fun r hr => by cases hr) 13 35 2 (Nat.le_of_eq globs) conf_run w hw
theorem sort_run : lowV 2 (@run tab0 Tryz.prog 39 [.slice none 0 0] (stT 2 [])) = some (.tuple ⟨[]⟩, true) := by kernel_rfl
theorem sort_any (w : World) (hw : 2 ≤ w.heap.size) : Calls Tryz.prog 39 #[.slice none 0 0] w fun e w' => e = .returned (.tuple #[]) ∧ Below w.heap.size w w' :=
  @ret_of_run Tryz.prog tab0 val0 mix (fun r hr => by cases hr) 39 [.slice none 0 0] [.slice none 0 0] 2 (.tuple ⟨[]⟩) (.tuple #[]) (Nat.le_of_eq globs) sort_run (fun m => by simp [concL, conc]) (fun m => by simp [conc, concL]) w hw
end Go.Proofs.YtgaimkgaooiieaaGreatDoor

namespace Go.Proofs.YtgaimkgaooiieaaGreatDoor
open Go Go.RowKit

/-- a configuration that statemachine.New refuses, in every world above w0 -/
structure Ref (w0 : World) (cc : Array Value) : Prop where
  no : ∀ W, Below w0.heap.size w0 W → Calls Tryz.prog 35 #[.agg cc] W fun e W' => e = .returned (.tuple #[.pointer none, .int .i64 1]) ∧ Below W.heap.size W W'
  sz : cc.size = 15
  one : cc.all (·.oneCell') = true
theorem Ref.at {w0 W : World} {cc : Array Value} (h : Ref w0 cc) (hb : Below w0.heap.size w0 W) : Ref W cc := ⟨fun W' h' => h.no W' (hb.trans (h'.mono hb.size)), h.sz, h.one⟩
theorem info27 : (Tryz.prog.info? 27).map (·.size) = some 15 := by kernel_rfl
theorem size111 : (Tryz.prog.info? 111).map (·.size) = some 4 := by kernel_rfl
theorem sizeC {w0 : World} {cc : Array Value} (h : Ref w0 cc) : (Tryz.prog.info? 27).map (·.size) = some cc.toList.length := by
  rw [Array.length_toList, h.sz]
  exact info27
theorem box_range (w : World) (cc : Array Value) (t : TypeId) : ∀ W, Below (w.heap.size + 1) (w.alloc (.cells cc t)) W → W.rangeAt w.heap.size 0 cc.toList := fun W hb j v hv => (hb.cell (p := ⟨w.heap.size, 0 + j, none⟩) (by simp)).trans (by
  have e : (w.alloc (.cells cc t)).heap[w.heap.size]? = some (.cells cc t) := by
    show (w.heap.push _)[w.heap.size]? = _
    simp
  unfold World.cell?
  simp only [e]
  simpa using hv)
theorem toList_toArray' (cc : Array Value) : cc.toList.toArray = cc := by simp

/-- a whole record into the variable that was made last: the operation is looked at first -/
theorem wpList_store_at2 {P : Program} {ops : Array Oper} {rest : List Oper} {op : Oper} {a : Act} {W0 : World} {Q : Exit → Act → World → Prop} (hgd : op.guard = none) (ty : TypeId) (x y : Operand) (ho : op.op = .store ty x y)
    (w : World) (c cells : Array Value) (hW : W0 = w.alloc (.cells c ty)) (hx : a.eval x = .pointer (some ⟨w.heap.size, 0, none⟩)) (hy : a.eval y = .agg cells)
    (hi : (P.info? ty).map (·.size) = some cells.size) (hs : c.size = cells.size) (h1 : cells.all (·.oneCell') = true)
    (h : wpList P ops Q rest (a.put op.dst undef) (w.alloc (.cells cells ty))) : wpList P ops Q (op :: rest) a W0 := by
  subst hW
  exact wpList_store_new hgd ty x y ho c cells hx hy hi hs h1 h
theorem appl_lt {W : World} {mb : Nat} {ks : List Int} (h : ApplIs W mb ks) : mb < W.heap.size := by
  obtain ⟨l, ⟨es, c, hh, _⟩, _⟩ := h
  exact (Array.getElem?_eq_some_iff.1 hh).1
theorem appl_len {W : World} {mb : Nat} {ks : List Int} (h : ApplIs W mb ks) : ∀ ty, (Builtin.len_ #[176] ty #[.map (some mb)]).run Tryz.prog W = .ok (.int .i64 ks.length) W := fun ty => by
  obtain ⟨l, hm, hk, _⟩ := h
  have := run_len_kv (P := Tryz.prog) (ty := ty) Tryz.underlying176 hm
  rw [this, ← hk]
  simp [keysOf]
def zero4c : Array Value := #[.slice none 0 0, .int .i64 0, .int .i64 0, .int .i64 0]
theorem zero4c_no (j : Nat) : zero4c[j]? ≠ some (.bool false) := by
  match j with
  | 0 => simp [zero4c]
  | 1 => simp [zero4c]
  | 2 => simp [zero4c]
  | 3 => simp [zero4c]
  | j + 4 => simp [zero4c]
theorem CallsIn.setRow {W : World} {A : Option Addr} {C : List CallD} {g : Nat} (h : CallsIn W A C) (hg : W.heap[g]? = some (.cells zero4c 111)) (cs : Array Value) : CallsIn (W.setRow g cs) A C := fun k c hc => by
  obtain ⟨b, off, e, hl, h0, h1, h2, h3, h4⟩ := h k c hc
  have hne : b ≠ g := fun e => by
    subst e
    unfold World.cell? at h3
    simp only [hg] at h3
    exact zero4c_no _ h3
  have hz : (W.setRow g cs).heap[b]? = W.heap[b]? := setRow_other W g b cs hne
  exact ⟨b, off, e, by simpa [World.setRow] using hl, (World.cell?_of_block hz).trans h0, (World.cell?_of_block hz).trans h1, (World.cell?_of_block hz).trans h2, (World.cell?_of_block hz).trans h3, (World.cell?_of_block hz).trans h4⟩

set_option maxHeartbeats 4000000 in
set_option maxRecDepth 100000 in
theorem analyse_any (A : Option Addr) (c : Nat) (L : List EvD) (cc : Array Value) (w : World) (hL : TrAt w w.heap.size A L) (hlen : L.length ≤ 60) (hC : Ref w cc) :
    Calls Tryz.prog 34 #[.agg cc, .slice A L.length c] w fun e w' => ∃ A' c', e = .returned (.agg #[.slice A' (callK L L.length).length c', .int .i64 (applK L L.length).length, .int .i64 0, .int .i64 0]) ∧ CallsIn w' A' (callK L L.length) ∧ Below w.heap.size w w' := by
  have hb1 : Below w.heap.size w ((w.alloc (.cells cc 27)).alloc (.cells #[.slice none 0 0, .int .i64 0, .int .i64 0, .int .i64 0] 111)) := ((Below.refl _ w).alloc (Nat.le_refl _) _).alloc (by simp) _
  have HB1 := Lib.hid hb1
  have HZ := Lib.hid (show ((w.alloc (.cells cc 27)).alloc (.cells #[.slice none 0 0, .int .i64 0, .int .i64 0, .int .i64 0] 111)).heap.size = w.heap.size + 2 by simp)
  have HL := Lib.hid hL
  have HC := Lib.hid hC
  have HRG := Lib.hid (box_range w cc 27)
  have HS15 := Lib.hid (sizeC hC)
  have HAP := Lib.hid (fun W (hW : Below w.heap.size w W) => applied_any A c L W ((hL.below hW).mono hW.size) hlen)
  have HCA := Lib.hid (fun W (hW : Below w.heap.size w W) => callsOf_any A c L W ((hL.below hW).mono hW.size) hlen)
  clear hL hC hb1
  have HG4 := Lib.hid (show ((w.alloc (.cells cc 27)).alloc (.cells zero4c 111)).heap[w.heap.size + 1]? = some (.cells zero4c 111) from by
    have h := heap_alloc_last (w.alloc (.cells cc 27)) (.cells zero4c 111)
    rw [show (w.alloc (.cells cc 27)).heap.size = w.heap.size + 1 by simp] at h
    exact h)
  go_enter Tryz.func34, Tryz.ntmps34
  go_wp2_with (first
    | (go_at_call 81; refine (HAP.out _ HB1.out).mono ?_; rintro e W1 ⟨mb, rfl, hm, hbb1⟩; have HM := Lib.hid hm; have HB2 := Lib.hid hbb1; have HBW := Lib.hid (HB1.out.trans (hbb1.mono HB1.out.size)); clear hm hbb1)
    | (go_at_call 82; refine (HCA.out _ HBW.out).mono ?_; rintro e W2 ⟨A', c', rfl, hci, hbb2⟩; have HLN := Lib.hid (appl_len (HM.out.keep (hbb2.block mb (appl_lt HM.out)))); have HB4 := Lib.hid (show Below (w.heap.size + 2) ((w.alloc (.cells cc 27)).alloc (.cells #[.slice none 0 0, .int .i64 0, .int .i64 0, .int .i64 0] 111)) W2 from (by have h2 := HB2.out; rw [HZ.out] at h2; exact h2.trans (hbb2.mono (by have := h2.size; rw [HZ.out] at this; exact this)))); have HB5 := Lib.hid (show Below (w.heap.size + 2) ((w.alloc (.cells cc 27)).alloc (.cells #[.slice none 0 0, .int .i64 0, .int .i64 0, .int .i64 0] 111)) (W2.alloc (.cells #[.slice A' (callK L L.length).length c', .int .i64 (applK L L.length).length, .int .i64 0, .int .i64 0] 111)) from HB4.out.alloc (by have := HB4.out.size; rw [HZ.out] at this; exact this) _); have HCI := Lib.hid (hci.below ((Below.refl W2.heap.size W2).alloc (Nat.le_refl _) (.cells #[.slice A' (callK L L.length).length c', .int .i64 (applK L L.length).length, .int .i64 0, .int .i64 0] 111))); have HW3 := Lib.hid (show Below w.heap.size w (W2.alloc (.cells #[.slice A' (callK L L.length).length c', .int .i64 (applK L L.length).length, .int .i64 0, .int .i64 0] 111)) from HB1.out.trans (HB5.out.mono (by omega))); have HRG3 := Lib.hid (HRG.out (W2.alloc (.cells #[.slice A' (callK L L.length).length c', .int .i64 (applK L L.length).length, .int .i64 0, .int .i64 0] 111)) (((Below.refl (w.heap.size + 1) (w.alloc (.cells cc 27))).alloc (by simp) _).trans (HB5.out.mono (by omega)))); have HN3 := Lib.hid (HC.out.no (W2.alloc (.cells #[.slice A' (callK L L.length).length c', .int .i64 (applK L L.length).length, .int .i64 0, .int .i64 0] 111)) HW3.out); have HSZ2 := Lib.hid (show w.heap.size + 2 ≤ W2.heap.size from (by have := HB4.out.size; rw [HZ.out] at this; exact this)); clear hci hbb2)
    | (refine wpList_len_run rfl 176 (.tmp 19) rfl rfl HLN.out ?_)
    | (refine wpList_store_at2 rfl 111 (.tmp 6) (.tmp 21) rfl W2 _ #[.slice A' (callK L L.length).length c', .int .i64 (applK L L.length).length, .int .i64 0, .int .i64 0] rfl rfl rfl size111 rfl rfl ?_)
    | (with_reducible refine wpList_load_mid rfl 27 (.tmp 2) rfl w.heap.size 0 rfl cc.toList _ HRG3.out Tryz.underlying27 rfl HS15.out ?_; rw [toList_toArray'])
    | (go_at_call 35; refine HN3.out.mono ?_; rintro e W4 ⟨rfl, hb4⟩; have HZ3 := Lib.hid (show (W2.alloc (.cells #[.slice A' (callK L L.length).length c', .int .i64 (applK L L.length).length, .int .i64 0, .int .i64 0] 111)).heap.size = W2.heap.size + 1 by simp); have HR6 := Lib.hid (show W4.rangeAt W2.heap.size 0 [.slice A' (callK L L.length).length c', .int .i64 (applK L L.length).length, .int .i64 0, .int .i64 0] from (by
        have hh := heap_alloc_last W2 (.cells #[.slice A' (callK L L.length).length c', .int .i64 (applK L L.length).length, .int .i64 0, .int .i64 0] 111)
        have h2 := rangeAt_new hh
        exact fun j v hv => (hb4.cell (p := ⟨W2.heap.size, 0 + j, none⟩) (by rw [HZ3.out]; exact Nat.lt_succ_self _)).trans (h2 j v (by simpa using hv)))); have HB6 := Lib.hid (show Below (w.heap.size + 2) ((w.alloc (.cells cc 27)).alloc (.cells #[.slice none 0 0, .int .i64 0, .int .i64 0, .int .i64 0] 111)) W4 from HB5.out.trans (hb4.mono (by rw [HZ3.out]; have := HSZ2.out; omega))); have HG6 := Lib.hid ((HB6.out.block (w.heap.size + 1) (by omega)).trans HG4.out); have HI111 := Lib.hid (show (Tryz.prog.info? 111).map (·.size) = some ([.slice A' (callK L L.length).length c', .int .i64 (applK L L.length).length, .int .i64 0, .int .i64 0] : List Value).length from size111); have HO1 := Lib.hid (show ([.slice A' (callK L L.length).length c', .int .i64 (applK L L.length).length, .int .i64 0, .int .i64 0] : List Value).toArray.all (·.oneCell') = true by simp [Value.oneCell']); have HI4 := Lib.hid (show (Tryz.prog.info? 111).map (·.size) = some ([.slice A' (callK L L.length).length c', .int .i64 (applK L L.length).length, .int .i64 0, .int .i64 0] : List Value).toArray.size from size111); have HC6 := Lib.hid (HCI.out.below hb4); clear hb4)
    | (with_reducible refine wpList_load_mid rfl 111 (.tmp 6) rfl W2.heap.size 0 rfl [.slice A' (callK L L.length).length c', .int .i64 (applK L L.length).length, .int .i64 0, .int .i64 0] _ HR6.out Tryz.underlying111 rfl HI111.out ?_)
    | (refine wpList_store_row rfl 111 (.tmp 4) (.tmp 29) rfl (w.heap.size + 1) 111 zero4c ([.slice A' (callK L L.length).length c', .int .i64 (applK L L.length).length, .int .i64 0, .int .i64 0].toArray) rfl rfl HG6.out HI4.out rfl HO1.out ?_))
  (try simp only [Exit.inBlock, Exit.then])
  refine bodyPost_ret (results_cell_row rfl _ _ (w.heap.size + 1) 111 ([.slice A' (callK L L.length).length c', .int .i64 (applK L L.length).length, .int .i64 0, .int .i64 0].toArray) (0, 0) _ rfl (setRow_heap _ _ _ _ _ _ HG6.out) Tryz.underlying111 rfl HI4.out) rfl ?_
  exact ⟨A', c', rfl, HC6.out.setRow HG6.out _, below_setRow' (HB1.out.trans (HB6.out.mono (by omega))) (by omega) _⟩
end Go.Proofs.YtgaimkgaooiieaaGreatDoor

namespace Go.Proofs.YtgaimkgaooiieaaGreatDoor
open Go Go.RowKit

theorem field111 (a b c d : Value) (W : World) : (Instr.field 111 (.agg #[a, b, c, d]) 0).run Tryz.prog W = .ok a W := by kernel_rfl
theorem size44 : (Tryz.prog.info? 44).map (·.size) = some 10 := by kernel_rfl
set_option maxHeartbeats 4000000 in
set_option maxRecDepth 100000 in
theorem waits_any (A : Option Addr) (c : Nat) (L : List EvD) (cc : Array Value) (w : World) (hL : TrAt w w.heap.size A L) (hlen : L.length ≤ 60) (hC : Ref w cc) (hw : 2 ≤ w.heap.size) :
    Calls Tryz.prog 18 #[.agg cc, .slice A L.length c] w fun e w' => e = .returned (.slice none 0 0) ∧ Below w.heap.size w w' := by
  have hb1 : Below w.heap.size w (w.alloc (.cells cc 27)) := (Below.refl _ w).alloc (Nat.le_refl _) _
  have HB1 := Lib.hid hb1
  have HRG := Lib.hid (box_range w cc 27 _ (Below.refl _ _))
  have HS15 := Lib.hid (sizeC hC)
  have HAN := Lib.hid (analyse_any A c L cc (w.alloc (.cells cc 27)) ((hL.below hb1).mono hb1.size) hlen (hC.at hb1))
  have HKL := Lib.hid (callK_len L L.length)
  have HW := Lib.hid hw
  clear hL hC hb1 hw
  have hff := field111
  go_enter Tryz.func18, Tryz.ntmps18
  go_wp2_with (first
    | (with_reducible refine wpList_load_mid rfl 27 (.tmp 2) rfl w.heap.size 0 rfl cc.toList _ HRG.out Tryz.underlying27 rfl HS15.out ?_; rw [toList_toArray'])
    | (go_at_call 34; go_loud (refine HAN.out.mono ?_; rintro e W1 ⟨A', c', rfl, hci, hb⟩; have HCI := Lib.hid hci; have HB2 := Lib.hid (HB1.out.trans (hb.mono HB1.out.size)); clear hci hb)))
  clear hff
  obtain ⟨C, hC⟩ : ∃ C, C = callK L L.length := ⟨_, rfl⟩
  have hn := HKL.out
  rw [← hC] at HCI hn ⊢
  clear hC HKL
  go_loopw [5, 13] (fun v i wr => ∃ k : Nat, k ≤ C.length ∧ i = .int .i64 k ∧ v = .slice none 0 0 ∧ Hid (Below W1.heap.size W1 wr)) (fun _ i _ => C.length - (intOf i).toNat)
  case atStart => exact ⟨0, Nat.zero_le _, rfl, rfl, Lib.hid (Below.refl _ _)⟩
  case round =>
    obtain ⟨k, hk, rfl, rfl, HB⟩ := hrel
    by_cases hlt : k < C.length
    · obtain ⟨y, hy⟩ : ∃ y, C[k]? = some y := ⟨_, List.getElem?_eq_getElem hlt⟩
      obtain ⟨b, off, rfl, hbl, c0, c1, c2, c3, c4⟩ := HCI.out.below HB.out k y hy
      clear hy hbl
      go_wp2
      go_roundw
      case rel => exact ⟨k + 1, by omega, by go_num, rfl, Lib.hid (HB.out.alloc HB.out.size _)⟩
      case measure => simp [intOf]; omega
    · obtain rfl : C.length = k := by omega
      have HS := Lib.hid (sort_any wr (Nat.le_trans HW.out (Nat.le_trans HB2.out.size HB.out.size)))
      go_wp2_with (go_at_call 39; refine HS.out.mono ?_; rintro e W2 ⟨rfl, hb3⟩; have HB3 := Lib.hid hb3; clear hb3)
      go_ret
      exact ⟨rfl, HB2.out.trans ((HB.out.trans (HB3.out.mono HB.out.size)).mono HB2.out.size)⟩

set_option maxHeartbeats 4000000 in
set_option maxRecDepth 100000 in
theorem byDistrict_any (A : Option Addr) (c n : Nat) (cc : Array Value) (w : World) (hC : Ref w cc) :
    Calls Tryz.prog 15 #[.agg cc, .slice A n c] w fun e w' => e = .returned (.tuple #[.slice none 0 0, .slice none 0 0]) ∧ Below w.heap.size w w' := by
  have hb1 : Below w.heap.size w (w.alloc (.cells cc 27)) := (Below.refl _ w).alloc (Nat.le_refl _) _
  have HB1 := Lib.hid hb1
  have HRG := Lib.hid (box_range w cc 27 _ (Below.refl _ _))
  have HS15 := Lib.hid (sizeC hC)
  have HN := Lib.hid (hC.no _ hb1)
  clear hC hb1
  go_enter Tryz.func15, Tryz.ntmps15
  go_wp2_with (first
    | (with_reducible refine wpList_load_mid rfl 27 (.tmp 2) rfl w.heap.size 0 rfl cc.toList _ HRG.out Tryz.underlying27 rfl HS15.out ?_; rw [toList_toArray'])
    | (go_at_call 35; go_loud (refine HN.out.mono ?_; rintro e W1 ⟨rfl, hb⟩; have HB2 := Lib.hid (HB1.out.trans (hb.mono HB1.out.size)); clear hb)))
  go_ret2
  exact ⟨rfl, HB2.out⟩

set_option maxHeartbeats 4000000 in
set_option maxRecDepth 100000 in
theorem sum_any (L : List EvD) (k : Nat) (nc na : Int) (w : World) : Calls Tryz.prog 16 #[.agg (ofArr L k nc na)] w fun e w' => e = .returned (.agg (ofArr L k nc na)) ∧ Below w.heap.size w w' := by
  unfold ofArr
  generalize cntK L 5 k = k5
  generalize cntK L 6 k = k6
  generalize cntK L 8 k = k8
  generalize cntK L 10 k = k10
  have HB := Lib.hid (show ∀ X Y, Below w.heap.size w ((w.alloc X).alloc Y) from fun X Y => ((Below.refl _ w).alloc (Nat.le_refl _) _).alloc (by simp) _)
  go_enter Tryz.func16, Tryz.ntmps16
  go_wp2
  have hh := heap_alloc_last (w.alloc (.cells #[.int .i64 nc, .int .i64 k5, .int .i64 k6, .int .i64 na, .int .i64 k8, .int .i64 k10, .int .i64 0, .int .i64 0, .int .i64 0, .int .i64 0] 44)) (.cells #[.int .i64 nc, .int .i64 k5, .int .i64 k6, .int .i64 na, .int .i64 k8, .int .i64 k10, .int .i64 0, .int .i64 0, .int .i64 0, .int .i64 0] 52)
  rw [show (w.alloc (.cells #[.int .i64 nc, .int .i64 k5, .int .i64 k6, .int .i64 na, .int .i64 k8, .int .i64 k10, .int .i64 0, .int .i64 0, .int .i64 0, .int .i64 0] 44)).heap.size = w.heap.size + 1 by simp] at hh
  refine bodyPost_ret (results_cell_row rfl _ _ (w.heap.size + 1) 52 _ (0, 0) _ rfl hh Tryz.underlying52 rfl size52) rfl ?_
  exact ⟨rfl, HB.out _ _⟩

set_option maxHeartbeats 8000000 in
set_option maxRecDepth 100000 in
theorem summarize_any (A : Option Addr) (c : Nat) (L : List EvD) (cc : Array Value) (w : World) (hL : TrAt w w.heap.size A L) (hlen : L.length ≤ 60) (hC : Ref w cc) :
    Calls Tryz.prog 14 #[.agg cc, .slice A L.length c] w fun e w' => e = .returned (.agg (ofArr L L.length (callK L L.length).length (applK L L.length).length)) ∧ Below w.heap.size w w' := by
  have hb1 : Below w.heap.size w ((w.alloc (.cells cc 27)).alloc (.cells #[.int .i64 0, .int .i64 0, .int .i64 0, .int .i64 0, .int .i64 0, .int .i64 0, .int .i64 0, .int .i64 0, .int .i64 0, .int .i64 0] 44)) := ((Below.refl _ w).alloc (Nat.le_refl _) _).alloc (by simp) _
  have hz1 : ((w.alloc (.cells cc 27)).alloc (.cells #[.int .i64 0, .int .i64 0, .int .i64 0, .int .i64 0, .int .i64 0, .int .i64 0, .int .i64 0, .int .i64 0, .int .i64 0, .int .i64 0] 44)).heap.size = w.heap.size + 2 := by simp
  have HB1 := Lib.hid hb1
  have HZ1 := Lib.hid hz1
  have HRG := Lib.hid (box_range w cc 27 ((w.alloc (.cells cc 27)).alloc (.cells #[.int .i64 0, .int .i64 0, .int .i64 0, .int .i64 0, .int .i64 0, .int .i64 0, .int .i64 0, .int .i64 0, .int .i64 0, .int .i64 0] 44)) ((Below.refl (w.heap.size + 1) (w.alloc (.cells cc 27))).alloc (by simp) _))
  have HS15 := Lib.hid (sizeC hC)
  have HAN := Lib.hid (analyse_any A c L cc ((w.alloc (.cells cc 27)).alloc (.cells #[.int .i64 0, .int .i64 0, .int .i64 0, .int .i64 0, .int .i64 0, .int .i64 0, .int .i64 0, .int .i64 0, .int .i64 0, .int .i64 0] 44)) ((hL.below hb1).mono hb1.size) hlen (hC.at hb1))
  have HKL := Lib.hid (callK_len L L.length)
  have HAL := Lib.hid (applK_len L L.length)
  have HL := Lib.hid hL
  have HGZ := Lib.hid (show ((w.alloc (.cells cc 27)).alloc (.cells #[.int .i64 0, .int .i64 0, .int .i64 0, .int .i64 0, .int .i64 0, .int .i64 0, .int .i64 0, .int .i64 0, .int .i64 0, .int .i64 0] 44)).heap[w.heap.size + 1]? = some (.cells #[.int .i64 0, .int .i64 0, .int .i64 0, .int .i64 0, .int .i64 0, .int .i64 0, .int .i64 0, .int .i64 0, .int .i64 0, .int .i64 0] 44) from by
    have h := heap_alloc_last (w.alloc (.cells cc 27)) (.cells #[.int .i64 0, .int .i64 0, .int .i64 0, .int .i64 0, .int .i64 0, .int .i64 0, .int .i64 0, .int .i64 0, .int .i64 0, .int .i64 0] 44)
    rw [show (w.alloc (.cells cc 27)).heap.size = w.heap.size + 1 by simp] at h
    exact h)
  clear hL hC hb1 hz1
  obtain ⟨C, hCC⟩ : ∃ C, C = callK L L.length := ⟨_, rfl⟩
  obtain ⟨na, hna⟩ : ∃ na : Int, na = (applK L L.length).length := ⟨_, rfl⟩
  rw [← hCC, ← hna] at HAN ⊢
  rw [← hCC] at HKL
  clear hCC hna
  have hn := HKL.out
  go_enter Tryz.func14, Tryz.ntmps14
  go_wp2_with (first
    | (with_reducible refine wpList_load_mid rfl 27 (.tmp 2) rfl w.heap.size 0 rfl cc.toList _ HRG.out Tryz.underlying27 rfl HS15.out ?_; rw [toList_toArray'])
    | (go_at_call 34; go_loud (refine HAN.out.mono ?_; rintro e W1 ⟨A', c', rfl, hci, hb⟩; have HCI := Lib.hid hci; have HW1 := Lib.hid hb; clear hci hb))
    | (refine wpList_store_at2 rfl 111 (.tmp 5) (.tmp 13) rfl W1 _ #[.slice A' C.length c', .int .i64 na, .int .i64 0, .int .i64 0] rfl rfl rfl size111 rfl rfl ?_)
    | (refine wpList_store_at2 rfl 44 (.tmp 6) (.tmp 23) rfl (W1.alloc (.cells #[.slice A' C.length c', .int .i64 na, .int .i64 0, .int .i64 0] 111)) _ (ofArr L 0 C.length na) rfl rfl rfl size44 rfl rfl ?_))
  obtain ⟨W6, hW6⟩ : ∃ W6, W6 = ((W1.alloc (.cells #[.slice A' C.length c', .int .i64 na, .int .i64 0, .int .i64 0] 111)).alloc (.cells #[.int .i64 C.length, .int .i64 0, .int .i64 0, .int .i64 na, .int .i64 0, .int .i64 0, .int .i64 0, .int .i64 0, .int .i64 0, .int .i64 0] 44)) := ⟨_, rfl⟩
  rw [← hW6]
  have HG0 := Lib.hid (show W6.heap[W1.heap.size + 1]? = some (.cells (ofArr L 0 C.length na) 44) from by
    rw [hW6]
    have h := heap_alloc_last (W1.alloc (.cells #[.slice A' C.length c', .int .i64 na, .int .i64 0, .int .i64 0] 111)) (.cells #[.int .i64 C.length, .int .i64 0, .int .i64 0, .int .i64 na, .int .i64 0, .int .i64 0, .int .i64 0, .int .i64 0, .int .i64 0, .int .i64 0] 44)
    rw [show (W1.alloc (.cells #[.slice A' C.length c', .int .i64 na, .int .i64 0, .int .i64 0] 111)).heap.size = W1.heap.size + 1 by simp] at h
    exact h)
  have HB16 := Lib.hid (show ∀ wr, Below (W1.heap.size + 1) W6 wr → Below W1.heap.size W1 wr from fun wr h => by
    have h1 : Below W1.heap.size W1 W6 := by rw [hW6]; exact ((Below.refl _ W1).alloc (Nat.le_refl _) _).alloc (by simp) _
    exact h1.trans (h.mono (by omega)))
  have HBX := Lib.hid (show ∀ wr, Below (W1.heap.size + 1) W6 wr → Below (w.heap.size + 2) ((w.alloc (.cells cc 27)).alloc (.cells #[.int .i64 0, .int .i64 0, .int .i64 0, .int .i64 0, .int .i64 0, .int .i64 0, .int .i64 0, .int .i64 0, .int .i64 0, .int .i64 0] 44)) wr from fun wr h => by
    have h2 := HW1.out.trans ((HB16.out wr h).mono HW1.out.size)
    rw [HZ1.out] at h2
    exact h2)
  have HBW := Lib.hid (show ∀ wr, Below (W1.heap.size + 1) W6 wr → Below w.heap.size w wr from fun wr h => HB1.out.trans ((HBX.out wr h).mono (by omega)))
  have HF0 := Lib.hid (show ∀ wr, Below (W1.heap.size + 1) W6 wr → wr.cell? ⟨W1.heap.size, 0, none⟩ = some (.slice A' C.length c') from fun wr h => (h.cell (p := ⟨W1.heap.size, 0, none⟩) (Nat.lt_succ_self _)).trans (by rw [hW6]; simp))
  have HS1 := Lib.hid (show w.heap.size + 2 ≤ W1.heap.size from (by have := HW1.out.size; rw [HZ1.out] at this; exact this))
  clear hW6 HKL HAL
  go_loopw [26] (fun i wr => ∃ k : Nat, k ≤ L.length ∧ i = .int .i64 k ∧ Hid (wr.heap[W1.heap.size + 1]? = some (.cells (ofArr L k C.length na) 44)) ∧ Hid (Below (W1.heap.size + 1) W6 wr)) (fun i _ => L.length - (intOf i).toNat)
  case atStart => exact ⟨0, Nat.zero_le _, rfl, HG0, Lib.hid (Below.refl _ _)⟩
  case round =>
    obtain ⟨k, hk, rfl, HH, HBK⟩ := hrel
    by_cases hlt : k < L.length
    · obtain ⟨x, hx⟩ : ∃ x, L[k]? = some x := ⟨_, List.getElem?_eq_getElem hlt⟩
      obtain ⟨b, o, P, rfl, hbl, hr, hE⟩ := HL.out k x hx
      have HRR := Lib.hid (show wr.rangeAt b (o + k * 28) (evCells x P) from fun j v hv => ((HBW.out wr HBK.out).cell (p := ⟨b, o + k * 28 + j, none⟩) hbl).trans (hr j v hv))
      have H28 := Lib.hid (evSize x P)
      have H28' := Lib.hid (evSizeA x P)
      have HSZ := Lib.hid (evSize28 x P)
      have HONE := Lib.hid (evOneA x P)
      have q0 : (evCells x P).toArray[0]? = some (.int .i64 x.kind) := rfl
      have hlt6 : W1.heap.size + 1 < wr.heap.size := (Array.getElem?_eq_some_iff.1 HH.out).1
      have HX := Lib.hid hx
      obtain ⟨cs, hcs⟩ : ∃ cs, cs = evCells x P := ⟨_, rfl⟩
      rw [← hcs] at HRR H28 H28' HSZ HONE q0
      obtain ⟨ca, hca⟩ : ∃ ca, ca = cs.toArray := ⟨_, rfl⟩
      rw [← hca] at H28' HSZ HONE q0
      have HCA := Lib.hid hca
      have hh' : (wr.alloc (.cells ca 105)).heap[W1.heap.size + 1]? = some (.cells (ofArr L k C.length na) 44) := (((Below.refl wr.heap.size wr).alloc (Nat.le_refl _) (.cells ca 105)).block _ hlt6).trans HH.out
      have HHH := Lib.hid hh'
      have HBKK := Lib.hid (HBK.out.alloc (by omega) (.cells ca 105))
      clear hr hE hx hcs hca hbl hlt6
      by_cases hq5 : x.kind = 5
      · rw [hq5] at q0
        have HS := Lib.hid (show (ofArr L k C.length na).setIfInBounds 1 (.int .i64 (cntK L 5 k + 1)) = ofArr L (k + 1) C.length na by
          unfold ofArr
          rw [cntK_yes (q := 5) HX.out (by omega), cntK_no (q := 6) HX.out (by omega), cntK_no (q := 8) HX.out (by omega), cntK_no (q := 10) HX.out (by omega)]
          rfl)
        have hc := cntK_len L 5 k
        have hw1 : IntKind.i64.wrap (cntK L 5 k + 1) = cntK L 5 k + 1 := wrap_small (by omega) (by omega)
        have s1 : (wr.alloc (.cells ca 105)).cell? ⟨W1.heap.size + 1, 1, none⟩ = some (.int .i64 (cntK L 5 k)) := cells_ofA hh' rfl
        have fr : (wr.alloc (.cells ca 105)).frozen? ⟨W1.heap.size + 1, 1, none⟩ = false := frozen_of hh' 1
        clear hq5 hc hh'
        go_wp2_with (first | (with_reducible refine wpList_load_mid rfl 105 (.tmp 28) rfl b (o + k * 28) rfl cs _ HRR.out Tryz.underlying105 rfl H28.out ?_; rw [← HCA.out]) | (refine wpList_store_at2 rfl 105 (.tmp 8) (.tmp 29) rfl wr _ ca rfl rfl rfl H28'.out HSZ.out HONE.out ?_))
        go_roundw
        case rel => exact ⟨k + 1, by omega, by go_num, by rw [← HS.out]; exact setCell_block HHH.out _, Lib.hid (below_setCell HBKK.out (Nat.le_refl _))⟩
        case measure => simp [intOf]; omega
      by_cases hq6 : x.kind = 6
      · rw [hq6] at q0
        have HS := Lib.hid (show (ofArr L k C.length na).setIfInBounds 2 (.int .i64 (cntK L 6 k + 1)) = ofArr L (k + 1) C.length na by
          unfold ofArr
          rw [cntK_yes (q := 6) HX.out (by omega), cntK_no (q := 5) HX.out (by omega), cntK_no (q := 8) HX.out (by omega), cntK_no (q := 10) HX.out (by omega)]
          rfl)
        have hc := cntK_len L 6 k
        have hw1 : IntKind.i64.wrap (cntK L 6 k + 1) = cntK L 6 k + 1 := wrap_small (by omega) (by omega)
        have s1 : (wr.alloc (.cells ca 105)).cell? ⟨W1.heap.size + 1, 2, none⟩ = some (.int .i64 (cntK L 6 k)) := cells_ofA hh' rfl
        have fr : (wr.alloc (.cells ca 105)).frozen? ⟨W1.heap.size + 1, 2, none⟩ = false := frozen_of hh' 2
        clear hq6 hc hh'
        go_wp2_with (first | (with_reducible refine wpList_load_mid rfl 105 (.tmp 28) rfl b (o + k * 28) rfl cs _ HRR.out Tryz.underlying105 rfl H28.out ?_; rw [← HCA.out]) | (refine wpList_store_at2 rfl 105 (.tmp 8) (.tmp 29) rfl wr _ ca rfl rfl rfl H28'.out HSZ.out HONE.out ?_))
        go_roundw
        case rel => exact ⟨k + 1, by omega, by go_num, by rw [← HS.out]; exact setCell_block HHH.out _, Lib.hid (below_setCell HBKK.out (Nat.le_refl _))⟩
        case measure => simp [intOf]; omega
      by_cases hq8 : x.kind = 8
      · rw [hq8] at q0
        have HS := Lib.hid (show (ofArr L k C.length na).setIfInBounds 4 (.int .i64 (cntK L 8 k + 1)) = ofArr L (k + 1) C.length na by
          unfold ofArr
          rw [cntK_yes (q := 8) HX.out (by omega), cntK_no (q := 5) HX.out (by omega), cntK_no (q := 6) HX.out (by omega), cntK_no (q := 10) HX.out (by omega)]
          rfl)
        have hc := cntK_len L 8 k
        have hw1 : IntKind.i64.wrap (cntK L 8 k + 1) = cntK L 8 k + 1 := wrap_small (by omega) (by omega)
        have s1 : (wr.alloc (.cells ca 105)).cell? ⟨W1.heap.size + 1, 4, none⟩ = some (.int .i64 (cntK L 8 k)) := cells_ofA hh' rfl
        have fr : (wr.alloc (.cells ca 105)).frozen? ⟨W1.heap.size + 1, 4, none⟩ = false := frozen_of hh' 4
        clear hq8 hc hh'
        go_wp2_with (first | (with_reducible refine wpList_load_mid rfl 105 (.tmp 28) rfl b (o + k * 28) rfl cs _ HRR.out Tryz.underlying105 rfl H28.out ?_; rw [← HCA.out]) | (refine wpList_store_at2 rfl 105 (.tmp 8) (.tmp 29) rfl wr _ ca rfl rfl rfl H28'.out HSZ.out HONE.out ?_))
        go_roundw
        case rel => exact ⟨k + 1, by omega, by go_num, by rw [← HS.out]; exact setCell_block HHH.out _, Lib.hid (below_setCell HBKK.out (Nat.le_refl _))⟩
        case measure => simp [intOf]; omega
      by_cases hq10 : x.kind = 10
      · rw [hq10] at q0
        have HS := Lib.hid (show (ofArr L k C.length na).setIfInBounds 5 (.int .i64 (cntK L 10 k + 1)) = ofArr L (k + 1) C.length na by
          unfold ofArr
          rw [cntK_yes (q := 10) HX.out (by omega), cntK_no (q := 5) HX.out (by omega), cntK_no (q := 6) HX.out (by omega), cntK_no (q := 8) HX.out (by omega)]
          rfl)
        have hc := cntK_len L 10 k
        have hw1 : IntKind.i64.wrap (cntK L 10 k + 1) = cntK L 10 k + 1 := wrap_small (by omega) (by omega)
        have s1 : (wr.alloc (.cells ca 105)).cell? ⟨W1.heap.size + 1, 5, none⟩ = some (.int .i64 (cntK L 10 k)) := cells_ofA hh' rfl
        have fr : (wr.alloc (.cells ca 105)).frozen? ⟨W1.heap.size + 1, 5, none⟩ = false := frozen_of hh' 5
        clear hq10 hc hh'
        go_wp2_with (first | (with_reducible refine wpList_load_mid rfl 105 (.tmp 28) rfl b (o + k * 28) rfl cs _ HRR.out Tryz.underlying105 rfl H28.out ?_; rw [← HCA.out]) | (refine wpList_store_at2 rfl 105 (.tmp 8) (.tmp 29) rfl wr _ ca rfl rfl rfl H28'.out HSZ.out HONE.out ?_))
        go_roundw
        case rel => exact ⟨k + 1, by omega, by go_num, by rw [← HS.out]; exact setCell_block HHH.out _, Lib.hid (below_setCell HBKK.out (Nat.le_refl _))⟩
        case measure => simp [intOf]; omega
      have HS := Lib.hid (show ofArr L k C.length na = ofArr L (k + 1) C.length na by
        unfold ofArr
        rw [cntK_no (q := 5) HX.out hq5, cntK_no (q := 6) HX.out hq6, cntK_no (q := 8) HX.out hq8, cntK_no (q := 10) HX.out hq10])
      clear hh'
      go_wp2_with (first | (with_reducible refine wpList_load_mid rfl 105 (.tmp 28) rfl b (o + k * 28) rfl cs _ HRR.out Tryz.underlying105 rfl H28.out ?_; rw [← HCA.out]) | (refine wpList_store_at2 rfl 105 (.tmp 8) (.tmp 29) rfl wr _ ca rfl rfl rfl H28'.out HSZ.out HONE.out ?_))
      go_roundw
      case rel => exact ⟨k + 1, by omega, by go_num, by rw [← HS.out]; exact HHH, HBKK⟩
      case measure => simp [intOf]; omega
    · obtain rfl : k = L.length := by omega
      have f0 := HF0.out wr HBK.out
      have HCW := Lib.hid (HCI.out.below (HB16.out wr HBK.out))
      have HGL := Lib.hid (show W1.heap.size + 1 < wr.heap.size from (Array.getElem?_eq_some_iff.1 HH.out).1)
      obtain ⟨wo, hwo⟩ : ∃ wo : World, wo = wr := ⟨_, rfl⟩
      have HWO := Lib.hid hwo
      clear hwo
      go_wp2
      go_loopw [60] (fun i w3 => ∃ m : Nat, m ≤ C.length ∧ i = .int .i64 m ∧ Hid (Below wo.heap.size wo w3)) (fun i _ => C.length - (intOf i).toNat)
      case atStart => exact ⟨0, Nat.zero_le _, rfl, Lib.hid (by rw [HWO.out]; exact Below.refl _ _)⟩
      case round =>
        obtain ⟨m, hm, rfl, HB3⟩ := hrel
        by_cases hmn : m < C.length
        · obtain ⟨y, hy⟩ : ∃ y, C[m]? = some y := ⟨_, List.getElem?_eq_getElem hmn⟩
          have HCX := Lib.hid (show CallsIn wo A' C by rw [HWO.out]; exact HCW.out)
          obtain ⟨b, off, hA', hbl, c0, c1, c2, c3, c4⟩ := HCX.out.below HB3.out m y hy
          subst hA'
          clear hy hbl f0
          go_wp2
          go_roundw
          case rel => exact ⟨m + 1, by omega, by go_num, Lib.hid (HB3.out.alloc HB3.out.size _)⟩
          case measure => simp [intOf]; omega
        · obtain rfl : C.length = m := by omega
          obtain ⟨ca, hca⟩ : ∃ ca, ca = ofArr L L.length C.length na := ⟨_, rfl⟩
          have HCA := Lib.hid hca
          have HONE := Lib.hid (show ca.all (·.oneCell') = true by rw [hca]; simp [ofArr, Value.oneCell'])
          have H10 := Lib.hid (show (Tryz.prog.info? 44).map (·.size) = some ca.size by rw [hca]; exact size44)
          have H10' := Lib.hid (show (Tryz.prog.info? 44).map (·.size) = some ca.toList.length by rw [hca]; exact size44)
          have HT10 := Lib.hid (show (10 : Nat) = ca.size by rw [hca]; rfl)
          rw [← HWO.out] at HH HBK HGL
          rw [← hca] at HH
          have HLR := Lib.hid (rangeAt_new ((HB3.out.block (W1.heap.size + 1) HGL.out).trans HH.out))
          have HZ6 := Lib.hid ((HB3.out.block (w.heap.size + 1) (by have := HGL.out; have := HS1.out; omega)).trans (((HBX.out wo HBK.out).block (w.heap.size + 1) (by omega)).trans HGZ.out))
          have HBE := Lib.hid (show Below w.heap.size w wr from (HBW.out wo HBK.out).trans (HB3.out.mono (HBW.out wo HBK.out).size))
          clear hca f0
          go_wp2_with (first | (with_reducible refine wpList_load_mid rfl 44 (.tmp 6) rfl (W1.heap.size + 1) 0 rfl ca.toList _ HLR.out Tryz.underlying44 rfl H10'.out ?_; rw [show ca.toList.toArray = ca from rfl]) | (refine wpList_store_row rfl 44 (.tmp 4) (.tmp 79) rfl (w.heap.size + 1) 44 _ ca rfl rfl HZ6.out H10.out HT10.out HONE.out ?_))
          (try simp only [Exit.inBlock, Exit.then])
          refine bodyPost_ret (results_cell_row rfl _ _ (w.heap.size + 1) 44 ca (0, 0) _ rfl (setRow_heap _ _ _ _ _ _ HZ6.out) Tryz.underlying44 rfl H10.out) rfl ?_
          exact ⟨by rw [HCA.out], below_setRow' HBE.out (by omega) _⟩
end Go.Proofs.YtgaimkgaooiieaaGreatDoor
