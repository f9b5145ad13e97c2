/-
  VerifyCommittedLog of samaritanlaw53 answers true for every trace within the reach.
-/
import Derived.Test.YtjhhdklbiibhdaaGreatDoorAwakeRowE
import Derived.Test.YtjhhdklbiibhdaaGreatDoorAwakeRowF
import Derived.Laws.BytesArg
import Derived.Deep.QuietTactic
import Derived.BigQuiet
namespace Go.Proofs.YtjhhdklbiibhdaaGreatDoor
open Go Go.RowKit Go.Ev

/-- what the law appends -/
def appE (i : Nat) (y : EnD) : EvD := ⟨7, 0, 7, 0, 0, (i : Int) + 1, y.term, y.ek, y.body⟩
def appL (E : List EnD) (k : Nat) : List EvD := (List.range k).map fun i => appE i (E[i]?.getD ⟨0, 0, []⟩)
theorem appL_snoc (E : List EnD) (k : Nat) (y : EnD) (hy : E[k]? = some y) : appL E (k + 1) = appL E k ++ [appE k y] := by
  simp [appL, List.range_succ, hy]
theorem appL_len (E : List EnD) (k : Nat) : (appL E k).length = k := by simp [appL]
theorem appL_n (E : List EnD) (k : Nat) (hk : k ≤ E.length) : ∀ x ∈ appL E k, x.n ≤ E.length := fun x hx => by
  simp only [appL, List.mem_map, List.mem_range] at hx
  obtain ⟨i, hi, rfl⟩ := hx
  show (i : Int) + 1 ≤ E.length
  omega
theorem appL_body (E : List EnD) (k m : Nat) (h : ∀ y ∈ E, y.body.length ≤ m) : ∀ x ∈ appL E k, x.body.length ≤ m := fun x hx => by
  simp only [appL, List.mem_map, List.mem_range] at hx
  obtain ⟨i, hi, rfl⟩ := hx
  show ((E[i]?.getD ⟨0, 0, []⟩).body.length) ≤ m
  cases e : E[i]? with
  | none => simp
  | some y => exact h y (List.mem_of_getElem? e)
/-- bytes as a string -/
theorem conv_any {W : World} {B : Nat} {A : Option Addr} {xs : List Int} {c : Nat} (h : BytesAt 5 W B A xs) : (convert 34 9 (.slice A xs.length c)).run Tryz.prog W = .ok (.string (strOfNums xs)) W := by
  by_cases h0 : 0 < xs.length
  · obtain ⟨b, o, rfl, _, hc⟩ := h h0
    exact run_convert_bytes_arg W 34 5 Tryz.underlying34 Tryz.underlying5 b o xs.length c xs rfl hc 9 Tryz.underlying9
  · have e : xs = [] := List.eq_nil_of_length_eq_zero (by omega)
    subst e
    cases A with
    | none => exact run_convert_bytes_nil W 34 5 Tryz.underlying34 Tryz.underlying5 0 c 9 Tryz.underlying9
    | some a =>
      show (convert 34 9 (.slice (some a) 0 c)).run Tryz.prog W = _
      rw [run_convert_bytes_string W 34 9 5 _ 0 c Tryz.underlying34 Tryz.underlying5 Tryz.underlying9, run_bytesToString W a 0 c [] (by simp [loadCells, loadCellsFrom])]
      rfl
/-- the rest of a new event -/
def ztl : List Value := [.int .i64 0, .int .i64 0, .int .i64 0, .int .i64 0, .int .i64 0, .int .i64 0, .int .i64 0, .int .i64 0, .int .i64 0, .int .i64 0, .int .i64 0, .int .i64 0, .int .i64 0, .int .i64 0, .int .i64 0, .int .i64 0, .slice none 0 0, .slice none 0 0, .slice none 0 0]
theorem ztl_one : ∀ v ∈ ztl, v.oneCell' = true := by
  intro v hv
  simp only [ztl, List.mem_cons, List.not_mem_nil, or_false] at hv
  rcases hv with rfl | rfl | rfl | rfl | rfl | rfl | rfl | rfl | rfl | rfl | rfl | rfl | rfl | rfl | rfl | rfl | rfl | rfl | rfl <;> rfl
theorem rowEv_below {W W' : World} {A : Option Addr} {L : List EvD} (h : RowIn 5 28 (EvC 5) W A L) (hb : Below W.heap.size W W') : RowIn 5 28 (EvC 5) W' A L := RowIn.below (C := EvC 5) (evC_stays 5) (evC_lowers 5) h hb
theorem rowEn_below {W W' : World} {A : Option Addr} {L : List EnD} (h : RowIn 5 3 (EnC 5) W A L) (hb : Below W.heap.size W W') : RowIn 5 3 (EnC 5) W' A L := RowIn.below (C := EnC 5) (enC_stays 5) (enC_lowers 5) h hb
def EvRet (W : World) (L : List EvD) (e : Ending) (w' : World) : Prop := ∃ A' c', e = .returned (.slice A' L.length c') ∧ RowIn 5 28 (EvC 5) w' A' L ∧ OwnR 5 46 28 (EvC 5) w' W.heap.size (.slice A' L.length c') L ∧ Below W.heap.size W w'
def EnRet (W : World) (E : List EnD) (e : Ending) (w' : World) : Prop := ∃ A' c', e = .returned (.slice A' E.length c') ∧ RowIn 5 3 (EnC 5) w' A' E ∧ Below W.heap.size W w'
theorem evRet_of {W w' : World} {L : List EvD} {e : Ending} (h : ∃ v, e = .returned v ∧ OwnR 5 46 28 (EvC 5) w' W.heap.size v L ∧ Below W.heap.size W w') : EvRet W L e w' := by
  obtain ⟨v, rfl, ho, hb⟩ := h
  obtain ⟨A, c, rfl, hr⟩ := OwnR.rowIn (C := EvC 5) (evC_lowers 5) ho
  exact ⟨A, c, rfl, hr, ho, hb⟩
theorem enRet_of {W w' : World} {E : List EnD} {e : Ending} (h : ∃ v, e = .returned v ∧ OwnR 5 36 3 (EnC 5) w' W.heap.size v E ∧ Below W.heap.size W w') : EnRet W E e w' := by
  obtain ⟨v, rfl, ho, hb⟩ := h
  obtain ⟨A, c, rfl, hr⟩ := OwnR.rowIn (C := EnC 5) (enC_lowers 5) ho
  exact ⟨A, c, rfl, hr, hb⟩

set_option maxHeartbeats 8000000 in
set_option maxRecDepth 100000 in
theorem verifyCommittedLog_any (A : Option Addr) (c : Nat) (L : List EvD) (w : World) (hL : RowIn 5 28 (EvC 5) w A L) (hlen : L.length ≤ 140737488355328) (hbody : ∀ x ∈ L, x.body.length ≤ 140737488355328) (hw : 4 ≤ w.heap.size)
    (haw : ∀ W : World, Below w.heap.size w W → Calls Tryz.prog 8 #[] W fun e w' => e = .returned (.bool true) ∧ Below W.heap.size W w') (htb : ∀ W : World, Below w.heap.size w W → t64.In W) :
    Calls Tryz.prog 5 #[.slice A L.length c] w fun e w' => e = .returned (.bool true) ∧ Below w.heap.size w w' := by
  obtain ⟨i0, hi, hz0, hz1, hz2⟩ := info_parts info46
  have HZ0 := Lib.hid hz0
  clear hz0
  have HA := Lib.hid haw
  have HFW := Lib.hid (show ∀ W : World, Below w.heap.size w W → Calls Tryz.prog 9 #[.slice A L.length c] W (FewRet W L) from fun W hW => few_any A c L W (rowEv_below hL hW) hlen hbody (Nat.le_trans hw hW.size) (htb W hW))
  by_cases hfew : fewB L = true
  · obtain ⟨hf80, hfb⟩ := few_of hfew
    have CEV := Lib.hid (show ∀ W : World, Below w.heap.size w W → Calls Tryz.prog 13 #[.slice A L.length c] W (EvRet W L) from fun W hW => (events_any A c L W (rowEv_below hL hW) (by omega) hfb).mono fun _ _ h => evRet_of h)
    have CCM := Lib.hid (show ∀ (W : World) (A' : Option Addr) (c' : Nat) (M : List EvD), RowIn 5 28 (EvC 5) W A' M → M.length ≤ 1000 → (∀ x ∈ M, x.body.length ≤ 2000) → Calls Tryz.prog 17 #[.slice A' M.length c'] W (EnRet W (logOf M)) from fun W A' c' M h1 h2 h3 => (committed_any A' c' M W h1 h2 h3).mono fun _ _ h => enRet_of h)
    have CLG := Lib.hid (show ∀ W : World, Below w.heap.size w W → Calls Tryz.prog 18 #[.slice A L.length c] W (EnRet W (logOf L)) from fun W hW => (log_any A c L W (rowEv_below hL hW) (by omega)).mono fun _ _ h => enRet_of h)
    have HFB := Lib.hid hfb
    have HEB := Lib.hid (show ∀ y ∈ logOf L, y.body.length ≤ 2000 from logOf_body L [] 2000 hfb (fun y hy => by cases hy))
    have HMORE := Lib.hid (show ∀ M : List EvD, (∀ x ∈ M, x.n ≤ (logOf L).length) → logOf (L ++ M) = logOf L from logOf_more L)
    have hEl := logOf_le L
    obtain ⟨E, hE⟩ : ∃ E, E = logOf L := ⟨_, rfl⟩
    rw [← hE] at CLG HEB HMORE hEl
    have HE := Lib.hid hE
    have HFY := Lib.hid (show ∀ W : World, Below w.heap.size w W → Calls Tryz.prog 9 #[.slice A L.length c] W fun e w' => e = .returned (.bool true) ∧ Below W.heap.size W w' from fun W hW => (HFW.out W hW).mono fun _ _ h => ⟨by rw [← hfew]; exact h.1, h.2⟩)
    clear hL hbody haw htb hfb hE HFW hfew
    obtain ⟨n, hn⟩ : ∃ n, n = E.length := ⟨_, rfl⟩
    rw [← hn] at hEl
    have HN := Lib.hid hn
    clear hn
    go_enter Tryz.func5, Tryz.ntmps5
    go_wp2_with (first | (go_at_call 8; refine (HA.out _ (Below.refl _ _)).mono ?_; rintro e w1 ⟨rfl, b1⟩) | (go_at_call 9; refine (HFY.out _ b1).mono ?_; rintro e w2 ⟨rfl, hb2⟩; have b2 := b1.trans (hb2.mono b1.size); clear hb2) | (go_at_call 17; refine (CCM.out _ _ _ L HS3.out (by omega) HFB.out).mono ?_; rintro e w4 ⟨A4, c4, rfl, hS4, hb4⟩; rw [← HE.out] at hS4; rw [← HE.out, ← HN.out]; have HS4 := Lib.hid hS4; have b4 := b3.trans (hb4.mono b3.size); clear hS4 hb4) | (go_at_call 18; refine (CLG.out _ b4).mono ?_; rintro e w5 ⟨A5, c5, rfl, hS5, hb5⟩; have HS5 := Lib.hid hS5; have HG5 := Lib.hid (rowEn_below HS4.out hb5); have b5 := b4.trans (hb5.mono b4.size); rw [← HN.out]; clear hS5 hb5) | (go_at_call 13; refine (CEV.out _ b5).mono ?_; rintro e w6 ⟨A6, c6, rfl, _, hO6, hb6⟩; have HO6 := Lib.hid hO6; have HB6 := Lib.hid hb6; clear hO6 hb6) | (go_at_call 13; refine (CEV.out _ b2).mono ?_; rintro e w3 ⟨A3, c3, rfl, hS3, _, hb3⟩; have HS3 := Lib.hid hS3; have b3 := b2.trans (hb3.mono b2.size); clear hS3 hb3))
    go_loopw [5, 29] (fun v i wr => ∃ k : Nat, k ≤ n ∧ i = .int .i64 k ∧ OwnR 5 46 28 (EvC 5) wr w5.heap.size v (L ++ appL E k) ∧ Below w5.heap.size w5 wr) (fun _ i _ => n - (intOf i).toNat)
    case atStart => exact ⟨0, Nat.zero_le _, rfl, by rw [show appL E 0 = [] from rfl, List.append_nil]; exact HO6.out, HB6.out⟩
    case round =>
      obtain ⟨k, hk, rfl, hrow, hb⟩ := hrel
      by_cases hlt : k < n
      · obtain ⟨y, hy⟩ : ∃ y, E[k]? = some y := ⟨_, List.getElem?_eq_getElem (by rw [← HN.out]; exact hlt)⟩
        obtain ⟨bg, og, csg, rfl, hbg, _, hrg, Ag, cg, rfl, hBg, hng⟩ := HG5.out k y hy
        obtain ⟨bw, ow, csw, rfl, hbw, _, hrw, Aw, cw, rfl, hBw, hnw⟩ := HS5.out k y hy
        have g0 : wr.cell? ⟨bg, og + k * 3, none⟩ = some (.int .i64 y.term) := (hb.cell (p := ⟨bg, og + k * 3, none⟩) hbg).trans (hrg 0 _ rfl)
        have g1 : wr.cell? ⟨bg, og + k * 3 + 1, none⟩ = some (.int .i64 y.ek) := (hb.cell (p := ⟨bg, og + k * 3 + 1, none⟩) hbg).trans (hrg 1 _ rfl)
        have g2 : wr.cell? ⟨bg, og + k * 3 + 2, none⟩ = some (.slice Ag y.body.length cg) := (hb.cell (p := ⟨bg, og + k * 3 + 2, none⟩) hbg).trans (hrg 2 _ rfl)
        have e0 : wr.cell? ⟨bw, ow + k * 3, none⟩ = some (.int .i64 y.term) := (hb.cell (p := ⟨bw, ow + k * 3, none⟩) hbw).trans (hrw 0 _ rfl)
        have e1 : wr.cell? ⟨bw, ow + k * 3 + 1, none⟩ = some (.int .i64 y.ek) := (hb.cell (p := ⟨bw, ow + k * 3 + 1, none⟩) hbw).trans (hrw 1 _ rfl)
        have e2 : wr.cell? ⟨bw, ow + k * 3 + 2, none⟩ = some (.slice Aw y.body.length cw) := (hb.cell (p := ⟨bw, ow + k * 3 + 2, none⟩) hbw).trans (hrw 2 _ rfl)
        have hBg' : BytesAt 5 wr w5.heap.size Ag y.body := hBg.below hb
        have hBw' : BytesAt 5 wr w5.heap.size Aw y.body := hBw.below hb
        have cv1 : ∀ m, (convert 34 9 (.slice Ag y.body.length cg)).run Tryz.prog (wr.drewN m) = .ok (.string (strOfNums y.body)) (wr.drewN m) := fun m => conv_any (B := w5.heap.size) (hBg'.keep (Nat.le_refl _) fun _ _ => rfl)
        have cv2 : ∀ m, (convert 34 9 (.slice Aw y.body.length cw)).run Tryz.prog (wr.drewN m) = .ok (.string (strOfNums y.body)) (wr.drewN m) := fun m => conv_any (B := w5.heap.size) (hBw'.keep (Nat.le_refl _) fun _ _ => rfl)
        generalize strOfNums y.body = S at cv1 cv2
        have HBW := Lib.hid hBw'
        have HNW := Lib.hid hnw
        have HY := Lib.hid hy
        have HROW := Lib.hid hrow
        obtain ⟨css, hown, _, _, _⟩ := hrow
        obtain ⟨A7, c7, rfl⟩ := shape_of hown
        have hl7 : (L ++ appL E k).length = L.length + k := by rw [List.length_append, appL_len]
        rw [hl7] at HROW ⊢
        have HL7 := Lib.hid hl7
        have hsz := hb.size
        have hkn : (k : Int) < (n : Int) := by omega
        clear hown hl7 hy hBg hBw hng hnw hBg' hBw' hrg hrw
        go_wp2
        go_quiet (fail)
        have hBn : Below wr.heap.size wr ((wr.drewN nq).alloc (.cells (evCells (appE k y) Aw cw ztl).toArray 46)) := (show Below wr.heap.size wr (wr.drewN nq) from ⟨rfl, rfl, rfl, Nat.le_refl _, fun _ _ => rfl⟩).alloc (Nat.le_refl _) _
        obtain ⟨css, hown1, hcl, hcs, hC⟩ := ownEv_below HROW.out hBn
        rw [HL7.out] at hown1
        have HCL := Lib.hid hcl
        have HCS := Lib.hid hcs
        have HC := Lib.hid hC
        have HEV := Lib.hid (show EvC 5 ((wr.drewN nq).alloc (.cells (evCells (appE k y) Aw cw ztl).toArray 46)) w5.heap.size (appE k y) (evCells (appE k y) Aw cw ztl) from ⟨Aw, cw, ztl, rfl, rfl, ztl_one, HBW.out.keep hBn.size (fun b ho => hBn.block b ho.1), HNW.out⟩)
        have HCN := Lib.hid (cells_new (wr.drewN nq) (evCells (appE k y) Aw cw ztl) 46)
        have HON := Lib.hid (evCells_one (x := appE k y) (B := Aw) (cap := cw) ztl_one)
        have hBs := hBn.size
        have HBN := Lib.hid hBn
        clear hcl hcs hC hBn
        go_wp2_with (at_builtin; go_loud (refine wpList_append_own _ rfl (.tmp 71) (.tmp 79) 22 rfl w5.heap.size 46 i0 _ 28 288 Tryz.underlying22 hi HZ0.out hz1 hz2 rfl (by decide) _ _ _ rfl hown1 ⟨wr.heap.size, 0, none⟩ 1 1 (evCells (appE k y) Aw cw ztl) rfl rfl HCN.out HON.out (by unfold maxLen; omega) (by omega) (Nat.le_trans hsz hBs) ?_); intro v' w7 hown' hgrow _)
        have hb7 := (hb.trans (HBN.out.mono hsz)).grown hgrow (Nat.le_trans hsz hBs) (own_lt hown1)
        have R := OwnR.snoc (te := 5) (C := EvC 5) (L := L ++ appL E k) (x := appE k y) (cs := evCells (appE k y) Aw cw ztl) (evC_stays 5) (by decide) HL7.out.symm hown1 HCL.out HCS.out HC.out HEV.out rfl hown' hgrow
        obtain ⟨A8, c8, rfl⟩ := shape_of hown'
        have HR := Lib.hid R
        clear hown1 hgrow hown' R
        go_wp2
        go_roundw
        case rel =>
          refine ⟨k + 1, by omega, by go_num, ?_, hb7⟩
          rw [appL_snoc E k y HY.out, ← List.append_assoc]
          exact HR.out
        case measure => simp [intOf]; omega
      · obtain rfl : k = n := by omega
        obtain ⟨A7, c7, rfl, hR7⟩ := OwnR.rowIn (C := EvC 5) (evC_lowers 5) hrow
        have HR7 := Lib.hid hR7
        have HLN := Lib.hid (show logOf (L ++ appL E k) = E by rw [HMORE.out _ (appL_n E k (by rw [← HN.out]; exact Nat.le_refl _)), HE.out])
        have HMB := Lib.hid (show ∀ x ∈ L ++ appL E k, x.body.length ≤ 2000 from fun x hx => (List.mem_append.1 hx).elim (HFB.out x) (appL_body E k 2000 HEB.out x))
        have HML := Lib.hid (show (L ++ appL E k).length ≤ 1000 by rw [List.length_append, appL_len]; omega)
        obtain ⟨M, hM⟩ : ∃ M, M = L ++ appL E k := ⟨_, rfl⟩
        rw [← hM] at HR7 HLN HMB HML ⊢
        clear hrow hR7 hM hlt
        go_wp2_with (go_at_call 17; refine (CCM.out _ A7 c7 M HR7.out HML.out HMB.out).mono ?_; rintro e w8 ⟨A8, c8, rfl, _, hb8⟩; rw [HLN.out, ← HN.out])
        go_ret
        exact ⟨rfl, b5.trans ((hb.trans (hb8.mono hb.size)).mono b5.size)⟩
  · have hfew' : fewB L = false := by simpa using hfew
    have HFY := Lib.hid (show ∀ W : World, Below w.heap.size w W → Calls Tryz.prog 9 #[.slice A L.length c] W fun e w' => e = .returned (.bool false) ∧ Below W.heap.size W w' from fun W hW => (HFW.out W hW).mono fun _ _ h => ⟨by rw [← hfew']; exact h.1, h.2⟩)
    clear hL hbody haw htb HFW hfew hfew'
    go_enter Tryz.func5, Tryz.ntmps5
    go_wp2_with (first | (go_at_call 9; refine (HFY.out _ b1).mono ?_; rintro e w2 ⟨rfl, hb2⟩; have b2 := b1.trans (hb2.mono b1.size); clear hb2) | (go_at_call 8; refine (HA.out _ b2).mono ?_; rintro e w3 ⟨rfl, b3⟩) | (go_at_call 8; refine (HA.out _ (Below.refl _ _)).mono ?_; rintro e w1 ⟨rfl, b1⟩))
    go_ret
    exact ⟨rfl, b2.trans (b3.mono b2.size)⟩
end Go.Proofs.YtjhhdklbiibhdaaGreatDoor
