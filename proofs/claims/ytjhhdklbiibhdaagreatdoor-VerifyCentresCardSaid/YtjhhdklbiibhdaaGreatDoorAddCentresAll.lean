/-
  For every trace, VerifyCentres of samaritanlaw53 returns true, and the argument reads afterwards as it read before. The listed variable (deBruijn64tab of package bits) is tied to the program's text by the given card.
-/
import Derived.Test.YtjhhdklbiibhdaaGreatDoorAwakeCenI
import Derived.Carry
import Derived.Test.YtjhhdklbiibhdaaGreatDoorAwakeCenJ
import Derived.Test.YtjhhdklbiibhdaaGreatDoorAwakeCenT
import Derived.Test.YtjhhdklbiibhdaaGreatDoorAddCentresMost
namespace Go.Proofs.YtjhhdklbiibhdaaGreatDoor
open Go Go.RowKit

theorem ownF_keeps {W W' : World} {B n : Nat} {v : Value} {xs : List Value} (h : W.ownsRow B 67 2 v n xs) (hk : KeepsF W W') : W'.ownsRow B 67 2 v n xs := by
  refine ⟨h.1, ?_⟩
  rcases h.2 with h0 | ⟨g, cap, cur, hv, hg, hh, rest⟩
  · exact .inl h0
  · exact .inr ⟨g, cap, cur, hv, hg, (hk.2 g _ _ hh).trans hh, rest⟩
/-- an append to a row of violations leaves what is known of the centres -/
theorem cenInv_grown {W W' : World} {AE : Option Addr} {nE cE B cbx lbx mbx mb n b0 : Nat} {s : LogS} {v : Value} {xs : List Value} (h : CenInv W AE nE cE B cbx lbx mbx mb s) (ho : W.ownsRow b0 67 2 v n xs) (hg : W.grownBy W' v.ownBlock) :
    CenInv W' AE nE cE B cbx lbx mbx mb s := h.keep fun k o hk hne => hg.block k (Array.getElem?_eq_some_iff.1 hk).1 fun e => by
  rcases ho.2 with ⟨rfl, _⟩ | ⟨g, cap, cur, rfl, _, hh, _⟩
  · cases e
  · have e : k = g := by simpa [Value.ownBlock] using e
    subst e
    rw [hh] at hk
    cases hk
    exact hne _ _ rfl
theorem last_le {L : List EvD} {k : Nat} (hk : k ≤ 1000) : ∀ c ∈ (passL L k).1.cen, 0 ≤ c.last ∧ c.last ≤ 1000 := fun c hc => by
  have h1 := passL_behind L k c hc
  have h2 := logOf_le (L.take k)
  have h3 := List.length_take_le k L
  omega

set_option maxHeartbeats 8000000 in
set_option maxRecDepth 100000 in
theorem examineL_any (A : Option Addr) (c B cbx lbx mbx mb : Nat) (L : List EvD) (AE : Option Addr) (cE : Nat) (w : World) (hL : EvsLow w B A L) (hEn : EnLow w B AE (logOf L)) (hlen : L.length ≤ 1000) (hB : B ≤ w.heap.size) (hI : CenInv w AE (logOf L).length cE B cbx lbx mbx mb (passL L 0).1) :
    Calls Tryz.prog 30 #[.slice A L.length c, .func (.func 33) #[] #[.pointer (some ⟨cbx, 0, none⟩), .pointer (some ⟨lbx, 0, none⟩), .pointer (some ⟨mbx, 0, none⟩)]] w fun e w' => ∃ v, e = .returned v ∧ w'.ownsRow w.heap.size 67 2 v (passL L L.length).2.length (fltCells (passL L L.length).2) ∧ Below B w w' := by
  obtain ⟨i0, hi, hz0, hz1, hz2⟩ := info_parts info67
  have HL := Lib.hid hL
  have HEN := Lib.hid hEn
  have HI := Lib.hid hI
  obtain ⟨nE, hnE⟩ : ∃ nE, nE = (logOf L).length := ⟨_, rfl⟩
  rw [← hnE] at HI
  have HNE := Lib.hid hnE
  clear hL hI hEn hnE
  go_enter Tryz.func30, Tryz.ntmps30
  go_wp2
  go_loopw [5, 11] (fun v i wr => ∃ k : Nat, k ≤ L.length ∧ i = .int .i64 k ∧ wr.ownsRow w.heap.size 67 2 v (passL L k).2.length (fltCells (passL L k).2) ∧ CenInv wr AE nE cE B cbx lbx mbx mb (passL L k).1 ∧ Below B w wr) (fun _ i _ => L.length - (intOf i).toNat)
  case atStart => exact ⟨0, Nat.zero_le _, rfl, ⟨rfl, .inl ⟨rfl, rfl⟩⟩, HI.out, Below.refl _ _⟩
  case round =>
    obtain ⟨k, hk, rfl, hown, hI, hb⟩ := hrel
    by_cases hlt : k < L.length
    · obtain ⟨x, hx⟩ : ∃ x, L[k]? = some x := ⟨_, List.getElem?_eq_getElem hlt⟩
      have hLr := HL.out.below hb
      obtain ⟨b, off, C, cap, tl, rfl, hbl, hl, hrr, hone, hby⟩ := hLr k x hx
      have hbA : Below wr.heap.size wr (wr.alloc (.cells (evCells x C cap tl).toArray 46)) := (Below.refl _ wr).alloc (Nat.le_refl _) _
      have hsz := hb.size
      have HJ := Lib.hid (judgeL_any B cbx lbx mbx mb k (logOf L) AE cE x C cap tl (wr.alloc (.cells (evCells x C cap tl).toArray 46)) (passL L k).1 (hby.below (hbA.mono (by omega))) ((HEN.out.below hb).below (hbA.mono (by omega))) (by rw [← HNE.out]; exact hI.next hbA.block) (by simp; omega) (last_le (by omega)))
      rw [← HNE.out] at HJ
      obtain ⟨cs, hcs⟩ : ∃ cs, cs = evCells x C cap tl := ⟨_, rfl⟩
      rw [← hcs] at hl hrr hone HJ hbA
      have HRR := Lib.hid hrr
      have H28 := Lib.hid (show (Tryz.prog.info? 46).map (·.size) = some cs.length by rw [hl]; exact size46)
      have H28' := Lib.hid (show (Tryz.prog.info? 46).map (·.size) = some cs.toArray.size by rw [List.size_toArray, hl]; exact size46)
      have HSZ := Lib.hid (show (28 : Nat) = cs.toArray.size by rw [List.size_toArray, hl])
      have HONE := Lib.hid (show cs.toArray.all (·.oneCell') = true from all_oneCell_toArray hone)
      have hlens := passL_len L k
      have HLR := Lib.hid (show (wr.alloc (.cells cs.toArray 46)).rangeAt wr.heap.size 0 cs from rangeAt_new (heap_alloc_last wr (.cells cs.toArray 46)))
      have HP := Lib.hid (passL_succ hx)
      have hownA := hown.alloc (.cells cs.toArray 46)
      have HBA := Lib.hid ((hb.trans (hbA.mono (by omega))))
      obtain ⟨r, hr⟩ : ∃ r, r = judgeL (logOf L) x (passL L k).1 := ⟨_, rfl⟩
      rw [← hr] at HJ HP
      obtain ⟨F, hF⟩ : ∃ F, F = (passL L k).2 := ⟨_, rfl⟩
      rw [← hF] at HP hownA hlens
      obtain ⟨ca, hca⟩ : ∃ ca, ca = cs.toArray := ⟨_, rfl⟩
      rw [← hca] at H28' HSZ HONE HJ HLR hownA HBA
      have HCA := Lib.hid hca
      have HOA := Lib.hid hownA
      obtain ⟨A', c', hv⟩ := shape_of hown
      subst hv
      rw [← hF] at HOA ⊢
      obtain ⟨n, hn⟩ : ∃ n, n = F.length := ⟨_, rfl⟩
      rw [← hn] at HOA hlens ⊢
      have HN := Lib.hid hn
      clear hLr hrr hl hone hbA hown hownA hr hF hca hI hx hn hcs hby
      by_cases hr0 : r.1 = 0
      · go_wp2_with (first | (with_reducible refine wpList_load_mid rfl 46 (.tmp 14) rfl b (off + k * 28) rfl cs _ HRR.out Tryz.underlying46 rfl H28.out ?_; rw [← HCA.out]) | (refine wpList_store_new rfl 46 (.tmp 7) (.tmp 15) rfl _ ca rfl rfl H28'.out HSZ.out HONE.out ?_) | (with_reducible refine wpList_load_mid rfl 46 (.tmp 7) rfl wr.heap.size 0 rfl cs _ HLR.out Tryz.underlying46 rfl H28.out ?_; rw [← HCA.out]) | (go_at_call 33; refine HJ.out.mono ?_; rintro e w1 ⟨rfl, hI1, hb1, hk1⟩; have HI1 := Lib.hid hI1; have HK1 := Lib.hid hk1; clear hI1 hk1))
        go_roundw
        case rel =>
          refine ⟨k + 1, by omega, by go_num, ?_, ?_, HBA.out.trans hb1⟩
          · rw [HP.out, if_pos hr0, ← HN.out]
            exact ownF_keeps HOA.out HK1.out
          · rw [HP.out]
            exact HI1.out
        case measure => simp [intOf]; omega
      · go_wp2_with (first | (with_reducible refine wpList_load_mid rfl 46 (.tmp 14) rfl b (off + k * 28) rfl cs _ HRR.out Tryz.underlying46 rfl H28.out ?_; rw [← HCA.out]) | (refine wpList_store_new rfl 46 (.tmp 7) (.tmp 15) rfl _ ca rfl rfl H28'.out HSZ.out HONE.out ?_) | (with_reducible refine wpList_load_mid rfl 46 (.tmp 7) rfl wr.heap.size 0 rfl cs _ HLR.out Tryz.underlying46 rfl H28.out ?_; rw [← HCA.out]) | (go_at_call 33; refine HJ.out.mono ?_; rintro e w1 ⟨rfl, hI1, hb1, hk1⟩; have HI1 := Lib.hid hI1; have HK1 := Lib.hid hk1; have hown1 := (ownF_keeps HOA.out HK1.out).alloc (.cells #[.int .i64 k, .int .i64 r.1] 67); have hs1 := hk1.1; simp only [World.size_alloc] at hs1; have HCN := Lib.hid (cells_new w1 [.int .i64 k, .int .i64 r.1] 67); clear hI1 hk1) | (at_builtin; (refine wpList_append_own _ rfl (.tmp 22) (.tmp 26) 28 rfl w.heap.size 67 i0 _ 2 16 Tryz.underlying28 hi hz0 hz1 hz2 rfl (by decide) _ _ _ rfl hown1 ⟨w1.heap.size, 0, none⟩ 1 1 [.int .i64 k, .int .i64 r.1] rfl rfl HCN.out (by intro u hu; simp at hu; rcases hu with rfl | rfl <;> rfl) (by unfold maxLen; omega) (by omega) (by simp; omega) ?_); intro v' w2 hown' hgrow _))
        have hb2 := (HBA.out.trans (hb1.alloc (by omega) (.cells #[.int .i64 k, .int .i64 r.1] 67))).grown hgrow (by simp; omega) (fun g hg => Nat.le_trans hB (own_lt hown1 g hg))
        have HI2 := Lib.hid (cenInv_grown (HI1.out.next (W' := w1.alloc (.cells #[.int .i64 k, .int .i64 r.1] 67)) (fun q hq => ((Below.refl w1.heap.size w1).alloc (Nat.le_refl _) _).block q hq)) hown1 hgrow)
        obtain ⟨A2, cap2, rfl⟩ := shape_of hown'
        have HO2 := Lib.hid hown'
        clear hown1 hgrow hown'
        go_wp2
        go_roundw
        case rel =>
          refine ⟨k + 1, by omega, by go_num, ?_, ?_, hb2⟩
          · rw [HP.out, if_neg hr0, fltCells_snoc, List.length_append, ← HN.out]
            exact HO2.out
          · rw [HP.out]
            exact HI2.out
        case measure => simp [intOf]; omega
    · obtain rfl : k = L.length := by omega
      obtain ⟨A', c', rfl⟩ := shape_of hown
      have H := Lib.hid hown
      clear hown hlt
      go_wp2
      go_ret
      exact ⟨_, rfl, H.out, hb⟩
end Go.Proofs.YtjhhdklbiibhdaaGreatDoor
namespace Go.Proofs.YtjhhdklbiibhdaaGreatDoor
open Go Go.RowKit

theorem push4 (h : Array Obj) (a b c d : Obj) : ((((h.push a).push b).push c).push d)[h.size]? = some a ∧ ((((h.push a).push b).push c).push d)[h.size + 1]? = some b ∧ ((((h.push a).push b).push c).push d)[h.size + 2]? = some c ∧ ((((h.push a).push b).push c).push d)[h.size + 3]? = some d := by
  refine ⟨?_, ?_, ?_, ?_⟩
  · rw [Array.getElem?_push, if_neg (by simp <;> omega), Array.getElem?_push, if_neg (by simp <;> omega), Array.getElem?_push, if_neg (by simp <;> omega), Array.getElem?_push, if_pos rfl]
  · rw [Array.getElem?_push, if_neg (by simp <;> omega), Array.getElem?_push, if_neg (by simp <;> omega), Array.getElem?_push, if_pos (by simp)]
  · rw [Array.getElem?_push, if_neg (by simp <;> omega), Array.getElem?_push, if_pos (by simp)]
  · rw [Array.getElem?_push, if_pos (by simp)]
def zero80 : Array Value := #[.bool false, .int .i64 0, .bool false, .int .i64 0, .bool false, .int .i64 0, .bool false, .int .i64 0, .bool false, .int .i64 0, .bool false, .int .i64 0, .bool false, .int .i64 0, .bool false, .int .i64 0, .bool false, .int .i64 0]
def cenW (w : World) (AE : Option Addr) (nE cE : Nat) : World :=
  (((w.alloc (.cells #[.slice AE nE cE] 32)).alloc (.cells #[.bool false, .int .i64 0, .bool false, .int .i64 0, .bool false, .int .i64 0, .bool false, .int .i64 0, .bool false, .int .i64 0, .bool false, .int .i64 0, .bool false, .int .i64 0, .bool false, .int .i64 0, .bool false, .int .i64 0] 80)).alloc (.map #[] 0)).alloc (.cells #[.map (some (w.heap.size + 2))] 81)
/-- the start: three boxes, an empty map -/
theorem cen_start (w : World) (AE : Option Addr) (nE cE : Nat) (L : List EvD) :
    Below w.heap.size w (cenW w AE nE cE) ∧ CenInv (cenW w AE nE cE) AE nE cE w.heap.size (w.heap.size + 1) w.heap.size (w.heap.size + 3) (w.heap.size + 2) (passL L 0).1 := by
  obtain ⟨p0, p1, p2, p3⟩ := push4 w.heap (.cells #[.slice AE nE cE] 32) (.cells zero80 80) (.map #[] 0) (.cells #[.map (some (w.heap.size + 2))] 81)
  refine ⟨((((Below.refl _ w).alloc (Nat.le_refl _) _).alloc (by simp) _).alloc (by simp; omega) _).alloc (by simp; omega) _, p1, rfl, p0, p3, ⟨#[], 0, p2, rfl⟩, by omega, by omega, by omega, by omega⟩

set_option maxHeartbeats 2000000 in
set_option maxRecDepth 100000 in
theorem checkLog_any (A : Option Addr) (c : Nat) (L : List EvD) (w : World) (hL : RowIn 5 28 (EvC 5) w A L) (hlen : L.length ≤ 1000) (hbody : ∀ x ∈ L, x.body.length ≤ 2000) :
    Calls Tryz.prog 15 #[.slice A L.length c] w (FltRet w (passL L L.length).2) := by
  have hmm := @run_makeMap Tryz.prog
  have HC := Lib.hid (committed_any A c L w hL hlen hbody)
  have CE := Lib.hid (show ∀ (W : World) (v : Value), Below w.heap.size w W → OwnR 5 36 3 (EnC 5) W w.heap.size v (logOf L) → ∃ AE cE, v = .slice AE (logOf L).length cE ∧
      Calls Tryz.prog 30 #[.slice A L.length c, .func (.func 33) #[] #[.pointer (some ⟨W.heap.size + 1, 0, none⟩), .pointer (some ⟨W.heap.size, 0, none⟩), .pointer (some ⟨W.heap.size + 3, 0, none⟩)]] (cenW W AE (logOf L).length cE) fun e w' => ∃ v, e = .returned v ∧ w'.ownsRow (cenW W AE (logOf L).length cE).heap.size 67 2 v (passL L L.length).2.length (fltCells (passL L L.length).2) ∧ Below W.heap.size (cenW W AE (logOf L).length cE) w' from fun W v hb ho => by
    obtain ⟨AE, cE, rfl, hr⟩ := OwnR.rowIn (C := EnC 5) (enC_lowers 5) ho
    obtain ⟨hs, hI⟩ := cen_start W AE (logOf L).length cE L
    exact ⟨AE, cE, rfl, examineL_any A c W.heap.size (W.heap.size + 1) W.heap.size (W.heap.size + 3) (W.heap.size + 2) L AE cE _ ((((evsLow_of hL).below hb).mono hb.size).below hs) ((enLow_of hr).below hs) hlen hs.size hI⟩)
  clear hL hbody
  generalize (passL L L.length).2 = F at CE ⊢
  go_enter Tryz.func15, Tryz.ntmps15
  go_wp2_with (first | (go_at_call 17; refine HC.out.mono ?_; rintro e w1 ⟨v, rfl, ho, hb1⟩; obtain ⟨AE, cE, rfl, hCE⟩ := CE.out w1 v hb1 ho; generalize (logOf L).length = nE at hCE ⊢; have HCE := Lib.hid hCE; have HB1 := Lib.hid hb1; clear hCE ho hb1) | (go_at_call 30; go_loud (refine HCE.out.mono ?_); rintro e w2 ⟨v, rfl, hown, hb2⟩))
  obtain ⟨A', c', rfl, hF⟩ := fltIn_of hown
  have HF := Lib.hid hF
  clear hown hF
  go_wp2
  go_ret
  exact ⟨A', c', rfl, HF.out, HB1.out.trans (((cen_start w1 AE nE cE L).1.trans hb2).mono HB1.out.size)⟩
end Go.Proofs.YtjhhdklbiibhdaaGreatDoor
namespace Go.Proofs.YtjhhdklbiibhdaaGreatDoor
open Go Go.RowKit Go.Ev

theorem rowEvK {W W' : World} {A : Option Addr} {L : List EvD} (h : RowIn 5 28 (EvC 5) W A L) (hb : Below W.heap.size W W') : RowIn 5 28 (EvC 5) W' A L := RowIn.below (C := EvC 5) (evC_stays 5) (evC_lowers 5) h hb
def EvRetK (W : World) (L : List EvD) (e : Ending) (w' : World) : Prop := ∃ A' c', e = .returned (.slice A' L.length c') ∧ RowIn 5 28 (EvC 5) w' A' L ∧ Below W.heap.size W w'
theorem evRetK_of {W w' : World} {L : List EvD} {e : Ending} (h : ∃ v, e = .returned v ∧ OwnR 5 46 28 (EvC 5) w' W.heap.size v L ∧ Below W.heap.size W w') : EvRetK W L e w' := by
  obtain ⟨v, rfl, ho, hb⟩ := h
  obtain ⟨A, c, rfl, hr⟩ := OwnR.rowIn (C := EvC 5) (evC_lowers 5) ho
  exact ⟨A, c, rfl, hr, hb⟩

set_option maxHeartbeats 8000000 in
set_option maxRecDepth 100000 in
theorem verifyCentres_any (A : Option Addr) (c : Nat) (L : List EvD) (w : World) (hL : RowIn 5 28 (EvC 5) w A L) (hlen : L.length ≤ 140737488355328) (hbody : ∀ x ∈ L, x.body.length ≤ 140737488355328) (hw : 4 ≤ w.heap.size)
    (haw : ∀ W : World, Below w.heap.size w W → Calls Tryz.prog 8 #[] W fun e w' => e = .returned (.bool true) ∧ Below W.heap.size W w') (htb : ∀ W : World, Below w.heap.size w W → t64.In W) :
    Calls Tryz.prog 4 #[.slice A L.length c] w fun e w' => e = .returned (.bool true) ∧ Below w.heap.size w w' := by
  have HA := Lib.hid haw
  have HFW := Lib.hid (show ∀ W : World, Below w.heap.size w W → Calls Tryz.prog 9 #[.slice A L.length c] W (FewRet W L) from fun W hW => few_any A c L W (rowEvK hL hW) hlen hbody (Nat.le_trans hw hW.size) (htb W hW))
  by_cases hfew : fewB L = true
  · obtain ⟨hf80, hfb⟩ := few_of hfew
    have CEV := Lib.hid (show ∀ W : World, Below w.heap.size w W → Calls Tryz.prog 13 #[.slice A L.length c] W (EvRetK W L) from fun W hW => (events_any A c L W (rowEvK hL hW) (by omega) hfb).mono fun _ _ h => evRetK_of h)
    have CPR := Lib.hid (show ∀ (W : World) (A' : Option Addr) (c' : Nat), RowIn 5 28 (EvC 5) W A' L → Calls Tryz.prog 15 #[.slice A' L.length c'] W (FltRet W (passL L L.length).2) from fun W A' c' h1 => (checkLog_any A' c' L W h1 (by omega) hfb))
    have CRF := Lib.hid (show ∀ W : World, Below w.heap.size w W → Calls Tryz.prog 16 #[.slice A L.length c] W (FltRet W (passL L L.length).2) from fun W hW => (agreed_any A c L W (rowEvK hL hW) (by omega) hfb))
    have hFl : (passL L L.length).2.length ≤ 1000 := by
      have := (passL_len L L.length).2.2
      omega
    obtain ⟨F, hF⟩ : ∃ F, F = (passL L L.length).2 := ⟨_, rfl⟩
    rw [← hF] at CPR CRF hFl
    have HFY := Lib.hid (show ∀ W : World, Below w.heap.size w W → Calls Tryz.prog 9 #[.slice A L.length c] W fun e w' => e = .returned (.bool true) ∧ Below W.heap.size W w' from fun W hW => (HFW.out W hW).mono fun _ _ h => ⟨by rw [← hfew]; exact h.1, h.2⟩)
    clear hL hbody haw htb hfb hF HFW hfew
    go_enter Tryz.func4, Tryz.ntmps4
    go_wp2_with (first | (go_at_call 8; refine (HA.out _ (Below.refl _ _)).mono ?_; rintro e w1 ⟨rfl, b1⟩) | (go_at_call 9; refine (HFY.out _ b1).mono ?_; rintro e w2 ⟨rfl, hb2⟩; have b2 := b1.trans (hb2.mono b1.size); clear hb2) | (go_at_call 13; refine (CEV.out _ b2).mono ?_; rintro e w3 ⟨A3, c3, rfl, hS3, hb3⟩; have HS3 := Lib.hid hS3; have b3 := b2.trans (hb3.mono b2.size); clear hS3 hb3) | (go_at_call 15; refine (CPR.out _ _ _ HS3.out).mono ?_; rintro e w4 ⟨A4, c4, rfl, hS4, hb4⟩; have HS4 := Lib.hid hS4; have b4 := b3.trans (hb4.mono b3.size); clear hS4 hb4) | (go_at_call 11; refine (faults_any A4 c4 F _ HS4.out hFl).mono ?_; rintro e w5 ⟨A5, c5, rfl, hS5, hb5⟩; have HS5 := Lib.hid hS5; have b5 := b4.trans (hb5.mono b4.size); clear hS5 hb5) | (go_at_call 16; refine (CRF.out _ b5).mono ?_; rintro e w6 ⟨A6, c6, rfl, hS6, hb6⟩; have HS6 := Lib.hid hS6; have HS7 := Lib.hid (HS5.out.below hb6); have b6 := b5.trans (hb6.mono b5.size); clear hS6 hb6) | (go_at_call 10; refine (same_any A5 A6 c5 c6 F _ HS7.out HS6.out hFl).mono ?_; rintro e w7 ⟨rfl, hb7⟩))
    go_ret
    exact ⟨rfl, b6.trans (hb7.mono b6.size)⟩
  · have hfew' : fewB L = false := by simpa using hfew
    have HFY := Lib.hid (show ∀ W : World, Below w.heap.size w W → Calls Tryz.prog 9 #[.slice A L.length c] W fun e w' => e = .returned (.bool false) ∧ Below W.heap.size W w' from fun W hW => (HFW.out W hW).mono fun _ _ h => ⟨by rw [← hfew']; exact h.1, h.2⟩)
    clear hL hbody haw htb HFW hfew hfew'
    go_enter Tryz.func4, Tryz.ntmps4
    go_wp2_with (first | (go_at_call 9; refine (HFY.out _ b1).mono ?_; rintro e w2 ⟨rfl, hb2⟩; have b2 := b1.trans (hb2.mono b1.size); clear hb2) | (go_at_call 8; refine (HA.out _ b2).mono ?_; rintro e w3 ⟨rfl, b3⟩) | (go_at_call 8; refine (HA.out _ (Below.refl _ _)).mono ?_; rintro e w1 ⟨rfl, b1⟩))
    go_ret
    exact ⟨rfl, b2.trans (b3.mono b2.size)⟩
end Go.Proofs.YtjhhdklbiibhdaaGreatDoor
namespace Go.Proofs.YtjhhdklbiibhdaaGreatDoor
open Go Go.Ev Go.RowKit
/-- the card -/
theorem verifyCentres_holds : Rows.VerifyCentresCardSaid := verifyCentres_most fun A c L w h1 h2 h3 h4 h5 h6 => verifyCentres_any A c L w h1 h2 h3 h4 h5 h6
#print axioms verifyCentres_holds
end Go.Proofs.YtjhhdklbiibhdaaGreatDoor
