/-
  VerifyCalls of samaritanlaw53 answers true for every trace within the reach.
-/
import Derived.Test.YtjhhdklbiibhdaaGreatDoorAwakeJudgeG
import Derived.Test.YtjhhdklbiibhdaaGreatDoorAwakeJudgeJ
import Derived.Test.YtjhhdklbiibhdaaGreatDoorAwakeRowF
namespace Go.Proofs.YtjhhdklbiibhdaaGreatDoor
open Go Go.RowKit Go.Ev

theorem rowEvK {W W' : World} {A : Option Addr} {L : List EvD} (h : RowIn 5 28 (EvC 5) W A L) (hb : Below W.heap.size W W') : RowIn 5 28 (EvC 5) W' A L := RowIn.below (C := EvC 5) (evC_stays 5) (evC_lowers 5) h hb
def EvRetK (W : World) (L : List EvD) (e : Ending) (w' : World) : Prop := ∃ A' c', e = .returned (.slice A' L.length c') ∧ RowIn 5 28 (EvC 5) w' A' L ∧ Below W.heap.size W w'
theorem evRetK_of {W w' : World} {L : List EvD} {e : Ending} (h : ∃ v, e = .returned v ∧ OwnR 5 46 28 (EvC 5) w' W.heap.size v L ∧ Below W.heap.size W w') : EvRetK W L e w' := by
  obtain ⟨v, rfl, ho, hb⟩ := h
  obtain ⟨A, c, rfl, hr⟩ := OwnR.rowIn (C := EvC 5) (evC_lowers 5) ho
  exact ⟨A, c, rfl, hr, hb⟩

set_option maxHeartbeats 8000000 in
set_option maxRecDepth 100000 in
theorem verifyCalls_any (A : Option Addr) (c : Nat) (L : List EvD) (w : World) (hL : RowIn 5 28 (EvC 5) w A L) (hlen : L.length ≤ 140737488355328) (hbody : ∀ x ∈ L, x.body.length ≤ 140737488355328) (hw : 4 ≤ w.heap.size)
    (haw : ∀ W : World, Below w.heap.size w W → Calls Tryz.prog 8 #[] W fun e w' => e = .returned (.bool true) ∧ Below W.heap.size W w') (htb : ∀ W : World, Below w.heap.size w W → t64.In W) :
    Calls Tryz.prog 3 #[.slice A L.length c] w fun e w' => e = .returned (.bool true) ∧ Below w.heap.size w w' := by
  have HA := Lib.hid haw
  have HFW := Lib.hid (show ∀ W : World, Below w.heap.size w W → Calls Tryz.prog 9 #[.slice A L.length c] W (FewRet W L) from fun W hW => few_any A c L W (rowEvK hL hW) hlen hbody (Nat.le_trans hw hW.size) (htb W hW))
  by_cases hfew : fewB L = true
  · obtain ⟨hf80, hfb⟩ := few_of hfew
    have CEV := Lib.hid (show ∀ W : World, Below w.heap.size w W → Calls Tryz.prog 13 #[.slice A L.length c] W (EvRetK W L) from fun W hW => (events_any A c L W (rowEvK hL hW) (by omega) hfb).mono fun _ _ h => evRetK_of h)
    have CPR := Lib.hid (show ∀ (W : World) (A' : Option Addr) (c' : Nat), RowIn 5 28 (EvC 5) W A' L → Calls Tryz.prog 12 #[.slice A' L.length c'] W (FltRet W (passC L L.length).2) from fun W A' c' h1 => (checkCalls_any A' c' L W h1 (by omega)))
    have CRF := Lib.hid (show ∀ W : World, Below w.heap.size w W → Calls Tryz.prog 14 #[.slice A L.length c] W (FltRet W (passC L L.length).2) from fun W hW => (show Calls Tryz.prog 14 #[.slice A L.length c] W (FltRet W (passC L L.length).2) from (by have h := calls_any A c L W (rowEvK hL hW) (by omega); rw [(passR_eq L L.length).1] at h; exact h)))
    have hFl : (passC L L.length).2.length ≤ 1000 := by
      have := (passC_len L L.length).2
      omega
    obtain ⟨F, hF⟩ : ∃ F, F = (passC L L.length).2 := ⟨_, rfl⟩
    rw [← hF] at CPR CRF hFl
    have HFY := Lib.hid (show ∀ W : World, Below w.heap.size w W → Calls Tryz.prog 9 #[.slice A L.length c] W fun e w' => e = .returned (.bool true) ∧ Below W.heap.size W w' from fun W hW => (HFW.out W hW).mono fun _ _ h => ⟨by rw [← hfew]; exact h.1, h.2⟩)
    clear hL hbody haw htb hfb hF HFW hfew
    go_enter Tryz.func3, Tryz.ntmps3
    go_wp2_with (first | (go_at_call 8; refine (HA.out _ (Below.refl _ _)).mono ?_; rintro e w1 ⟨rfl, b1⟩) | (go_at_call 9; refine (HFY.out _ b1).mono ?_; rintro e w2 ⟨rfl, hb2⟩; have b2 := b1.trans (hb2.mono b1.size); clear hb2) | (go_at_call 13; refine (CEV.out _ b2).mono ?_; rintro e w3 ⟨A3, c3, rfl, hS3, hb3⟩; have HS3 := Lib.hid hS3; have b3 := b2.trans (hb3.mono b2.size); clear hS3 hb3) | (go_at_call 12; refine (CPR.out _ _ _ HS3.out).mono ?_; rintro e w4 ⟨A4, c4, rfl, hS4, hb4⟩; have HS4 := Lib.hid hS4; have b4 := b3.trans (hb4.mono b3.size); clear hS4 hb4) | (go_at_call 11; refine (faults_any A4 c4 F _ HS4.out hFl).mono ?_; rintro e w5 ⟨A5, c5, rfl, hS5, hb5⟩; have HS5 := Lib.hid hS5; have b5 := b4.trans (hb5.mono b4.size); clear hS5 hb5) | (go_at_call 14; refine (CRF.out _ b5).mono ?_; rintro e w6 ⟨A6, c6, rfl, hS6, hb6⟩; have HS6 := Lib.hid hS6; have HS7 := Lib.hid (HS5.out.below hb6); have b6 := b5.trans (hb6.mono b5.size); clear hS6 hb6) | (go_at_call 10; refine (same_any A5 A6 c5 c6 F _ HS7.out HS6.out hFl).mono ?_; rintro e w7 ⟨rfl, hb7⟩))
    go_ret
    exact ⟨rfl, b6.trans (hb7.mono b6.size)⟩
  · have hfew' : fewB L = false := by simpa using hfew
    have HFY := Lib.hid (show ∀ W : World, Below w.heap.size w W → Calls Tryz.prog 9 #[.slice A L.length c] W fun e w' => e = .returned (.bool false) ∧ Below W.heap.size W w' from fun W hW => (HFW.out W hW).mono fun _ _ h => ⟨by rw [← hfew']; exact h.1, h.2⟩)
    clear hL hbody haw htb HFW hfew hfew'
    go_enter Tryz.func3, Tryz.ntmps3
    go_wp2_with (first | (go_at_call 9; refine (HFY.out _ b1).mono ?_; rintro e w2 ⟨rfl, hb2⟩; have b2 := b1.trans (hb2.mono b1.size); clear hb2) | (go_at_call 8; refine (HA.out _ b2).mono ?_; rintro e w3 ⟨rfl, b3⟩) | (go_at_call 8; refine (HA.out _ (Below.refl _ _)).mono ?_; rintro e w1 ⟨rfl, b1⟩))
    go_ret
    exact ⟨rfl, b2.trans (b3.mono b2.size)⟩
end Go.Proofs.YtjhhdklbiibhdaaGreatDoor
