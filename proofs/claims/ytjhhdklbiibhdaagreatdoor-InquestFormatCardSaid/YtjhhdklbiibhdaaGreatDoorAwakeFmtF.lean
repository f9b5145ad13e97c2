/-
  InquestFormat of samaritanlaw54 answers true for every list of steps, where its example does.
-/
import Derived.Test.YtjhhdklbiibhdaaGreatDoorAwakeFmtE
namespace Go.Proofs.YtjhhdklbiibhdaaGreatDoor
open Go Go.RowKit

theorem stepsIn_below {w w' : World} {A : Option Addr} {L : List (Int × ByteArray)} (h : StepsIn w w.heap.size A L) (hb : Below w.heap.size w w') : StepsIn w' w'.heap.size A L := by
  intro k x hx
  obtain ⟨b, off, e, hlt, h1, h2⟩ := h k x hx
  exact ⟨b, off, e, Nat.lt_of_lt_of_le hlt hb.size, (hb.cell (p := ⟨b, off + k * 2, none⟩) hlt).trans h1, (hb.cell (p := ⟨b, off + k * 2 + 1, none⟩) hlt).trans h2⟩

def okInt (x : Int × ByteArray) : Prop := -9223372036854775808 ≤ x.1 ∧ x.1 ≤ 9223372036854775807

set_option maxHeartbeats 2000000 in
set_option maxRecDepth 100000 in
theorem law_any (A : Option Addr) (c : Nat) (L : List (Int × ByteArray)) (w : World) (hL : StepsIn w w.heap.size A L) (hlen : L.length ≤ 9223372036854775807) (hok : ∀ x ∈ L, okInt x)
    (htab : Lib.TabIs Tryz.prog w "internal/strconv.uint64pow10" .u64 Lib.pow10Tab)
    (haw : ∀ W : World, Below w.heap.size w W → Calls Tryz.prog 21 #[] W fun e w' => e = .returned (.bool true) ∧ Below W.heap.size W w') :
    Calls Tryz.prog 7 #[.slice A L.length c] w fun e w' => e = .returned (.bool true) ∧ Below w.heap.size w w' := by
  have HL := Lib.hid hL
  have HO := Lib.hid hok
  have HT := Lib.hid htab
  have HA := Lib.hid haw
  clear hL hok htab haw
  go_enter Tryz.func7, Tryz.ntmps7
  go_wp2
  go_loopw [7] (fun i wr => ∃ k : Nat, k ≤ L.length ∧ i = .int .i64 k ∧ Hid (∀ j x, j < k → L[j]? = some x → x.2.size ≤ 100) ∧ Below w.heap.size w wr) (fun i _ => L.length - (intOf i).toNat)
  case atStart => exact ⟨0, Nat.zero_le _, rfl, fun j x hj _ => by omega, Below.refl _ _⟩
  case round =>
    obtain ⟨k, hk, rfl, HK, hb⟩ := hrel
    by_cases hlt : k < L.length
    · obtain ⟨x, hx⟩ : ∃ x, L[k]? = some x := ⟨_, List.getElem?_eq_getElem hlt⟩
      obtain ⟨b, off, rfl, hbl, hc0, hc1⟩ := HL.out k x hx
      have hc0' : wr.cell? ⟨b, off + k * 2, none⟩ = some (.int .i64 x.1) := (hb.cell (p := ⟨b, off + k * 2, none⟩) hbl).trans hc0
      have hc1' : wr.cell? ⟨b, off + k * 2 + 1, none⟩ = some (.string x.2) := (hb.cell (p := ⟨b, off + k * 2 + 1, none⟩) hbl).trans hc1
      have HX := Lib.hid hx
      clear hc0 hc1 hx
      have hsz := hb.size
      have hbA : Below w.heap.size w (wr.alloc (.cells #[.int .i64 x.1, .string x.2] 51)) := hb.alloc hb.size _
      by_cases ht : 100 < x.2.size
      · go_wp2_with (go_at_call 21; refine (HA.out _ hbA).mono ?_; rintro e w1 ⟨rfl, hb1⟩)
        go_ret
        exact ⟨rfl, hbA.trans (hb1.mono (by simp; omega))⟩
      · go_wp2
        go_roundw
        case rel =>
          refine ⟨k + 1, by omega, by go_num, ?_, hbA⟩
          intro j y hj hy
          by_cases hjk : j = k
          · subst hjk
            rw [HX.out] at hy
            cases hy
            omega
          · exact HK.out j y (by omega) hy
        case measure => simp [intOf]; omega
    · obtain rfl : k = L.length := by omega
      have hsz := hb.size
      clear hlt
      by_cases h40 : 40 < L.length
      · go_wp2_with (go_at_call 21; refine (HA.out _ hb).mono ?_; rintro e w1 ⟨rfl, hb1⟩)
        go_ret
        exact ⟨rfl, hb.trans (hb1.mono hsz)⟩
      · have hos : ∀ x ∈ L, okStep x := fun x hx => by
          obtain ⟨j, hj⟩ := List.mem_iff_getElem?.1 hx
          exact ⟨HK.out j x (List.getElem?_eq_some_iff.1 hj).1 hj, HO.out x hx⟩
        have hS := stepsIn_below HL.out hb
        have cF := format_any A c L wr hS (by omega) hos (tab_below HT.out hb)
        have cS : ∀ W : World, Below wr.heap.size wr W → Calls Tryz.prog 24 #[.slice A L.length c] W (StepsRet W L) := fun W hW => steps_any A c L W (stepsIn_below hS hW) (by omega)
        have cT : ∀ (W : World) (A' : Option Addr) (c' : Nat), StepsIn W W.heap.size A' L → Calls Tryz.prog 23 #[.slice A' L.length c'] W fun e w' => e = .returned (.string ⟨(fmtAll L).toArray⟩) ∧ Below W.heap.size W w' := fun W A' c' h => text_any A' c' L W h (by omega) hos
        generalize (⟨(fmtAll L).toArray⟩ : ByteArray) = F at cF cT
        have CF := Lib.hid cF
        have CS := Lib.hid cS
        have CT := Lib.hid cT
        clear cF cS cT hS hos
        go_wp2_with (first | (go_at_call 22; refine CF.out.mono ?_; rintro e w1 ⟨rfl, hb1⟩) | (go_at_call 24; refine (CS.out _ hb1).mono ?_; rintro e w2 ⟨A2, c2, rfl, hS2, hb2⟩; have HS2 := Lib.hid hS2; clear hS2) | (go_at_call 23; refine (CT.out _ _ _ HS2.out).mono ?_; rintro e w3 ⟨rfl, hb3⟩) | (go_at_call 21; refine (HA.out _ (hb.trans ((hb1.trans ((hb2.trans (hb3.mono hb2.size)).mono hb1.size)).mono hsz))).mono ?_; rintro e w4 ⟨rfl, hb4⟩))
        go_ret
        have hb13 := hb1.trans ((hb2.trans (hb3.mono hb2.size)).mono hb1.size)
        exact ⟨rfl, hb.trans ((hb13.trans (hb4.mono hb13.size)).mono hsz)⟩
end Go.Proofs.YtjhhdklbiibhdaaGreatDoor
