/-
  What the reference's Text answers in this program, for every ten numbers.
-/
import Derived.Test.YtacogbmafmdnjaaGreatDoorAwakeFmtE
namespace Go.Proofs.YtacogbmafmdnjaaGreatDoor
open Go Go.RowKit

def nms : List ByteArray := [⟨#[99, 97, 108, 108, 115]⟩, ⟨#[104, 97, 110, 103, 117, 112, 115]⟩, ⟨#[99, 108, 111, 115, 101, 100]⟩, ⟨#[97, 112, 112, 108, 105, 101, 100]⟩, ⟨#[111, 114, 100, 101, 114, 115]⟩, ⟨#[100, 111, 119, 110, 115]⟩, ⟨#[116, 97, 107, 101, 111, 118, 101, 114, 115]⟩, ⟨#[116, 111, 116, 97, 108, 119, 97, 105, 116]⟩, ⟨#[119, 111, 114, 115, 116, 119, 97, 105, 116]⟩, ⟨#[117, 110, 105, 116, 115]⟩]
def txt (vs : List Int) (k : Nat) : List UInt8 := ((nms.zip vs).take k).flatMap fun p => piece p.1 p.2
theorem txt_succ (vs : List Int) (k : Nat) (nm : ByteArray) (v : Int) (h1 : nms[k]? = some nm) (h2 : vs[k]? = some v) : txt vs (k + 1) = txt vs k ++ piece nm v := by
  have hz : (nms.zip vs)[k]? = some (nm, v) := by simp [List.getElem?_zip_eq_some, h1, h2]
  obtain ⟨hk, he⟩ := List.getElem?_eq_some_iff.1 hz
  unfold txt
  rw [List.take_succ_eq_append_getElem hk, List.flatMap_append, he, List.flatMap_cons, List.flatMap_nil, List.append_nil]
theorem nms_size : ∀ nm ∈ nms, nm.size ≤ 20 := by decide
theorem txt_len (vs : List Int) (hv : ∀ v ∈ vs, okI v) : ∀ k, (txt vs k).length ≤ 43 * k
  | 0 => by simp [txt]
  | k + 1 => by
    have ih := txt_len vs hv k
    cases h : (nms.zip vs)[k]? with
    | none =>
      have hl : (nms.zip vs).length ≤ k := List.getElem?_eq_none_iff.1 h
      have e : txt vs (k + 1) = txt vs k := by
        unfold txt
        rw [List.take_of_length_le (by omega), List.take_of_length_le hl]
      rw [e]; omega
    | some p =>
      obtain ⟨h1, h2⟩ := List.getElem?_zip_eq_some.1 h
      rw [txt_succ vs k p.1 p.2 h1 h2]
      have := len_piece p.1 p.2 (nms_size _ (List.mem_of_getElem? h1)) (hv _ (List.mem_of_getElem? h2))
      simp only [List.length_append]
      omega

theorem text_snoc (vs : List Int) (k : Nat) (nm : ByteArray) (v : Int) (S1 T : ByteArray) (h1 : nms[k]? = some nm) (h2 : vs[k]? = some v) (h0 : v ≠ 0) (hS : S1 = ⟨(Lib.itoa v).toArray⟩) (hT : T = ⟨(txt vs k).toArray⟩) :
    T ++ nm ++ ⟨#[32]⟩ ++ S1 ++ ⟨#[10]⟩ = ⟨(txt vs (k + 1)).toArray⟩ := by
  rw [txt_succ vs k nm v h1 h2, hS, hT]
  unfold piece
  rw [if_neg h0]
  apply ByteArray.ext
  apply Array.ext'
  simp [ByteArray.data_append]
theorem text_skip (vs : List Int) (k : Nat) (nm : ByteArray) (h1 : nms[k]? = some nm) (h2 : vs[k]? = some 0) : txt vs (k + 1) = txt vs k := by
  rw [txt_succ vs k nm 0 h1 h2]
  simp [piece]

set_option maxHeartbeats 4000000 in
set_option maxRecDepth 100000 in
theorem text_any (a0 a1 a2 a3 a4 a5 a6 a7 a8 a9 : Int) (vs : List Int) (hvs : vs = [a0, a1, a2, a3, a4, a5, a6, a7, a8, a9]) (w : World) (hok : ∀ v ∈ vs, okI v) :
    Calls Tryz.prog 26 #[.agg #[.int .i64 a0, .int .i64 a1, .int .i64 a2, .int .i64 a3, .int .i64 a4, .int .i64 a5, .int .i64 a6, .int .i64 a7, .int .i64 a8, .int .i64 a9]] w fun e w' => e = .returned (.string ⟨(txt vs 10).toArray⟩) ∧ Below w.heap.size w w' := by
  have HO := Lib.hid hok
  have HVS := Lib.hid hvs
  clear hok hvs
  go_enter Tryz.func26, Tryz.ntmps26
  go_wp2_with (go_at_call 17; refine (numbers_any _ _ _ _ _ _ _ _ _ _ _).mono ?_; rintro e w' ⟨rfl, rfl⟩)
  obtain ⟨W0, hW0⟩ : ∃ W0 : World, W0 = ((((w.alloc (.cells #[.int .i64 a0, .int .i64 a1, .int .i64 a2, .int .i64 a3, .int .i64 a4, .int .i64 a5, .int .i64 a6, .int .i64 a7, .int .i64 a8, .int .i64 a9] 32)).alloc (.cells #[.string ⟨#[99, 97, 108, 108, 115]⟩, .string ⟨#[104, 97, 110, 103, 117, 112, 115]⟩, .string ⟨#[99, 108, 111, 115, 101, 100]⟩, .string ⟨#[97, 112, 112, 108, 105, 101, 100]⟩, .string ⟨#[111, 114, 100, 101, 114, 115]⟩, .string ⟨#[100, 111, 119, 110, 115]⟩, .string ⟨#[116, 97, 107, 101, 111, 118, 101, 114, 115]⟩, .string ⟨#[116, 111, 116, 97, 108, 119, 97, 105, 116]⟩, .string ⟨#[119, 111, 114, 115, 116, 119, 97, 105, 116]⟩, .string ⟨#[117, 110, 105, 116, 115]⟩] 9)).alloc (.cells #[.int .i64 a0, .int .i64 a1, .int .i64 a2, .int .i64 a3, .int .i64 a4, .int .i64 a5, .int .i64 a6, .int .i64 a7, .int .i64 a8, .int .i64 a9] 32)).alloc (.cells #[.int .i64 a0, .int .i64 a1, .int .i64 a2, .int .i64 a3, .int .i64 a4, .int .i64 a5, .int .i64 a6, .int .i64 a7, .int .i64 a8, .int .i64 a9] 2)) := ⟨_, rfl⟩
  rw [← hW0]
  have hs0 : W0.heap.size = w.heap.size + 4 := by rw [hW0]; simp
  have hbw : Below w.heap.size w W0 := by rw [hW0]; exact ((((Below.refl _ w).alloc (Nat.le_refl _) _).alloc (by simp) _).alloc (by simp; omega) _).alloc (by simp; omega) _
  have hN : ∀ (k : Nat) (nm : ByteArray), nms[k]? = some nm → W0.cell? ⟨w.heap.size + 1, k, none⟩ = some (.string nm) := fun k nm h => by
    rw [hW0, World.cell?_alloc_lt _ _ _ (by simp), World.cell?_alloc_lt _ _ _ (by simp), World.cell?_alloc_at _ _ _ _ (by simp)]
    have e : (#[.string ⟨#[99, 97, 108, 108, 115]⟩, .string ⟨#[104, 97, 110, 103, 117, 112, 115]⟩, .string ⟨#[99, 108, 111, 115, 101, 100]⟩, .string ⟨#[97, 112, 112, 108, 105, 101, 100]⟩, .string ⟨#[111, 114, 100, 101, 114, 115]⟩, .string ⟨#[100, 111, 119, 110, 115]⟩, .string ⟨#[116, 97, 107, 101, 111, 118, 101, 114, 115]⟩, .string ⟨#[116, 111, 116, 97, 108, 119, 97, 105, 116]⟩, .string ⟨#[119, 111, 114, 115, 116, 119, 97, 105, 116]⟩, .string ⟨#[117, 110, 105, 116, 115]⟩] : Array Value) = (nms.map Value.string).toArray := rfl
    rw [e]
    simp [h]
  have hV : ∀ (k : Nat) (v : Int), vs[k]? = some v → W0.cell? ⟨w.heap.size + 1 + 1 + 1, k, none⟩ = some (.int .i64 v) := fun k v h => by
    rw [HVS.out] at h
    rw [hW0, World.cell?_alloc_at _ _ _ _ (by simp)]
    have e : (#[.int .i64 a0, .int .i64 a1, .int .i64 a2, .int .i64 a3, .int .i64 a4, .int .i64 a5, .int .i64 a6, .int .i64 a7, .int .i64 a8, .int .i64 a9] : Array Value) = ([a0, a1, a2, a3, a4, a5, a6, a7, a8, a9].map (Value.int .i64)).toArray := rfl
    rw [e]
    simp only [List.getElem?_toArray, List.getElem?_map, h, Option.map_some]
  have hvl : vs.length = 10 := by rw [HVS.out]; rfl
  have HN := Lib.hid hN
  have HV := Lib.hid hV
  have HB := Lib.hid hbw
  have HZ := Lib.hid hs0
  have HL := Lib.hid hvl
  clear hW0 hN hV hbw hs0 hvl
  go_loopw [5, 6] (fun t i wr => ∃ k : Nat, k ≤ 10 ∧ i = .int .i64 k ∧ t = .string ⟨(txt vs k).toArray⟩ ∧ Below W0.heap.size W0 wr) (fun _ i _ => 10 - (intOf i).toNat)
  case atStart => exact ⟨0, Nat.zero_le _, rfl, rfl, Below.refl _ _⟩
  case round =>
    obtain ⟨k, hk, rfl, rfl, hb⟩ := hrel
    by_cases hlt : k < 10
    · obtain ⟨nm, hnm⟩ : ∃ nm, nms[k]? = some nm := ⟨_, List.getElem?_eq_getElem (show k < nms.length from hlt)⟩
      obtain ⟨v, hv⟩ : ∃ v, vs[k]? = some v := ⟨_, List.getElem?_eq_getElem (by rw [HL.out]; exact hlt)⟩
      have c1 : wr.cell? ⟨w.heap.size + 1, k, none⟩ = some (.string nm) := (hb.cell (p := ⟨w.heap.size + 1, k, none⟩) (by rw [HZ.out]; show w.heap.size + 1 < _; omega)).trans (HN.out k nm hnm)
      have c2 : wr.cell? ⟨w.heap.size + 1 + 1 + 1, k, none⟩ = some (.int .i64 v) := (hb.cell (p := ⟨w.heap.size + 1 + 1 + 1, k, none⟩) (by rw [HZ.out]; show w.heap.size + 1 + 1 + 1 < _; omega)).trans (HV.out k v hv)
      have hov : okI v := HO.out v (List.mem_of_getElem? hv)
      have hns : nm.size ≤ 20 := nms_size nm (List.mem_of_getElem? hnm)
      by_cases h0 : v = 0
      · subst h0
        have HK := Lib.hid (text_skip vs k nm hnm hv)
        clear hnm hv hov
        go_wp2
        go_roundw
        case rel => exact ⟨k + 1, by omega, by go_num, by rw [HK.out], hb⟩
        case measure => simp [intOf]; omega
      · have hs1 : (⟨(Lib.itoa v).toArray⟩ : ByteArray).size ≤ 21 := by
          have := Lib.itoa_length_le v hov.1 hov.2
          show (Lib.itoa v).toArray.size ≤ 21
          simpa using this
        have hfl : (⟨(txt vs k).toArray⟩ : ByteArray).size ≤ 430 := by
          have h1 := txt_len vs HO.out k
          show (txt vs k).toArray.size ≤ 430
          simp only [List.size_toArray]
          omega
        have cI : ∀ W : World, Calls Tryz.prog 47 #[.int .i64 v] W fun e w' => e = .returned (.string ⟨(Lib.itoa v).toArray⟩) ∧ Below W.heap.size W w' := fun W => num_any v W hov.1 hov.2
        obtain ⟨S1, hS1⟩ : ∃ S1 : ByteArray, S1 = ⟨(Lib.itoa v).toArray⟩ := ⟨_, rfl⟩
        obtain ⟨T, hT⟩ : ∃ T : ByteArray, T = ⟨(txt vs k).toArray⟩ := ⟨_, rfl⟩
        rw [← hS1] at cI hs1
        rw [← hT] at hfl ⊢
        have HK := Lib.hid (text_snoc vs k nm v S1 T hnm hv h0 hS1 hT)
        have CI := Lib.hid cI
        have HZ1 := Lib.hid (show W0.heap.size ≤ wr.heap.size from hb.size)
        have hne : (v != 0) = true := by simpa using h0
        clear hS1 hT cI hnm hv h0 hov
        go_wp2
        go_region_with (first | (go_at_call 47; refine (CI.out _).mono ?_; rintro e w1 ⟨rfl, hb1⟩; have q1 : w1.cell? ⟨w.heap.size + 1, k, none⟩ = some (.string nm) := (hb1.cell (p := ⟨w.heap.size + 1, k, none⟩) (by have h1 := HZ1.out; have h2 := HZ.out; simp; omega)).trans (by simpa using c1)))
        all_goals
          go_wp2
          go_roundw
          case rel => exact ⟨k + 1, by omega, by go_num, by rw [← HK.out], hb.drew.trans (hb1.mono HZ1.out)⟩
          case measure => simp [intOf]; omega
    · obtain rfl : k = 10 := by omega
      clear hlt
      go_wp2
      go_ret
      exact ⟨rfl, HB.out.trans (hb.mono HB.out.size)⟩
end Go.Proofs.YtacogbmafmdnjaaGreatDoor
