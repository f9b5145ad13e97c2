/-
  What inquest.Format answers in this program, for every list of at most 40 steps with texts of at most 100 bytes.
-/
import Derived.Test.YtjhhdklbiibhdaaGreatDoorAwakeFmtA
import Derived.Test.YtjhhdklbiibhdaaGreatDoorAwakeFmtB
import Derived.Test.YtjhhdklbiibhdaaGreatDoorAwakeShelf
import Derived.Lib.AppendIntMem
import Derived.Deep.RegionWith
import Derived.Deep.RegionHeld3
import Derived.LoopTactic
namespace Go.Proofs.YtjhhdklbiibhdaaGreatDoor
open Go Go.RowKit

def fmtOne (x : Int × ByteArray) : List UInt8 := Lib.itoa x.1 ++ [58, 32] ++ x.2.data.toList ++ [10]
def fmtAll (L : List (Int × ByteArray)) : List UInt8 := L.flatMap fmtOne
/-- the slice's cells -/
def StepsIn (w : World) (B : Nat) (A : Option Addr) (L : List (Int × ByteArray)) : Prop :=
  ∀ k x, L[k]? = some x → ∃ b off, A = some ⟨b, off, none⟩ ∧ b < B ∧ w.cell? ⟨b, off + k * 2, none⟩ = some (.int .i64 x.1) ∧ w.cell? ⟨b, off + k * 2 + 1, none⟩ = some (.string x.2)
def okStep (x : Int × ByteArray) : Prop := x.2.size ≤ 100 ∧ -9223372036854775808 ≤ x.1 ∧ x.1 ≤ 9223372036854775807

theorem itoa40 (n : Int) (h0 : -9223372036854775808 ≤ n) (h1 : n ≤ 9223372036854775807) (w : World) (htab : Lib.TabIs Tryz.prog w "internal/strconv.uint64pow10" .u64 Lib.pow10Tab) :
    Calls Tryz.prog 40 #[.int .i64 n] w fun e w' => e = .returned (.string ⟨(Lib.itoa n).toArray⟩) ∧ Below w.heap.size w w' :=
  (Tryz.strconv_Itoa n h0 h1 w htab).mono fun _ _ ⟨he, k, os, hw⟩ => ⟨he, by rw [hw]; exact Lib.below_grow _ _ (Nat.le_refl _) k os⟩

theorem owns_below {w w' : World} {B : Nat} {e : TypeId} {size : Nat} {v : Value} {n : Nat} {xs : List Value} (h : w.ownsRow B e size v n xs) (hb : Below w.heap.size w w') : w'.ownsRow B e size v n xs := by
  refine ⟨h.1, ?_⟩
  rcases h.2 with h0 | ⟨g, cap, cur, hv, hg, hh, rest⟩
  · exact .inl h0
  · have hlt : g < w.heap.size := (Array.getElem?_eq_some_iff.1 hh).1
    exact .inr ⟨g, cap, cur, hv, hg, (hb.block g hlt).trans hh, rest⟩
theorem builderAt_below {T e : TypeId} {B b : Nat} {p : Value} {bs : List Value} {w w' : World} (h : Lib.BuilderAt T e B b p bs w) (hb : Below w.heap.size w w') : Lib.BuilderAt T e B b p bs w' := by
  have hlt := h.lt
  obtain ⟨h1, v, h2, h3, h4⟩ := h
  exact ⟨h1, v, (hb.block b hlt).trans h2, owns_below h3 hb, h4⟩
theorem isBuilder_below {T e : TypeId} {B b : Nat} {bs : List Value} {w w' : World} (h : Lib.IsBuilder T e B b bs w) (hb : Below w.heap.size w w') : Lib.IsBuilder T e B b bs w' := by
  rcases h with h | h
  · exact .inl (builderAt_below h hb)
  · exact .inr (builderAt_below h hb)
theorem fmtAll_snoc (L : List (Int × ByteArray)) (k : Nat) (x : Int × ByteArray) (hx : L[k]? = some x) : fmtAll (L.take (k + 1)) = fmtAll (L.take k) ++ fmtOne x := by
  obtain ⟨hk, rfl⟩ := List.getElem?_eq_some_iff.1 hx
  rw [List.take_succ_eq_append_getElem hk]
  unfold fmtAll
  rw [List.flatMap_append, List.flatMap_cons, List.flatMap_nil, List.append_nil]
theorem cells_snoc (L : List (Int × ByteArray)) (k : Nat) (x : Int × ByteArray) (S1 : ByteArray) (hx : L[k]? = some x) (hS : S1 = ⟨(Lib.itoa x.1).toArray⟩) :
    Lib.byteCells (fmtAll (L.take k)) ++ Lib.strCells (S1 ++ ⟨#[58, 32]⟩ ++ x.2 ++ ⟨#[10]⟩) = Lib.byteCells (fmtAll (L.take (k + 1))) := by
  rw [fmtAll_snoc L k x hx, Lib.byteCells_append, Lib.strCells_eq, hS]
  congr 2
theorem fmtOne_len (x : Int × ByteArray) (h : okStep x) : (fmtOne x).length ≤ 124 := by
  have h1 := Lib.itoa_length_le x.1 h.2.1 h.2.2
  have h2 : x.2.data.toList.length = x.2.size := by simp
  have h3 := h.1
  simp only [fmtOne, List.length_append, List.length_cons, List.length_nil]
  omega
theorem fmtAll_len : ∀ (L : List (Int × ByteArray)), (∀ x ∈ L, okStep x) → (fmtAll L).length ≤ 124 * L.length
  | [], _ => by simp [fmtAll]
  | x :: L, h => by
    have h1 := fmtOne_len x (h x (by simp))
    have h2 := fmtAll_len L (fun y hy => h y (by simp [hy]))
    simp only [fmtAll, List.flatMap_cons, List.length_append, List.length_cons] at h2 ⊢
    omega

theorem tab_below {w W : World} (h : Lib.TabIs Tryz.prog w "internal/strconv.uint64pow10" .u64 Lib.pow10Tab) (hb : Below w.heap.size w W) : Lib.TabIs Tryz.prog W "internal/strconv.uint64pow10" .u64 Lib.pow10Tab := by
  have hg : Tryz.prog.globalNamed "internal/strconv.uint64pow10" = some 0 := by kernel_rfl
  unfold Lib.TabIs World.var? at h ⊢
  rw [hg] at h ⊢
  simp only [Option.bind_some] at h ⊢
  have hlt : 0 < w.heap.size := by
    cases hh : w.heap[0]? with
    | none => rw [hh] at h; cases h
    | some o => exact (Array.getElem?_eq_some_iff.1 hh).1
  rw [hb.block 0 hlt]
  exact h

set_option maxHeartbeats 2000000 in
set_option maxRecDepth 100000 in
theorem format_any (A : Option Addr) (c : Nat) (L : List (Int × ByteArray)) (w : World) (hL : StepsIn w w.heap.size A L) (hlen : L.length ≤ 40) (hok : ∀ x ∈ L, okStep x)
    (htab : Lib.TabIs Tryz.prog w "internal/strconv.uint64pow10" .u64 Lib.pow10Tab) :
    Calls Tryz.prog 22 #[.slice A L.length c] w fun e w' => e = .returned (.string ⟨(fmtAll L).toArray⟩) ∧ Below w.heap.size w w' := by
  have h0 : Lib.IsBuilder 105 5 w.heap.size w.heap.size (Lib.byteCells []) (w.alloc (.cells #[.pointer none, .slice none 0 0] 105)) := Lib.fresh_isBuilder 105 5 w
  have b0 : Below w.heap.size w (w.alloc (.cells #[.pointer none, .slice none 0 0] 105)) := (Below.refl _ w).alloc (Nat.le_refl _) _
  have HL := Lib.hid hL
  have HO := Lib.hid hok
  have HT := Lib.hid htab
  clear hL hok htab
  go_enter Tryz.func22, Tryz.ntmps22
  go_wp2
  go_loopw [8] (fun i wr => ∃ k : Nat, k ≤ L.length ∧ i = .int .i64 k ∧ Lib.IsBuilder 105 5 w.heap.size w.heap.size (Lib.byteCells (fmtAll (L.take k))) wr ∧ Below w.heap.size w wr) (fun i _ => L.length - (intOf i).toNat)
  case atStart => exact ⟨0, Nat.zero_le _, rfl, h0, b0⟩
  case round =>
    obtain ⟨k, hk, rfl, hI, hb⟩ := hrel
    clear h0 b0
    by_cases hlt : k < L.length
    · obtain ⟨x, hx⟩ : ∃ x, L[k]? = some x := ⟨_, List.getElem?_eq_getElem hlt⟩
      obtain ⟨b, off, rfl, hbl, hc0, hc1⟩ := HL.out k x hx
      have hc0' : wr.cell? ⟨b, off + k * 2, none⟩ = some (.int .i64 x.1) := (hb.cell (p := ⟨b, off + k * 2, none⟩) hbl).trans hc0
      have hc1' : wr.cell? ⟨b, off + k * 2 + 1, none⟩ = some (.string x.2) := (hb.cell (p := ⟨b, off + k * 2 + 1, none⟩) hbl).trans hc1
      have HX := Lib.hid hx
      clear hc0 hc1 hx
      have hbA : Below w.heap.size w (wr.alloc (.cells #[.int .i64 x.1, .string x.2] 51)) := hb.alloc hb.size _
      have cI : ∀ W : World, Below w.heap.size w W → Calls Tryz.prog 40 #[.int .i64 x.1] W fun e w' => e = .returned (.string ⟨(Lib.itoa x.1).toArray⟩) ∧ Below W.heap.size W w' := fun W hW =>
        itoa40 x.1 (HO.out x (List.mem_of_getElem? HX.out)).2.1 (HO.out x (List.mem_of_getElem? HX.out)).2.2 W (tab_below HT.out hW)
      have hIA := isBuilder_below hI ((Below.refl _ wr).alloc (Nat.le_refl _) (.cells #[.int .i64 x.1, .string x.2] 51))
      have hfl : (fmtAll (L.take k)).length ≤ 124 * 40 := by
        have h1 := fmtAll_len (L.take k) (fun y hy => HO.out y (List.mem_of_mem_take hy))
        have h2 : (L.take k).length ≤ k := List.length_take_le _ _
        omega
      have CI := Lib.hid cI
      clear cI
      have hs1 : (⟨(Lib.itoa x.1).toArray⟩ : ByteArray).size ≤ 21 := by
        have := Lib.itoa_length_le x.1 (HO.out x (List.mem_of_getElem? HX.out)).2.1 (HO.out x (List.mem_of_getElem? HX.out)).2.2
        show (Lib.itoa x.1).toArray.size ≤ 21
        simpa using this
      have hs2 : x.2.size ≤ 100 := (HO.out x (List.mem_of_getElem? HX.out)).1
      obtain ⟨S1, hS1⟩ : ∃ S1 : ByteArray, S1 = ⟨(Lib.itoa x.1).toArray⟩ := ⟨_, rfl⟩
      rw [← hS1] at CI hs1
      have HS := Lib.hid hS1
      clear hS1
      have hsz := hb.size
      have hroom : ∀ S : ByteArray, S = S1 ++ ⟨#[58, 32]⟩ ++ x.2 ++ ⟨#[10]⟩ → (Lib.byteCells (fmtAll (L.take k))).length + S.size ≤ 140737488355328 := fun S hS => by
        rw [hS, Lib.byteCells_length]
        simp only [ByteArray.size_append]
        have e1 : (⟨#[58, 32]⟩ : ByteArray).size = 2 := rfl
        have e2 : (⟨#[10]⟩ : ByteArray).size = 1 := rfl
        omega
      have HR := Lib.hid hroom
      clear hroom hfl
      go_wp2
      go_region_with (first | (go_at_call 40; refine (CI.out _ ?_).mono ?_; (first | exact hbA | exact hbA.drew); rintro e w1 ⟨rfl, hb1⟩; have q1 : w1.cell? ⟨wr.heap.size, 1, none⟩ = some (.string x.2) := (hb1.cell (p := ⟨wr.heap.size, 1, none⟩) (by simp)).trans (by simp); have hI1 : Lib.IsBuilder 105 5 w.heap.size w.heap.size (Lib.byteCells (fmtAll (L.take k))) w1 := (by first | exact isBuilder_below hIA hb1 | exact isBuilder_below (w := (wr.alloc _).drew) hIA hb1); have hz1 : w.heap.size ≤ w1.heap.size := (by have := hb1.size; simp at this; omega)) | (go_at_call 39; go_loud (refine (writeString_any w.heap.size w.heap.size _ _ _ hI1 (HR.out _ rfl) hz1).mono ?_); rintro e w2 ⟨rfl, h2, hb2⟩))
      all_goals
        go_wp2
        go_roundw
        case rel =>
          refine ⟨k + 1, by omega, by go_num, .inr ?_, (hbA.drew.trans (hb1.mono (by simp; omega))).trans hb2⟩
          rw [← cells_snoc L k x S1 HX.out HS.out]
          exact h2
        case measure => simp [intOf]; omega
    · obtain rfl : k = L.length := by omega
      have hT : L.take L.length = L := List.take_length
      rw [hT] at hI
      clear hT hlt
      go_wp2_with (go_at_call 41; refine (Tryz.Builder_String_any w.heap.size w.heap.size (fmtAll L) _ hI hb.size).mono ?_; rintro e w1 ⟨rfl, hb1⟩)
      go_ret
      exact ⟨rfl, hb.trans hb1⟩
end Go.Proofs.YtjhhdklbiibhdaaGreatDoor
