/-
  What the line-writer of stats.Format does in this program, and what stats.Format answers: for every ten numbers.
-/
import Derived.Test.YtacogbmafmdnjaaGreatDoorAwakeFmtA
import Derived.Test.YtacogbmafmdnjaaGreatDoorAwakeFmtB
import Derived.Test.YtacogbmafmdnjaaGreatDoorAwakeShelf
import Derived.Lib.AppendIntMem
import Derived.Deep.RegionWith
import Derived.LoopTactic
namespace Go.Proofs.YtacogbmafmdnjaaGreatDoor
open Go Go.RowKit

def okI (v : Int) : Prop := -9223372036854775808 ≤ v ∧ v ≤ 9223372036854775807
def piece (nm : ByteArray) (v : Int) : List UInt8 := if v = 0 then [] else nm.data.toList ++ [32] ++ Lib.itoa v ++ [10]

theorem owns_below {w w' : World} {B : Nat} {e : TypeId} {size : Nat} {v : Value} {n : Nat} {xs : List Value} (h : w.ownsRow B e size v n xs) (hb : Below w.heap.size w w') : w'.ownsRow B e size v n xs := by
  refine ⟨h.1, ?_⟩
  rcases h.2 with h0 | ⟨g, cap, cur, hv, hg, hh, rest⟩
  · exact .inl h0
  · have hlt : g < w.heap.size := (Array.getElem?_eq_some_iff.1 hh).1
    exact .inr ⟨g, cap, cur, hv, hg, (hb.block g hlt).trans hh, rest⟩
theorem builderAt_below {T e : TypeId} {B b : Nat} {p : Value} {bs : List Value} {w w' : World} (h : Lib.BuilderAt T e B b p bs w) (hb : Below w.heap.size w w') : Lib.BuilderAt T e B b p bs w' := by
  have hlt := h.lt
  obtain ⟨h1, v, h2, h3, h4⟩ := h
  exact ⟨h1, v, (hb.block b hlt).trans h2, owns_below h3 hb, h4⟩
theorem isBuilder_below {T e : TypeId} {B b : Nat} {bs : List Value} {w w' : World} (h : Lib.IsBuilder T e B b bs w) (hb : Below w.heap.size w w') : Lib.IsBuilder T e B b bs w' := by
  rcases h with h | h
  · exact .inl (builderAt_below h hb)
  · exact .inr (builderAt_below h hb)

theorem fmtInt45 (n : Int) (h : okI n) (w : World) (htab : Lib.TabIs Tryz.prog w "internal/strconv.uint64pow10" .u64 Lib.pow10Tab) :
    Calls Tryz.prog 45 #[.int .i64 n, .int .i64 10] w fun e w' => e = .returned (.string ⟨(Lib.itoa n).toArray⟩) ∧ Below w.heap.size w w' :=
  (Tryz.strconv_FormatInt_10 n h.1 h.2 w htab).mono fun _ _ ⟨he, k, os, hw⟩ => ⟨he, by rw [hw]; exact Lib.below_grow _ _ (Nat.le_refl _) k os⟩

theorem tab_below {w W : World} (h : Lib.TabIs Tryz.prog w "internal/strconv.uint64pow10" .u64 Lib.pow10Tab) (hb : Below w.heap.size w W) : Lib.TabIs Tryz.prog W "internal/strconv.uint64pow10" .u64 Lib.pow10Tab := by
  have hg : Tryz.prog.globalNamed "internal/strconv.uint64pow10" = some 0 := by kernel_rfl
  unfold Lib.TabIs World.var? at h ⊢
  rw [hg] at h ⊢
  simp only [Option.bind_some] at h ⊢
  have hlt : 0 < w.heap.size := by
    cases hh : w.heap[0]? with
    | none => rw [hh] at h; cases h
    | some o => exact (Array.getElem?_eq_some_iff.1 hh).1
  rw [hb.block 0 hlt]
  exact h

theorem piece_cells (nm : ByteArray) (v : Int) (S1 : ByteArray) (l : List UInt8) (hv : v ≠ 0) (hS : S1 = ⟨(Lib.itoa v).toArray⟩) :
    Lib.byteCells l ++ Lib.strCells (nm ++ ⟨#[32]⟩ ++ S1 ++ ⟨#[10]⟩) = Lib.byteCells (l ++ piece nm v) := by
  rw [Lib.byteCells_append, Lib.strCells_eq, hS]
  unfold piece
  rw [if_neg hv]
  congr 2

theorem len_piece (nm : ByteArray) (v : Int) (hn : nm.size ≤ 20) (hv : okI v) : (piece nm v).length ≤ 43 := by
  have h1 := Lib.itoa_length_le v hv.1 hv.2
  have h2 : nm.data.toList.length = nm.size := by simp
  unfold piece
  split
  · simp
  · simp only [List.length_append, List.length_cons, List.length_nil]
    omega

/-- what the line-writer leaves -/
def LineRet (B b : Nat) (l : List UInt8) (nm : ByteArray) (v : Int) (w : World) (e : Ending) (w' : World) : Prop :=
  e = .returned (.tuple #[]) ∧ Lib.IsBuilder 123 5 B b (Lib.byteCells (l ++ piece nm v)) w' ∧ Below B w w'

set_option maxHeartbeats 2000000 in
set_option maxRecDepth 100000 in
theorem line_any (B b : Nat) (l : List UInt8) (nm : ByteArray) (v : Int) (w : World) (h : Lib.IsBuilder 123 5 B b (Lib.byteCells l) w) (hl : l.length ≤ 1000) (hn : nm.size ≤ 20) (hv : okI v) (hB : B ≤ w.heap.size)
    (htab : Lib.TabIs Tryz.prog w "internal/strconv.uint64pow10" .u64 Lib.pow10Tab) :
    Calls Tryz.prog 43 #[.string nm, .int .i64 v, .pointer (some ⟨b, 0, none⟩)] w (LineRet B b l nm v w) := by
  by_cases h0 : v = 0
  · subst h0
    have H := Lib.hid h
    clear h
    go_enter Tryz.func43, Tryz.ntmps43
    go_wp2
    go_end0
    exact ⟨rfl, by simpa [piece] using H.out, Below.refl _ _⟩
  · have hs1 : (⟨(Lib.itoa v).toArray⟩ : ByteArray).size ≤ 21 := by
      have := Lib.itoa_length_le v hv.1 hv.2
      show (Lib.itoa v).toArray.size ≤ 21
      simpa using this
    have cI := fmtInt45 v hv w htab
    obtain ⟨S1, hS1⟩ : ∃ S1 : ByteArray, S1 = ⟨(Lib.itoa v).toArray⟩ := ⟨_, rfl⟩
    rw [← hS1] at cI hs1
    have hroom : (Lib.byteCells l).length + (nm ++ ⟨#[32]⟩ ++ S1 ++ ⟨#[10]⟩).size ≤ 140737488355328 := by
      rw [Lib.byteCells_length]
      simp only [ByteArray.size_append]
      have e1 : (⟨#[32]⟩ : ByteArray).size = 1 := rfl
      have e2 : (⟨#[10]⟩ : ByteArray).size = 1 := rfl
      omega
    have HP := Lib.hid (piece_cells nm v S1 l h0 hS1)
    have HS := Lib.hid hS1
    have HR := Lib.hid hroom
    have HI := Lib.hid h
    have CI := Lib.hid cI
    have hne : (v != 0) = true := by simpa using h0
    have H0 := Lib.hid h0
    clear hS1 hroom h cI htab h0
    go_enter Tryz.func43, Tryz.ntmps43
    go_wp2_with (first | (go_at_call 45; refine CI.out.mono ?_; rintro e w1 ⟨rfl, hb1⟩) | (go_at_call 44; refine (writeString_any B b _ _ _ (isBuilder_below HI.out hb1) HR.out (Nat.le_trans hB hb1.size)).mono ?_; rintro e w2 ⟨rfl, h2, hb2⟩; have HH := Lib.hid h2; clear h2))
    go_end0
    exact ⟨rfl, .inr (by rw [← HP.out]; exact HH.out), (hb1.mono hB).trans hb2⟩
end Go.Proofs.YtacogbmafmdnjaaGreatDoor
