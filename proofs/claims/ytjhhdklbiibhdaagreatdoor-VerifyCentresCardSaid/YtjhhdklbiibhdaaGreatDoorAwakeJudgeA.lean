/-
  What verify.examine answers in this program, for whatever function it is handed that has a contract of the kind typed here; faults' and Same's contracts.
-/
import Derived.Test.YtjhhdklbiibhdaaGreatDoorAwakeRowE
import Derived.Deep.QuietTactic
import Derived.BigQuiet
namespace Go.Proofs.YtjhhdklbiibhdaaGreatDoor
open Go Go.RowKit

/-- violations: the event's index, the kind -/
def fltCells (F : List (Int × Int)) : List Value := F.flatMap fun f => [.int .i64 f.1, .int .i64 f.2]
theorem fltCells_len : ∀ F : List (Int × Int), (fltCells F).length = F.length * 2
  | [] => rfl
  | x :: F => by
    have := fltCells_len F
    simp only [fltCells, List.flatMap_cons, List.length_append, List.length_cons, List.length_nil] at this ⊢
    omega
theorem fltCells_snoc (F : List (Int × Int)) (f : Int × Int) : fltCells (F ++ [f]) = fltCells F ++ [.int .i64 f.1, .int .i64 f.2] := by
  simp [fltCells]
theorem fltCells_at : ∀ (F : List (Int × Int)) (k : Nat) (f : Int × Int), F[k]? = some f → (fltCells F)[k * 2]? = some (.int .i64 f.1) ∧ (fltCells F)[k * 2 + 1]? = some (.int .i64 f.2)
  | [], _, _, h => by simp at h
  | y :: F, 0, f, h => by
    simp at h
    subst h
    exact ⟨rfl, rfl⟩
  | y :: F, k + 1, f, h => by
    have := fltCells_at F k f (by simpa using h)
    have e1 : (k + 1) * 2 = k * 2 + 1 + 1 := by omega
    have e2 : (k + 1) * 2 + 1 = k * 2 + 1 + 1 + 1 := by omega
    rw [e2, e1]
    simpa [fltCells] using this
/-- a row of violations that can be read -/
def FltIn (W : World) (A : Option Addr) (F : List (Int × Int)) : Prop :=
  ∀ (k : Nat) f, F[k]? = some f → ∃ b off, A = some ⟨b, off, none⟩ ∧ b < W.heap.size ∧ W.cell? ⟨b, off + k * 2, none⟩ = some (.int .i64 f.1) ∧ W.cell? ⟨b, off + k * 2 + 1, none⟩ = some (.int .i64 f.2)
theorem FltIn.below {W W' : World} {A : Option Addr} {F : List (Int × Int)} (h : FltIn W A F) (hb : Below W.heap.size W W') : FltIn W' A F := fun k f hf => by
  obtain ⟨b, off, e, hl, h1, h2⟩ := h k f hf
  exact ⟨b, off, e, Nat.lt_of_lt_of_le hl hb.size, (hb.cell (p := ⟨b, off + k * 2, none⟩) hl).trans h1, (hb.cell (p := ⟨b, off + k * 2 + 1, none⟩) hl).trans h2⟩
theorem fltIn_of {W : World} {B T : Nat} {v : Value} {F : List (Int × Int)} (h : W.ownsRow B T 2 v F.length (fltCells F)) : ∃ A c, v = .slice A F.length c ∧ FltIn W A F := by
  rcases h.2 with ⟨rfl, h0⟩ | ⟨g, cap, cur, rfl, hg, hh, _⟩
  · exact ⟨none, 0, by rw [h0], fun k f hf => by have := (List.getElem?_eq_some_iff.1 hf).1; omega⟩
  · refine ⟨_, cap, rfl, fun k f hf => ?_⟩
    obtain ⟨h1, h2⟩ := fltCells_at F k f hf
    have a1 := h.cells (g := g) rfl _ _ h1
    have a2 := h.cells (g := g) rfl _ _ h2
    rw [Addr.add_mid] at a1 a2
    exact ⟨g, 0, rfl, (Array.getElem?_eq_some_iff.1 hh).1, a1, by rw [Nat.add_assoc]; exact a2⟩
/-- what a function that makes a row of violations hands back -/
def FltRet (w : World) (F : List (Int × Int)) (e : Ending) (w' : World) : Prop := ∃ A c, e = .returned (.slice A F.length c) ∧ FltIn w' A F ∧ Below w.heap.size w w'

theorem info64 : (Tryz.prog.info? 64).map (fun i => (i.zero, i.size, i.bytes)) = some (some (.agg #[.int .i64 0, .int .i64 0]), 2, 16) := by kernel_rfl
theorem info67 : (Tryz.prog.info? 67).map (fun i => (i.zero, i.size, i.bytes)) = some (some (.agg #[.int .i64 0, .int .i64 0]), 2, 16) := by kernel_rfl

set_option maxHeartbeats 2000000 in
set_option maxRecDepth 100000 in
theorem faults_any (A : Option Addr) (c : Nat) (F : List (Int × Int)) (w : World) (hL : FltIn w A F) (hlen : F.length ≤ 1000) :
    Calls Tryz.prog 11 #[.slice A F.length c] w (FltRet w F) := by
  obtain ⟨i0, hi, hz0, hz1, hz2⟩ := info_parts info64
  have HL := Lib.hid hL
  clear hL
  go_enter Tryz.func11, Tryz.ntmps11
  go_wp2
  go_loopw [3, 8] (fun v i wr => ∃ k : Nat, k ≤ F.length ∧ i = .int .i64 k ∧ wr.ownsRow w.heap.size 64 2 v (F.take k).length (fltCells (F.take k)) ∧ Below w.heap.size w wr) (fun _ i _ => F.length - (intOf i).toNat)
  case atStart => exact ⟨0, Nat.zero_le _, rfl, ⟨rfl, .inl ⟨rfl, rfl⟩⟩, Below.refl _ _⟩
  case round =>
    obtain ⟨k, hk, rfl, hown, hb⟩ := hrel
    by_cases hlt : k < F.length
    · obtain ⟨x, hx⟩ : ∃ x, F[k]? = some x := ⟨_, List.getElem?_eq_getElem hlt⟩
      obtain ⟨b, off, rfl, hbl, hc0, hc1⟩ := HL.out k x hx
      have hc0' : wr.cell? ⟨b, off + k * 2, none⟩ = some (.int .i64 x.1) := (hb.cell (p := ⟨b, off + k * 2, none⟩) hbl).trans hc0
      have hc1' : wr.cell? ⟨b, off + k * 2 + 1, none⟩ = some (.int .i64 x.2) := (hb.cell (p := ⟨b, off + k * 2 + 1, none⟩) hbl).trans hc1
      have HX := Lib.hid hx
      clear hc0 hc1 hx
      have hsz := hb.size
      have hT : (F.take k).length = k := by rw [List.length_take]; omega
      rw [hT] at hown
      clear hT
      have hown1 := (hown.alloc (.cells #[.int .i64 x.1, .int .i64 x.2] 67)).alloc (.cells #[.int .i64 x.1, .int .i64 x.2] 64)
      have hbA : Below w.heap.size w ((wr.alloc (.cells #[.int .i64 x.1, .int .i64 x.2] 67)).alloc (.cells #[.int .i64 x.1, .int .i64 x.2] 64)) := (hb.alloc hb.size _).alloc (by simp; omega) _
      go_wp2_with (at_builtin; (refine wpList_append_own _ rfl _ _ 26 rfl w.heap.size 64 i0 _ 2 16 Tryz.underlying26 hi hz0 hz1 hz2 rfl (by decide) _ _ _ rfl hown1 ⟨wr.heap.size + 1, 0, none⟩ 1 1 [.int .i64 x.1, .int .i64 x.2] rfl rfl ?c1 ?c2 ?c3 ?c4 ?c5 ?_))
      case c1 =>
        intro j u hj
        match j, hj with
        | 0, hj => simp at hj; subst hj; simp [Addr.add]
        | 1, hj => simp at hj; subst hj; simp [Addr.add]
        | j + 2, hj => simp at hj
      case c2 => intro u hu; simp at hu; rcases hu with rfl | rfl <;> rfl
      case c3 => unfold maxLen; omega
      case c4 => omega
      case c5 => simp; omega
      intro v' w2 hown' hgrow _
      have hb2 := hbA.grown hgrow (by simp; omega) (own_lt hown1)
      clear hown1 hgrow
      go_wp2
      go_roundw
      case rel =>
        refine ⟨k + 1, by omega, by go_num, ?_, hb2⟩
        rw [take_snoc HX.out, fltCells_snoc, show (F.take k ++ [x]).length = k + 1 by simp; omega]
        exact hown'
      case measure => simp [intOf]; omega
    · obtain rfl : k = F.length := by omega
      have hT : F.take F.length = F := List.take_length
      rw [hT] at hown
      clear hT hlt
      obtain ⟨A', c', rfl, hF⟩ := fltIn_of hown
      have H := Lib.hid hF
      clear hown hF
      go_wp2
      go_ret
      exact ⟨A', c', rfl, H.out, hb⟩

set_option maxHeartbeats 2000000 in
set_option maxRecDepth 100000 in
theorem same_any (A A2 : Option Addr) (c c2 : Nat) (F : List (Int × Int)) (w : World) (hL : FltIn w A F) (hL2 : FltIn w A2 F) (hlen : F.length ≤ 1000) :
    Calls Tryz.prog 10 #[.slice A F.length c, .slice A2 F.length c2] w fun e w' => e = .returned (.bool true) ∧ Below w.heap.size w w' := by
  have HL := Lib.hid hL
  have HL2 := Lib.hid hL2
  clear hL hL2
  go_enter Tryz.func10, Tryz.ntmps10
  go_wp2
  go_loopw [5] (fun i wr => ∃ k : Nat, k ≤ F.length ∧ i = .int .i64 k ∧ Below w.heap.size w wr) (fun i _ => F.length - (intOf i).toNat)
  case atStart => exact ⟨0, Nat.zero_le _, rfl, Below.refl _ _⟩
  case round =>
    obtain ⟨k, hk, rfl, hb⟩ := hrel
    by_cases hlt : k < F.length
    · obtain ⟨x, hx⟩ : ∃ x, F[k]? = some x := ⟨_, List.getElem?_eq_getElem hlt⟩
      obtain ⟨b, off, rfl, hbl, hc0, hc1⟩ := HL.out k x hx
      obtain ⟨b', off', rfl, hbl', hd0, hd1⟩ := HL2.out k x hx
      have hc0' : wr.cell? ⟨b, off + k * 2, none⟩ = some (.int .i64 x.1) := (hb.cell (p := ⟨b, off + k * 2, none⟩) hbl).trans hc0
      have hc1' : wr.cell? ⟨b, off + k * 2 + 1, none⟩ = some (.int .i64 x.2) := (hb.cell (p := ⟨b, off + k * 2 + 1, none⟩) hbl).trans hc1
      have hd0' : wr.cell? ⟨b', off' + k * 2, none⟩ = some (.int .i64 x.1) := (hb.cell (p := ⟨b', off' + k * 2, none⟩) hbl').trans hd0
      have hd1' : wr.cell? ⟨b', off' + k * 2 + 1, none⟩ = some (.int .i64 x.2) := (hb.cell (p := ⟨b', off' + k * 2 + 1, none⟩) hbl').trans hd1
      have hki : (k : Int) < (F.length : Int) := by omega
      clear hc0 hc1 hd0 hd1 hx
      go_wp2
      go_quiet (fail)
      go_wp2
      go_roundw
      case rel => exact ⟨k + 1, by omega, by go_num, hb.trans (show Below w.heap.size wr (wr.drewN nq) from ⟨rfl, rfl, rfl, Nat.le_refl _, fun _ _ => rfl⟩)⟩
      case measure => simp [intOf]; omega
    · obtain rfl : k = F.length := by omega
      clear hlt
      go_wp2
      go_ret
      exact ⟨rfl, hb⟩
end Go.Proofs.YtjhhdklbiibhdaaGreatDoor
