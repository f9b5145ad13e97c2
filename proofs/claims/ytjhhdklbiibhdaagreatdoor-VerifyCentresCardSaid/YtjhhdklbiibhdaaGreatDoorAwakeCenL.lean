/-
  What the reference's Log answers in this program, with the bodies where the events have them: for every trace of at most 1000 events.
-/
import Derived.Test.YtjhhdklbiibhdaaGreatDoorAwakeCenC
namespace Go.Proofs.YtjhhdklbiibhdaaGreatDoor
open Go Go.RowKit

/-- an entry whose body lies below B0 -/
def EnL (B0 : Nat) (W : World) (B : Nat) (x : EnD) (cs : List Value) : Prop := B0 ≤ B ∧ ∃ A cap, cs = enCells x A cap ∧ BytesLow W B0 A x.body
theorem enL_stays (B0 : Nat) : Stays 5 (EnL B0) := fun ⟨hB, A, cap, h1, h2⟩ _ e => ⟨hB, A, cap, h1, fun hn => by
  obtain ⟨b, o, ea, hlt, hc⟩ := h2 hn
  refine ⟨b, o, ea, hlt, fun i hi => ?_⟩
  have h0 := hc i hi
  exact (World.cell?_of_block (e b ⟨World.block_lt_of_cell? _ _ h0, .inl (by omega)⟩)).trans h0⟩
theorem enL_next {B0 : Nat} {W : World} {B : Nat} {x : EnD} {cs : List Value} (h : EnL B0 W B x cs) (o : Obj) : EnL B0 (W.alloc o) B x cs := Stays.next (C := EnL B0) (enL_stays B0) h o

set_option maxHeartbeats 2000000 in
set_option maxRecDepth 100000 in
theorem log_low (B0 : Nat) (A : Option Addr) (c : Nat) (L : List EvD) (w : World) (hB0 : B0 ≤ w.heap.size) (hL : EvsLow w B0 A L) (hlen : L.length ≤ 1000) :
    Calls Tryz.prog 18 #[.slice A L.length c] w fun e w' => ∃ v, e = .returned v ∧ OwnR 5 36 3 (EnL B0) w' w.heap.size v (logOf L) ∧ Below w.heap.size w w' := by
  obtain ⟨i0, hi, hz0, hz1, hz2⟩ := info_parts info36
  have HL := Lib.hid hL
  have h0 : OwnR 5 36 3 (EnL B0) (w.alloc (.cells #[] 36)) w.heap.size (.slice (some ⟨w.heap.size, 0, none⟩) 0 0) (logOf (L.take 0)) :=
    ⟨[], World.ownsRow_made w #[] 0 (Nat.le_refl _) (Nat.zero_le _) rfl, rfl, fun _ h => absurd h (by simp), fun k x cs h => absurd h (by simp [logOf])⟩
  have H0 := Lib.hid h0
  clear hL h0
  go_enter Tryz.func18, Tryz.ntmps18
  go_wp2
  go_loopw [3, 4] (fun v i wr => ∃ k : Nat, k ≤ L.length ∧ i = .int .i64 k ∧ OwnR 5 36 3 (EnL B0) wr w.heap.size v (logOf (L.take k)) ∧ Below w.heap.size w wr) (fun _ i _ => L.length - (intOf i).toNat)
  case atStart => exact ⟨0, Nat.zero_le _, rfl, H0.out, (Below.refl _ w).alloc (Nat.le_refl _) _⟩
  case round =>
    obtain ⟨k, hk, rfl, hrow, hb⟩ := hrel
    clear H0
    by_cases hlt : k < L.length
    · obtain ⟨x, hx⟩ : ∃ x, L[k]? = some x := ⟨_, List.getElem?_eq_getElem hlt⟩
      obtain ⟨b, off, B, cap, tl, rfl, hbl, hl, hr, hone, hby⟩ := HL.out k x hx
      have q : ∀ (j : Nat) v, (evCells x B cap tl)[j]? = some v → wr.cell? ⟨b, off + k * 28 + j, none⟩ = some v := fun j v hv => (hb.cell (p := ⟨b, off + k * 28 + j, none⟩) (by show b < w.heap.size; omega)).trans (hr j v hv)
      have q0 : wr.cell? ⟨b, off + k * 28, none⟩ = some (.int .i64 x.kind) := q 0 _ rfl
      have q5 : wr.cell? ⟨b, off + k * 28 + 5, none⟩ = some (.int .i64 x.n) := q 5 _ rfl
      have q6 : wr.cell? ⟨b, off + k * 28 + 6, none⟩ = some (.int .i64 x.term) := q 6 _ rfl
      have q7 : wr.cell? ⟨b, off + k * 28 + 6 + 1, none⟩ = some (.int .i64 x.ek) := q 7 _ rfl
      have q8 : wr.cell? ⟨b, off + k * 28 + 6 + 2, none⟩ = some (.slice B x.body.length cap) := q 8 _ rfl
      have hbyr : BytesLow wr B0 B x.body := hby.below (hb.mono hB0)
      have HE := Lib.hid (show EnL B0 wr w.heap.size x.en (enCells x.en B cap) from ⟨hB0, B, cap, rfl, hbyr⟩)
      have HX := Lib.hid hx
      have hn : (logOf (L.take k)).length ≤ 1000 := by
        have h1 := logOf_le (L.take k)
        have h2 := List.length_take_le k L
        omega
      obtain ⟨css, hown, hcl, hcs, hC⟩ := hrow
      obtain ⟨A', cap', rfl⟩ := shape_of hown
      obtain ⟨E, hE⟩ : ∃ E, E = logOf (L.take k) := ⟨_, rfl⟩
      rw [← hE] at hown hcl hC hn ⊢
      have HEq := Lib.hid hE
      have HCL := Lib.hid hcl
      have HCS := Lib.hid hcs
      have HC := Lib.hid hC
      obtain ⟨n, hn'⟩ : ∃ n, n = E.length := ⟨_, rfl⟩
      rw [← hn'] at hown hn ⊢
      have HN := Lib.hid hn'
      have hsz := hb.size
      clear hx hr q hby hone hbyr hl hE hcl hcs hC hn'
      by_cases hk7 : x.kind = 7
      · by_cases hkn : x.n = (n : Int) + 1
        · have hown1 := hown.alloc (.cells #[.int .i64 x.term, .int .i64 x.ek, .slice B x.body.length cap] 36)
          go_wp2_with (at_builtin; (refine wpList_append_own _ rfl _ _ 32 rfl w.heap.size 36 i0 _ 3 40 Tryz.underlying32 hi hz0 hz1 hz2 rfl (by decide) _ _ _ rfl hown1 ⟨wr.heap.size, 0, none⟩ 1 1 [.int .i64 x.term, .int .i64 x.ek, .slice B x.body.length cap] rfl rfl ?c1 ?c2 ?c3 ?c4 ?c5 ?_))
          case c1 => exact cells_new _ _ _
          case c2 => intro u hu; simp at hu; rcases hu with rfl | rfl | rfl <;> rfl
          case c3 => unfold maxLen; omega
          case c4 => omega
          case c5 => simp; omega
          intro v' w2 hown' hgrow _
          have hb2 := (hb.alloc hb.size _).grown hgrow (by simp; omega) (own_lt hown1)
          have R := OwnR.snoc (W := wr.alloc (.cells #[.int .i64 x.term, .int .i64 x.ek, .slice B x.body.length cap] 36)) (te := 5) (C := EnL B0) (L := E) (x := x.en) (cs := enCells x.en B cap) (enL_stays B0) (by decide) HN.out hown1 HCL.out HCS.out
            (fun k y cs hy hc => enL_next (HC.out k y cs hy hc) _) (enL_next HE.out _) rfl hown' hgrow
          obtain ⟨A2, cap2, rfl⟩ := shape_of hown'
          have HR := Lib.hid R
          clear hown1 hgrow hown' R hown
          go_wp2
          go_roundw
          case rel =>
            refine ⟨k + 1, by omega, by go_num, ?_, hb2⟩
            rw [logOf_snoc L k x HX.out, ← HEq.out, logStep_hit hk7 (by rw [← HN.out]; exact hkn)]
            exact HR.out
          case measure => simp [intOf]; omega
        · have HR := Lib.hid (show OwnR 5 36 3 (EnL B0) wr w.heap.size (.slice A' n cap') E from OwnR.of HN.out hown HCL.out HCS.out HC.out)
          clear hown
          go_wp2
          go_roundw
          case rel =>
            refine ⟨k + 1, by omega, by go_num, ?_, hb⟩
            rw [logOf_snoc L k x HX.out, ← HEq.out, logStep_miss (by rw [← HN.out]; exact fun h => hkn h.2)]
            exact HR.out
          case measure => simp [intOf]; omega
      · have HR := Lib.hid (show OwnR 5 36 3 (EnL B0) wr w.heap.size (.slice A' n cap') E from OwnR.of HN.out hown HCL.out HCS.out HC.out)
        clear hown
        go_wp2
        go_roundw
        case rel =>
          refine ⟨k + 1, by omega, by go_num, ?_, hb⟩
          rw [logOf_snoc L k x HX.out, ← HEq.out, logStep_miss (fun h => hk7 h.1)]
          exact HR.out
        case measure => simp [intOf]; omega
    · obtain rfl : k = L.length := by omega
      have hT : L.take L.length = L := List.take_length
      rw [hT] at hrow
      clear hT hlt
      have H := Lib.hid hrow
      obtain ⟨css, hown, _, _, _⟩ := hrow
      obtain ⟨A', cap', rfl⟩ := shape_of hown
      clear hown
      go_wp2
      go_ret
      exact ⟨_, rfl, H.out, hb⟩
end Go.Proofs.YtjhhdklbiibhdaaGreatDoor
