/-
  What verify.CommittedLog answers in this program: for every trace of at most 1000 events with bodies of at most 2000 bytes.
-/
import Derived.Test.YtjhhdklbiibhdaaGreatDoorAwakeRowC
namespace Go.Proofs.YtjhhdklbiibhdaaGreatDoor
open Go Go.RowKit
theorem size46 : (Tryz.prog.info? 46).map (·.size) = some 28 := by kernel_rfl
theorem evCells_one {x : EvD} {B : Option Addr} {cap : Nat} {tl : List Value} (h : ∀ v ∈ tl, v.oneCell' = true) : ∀ v ∈ evCells x B cap tl, v.oneCell' = true := by
  intro v hv
  simp only [evCells, List.mem_cons] at hv
  rcases hv with rfl | rfl | rfl | rfl | rfl | rfl | rfl | rfl | rfl | hv <;> first | rfl | exact h v hv

theorem ownEn_below {W W' : World} {B : Nat} {v : Value} {L : List EnD} (h : OwnR 5 36 3 (EnC 5) W B v L) (hb : Below W.heap.size W W') : OwnR 5 36 3 (EnC 5) W' B v L := OwnR.below (C := EnC 5) (enC_stays 5) h hb
theorem ownEv_below {W W' : World} {B : Nat} {v : Value} {L : List EvD} (h : OwnR 5 46 28 (EvC 5) W B v L) (hb : Below W.heap.size W W') : OwnR 5 46 28 (EvC 5) W' B v L := OwnR.below (C := EvC 5) (evC_stays 5) h hb
/-- what lies where, behind the clone's store and the new record -/
theorem round_clone {wr w1 : World} {ca : Array Value} {B A1 : Option Addr} {cap c1 b0 : Nat} {v : Value} {E : List EnD} (x : EvD)
    (hb1 : Below ((wr.alloc (.cells ca 46)).alloc (.cells #[.int .i64 x.term, .int .i64 x.ek, .slice B x.body.length cap] 36)).heap.size ((wr.alloc (.cells ca 46)).alloc (.cells #[.int .i64 x.term, .int .i64 x.ek, .slice B x.body.length cap] 36)) w1)
    (hA1 : BytesAt 5 w1 0 A1 x.body) (hn1 : A1 = none → c1 = 0) (hrow : OwnR 5 36 3 (EnC 5) wr b0 v E) :
    Below wr.heap.size wr ((w1.setCell ⟨wr.heap.size + 1, 2, none⟩ (.slice A1 x.body.length c1)).alloc (.cells #[.int .i64 x.term, .int .i64 x.ek, .slice A1 x.body.length c1] 36)) ∧
    OwnR 5 36 3 (EnC 5) ((w1.setCell ⟨wr.heap.size + 1, 2, none⟩ (.slice A1 x.body.length c1)).alloc (.cells #[.int .i64 x.term, .int .i64 x.ek, .slice A1 x.body.length c1] 36)) b0 v E ∧
    EnC 5 ((w1.setCell ⟨wr.heap.size + 1, 2, none⟩ (.slice A1 x.body.length c1)).alloc (.cells #[.int .i64 x.term, .int .i64 x.ek, .slice A1 x.body.length c1] 36)) b0 x.en (enCells x.en A1 c1) := by
  have hbw : Below wr.heap.size wr ((wr.alloc (.cells ca 46)).alloc (.cells #[.int .i64 x.term, .int .i64 x.ek, .slice B x.body.length cap] 36)) := ((Below.refl _ wr).alloc (Nat.le_refl _) _).alloc (by simp) _
  have hb2 := hbw.trans (hb1.mono hbw.size)
  have hs := hb2.size
  have hB3 := (hb2.setCell (p := ⟨wr.heap.size + 1, 2, none⟩) (by simp) (.slice A1 x.body.length c1)).alloc (by simp; omega) (.cells #[.int .i64 x.term, .int .i64 x.ek, .slice A1 x.body.length c1] 36)
  have hg : w1.heap[wr.heap.size + 1]? = some (.cells #[.int .i64 x.term, .int .i64 x.ek, .slice B x.body.length cap] 36) := (hb1.block _ (by simp)).trans (by
    have e := heap_alloc_last (wr.alloc (.cells ca 46)) (.cells #[.int .i64 x.term, .int .i64 x.ek, .slice B x.body.length cap] 36)
    rwa [show (wr.alloc (.cells ca 46)).heap.size = wr.heap.size + 1 by simp] at e)
  exact ⟨hB3, ownEn_below hrow hB3, A1, c1, rfl, (bytes_set hA1 hg (by decide) _ _).lower (Nat.zero_le _), hn1⟩

set_option maxHeartbeats 4000000 in
set_option maxRecDepth 100000 in
theorem committed_any (A : Option Addr) (c : Nat) (L : List EvD) (w : World) (hL : RowIn 5 28 (EvC 5) w A L) (hlen : L.length ≤ 1000) (hbody : ∀ x ∈ L, x.body.length ≤ 2000) :
    Calls Tryz.prog 17 #[.slice A L.length c] w fun e w' => ∃ v, e = .returned v ∧ OwnR 5 36 3 (EnC 5) w' w.heap.size v (logOf L) ∧ Below w.heap.size w w' := by
  obtain ⟨i0, hi, hz0, hz1, hz2⟩ := info_parts info36
  have HL := Lib.hid hL
  have HBD := Lib.hid hbody
  clear hL hbody
  go_enter Tryz.func17, Tryz.ntmps17
  go_wp2
  go_loopw [3, 9] (fun v i wr => ∃ k : Nat, k ≤ L.length ∧ i = .int .i64 k ∧ OwnR 5 36 3 (EnC 5) wr w.heap.size v (logOf (L.take k)) ∧ Below w.heap.size w wr) (fun _ i _ => L.length - (intOf i).toNat)
  case atStart => exact ⟨0, Nat.zero_le _, rfl, OwnR.nil _ _, Below.refl _ _⟩
  case round =>
    obtain ⟨k, hk, rfl, hrow, hb⟩ := hrel
    by_cases hlt : k < L.length
    · obtain ⟨x, hx⟩ : ∃ x, L[k]? = some x := ⟨_, List.getElem?_eq_getElem hlt⟩
      obtain ⟨b, off, cs, rfl, hbl, hl, hr, B, cap, tl, hcse, htl, hone, hby, hnil⟩ := HL.out k x hx
      have hrr : wr.rangeAt b (off + k * 28) cs := fun j v hv => (hb.cell (p := ⟨b, off + k * 28 + j, none⟩) hbl).trans (hr j v hv)
      have HRR := Lib.hid hrr
      have H28 := Lib.hid (show (Tryz.prog.info? 46).map (·.size) = some cs.length by rw [hl]; exact size46)
      have H28' := Lib.hid (show (Tryz.prog.info? 46).map (·.size) = some cs.toArray.size by rw [List.size_toArray, hl]; exact size46)
      have HSZ := Lib.hid (show (28 : Nat) = cs.toArray.size by rw [List.size_toArray, hl])
      have HONE := Lib.hid (show cs.toArray.all (·.oneCell') = true from all_oneCell_toArray (by rw [hcse]; exact evCells_one hone))
      have q0 : cs.toArray[0]? = some (.int .i64 x.kind) := by rw [hcse]; rfl
      have q1 : cs.toArray[1]? = some (.int .i64 x.tick) := by rw [hcse]; rfl
      have q2 : cs.toArray[2]? = some (.int .i64 x.who) := by rw [hcse]; rfl
      have q3 : cs.toArray[3]? = some (.int .i64 x.call) := by rw [hcse]; rfl
      have q4 : cs.toArray[4]? = some (.int .i64 x.epoch) := by rw [hcse]; rfl
      have q5 : cs.toArray[5]? = some (.int .i64 x.n) := by rw [hcse]; rfl
      have q6 : cs.toArray[6]? = some (.int .i64 x.term) := by rw [hcse]; rfl
      have q7 : cs.toArray[7]? = some (.int .i64 x.ek) := by rw [hcse]; rfl
      have q8 : cs.toArray[8]? = some (.slice B x.body.length cap) := by rw [hcse]; rfl
      have HCSE := Lib.hid hcse
      obtain ⟨ca, hca⟩ : ∃ ca, ca = cs.toArray := ⟨_, rfl⟩
      rw [← hca] at q0 q1 q2 q3 q4 q5 q6 q7 q8 H28' HSZ HONE
      have HCA := Lib.hid hca
      have hbyr : BytesAt 5 wr w.heap.size B x.body := hby.below hb
      have HBY := Lib.hid hbyr
      have hbl2 : x.body.length ≤ 2000 := HBD.out x (List.mem_of_getElem? hx)
      have HX := Lib.hid hx
      have HNIL := Lib.hid hnil
      have hn : (logOf (L.take k)).length ≤ 1000 := by
        have h1 := logOf_le (L.take k)
        have h2 := List.length_take_le k L
        omega
      have HROW := Lib.hid hrow
      obtain ⟨css, hown, hcl, hcs, hC⟩ := hrow
      obtain ⟨A', cap', rfl⟩ := shape_of hown
      obtain ⟨E, hE⟩ : ∃ E, E = logOf (L.take k) := ⟨_, rfl⟩
      rw [← hE] at hn HROW ⊢
      have HEq := Lib.hid hE
      obtain ⟨n, hn'⟩ : ∃ n, n = E.length := ⟨_, rfl⟩
      rw [← hn'] at hn HROW ⊢
      have HN := Lib.hid hn'
      have hsz := hb.size
      clear hx hr hrr hby hnil hone htl hbyr hl hE hcl hcs hC hn' hown hcse hca
      by_cases hk7 : x.kind = 7
      · by_cases hkn : x.n = (n : Int) + 1
        · have HBW := Lib.hid (show Below wr.heap.size wr ((wr.alloc (.cells ca 46)).alloc (.cells #[.int .i64 x.term, .int .i64 x.ek, .slice B x.body.length cap] 36)) from ((Below.refl _ wr).alloc (Nat.le_refl _) _).alloc (by simp) _)
          go_wp2_with (first | (with_reducible refine wpList_load_mid rfl 46 (.tmp 11) rfl b (off + k * 28) rfl cs _ HRR.out Tryz.underlying46 rfl H28.out ?_; rw [← HCA.out]) | (refine wpList_store_new rfl 46 (.tmp 5) (.tmp 12) rfl _ ca rfl rfl H28'.out HSZ.out HONE.out ?_) | (go_at_call 36; go_loud (refine (clone_any B cap x.body _ ((HBY.out.keep HBW.out.size (fun b ho => HBW.out.block b ho.1)).top) HNIL.out hbl2).mono ?_); go_loud (rintro e w1 ⟨A1, c1, rfl, hA1, hn1, hb1⟩; have c0 : w1.cell? ⟨wr.heap.size + 1, 0, none⟩ = some (.int .i64 x.term) := (hb1.cell (p := ⟨wr.heap.size + 1, 0, none⟩) (by simp)).trans (by simp); have cc1 : w1.cell? ⟨wr.heap.size + 1, 1, none⟩ = some (.int .i64 x.ek) := (hb1.cell (p := ⟨wr.heap.size + 1, 1, none⟩) (by simp)).trans (by simp); have cc2 : w1.cell? ⟨wr.heap.size + 1, 2, none⟩ = some (.slice B x.body.length cap) := (hb1.cell (p := ⟨wr.heap.size + 1, 2, none⟩) (by simp)).trans (by simp); have ff2 : w1.frozen? ⟨wr.heap.size + 1, 2, none⟩ = false := (hb1.frozen (p := ⟨wr.heap.size + 1, 2, none⟩) (by simp)).trans (by simp); obtain ⟨hB3, hR3, hE3⟩ := round_clone x hb1 hA1 hn1 HROW.out; obtain ⟨css, hown1, hcl, hcs, hC⟩ := hR3; rw [← HN.out] at hown1; have HCL := Lib.hid hcl; have HCS := Lib.hid hcs; have HC := Lib.hid hC; have HE := Lib.hid hE3; have HCN := Lib.hid (cells_new (w1.setCell ⟨wr.heap.size + 1, 2, none⟩ (.slice A1 x.body.length c1)) [.int .i64 x.term, .int .i64 x.ek, .slice A1 x.body.length c1] 36); simp only [World.size_setCell] at HCN; clear hcl hcs hC hE3 hA1 hn1 hb1)) | (at_builtin; go_loud (refine wpList_append_own _ rfl _ _ 32 rfl w.heap.size 36 i0 _ 3 40 Tryz.underlying32 hi hz0 hz1 hz2 rfl (by decide) _ _ _ rfl hown1 ⟨w1.heap.size, 0, none⟩ 1 1 [.int .i64 x.term, .int .i64 x.ek, .slice A1 x.body.length c1] rfl rfl HCN.out (by intro u hu; simp at hu; rcases hu with rfl | rfl | rfl <;> rfl) (by unfold maxLen; omega) (by omega) (by have := hB3.size; omega) ?_); intro v' w2 hown' hgrow _))
          have hb2 := (hb.trans (hB3.mono hsz)).grown hgrow (by have := hB3.size; omega) (own_lt hown1)
          have R := OwnR.snoc (te := 5) (C := EnC 5) (L := E) (x := x.en) (cs := enCells x.en A1 c1) (enC_stays 5) (by decide) HN.out hown1 HCL.out HCS.out HC.out HE.out rfl hown' hgrow
          obtain ⟨A2, cap2, rfl⟩ := shape_of hown'
          have HR := Lib.hid R
          clear hown1 hgrow hown' R
          go_wp2
          go_roundw
          case rel =>
            refine ⟨k + 1, by omega, by go_num, ?_, hb2⟩
            rw [logOf_snoc L k x HX.out, ← HEq.out, logStep_hit hk7 (by rw [← HN.out]; exact hkn)]
            exact HR.out
          case measure => simp [intOf]; omega
        · have HR := Lib.hid (ownEn_below HROW.out (show Below wr.heap.size wr (wr.alloc (.cells ca 46)) from (Below.refl _ wr).alloc (Nat.le_refl _) _))
          go_wp2_with (first | (with_reducible refine wpList_load_mid rfl 46 (.tmp 11) rfl b (off + k * 28) rfl cs _ HRR.out Tryz.underlying46 rfl H28.out ?_; rw [← HCA.out]) | (refine wpList_store_new rfl 46 (.tmp 5) (.tmp 12) rfl _ ca rfl rfl H28'.out HSZ.out HONE.out ?_))
          go_roundw
          case rel =>
            refine ⟨k + 1, by omega, by go_num, ?_, hb.alloc hsz _⟩
            rw [logOf_snoc L k x HX.out, ← HEq.out, logStep_miss (by rw [← HN.out]; exact fun h => hkn h.2)]
            exact HR.out
          case measure => simp [intOf]; omega
      · have HR := Lib.hid (ownEn_below HROW.out (show Below wr.heap.size wr (wr.alloc (.cells ca 46)) from (Below.refl _ wr).alloc (Nat.le_refl _) _))
        go_wp2_with (first | (with_reducible refine wpList_load_mid rfl 46 (.tmp 11) rfl b (off + k * 28) rfl cs _ HRR.out Tryz.underlying46 rfl H28.out ?_; rw [← HCA.out]) | (refine wpList_store_new rfl 46 (.tmp 5) (.tmp 12) rfl _ ca rfl rfl H28'.out HSZ.out HONE.out ?_))
        go_roundw
        case rel =>
          refine ⟨k + 1, by omega, by go_num, ?_, hb.alloc hsz _⟩
          rw [logOf_snoc L k x HX.out, ← HEq.out, logStep_miss (fun h => hk7 h.1)]
          exact HR.out
        case measure => simp [intOf]; omega
    · obtain rfl : k = L.length := by omega
      have hT : L.take L.length = L := List.take_length
      rw [hT] at hrow
      clear hT hlt
      have H := Lib.hid hrow
      obtain ⟨css, hown, _, _, _⟩ := hrow
      obtain ⟨A', cap', rfl⟩ := shape_of hown
      clear hown
      go_wp2
      go_ret
      exact ⟨_, rfl, H.out, hb⟩
end Go.Proofs.YtjhhdklbiibhdaaGreatDoor
