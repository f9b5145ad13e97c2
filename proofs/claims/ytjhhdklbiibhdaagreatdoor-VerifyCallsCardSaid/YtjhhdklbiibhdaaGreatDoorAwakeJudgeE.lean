/-
  The same function at all other events; both together.
-/
import Derived.Test.YtjhhdklbiibhdaaGreatDoorAwakeJudgeD
namespace Go.Proofs.YtjhhdklbiibhdaaGreatDoor
open Go Go.RowKit

set_option maxHeartbeats 8000000 in
set_option maxRecDepth 100000 in
theorem judge_rest (A : Option Addr) (c B mbx lbx mb i : Nat) (L : List EvD) (x : EvD) (cs : List Value) (w : World) (ps : List Nat) (ss : List CallS) (hL : EvLow w B A L) (hE : ∃ B cap tl, cs = evCells x B cap tl) (hl : cs.length = 28)
    (hI : CallsInv w A L.length c B mbx lbx mb ps ss) (hB : B ≤ w.heap.size) (k2 : ¬ x.kind = 2) :
    Calls Tryz.prog 31 #[.int .i64 i, .agg cs.toArray, .pointer (some ⟨mbx, 0, none⟩), .pointer (some ⟨lbx, 0, none⟩)] w (JRet w A L.length c B mbx lbx mb (judge L i x ss)) := by
  have q0 : cs.toArray[0]? = some (.int .i64 x.kind) := by obtain ⟨_, _, _, rfl⟩ := hE; rfl
  have q2 : cs.toArray[2]? = some (.int .i64 x.who) := by obtain ⟨_, _, _, rfl⟩ := hE; rfl
  have q3 : cs.toArray[3]? = some (.int .i64 x.call) := by obtain ⟨_, _, _, rfl⟩ := hE; rfl
  have H28 := Lib.hid (show (Tryz.prog.info? 46).map (·.size) = some cs.length by rw [hl]; exact size46)
  have HLR := Lib.hid (show (w.alloc (.cells cs.toArray 46)).rangeAt w.heap.size 0 cs from rangeAt_new (heap_alloc_last w (.cells cs.toArray 46)))
  have HCH := Lib.hid (fun (p : Nat) (s : CallS) (W : World) (hp : W.heap[p]? = some (.cells (callCells s) 72)) => change_any p s x cs W hp hE hl)
  obtain ⟨ca, hca⟩ : ∃ ca, ca = cs.toArray := ⟨_, rfl⟩
  rw [← hca] at q0 q2 q3 HLR HCH ⊢
  have HCA := Lib.hid hca
  have hb1 : Below w.heap.size w (w.alloc (.cells ca 46)) := (Below.refl _ w).alloc (Nat.le_refl _) _
  have hI1 := hI.next (W' := w.alloc (.cells ca 46)) hb1.block
  have cm : (w.alloc (.cells ca 46)).cell? ⟨mbx, 0, none⟩ = some (.map (some mb)) := by unfold World.cell?; simp only [hI1.hm]; rfl
  have cl : (w.alloc (.cells ca 46)).cell? ⟨lbx, 0, none⟩ = some (.slice A L.length c) := by unfold World.cell?; simp only [hI1.hl]; rfl
  have HI1 := Lib.hid hI1
  have HB1 := Lib.hid hb1
  have HI := Lib.hid hI
  have HL := Lib.hid hL
  have hpl : ps.length = ss.length := hI.sz
  have HLEN := Lib.hid (fun ty => run_len_ps (P := Tryz.prog) (ty := ty) Tryz.underlying68 hI1.mp)
  clear hI hI1 hb1 hL hE hl hca
  by_cases k36 : x.kind = 3 ∨ x.kind = 4 ∨ x.kind = 5 ∨ x.kind = 6
  · by_cases hz : 1 ≤ x.call ∧ x.call ≤ (ss.length : Int)
    · obtain ⟨j, hj⟩ : ∃ j : Nat, x.call = (j : Int) + 1 := ⟨(x.call - 1).toNat, by omega⟩
      have hjl : j < ss.length := by omega
      obtain ⟨s, hs⟩ : ∃ s, ss[j]? = some s := ⟨_, List.getElem?_eq_getElem hjl⟩
      obtain ⟨p, hp⟩ : ∃ p, ps[j]? = some p := ⟨_, List.getElem?_eq_getElem (by omega)⟩
      have hca : callAt ss x.call = some s := by unfold callAt; rw [if_pos hz.1, show (x.call - 1).toNat = j by omega]; exact hs
      have hpb := HI1.out.blk j p s hp hs
      have o0 : (w.alloc (.cells ca 46)).cell? ⟨p, 0, none⟩ = some (.bool s.opn) := by unfold World.cell?; simp only [hpb]; rfl
      have HLK := Lib.hid (run_lookup_in (P := Tryz.prog) (mt := 68) (z := x.call) Tryz.underlying68 Tryz.underlying2 HI1.out.mp hp hj)
      have HPB := Lib.hid hpb
      have HP := Lib.hid hp
      have HS := Lib.hid hs
      have HJ := Lib.hid hj
      clear hpb hp hs hj hz
      cases hop : s.opn with
      | false =>
        have HR := Lib.hid (show judge L i x ss = (8, ss) by simp only [judge, if_neg k2, if_pos k36, hca, hop]; rfl)
        rw [hop] at o0
        clear hca hop
        rcases k36 with k | k | k | k
        all_goals
          go_enter Tryz.func31, Tryz.ntmps31
          go_wp2_with (refine wpList_lookup_run rfl 68 (.tmp 58) (.tmp 60) rfl rfl rfl HLK.out ?_)
          go_ret
          exact ⟨by rw [HR.out]; rfl, by rw [HR.out]; exact ⟨ps, HI1.out⟩, HB1.out.mono hB, keeps_of HB1.out⟩
      | true =>
        have HR := Lib.hid (show judge L i x ss = ((change s x).1, ss.set j (change s x).2) by simp only [judge, if_neg k2, if_pos k36, hca, hop]; rw [show (x.call - 1).toNat = j by have := HJ.out; omega]; rfl)
        rw [hop] at o0
        have CC := Lib.hid (HCH.out p s _ HPB.out)
        generalize (change s x) = r at HR CC
        clear hca hop
        rcases k36 with k | k | k | k
        all_goals
          go_enter Tryz.func31, Tryz.ntmps31
          go_wp2_with (first | (refine wpList_lookup_run rfl 68 (.tmp 58) (.tmp 60) rfl rfl rfl HLK.out ?_) | (with_reducible refine wpList_load_mid rfl 46 (.tmp 5) rfl w.heap.size 0 rfl cs _ HLR.out Tryz.underlying46 rfl H28.out ?_; rw [← HCA.out]) | (go_at_call 32; refine CC.out.mono ?_; rintro e w1 ⟨rfl, hpw, hg⟩))
          go_ret
          obtain ⟨hI2, hB2, hK2⟩ := HI1.out.chg HP.out HS.out hg hpw
          exact ⟨by rw [HR.out]; rfl, by rw [HR.out]; exact ⟨ps, hI2⟩, (HB1.out.mono hB).trans hB2, (keeps_of HB1.out).trans hK2⟩
    · have hca : callAt ss x.call = none := by
        unfold callAt
        split
        · exact List.getElem?_eq_none (by omega)
        · rfl
      have HR := Lib.hid (show judge L i x ss = (8, ss) by simp only [judge, if_neg k2, if_pos k36, hca])
      have HLK := Lib.hid (run_lookup_out (P := Tryz.prog) (mt := 68) (z := x.call) Tryz.underlying68 Tryz.underlying2 zero70 HI1.out.mp (by omega))
      clear hca hz
      rcases k36 with k | k | k | k
      all_goals
        go_enter Tryz.func31, Tryz.ntmps31
        go_wp2_with (refine wpList_lookup_run rfl 68 (.tmp 58) (.tmp 60) rfl rfl rfl HLK.out ?_)
        go_ret
        exact ⟨by rw [HR.out]; rfl, by rw [HR.out]; exact ⟨ps, HI1.out⟩, HB1.out.mono hB, keeps_of HB1.out⟩
  · have HR := Lib.hid (show judge L i x ss = (0, ss) by simp only [judge, if_neg k2, if_neg k36])
    have k3 : ¬ x.kind = 3 := fun h => k36 (.inl h)
    have k4 : ¬ x.kind = 4 := fun h => k36 (.inr (.inl h))
    have k5 : ¬ x.kind = 5 := fun h => k36 (.inr (.inr (.inl h)))
    have k6 : ¬ x.kind = 6 := fun h => k36 (.inr (.inr (.inr h)))
    clear k36
    go_enter Tryz.func31, Tryz.ntmps31
    go_wp2
    go_ret
    exact ⟨by rw [HR.out]; rfl, by rw [HR.out]; exact ⟨ps, HI1.out⟩, HB1.out.mono hB, keeps_of HB1.out⟩

theorem judge_any (A : Option Addr) (c B mbx lbx mb i : Nat) (L : List EvD) (x : EvD) (cs : List Value) (w : World) (ps : List Nat) (ss : List CallS) (hL : EvLow w B A L) (hE : ∃ B cap tl, cs = evCells x B cap tl) (hl : cs.length = 28)
    (hI : CallsInv w A L.length c B mbx lbx mb ps ss) (hlen : L.length ≤ 1000) (hss : ss.length ≤ 1000) (hi : i < L.length) (hB : B ≤ w.heap.size) :
    Calls Tryz.prog 31 #[.int .i64 i, .agg cs.toArray, .pointer (some ⟨mbx, 0, none⟩), .pointer (some ⟨lbx, 0, none⟩)] w (JRet w A L.length c B mbx lbx mb (judge L i x ss)) := by
  by_cases k2 : x.kind = 2
  · exact judge_dial A c B mbx lbx mb i L x cs w ps ss hL hE hl hI hlen hss hi hB k2
  · exact judge_rest A c B mbx lbx mb i L x cs w ps ss hL hE hl hI hB k2
end Go.Proofs.YtjhhdklbiibhdaaGreatDoor
