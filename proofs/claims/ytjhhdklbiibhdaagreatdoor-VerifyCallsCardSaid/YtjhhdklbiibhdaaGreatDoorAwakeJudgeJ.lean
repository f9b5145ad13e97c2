/-
  What samaritanref53.Calls answers in this program: for every trace of at most 1000 events.
-/
import Derived.Test.YtjhhdklbiibhdaaGreatDoorAwakeJudgeI
namespace Go.Proofs.YtjhhdklbiibhdaaGreatDoor
open Go Go.RowKit

theorem info77 : (Tryz.prog.info? 77).map (fun i => (i.zero, i.size, i.bytes)) = some (some (.agg #[.int .i64 0, .int .i64 0, .bool false]), 3, 24) := by kernel_rfl
theorem wrap_small (j : Nat) (h : j ≤ 1000) : IntKind.i64.wrap (j : Int) = (j : Int) := IntWalk.i64_in _ (by omega)
theorem refStep_other {L : List EvD} {i : Nat} {x : EvD} {rs : List RefC} (k2 : ¬ x.kind = 2) (k3 : ¬ x.kind = 3) (k4 : ¬ x.kind = 4) (k5 : ¬ x.kind = 5) (k6 : ¬ x.kind = 6) : refStep L i x rs = (0, rs) := by
  unfold refStep
  rw [if_neg k2]
  split
  · simp [refShut, k3, k4, k5, k6]
  · split <;> simp [refShut, refOpen, k3, k4, k5, k6]
theorem own_some {W : World} {B T S n c : Nat} {A : Option Addr} {xs : List Value} (h : W.ownsRow B T S (.slice A n c) n xs) (hn : 0 < n) : ∃ g, A = some ⟨g, 0, none⟩ ∧ B ≤ g ∧ g < W.heap.size := by
  rcases h.2 with ⟨e, h0⟩ | ⟨g, cap, cur, e, hg, hh, _⟩
  · omega
  · cases e
    exact ⟨g, rfl, hg, (Array.getElem?_eq_some_iff.1 hh).1⟩
/-- a cell of the record made first, behind an append -/
theorem new_kept {W w2 : World} {ca : Array Value} {o : Obj} {row : Option Nat} (hg : ((W.alloc (.cells ca 46)).alloc o).grownBy w2 row) (hne : row ≠ some W.heap.size) (i : Nat) (v : Value) (h : ca[i]? = some v) : w2.cell? ⟨W.heap.size, i, none⟩ = some v := by
  have e : w2.heap[W.heap.size]? = some (.cells ca 46) := by
    rw [hg.block W.heap.size (by simp; omega) (fun e => hne e.symm)]
    show ((W.heap.push _).push _)[W.heap.size]? = _
    rw [Array.getElem?_push, if_neg (by simp), Array.getElem?_push, if_pos rfl]
  unfold World.cell?
  simp only [e]
  exact h
theorem row_old {W : World} {B T S n : Nat} {v : Value} {xs : List Value} (h : W.ownsRow B T S v n xs) : v.ownBlock ≠ some W.heap.size := fun e => by
  have := (h.lt _ e).2
  omega
theorem refStep_dial {L : List EvD} {i : Nat} {x : EvD} {rs : List RefC} (k2 : x.kind = 2) (hc : x.call = (rs.length : Int) + 1) (hw : ¬ x.who < 0) (b : Bool) (hb : nextOk L i x = b) : refStep L i x rs = (if b then 0 else 1, rs ++ [⟨-1, 0, false⟩]) := by
  simp only [refStep, if_pos k2]
  rw [if_pos ⟨hc, by omega⟩, hb]

set_option maxHeartbeats 16000000 in
set_option maxRecDepth 100000 in
theorem calls_any (A : Option Addr) (c : Nat) (L : List EvD) (w : World) (hL : RowIn 5 28 (EvC 5) w A L) (hlen : L.length ≤ 1000) :
    Calls Tryz.prog 14 #[.slice A L.length c] w (FltRet w (passR L L.length).2) := by
  obtain ⟨i0, hi, hz0, hz1, hz2⟩ := info_parts info64
  obtain ⟨i1, hj, hy0, hy1, hy2⟩ := info_parts info77
  have HL := Lib.hid (rowLow_of hL)
  have H0 := Lib.hid (show ((w.alloc (.cells #[] 64)).alloc (.cells #[] 77)).ownsRow w.heap.size 64 2 (.slice (some ⟨w.heap.size, 0, none⟩) 0 0) (passR L 0).2.length (fltCells (passR L 0).2) from (World.ownsRow_made w #[] 0 (Nat.le_refl _) (Nat.zero_le _) rfl).alloc _)
  have H1 := Lib.hid (show ((w.alloc (.cells #[] 64)).alloc (.cells #[] 77)).ownsRow w.heap.size 77 3 (.slice (some ⟨w.heap.size + 1, 0, none⟩) 0 0) (passR L 0).1.length (refCells (passR L 0).1) from (by
    have := World.ownsRow_made (base := w.heap.size) (e := 77) (size := 3) (w.alloc (.cells #[] 64)) #[] 0 (by simp) (Nat.zero_le _) rfl
    rw [show (w.alloc (.cells #[] 64)).heap.size = w.heap.size + 1 by simp] at this
    exact this))
  clear hL
  go_enter Tryz.func14, Tryz.ntmps14
  go_wp2
  go_loopw [3, 4, 5] (fun v u i wr => ∃ k : Nat, k ≤ L.length ∧ i = .int .i64 k ∧ wr.ownsRow w.heap.size 64 2 v (passR L k).2.length (fltCells (passR L k).2) ∧ wr.ownsRow w.heap.size 77 3 u (passR L k).1.length (refCells (passR L k).1) ∧ Below w.heap.size w wr) (fun _ _ i _ => L.length - (intOf i).toNat)
  case atStart => exact ⟨0, Nat.zero_le _, rfl, H0.out, H1.out, ((Below.refl _ w).alloc (Nat.le_refl _) _).alloc (by simp) _⟩
  case round =>
    obtain ⟨k, hk, rfl, hO, hC, hb⟩ := hrel
    clear H0 H1
    by_cases hlt : k < L.length
    · obtain ⟨x, hx⟩ : ∃ x, L[k]? = some x := ⟨_, List.getElem?_eq_getElem hlt⟩
      have hLr := HL.out.below hb
      obtain ⟨b, off, cs, rfl, hbl, hl, hrr, hone, hE⟩ := hLr k x hx
      have HLR := Lib.hid hLr
      have HRR := Lib.hid hrr
      have H28 := Lib.hid (show (Tryz.prog.info? 46).map (·.size) = some cs.length by rw [hl]; exact size46)
      have H28' := Lib.hid (show (Tryz.prog.info? 46).map (·.size) = some cs.toArray.size by rw [List.size_toArray, hl]; exact size46)
      have HSZ := Lib.hid (show (28 : Nat) = cs.toArray.size by rw [List.size_toArray, hl])
      have HONE := Lib.hid (show cs.toArray.all (·.oneCell') = true from all_oneCell_toArray hone)
      have q0 : cs.toArray[0]? = some (.int .i64 x.kind) := by obtain ⟨_, _, _, rfl⟩ := hE; rfl
      have q2 : cs.toArray[2]? = some (.int .i64 x.who) := by obtain ⟨_, _, _, rfl⟩ := hE; rfl
      have q3 : cs.toArray[3]? = some (.int .i64 x.call) := by obtain ⟨_, _, _, rfl⟩ := hE; rfl
      have q4 : cs.toArray[4]? = some (.int .i64 x.epoch) := by obtain ⟨_, _, _, rfl⟩ := hE; rfl
      have hsz := hb.size
      have hlens := passR_len L k
      have HP := Lib.hid (passR_succ hx)
      obtain ⟨rs, hrs⟩ : ∃ rs, rs = (passR L k).1 := ⟨_, rfl⟩
      obtain ⟨F, hF⟩ : ∃ F, F = (passR L k).2 := ⟨_, rfl⟩
      rw [← hrs, ← hF] at hlens HP
      rw [← hrs] at hC
      rw [← hF] at hO
      obtain ⟨ca, hca⟩ : ∃ ca, ca = cs.toArray := ⟨_, rfl⟩
      rw [← hca] at H28' HSZ HONE q0 q2 q3 q4
      have HCA := Lib.hid hca
      obtain ⟨A7, c7, hv⟩ := shape_of hO
      obtain ⟨A9, c9, hu⟩ := shape_of hC
      subst hv hu
      obtain ⟨nF, hnF⟩ : ∃ nF, nF = F.length := ⟨_, rfl⟩
      obtain ⟨n, hn⟩ : ∃ n, n = rs.length := ⟨_, rfl⟩
      rw [← hrs, ← hF] at *
      rw [← hnF] at hO hlens ⊢
      rw [← hn] at hC hlens ⊢
      have HO := Lib.hid hO
      have HC := Lib.hid hC
      have HN := Lib.hid hn
      have HNF := Lib.hid hnF
      have HB1 := Lib.hid (hb.alloc hsz (.cells ca 46))
      have HX := Lib.hid hx
      clear hLr hrr hE hl hone hO hC hrs hF hca hx hn hnF
      by_cases hlo : 1 ≤ x.call
      · by_cases hhi : x.call ≤ (n : Int)
        · have hne : ¬ x.call = (n : Int) + 1 := by omega
          obtain ⟨j, hjc⟩ : ∃ j : Nat, x.call = (j : Int) + 1 := ⟨(x.call - 1).toNat, by omega⟩
          have hjn : j < n := by omega
          obtain ⟨r, hr⟩ : ∃ r, rs[j]? = some r := ⟨_, List.getElem?_eq_getElem (by rw [← HN.out]; exact hjn)⟩
          obtain ⟨g, rfl, hgB, hgl⟩ := own_some HC.out (by omega)
          obtain ⟨a0, a1, a2⟩ := refCells_at rs j r hr
          have o0 : (wr.alloc (.cells ca 46)).cell? ⟨g, j * 3, none⟩ = some (.int .i64 r.owner) := ((HC.out.alloc _).cellAt _ (by omega)).trans a0
          have o1 : (wr.alloc (.cells ca 46)).cell? ⟨g, j * 3 + 1, none⟩ = some (.int .i64 r.epoch) := ((HC.out.alloc _).cellAt _ (by omega)).trans a1
          have o2 : (wr.alloc (.cells ca 46)).cell? ⟨g, j * 3 + 2, none⟩ = some (.bool r.closed) := ((HC.out.alloc _).cellAt _ (by omega)).trans a2
          have fr : ∀ i, (wr.alloc (.cells ca 46)).frozen? ⟨g, i, none⟩ = false := fun i => (HC.out.alloc _).frozenAt i
          have HRJ := Lib.hid hr
          have HAT := Lib.hid (show refAt rs x.call = some r by unfold refAt; rw [if_pos hlo, show (x.call - 1).toNat = j by omega]; exact hr)
          have HIO := Lib.hid (show isOpen rs x.call = !r.closed from isOpen_in hjc hr)
          have HJ := Lib.hid hjc
          have HNE := Lib.hid hne
          rw [hjc] at q3
          have hjne : ¬ j = n := by omega
          have hjni : ¬ (j : Int) = (n : Int) := by omega
          have hji : (j : Int) < (n : Int) := by omega
          have hwr : IntKind.i64.wrap (j : Int) = (j : Int) := wrap_small j (by omega)
          clear hr a0 a1 a2 hlo hhi hne hjc
          by_cases k2 : x.kind = 2
          · as_aux_lemma =>
              have HQ := Lib.hid (show passR L (k + 1) = (rs, F ++ [((k : Int), 8)]) by rw [HP.out, show refStep L k x rs = (8, rs) by simp only [refStep, if_pos k2]; rw [if_neg (fun h => HNE.out (by rw [HN.out]; exact h.1))]]; rfl)
              have HOW := Lib.hid ((HO.out.alloc (.cells ca 46)).alloc (.cells #[.int .i64 k, .int .i64 8] 64))
              have HCW := Lib.hid ((HC.out.alloc (.cells ca 46)).alloc (.cells #[.int .i64 k, .int .i64 8] 64))
              have HBW := Lib.hid (HB1.out.alloc (by simp; omega) (.cells #[.int .i64 k, .int .i64 8] 64))
              have HCN := Lib.hid (cells_new (wr.alloc (.cells ca 46)) [.int .i64 k, .int .i64 8] 64)
              simp only [World.size_alloc] at HCN
              go_wp2_with (first | (with_reducible refine wpList_load_mid rfl 46 (.tmp 19) rfl b (off + k * 28) rfl cs _ HRR.out Tryz.underlying46 rfl H28.out ?_; rw [← HCA.out]) | (refine wpList_store_new rfl 46 (.tmp 6) (.tmp 20) rfl _ ca rfl rfl H28'.out HSZ.out HONE.out ?_) | (at_builtin; (refine wpList_append_own _ rfl (.tmp 57) (.tmp 60) 26 rfl w.heap.size 64 i0 _ 2 16 Tryz.underlying26 hi hz0 hz1 hz2 rfl (by decide) _ _ _ rfl HOW.out ⟨wr.heap.size + 1, 0, none⟩ 1 1 [.int .i64 k, .int .i64 8] rfl rfl HCN.out (by intro u hu; simp at hu; rcases hu with rfl | rfl <;> rfl) (by unfold maxLen; omega) (by omega) (by simp; omega) ?_); intro v' w2 hown' hgrow _))
              have HB2 := Lib.hid (HBW.out.grown hgrow (by simp; omega) (own_lt HOW.out))
              have HC2 := Lib.hid (HCW.out.kept hgrow (own_apart HCW.out HOW.out (by decide)))
              obtain ⟨A8, c8, rfl⟩ := shape_of hown'
              have HO2 := Lib.hid hown'
              clear hown' hgrow
              go_wp2
              go_roundw
              case rel =>
                refine ⟨k + 1, by omega, by go_num, ?_, ?_, HB2.out⟩
                · rw [HQ.out, fltCells_snoc, List.length_append, ← HNF.out]
                  exact HO2.out
                · rw [HQ.out, ← HN.out]
                  exact HC2.out
              case measure => simp [intOf]; omega
          · by_cases k3 : x.kind = 3
            · cases hcl : r.closed with
              | true =>
                have HSH := Lib.hid (show isOpen rs x.call = false by rw [HIO.out, hcl]; rfl)
                rw [hcl] at o2
                clear hcl
                as_aux_lemma =>
                  have HQ := Lib.hid (show passR L (k + 1) = (rs, F ++ [((k : Int), 8)]) by rw [HP.out, refStep_shut (by omega) HSH.out, show refShut x rs = (8, rs) by simp [refShut, k3]]; rfl)
                  have HOW := Lib.hid ((HO.out.alloc (.cells ca 46)).alloc (.cells #[.int .i64 k, .int .i64 8] 64))
                  have HCW := Lib.hid ((HC.out.alloc (.cells ca 46)).alloc (.cells #[.int .i64 k, .int .i64 8] 64))
                  have HBW := Lib.hid (HB1.out.alloc (by simp; omega) (.cells #[.int .i64 k, .int .i64 8] 64))
                  have HCN := Lib.hid (cells_new (wr.alloc (.cells ca 46)) [.int .i64 k, .int .i64 8] 64)
                  simp only [World.size_alloc] at HCN
                  go_wp2_with (first | (with_reducible refine wpList_load_mid rfl 46 (.tmp 19) rfl b (off + k * 28) rfl cs _ HRR.out Tryz.underlying46 rfl H28.out ?_; rw [← HCA.out]) | (refine wpList_store_new rfl 46 (.tmp 6) (.tmp 20) rfl _ ca rfl rfl H28'.out HSZ.out HONE.out ?_) | (at_builtin; (refine wpList_append_own _ rfl (.tmp 105) (.tmp 108) 26 rfl w.heap.size 64 i0 _ 2 16 Tryz.underlying26 hi hz0 hz1 hz2 rfl (by decide) _ _ _ rfl HOW.out ⟨wr.heap.size + 1, 0, none⟩ 1 1 [.int .i64 k, .int .i64 8] rfl rfl HCN.out (by intro u hu; simp at hu; rcases hu with rfl | rfl <;> rfl) (by unfold maxLen; omega) (by omega) (by simp; omega) ?_); intro v' w2 hown' hgrow _))
                  have HB2 := Lib.hid (HBW.out.grown hgrow (by simp; omega) (own_lt HOW.out))
                  have HC2 := Lib.hid (HCW.out.kept hgrow (own_apart HCW.out HOW.out (by decide)))
                  obtain ⟨A8, c8, rfl⟩ := shape_of hown'
                  have HO2 := Lib.hid hown'
                  clear hown' hgrow
                  go_wp2
                  go_roundw
                  case rel =>
                    refine ⟨k + 1, by omega, by go_num, ?_, ?_, HB2.out⟩
                    · rw [HQ.out, fltCells_snoc, List.length_append, ← HNF.out]
                      exact HO2.out
                    · rw [HQ.out, ← HN.out]
                      exact HC2.out
                  case measure => simp [intOf]; omega
              | false =>
                have HST := Lib.hid (refStep_open (L := L) (i := k) (x := x) (rs := rs) (r := r) (by omega) HAT.out hcl)
                rw [hcl] at o2
                by_cases hw : x.who < 0
                · clear hcl
                  as_aux_lemma =>
                    have HQ := Lib.hid (show passR L (k + 1) = (rs, F ++ [((k : Int), 8)]) by rw [HP.out, HST.out, show refOpen x rs r = (8, rs) by simp [refOpen, k3, hw]]; rfl)
                    have HOW := Lib.hid ((HO.out.alloc (.cells ca 46)).alloc (.cells #[.int .i64 k, .int .i64 8] 64))
                    have HCW := Lib.hid ((HC.out.alloc (.cells ca 46)).alloc (.cells #[.int .i64 k, .int .i64 8] 64))
                    have HBW := Lib.hid (HB1.out.alloc (by simp; omega) (.cells #[.int .i64 k, .int .i64 8] 64))
                    have HCN := Lib.hid (cells_new (wr.alloc (.cells ca 46)) [.int .i64 k, .int .i64 8] 64)
                    simp only [World.size_alloc] at HCN
                    go_wp2_with (first | (with_reducible refine wpList_load_mid rfl 46 (.tmp 19) rfl b (off + k * 28) rfl cs _ HRR.out Tryz.underlying46 rfl H28.out ?_; rw [← HCA.out]) | (refine wpList_store_new rfl 46 (.tmp 6) (.tmp 20) rfl _ ca rfl rfl H28'.out HSZ.out HONE.out ?_) | (at_builtin; (refine wpList_append_own _ rfl (.tmp 105) (.tmp 108) 26 rfl w.heap.size 64 i0 _ 2 16 Tryz.underlying26 hi hz0 hz1 hz2 rfl (by decide) _ _ _ rfl HOW.out ⟨wr.heap.size + 1, 0, none⟩ 1 1 [.int .i64 k, .int .i64 8] rfl rfl HCN.out (by intro u hu; simp at hu; rcases hu with rfl | rfl <;> rfl) (by unfold maxLen; omega) (by omega) (by simp; omega) ?_); intro v' w2 hown' hgrow _))
                    have HB2 := Lib.hid (HBW.out.grown hgrow (by simp; omega) (own_lt HOW.out))
                    have HC2 := Lib.hid (HCW.out.kept hgrow (own_apart HCW.out HOW.out (by decide)))
                    obtain ⟨A8, c8, rfl⟩ := shape_of hown'
                    have HO2 := Lib.hid hown'
                    clear hown' hgrow
                    go_wp2
                    go_roundw
                    case rel =>
                      refine ⟨k + 1, by omega, by go_num, ?_, ?_, HB2.out⟩
                      · rw [HQ.out, fltCells_snoc, List.length_append, ← HNF.out]
                        exact HO2.out
                      · rw [HQ.out, ← HN.out]
                        exact HC2.out
                    case measure => simp [intOf]; omega
                · by_cases he : x.epoch ≤ r.epoch
                  · clear hcl
                    as_aux_lemma =>
                      have HQ := Lib.hid (show passR L (k + 1) = (rs, F ++ [((k : Int), 2)]) by rw [HP.out, HST.out, show refOpen x rs r = (2, rs) by simp [refOpen, k3, hw, he]]; rfl)
                      go_wp2_with (first | (with_reducible refine wpList_load_mid rfl 46 (.tmp 19) rfl b (off + k * 28) rfl cs _ HRR.out Tryz.underlying46 rfl H28.out ?_; rw [← HCA.out]) | (refine wpList_store_new rfl 46 (.tmp 6) (.tmp 20) rfl _ ca rfl rfl H28'.out HSZ.out HONE.out ?_))
                      go_quiet (fail)
                      have HOW := Lib.hid (show (((wr.alloc (.cells ca 46)).drewN nq).alloc (.cells #[.int .i64 k, .int .i64 2] 64)).ownsRow w.heap.size 64 2 _ _ _ from ((show ((wr.alloc (.cells ca 46)).drewN nq).ownsRow w.heap.size 64 2 _ _ _ from HO.out.alloc (.cells ca 46)).alloc (.cells #[.int .i64 k, .int .i64 2] 64)))
                      have HCW := Lib.hid (show (((wr.alloc (.cells ca 46)).drewN nq).alloc (.cells #[.int .i64 k, .int .i64 2] 64)).ownsRow w.heap.size 77 3 _ _ _ from ((show ((wr.alloc (.cells ca 46)).drewN nq).ownsRow w.heap.size 77 3 _ _ _ from HC.out.alloc (.cells ca 46)).alloc (.cells #[.int .i64 k, .int .i64 2] 64)))
                      have HBW := Lib.hid ((below_drewN (n := nq) HB1.out).alloc (by simp; omega) (.cells #[.int .i64 k, .int .i64 2] 64))
                      have HCN := Lib.hid (show ∀ (j : Nat) (u : Value), [Value.int .i64 k, Value.int .i64 2][j]? = some u → (((wr.alloc (.cells ca 46)).drewN nq).alloc (.cells #[.int .i64 k, .int .i64 2] 64)).cell? ((⟨wr.heap.size + 1, 0, none⟩ : Addr).add j) = some u from (by
                        have h := cells_new ((wr.alloc (.cells ca 46)).drewN nq) [.int .i64 k, .int .i64 2] 64
                        rw [show ((wr.alloc (.cells ca 46)).drewN nq).heap.size = wr.heap.size + 1 from (by show (wr.alloc _).heap.size = _; simp)] at h
                        exact h))
                      go_wp2_with ((at_builtin; (refine wpList_append_own _ rfl (.tmp 120) (.tmp 123) 26 rfl w.heap.size 64 i0 _ 2 16 Tryz.underlying26 hi hz0 hz1 hz2 rfl (by decide) _ _ _ rfl HOW.out ⟨wr.heap.size + 1, 0, none⟩ 1 1 [.int .i64 k, .int .i64 2] rfl rfl HCN.out (by intro u hu; simp at hu; rcases hu with rfl | rfl <;> rfl) (by unfold maxLen; omega) (by omega) (by simp; omega) ?_); intro v' w2 hown' hgrow _))
                      have HB2 := Lib.hid (HBW.out.grown hgrow (by simp; omega) (own_lt HOW.out))
                      have HC2 := Lib.hid (HCW.out.kept hgrow (own_apart HCW.out HOW.out (by decide)))
                      obtain ⟨A8, c8, rfl⟩ := shape_of hown'
                      have HO2 := Lib.hid hown'
                      clear hown' hgrow
                      go_wp2
                      go_roundw
                      case rel =>
                        refine ⟨k + 1, by omega, by go_num, ?_, ?_, HB2.out⟩
                        · rw [HQ.out, fltCells_snoc, List.length_append, ← HNF.out]
                          exact HO2.out
                        · rw [HQ.out, ← HN.out]
                          exact HC2.out
                      case measure => simp [intOf]; omega
                  · have HQ := Lib.hid (show passR L (k + 1) = (rs.set j ⟨x.who, x.epoch, r.closed⟩, F) by rw [HP.out, HST.out, show refOpen x rs r = (0, rs.set j ⟨x.who, x.epoch, r.closed⟩) by simp only [refOpen, if_pos k3, if_neg hw, if_neg he]; rw [show (x.call - 1).toNat = j by have := HJ.out; omega]]; rfl)
                    clear hcl
                    as_aux_lemma =>
                      go_wp2_with (first | (with_reducible refine wpList_load_mid rfl 46 (.tmp 19) rfl b (off + k * 28) rfl cs _ HRR.out Tryz.underlying46 rfl H28.out ?_; rw [← HCA.out]) | (refine wpList_store_new rfl 46 (.tmp 6) (.tmp 20) rfl _ ca rfl rfl H28'.out HSZ.out HONE.out ?_))
                      go_quiet (fail)
                      go_wp2
                      go_region
                      all_goals go_wp2
                      have HC5 : ((((wr.alloc (.cells ca 46)).drewN nq).drew).ownsRow w.heap.size 77 3 (.slice (some ⟨g, 0, none⟩) n c9) n (refCells rs)) := HC.out.alloc (.cells ca 46)
                      have HO5 : ((((wr.alloc (.cells ca 46)).drewN nq).drew).ownsRow w.heap.size 64 2 (.slice A7 nF c7) nF (fltCells F)) := HO.out.alloc (.cells ca 46)
                      have HB5 : Below w.heap.size w (((wr.alloc (.cells ca 46)).drewN nq).drew) := (below_drewN (n := nq) HB1.out).trans ⟨rfl, rfl, rfl, Nat.le_refl _, fun _ _ => rfl⟩
                      obtain ⟨hS1, hG1⟩ := HC5.stored (j * 3) (.int .i64 x.who)
                      obtain ⟨hS2, hG2⟩ := hS1.stored (j * 3 + 1) (.int .i64 x.epoch)
                      have hO6 := HO5.kept hG1 (own_apart HO5 HC5 (by decide))
                      have hO7 := hO6.kept hG2 (own_apart hO6 hS1 (by decide))
                      go_roundw
                      case rel =>
                        refine ⟨k + 1, by omega, by go_num, ?_, ?_, (HB5.setCell (p := ⟨g, j * 3, none⟩) hgB _).setCell (p := ⟨g, j * 3 + 1, none⟩) hgB _⟩
                        · rw [HQ.out, ← HNF.out]
                          exact hO7
                        · rw [HQ.out, refCells_set2 rs j r x.who x.epoch HRJ.out, List.length_set, ← HN.out]
                          exact hS2
                      case measure => simp [intOf]; omega
            · by_cases k4 : x.kind = 4
              · cases hcl : r.closed with
                | true =>
                  have HSH := Lib.hid (show isOpen rs x.call = false by rw [HIO.out, hcl]; rfl)
                  rw [hcl] at o2
                  clear hcl
                  as_aux_lemma =>
                    have HQ := Lib.hid (show passR L (k + 1) = (rs, F ++ [((k : Int), 8)]) by rw [HP.out, refStep_shut (by omega) HSH.out, show refShut x rs = (8, rs) by simp [refShut, k4]]; rfl)
                    have HOW := Lib.hid ((HO.out.alloc (.cells ca 46)).alloc (.cells #[.int .i64 k, .int .i64 8] 64))
                    have HCW := Lib.hid ((HC.out.alloc (.cells ca 46)).alloc (.cells #[.int .i64 k, .int .i64 8] 64))
                    have HBW := Lib.hid (HB1.out.alloc (by simp; omega) (.cells #[.int .i64 k, .int .i64 8] 64))
                    have HCN := Lib.hid (cells_new (wr.alloc (.cells ca 46)) [.int .i64 k, .int .i64 8] 64)
                    simp only [World.size_alloc] at HCN
                    go_wp2_with (first | (with_reducible refine wpList_load_mid rfl 46 (.tmp 19) rfl b (off + k * 28) rfl cs _ HRR.out Tryz.underlying46 rfl H28.out ?_; rw [← HCA.out]) | (refine wpList_store_new rfl 46 (.tmp 6) (.tmp 20) rfl _ ca rfl rfl H28'.out HSZ.out HONE.out ?_) | (at_builtin; (refine wpList_append_own _ rfl (.tmp 146) (.tmp 149) 26 rfl w.heap.size 64 i0 _ 2 16 Tryz.underlying26 hi hz0 hz1 hz2 rfl (by decide) _ _ _ rfl HOW.out ⟨wr.heap.size + 1, 0, none⟩ 1 1 [.int .i64 k, .int .i64 8] rfl rfl HCN.out (by intro u hu; simp at hu; rcases hu with rfl | rfl <;> rfl) (by unfold maxLen; omega) (by omega) (by simp; omega) ?_); intro v' w2 hown' hgrow _))
                    have HB2 := Lib.hid (HBW.out.grown hgrow (by simp; omega) (own_lt HOW.out))
                    have HC2 := Lib.hid (HCW.out.kept hgrow (own_apart HCW.out HOW.out (by decide)))
                    obtain ⟨A8, c8, rfl⟩ := shape_of hown'
                    have HO2 := Lib.hid hown'
                    clear hown' hgrow
                    go_wp2
                    go_roundw
                    case rel =>
                      refine ⟨k + 1, by omega, by go_num, ?_, ?_, HB2.out⟩
                      · rw [HQ.out, fltCells_snoc, List.length_append, ← HNF.out]
                        exact HO2.out
                      · rw [HQ.out, ← HN.out]
                        exact HC2.out
                    case measure => simp [intOf]; omega
                | false =>
                  have HST := Lib.hid (refStep_open (L := L) (i := k) (x := x) (rs := rs) (r := r) (by omega) HAT.out hcl)
                  rw [hcl] at o2
                  clear hcl
                  as_aux_lemma =>
                    have HQ := Lib.hid (show passR L (k + 1) = (rs, F) by rw [HP.out, HST.out, show refOpen x rs r = (0, rs) by simp [refOpen, k4]]; rfl)
                    go_wp2_with (first | (with_reducible refine wpList_load_mid rfl 46 (.tmp 19) rfl b (off + k * 28) rfl cs _ HRR.out Tryz.underlying46 rfl H28.out ?_; rw [← HCA.out]) | (refine wpList_store_new rfl 46 (.tmp 6) (.tmp 20) rfl _ ca rfl rfl H28'.out HSZ.out HONE.out ?_))
                    go_roundw
                    case rel =>
                      refine ⟨k + 1, by omega, by go_num, ?_, ?_, HB1.out⟩
                      · rw [HQ.out, ← HNF.out]
                        exact HO.out.alloc _
                      · rw [HQ.out, ← HN.out]
                        exact HC.out.alloc _
                    case measure => simp [intOf]; omega
              · by_cases k5 : x.kind = 5
                · cases hcl : r.closed with
                  | true =>
                    have HSH := Lib.hid (show isOpen rs x.call = false by rw [HIO.out, hcl]; rfl)
                    rw [hcl] at o2
                    clear hcl
                    as_aux_lemma =>
                      have HQ := Lib.hid (show passR L (k + 1) = (rs, F ++ [((k : Int), 8)]) by rw [HP.out, refStep_shut (by omega) HSH.out, show refShut x rs = (8, rs) by simp [refShut, k5]]; rfl)
                      have HOW := Lib.hid ((HO.out.alloc (.cells ca 46)).alloc (.cells #[.int .i64 k, .int .i64 8] 64))
                      have HCW := Lib.hid ((HC.out.alloc (.cells ca 46)).alloc (.cells #[.int .i64 k, .int .i64 8] 64))
                      have HBW := Lib.hid (HB1.out.alloc (by simp; omega) (.cells #[.int .i64 k, .int .i64 8] 64))
                      have HCN := Lib.hid (cells_new (wr.alloc (.cells ca 46)) [.int .i64 k, .int .i64 8] 64)
                      simp only [World.size_alloc] at HCN
                      go_wp2_with (first | (with_reducible refine wpList_load_mid rfl 46 (.tmp 19) rfl b (off + k * 28) rfl cs _ HRR.out Tryz.underlying46 rfl H28.out ?_; rw [← HCA.out]) | (refine wpList_store_new rfl 46 (.tmp 6) (.tmp 20) rfl _ ca rfl rfl H28'.out HSZ.out HONE.out ?_) | (at_builtin; (refine wpList_append_own _ rfl (.tmp 146) (.tmp 149) 26 rfl w.heap.size 64 i0 _ 2 16 Tryz.underlying26 hi hz0 hz1 hz2 rfl (by decide) _ _ _ rfl HOW.out ⟨wr.heap.size + 1, 0, none⟩ 1 1 [.int .i64 k, .int .i64 8] rfl rfl HCN.out (by intro u hu; simp at hu; rcases hu with rfl | rfl <;> rfl) (by unfold maxLen; omega) (by omega) (by simp; omega) ?_); intro v' w2 hown' hgrow _))
                      have HB2 := Lib.hid (HBW.out.grown hgrow (by simp; omega) (own_lt HOW.out))
                      have HC2 := Lib.hid (HCW.out.kept hgrow (own_apart HCW.out HOW.out (by decide)))
                      obtain ⟨A8, c8, rfl⟩ := shape_of hown'
                      have HO2 := Lib.hid hown'
                      clear hown' hgrow
                      go_wp2
                      go_roundw
                      case rel =>
                        refine ⟨k + 1, by omega, by go_num, ?_, ?_, HB2.out⟩
                        · rw [HQ.out, fltCells_snoc, List.length_append, ← HNF.out]
                          exact HO2.out
                        · rw [HQ.out, ← HN.out]
                          exact HC2.out
                      case measure => simp [intOf]; omega
                  | false =>
                    have HST := Lib.hid (refStep_open (L := L) (i := k) (x := x) (rs := rs) (r := r) (by omega) HAT.out hcl)
                    rw [hcl] at o2
                    clear hcl
                    as_aux_lemma =>
                      have HQ := Lib.hid (show passR L (k + 1) = (rs, F) by rw [HP.out, HST.out, show refOpen x rs r = (0, rs) by simp [refOpen, k5]]; rfl)
                      go_wp2_with (first | (with_reducible refine wpList_load_mid rfl 46 (.tmp 19) rfl b (off + k * 28) rfl cs _ HRR.out Tryz.underlying46 rfl H28.out ?_; rw [← HCA.out]) | (refine wpList_store_new rfl 46 (.tmp 6) (.tmp 20) rfl _ ca rfl rfl H28'.out HSZ.out HONE.out ?_))
                      go_roundw
                      case rel =>
                        refine ⟨k + 1, by omega, by go_num, ?_, ?_, HB1.out⟩
                        · rw [HQ.out, ← HNF.out]
                          exact HO.out.alloc _
                        · rw [HQ.out, ← HN.out]
                          exact HC.out.alloc _
                      case measure => simp [intOf]; omega
                · by_cases k6 : x.kind = 6
                  · cases hcl : r.closed with
                    | true =>
                      have HSH := Lib.hid (show isOpen rs x.call = false by rw [HIO.out, hcl]; rfl)
                      rw [hcl] at o2
                      clear hcl
                      as_aux_lemma =>
                        have HQ := Lib.hid (show passR L (k + 1) = (rs, F ++ [((k : Int), 8)]) by rw [HP.out, refStep_shut (by omega) HSH.out, show refShut x rs = (8, rs) by simp [refShut, k6]]; rfl)
                        go_wp2_with (first | (with_reducible refine wpList_load_mid rfl 46 (.tmp 19) rfl b (off + k * 28) rfl cs _ HRR.out Tryz.underlying46 rfl H28.out ?_; rw [← HCA.out]) | (refine wpList_store_new rfl 46 (.tmp 6) (.tmp 20) rfl _ ca rfl rfl H28'.out HSZ.out HONE.out ?_))
                        go_quiet (fail)
                        have HOW := Lib.hid (show (((wr.alloc (.cells ca 46)).drewN nq).alloc (.cells #[.int .i64 k, .int .i64 8] 64)).ownsRow w.heap.size 64 2 _ _ _ from ((show ((wr.alloc (.cells ca 46)).drewN nq).ownsRow w.heap.size 64 2 _ _ _ from HO.out.alloc (.cells ca 46)).alloc (.cells #[.int .i64 k, .int .i64 8] 64)))
                        have HCW := Lib.hid (show (((wr.alloc (.cells ca 46)).drewN nq).alloc (.cells #[.int .i64 k, .int .i64 8] 64)).ownsRow w.heap.size 77 3 _ _ _ from ((show ((wr.alloc (.cells ca 46)).drewN nq).ownsRow w.heap.size 77 3 _ _ _ from HC.out.alloc (.cells ca 46)).alloc (.cells #[.int .i64 k, .int .i64 8] 64)))
                        have HBW := Lib.hid ((below_drewN (n := nq) HB1.out).alloc (by simp; omega) (.cells #[.int .i64 k, .int .i64 8] 64))
                        have HCN := Lib.hid (show ∀ (j : Nat) (u : Value), [Value.int .i64 k, Value.int .i64 8][j]? = some u → (((wr.alloc (.cells ca 46)).drewN nq).alloc (.cells #[.int .i64 k, .int .i64 8] 64)).cell? ((⟨wr.heap.size + 1, 0, none⟩ : Addr).add j) = some u from (by
                          have h := cells_new ((wr.alloc (.cells ca 46)).drewN nq) [.int .i64 k, .int .i64 8] 64
                          rw [show ((wr.alloc (.cells ca 46)).drewN nq).heap.size = wr.heap.size + 1 from (by show (wr.alloc _).heap.size = _; simp)] at h
                          exact h))
                        go_wp2_with ((at_builtin; (refine wpList_append_own _ rfl (.tmp 189) (.tmp 192) 26 rfl w.heap.size 64 i0 _ 2 16 Tryz.underlying26 hi hz0 hz1 hz2 rfl (by decide) _ _ _ rfl HOW.out ⟨wr.heap.size + 1, 0, none⟩ 1 1 [.int .i64 k, .int .i64 8] rfl rfl HCN.out (by intro u hu; simp at hu; rcases hu with rfl | rfl <;> rfl) (by unfold maxLen; omega) (by omega) (by simp; omega) ?_); intro v' w2 hown' hgrow _))
                        have HB2 := Lib.hid (HBW.out.grown hgrow (by simp; omega) (own_lt HOW.out))
                        have HC2 := Lib.hid (HCW.out.kept hgrow (own_apart HCW.out HOW.out (by decide)))
                        obtain ⟨A8, c8, rfl⟩ := shape_of hown'
                        have HO2 := Lib.hid hown'
                        clear hown' hgrow
                        go_wp2
                        go_roundw
                        case rel =>
                          refine ⟨k + 1, by omega, by go_num, ?_, ?_, HB2.out⟩
                          · rw [HQ.out, fltCells_snoc, List.length_append, ← HNF.out]
                            exact HO2.out
                          · rw [HQ.out, ← HN.out]
                            exact HC2.out
                        case measure => simp [intOf]; omega
                    | false =>
                      have HST := Lib.hid (refStep_open (L := L) (i := k) (x := x) (rs := rs) (r := r) (by omega) HAT.out hcl)
                      rw [hcl] at o2
                      by_cases ho : r.owner < 0
                      · clear hcl
                        as_aux_lemma =>
                          have HQ := Lib.hid (show passR L (k + 1) = (rs, F ++ [((k : Int), 8)]) by rw [HP.out, HST.out, show refOpen x rs r = (8, rs) by simp only [refOpen, if_neg (show ¬ x.kind = 3 by omega), if_pos k6]; rw [if_pos (by omega)]]; rfl)
                          go_wp2_with (first | (with_reducible refine wpList_load_mid rfl 46 (.tmp 19) rfl b (off + k * 28) rfl cs _ HRR.out Tryz.underlying46 rfl H28.out ?_; rw [← HCA.out]) | (refine wpList_store_new rfl 46 (.tmp 6) (.tmp 20) rfl _ ca rfl rfl H28'.out HSZ.out HONE.out ?_))
                          go_quiet (fail)
                          have HOW := Lib.hid (show (((wr.alloc (.cells ca 46)).drewN nq).alloc (.cells #[.int .i64 k, .int .i64 8] 64)).ownsRow w.heap.size 64 2 _ _ _ from ((show ((wr.alloc (.cells ca 46)).drewN nq).ownsRow w.heap.size 64 2 _ _ _ from HO.out.alloc (.cells ca 46)).alloc (.cells #[.int .i64 k, .int .i64 8] 64)))
                          have HCW := Lib.hid (show (((wr.alloc (.cells ca 46)).drewN nq).alloc (.cells #[.int .i64 k, .int .i64 8] 64)).ownsRow w.heap.size 77 3 _ _ _ from ((show ((wr.alloc (.cells ca 46)).drewN nq).ownsRow w.heap.size 77 3 _ _ _ from HC.out.alloc (.cells ca 46)).alloc (.cells #[.int .i64 k, .int .i64 8] 64)))
                          have HBW := Lib.hid ((below_drewN (n := nq) HB1.out).alloc (by simp; omega) (.cells #[.int .i64 k, .int .i64 8] 64))
                          have HCN := Lib.hid (show ∀ (j : Nat) (u : Value), [Value.int .i64 k, Value.int .i64 8][j]? = some u → (((wr.alloc (.cells ca 46)).drewN nq).alloc (.cells #[.int .i64 k, .int .i64 8] 64)).cell? ((⟨wr.heap.size + 1, 0, none⟩ : Addr).add j) = some u from (by
                            have h := cells_new ((wr.alloc (.cells ca 46)).drewN nq) [.int .i64 k, .int .i64 8] 64
                            rw [show ((wr.alloc (.cells ca 46)).drewN nq).heap.size = wr.heap.size + 1 from (by show (wr.alloc _).heap.size = _; simp)] at h
                            exact h))
                          go_wp2_with ((at_builtin; (refine wpList_append_own _ rfl (.tmp 189) (.tmp 192) 26 rfl w.heap.size 64 i0 _ 2 16 Tryz.underlying26 hi hz0 hz1 hz2 rfl (by decide) _ _ _ rfl HOW.out ⟨wr.heap.size + 1, 0, none⟩ 1 1 [.int .i64 k, .int .i64 8] rfl rfl HCN.out (by intro u hu; simp at hu; rcases hu with rfl | rfl <;> rfl) (by unfold maxLen; omega) (by omega) (by simp; omega) ?_); intro v' w2 hown' hgrow _))
                          have HB2 := Lib.hid (HBW.out.grown hgrow (by simp; omega) (own_lt HOW.out))
                          have HC2 := Lib.hid (HCW.out.kept hgrow (own_apart HCW.out HOW.out (by decide)))
                          obtain ⟨A8, c8, rfl⟩ := shape_of hown'
                          have HO2 := Lib.hid hown'
                          clear hown' hgrow
                          go_wp2
                          go_roundw
                          case rel =>
                            refine ⟨k + 1, by omega, by go_num, ?_, ?_, HB2.out⟩
                            · rw [HQ.out, fltCells_snoc, List.length_append, ← HNF.out]
                              exact HO2.out
                            · rw [HQ.out, ← HN.out]
                              exact HC2.out
                          case measure => simp [intOf]; omega
                      · have hd1 : decide (r.owner < 0) = false := decide_eq_false ho
                        by_cases hw : x.who = r.owner
                        · by_cases he : x.epoch = r.epoch
                          · have HQ := Lib.hid (show passR L (k + 1) = (rs.set j ⟨r.owner, r.epoch, true⟩, F) by rw [HP.out, HST.out, show refOpen x rs r = (0, rs.set j ⟨r.owner, r.epoch, true⟩) by simp only [refOpen, if_neg (show ¬ x.kind = 3 by omega), if_pos k6]; rw [if_neg (by omega), show (x.call - 1).toNat = j by have := HJ.out; omega]]; rfl)
                            clear hcl
                            as_aux_lemma =>
                              go_wp2_with (first | (with_reducible refine wpList_load_mid rfl 46 (.tmp 19) rfl b (off + k * 28) rfl cs _ HRR.out Tryz.underlying46 rfl H28.out ?_; rw [← HCA.out]) | (refine wpList_store_new rfl 46 (.tmp 6) (.tmp 20) rfl _ ca rfl rfl H28'.out HSZ.out HONE.out ?_))
                              go_quiet (fail)
                              go_wp2
                              have HC5 : (((wr.alloc (.cells ca 46)).drewN nq).ownsRow w.heap.size 77 3 (.slice (some ⟨g, 0, none⟩) n c9) n (refCells rs)) := HC.out.alloc (.cells ca 46)
                              have HO5 : (((wr.alloc (.cells ca 46)).drewN nq).ownsRow w.heap.size 64 2 (.slice A7 nF c7) nF (fltCells F)) := HO.out.alloc (.cells ca 46)
                              have HB5 : Below w.heap.size w ((wr.alloc (.cells ca 46)).drewN nq) := below_drewN (n := nq) HB1.out
                              obtain ⟨hS1, hG1⟩ := HC5.stored (j * 3 + 2) (.bool true)
                              have hO6 := HO5.kept hG1 (own_apart HO5 HC5 (by decide))
                              go_roundw
                              case rel =>
                                refine ⟨k + 1, by omega, by go_num, ?_, ?_, HB5.setCell (p := ⟨g, j * 3 + 2, none⟩) hgB _⟩
                                · rw [HQ.out, ← HNF.out]
                                  exact hO6
                                · rw [HQ.out, refCells_setc rs j r true HRJ.out, List.length_set, ← HN.out]
                                  exact hS1
                              case measure => simp [intOf]; omega
                          · clear hcl
                            as_aux_lemma =>
                              have HQ := Lib.hid (show passR L (k + 1) = (rs, F ++ [((k : Int), 8)]) by rw [HP.out, HST.out, show refOpen x rs r = (8, rs) by simp only [refOpen, if_neg (show ¬ x.kind = 3 by omega), if_pos k6]; rw [if_pos (by omega)]]; rfl)
                              go_wp2_with (first | (with_reducible refine wpList_load_mid rfl 46 (.tmp 19) rfl b (off + k * 28) rfl cs _ HRR.out Tryz.underlying46 rfl H28.out ?_; rw [← HCA.out]) | (refine wpList_store_new rfl 46 (.tmp 6) (.tmp 20) rfl _ ca rfl rfl H28'.out HSZ.out HONE.out ?_))
                              go_quiet (fail)
                              have HOW := Lib.hid (show (((wr.alloc (.cells ca 46)).drewN nq).alloc (.cells #[.int .i64 k, .int .i64 8] 64)).ownsRow w.heap.size 64 2 _ _ _ from ((show ((wr.alloc (.cells ca 46)).drewN nq).ownsRow w.heap.size 64 2 _ _ _ from HO.out.alloc (.cells ca 46)).alloc (.cells #[.int .i64 k, .int .i64 8] 64)))
                              have HCW := Lib.hid (show (((wr.alloc (.cells ca 46)).drewN nq).alloc (.cells #[.int .i64 k, .int .i64 8] 64)).ownsRow w.heap.size 77 3 _ _ _ from ((show ((wr.alloc (.cells ca 46)).drewN nq).ownsRow w.heap.size 77 3 _ _ _ from HC.out.alloc (.cells ca 46)).alloc (.cells #[.int .i64 k, .int .i64 8] 64)))
                              have HBW := Lib.hid ((below_drewN (n := nq) HB1.out).alloc (by simp; omega) (.cells #[.int .i64 k, .int .i64 8] 64))
                              have HCN := Lib.hid (show ∀ (j : Nat) (u : Value), [Value.int .i64 k, Value.int .i64 8][j]? = some u → (((wr.alloc (.cells ca 46)).drewN nq).alloc (.cells #[.int .i64 k, .int .i64 8] 64)).cell? ((⟨wr.heap.size + 1, 0, none⟩ : Addr).add j) = some u from (by
                                have h := cells_new ((wr.alloc (.cells ca 46)).drewN nq) [.int .i64 k, .int .i64 8] 64
                                rw [show ((wr.alloc (.cells ca 46)).drewN nq).heap.size = wr.heap.size + 1 from (by show (wr.alloc _).heap.size = _; simp)] at h
                                exact h))
                              go_wp2_with ((at_builtin; (refine wpList_append_own _ rfl (.tmp 189) (.tmp 192) 26 rfl w.heap.size 64 i0 _ 2 16 Tryz.underlying26 hi hz0 hz1 hz2 rfl (by decide) _ _ _ rfl HOW.out ⟨wr.heap.size + 1, 0, none⟩ 1 1 [.int .i64 k, .int .i64 8] rfl rfl HCN.out (by intro u hu; simp at hu; rcases hu with rfl | rfl <;> rfl) (by unfold maxLen; omega) (by omega) (by simp; omega) ?_); intro v' w2 hown' hgrow _))
                              have HB2 := Lib.hid (HBW.out.grown hgrow (by simp; omega) (own_lt HOW.out))
                              have HC2 := Lib.hid (HCW.out.kept hgrow (own_apart HCW.out HOW.out (by decide)))
                              obtain ⟨A8, c8, rfl⟩ := shape_of hown'
                              have HO2 := Lib.hid hown'
                              clear hown' hgrow
                              go_wp2
                              go_roundw
                              case rel =>
                                refine ⟨k + 1, by omega, by go_num, ?_, ?_, HB2.out⟩
                                · rw [HQ.out, fltCells_snoc, List.length_append, ← HNF.out]
                                  exact HO2.out
                                · rw [HQ.out, ← HN.out]
                                  exact HC2.out
                              case measure => simp [intOf]; omega
                        · have hw2 : ¬ r.owner = x.who := fun e => hw e.symm
                          clear hcl hw
                          as_aux_lemma =>
                            have HQ := Lib.hid (show passR L (k + 1) = (rs, F ++ [((k : Int), 8)]) by rw [HP.out, HST.out, show refOpen x rs r = (8, rs) by simp only [refOpen, if_neg (show ¬ x.kind = 3 by omega), if_pos k6]; rw [if_pos (by omega)]]; rfl)
                            go_wp2_with (first | (with_reducible refine wpList_load_mid rfl 46 (.tmp 19) rfl b (off + k * 28) rfl cs _ HRR.out Tryz.underlying46 rfl H28.out ?_; rw [← HCA.out]) | (refine wpList_store_new rfl 46 (.tmp 6) (.tmp 20) rfl _ ca rfl rfl H28'.out HSZ.out HONE.out ?_))
                            go_quiet (fail)
                            have HOW := Lib.hid (show (((wr.alloc (.cells ca 46)).drewN nq).alloc (.cells #[.int .i64 k, .int .i64 8] 64)).ownsRow w.heap.size 64 2 _ _ _ from ((show ((wr.alloc (.cells ca 46)).drewN nq).ownsRow w.heap.size 64 2 _ _ _ from HO.out.alloc (.cells ca 46)).alloc (.cells #[.int .i64 k, .int .i64 8] 64)))
                            have HCW := Lib.hid (show (((wr.alloc (.cells ca 46)).drewN nq).alloc (.cells #[.int .i64 k, .int .i64 8] 64)).ownsRow w.heap.size 77 3 _ _ _ from ((show ((wr.alloc (.cells ca 46)).drewN nq).ownsRow w.heap.size 77 3 _ _ _ from HC.out.alloc (.cells ca 46)).alloc (.cells #[.int .i64 k, .int .i64 8] 64)))
                            have HBW := Lib.hid ((below_drewN (n := nq) HB1.out).alloc (by simp; omega) (.cells #[.int .i64 k, .int .i64 8] 64))
                            have HCN := Lib.hid (show ∀ (j : Nat) (u : Value), [Value.int .i64 k, Value.int .i64 8][j]? = some u → (((wr.alloc (.cells ca 46)).drewN nq).alloc (.cells #[.int .i64 k, .int .i64 8] 64)).cell? ((⟨wr.heap.size + 1, 0, none⟩ : Addr).add j) = some u from (by
                              have h := cells_new ((wr.alloc (.cells ca 46)).drewN nq) [.int .i64 k, .int .i64 8] 64
                              rw [show ((wr.alloc (.cells ca 46)).drewN nq).heap.size = wr.heap.size + 1 from (by show (wr.alloc _).heap.size = _; simp)] at h
                              exact h))
                            go_wp2_with ((at_builtin; (refine wpList_append_own _ rfl (.tmp 189) (.tmp 192) 26 rfl w.heap.size 64 i0 _ 2 16 Tryz.underlying26 hi hz0 hz1 hz2 rfl (by decide) _ _ _ rfl HOW.out ⟨wr.heap.size + 1, 0, none⟩ 1 1 [.int .i64 k, .int .i64 8] rfl rfl HCN.out (by intro u hu; simp at hu; rcases hu with rfl | rfl <;> rfl) (by unfold maxLen; omega) (by omega) (by simp; omega) ?_); intro v' w2 hown' hgrow _))
                            have HB2 := Lib.hid (HBW.out.grown hgrow (by simp; omega) (own_lt HOW.out))
                            have HC2 := Lib.hid (HCW.out.kept hgrow (own_apart HCW.out HOW.out (by decide)))
                            obtain ⟨A8, c8, rfl⟩ := shape_of hown'
                            have HO2 := Lib.hid hown'
                            clear hown' hgrow
                            go_wp2
                            go_roundw
                            case rel =>
                              refine ⟨k + 1, by omega, by go_num, ?_, ?_, HB2.out⟩
                              · rw [HQ.out, fltCells_snoc, List.length_append, ← HNF.out]
                                exact HO2.out
                              · rw [HQ.out, ← HN.out]
                                exact HC2.out
                            case measure => simp [intOf]; omega
                  · as_aux_lemma =>
                      have HQ := Lib.hid (show passR L (k + 1) = (rs, F) by rw [HP.out, refStep_other k2 k3 k4 k5 k6]; rfl)
                      go_wp2_with (first | (with_reducible refine wpList_load_mid rfl 46 (.tmp 19) rfl b (off + k * 28) rfl cs _ HRR.out Tryz.underlying46 rfl H28.out ?_; rw [← HCA.out]) | (refine wpList_store_new rfl 46 (.tmp 6) (.tmp 20) rfl _ ca rfl rfl H28'.out HSZ.out HONE.out ?_))
                      go_roundw
                      case rel =>
                        refine ⟨k + 1, by omega, by go_num, ?_, ?_, HB1.out⟩
                        · rw [HQ.out, ← HNF.out]
                          exact HO.out.alloc _
                        · rw [HQ.out, ← HN.out]
                          exact HC.out.alloc _
                      case measure => simp [intOf]; omega
        · have HSH := Lib.hid (show isOpen rs x.call = false from isOpen_low (by rw [← HN.out]; omega))
          by_cases k2 : x.kind = 2
          · by_cases hce : x.call = (n : Int) + 1
            · by_cases hw : x.who < 0
              · as_aux_lemma =>
                  have HQ := Lib.hid (show passR L (k + 1) = (rs, F ++ [((k : Int), 8)]) by rw [HP.out, show refStep L k x rs = (8, rs) by simp only [refStep, if_pos k2]; rw [if_neg (fun h => by omega)]]; rfl)
                  have HOW := Lib.hid ((HO.out.alloc (.cells ca 46)).alloc (.cells #[.int .i64 k, .int .i64 8] 64))
                  have HCW := Lib.hid ((HC.out.alloc (.cells ca 46)).alloc (.cells #[.int .i64 k, .int .i64 8] 64))
                  have HBW := Lib.hid (HB1.out.alloc (by simp; omega) (.cells #[.int .i64 k, .int .i64 8] 64))
                  have HCN := Lib.hid (cells_new (wr.alloc (.cells ca 46)) [.int .i64 k, .int .i64 8] 64)
                  simp only [World.size_alloc] at HCN
                  go_wp2_with (first | (with_reducible refine wpList_load_mid rfl 46 (.tmp 19) rfl b (off + k * 28) rfl cs _ HRR.out Tryz.underlying46 rfl H28.out ?_; rw [← HCA.out]) | (refine wpList_store_new rfl 46 (.tmp 6) (.tmp 20) rfl _ ca rfl rfl H28'.out HSZ.out HONE.out ?_) | (at_builtin; (refine wpList_append_own _ rfl (.tmp 57) (.tmp 60) 26 rfl w.heap.size 64 i0 _ 2 16 Tryz.underlying26 hi hz0 hz1 hz2 rfl (by decide) _ _ _ rfl HOW.out ⟨wr.heap.size + 1, 0, none⟩ 1 1 [.int .i64 k, .int .i64 8] rfl rfl HCN.out (by intro u hu; simp at hu; rcases hu with rfl | rfl <;> rfl) (by unfold maxLen; omega) (by omega) (by simp; omega) ?_); intro v' w2 hown' hgrow _))
                  have HB2 := Lib.hid (HBW.out.grown hgrow (by simp; omega) (own_lt HOW.out))
                  have HC2 := Lib.hid (HCW.out.kept hgrow (own_apart HCW.out HOW.out (by decide)))
                  obtain ⟨A8, c8, rfl⟩ := shape_of hown'
                  have HO2 := Lib.hid hown'
                  clear hown' hgrow
                  go_wp2
                  go_roundw
                  case rel =>
                    refine ⟨k + 1, by omega, by go_num, ?_, ?_, HB2.out⟩
                    · rw [HQ.out, fltCells_snoc, List.length_append, ← HNF.out]
                      exact HO2.out
                    · rw [HQ.out, ← HN.out]
                      exact HC2.out
                  case measure => simp [intOf]; omega
              · by_cases hn : k + 1 < L.length
                · obtain ⟨y, hy⟩ : ∃ y, L[k + 1]? = some y := ⟨_, List.getElem?_eq_getElem hn⟩
                  obtain ⟨b', off', cs', hbb, hbB, hl', hr', _, hE'⟩ := HL.out (k + 1) y hy
                  have hy0 : w.cell? ⟨b', off' + (k + 1) * 28, none⟩ = some (.int .i64 y.kind) := by obtain ⟨_, _, _, rfl⟩ := hE'; exact hr' 0 _ rfl
                  have hy3 : w.cell? ⟨b', off' + (k + 1) * 28 + 3, none⟩ = some (.int .i64 y.call) := by obtain ⟨_, _, _, rfl⟩ := hE'; exact hr' 3 _ rfl
                  cases hbb
                  have HY0 := Lib.hid hy0
                  have HY3 := Lib.hid hy3
                  have HY := Lib.hid hy
                  have hni : ((k : Int) + 1) < (L.length : Int) := by omega
                  have hd : decide ((L.length : Int) ≤ (k : Int) + 1) = false := decide_eq_false (by omega)
                  clear hy hy0 hy3 hr' hE' hl' hbB
                  by_cases y3 : y.kind = 3
                  · by_cases yc : y.call = x.call
                    · as_aux_lemma =>
                        have HCX := Lib.hid ((HC.out.alloc (.cells ca 46)).alloc (.cells #[.int .i64 (-1), .int .i64 0, .bool false] 77))
                        have HOX := Lib.hid ((HO.out.alloc (.cells ca 46)).alloc (.cells #[.int .i64 (-1), .int .i64 0, .bool false] 77))
                        have HBX := Lib.hid (HB1.out.alloc (by simp; omega) (.cells #[.int .i64 (-1), .int .i64 0, .bool false] 77))
                        have HCNX := Lib.hid (cells_new (wr.alloc (.cells ca 46)) [.int .i64 (-1), .int .i64 0, .bool false] 77)
                        simp only [World.size_alloc] at HCNX
                        have HQ := Lib.hid (show passR L (k + 1) = (rs ++ [⟨-1, 0, false⟩], F) by rw [HP.out, refStep_dial k2 (by rw [← HN.out]; exact hce) hw true (show nextOk L k x = true by simp [nextOk, HY.out, y3, yc])]; rfl)
                        go_wp2_with (first | (with_reducible refine wpList_load_mid rfl 46 (.tmp 19) rfl b (off + k * 28) rfl cs _ HRR.out Tryz.underlying46 rfl H28.out ?_; rw [← HCA.out]) | (refine wpList_store_new rfl 46 (.tmp 6) (.tmp 20) rfl _ ca rfl rfl H28'.out HSZ.out HONE.out ?_) | (at_builtin; (refine wpList_append_own _ rfl (.tmp 62) (.tmp 64) 75 rfl w.heap.size 77 i1 _ 3 24 Tryz.underlying75 hj hy0 hy1 hy2 rfl (by decide) _ _ _ rfl HCX.out ⟨wr.heap.size + 1, 0, none⟩ 1 1 [.int .i64 (-1), .int .i64 0, .bool false] rfl rfl HCNX.out (by intro u hu; simp at hu; rcases hu with rfl | rfl | rfl <;> rfl) (by unfold maxLen; omega) (by omega) (by simp; omega) ?_); intro u' w2 hownx hgrowx _; have e3 : w2.cell? ⟨wr.heap.size, 3, none⟩ = some (.int .i64 x.call) := new_kept hgrowx (row_old HC.out) 3 _ q3; have HB2 := Lib.hid (HBX.out.grown hgrowx (by simp; omega) (own_lt HCX.out)); have HO2 := Lib.hid (HOX.out.kept hgrowx (own_apart HOX.out HCX.out (by decide))); have HC2 := Lib.hid hownx; have hs2 := HB2.out.size; obtain ⟨A6, c6, rfl⟩ := shape_of hownx; clear hownx hgrowx; have d0 : w2.cell? ⟨b, off + (k + 1) * 28, none⟩ = some (.int .i64 y.kind) := (HB2.out.cell (p := ⟨b, off + (k + 1) * 28, none⟩) hbl).trans HY0.out; have d3 : w2.cell? ⟨b, off + (k + 1) * 28 + 3, none⟩ = some (.int .i64 y.call) := (HB2.out.cell (p := ⟨b, off + (k + 1) * 28 + 3, none⟩) hbl).trans HY3.out))
                        go_quiet (fail)
                        go_wp2
                        go_roundw
                        case rel =>
                          refine ⟨k + 1, by omega, by go_num, ?_, ?_, below_drewN HB2.out⟩
                          · rw [HQ.out, ← HNF.out]
                            exact HO2.out
                          · rw [HQ.out, refCells_snoc, List.length_append, ← HN.out]
                            exact HC2.out
                        case measure => simp [intOf]; omega
                    · as_aux_lemma =>
                        have HCX := Lib.hid ((HC.out.alloc (.cells ca 46)).alloc (.cells #[.int .i64 (-1), .int .i64 0, .bool false] 77))
                        have HOX := Lib.hid ((HO.out.alloc (.cells ca 46)).alloc (.cells #[.int .i64 (-1), .int .i64 0, .bool false] 77))
                        have HBX := Lib.hid (HB1.out.alloc (by simp; omega) (.cells #[.int .i64 (-1), .int .i64 0, .bool false] 77))
                        have HCNX := Lib.hid (cells_new (wr.alloc (.cells ca 46)) [.int .i64 (-1), .int .i64 0, .bool false] 77)
                        simp only [World.size_alloc] at HCNX
                        have HQ := Lib.hid (show passR L (k + 1) = (rs ++ [⟨-1, 0, false⟩], F ++ [((k : Int), 1)]) by rw [HP.out, refStep_dial k2 (by rw [← HN.out]; exact hce) hw false (show nextOk L k x = false by simp [nextOk, HY.out, yc])]; rfl)
                        go_wp2_with (first | (with_reducible refine wpList_load_mid rfl 46 (.tmp 19) rfl b (off + k * 28) rfl cs _ HRR.out Tryz.underlying46 rfl H28.out ?_; rw [← HCA.out]) | (refine wpList_store_new rfl 46 (.tmp 6) (.tmp 20) rfl _ ca rfl rfl H28'.out HSZ.out HONE.out ?_) | (at_builtin; (refine wpList_append_own _ rfl (.tmp 62) (.tmp 64) 75 rfl w.heap.size 77 i1 _ 3 24 Tryz.underlying75 hj hy0 hy1 hy2 rfl (by decide) _ _ _ rfl HCX.out ⟨wr.heap.size + 1, 0, none⟩ 1 1 [.int .i64 (-1), .int .i64 0, .bool false] rfl rfl HCNX.out (by intro u hu; simp at hu; rcases hu with rfl | rfl | rfl <;> rfl) (by unfold maxLen; omega) (by omega) (by simp; omega) ?_); intro u' w2 hownx hgrowx _; have e3 : w2.cell? ⟨wr.heap.size, 3, none⟩ = some (.int .i64 x.call) := new_kept hgrowx (row_old HC.out) 3 _ q3; have HB2 := Lib.hid (HBX.out.grown hgrowx (by simp; omega) (own_lt HCX.out)); have HO2 := Lib.hid (HOX.out.kept hgrowx (own_apart HOX.out HCX.out (by decide))); have HC2 := Lib.hid hownx; have hs2 := HB2.out.size; obtain ⟨A6, c6, rfl⟩ := shape_of hownx; clear hownx hgrowx; have d0 : w2.cell? ⟨b, off + (k + 1) * 28, none⟩ = some (.int .i64 y.kind) := (HB2.out.cell (p := ⟨b, off + (k + 1) * 28, none⟩) hbl).trans HY0.out; have d3 : w2.cell? ⟨b, off + (k + 1) * 28 + 3, none⟩ = some (.int .i64 y.call) := (HB2.out.cell (p := ⟨b, off + (k + 1) * 28 + 3, none⟩) hbl).trans HY3.out))
                        go_quiet (fail)
                        have HOW := Lib.hid (show ((w2.drewN nq).alloc (.cells #[.int .i64 k, .int .i64 1] 64)).ownsRow w.heap.size 64 2 _ _ _ from ((show (w2.drewN nq).ownsRow w.heap.size 64 2 _ _ _ from HO2.out).alloc (.cells #[.int .i64 k, .int .i64 1] 64)))
                        have HCW := Lib.hid (show ((w2.drewN nq).alloc (.cells #[.int .i64 k, .int .i64 1] 64)).ownsRow w.heap.size 77 3 _ _ _ from ((show (w2.drewN nq).ownsRow w.heap.size 77 3 _ _ _ from HC2.out).alloc (.cells #[.int .i64 k, .int .i64 1] 64)))
                        have HBW := Lib.hid ((below_drewN (n := nq) HB2.out).alloc hs2 (.cells #[.int .i64 k, .int .i64 1] 64))
                        have HCN := Lib.hid (show ∀ (j : Nat) (u : Value), [Value.int .i64 k, Value.int .i64 1][j]? = some u → ((w2.drewN nq).alloc (.cells #[.int .i64 k, .int .i64 1] 64)).cell? ((⟨w2.heap.size, 0, none⟩ : Addr).add j) = some u from cells_new (w2.drewN nq) [.int .i64 k, .int .i64 1] 64)
                        have hs3 : w.heap.size ≤ ((w2.drewN nq).alloc (.cells #[.int .i64 k, .int .i64 1] 64)).heap.size := HBW.out.size
                        go_wp2_with ((at_builtin; (refine wpList_append_own _ rfl (.tmp 91) (.tmp 94) 26 rfl w.heap.size 64 i0 _ 2 16 Tryz.underlying26 hi hz0 hz1 hz2 rfl (by decide) _ _ _ rfl HOW.out ⟨w2.heap.size, 0, none⟩ 1 1 [.int .i64 k, .int .i64 1] rfl rfl HCN.out (by intro u hu; simp at hu; rcases hu with rfl | rfl <;> rfl) (by unfold maxLen; omega) (by omega) hs3 ?_); intro v' w2 hown' hgrow _))
                        have HB3 := Lib.hid (HBW.out.grown hgrow hs3 (own_lt HOW.out))
                        have HC3 := Lib.hid (HCW.out.kept hgrow (own_apart HCW.out HOW.out (by decide)))
                        obtain ⟨A8, c8, rfl⟩ := shape_of hown'
                        have HO3 := Lib.hid hown'
                        clear hown' hgrow
                        go_wp2
                        go_roundw
                        case rel =>
                          refine ⟨k + 1, by omega, by go_num, ?_, ?_, HB3.out⟩
                          · rw [HQ.out, fltCells_snoc, List.length_append, ← HNF.out]
                            exact HO3.out
                          · rw [HQ.out, refCells_snoc, List.length_append, ← HN.out]
                            exact HC3.out
                        case measure => simp [intOf]; omega
                  · have hd2 : decide (y.kind = 3) = false := decide_eq_false y3
                    have hd3 : (y.kind == 3) = false := by simpa using y3
                    have hd4 : (y.kind != 3) = true := by simpa using y3
                    as_aux_lemma =>
                      have HCX := Lib.hid ((HC.out.alloc (.cells ca 46)).alloc (.cells #[.int .i64 (-1), .int .i64 0, .bool false] 77))
                      have HOX := Lib.hid ((HO.out.alloc (.cells ca 46)).alloc (.cells #[.int .i64 (-1), .int .i64 0, .bool false] 77))
                      have HBX := Lib.hid (HB1.out.alloc (by simp; omega) (.cells #[.int .i64 (-1), .int .i64 0, .bool false] 77))
                      have HCNX := Lib.hid (cells_new (wr.alloc (.cells ca 46)) [.int .i64 (-1), .int .i64 0, .bool false] 77)
                      simp only [World.size_alloc] at HCNX
                      have HQ := Lib.hid (show passR L (k + 1) = (rs ++ [⟨-1, 0, false⟩], F ++ [((k : Int), 1)]) by rw [HP.out, refStep_dial k2 (by rw [← HN.out]; exact hce) hw false (show nextOk L k x = false by simp [nextOk, HY.out, y3])]; rfl)
                      go_wp2_with (first | (with_reducible refine wpList_load_mid rfl 46 (.tmp 19) rfl b (off + k * 28) rfl cs _ HRR.out Tryz.underlying46 rfl H28.out ?_; rw [← HCA.out]) | (refine wpList_store_new rfl 46 (.tmp 6) (.tmp 20) rfl _ ca rfl rfl H28'.out HSZ.out HONE.out ?_) | (at_builtin; (refine wpList_append_own _ rfl (.tmp 62) (.tmp 64) 75 rfl w.heap.size 77 i1 _ 3 24 Tryz.underlying75 hj hy0 hy1 hy2 rfl (by decide) _ _ _ rfl HCX.out ⟨wr.heap.size + 1, 0, none⟩ 1 1 [.int .i64 (-1), .int .i64 0, .bool false] rfl rfl HCNX.out (by intro u hu; simp at hu; rcases hu with rfl | rfl | rfl <;> rfl) (by unfold maxLen; omega) (by omega) (by simp; omega) ?_); intro u' w2 hownx hgrowx _; have e3 : w2.cell? ⟨wr.heap.size, 3, none⟩ = some (.int .i64 x.call) := new_kept hgrowx (row_old HC.out) 3 _ q3; have HB2 := Lib.hid (HBX.out.grown hgrowx (by simp; omega) (own_lt HCX.out)); have HO2 := Lib.hid (HOX.out.kept hgrowx (own_apart HOX.out HCX.out (by decide))); have HC2 := Lib.hid hownx; have hs2 := HB2.out.size; obtain ⟨A6, c6, rfl⟩ := shape_of hownx; clear hownx hgrowx; have d0 : w2.cell? ⟨b, off + (k + 1) * 28, none⟩ = some (.int .i64 y.kind) := (HB2.out.cell (p := ⟨b, off + (k + 1) * 28, none⟩) hbl).trans HY0.out; have d3 : w2.cell? ⟨b, off + (k + 1) * 28 + 3, none⟩ = some (.int .i64 y.call) := (HB2.out.cell (p := ⟨b, off + (k + 1) * 28 + 3, none⟩) hbl).trans HY3.out))
                      go_quiet (fail)
                      have HOW := Lib.hid (show ((w2.drewN nq).alloc (.cells #[.int .i64 k, .int .i64 1] 64)).ownsRow w.heap.size 64 2 _ _ _ from ((show (w2.drewN nq).ownsRow w.heap.size 64 2 _ _ _ from HO2.out).alloc (.cells #[.int .i64 k, .int .i64 1] 64)))
                      have HCW := Lib.hid (show ((w2.drewN nq).alloc (.cells #[.int .i64 k, .int .i64 1] 64)).ownsRow w.heap.size 77 3 _ _ _ from ((show (w2.drewN nq).ownsRow w.heap.size 77 3 _ _ _ from HC2.out).alloc (.cells #[.int .i64 k, .int .i64 1] 64)))
                      have HBW := Lib.hid ((below_drewN (n := nq) HB2.out).alloc hs2 (.cells #[.int .i64 k, .int .i64 1] 64))
                      have HCN := Lib.hid (show ∀ (j : Nat) (u : Value), [Value.int .i64 k, Value.int .i64 1][j]? = some u → ((w2.drewN nq).alloc (.cells #[.int .i64 k, .int .i64 1] 64)).cell? ((⟨w2.heap.size, 0, none⟩ : Addr).add j) = some u from cells_new (w2.drewN nq) [.int .i64 k, .int .i64 1] 64)
                      have hs3 : w.heap.size ≤ ((w2.drewN nq).alloc (.cells #[.int .i64 k, .int .i64 1] 64)).heap.size := HBW.out.size
                      go_wp2_with ((at_builtin; (refine wpList_append_own _ rfl (.tmp 91) (.tmp 94) 26 rfl w.heap.size 64 i0 _ 2 16 Tryz.underlying26 hi hz0 hz1 hz2 rfl (by decide) _ _ _ rfl HOW.out ⟨w2.heap.size, 0, none⟩ 1 1 [.int .i64 k, .int .i64 1] rfl rfl HCN.out (by intro u hu; simp at hu; rcases hu with rfl | rfl <;> rfl) (by unfold maxLen; omega) (by omega) hs3 ?_); intro v' w2 hown' hgrow _))
                      have HB3 := Lib.hid (HBW.out.grown hgrow hs3 (own_lt HOW.out))
                      have HC3 := Lib.hid (HCW.out.kept hgrow (own_apart HCW.out HOW.out (by decide)))
                      obtain ⟨A8, c8, rfl⟩ := shape_of hown'
                      have HO3 := Lib.hid hown'
                      clear hown' hgrow
                      go_wp2
                      go_roundw
                      case rel =>
                        refine ⟨k + 1, by omega, by go_num, ?_, ?_, HB3.out⟩
                        · rw [HQ.out, fltCells_snoc, List.length_append, ← HNF.out]
                          exact HO3.out
                        · rw [HQ.out, refCells_snoc, List.length_append, ← HN.out]
                          exact HC3.out
                      case measure => simp [intOf]; omega
                · have hni : (L.length : Int) ≤ ((k : Int) + 1) := by omega
                  as_aux_lemma =>
                    have HCX := Lib.hid ((HC.out.alloc (.cells ca 46)).alloc (.cells #[.int .i64 (-1), .int .i64 0, .bool false] 77))
                    have HOX := Lib.hid ((HO.out.alloc (.cells ca 46)).alloc (.cells #[.int .i64 (-1), .int .i64 0, .bool false] 77))
                    have HBX := Lib.hid (HB1.out.alloc (by simp; omega) (.cells #[.int .i64 (-1), .int .i64 0, .bool false] 77))
                    have HCNX := Lib.hid (cells_new (wr.alloc (.cells ca 46)) [.int .i64 (-1), .int .i64 0, .bool false] 77)
                    simp only [World.size_alloc] at HCNX
                    have HQ := Lib.hid (show passR L (k + 1) = (rs ++ [⟨-1, 0, false⟩], F ++ [((k : Int), 1)]) by rw [HP.out, refStep_dial k2 (by rw [← HN.out]; exact hce) hw false (show nextOk L k x = false by simp [nextOk, List.getElem?_eq_none (show L.length ≤ k + 1 by omega)])]; rfl)
                    go_wp2_with (first | (with_reducible refine wpList_load_mid rfl 46 (.tmp 19) rfl b (off + k * 28) rfl cs _ HRR.out Tryz.underlying46 rfl H28.out ?_; rw [← HCA.out]) | (refine wpList_store_new rfl 46 (.tmp 6) (.tmp 20) rfl _ ca rfl rfl H28'.out HSZ.out HONE.out ?_) | (at_builtin; (refine wpList_append_own _ rfl (.tmp 62) (.tmp 64) 75 rfl w.heap.size 77 i1 _ 3 24 Tryz.underlying75 hj hy0 hy1 hy2 rfl (by decide) _ _ _ rfl HCX.out ⟨wr.heap.size + 1, 0, none⟩ 1 1 [.int .i64 (-1), .int .i64 0, .bool false] rfl rfl HCNX.out (by intro u hu; simp at hu; rcases hu with rfl | rfl | rfl <;> rfl) (by unfold maxLen; omega) (by omega) (by simp; omega) ?_); intro u' w2 hownx hgrowx _; have e3 : w2.cell? ⟨wr.heap.size, 3, none⟩ = some (.int .i64 x.call) := new_kept hgrowx (row_old HC.out) 3 _ q3; have HB2 := Lib.hid (HBX.out.grown hgrowx (by simp; omega) (own_lt HCX.out)); have HO2 := Lib.hid (HOX.out.kept hgrowx (own_apart HOX.out HCX.out (by decide))); have HC2 := Lib.hid hownx; have hs2 := HB2.out.size; obtain ⟨A6, c6, rfl⟩ := shape_of hownx; clear hownx hgrowx))
                    go_quiet (fail)
                    have HOW := Lib.hid (show ((w2.drewN nq).alloc (.cells #[.int .i64 k, .int .i64 1] 64)).ownsRow w.heap.size 64 2 _ _ _ from ((show (w2.drewN nq).ownsRow w.heap.size 64 2 _ _ _ from HO2.out).alloc (.cells #[.int .i64 k, .int .i64 1] 64)))
                    have HCW := Lib.hid (show ((w2.drewN nq).alloc (.cells #[.int .i64 k, .int .i64 1] 64)).ownsRow w.heap.size 77 3 _ _ _ from ((show (w2.drewN nq).ownsRow w.heap.size 77 3 _ _ _ from HC2.out).alloc (.cells #[.int .i64 k, .int .i64 1] 64)))
                    have HBW := Lib.hid ((below_drewN (n := nq) HB2.out).alloc hs2 (.cells #[.int .i64 k, .int .i64 1] 64))
                    have HCN := Lib.hid (show ∀ (j : Nat) (u : Value), [Value.int .i64 k, Value.int .i64 1][j]? = some u → ((w2.drewN nq).alloc (.cells #[.int .i64 k, .int .i64 1] 64)).cell? ((⟨w2.heap.size, 0, none⟩ : Addr).add j) = some u from cells_new (w2.drewN nq) [.int .i64 k, .int .i64 1] 64)
                    have hs3 : w.heap.size ≤ ((w2.drewN nq).alloc (.cells #[.int .i64 k, .int .i64 1] 64)).heap.size := HBW.out.size
                    go_wp2_with ((at_builtin; (refine wpList_append_own _ rfl (.tmp 91) (.tmp 94) 26 rfl w.heap.size 64 i0 _ 2 16 Tryz.underlying26 hi hz0 hz1 hz2 rfl (by decide) _ _ _ rfl HOW.out ⟨w2.heap.size, 0, none⟩ 1 1 [.int .i64 k, .int .i64 1] rfl rfl HCN.out (by intro u hu; simp at hu; rcases hu with rfl | rfl <;> rfl) (by unfold maxLen; omega) (by omega) hs3 ?_); intro v' w2 hown' hgrow _))
                    have HB3 := Lib.hid (HBW.out.grown hgrow hs3 (own_lt HOW.out))
                    have HC3 := Lib.hid (HCW.out.kept hgrow (own_apart HCW.out HOW.out (by decide)))
                    obtain ⟨A8, c8, rfl⟩ := shape_of hown'
                    have HO3 := Lib.hid hown'
                    clear hown' hgrow
                    go_wp2
                    go_roundw
                    case rel =>
                      refine ⟨k + 1, by omega, by go_num, ?_, ?_, HB3.out⟩
                      · rw [HQ.out, fltCells_snoc, List.length_append, ← HNF.out]
                        exact HO3.out
                      · rw [HQ.out, refCells_snoc, List.length_append, ← HN.out]
                        exact HC3.out
                    case measure => simp [intOf]; omega
            · as_aux_lemma =>
                have HQ := Lib.hid (show passR L (k + 1) = (rs, F ++ [((k : Int), 8)]) by rw [HP.out, show refStep L k x rs = (8, rs) by simp only [refStep, if_pos k2]; rw [if_neg (fun h => hce (by rw [HN.out]; exact h.1))]]; rfl)
                have HOW := Lib.hid ((HO.out.alloc (.cells ca 46)).alloc (.cells #[.int .i64 k, .int .i64 8] 64))
                have HCW := Lib.hid ((HC.out.alloc (.cells ca 46)).alloc (.cells #[.int .i64 k, .int .i64 8] 64))
                have HBW := Lib.hid (HB1.out.alloc (by simp; omega) (.cells #[.int .i64 k, .int .i64 8] 64))
                have HCN := Lib.hid (cells_new (wr.alloc (.cells ca 46)) [.int .i64 k, .int .i64 8] 64)
                simp only [World.size_alloc] at HCN
                go_wp2_with (first | (with_reducible refine wpList_load_mid rfl 46 (.tmp 19) rfl b (off + k * 28) rfl cs _ HRR.out Tryz.underlying46 rfl H28.out ?_; rw [← HCA.out]) | (refine wpList_store_new rfl 46 (.tmp 6) (.tmp 20) rfl _ ca rfl rfl H28'.out HSZ.out HONE.out ?_) | (at_builtin; (refine wpList_append_own _ rfl (.tmp 57) (.tmp 60) 26 rfl w.heap.size 64 i0 _ 2 16 Tryz.underlying26 hi hz0 hz1 hz2 rfl (by decide) _ _ _ rfl HOW.out ⟨wr.heap.size + 1, 0, none⟩ 1 1 [.int .i64 k, .int .i64 8] rfl rfl HCN.out (by intro u hu; simp at hu; rcases hu with rfl | rfl <;> rfl) (by unfold maxLen; omega) (by omega) (by simp; omega) ?_); intro v' w2 hown' hgrow _))
                have HB2 := Lib.hid (HBW.out.grown hgrow (by simp; omega) (own_lt HOW.out))
                have HC2 := Lib.hid (HCW.out.kept hgrow (own_apart HCW.out HOW.out (by decide)))
                obtain ⟨A8, c8, rfl⟩ := shape_of hown'
                have HO2 := Lib.hid hown'
                clear hown' hgrow
                go_wp2
                go_roundw
                case rel =>
                  refine ⟨k + 1, by omega, by go_num, ?_, ?_, HB2.out⟩
                  · rw [HQ.out, fltCells_snoc, List.length_append, ← HNF.out]
                    exact HO2.out
                  · rw [HQ.out, ← HN.out]
                    exact HC2.out
                case measure => simp [intOf]; omega
          · by_cases k3 : x.kind = 3
            · as_aux_lemma =>
                have HQ := Lib.hid (show passR L (k + 1) = (rs, F ++ [((k : Int), 8)]) by rw [HP.out, refStep_shut (by omega) HSH.out, show refShut x rs = (8, rs) by simp [refShut, k3]]; rfl)
                have HOW := Lib.hid ((HO.out.alloc (.cells ca 46)).alloc (.cells #[.int .i64 k, .int .i64 8] 64))
                have HCW := Lib.hid ((HC.out.alloc (.cells ca 46)).alloc (.cells #[.int .i64 k, .int .i64 8] 64))
                have HBW := Lib.hid (HB1.out.alloc (by simp; omega) (.cells #[.int .i64 k, .int .i64 8] 64))
                have HCN := Lib.hid (cells_new (wr.alloc (.cells ca 46)) [.int .i64 k, .int .i64 8] 64)
                simp only [World.size_alloc] at HCN
                go_wp2_with (first | (with_reducible refine wpList_load_mid rfl 46 (.tmp 19) rfl b (off + k * 28) rfl cs _ HRR.out Tryz.underlying46 rfl H28.out ?_; rw [← HCA.out]) | (refine wpList_store_new rfl 46 (.tmp 6) (.tmp 20) rfl _ ca rfl rfl H28'.out HSZ.out HONE.out ?_) | (at_builtin; (refine wpList_append_own _ rfl (.tmp 105) (.tmp 108) 26 rfl w.heap.size 64 i0 _ 2 16 Tryz.underlying26 hi hz0 hz1 hz2 rfl (by decide) _ _ _ rfl HOW.out ⟨wr.heap.size + 1, 0, none⟩ 1 1 [.int .i64 k, .int .i64 8] rfl rfl HCN.out (by intro u hu; simp at hu; rcases hu with rfl | rfl <;> rfl) (by unfold maxLen; omega) (by omega) (by simp; omega) ?_); intro v' w2 hown' hgrow _))
                have HB2 := Lib.hid (HBW.out.grown hgrow (by simp; omega) (own_lt HOW.out))
                have HC2 := Lib.hid (HCW.out.kept hgrow (own_apart HCW.out HOW.out (by decide)))
                obtain ⟨A8, c8, rfl⟩ := shape_of hown'
                have HO2 := Lib.hid hown'
                clear hown' hgrow
                go_wp2
                go_roundw
                case rel =>
                  refine ⟨k + 1, by omega, by go_num, ?_, ?_, HB2.out⟩
                  · rw [HQ.out, fltCells_snoc, List.length_append, ← HNF.out]
                    exact HO2.out
                  · rw [HQ.out, ← HN.out]
                    exact HC2.out
                case measure => simp [intOf]; omega
            · by_cases k4 : x.kind = 4
              · as_aux_lemma =>
                  have HQ := Lib.hid (show passR L (k + 1) = (rs, F ++ [((k : Int), 8)]) by rw [HP.out, refStep_shut (by omega) HSH.out, show refShut x rs = (8, rs) by simp [refShut, k4]]; rfl)
                  have HOW := Lib.hid ((HO.out.alloc (.cells ca 46)).alloc (.cells #[.int .i64 k, .int .i64 8] 64))
                  have HCW := Lib.hid ((HC.out.alloc (.cells ca 46)).alloc (.cells #[.int .i64 k, .int .i64 8] 64))
                  have HBW := Lib.hid (HB1.out.alloc (by simp; omega) (.cells #[.int .i64 k, .int .i64 8] 64))
                  have HCN := Lib.hid (cells_new (wr.alloc (.cells ca 46)) [.int .i64 k, .int .i64 8] 64)
                  simp only [World.size_alloc] at HCN
                  go_wp2_with (first | (with_reducible refine wpList_load_mid rfl 46 (.tmp 19) rfl b (off + k * 28) rfl cs _ HRR.out Tryz.underlying46 rfl H28.out ?_; rw [← HCA.out]) | (refine wpList_store_new rfl 46 (.tmp 6) (.tmp 20) rfl _ ca rfl rfl H28'.out HSZ.out HONE.out ?_) | (at_builtin; (refine wpList_append_own _ rfl (.tmp 146) (.tmp 149) 26 rfl w.heap.size 64 i0 _ 2 16 Tryz.underlying26 hi hz0 hz1 hz2 rfl (by decide) _ _ _ rfl HOW.out ⟨wr.heap.size + 1, 0, none⟩ 1 1 [.int .i64 k, .int .i64 8] rfl rfl HCN.out (by intro u hu; simp at hu; rcases hu with rfl | rfl <;> rfl) (by unfold maxLen; omega) (by omega) (by simp; omega) ?_); intro v' w2 hown' hgrow _))
                  have HB2 := Lib.hid (HBW.out.grown hgrow (by simp; omega) (own_lt HOW.out))
                  have HC2 := Lib.hid (HCW.out.kept hgrow (own_apart HCW.out HOW.out (by decide)))
                  obtain ⟨A8, c8, rfl⟩ := shape_of hown'
                  have HO2 := Lib.hid hown'
                  clear hown' hgrow
                  go_wp2
                  go_roundw
                  case rel =>
                    refine ⟨k + 1, by omega, by go_num, ?_, ?_, HB2.out⟩
                    · rw [HQ.out, fltCells_snoc, List.length_append, ← HNF.out]
                      exact HO2.out
                    · rw [HQ.out, ← HN.out]
                      exact HC2.out
                  case measure => simp [intOf]; omega
              · by_cases k5 : x.kind = 5
                · as_aux_lemma =>
                    have HQ := Lib.hid (show passR L (k + 1) = (rs, F ++ [((k : Int), 8)]) by rw [HP.out, refStep_shut (by omega) HSH.out, show refShut x rs = (8, rs) by simp [refShut, k5]]; rfl)
                    have HOW := Lib.hid ((HO.out.alloc (.cells ca 46)).alloc (.cells #[.int .i64 k, .int .i64 8] 64))
                    have HCW := Lib.hid ((HC.out.alloc (.cells ca 46)).alloc (.cells #[.int .i64 k, .int .i64 8] 64))
                    have HBW := Lib.hid (HB1.out.alloc (by simp; omega) (.cells #[.int .i64 k, .int .i64 8] 64))
                    have HCN := Lib.hid (cells_new (wr.alloc (.cells ca 46)) [.int .i64 k, .int .i64 8] 64)
                    simp only [World.size_alloc] at HCN
                    go_wp2_with (first | (with_reducible refine wpList_load_mid rfl 46 (.tmp 19) rfl b (off + k * 28) rfl cs _ HRR.out Tryz.underlying46 rfl H28.out ?_; rw [← HCA.out]) | (refine wpList_store_new rfl 46 (.tmp 6) (.tmp 20) rfl _ ca rfl rfl H28'.out HSZ.out HONE.out ?_) | (at_builtin; (refine wpList_append_own _ rfl (.tmp 146) (.tmp 149) 26 rfl w.heap.size 64 i0 _ 2 16 Tryz.underlying26 hi hz0 hz1 hz2 rfl (by decide) _ _ _ rfl HOW.out ⟨wr.heap.size + 1, 0, none⟩ 1 1 [.int .i64 k, .int .i64 8] rfl rfl HCN.out (by intro u hu; simp at hu; rcases hu with rfl | rfl <;> rfl) (by unfold maxLen; omega) (by omega) (by simp; omega) ?_); intro v' w2 hown' hgrow _))
                    have HB2 := Lib.hid (HBW.out.grown hgrow (by simp; omega) (own_lt HOW.out))
                    have HC2 := Lib.hid (HCW.out.kept hgrow (own_apart HCW.out HOW.out (by decide)))
                    obtain ⟨A8, c8, rfl⟩ := shape_of hown'
                    have HO2 := Lib.hid hown'
                    clear hown' hgrow
                    go_wp2
                    go_roundw
                    case rel =>
                      refine ⟨k + 1, by omega, by go_num, ?_, ?_, HB2.out⟩
                      · rw [HQ.out, fltCells_snoc, List.length_append, ← HNF.out]
                        exact HO2.out
                      · rw [HQ.out, ← HN.out]
                        exact HC2.out
                    case measure => simp [intOf]; omega
                · by_cases k6 : x.kind = 6
                  · as_aux_lemma =>
                      have HQ := Lib.hid (show passR L (k + 1) = (rs, F ++ [((k : Int), 8)]) by rw [HP.out, refStep_shut (by omega) HSH.out, show refShut x rs = (8, rs) by simp [refShut, k6]]; rfl)
                      go_wp2_with (first | (with_reducible refine wpList_load_mid rfl 46 (.tmp 19) rfl b (off + k * 28) rfl cs _ HRR.out Tryz.underlying46 rfl H28.out ?_; rw [← HCA.out]) | (refine wpList_store_new rfl 46 (.tmp 6) (.tmp 20) rfl _ ca rfl rfl H28'.out HSZ.out HONE.out ?_))
                      go_quiet (fail)
                      have HOW := Lib.hid (show (((wr.alloc (.cells ca 46)).drewN nq).alloc (.cells #[.int .i64 k, .int .i64 8] 64)).ownsRow w.heap.size 64 2 _ _ _ from ((show ((wr.alloc (.cells ca 46)).drewN nq).ownsRow w.heap.size 64 2 _ _ _ from HO.out.alloc (.cells ca 46)).alloc (.cells #[.int .i64 k, .int .i64 8] 64)))
                      have HCW := Lib.hid (show (((wr.alloc (.cells ca 46)).drewN nq).alloc (.cells #[.int .i64 k, .int .i64 8] 64)).ownsRow w.heap.size 77 3 _ _ _ from ((show ((wr.alloc (.cells ca 46)).drewN nq).ownsRow w.heap.size 77 3 _ _ _ from HC.out.alloc (.cells ca 46)).alloc (.cells #[.int .i64 k, .int .i64 8] 64)))
                      have HBW := Lib.hid ((below_drewN (n := nq) HB1.out).alloc (by simp; omega) (.cells #[.int .i64 k, .int .i64 8] 64))
                      have HCN := Lib.hid (show ∀ (j : Nat) (u : Value), [Value.int .i64 k, Value.int .i64 8][j]? = some u → (((wr.alloc (.cells ca 46)).drewN nq).alloc (.cells #[.int .i64 k, .int .i64 8] 64)).cell? ((⟨wr.heap.size + 1, 0, none⟩ : Addr).add j) = some u from (by
                        have h := cells_new ((wr.alloc (.cells ca 46)).drewN nq) [.int .i64 k, .int .i64 8] 64
                        rw [show ((wr.alloc (.cells ca 46)).drewN nq).heap.size = wr.heap.size + 1 from (by show (wr.alloc _).heap.size = _; simp)] at h
                        exact h))
                      go_wp2_with ((at_builtin; (refine wpList_append_own _ rfl (.tmp 189) (.tmp 192) 26 rfl w.heap.size 64 i0 _ 2 16 Tryz.underlying26 hi hz0 hz1 hz2 rfl (by decide) _ _ _ rfl HOW.out ⟨wr.heap.size + 1, 0, none⟩ 1 1 [.int .i64 k, .int .i64 8] rfl rfl HCN.out (by intro u hu; simp at hu; rcases hu with rfl | rfl <;> rfl) (by unfold maxLen; omega) (by omega) (by simp; omega) ?_); intro v' w2 hown' hgrow _))
                      have HB2 := Lib.hid (HBW.out.grown hgrow (by simp; omega) (own_lt HOW.out))
                      have HC2 := Lib.hid (HCW.out.kept hgrow (own_apart HCW.out HOW.out (by decide)))
                      obtain ⟨A8, c8, rfl⟩ := shape_of hown'
                      have HO2 := Lib.hid hown'
                      clear hown' hgrow
                      go_wp2
                      go_roundw
                      case rel =>
                        refine ⟨k + 1, by omega, by go_num, ?_, ?_, HB2.out⟩
                        · rw [HQ.out, fltCells_snoc, List.length_append, ← HNF.out]
                          exact HO2.out
                        · rw [HQ.out, ← HN.out]
                          exact HC2.out
                      case measure => simp [intOf]; omega
                  · as_aux_lemma =>
                      have HQ := Lib.hid (show passR L (k + 1) = (rs, F) by rw [HP.out, refStep_shut k2 HSH.out, show refShut x rs = (0, rs) by simp [refShut, k3, k4, k5, k6]]; rfl)
                      go_wp2_with (first | (with_reducible refine wpList_load_mid rfl 46 (.tmp 19) rfl b (off + k * 28) rfl cs _ HRR.out Tryz.underlying46 rfl H28.out ?_; rw [← HCA.out]) | (refine wpList_store_new rfl 46 (.tmp 6) (.tmp 20) rfl _ ca rfl rfl H28'.out HSZ.out HONE.out ?_))
                      go_roundw
                      case rel =>
                        refine ⟨k + 1, by omega, by go_num, ?_, ?_, HB1.out⟩
                        · rw [HQ.out, ← HNF.out]
                          exact HO.out.alloc _
                        · rw [HQ.out, ← HN.out]
                          exact HC.out.alloc _
                      case measure => simp [intOf]; omega
      · have HSH := Lib.hid (show isOpen rs x.call = false from isOpen_low (by omega))
        have hne : ¬ x.call = (n : Int) + 1 := by omega
        by_cases k2 : x.kind = 2
        · as_aux_lemma =>
            have HQ := Lib.hid (show passR L (k + 1) = (rs, F ++ [((k : Int), 8)]) by rw [HP.out, show refStep L k x rs = (8, rs) by simp only [refStep, if_pos k2]; rw [if_neg (fun h => hne (by rw [HN.out]; exact h.1))]]; rfl)
            have HOW := Lib.hid ((HO.out.alloc (.cells ca 46)).alloc (.cells #[.int .i64 k, .int .i64 8] 64))
            have HCW := Lib.hid ((HC.out.alloc (.cells ca 46)).alloc (.cells #[.int .i64 k, .int .i64 8] 64))
            have HBW := Lib.hid (HB1.out.alloc (by simp; omega) (.cells #[.int .i64 k, .int .i64 8] 64))
            have HCN := Lib.hid (cells_new (wr.alloc (.cells ca 46)) [.int .i64 k, .int .i64 8] 64)
            simp only [World.size_alloc] at HCN
            go_wp2_with (first | (with_reducible refine wpList_load_mid rfl 46 (.tmp 19) rfl b (off + k * 28) rfl cs _ HRR.out Tryz.underlying46 rfl H28.out ?_; rw [← HCA.out]) | (refine wpList_store_new rfl 46 (.tmp 6) (.tmp 20) rfl _ ca rfl rfl H28'.out HSZ.out HONE.out ?_) | (at_builtin; (refine wpList_append_own _ rfl (.tmp 57) (.tmp 60) 26 rfl w.heap.size 64 i0 _ 2 16 Tryz.underlying26 hi hz0 hz1 hz2 rfl (by decide) _ _ _ rfl HOW.out ⟨wr.heap.size + 1, 0, none⟩ 1 1 [.int .i64 k, .int .i64 8] rfl rfl HCN.out (by intro u hu; simp at hu; rcases hu with rfl | rfl <;> rfl) (by unfold maxLen; omega) (by omega) (by simp; omega) ?_); intro v' w2 hown' hgrow _))
            have HB2 := Lib.hid (HBW.out.grown hgrow (by simp; omega) (own_lt HOW.out))
            have HC2 := Lib.hid (HCW.out.kept hgrow (own_apart HCW.out HOW.out (by decide)))
            obtain ⟨A8, c8, rfl⟩ := shape_of hown'
            have HO2 := Lib.hid hown'
            clear hown' hgrow
            go_wp2
            go_roundw
            case rel =>
              refine ⟨k + 1, by omega, by go_num, ?_, ?_, HB2.out⟩
              · rw [HQ.out, fltCells_snoc, List.length_append, ← HNF.out]
                exact HO2.out
              · rw [HQ.out, ← HN.out]
                exact HC2.out
            case measure => simp [intOf]; omega
        · by_cases k3 : x.kind = 3
          · as_aux_lemma =>
              have HQ := Lib.hid (show passR L (k + 1) = (rs, F ++ [((k : Int), 8)]) by rw [HP.out, refStep_shut (by omega) HSH.out, show refShut x rs = (8, rs) by simp [refShut, k3]]; rfl)
              have HOW := Lib.hid ((HO.out.alloc (.cells ca 46)).alloc (.cells #[.int .i64 k, .int .i64 8] 64))
              have HCW := Lib.hid ((HC.out.alloc (.cells ca 46)).alloc (.cells #[.int .i64 k, .int .i64 8] 64))
              have HBW := Lib.hid (HB1.out.alloc (by simp; omega) (.cells #[.int .i64 k, .int .i64 8] 64))
              have HCN := Lib.hid (cells_new (wr.alloc (.cells ca 46)) [.int .i64 k, .int .i64 8] 64)
              simp only [World.size_alloc] at HCN
              go_wp2_with (first | (with_reducible refine wpList_load_mid rfl 46 (.tmp 19) rfl b (off + k * 28) rfl cs _ HRR.out Tryz.underlying46 rfl H28.out ?_; rw [← HCA.out]) | (refine wpList_store_new rfl 46 (.tmp 6) (.tmp 20) rfl _ ca rfl rfl H28'.out HSZ.out HONE.out ?_) | (at_builtin; (refine wpList_append_own _ rfl (.tmp 105) (.tmp 108) 26 rfl w.heap.size 64 i0 _ 2 16 Tryz.underlying26 hi hz0 hz1 hz2 rfl (by decide) _ _ _ rfl HOW.out ⟨wr.heap.size + 1, 0, none⟩ 1 1 [.int .i64 k, .int .i64 8] rfl rfl HCN.out (by intro u hu; simp at hu; rcases hu with rfl | rfl <;> rfl) (by unfold maxLen; omega) (by omega) (by simp; omega) ?_); intro v' w2 hown' hgrow _))
              have HB2 := Lib.hid (HBW.out.grown hgrow (by simp; omega) (own_lt HOW.out))
              have HC2 := Lib.hid (HCW.out.kept hgrow (own_apart HCW.out HOW.out (by decide)))
              obtain ⟨A8, c8, rfl⟩ := shape_of hown'
              have HO2 := Lib.hid hown'
              clear hown' hgrow
              go_wp2
              go_roundw
              case rel =>
                refine ⟨k + 1, by omega, by go_num, ?_, ?_, HB2.out⟩
                · rw [HQ.out, fltCells_snoc, List.length_append, ← HNF.out]
                  exact HO2.out
                · rw [HQ.out, ← HN.out]
                  exact HC2.out
              case measure => simp [intOf]; omega
          · by_cases k4 : x.kind = 4
            · as_aux_lemma =>
                have HQ := Lib.hid (show passR L (k + 1) = (rs, F ++ [((k : Int), 8)]) by rw [HP.out, refStep_shut (by omega) HSH.out, show refShut x rs = (8, rs) by simp [refShut, k4]]; rfl)
                have HOW := Lib.hid ((HO.out.alloc (.cells ca 46)).alloc (.cells #[.int .i64 k, .int .i64 8] 64))
                have HCW := Lib.hid ((HC.out.alloc (.cells ca 46)).alloc (.cells #[.int .i64 k, .int .i64 8] 64))
                have HBW := Lib.hid (HB1.out.alloc (by simp; omega) (.cells #[.int .i64 k, .int .i64 8] 64))
                have HCN := Lib.hid (cells_new (wr.alloc (.cells ca 46)) [.int .i64 k, .int .i64 8] 64)
                simp only [World.size_alloc] at HCN
                go_wp2_with (first | (with_reducible refine wpList_load_mid rfl 46 (.tmp 19) rfl b (off + k * 28) rfl cs _ HRR.out Tryz.underlying46 rfl H28.out ?_; rw [← HCA.out]) | (refine wpList_store_new rfl 46 (.tmp 6) (.tmp 20) rfl _ ca rfl rfl H28'.out HSZ.out HONE.out ?_) | (at_builtin; (refine wpList_append_own _ rfl (.tmp 146) (.tmp 149) 26 rfl w.heap.size 64 i0 _ 2 16 Tryz.underlying26 hi hz0 hz1 hz2 rfl (by decide) _ _ _ rfl HOW.out ⟨wr.heap.size + 1, 0, none⟩ 1 1 [.int .i64 k, .int .i64 8] rfl rfl HCN.out (by intro u hu; simp at hu; rcases hu with rfl | rfl <;> rfl) (by unfold maxLen; omega) (by omega) (by simp; omega) ?_); intro v' w2 hown' hgrow _))
                have HB2 := Lib.hid (HBW.out.grown hgrow (by simp; omega) (own_lt HOW.out))
                have HC2 := Lib.hid (HCW.out.kept hgrow (own_apart HCW.out HOW.out (by decide)))
                obtain ⟨A8, c8, rfl⟩ := shape_of hown'
                have HO2 := Lib.hid hown'
                clear hown' hgrow
                go_wp2
                go_roundw
                case rel =>
                  refine ⟨k + 1, by omega, by go_num, ?_, ?_, HB2.out⟩
                  · rw [HQ.out, fltCells_snoc, List.length_append, ← HNF.out]
                    exact HO2.out
                  · rw [HQ.out, ← HN.out]
                    exact HC2.out
                case measure => simp [intOf]; omega
            · by_cases k5 : x.kind = 5
              · as_aux_lemma =>
                  have HQ := Lib.hid (show passR L (k + 1) = (rs, F ++ [((k : Int), 8)]) by rw [HP.out, refStep_shut (by omega) HSH.out, show refShut x rs = (8, rs) by simp [refShut, k5]]; rfl)
                  have HOW := Lib.hid ((HO.out.alloc (.cells ca 46)).alloc (.cells #[.int .i64 k, .int .i64 8] 64))
                  have HCW := Lib.hid ((HC.out.alloc (.cells ca 46)).alloc (.cells #[.int .i64 k, .int .i64 8] 64))
                  have HBW := Lib.hid (HB1.out.alloc (by simp; omega) (.cells #[.int .i64 k, .int .i64 8] 64))
                  have HCN := Lib.hid (cells_new (wr.alloc (.cells ca 46)) [.int .i64 k, .int .i64 8] 64)
                  simp only [World.size_alloc] at HCN
                  go_wp2_with (first | (with_reducible refine wpList_load_mid rfl 46 (.tmp 19) rfl b (off + k * 28) rfl cs _ HRR.out Tryz.underlying46 rfl H28.out ?_; rw [← HCA.out]) | (refine wpList_store_new rfl 46 (.tmp 6) (.tmp 20) rfl _ ca rfl rfl H28'.out HSZ.out HONE.out ?_) | (at_builtin; (refine wpList_append_own _ rfl (.tmp 146) (.tmp 149) 26 rfl w.heap.size 64 i0 _ 2 16 Tryz.underlying26 hi hz0 hz1 hz2 rfl (by decide) _ _ _ rfl HOW.out ⟨wr.heap.size + 1, 0, none⟩ 1 1 [.int .i64 k, .int .i64 8] rfl rfl HCN.out (by intro u hu; simp at hu; rcases hu with rfl | rfl <;> rfl) (by unfold maxLen; omega) (by omega) (by simp; omega) ?_); intro v' w2 hown' hgrow _))
                  have HB2 := Lib.hid (HBW.out.grown hgrow (by simp; omega) (own_lt HOW.out))
                  have HC2 := Lib.hid (HCW.out.kept hgrow (own_apart HCW.out HOW.out (by decide)))
                  obtain ⟨A8, c8, rfl⟩ := shape_of hown'
                  have HO2 := Lib.hid hown'
                  clear hown' hgrow
                  go_wp2
                  go_roundw
                  case rel =>
                    refine ⟨k + 1, by omega, by go_num, ?_, ?_, HB2.out⟩
                    · rw [HQ.out, fltCells_snoc, List.length_append, ← HNF.out]
                      exact HO2.out
                    · rw [HQ.out, ← HN.out]
                      exact HC2.out
                  case measure => simp [intOf]; omega
              · by_cases k6 : x.kind = 6
                · as_aux_lemma =>
                    have HQ := Lib.hid (show passR L (k + 1) = (rs, F ++ [((k : Int), 8)]) by rw [HP.out, refStep_shut (by omega) HSH.out, show refShut x rs = (8, rs) by simp [refShut, k6]]; rfl)
                    go_wp2_with (first | (with_reducible refine wpList_load_mid rfl 46 (.tmp 19) rfl b (off + k * 28) rfl cs _ HRR.out Tryz.underlying46 rfl H28.out ?_; rw [← HCA.out]) | (refine wpList_store_new rfl 46 (.tmp 6) (.tmp 20) rfl _ ca rfl rfl H28'.out HSZ.out HONE.out ?_))
                    go_quiet (fail)
                    have HOW := Lib.hid (show (((wr.alloc (.cells ca 46)).drewN nq).alloc (.cells #[.int .i64 k, .int .i64 8] 64)).ownsRow w.heap.size 64 2 _ _ _ from ((show ((wr.alloc (.cells ca 46)).drewN nq).ownsRow w.heap.size 64 2 _ _ _ from HO.out.alloc (.cells ca 46)).alloc (.cells #[.int .i64 k, .int .i64 8] 64)))
                    have HCW := Lib.hid (show (((wr.alloc (.cells ca 46)).drewN nq).alloc (.cells #[.int .i64 k, .int .i64 8] 64)).ownsRow w.heap.size 77 3 _ _ _ from ((show ((wr.alloc (.cells ca 46)).drewN nq).ownsRow w.heap.size 77 3 _ _ _ from HC.out.alloc (.cells ca 46)).alloc (.cells #[.int .i64 k, .int .i64 8] 64)))
                    have HBW := Lib.hid ((below_drewN (n := nq) HB1.out).alloc (by simp; omega) (.cells #[.int .i64 k, .int .i64 8] 64))
                    have HCN := Lib.hid (show ∀ (j : Nat) (u : Value), [Value.int .i64 k, Value.int .i64 8][j]? = some u → (((wr.alloc (.cells ca 46)).drewN nq).alloc (.cells #[.int .i64 k, .int .i64 8] 64)).cell? ((⟨wr.heap.size + 1, 0, none⟩ : Addr).add j) = some u from (by
                      have h := cells_new ((wr.alloc (.cells ca 46)).drewN nq) [.int .i64 k, .int .i64 8] 64
                      rw [show ((wr.alloc (.cells ca 46)).drewN nq).heap.size = wr.heap.size + 1 from (by show (wr.alloc _).heap.size = _; simp)] at h
                      exact h))
                    go_wp2_with ((at_builtin; (refine wpList_append_own _ rfl (.tmp 189) (.tmp 192) 26 rfl w.heap.size 64 i0 _ 2 16 Tryz.underlying26 hi hz0 hz1 hz2 rfl (by decide) _ _ _ rfl HOW.out ⟨wr.heap.size + 1, 0, none⟩ 1 1 [.int .i64 k, .int .i64 8] rfl rfl HCN.out (by intro u hu; simp at hu; rcases hu with rfl | rfl <;> rfl) (by unfold maxLen; omega) (by omega) (by simp; omega) ?_); intro v' w2 hown' hgrow _))
                    have HB2 := Lib.hid (HBW.out.grown hgrow (by simp; omega) (own_lt HOW.out))
                    have HC2 := Lib.hid (HCW.out.kept hgrow (own_apart HCW.out HOW.out (by decide)))
                    obtain ⟨A8, c8, rfl⟩ := shape_of hown'
                    have HO2 := Lib.hid hown'
                    clear hown' hgrow
                    go_wp2
                    go_roundw
                    case rel =>
                      refine ⟨k + 1, by omega, by go_num, ?_, ?_, HB2.out⟩
                      · rw [HQ.out, fltCells_snoc, List.length_append, ← HNF.out]
                        exact HO2.out
                      · rw [HQ.out, ← HN.out]
                        exact HC2.out
                    case measure => simp [intOf]; omega
                · as_aux_lemma =>
                    have HQ := Lib.hid (show passR L (k + 1) = (rs, F) by rw [HP.out, refStep_shut k2 HSH.out, show refShut x rs = (0, rs) by simp [refShut, k3, k4, k5, k6]]; rfl)
                    go_wp2_with (first | (with_reducible refine wpList_load_mid rfl 46 (.tmp 19) rfl b (off + k * 28) rfl cs _ HRR.out Tryz.underlying46 rfl H28.out ?_; rw [← HCA.out]) | (refine wpList_store_new rfl 46 (.tmp 6) (.tmp 20) rfl _ ca rfl rfl H28'.out HSZ.out HONE.out ?_))
                    go_roundw
                    case rel =>
                      refine ⟨k + 1, by omega, by go_num, ?_, ?_, HB1.out⟩
                      · rw [HQ.out, ← HNF.out]
                        exact HO.out.alloc _
                      · rw [HQ.out, ← HN.out]
                        exact HC.out.alloc _
                    case measure => simp [intOf]; omega
    · obtain rfl : k = L.length := by omega
      clear hlt
      obtain ⟨A', c', rfl, hF⟩ := fltIn_of hO
      have H := Lib.hid hF
      obtain ⟨A9, c9, rfl⟩ := shape_of hC
      clear hO hF hC
      go_wp2
      go_ret
      exact ⟨A', c', rfl, H.out, hb⟩
end Go.Proofs.YtjhhdklbiibhdaaGreatDoor

