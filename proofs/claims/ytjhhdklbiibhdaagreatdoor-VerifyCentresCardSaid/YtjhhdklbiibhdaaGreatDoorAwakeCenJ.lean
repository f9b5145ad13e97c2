/-
  What samaritanref53.Agreed answers in this program: for every trace of at most 1000 events.
-/
import Derived.Test.YtjhhdklbiibhdaaGreatDoorAwakeCenM
import Derived.Test.YtjhhdklbiibhdaaGreatDoorAwakeCenE
import Derived.StillTailTactics
import Derived.Deep.Cut
namespace Go.Proofs.YtjhhdklbiibhdaaGreatDoor
open Go Go.RowKit

theorem info93 : (Tryz.prog.info? 93).map (fun i => (i.zero, i.size, i.bytes)) = some (some (.agg #[.int .i64 0, .int .i64 0, .int .i64 0, .int .i64 0]), 4, 32) := by kernel_rfl
theorem info89 : (Tryz.prog.info? 89).map (fun i => (i.zero, i.size, i.bytes)) = some (some (.agg #[.bool false, .int .i64 0]), 2, 16) := by kernel_rfl
theorem made9 : (madeCells (Value.agg #[.bool false, .int .i64 0]).cells (9 * 2)).toList = nexInit 0 := by kernel_rfl
theorem logKind_iffC {k : Int} : logKind k = true ↔ k = 7 ∨ k = 10 ∨ k = 11 ∨ k = 12 ∨ k = 13 := by simp [logKind]
theorem own_someC {W : World} {B T S n c : Nat} {A : Option Addr} {xs : List Value} (h : W.ownsRow B T S (.slice A n c) n xs) (hn : 0 < n) : ∃ g, A = some ⟨g, 0, none⟩ := by
  rcases h.2 with ⟨e, h0⟩ | ⟨g, cap, cur, e, hg, hh, _⟩
  · omega
  · cases e
    exact ⟨g, rfl⟩
theorem ownB_mono {W : World} {B B' T S n : Nat} {v : Value} {xs : List Value} (h : W.ownsRow B T S v n xs) (hB : B' ≤ B) : W.ownsRow B' T S v n xs := by
  refine ⟨h.1, ?_⟩
  rcases h.2 with h0 | ⟨g, cap, cur, hv, hg, rest⟩
  · exact .inl h0
  · exact .inr ⟨g, cap, cur, hv, Nat.le_trans hB hg, rest⟩
theorem last_leC {L : List EvD} {k : Nat} (hk : k ≤ 1000) : ∀ c ∈ (passL L k).1.cen, 0 ≤ c.last ∧ c.last ≤ 1000 := fun c hc => by
  have h1 := passL_behind L k c hc
  have h2 := logOf_le (L.take k)
  have h3 := List.length_take_le k L
  omega
set_option maxHeartbeats 16000000 in
set_option maxRecDepth 100000 in
theorem agreed_any (A : Option Addr) (c : Nat) (L : List EvD) (w : World) (hL : RowIn 5 28 (EvC 5) w A L) (hlen : L.length ≤ 1000) (_hbody : ∀ x ∈ L, x.body.length ≤ 2000) :
    Calls Tryz.prog 16 #[.slice A L.length c] w (FltRet w (passL L L.length).2) := by
  obtain ⟨i0, hi, hz0, hz1, hz2⟩ := info_parts info64
  obtain ⟨i1, hr, hr0, hr1, hr2⟩ := info_parts info93
  obtain ⟨i2, hm, hm0, hm1, hm2⟩ := info_parts info89
  have HL := Lib.hid (evsLow_of hL)
  have CLG := Lib.hid (show ∀ W : World, Below w.heap.size w W → w.heap.size ≤ W.heap.size → Calls Tryz.prog 18 #[.slice A L.length c] W fun e w' => ∃ v, e = .returned v ∧ OwnR 5 36 3 (EnL w.heap.size) w' W.heap.size v (logOf L) ∧ Below W.heap.size W w' from fun W hb hs => log_low w.heap.size A c L W hs ((evsLow_of hL).below hb) hlen)
  have hb0 : Below w.heap.size w (w.alloc (.cells #[] 64)) := (Below.refl _ w).alloc (Nat.le_refl _) _
  have HB0 := Lib.hid hb0
  have H0 := Lib.hid (show (w.alloc (.cells #[] 64)).ownsRow w.heap.size 64 2 (.slice (some ⟨w.heap.size, 0, none⟩) 0 0) 0 [] from World.ownsRow_made w #[] 0 (Nat.le_refl _) (Nat.zero_le _) rfl)
  clear hL hb0
  go_enter Tryz.func16, Tryz.ntmps16
  go_upto_region 3 with (go_at_call 18; go_loud (refine (CLG.out _ HB0.out HB0.out.size).mono ?_); rintro e w1 ⟨vl, rfl, hol, hb1⟩; have HOL := Lib.hid hol; have HB1 := Lib.hid hb1; clear hol hb1)
  obtain ⟨css, hl1, hl2, hl3, hl4⟩ := HOL.out
  obtain ⟨AL, cL, hvl⟩ := shape_of hl1
  subst hvl
  obtain ⟨nE, hnE⟩ : ∃ nE, nE = (logOf L).length := ⟨_, rfl⟩
  rw [← hnE] at hl1 ⊢
  have HNE := Lib.hid hnE
  have HCS3 := Lib.hid hl3
  have HCSS := Lib.hid (show ∀ (m : Nat) (y : EnD), (logOf L)[m]? = some y → ∃ D d, css[m]? = some (enCells y D d) ∧ BytesLow w w.heap.size D y.body from fun m y hy => by
    have hm : m < css.length := by rw [hl2]; exact (List.getElem?_eq_some_iff.1 hy).1
    obtain ⟨_, D, d, e, hby⟩ := hl4 m y _ hy (List.getElem?_eq_getElem hm)
    refine ⟨D, d, by rw [List.getElem?_eq_getElem hm, e], fun hn => ?_⟩
    obtain ⟨b, o, ea, hlt, hc⟩ := hby hn
    exact ⟨b, o, ea, hlt, fun i hi => ((HB0.out.trans (HB1.out.mono HB0.out.size)).cell (p := ⟨b, o + i, none⟩) hlt).symm.trans (hc i hi)⟩)
  have hb2 := HB0.out.trans (HB1.out.mono HB0.out.size)
  have HB2 := Lib.hid hb2
  have HLL := Lib.hid (show w1.ownsRow w.heap.size 36 3 (.slice AL nE cL) nE css.flatten from ownB_mono hl1 (by simp))
  have HO1 := Lib.hid (show w1.ownsRow w.heap.size 64 2 (.slice (some ⟨w.heap.size, 0, none⟩) 0 0) 0 [] from H0.out.kept (row := none) ⟨HB1.out.os, HB1.out.tape, HB1.out.output, HB1.out.size, fun k hk _ => HB1.out.block k hk⟩ (by simp [Value.ownBlock]))
  clear hl1 hl2 hl3 hl4 hnE hb2 HOL H0
  go_wp2_with (at_make; go_loud (refine wpList_make_full w1 rfl _ _ 87 rfl w.heap.size 89 i2 _ 2 Tryz.underlying87 hm hm0 hm1 .i64 .i64 9 9 9 rfl rfl rfl rfl (by rw [hm2]; decide) (by unfold maxLen; omega) HB2.out.size ?_); intro w2 hx2 hg2)
  have HX2 := Lib.hid (show w2.ownsRow w.heap.size 89 2 (.slice (some ⟨w1.heap.size, 0, none⟩) 9 9) 9 (nexInit 0) from (by rw [← made9]; exact hx2))
  have HO2 := Lib.hid (HO1.out.kept hg2 (by simp [Value.ownBlock]))
  have HL2 := Lib.hid (HLL.out.kept hg2 (by cases (Value.slice AL nE cL).ownBlock <;> simp))
  have HB3 := Lib.hid (HB2.out.grown hg2 HB2.out.size (fun k hk => by cases hk))
  generalize hg5 : w1.heap.size = g5 at HX2 ⊢
  clear hx2 hg2 hg5 HO1 HLL
  go_wp2
  go_loopw [6] (fun i wr => ∃ q : Nat, q ≤ 9 ∧ i = .int .i64 q ∧ wr.ownsRow w.heap.size 89 2 (.slice (some ⟨g5, 0, none⟩) 9 9) 9 (nexInit q) ∧ wr.ownsRow w.heap.size 64 2 (.slice (some ⟨w.heap.size, 0, none⟩) 0 0) 0 [] ∧ wr.ownsRow w.heap.size 36 3 (.slice AL nE cL) nE css.flatten ∧ Below w.heap.size w wr) (fun i _ => 9 - (intOf i).toNat)
  case atStart => exact ⟨0, Nat.zero_le _, rfl, HX2.out, HO2.out, HL2.out, HB3.out⟩
  case round =>
    obtain ⟨q, hq, rfl, hx, ho, hl, hb⟩ := hrel
    clear HX2 HO2 HL2 HB3 HB2 HB1 HB0 CLG
    by_cases hlt : q < 9
    · have hqi : (q : Int) < 9 := by omega
      have f1 : ∀ i, wr.frozen? ⟨g5, i, none⟩ = false := fun i => hx.frozenAt i
      obtain ⟨u, c1⟩ : ∃ u, wr.cell? ⟨g5, q * 2 + 1, none⟩ = some u := ⟨_, (hx.cellAt _ (by omega)).trans (List.getElem?_eq_getElem (by rw [hx.1]; omega))⟩
      obtain ⟨hx2, hg2⟩ := hx.stored (q * 2 + 1) (.int .i64 1)
      have HX := Lib.hid hx2
      have HG := Lib.hid hg2
      have HO := Lib.hid (ho.kept hg2 (ownC_apart ho hx (by decide)))
      have HLg := Lib.hid (hl.kept hg2 (ownC_apart hl hx (by decide)))
      have HB := Lib.hid (hb.grown hg2 hb.size (fun k hk => (hx.lt k hk).1))
      clear hx ho hl hb hx2 hg2
      go_wp2
      go_roundw
      case rel => exact ⟨q + 1, by omega, by go_num, by rw [← nexInit_step q hlt]; exact HX.out, HO.out, HLg.out, HB.out⟩
      case measure => simp [intOf]; omega
    · obtain rfl : q = 9 := by omega
      rw [nexInit_end] at hx
      have hI : AgrInv (wr.alloc (.cells #[] 93)) w (.slice (some ⟨w.heap.size, 0, none⟩) 0 0) (passL L 0).2 g5 (passL L 0).1.cen (.slice (some ⟨wr.heap.size, 0, none⟩) 0 0) (passL L 0).1.auth (.slice AL nE cL) nE css :=
        ⟨ho.alloc _, hx.alloc _, World.ownsRow_made wr #[] 0 hb.size (Nat.zero_le _) rfl, hl.alloc _, hb.alloc hb.size _⟩
      have HI := Lib.hid hI
      clear hx ho hl hI hlt hq
      rw [show ((9 : Nat) : Int) = 9 from rfl]
      go_wp2
      obtain ⟨ws, hws⟩ : ∃ ws : World, ws = wr := ⟨_, rfl⟩
      rw [← hws] at HI hb ⊢
      clear hws wr
      go_loopw [3, 7, 8] (fun v u i wr => ∃ k : Nat, k ≤ L.length ∧ i = .int .i64 k ∧ AgrInv wr w v (passL L k).2 g5 (passL L k).1.cen u (passL L k).1.auth (.slice AL nE cL) nE css) (fun _ _ i _ => L.length - (intOf i).toNat)
      case atStart => exact ⟨0, Nat.zero_le _, rfl, HI.out⟩
      case round =>
        obtain ⟨k, hk, rfl, hI⟩ := hrel
        clear HI hb
        by_cases hlt : k < L.length
        · obtain ⟨x, hx⟩ : ∃ x, L[k]? = some x := ⟨_, List.getElem?_eq_getElem hlt⟩
          have hLr := HL.out.below hI.b
          obtain ⟨b, off, C, cap, tl, rfl, hbl, hl, hrr, hone, hby⟩ := hLr k x hx
          have HBY := Lib.hid (show BytesLow w w.heap.size C x.body from fun hn => by
            obtain ⟨b', o, ea, hlt', hc⟩ := hby hn
            exact ⟨b', o, ea, hlt', fun i hi => (hI.b.cell (p := ⟨b', o + i, none⟩) hlt').symm.trans (hc i hi)⟩)
          have q0 : (evCells x C cap tl).toArray[0]? = some (.int .i64 x.kind) := rfl
          have q1 : (evCells x C cap tl).toArray[1]? = some (.int .i64 x.tick) := rfl
          have q2 : (evCells x C cap tl).toArray[2]? = some (.int .i64 x.who) := rfl
          have q4 : (evCells x C cap tl).toArray[4]? = some (.int .i64 x.epoch) := rfl
          have q5 : (evCells x C cap tl).toArray[5]? = some (.int .i64 x.n) := rfl
          have q6 : (evCells x C cap tl).toArray[6]? = some (.int .i64 x.term) := rfl
          have q7 : (evCells x C cap tl).toArray[7]? = some (.int .i64 x.ek) := rfl
          have q8 : (evCells x C cap tl).toArray[8]? = some (.slice C x.body.length cap) := rfl
          obtain ⟨cs, hcs⟩ : ∃ cs, cs = evCells x C cap tl := ⟨_, rfl⟩
          rw [← hcs] at hl hrr hone q0 q1 q2 q4 q5 q6 q7 q8
          have HRR := Lib.hid hrr
          have H28 := Lib.hid (show (Tryz.prog.info? 46).map (·.size) = some cs.length by rw [hl]; exact size46)
          have H28' := Lib.hid (show (Tryz.prog.info? 46).map (·.size) = some cs.toArray.size by rw [List.size_toArray, hl]; exact size46)
          have HSZ := Lib.hid (show (28 : Nat) = cs.toArray.size by rw [List.size_toArray, hl])
          have HONE := Lib.hid (show cs.toArray.all (·.oneCell') = true from all_oneCell_toArray hone)
          have hlens := passL_len L k
          have HBH := Lib.hid (last_leC (L := L) (k := k) (by omega))
          have HIDX := Lib.hid (fun (c : CenS) (hc : cenAt (passL L k).1.cen x.who = some c) (hk7 : x.kind = 7) (hn : x.n = c.last + 1) => index_in hx hc hk7 hn)
          have HP := Lib.hid (passL_succ hx)
          obtain ⟨s, hs⟩ : ∃ s, s = (passL L k).1 := ⟨_, rfl⟩
          obtain ⟨F, hF⟩ : ∃ F, F = (passL L k).2 := ⟨_, rfl⟩
          rw [← hs, ← hF] at hlens HP hI
          rw [← hs] at HBH HIDX
          obtain ⟨ca, hca⟩ : ∃ ca, ca = cs.toArray := ⟨_, rfl⟩
          rw [← hca] at H28' HSZ HONE q0 q1 q2 q4 q5 q6 q7 q8
          have HCA := Lib.hid hca
          obtain ⟨A7, c7, hv⟩ := shape_of hI.o
          obtain ⟨A9, c9, hu⟩ := shape_of hI.d
          subst hv hu
          obtain ⟨nF, hnF⟩ : ∃ nF, nF = F.length := ⟨_, rfl⟩
          obtain ⟨n, hn⟩ : ∃ n, n = s.auth.length := ⟨_, rfl⟩
          rw [← hnF] at hlens hI ⊢
          rw [← hn] at hlens hI ⊢
          have HI0 := Lib.hid hI
          have HI1 := Lib.hid (hI.alloc (.cells ca 46))
          have HN := Lib.hid hn
          have HNF := Lib.hid hnF
          have H9 := Lib.hid hlens.1
          have hsz := hI.size
          clear hLr hrr hl hone hI hs hF hca hx hn hnF hcs hby
          cases hk : logKind x.kind with
          | false =>
            as_aux_lemma =>
              have HQ := Lib.hid (show passL L (k + 1) = (s, F) by rw [HP.out, jl_pass hk]; rfl)
              have k7 : ¬ x.kind = 7 := fun h => by simp [logKind, h] at hk
              have e7 : (x.kind != 7) = true := by simpa using k7
              have k10 : ¬ x.kind = 10 := fun h => by simp [logKind, h] at hk
              have e10 : (x.kind != 10) = true := by simpa using k10
              have k11 : ¬ x.kind = 11 := fun h => by simp [logKind, h] at hk
              have e11 : (x.kind != 11) = true := by simpa using k11
              have k12 : ¬ x.kind = 12 := fun h => by simp [logKind, h] at hk
              have e12 : (x.kind != 12) = true := by simpa using k12
              have k13 : ¬ x.kind = 13 := fun h => by simp [logKind, h] at hk
              have e13 : (x.kind != 13) = true := by simpa using k13
              clear hk
              go_wp2_with (first | (with_reducible refine wpList_load_mid rfl 46 (.tmp 34) rfl b (off + k * 28) rfl cs _ HRR.out Tryz.underlying46 rfl H28.out ?_; rw [← HCA.out]) | (refine wpList_store_new rfl 46 (.tmp 9) (.tmp 35) rfl _ ca rfl rfl H28'.out HSZ.out HONE.out ?_))
              go_roundw
              case rel =>
                refine ⟨k + 1, by omega, by go_num, ?_⟩
                rw [HQ.out]
                exact HI1.out
              case measure => simp [intOf]; omega
          | true =>
            by_cases hw : x.who < 0
            · rcases logKind_iffC.1 hk with kk | kk | kk | kk | kk
              · rw [kk] at q0
                as_aux_lemma =>
                  have HQ := Lib.hid (show passL L (k + 1) = (s, F ++ [((k : Int), 8)]) by rw [HP.out, jl_none hk (show cenAt s.cen x.who = none by unfold cenAt; rw [if_neg (by omega)])]; rfl)
                  clear hk kk
                  go_wp2_with (first | (with_reducible refine wpList_load_mid rfl 46 (.tmp 34) rfl b (off + k * 28) rfl cs _ HRR.out Tryz.underlying46 rfl H28.out ?_; rw [← HCA.out]) | (refine wpList_store_new rfl 46 (.tmp 9) (.tmp 35) rfl _ ca rfl rfl H28'.out HSZ.out HONE.out ?_))
                  go_quiet (fail)
                  obtain ⟨Wc, hWc⟩ : ∃ Wc, Wc = (wr.alloc (.cells ca 46)).drewN nq := ⟨_, rfl⟩
                  rw [← hWc]
                  have HIc := Lib.hid (show AgrInv Wc w _ _ _ _ _ _ _ _ _ from hWc ▸ HI1.out.drewN nq)
                  clear hWc
                  have HIW := Lib.hid (HIc.out.alloc (.cells #[.int .i64 k, .int .i64 8] 64))
                  have how := HIW.out.o
                  rw [← HNF.out] at how
                  have HOW := Lib.hid how
                  clear how
                  have HCN := Lib.hid (cells_new Wc [.int .i64 k, .int .i64 8] 64)
                  have hsW : w.heap.size ≤ (Wc.alloc (.cells #[.int .i64 k, .int .i64 8] 64)).heap.size := HIW.out.size
                  go_wp2_with ((at_builtin; (refine wpList_append_own _ rfl (.tmp 79) (.tmp 82) 26 rfl w.heap.size 64 i0 _ 2 16 Tryz.underlying26 hi hz0 hz1 hz2 rfl (by decide) _ _ _ rfl HOW.out ⟨Wc.heap.size, 0, none⟩ 1 1 [.int .i64 k, .int .i64 8] rfl rfl HCN.out (by intro u hu; simp at hu; rcases hu with rfl | rfl <;> rfl) (by unfold maxLen; omega) (by omega) hsW ?_); intro v' w2 hown' hgrow _))
                  have HI2 := Lib.hid (HIW.out.out (F' := F ++ [((k : Int), 8)]) hgrow (by rw [fltCells_snoc, List.length_append, ← HNF.out]; exact hown'))
                  obtain ⟨A8, c8, rfl⟩ := shape_of hown'
                  clear hown' hgrow
                  go_wp2
                  go_roundw
                  case rel =>
                    refine ⟨k + 1, by omega, by go_num, ?_⟩
                    rw [HQ.out]
                    exact HI2.out
                  case measure => simp [intOf]; omega
              · rw [kk] at q0
                as_aux_lemma =>
                  have HQ := Lib.hid (show passL L (k + 1) = (s, F ++ [((k : Int), 8)]) by rw [HP.out, jl_none hk (show cenAt s.cen x.who = none by unfold cenAt; rw [if_neg (by omega)])]; rfl)
                  clear hk kk
                  go_wp2_with (first | (with_reducible refine wpList_load_mid rfl 46 (.tmp 34) rfl b (off + k * 28) rfl cs _ HRR.out Tryz.underlying46 rfl H28.out ?_; rw [← HCA.out]) | (refine wpList_store_new rfl 46 (.tmp 9) (.tmp 35) rfl _ ca rfl rfl H28'.out HSZ.out HONE.out ?_))
                  go_quiet (fail)
                  obtain ⟨Wc, hWc⟩ : ∃ Wc, Wc = (wr.alloc (.cells ca 46)).drewN nq := ⟨_, rfl⟩
                  rw [← hWc]
                  have HIc := Lib.hid (show AgrInv Wc w _ _ _ _ _ _ _ _ _ from hWc ▸ HI1.out.drewN nq)
                  clear hWc
                  have HIW := Lib.hid (HIc.out.alloc (.cells #[.int .i64 k, .int .i64 8] 64))
                  have how := HIW.out.o
                  rw [← HNF.out] at how
                  have HOW := Lib.hid how
                  clear how
                  have HCN := Lib.hid (cells_new Wc [.int .i64 k, .int .i64 8] 64)
                  have hsW : w.heap.size ≤ (Wc.alloc (.cells #[.int .i64 k, .int .i64 8] 64)).heap.size := HIW.out.size
                  go_wp2_with ((at_builtin; (refine wpList_append_own _ rfl (.tmp 79) (.tmp 82) 26 rfl w.heap.size 64 i0 _ 2 16 Tryz.underlying26 hi hz0 hz1 hz2 rfl (by decide) _ _ _ rfl HOW.out ⟨Wc.heap.size, 0, none⟩ 1 1 [.int .i64 k, .int .i64 8] rfl rfl HCN.out (by intro u hu; simp at hu; rcases hu with rfl | rfl <;> rfl) (by unfold maxLen; omega) (by omega) hsW ?_); intro v' w2 hown' hgrow _))
                  have HI2 := Lib.hid (HIW.out.out (F' := F ++ [((k : Int), 8)]) hgrow (by rw [fltCells_snoc, List.length_append, ← HNF.out]; exact hown'))
                  obtain ⟨A8, c8, rfl⟩ := shape_of hown'
                  clear hown' hgrow
                  go_wp2
                  go_roundw
                  case rel =>
                    refine ⟨k + 1, by omega, by go_num, ?_⟩
                    rw [HQ.out]
                    exact HI2.out
                  case measure => simp [intOf]; omega
              · rw [kk] at q0
                as_aux_lemma =>
                  have HQ := Lib.hid (show passL L (k + 1) = (s, F ++ [((k : Int), 8)]) by rw [HP.out, jl_none hk (show cenAt s.cen x.who = none by unfold cenAt; rw [if_neg (by omega)])]; rfl)
                  clear hk kk
                  go_wp2_with (first | (with_reducible refine wpList_load_mid rfl 46 (.tmp 34) rfl b (off + k * 28) rfl cs _ HRR.out Tryz.underlying46 rfl H28.out ?_; rw [← HCA.out]) | (refine wpList_store_new rfl 46 (.tmp 9) (.tmp 35) rfl _ ca rfl rfl H28'.out HSZ.out HONE.out ?_))
                  go_quiet (fail)
                  obtain ⟨Wc, hWc⟩ : ∃ Wc, Wc = (wr.alloc (.cells ca 46)).drewN nq := ⟨_, rfl⟩
                  rw [← hWc]
                  have HIc := Lib.hid (show AgrInv Wc w _ _ _ _ _ _ _ _ _ from hWc ▸ HI1.out.drewN nq)
                  clear hWc
                  have HIW := Lib.hid (HIc.out.alloc (.cells #[.int .i64 k, .int .i64 8] 64))
                  have how := HIW.out.o
                  rw [← HNF.out] at how
                  have HOW := Lib.hid how
                  clear how
                  have HCN := Lib.hid (cells_new Wc [.int .i64 k, .int .i64 8] 64)
                  have hsW : w.heap.size ≤ (Wc.alloc (.cells #[.int .i64 k, .int .i64 8] 64)).heap.size := HIW.out.size
                  go_wp2_with ((at_builtin; (refine wpList_append_own _ rfl (.tmp 79) (.tmp 82) 26 rfl w.heap.size 64 i0 _ 2 16 Tryz.underlying26 hi hz0 hz1 hz2 rfl (by decide) _ _ _ rfl HOW.out ⟨Wc.heap.size, 0, none⟩ 1 1 [.int .i64 k, .int .i64 8] rfl rfl HCN.out (by intro u hu; simp at hu; rcases hu with rfl | rfl <;> rfl) (by unfold maxLen; omega) (by omega) hsW ?_); intro v' w2 hown' hgrow _))
                  have HI2 := Lib.hid (HIW.out.out (F' := F ++ [((k : Int), 8)]) hgrow (by rw [fltCells_snoc, List.length_append, ← HNF.out]; exact hown'))
                  obtain ⟨A8, c8, rfl⟩ := shape_of hown'
                  clear hown' hgrow
                  go_wp2
                  go_roundw
                  case rel =>
                    refine ⟨k + 1, by omega, by go_num, ?_⟩
                    rw [HQ.out]
                    exact HI2.out
                  case measure => simp [intOf]; omega
              · rw [kk] at q0
                as_aux_lemma =>
                  have HQ := Lib.hid (show passL L (k + 1) = (s, F ++ [((k : Int), 8)]) by rw [HP.out, jl_none hk (show cenAt s.cen x.who = none by unfold cenAt; rw [if_neg (by omega)])]; rfl)
                  clear hk kk
                  go_wp2_with (first | (with_reducible refine wpList_load_mid rfl 46 (.tmp 34) rfl b (off + k * 28) rfl cs _ HRR.out Tryz.underlying46 rfl H28.out ?_; rw [← HCA.out]) | (refine wpList_store_new rfl 46 (.tmp 9) (.tmp 35) rfl _ ca rfl rfl H28'.out HSZ.out HONE.out ?_))
                  go_quiet (fail)
                  obtain ⟨Wc, hWc⟩ : ∃ Wc, Wc = (wr.alloc (.cells ca 46)).drewN nq := ⟨_, rfl⟩
                  rw [← hWc]
                  have HIc := Lib.hid (show AgrInv Wc w _ _ _ _ _ _ _ _ _ from hWc ▸ HI1.out.drewN nq)
                  clear hWc
                  have HIW := Lib.hid (HIc.out.alloc (.cells #[.int .i64 k, .int .i64 8] 64))
                  have how := HIW.out.o
                  rw [← HNF.out] at how
                  have HOW := Lib.hid how
                  clear how
                  have HCN := Lib.hid (cells_new Wc [.int .i64 k, .int .i64 8] 64)
                  have hsW : w.heap.size ≤ (Wc.alloc (.cells #[.int .i64 k, .int .i64 8] 64)).heap.size := HIW.out.size
                  go_wp2_with ((at_builtin; (refine wpList_append_own _ rfl (.tmp 79) (.tmp 82) 26 rfl w.heap.size 64 i0 _ 2 16 Tryz.underlying26 hi hz0 hz1 hz2 rfl (by decide) _ _ _ rfl HOW.out ⟨Wc.heap.size, 0, none⟩ 1 1 [.int .i64 k, .int .i64 8] rfl rfl HCN.out (by intro u hu; simp at hu; rcases hu with rfl | rfl <;> rfl) (by unfold maxLen; omega) (by omega) hsW ?_); intro v' w2 hown' hgrow _))
                  have HI2 := Lib.hid (HIW.out.out (F' := F ++ [((k : Int), 8)]) hgrow (by rw [fltCells_snoc, List.length_append, ← HNF.out]; exact hown'))
                  obtain ⟨A8, c8, rfl⟩ := shape_of hown'
                  clear hown' hgrow
                  go_wp2
                  go_roundw
                  case rel =>
                    refine ⟨k + 1, by omega, by go_num, ?_⟩
                    rw [HQ.out]
                    exact HI2.out
                  case measure => simp [intOf]; omega
              · rw [kk] at q0
                as_aux_lemma =>
                  have HQ := Lib.hid (show passL L (k + 1) = (s, F ++ [((k : Int), 8)]) by rw [HP.out, jl_none hk (show cenAt s.cen x.who = none by unfold cenAt; rw [if_neg (by omega)])]; rfl)
                  clear hk kk
                  go_wp2_with (first | (with_reducible refine wpList_load_mid rfl 46 (.tmp 34) rfl b (off + k * 28) rfl cs _ HRR.out Tryz.underlying46 rfl H28.out ?_; rw [← HCA.out]) | (refine wpList_store_new rfl 46 (.tmp 9) (.tmp 35) rfl _ ca rfl rfl H28'.out HSZ.out HONE.out ?_))
                  go_quiet (fail)
                  obtain ⟨Wc, hWc⟩ : ∃ Wc, Wc = (wr.alloc (.cells ca 46)).drewN nq := ⟨_, rfl⟩
                  rw [← hWc]
                  have HIc := Lib.hid (show AgrInv Wc w _ _ _ _ _ _ _ _ _ from hWc ▸ HI1.out.drewN nq)
                  clear hWc
                  have HIW := Lib.hid (HIc.out.alloc (.cells #[.int .i64 k, .int .i64 8] 64))
                  have how := HIW.out.o
                  rw [← HNF.out] at how
                  have HOW := Lib.hid how
                  clear how
                  have HCN := Lib.hid (cells_new Wc [.int .i64 k, .int .i64 8] 64)
                  have hsW : w.heap.size ≤ (Wc.alloc (.cells #[.int .i64 k, .int .i64 8] 64)).heap.size := HIW.out.size
                  go_wp2_with ((at_builtin; (refine wpList_append_own _ rfl (.tmp 79) (.tmp 82) 26 rfl w.heap.size 64 i0 _ 2 16 Tryz.underlying26 hi hz0 hz1 hz2 rfl (by decide) _ _ _ rfl HOW.out ⟨Wc.heap.size, 0, none⟩ 1 1 [.int .i64 k, .int .i64 8] rfl rfl HCN.out (by intro u hu; simp at hu; rcases hu with rfl | rfl <;> rfl) (by unfold maxLen; omega) (by omega) hsW ?_); intro v' w2 hown' hgrow _))
                  have HI2 := Lib.hid (HIW.out.out (F' := F ++ [((k : Int), 8)]) hgrow (by rw [fltCells_snoc, List.length_append, ← HNF.out]; exact hown'))
                  obtain ⟨A8, c8, rfl⟩ := shape_of hown'
                  clear hown' hgrow
                  go_wp2
                  go_roundw
                  case rel =>
                    refine ⟨k + 1, by omega, by go_num, ?_⟩
                    rw [HQ.out]
                    exact HI2.out
                  case measure => simp [intOf]; omega
            · by_cases hw9 : 8 < x.who
              · rcases logKind_iffC.1 hk with kk | kk | kk | kk | kk
                · rw [kk] at q0
                  as_aux_lemma =>
                    have hw0 : decide (x.who < 0) = false := decide_eq_false (by omega)
                    have HQ := Lib.hid (show passL L (k + 1) = (s, F ++ [((k : Int), 8)]) by rw [HP.out, jl_none hk (show cenAt s.cen x.who = none by unfold cenAt; rw [if_pos (by omega), List.getElem?_eq_none (by have := H9.out; omega)])]; rfl)
                    clear hk kk
                    go_wp2_with (first | (with_reducible refine wpList_load_mid rfl 46 (.tmp 34) rfl b (off + k * 28) rfl cs _ HRR.out Tryz.underlying46 rfl H28.out ?_; rw [← HCA.out]) | (refine wpList_store_new rfl 46 (.tmp 9) (.tmp 35) rfl _ ca rfl rfl H28'.out HSZ.out HONE.out ?_))
                    go_quiet (fail)
                    obtain ⟨Wc, hWc⟩ : ∃ Wc, Wc = (wr.alloc (.cells ca 46)).drewN nq := ⟨_, rfl⟩
                    rw [← hWc]
                    have HIc := Lib.hid (show AgrInv Wc w _ _ _ _ _ _ _ _ _ from hWc ▸ HI1.out.drewN nq)
                    clear hWc
                    have HIW := Lib.hid (HIc.out.alloc (.cells #[.int .i64 k, .int .i64 8] 64))
                    have how := HIW.out.o
                    rw [← HNF.out] at how
                    have HOW := Lib.hid how
                    clear how
                    have HCN := Lib.hid (cells_new Wc [.int .i64 k, .int .i64 8] 64)
                    have hsW : w.heap.size ≤ (Wc.alloc (.cells #[.int .i64 k, .int .i64 8] 64)).heap.size := HIW.out.size
                    go_wp2_with ((at_builtin; (refine wpList_append_own _ rfl (.tmp 79) (.tmp 82) 26 rfl w.heap.size 64 i0 _ 2 16 Tryz.underlying26 hi hz0 hz1 hz2 rfl (by decide) _ _ _ rfl HOW.out ⟨Wc.heap.size, 0, none⟩ 1 1 [.int .i64 k, .int .i64 8] rfl rfl HCN.out (by intro u hu; simp at hu; rcases hu with rfl | rfl <;> rfl) (by unfold maxLen; omega) (by omega) hsW ?_); intro v' w2 hown' hgrow _))
                    have HI2 := Lib.hid (HIW.out.out (F' := F ++ [((k : Int), 8)]) hgrow (by rw [fltCells_snoc, List.length_append, ← HNF.out]; exact hown'))
                    obtain ⟨A8, c8, rfl⟩ := shape_of hown'
                    clear hown' hgrow
                    go_wp2
                    go_roundw
                    case rel =>
                      refine ⟨k + 1, by omega, by go_num, ?_⟩
                      rw [HQ.out]
                      exact HI2.out
                    case measure => simp [intOf]; omega
                · rw [kk] at q0
                  as_aux_lemma =>
                    have hw0 : decide (x.who < 0) = false := decide_eq_false (by omega)
                    have HQ := Lib.hid (show passL L (k + 1) = (s, F ++ [((k : Int), 8)]) by rw [HP.out, jl_none hk (show cenAt s.cen x.who = none by unfold cenAt; rw [if_pos (by omega), List.getElem?_eq_none (by have := H9.out; omega)])]; rfl)
                    clear hk kk
                    go_wp2_with (first | (with_reducible refine wpList_load_mid rfl 46 (.tmp 34) rfl b (off + k * 28) rfl cs _ HRR.out Tryz.underlying46 rfl H28.out ?_; rw [← HCA.out]) | (refine wpList_store_new rfl 46 (.tmp 9) (.tmp 35) rfl _ ca rfl rfl H28'.out HSZ.out HONE.out ?_))
                    go_quiet (fail)
                    obtain ⟨Wc, hWc⟩ : ∃ Wc, Wc = (wr.alloc (.cells ca 46)).drewN nq := ⟨_, rfl⟩
                    rw [← hWc]
                    have HIc := Lib.hid (show AgrInv Wc w _ _ _ _ _ _ _ _ _ from hWc ▸ HI1.out.drewN nq)
                    clear hWc
                    have HIW := Lib.hid (HIc.out.alloc (.cells #[.int .i64 k, .int .i64 8] 64))
                    have how := HIW.out.o
                    rw [← HNF.out] at how
                    have HOW := Lib.hid how
                    clear how
                    have HCN := Lib.hid (cells_new Wc [.int .i64 k, .int .i64 8] 64)
                    have hsW : w.heap.size ≤ (Wc.alloc (.cells #[.int .i64 k, .int .i64 8] 64)).heap.size := HIW.out.size
                    go_wp2_with ((at_builtin; (refine wpList_append_own _ rfl (.tmp 79) (.tmp 82) 26 rfl w.heap.size 64 i0 _ 2 16 Tryz.underlying26 hi hz0 hz1 hz2 rfl (by decide) _ _ _ rfl HOW.out ⟨Wc.heap.size, 0, none⟩ 1 1 [.int .i64 k, .int .i64 8] rfl rfl HCN.out (by intro u hu; simp at hu; rcases hu with rfl | rfl <;> rfl) (by unfold maxLen; omega) (by omega) hsW ?_); intro v' w2 hown' hgrow _))
                    have HI2 := Lib.hid (HIW.out.out (F' := F ++ [((k : Int), 8)]) hgrow (by rw [fltCells_snoc, List.length_append, ← HNF.out]; exact hown'))
                    obtain ⟨A8, c8, rfl⟩ := shape_of hown'
                    clear hown' hgrow
                    go_wp2
                    go_roundw
                    case rel =>
                      refine ⟨k + 1, by omega, by go_num, ?_⟩
                      rw [HQ.out]
                      exact HI2.out
                    case measure => simp [intOf]; omega
                · rw [kk] at q0
                  as_aux_lemma =>
                    have hw0 : decide (x.who < 0) = false := decide_eq_false (by omega)
                    have HQ := Lib.hid (show passL L (k + 1) = (s, F ++ [((k : Int), 8)]) by rw [HP.out, jl_none hk (show cenAt s.cen x.who = none by unfold cenAt; rw [if_pos (by omega), List.getElem?_eq_none (by have := H9.out; omega)])]; rfl)
                    clear hk kk
                    go_wp2_with (first | (with_reducible refine wpList_load_mid rfl 46 (.tmp 34) rfl b (off + k * 28) rfl cs _ HRR.out Tryz.underlying46 rfl H28.out ?_; rw [← HCA.out]) | (refine wpList_store_new rfl 46 (.tmp 9) (.tmp 35) rfl _ ca rfl rfl H28'.out HSZ.out HONE.out ?_))
                    go_quiet (fail)
                    obtain ⟨Wc, hWc⟩ : ∃ Wc, Wc = (wr.alloc (.cells ca 46)).drewN nq := ⟨_, rfl⟩
                    rw [← hWc]
                    have HIc := Lib.hid (show AgrInv Wc w _ _ _ _ _ _ _ _ _ from hWc ▸ HI1.out.drewN nq)
                    clear hWc
                    have HIW := Lib.hid (HIc.out.alloc (.cells #[.int .i64 k, .int .i64 8] 64))
                    have how := HIW.out.o
                    rw [← HNF.out] at how
                    have HOW := Lib.hid how
                    clear how
                    have HCN := Lib.hid (cells_new Wc [.int .i64 k, .int .i64 8] 64)
                    have hsW : w.heap.size ≤ (Wc.alloc (.cells #[.int .i64 k, .int .i64 8] 64)).heap.size := HIW.out.size
                    go_wp2_with ((at_builtin; (refine wpList_append_own _ rfl (.tmp 79) (.tmp 82) 26 rfl w.heap.size 64 i0 _ 2 16 Tryz.underlying26 hi hz0 hz1 hz2 rfl (by decide) _ _ _ rfl HOW.out ⟨Wc.heap.size, 0, none⟩ 1 1 [.int .i64 k, .int .i64 8] rfl rfl HCN.out (by intro u hu; simp at hu; rcases hu with rfl | rfl <;> rfl) (by unfold maxLen; omega) (by omega) hsW ?_); intro v' w2 hown' hgrow _))
                    have HI2 := Lib.hid (HIW.out.out (F' := F ++ [((k : Int), 8)]) hgrow (by rw [fltCells_snoc, List.length_append, ← HNF.out]; exact hown'))
                    obtain ⟨A8, c8, rfl⟩ := shape_of hown'
                    clear hown' hgrow
                    go_wp2
                    go_roundw
                    case rel =>
                      refine ⟨k + 1, by omega, by go_num, ?_⟩
                      rw [HQ.out]
                      exact HI2.out
                    case measure => simp [intOf]; omega
                · rw [kk] at q0
                  as_aux_lemma =>
                    have hw0 : decide (x.who < 0) = false := decide_eq_false (by omega)
                    have HQ := Lib.hid (show passL L (k + 1) = (s, F ++ [((k : Int), 8)]) by rw [HP.out, jl_none hk (show cenAt s.cen x.who = none by unfold cenAt; rw [if_pos (by omega), List.getElem?_eq_none (by have := H9.out; omega)])]; rfl)
                    clear hk kk
                    go_wp2_with (first | (with_reducible refine wpList_load_mid rfl 46 (.tmp 34) rfl b (off + k * 28) rfl cs _ HRR.out Tryz.underlying46 rfl H28.out ?_; rw [← HCA.out]) | (refine wpList_store_new rfl 46 (.tmp 9) (.tmp 35) rfl _ ca rfl rfl H28'.out HSZ.out HONE.out ?_))
                    go_quiet (fail)
                    obtain ⟨Wc, hWc⟩ : ∃ Wc, Wc = (wr.alloc (.cells ca 46)).drewN nq := ⟨_, rfl⟩
                    rw [← hWc]
                    have HIc := Lib.hid (show AgrInv Wc w _ _ _ _ _ _ _ _ _ from hWc ▸ HI1.out.drewN nq)
                    clear hWc
                    have HIW := Lib.hid (HIc.out.alloc (.cells #[.int .i64 k, .int .i64 8] 64))
                    have how := HIW.out.o
                    rw [← HNF.out] at how
                    have HOW := Lib.hid how
                    clear how
                    have HCN := Lib.hid (cells_new Wc [.int .i64 k, .int .i64 8] 64)
                    have hsW : w.heap.size ≤ (Wc.alloc (.cells #[.int .i64 k, .int .i64 8] 64)).heap.size := HIW.out.size
                    go_wp2_with ((at_builtin; (refine wpList_append_own _ rfl (.tmp 79) (.tmp 82) 26 rfl w.heap.size 64 i0 _ 2 16 Tryz.underlying26 hi hz0 hz1 hz2 rfl (by decide) _ _ _ rfl HOW.out ⟨Wc.heap.size, 0, none⟩ 1 1 [.int .i64 k, .int .i64 8] rfl rfl HCN.out (by intro u hu; simp at hu; rcases hu with rfl | rfl <;> rfl) (by unfold maxLen; omega) (by omega) hsW ?_); intro v' w2 hown' hgrow _))
                    have HI2 := Lib.hid (HIW.out.out (F' := F ++ [((k : Int), 8)]) hgrow (by rw [fltCells_snoc, List.length_append, ← HNF.out]; exact hown'))
                    obtain ⟨A8, c8, rfl⟩ := shape_of hown'
                    clear hown' hgrow
                    go_wp2
                    go_roundw
                    case rel =>
                      refine ⟨k + 1, by omega, by go_num, ?_⟩
                      rw [HQ.out]
                      exact HI2.out
                    case measure => simp [intOf]; omega
                · rw [kk] at q0
                  as_aux_lemma =>
                    have hw0 : decide (x.who < 0) = false := decide_eq_false (by omega)
                    have HQ := Lib.hid (show passL L (k + 1) = (s, F ++ [((k : Int), 8)]) by rw [HP.out, jl_none hk (show cenAt s.cen x.who = none by unfold cenAt; rw [if_pos (by omega), List.getElem?_eq_none (by have := H9.out; omega)])]; rfl)
                    clear hk kk
                    go_wp2_with (first | (with_reducible refine wpList_load_mid rfl 46 (.tmp 34) rfl b (off + k * 28) rfl cs _ HRR.out Tryz.underlying46 rfl H28.out ?_; rw [← HCA.out]) | (refine wpList_store_new rfl 46 (.tmp 9) (.tmp 35) rfl _ ca rfl rfl H28'.out HSZ.out HONE.out ?_))
                    go_quiet (fail)
                    obtain ⟨Wc, hWc⟩ : ∃ Wc, Wc = (wr.alloc (.cells ca 46)).drewN nq := ⟨_, rfl⟩
                    rw [← hWc]
                    have HIc := Lib.hid (show AgrInv Wc w _ _ _ _ _ _ _ _ _ from hWc ▸ HI1.out.drewN nq)
                    clear hWc
                    have HIW := Lib.hid (HIc.out.alloc (.cells #[.int .i64 k, .int .i64 8] 64))
                    have how := HIW.out.o
                    rw [← HNF.out] at how
                    have HOW := Lib.hid how
                    clear how
                    have HCN := Lib.hid (cells_new Wc [.int .i64 k, .int .i64 8] 64)
                    have hsW : w.heap.size ≤ (Wc.alloc (.cells #[.int .i64 k, .int .i64 8] 64)).heap.size := HIW.out.size
                    go_wp2_with ((at_builtin; (refine wpList_append_own _ rfl (.tmp 79) (.tmp 82) 26 rfl w.heap.size 64 i0 _ 2 16 Tryz.underlying26 hi hz0 hz1 hz2 rfl (by decide) _ _ _ rfl HOW.out ⟨Wc.heap.size, 0, none⟩ 1 1 [.int .i64 k, .int .i64 8] rfl rfl HCN.out (by intro u hu; simp at hu; rcases hu with rfl | rfl <;> rfl) (by unfold maxLen; omega) (by omega) hsW ?_); intro v' w2 hown' hgrow _))
                    have HI2 := Lib.hid (HIW.out.out (F' := F ++ [((k : Int), 8)]) hgrow (by rw [fltCells_snoc, List.length_append, ← HNF.out]; exact hown'))
                    obtain ⟨A8, c8, rfl⟩ := shape_of hown'
                    clear hown' hgrow
                    go_wp2
                    go_roundw
                    case rel =>
                      refine ⟨k + 1, by omega, by go_num, ?_⟩
                      rw [HQ.out]
                      exact HI2.out
                    case measure => simp [intOf]; omega
              · obtain ⟨j, hj⟩ : ∃ j : Nat, x.who = (j : Int) := ⟨x.who.toNat, by omega⟩
                have hj9 : j < 9 := by omega
                obtain ⟨c, hc⟩ : ∃ c, s.cen[j]? = some c := ⟨_, List.getElem?_eq_getElem (by rw [H9.out]; exact hj9)⟩
                clear hw hw9
                have HAT := Lib.hid (show cenAt s.cen x.who = some c by unfold cenAt; rw [if_pos (by omega), show x.who.toNat = j by omega]; exact hc)
                have HJ := Lib.hid (show x.who.toNat = j by omega)
                have HCJ := Lib.hid hc
                obtain ⟨a0, a1⟩ := nexCells_at s.cen j c hc
                have o0 : (wr.alloc (.cells ca 46)).cell? ⟨g5, j * 2, none⟩ = some (.bool c.down) := (HI1.out.x.cellAt _ (by omega)).trans a0
                have o1 : (wr.alloc (.cells ca 46)).cell? ⟨g5, j * 2 + 1, none⟩ = some (.int .i64 (c.last + 1)) := (HI1.out.x.cellAt _ (by omega)).trans a1
                have fr : ∀ i, (wr.alloc (.cells ca 46)).frozen? ⟨g5, i, none⟩ = false := fun i => HI1.out.x.frozenAt i
                rw [hj] at q2
                have hj0 : decide ((j : Int) < 0) = false := decide_eq_false (by omega)
                have hj8 : decide ((8 : Int) < (j : Int)) = false := decide_eq_false (by omega)
                have hjl : (j : Int) < 9 := by omega
                have hlast := HBH.out c (List.mem_of_getElem? hc)
                by_cases hd : c.down = decide (x.kind = 11)
                · rcases logKind_iffC.1 hk with kk | kk | kk | kk | kk
                  · by_cases hn : x.n = c.last + 1
                    · obtain ⟨m, hmm⟩ : ∃ m : Nat, c.last = (m : Int) := ⟨c.last.toNat, by omega⟩
                      have hnm : x.n = (m : Int) + 1 := by omega
                      have hix := HIDX.out c HAT.out kk hn
                      obtain ⟨y, hy⟩ : ∃ y, (logOf L)[m]? = some y := ⟨_, List.getElem?_eq_getElem (by omega)⟩
                      cases hs : sameEn x.en y with
                      | true =>
                        as_aux_lemma =>
                          have HD := Lib.hid hd
                          rw [kk] at q0 hd
                          rw [show c.down = _ from (by simpa using hd)] at o0
                          have HQ := Lib.hid (show passL L (k + 1) = (⟨s.cen.set j ⟨c.down, (m : Int) + 1⟩, s.auth⟩, F) by rw [HP.out, jl_on hk HAT.out HD.out, jo_7 kk, if_pos hn, HJ.out, show sameAt (logOf L) x = true by unfold sameAt; rw [show (x.n - 1).toNat = m by omega, hy]; exact hs, hnm]; rfl)
                          rw [show c.last + 1 = (m : Int) + 1 by omega] at o1
                          rw [hnm] at q5
                          have hm1 : (m : Int) ≤ 1000 := by omega
                          have hmE : m < nE := by rw [HNE.out]; exact (List.getElem?_eq_some_iff.1 hy).1
                          have hmi : (m : Int) < (nE : Int) := by omega
                          have hwl : IntKind.i64.wrap ((m : Int) + 1) = (m : Int) + 1 := IntWalk.i64_in _ (by omega)
                          have hwl2 : IntKind.i64.wrap ((m : Int) + 1 + 1) = (m : Int) + 1 + 1 := IntWalk.i64_in _ (by omega)
                          have hwm : IntKind.i64.wrap (m : Int) = (m : Int) := IntWalk.i64_in _ (by omega)
                          have HY := Lib.hid hy
                          have HS := Lib.hid hs
                          have hg5 : g5 < wr.heap.size := (HI0.out.x.lt g5 rfl).2
                          clear hk kk hd hc hj a0 a1 hn hnm hy hs hmm hlast
                          go_wp2_with (first | (with_reducible refine wpList_load_mid rfl 46 (.tmp 34) rfl b (off + k * 28) rfl cs _ HRR.out Tryz.underlying46 rfl H28.out ?_; rw [← HCA.out]) | (refine wpList_store_new rfl 46 (.tmp 9) (.tmp 35) rfl _ ca rfl rfl H28'.out HSZ.out HONE.out ?_))
                          go_quiet (fail)
                          revert nq
                          intro n1
                          go_wp2
                          go_quiet (fail)
                          revert nq
                          intro n2
                          go_wp2
                          generalize n1 + n2 = n3
                          have hIa := (HI1.out.drewN n3).last HCJ.out ((m : Int) + 1)
                          have eb : (((wr.alloc (.cells ca 46)).drewN n3).setCell ⟨g5, j * 2 + 1, none⟩ (.int .i64 ((m : Int) + 1 + 1))).heap[wr.heap.size]? = some (.cells ca 46) := ((grown_set ((wr.alloc (.cells ca 46)).drewN n3) g5 (j * 2 + 1) (.int .i64 ((m : Int) + 1 + 1))).block wr.heap.size (show wr.heap.size < (wr.alloc (.cells ca 46)).heap.size by simp) (by intro e; simp at e; omega)).trans (heap_alloc_last wr _)
                          generalize (((wr.alloc (.cells ca 46)).drewN n3).setCell ⟨g5, j * 2 + 1, none⟩ (.int .i64 ((m : Int) + 1 + 1))) = W2 at hIa eb ⊢
                          have e5 : W2.cell? ⟨wr.heap.size, 5, none⟩ = some (.int .i64 ((m : Int) + 1)) := by unfold World.cell?; simp only [eb]; exact q5
                          have e6 : W2.cell? ⟨wr.heap.size, 6, none⟩ = some (.int .i64 x.term) := by unfold World.cell?; simp only [eb]; exact q6
                          have e7 : W2.cell? ⟨wr.heap.size, 6 + 1, none⟩ = some (.int .i64 x.ek) := by unfold World.cell?; simp only [eb]; exact q7
                          have e8 : W2.cell? ⟨wr.heap.size, 6 + 2, none⟩ = some (.slice C x.body.length cap) := by unfold World.cell?; simp only [eb]; exact q8
                          have HI2a := Lib.hid hIa
                          obtain ⟨D, d, hcs, hDy⟩ := HCSS.out m y HY.out
                          obtain ⟨gl, hgl⟩ := own_someC HI2a.out.l (by omega)
                          subst hgl
                          have l0 : W2.cell? ⟨gl, m * 3, none⟩ = some (.int .i64 y.term) := (HI2a.out.l.cellAt _ (by omega)).trans (flatten_at css HCS3.out m _ 0 _ hcs rfl)
                          have l1 : W2.cell? ⟨gl, m * 3 + 1, none⟩ = some (.int .i64 y.ek) := (HI2a.out.l.cellAt _ (by omega)).trans (flatten_at css HCS3.out m _ 1 _ hcs rfl)
                          have l2 : W2.cell? ⟨gl, m * 3 + 2, none⟩ = some (.slice D y.body.length d) := (HI2a.out.l.cellAt _ (by omega)).trans (flatten_at css HCS3.out m _ 2 _ hcs rfl)
                          have HEQ := Lib.hid (show ∀ W', W'.heap = W2.heap → Calls Tryz.prog 35 #[.agg #[.int .i64 x.term, .int .i64 x.ek, .slice C x.body.length cap], .agg #[.int .i64 y.term, .int .i64 y.ek, .slice D y.body.length d]] W' (BoolRet W' true) from fun W' hW' => by
                            have h := sameEntries_any x.en y C D cap d W' ((HBY.out.below HI2a.out.b).at' HI2a.out.size |>.keep (by rw [hW']; exact Nat.le_refl _) (fun b _ => by rw [hW']) |>.top) ((hDy.below HI2a.out.b).at' HI2a.out.size |>.keep (by rw [hW']; exact Nat.le_refl _) (fun b _ => by rw [hW']) |>.top)
                            rw [HS.out] at h
                            exact h)
                          clear hcs hDy hIa eb o0 o1 fr q0 q1 q2 q4 q5 q6 q7 q8
                          go_still_tail 8, (by kernel_rfl)
                          change wpList _ _ _ _ _ W2.drew
                          go_wp2_with (go_at_call 35; go_loud (refine (HEQ.out W2.drew rfl).mono ?_); rintro e w3 ⟨rfl, hb3⟩)
                          go_roundw
                          case rel =>
                            refine ⟨k + 1, by omega, by go_num, ?_⟩
                            rw [HQ.out]
                            exact HI2a.out.drew.below hb3
                          case measure => simp [intOf]; omega
                      | false =>
                        as_aux_lemma =>
                          have HD := Lib.hid hd
                          rw [kk] at q0 hd
                          rw [show c.down = _ from (by simpa using hd)] at o0
                          have HQ := Lib.hid (show passL L (k + 1) = (⟨s.cen.set j ⟨c.down, (m : Int) + 1⟩, s.auth⟩, F ++ [((k : Int), 6)]) by rw [HP.out, jl_on hk HAT.out HD.out, jo_7 kk, if_pos hn, HJ.out, show sameAt (logOf L) x = false by unfold sameAt; rw [show (x.n - 1).toNat = m by omega, hy]; exact hs, hnm]; rfl)
                          rw [show c.last + 1 = (m : Int) + 1 by omega] at o1
                          rw [hnm] at q5
                          have hm1 : (m : Int) ≤ 1000 := by omega
                          have hmE : m < nE := by rw [HNE.out]; exact (List.getElem?_eq_some_iff.1 hy).1
                          have hmi : (m : Int) < (nE : Int) := by omega
                          have hwl : IntKind.i64.wrap ((m : Int) + 1) = (m : Int) + 1 := IntWalk.i64_in _ (by omega)
                          have hwl2 : IntKind.i64.wrap ((m : Int) + 1 + 1) = (m : Int) + 1 + 1 := IntWalk.i64_in _ (by omega)
                          have hwm : IntKind.i64.wrap (m : Int) = (m : Int) := IntWalk.i64_in _ (by omega)
                          have HY := Lib.hid hy
                          have HS := Lib.hid hs
                          have hg5 : g5 < wr.heap.size := (HI0.out.x.lt g5 rfl).2
                          clear hk kk hd hc hj a0 a1 hn hnm hy hs hmm hlast
                          go_wp2_with (first | (with_reducible refine wpList_load_mid rfl 46 (.tmp 34) rfl b (off + k * 28) rfl cs _ HRR.out Tryz.underlying46 rfl H28.out ?_; rw [← HCA.out]) | (refine wpList_store_new rfl 46 (.tmp 9) (.tmp 35) rfl _ ca rfl rfl H28'.out HSZ.out HONE.out ?_))
                          go_quiet (fail)
                          revert nq
                          intro n1
                          go_wp2
                          go_quiet (fail)
                          revert nq
                          intro n2
                          go_wp2
                          generalize n1 + n2 = n3
                          have hIa := (HI1.out.drewN n3).last HCJ.out ((m : Int) + 1)
                          have eb : (((wr.alloc (.cells ca 46)).drewN n3).setCell ⟨g5, j * 2 + 1, none⟩ (.int .i64 ((m : Int) + 1 + 1))).heap[wr.heap.size]? = some (.cells ca 46) := ((grown_set ((wr.alloc (.cells ca 46)).drewN n3) g5 (j * 2 + 1) (.int .i64 ((m : Int) + 1 + 1))).block wr.heap.size (show wr.heap.size < (wr.alloc (.cells ca 46)).heap.size by simp) (by intro e; simp at e; omega)).trans (heap_alloc_last wr _)
                          generalize (((wr.alloc (.cells ca 46)).drewN n3).setCell ⟨g5, j * 2 + 1, none⟩ (.int .i64 ((m : Int) + 1 + 1))) = W2 at hIa eb ⊢
                          have e5 : W2.cell? ⟨wr.heap.size, 5, none⟩ = some (.int .i64 ((m : Int) + 1)) := by unfold World.cell?; simp only [eb]; exact q5
                          have e6 : W2.cell? ⟨wr.heap.size, 6, none⟩ = some (.int .i64 x.term) := by unfold World.cell?; simp only [eb]; exact q6
                          have e7 : W2.cell? ⟨wr.heap.size, 6 + 1, none⟩ = some (.int .i64 x.ek) := by unfold World.cell?; simp only [eb]; exact q7
                          have e8 : W2.cell? ⟨wr.heap.size, 6 + 2, none⟩ = some (.slice C x.body.length cap) := by unfold World.cell?; simp only [eb]; exact q8
                          have HI2a := Lib.hid hIa
                          obtain ⟨D, d, hcs, hDy⟩ := HCSS.out m y HY.out
                          obtain ⟨gl, hgl⟩ := own_someC HI2a.out.l (by omega)
                          subst hgl
                          have l0 : W2.cell? ⟨gl, m * 3, none⟩ = some (.int .i64 y.term) := (HI2a.out.l.cellAt _ (by omega)).trans (flatten_at css HCS3.out m _ 0 _ hcs rfl)
                          have l1 : W2.cell? ⟨gl, m * 3 + 1, none⟩ = some (.int .i64 y.ek) := (HI2a.out.l.cellAt _ (by omega)).trans (flatten_at css HCS3.out m _ 1 _ hcs rfl)
                          have l2 : W2.cell? ⟨gl, m * 3 + 2, none⟩ = some (.slice D y.body.length d) := (HI2a.out.l.cellAt _ (by omega)).trans (flatten_at css HCS3.out m _ 2 _ hcs rfl)
                          have HEQ := Lib.hid (show ∀ W', W'.heap = W2.heap → Calls Tryz.prog 35 #[.agg #[.int .i64 x.term, .int .i64 x.ek, .slice C x.body.length cap], .agg #[.int .i64 y.term, .int .i64 y.ek, .slice D y.body.length d]] W' (BoolRet W' false) from fun W' hW' => by
                            have h := sameEntries_any x.en y C D cap d W' ((HBY.out.below HI2a.out.b).at' HI2a.out.size |>.keep (by rw [hW']; exact Nat.le_refl _) (fun b _ => by rw [hW']) |>.top) ((hDy.below HI2a.out.b).at' HI2a.out.size |>.keep (by rw [hW']; exact Nat.le_refl _) (fun b _ => by rw [hW']) |>.top)
                            rw [HS.out] at h
                            exact h)
                          clear hcs hDy hIa eb o0 o1 fr q0 q1 q2 q4 q5 q6 q7 q8
                          go_still_tail 8, (by kernel_rfl)
                          change wpList _ _ _ _ _ W2.drew
                          go_upto_region 23 with (go_at_call 35; go_loud (refine (HEQ.out W2.drew rfl).mono ?_); rintro e w3 ⟨rfl, hb3⟩)
                          obtain ⟨Wc, hWc⟩ : ∃ Wc, Wc = w3 := ⟨_, rfl⟩
                          rw [← hWc]
                          have HIc := Lib.hid (show AgrInv Wc w _ _ _ _ _ _ _ _ _ from hWc ▸ HI2a.out.drew.below hb3)
                          clear hWc
                          have HIW := Lib.hid (HIc.out.alloc (.cells #[.int .i64 k, .int .i64 6] 64))
                          have how := HIW.out.o
                          rw [← HNF.out] at how
                          have HOW := Lib.hid how
                          clear how
                          have HCN := Lib.hid (cells_new Wc [.int .i64 k, .int .i64 6] 64)
                          have hsW : w.heap.size ≤ (Wc.alloc (.cells #[.int .i64 k, .int .i64 6] 64)).heap.size := HIW.out.size
                          go_wp2_with ((at_builtin; (refine wpList_append_own _ rfl (.tmp 121) (.tmp 124) 26 rfl w.heap.size 64 i0 _ 2 16 Tryz.underlying26 hi hz0 hz1 hz2 rfl (by decide) _ _ _ rfl HOW.out ⟨Wc.heap.size, 0, none⟩ 1 1 [.int .i64 k, .int .i64 6] rfl rfl HCN.out (by intro u hu; simp at hu; rcases hu with rfl | rfl <;> rfl) (by unfold maxLen; omega) (by omega) hsW ?_); intro v' w2 hown' hgrow _))
                          have HI2 := Lib.hid (HIW.out.out (F' := F ++ [((k : Int), 6)]) hgrow (by rw [fltCells_snoc, List.length_append, ← HNF.out]; exact hown'))
                          obtain ⟨A8, c8, rfl⟩ := shape_of hown'
                          clear hown' hgrow
                          go_wp2
                          go_roundw
                          case rel =>
                            refine ⟨k + 1, by omega, by go_num, ?_⟩
                            rw [HQ.out]
                            exact HI2.out
                          case measure => simp [intOf]; omega
                    · as_aux_lemma =>
                        have HD := Lib.hid hd
                        rw [kk] at q0 hd
                        rw [show c.down = _ from (by simpa using hd)] at o0
                        have HQ := Lib.hid (show passL L (k + 1) = (s, F ++ [((k : Int), 8)]) by rw [HP.out, jl_on hk HAT.out HD.out, jo_7 kk, if_neg hn]; rfl)
                        obtain ⟨hl0, hl1⟩ := hlast
                        have hn2 : (x.n == c.last + 1) = false := by simpa using hn
                        have hn3 : (x.n != c.last + 1) = true := by simpa using hn
                        have hn4 : decide (x.n = c.last + 1) = false := decide_eq_false hn
                        clear hk kk hd hc hj a0 a1
                        go_wp2_with (first | (with_reducible refine wpList_load_mid rfl 46 (.tmp 34) rfl b (off + k * 28) rfl cs _ HRR.out Tryz.underlying46 rfl H28.out ?_; rw [← HCA.out]) | (refine wpList_store_new rfl 46 (.tmp 9) (.tmp 35) rfl _ ca rfl rfl H28'.out HSZ.out HONE.out ?_))
                        go_quiet (fail)
                        revert nq
                        intro n1
                        go_wp2
                        go_quiet (fail)
                        revert nq
                        intro n2
                        obtain ⟨Wc, hWc⟩ : ∃ Wc, Wc = ((wr.alloc (.cells ca 46)).drewN n1).drewN n2 := ⟨_, rfl⟩
                        rw [← hWc]
                        have HIc := Lib.hid (show AgrInv Wc w _ _ _ _ _ _ _ _ _ from hWc ▸ (HI1.out.drewN n1).drewN n2)
                        clear hWc
                        have HIW := Lib.hid (HIc.out.alloc (.cells #[.int .i64 k, .int .i64 8] 64))
                        have how := HIW.out.o
                        rw [← HNF.out] at how
                        have HOW := Lib.hid how
                        clear how
                        have HCN := Lib.hid (cells_new Wc [.int .i64 k, .int .i64 8] 64)
                        have hsW : w.heap.size ≤ (Wc.alloc (.cells #[.int .i64 k, .int .i64 8] 64)).heap.size := HIW.out.size
                        go_wp2_with ((at_builtin; (refine wpList_append_own _ rfl (.tmp 99) (.tmp 102) 26 rfl w.heap.size 64 i0 _ 2 16 Tryz.underlying26 hi hz0 hz1 hz2 rfl (by decide) _ _ _ rfl HOW.out ⟨Wc.heap.size, 0, none⟩ 1 1 [.int .i64 k, .int .i64 8] rfl rfl HCN.out (by intro u hu; simp at hu; rcases hu with rfl | rfl <;> rfl) (by unfold maxLen; omega) (by omega) hsW ?_); intro v' w2 hown' hgrow _))
                        have HI2 := Lib.hid (HIW.out.out (F' := F ++ [((k : Int), 8)]) hgrow (by rw [fltCells_snoc, List.length_append, ← HNF.out]; exact hown'))
                        obtain ⟨A8, c8, rfl⟩ := shape_of hown'
                        clear hown' hgrow
                        go_wp2
                        go_roundw
                        case rel =>
                          refine ⟨k + 1, by omega, by go_num, ?_⟩
                          rw [HQ.out]
                          exact HI2.out
                        case measure => simp [intOf]; omega
                  · as_aux_lemma =>
                      have HD := Lib.hid hd
                      rw [kk] at q0 hd
                      rw [show c.down = _ from (by simpa using hd)] at o0
                      have HQ := Lib.hid (show passL L (k + 1) = (⟨s.cen.set j ⟨true, c.last⟩, s.auth⟩, F) by rw [HP.out, jl_on hk HAT.out HD.out, jo_10 kk, HJ.out]; rfl)
                      clear hk kk hd hc hj a0 a1
                      go_wp2_with (first | (with_reducible refine wpList_load_mid rfl 46 (.tmp 34) rfl b (off + k * 28) rfl cs _ HRR.out Tryz.underlying46 rfl H28.out ?_; rw [← HCA.out]) | (refine wpList_store_new rfl 46 (.tmp 9) (.tmp 35) rfl _ ca rfl rfl H28'.out HSZ.out HONE.out ?_))
                      go_quiet (fail)
                      go_wp2
                      go_roundw
                      case rel =>
                        refine ⟨k + 1, by omega, by go_num, ?_⟩
                        rw [HQ.out]
                        exact (HI1.out.drewN nq).down HCJ.out true
                      case measure => simp [intOf]; omega
                  · as_aux_lemma =>
                      have HD := Lib.hid hd
                      rw [kk] at q0 hd
                      rw [show c.down = _ from (by simpa using hd)] at o0
                      have HQ := Lib.hid (show passL L (k + 1) = (⟨s.cen.set j ⟨false, 0⟩, s.auth⟩, F) by rw [HP.out, jl_on hk HAT.out HD.out, jo_11 kk, HJ.out]; rfl)
                      clear hk kk hd hc hj a0 a1
                      go_wp2_with (first | (with_reducible refine wpList_load_mid rfl 46 (.tmp 34) rfl b (off + k * 28) rfl cs _ HRR.out Tryz.underlying46 rfl H28.out ?_; rw [← HCA.out]) | (refine wpList_store_new rfl 46 (.tmp 9) (.tmp 35) rfl _ ca rfl rfl H28'.out HSZ.out HONE.out ?_))
                      go_quiet (fail)
                      go_wp2
                      go_roundw
                      case rel =>
                        refine ⟨k + 1, by omega, by go_num, ?_⟩
                        rw [HQ.out]
                        exact (HI1.out.drewN nq).reset HCJ.out
                      case measure => simp [intOf]; omega
                  · cases hg : getA s.auth x.n with
                    | none =>
                      as_aux_lemma =>
                        have HD := Lib.hid hd
                        rw [kk] at q0 hd
                        rw [show c.down = _ from (by simpa using hd)] at o0
                        have HAV := Lib.hid (show authOf x = ⟨x.n, (j : Int), x.tick, x.epoch⟩ by simp [authOf, hj])
                        obtain ⟨hix, hput⟩ := idxA_none s.auth x.n hg
                        have HQ := Lib.hid (show passL L (k + 1) = (⟨s.cen, s.auth ++ [⟨x.n, (j : Int), x.tick, x.epoch⟩]⟩, F) by rw [HP.out, jl_on hk HAT.out HD.out, jo_new kk hg, hput (authOf x) rfl, HAV.out]; rfl)
                        have HBF := Lib.hid (fun (i : Nat) (b : AuthS) (hi : i < n) (hb : s.auth[i]? = some b) => idxA_before s.auth x.n i b (by rw [hix, ← HN.out]; exact hi) hb)
                        have HGET := Lib.hid (show (s.auth ++ [(⟨x.n, (j : Int), x.tick, x.epoch⟩ : AuthS)])[n]? = some ⟨x.n, (j : Int), x.tick, x.epoch⟩ by rw [HN.out]; simp)
                        clear hk kk hd hc hj a0 a1 hg hix hput hlast
                        go_wp2_with (first | (with_reducible refine wpList_load_mid rfl 46 (.tmp 34) rfl b (off + k * 28) rfl cs _ HRR.out Tryz.underlying46 rfl H28.out ?_; rw [← HCA.out]) | (refine wpList_store_new rfl 46 (.tmp 9) (.tmp 35) rfl _ ca rfl rfl H28'.out HSZ.out HONE.out ?_))
                        go_quiet (fail)
                        clear o0 o1 fr
                        go_wp2
                        obtain ⟨wo, hwo⟩ : ∃ wo : World, wo = wr := ⟨_, rfl⟩
                        subst hwo
                        go_loopw [11] (fun kk wi => ∃ q m : Nat, q ≤ n ∧ kk = .int .i64 q ∧ wi = (wo.alloc (.cells ca 46)).drewN m) (fun kk _ => n - (intOf kk).toNat)
                        case atStart => exact ⟨0, nq, Nat.zero_le _, rfl, rfl⟩
                        case round =>
                          obtain ⟨q, m, hq, rfl, hwr⟩ := hrel
                          subst hwr
                          by_cases hqn : q < n
                          · obtain ⟨b2, hb2⟩ : ∃ b2, s.auth[q]? = some b2 := ⟨_, List.getElem?_eq_getElem (by rw [← HN.out]; omega)⟩
                            have hne := HBF.out q b2 hqn hb2
                            have hdd : (wo.alloc (.cells ca 46)).ownsRow w.heap.size 93 4 (.slice A9 n c9) n (disCells s.auth) := (by have h := HI1.out.d; rw [← HN.out] at h; exact h)
                            obtain ⟨g7, hg7⟩ := own_someC hdd (by omega)
                            subst hg7
                            have ic : (wo.alloc (.cells ca 46)).cell? ⟨g7, q * 4, none⟩ = some (.int .i64 b2.id) := (hdd.cellAt _ (by omega)).trans (disCells_at s.auth q b2 hb2).1
                            have hne2 : (b2.id == x.n) = false := by simpa using hne
                            have hne3 : (b2.id != x.n) = true := by simpa using hne
                            have hne4 : decide (b2.id = x.n) = false := decide_eq_false hne
                            have hqi : (q : Int) < (n : Int) := by omega
                            have hqd : decide ((q : Int) < (n : Int)) = true := decide_eq_true hqi
                            have hwq : IntKind.i64.wrap (q : Int) = (q : Int) := IntWalk.i64_in _ (by omega)
                            clear hdd hb2
                            go_wp2
                            go_quiet (fail)
                            go_wp2
                            go_roundw
                            case rel => exact ⟨q + 1, m + nq, by omega, by go_num, rfl⟩
                            case measure => simp [intOf]; omega
                          · obtain rfl : n = q := by omega
                            have hqi : decide ((n : Int) < (n : Int)) = false := by simp
                            have hwq : IntKind.i64.wrap (n : Int) = (n : Int) := IntWalk.i64_in _ (by omega)
                            go_wp2
                            go_quiet (fail)
                            go_upto_region 33 with fail
                            generalize m + nq = m2
                            have HIW := Lib.hid ((HI1.out.drewN m2).alloc (.cells #[.int .i64 x.n, .int .i64 x.tick, .int .i64 (j : Int), .int .i64 x.epoch] 93))
                            have HDW := Lib.hid (show (((wo.alloc (.cells ca 46)).drewN m2).alloc (.cells #[.int .i64 x.n, .int .i64 x.tick, .int .i64 (j : Int), .int .i64 x.epoch] 93)).ownsRow w.heap.size 93 4 (.slice A9 n c9) n (disCells s.auth) from (by have h := HIW.out.d; rw [← HN.out] at h; exact h))
                            have HCN := Lib.hid (show ∀ (i : Nat) (u : Value), [Value.int .i64 x.n, .int .i64 x.tick, .int .i64 (j : Int), .int .i64 x.epoch][i]? = some u → (((wo.alloc (.cells ca 46)).drewN m2).alloc (.cells #[.int .i64 x.n, .int .i64 x.tick, .int .i64 (j : Int), .int .i64 x.epoch] 93)).cell? ((⟨wo.heap.size + 1, 0, none⟩ : Addr).add i) = some u from (by
                              have h := cells_new ((wo.alloc (.cells ca 46)).drewN m2) [.int .i64 x.n, .int .i64 x.tick, .int .i64 (j : Int), .int .i64 x.epoch] 93
                              rw [show ((wo.alloc (.cells ca 46)).drewN m2).heap.size = wo.heap.size + 1 from (by show (wo.alloc _).heap.size = _; simp)] at h
                              exact h))
                            have hsW : w.heap.size ≤ (((wo.alloc (.cells ca 46)).drewN m2).alloc (.cells #[.int .i64 x.n, .int .i64 x.tick, .int .i64 (j : Int), .int .i64 x.epoch] 93)).heap.size := HIW.out.size
                            go_upto_region 35 with (at_builtin; go_loud ((refine wpList_append_own _ rfl (.tmp 161) (.tmp 171) 90 rfl w.heap.size 93 i1 _ 4 32 Tryz.underlying90 hr hr0 hr1 hr2 rfl (by decide) _ _ _ rfl HDW.out ⟨wo.heap.size + 1, 0, none⟩ 1 1 [.int .i64 x.n, .int .i64 x.tick, .int .i64 (j : Int), .int .i64 x.epoch] rfl rfl HCN.out (by intro u hu; simp at hu; rcases hu with rfl | rfl | rfl | rfl <;> rfl) (by unfold maxLen; omega) (by omega) hsW ?_); intro u' w2 hownd hgrowd _; rw [show disCells s.auth ++ [.int .i64 x.n, .int .i64 x.tick, .int .i64 (j : Int), .int .i64 x.epoch] = disCells (s.auth ++ [⟨x.n, (j : Int), x.tick, x.epoch⟩]) from (disCells_snoc s.auth ⟨x.n, (j : Int), x.tick, x.epoch⟩).symm] at hownd; have HI2 := Lib.hid (HIW.out.dis (auth' := s.auth ++ [⟨x.n, (j : Int), x.tick, x.epoch⟩]) hgrowd (by rw [List.length_append, ← HN.out]; exact hownd)); have e1 : w2.cell? ⟨wo.heap.size, 1, none⟩ = some (.int .i64 x.tick) := new_keptC hgrowd (row_oldC HI0.out.d) 1 _ q1; have e2 : w2.cell? ⟨wo.heap.size, 2, none⟩ = some (.int .i64 (j : Int)) := new_keptC hgrowd (row_oldC HI0.out.d) 2 _ q2; have e4 : w2.cell? ⟨wo.heap.size, 4, none⟩ = some (.int .i64 x.epoch) := new_keptC hgrowd (row_oldC HI0.out.d) 4 _ q4; obtain ⟨A6, c6, rfl⟩ := shape_of hownd; obtain ⟨g6, hg6⟩ := own_someC hownd (by omega); subst hg6; have t1 : w2.cell? ⟨g6, n * 4 + 1, none⟩ = some (.int .i64 x.tick) := (hownd.cellAt _ (by omega)).trans (disCells_at _ n ⟨x.n, (j : Int), x.tick, x.epoch⟩ HGET.out).2.1; have t2 : w2.cell? ⟨g6, n * 4 + 2, none⟩ = some (.int .i64 (j : Int)) := (hownd.cellAt _ (by omega)).trans (disCells_at _ n ⟨x.n, (j : Int), x.tick, x.epoch⟩ HGET.out).2.2.1; have t3 : w2.cell? ⟨g6, n * 4 + 3, none⟩ = some (.int .i64 x.epoch) := (hownd.cellAt _ (by omega)).trans (disCells_at _ n ⟨x.n, (j : Int), x.tick, x.epoch⟩ HGET.out).2.2.2; have fr6 : ∀ i, w2.frozen? ⟨g6, i, none⟩ = false := fun i => hownd.frozenAt i; clear hownd hgrowd))
                            go_quiet (fail)
                            go_wp2
                            go_region
                            all_goals go_wp2
                            have hfin := ((HI2.out.drewN nq).drew).put (by rw [List.length_append, ← HN.out]; rfl) (j := n) (a := ⟨x.n, (j : Int), x.tick, x.epoch⟩) HGET.out rfl
                            rw [set_same HGET.out] at hfin
                            go_roundw
                            case rel =>
                              refine ⟨k + 1, by omega, by go_num, ?_⟩
                              rw [HQ.out]
                              exact hfin
                            case measure => simp [intOf]; omega
                    | some a =>
                      have HD := Lib.hid hd
                      rw [kk] at q0 hd
                      rw [show c.down = _ from (by simpa using hd)] at o0
                      have HAV := Lib.hid (show authOf x = ⟨x.n, (j : Int), x.tick, x.epoch⟩ by simp [authOf, hj])
                      obtain ⟨hia, haid, hput⟩ := idxA_some s.auth x.n a hg
                      have hixn : idxA s.auth x.n < n := by rw [HN.out]; exact (List.getElem?_eq_some_iff.1 hia).1
                      have HJL := Lib.hid (show judgeL (logOf L) x s = judgeOn (logOf L) x s c from jl_on hk HAT.out HD.out)
                      have HKK := Lib.hid kk
                      have HGA := Lib.hid hg
                      have HAID := Lib.hid haid
                      have HPUT := Lib.hid (show putA s.auth (authOf x) = s.auth.set (idxA s.auth x.n) ⟨x.n, (j : Int), x.tick, x.epoch⟩ by rw [hput (authOf x) rfl, HAV.out])
                      have HBF := Lib.hid (fun (i : Nat) (b : AuthS) (hi : i < idxA s.auth x.n) (hb : s.auth[i]? = some b) => idxA_before s.auth x.n i b hi hb)
                      have HIA := Lib.hid hia
                      have HCL := Lib.hid (show clash a x = decide (x.epoch < a.epoch ∨ (a.tick = x.tick ∧ a.who ≠ (j : Int))) by rw [clash, hj])
                      generalize idxA s.auth x.n = ix at HIA HPUT HBF hixn
                      clear hk kk hd hc hj a0 a1 hg hia haid hput hlast
                      go_wp2_with (first | (with_reducible refine wpList_load_mid rfl 46 (.tmp 34) rfl b (off + k * 28) rfl cs _ HRR.out Tryz.underlying46 rfl H28.out ?_; rw [← HCA.out]) | (refine wpList_store_new rfl 46 (.tmp 9) (.tmp 35) rfl _ ca rfl rfl H28'.out HSZ.out HONE.out ?_))
                      go_quiet (fail)
                      clear o0 o1 fr
                      go_wp2
                      obtain ⟨wo, hwo⟩ : ∃ wo : World, wo = wr := ⟨_, rfl⟩
                      subst hwo
                      go_loopw [11] (fun kk wi => ∃ q m : Nat, q ≤ ix ∧ kk = .int .i64 q ∧ wi = (wo.alloc (.cells ca 46)).drewN m) (fun kk _ => ix - (intOf kk).toNat)
                      case atStart => exact ⟨0, nq, Nat.zero_le _, rfl, rfl⟩
                      case round =>
                        obtain ⟨q, m, hq, rfl, hwr⟩ := hrel
                        subst hwr
                        by_cases hqn : q < ix
                        · obtain ⟨b2, hb2⟩ : ∃ b2, s.auth[q]? = some b2 := ⟨_, List.getElem?_eq_getElem (by rw [← HN.out]; omega)⟩
                          have hne := HBF.out q b2 hqn hb2
                          have hdd : (wo.alloc (.cells ca 46)).ownsRow w.heap.size 93 4 (.slice A9 n c9) n (disCells s.auth) := (by have h := HI1.out.d; rw [← HN.out] at h; exact h)
                          obtain ⟨g7, hg7⟩ := own_someC hdd (by omega)
                          subst hg7
                          have ic : (wo.alloc (.cells ca 46)).cell? ⟨g7, q * 4, none⟩ = some (.int .i64 b2.id) := (hdd.cellAt _ (by omega)).trans (disCells_at s.auth q b2 hb2).1
                          have hne2 : (b2.id == x.n) = false := by simpa using hne
                          have hne3 : (b2.id != x.n) = true := by simpa using hne
                          have hne4 : decide (b2.id = x.n) = false := decide_eq_false hne
                          have hqi : (q : Int) < (n : Int) := by omega
                          have hqd : decide ((q : Int) < (n : Int)) = true := decide_eq_true hqi
                          have hwq : IntKind.i64.wrap (q : Int) = (q : Int) := IntWalk.i64_in _ (by omega)
                          clear hdd hb2
                          go_wp2
                          go_quiet (fail)
                          go_wp2
                          go_roundw
                          case rel => exact ⟨q + 1, m + nq, by omega, by go_num, rfl⟩
                          case measure => simp [intOf]; omega
                        · obtain rfl : ix = q := by omega
                          have hqi : (ix : Int) < (n : Int) := by omega
                          have hqd : decide ((ix : Int) < (n : Int)) = true := decide_eq_true hqi
                          have hqe : ¬ (ix : Int) = (n : Int) := by omega
                          have hqe2 : ¬ ix = n := by omega
                          have hwq : IntKind.i64.wrap (ix : Int) = (ix : Int) := IntWalk.i64_in _ (by omega)
                          have hdd : (wo.alloc (.cells ca 46)).ownsRow w.heap.size 93 4 (.slice A9 n c9) n (disCells s.auth) := (by have h := HI1.out.d; rw [← HN.out] at h; exact h)
                          obtain ⟨g7, hg7⟩ := own_someC hdd (by omega)
                          subst hg7
                          obtain ⟨i0c, i1c, i2c, i3c⟩ := disCells_at s.auth ix a HIA.out
                          have t0 : (wo.alloc (.cells ca 46)).cell? ⟨g7, ix * 4, none⟩ = some (.int .i64 x.n) := (hdd.cellAt _ (by omega)).trans (by rw [i0c, HAID.out])
                          have t1 : (wo.alloc (.cells ca 46)).cell? ⟨g7, ix * 4 + 1, none⟩ = some (.int .i64 a.tick) := (hdd.cellAt _ (by omega)).trans i1c
                          have t2 : (wo.alloc (.cells ca 46)).cell? ⟨g7, ix * 4 + 2, none⟩ = some (.int .i64 a.who) := (hdd.cellAt _ (by omega)).trans i2c
                          have t3 : (wo.alloc (.cells ca 46)).cell? ⟨g7, ix * 4 + 3, none⟩ = some (.int .i64 a.epoch) := (hdd.cellAt _ (by omega)).trans i3c
                          have fr7 : ∀ i, (wo.alloc (.cells ca 46)).frozen? ⟨g7, i, none⟩ = false := fun i => hdd.frozenAt i
                          clear hdd i0c i1c i2c i3c
                          by_cases ht : a.tick = x.tick
                          · rw [ht] at t1
                            by_cases hw : a.who = (j : Int)
                            · rw [hw] at t2
                              by_cases he : x.epoch < a.epoch
                              · as_aux_lemma =>
                                  have HQ := Lib.hid (show passL L (k + 1) = (s, F ++ [((k : Int), 2)]) by rw [HP.out, HJL.out, jo_clash HKK.out HGA.out (by rw [HCL.out]; exact decide_eq_true (.inl he))]; rfl)
                                  go_wp2
                                  go_quiet (fail)
                                  revert nq
                                  intro n5
                                  go_upto_region 35 with fail
                                  go_quiet (fail)
                                  go_upto_region 36 with fail
                                  obtain ⟨Wc, hWc⟩ : ∃ Wc, Wc = ((wo.alloc (.cells ca 46)).drewN (m + n5)).drewN nq := ⟨_, rfl⟩
                                  rw [← hWc]
                                  have HIc := Lib.hid (show AgrInv Wc w _ _ _ _ _ _ _ _ _ from hWc ▸ (HI1.out.drewN (m + n5)).drewN nq)
                                  clear hWc
                                  have HIW := Lib.hid (HIc.out.alloc (.cells #[.int .i64 k, .int .i64 2] 64))
                                  have how := HIW.out.o
                                  rw [← HNF.out] at how
                                  have HOW := Lib.hid how
                                  clear how
                                  have HCN := Lib.hid (cells_new Wc [.int .i64 k, .int .i64 2] 64)
                                  have hsW : w.heap.size ≤ (Wc.alloc (.cells #[.int .i64 k, .int .i64 2] 64)).heap.size := HIW.out.size
                                  go_wp2_with ((at_builtin; (refine wpList_append_own _ rfl (.tmp 201) (.tmp 204) 26 rfl w.heap.size 64 i0 _ 2 16 Tryz.underlying26 hi hz0 hz1 hz2 rfl (by decide) _ _ _ rfl HOW.out ⟨Wc.heap.size, 0, none⟩ 1 1 [.int .i64 k, .int .i64 2] rfl rfl HCN.out (by intro u hu; simp at hu; rcases hu with rfl | rfl <;> rfl) (by unfold maxLen; omega) (by omega) hsW ?_); intro v' w2 hown' hgrow _))
                                  have HI2 := Lib.hid (HIW.out.out (F' := F ++ [((k : Int), 2)]) hgrow (by rw [fltCells_snoc, List.length_append, ← HNF.out]; exact hown'))
                                  obtain ⟨A8, c8, rfl⟩ := shape_of hown'
                                  clear hown' hgrow
                                  go_wp2
                                  go_roundw
                                  case rel =>
                                    refine ⟨k + 1, by omega, by go_num, ?_⟩
                                    rw [HQ.out]
                                    exact HI2.out
                                  case measure => simp [intOf]; omega
                              · have he2 : decide (x.epoch < a.epoch) = false := decide_eq_false he
                                as_aux_lemma =>
                                  have HQ := Lib.hid (show passL L (k + 1) = (⟨s.cen, s.auth.set ix ⟨x.n, (j : Int), x.tick, x.epoch⟩⟩, F) by rw [HP.out, HJL.out, jo_put HKK.out HGA.out (by rw [HCL.out]; exact decide_eq_false (by omega)), HPUT.out]; rfl)
                                  go_wp2
                                  go_quiet (fail)
                                  revert nq
                                  intro n5
                                  go_upto_region 35 with fail
                                  go_quiet (fail)
                                  go_wp2
                                  go_region
                                  all_goals go_wp2
                                  have hfin := ((HI1.out.drewN (m + n5 + nq)).drew).put HN.out (a := ⟨x.n, (j : Int), x.tick, x.epoch⟩) HIA.out (show x.n = a.id from HAID.out.symm)
                                  go_roundw
                                  case rel =>
                                    refine ⟨k + 1, by omega, by go_num, ?_⟩
                                    rw [HQ.out]
                                    exact hfin
                                  case measure => simp [intOf]; omega
                            · have hw2 : (a.who == (j : Int)) = false := by simpa using hw
                              have hw3 : (a.who != (j : Int)) = true := by simpa using hw
                              as_aux_lemma =>
                                have HQ := Lib.hid (show passL L (k + 1) = (s, F ++ [((k : Int), 2)]) by rw [HP.out, HJL.out, jo_clash HKK.out HGA.out (by rw [HCL.out]; exact decide_eq_true (.inr ⟨ht, hw⟩))]; rfl)
                                go_wp2
                                go_quiet (fail)
                                revert nq
                                intro n5
                                go_upto_region 35 with fail
                                go_quiet (fail)
                                go_upto_region 36 with fail
                                obtain ⟨Wc, hWc⟩ : ∃ Wc, Wc = ((wo.alloc (.cells ca 46)).drewN (m + n5)).drewN nq := ⟨_, rfl⟩
                                rw [← hWc]
                                have HIc := Lib.hid (show AgrInv Wc w _ _ _ _ _ _ _ _ _ from hWc ▸ (HI1.out.drewN (m + n5)).drewN nq)
                                clear hWc
                                have HIW := Lib.hid (HIc.out.alloc (.cells #[.int .i64 k, .int .i64 2] 64))
                                have how := HIW.out.o
                                rw [← HNF.out] at how
                                have HOW := Lib.hid how
                                clear how
                                have HCN := Lib.hid (cells_new Wc [.int .i64 k, .int .i64 2] 64)
                                have hsW : w.heap.size ≤ (Wc.alloc (.cells #[.int .i64 k, .int .i64 2] 64)).heap.size := HIW.out.size
                                go_wp2_with ((at_builtin; (refine wpList_append_own _ rfl (.tmp 201) (.tmp 204) 26 rfl w.heap.size 64 i0 _ 2 16 Tryz.underlying26 hi hz0 hz1 hz2 rfl (by decide) _ _ _ rfl HOW.out ⟨Wc.heap.size, 0, none⟩ 1 1 [.int .i64 k, .int .i64 2] rfl rfl HCN.out (by intro u hu; simp at hu; rcases hu with rfl | rfl <;> rfl) (by unfold maxLen; omega) (by omega) hsW ?_); intro v' w2 hown' hgrow _))
                                have HI2 := Lib.hid (HIW.out.out (F' := F ++ [((k : Int), 2)]) hgrow (by rw [fltCells_snoc, List.length_append, ← HNF.out]; exact hown'))
                                obtain ⟨A8, c8, rfl⟩ := shape_of hown'
                                clear hown' hgrow
                                go_wp2
                                go_roundw
                                case rel =>
                                  refine ⟨k + 1, by omega, by go_num, ?_⟩
                                  rw [HQ.out]
                                  exact HI2.out
                                case measure => simp [intOf]; omega
                          · have ht2 : decide (a.tick = x.tick) = false := decide_eq_false ht
                            have ht3 : (a.tick == x.tick) = false := by simpa using ht
                            by_cases he : x.epoch < a.epoch
                            · as_aux_lemma =>
                                have HQ := Lib.hid (show passL L (k + 1) = (s, F ++ [((k : Int), 2)]) by rw [HP.out, HJL.out, jo_clash HKK.out HGA.out (by rw [HCL.out]; exact decide_eq_true (.inl he))]; rfl)
                                go_wp2
                                go_quiet (fail)
                                revert nq
                                intro n5
                                go_upto_region 35 with fail
                                go_quiet (fail)
                                go_upto_region 36 with fail
                                obtain ⟨Wc, hWc⟩ : ∃ Wc, Wc = ((wo.alloc (.cells ca 46)).drewN (m + n5)).drewN nq := ⟨_, rfl⟩
                                rw [← hWc]
                                have HIc := Lib.hid (show AgrInv Wc w _ _ _ _ _ _ _ _ _ from hWc ▸ (HI1.out.drewN (m + n5)).drewN nq)
                                clear hWc
                                have HIW := Lib.hid (HIc.out.alloc (.cells #[.int .i64 k, .int .i64 2] 64))
                                have how := HIW.out.o
                                rw [← HNF.out] at how
                                have HOW := Lib.hid how
                                clear how
                                have HCN := Lib.hid (cells_new Wc [.int .i64 k, .int .i64 2] 64)
                                have hsW : w.heap.size ≤ (Wc.alloc (.cells #[.int .i64 k, .int .i64 2] 64)).heap.size := HIW.out.size
                                go_wp2_with ((at_builtin; (refine wpList_append_own _ rfl (.tmp 201) (.tmp 204) 26 rfl w.heap.size 64 i0 _ 2 16 Tryz.underlying26 hi hz0 hz1 hz2 rfl (by decide) _ _ _ rfl HOW.out ⟨Wc.heap.size, 0, none⟩ 1 1 [.int .i64 k, .int .i64 2] rfl rfl HCN.out (by intro u hu; simp at hu; rcases hu with rfl | rfl <;> rfl) (by unfold maxLen; omega) (by omega) hsW ?_); intro v' w2 hown' hgrow _))
                                have HI2 := Lib.hid (HIW.out.out (F' := F ++ [((k : Int), 2)]) hgrow (by rw [fltCells_snoc, List.length_append, ← HNF.out]; exact hown'))
                                obtain ⟨A8, c8, rfl⟩ := shape_of hown'
                                clear hown' hgrow
                                go_wp2
                                go_roundw
                                case rel =>
                                  refine ⟨k + 1, by omega, by go_num, ?_⟩
                                  rw [HQ.out]
                                  exact HI2.out
                                case measure => simp [intOf]; omega
                            · have he2 : decide (x.epoch < a.epoch) = false := decide_eq_false he
                              as_aux_lemma =>
                                have HQ := Lib.hid (show passL L (k + 1) = (⟨s.cen, s.auth.set ix ⟨x.n, (j : Int), x.tick, x.epoch⟩⟩, F) by rw [HP.out, HJL.out, jo_put HKK.out HGA.out (by rw [HCL.out]; exact decide_eq_false (by omega)), HPUT.out]; rfl)
                                go_wp2
                                go_quiet (fail)
                                revert nq
                                intro n5
                                go_upto_region 35 with fail
                                go_quiet (fail)
                                go_wp2
                                go_region
                                all_goals go_wp2
                                have hfin := ((HI1.out.drewN (m + n5 + nq)).drew).put HN.out (a := ⟨x.n, (j : Int), x.tick, x.epoch⟩) HIA.out (show x.n = a.id from HAID.out.symm)
                                go_roundw
                                case rel =>
                                  refine ⟨k + 1, by omega, by go_num, ?_⟩
                                  rw [HQ.out]
                                  exact hfin
                                case measure => simp [intOf]; omega
                  · as_aux_lemma =>
                      have HD := Lib.hid hd
                      rw [kk] at q0 hd
                      rw [show c.down = _ from (by simpa using hd)] at o0
                      have HQ := Lib.hid (show passL L (k + 1) = (s, F) by rw [HP.out, jl_on hk HAT.out HD.out, jo_13 kk]; rfl)
                      clear hk kk hd hc hj a0 a1
                      go_wp2_with (first | (with_reducible refine wpList_load_mid rfl 46 (.tmp 34) rfl b (off + k * 28) rfl cs _ HRR.out Tryz.underlying46 rfl H28.out ?_; rw [← HCA.out]) | (refine wpList_store_new rfl 46 (.tmp 9) (.tmp 35) rfl _ ca rfl rfl H28'.out HSZ.out HONE.out ?_))
                      go_quiet (fail)
                      go_wp2
                      go_roundw
                      case rel =>
                        refine ⟨k + 1, by omega, by go_num, ?_⟩
                        rw [HQ.out]
                        exact HI1.out.drewN nq
                      case measure => simp [intOf]; omega
                · have HDN := Lib.hid hd
                  rcases logKind_iffC.1 hk with kk | kk | kk | kk | kk
                  · rw [kk] at q0
                    as_aux_lemma =>
                      have HQ := Lib.hid (show passL L (k + 1) = (s, F ++ [((k : Int), 8)]) by rw [HP.out, jl_down hk HAT.out HDN.out]; rfl)
                      rw [kk] at hd
                      rw [show c.down = _ from (by simpa using hd)] at o0
                      clear hk kk hd hc hj a0 a1
                      go_wp2_with (first | (with_reducible refine wpList_load_mid rfl 46 (.tmp 34) rfl b (off + k * 28) rfl cs _ HRR.out Tryz.underlying46 rfl H28.out ?_; rw [← HCA.out]) | (refine wpList_store_new rfl 46 (.tmp 9) (.tmp 35) rfl _ ca rfl rfl H28'.out HSZ.out HONE.out ?_))
                      go_quiet (fail)
                      obtain ⟨Wc, hWc⟩ : ∃ Wc, Wc = (wr.alloc (.cells ca 46)).drewN nq := ⟨_, rfl⟩
                      rw [← hWc]
                      have HIc := Lib.hid (show AgrInv Wc w _ _ _ _ _ _ _ _ _ from hWc ▸ HI1.out.drewN nq)
                      clear hWc
                      have HIW := Lib.hid (HIc.out.alloc (.cells #[.int .i64 k, .int .i64 8] 64))
                      have how := HIW.out.o
                      rw [← HNF.out] at how
                      have HOW := Lib.hid how
                      clear how
                      have HCN := Lib.hid (cells_new Wc [.int .i64 k, .int .i64 8] 64)
                      have hsW : w.heap.size ≤ (Wc.alloc (.cells #[.int .i64 k, .int .i64 8] 64)).heap.size := HIW.out.size
                      go_wp2_with ((at_builtin; (refine wpList_append_own _ rfl (.tmp 79) (.tmp 82) 26 rfl w.heap.size 64 i0 _ 2 16 Tryz.underlying26 hi hz0 hz1 hz2 rfl (by decide) _ _ _ rfl HOW.out ⟨Wc.heap.size, 0, none⟩ 1 1 [.int .i64 k, .int .i64 8] rfl rfl HCN.out (by intro u hu; simp at hu; rcases hu with rfl | rfl <;> rfl) (by unfold maxLen; omega) (by omega) hsW ?_); intro v' w2 hown' hgrow _))
                      have HI2 := Lib.hid (HIW.out.out (F' := F ++ [((k : Int), 8)]) hgrow (by rw [fltCells_snoc, List.length_append, ← HNF.out]; exact hown'))
                      obtain ⟨A8, c8, rfl⟩ := shape_of hown'
                      clear hown' hgrow
                      go_wp2
                      go_roundw
                      case rel =>
                        refine ⟨k + 1, by omega, by go_num, ?_⟩
                        rw [HQ.out]
                        exact HI2.out
                      case measure => simp [intOf]; omega
                  · rw [kk] at q0
                    as_aux_lemma =>
                      have HQ := Lib.hid (show passL L (k + 1) = (s, F ++ [((k : Int), 8)]) by rw [HP.out, jl_down hk HAT.out HDN.out]; rfl)
                      rw [kk] at hd
                      rw [show c.down = _ from (by simpa using hd)] at o0
                      clear hk kk hd hc hj a0 a1
                      go_wp2_with (first | (with_reducible refine wpList_load_mid rfl 46 (.tmp 34) rfl b (off + k * 28) rfl cs _ HRR.out Tryz.underlying46 rfl H28.out ?_; rw [← HCA.out]) | (refine wpList_store_new rfl 46 (.tmp 9) (.tmp 35) rfl _ ca rfl rfl H28'.out HSZ.out HONE.out ?_))
                      go_quiet (fail)
                      obtain ⟨Wc, hWc⟩ : ∃ Wc, Wc = (wr.alloc (.cells ca 46)).drewN nq := ⟨_, rfl⟩
                      rw [← hWc]
                      have HIc := Lib.hid (show AgrInv Wc w _ _ _ _ _ _ _ _ _ from hWc ▸ HI1.out.drewN nq)
                      clear hWc
                      have HIW := Lib.hid (HIc.out.alloc (.cells #[.int .i64 k, .int .i64 8] 64))
                      have how := HIW.out.o
                      rw [← HNF.out] at how
                      have HOW := Lib.hid how
                      clear how
                      have HCN := Lib.hid (cells_new Wc [.int .i64 k, .int .i64 8] 64)
                      have hsW : w.heap.size ≤ (Wc.alloc (.cells #[.int .i64 k, .int .i64 8] 64)).heap.size := HIW.out.size
                      go_wp2_with ((at_builtin; (refine wpList_append_own _ rfl (.tmp 79) (.tmp 82) 26 rfl w.heap.size 64 i0 _ 2 16 Tryz.underlying26 hi hz0 hz1 hz2 rfl (by decide) _ _ _ rfl HOW.out ⟨Wc.heap.size, 0, none⟩ 1 1 [.int .i64 k, .int .i64 8] rfl rfl HCN.out (by intro u hu; simp at hu; rcases hu with rfl | rfl <;> rfl) (by unfold maxLen; omega) (by omega) hsW ?_); intro v' w2 hown' hgrow _))
                      have HI2 := Lib.hid (HIW.out.out (F' := F ++ [((k : Int), 8)]) hgrow (by rw [fltCells_snoc, List.length_append, ← HNF.out]; exact hown'))
                      obtain ⟨A8, c8, rfl⟩ := shape_of hown'
                      clear hown' hgrow
                      go_wp2
                      go_roundw
                      case rel =>
                        refine ⟨k + 1, by omega, by go_num, ?_⟩
                        rw [HQ.out]
                        exact HI2.out
                      case measure => simp [intOf]; omega
                  · rw [kk] at q0
                    as_aux_lemma =>
                      have HQ := Lib.hid (show passL L (k + 1) = (s, F ++ [((k : Int), 8)]) by rw [HP.out, jl_down hk HAT.out HDN.out]; rfl)
                      rw [kk] at hd
                      rw [show c.down = _ from (by simpa using hd)] at o0
                      clear hk kk hd hc hj a0 a1
                      go_wp2_with (first | (with_reducible refine wpList_load_mid rfl 46 (.tmp 34) rfl b (off + k * 28) rfl cs _ HRR.out Tryz.underlying46 rfl H28.out ?_; rw [← HCA.out]) | (refine wpList_store_new rfl 46 (.tmp 9) (.tmp 35) rfl _ ca rfl rfl H28'.out HSZ.out HONE.out ?_))
                      go_quiet (fail)
                      obtain ⟨Wc, hWc⟩ : ∃ Wc, Wc = (wr.alloc (.cells ca 46)).drewN nq := ⟨_, rfl⟩
                      rw [← hWc]
                      have HIc := Lib.hid (show AgrInv Wc w _ _ _ _ _ _ _ _ _ from hWc ▸ HI1.out.drewN nq)
                      clear hWc
                      have HIW := Lib.hid (HIc.out.alloc (.cells #[.int .i64 k, .int .i64 8] 64))
                      have how := HIW.out.o
                      rw [← HNF.out] at how
                      have HOW := Lib.hid how
                      clear how
                      have HCN := Lib.hid (cells_new Wc [.int .i64 k, .int .i64 8] 64)
                      have hsW : w.heap.size ≤ (Wc.alloc (.cells #[.int .i64 k, .int .i64 8] 64)).heap.size := HIW.out.size
                      go_wp2_with ((at_builtin; (refine wpList_append_own _ rfl (.tmp 79) (.tmp 82) 26 rfl w.heap.size 64 i0 _ 2 16 Tryz.underlying26 hi hz0 hz1 hz2 rfl (by decide) _ _ _ rfl HOW.out ⟨Wc.heap.size, 0, none⟩ 1 1 [.int .i64 k, .int .i64 8] rfl rfl HCN.out (by intro u hu; simp at hu; rcases hu with rfl | rfl <;> rfl) (by unfold maxLen; omega) (by omega) hsW ?_); intro v' w2 hown' hgrow _))
                      have HI2 := Lib.hid (HIW.out.out (F' := F ++ [((k : Int), 8)]) hgrow (by rw [fltCells_snoc, List.length_append, ← HNF.out]; exact hown'))
                      obtain ⟨A8, c8, rfl⟩ := shape_of hown'
                      clear hown' hgrow
                      go_wp2
                      go_roundw
                      case rel =>
                        refine ⟨k + 1, by omega, by go_num, ?_⟩
                        rw [HQ.out]
                        exact HI2.out
                      case measure => simp [intOf]; omega
                  · rw [kk] at q0
                    as_aux_lemma =>
                      have HQ := Lib.hid (show passL L (k + 1) = (s, F ++ [((k : Int), 8)]) by rw [HP.out, jl_down hk HAT.out HDN.out]; rfl)
                      rw [kk] at hd
                      rw [show c.down = _ from (by simpa using hd)] at o0
                      clear hk kk hd hc hj a0 a1
                      go_wp2_with (first | (with_reducible refine wpList_load_mid rfl 46 (.tmp 34) rfl b (off + k * 28) rfl cs _ HRR.out Tryz.underlying46 rfl H28.out ?_; rw [← HCA.out]) | (refine wpList_store_new rfl 46 (.tmp 9) (.tmp 35) rfl _ ca rfl rfl H28'.out HSZ.out HONE.out ?_))
                      go_quiet (fail)
                      obtain ⟨Wc, hWc⟩ : ∃ Wc, Wc = (wr.alloc (.cells ca 46)).drewN nq := ⟨_, rfl⟩
                      rw [← hWc]
                      have HIc := Lib.hid (show AgrInv Wc w _ _ _ _ _ _ _ _ _ from hWc ▸ HI1.out.drewN nq)
                      clear hWc
                      have HIW := Lib.hid (HIc.out.alloc (.cells #[.int .i64 k, .int .i64 8] 64))
                      have how := HIW.out.o
                      rw [← HNF.out] at how
                      have HOW := Lib.hid how
                      clear how
                      have HCN := Lib.hid (cells_new Wc [.int .i64 k, .int .i64 8] 64)
                      have hsW : w.heap.size ≤ (Wc.alloc (.cells #[.int .i64 k, .int .i64 8] 64)).heap.size := HIW.out.size
                      go_wp2_with ((at_builtin; (refine wpList_append_own _ rfl (.tmp 79) (.tmp 82) 26 rfl w.heap.size 64 i0 _ 2 16 Tryz.underlying26 hi hz0 hz1 hz2 rfl (by decide) _ _ _ rfl HOW.out ⟨Wc.heap.size, 0, none⟩ 1 1 [.int .i64 k, .int .i64 8] rfl rfl HCN.out (by intro u hu; simp at hu; rcases hu with rfl | rfl <;> rfl) (by unfold maxLen; omega) (by omega) hsW ?_); intro v' w2 hown' hgrow _))
                      have HI2 := Lib.hid (HIW.out.out (F' := F ++ [((k : Int), 8)]) hgrow (by rw [fltCells_snoc, List.length_append, ← HNF.out]; exact hown'))
                      obtain ⟨A8, c8, rfl⟩ := shape_of hown'
                      clear hown' hgrow
                      go_wp2
                      go_roundw
                      case rel =>
                        refine ⟨k + 1, by omega, by go_num, ?_⟩
                        rw [HQ.out]
                        exact HI2.out
                      case measure => simp [intOf]; omega
                  · rw [kk] at q0
                    as_aux_lemma =>
                      have HQ := Lib.hid (show passL L (k + 1) = (s, F ++ [((k : Int), 8)]) by rw [HP.out, jl_down hk HAT.out HDN.out]; rfl)
                      rw [kk] at hd
                      rw [show c.down = _ from (by simpa using hd)] at o0
                      clear hk kk hd hc hj a0 a1
                      go_wp2_with (first | (with_reducible refine wpList_load_mid rfl 46 (.tmp 34) rfl b (off + k * 28) rfl cs _ HRR.out Tryz.underlying46 rfl H28.out ?_; rw [← HCA.out]) | (refine wpList_store_new rfl 46 (.tmp 9) (.tmp 35) rfl _ ca rfl rfl H28'.out HSZ.out HONE.out ?_))
                      go_quiet (fail)
                      obtain ⟨Wc, hWc⟩ : ∃ Wc, Wc = (wr.alloc (.cells ca 46)).drewN nq := ⟨_, rfl⟩
                      rw [← hWc]
                      have HIc := Lib.hid (show AgrInv Wc w _ _ _ _ _ _ _ _ _ from hWc ▸ HI1.out.drewN nq)
                      clear hWc
                      have HIW := Lib.hid (HIc.out.alloc (.cells #[.int .i64 k, .int .i64 8] 64))
                      have how := HIW.out.o
                      rw [← HNF.out] at how
                      have HOW := Lib.hid how
                      clear how
                      have HCN := Lib.hid (cells_new Wc [.int .i64 k, .int .i64 8] 64)
                      have hsW : w.heap.size ≤ (Wc.alloc (.cells #[.int .i64 k, .int .i64 8] 64)).heap.size := HIW.out.size
                      go_wp2_with ((at_builtin; (refine wpList_append_own _ rfl (.tmp 79) (.tmp 82) 26 rfl w.heap.size 64 i0 _ 2 16 Tryz.underlying26 hi hz0 hz1 hz2 rfl (by decide) _ _ _ rfl HOW.out ⟨Wc.heap.size, 0, none⟩ 1 1 [.int .i64 k, .int .i64 8] rfl rfl HCN.out (by intro u hu; simp at hu; rcases hu with rfl | rfl <;> rfl) (by unfold maxLen; omega) (by omega) hsW ?_); intro v' w2 hown' hgrow _))
                      have HI2 := Lib.hid (HIW.out.out (F' := F ++ [((k : Int), 8)]) hgrow (by rw [fltCells_snoc, List.length_append, ← HNF.out]; exact hown'))
                      obtain ⟨A8, c8, rfl⟩ := shape_of hown'
                      clear hown' hgrow
                      go_wp2
                      go_roundw
                      case rel =>
                        refine ⟨k + 1, by omega, by go_num, ?_⟩
                        rw [HQ.out]
                        exact HI2.out
                      case measure => simp [intOf]; omega
        · obtain rfl : k = L.length := by omega
          obtain ⟨A', c', rfl, hF⟩ := fltIn_of hI.o
          obtain ⟨A9, c9, hu⟩ := shape_of hI.d
          subst hu
          have H := Lib.hid hF
          have HB := Lib.hid hI.b
          clear hF hI hlt
          go_wp2
          go_ret
          exact ⟨A', c', rfl, H.out, HB.out⟩
end Go.Proofs.YtjhhdklbiibhdaaGreatDoor

