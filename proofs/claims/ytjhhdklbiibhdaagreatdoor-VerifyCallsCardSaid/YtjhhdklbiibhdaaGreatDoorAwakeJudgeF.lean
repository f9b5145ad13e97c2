/-
  What verify.examine answers in this program with the function of CheckCalls, and what CheckCalls answers: for every trace of at most 1000 events.
-/
import Derived.Test.YtjhhdklbiibhdaaGreatDoorAwakeJudgeE
namespace Go.Proofs.YtjhhdklbiibhdaaGreatDoor
open Go Go.RowKit

/-- the program's pass over a trace: what is known of the calls, the violations so far -/
def passC (L : List EvD) : Nat → List CallS × List (Int × Int)
  | 0 => ([], [])
  | k + 1 => match L[k]? with
    | some x => ((judge L k x (passC L k).1).2, if (judge L k x (passC L k).1).1 = 0 then (passC L k).2 else (passC L k).2 ++ [((k : Int), (judge L k x (passC L k).1).1)])
    | none => passC L k
theorem passC_succ {L : List EvD} {k : Nat} {x : EvD} (hx : L[k]? = some x) :
    passC L (k + 1) = ((judge L k x (passC L k).1).2, if (judge L k x (passC L k).1).1 = 0 then (passC L k).2 else (passC L k).2 ++ [((k : Int), (judge L k x (passC L k).1).1)]) := by
  simp only [passC, hx]
theorem judge_len (L : List EvD) (i : Nat) (x : EvD) (ss : List CallS) : (judge L i x ss).2.length ≤ ss.length + 1 := by
  unfold judge
  split
  · split <;> simp
  · split
    · split
      · simp
      · split <;> simp
    · simp
theorem passC_len (L : List EvD) : ∀ k, (passC L k).1.length ≤ k ∧ (passC L k).2.length ≤ k
  | 0 => ⟨Nat.le_refl _, Nat.le_refl _⟩
  | k + 1 => by
    have h := passC_len L k
    cases hx : L[k]? with
    | none =>
      simp only [passC, hx]
      omega
    | some x =>
      rw [passC_succ hx]
      have := judge_len L k x (passC L k).1
      refine ⟨by simp only; omega, ?_⟩
      dsimp only
      split
      · omega
      · rw [List.length_append]
        simp only [List.length_cons, List.length_nil]
        omega

/-- the events, below B -/
def RowLow (w : World) (B : Nat) (A : Option Addr) (L : List EvD) : Prop := ∀ (k : Nat) x, L[k]? = some x → ∃ b off cs, A = some ⟨b, off, none⟩ ∧ b < B ∧ cs.length = 28 ∧ w.rangeAt b (off + k * 28) cs ∧ (∀ v ∈ cs, v.oneCell' = true) ∧ ∃ C cap tl, cs = evCells x C cap tl
theorem RowLow.below {w w' : World} {B : Nat} {A : Option Addr} {L : List EvD} (h : RowLow w B A L) (hb : Below B w w') : RowLow w' B A L := fun k x hx => by
  obtain ⟨b, off, cs, e, hlt, hl, hr, h1, h2⟩ := h k x hx
  exact ⟨b, off, cs, e, hlt, hl, fun j v hv => (hb.cell (p := ⟨b, off + k * 28 + j, none⟩) hlt).trans (hr j v hv), h1, h2⟩
theorem RowLow.ev {w : World} {B : Nat} {A : Option Addr} {L : List EvD} (h : RowLow w B A L) : EvLow w B A L := fun k x hx => by
  obtain ⟨b, off, cs, e, hlt, hl, hr, _, C, cap, tl, rfl⟩ := h k x hx
  exact ⟨b, off, e, hlt, hr 0 _ rfl, hr 3 _ rfl⟩
theorem rowLow_of {w : World} {A : Option Addr} {L : List EvD} (h : RowIn 5 28 (EvC 5) w A L) : RowLow w w.heap.size A L := fun k x hx => by
  obtain ⟨b, off, cs, e, hlt, hl, hr, C, cap, tl, rfl, _, h1, _⟩ := h k x hx
  exact ⟨b, off, _, e, hlt, hl, hr, evCells_one h1, C, cap, tl, rfl⟩
theorem own_keeps {W W' : World} {B n : Nat} {v : Value} {xs : List Value} (h : W.ownsRow B 67 2 v n xs) (hk : Keeps W W') : W'.ownsRow B 67 2 v n xs := by
  refine ⟨h.1, ?_⟩
  rcases h.2 with h0 | ⟨g, cap, cur, hv, hg, hh, rest⟩
  · exact .inl h0
  · exact .inr ⟨g, cap, cur, hv, hg, (hk.2 g _ _ hh).trans hh, rest⟩
/-- an append to a row of violations leaves what is known of the calls -/
theorem inv_grown {W W' : World} {A : Option Addr} {len c B mbx lbx mb n b0 : Nat} {ps : List Nat} {ss : List CallS} {v : Value} {xs : List Value} (h : CallsInv W A len c B mbx lbx mb ps ss) (ho : W.ownsRow b0 67 2 v n xs) (hg : W.grownBy W' v.ownBlock) :
    CallsInv W' A len c B mbx lbx mb ps ss := h.keep fun k o hk hne => hg.block k (Array.getElem?_eq_some_iff.1 hk).1 fun e => by
  rcases ho.2 with ⟨rfl, _⟩ | ⟨g, cap, cur, rfl, _, hh, _⟩
  · cases e
  · have e : k = g := by simpa [Value.ownBlock] using e
    subst e
    rw [hh] at hk
    cases hk
    exact hne _ _ rfl

set_option maxHeartbeats 8000000 in
set_option maxRecDepth 100000 in
theorem examine_any (A : Option Addr) (c B mbx lbx mb : Nat) (L : List EvD) (w : World) (hL : RowLow w B A L) (hlen : L.length ≤ 1000) (hB : B ≤ w.heap.size) (hI : CallsInv w A L.length c B mbx lbx mb [] []) :
    Calls Tryz.prog 30 #[.slice A L.length c, .func (.func 31) #[] #[.pointer (some ⟨mbx, 0, none⟩), .pointer (some ⟨lbx, 0, none⟩)]] w fun e w' => ∃ v, e = .returned v ∧ w'.ownsRow w.heap.size 67 2 v (passC L L.length).2.length (fltCells (passC L L.length).2) ∧ Below B w w' := by
  obtain ⟨i0, hi, hz0, hz1, hz2⟩ := info_parts info67
  have HL := Lib.hid hL
  have HI := Lib.hid hI
  clear hL hI
  go_enter Tryz.func30, Tryz.ntmps30
  go_wp2
  go_loopw [5, 11] (fun v i wr => ∃ k : Nat, k ≤ L.length ∧ i = .int .i64 k ∧ wr.ownsRow w.heap.size 67 2 v (passC L k).2.length (fltCells (passC L k).2) ∧ (∃ ps, CallsInv wr A L.length c B mbx lbx mb ps (passC L k).1) ∧ Below B w wr) (fun _ i _ => L.length - (intOf i).toNat)
  case atStart => exact ⟨0, Nat.zero_le _, rfl, ⟨rfl, .inl ⟨rfl, rfl⟩⟩, ⟨[], HI.out⟩, Below.refl _ _⟩
  case round =>
    obtain ⟨k, hk, rfl, hown, ⟨ps, hI⟩, hb⟩ := hrel
    by_cases hlt : k < L.length
    · obtain ⟨x, hx⟩ : ∃ x, L[k]? = some x := ⟨_, List.getElem?_eq_getElem hlt⟩
      have hLr := HL.out.below hb
      obtain ⟨b, off, cs, rfl, hbl, hl, hrr, hone, hE⟩ := hLr k x hx
      have HRR := Lib.hid hrr
      have H28 := Lib.hid (show (Tryz.prog.info? 46).map (·.size) = some cs.length by rw [hl]; exact size46)
      have H28' := Lib.hid (show (Tryz.prog.info? 46).map (·.size) = some cs.toArray.size by rw [List.size_toArray, hl]; exact size46)
      have HSZ := Lib.hid (show (28 : Nat) = cs.toArray.size by rw [List.size_toArray, hl])
      have HONE := Lib.hid (show cs.toArray.all (·.oneCell') = true from all_oneCell_toArray hone)
      have hsz := hb.size
      have hbA : Below wr.heap.size wr (wr.alloc (.cells cs.toArray 46)) := (Below.refl _ wr).alloc (Nat.le_refl _) _
      have hlens := passC_len L k
      have HJ := Lib.hid (judge_any (some ⟨b, off, none⟩) c B mbx lbx mb k L x cs (wr.alloc (.cells cs.toArray 46)) ps (passC L k).1 (hLr.below (hbA.mono (by omega))).ev hE hl (hI.next hbA.block) hlen (by omega) hlt (by simp; omega))
      have HLR := Lib.hid (show (wr.alloc (.cells cs.toArray 46)).rangeAt wr.heap.size 0 cs from rangeAt_new (heap_alloc_last wr (.cells cs.toArray 46)))
      have HP := Lib.hid (passC_succ hx)
      have hownA := hown.alloc (.cells cs.toArray 46)
      have HBA := Lib.hid ((hb.trans (hbA.mono (by omega))))
      obtain ⟨r, hr⟩ : ∃ r, r = judge L k x (passC L k).1 := ⟨_, rfl⟩
      rw [← hr] at HJ HP
      obtain ⟨F, hF⟩ : ∃ F, F = (passC L k).2 := ⟨_, rfl⟩
      rw [← hF] at HP hownA hlens
      obtain ⟨ca, hca⟩ : ∃ ca, ca = cs.toArray := ⟨_, rfl⟩
      rw [← hca] at H28' HSZ HONE HJ HLR hownA HBA
      have HCA := Lib.hid hca
      have HOA := Lib.hid hownA
      obtain ⟨A', c', hv⟩ := shape_of hown
      subst hv
      rw [← hF] at HOA ⊢
      obtain ⟨n, hn⟩ : ∃ n, n = F.length := ⟨_, rfl⟩
      rw [← hn] at HOA hlens ⊢
      have HN := Lib.hid hn
      clear hLr hrr hE hl hone hbA hown hownA hr hF hca hI hx hn
      by_cases hr0 : r.1 = 0
      · go_wp2_with (first | (with_reducible refine wpList_load_mid rfl 46 (.tmp 14) rfl b (off + k * 28) rfl cs _ HRR.out Tryz.underlying46 rfl H28.out ?_; rw [← HCA.out]) | (refine wpList_store_new rfl 46 (.tmp 7) (.tmp 15) rfl _ ca rfl rfl H28'.out HSZ.out HONE.out ?_) | (with_reducible refine wpList_load_mid rfl 46 (.tmp 7) rfl wr.heap.size 0 rfl cs _ HLR.out Tryz.underlying46 rfl H28.out ?_; rw [← HCA.out]) | (go_at_call 31; refine HJ.out.mono ?_; rintro e w1 ⟨rfl, hI1, hb1, hk1⟩; have HI1 := Lib.hid hI1; have HK1 := Lib.hid hk1; clear hI1 hk1))
        go_roundw
        case rel =>
          refine ⟨k + 1, by omega, by go_num, ?_, ?_, HBA.out.trans hb1⟩
          · rw [HP.out, if_pos hr0, ← HN.out]
            exact own_keeps HOA.out HK1.out
          · rw [HP.out]
            exact HI1.out
        case measure => simp [intOf]; omega
      · go_wp2_with (first | (with_reducible refine wpList_load_mid rfl 46 (.tmp 14) rfl b (off + k * 28) rfl cs _ HRR.out Tryz.underlying46 rfl H28.out ?_; rw [← HCA.out]) | (refine wpList_store_new rfl 46 (.tmp 7) (.tmp 15) rfl _ ca rfl rfl H28'.out HSZ.out HONE.out ?_) | (with_reducible refine wpList_load_mid rfl 46 (.tmp 7) rfl wr.heap.size 0 rfl cs _ HLR.out Tryz.underlying46 rfl H28.out ?_; rw [← HCA.out]) | (go_at_call 31; refine HJ.out.mono ?_; rintro e w1 ⟨rfl, hI1, hb1, hk1⟩; have HI1 := Lib.hid hI1; have HK1 := Lib.hid hk1; have hown1 := (own_keeps HOA.out HK1.out).alloc (.cells #[.int .i64 k, .int .i64 r.1] 67); have hs1 := hk1.1; simp only [World.size_alloc] at hs1; have HCN := Lib.hid (cells_new w1 [.int .i64 k, .int .i64 r.1] 67); clear hI1 hk1) | (at_builtin; (refine wpList_append_own _ rfl (.tmp 22) (.tmp 26) 28 rfl w.heap.size 67 i0 _ 2 16 Tryz.underlying28 hi hz0 hz1 hz2 rfl (by decide) _ _ _ rfl hown1 ⟨w1.heap.size, 0, none⟩ 1 1 [.int .i64 k, .int .i64 r.1] rfl rfl HCN.out (by intro u hu; simp at hu; rcases hu with rfl | rfl <;> rfl) (by unfold maxLen; omega) (by omega) (by simp; omega) ?_); intro v' w2 hown' hgrow _))
        have hb2 := (HBA.out.trans (hb1.alloc (by omega) (.cells #[.int .i64 k, .int .i64 r.1] 67))).grown hgrow (by simp; omega) (fun g hg => Nat.le_trans hB (own_lt hown1 g hg))
        obtain ⟨ps1, hI1⟩ := HI1.out
        have HI2 := Lib.hid (inv_grown (hI1.next (W' := w1.alloc (.cells #[.int .i64 k, .int .i64 r.1] 67)) (fun q hq => ((Below.refl w1.heap.size w1).alloc (Nat.le_refl _) _).block q hq)) hown1 hgrow)
        obtain ⟨A2, cap2, rfl⟩ := shape_of hown'
        have HO2 := Lib.hid hown'
        clear hown1 hgrow hown' hI1
        go_wp2
        go_roundw
        case rel =>
          refine ⟨k + 1, by omega, by go_num, ?_, ⟨ps1, ?_⟩, hb2⟩
          · rw [HP.out, if_neg hr0, fltCells_snoc, List.length_append, ← HN.out]
            exact HO2.out
          · rw [HP.out]
            exact HI2.out
        case measure => simp [intOf]; omega
    · obtain rfl : k = L.length := by omega
      obtain ⟨A', c', rfl⟩ := shape_of hown
      have H := Lib.hid hown
      clear hown hlt
      go_wp2
      go_ret
      exact ⟨_, rfl, H.out, hb⟩
end Go.Proofs.YtjhhdklbiibhdaaGreatDoor
