/-
  What the function that verify.CheckCalls hands to examine answers and does in this program: for every event and every state.
-/
import Derived.Test.YtjhhdklbiibhdaaGreatDoorAwakeJudgeC
namespace Go.Proofs.YtjhhdklbiibhdaaGreatDoor
open Go Go.RowKit

def callAt (ss : List CallS) (z : Int) : Option CallS := if 1 ≤ z then ss[(z - 1).toNat]? else none
def nextOk (L : List EvD) (i : Nat) (x : EvD) : Bool := match L[i + 1]? with
  | some y => decide (y.kind = 3 ∧ y.call = x.call)
  | none => false
def judge (L : List EvD) (i : Nat) (x : EvD) (ss : List CallS) : Int × List CallS :=
  if x.kind = 2 then
    if x.call = (ss.length : Int) + 1 ∧ 0 ≤ x.who then (if nextOk L i x then 0 else 1, ss ++ [⟨true, false, 0, 0⟩]) else (8, ss)
  else if x.kind = 3 ∨ x.kind = 4 ∨ x.kind = 5 ∨ x.kind = 6 then
    match callAt ss x.call with
    | none => (8, ss)
    | some s => if s.opn then ((change s x).1, ss.set (x.call - 1).toNat (change s x).2) else (8, ss)
  else (0, ss)
/-- the events' cells that are read, below B -/
def EvLow (w : World) (B : Nat) (A : Option Addr) (L : List EvD) : Prop := ∀ (k : Nat) y, L[k]? = some y → ∃ b off, A = some ⟨b, off, none⟩ ∧ b < B ∧ w.cell? ⟨b, off + k * 28, none⟩ = some (.int .i64 y.kind) ∧ w.cell? ⟨b, off + k * 28 + 3, none⟩ = some (.int .i64 y.call)
def JRet (w : World) (A : Option Addr) (len c B mbx lbx mb : Nat) (r : Int × List CallS) (e : Ending) (w' : World) : Prop :=
  e = .returned (.int .i64 r.1) ∧ (∃ ps', CallsInv w' A len c B mbx lbx mb ps' r.2) ∧ Below B w w' ∧ Keeps w w'

theorem keeps_of {W W' : World} (h : Below W.heap.size W W') : Keeps W W' := ⟨h.size, fun k _ _ hk => h.block k (Array.getElem?_eq_some_iff.1 hk).1⟩
theorem inv_drewN {W : World} {A : Option Addr} {len c B mbx lbx mb n : Nat} {ss : List CallS} (h : ∃ ps', CallsInv W A len c B mbx lbx mb ps' ss) : ∃ ps', CallsInv (W.drewN n) A len c B mbx lbx mb ps' ss := by
  obtain ⟨ps, h⟩ := h
  exact ⟨ps, h.next fun _ _ => rfl⟩
theorem below_drewN {B n : Nat} {a W : World} (h : Below B a W) : Below B a (W.drewN n) := h.trans ⟨rfl, rfl, rfl, Nat.le_refl _, fun _ _ => rfl⟩
theorem keeps_drewN {n : Nat} {a W : World} (h : Keeps a W) : Keeps a (W.drewN n) := ⟨h.1, h.2⟩
theorem zero70 : ∀ w, (zeroValue 70).run Tryz.prog w = .ok (.pointer none) w := by
  have h : (Tryz.prog.info? 70).map (fun i => i.zero) = some (some (.pointer none)) := by kernel_rfl
  intro w
  cases hq : Tryz.prog.info? 70 with
  | none => simp [hq] at h
  | some i =>
    have : i.zero = some (.pointer none) := by simpa [hq] using h
    simp [zeroValue, typeInfo, hq, this]

set_option maxHeartbeats 8000000 in
set_option maxRecDepth 100000 in
theorem judge_dial (A : Option Addr) (c B mbx lbx mb i : Nat) (L : List EvD) (x : EvD) (cs : List Value) (w : World) (ps : List Nat) (ss : List CallS) (hL : EvLow w B A L) (hE : ∃ B cap tl, cs = evCells x B cap tl) (hl : cs.length = 28)
    (hI : CallsInv w A L.length c B mbx lbx mb ps ss) (hlen : L.length ≤ 1000) (hss : ss.length ≤ 1000) (hi : i < L.length) (hB : B ≤ w.heap.size) (k2 : x.kind = 2) :
    Calls Tryz.prog 31 #[.int .i64 i, .agg cs.toArray, .pointer (some ⟨mbx, 0, none⟩), .pointer (some ⟨lbx, 0, none⟩)] w (JRet w A L.length c B mbx lbx mb (judge L i x ss)) := by
  have q0 : cs.toArray[0]? = some (.int .i64 x.kind) := by obtain ⟨_, _, _, rfl⟩ := hE; rfl
  have q2 : cs.toArray[2]? = some (.int .i64 x.who) := by obtain ⟨_, _, _, rfl⟩ := hE; rfl
  have q3 : cs.toArray[3]? = some (.int .i64 x.call) := by obtain ⟨_, _, _, rfl⟩ := hE; rfl
  have H28 := Lib.hid (show (Tryz.prog.info? 46).map (·.size) = some cs.length by rw [hl]; exact size46)
  have HLR := Lib.hid (show (w.alloc (.cells cs.toArray 46)).rangeAt w.heap.size 0 cs from rangeAt_new (heap_alloc_last w (.cells cs.toArray 46)))
  have HCH := Lib.hid (fun (p : Nat) (s : CallS) (W : World) (hp : W.heap[p]? = some (.cells (callCells s) 72)) => change_any p s x cs W hp hE hl)
  obtain ⟨ca, hca⟩ : ∃ ca, ca = cs.toArray := ⟨_, rfl⟩
  rw [← hca] at q0 q2 q3 HLR HCH ⊢
  have HCA := Lib.hid hca
  have hb1 : Below w.heap.size w (w.alloc (.cells ca 46)) := (Below.refl _ w).alloc (Nat.le_refl _) _
  have hI1 := hI.next (W' := w.alloc (.cells ca 46)) hb1.block
  have cm : (w.alloc (.cells ca 46)).cell? ⟨mbx, 0, none⟩ = some (.map (some mb)) := by unfold World.cell?; simp only [hI1.hm]; rfl
  have cl : (w.alloc (.cells ca 46)).cell? ⟨lbx, 0, none⟩ = some (.slice A L.length c) := by unfold World.cell?; simp only [hI1.hl]; rfl
  have HI1 := Lib.hid hI1
  have HB1 := Lib.hid hb1
  have HI := Lib.hid hI
  have HL := Lib.hid hL
  have hpl : ps.length = ss.length := hI.sz
  have HLEN := Lib.hid (fun ty => run_len_ps (P := Tryz.prog) (ty := ty) Tryz.underlying68 hI1.mp)
  clear hI hI1 hb1 hL hE hl hca
  by_cases hc : x.call = (ss.length : Int) + 1
  · by_cases hw : x.who < 0
    · have HR := Lib.hid (show judge L i x ss = (8, ss) by simp only [judge, if_pos k2]; rw [if_neg (by omega)])
      go_enter Tryz.func31, Tryz.ntmps31
      go_wp2_with (refine wpList_len_run rfl 68 (.tmp 14) rfl rfl HLEN.out ?_)
      go_ret
      exact ⟨by rw [HR.out]; rfl, by rw [HR.out]; exact ⟨ps, HI1.out⟩, HB1.out.mono hB, keeps_of HB1.out⟩
    · have hb2 : Below (w.alloc (.cells ca 46)).heap.size (w.alloc (.cells ca 46)) ((w.alloc (.cells ca 46)).alloc (.cells #[.bool true, .bool false, .int .i64 0, .int .i64 0] 72)) := (Below.refl _ _).alloc (Nat.le_refl _) _
      have hz1 : (w.alloc (.cells ca 46)).heap.size = w.heap.size + 1 := by simp
      obtain ⟨W3, hr3, hm3, hg3, hs3⟩ := run_update_next (P := Tryz.prog) (mt := 68) (z := (ss.length : Int) + 1) Tryz.underlying68 Tryz.underlying2 (HI1.out.next hb2.block).mp (w.heap.size + 1) (by rw [hpl])
      obtain ⟨hI3, hB3, hK3⟩ := HI1.out.more (W' := W3) ⟨true, false, 0, 0⟩ (by rw [hz1]; exact hm3) hg3 (by omega)
      have hbw := (HB1.out.mono hB).trans hB3
      have cl3 : W3.cell? ⟨lbx, 0, none⟩ = some (.slice A L.length c) := by unfold World.cell?; simp only [hI3.hl]; rfl
      have hmbl : mb < w.heap.size := by obtain ⟨_, _, h, _⟩ := HI.out.mp; exact (Array.getElem?_eq_some_iff.1 h).1
      have hev : W3.heap[w.heap.size]? = some (.cells ca 46) := (hg3.block w.heap.size (by simp; omega) (by intro e; simp at e; omega)).trans ((hb2.block w.heap.size (by simp)).trans (heap_alloc_last w _))
      have e3 : W3.cell? ⟨w.heap.size, 3, none⟩ = some (.int .i64 x.call) := by unfold World.cell?; simp only [hev]; exact q3
      have HU := Lib.hid hr3
      have HF := Lib.hid (show (∃ ps', CallsInv W3 A L.length c B mbx lbx mb ps' (ss ++ [⟨true, false, 0, 0⟩])) ∧ Below B w W3 ∧ Keeps w W3 from ⟨⟨_, hI3⟩, hbw, (keeps_of HB1.out).trans hK3⟩)
      have hii : (i : Int) < (L.length : Int) := by omega
      rw [← hpl] at hc
      clear hb2 hz1 hr3 hm3 hg3 hs3 hI3 hB3 hK3 hmbl hev
      by_cases hn : i + 1 < L.length
      · obtain ⟨y, hy⟩ : ∃ y, L[i + 1]? = some y := ⟨_, List.getElem?_eq_getElem hn⟩
        obtain ⟨b, off, rfl, hbB, hy0, hy3⟩ := HL.out (i + 1) y hy
        have d0 : W3.cell? ⟨b, off + (i + 1) * 28, none⟩ = some (.int .i64 y.kind) := (hbw.cell (p := ⟨b, off + (i + 1) * 28, none⟩) hbB).trans hy0
        have d3 : W3.cell? ⟨b, off + (i + 1) * 28 + 3, none⟩ = some (.int .i64 y.call) := (hbw.cell (p := ⟨b, off + (i + 1) * 28 + 3, none⟩) hbB).trans hy3
        have hni : ((i : Int) + 1) < (L.length : Int) := by omega
        have hd : decide ((L.length : Int) ≤ (i : Int) + 1) = false := decide_eq_false (by omega)
        by_cases y3 : y.kind = 3
        · by_cases yc : y.call = x.call
          · have HR := Lib.hid (show judge L i x ss = (0, ss ++ [⟨true, false, 0, 0⟩]) by simp only [judge, if_pos k2]; rw [if_pos (by omega)]; simp [nextOk, hy, y3, yc])
            clear hy hy0 hy3 hbw
            go_enter Tryz.func31, Tryz.ntmps31
            go_wp2_with (first | (refine wpList_len_run rfl 68 (.tmp 14) rfl rfl HLEN.out ?_) | (refine wpList_update_run rfl 68 (.tmp 23) (.tmp 25) (.tmp 27) rfl rfl rfl rfl HU.out ?_))
            go_quiet (fail)
            go_wp2
            go_ret
            exact ⟨by rw [HR.out]; rfl, by rw [HR.out]; exact inv_drewN HF.out.1, below_drewN HF.out.2.1, keeps_drewN HF.out.2.2⟩
          · have HR := Lib.hid (show judge L i x ss = (1, ss ++ [⟨true, false, 0, 0⟩]) by simp only [judge, if_pos k2]; rw [if_pos (by omega)]; simp [nextOk, hy, yc])
            clear hy hy0 hy3 hbw
            go_enter Tryz.func31, Tryz.ntmps31
            go_wp2_with (first | (refine wpList_len_run rfl 68 (.tmp 14) rfl rfl HLEN.out ?_) | (refine wpList_update_run rfl 68 (.tmp 23) (.tmp 25) (.tmp 27) rfl rfl rfl rfl HU.out ?_))
            go_quiet (fail)
            go_wp2
            go_ret
            exact ⟨by rw [HR.out]; rfl, by rw [HR.out]; exact inv_drewN HF.out.1, below_drewN HF.out.2.1, keeps_drewN HF.out.2.2⟩
        · have HR := Lib.hid (show judge L i x ss = (1, ss ++ [⟨true, false, 0, 0⟩]) by simp only [judge, if_pos k2]; rw [if_pos (by omega)]; simp [nextOk, hy, y3])
          have hd2 : decide (y.kind = 3) = false := decide_eq_false y3
          have hd3 : (y.kind == 3) = false := by simpa using y3
          have hd4 : (y.kind != 3) = true := by simpa using y3
          clear hy hy0 hy3 hbw
          go_enter Tryz.func31, Tryz.ntmps31
          go_wp2_with (first | (refine wpList_len_run rfl 68 (.tmp 14) rfl rfl HLEN.out ?_) | (refine wpList_update_run rfl 68 (.tmp 23) (.tmp 25) (.tmp 27) rfl rfl rfl rfl HU.out ?_))
          go_quiet (fail)
          go_wp2
          go_ret
          exact ⟨by rw [HR.out]; rfl, by rw [HR.out]; exact inv_drewN HF.out.1, below_drewN HF.out.2.1, keeps_drewN HF.out.2.2⟩
      · have HR := Lib.hid (show judge L i x ss = (1, ss ++ [⟨true, false, 0, 0⟩]) by simp only [judge, if_pos k2]; rw [if_pos (by omega)]; simp [nextOk, List.getElem?_eq_none (show L.length ≤ i + 1 by omega)])
        have hni : (L.length : Int) ≤ ((i : Int) + 1) := by omega
        clear hbw
        go_enter Tryz.func31, Tryz.ntmps31
        go_wp2_with (first | (refine wpList_len_run rfl 68 (.tmp 14) rfl rfl HLEN.out ?_) | (refine wpList_update_run rfl 68 (.tmp 23) (.tmp 25) (.tmp 27) rfl rfl rfl rfl HU.out ?_))
        go_quiet (fail)
        go_wp2
        go_ret
        exact ⟨by rw [HR.out]; rfl, by rw [HR.out]; exact inv_drewN HF.out.1, below_drewN HF.out.2.1, keeps_drewN HF.out.2.2⟩
  · have HR := Lib.hid (show judge L i x ss = (8, ss) by simp only [judge, if_pos k2]; rw [if_neg (fun h => hc h.1)])
    rw [← hpl] at hc
    go_enter Tryz.func31, Tryz.ntmps31
    go_wp2_with (refine wpList_len_run rfl 68 (.tmp 14) rfl rfl HLEN.out ?_)
    go_ret
    exact ⟨by rw [HR.out]; rfl, by rw [HR.out]; exact ⟨ps, HI1.out⟩, HB1.out.mono hB, keeps_of HB1.out⟩
end Go.Proofs.YtjhhdklbiibhdaaGreatDoor
