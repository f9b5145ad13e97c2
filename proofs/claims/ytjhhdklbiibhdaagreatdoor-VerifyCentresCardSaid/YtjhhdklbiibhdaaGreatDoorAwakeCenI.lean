/-
  The same function at an authority; all events together.
-/
import Derived.Test.YtjhhdklbiibhdaaGreatDoorAwakeCenH
import Derived.Test.YtjhhdklbiibhdaaGreatDoorAwakeMapA
import Derived.Deep.Cut
namespace Go.Proofs.YtjhhdklbiibhdaaGreatDoor
open Go Go.RowKit

theorem zero85 : ∀ w, (zeroValue 85).run Tryz.prog w = .ok (.agg #[.int .i64 0, .int .i64 0, .int .i64 0]) w := by
  have h : (Tryz.prog.info? 85).map (fun i => i.zero) = some (some (.agg #[.int .i64 0, .int .i64 0, .int .i64 0])) := by kernel_rfl
  intro w
  cases hq : Tryz.prog.info? 85 with
  | none => simp [hq] at h
  | some i =>
    have : i.zero = some (.agg #[.int .i64 0, .int .i64 0, .int .i64 0]) := by simpa [hq] using h
    simp [zeroValue, typeInfo, hq, this]
theorem judgeOn12 {E : List EnD} {x : EvD} {s : LogS} {c : CenS} (k : x.kind = 12) : judgeOn E x s c = match getA s.auth x.n with
    | some a => if clash a x then (2, s) else (0, ⟨s.cen, putA s.auth (authOf x)⟩)
    | none => (0, ⟨s.cen, putA s.auth (authOf x)⟩) := by
  unfold judgeOn
  rw [if_neg (by omega), if_neg (by omega), if_neg (by omega), if_pos k]
  rfl

set_option maxHeartbeats 8000000 in
set_option maxRecDepth 100000 in
theorem judgeL_new12 (B cbx lbx mbx mb i : Nat) (E : List EnD) (AE : Option Addr) (cE : Nat) (x : EvD) (C : Option Addr) (cap : Nat) (tl : List Value) (w : World) (s : LogS)
    (hBy : BytesLow w B C x.body) (hEn : EnLow w B AE E) (hI : CenInv w AE E.length cE B cbx lbx mbx mb s) (hB : B ≤ w.heap.size) (hbd : ∀ c ∈ s.cen, 0 ≤ c.last ∧ c.last ≤ 1000) (j : Nat) (hj : x.who = (j : Int)) (hj9 : j < 9) (c : CenS) (hc : s.cen[j]? = some c) (k : x.kind = 12) (hd : c.down = decide (x.kind = 11)) (hg : getA s.auth x.n = none) :
    Calls Tryz.prog 33 #[.int .i64 i, .agg (evCells x C cap tl).toArray, .pointer (some ⟨cbx, 0, none⟩), .pointer (some ⟨lbx, 0, none⟩), .pointer (some ⟨mbx, 0, none⟩)] w (LRet w AE E.length cE B cbx lbx mbx mb (judgeL E x s)) := by
  have q0 : (evCells x C cap tl).toArray[0]? = some (.int .i64 x.kind) := rfl
  have q1 : (evCells x C cap tl).toArray[1]? = some (.int .i64 x.tick) := rfl
  have q2 : (evCells x C cap tl).toArray[2]? = some (.int .i64 x.who) := rfl
  have q4 : (evCells x C cap tl).toArray[4]? = some (.int .i64 x.epoch) := rfl
  have q5 : (evCells x C cap tl).toArray[5]? = some (.int .i64 x.n) := rfl
  have q6 : (evCells x C cap tl).toArray[6]? = some (.int .i64 x.term) := rfl
  have q7 : (evCells x C cap tl).toArray[7]? = some (.int .i64 x.ek) := rfl
  have q8 : (evCells x C cap tl).toArray[8]? = some (.slice C x.body.length cap) := rfl
  generalize (evCells x C cap tl).toArray = ca at q0 q1 q2 q4 q5 q6 q7 q8 ⊢
  have hb1 : Below w.heap.size w (w.alloc (.cells ca 46)) := (Below.refl _ w).alloc (Nat.le_refl _) _
  have HI1 := Lib.hid (hI.next (W' := w.alloc (.cells ca 46)) hb1.block)
  have HB1 := Lib.hid hb1
  have HEN := Lib.hid hEn
  have HBY := Lib.hid hBy
  have HBD := Lib.hid hbd
  clear hEn hBy hI hb1 hbd
  have HAT := Lib.hid (show cenAt s.cen x.who = some c by unfold cenAt; rw [if_pos (by omega), show x.who.toNat = j by omega]; exact hc)
  have HJ := Lib.hid (show x.who.toNat = j by omega)
  have HC := Lib.hid hc
  have o0 : (w.alloc (.cells ca 46)).cell? ⟨cbx, j * 2, none⟩ = some (.bool c.down) := cells_of HI1.out.hc (cenCells_at _ j c hc).1
  have o1 : (w.alloc (.cells ca 46)).cell? ⟨cbx, j * 2 + 1, none⟩ = some (.int .i64 c.last) := cells_of HI1.out.hc (cenCells_at _ j c hc).2
  have fr : ∀ i, (w.alloc (.cells ca 46)).frozen? ⟨cbx, i, none⟩ = false := frozen_of HI1.out.hc
  rw [hj] at q2
  have hj0 : decide ((j : Int) < 0) = false := decide_eq_false (by omega)
  have hj8 : decide ((9 : Int) ≤ (j : Int)) = false := decide_eq_false (by omega)
  have hjl : (j : Int) < 9 := by omega
  have hlast := HBD.out c (List.mem_of_getElem? hc)
  have HD := Lib.hid hd
  rw [k] at q0 hd
  rw [show c.down = _ from (by simpa using hd)] at o0
  have HR := Lib.hid (show judgeL E x s = (0, ⟨s.cen, putA s.auth (authOf x)⟩) by simp only [judgeL, show logKind x.kind = true by rw [k]; rfl, if_true, HAT.out]; rw [if_pos HD.out, judgeOn12 k]; rw [hg])
  have cm : (w.alloc (.cells ca 46)).cell? ⟨mbx, 0, none⟩ = some (.map (some mb)) := by unfold World.cell?; simp only [HI1.out.hm]; rfl
  have HLK := Lib.hid (show ∀ n, (Instr.lookup 81 (.map (some mb)) (.int .i64 x.n) true).run Tryz.prog ((w.alloc (.cells ca 46)).drewN n) = .ok (.tuple #[.agg #[.int .i64 0, .int .i64 0, .int .i64 0], .bool false]) ((w.alloc (.cells ca 46)).drewN n) from fun n => by
    have h := (run_lookup_kv (P := Tryz.prog) (mt := 81) Tryz.underlying81 Tryz.underlying2 zero85 (HI1.out.next (W' := (w.alloc (.cells ca 46)).drewN n) fun _ _ => rfl).mp x.n).1
    rw [authKv_get, hg] at h
    exact h)
  have HW := Lib.hid (show authV (authOf x) = .agg #[.int .i64 (j : Int), .int .i64 x.tick, .int .i64 x.epoch] by simp [authV, authOf, hj])
  clear hd hj hc k hlast hg
  go_enter Tryz.func33, Tryz.ntmps33
  go_wp2
  go_quiet (fail)
  obtain ⟨W3, hr3, hm3, hg3, hs3⟩ := run_update_kv (P := Tryz.prog) (mt := 81) Tryz.underlying81 Tryz.underlying2 ((HI1.out.next (W' := (w.alloc (.cells ca 46)).drewN nq) fun _ _ => rfl).next (W' := ((w.alloc (.cells ca 46)).drewN nq).alloc (.cells #[.int .i64 0, .int .i64 0, .int .i64 0] 85)) ((Below.refl ((w.alloc (.cells ca 46)).drewN nq).heap.size _).alloc (Nat.le_refl _) _).block).mp x.n (.agg #[.int .i64 (j : Int), .int .i64 x.tick, .int .i64 x.epoch])
  have cm2 : (((w.alloc (.cells ca 46)).drewN nq).alloc (.cells #[.int .i64 0, .int .i64 0, .int .i64 0] 85)).cell? ⟨mbx, 0, none⟩ = some (.map (some mb)) := by unfold World.cell?; simp only [((HI1.out.next (W' := (w.alloc (.cells ca 46)).drewN nq) fun _ _ => rfl).next (W' := ((w.alloc (.cells ca 46)).drewN nq).alloc (.cells #[.int .i64 0, .int .i64 0, .int .i64 0] 85)) ((Below.refl ((w.alloc (.cells ca 46)).drewN nq).heap.size _).alloc (Nat.le_refl _) _).block).hm]; rfl
  have HU := Lib.hid hr3
  have HM3 := Lib.hid hm3
  have HG3 := Lib.hid hg3
  clear hr3 hm3 hg3 hs3
  go_upto_region 23 with fail
  go_upto_region 24 with (refine wpList_lookup_ok (P := Tryz.prog) (W := (w.alloc (.cells ca 46)).drewN nq) (mv := .map (some mb)) (kv := .int .i64 x.n) rfl 81 (.tmp 88) (.tmp 90) rfl rfl rfl (HLK.out nq) ?_)
  go_upto_region 26 with fail
  go_wp2_with (refine wpList_update_run (P := Tryz.prog) (W := ((w.alloc (.cells ca 46)).drewN nq).alloc (.cells #[.int .i64 0, .int .i64 0, .int .i64 0] 85)) (mv := .map (some mb)) (kv := .int .i64 x.n) (xv := .agg #[.int .i64 (j : Int), .int .i64 x.tick, .int .i64 x.epoch]) rfl 81 (.tmp 116) (.tmp 118) (.tmp 125) rfl rfl rfl rfl HU.out ?_)
  go_ret
  have hbA : Below ((w.alloc (.cells ca 46)).drewN nq).heap.size ((w.alloc (.cells ca 46)).drewN nq) (((w.alloc (.cells ca 46)).drewN nq).alloc (.cells #[.int .i64 0, .int .i64 0, .int .i64 0] 85)) := (Below.refl _ _).alloc (Nat.le_refl _) _
  have hB1 : B ≤ ((w.alloc (.cells ca 46)).drewN nq).heap.size := (show B ≤ (w.alloc (.cells ca 46)).heap.size by simp; omega)
  have hIA := (HI1.out.next (W' := (w.alloc (.cells ca 46)).drewN nq) fun _ _ => rfl).next (W' := ((w.alloc (.cells ca 46)).drewN nq).alloc (.cells #[.int .i64 0, .int .i64 0, .int .i64 0] 85)) hbA.block
  obtain ⟨h1, h2, h3⟩ := hIA.map (a := authOf x) HG3.out (by rw [HW.out]; exact HM3.out) (Nat.le_trans hB1 hbA.size)
  exact ⟨by rw [HR.out]; rfl, by rw [HR.out]; exact h1, ((belowF_drewN (n := nq) (HB1.out.mono hB)).trans (hbA.mono hB1)).trans h2, ((keepsF_drewN (n := nq) (keepsF_of HB1.out)).trans (keepsF_of hbA)).trans h3⟩

set_option maxHeartbeats 8000000 in
set_option maxRecDepth 100000 in
theorem judgeL_old12 (B cbx lbx mbx mb i : Nat) (E : List EnD) (AE : Option Addr) (cE : Nat) (x : EvD) (C : Option Addr) (cap : Nat) (tl : List Value) (w : World) (s : LogS)
    (hBy : BytesLow w B C x.body) (hEn : EnLow w B AE E) (hI : CenInv w AE E.length cE B cbx lbx mbx mb s) (hB : B ≤ w.heap.size) (hbd : ∀ c ∈ s.cen, 0 ≤ c.last ∧ c.last ≤ 1000) (j : Nat) (hj : x.who = (j : Int)) (hj9 : j < 9) (c : CenS) (hc : s.cen[j]? = some c) (k : x.kind = 12) (hd : c.down = decide (x.kind = 11)) (a : AuthS) (hg : getA s.auth x.n = some a) (he : x.epoch < a.epoch) :
    Calls Tryz.prog 33 #[.int .i64 i, .agg (evCells x C cap tl).toArray, .pointer (some ⟨cbx, 0, none⟩), .pointer (some ⟨lbx, 0, none⟩), .pointer (some ⟨mbx, 0, none⟩)] w (LRet w AE E.length cE B cbx lbx mbx mb (judgeL E x s)) := by
  have q0 : (evCells x C cap tl).toArray[0]? = some (.int .i64 x.kind) := rfl
  have q1 : (evCells x C cap tl).toArray[1]? = some (.int .i64 x.tick) := rfl
  have q2 : (evCells x C cap tl).toArray[2]? = some (.int .i64 x.who) := rfl
  have q4 : (evCells x C cap tl).toArray[4]? = some (.int .i64 x.epoch) := rfl
  have q5 : (evCells x C cap tl).toArray[5]? = some (.int .i64 x.n) := rfl
  have q6 : (evCells x C cap tl).toArray[6]? = some (.int .i64 x.term) := rfl
  have q7 : (evCells x C cap tl).toArray[7]? = some (.int .i64 x.ek) := rfl
  have q8 : (evCells x C cap tl).toArray[8]? = some (.slice C x.body.length cap) := rfl
  generalize (evCells x C cap tl).toArray = ca at q0 q1 q2 q4 q5 q6 q7 q8 ⊢
  have hb1 : Below w.heap.size w (w.alloc (.cells ca 46)) := (Below.refl _ w).alloc (Nat.le_refl _) _
  have HI1 := Lib.hid (hI.next (W' := w.alloc (.cells ca 46)) hb1.block)
  have HB1 := Lib.hid hb1
  have HEN := Lib.hid hEn
  have HBY := Lib.hid hBy
  have HBD := Lib.hid hbd
  clear hEn hBy hI hb1 hbd
  have HAT := Lib.hid (show cenAt s.cen x.who = some c by unfold cenAt; rw [if_pos (by omega), show x.who.toNat = j by omega]; exact hc)
  have HJ := Lib.hid (show x.who.toNat = j by omega)
  have HC := Lib.hid hc
  have o0 : (w.alloc (.cells ca 46)).cell? ⟨cbx, j * 2, none⟩ = some (.bool c.down) := cells_of HI1.out.hc (cenCells_at _ j c hc).1
  have o1 : (w.alloc (.cells ca 46)).cell? ⟨cbx, j * 2 + 1, none⟩ = some (.int .i64 c.last) := cells_of HI1.out.hc (cenCells_at _ j c hc).2
  have fr : ∀ i, (w.alloc (.cells ca 46)).frozen? ⟨cbx, i, none⟩ = false := frozen_of HI1.out.hc
  rw [hj] at q2
  have hj0 : decide ((j : Int) < 0) = false := decide_eq_false (by omega)
  have hj8 : decide ((9 : Int) ≤ (j : Int)) = false := decide_eq_false (by omega)
  have hjl : (j : Int) < 9 := by omega
  have hlast := HBD.out c (List.mem_of_getElem? hc)
  have HD := Lib.hid hd
  rw [k] at q0 hd
  rw [show c.down = _ from (by simpa using hd)] at o0
  have HR := Lib.hid (show judgeL E x s = (2, s) by simp only [judgeL, show logKind x.kind = true by rw [k]; rfl, if_true, HAT.out]; rw [if_pos HD.out, judgeOn12 k]; rw [hg]; simp only [show clash a x = true by simp [clash, he], if_true])
  have cm : (w.alloc (.cells ca 46)).cell? ⟨mbx, 0, none⟩ = some (.map (some mb)) := by unfold World.cell?; simp only [HI1.out.hm]; rfl
  have HLK := Lib.hid (show ∀ n, (Instr.lookup 81 (.map (some mb)) (.int .i64 x.n) true).run Tryz.prog ((w.alloc (.cells ca 46)).drewN n) = .ok (.tuple #[.agg #[.int .i64 a.who, .int .i64 a.tick, .int .i64 a.epoch], .bool true]) ((w.alloc (.cells ca 46)).drewN n) from fun n => by
    have h := (run_lookup_kv (P := Tryz.prog) (mt := 81) Tryz.underlying81 Tryz.underlying2 zero85 (HI1.out.next (W' := (w.alloc (.cells ca 46)).drewN n) fun _ _ => rfl).mp x.n).1
    rw [authKv_get, hg] at h
    exact h)
  have HW := Lib.hid (show authV (authOf x) = .agg #[.int .i64 (j : Int), .int .i64 x.tick, .int .i64 x.epoch] by simp [authV, authOf, hj])
  clear hd hj hc k hlast hg
  have he2 : decide (x.epoch < a.epoch) = true := decide_eq_true he
  go_enter Tryz.func33, Tryz.ntmps33
  go_wp2
  go_quiet (fail)
  go_upto_region 23 with fail
  go_upto_region 24 with (refine wpList_lookup_ok (P := Tryz.prog) (W := (w.alloc (.cells ca 46)).drewN nq) (mv := .map (some mb)) (kv := .int .i64 x.n) rfl 81 (.tmp 88) (.tmp 90) rfl rfl rfl (HLK.out nq) ?_)
  go_wp2
  go_ret
  have hbA : Below ((w.alloc (.cells ca 46)).drewN nq).heap.size ((w.alloc (.cells ca 46)).drewN nq) (((w.alloc (.cells ca 46)).drewN nq).alloc (.cells #[.int .i64 a.who, .int .i64 a.tick, .int .i64 a.epoch] 85)) := (Below.refl _ _).alloc (Nat.le_refl _) _
  have hB1 : B ≤ ((w.alloc (.cells ca 46)).drewN nq).heap.size := (show B ≤ (w.alloc (.cells ca 46)).heap.size by simp; omega)
  have hIA := (HI1.out.next (W' := (w.alloc (.cells ca 46)).drewN nq) fun _ _ => rfl).next (W' := ((w.alloc (.cells ca 46)).drewN nq).alloc (.cells #[.int .i64 a.who, .int .i64 a.tick, .int .i64 a.epoch] 85)) hbA.block
  exact ⟨by rw [HR.out]; rfl, by rw [HR.out]; exact hIA, (belowF_drewN (n := nq) (HB1.out.mono hB)).trans (hbA.mono hB1), (keepsF_drewN (n := nq) (keepsF_of HB1.out)).trans (keepsF_of hbA)⟩

set_option maxHeartbeats 8000000 in
set_option maxRecDepth 100000 in
theorem judgeL_who12 (B cbx lbx mbx mb i : Nat) (E : List EnD) (AE : Option Addr) (cE : Nat) (x : EvD) (C : Option Addr) (cap : Nat) (tl : List Value) (w : World) (s : LogS)
    (hBy : BytesLow w B C x.body) (hEn : EnLow w B AE E) (hI : CenInv w AE E.length cE B cbx lbx mbx mb s) (hB : B ≤ w.heap.size) (hbd : ∀ c ∈ s.cen, 0 ≤ c.last ∧ c.last ≤ 1000) (j : Nat) (hj : x.who = (j : Int)) (hj9 : j < 9) (c : CenS) (hc : s.cen[j]? = some c) (k : x.kind = 12) (hd : c.down = decide (x.kind = 11)) (a : AuthS) (hg : getA s.auth x.n = some a) (he : ¬ x.epoch < a.epoch) (ht : a.tick = x.tick) (hw : ¬ a.who = (j : Int)) :
    Calls Tryz.prog 33 #[.int .i64 i, .agg (evCells x C cap tl).toArray, .pointer (some ⟨cbx, 0, none⟩), .pointer (some ⟨lbx, 0, none⟩), .pointer (some ⟨mbx, 0, none⟩)] w (LRet w AE E.length cE B cbx lbx mbx mb (judgeL E x s)) := by
  have q0 : (evCells x C cap tl).toArray[0]? = some (.int .i64 x.kind) := rfl
  have q1 : (evCells x C cap tl).toArray[1]? = some (.int .i64 x.tick) := rfl
  have q2 : (evCells x C cap tl).toArray[2]? = some (.int .i64 x.who) := rfl
  have q4 : (evCells x C cap tl).toArray[4]? = some (.int .i64 x.epoch) := rfl
  have q5 : (evCells x C cap tl).toArray[5]? = some (.int .i64 x.n) := rfl
  have q6 : (evCells x C cap tl).toArray[6]? = some (.int .i64 x.term) := rfl
  have q7 : (evCells x C cap tl).toArray[7]? = some (.int .i64 x.ek) := rfl
  have q8 : (evCells x C cap tl).toArray[8]? = some (.slice C x.body.length cap) := rfl
  generalize (evCells x C cap tl).toArray = ca at q0 q1 q2 q4 q5 q6 q7 q8 ⊢
  have hb1 : Below w.heap.size w (w.alloc (.cells ca 46)) := (Below.refl _ w).alloc (Nat.le_refl _) _
  have HI1 := Lib.hid (hI.next (W' := w.alloc (.cells ca 46)) hb1.block)
  have HB1 := Lib.hid hb1
  have HEN := Lib.hid hEn
  have HBY := Lib.hid hBy
  have HBD := Lib.hid hbd
  clear hEn hBy hI hb1 hbd
  have HAT := Lib.hid (show cenAt s.cen x.who = some c by unfold cenAt; rw [if_pos (by omega), show x.who.toNat = j by omega]; exact hc)
  have HJ := Lib.hid (show x.who.toNat = j by omega)
  have HC := Lib.hid hc
  have o0 : (w.alloc (.cells ca 46)).cell? ⟨cbx, j * 2, none⟩ = some (.bool c.down) := cells_of HI1.out.hc (cenCells_at _ j c hc).1
  have o1 : (w.alloc (.cells ca 46)).cell? ⟨cbx, j * 2 + 1, none⟩ = some (.int .i64 c.last) := cells_of HI1.out.hc (cenCells_at _ j c hc).2
  have fr : ∀ i, (w.alloc (.cells ca 46)).frozen? ⟨cbx, i, none⟩ = false := frozen_of HI1.out.hc
  rw [hj] at q2
  have hj0 : decide ((j : Int) < 0) = false := decide_eq_false (by omega)
  have hj8 : decide ((9 : Int) ≤ (j : Int)) = false := decide_eq_false (by omega)
  have hjl : (j : Int) < 9 := by omega
  have hlast := HBD.out c (List.mem_of_getElem? hc)
  have HD := Lib.hid hd
  rw [k] at q0 hd
  rw [show c.down = _ from (by simpa using hd)] at o0
  have HR := Lib.hid (show judgeL E x s = (2, s) by simp only [judgeL, show logKind x.kind = true by rw [k]; rfl, if_true, HAT.out]; rw [if_pos HD.out, judgeOn12 k]; rw [hg]; simp only [show clash a x = true by simp [clash, ht, hj, hw], if_true])
  have cm : (w.alloc (.cells ca 46)).cell? ⟨mbx, 0, none⟩ = some (.map (some mb)) := by unfold World.cell?; simp only [HI1.out.hm]; rfl
  have HLK := Lib.hid (show ∀ n, (Instr.lookup 81 (.map (some mb)) (.int .i64 x.n) true).run Tryz.prog ((w.alloc (.cells ca 46)).drewN n) = .ok (.tuple #[.agg #[.int .i64 a.who, .int .i64 x.tick, .int .i64 a.epoch], .bool true]) ((w.alloc (.cells ca 46)).drewN n) from fun n => by
    have h := (run_lookup_kv (P := Tryz.prog) (mt := 81) Tryz.underlying81 Tryz.underlying2 zero85 (HI1.out.next (W' := (w.alloc (.cells ca 46)).drewN n) fun _ _ => rfl).mp x.n).1
    rw [authKv_get, hg] at h
    rw [← ht]
    exact h)
  have HW := Lib.hid (show authV (authOf x) = .agg #[.int .i64 (j : Int), .int .i64 x.tick, .int .i64 x.epoch] by simp [authV, authOf, hj])
  clear hd hj hc k hlast hg ht
  have he2 : decide (x.epoch < a.epoch) = false := decide_eq_false he
  go_enter Tryz.func33, Tryz.ntmps33
  go_wp2
  go_quiet (fail)
  go_upto_region 23 with fail
  go_upto_region 24 with (refine wpList_lookup_ok (P := Tryz.prog) (W := (w.alloc (.cells ca 46)).drewN nq) (mv := .map (some mb)) (kv := .int .i64 x.n) rfl 81 (.tmp 88) (.tmp 90) rfl rfl rfl (HLK.out nq) ?_)
  go_wp2
  go_ret
  have hbA : Below ((w.alloc (.cells ca 46)).drewN nq).heap.size ((w.alloc (.cells ca 46)).drewN nq) (((w.alloc (.cells ca 46)).drewN nq).alloc (.cells #[.int .i64 a.who, .int .i64 x.tick, .int .i64 a.epoch] 85)) := (Below.refl _ _).alloc (Nat.le_refl _) _
  have hB1 : B ≤ ((w.alloc (.cells ca 46)).drewN nq).heap.size := (show B ≤ (w.alloc (.cells ca 46)).heap.size by simp; omega)
  have hIA := (HI1.out.next (W' := (w.alloc (.cells ca 46)).drewN nq) fun _ _ => rfl).next (W' := ((w.alloc (.cells ca 46)).drewN nq).alloc (.cells #[.int .i64 a.who, .int .i64 x.tick, .int .i64 a.epoch] 85)) hbA.block
  exact ⟨by rw [HR.out]; rfl, by rw [HR.out]; exact hIA, (belowF_drewN (n := nq) (HB1.out.mono hB)).trans (hbA.mono hB1), (keepsF_drewN (n := nq) (keepsF_of HB1.out)).trans (keepsF_of hbA)⟩

set_option maxHeartbeats 8000000 in
set_option maxRecDepth 100000 in
theorem judgeL_own12 (B cbx lbx mbx mb i : Nat) (E : List EnD) (AE : Option Addr) (cE : Nat) (x : EvD) (C : Option Addr) (cap : Nat) (tl : List Value) (w : World) (s : LogS)
    (hBy : BytesLow w B C x.body) (hEn : EnLow w B AE E) (hI : CenInv w AE E.length cE B cbx lbx mbx mb s) (hB : B ≤ w.heap.size) (hbd : ∀ c ∈ s.cen, 0 ≤ c.last ∧ c.last ≤ 1000) (j : Nat) (hj : x.who = (j : Int)) (hj9 : j < 9) (c : CenS) (hc : s.cen[j]? = some c) (k : x.kind = 12) (hd : c.down = decide (x.kind = 11)) (a : AuthS) (hg : getA s.auth x.n = some a) (he : ¬ x.epoch < a.epoch) (ht : a.tick = x.tick) (hw : a.who = (j : Int)) :
    Calls Tryz.prog 33 #[.int .i64 i, .agg (evCells x C cap tl).toArray, .pointer (some ⟨cbx, 0, none⟩), .pointer (some ⟨lbx, 0, none⟩), .pointer (some ⟨mbx, 0, none⟩)] w (LRet w AE E.length cE B cbx lbx mbx mb (judgeL E x s)) := by
  have q0 : (evCells x C cap tl).toArray[0]? = some (.int .i64 x.kind) := rfl
  have q1 : (evCells x C cap tl).toArray[1]? = some (.int .i64 x.tick) := rfl
  have q2 : (evCells x C cap tl).toArray[2]? = some (.int .i64 x.who) := rfl
  have q4 : (evCells x C cap tl).toArray[4]? = some (.int .i64 x.epoch) := rfl
  have q5 : (evCells x C cap tl).toArray[5]? = some (.int .i64 x.n) := rfl
  have q6 : (evCells x C cap tl).toArray[6]? = some (.int .i64 x.term) := rfl
  have q7 : (evCells x C cap tl).toArray[7]? = some (.int .i64 x.ek) := rfl
  have q8 : (evCells x C cap tl).toArray[8]? = some (.slice C x.body.length cap) := rfl
  generalize (evCells x C cap tl).toArray = ca at q0 q1 q2 q4 q5 q6 q7 q8 ⊢
  have hb1 : Below w.heap.size w (w.alloc (.cells ca 46)) := (Below.refl _ w).alloc (Nat.le_refl _) _
  have HI1 := Lib.hid (hI.next (W' := w.alloc (.cells ca 46)) hb1.block)
  have HB1 := Lib.hid hb1
  have HEN := Lib.hid hEn
  have HBY := Lib.hid hBy
  have HBD := Lib.hid hbd
  clear hEn hBy hI hb1 hbd
  have HAT := Lib.hid (show cenAt s.cen x.who = some c by unfold cenAt; rw [if_pos (by omega), show x.who.toNat = j by omega]; exact hc)
  have HJ := Lib.hid (show x.who.toNat = j by omega)
  have HC := Lib.hid hc
  have o0 : (w.alloc (.cells ca 46)).cell? ⟨cbx, j * 2, none⟩ = some (.bool c.down) := cells_of HI1.out.hc (cenCells_at _ j c hc).1
  have o1 : (w.alloc (.cells ca 46)).cell? ⟨cbx, j * 2 + 1, none⟩ = some (.int .i64 c.last) := cells_of HI1.out.hc (cenCells_at _ j c hc).2
  have fr : ∀ i, (w.alloc (.cells ca 46)).frozen? ⟨cbx, i, none⟩ = false := frozen_of HI1.out.hc
  rw [hj] at q2
  have hj0 : decide ((j : Int) < 0) = false := decide_eq_false (by omega)
  have hj8 : decide ((9 : Int) ≤ (j : Int)) = false := decide_eq_false (by omega)
  have hjl : (j : Int) < 9 := by omega
  have hlast := HBD.out c (List.mem_of_getElem? hc)
  have HD := Lib.hid hd
  rw [k] at q0 hd
  rw [show c.down = _ from (by simpa using hd)] at o0
  have HR := Lib.hid (show judgeL E x s = (0, ⟨s.cen, putA s.auth (authOf x)⟩) by simp only [judgeL, show logKind x.kind = true by rw [k]; rfl, if_true, HAT.out]; rw [if_pos HD.out, judgeOn12 k]; rw [hg]; simp only [show clash a x = false by simp [clash, hj, hw]; omega, Bool.false_eq_true, if_false])
  have cm : (w.alloc (.cells ca 46)).cell? ⟨mbx, 0, none⟩ = some (.map (some mb)) := by unfold World.cell?; simp only [HI1.out.hm]; rfl
  have HLK := Lib.hid (show ∀ n, (Instr.lookup 81 (.map (some mb)) (.int .i64 x.n) true).run Tryz.prog ((w.alloc (.cells ca 46)).drewN n) = .ok (.tuple #[.agg #[.int .i64 (j : Int), .int .i64 x.tick, .int .i64 a.epoch], .bool true]) ((w.alloc (.cells ca 46)).drewN n) from fun n => by
    have h := (run_lookup_kv (P := Tryz.prog) (mt := 81) Tryz.underlying81 Tryz.underlying2 zero85 (HI1.out.next (W' := (w.alloc (.cells ca 46)).drewN n) fun _ _ => rfl).mp x.n).1
    rw [authKv_get, hg] at h
    rw [← ht, ← hw]
    exact h)
  have HW := Lib.hid (show authV (authOf x) = .agg #[.int .i64 (j : Int), .int .i64 x.tick, .int .i64 x.epoch] by simp [authV, authOf, hj])
  clear hd hj hc k hlast hg ht hw
  have he2 : decide (x.epoch < a.epoch) = false := decide_eq_false he
  go_enter Tryz.func33, Tryz.ntmps33
  go_wp2
  go_quiet (fail)
  obtain ⟨W3, hr3, hm3, hg3, hs3⟩ := run_update_kv (P := Tryz.prog) (mt := 81) Tryz.underlying81 Tryz.underlying2 ((HI1.out.next (W' := (w.alloc (.cells ca 46)).drewN nq) fun _ _ => rfl).next (W' := ((w.alloc (.cells ca 46)).drewN nq).alloc (.cells #[.int .i64 (j : Int), .int .i64 x.tick, .int .i64 a.epoch] 85)) ((Below.refl ((w.alloc (.cells ca 46)).drewN nq).heap.size _).alloc (Nat.le_refl _) _).block).mp x.n (.agg #[.int .i64 (j : Int), .int .i64 x.tick, .int .i64 x.epoch])
  have cm2 : (((w.alloc (.cells ca 46)).drewN nq).alloc (.cells #[.int .i64 (j : Int), .int .i64 x.tick, .int .i64 a.epoch] 85)).cell? ⟨mbx, 0, none⟩ = some (.map (some mb)) := by unfold World.cell?; simp only [((HI1.out.next (W' := (w.alloc (.cells ca 46)).drewN nq) fun _ _ => rfl).next (W' := ((w.alloc (.cells ca 46)).drewN nq).alloc (.cells #[.int .i64 (j : Int), .int .i64 x.tick, .int .i64 a.epoch] 85)) ((Below.refl ((w.alloc (.cells ca 46)).drewN nq).heap.size _).alloc (Nat.le_refl _) _).block).hm]; rfl
  have HU := Lib.hid hr3
  have HM3 := Lib.hid hm3
  have HG3 := Lib.hid hg3
  clear hr3 hm3 hg3 hs3
  go_upto_region 23 with fail
  go_upto_region 24 with (refine wpList_lookup_ok (P := Tryz.prog) (W := (w.alloc (.cells ca 46)).drewN nq) (mv := .map (some mb)) (kv := .int .i64 x.n) rfl 81 (.tmp 88) (.tmp 90) rfl rfl rfl (HLK.out nq) ?_)
  go_upto_region 26 with fail
  go_wp2_with (refine wpList_update_run (P := Tryz.prog) (W := ((w.alloc (.cells ca 46)).drewN nq).alloc (.cells #[.int .i64 (j : Int), .int .i64 x.tick, .int .i64 a.epoch] 85)) (mv := .map (some mb)) (kv := .int .i64 x.n) (xv := .agg #[.int .i64 (j : Int), .int .i64 x.tick, .int .i64 x.epoch]) rfl 81 (.tmp 116) (.tmp 118) (.tmp 125) rfl rfl rfl rfl HU.out ?_)
  go_ret
  have hbA : Below ((w.alloc (.cells ca 46)).drewN nq).heap.size ((w.alloc (.cells ca 46)).drewN nq) (((w.alloc (.cells ca 46)).drewN nq).alloc (.cells #[.int .i64 (j : Int), .int .i64 x.tick, .int .i64 a.epoch] 85)) := (Below.refl _ _).alloc (Nat.le_refl _) _
  have hB1 : B ≤ ((w.alloc (.cells ca 46)).drewN nq).heap.size := (show B ≤ (w.alloc (.cells ca 46)).heap.size by simp; omega)
  have hIA := (HI1.out.next (W' := (w.alloc (.cells ca 46)).drewN nq) fun _ _ => rfl).next (W' := ((w.alloc (.cells ca 46)).drewN nq).alloc (.cells #[.int .i64 (j : Int), .int .i64 x.tick, .int .i64 a.epoch] 85)) hbA.block
  obtain ⟨h1, h2, h3⟩ := hIA.map (a := authOf x) HG3.out (by rw [HW.out]; exact HM3.out) (Nat.le_trans hB1 hbA.size)
  exact ⟨by rw [HR.out]; rfl, by rw [HR.out]; exact h1, ((belowF_drewN (n := nq) (HB1.out.mono hB)).trans (hbA.mono hB1)).trans h2, ((keepsF_drewN (n := nq) (keepsF_of HB1.out)).trans (keepsF_of hbA)).trans h3⟩

set_option maxHeartbeats 8000000 in
set_option maxRecDepth 100000 in
theorem judgeL_tick12 (B cbx lbx mbx mb i : Nat) (E : List EnD) (AE : Option Addr) (cE : Nat) (x : EvD) (C : Option Addr) (cap : Nat) (tl : List Value) (w : World) (s : LogS)
    (hBy : BytesLow w B C x.body) (hEn : EnLow w B AE E) (hI : CenInv w AE E.length cE B cbx lbx mbx mb s) (hB : B ≤ w.heap.size) (hbd : ∀ c ∈ s.cen, 0 ≤ c.last ∧ c.last ≤ 1000) (j : Nat) (hj : x.who = (j : Int)) (hj9 : j < 9) (c : CenS) (hc : s.cen[j]? = some c) (k : x.kind = 12) (hd : c.down = decide (x.kind = 11)) (a : AuthS) (hg : getA s.auth x.n = some a) (he : ¬ x.epoch < a.epoch) (ht : ¬ a.tick = x.tick) :
    Calls Tryz.prog 33 #[.int .i64 i, .agg (evCells x C cap tl).toArray, .pointer (some ⟨cbx, 0, none⟩), .pointer (some ⟨lbx, 0, none⟩), .pointer (some ⟨mbx, 0, none⟩)] w (LRet w AE E.length cE B cbx lbx mbx mb (judgeL E x s)) := by
  have q0 : (evCells x C cap tl).toArray[0]? = some (.int .i64 x.kind) := rfl
  have q1 : (evCells x C cap tl).toArray[1]? = some (.int .i64 x.tick) := rfl
  have q2 : (evCells x C cap tl).toArray[2]? = some (.int .i64 x.who) := rfl
  have q4 : (evCells x C cap tl).toArray[4]? = some (.int .i64 x.epoch) := rfl
  have q5 : (evCells x C cap tl).toArray[5]? = some (.int .i64 x.n) := rfl
  have q6 : (evCells x C cap tl).toArray[6]? = some (.int .i64 x.term) := rfl
  have q7 : (evCells x C cap tl).toArray[7]? = some (.int .i64 x.ek) := rfl
  have q8 : (evCells x C cap tl).toArray[8]? = some (.slice C x.body.length cap) := rfl
  generalize (evCells x C cap tl).toArray = ca at q0 q1 q2 q4 q5 q6 q7 q8 ⊢
  have hb1 : Below w.heap.size w (w.alloc (.cells ca 46)) := (Below.refl _ w).alloc (Nat.le_refl _) _
  have HI1 := Lib.hid (hI.next (W' := w.alloc (.cells ca 46)) hb1.block)
  have HB1 := Lib.hid hb1
  have HEN := Lib.hid hEn
  have HBY := Lib.hid hBy
  have HBD := Lib.hid hbd
  clear hEn hBy hI hb1 hbd
  have HAT := Lib.hid (show cenAt s.cen x.who = some c by unfold cenAt; rw [if_pos (by omega), show x.who.toNat = j by omega]; exact hc)
  have HJ := Lib.hid (show x.who.toNat = j by omega)
  have HC := Lib.hid hc
  have o0 : (w.alloc (.cells ca 46)).cell? ⟨cbx, j * 2, none⟩ = some (.bool c.down) := cells_of HI1.out.hc (cenCells_at _ j c hc).1
  have o1 : (w.alloc (.cells ca 46)).cell? ⟨cbx, j * 2 + 1, none⟩ = some (.int .i64 c.last) := cells_of HI1.out.hc (cenCells_at _ j c hc).2
  have fr : ∀ i, (w.alloc (.cells ca 46)).frozen? ⟨cbx, i, none⟩ = false := frozen_of HI1.out.hc
  rw [hj] at q2
  have hj0 : decide ((j : Int) < 0) = false := decide_eq_false (by omega)
  have hj8 : decide ((9 : Int) ≤ (j : Int)) = false := decide_eq_false (by omega)
  have hjl : (j : Int) < 9 := by omega
  have hlast := HBD.out c (List.mem_of_getElem? hc)
  have HD := Lib.hid hd
  rw [k] at q0 hd
  rw [show c.down = _ from (by simpa using hd)] at o0
  have HR := Lib.hid (show judgeL E x s = (0, ⟨s.cen, putA s.auth (authOf x)⟩) by simp only [judgeL, show logKind x.kind = true by rw [k]; rfl, if_true, HAT.out]; rw [if_pos HD.out, judgeOn12 k]; rw [hg]; simp only [show clash a x = false by simp [clash, ht]; omega, Bool.false_eq_true, if_false])
  have cm : (w.alloc (.cells ca 46)).cell? ⟨mbx, 0, none⟩ = some (.map (some mb)) := by unfold World.cell?; simp only [HI1.out.hm]; rfl
  have HLK := Lib.hid (show ∀ n, (Instr.lookup 81 (.map (some mb)) (.int .i64 x.n) true).run Tryz.prog ((w.alloc (.cells ca 46)).drewN n) = .ok (.tuple #[.agg #[.int .i64 a.who, .int .i64 a.tick, .int .i64 a.epoch], .bool true]) ((w.alloc (.cells ca 46)).drewN n) from fun n => by
    have h := (run_lookup_kv (P := Tryz.prog) (mt := 81) Tryz.underlying81 Tryz.underlying2 zero85 (HI1.out.next (W' := (w.alloc (.cells ca 46)).drewN n) fun _ _ => rfl).mp x.n).1
    rw [authKv_get, hg] at h
    exact h)
  have HW := Lib.hid (show authV (authOf x) = .agg #[.int .i64 (j : Int), .int .i64 x.tick, .int .i64 x.epoch] by simp [authV, authOf, hj])
  clear hd hj hc k hlast hg
  have he2 : decide (x.epoch < a.epoch) = false := decide_eq_false he
  go_enter Tryz.func33, Tryz.ntmps33
  go_wp2
  go_quiet (fail)
  obtain ⟨W3, hr3, hm3, hg3, hs3⟩ := run_update_kv (P := Tryz.prog) (mt := 81) Tryz.underlying81 Tryz.underlying2 ((HI1.out.next (W' := (w.alloc (.cells ca 46)).drewN nq) fun _ _ => rfl).next (W' := ((w.alloc (.cells ca 46)).drewN nq).alloc (.cells #[.int .i64 a.who, .int .i64 a.tick, .int .i64 a.epoch] 85)) ((Below.refl ((w.alloc (.cells ca 46)).drewN nq).heap.size _).alloc (Nat.le_refl _) _).block).mp x.n (.agg #[.int .i64 (j : Int), .int .i64 x.tick, .int .i64 x.epoch])
  have cm2 : (((w.alloc (.cells ca 46)).drewN nq).alloc (.cells #[.int .i64 a.who, .int .i64 a.tick, .int .i64 a.epoch] 85)).cell? ⟨mbx, 0, none⟩ = some (.map (some mb)) := by unfold World.cell?; simp only [((HI1.out.next (W' := (w.alloc (.cells ca 46)).drewN nq) fun _ _ => rfl).next (W' := ((w.alloc (.cells ca 46)).drewN nq).alloc (.cells #[.int .i64 a.who, .int .i64 a.tick, .int .i64 a.epoch] 85)) ((Below.refl ((w.alloc (.cells ca 46)).drewN nq).heap.size _).alloc (Nat.le_refl _) _).block).hm]; rfl
  have HU := Lib.hid hr3
  have HM3 := Lib.hid hm3
  have HG3 := Lib.hid hg3
  clear hr3 hm3 hg3 hs3
  go_upto_region 23 with fail
  go_upto_region 24 with (refine wpList_lookup_ok (P := Tryz.prog) (W := (w.alloc (.cells ca 46)).drewN nq) (mv := .map (some mb)) (kv := .int .i64 x.n) rfl 81 (.tmp 88) (.tmp 90) rfl rfl rfl (HLK.out nq) ?_)
  go_upto_region 26 with fail
  go_wp2_with (refine wpList_update_run (P := Tryz.prog) (W := ((w.alloc (.cells ca 46)).drewN nq).alloc (.cells #[.int .i64 a.who, .int .i64 a.tick, .int .i64 a.epoch] 85)) (mv := .map (some mb)) (kv := .int .i64 x.n) (xv := .agg #[.int .i64 (j : Int), .int .i64 x.tick, .int .i64 x.epoch]) rfl 81 (.tmp 116) (.tmp 118) (.tmp 125) rfl rfl rfl rfl HU.out ?_)
  go_ret
  have hbA : Below ((w.alloc (.cells ca 46)).drewN nq).heap.size ((w.alloc (.cells ca 46)).drewN nq) (((w.alloc (.cells ca 46)).drewN nq).alloc (.cells #[.int .i64 a.who, .int .i64 a.tick, .int .i64 a.epoch] 85)) := (Below.refl _ _).alloc (Nat.le_refl _) _
  have hB1 : B ≤ ((w.alloc (.cells ca 46)).drewN nq).heap.size := (show B ≤ (w.alloc (.cells ca 46)).heap.size by simp; omega)
  have hIA := (HI1.out.next (W' := (w.alloc (.cells ca 46)).drewN nq) fun _ _ => rfl).next (W' := ((w.alloc (.cells ca 46)).drewN nq).alloc (.cells #[.int .i64 a.who, .int .i64 a.tick, .int .i64 a.epoch] 85)) hbA.block
  obtain ⟨h1, h2, h3⟩ := hIA.map (a := authOf x) HG3.out (by rw [HW.out]; exact HM3.out) (Nat.le_trans hB1 hbA.size)
  exact ⟨by rw [HR.out]; rfl, by rw [HR.out]; exact h1, ((belowF_drewN (n := nq) (HB1.out.mono hB)).trans (hbA.mono hB1)).trans h2, ((keepsF_drewN (n := nq) (keepsF_of HB1.out)).trans (keepsF_of hbA)).trans h3⟩

theorem judgeL_any (B cbx lbx mbx mb i : Nat) (E : List EnD) (AE : Option Addr) (cE : Nat) (x : EvD) (C : Option Addr) (cap : Nat) (tl : List Value) (w : World) (s : LogS)
    (hBy : BytesLow w B C x.body) (hEn : EnLow w B AE E) (hI : CenInv w AE E.length cE B cbx lbx mbx mb s) (hB : B ≤ w.heap.size) (hbd : ∀ c ∈ s.cen, 0 ≤ c.last ∧ c.last ≤ 1000) :
    Calls Tryz.prog 33 #[.int .i64 i, .agg (evCells x C cap tl).toArray, .pointer (some ⟨cbx, 0, none⟩), .pointer (some ⟨lbx, 0, none⟩), .pointer (some ⟨mbx, 0, none⟩)] w (LRet w AE E.length cE B cbx lbx mbx mb (judgeL E x s)) := by
  cases hk : logKind x.kind with
  | false => exact judgeL_pass B cbx lbx mbx mb i E AE cE x C cap tl w s hBy hEn hI hB hbd hk
  | true =>
    by_cases hw0 : x.who < 0
    · exact judgeL_low B cbx lbx mbx mb i E AE cE x C cap tl w s hBy hEn hI hB hbd hk hw0
    · by_cases hw9 : 9 ≤ x.who
      · exact judgeL_high B cbx lbx mbx mb i E AE cE x C cap tl w s hBy hEn hI hB hbd hk hw9
      · obtain ⟨j, hj⟩ : ∃ j : Nat, x.who = (j : Int) := ⟨x.who.toNat, by omega⟩
        have hj9 : j < 9 := by omega
        obtain ⟨c, hc⟩ : ∃ c, s.cen[j]? = some c := ⟨_, List.getElem?_eq_getElem (by rw [hI.n9]; exact hj9)⟩
        by_cases hd : c.down = decide (x.kind = 11)
        · rcases logKind_iff.1 hk with k | k | k | k | k
          · by_cases hn : x.n = c.last + 1
            · have hb := hbd c (List.mem_of_getElem? hc)
              obtain ⟨m, hm⟩ : ∃ m : Nat, c.last = (m : Int) := ⟨c.last.toNat, by omega⟩
              by_cases hfar : E.length ≤ m
              · exact judgeL_far7 B cbx lbx mbx mb i E AE cE x C cap tl w s hBy hEn hI hB hbd j hj hj9 c hc k hd m hm (by omega) hfar
              · obtain ⟨y, hy⟩ : ∃ y, E[m]? = some y := ⟨_, List.getElem?_eq_getElem (by omega)⟩
                cases hs : sameEn x.en y with
                | true => exact judgeL_same7 B cbx lbx mbx mb i E AE cE x C cap tl w s hBy hEn hI hB hbd j hj hj9 c hc k hd m hm (by omega) y hy hs
                | false => exact judgeL_diff7 B cbx lbx mbx mb i E AE cE x C cap tl w s hBy hEn hI hB hbd j hj hj9 c hc k hd m hm (by omega) y hy hs
            · exact judgeL_bad7 B cbx lbx mbx mb i E AE cE x C cap tl w s hBy hEn hI hB hbd j hj hj9 c hc k hd hn
          · exact judgeL_down10 B cbx lbx mbx mb i E AE cE x C cap tl w s hBy hEn hI hB hbd j hj hj9 c hc k hd
          · exact judgeL_up11 B cbx lbx mbx mb i E AE cE x C cap tl w s hBy hEn hI hB hbd j hj hj9 c hc k hd
          · cases hg : getA s.auth x.n with
            | none => exact judgeL_new12 B cbx lbx mbx mb i E AE cE x C cap tl w s hBy hEn hI hB hbd j hj hj9 c hc k hd hg
            | some a =>
              by_cases he : x.epoch < a.epoch
              · exact judgeL_old12 B cbx lbx mbx mb i E AE cE x C cap tl w s hBy hEn hI hB hbd j hj hj9 c hc k hd a hg he
              · by_cases ht : a.tick = x.tick
                · by_cases hw : a.who = (j : Int)
                  · exact judgeL_own12 B cbx lbx mbx mb i E AE cE x C cap tl w s hBy hEn hI hB hbd j hj hj9 c hc k hd a hg he ht hw
                  · exact judgeL_who12 B cbx lbx mbx mb i E AE cE x C cap tl w s hBy hEn hI hB hbd j hj hj9 c hc k hd a hg he ht hw
                · exact judgeL_tick12 B cbx lbx mbx mb i E AE cE x C cap tl w s hBy hEn hI hB hbd j hj hj9 c hc k hd a hg he ht
          · exact judgeL_sum13 B cbx lbx mbx mb i E AE cE x C cap tl w s hBy hEn hI hB hbd j hj hj9 c hc k hd
        · exact judgeL_down B cbx lbx mbx mb i E AE cE x C cap tl w s hBy hEn hI hB hbd hk j hj hj9 c hc hd
end Go.Proofs.YtjhhdklbiibhdaaGreatDoor
