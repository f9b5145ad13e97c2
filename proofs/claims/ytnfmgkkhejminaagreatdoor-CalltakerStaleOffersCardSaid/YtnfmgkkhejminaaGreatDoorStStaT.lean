/-
  CalltakerStaleOffers, walked with contracts for what it calls.
-/
import Derived.Test.YtnfmgkkhejminaaGreatDoorStStaP
import Derived.Test.YtnfmgkkhejminaaGreatDoorStStaE
namespace Go.Proofs.YtnfmgkkhejminaaGreatDoor
open Go Go.RowKit Wi
/-- an offer that is taken: a packet, and no error -/
def OffRet (A : World → Prop) (e : Ending) (w' : World) : Prop := (∃ (a b : Int) (X : Option Addr) (n c : Nat), e = .returned (.tuple #[.agg #[.int .i64 a, .int .i64 b, .slice X n c], .int .i64 0])) ∧ A w'
def SumIs (z : Int) (w : World) (e : Ending) (w' : World) : Prop := e = .returned (.int .u64 z) ∧ Below w.heap.size w w'
def Keeps (A : World → Prop) : Prop := ∀ W W', A W → Below W.heap.size W W' → A W'
theorem z8n {W0 W : World} {a : Array Value} {t : TypeId} (hW : Below (W0.alloc (.cells a t)).heap.size (W0.alloc (.cells a t)) W) : W.heap[W0.heap.size]? = some (.cells a t) := by
  rw [hW.block _ (by simp)]; show (W0.heap.push _)[W0.heap.size]? = _; simp
set_option maxHeartbeats 8000000 in
set_option maxRecDepth 100000 in
theorem law3_walk0 (A : Option Addr) (c : Nat) (S : Option Addr) (sn sc : Nat) (kk z : Int) (w : World) (A0 : World → Prop) (A1 : Addr → World → Prop) (A2 A3 A4 : Addr → Value → World → Prop) (k3 : ∀ D v, Keeps (A3 D v)) (k4 : ∀ D v, Keeps (A4 D v))
    (hb4 : ∀ D v W, A4 D v W → Below w.heap.size w W)
    (hwk : Calls Tryz.prog 5 #[] w fun e W => e = .returned (.bool true) ∧ A0 W) (hsm : ∀ W, A0 W → Calls Tryz.prog 6 #[.slice S sn sc] W (Says true W))
    (hst : ∀ W, A0 W → Calls Tryz.prog 7 #[] W fun e W' => ∃ D x, e = .returned (.tuple #[.pointer (some D), .pointer x, .bool true]) ∧ A1 D W')
    (hl1 : ∀ D W, A1 D W → Calls Tryz.prog 8 #[.int .i64 7, .slice A 0 c] W fun e W' => ∃ v, e = .returned v ∧ A2 D v W')
    (ho1 : ∀ D v W, A2 D v W → Calls Tryz.prog 9 #[.pointer (some D), v, .slice S sn sc, .int .i64 1, .int .i64 5] W (OffRet (A3 D v)))
    (hc3 : ∀ D v W, A3 D v W → Calls Tryz.prog 10 #[.pointer (some D)] W (SumIs z W))
    (ho2 : ∀ D v W, A3 D v W → Calls Tryz.prog 9 #[.pointer (some D), v, .slice S sn sc, .int .i64 1, .int .i64 9] W (OffRet (A4 D v)))
    (hc4 : ∀ D v W, A4 D v W → Calls Tryz.prog 10 #[.pointer (some D)] W (SumIs z W))
    (ha4 : ∀ D v W, A4 D v W → Calls Tryz.prog 11 #[.pointer (some D), .int .i64 7] W (CallRet W)) :
    Calls Tryz.prog 3 #[.slice A 0 c, .slice S sn sc, .int .u8 kk] w (True1 w) := by
  have HWK := Lib.hid hwk
  have HSM := Lib.hid hsm
  have HST := Lib.hid hst
  have HL1 := Lib.hid hl1
  have HO1 := Lib.hid ho1
  have HC3 := Lib.hid hc3
  have HO2 := Lib.hid ho2
  have HC4 := Lib.hid hc4
  have HA4 := Lib.hid ha4
  have HB4 := Lib.hid hb4
  have K3 := Lib.hid k3
  have K4 := Lib.hid k4
  clear hwk hsm hst hl1 ho1 hc3 ho2 hc4 ha4 hb4 k3 k4
  go_enter Tryz.func3, Tryz.ntmps3
  go_wp2_with (first
    | (go_at_call 5; go_loud (refine HWK.out.mono ?_; rintro e W0 ⟨rfl, h0⟩; have H0 := Lib.hid h0; clear h0))
    | (go_at_call 6; go_loud (refine (HSM.out _ H0.out).mono ?_; rintro e W00 ⟨rfl, rfl⟩))
    | (go_at_call 7; go_loud (refine (HST.out _ H0.out).mono ?_; rintro e W1 ⟨D, x, rfl, h1⟩; have H1 := Lib.hid h1; clear h1))
    | (go_at_call 8; go_loud (refine (HL1.out _ _ H1.out).mono ?_; rintro e W2 ⟨v, rfl, h2⟩; have H2 := Lib.hid h2; clear h2))
    | (go_at_call 9; go_loud (refine (HO1.out _ _ _ H2.out).mono ?_; rintro e W3 ⟨⟨a3, b3, x3, n3, c3, rfl⟩, h3⟩; have H3 := Lib.hid h3; clear h3 H2))
    | (go_at_call 10; go_loud (refine (HC3.out _ _ _ (K3.out _ _ _ _ H3.out ((Below.refl _ _).alloc (Nat.le_refl _) _))).mono ?_; rintro e W4 ⟨rfl, hb4⟩; have H3c := Lib.hid (K3.out _ _ _ _ (K3.out _ _ _ _ H3.out ((Below.refl _ _).alloc (Nat.le_refl _) _)) hb4); clear hb4 H3))
    | (go_at_call 9; go_loud (refine (HO2.out _ _ _ H3c.out).mono ?_; rintro e W5 ⟨⟨a5, b5, x5, n5, c5, rfl⟩, h5⟩; have H4 := Lib.hid h5; clear h5 H3c))
    | (go_at_call 10; go_loud (refine (HC4.out _ _ _ (K4.out _ _ _ _ H4.out ((Below.refl _ _).alloc (Nat.le_refl _) _))).mono ?_; rintro e W6 ⟨rfl, hb6⟩; have H4c := Lib.hid (K4.out _ _ _ _ (K4.out _ _ _ _ H4.out ((Below.refl _ _).alloc (Nat.le_refl _) _)) hb6); clear hb6 H4))
    | (go_at_call 11; go_loud (refine (HA4.out _ _ _ H4c.out).mono ?_; rintro e W7 ⟨⟨v7, e7, q7, rfl, hrec⟩, hb7⟩; obtain ⟨rc, ri, ru, rs, rb, ro, rn, rcap, rq, rfl⟩ := hrec; have H4d := Lib.hid (K4.out _ _ _ _ H4c.out hb7); clear hb7 H4c)))
  refine (HC4.out _ _ _ (K4.out _ _ _ _ H4d.out ((Below.refl _ _).alloc (Nat.le_refl _) _))).mono ?_
  rintro e W8 ⟨rfl, hb8⟩
  have H4e := Lib.hid (K4.out _ _ _ _ (K4.out _ _ _ _ H4d.out ((Below.refl _ _).alloc (Nat.le_refl _) _)) hb8)
  have hq := z8n hb8
  have y5 : W8.cell? ⟨W7.heap.size, 5, none⟩ = some (.int .i64 1) := by simp only [World.cell?, hq]; rfl
  have y6 : W8.cell? ⟨W7.heap.size, 6, none⟩ = some (.int .i64 5) := by simp only [World.cell?, hq]; rfl
  clear hb8 H4d hq
  go_wp2
  go_ret
  exact ⟨rfl, HB4.out _ _ _ H4e.out⟩
set_option maxHeartbeats 8000000 in
set_option maxRecDepth 100000 in
theorem law3_walk1 (g off n c : Nat) (S : Option Addr) (sn sc : Nat) (kk z : Int) (w : World) (hn0 : 0 < n) (hn : n ≤ 10) (hnc : n ≤ c) (hk0 : 0 ≤ kk) (hk1 : kk < 256) (A0 : World → Prop) (A1 : Addr → World → Prop) (A2 A3 A4 : Addr → Value → World → Prop) (A5 : Addr → Nat → Value → World → Prop) (A6 : Addr → World → Prop) (k6 : ∀ D, Keeps (A6 D)) (k3 : ∀ D v, Keeps (A3 D v)) (k4 : ∀ D v, Keeps (A4 D v))
    (hb6 : ∀ D W, A6 D W → Below w.heap.size w W)
    (hwk : Calls Tryz.prog 5 #[] w fun e W => e = .returned (.bool true) ∧ A0 W) (hsm : ∀ W, A0 W → Calls Tryz.prog 6 #[.slice S sn sc] W (Says true W))
    (hst : ∀ W, A0 W → Calls Tryz.prog 7 #[] W fun e W' => ∃ D x, e = .returned (.tuple #[.pointer (some D), .pointer x, .bool true]) ∧ A1 D W')
    (hl1 : ∀ D W, A1 D W → Calls Tryz.prog 8 #[.int .i64 7, .slice (some ⟨g, off, none⟩) n c] W fun e W' => ∃ v, e = .returned v ∧ A2 D v W')
    (ho1 : ∀ D v W, A2 D v W → Calls Tryz.prog 9 #[.pointer (some D), v, .slice S sn sc, .int .i64 1, .int .i64 5] W (OffRet (A3 D v)))
    (hc3 : ∀ D v W, A3 D v W → Calls Tryz.prog 10 #[.pointer (some D)] W (SumIs z W))
    (ho2 : ∀ D v W, A3 D v W → Calls Tryz.prog 9 #[.pointer (some D), v, .slice S sn sc, .int .i64 1, .int .i64 9] W (OffRet (A4 D v)))
    (hc4 : ∀ D v W, A4 D v W → Calls Tryz.prog 10 #[.pointer (some D)] W (SumIs z W))
    (hl5 : ∀ D v0 W j, j < n → A4 D v0 W → Calls Tryz.prog 8 #[.int .i64 7, .slice (some ⟨g, off, none⟩) j c] W fun e W' => ∃ v, e = .returned v ∧ A5 D j v W')
    (ho5 : ∀ D W j v, j < n → A5 D j v W → Calls Tryz.prog 9 #[.pointer (some D), v, .slice none 0 0, .int .i64 2, .int .i64 12] W (OffRet (A6 D)))
    (hc6 : ∀ D W, A6 D W → Calls Tryz.prog 10 #[.pointer (some D)] W (SumIs z W))
    (ha6 : ∀ D W, A6 D W → Calls Tryz.prog 11 #[.pointer (some D), .int .i64 7] W (CallRet W)) :
    Calls Tryz.prog 3 #[.slice (some ⟨g, off, none⟩) n c, .slice S sn sc, .int .u8 kk] w (True1 w) := by
  have hm0 : 0 ≤ kk % (n : Int) := Int.emod_nonneg _ (by omega)
  have hm1 : kk % (n : Int) < n := Int.emod_lt_of_pos _ (by omega)
  have hm2 : kk % (n : Int) ≤ c := by omega
  have HJ := Lib.hid (show (kk % (n : Int)).toNat < n by omega)
  have HWK := Lib.hid hwk
  have HSM := Lib.hid hsm
  have HST := Lib.hid hst
  have HL1 := Lib.hid hl1
  have HO1 := Lib.hid ho1
  have HC3 := Lib.hid hc3
  have HO2 := Lib.hid ho2
  have HC4 := Lib.hid hc4
  have HL5 := Lib.hid hl5
  have HO5 := Lib.hid ho5
  have HC6 := Lib.hid hc6
  have HA6 := Lib.hid ha6
  have HB6 := Lib.hid hb6
  have K6 := Lib.hid k6
  have K3 := Lib.hid k3
  have K4 := Lib.hid k4
  clear hwk hsm hst hl1 ho1 hc3 ho2 hc4 hl5 ho5 hc6 ha6 hb6 k6 k3 k4
  go_enter Tryz.func3, Tryz.ntmps3
  go_wp2_with (first
    | (go_at_call 5; go_loud (refine HWK.out.mono ?_; rintro e W0 ⟨rfl, h0⟩; have H0 := Lib.hid h0; clear h0))
    | (go_at_call 6; go_loud (refine (HSM.out _ H0.out).mono ?_; rintro e W00 ⟨rfl, rfl⟩))
    | (go_at_call 7; go_loud (refine (HST.out _ H0.out).mono ?_; rintro e W1 ⟨D, x, rfl, h1⟩; have H1 := Lib.hid h1; clear h1))
    | (go_at_call 8; go_loud (refine (HL1.out _ _ H1.out).mono ?_; rintro e W2 ⟨v, rfl, h2⟩; have H2 := Lib.hid h2; clear h2))
    | (go_at_call 9; go_loud (refine (HO1.out _ _ _ H2.out).mono ?_; rintro e W3 ⟨⟨a3, b3, x3, n3, c3, rfl⟩, h3⟩; have H3 := Lib.hid h3; clear h3 H2))
    | (go_at_call 10; go_loud (refine (HC3.out _ _ _ (K3.out _ _ _ _ H3.out ((Below.refl _ _).alloc (Nat.le_refl _) _))).mono ?_; rintro e W4 ⟨rfl, hb4⟩; have H3c := Lib.hid (K3.out _ _ _ _ (K3.out _ _ _ _ H3.out ((Below.refl _ _).alloc (Nat.le_refl _) _)) hb4); clear hb4 H3))
    | (go_at_call 9; go_loud (refine (HO2.out _ _ _ H3c.out).mono ?_; rintro e W5 ⟨⟨a5, b5, x5, n5, c5, rfl⟩, h5⟩; have H4 := Lib.hid h5; clear h5 H3c))
    | (go_at_call 10; go_loud (refine (HC4.out _ _ _ (K4.out _ _ _ _ H4.out ((Below.refl _ _).alloc (Nat.le_refl _) _))).mono ?_; rintro e W6 ⟨rfl, hb6⟩; have H4c := Lib.hid (K4.out _ _ _ _ (K4.out _ _ _ _ H4.out ((Below.refl _ _).alloc (Nat.le_refl _) _)) hb6); clear hb6 H4))
    | (go_at_call 8; go_loud (refine (HL5.out _ _ _ _ HJ.out H4c.out).mono ?_; rintro e W7 ⟨v7, rfl, h7⟩; have H5 := Lib.hid h7; clear h7 H4c))
    | (go_at_call 9; go_loud (refine (HO5.out _ _ _ _ HJ.out H5.out).mono ?_; rintro e W8 ⟨⟨a8, b8, x8, n8, c8, rfl⟩, h8⟩; have H6 := Lib.hid h8; clear h8 H5))
    | (go_at_call 11; go_loud (refine (HA6.out _ _ H6.out).mono ?_; rintro e W9 ⟨⟨v9, e9, q9, rfl, hrec⟩, hb9⟩; obtain ⟨rc, ri, ru, rs, rb, ro, rn, rcap, rq, rfl⟩ := hrec; have H6d := Lib.hid (K6.out _ _ _ H6.out hb9); clear hb9 H6)))
  refine (HC6.out _ _ (K6.out _ _ _ H6d.out ((Below.refl _ _).alloc (Nat.le_refl _) _))).mono ?_
  rintro e W10 ⟨rfl, hb10⟩
  have H6e := Lib.hid (K6.out _ _ _ (K6.out _ _ _ H6d.out ((Below.refl _ _).alloc (Nat.le_refl _) _)) hb10)
  have hq := z8n hb10
  have y5 : W10.cell? ⟨W9.heap.size, 5, none⟩ = some (.int .i64 1) := by simp only [World.cell?, hq]; rfl
  have y6 : W10.cell? ⟨W9.heap.size, 6, none⟩ = some (.int .i64 5) := by simp only [World.cell?, hq]; rfl
  clear hb10 H6d hq
  go_wp2
  go_ret
  exact ⟨rfl, HB6.out _ _ H6e.out⟩
end Go.Proofs.YtnfmgkkhejminaaGreatDoor
