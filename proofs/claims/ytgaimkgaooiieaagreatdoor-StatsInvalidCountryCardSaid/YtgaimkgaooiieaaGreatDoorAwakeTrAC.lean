/-
  A trace's events as plain data, how they lie in memory; what samaritanref51.ints, FewAct and Few answer: some bool.
  Events as they lie in memory; what samaritanref51.Few answers: some bool.
  What samaritanref51.OnlyAct answers: an action whose slices are the old ones or empty. Printed by mkonly.py.
-/
import Derived.Test.YtgaimkgaooiieaaGreatDoorAwakeCfgC
import Derived.Shelf.Bytes.SlSmallAll
import Derived.Laws.Rows
namespace Go.Proofs.YtgaimkgaooiieaaGreatDoor
open Go Go.RowKit

structure SrcD where
  kind : Int
  nodes : List Int
structure ActD where
  kind : Int
  who : Int
  n : Int
  call : Int
  other : Int
  node : Int
  srcs : List SrcD
  grp : List Int
structure ActP where
  s : Option Addr
  sc : Nat
  g : Option Addr
  gc : Nat
def actCells (a : ActD) (P : ActP) : Array Value := #[.int .i64 a.kind, .int .i64 a.who, .int .i64 a.n, .int .i64 a.call, .int .i64 a.other, .int .i64 a.node, .slice P.s a.srcs.length P.sc, .slice P.g a.grp.length P.gc]
def SrcsAt (W : World) (B : Nat) (A : Option Addr) (xs : List SrcD) : Prop := ∀ (k : Nat) p, xs[k]? = some p → ∃ b o K c, A = some ⟨b, o, none⟩ ∧ b < B ∧ W.cell? ⟨b, o + k * 2, none⟩ = some (.int .i64 p.kind) ∧ W.cell? ⟨b, o + k * 2 + 1, none⟩ = some (.slice K p.nodes.length c) ∧ IntsAt W B K p.nodes ∧ p.nodes.length ≤ 140737488355328
theorem SrcsAt.below {W W' : World} {B : Nat} {A : Option Addr} {xs : List SrcD} (h : SrcsAt W B A xs) (hb : Below B W W') : SrcsAt W' B A xs := fun k z hz => by
  obtain ⟨b, o, K, c, e, hlt, h0, h1, h3, h4⟩ := h k z hz
  exact ⟨b, o, K, c, e, hlt, (hb.cell (p := ⟨b, o + k * 2, none⟩) hlt).trans h0, (hb.cell (p := ⟨b, o + k * 2 + 1, none⟩) hlt).trans h1, h3.below hb, h4⟩
theorem SrcsAt.mono {W : World} {B B' : Nat} {A : Option Addr} {xs : List SrcD} (h : SrcsAt W B A xs) (hB : B ≤ B') : SrcsAt W B' A xs := fun k z hz => by
  obtain ⟨b, o, K, c, e, hlt, h0, h1, h3, h4⟩ := h k z hz
  exact ⟨b, o, K, c, e, by omega, h0, h1, h3.mono hB, h4⟩
/-- an action's slices, below B -/
structure ActAt (W : World) (B : Nat) (a : ActD) (P : ActP) : Prop where
  s : SrcsAt W B P.s a.srcs
  g : IntsAt W B P.g a.grp
  sl : a.srcs.length ≤ 140737488355328
  gl : a.grp.length ≤ 140737488355328
theorem ActAt.below {W W' : World} {B : Nat} {a : ActD} {P : ActP} (h : ActAt W B a P) (hb : Below B W W') : ActAt W' B a P := ⟨h.s.below hb, h.g.below hb, h.sl, h.gl⟩
theorem ActAt.mono {W : World} {B B' : Nat} {a : ActD} {P : ActP} (h : ActAt W B a P) (hB : B ≤ B') : ActAt W B' a P := ⟨h.s.mono hB, h.g.mono hB, h.sl, h.gl⟩
/-- some bool, and what was there before is still there -/
def SaysB (w : World) (e : Ending) (w' : World) : Prop := ∃ v, Says v w e w'

set_option maxHeartbeats 2000000 in
set_option maxRecDepth 100000 in
theorem fewact_any (a : ActD) (P : ActP) (w : World) (hA : ActAt w w.heap.size a P) : Calls Tryz.prog 76 #[.agg (actCells a P)] w (SaysB w) := by
  obtain ⟨k0, k1, k2, k3, k4, k5, S, G⟩ := a
  obtain ⟨sA, sc, gA, gc⟩ := P
  obtain ⟨hs, hg, hsl, hgl⟩ := hA
  simp only at hs hg hsl hgl
  have hB1 : Below w.heap.size w (w.alloc (.cells #[.int .i64 k0, .int .i64 k1, .int .i64 k2, .int .i64 k3, .int .i64 k4, .int .i64 k5, .slice sA S.length sc, .slice gA G.length gc] 103)) := (Below.refl _ w).alloc (Nat.le_refl _) _
  have HS := Lib.hid (hs.below hB1)
  have HB := Lib.hid hB1
  clear hs hg hB1
  go_enter Tryz.func76, Tryz.ntmps76
  unfold actCells
  simp only
  go_wp2
  go_loop [3, 4] (fun m i => ∃ (k : Nat) (z : Int), k ≤ S.length ∧ i = .int .i64 k ∧ m = .int .i64 z) (fun _ i => S.length - (intOf i).toNat)
  case atStart => exact ⟨0, _, Nat.zero_le _, rfl, rfl⟩
  case round =>
    obtain ⟨k, z, hk, rfl, rfl⟩ := hrel
    by_cases hlt : k < S.length
    · obtain ⟨p, hp⟩ : ∃ p, S[k]? = some p := ⟨_, List.getElem?_eq_getElem hlt⟩
      obtain ⟨b, o, K, c, rfl, hb, hc0, hc1, hn, hnl⟩ := HS.out k p hp
      clear hp hn
      go_wp2
      · go_ret
        exact ⟨_, rfl, HB.out⟩
      · go_round
        case rel => exact ⟨k + 1, _, by omega, by go_num, rfl⟩
        case measure => simp [intOf]; omega
    · obtain rfl : k = S.length := by omega
      go_wp2
      all_goals
        go_ret
        exact ⟨_, rfl, HB.out⟩
end Go.Proofs.YtgaimkgaooiieaaGreatDoor

namespace Go.Proofs.YtgaimkgaooiieaaGreatDoor
open Go Go.RowKit

/-- bytes below B -/
def BytsAt (W : World) (B : Nat) (A : Option Addr) (xs : List Int) : Prop := 0 < xs.length → ∃ b o, A = some ⟨b, o, none⟩ ∧ b < B ∧ ∀ i, i < xs.length → W.cell? ⟨b, o + i, none⟩ = some (.int .u8 (xs.getD i 0))
theorem BytsAt.below {W W' : World} {B : Nat} {A : Option Addr} {xs : List Int} (h : BytsAt W B A xs) (hb : Below B W W') : BytsAt W' B A xs := fun hn => by
  obtain ⟨b, o, e, hlt, hc⟩ := h hn
  exact ⟨b, o, e, hlt, fun i hi => (hb.cell (p := ⟨b, o + i, none⟩) hlt).trans (hc i hi)⟩
theorem BytsAt.mono {W : World} {B B' : Nat} {A : Option Addr} {xs : List Int} (h : BytsAt W B A xs) (hB : B ≤ B') : BytsAt W B' A xs := fun hn => by
  obtain ⟨b, o, e, hlt, hc⟩ := h hn
  exact ⟨b, o, e, by omega, hc⟩
theorem BytsAt.nil (W : World) (B : Nat) (A : Option Addr) : BytsAt W B A [] := fun h => absurd h (by simp)
theorem BytsAt.bytesIn {W : World} {B : Nat} {A : Option Addr} {xs : List Int} (h : BytsAt W B A xs) : Lib.BytesIn W A xs.length xs := fun hn => by
  obtain ⟨b, o, rfl, _, hc⟩ := h hn
  exact ⟨b, o, rfl, hc⟩

structure EvD where
  kind : Int
  tick : Int
  who : Int
  call : Int
  epoch : Int
  n : Int
  term : Int
  ek : Int
  body : List Int
  o0 : Int
  o1 : Int
  o2 : Int
  o3 : Int
  o4 : Int
  t0 : Int
  t1 : Int
  t2 : Int
  t3 : Int
  t4 : Int
  act : ActD
  bytes : List Int
structure EvP where
  b : Option Addr
  bc : Nat
  act : ActP
  y : Option Addr
  yc : Nat
def evCells (e : EvD) (P : EvP) : List Value := [.int .i64 e.kind, .int .i64 e.tick, .int .i64 e.who, .int .i64 e.call, .int .i64 e.epoch, .int .i64 e.n, .int .i64 e.term, .int .i64 e.ek, .slice P.b e.body.length P.bc,
  .int .i64 e.o0, .int .i64 e.o1, .int .i64 e.o2, .int .i64 e.o3, .int .i64 e.o4, .int .i64 e.t0, .int .i64 e.t1, .int .i64 e.t2, .int .i64 e.t3, .int .i64 e.t4,
  .int .i64 e.act.kind, .int .i64 e.act.who, .int .i64 e.act.n, .int .i64 e.act.call, .int .i64 e.act.other, .int .i64 e.act.node, .slice P.act.s e.act.srcs.length P.act.sc, .slice P.act.g e.act.grp.length P.act.gc, .slice P.y e.bytes.length P.yc]
/-- an event's slices, below B -/
structure EvAt (W : World) (B : Nat) (e : EvD) (P : EvP) : Prop where
  b : BytsAt W B P.b e.body
  bl : e.body.length ≤ 140737488355328
  a : ActAt W B e.act P.act
  y : BytsAt W B P.y e.bytes
  yl : e.bytes.length ≤ 140737488355328
theorem EvAt.below {W W' : World} {B : Nat} {e : EvD} {P : EvP} (h : EvAt W B e P) (hb : Below B W W') : EvAt W' B e P := ⟨h.b.below hb, h.bl, h.a.below hb, h.y.below hb, h.yl⟩
theorem EvAt.mono {W : World} {B B' : Nat} {e : EvD} {P : EvP} (h : EvAt W B e P) (hB : B ≤ B') : EvAt W B' e P := ⟨h.b.mono hB, h.bl, h.a.mono hB, h.y.mono hB, h.yl⟩
def TrAt (W : World) (B : Nat) (A : Option Addr) (L : List EvD) : Prop := ∀ (k : Nat) e, L[k]? = some e → ∃ b o P, A = some ⟨b, o, none⟩ ∧ b < B ∧ W.rangeAt b (o + k * 28) (evCells e P) ∧ EvAt W B e P
theorem TrAt.below {W W' : World} {B : Nat} {A : Option Addr} {L : List EvD} (h : TrAt W B A L) (hb : Below B W W') : TrAt W' B A L := fun k z hz => by
  obtain ⟨b, o, P, e, hlt, hr, h4⟩ := h k z hz
  exact ⟨b, o, P, e, hlt, fun j v hv => (hb.cell (p := ⟨b, o + k * 28 + j, none⟩) hlt).trans (hr j v hv), h4.below hb⟩
theorem TrAt.mono {W : World} {B B' : Nat} {A : Option Addr} {L : List EvD} (h : TrAt W B A L) (hB : B ≤ B') : TrAt W B' A L := fun k z hz => by
  obtain ⟨b, o, P, e, hlt, hr, h4⟩ := h k z hz
  exact ⟨b, o, P, e, by omega, hr, h4.mono hB⟩

set_option maxHeartbeats 4000000 in
set_option maxRecDepth 100000 in
theorem few_any (A : Option Addr) (c : Nat) (L : List EvD) (w : World) (hL : TrAt w w.heap.size A L) (hlen : L.length ≤ 140737488355328) : Calls Tryz.prog 32 #[.slice A L.length c, .int .i64 60] w (SaysB w) := by
  have HL := Lib.hid hL
  clear hL
  go_enter Tryz.func32, Tryz.ntmps32
  go_wp2
  · go_ret
    exact ⟨_, rfl, Below.refl _ _⟩
  · go_loopw [5] (fun i wr => ∃ k : Nat, k ≤ L.length ∧ i = .int .i64 k ∧ Below w.heap.size w wr) (fun i _ => L.length - (intOf i).toNat)
    case atStart => exact ⟨0, Nat.zero_le _, rfl, Below.refl _ _⟩
    case round =>
      obtain ⟨k, hk, rfl, hb⟩ := hrel
      by_cases hlt : k < L.length
      · obtain ⟨e, he⟩ : ∃ e, L[k]? = some e := ⟨_, List.getElem?_eq_getElem hlt⟩
        obtain ⟨b, o, P, rfl, hbl, hr, hE⟩ := HL.out k e he
        have q : ∀ W, Below w.heap.size w W → ∀ (j : Nat) v, (evCells e P)[j]? = some v → W.cell? ⟨b, o + k * 28 + j, none⟩ = some v := fun W hW j v hv => (hW.cell (p := ⟨b, o + k * 28 + j, none⟩) hbl).trans (hr j v hv)
        have HQ := Lib.hid q
        have HC := Lib.hid (fun W (hW : Below w.heap.size w W) => fewact_any e.act P.act W ((hE.a.below hW).mono hW.size))
        have p19 := q wr hb 19 _ rfl
        have p20 : wr.cell? ⟨b, o + k * 28 + 19 + 1, none⟩ = _ := q wr hb 20 _ rfl
        have p21 : wr.cell? ⟨b, o + k * 28 + 19 + 2, none⟩ = _ := q wr hb 21 _ rfl
        have p22 : wr.cell? ⟨b, o + k * 28 + 19 + 3, none⟩ = _ := q wr hb 22 _ rfl
        have p23 : wr.cell? ⟨b, o + k * 28 + 19 + 4, none⟩ = _ := q wr hb 23 _ rfl
        have p24 : wr.cell? ⟨b, o + k * 28 + 19 + 5, none⟩ = _ := q wr hb 24 _ rfl
        have p25 : wr.cell? ⟨b, o + k * 28 + 19 + 6, none⟩ = _ := q wr hb 25 _ rfl
        have p26 : wr.cell? ⟨b, o + k * 28 + 19 + 7, none⟩ = _ := q wr hb 26 _ rfl
        have HBB := Lib.hid hb
        clear q he hr hE hb
        go_wp2_with (go_at_call 76; refine (HC.out _ HBB.out).mono ?_; rintro x w1 ⟨v, rfl, hb1⟩; have hbw := HBB.out.trans (hb1.mono HBB.out.size); have p8 : w1.cell? ⟨b, o + k * 28 + 6 + 2, none⟩ = _ := HQ.out w1 hbw 8 _ rfl; have p27 := HQ.out w1 hbw 27 _ rfl; have HBW := Lib.hid hbw; clear hbw hb1; cases v)
        all_goals first
          | (go_ret; exact ⟨_, rfl, HBW.out⟩)
          | (go_roundw
             case rel => exact ⟨k + 1, by omega, by go_num, HBW.out⟩
             case measure => simp [intOf]; omega)
      · obtain rfl : k = L.length := by omega
        go_wp2
        go_ret
        exact ⟨_, rfl, hb⟩
end Go.Proofs.YtgaimkgaooiieaaGreatDoor

namespace Go.Proofs.YtgaimkgaooiieaaGreatDoor
open Go Go.RowKit

theorem info103 : (Tryz.prog.info? 103).map (·.size) = some 8 := by kernel_rfl
theorem heap_mid (W : World) (A B C : Obj) : (((W.alloc A).alloc B).alloc C).heap[W.heap.size + 1]? = some B := by
  show (((W.heap.push A).push B).push C)[W.heap.size + 1]? = some B
  rw [Array.getElem?_push, if_neg (by simp), Array.getElem?_push, if_pos (by simp)]
theorem below3 (W : World) (A B C : Obj) : Below W.heap.size W (((W.alloc A).alloc B).alloc C) := (((Below.refl _ W).alloc (Nat.le_refl _) _).alloc (by simp) _).alloc (by simp; omega) _
theorem below3_drew (W : World) (A B C : Obj) : Below W.heap.size W (((W.alloc A).alloc B).alloc C).drew := (below3 W A B C).drew
theorem heap_mid_drew (W : World) (A B C : Obj) : (((W.alloc A).alloc B).alloc C).drew.heap[W.heap.size + 1]? = some B := heap_mid W A B C
theorem size103 : ∀ {a b c d e f g h : Value}, (Tryz.prog.info? 103).map (·.size) = some (#[a, b, c, d, e, f, g, h] : Array Value).size := by
  intros
  exact info103
/-- an action with the old slices, or none -/
def ActFrom (a : ActD) (P : ActP) (d : ActD) (Q : ActP) : Prop := (d.srcs = [] ∨ (d.srcs = a.srcs ∧ Q.s = P.s)) ∧ (d.grp = [] ∨ (d.grp = a.grp ∧ Q.g = P.g))
def OnlyActRet (a : ActD) (P : ActP) (w : World) (e : Ending) (w' : World) : Prop := ∃ d Q, e = .returned (.agg (actCells d Q)) ∧ ActFrom a P d Q ∧ Below w.heap.size w w'

set_option maxHeartbeats 4000000 in
set_option maxRecDepth 100000 in
theorem only1 (k1 k2 k3 k4 k5 : Int) (S : List SrcD) (G : List Int) (sA : Option Addr) (sc : Nat) (gA : Option Addr) (gc : Nat) (w : World) : Calls Tryz.prog 145 #[.agg (actCells ⟨1, k1, k2, k3, k4, k5, S, G⟩ ⟨sA, sc, gA, gc⟩)] w (OnlyActRet ⟨1, k1, k2, k3, k4, k5, S, G⟩ ⟨sA, sc, gA, gc⟩ w) := by
  unfold actCells
  simp only
  go_enter Tryz.func145, Tryz.ntmps145
  go_wp2
  go_region
  go_wp2
  (try simp only [Exit.inBlock, Exit.then])
  refine bodyPost_ret (results_cell_row rfl _ _ (w.heap.size + 1) 103 _ (0, 0) _ rfl (heap_mid_drew w _ _ _) Tryz.underlying103 rfl size103) rfl ?_
  exact ⟨⟨1, 0, 0, 0, 0, k5, S, []⟩, ⟨sA, sc, none, 0⟩, rfl, ⟨.inr ⟨rfl, rfl⟩, .inl rfl⟩, below3_drew ..⟩
set_option maxHeartbeats 4000000 in
set_option maxRecDepth 100000 in
theorem only2 (k1 k2 k3 k4 k5 : Int) (S : List SrcD) (G : List Int) (sA : Option Addr) (sc : Nat) (gA : Option Addr) (gc : Nat) (w : World) : Calls Tryz.prog 145 #[.agg (actCells ⟨2, k1, k2, k3, k4, k5, S, G⟩ ⟨sA, sc, gA, gc⟩)] w (OnlyActRet ⟨2, k1, k2, k3, k4, k5, S, G⟩ ⟨sA, sc, gA, gc⟩ w) := by
  unfold actCells
  simp only
  go_enter Tryz.func145, Tryz.ntmps145
  go_wp2
  go_region
  go_wp2
  (try simp only [Exit.inBlock, Exit.then])
  refine bodyPost_ret (results_cell_row rfl _ _ (w.heap.size + 1) 103 _ (0, 0) _ rfl (heap_mid_drew w _ _ _) Tryz.underlying103 rfl size103) rfl ?_
  exact ⟨⟨2, 0, k2, k3, 0, 0, [], []⟩, ⟨none, 0, none, 0⟩, rfl, ⟨.inl rfl, .inl rfl⟩, below3_drew ..⟩
set_option maxHeartbeats 4000000 in
set_option maxRecDepth 100000 in
theorem only3 (k1 k2 k3 k4 k5 : Int) (S : List SrcD) (G : List Int) (sA : Option Addr) (sc : Nat) (gA : Option Addr) (gc : Nat) (w : World) : Calls Tryz.prog 145 #[.agg (actCells ⟨3, k1, k2, k3, k4, k5, S, G⟩ ⟨sA, sc, gA, gc⟩)] w (OnlyActRet ⟨3, k1, k2, k3, k4, k5, S, G⟩ ⟨sA, sc, gA, gc⟩ w) := by
  unfold actCells
  simp only
  go_enter Tryz.func145, Tryz.ntmps145
  go_wp2
  (try simp only [Exit.inBlock, Exit.then])
  refine bodyPost_ret (results_cell_row rfl _ _ (w.heap.size + 1) 103 _ (0, 0) _ rfl (heap_mid w _ _ _) Tryz.underlying103 rfl size103) rfl ?_
  exact ⟨⟨3, 0, 0, k3, 0, 0, [], []⟩, ⟨none, 0, none, 0⟩, rfl, ⟨.inl rfl, .inl rfl⟩, below3 ..⟩
set_option maxHeartbeats 4000000 in
set_option maxRecDepth 100000 in
theorem only5 (k1 k2 k3 k4 k5 : Int) (S : List SrcD) (G : List Int) (sA : Option Addr) (sc : Nat) (gA : Option Addr) (gc : Nat) (w : World) : Calls Tryz.prog 145 #[.agg (actCells ⟨5, k1, k2, k3, k4, k5, S, G⟩ ⟨sA, sc, gA, gc⟩)] w (OnlyActRet ⟨5, k1, k2, k3, k4, k5, S, G⟩ ⟨sA, sc, gA, gc⟩ w) := by
  unfold actCells
  simp only
  go_enter Tryz.func145, Tryz.ntmps145
  go_wp2
  (try simp only [Exit.inBlock, Exit.then])
  refine bodyPost_ret (results_cell_row rfl _ _ (w.heap.size + 1) 103 _ (0, 0) _ rfl (heap_mid w _ _ _) Tryz.underlying103 rfl size103) rfl ?_
  exact ⟨⟨5, 0, k2, 0, 0, 0, [], []⟩, ⟨none, 0, none, 0⟩, rfl, ⟨.inl rfl, .inl rfl⟩, below3 ..⟩
set_option maxHeartbeats 4000000 in
set_option maxRecDepth 100000 in
theorem only6 (k1 k2 k3 k4 k5 : Int) (S : List SrcD) (G : List Int) (sA : Option Addr) (sc : Nat) (gA : Option Addr) (gc : Nat) (w : World) : Calls Tryz.prog 145 #[.agg (actCells ⟨6, k1, k2, k3, k4, k5, S, G⟩ ⟨sA, sc, gA, gc⟩)] w (OnlyActRet ⟨6, k1, k2, k3, k4, k5, S, G⟩ ⟨sA, sc, gA, gc⟩ w) := by
  unfold actCells
  simp only
  go_enter Tryz.func145, Tryz.ntmps145
  go_wp2
  (try simp only [Exit.inBlock, Exit.then])
  refine bodyPost_ret (results_cell_row rfl _ _ (w.heap.size + 1) 103 _ (0, 0) _ rfl (heap_mid w _ _ _) Tryz.underlying103 rfl size103) rfl ?_
  exact ⟨⟨6, 0, k2, 0, 0, 0, [], []⟩, ⟨none, 0, none, 0⟩, rfl, ⟨.inl rfl, .inl rfl⟩, below3 ..⟩
set_option maxHeartbeats 4000000 in
set_option maxRecDepth 100000 in
theorem only7 (k1 k2 k3 k4 k5 : Int) (S : List SrcD) (G : List Int) (sA : Option Addr) (sc : Nat) (gA : Option Addr) (gc : Nat) (w : World) : Calls Tryz.prog 145 #[.agg (actCells ⟨7, k1, k2, k3, k4, k5, S, G⟩ ⟨sA, sc, gA, gc⟩)] w (OnlyActRet ⟨7, k1, k2, k3, k4, k5, S, G⟩ ⟨sA, sc, gA, gc⟩ w) := by
  unfold actCells
  simp only
  go_enter Tryz.func145, Tryz.ntmps145
  go_wp2
  (try simp only [Exit.inBlock, Exit.then])
  refine bodyPost_ret (results_cell_row rfl _ _ (w.heap.size + 1) 103 _ (0, 0) _ rfl (heap_mid w _ _ _) Tryz.underlying103 rfl size103) rfl ?_
  exact ⟨⟨7, 0, k2, 0, 0, 0, [], []⟩, ⟨none, 0, none, 0⟩, rfl, ⟨.inl rfl, .inl rfl⟩, below3 ..⟩
set_option maxHeartbeats 4000000 in
set_option maxRecDepth 100000 in
theorem only8 (k1 k2 k3 k4 k5 : Int) (S : List SrcD) (G : List Int) (sA : Option Addr) (sc : Nat) (gA : Option Addr) (gc : Nat) (w : World) : Calls Tryz.prog 145 #[.agg (actCells ⟨8, k1, k2, k3, k4, k5, S, G⟩ ⟨sA, sc, gA, gc⟩)] w (OnlyActRet ⟨8, k1, k2, k3, k4, k5, S, G⟩ ⟨sA, sc, gA, gc⟩ w) := by
  unfold actCells
  simp only
  go_enter Tryz.func145, Tryz.ntmps145
  go_wp2
  (try simp only [Exit.inBlock, Exit.then])
  refine bodyPost_ret (results_cell_row rfl _ _ (w.heap.size + 1) 103 _ (0, 0) _ rfl (heap_mid w _ _ _) Tryz.underlying103 rfl size103) rfl ?_
  exact ⟨⟨8, 0, 0, 0, 0, 0, [], G⟩, ⟨none, 0, gA, gc⟩, rfl, ⟨.inl rfl, .inr ⟨rfl, rfl⟩⟩, below3 ..⟩
set_option maxHeartbeats 4000000 in
set_option maxRecDepth 100000 in
theorem only10 (k1 k2 k3 k4 k5 : Int) (S : List SrcD) (G : List Int) (sA : Option Addr) (sc : Nat) (gA : Option Addr) (gc : Nat) (w : World) : Calls Tryz.prog 145 #[.agg (actCells ⟨10, k1, k2, k3, k4, k5, S, G⟩ ⟨sA, sc, gA, gc⟩)] w (OnlyActRet ⟨10, k1, k2, k3, k4, k5, S, G⟩ ⟨sA, sc, gA, gc⟩ w) := by
  unfold actCells
  simp only
  go_enter Tryz.func145, Tryz.ntmps145
  go_wp2
  go_region
  go_wp2
  (try simp only [Exit.inBlock, Exit.then])
  refine bodyPost_ret (results_cell_row rfl _ _ (w.heap.size + 1) 103 _ (0, 0) _ rfl (heap_mid_drew w _ _ _) Tryz.underlying103 rfl size103) rfl ?_
  exact ⟨⟨10, k1, k2, 0, 0, 0, [], []⟩, ⟨none, 0, none, 0⟩, rfl, ⟨.inl rfl, .inl rfl⟩, below3_drew ..⟩
set_option maxHeartbeats 4000000 in
set_option maxRecDepth 100000 in
theorem only18 (k1 k2 k3 k4 k5 : Int) (S : List SrcD) (G : List Int) (sA : Option Addr) (sc : Nat) (gA : Option Addr) (gc : Nat) (w : World) : Calls Tryz.prog 145 #[.agg (actCells ⟨18, k1, k2, k3, k4, k5, S, G⟩ ⟨sA, sc, gA, gc⟩)] w (OnlyActRet ⟨18, k1, k2, k3, k4, k5, S, G⟩ ⟨sA, sc, gA, gc⟩ w) := by
  unfold actCells
  simp only
  go_enter Tryz.func145, Tryz.ntmps145
  go_wp2
  go_region
  go_wp2
  (try simp only [Exit.inBlock, Exit.then])
  refine bodyPost_ret (results_cell_row rfl _ _ (w.heap.size + 1) 103 _ (0, 0) _ rfl (heap_mid_drew w _ _ _) Tryz.underlying103 rfl size103) rfl ?_
  exact ⟨⟨18, k1, k2, 0, 0, 0, [], []⟩, ⟨none, 0, none, 0⟩, rfl, ⟨.inl rfl, .inl rfl⟩, below3_drew ..⟩
set_option maxHeartbeats 4000000 in
set_option maxRecDepth 100000 in
theorem only11 (k1 k2 k3 k4 k5 : Int) (S : List SrcD) (G : List Int) (sA : Option Addr) (sc : Nat) (gA : Option Addr) (gc : Nat) (w : World) : Calls Tryz.prog 145 #[.agg (actCells ⟨11, k1, k2, k3, k4, k5, S, G⟩ ⟨sA, sc, gA, gc⟩)] w (OnlyActRet ⟨11, k1, k2, k3, k4, k5, S, G⟩ ⟨sA, sc, gA, gc⟩ w) := by
  unfold actCells
  simp only
  go_enter Tryz.func145, Tryz.ntmps145
  go_wp2
  (try simp only [Exit.inBlock, Exit.then])
  refine bodyPost_ret (results_cell_row rfl _ _ (w.heap.size + 1) 103 _ (0, 0) _ rfl (heap_mid w _ _ _) Tryz.underlying103 rfl size103) rfl ?_
  exact ⟨⟨11, k1, 0, 0, 0, 0, [], []⟩, ⟨none, 0, none, 0⟩, rfl, ⟨.inl rfl, .inl rfl⟩, below3 ..⟩
set_option maxHeartbeats 4000000 in
set_option maxRecDepth 100000 in
theorem only12 (k1 k2 k3 k4 k5 : Int) (S : List SrcD) (G : List Int) (sA : Option Addr) (sc : Nat) (gA : Option Addr) (gc : Nat) (w : World) : Calls Tryz.prog 145 #[.agg (actCells ⟨12, k1, k2, k3, k4, k5, S, G⟩ ⟨sA, sc, gA, gc⟩)] w (OnlyActRet ⟨12, k1, k2, k3, k4, k5, S, G⟩ ⟨sA, sc, gA, gc⟩ w) := by
  unfold actCells
  simp only
  go_enter Tryz.func145, Tryz.ntmps145
  go_wp2
  (try simp only [Exit.inBlock, Exit.then])
  refine bodyPost_ret (results_cell_row rfl _ _ (w.heap.size + 1) 103 _ (0, 0) _ rfl (heap_mid w _ _ _) Tryz.underlying103 rfl size103) rfl ?_
  exact ⟨⟨12, k1, 0, 0, 0, 0, [], []⟩, ⟨none, 0, none, 0⟩, rfl, ⟨.inl rfl, .inl rfl⟩, below3 ..⟩
set_option maxHeartbeats 4000000 in
set_option maxRecDepth 100000 in
theorem only13 (k1 k2 k3 k4 k5 : Int) (S : List SrcD) (G : List Int) (sA : Option Addr) (sc : Nat) (gA : Option Addr) (gc : Nat) (w : World) : Calls Tryz.prog 145 #[.agg (actCells ⟨13, k1, k2, k3, k4, k5, S, G⟩ ⟨sA, sc, gA, gc⟩)] w (OnlyActRet ⟨13, k1, k2, k3, k4, k5, S, G⟩ ⟨sA, sc, gA, gc⟩ w) := by
  unfold actCells
  simp only
  go_enter Tryz.func145, Tryz.ntmps145
  go_wp2
  (try simp only [Exit.inBlock, Exit.then])
  refine bodyPost_ret (results_cell_row rfl _ _ (w.heap.size + 1) 103 _ (0, 0) _ rfl (heap_mid w _ _ _) Tryz.underlying103 rfl size103) rfl ?_
  exact ⟨⟨13, k1, 0, 0, 0, 0, [], []⟩, ⟨none, 0, none, 0⟩, rfl, ⟨.inl rfl, .inl rfl⟩, below3 ..⟩
set_option maxHeartbeats 4000000 in
set_option maxRecDepth 100000 in
theorem only14 (k1 k2 k3 k4 k5 : Int) (S : List SrcD) (G : List Int) (sA : Option Addr) (sc : Nat) (gA : Option Addr) (gc : Nat) (w : World) : Calls Tryz.prog 145 #[.agg (actCells ⟨14, k1, k2, k3, k4, k5, S, G⟩ ⟨sA, sc, gA, gc⟩)] w (OnlyActRet ⟨14, k1, k2, k3, k4, k5, S, G⟩ ⟨sA, sc, gA, gc⟩ w) := by
  unfold actCells
  simp only
  go_enter Tryz.func145, Tryz.ntmps145
  go_wp2
  go_region
  go_wp2
  (try simp only [Exit.inBlock, Exit.then])
  refine bodyPost_ret (results_cell_row rfl _ _ (w.heap.size + 1) 103 _ (0, 0) _ rfl (heap_mid_drew w _ _ _) Tryz.underlying103 rfl size103) rfl ?_
  exact ⟨⟨14, k1, k2, k3, 0, 0, [], []⟩, ⟨none, 0, none, 0⟩, rfl, ⟨.inl rfl, .inl rfl⟩, below3_drew ..⟩
set_option maxHeartbeats 4000000 in
set_option maxRecDepth 100000 in
theorem only15 (k1 k2 k3 k4 k5 : Int) (S : List SrcD) (G : List Int) (sA : Option Addr) (sc : Nat) (gA : Option Addr) (gc : Nat) (w : World) : Calls Tryz.prog 145 #[.agg (actCells ⟨15, k1, k2, k3, k4, k5, S, G⟩ ⟨sA, sc, gA, gc⟩)] w (OnlyActRet ⟨15, k1, k2, k3, k4, k5, S, G⟩ ⟨sA, sc, gA, gc⟩ w) := by
  unfold actCells
  simp only
  go_enter Tryz.func145, Tryz.ntmps145
  go_wp2
  go_region
  go_wp2
  (try simp only [Exit.inBlock, Exit.then])
  refine bodyPost_ret (results_cell_row rfl _ _ (w.heap.size + 1) 103 _ (0, 0) _ rfl (heap_mid_drew w _ _ _) Tryz.underlying103 rfl size103) rfl ?_
  exact ⟨⟨15, k1, 0, k3, k4, 0, [], []⟩, ⟨none, 0, none, 0⟩, rfl, ⟨.inl rfl, .inl rfl⟩, below3_drew ..⟩
set_option maxHeartbeats 4000000 in
set_option maxRecDepth 100000 in
theorem only16 (k1 k2 k3 k4 k5 : Int) (S : List SrcD) (G : List Int) (sA : Option Addr) (sc : Nat) (gA : Option Addr) (gc : Nat) (w : World) : Calls Tryz.prog 145 #[.agg (actCells ⟨16, k1, k2, k3, k4, k5, S, G⟩ ⟨sA, sc, gA, gc⟩)] w (OnlyActRet ⟨16, k1, k2, k3, k4, k5, S, G⟩ ⟨sA, sc, gA, gc⟩ w) := by
  unfold actCells
  simp only
  go_enter Tryz.func145, Tryz.ntmps145
  go_wp2
  go_region
  go_wp2
  (try simp only [Exit.inBlock, Exit.then])
  refine bodyPost_ret (results_cell_row rfl _ _ (w.heap.size + 1) 103 _ (0, 0) _ rfl (heap_mid_drew w _ _ _) Tryz.underlying103 rfl size103) rfl ?_
  exact ⟨⟨16, k1, 0, k3, k4, 0, [], []⟩, ⟨none, 0, none, 0⟩, rfl, ⟨.inl rfl, .inl rfl⟩, below3_drew ..⟩
set_option maxHeartbeats 4000000 in
set_option maxRecDepth 100000 in
theorem only17 (k1 k2 k3 k4 k5 : Int) (S : List SrcD) (G : List Int) (sA : Option Addr) (sc : Nat) (gA : Option Addr) (gc : Nat) (w : World) : Calls Tryz.prog 145 #[.agg (actCells ⟨17, k1, k2, k3, k4, k5, S, G⟩ ⟨sA, sc, gA, gc⟩)] w (OnlyActRet ⟨17, k1, k2, k3, k4, k5, S, G⟩ ⟨sA, sc, gA, gc⟩ w) := by
  unfold actCells
  simp only
  go_enter Tryz.func145, Tryz.ntmps145
  go_wp2
  go_region
  go_wp2
  (try simp only [Exit.inBlock, Exit.then])
  refine bodyPost_ret (results_cell_row rfl _ _ (w.heap.size + 1) 103 _ (0, 0) _ rfl (heap_mid_drew w _ _ _) Tryz.underlying103 rfl size103) rfl ?_
  exact ⟨⟨17, k1, 0, k3, 0, 0, [], []⟩, ⟨none, 0, none, 0⟩, rfl, ⟨.inl rfl, .inl rfl⟩, below3_drew ..⟩
set_option maxHeartbeats 4000000 in
set_option maxRecDepth 100000 in
theorem only19 (k1 k2 k3 k4 k5 : Int) (S : List SrcD) (G : List Int) (sA : Option Addr) (sc : Nat) (gA : Option Addr) (gc : Nat) (w : World) : Calls Tryz.prog 145 #[.agg (actCells ⟨19, k1, k2, k3, k4, k5, S, G⟩ ⟨sA, sc, gA, gc⟩)] w (OnlyActRet ⟨19, k1, k2, k3, k4, k5, S, G⟩ ⟨sA, sc, gA, gc⟩ w) := by
  unfold actCells
  simp only
  go_enter Tryz.func145, Tryz.ntmps145
  go_wp2
  go_region
  go_wp2
  (try simp only [Exit.inBlock, Exit.then])
  refine bodyPost_ret (results_cell_row rfl _ _ (w.heap.size + 1) 103 _ (0, 0) _ rfl (heap_mid_drew w _ _ _) Tryz.underlying103 rfl size103) rfl ?_
  exact ⟨⟨19, k1, k2, 0, 0, k5, [], []⟩, ⟨none, 0, none, 0⟩, rfl, ⟨.inl rfl, .inl rfl⟩, below3_drew ..⟩
set_option maxHeartbeats 4000000 in
set_option maxRecDepth 100000 in
theorem only0 (k0 : Int) (k1 k2 k3 k4 k5 : Int) (S : List SrcD) (G : List Int) (sA : Option Addr) (sc : Nat) (gA : Option Addr) (gc : Nat) (w : World) (h1 : k0 ≠ 1) (h2 : k0 ≠ 2) (h3 : k0 ≠ 3) (h5 : k0 ≠ 5) (h6 : k0 ≠ 6) (h7 : k0 ≠ 7) (h8 : k0 ≠ 8) (h10 : k0 ≠ 10) (h18 : k0 ≠ 18) (h11 : k0 ≠ 11) (h12 : k0 ≠ 12) (h13 : k0 ≠ 13) (h14 : k0 ≠ 14) (h15 : k0 ≠ 15) (h16 : k0 ≠ 16) (h17 : k0 ≠ 17) (h19 : k0 ≠ 19) : Calls Tryz.prog 145 #[.agg (actCells ⟨k0, k1, k2, k3, k4, k5, S, G⟩ ⟨sA, sc, gA, gc⟩)] w (OnlyActRet ⟨k0, k1, k2, k3, k4, k5, S, G⟩ ⟨sA, sc, gA, gc⟩ w) := by
  unfold actCells
  simp only
  go_enter Tryz.func145, Tryz.ntmps145
  go_wp2
  (try simp only [Exit.inBlock, Exit.then])
  refine bodyPost_ret (results_cell_row rfl _ _ (w.heap.size + 1) 103 _ (0, 0) _ rfl (heap_mid w _ _ _) Tryz.underlying103 rfl size103) rfl ?_
  exact ⟨⟨k0, 0, 0, 0, 0, 0, [], []⟩, ⟨none, 0, none, 0⟩, rfl, ⟨.inl rfl, .inl rfl⟩, below3 ..⟩
theorem onlyact_any (a : ActD) (P : ActP) (w : World) : Calls Tryz.prog 145 #[.agg (actCells a P)] w (OnlyActRet a P w) := by
  obtain ⟨k0, k1, k2, k3, k4, k5, S, G⟩ := a
  obtain ⟨sA, sc, gA, gc⟩ := P
  by_cases h1 : k0 = 1
  · subst h1; exact only1 k1 k2 k3 k4 k5 S G sA sc gA gc w
  by_cases h2 : k0 = 2
  · subst h2; exact only2 k1 k2 k3 k4 k5 S G sA sc gA gc w
  by_cases h3 : k0 = 3
  · subst h3; exact only3 k1 k2 k3 k4 k5 S G sA sc gA gc w
  by_cases h5 : k0 = 5
  · subst h5; exact only5 k1 k2 k3 k4 k5 S G sA sc gA gc w
  by_cases h6 : k0 = 6
  · subst h6; exact only6 k1 k2 k3 k4 k5 S G sA sc gA gc w
  by_cases h7 : k0 = 7
  · subst h7; exact only7 k1 k2 k3 k4 k5 S G sA sc gA gc w
  by_cases h8 : k0 = 8
  · subst h8; exact only8 k1 k2 k3 k4 k5 S G sA sc gA gc w
  by_cases h10 : k0 = 10
  · subst h10; exact only10 k1 k2 k3 k4 k5 S G sA sc gA gc w
  by_cases h18 : k0 = 18
  · subst h18; exact only18 k1 k2 k3 k4 k5 S G sA sc gA gc w
  by_cases h11 : k0 = 11
  · subst h11; exact only11 k1 k2 k3 k4 k5 S G sA sc gA gc w
  by_cases h12 : k0 = 12
  · subst h12; exact only12 k1 k2 k3 k4 k5 S G sA sc gA gc w
  by_cases h13 : k0 = 13
  · subst h13; exact only13 k1 k2 k3 k4 k5 S G sA sc gA gc w
  by_cases h14 : k0 = 14
  · subst h14; exact only14 k1 k2 k3 k4 k5 S G sA sc gA gc w
  by_cases h15 : k0 = 15
  · subst h15; exact only15 k1 k2 k3 k4 k5 S G sA sc gA gc w
  by_cases h16 : k0 = 16
  · subst h16; exact only16 k1 k2 k3 k4 k5 S G sA sc gA gc w
  by_cases h17 : k0 = 17
  · subst h17; exact only17 k1 k2 k3 k4 k5 S G sA sc gA gc w
  by_cases h19 : k0 = 19
  · subst h19; exact only19 k1 k2 k3 k4 k5 S G sA sc gA gc w
  exact only0 k0 k1 k2 k3 k4 k5 S G sA sc gA gc w h1 h2 h3 h5 h6 h7 h8 h10 h18 h11 h12 h13 h14 h15 h16 h17 h19
end Go.Proofs.YtgaimkgaooiieaaGreatDoor
