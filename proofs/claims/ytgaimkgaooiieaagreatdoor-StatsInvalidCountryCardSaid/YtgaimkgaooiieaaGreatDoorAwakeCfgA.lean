/-
  A configuration as plain data, how it lies in memory, and when it is valid: no program in sight.
-/
import Derived.Test.YtgaimkgaooiieaaGreatDoorChecked
import Derived.WalkKit
import Derived.Lib.Hide
import Derived.Deep.MidRow
import Derived.OwnWalk
import Derived.Deep.QuietTactic
import Derived.BigQuiet
import Derived.IntWalk
import Derived.WalkSpells
namespace Go.Proofs.YtgaimkgaooiieaaGreatDoor
open Go Go.RowKit

/-! ## the data -/
structure TriD where
  x : Int
  y : Int
  z : Int
structure PlD where
  code : ByteArray
  urg : Int
  kinds : List Int
structure CfD where
  cen : Int
  ds : List Int
  es : List TriD
  us : List TriD
  ps : List PlD
  n0 : Int
  n1 : Int
  n2 : Int
  n3 : Int
  n4 : Int
  n5 : Int
  n6 : Int
  n7 : Int
  n8 : Int
  n9 : Int
def CfD.ns (c : CfD) : List Int := [c.n0, c.n1, c.n2, c.n3, c.n4, c.n5, c.n6, c.n7, c.n8, c.n9]
/-- where a configuration's slices lie, and their capacities -/
structure CfP where
  d : Option Addr
  dc : Nat
  e : Option Addr
  ec : Nat
  u : Option Addr
  uc : Nat
  p : Option Addr
  pc : Nat
def cfCells (c : CfD) (P : CfP) : Array Value := #[.int .i64 c.cen, .slice P.d c.ds.length P.dc, .slice P.e c.es.length P.ec, .slice P.u c.us.length P.uc, .slice P.p c.ps.length P.pc,
  .int .i64 c.n0, .int .i64 c.n1, .int .i64 c.n2, .int .i64 c.n3, .int .i64 c.n4, .int .i64 c.n5, .int .i64 c.n6, .int .i64 c.n7, .int .i64 c.n8, .int .i64 c.n9]

/-! ## slices below B -/
def IntsAt (W : World) (B : Nat) (A : Option Addr) (xs : List Int) : Prop := ∀ (k : Nat) z, xs[k]? = some z → ∃ b o, A = some ⟨b, o, none⟩ ∧ b < B ∧ W.cell? ⟨b, o + k, none⟩ = some (.int .i64 z)
def TrisAt (W : World) (B : Nat) (A : Option Addr) (xs : List TriD) : Prop := ∀ (k : Nat) t, xs[k]? = some t → ∃ b o, A = some ⟨b, o, none⟩ ∧ b < B ∧ W.cell? ⟨b, o + k * 3, none⟩ = some (.int .i64 t.x) ∧ W.cell? ⟨b, o + k * 3 + 1, none⟩ = some (.int .i64 t.y) ∧ W.cell? ⟨b, o + k * 3 + 2, none⟩ = some (.int .i64 t.z)
def PlansAt (W : World) (B : Nat) (A : Option Addr) (xs : List PlD) : Prop := ∀ (k : Nat) p, xs[k]? = some p → ∃ b o K c, A = some ⟨b, o, none⟩ ∧ b < B ∧ W.cell? ⟨b, o + k * 3, none⟩ = some (.string p.code) ∧ W.cell? ⟨b, o + k * 3 + 1, none⟩ = some (.int .i64 p.urg) ∧ W.cell? ⟨b, o + k * 3 + 2, none⟩ = some (.slice K p.kinds.length c) ∧ IntsAt W B K p.kinds ∧ p.kinds.length ≤ 140737488355328 ∧ p.code.size ≤ 140737488355328
theorem IntsAt.below {W W' : World} {B : Nat} {A : Option Addr} {xs : List Int} (h : IntsAt W B A xs) (hb : Below B W W') : IntsAt W' B A xs := fun k z hz => by
  obtain ⟨b, o, e, hlt, hc⟩ := h k z hz
  exact ⟨b, o, e, hlt, (hb.cell (p := ⟨b, o + k, none⟩) hlt).trans hc⟩
theorem TrisAt.below {W W' : World} {B : Nat} {A : Option Addr} {xs : List TriD} (h : TrisAt W B A xs) (hb : Below B W W') : TrisAt W' B A xs := fun k z hz => by
  obtain ⟨b, o, e, hlt, h0, h1, h2⟩ := h k z hz
  exact ⟨b, o, e, hlt, (hb.cell (p := ⟨b, o + k * 3, none⟩) hlt).trans h0, (hb.cell (p := ⟨b, o + k * 3 + 1, none⟩) hlt).trans h1, (hb.cell (p := ⟨b, o + k * 3 + 2, none⟩) hlt).trans h2⟩
theorem PlansAt.below {W W' : World} {B : Nat} {A : Option Addr} {xs : List PlD} (h : PlansAt W B A xs) (hb : Below B W W') : PlansAt W' B A xs := fun k z hz => by
  obtain ⟨b, o, K, c, e, hlt, h0, h1, h2, h3, h4⟩ := h k z hz
  exact ⟨b, o, K, c, e, hlt, (hb.cell (p := ⟨b, o + k * 3, none⟩) hlt).trans h0, (hb.cell (p := ⟨b, o + k * 3 + 1, none⟩) hlt).trans h1, (hb.cell (p := ⟨b, o + k * 3 + 2, none⟩) hlt).trans h2, h3.below hb, h4⟩
theorem IntsAt.mono {W : World} {B B' : Nat} {A : Option Addr} {xs : List Int} (h : IntsAt W B A xs) (hB : B ≤ B') : IntsAt W B' A xs := fun k z hz => by
  obtain ⟨b, o, e, hlt, hc⟩ := h k z hz
  exact ⟨b, o, e, by omega, hc⟩
theorem TrisAt.mono {W : World} {B B' : Nat} {A : Option Addr} {xs : List TriD} (h : TrisAt W B A xs) (hB : B ≤ B') : TrisAt W B' A xs := fun k z hz => by
  obtain ⟨b, o, e, hlt, hc⟩ := h k z hz
  exact ⟨b, o, e, by omega, hc⟩
theorem PlansAt.mono {W : World} {B B' : Nat} {A : Option Addr} {xs : List PlD} (h : PlansAt W B A xs) (hB : B ≤ B') : PlansAt W B' A xs := fun k z hz => by
  obtain ⟨b, o, K, c, e, hlt, h0, h1, h2, h3, h4⟩ := h k z hz
  exact ⟨b, o, K, c, e, by omega, h0, h1, h2, h3.mono hB, h4⟩

/-- the slices of a configuration, below B -/
structure CfAt (W : World) (B : Nat) (c : CfD) (P : CfP) : Prop where
  d : IntsAt W B P.d c.ds
  e : TrisAt W B P.e c.es
  u : TrisAt W B P.u c.us
  p : PlansAt W B P.p c.ps
  dl : c.ds.length ≤ 140737488355328
  el : c.es.length ≤ 140737488355328
  ul : c.us.length ≤ 140737488355328
  pl : c.ps.length ≤ 140737488355328
  pcap : c.ps.length ≤ P.pc
  pcl : P.pc ≤ 140737488355328
theorem CfAt.below {W W' : World} {B : Nat} {c : CfD} {P : CfP} (h : CfAt W B c P) (hb : Below B W W') : CfAt W' B c P := ⟨h.d.below hb, h.e.below hb, h.u.below hb, h.p.below hb, h.dl, h.el, h.ul, h.pl, h.pcap, h.pcl⟩
theorem CfAt.mono {W : World} {B B' : Nat} {c : CfD} {P : CfP} (h : CfAt W B c P) (hB : B ≤ B') : CfAt W B' c P := ⟨h.d.mono hB, h.e.mono hB, h.u.mono hB, h.p.mono hB, h.dl, h.el, h.ul, h.pl, h.pcap, h.pcl⟩
/-- block g of W holds the configuration -/
def CfBox (W : World) (g : Nat) (c : CfD) (P : CfP) : Prop := W.heap[g]? = some (.cells (cfCells c P) 27)
theorem CfBox.cell {W : World} {g i : Nat} {c : CfD} {P : CfP} {v : Value} (h : CfBox W g c P) (hv : (cfCells c P)[i]? = some v) : W.cell? ⟨g, i, none⟩ = some v := by
  unfold World.cell?
  simp only [show W.heap[g]? = _ from h]
  exact hv
theorem CfBox.k0 {W : World} {g : Nat} {c : CfD} {P : CfP} (h : CfBox W g c P) : W.cell? ⟨g, 0, none⟩ = some (.int .i64 c.cen) := h.cell rfl
theorem CfBox.k1 {W : World} {g : Nat} {c : CfD} {P : CfP} (h : CfBox W g c P) : W.cell? ⟨g, 1, none⟩ = some (.slice P.d c.ds.length P.dc) := h.cell rfl
theorem CfBox.k2 {W : World} {g : Nat} {c : CfD} {P : CfP} (h : CfBox W g c P) : W.cell? ⟨g, 2, none⟩ = some (.slice P.e c.es.length P.ec) := h.cell rfl
theorem CfBox.k3 {W : World} {g : Nat} {c : CfD} {P : CfP} (h : CfBox W g c P) : W.cell? ⟨g, 3, none⟩ = some (.slice P.u c.us.length P.uc) := h.cell rfl
theorem CfBox.k4 {W : World} {g : Nat} {c : CfD} {P : CfP} (h : CfBox W g c P) : W.cell? ⟨g, 4, none⟩ = some (.slice P.p c.ps.length P.pc) := h.cell rfl
theorem CfBox.k5 {W : World} {g : Nat} {c : CfD} {P : CfP} (h : CfBox W g c P) : W.cell? ⟨g, 5, none⟩ = some (.int .i64 c.n0) := h.cell rfl
theorem CfBox.k6 {W : World} {g : Nat} {c : CfD} {P : CfP} (h : CfBox W g c P) : W.cell? ⟨g, 6, none⟩ = some (.int .i64 c.n1) := h.cell rfl
theorem CfBox.k7 {W : World} {g : Nat} {c : CfD} {P : CfP} (h : CfBox W g c P) : W.cell? ⟨g, 7, none⟩ = some (.int .i64 c.n2) := h.cell rfl
theorem CfBox.k8 {W : World} {g : Nat} {c : CfD} {P : CfP} (h : CfBox W g c P) : W.cell? ⟨g, 8, none⟩ = some (.int .i64 c.n3) := h.cell rfl
theorem CfBox.k9 {W : World} {g : Nat} {c : CfD} {P : CfP} (h : CfBox W g c P) : W.cell? ⟨g, 9, none⟩ = some (.int .i64 c.n4) := h.cell rfl
theorem CfBox.k10 {W : World} {g : Nat} {c : CfD} {P : CfP} (h : CfBox W g c P) : W.cell? ⟨g, 10, none⟩ = some (.int .i64 c.n5) := h.cell rfl
theorem CfBox.k11 {W : World} {g : Nat} {c : CfD} {P : CfP} (h : CfBox W g c P) : W.cell? ⟨g, 11, none⟩ = some (.int .i64 c.n6) := h.cell rfl
theorem CfBox.k12 {W : World} {g : Nat} {c : CfD} {P : CfP} (h : CfBox W g c P) : W.cell? ⟨g, 12, none⟩ = some (.int .i64 c.n7) := h.cell rfl
theorem CfBox.k13 {W : World} {g : Nat} {c : CfD} {P : CfP} (h : CfBox W g c P) : W.cell? ⟨g, 13, none⟩ = some (.int .i64 c.n8) := h.cell rfl
theorem CfBox.k14 {W : World} {g : Nat} {c : CfD} {P : CfP} (h : CfBox W g c P) : W.cell? ⟨g, 14, none⟩ = some (.int .i64 c.n9) := h.cell rfl
theorem CfBox.below {W W' : World} {B g : Nat} {c : CfD} {P : CfP} (h : CfBox W g c P) (hg : g < B) (hb : Below B W W') : CfBox W' g c P := (hb.block g hg).trans h
theorem CfBox.new (w : World) (c : CfD) (P : CfP) : CfBox (w.alloc (.cells (cfCells c P) 27)) w.heap.size c P := by
  show (w.heap.push _)[w.heap.size]? = _
  simp

/-! ## valid -/
def idxB (i n : Int) : Bool := decide (0 ≤ i ∧ i < n)
def kindB (k : Int) : Bool := decide (1 ≤ k ∧ k ≤ 4)
def timeB (t : Int) : Bool := decide ((1 ≤ t ∧ t ≤ 1048576) ∨ t = 4611686018427387904)
def edgeB (n : Int) (e : TriD) : Bool := idxB e.x n && idxB e.y n && timeB e.z
def unitB (cen n : Int) (u : TriD) : Bool := kindB u.x && idxB u.y cen && idxB u.z n
def byteB (c : UInt8) : Bool := decide (33 ≤ (c.toNat : Int) ∧ (c.toNat : Int) ≤ 126)
def codeB (s : ByteArray) : Bool := s.data.toList.all byteB && decide (1 ≤ s.size ∧ s.size ≤ 40)
def planB (p : PlD) : Bool := p.kinds.all kindB && codeB p.code && decide (1 ≤ p.urg ∧ p.urg ≤ 5) && decide (1 ≤ p.kinds.length ∧ p.kinds.length ≤ 8)
/-- two plans for the same thing -/
def twinB (p q : PlD) : Bool := decide (p.code.toList = q.code.toList ∧ p.urg = q.urg)
def pairB (ps : List PlD) (i j : Nat) : Bool := match ps[i]?, ps[j]? with
  | some p, some q => !twinB q p
  | _, _ => true
def freshB (ps : List PlD) (i : Nat) : Bool := (List.range i).all (pairB ps i)
def apartB (ps : List PlD) : Bool := (List.range ps.length).all (freshB ps)
def numB (i : Nat) (n : Int) : Bool := match i with
  | 6 | 7 => decide (0 ≤ n ∧ n ≤ 1099511627776)
  | 8 => decide (0 ≤ n ∧ n ≤ 256)
  | 9 => decide (1 ≤ n ∧ n ≤ 4096)
  | _ => decide (1 ≤ n ∧ n ≤ 1048576)
def numsB (ns : List Int) : Bool := ns.zipIdx.all fun p => numB p.2 p.1
def sizeB (c : CfD) : Bool := decide (1 ≤ c.cen ∧ c.cen ≤ 9) && decide (1 ≤ c.ds.length ∧ c.ds.length ≤ 4096)
def dsB (c : CfD) : Bool := c.ds.all (fun d => idxB d c.cen)
def esB (c : CfD) : Bool := c.es.all (edgeB c.ds.length) && decide (c.es.length ≤ 16384)
def usB (c : CfD) : Bool := c.us.all (unitB c.cen c.ds.length) && decide (c.us.length ≤ 256)
def psB (c : CfD) : Bool := c.ps.all planB && decide (c.ps.length ≤ 64) && apartB c.ps
def validB (c : CfD) : Bool := sizeB c && dsB c && esB c && usB c && psB c && numsB c.ns
theorem v_size {c : CfD} (h : sizeB c = false) : validB c = false := by simp [validB, h]
theorem v_ds {c : CfD} (h : dsB c = false) : validB c = false := by simp [validB, h]
theorem v_es {c : CfD} (h : esB c = false) : validB c = false := by simp [validB, h]
theorem v_us {c : CfD} (h : usB c = false) : validB c = false := by simp [validB, h]
theorem v_ps {c : CfD} (h : psB c = false) : validB c = false := by simp [validB, h]
theorem v_ns {c : CfD} (h : numsB c.ns = false) : validB c = false := by simp [validB, h]
theorem v_all {c : CfD} (h0 : sizeB c = true) (h1 : dsB c = true) (h2 : esB c = true) (h3 : usB c = true) (h4 : psB c = true) (h5 : numsB c.ns = true) : validB c = true := by simp [validB, h0, h1, h2, h3, h4, h5]
/-- what a test of a whole configuration answers: 0 where it is valid -/
def Zero (v : Bool) (w : World) (e : Ending) (w' : World) : Prop := ∃ r : Int, e = .returned (.int .i64 r) ∧ decide (r = 0) = v ∧ Below w.heap.size w w'
/-- what a test answers -/
def Says (v : Bool) (w : World) (e : Ending) (w' : World) : Prop := e = .returned (.bool v) ∧ Below w.heap.size w w'
end Go.Proofs.YtgaimkgaooiieaaGreatDoor
