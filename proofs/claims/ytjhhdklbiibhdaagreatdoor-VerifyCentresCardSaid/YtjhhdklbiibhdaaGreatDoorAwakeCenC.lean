/-
  What the function that verify.CheckLog hands to examine keeps in memory: no program in sight.
-/
import Derived.Test.YtjhhdklbiibhdaaGreatDoorAwakeCenB
import Derived.Test.YtjhhdklbiibhdaaGreatDoorAwakeMapB
import Derived.Test.YtjhhdklbiibhdaaGreatDoorAwakeJudgeA
namespace Go.Proofs.YtjhhdklbiibhdaaGreatDoor
open Go Go.RowKit

/-! ## bytes, entries and events that lie below B -/
def BytesLow (W : World) (B : Nat) (A : Option Addr) (xs : List Int) : Prop := 0 < xs.length → ∃ b o, A = some ⟨b, o, none⟩ ∧ b < B ∧ ∀ i, i < xs.length → W.cell? ⟨b, o + i, none⟩ = some (.int .u8 (xs.getD i 0))
theorem BytesLow.below {W W' : World} {B : Nat} {A : Option Addr} {xs : List Int} (h : BytesLow W B A xs) (hb : Below B W W') : BytesLow W' B A xs := fun hn => by
  obtain ⟨b, o, e, hlt, hc⟩ := h hn
  exact ⟨b, o, e, hlt, fun i hi => (hb.cell (p := ⟨b, o + i, none⟩) hlt).trans (hc i hi)⟩
theorem BytesLow.at' {W : World} {B : Nat} {A : Option Addr} {xs : List Int} (h : BytesLow W B A xs) (hB : B ≤ W.heap.size) : BytesAt 5 W W.heap.size A xs := fun hn => by
  obtain ⟨b, o, e, hlt, hc⟩ := h hn
  exact ⟨b, o, e, ⟨by omega, .inl (by omega)⟩, hc⟩
theorem bytesLow_of {W : World} {A : Option Addr} {xs : List Int} (h : BytesAt 5 W W.heap.size A xs) : BytesLow W W.heap.size A xs := fun hn => by
  obtain ⟨b, o, e, ho, hc⟩ := h hn
  exact ⟨b, o, e, ho.1, hc⟩
theorem BytesLow.mono {W : World} {B B' : Nat} {A : Option Addr} {xs : List Int} (h : BytesLow W B A xs) (hB : B ≤ B') : BytesLow W B' A xs := fun hn => by
  obtain ⟨b, o, e, hlt, hc⟩ := h hn
  exact ⟨b, o, e, by omega, hc⟩
def EnLow (W : World) (B : Nat) (A : Option Addr) (E : List EnD) : Prop := ∀ (k : Nat) y, E[k]? = some y → ∃ b off D d, A = some ⟨b, off, none⟩ ∧ b < B ∧ W.rangeAt b (off + k * 3) (enCells y D d) ∧ BytesLow W B D y.body
theorem EnLow.below {W W' : World} {B : Nat} {A : Option Addr} {E : List EnD} (h : EnLow W B A E) (hb : Below B W W') : EnLow W' B A E := fun k y hy => by
  obtain ⟨b, off, D, d, e, hlt, hr, hc⟩ := h k y hy
  exact ⟨b, off, D, d, e, hlt, fun j v hv => (hb.cell (p := ⟨b, off + k * 3 + j, none⟩) hlt).trans (hr j v hv), hc.below hb⟩
theorem enLow_of {W : World} {A : Option Addr} {E : List EnD} (h : RowIn 5 3 (EnC 5) W A E) : EnLow W W.heap.size A E := fun k y hy => by
  obtain ⟨b, off, cs, e, hlt, _, hr, D, d, rfl, hb, _⟩ := h k y hy
  exact ⟨b, off, D, d, e, hlt, hr, bytesLow_of hb⟩
def EvsLow (W : World) (B : Nat) (A : Option Addr) (L : List EvD) : Prop := ∀ (k : Nat) x, L[k]? = some x → ∃ b off C cap tl, A = some ⟨b, off, none⟩ ∧ b < B ∧ (evCells x C cap tl).length = 28 ∧ W.rangeAt b (off + k * 28) (evCells x C cap tl) ∧ (∀ v ∈ evCells x C cap tl, v.oneCell' = true) ∧ BytesLow W B C x.body
theorem EvsLow.below {W W' : World} {B : Nat} {A : Option Addr} {L : List EvD} (h : EvsLow W B A L) (hb : Below B W W') : EvsLow W' B A L := fun k x hx => by
  obtain ⟨b, off, C, cap, tl, e, hlt, hl, hr, h1, hc⟩ := h k x hx
  exact ⟨b, off, C, cap, tl, e, hlt, hl, fun j v hv => (hb.cell (p := ⟨b, off + k * 28 + j, none⟩) hlt).trans (hr j v hv), h1, hc.below hb⟩
theorem EvsLow.mono {W : World} {B B' : Nat} {A : Option Addr} {L : List EvD} (h : EvsLow W B A L) (hB : B ≤ B') : EvsLow W B' A L := fun k x hx => by
  obtain ⟨b, off, C, cap, tl, e, hlt, hl, hr, h1, hc⟩ := h k x hx
  exact ⟨b, off, C, cap, tl, e, by omega, hl, hr, h1, hc.mono hB⟩
theorem evsLow_of {W : World} {A : Option Addr} {L : List EvD} (h : RowIn 5 28 (EvC 5) W A L) : EvsLow W W.heap.size A L := fun k x hx => by
  obtain ⟨b, off, cs, e, hlt, hl, hr, C, cap, tl, rfl, _, h1, hb, _⟩ := h k x hx
  exact ⟨b, off, C, cap, tl, e, hlt, hl, hr, evCells_one h1, bytesLow_of hb⟩

/-! ## the centres' cells -/
def cenCells (l : List CenS) : List Value := l.flatMap fun c => [.bool c.down, .int .i64 c.last]
theorem cenCells_cons (c : CenS) (l : List CenS) : cenCells (c :: l) = .bool c.down :: .int .i64 c.last :: cenCells l := rfl
theorem cenCells_len : ∀ l : List CenS, (cenCells l).length = l.length * 2
  | [] => rfl
  | c :: l => by
    have := cenCells_len l
    simp only [cenCells_cons, List.length_cons]
    omega
theorem cenCells_at : ∀ (l : List CenS) (j : Nat) (c : CenS), l[j]? = some c → (cenCells l)[j * 2]? = some (.bool c.down) ∧ (cenCells l)[j * 2 + 1]? = some (.int .i64 c.last)
  | [], _, _, h => by simp at h
  | y :: l, 0, c, h => by
    simp at h
    subst h
    exact ⟨rfl, rfl⟩
  | y :: l, j + 1, c, h => by
    obtain ⟨h0, h1⟩ := cenCells_at l j c (by simpa using h)
    rw [cenCells_cons, show (j + 1) * 2 = j * 2 + 1 + 1 by omega]
    refine ⟨by simpa using h0, ?_⟩
    rw [show j * 2 + 1 + 1 + 1 = (j * 2 + 1) + 1 + 1 by omega]
    simpa using h1
theorem cenCells_set : ∀ (l : List CenS) (j : Nat) (c : CenS), cenCells (l.set j c) = ((cenCells l).set (j * 2) (.bool c.down)).set (j * 2 + 1) (.int .i64 c.last)
  | [], _, _ => by simp [cenCells]
  | y :: l, 0, c => rfl
  | y :: l, j + 1, c => by
    have := cenCells_set l j c
    rw [List.set_cons_succ, cenCells_cons, cenCells_cons, this, show (j + 1) * 2 + 1 = (j * 2 + 1) + 1 + 1 by omega, show (j + 1) * 2 = j * 2 + 1 + 1 by omega]
    rfl
theorem set_same {α : Type} {l : List α} {j : Nat} {v : α} (h : l[j]? = some v) : l.set j v = l := by
  obtain ⟨hl, rfl⟩ := List.getElem?_eq_some_iff.1 h
  exact List.set_getElem_self hl
theorem cenCells_down {l : List CenS} {j : Nat} {c : CenS} (h : l[j]? = some c) (d : Bool) : cenCells (l.set j ⟨d, c.last⟩) = (cenCells l).set (j * 2) (.bool d) := by
  rw [cenCells_set]
  exact set_same (by rw [List.getElem?_set_ne (by omega)]; exact (cenCells_at l j c h).2)
theorem cenCells_last {l : List CenS} {j : Nat} {c : CenS} (h : l[j]? = some c) (z : Int) : cenCells (l.set j ⟨c.down, z⟩) = (cenCells l).set (j * 2 + 1) (.int .i64 z) := by
  rw [cenCells_set, set_same (cenCells_at l j c h).1]

/-! ## the districts' map -/
def authV (a : AuthS) : Value := .agg #[.int .i64 a.who, .int .i64 a.tick, .int .i64 a.epoch]
def authKv (l : List AuthS) : List (Int × Value) := l.map fun a => (a.id, authV a)
theorem authKv_get : ∀ (l : List AuthS) (z : Int), getK (authKv l) z = (getA l z).map authV
  | [], _ => rfl
  | a :: l, z => by
    have := authKv_get l z
    simp only [authKv, List.map_cons, getK, getA] at this ⊢
    split
    · rfl
    · exact this
theorem authKv_put : ∀ (l : List AuthS) (a : AuthS), authKv (putA l a) = putK (authKv l) a.id (authV a)
  | [], _ => rfl
  | b :: l, a => by
    have := authKv_put l a
    simp only [authKv, List.map_cons, putK, putA] at this ⊢
    split
    · rfl
    · rw [List.map_cons, this]

structure CenInv (W : World) (AE : Option Addr) (nE cE B cbx lbx mbx mb : Nat) (s : LogS) : Prop where
  hc : W.heap[cbx]? = some (.cells (cenCells s.cen).toArray 80)
  n9 : s.cen.length = 9
  hl : W.heap[lbx]? = some (.cells #[.slice AE nE cE] 32)
  hm : W.heap[mbx]? = some (.cells #[.map (some mb)] 81)
  mp : MapKv W mb (authKv s.auth)
  low : B ≤ cbx ∧ B ≤ lbx ∧ B ≤ mbx ∧ B ≤ mb

/-- rows of violations stay -/
def KeepsF (W W' : World) : Prop := W.heap.size ≤ W'.heap.size ∧ ∀ (k : Nat) c fz, W.heap[k]? = some (.cells c 67 fz) → W'.heap[k]? = W.heap[k]?
theorem KeepsF.trans {a b c : World} (h : KeepsF a b) (k : KeepsF b c) : KeepsF a c := ⟨Nat.le_trans h.1 k.1, fun i x fz hx => (k.2 i x fz ((h.2 i x fz hx).trans hx)).trans (h.2 i x fz hx)⟩
theorem keepsF_of {W W' : World} (h : Below W.heap.size W W') : KeepsF W W' := ⟨h.size, fun k _ _ hk => h.block k (Array.getElem?_eq_some_iff.1 hk).1⟩
theorem keepsF_grown {W W' : World} {g : Nat} {o : Obj} (hg : W.grownBy W' (some g)) (h : W.heap[g]? = some o) (hne : ∀ c fz, o ≠ .cells c 67 fz) : KeepsF W W' := ⟨hg.size, fun k c fz hk => hg.block k (Array.getElem?_eq_some_iff.1 hk).1 fun e => by
  have e : k = g := by simpa using e
  subst e
  rw [h] at hk
  cases hk
  exact hne _ _ rfl⟩
theorem below_grown {W W' : World} {B g : Nat} (hg : W.grownBy W' (some g)) (hB : B ≤ g) (hs : B ≤ W.heap.size) : Below B W W' := ⟨hg.os, hg.tape, hg.output, hg.size, fun k hk => hg.block k (by omega) (fun e => by simp at e; omega)⟩
section
variable {W W' : World} {AE : Option Addr} {nE cE B cbx lbx mbx mb : Nat} {s : LogS}
/-- behind whatever leaves all blocks but rows of violations -/
theorem CenInv.keep (h : CenInv W AE nE cE B cbx lbx mbx mb s) (e : ∀ (k : Nat) o, W.heap[k]? = some o → (∀ c fz, o ≠ .cells c 67 fz) → W'.heap[k]? = W.heap[k]?) : CenInv W' AE nE cE B cbx lbx mbx mb s := by
  refine ⟨(e _ _ h.hc (by intro c fz; simp)).trans h.hc, h.n9, (e _ _ h.hl (by intro c fz; simp)).trans h.hl, (e _ _ h.hm (by intro c fz; simp)).trans h.hm, ?_, h.low⟩
  obtain ⟨es, clock, hb, he⟩ := h.mp
  exact h.mp.keep (e _ _ hb (by intro c fz; simp))
theorem CenInv.next (h : CenInv W AE nE cE B cbx lbx mbx mb s) (e : ∀ k, k < W.heap.size → W'.heap[k]? = W.heap[k]?) : CenInv W' AE nE cE B cbx lbx mbx mb s :=
  h.keep fun k _ ho _ => e k (Array.getElem?_eq_some_iff.1 ho).1
theorem CenInv.other (_h : CenInv W AE nE cE B cbx lbx mbx mb s) {g : Nat} {o : Obj} (hg : W.grownBy W' (some g)) (ho : W.heap[g]? = some o) {k : Nat} {p : Obj} (hp : W.heap[k]? = some p) (hne : o ≠ p) : W'.heap[k]? = W.heap[k]? :=
  hg.block k (Array.getElem?_eq_some_iff.1 hp).1 fun e => by
    have e : k = g := by simpa using e
    subst e
    rw [ho] at hp
    exact hne (Option.some.inj hp)
/-- a centre's cells are written -/
theorem CenInv.cen (h : CenInv W AE nE cE B cbx lbx mbx mb s) {l : List CenS} (hl9 : l.length = 9) (hg : W.grownBy W' (some cbx)) (hw : W'.heap[cbx]? = some (.cells (cenCells l).toArray 80)) (hB : B ≤ W.heap.size) : CenInv W' AE nE cE B cbx lbx mbx mb ⟨l, s.auth⟩ ∧ Below B W W' ∧ KeepsF W W' := by
  refine ⟨⟨hw, hl9, (h.other hg h.hc h.hl (by simp)).trans h.hl, (h.other hg h.hc h.hm (by simp)).trans h.hm, ?_, h.low⟩, below_grown hg h.low.1 hB, keepsF_grown hg h.hc (by intro c fz; simp)⟩
  obtain ⟨es, clock, hb, he⟩ := h.mp
  exact h.mp.keep (h.other hg h.hc hb (by simp))
/-- the map is written -/
theorem CenInv.map (h : CenInv W AE nE cE B cbx lbx mbx mb s) {a : AuthS} (hg : W.grownBy W' (some mb)) (hm : MapKv W' mb (putK (authKv s.auth) a.id (authV a))) (hB : B ≤ W.heap.size) : CenInv W' AE nE cE B cbx lbx mbx mb ⟨s.cen, putA s.auth a⟩ ∧ Below B W W' ∧ KeepsF W W' := by
  obtain ⟨es, clock, hb, he⟩ := h.mp
  refine ⟨⟨(h.other hg hb h.hc (by simp)).trans h.hc, h.n9, (h.other hg hb h.hl (by simp)).trans h.hl, (h.other hg hb h.hm (by simp)).trans h.hm, ?_, h.low⟩, below_grown hg h.low.2.2.2 hB, keepsF_grown hg hb (by intro c fz; simp)⟩
  rw [authKv_put]
  exact hm
end
end Go.Proofs.YtjhhdklbiibhdaaGreatDoor
