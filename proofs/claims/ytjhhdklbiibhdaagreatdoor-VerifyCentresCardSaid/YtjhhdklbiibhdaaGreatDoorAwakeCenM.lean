/-
  The rows that the reference's Agreed keeps, as cells, and how they stay apart: no program in sight.
-/
import Derived.Test.YtjhhdklbiibhdaaGreatDoorAwakeCenL
import Derived.Laws.OwnMore
namespace Go.Proofs.YtjhhdklbiibhdaaGreatDoor
open Go Go.RowKit

/-! ## centres: down, next index -/
def nexCells (l : List CenS) : List Value := l.flatMap fun c => [.bool c.down, .int .i64 (c.last + 1)]
theorem nexCells_cons (c : CenS) (l : List CenS) : nexCells (c :: l) = .bool c.down :: .int .i64 (c.last + 1) :: nexCells l := rfl
theorem nexCells_at : ∀ (l : List CenS) (j : Nat) (c : CenS), l[j]? = some c → (nexCells l)[j * 2]? = some (.bool c.down) ∧ (nexCells l)[j * 2 + 1]? = some (.int .i64 (c.last + 1))
  | [], _, _, h => by simp at h
  | y :: l, 0, c, h => by
    simp at h
    subst h
    exact ⟨rfl, rfl⟩
  | y :: l, j + 1, c, h => by
    obtain ⟨h0, h1⟩ := nexCells_at l j c (by simpa using h)
    rw [nexCells_cons, show (j + 1) * 2 = j * 2 + 1 + 1 by omega]
    refine ⟨by simpa using h0, ?_⟩
    rw [show j * 2 + 1 + 1 + 1 = (j * 2 + 1) + 1 + 1 by omega]
    simpa using h1
theorem nexCells_set : ∀ (l : List CenS) (j : Nat) (c : CenS), nexCells (l.set j c) = ((nexCells l).set (j * 2) (.bool c.down)).set (j * 2 + 1) (.int .i64 (c.last + 1))
  | [], _, _ => by simp [nexCells]
  | y :: l, 0, c => rfl
  | y :: l, j + 1, c => by
    have := nexCells_set l j c
    rw [List.set_cons_succ, nexCells_cons, nexCells_cons, this, show (j + 1) * 2 + 1 = (j * 2 + 1) + 1 + 1 by omega, show (j + 1) * 2 = j * 2 + 1 + 1 by omega]
    rfl
theorem nexCells_down {l : List CenS} {j : Nat} {c : CenS} (h : l[j]? = some c) (d : Bool) : nexCells (l.set j ⟨d, c.last⟩) = (nexCells l).set (j * 2) (.bool d) := by
  rw [nexCells_set]
  exact set_same (by rw [List.getElem?_set_ne (by omega)]; exact (nexCells_at l j c h).2)
theorem nexCells_last {l : List CenS} {j : Nat} {c : CenS} (h : l[j]? = some c) (z : Int) : nexCells (l.set j ⟨c.down, z⟩) = (nexCells l).set (j * 2 + 1) (.int .i64 (z + 1)) := by
  rw [nexCells_set, set_same (nexCells_at l j c h).1]
/-- the first rounds: the next index of the first k centres is 1 -/
def nexInit (k : Nat) : List Value := (List.range 9).flatMap fun i => [.bool false, .int .i64 (if i < k then 1 else 0)]
theorem nexInit_step : ∀ k, k < 9 → (nexInit k).set (k * 2 + 1) (.int .i64 1) = nexInit (k + 1)
  | 0, _ => rfl
  | 1, _ => rfl
  | 2, _ => rfl
  | 3, _ => rfl
  | 4, _ => rfl
  | 5, _ => rfl
  | 6, _ => rfl
  | 7, _ => rfl
  | 8, _ => rfl
  | k + 9, h => by omega
theorem nexInit_end : nexInit 9 = nexCells (List.replicate 9 ⟨false, 0⟩) := rfl

/-! ## districts: id, tick, who, epoch -/
def disCells (l : List AuthS) : List Value := l.flatMap fun a => [.int .i64 a.id, .int .i64 a.tick, .int .i64 a.who, .int .i64 a.epoch]
theorem disCells_cons (a : AuthS) (l : List AuthS) : disCells (a :: l) = .int .i64 a.id :: .int .i64 a.tick :: .int .i64 a.who :: .int .i64 a.epoch :: disCells l := rfl
theorem disCells_snoc (l : List AuthS) (a : AuthS) : disCells (l ++ [a]) = disCells l ++ [.int .i64 a.id, .int .i64 a.tick, .int .i64 a.who, .int .i64 a.epoch] := by simp [disCells]
theorem disCells_at : ∀ (l : List AuthS) (j : Nat) (a : AuthS), l[j]? = some a → (disCells l)[j * 4]? = some (.int .i64 a.id) ∧ (disCells l)[j * 4 + 1]? = some (.int .i64 a.tick) ∧ (disCells l)[j * 4 + 2]? = some (.int .i64 a.who) ∧ (disCells l)[j * 4 + 3]? = some (.int .i64 a.epoch)
  | [], _, _, h => by simp at h
  | y :: l, 0, a, h => by
    simp at h
    subst h
    exact ⟨rfl, rfl, rfl, rfl⟩
  | y :: l, j + 1, a, h => by
    obtain ⟨h0, h1, h2, h3⟩ := disCells_at l j a (by simpa using h)
    rw [disCells_cons, show (j + 1) * 4 = j * 4 + 1 + 1 + 1 + 1 by omega]
    refine ⟨by simpa using h0, ?_, ?_, ?_⟩
    · rw [show j * 4 + 1 + 1 + 1 + 1 + 1 = (j * 4 + 1) + 1 + 1 + 1 + 1 by omega]
      simpa using h1
    · rw [show j * 4 + 1 + 1 + 1 + 1 + 2 = (j * 4 + 2) + 1 + 1 + 1 + 1 by omega]
      simpa using h2
    · rw [show j * 4 + 1 + 1 + 1 + 1 + 3 = (j * 4 + 3) + 1 + 1 + 1 + 1 by omega]
      simpa using h3
theorem disCells_set : ∀ (l : List AuthS) (j : Nat) (a b : AuthS), l[j]? = some b → a.id = b.id → disCells (l.set j a) = (((disCells l).set (j * 4 + 1) (.int .i64 a.tick)).set (j * 4 + 2) (.int .i64 a.who)).set (j * 4 + 3) (.int .i64 a.epoch)
  | [], _, _, _, h, _ => by simp at h
  | y :: l, 0, a, b, h, e => by
    simp at h
    subst h
    rw [List.set_cons_zero, disCells_cons, disCells_cons, e]
    rfl
  | y :: l, j + 1, a, b, h, e => by
    have := disCells_set l j a b (by simpa using h) e
    rw [List.set_cons_succ, disCells_cons, disCells_cons, this, show (j + 1) * 4 + 1 = (j * 4 + 1) + 1 + 1 + 1 + 1 by omega, show (j + 1) * 4 + 2 = (j * 4 + 2) + 1 + 1 + 1 + 1 by omega, show (j + 1) * 4 + 3 = (j * 4 + 3) + 1 + 1 + 1 + 1 by omega]
    rfl
/-- where a district stands -/
def idxA : List AuthS → Int → Nat
  | [], _ => 0
  | b :: l, n => if b.id = n then 0 else idxA l n + 1
theorem idxA_none : ∀ (l : List AuthS) (n : Int), getA l n = none → idxA l n = l.length ∧ ∀ u : AuthS, u.id = n → putA l u = l ++ [u]
  | [], _, _ => ⟨rfl, fun _ _ => rfl⟩
  | b :: l, n, h => by
    unfold getA at h
    split at h
    · cases h
    · rename_i hne
      obtain ⟨h1, h2⟩ := idxA_none l n h
      refine ⟨by rw [idxA, if_neg hne, h1]; rfl, fun u hu => ?_⟩
      rw [putA, if_neg (by rw [hu]; exact hne), h2 u hu]
      rfl
theorem idxA_some : ∀ (l : List AuthS) (n : Int) (a : AuthS), getA l n = some a → l[idxA l n]? = some a ∧ a.id = n ∧ ∀ u : AuthS, u.id = n → putA l u = l.set (idxA l n) u
  | [], _, _, h => by cases h
  | b :: l, n, a, h => by
    unfold getA at h
    split at h
    · rename_i he
      cases h
      refine ⟨by rw [idxA, if_pos he]; rfl, he, fun u hu => ?_⟩
      rw [putA, if_pos (by rw [hu]; exact he), idxA, if_pos he]
      rfl
    · rename_i hne
      obtain ⟨h1, h2, h3⟩ := idxA_some l n a h
      refine ⟨by rw [idxA, if_neg hne]; simpa using h1, h2, fun u hu => ?_⟩
      rw [putA, if_neg (by rw [hu]; exact hne), h3 u hu, idxA, if_neg hne]
      rfl
theorem idxA_before : ∀ (l : List AuthS) (n : Int) (i : Nat) (b : AuthS), i < idxA l n → l[i]? = some b → ¬ b.id = n
  | [], _, i, b, h, _ => by simp [idxA] at h
  | c :: l, n, i, b, h, hb => by
    unfold idxA at h
    split at h
    · omega
    · rename_i hne
      cases i with
      | zero =>
        simp at hb
        subst hb
        exact hne
      | succ i => exact idxA_before l n i b (by omega) (by simpa using hb)
theorem idxA_le : ∀ (l : List AuthS) (n : Int), idxA l n ≤ l.length
  | [], _ => Nat.le_refl _
  | b :: l, n => by
    have := idxA_le l n
    unfold idxA
    split
    · omega
    · simp only [List.length_cons]
      omega

/-! ## the rows together -/
structure AgrInv (W w : World) (vo : Value) (F : List (Int × Int)) (g5 : Nat) (cen : List CenS) (vd : Value) (auth : List AuthS) (vl : Value) (nE : Nat) (css : List (List Value)) : Prop where
  o : W.ownsRow w.heap.size 64 2 vo F.length (fltCells F)
  x : W.ownsRow w.heap.size 89 2 (.slice (some ⟨g5, 0, none⟩) 9 9) 9 (nexCells cen)
  d : W.ownsRow w.heap.size 93 4 vd auth.length (disCells auth)
  l : W.ownsRow w.heap.size 36 3 vl nE css.flatten
  b : Below w.heap.size w W
/-- rows of different types lie in different blocks -/
theorem ownC_apart {W : World} {B B' T T' S S' n n' : Nat} {v v' : Value} {xs xs' : List Value} (h : W.ownsRow B T S v n xs) (h' : W.ownsRow B' T' S' v' n' xs') (hne : T ≠ T') : v.ownBlock = none ∨ v.ownBlock ≠ v'.ownBlock := by
  rcases h.2 with ⟨rfl, _⟩ | ⟨g, cap, cur, rfl, _, hg, _⟩
  · exact .inl rfl
  · refine .inr fun e => ?_
    rcases h'.2 with ⟨rfl, _⟩ | ⟨g', cap', cur', rfl, _, hg', _⟩
    · cases e
    · have e : g = g' := by simpa [Value.ownBlock] using e
      subst e
      rw [hg] at hg'
      simp at hg'
      exact hne hg'.2
section
variable {W W' w : World} {vo vd vl v' : Value} {F F' : List (Int × Int)} {g5 g7 n c7 nE : Nat} {cen cen' : List CenS} {auth auth' : List AuthS} {css : List (List Value)}
theorem AgrInv.size (h : AgrInv W w vo F g5 cen vd auth vl nE css) : w.heap.size ≤ W.heap.size := h.b.size
theorem AgrInv.alloc (h : AgrInv W w vo F g5 cen vd auth vl nE css) (o : Obj) : AgrInv (W.alloc o) w vo F g5 cen vd auth vl nE css :=
  ⟨h.o.alloc o, h.x.alloc o, h.d.alloc o, h.l.alloc o, h.b.alloc h.size o⟩
theorem AgrInv.drewN (h : AgrInv W w vo F g5 cen vd auth vl nE css) (n : Nat) : AgrInv (W.drewN n) w vo F g5 cen vd auth vl nE css :=
  ⟨h.o, h.x, h.d, h.l, h.b.trans ⟨rfl, rfl, rfl, Nat.le_refl _, fun _ _ => rfl⟩⟩
theorem AgrInv.drew (h : AgrInv W w vo F g5 cen vd auth vl nE css) : AgrInv W.drew w vo F g5 cen vd auth vl nE css :=
  ⟨h.o, h.x, h.d, h.l, h.b.trans ⟨rfl, rfl, rfl, Nat.le_refl _, fun _ _ => rfl⟩⟩
theorem AgrInv.below (h : AgrInv W w vo F g5 cen vd auth vl nE css) (hb : Below W.heap.size W W') : AgrInv W' w vo F g5 cen vd auth vl nE css :=
  have keep : ∀ {T S n : Nat} {v : Value} {xs : List Value}, W.ownsRow w.heap.size T S v n xs → W'.ownsRow w.heap.size T S v n xs := fun {T S n v xs} r => r.kept (w' := W') (row := none) ⟨hb.os, hb.tape, hb.output, hb.size, fun k hk _ => hb.block k hk⟩ (by cases v.ownBlock <;> simp)
  ⟨keep h.o, keep h.x, keep h.d, keep h.l, h.b.trans (hb.mono h.size)⟩
theorem AgrInv.out (h : AgrInv W w vo F g5 cen vd auth vl nE css) (hg : W.grownBy W' vo.ownBlock) (hn : W'.ownsRow w.heap.size 64 2 v' F'.length (fltCells F')) : AgrInv W' w v' F' g5 cen vd auth vl nE css :=
  ⟨hn, h.x.kept hg (ownC_apart h.x h.o (by decide)), h.d.kept hg (ownC_apart h.d h.o (by decide)), h.l.kept hg (ownC_apart h.l h.o (by decide)), h.b.grown hg h.size (fun k hk => (h.o.lt k hk).1)⟩
theorem AgrInv.dis (h : AgrInv W w vo F g5 cen vd auth vl nE css) (hg : W.grownBy W' vd.ownBlock) (hn : W'.ownsRow w.heap.size 93 4 v' auth'.length (disCells auth')) : AgrInv W' w vo F g5 cen v' auth' vl nE css :=
  ⟨h.o.kept hg (ownC_apart h.o h.d (by decide)), h.x.kept hg (ownC_apart h.x h.d (by decide)), hn, h.l.kept hg (ownC_apart h.l h.d (by decide)), h.b.grown hg h.size (fun k hk => (h.d.lt k hk).1)⟩
theorem AgrInv.recen (h : AgrInv W w vo F g5 cen vd auth vl nE css) (hg : W.grownBy W' (some g5)) (hn : W'.ownsRow w.heap.size 89 2 (.slice (some ⟨g5, 0, none⟩) 9 9) 9 (nexCells cen')) : AgrInv W' w vo F g5 cen' vd auth vl nE css :=
  ⟨h.o.kept hg (ownC_apart h.o h.x (by decide)), hn, h.d.kept hg (ownC_apart h.d h.x (by decide)), h.l.kept hg (ownC_apart h.l h.x (by decide)), h.b.grown hg h.size (fun k hk => (h.x.lt k hk).1)⟩
theorem AgrInv.down (h : AgrInv W w vo F g5 cen vd auth vl nE css) {j : Nat} {c : CenS} (hc : cen[j]? = some c) (d : Bool) : AgrInv (W.setCell ⟨g5, j * 2, none⟩ (.bool d)) w vo F g5 (cen.set j ⟨d, c.last⟩) vd auth vl nE css := by
  obtain ⟨h1, h2⟩ := h.x.stored (j * 2) (.bool d)
  exact h.recen h2 (by rw [nexCells_down hc]; exact h1)
theorem AgrInv.last (h : AgrInv W w vo F g5 cen vd auth vl nE css) {j : Nat} {c : CenS} (hc : cen[j]? = some c) (z : Int) : AgrInv (W.setCell ⟨g5, j * 2 + 1, none⟩ (.int .i64 (z + 1))) w vo F g5 (cen.set j ⟨c.down, z⟩) vd auth vl nE css := by
  obtain ⟨h1, h2⟩ := h.x.stored (j * 2 + 1) (.int .i64 (z + 1))
  exact h.recen h2 (by rw [nexCells_last hc]; exact h1)
theorem AgrInv.reset (h : AgrInv W w vo F g5 cen vd auth vl nE css) {j : Nat} {c : CenS} (hc : cen[j]? = some c) : AgrInv ((W.setCell ⟨g5, j * 2, none⟩ (.bool false)).setCell ⟨g5, j * 2 + 1, none⟩ (.int .i64 1)) w vo F g5 (cen.set j ⟨false, 0⟩) vd auth vl nE css := by
  have hj : j < cen.length := (List.getElem?_eq_some_iff.1 hc).1
  have h2 := (h.down hc false).last (j := j) (c := ⟨false, c.last⟩) (by simp [hj]) 0
  simpa using h2
theorem AgrInv.put (h : AgrInv W w vo F g5 cen (.slice (some ⟨g7, 0, none⟩) n c7) auth vl nE css) (hn : n = auth.length) {j : Nat} {a b : AuthS} (hb : auth[j]? = some b) (he : a.id = b.id) :
    AgrInv (((W.setCell ⟨g7, j * 4 + 1, none⟩ (.int .i64 a.tick)).setCell ⟨g7, j * 4 + 2, none⟩ (.int .i64 a.who)).setCell ⟨g7, j * 4 + 3, none⟩ (.int .i64 a.epoch)) w vo F g5 cen (.slice (some ⟨g7, 0, none⟩) n c7) (auth.set j a) vl nE css := by
  subst hn
  obtain ⟨h1, k1⟩ := h.d.stored (j * 4 + 1) (.int .i64 a.tick)
  obtain ⟨h2, k2⟩ := h1.stored (j * 4 + 2) (.int .i64 a.who)
  obtain ⟨h3, k3⟩ := h2.stored (j * 4 + 3) (.int .i64 a.epoch)
  have hg : W.grownBy (((W.setCell ⟨g7, j * 4 + 1, none⟩ (.int .i64 a.tick)).setCell ⟨g7, j * 4 + 2, none⟩ (.int .i64 a.who)).setCell ⟨g7, j * 4 + 3, none⟩ (.int .i64 a.epoch)) (some g7) :=
    ⟨rfl, rfl, rfl, by simp, fun k hk hne => ((k3.block k (by simpa using hk) hne).trans (k2.block k (by simpa using hk) hne)).trans (k1.block k hk hne)⟩
  exact h.dis hg (by rw [List.length_set, disCells_set auth j a b hb he]; exact h3)
end

/-- a cell of the record made first, behind an append -/
theorem new_keptC {W w2 : World} {ca : Array Value} {o : Obj} {row : Option Nat} {m : Nat} (hg : (((W.alloc (.cells ca 46)).drewN m).alloc o).grownBy w2 row) (hne : row ≠ some W.heap.size) (i : Nat) (v : Value) (h : ca[i]? = some v) : w2.cell? ⟨W.heap.size, i, none⟩ = some v := by
  have e : w2.heap[W.heap.size]? = some (.cells ca 46) := by
    rw [hg.block W.heap.size (show W.heap.size < ((W.heap.push _).push _).size by simp; omega) (fun e => hne e.symm)]
    show ((W.heap.push _).push _)[W.heap.size]? = _
    rw [Array.getElem?_push, if_neg (by simp), Array.getElem?_push, if_pos rfl]
  unfold World.cell?
  simp only [e]
  exact h
theorem row_oldC {W : World} {B T S n : Nat} {v : Value} {xs : List Value} (h : W.ownsRow B T S v n xs) : v.ownBlock ≠ some W.heap.size := fun e => by
  have := (h.lt _ e).2
  omega

/-! ## the plain pass once more -/
section
variable {E : List EnD} {x : EvD} {s : LogS} {c : CenS}
theorem jl_pass (hk : logKind x.kind = false) : judgeL E x s = (0, s) := by simp only [judgeL, hk]; rfl
theorem jl_none (hk : logKind x.kind = true) (h : cenAt s.cen x.who = none) : judgeL E x s = (8, s) := by simp only [judgeL, hk, if_true, h]
theorem jl_down (hk : logKind x.kind = true) (h : cenAt s.cen x.who = some c) (hd : ¬ c.down = decide (x.kind = 11)) : judgeL E x s = (8, s) := by
  simp only [judgeL, hk, if_true, h]
  rw [if_neg hd]
theorem jl_on (hk : logKind x.kind = true) (h : cenAt s.cen x.who = some c) (hd : c.down = decide (x.kind = 11)) : judgeL E x s = judgeOn E x s c := by
  simp only [judgeL, hk, if_true, h]
  rw [if_pos hd]
theorem jo_10 (k : x.kind = 10) : judgeOn E x s c = (0, ⟨s.cen.set x.who.toNat ⟨true, c.last⟩, s.auth⟩) := by
  unfold judgeOn
  rw [if_pos k]
theorem jo_11 (k : x.kind = 11) : judgeOn E x s c = (0, ⟨s.cen.set x.who.toNat ⟨false, 0⟩, s.auth⟩) := by
  unfold judgeOn
  rw [if_neg (by omega), if_pos k]
theorem jo_7 (k : x.kind = 7) : judgeOn E x s c = if x.n = c.last + 1 then (if sameAt E x then 0 else 6, ⟨s.cen.set x.who.toNat ⟨c.down, x.n⟩, s.auth⟩) else (8, s) := by
  unfold judgeOn
  rw [if_neg (by omega), if_neg (by omega), if_pos k]
theorem jo_13 (k : x.kind = 13) : judgeOn E x s c = (0, s) := by
  unfold judgeOn
  rw [if_neg (by omega), if_neg (by omega), if_neg (by omega), if_neg (by omega)]
theorem jo_new (k : x.kind = 12) (hg : getA s.auth x.n = none) : judgeOn E x s c = (0, ⟨s.cen, putA s.auth (authOf x)⟩) := by
  unfold judgeOn
  rw [if_neg (by omega), if_neg (by omega), if_neg (by omega), if_pos k, hg]
theorem jo_clash (k : x.kind = 12) {a : AuthS} (hg : getA s.auth x.n = some a) (h : clash a x = true) : judgeOn E x s c = (2, s) := by
  unfold judgeOn
  rw [if_neg (by omega), if_neg (by omega), if_neg (by omega), if_pos k, hg]
  simp only [h, if_true]
theorem jo_put (k : x.kind = 12) {a : AuthS} (hg : getA s.auth x.n = some a) (h : clash a x = false) : judgeOn E x s c = (0, ⟨s.cen, putA s.auth (authOf x)⟩) := by
  unfold judgeOn
  rw [if_neg (by omega), if_neg (by omega), if_neg (by omega), if_pos k, hg]
  simp only [h, Bool.false_eq_true, if_false]
end
end Go.Proofs.YtjhhdklbiibhdaaGreatDoor
