/-
  What samaritanref51.ints, ActWord and EventWord answer: some bool, some string.
  What samaritanref51.ints and SameAct answer: whether the lists are equal; some bool.
  What samaritanref51.SameAct answers: some bool.
  What samaritanref51.RightAct answers: some bool. Printed by mkright55.py.
-/
import Derived.Test.YtgaimkgaooiieaaGreatDoorAwakeTrD
import Derived.Test.YtgaimkgaooiieaaGreatDoorAwakeCfgE
import Derived.Deep.RegionHeld3
namespace Go.Proofs.YtgaimkgaooiieaaGreatDoor
open Go Go.RowKit

set_option maxHeartbeats 2000000 in
set_option maxRecDepth 100000 in
theorem ints_any (A B : Option Addr) (c d : Nat) (xs ys : List Int) (w : World) (hA : IntsAt w w.heap.size A xs) (hB : IntsAt w w.heap.size B ys) (hx : xs.length ≤ 140737488355328) (_hy : ys.length ≤ 140737488355328) :
    Calls Tryz.prog 214 #[.slice A xs.length c, .slice B ys.length d] w (SaysB w) := by
  have HA := Lib.hid hA
  have HB := Lib.hid hB
  clear hA hB
  by_cases hxy : xs.length = ys.length
  · go_enter Tryz.func214, Tryz.ntmps214
    go_wp2
    go_loopw [5] (fun i wr => ∃ k : Nat, k ≤ xs.length ∧ i = .int .i64 k ∧ Below w.heap.size w wr) (fun i _ => xs.length - (intOf i).toNat)
    case atStart => exact ⟨0, Nat.zero_le _, rfl, Below.refl _ _⟩
    case round =>
      obtain ⟨k, hk, rfl, hb⟩ := hrel
      by_cases hlt : k < xs.length
      · have hlt2 : k < ys.length := by omega
        obtain ⟨x, hx⟩ : ∃ x, xs[k]? = some x := ⟨_, List.getElem?_eq_getElem hlt⟩
        obtain ⟨y, hy⟩ : ∃ y, ys[k]? = some y := ⟨_, List.getElem?_eq_getElem hlt2⟩
        obtain ⟨ba, oa, rfl, hba, hca⟩ := HA.out k x hx
        obtain ⟨bb, ob, rfl, hbb, hcb⟩ := HB.out k y hy
        have q1 := (hb.cell (p := ⟨ba, oa + k, none⟩) hba).trans hca
        have q2 := (hb.cell (p := ⟨bb, ob + k, none⟩) hbb).trans hcb
        have HBB := Lib.hid hb
        clear hca hcb hx hy hb
        go_wp2
        go_quiet (fail)
        have HBN := Lib.hid (below_drewN (n := nq) HBB.out)
        go_wp2
        · go_ret
          exact ⟨_, rfl, HBN.out⟩
        · go_roundw
          case rel => exact ⟨k + 1, by omega, by go_num, HBN.out⟩
          case measure => simp [intOf]; omega
      · obtain rfl : k = xs.length := by omega
        go_wp2
        go_ret
        exact ⟨_, rfl, hb⟩
  · go_enter Tryz.func214, Tryz.ntmps214
    go_wp2
    go_ret
    exact ⟨_, rfl, Below.refl _ _⟩

theorem str_empty (l : Array UInt8) : (⟨l⟩ : ByteArray).toList.isEmpty = l.toList.isEmpty := by rw [ByteArray.toList_eq]
def SomeStr (v : Bool) (w : World) (e : Ending) (w' : World) : Prop := ∃ s, e = .returned (.string s) ∧ s.toList.isEmpty = v ∧ Below w.heap.size w w'
set_option maxHeartbeats 4000000 in
set_option maxRecDepth 100000 in
theorem eventword_any (k : Int) (w : World) : Calls Tryz.prog 77 #[.int .i64 k] w (SomeStr (decide (k < 1 ∨ 14 ≤ k)) w) := by
  by_cases h1 : k < 1
  · go_enter Tryz.func77, Tryz.ntmps77
    go_wp2
    go_ret
    exact ⟨_, rfl, by (try rw [decide_eq_true (.inl h1)]); exact (str_empty _).trans rfl, (Below.refl _ w).alloc (Nat.le_refl _) _⟩
  by_cases h14 : 14 ≤ k
  · go_enter Tryz.func77, Tryz.ntmps77
    go_wp2
    go_ret
    exact ⟨_, rfl, by (try rw [decide_eq_true (.inr h14)]); exact (str_empty _).trans rfl, (Below.refl _ w).alloc (Nat.le_refl _) _⟩
  obtain ⟨n, rfl⟩ : ∃ n : Nat, k = n := ⟨k.toNat, by omega⟩
  have hn : n < 14 := by omega
  have hn1 : 1 ≤ n := by omega
  have HD := Lib.hid (show decide ((n : Int) < 1 ∨ 14 ≤ (n : Int)) = false from decide_eq_false (by omega))
  clear h1 h14
  rw [HD.out]
  go_enter Tryz.func77, Tryz.ntmps77
  go_wp2
  have hc : n = 1 ∨ n = 2 ∨ n = 3 ∨ n = 4 ∨ n = 5 ∨ n = 6 ∨ n = 7 ∨ n = 8 ∨ n = 9 ∨ n = 10 ∨ n = 11 ∨ n = 12 ∨ n = 13 := by omega
  go_ret
  rcases hc with rfl | rfl | rfl | rfl | rfl | rfl | rfl | rfl | rfl | rfl | rfl | rfl | rfl <;> exact ⟨_, rfl, (str_empty _).trans rfl, (Below.refl _ w).alloc (Nat.le_refl _) _⟩
set_option maxHeartbeats 4000000 in
set_option maxRecDepth 100000 in
theorem actword_any (k : Int) (w : World) : Calls Tryz.prog 144 #[.int .i64 k] w (SomeStr (decide (k < 1 ∨ 20 ≤ k)) w) := by
  by_cases h1 : k < 1
  · go_enter Tryz.func144, Tryz.ntmps144
    go_wp2
    go_ret
    exact ⟨_, rfl, by (try rw [decide_eq_true (.inl h1)]); exact (str_empty _).trans rfl, (Below.refl _ w).alloc (Nat.le_refl _) _⟩
  by_cases h20 : 20 ≤ k
  · go_enter Tryz.func144, Tryz.ntmps144
    go_wp2
    go_ret
    exact ⟨_, rfl, by (try rw [decide_eq_true (.inr h20)]); exact (str_empty _).trans rfl, (Below.refl _ w).alloc (Nat.le_refl _) _⟩
  obtain ⟨n, rfl⟩ : ∃ n : Nat, k = n := ⟨k.toNat, by omega⟩
  have hn : n < 20 := by omega
  have hn1 : 1 ≤ n := by omega
  have HD := Lib.hid (show decide ((n : Int) < 1 ∨ 20 ≤ (n : Int)) = false from decide_eq_false (by omega))
  clear h1 h20
  rw [HD.out]
  go_enter Tryz.func144, Tryz.ntmps144
  go_wp2
  have hc : n = 1 ∨ n = 2 ∨ n = 3 ∨ n = 4 ∨ n = 5 ∨ n = 6 ∨ n = 7 ∨ n = 8 ∨ n = 9 ∨ n = 10 ∨ n = 11 ∨ n = 12 ∨ n = 13 ∨ n = 14 ∨ n = 15 ∨ n = 16 ∨ n = 17 ∨ n = 18 ∨ n = 19 := by omega
  go_ret
  rcases hc with rfl | rfl | rfl | rfl | rfl | rfl | rfl | rfl | rfl | rfl | rfl | rfl | rfl | rfl | rfl | rfl | rfl | rfl | rfl <;> exact ⟨_, rfl, (str_empty _).trans rfl, (Below.refl _ w).alloc (Nat.le_refl _) _⟩
end Go.Proofs.YtgaimkgaooiieaaGreatDoor

namespace Go.Proofs.YtgaimkgaooiieaaGreatDoor
open Go Go.RowKit

theorem take_one {xs ys : List Int} {k : Nat} {x : Int} (h : xs.take k = ys.take k) (hx : xs[k]? = some x) (hy : ys[k]? = some x) : xs.take (k + 1) = ys.take (k + 1) := by
  rw [List.take_add_one, List.take_add_one, h, hx, hy]
theorem take_no {xs ys : List Int} {k : Nat} {x y : Int} (hx : xs[k]? = some x) (hy : ys[k]? = some y) (h : x ≠ y) : decide (xs = ys) = false := decide_eq_false fun e => by
  subst e
  rw [hx] at hy
  exact h (by simpa using hy)
theorem take_yes {xs ys : List Int} (h : xs.take xs.length = ys.take xs.length) (hl : xs.length = ys.length) : decide (xs = ys) = true := decide_eq_true (by
  rw [List.take_length] at h
  rw [h, hl, List.take_length])
theorem len_no {xs ys : List Int} (h : xs.length ≠ ys.length) : decide (xs = ys) = false := decide_eq_false fun e => h (by rw [e])
theorem drew_more {w W : World} {n : Nat} (h : ∃ m, W = w.drewN m) : ∃ m, W.drewN n = w.drewN m := by
  obtain ⟨m, rfl⟩ := h
  exact ⟨m + n, World.drewN_drewN w m n⟩
def IntsRet (v : Bool) (w : World) (e : Ending) (w' : World) : Prop := e = .returned (.bool v) ∧ ∃ m, w' = w.drewN m
set_option maxHeartbeats 2000000 in
set_option maxRecDepth 100000 in
theorem ints_is (A B : Option Addr) (c d : Nat) (xs ys : List Int) (w : World) (hA : IntsAt w w.heap.size A xs) (hB : IntsAt w w.heap.size B ys) (hx : xs.length ≤ 140737488355328) (_hy : ys.length ≤ 140737488355328) :
    Calls Tryz.prog 214 #[.slice A xs.length c, .slice B ys.length d] w (IntsRet (decide (xs = ys)) w) := by
  have HA := Lib.hid hA
  have HB := Lib.hid hB
  clear hA hB
  by_cases hxy : xs.length = ys.length
  · go_enter Tryz.func214, Tryz.ntmps214
    go_wp2
    go_loopw [5] (fun i wr => ∃ k : Nat, k ≤ xs.length ∧ i = .int .i64 k ∧ Hid (xs.take k = ys.take k) ∧ Hid (∃ m, wr = w.drewN m)) (fun i _ => xs.length - (intOf i).toNat)
    case atStart => exact ⟨0, Nat.zero_le _, rfl, Lib.hid rfl, Lib.hid ⟨0, rfl⟩⟩
    case round =>
      obtain ⟨k, hk, rfl, HT, HM⟩ := hrel
      by_cases hlt : k < xs.length
      · have hlt2 : k < ys.length := by omega
        obtain ⟨x, hx⟩ : ∃ x, xs[k]? = some x := ⟨_, List.getElem?_eq_getElem hlt⟩
        obtain ⟨y, hy⟩ : ∃ y, ys[k]? = some y := ⟨_, List.getElem?_eq_getElem hlt2⟩
        obtain ⟨ba, oa, rfl, hba, hca⟩ := HA.out k x hx
        obtain ⟨bb, ob, rfl, hbb, hcb⟩ := HB.out k y hy
        have q1 : wr.cell? ⟨ba, oa + k, none⟩ = some (.int .i64 x) := by obtain ⟨m, rfl⟩ := HM.out; exact hca
        have q2 : wr.cell? ⟨bb, ob + k, none⟩ = some (.int .i64 y) := by obtain ⟨m, rfl⟩ := HM.out; exact hcb
        by_cases he : x = y
        · subst he
          have HN := Lib.hid (take_one HT.out hx hy)
          clear hca hcb hx hy HT
          go_wp2
          go_quiet (fail)
          go_wp2
          go_roundw
          case rel => exact ⟨k + 1, by omega, by go_num, HN, Lib.hid (drew_more HM.out)⟩
          case measure => simp [intOf]; omega
        · have HN := Lib.hid (take_no hx hy he)
          clear hca hcb hx hy HT
          go_wp2
          go_quiet (fail)
          go_wp2
          go_ret
          exact ⟨by rw [HN.out]; rfl, drew_more HM.out⟩
      · obtain rfl : k = xs.length := by omega
        have HN := Lib.hid (take_yes HT.out hxy)
        clear HT
        go_wp2
        go_ret
        exact ⟨by rw [HN.out]; rfl, HM.out⟩
  · have HN := Lib.hid (len_no hxy)
    go_enter Tryz.func214, Tryz.ntmps214
    go_wp2
    go_ret
    exact ⟨by rw [HN.out]; rfl, ⟨0, rfl⟩⟩
end Go.Proofs.YtgaimkgaooiieaaGreatDoor

namespace Go.Proofs.YtgaimkgaooiieaaGreatDoor
open Go Go.RowKit

theorem two_first {w : World} {ca cb : Array Value} {t1 t2 : TypeId} {j : Nat} {v : Value} (h : ca[j]? = some v) : ((w.alloc (.cells ca t1)).alloc (.cells cb t2)).cell? ⟨w.heap.size, j, none⟩ = some v := by
  have e : ((w.alloc (.cells ca t1)).alloc (.cells cb t2)).heap[w.heap.size]? = some (.cells ca t1) := by
    show ((w.heap.push _).push _)[w.heap.size]? = _
    rw [Array.getElem?_push, if_neg (by simp), Array.getElem?_push, if_pos rfl]
  unfold World.cell?
  simp only [e]
  exact h
theorem two_second {w : World} {ca cb : Array Value} {t1 t2 : TypeId} {j : Nat} {v : Value} (h : cb[j]? = some v) : ((w.alloc (.cells ca t1)).alloc (.cells cb t2)).cell? ⟨w.heap.size + 1, j, none⟩ = some v := by
  have e : ((w.alloc (.cells ca t1)).alloc (.cells cb t2)).heap[w.heap.size + 1]? = some (.cells cb t2) := by
    show ((w.heap.push _).push _)[w.heap.size + 1]? = _
    rw [Array.getElem?_push, if_pos (by simp)]
  unfold World.cell?
  simp only [e]
  exact h
theorem below_two (w : World) (A B : Obj) : Below w.heap.size w ((w.alloc A).alloc B) := ((Below.refl _ w).alloc (Nat.le_refl _) _).alloc (by simp) _

/-- the two actions read alike -/
def SrcEq (S T : List SrcD) : Prop := ∀ (k : Nat) p r, S[k]? = some p → T[k]? = some r → p.kind = r.kind ∧ p.nodes = r.nodes
noncomputable def sameV (a b : ActD) : Bool := @decide ((a.kind = b.kind ∧ a.who = b.who ∧ a.n = b.n ∧ a.call = b.call ∧ a.other = b.other ∧ a.node = b.node) ∧ a.grp = b.grp ∧ a.srcs.length = b.srcs.length ∧ SrcEq a.srcs b.srcs) (Classical.propDecidable _)

set_option maxHeartbeats 8000000 in
set_option maxRecDepth 100000 in
theorem sameact_any (a b : ActD) (P Q : ActP) (w : World) (hA : ActAt w w.heap.size a P) (hB : ActAt w w.heap.size b Q) : Calls Tryz.prog 143 #[.agg (actCells a P), .agg (actCells b Q)] w (Says (sameV a b) w) := by
  obtain ⟨vv, hvv⟩ : ∃ vv, sameV a b = vv := ⟨_, rfl⟩
  rw [hvv]
  unfold sameV at hvv
  obtain ⟨k0, k1, k2, k3, k4, k5, S, G⟩ := a
  obtain ⟨sA, sc, gA, gc⟩ := P
  obtain ⟨j0, j1, j2, j3, j4, j5, T, H⟩ := b
  obtain ⟨tA, tc, hA', hc⟩ := Q
  obtain ⟨hs, hg, hsl, hgl⟩ := hA
  obtain ⟨ht, hh, htl, hhl⟩ := hB
  simp only at hs hg hsl hgl ht hh htl hhl hvv
  have HF := Lib.hid (show (k0 ≠ j0 ∨ k1 ≠ j1 ∨ k2 ≠ j2 ∨ k3 ≠ j3 ∨ k4 ≠ j4 ∨ k5 ≠ j5 ∨ S.length ≠ T.length) → vv = false from fun h => by rw [← hvv]; exact @decide_eq_false _ (Classical.propDecidable _) (fun q => by obtain ⟨q1, _, q2, _⟩ := q; omega))
  have HFG := Lib.hid (show decide (G = H) = false → vv = false from fun h => by rw [← hvv]; exact @decide_eq_false _ (Classical.propDecidable _) (fun q => (of_decide_eq_false h) q.2.1))
  have HFS := Lib.hid (show ∀ (k : Nat) p r, S[k]? = some p → T[k]? = some r → (p.kind ≠ r.kind ∨ p.nodes ≠ r.nodes) → vv = false from fun k p r h1 h2 h => by rw [← hvv]; exact @decide_eq_false _ (Classical.propDecidable _) (fun q => by have := q.2.2.2 k p r h1 h2; rcases h with h | h; exact h this.1; exact h this.2))
  have HVT := Lib.hid (show (k0 = j0 ∧ k1 = j1 ∧ k2 = j2 ∧ k3 = j3 ∧ k4 = j4 ∧ k5 = j5) → decide (G = H) = true → S.length = T.length → SrcEq S T → vv = true from fun h1 h2 h3 h4 => by rw [← hvv]; exact @decide_eq_true _ (Classical.propDecidable _) ⟨h1, of_decide_eq_true h2, h3, h4⟩)
  clear hvv
  have HS := Lib.hid hs
  have HT := Lib.hid ht
  have HI := Lib.hid (fun W (hW : Below w.heap.size w W) => ints_is gA hA' gc hc G H W ((hg.below hW).mono hW.size) ((hh.below hW).mono hW.size) hgl hhl)
  have HX := Lib.hid (fun (A B : Option Addr) (c d : Nat) (xs ys : List Int) W => ints_is A B c d xs ys W)
  clear hs hg ht hh
  unfold actCells
  simp only
  by_cases hST : S.length = T.length
  rotate_left
  · have HF2 := HF.out (by omega)
    subst HF2
    go_enter Tryz.func143, Tryz.ntmps143
    go_wp2_with (go_at_call 214; go_loud (refine (HI.out _ (below_two ..)).mono ?_; rintro x w1 ⟨rfl, m, rfl⟩); generalize decide (G = H) = v; cases v)
    all_goals
      go_ret
      first
        | exact ⟨rfl, below_drewN (below_two ..)⟩
        | exact ⟨rfl, below_two ..⟩
  go_enter Tryz.func143, Tryz.ntmps143
  go_wp2_with (go_at_call 214; go_loud (refine (HI.out _ (below_two ..)).mono ?_; rintro x w1 ⟨rfl, m, rfl⟩); cases hGH : decide (G = H))
  all_goals first
    | (have HFF := HF.out (by omega); subst HFF; go_ret; exact ⟨rfl, below_two ..⟩)
    | (have HFF := HFG.out hGH; subst HFF; go_ret; first | exact ⟨rfl, below_drewN (below_two ..)⟩ | exact ⟨rfl, below_two ..⟩)
    | skip
  have HGH := Lib.hid hGH
  clear HI hGH
  go_loopw [5] (fun i wr => ∃ k : Nat, k ≤ S.length ∧ i = .int .i64 k ∧ wr.cell? ⟨w.heap.size, 6, none⟩ = some (.slice sA S.length sc) ∧ wr.cell? ⟨w.heap.size + 1, 6, none⟩ = some (.slice tA T.length tc) ∧ Hid (Below w.heap.size w wr) ∧ Hid (∀ (m : Nat) p r, m < k → S[m]? = some p → T[m]? = some r → p.kind = r.kind ∧ p.nodes = r.nodes)) (fun i _ => S.length - (intOf i).toNat)
  case atStart => exact ⟨0, Nat.zero_le _, rfl, by rw [hST]; exact two_first rfl, two_second rfl, Lib.hid (below_drewN (below_two ..)), Lib.hid (fun m p r h => by omega)⟩
  case round =>
    obtain ⟨k, hk, rfl, c6, d6, HBB, HEQ⟩ := hrel
    by_cases hlt : k < S.length
    · have hlt2 : k < T.length := by omega
      obtain ⟨⟨kp, np⟩, hp⟩ : ∃ p, S[k]? = some p := ⟨_, List.getElem?_eq_getElem hlt⟩
      obtain ⟨⟨kr, nr⟩, hr⟩ : ∃ p, T[k]? = some p := ⟨_, List.getElem?_eq_getElem hlt2⟩
      obtain ⟨ba, oa, Ka, ca, rfl, hba, p0, p1, hna, hla⟩ := HS.out.below HBB.out k _ hp
      obtain ⟨bb, ob, Kb, cb, rfl, hbb, r0, r1, hnb, hlb⟩ := HT.out.below HBB.out k _ hr
      have hsz := HBB.out.size
      obtain ⟨v, hv⟩ : ∃ v, decide (np = nr) = v := ⟨_, rfl⟩
      have HQ := Lib.hid (show ∀ n, Calls Tryz.prog 214 #[.slice Ka np.length ca, .slice Kb nr.length cb] (wr.drewN n) fun e w'' => e = .returned (.bool v) ∧ ∃ m, w'' = wr.drewN m from fun n => by
        rw [← hv]
        refine (ints_is Ka Kb ca cb np nr (wr.drewN n) ((hna.below (below_drewN (Below.refl _ _))).mono hsz) ((hnb.below (below_drewN (Below.refl _ _))).mono hsz) hla hlb).mono ?_
        rintro e w1 ⟨he, hm⟩
        obtain ⟨m, rfl⟩ := hm
        exact ⟨he, drew_more ⟨n, rfl⟩⟩)
      have HNO := Lib.hid (show (kp ≠ kr ∨ v = false) → vv = false from fun h => HFS.out k _ _ hp hr (by rcases h with h | h; exact .inl h; exact .inr (of_decide_eq_false (hv.trans h))))
      have HYES := Lib.hid (show kp = kr → v = true → ∀ (m : Nat) p r, m < k + 1 → S[m]? = some p → T[m]? = some r → p.kind = r.kind ∧ p.nodes = r.nodes from fun h1 h2 m p r hm e1 e2 => by
        by_cases hmk : m < k
        · exact HEQ.out m p r hmk e1 e2
        · obtain rfl : m = k := by omega
          rw [hp] at e1
          rw [hr] at e2
          cases e1
          cases e2
          exact ⟨h1, of_decide_eq_true (hv.trans h2)⟩)
      clear hp hr hna hnb hv hsz HX
      simp only at p0 p1 r0 r1 hla hlb
      by_cases he : kp = kr
      · subst he
        cases v
        · have HFF := HNO.out (.inr rfl)
          subst HFF
          go_wp2
          go_quiet ((go_at_call 214; exact HQ.out _))
          go_wp2
          go_ret
          exact ⟨rfl, below_drewN HBB.out⟩
        · have HYES2 := Lib.hid (HYES.out rfl rfl)
          clear HYES
          go_wp2
          go_quiet ((go_at_call 214; exact HQ.out _))
          go_wp2
          go_roundw
          case rel => exact ⟨k + 1, by omega, by go_num, c6, d6, Lib.hid (below_drewN HBB.out), Lib.hid HYES2.out⟩
          case measure => simp [intOf]; omega
      · have HFF := HNO.out (.inl he)
        subst HFF
        have hd : decide (kp = kr) = false := decide_eq_false he
        go_wp2
        go_quiet (fail)
        go_wp2
        go_ret
        exact ⟨rfl, below_drewN HBB.out⟩
    · obtain rfl : k = S.length := by omega
      have HTT := HVT.out (by omega) HGH.out hST (fun m p r h1 h2 => HEQ.out m p r (by have := (List.getElem?_eq_some_iff.1 h1).1; omega) h1 h2)
      subst HTT
      go_wp2
      go_ret
      exact ⟨rfl, HBB.out⟩
end Go.Proofs.YtgaimkgaooiieaaGreatDoor

namespace Go.Proofs.YtgaimkgaooiieaaGreatDoor
open Go Go.RowKit

theorem actAt_from {W W' : World} {B B' : Nat} {a d : ActD} {P Q : ActP} (h : ActAt W B a P) (hf : ActFrom a P d Q) (hb : Below B W W') (hB : B ≤ B') : ActAt W' B' d Q := by
  obtain ⟨hs, hg⟩ := hf
  refine ⟨?_, ?_, ?_, ?_⟩
  · rcases hs with e | ⟨e1, e2⟩
    · rw [e]; intro k p hp; simp at hp
    · rw [e1, e2]; exact (h.s.below hb).mono hB
  · rcases hg with e | ⟨e1, e2⟩
    · rw [e]; intro k p hp; simp at hp
    · rw [e1, e2]; exact (h.g.below hb).mono hB
  · rcases hs with e | ⟨e1, e2⟩
    · rw [e]; simp
    · rw [e1]; exact h.sl
  · rcases hg with e | ⟨e1, e2⟩
    · rw [e]; simp
    · rw [e1]; exact h.gl
set_option maxHeartbeats 8000000 in
set_option maxRecDepth 100000 in
theorem rightact_any (a : ActD) (P : ActP) (w : World) (hA : ActAt w w.heap.size a P) : Calls Tryz.prog 80 #[.agg (actCells a P)] w (SaysB w) := by
  obtain ⟨k0, k1, k2, k3, k4, k5, S, G⟩ := a
  obtain ⟨sA, sc, gA, gc⟩ := P
  have HB1 := Lib.hid (show Below w.heap.size w (w.alloc (.cells #[.int .i64 k0, .int .i64 k1, .int .i64 k2, .int .i64 k3, .int .i64 k4, .int .i64 k5, .slice sA S.length sc, .slice gA G.length gc] 103)) from (Below.refl _ w).alloc (Nat.le_refl _) _)
  have HZ := Lib.hid (show (w.alloc (.cells #[.int .i64 k0, .int .i64 k1, .int .i64 k2, .int .i64 k3, .int .i64 k4, .int .i64 k5, .slice sA S.length sc, .slice gA G.length gc] 103)).heap.size = w.heap.size + 1 by simp)
  have HA := Lib.hid hA
  have HK := Lib.hid (show ∀ W, Below (w.heap.size + 1) (w.alloc (.cells #[.int .i64 k0, .int .i64 k1, .int .i64 k2, .int .i64 k3, .int .i64 k4, .int .i64 k5, .slice sA S.length sc, .slice gA G.length gc] 103)) W → W.cell? ⟨w.heap.size, 0, none⟩ = some (.int .i64 k0) ∧ W.cell? ⟨w.heap.size, 1, none⟩ = some (.int .i64 k1) ∧ W.cell? ⟨w.heap.size, 2, none⟩ = some (.int .i64 k2) ∧ W.cell? ⟨w.heap.size, 3, none⟩ = some (.int .i64 k3) ∧ W.cell? ⟨w.heap.size, 4, none⟩ = some (.int .i64 k4) ∧ W.cell? ⟨w.heap.size, 5, none⟩ = some (.int .i64 k5) ∧ W.cell? ⟨w.heap.size, 6, none⟩ = some (.slice sA S.length sc) ∧ W.cell? ⟨w.heap.size, 7, none⟩ = some (.slice gA G.length gc) ∧ Below (w.heap.size + 1) (w.alloc (.cells #[.int .i64 k0, .int .i64 k1, .int .i64 k2, .int .i64 k3, .int .i64 k4, .int .i64 k5, .slice sA S.length sc, .slice gA G.length gc] 103)) W from fun W hb => by
    have q : ∀ (j : Nat) v, (actCells ⟨k0, k1, k2, k3, k4, k5, S, G⟩ ⟨sA, sc, gA, gc⟩)[j]? = some v → W.cell? ⟨w.heap.size, j, none⟩ = some v := fun j v hv => (hb.cell (p := ⟨w.heap.size, j, none⟩) (by simp)).trans (by
      have e : (w.alloc (.cells #[.int .i64 k0, .int .i64 k1, .int .i64 k2, .int .i64 k3, .int .i64 k4, .int .i64 k5, .slice sA S.length sc, .slice gA G.length gc] 103)).heap[w.heap.size]? = some (.cells (actCells ⟨k0, k1, k2, k3, k4, k5, S, G⟩ ⟨sA, sc, gA, gc⟩) 103) := by
        show (w.heap.push _)[w.heap.size]? = _
        simp [actCells]
      unfold World.cell?
      simp only [e]
      exact hv)
    exact ⟨q 0 _ rfl, q 1 _ rfl, q 2 _ rfl, q 3 _ rfl, q 4 _ rfl, q 5 _ rfl, q 6 _ rfl, q 7 _ rfl, hb⟩)
  have HT := Lib.hid (show ∀ W W', Below (w.heap.size + 1) (w.alloc (.cells #[.int .i64 k0, .int .i64 k1, .int .i64 k2, .int .i64 k3, .int .i64 k4, .int .i64 k5, .slice sA S.length sc, .slice gA G.length gc] 103)) W → Below W.heap.size W W' → Below (w.heap.size + 1) (w.alloc (.cells #[.int .i64 k0, .int .i64 k1, .int .i64 k2, .int .i64 k3, .int .i64 k4, .int .i64 k5, .slice sA S.length sc, .slice gA G.length gc] 103)) W' from fun W W' h1 h2 => h1.trans (h2.mono (by have := h1.size; rw [HZ.out] at this; exact this)))
  have HBW := Lib.hid (show ∀ W, Below (w.heap.size + 1) (w.alloc (.cells #[.int .i64 k0, .int .i64 k1, .int .i64 k2, .int .i64 k3, .int .i64 k4, .int .i64 k5, .slice sA S.length sc, .slice gA G.length gc] 103)) W → Below w.heap.size w W from fun W h => HB1.out.trans (h.mono (by omega)))
  have HF := Lib.hid (fun W hW d Q (hf : ActFrom ⟨k0, k1, k2, k3, k4, k5, S, G⟩ ⟨sA, sc, gA, gc⟩ d Q) => sameact_any ⟨k0, k1, k2, k3, k4, k5, S, G⟩ d ⟨sA, sc, gA, gc⟩ Q W ((HA.out.below (HBW.out W hW)).mono (HBW.out W hW).size) (actAt_from HA.out hf (HBW.out W hW) (HBW.out W hW).size))
  clear hA
  unfold actCells at HF ⊢
  simp only at HF ⊢
  obtain ⟨v, hv⟩ : ∃ v, decide (k0 < 1 ∨ 20 ≤ k0) = v := ⟨_, rfl⟩
  have HW := Lib.hid (show ∀ W, Calls Tryz.prog 144 #[.int .i64 k0] W (SomeStr v W) from fun W => by rw [← hv]; exact actword_any k0 W)
  clear hv
  cases v
  · go_enter Tryz.func80, Tryz.ntmps80
    go_wp2
    have hS0 : (w.alloc (.cells #[.int .i64 k0, .int .i64 k1, .int .i64 k2, .int .i64 k3, .int .i64 k4, .int .i64 k5, .slice sA S.length sc, .slice gA G.length gc] 103)).drew.cell? ⟨w.heap.size, 0, none⟩ = some (.int .i64 k0) ∧ (w.alloc (.cells #[.int .i64 k0, .int .i64 k1, .int .i64 k2, .int .i64 k3, .int .i64 k4, .int .i64 k5, .slice sA S.length sc, .slice gA G.length gc] 103)).drew.cell? ⟨w.heap.size, 1, none⟩ = some (.int .i64 k1) ∧ (w.alloc (.cells #[.int .i64 k0, .int .i64 k1, .int .i64 k2, .int .i64 k3, .int .i64 k4, .int .i64 k5, .slice sA S.length sc, .slice gA G.length gc] 103)).drew.cell? ⟨w.heap.size, 2, none⟩ = some (.int .i64 k2) ∧ (w.alloc (.cells #[.int .i64 k0, .int .i64 k1, .int .i64 k2, .int .i64 k3, .int .i64 k4, .int .i64 k5, .slice sA S.length sc, .slice gA G.length gc] 103)).drew.cell? ⟨w.heap.size, 3, none⟩ = some (.int .i64 k3) ∧ (w.alloc (.cells #[.int .i64 k0, .int .i64 k1, .int .i64 k2, .int .i64 k3, .int .i64 k4, .int .i64 k5, .slice sA S.length sc, .slice gA G.length gc] 103)).drew.cell? ⟨w.heap.size, 4, none⟩ = some (.int .i64 k4) ∧ (w.alloc (.cells #[.int .i64 k0, .int .i64 k1, .int .i64 k2, .int .i64 k3, .int .i64 k4, .int .i64 k5, .slice sA S.length sc, .slice gA G.length gc] 103)).drew.cell? ⟨w.heap.size, 5, none⟩ = some (.int .i64 k5) ∧ (w.alloc (.cells #[.int .i64 k0, .int .i64 k1, .int .i64 k2, .int .i64 k3, .int .i64 k4, .int .i64 k5, .slice sA S.length sc, .slice gA G.length gc] 103)).drew.cell? ⟨w.heap.size, 6, none⟩ = some (.slice sA S.length sc) ∧ (w.alloc (.cells #[.int .i64 k0, .int .i64 k1, .int .i64 k2, .int .i64 k3, .int .i64 k4, .int .i64 k5, .slice sA S.length sc, .slice gA G.length gc] 103)).drew.cell? ⟨w.heap.size, 7, none⟩ = some (.slice gA G.length gc) ∧ Below (w.heap.size + 1) (w.alloc (.cells #[.int .i64 k0, .int .i64 k1, .int .i64 k2, .int .i64 k3, .int .i64 k4, .int .i64 k5, .slice sA S.length sc, .slice gA G.length gc] 103)) (w.alloc (.cells #[.int .i64 k0, .int .i64 k1, .int .i64 k2, .int .i64 k3, .int .i64 k4, .int .i64 k5, .slice sA S.length sc, .slice gA G.length gc] 103)).drew := HK.out _ (Below.refl _ _).drew
    go_region_held3 (fun W => W.cell? ⟨w.heap.size, 0, none⟩ = some (.int .i64 k0) ∧ W.cell? ⟨w.heap.size, 1, none⟩ = some (.int .i64 k1) ∧ W.cell? ⟨w.heap.size, 2, none⟩ = some (.int .i64 k2) ∧ W.cell? ⟨w.heap.size, 3, none⟩ = some (.int .i64 k3) ∧ W.cell? ⟨w.heap.size, 4, none⟩ = some (.int .i64 k4) ∧ W.cell? ⟨w.heap.size, 5, none⟩ = some (.int .i64 k5) ∧ W.cell? ⟨w.heap.size, 6, none⟩ = some (.slice sA S.length sc) ∧ W.cell? ⟨w.heap.size, 7, none⟩ = some (.slice gA G.length gc) ∧ Below (w.heap.size + 1) (w.alloc (.cells #[.int .i64 k0, .int .i64 k1, .int .i64 k2, .int .i64 k3, .int .i64 k4, .int .i64 k5, .slice sA S.length sc, .slice gA G.length gc] 103)) W) (assumption) (first | (go_at_call 144; refine (HW.out _).mono ?_; rintro e W3 ⟨s, rfl, hE, hb3⟩; have hS3 : W3.cell? ⟨w.heap.size, 0, none⟩ = some (.int .i64 k0) ∧ W3.cell? ⟨w.heap.size, 1, none⟩ = some (.int .i64 k1) ∧ W3.cell? ⟨w.heap.size, 2, none⟩ = some (.int .i64 k2) ∧ W3.cell? ⟨w.heap.size, 3, none⟩ = some (.int .i64 k3) ∧ W3.cell? ⟨w.heap.size, 4, none⟩ = some (.int .i64 k4) ∧ W3.cell? ⟨w.heap.size, 5, none⟩ = some (.int .i64 k5) ∧ W3.cell? ⟨w.heap.size, 6, none⟩ = some (.slice sA S.length sc) ∧ W3.cell? ⟨w.heap.size, 7, none⟩ = some (.slice gA G.length gc) ∧ Below (w.heap.size + 1) (w.alloc (.cells #[.int .i64 k0, .int .i64 k1, .int .i64 k2, .int .i64 k3, .int .i64 k4, .int .i64 k5, .slice sA S.length sc, .slice gA G.length gc] 103)) W3 := HK.out _ (HT.out _ _ hS0.2.2.2.2.2.2.2.2 hb3)) | (go_at_call 145; refine (onlyact_any ⟨k0, k1, k2, k3, k4, k5, S, G⟩ ⟨sA, sc, gA, gc⟩ _).mono ?_; rintro e W4 ⟨d, Q, rfl, hf, hb4⟩; have hS4 : W4.cell? ⟨w.heap.size, 0, none⟩ = some (.int .i64 k0) ∧ W4.cell? ⟨w.heap.size, 1, none⟩ = some (.int .i64 k1) ∧ W4.cell? ⟨w.heap.size, 2, none⟩ = some (.int .i64 k2) ∧ W4.cell? ⟨w.heap.size, 3, none⟩ = some (.int .i64 k3) ∧ W4.cell? ⟨w.heap.size, 4, none⟩ = some (.int .i64 k4) ∧ W4.cell? ⟨w.heap.size, 5, none⟩ = some (.int .i64 k5) ∧ W4.cell? ⟨w.heap.size, 6, none⟩ = some (.slice sA S.length sc) ∧ W4.cell? ⟨w.heap.size, 7, none⟩ = some (.slice gA G.length gc) ∧ Below (w.heap.size + 1) (w.alloc (.cells #[.int .i64 k0, .int .i64 k1, .int .i64 k2, .int .i64 k3, .int .i64 k4, .int .i64 k5, .slice sA S.length sc, .slice gA G.length gc] 103)) W4 := HK.out _ (HT.out _ _ hS3.2.2.2.2.2.2.2.2 hb4)) | (go_at_call 143; go_loud (refine (HF.out _ hS4.2.2.2.2.2.2.2.2 d Q hf).mono ?_; rintro e W5 ⟨rfl, hb5⟩; have hS5 : W5.cell? ⟨w.heap.size, 0, none⟩ = some (.int .i64 k0) ∧ W5.cell? ⟨w.heap.size, 1, none⟩ = some (.int .i64 k1) ∧ W5.cell? ⟨w.heap.size, 2, none⟩ = some (.int .i64 k2) ∧ W5.cell? ⟨w.heap.size, 3, none⟩ = some (.int .i64 k3) ∧ W5.cell? ⟨w.heap.size, 4, none⟩ = some (.int .i64 k4) ∧ W5.cell? ⟨w.heap.size, 5, none⟩ = some (.int .i64 k5) ∧ W5.cell? ⟨w.heap.size, 6, none⟩ = some (.slice sA S.length sc) ∧ W5.cell? ⟨w.heap.size, 7, none⟩ = some (.slice gA G.length gc) ∧ Below (w.heap.size + 1) (w.alloc (.cells #[.int .i64 k0, .int .i64 k1, .int .i64 k2, .int .i64 k3, .int .i64 k4, .int .i64 k5, .slice sA S.length sc, .slice gA G.length gc] 103)) W5 := HK.out _ (HT.out _ _ hS4.2.2.2.2.2.2.2.2 hb5))))
    have hB5 := hS5.2.2.2.2.2.2.2.2
    clear hS0 hS3 hS4 hS5
    go_wp2
    go_ret
    exact ⟨_, rfl, HBW.out _ hB5⟩
  · go_enter Tryz.func80, Tryz.ntmps80
    go_wp2
    go_region_with (go_at_call 144; refine (HW.out _).mono ?_; rintro e W3 ⟨s, rfl, hE, hb3⟩; have hB3 := HT.out _ _ (Below.refl _ _).drew hb3)
    all_goals go_wp2
    all_goals
      go_ret
      exact ⟨_, rfl, HBW.out _ hB3⟩
end Go.Proofs.YtgaimkgaooiieaaGreatDoor
