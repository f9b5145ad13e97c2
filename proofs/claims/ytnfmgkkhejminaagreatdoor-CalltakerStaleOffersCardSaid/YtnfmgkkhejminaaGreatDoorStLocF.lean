/-
  nodeset.Of, location.Add and calltaker.locate: the nodes are a function of the sources.
-/
import Derived.Test.YtnfmgkkhejminaaGreatDoorStNodF
import Derived.Test.YtnfmgkkhejminaaGreatDoorStAckS
import Derived.Test.YtnfmgkkhejminaaGreatDoorStStaE
import Derived.RegionTactic
import Derived.ChangeAlike
import Derived.Lib.SliceRun
import Derived.Deep.RegionWith
import Derived.ArgAppend
import Derived.Deep.RegionLaw
import Derived.Deep.RegionHeld3
import Derived.Deep.CutRange
import Derived.BigQuiet
namespace Go.Proofs.YtnfmgkkhejminaaGreatDoor
open Go Go.RowKit Wi
/-- a row of words that may be written -/
def OwnWords (w : World) (g : Nat) (zs : List Int) : Prop := WordsAt w g 0 zs ∧ ∀ i, i < 64 → w.frozen? ⟨g, i, none⟩ = false
def shl1 (k : Nat) : Int := IntKind.u64.wrap (2 ^ (min k 64))
theorem shl1_run (k : Nat) (w : World) : (Op.shift .shl .u64 1 .i64 (k : Int)).run Tryz.prog w = .ok (.int .u64 (shl1 k)) w := by
  unfold Op.shift
  rw [if_neg (by omega)]
  show Result.ok (Value.int .u64 (IntKind.u64.wrap (1 * 2 ^ (min k 64)))) w = _
  rw [Int.one_mul]
  rfl
theorem wrap_small (j : Nat) (h : j < 64) : IntKind.i64.wrap (j : Int) = j := by
  simp [IntKind.wrap, IntKind.bits, IntKind.signed]
  omega
set_option maxHeartbeats 4000000 in
set_option maxRecDepth 100000 in
theorem add_is (g : Nat) (n : Int) (j k : Nat) (z : Int) (w : World) (hj : n.tdiv 64 = j) (hk : n.tmod 64 = k) (hj64 : j < 64) (hc : w.cell? ⟨g, j, none⟩ = some (.int .u64 z)) (hf : w.frozen? ⟨g, j, none⟩ = false) :
    Calls Tryz.prog 153 #[.pointer (some ⟨g, 0, none⟩), .int .i64 n] w fun e w' => e = .returned (.tuple #[]) ∧ w' = (w.setCell ⟨g, j, none⟩ (.int .u64 (bits .or .u64 z (shl1 k)))).drew := by
  have hw := wrap_small j hj64
  have hb : (0 : Int) ≤ j ∧ (j : Int) < 64 := by omega
  have hs := fun w => shl1_run k w
  go_enter Tryz.func153, Tryz.ntmps153
  go_region
  all_goals go_end0
  all_goals exact ⟨rfl, rfl⟩
/-- a node is added -/
def addW (zs : List Int) (n : Int) : List Int := if 0 ≤ n ∧ n < 4096 then zs.set (n.toNat / 64) (bits .or .u64 (zs.getD (n.toNat / 64) 0) (shl1 (n.toNat % 64))) else zs
def zero64 : List Int := List.replicate 64 0
def ofL (l : List Int) : List Int := l.foldl addW zero64
theorem own_set {w : World} {g : Nat} {zs : List Int} (h : OwnWords w g zs) (j : Nat) (hj : j < 64) (u : Int) : OwnWords ((w.setCell ⟨g, j, none⟩ (.int .u64 u)).drew) g (zs.set j u) := by
  obtain ⟨⟨h1, h2, h3⟩, h4⟩ := h
  refine ⟨⟨by simp [h1], by simpa using h2, fun i hi => ?_⟩, fun i hi => by simpa using h4 i hi⟩
  show (w.setCell ⟨g, j, none⟩ (.int .u64 u)).cell? _ = _
  rw [Nat.zero_add]
  have h3i := h3 i hi
  rw [Nat.zero_add] at h3i
  by_cases e : i = j
  · subst e
    rw [World.cell?_setCell_same _ _ _ h3i]
    rw [List.getD_eq_getElem?_getD, List.getElem?_set_self (by omega)]
    rfl
  · rw [World.cell?_setCell_other _ _ _ _ (by first | (simp; done) | (simp; omega)), h3i]
    show _ = some (Value.int .u64 (((zs.set j u)[i]?).getD 0))
    rw [List.getElem?_set_ne (Ne.symm e), List.getD_eq_getElem?_getD]
theorem add_own (g : Nat) (n : Int) (zs : List Int) (w : World) (h0 : 0 ≤ n) (h1 : n < 4096) (h : OwnWords w g zs) : Calls Tryz.prog 153 #[.pointer (some ⟨g, 0, none⟩), .int .i64 n] w fun e w' => e = .returned (.tuple #[]) ∧ OwnWords w' g (addW zs n) ∧ (∃ j u, w' = (w.setCell ⟨g, j, none⟩ u).drew) := by
  have hc := h.1.2.2 (n.toNat / 64) (by omega)
  rw [Nat.zero_add] at hc
  refine (add_is g n (n.toNat / 64) (n.toNat % 64) (zs.getD (n.toNat / 64) 0) w (by rw [Int.tdiv_eq_ediv_of_nonneg h0]; omega) (by rw [Int.tmod_eq_emod_of_nonneg h0]; omega) (by omega) hc (h.2 _ (by omega))).mono ?_
  rintro e w' ⟨rfl, rfl⟩
  refine ⟨rfl, ?_, _, _, rfl⟩
  unfold addW
  rw [if_pos ⟨h0, h1⟩]
  exact own_set h _ (by omega) _
theorem own_zero {w : World} {arr : Array Value} (e : TypeId) (h : arr = (List.replicate 64 (Value.int .u64 0)).toArray) : OwnWords (w.alloc (.cells arr e)) w.heap.size zero64 := by
  subst h
  refine ⟨⟨by simp [zero64], by simp, fun i hi => ?_⟩, fun i hi => ?_⟩
  · simp only [World.cell?, heap_alloc_new]
    rw [Nat.zero_add, zero64, zeros_getD, List.getElem?_toArray, List.getElem?_replicate, if_pos hi]
    rfl
  · simp only [World.frozen?, heap_alloc_new]
    simp
theorem WordsAt.set {w : World} {g o : Nat} {zs : List Int} (h : WordsAt w g o zs) {b k : Nat} (hb : b ≠ g) (u : Value) : WordsAt (w.setCell ⟨b, k, none⟩ u) g o zs :=
  ⟨h.1, by simpa using h.2.1, fun i hi => by rw [World.cell?_setCell_other _ _ _ _ (by first | (simp; done) | (simp; omega))]; exact h.2.2 i hi⟩
def OfRet (l : List Int) (w : World) (e : Ending) (w' : World) : Prop := Below w.heap.size w w' ∧ ((¬ firstJ (ofL l) < 64 ∧ e = .returned (.agg #[.pointer none])) ∨ (firstJ (ofL l) < 64 ∧ ∃ g, w.heap.size ≤ g ∧ e = .returned (.agg #[.pointer (some ⟨g, 0, none⟩)]) ∧ WordsAt w' g 0 (ofL l)))
set_option maxHeartbeats 4000000 in
set_option maxRecDepth 100000 in
theorem of_is (A : Option Addr) (n c : Nat) (l : List Int) (w : World) (hn : n = l.length) (hS : IntsIn w A l) (hmax : n ≤ 1000000) (hw2 : 2 ≤ w.heap.size) : Calls Tryz.prog 127 #[.slice A n c] w (OfRet l w) := by
  have HS := Lib.hid hS
  have HN := Lib.hid hn
  clear hS hn
  go_enter Tryz.func127, Tryz.ntmps127
  go_wp2
  go_loopw [8] (fun j wr => ∃ k : Nat, k ≤ n ∧ j = .int .i64 k ∧ OwnWords wr (w.heap.size + 1) (ofL (l.take k)) ∧ Below w.heap.size w wr ∧ wr.heap.size = w.heap.size + 2 ∧ wr.cell? ⟨w.heap.size, 0, none⟩ = some (.pointer none) ∧ wr.frozen? ⟨w.heap.size, 0, none⟩ = false) (fun j _ => n - (intOf j).toNat)
  case atStart =>
    have hO := own_zero (w := w.alloc (.cells #[.pointer none] 98)) (arr := Array.replicate 64 (.int .u64 0)) 282 rfl
    rw [World.size_alloc] at hO
    refine ⟨0, Nat.zero_le _, rfl, ?_, ?_, ?_, ?_, ?_⟩
    · exact hO
    · exact ((Below.refl _ _).alloc (Nat.le_refl _) _).alloc (by simp) _
    · simp
    · rw [World.cell?_alloc_past _ _ _ (by simp)]
      simp
    · simp
  case round =>
    obtain ⟨k, hk, rfl, hO, hb, hsz, hc, hf⟩ := hrel
    by_cases hlt : k < n
    · have hkl : k < l.length := by rw [← HN.out]; exact hlt
      obtain ⟨b, off, rfl, hbs, hcell⟩ := HS.out k hkl
      have hki : (k : Int) < n := by omega
      have hcell' : wr.cell? ⟨b, off + k, none⟩ = some (.int .i64 (l.getD k 0)) := by rw [hb.cell (p := ⟨b, off + k, none⟩) hbs]; exact hcell
      have HT := Lib.hid (show ofL (l.take (k + 1)) = addW (ofL (l.take k)) (l.getD k 0) by
        unfold ofL
        rw [List.take_succ_eq_append_getElem hkl, List.foldl_append]
        simp [hkl])
      obtain ⟨x, hx⟩ : ∃ x, x = l.getD k 0 := ⟨_, rfl⟩
      rw [← hx] at hcell' HT
      clear hx hcell hkl
      by_cases h0 : 0 ≤ x
      · by_cases h1 : x < 4096
        · have HA := Lib.hid (add_own (w.heap.size + 1) x _ wr h0 h1 hO)
          clear hO
          go_wp2_with (go_at_call 153; go_loud (refine HA.out.mono ?_; rintro e W ⟨rfl, hO, j, u, rfl⟩; have HO := Lib.hid hO; clear hO))
          go_roundw
          case rel =>
            refine ⟨k + 1, by omega, by go_num, by rw [HT.out]; exact HO.out, ?_, ?_, ?_, ?_⟩
            · exact (hb.setCell (by show _ ≤ w.heap.size + 1; omega) _).drew
            · simpa using hsz
            · show (wr.setCell _ _).cell? _ = _
              rw [World.cell?_setCell_other _ _ _ _ (by first | (simp; done) | (simp; omega))]
              exact hc
            · simpa using hf
          case measure => simp [intOf]; omega
        · have HE := Lib.hid (show addW (ofL (l.take k)) x = ofL (l.take k) by unfold addW; rw [if_neg (by omega)])
          have HO := Lib.hid hO
          clear hO
          go_wp2
          go_roundw
          case rel => exact ⟨k + 1, by omega, by go_num, by rw [HT.out, HE.out]; exact HO.out, hb, hsz, hc, hf⟩
          case measure => simp [intOf]; omega
      · have HE := Lib.hid (show addW (ofL (l.take k)) x = ofL (l.take k) by unfold addW; rw [if_neg (by omega)])
        have HO := Lib.hid hO
        clear hO
        go_wp2
        go_roundw
        case rel => exact ⟨k + 1, by omega, by go_num, by rw [HT.out, HE.out]; exact HO.out, hb, hsz, hc, hf⟩
        case measure => simp [intOf]; omega
    · have hkn : k = n := by omega
      have HT : Hid (ofL (l.take k) = ofL l) := Lib.hid (by rw [List.take_of_length_le (by rw [← HN.out]; omega)])
      have HSO := Lib.hid (setOf_is wr (w.heap.size + 1) 0 (ofL l) (by omega) (by rw [← HT.out]; exact hO.1))
      have HW := Lib.hid (show WordsAt wr (w.heap.size + 1) 0 (ofL l) by rw [← HT.out]; exact hO.1)
      have hnot : ¬ ((k : Int) < n) := by omega
      clear hO
      by_cases hj : firstJ (ofL l) < 64
      · go_wp2_with (go_at_call 154; go_loud (refine HSO.out.mono ?_; rintro e W ⟨he, hW⟩; rw [setVal, if_pos hj] at he; subst he; have hcW : W.cell? ⟨w.heap.size, 0, none⟩ = some (.pointer none) := (by rw [hW.cell (p := ⟨w.heap.size, 0, none⟩) (by show w.heap.size < _; omega)]; exact hc); have hfW : W.frozen? ⟨w.heap.size, 0, none⟩ = false := (by rw [hW.frozen (p := ⟨w.heap.size, 0, none⟩) (by show w.heap.size < _; omega)]; exact hf)))
        have hB := (hb.trans (hW.mono (by omega))).setCell (p := ⟨w.heap.size, 0, none⟩) (Nat.le_refl _) (.pointer (some ⟨w.heap.size + 1, 0, none⟩))
        refine bodyPost_ret (v := .agg #[.pointer (some ⟨w.heap.size + 1, 0, none⟩)]) ?_ rfl ⟨hB, .inr ⟨hj, w.heap.size + 1, by omega, rfl, ?_⟩⟩
        · simp [results, Tryz.results127, go_sem, hcW]
        · exact (HW.out.below hW).set (by omega) _
      · go_wp2_with (go_at_call 154; go_loud (refine HSO.out.mono ?_; rintro e W ⟨he, hW⟩; rw [setVal, if_neg hj] at he; subst he; have hcW : W.cell? ⟨w.heap.size, 0, none⟩ = some (.pointer none) := (by rw [hW.cell (p := ⟨w.heap.size, 0, none⟩) (by show w.heap.size < _; omega)]; exact hc); have hfW : W.frozen? ⟨w.heap.size, 0, none⟩ = false := (by rw [hW.frozen (p := ⟨w.heap.size, 0, none⟩) (by show w.heap.size < _; omega)]; exact hf)))
        have hB := (hb.trans (hW.mono (by omega))).setCell (p := ⟨w.heap.size, 0, none⟩) (Nat.le_refl _) (.pointer none)
        refine bodyPost_ret (v := .agg #[.pointer none]) ?_ rfl ⟨hB, .inl ⟨hj, rfl⟩⟩
        simp [results, Tryz.results127, go_sem, hcW]
end Go.Proofs.YtnfmgkkhejminaaGreatDoor

namespace Go.Proofs.YtnfmgkkhejminaaGreatDoor
open Go Go.RowKit Wi
/-- some slice, of one cell -/
def SliceRet (w : World) (e : Ending) (w' : World) : Prop := ∃ A n c, e = .returned (.slice A n c) ∧ Below w.heap.size w w'
theorem own_empty (w : World) (t : TypeId) : (w.alloc (.cells #[] t)).ownsRow w.heap.size t 1 (.slice (some ⟨w.heap.size, 0, none⟩) 0 0) 0 [] := by
  refine ⟨rfl, .inr ⟨w.heap.size, 0, #[], rfl, Nat.le_refl _, heap_alloc_new _ _, Nat.le_refl _, by unfold maxLen; omega, rfl, rfl⟩⟩
theorem ownsRow_slice {w : World} {base : Nat} {e : TypeId} {size n : Nat} {v : Value} {xs : List Value} (h : w.ownsRow base e size v n xs) : ∃ A c, v = .slice A n c := by
  rcases h.2 with ⟨rfl, rfl⟩ | ⟨g, cap, cur, rfl, _⟩
  · exact ⟨_, _, rfl⟩
  · exact ⟨_, _, rfl⟩
theorem q22 (w : World) (a : Option Addr) (n c n' c' : Nat) : (binOp .eql 22 (.slice a n c) (.slice none n' c')).run Tryz.prog w = .ok (.bool a.isNone) w := Lib.run_eql_slice_nil w 22 3 a n c n' c' Tryz.underlying22
set_option maxHeartbeats 4000000 in
set_option maxRecDepth 100000 in
theorem clone_is (A : Option Addr) (n c : Nat) (l : List Int) (w : World) (hn : n = l.length) (hS : IntsIn w A l) (hmax : n ≤ 1000000) (hA : A = none → n = 0 ∧ c = 0) : Calls Tryz.prog 150 #[.slice A n c] w (SliceRet w) := by
  obtain ⟨i0, hi, hz0, hz1, hz2⟩ := info_parts info3
  have hq := q22
  cases A with
  | none =>
    obtain ⟨rfl, rfl⟩ := hA rfl
    go_enter Tryz.func150, Tryz.ntmps150
    go_wp2
    go_ret
    exact ⟨_, _, _, rfl, Below.refl _ _⟩
  | some ad =>
    have hown := own_empty w 3
    have HC := Lib.hid (show ∀ j u, (l.map (Value.int .i64))[j]? = some u → (w.alloc (.cells #[] 3)).cell? (ad.add j) = some u by
      intro j u hj
      have hjl : j < l.length := by have := (List.getElem?_eq_some_iff.1 hj).1; simpa using this
      obtain ⟨b, off, e, hb, hc⟩ := hS j hjl
      cases e
      rw [show (⟨b, off, none⟩ : Addr).add j = ⟨b, off + j, none⟩ from by unfold Addr.add; split <;> simp_all, World.cell?_alloc_past _ _ _ hb, hc, ← hj]
      simp [hjl])
    have HN := Lib.hid hn
    clear hn hS hA
    go_enter Tryz.func150, Tryz.ntmps150
    go_wp2_with (at_builtin; (refine wpList_append_own _ rfl (.tmp 5) (.tmp 6) 22 rfl w.heap.size 3 i0 _ 1 8 Tryz.underlying22 hi hz0 hz1 hz2 rfl (by decide) _ _ _ rfl hown ad n c (l.map (Value.int .i64)) rfl (by rw [List.length_map, HN.out, Nat.mul_one]) HC.out (by intro u hu; obtain ⟨x, _, rfl⟩ := List.mem_map.1 hu; rfl) (by unfold maxLen; omega) (by omega) (by simp) ?_); intro v' w2 hown' hgrow _)
    go_ret
    obtain ⟨A', c', rfl⟩ := ownsRow_slice hown'
    exact ⟨_, _, _, rfl, ((Below.refl _ w).alloc (Nat.le_refl _) _).grown hgrow (by simp) (fun k hk => by cases hk; exact Nat.le_refl _)⟩
/-- a source, given back -/
def SrcRet (w : World) (e : Ending) (w' : World) : Prop := ∃ z A n c, e = .returned (.agg #[.int .i64 z, .slice A n c]) ∧ Below w.heap.size w w'
theorem two_boxes {w W : World} {z : Int} {v : Value} (hW : Below ((w.alloc (.cells #[.int .i64 z, v] 73)).alloc (.cells #[.int .i64 0, .slice none 0 0] 73)).drew.heap.size ((w.alloc (.cells #[.int .i64 z, v] 73)).alloc (.cells #[.int .i64 0, .slice none 0 0] 73)).drew W) :
    W.cell? ⟨w.heap.size, 0, none⟩ = some (.int .i64 z) ∧ W.cell? ⟨w.heap.size, 1, none⟩ = some v ∧ W.cell? ⟨w.heap.size + 1, 0, none⟩ = some (.int .i64 0) ∧ W.cell? ⟨w.heap.size + 1, 1, none⟩ = some (.slice none 0 0) ∧ W.frozen? ⟨w.heap.size + 1, 0, none⟩ = false ∧ W.frozen? ⟨w.heap.size + 1, 1, none⟩ = false ∧ Below w.heap.size w W := by
  have h1 : W.heap[w.heap.size]? = some (.cells #[.int .i64 z, v] 73) := by
    rw [hW.block _ (by show _ < ((w.alloc _).alloc _).heap.size; simp; omega)]
    show ((w.heap.push _).push _)[w.heap.size]? = _
    rw [Array.getElem?_push, if_neg (by simp)]
    simp
  have h2 : W.heap[w.heap.size + 1]? = some (.cells #[.int .i64 0, .slice none 0 0] 73) := by
    rw [hW.block _ (by show _ < ((w.alloc _).alloc _).heap.size; simp)]
    show ((w.heap.push _).push _)[w.heap.size + 1]? = _
    rw [Array.getElem?_push, if_pos (by simp)]
  refine ⟨by simp [World.cell?, h1], by simp [World.cell?, h1], by simp [World.cell?, h2], by simp [World.cell?, h2], by simp [World.frozen?, h2], by simp [World.frozen?, h2], ?_⟩
  exact (((Below.refl _ w).alloc (Nat.le_refl _) _).alloc (by simp) _).drew.trans (hW.mono (by show _ ≤ ((w.alloc _).alloc _).heap.size; simp; omega))
set_option maxHeartbeats 4000000 in
set_option maxRecDepth 100000 in
theorem copySource_is (z : Int) (A : Option Addr) (n c : Nat) (l : List Int) (w : World) (hn : n = l.length) (hS : IntsIn w A l) (hmax : n ≤ 1000000) (hA : A = none → n = 0 ∧ c = 0) : Calls Tryz.prog 155 #[.agg #[.int .i64 z, .slice A n c]] w (SrcRet w) := by
  have HCL := Lib.hid (fun (W : World) (hW : Below w.heap.size w W) => clone_is A n c l W hn (hS.below hW) hmax hA)
  have HB := Lib.hid (show Below w.heap.size w ((w.alloc (.cells #[.int .i64 z, .slice A n c] 73)).alloc (.cells #[.int .i64 0, .slice none 0 0] 73)).drew from (((Below.refl _ w).alloc (Nat.le_refl _) _).alloc (by simp) _).drew)
  clear hn hS hA
  go_enter Tryz.func155, Tryz.ntmps155
  go_wp2
  go_region_with (go_at_call 150; refine (HCL.out _ HB.out).mono ?_; rintro e W ⟨A', n', c', rfl, hW⟩; obtain ⟨h0, h1, h2, h3, f2, f3, hb⟩ := two_boxes hW)
  all_goals
    go_wp2
    refine bodyPost_ret (v := .agg #[.int .i64 z, .slice A' n' c']) ?_ rfl ⟨z, A', n', c', rfl, (hb.setCell (p := ⟨w.heap.size + 1, 0, none⟩) (by show _ ≤ w.heap.size + 1; omega) _).setCell (p := ⟨w.heap.size + 1, 1, none⟩) (by show _ ≤ w.heap.size + 1; omega) _⟩
    simp [results, Tryz.results155, go_sem, h2, h3]
end Go.Proofs.YtnfmgkkhejminaaGreatDoor

namespace Go.RowKit
open Go
section
variable {P : Program} (w : World)
/-- an append to a row of the call's own: the answer lies in the same block, or in a new one -/
theorem run_append_fresh (base : Nat) (t ty e : TypeId) (i : TypeInfo) (z : Value) (size bytes : Nat) (ht : P.underlying t = some (.slice e)) (hi : P.info? e = some i) (hz : i.zero = some z)
    (hsize : i.size = size) (hby : i.bytes = bytes) (hzs : z.cells.size = size) (hsz : 0 < size)
    (v : Value) (n : Nat) (xs : List Value) (hown : w.ownsRow base e size v n xs)
    (ad : Addr) (m c : Nat) (news : List Value) (hl : news.length = m * size) (hnews : ∀ j u, news[j]? = some u → w.cell? (ad.add j) = some u) (h1 : ∀ u ∈ news, u.oneCell' = true)
    (h63 : n + m ≤ maxLen) (hbytes : (n + m) * bytes ≤ 140737488355328) (hbase : base ≤ w.heap.size) :
    ∃ v' w', (Builtin.append_ #[t, t] ty #[v, .slice (some ad) m c]).run P w = .ok v' w' ∧ w'.ownsRow base e size v' (n + m) (xs ++ news) ∧ w.grownBy w' v.ownBlock ∧ (v'.ownBlock = v.ownBlock ∨ ∀ q, v'.ownBlock = some q → w.heap.size ≤ q) := by
  obtain ⟨v', w', hr, h2, h3, h4⟩ := run_append_own (P := P) w base t ty e i z size bytes ht hi hz hsize hby hzs hsz v n xs hown ad m c news hl hnews h1 h63 hbytes hbase
  refine ⟨v', w', hr, h2, h3, ?_⟩
  rcases hown.2 with ⟨rfl, rfl⟩ | ⟨g, cap, cur, rfl, hbg, hg, hnc, hcm, hcs, htake⟩
  · obtain ⟨v2, w2, hr2, k2, _⟩ := run_append_own (P := P) w w.heap.size t ty e i z size bytes ht hi hz hsize hby hzs hsz (.slice none 0 0) 0 [] (World.ownsRow_nil w _ _ _) ad m c news hl hnews h1 h63 hbytes (Nat.le_refl _)
    rw [hr] at hr2
    cases hr2
    exact .inr fun q hq => (k2.lt q hq).1
  · by_cases hroom : n + m ≤ cap
    · have hfit : n * i.size + news.length ≤ cur.size := by rw [hl, hcs, hsize, ← Nat.add_mul]; exact Nat.mul_le_mul_right _ hroom
      have hr2 := run_append_room (P := P) w t ty e i ht hi g n cap cur hg ad m c news (by rw [hsize]; exact hl) hnews h1 hroom hfit
      rw [hr] at hr2
      cases hr2
      exact .inl rfl
    · obtain ⟨v2, w2, hr2, k2, _⟩ := run_append_arg_grows (P := P) w t ty e i z size bytes ht hi hz hsize hby hzs hsz ⟨g, 0, none⟩ n cap xs hown.1 (hown.cells (g := g) rfl) ad m c news hl hnews (by omega) h63 hbytes
      rw [hr] at hr2
      cases hr2
      exact .inr fun q hq => (k2.lt q hq).1
end
theorem step_append_fresh {P : Program} {ops : Array Oper} {o : Oper} {a : Act} {w : World} {K : Act → World → Prop} {Q : Exit → Act → World → Prop} {E : Prop} (hg : o.guard = none) (s x : Operand) (t : TypeId)
    (ho : o.op = .call { callee := .builtin .append, args := #[s, x], argTypes := #[t, t] })
    (base : Nat) (e : TypeId) (i : TypeInfo) (z : Value) (size bytes : Nat) (ht : P.underlying t = some (.slice e)) (hi : P.info? e = some i) (hz : i.zero = some z)
    (hsize : i.size = size) (hby : i.bytes = bytes) (hzs : z.cells.size = size) (hsz : 0 < size)
    (v : Value) (n : Nat) (xs : List Value) (hs : a.eval s = v) (hown : w.ownsRow base e size v n xs)
    (ad : Addr) (m c : Nat) (news : List Value) (hx : a.eval x = .slice (some ad) m c) (hl : news.length = m * size) (hnews : ∀ j u, news[j]? = some u → w.cell? (ad.add j) = some u) (h1 : ∀ u ∈ news, u.oneCell' = true)
    (h63 : n + m ≤ maxLen) (hbytes : (n + m) * bytes ≤ 140737488355328) (hbase : base ≤ w.heap.size)
    (h : ∀ v' w', w'.ownsRow base e size v' (n + m) (xs ++ news) → w.grownBy w' v.ownBlock → (v'.ownBlock = v.ownBlock ∨ ∀ q, v'.ownBlock = some q → w.heap.size ≤ q) → K (a.put o.dst v') w') : if Region.wanted o (yielded ops a.tmps) = true then Oper.wp P o a w K Q else E := by
  rw [if_pos (by simp [Region.wanted, hg])]
  obtain ⟨v', w', hr, h2, h3, h4⟩ := run_append_fresh (P := P) w base t o.type e i z size bytes ht hi hz hsize hby hzs hsz v n xs hown ad m c news hl hnews h1 h63 hbytes hbase
  unfold Oper.wp execOp
  simp only [ho, resolve, invoke, builtin, Sem.run_bind, Sem.run_pure, Result.andThen_ok, List.map_toArray, List.map_cons, List.map_nil, hs, hx, hr]
  exact h v' w' h2 h3 h4
end Go.RowKit

namespace Go.Proofs.YtnfmgkkhejminaaGreatDoor
open Go Go.RowKit Wi
/-- what is known while the sources' row grows -/
structure AF (c p bx b : Nat) (N S s0 s1 u : Value) (wc W : World) : Prop where
  n : W.cell? ⟨c, p + 1, none⟩ = some N
  s : W.cell? ⟨c, p + 2, none⟩ = some S
  x0 : W.cell? ⟨bx, 0, none⟩ = some s0
  x1 : W.cell? ⟨bx, 1, none⟩ = some s1
  u : W.cell? ⟨b, 0, none⟩ = some u
  fn : W.frozen? ⟨c, p + 1, none⟩ = false
  fs : W.frozen? ⟨c, p + 2, none⟩ = false
  bel : Below wc.heap.size wc W
theorem AF.below {c p bx b : Nat} {N S s0 s1 u : Value} {wc X Y : World} (h : AF c p bx b N S s0 s1 u wc X) (hb : Below X.heap.size X Y) : AF c p bx b N S s0 s1 u wc Y where
  n := by rw [hb.cell (World.block_lt_of_cell? _ _ h.n)]; exact h.n
  s := by rw [hb.cell (World.block_lt_of_cell? _ _ h.s)]; exact h.s
  x0 := by rw [hb.cell (World.block_lt_of_cell? _ _ h.x0)]; exact h.x0
  x1 := by rw [hb.cell (World.block_lt_of_cell? _ _ h.x1)]; exact h.x1
  u := by rw [hb.cell (World.block_lt_of_cell? _ _ h.u)]; exact h.u
  fn := by rw [hb.frozen (World.block_lt_of_cell? _ _ h.n)]; exact h.fn
  fs := by rw [hb.frozen (World.block_lt_of_cell? _ _ h.s)]; exact h.fs
  bel := h.bel.trans (hb.mono h.bel.size)
structure AG (c p b B k : Nat) (N S S' u : Value) (wc W : World) : Prop where
  n : W.cell? ⟨c, p + 1, none⟩ = some N
  s : W.cell? ⟨c, p + 2, none⟩ = some S'
  u : W.cell? ⟨b, 0, none⟩ = some u
  fn : W.frozen? ⟨c, p + 1, none⟩ = false
  fs : W.frozen? ⟨c, p + 2, none⟩ = false
  own : ∃ xs, W.ownsRow B 287 3 S' k xs
  fresh : S'.ownBlock = S.ownBlock ∨ ∀ q, S'.ownBlock = some q → wc.heap.size ≤ q
  same : ∀ q, q < wc.heap.size → q ≠ c → S.ownBlock ≠ some q → W.heap[q]? = wc.heap[q]?
  size : wc.heap.size ≤ W.heap.size
  os : W.os = wc.os
  tape : W.tape = wc.tape
  output : W.output = wc.output
/-- where the row's slice may be stored -/
theorem AF.grow {c p bx b : Nat} {N S s0 s1 u : Value} {wc X Y : World} (h : AF c p bx b N S s0 s1 u wc X) (hg : X.grownBy Y S.ownBlock) (hc : S.ownBlock ≠ some c) : Y.cell? ⟨c, p + 2, none⟩ = some S ∧ Y.frozen? ⟨c, p + 2, none⟩ = false :=
  ⟨hg.cell h.s (fun e => hc e.symm), by rw [World.frozen?_of_block (hg.block c (World.block_lt_of_cell? _ _ h.s) (fun e => hc e.symm))]; exact h.fs⟩
theorem AF.stored {c p bx b B k : Nat} {N S S' s0 s1 u : Value} {wc X Y : World} {xs : List Value} (h : AF c p bx b N S s0 s1 u wc X) (hg : X.grownBy Y S.ownBlock) (hc : S.ownBlock ≠ some c) (hbS : S.ownBlock ≠ some b) (_hbc : b ≠ c) (_hcw : c < wc.heap.size) (hown : Y.ownsRow B 287 3 S' k xs)
    (hfr : S'.ownBlock = S.ownBlock ∨ ∀ q, S'.ownBlock = some q → X.heap.size ≤ q) : AG c p b B k N S S' u wc (Y.setCell ⟨c, p + 2, none⟩ S') := by
  have hcx : c < X.heap.size := World.block_lt_of_cell? _ _ h.s
  have hcY := hg.cell h.s (fun e => hc e.symm)
  have hne : S'.ownBlock ≠ some c := fun e => by
    rcases hfr with h1 | h1
    · exact hc (h1 ▸ e)
    · have := h1 c e; omega
  refine ⟨?_, World.cell?_setCell_same _ _ _ hcY, ?_, ?_, ?_, ⟨xs, hown.kept (w' := Y.setCell ⟨c, p + 2, none⟩ S') (row := some c) ⟨rfl, rfl, rfl, by simp, fun q _ hq => Below.heap_setCell _ _ _ _ (fun e => hq (by rw [e]))⟩ (.inr hne)⟩, ?_, ?_, ?_, ?_, ?_, ?_⟩
  · rw [World.cell?_setCell_other _ _ _ _ (by simp)]
    exact hg.cell h.n (fun e => hc e.symm)
  · rw [World.cell?_setCell_other _ _ _ _ (by first | (simp; done) | (simp; omega))]
    exact hg.cell h.u (fun e => hbS e.symm)
  · have := World.frozen?_of_block (a := ⟨c, p + 1, none⟩) (hg.block c hcx (fun e => hc e.symm))
    simp only [World.frozen?_setCell]
    rw [this]
    exact h.fn
  · have := World.frozen?_of_block (a := ⟨c, p + 2, none⟩) (hg.block c hcx (fun e => hc e.symm))
    simp only [World.frozen?_setCell]
    rw [this]
    exact h.fs
  · rcases hfr with h1 | h1
    · exact .inl h1
    · exact .inr fun q hq => Nat.le_trans h.bel.size (h1 q hq)
  · intro q hq hqc hqS
    rw [Below.heap_setCell _ _ _ _ hqc, hg.block q (Nat.lt_of_lt_of_le hq h.bel.size) (fun e => hqS e.symm)]
    exact h.bel.block q hq
  · have := hg.size
    have := h.bel.size
    simp
    omega
  · exact hg.os.trans h.bel.os
  · exact hg.tape.trans h.bel.tape
  · exact hg.output.trans h.bel.output
theorem info287 : (Tryz.prog.info? 287).map (fun i => (i.zero, i.size, i.bytes)) = some (some (.agg #[.int .i64 0, .slice none 0 0, .bool false]), 3, 40) := by kernel_rfl
theorem own_below {w W : World} {B : Nat} {e : TypeId} {size n : Nat} {v : Value} {xs : List Value} (h : w.ownsRow B e size v n xs) (hb : Below w.heap.size w W) : W.ownsRow B e size v n xs :=
  h.kept (row := none) ⟨hb.os, hb.tape, hb.output, hb.size, fun k hk _ => hb.block k hk⟩ (by cases e : v.ownBlock <;> simp)
theorem row3 (W : World) (a b c : Value) (t : TypeId) (j : Nat) (u : Value) (h : [a, b, c][j]? = some u) : (W.alloc (.cells #[a, b, c] t)).cell? ((⟨W.heap.size, 0, none⟩ : Addr).add j) = some u := by
  rw [show (⟨W.heap.size, 0, none⟩ : Addr).add j = ⟨W.heap.size, j, none⟩ from by unfold Addr.add; split <;> simp_all]
  simp only [World.cell?, heap_alloc_new]
  simpa using h
theorem pop9_pos {x : Nat} (h : x ≠ 0) (h5 : x < 512) : 0 < pop9 x := by
  have : (List.range 511).all (fun i => decide (0 < pop9 (i + 1))) = true := by kernel_rfl
  have := List.all_eq_true.1 this (x - 1) (List.mem_range.2 (by omega))
  rw [show x - 1 + 1 = x by omega] at this
  exact of_decide_eq_true this
end Go.Proofs.YtnfmgkkhejminaaGreatDoor

namespace Go.Proofs.YtnfmgkkhejminaaGreatDoor
open Go Go.RowKit Wi
/-- an estimate of which B is the first block that is its own: the nodes a, the row of its k sources -/
def EstAt (B : Nat) (w : World) (c p a k : Nat) : Prop := ∃ g o v xs, B ≤ c ∧ c < w.heap.size ∧ w.cell? ⟨c, p + 1, none⟩ = some (.pointer (some ⟨g, o, none⟩)) ∧ w.cell? ⟨c, p + 2, none⟩ = some v ∧ w.frozen? ⟨c, p + 1, none⟩ = false ∧ w.frozen? ⟨c, p + 2, none⟩ = false ∧ WordsAt w g o (w1 a) ∧ g ≠ c ∧ B ≤ g ∧ w.ownsRow B 287 3 v k xs ∧ v.ownBlock ≠ some c ∧ v.ownBlock ≠ some g
theorem EstAt.below {B : Nat} {w W : World} {c p a k : Nat} (h : EstAt B w c p a k) (hb : Below w.heap.size w W) : EstAt B W c p a k := by
  obtain ⟨g, o, v, xs, h1, h2, h3, h4, h5, h6, h7, h8, h9, h10, h11, h12⟩ := h
  exact ⟨g, o, v, xs, h1, Nat.lt_of_lt_of_le h2 hb.size, by rw [hb.cell (p := ⟨c, p + 1, none⟩) h2]; exact h3, by rw [hb.cell (p := ⟨c, p + 2, none⟩) h2]; exact h4, by rw [hb.frozen (p := ⟨c, p + 1, none⟩) h2]; exact h5, by rw [hb.frozen (p := ⟨c, p + 2, none⟩) h2]; exact h6, h7.below hb, h8, h9, own_below h10 hb, h11, h12⟩
theorem words_same {w W : World} {g o : Nat} {zs : List Int} (h : WordsAt w g o zs) (hg : W.heap[g]? = w.heap[g]?) (hs : w.heap.size ≤ W.heap.size) : WordsAt W g o zs :=
  ⟨h.1, Nat.lt_of_lt_of_le h.2.1 hs, fun i hi => by rw [World.cell?_of_block (a := ⟨g, o + i, none⟩) hg]; exact h.2.2 i hi⟩
theorem AG.words {c p b B k : Nat} {N S S' u : Value} {wc W : World} (h : AG c p b B k N S S' u wc W) {g o : Nat} {zs : List Int} (hw : WordsAt wc g o zs) (hgc : g ≠ c) (hgS : S.ownBlock ≠ some g) : WordsAt W g o zs :=
  words_same hw (h.same g hw.2.1 hgc hgS) h.size
theorem AG.off {c p b B k : Nat} {N S S' u : Value} {wc W : World} (h : AG c p b B k N S S' u wc W) {g : Nat} (hg : g < wc.heap.size) (hgS : S.ownBlock ≠ some g) : S'.ownBlock ≠ some g := fun e => by
  rcases h.fresh with h1 | h1
  · exact hgS (h1 ▸ e)
  · have := h1 g e; omega
theorem AG.est {c p b B k g o a : Nat} {S S' u : Value} {wc W : World} (h : AG c p b B k (.pointer (some ⟨g, o, none⟩)) S S' u wc W) (hBc : B ≤ c) (hcw : c < wc.heap.size) (hBg : B ≤ g) (hgc : g ≠ c) (hw : WordsAt wc g o (w1 a)) (hSc : S.ownBlock ≠ some c) (hSg : S.ownBlock ≠ some g) : EstAt B W c p a k := by
  obtain ⟨xs, hown⟩ := h.own
  exact ⟨g, o, S', xs, hBc, Nat.lt_of_lt_of_le hcw h.size, h.n, h.s, h.fn, h.fs, h.words hw hgc hSg, hgc, hBg, hown, h.off hcw hSc, h.off hw.2.1 hSg⟩
theorem AG.est2 {c p b B k g o g2 o2 x : Nat} {S S' u : Value} {wc W W2 : World} (h : AG c p b B k (.pointer (some ⟨g, o, none⟩)) S S' u wc W) (hb : Below W.heap.size W W2) (hBc : B ≤ c) (hcw : c < wc.heap.size) (hBg : B ≤ g2) (hgc : g2 ≠ c) (hw : WordsAt wc g2 o2 (w1 x)) (hSc : S.ownBlock ≠ some c) (hSg : S.ownBlock ≠ some g2) : EstAt B (W2.setCell ⟨c, p + 1, none⟩ (.pointer (some ⟨g2, o2, none⟩))) c p x k := by
  obtain ⟨xs, hown⟩ := h.own
  have hcW : c < W.heap.size := Nat.lt_of_lt_of_le hcw h.size
  have hn : W2.cell? ⟨c, p + 1, none⟩ = some (.pointer (some ⟨g, o, none⟩)) := by rw [hb.cell (p := ⟨c, p + 1, none⟩) hcW]; exact h.n
  have ho := own_below hown hb
  refine ⟨g2, o2, S', xs, hBc, by have := hb.size; simp; omega, World.cell?_setCell_same _ _ _ hn, ?_, ?_, ?_, ?_, hgc, hBg, ho.kept (row := some c) ⟨rfl, rfl, rfl, by simp, fun q _ hq => Below.heap_setCell _ _ _ _ (fun e => hq (by rw [e]))⟩ (.inr (h.off hcw hSc)), h.off hcw hSc, h.off hw.2.1 hSg⟩
  · rw [World.cell?_setCell_other _ _ _ _ (by simp), hb.cell (p := ⟨c, p + 2, none⟩) hcW]
    exact h.s
  · simp only [World.frozen?_setCell]
    rw [hb.frozen (p := ⟨c, p + 1, none⟩) hcW]
    exact h.fn
  · simp only [World.frozen?_setCell]
    rw [hb.frozen (p := ⟨c, p + 2, none⟩) hcW]
    exact h.fs
  · exact ((h.words hw hgc hSg).below hb).set (Ne.symm hgc) _
theorem AG.bel {c p b B k : Nat} {N S S' u : Value} {w wc W : World} (h : AG c p b B k N S S' u wc W) (hw : Below B w wc) (hBw : B ≤ wc.heap.size) (hBc : B ≤ c) (hSB : ∀ q, S.ownBlock = some q → B ≤ q) : Below B w W :=
  hw.trans ⟨h.os, h.tape, h.output, h.size, fun q hq => h.same q (by omega) (by omega) (fun e => by have := hSB q e; omega)⟩
end Go.Proofs.YtnfmgkkhejminaaGreatDoor

namespace Go.Proofs.YtnfmgkkhejminaaGreatDoor
open Go Go.RowKit Wi
def AddRet (B : Nat) (w : World) (c p a k : Nat) (e : Ending) (w' : World) : Prop := (∃ q z, e = .returned (.tuple #[.bool q, .int .i64 z])) ∧ Below B w w' ∧ EstAt B w' c p a k
/-- the set of a cell -/
def SetCell (W : World) (b x : Nat) (n : Nat) : Prop := (x = 0 ∧ W.cell? ⟨b, 0, none⟩ = some (.pointer none)) ∨ (x ≠ 0 ∧ ∃ g o, W.cell? ⟨b, 0, none⟩ = some (.pointer (some ⟨g, o, none⟩)) ∧ n ≤ g ∧ g < W.heap.size ∧ WordsAt W g o (w1 x))
theorem words_lt {W : World} {g o : Nat} {zs : List Int} (h : WordsAt W g o zs) : g < W.heap.size := h.2.1
theorem new_cell (Y W : World) (o : Obj) (v : Value) (t : TypeId) (ho : o = .cells #[v] t) (h : Below (Y.alloc o).heap.size (Y.alloc o) W) : W.cell? ⟨Y.heap.size, 0, none⟩ = some v ∧ W.frozen? ⟨Y.heap.size, 0, none⟩ = false := by
  subst ho
  have hs : Y.heap.size < (Y.alloc (.cells #[v] t)).heap.size := by simp
  refine ⟨?_, ?_⟩
  · rw [h.cell (p := ⟨Y.heap.size, 0, none⟩) hs]; simp
  · rw [h.frozen (p := ⟨Y.heap.size, 0, none⟩) hs]; simp
theorem new_cell_d (Y W : World) (o : Obj) (v : Value) (t : TypeId) (ho : o = .cells #[v] t) (h : Below (Y.alloc o).drew.heap.size (Y.alloc o).drew W) : W.cell? ⟨Y.heap.size, 0, none⟩ = some v ∧ W.frozen? ⟨Y.heap.size, 0, none⟩ = false := new_cell Y W o v t ho ⟨h.os, h.tape, h.output, h.size, h.block⟩
theorem keep_cell {X W : World} {b : Nat} {v : Value} (h : Below X.heap.size X W) (hc : X.cell? ⟨b, 0, none⟩ = some v ∧ X.frozen? ⟨b, 0, none⟩ = false) : W.cell? ⟨b, 0, none⟩ = some v ∧ W.frozen? ⟨b, 0, none⟩ = false := by
  have hb : b < X.heap.size := World.block_lt_of_cell? X ⟨b, 0, none⟩ hc.1
  exact ⟨by rw [h.cell (p := ⟨b, 0, none⟩) hb]; exact hc.1, by rw [h.frozen (p := ⟨b, 0, none⟩) hb]; exact hc.2⟩
/-- what stands for a set -/
def SetIs (W : World) (u : Value) (x n b : Nat) : Prop := (x = 0 ∧ u = .pointer none) ∨ (x ≠ 0 ∧ ∃ g o, u = .pointer (some ⟨g, o, none⟩) ∧ n ≤ g ∧ g ≠ b ∧ WordsAt W g o (w1 x))
theorem meet_set {W1 W4 : World} {b X : Nat} {u u0 : Value} (hb : W1.heap.size ≤ b) (hc : W4.cell? ⟨b, 0, none⟩ = some u0) (hB : Below W1.heap.size W1 W4) (hs : SetIs W4 u X W1.heap.size b) :
    ∃ b', Value.pointer (some ⟨b, 0, none⟩) = Value.pointer (some ⟨b', 0, none⟩) ∧ W1.heap.size ≤ b' ∧ b' < (W4.setCell ⟨b, 0, none⟩ u).heap.size ∧ SetCell (W4.setCell ⟨b, 0, none⟩ u) b' X W1.heap.size ∧ Below W1.heap.size W1 (W4.setCell ⟨b, 0, none⟩ u) := by
  have hbl := World.block_lt_of_cell? W4 ⟨b, 0, none⟩ hc
  refine ⟨b, rfl, hb, by simpa using hbl, ?_, hB.setCell (p := ⟨b, 0, none⟩) hb u⟩
  have hsame : (W4.setCell ⟨b, 0, none⟩ u).cell? ⟨b, 0, none⟩ = some u := World.cell?_setCell_same _ _ _ hc
  rcases hs with ⟨h1, rfl⟩ | ⟨h1, g, o, rfl, h2, h3, h4⟩
  · exact .inl ⟨h1, hsame⟩
  · exact .inr ⟨h1, g, o, hsame, h2, by simpa using h4.2.1, h4.set (Ne.symm h3) _⟩
theorem meet_new {W1 W4 : World} {X : Nat} {u : Value} {t : TypeId} (hB : Below W1.heap.size W1 W4) (hs : SetIs W4 u X W1.heap.size W4.heap.size) :
    ∃ b', Value.pointer (some ⟨W4.heap.size, 0, none⟩) = Value.pointer (some ⟨b', 0, none⟩) ∧ W1.heap.size ≤ b' ∧ b' < (W4.alloc (.cells #[u] t)).heap.size ∧ SetCell (W4.alloc (.cells #[u] t)) b' X W1.heap.size ∧ Below W1.heap.size W1 (W4.alloc (.cells #[u] t)) := by
  have hsame : (W4.alloc (.cells #[u] t)).cell? ⟨W4.heap.size, 0, none⟩ = some u := by simp
  refine ⟨W4.heap.size, rfl, hB.size, by simp, ?_, hB.alloc hB.size _⟩
  rcases hs with ⟨h1, rfl⟩ | ⟨h1, g, o, rfl, h2, h3, h4⟩
  · exact .inl ⟨h1, hsame⟩
  · exact .inr ⟨h1, g, o, hsame, h2, by have := h4.2.1; simp; omega, h4.below ((Below.refl _ _).alloc (Nat.le_refl _) _)⟩
set_option maxHeartbeats 4000000 in
set_option maxRecDepth 100000 in
theorem add_good (B c p a k : Nat) (z : Int) (A : Option Addr) (n cc : Nat) (l : List Int) (w : World) (hB : B ≤ w.heap.size) (h2B : 2 ≤ B) (ha : a < 512) (hE : EstAt B w c p a k) (hz : 1 ≤ z) (hz9 : z ≤ 9) (hn4 : (n : Int) ≤ 4096) (hk : (k : Int) < 64) (hn : n = l.length) (hS : IntsIn w A l) (hA : A = none → n = 0 ∧ cc = 0) : Calls Tryz.prog 78 #[.pointer (some ⟨c, p, none⟩), .agg #[.int .i64 z, .slice A n cc]] w (AddRet B w c p (if andN a ((ofL l).getD 0 0) = 0 then a else andN a ((ofL l).getD 0 0)) (k + 1)) := by
  obtain ⟨g, o, v, xs, hBc, hcs, hc1, hc2, hf1, hf2, hW, hgc, hBg, hown, hv1, hv2⟩ := hE
  obtain ⟨vA, vc, rfl⟩ := ownsRow_slice hown
  obtain ⟨X, hX⟩ : ∃ X, X = andN a ((ofL l).getD 0 0) := ⟨_, rfl⟩
  rw [← hX]
  obtain ⟨R, hR⟩ : ∃ R, R = if X = 0 then a else X := ⟨_, rfl⟩
  rw [← hR]
  have HR := Lib.hid hR
  clear hR
  obtain ⟨w1x, hw1⟩ : ∃ W, W = w.alloc (.cells #[.int .i64 z, .slice A n cc] 73) := ⟨_, rfl⟩
  have hb1 : Below w.heap.size w w1x := by rw [hw1]; exact (Below.refl _ _).alloc (Nat.le_refl _) _
  have hs1 : w1x.heap.size = w.heap.size + 1 := by rw [hw1]; simp
  have d1 : w1x.cell? ⟨c, p + 1, none⟩ = some (.pointer (some ⟨g, o, none⟩)) := by rw [hb1.cell (p := ⟨c, p + 1, none⟩) hcs]; exact hc1
  have d2 : w1x.cell? ⟨c, p + 2, none⟩ = some (.slice vA k vc) := by rw [hb1.cell (p := ⟨c, p + 2, none⟩) hcs]; exact hc2
  have e0 : w1x.cell? ⟨w.heap.size, 0, none⟩ = some (.int .i64 z) := by rw [hw1]; simp
  have e1 : w1x.cell? ⟨w.heap.size, 1, none⟩ = some (.slice A n cc) := by rw [hw1]; simp
  have HOF := Lib.hid (show ∀ W, (W.cell? ⟨c, p + 1, none⟩ = some (.pointer (some ⟨g, o, none⟩)) ∧ W.cell? ⟨w.heap.size, 1, none⟩ = some (.slice A n cc) ∧ Below w1x.heap.size w1x W) → Calls Tryz.prog 127 #[.slice A n cc] W (OfRet l W) from fun W h =>
    of_is A n cc l W hn (hS.below (hb1.trans (h.2.2.mono (by omega)))) (by omega) (by have := h.2.2.size; omega))
  have HT := Lib.hid (show ∀ X Y, (X.cell? ⟨c, p + 1, none⟩ = some (.pointer (some ⟨g, o, none⟩)) ∧ X.cell? ⟨w.heap.size, 1, none⟩ = some (.slice A n cc) ∧ Below w1x.heap.size w1x X) → Below X.heap.size X Y → (Y.cell? ⟨c, p + 1, none⟩ = some (.pointer (some ⟨g, o, none⟩)) ∧ Y.cell? ⟨w.heap.size, 1, none⟩ = some (.slice A n cc) ∧ Below w1x.heap.size w1x Y) from fun X Y h hb => by
    have hs := h.2.2.size
    refine ⟨?_, ?_, h.2.2.trans (hb.mono hs)⟩
    · rw [hb.cell (p := ⟨c, p + 1, none⟩) (by show c < _; omega)]; exact h.1
    · rw [hb.cell (p := ⟨w.heap.size, 1, none⟩) (by show w.heap.size < _; omega)]; exact h.2.1)
  have HST := Lib.hid (show ∀ X b u, (X.cell? ⟨c, p + 1, none⟩ = some (.pointer (some ⟨g, o, none⟩)) ∧ X.cell? ⟨w.heap.size, 1, none⟩ = some (.slice A n cc) ∧ Below w1x.heap.size w1x X) → w1x.heap.size ≤ b → ((X.setCell ⟨b, 0, none⟩ u).cell? ⟨c, p + 1, none⟩ = some (.pointer (some ⟨g, o, none⟩)) ∧ (X.setCell ⟨b, 0, none⟩ u).cell? ⟨w.heap.size, 1, none⟩ = some (.slice A n cc) ∧ Below w1x.heap.size w1x (X.setCell ⟨b, 0, none⟩ u)) from fun X b u h hb => by
    refine ⟨?_, ?_, h.2.2.setCell (p := ⟨b, 0, none⟩) hb u⟩
    · rw [World.cell?_setCell_other _ _ _ _ (by first | (simp; done) | (simp; omega))]; exact h.1
    · rw [World.cell?_setCell_other _ _ _ _ (by first | (simp; done) | (simp; omega))]; exact h.2.1)
  have HGW := Lib.hid (show ∀ X, Below w1x.heap.size w1x X → WordsAt X g o (w1 a) from fun X hb => (hW.below hb1).below hb)
  have hS0 : w1x.drew.cell? ⟨c, p + 1, none⟩ = some (.pointer (some ⟨g, o, none⟩)) ∧ w1x.drew.cell? ⟨w.heap.size, 1, none⟩ = some (.slice A n cc) ∧ Below w1x.heap.size w1x w1x.drew := ⟨d1, e1, (Below.refl _ _).drew⟩
  have HIN := Lib.hid (show ∀ W g' zs, (W.cell? ⟨c, p + 1, none⟩ = some (.pointer (some ⟨g, o, none⟩)) ∧ W.cell? ⟨w.heap.size, 1, none⟩ = some (.slice A n cc) ∧ Below w1x.heap.size w1x W) → w1x.heap.size ≤ g' → WordsAt W g' 0 zs → Calls Tryz.prog 128 #[.agg #[.pointer (some ⟨g, o, none⟩)], .agg #[.pointer (some ⟨g', 0, none⟩)]] W (SetRet (andN a (zs.getD 0 0)) W) from fun W g' zs h hg hw =>
    inter_is W g o g' 0 a zs (by have := h.2.2.size; omega) ha (by have := hW.2.1; omega) (HGW.out W h.2.2) hw)
  have HI0 := Lib.hid (show ∀ W, (W.cell? ⟨c, p + 1, none⟩ = some (.pointer (some ⟨g, o, none⟩)) ∧ W.cell? ⟨w.heap.size, 1, none⟩ = some (.slice A n cc) ∧ Below w1x.heap.size w1x W) → Calls Tryz.prog 128 #[.agg #[.pointer (some ⟨g, o, none⟩)], .agg #[.pointer none]] W (SetRet 0 W) from fun W h =>
    inter_nil W g o a (by have := h.2.2.size; omega) ha (HGW.out W h.2.2))
  have HX0 : Hid (¬ firstJ (ofL l) < 64 → X = 0) := Lib.hid fun h => by
    rw [hX]
    have : (ofL l).getD 0 0 = 0 := by
      rcases Nat.eq_zero_or_pos (firstJ (ofL l)) with h0 | h0
      · omega
      · exact firstJ_zero _ 0 h0
    rw [this, andN_zero]
  have HOWN := Lib.hid hown
  have HXX := Lib.hid hX
  have HN := Lib.hid hn
  have HSI := Lib.hid hS
  have HAN := Lib.hid hA
  have HW0 := Lib.hid hW
  have HS1 := Lib.hid hs1
  clear hX hown hS hA hW HGW hn hs1
  go_enter Tryz.func78, Tryz.ntmps78
  go_wp2
  rw [← hw1]
  clear hw1
  go_cut [6] from 28 to 35 (fun t W => ∃ b, t = .pointer (some ⟨b, 0, none⟩) ∧ w1x.heap.size ≤ b ∧ b < W.heap.size ∧ SetCell W b X w1x.heap.size ∧ Below w1x.heap.size w1x W)
  case first =>
    by_cases hj : firstJ (ofL l) < 64
    · have HO1 := Lib.hid (show ∀ W, (W.cell? ⟨c, p + 1, none⟩ = some (.pointer (some ⟨g, o, none⟩)) ∧ W.cell? ⟨w.heap.size, 1, none⟩ = some (.slice A n cc) ∧ Below w1x.heap.size w1x W) → Calls Tryz.prog 127 #[.slice A n cc] W fun e W' => ∃ g', e = .returned (.agg #[.pointer (some ⟨g', 0, none⟩)]) ∧ W.heap.size ≤ g' ∧ WordsAt W' g' 0 (ofL l) ∧ Below W.heap.size W W' from fun W h => (HOF.out W h).mono fun e W' h => by
        rcases h.2 with ⟨h2, _⟩ | ⟨_, g', h3, h4, h5⟩
        · exact absurd hj h2
        · exact ⟨g', h4, h3, h5, h.1⟩)
      by_cases hx : X = 0
      · have HI1 := Lib.hid (show ∀ W g', (W.cell? ⟨c, p + 1, none⟩ = some (.pointer (some ⟨g, o, none⟩)) ∧ W.cell? ⟨w.heap.size, 1, none⟩ = some (.slice A n cc) ∧ Below w1x.heap.size w1x W) → w1x.heap.size ≤ g' → WordsAt W g' 0 (ofL l) → Calls Tryz.prog 128 #[.agg #[.pointer (some ⟨g, o, none⟩)], .agg #[.pointer (some ⟨g', 0, none⟩)]] W fun e W' => e = .returned (.agg #[.pointer none]) ∧ Below W.heap.size W W' from fun W g' h hg hw => (HIN.out W g' _ h hg hw).mono fun e W' h => by
          rw [← HXX.out] at h
          rcases h.2 with ⟨_, h3⟩ | ⟨h2, _⟩
          · exact ⟨h3, h.1⟩
          · exact absurd hx h2)
        go_region_held3 (fun W => W.cell? ⟨c, p + 1, none⟩ = some (.pointer (some ⟨g, o, none⟩)) ∧ W.cell? ⟨w.heap.size, 1, none⟩ = some (.slice A n cc) ∧ Below w1x.heap.size w1x W) (first | assumption | exact HT.out _ _ (by assumption) ((Below.refl _ _).alloc (Nat.le_refl _) _) | exact HST.out _ _ _ (by assumption) (by first | (have h1 := hS3.2.2.size; omega) | (have h1 := hS4.2.2.size; omega) | (show _ ≤ w1x.heap.size; omega)) | exact HST.out _ _ _ (HT.out _ _ (by assumption) ((Below.refl _ _).alloc (Nat.le_refl _) _)) (by first | (have h1 := hS3.2.2.size; omega) | (have h1 := hS4.2.2.size; omega) | (show _ ≤ w1x.heap.size; omega)))
          (first
            | (go_at_call 127; refine (HO1.out _ (by assumption)).mono ?_; rintro e W3 ⟨g', rfl, hg3, hws, hb3⟩; have hS3 := HT.out _ _ (by assumption) hb3; (first | (with_reducible have hn3 := new_cell _ _ _ _ _ rfl hb3; obtain ⟨hn3, hf3⟩ := hn3) | (with_reducible have hn3 := new_cell_d _ _ _ _ _ rfl hb3; obtain ⟨hn3, hf3⟩ := hn3) | skip))
            | (go_at_call 128; refine (HI1.out _ g' (by assumption) (by first | exact hg3 | exact Nat.le_trans (by first | exact Nat.le_refl _ | (show w1x.heap.size ≤ (w1x.alloc _).heap.size; simp)) hg3) (by first | exact hws | exact hws.below ((Below.refl _ _).alloc (Nat.le_refl _) _))).mono ?_; rintro e W4 ⟨rfl, hb4⟩; have hS4 := HT.out _ _ (by assumption) hb4; (first | (with_reducible have hn4 := new_cell _ _ _ _ _ rfl hb4; obtain ⟨hn4, hf4⟩ := hn4) | (with_reducible have hn4 := keep_cell hb4 ⟨hn3, hf3⟩; obtain ⟨hn4, hf4⟩ := hn4) | skip)))
        all_goals go_wp2
        all_goals go_meet
        all_goals have q3 : w1x.heap.size ≤ W3.heap.size := hS3.2.2.size
        all_goals have q4 : w1x.heap.size ≤ W4.heap.size := hS4.2.2.size
        all_goals first
          | exact meet_new hS4.2.2 (.inl ⟨hx, rfl⟩)
          | exact meet_set q3 hn4 hS4.2.2 (.inl ⟨hx, rfl⟩)
          | exact meet_set (Nat.le_refl _) hn4 hS4.2.2 (.inl ⟨hx, rfl⟩)
      · have HI1 := Lib.hid (show ∀ W g', (W.cell? ⟨c, p + 1, none⟩ = some (.pointer (some ⟨g, o, none⟩)) ∧ W.cell? ⟨w.heap.size, 1, none⟩ = some (.slice A n cc) ∧ Below w1x.heap.size w1x W) → w1x.heap.size ≤ g' → WordsAt W g' 0 (ofL l) → Calls Tryz.prog 128 #[.agg #[.pointer (some ⟨g, o, none⟩)], .agg #[.pointer (some ⟨g', 0, none⟩)]] W fun e W' => ∃ g2 o2, e = .returned (.agg #[.pointer (some ⟨g2, o2, none⟩)]) ∧ W.heap.size ≤ g2 ∧ WordsAt W' g2 o2 (w1 X) ∧ Below W.heap.size W W' from fun W g' h hg hw => (HIN.out W g' _ h hg hw).mono fun e W' h => by
          rw [← HXX.out] at h
          rcases h.2 with ⟨h2, _⟩ | ⟨_, g2, o2, h3, h4, h5⟩
          · exact absurd h2 hx
          · exact ⟨g2, o2, h3, h4, h5, h.1⟩)
        go_region_held3 (fun W => W.cell? ⟨c, p + 1, none⟩ = some (.pointer (some ⟨g, o, none⟩)) ∧ W.cell? ⟨w.heap.size, 1, none⟩ = some (.slice A n cc) ∧ Below w1x.heap.size w1x W) (first | assumption | exact HT.out _ _ (by assumption) ((Below.refl _ _).alloc (Nat.le_refl _) _) | exact HST.out _ _ _ (by assumption) (by first | (have h1 := hS3.2.2.size; omega) | (have h1 := hS4.2.2.size; omega) | (show _ ≤ w1x.heap.size; omega)) | exact HST.out _ _ _ (HT.out _ _ (by assumption) ((Below.refl _ _).alloc (Nat.le_refl _) _)) (by first | (have h1 := hS3.2.2.size; omega) | (have h1 := hS4.2.2.size; omega) | (show _ ≤ w1x.heap.size; omega)))
          (first
            | (go_at_call 127; refine (HO1.out _ (by assumption)).mono ?_; rintro e W3 ⟨g', rfl, hg3, hws, hb3⟩; have hS3 := HT.out _ _ (by assumption) hb3; (first | (with_reducible have hn3 := new_cell _ _ _ _ _ rfl hb3; obtain ⟨hn3, hf3⟩ := hn3) | (with_reducible have hn3 := new_cell_d _ _ _ _ _ rfl hb3; obtain ⟨hn3, hf3⟩ := hn3) | skip))
            | (go_at_call 128; refine (HI1.out _ g' (by assumption) (by first | exact hg3 | exact Nat.le_trans (by first | exact Nat.le_refl _ | (show w1x.heap.size ≤ (w1x.alloc _).heap.size; simp)) hg3) (by first | exact hws | exact hws.below ((Below.refl _ _).alloc (Nat.le_refl _) _))).mono ?_; rintro e W4 ⟨g2, o2, rfl, hg2, hw2, hb4⟩; have hS4 := HT.out _ _ (by assumption) hb4; (first | (with_reducible have hn4 := new_cell _ _ _ _ _ rfl hb4; obtain ⟨hn4, hf4⟩ := hn4) | (with_reducible have hn4 := keep_cell hb4 ⟨hn3, hf3⟩; obtain ⟨hn4, hf4⟩ := hn4) | skip)))
        all_goals go_wp2
        all_goals go_meet
        all_goals have q3 : w1x.heap.size ≤ W3.heap.size := hS3.2.2.size
        all_goals have q4 : w1x.heap.size ≤ W4.heap.size := hS4.2.2.size
        all_goals first
          | exact meet_new hS4.2.2 (.inr ⟨hx, g2, o2, rfl, (by omega), (by have := hw2.2.1; omega), hw2⟩)
          | exact meet_set q3 hn4 hS4.2.2 (.inr ⟨hx, g2, o2, rfl, (by have h5 : (W3.alloc _).heap.size ≤ g2 := hg2; simp at h5; omega), (by have h5 : (W3.alloc _).heap.size ≤ g2 := hg2; simp at h5; omega), hw2⟩)
          | exact meet_set (Nat.le_refl _) hn4 hS4.2.2 (.inr ⟨hx, g2, o2, rfl, (by omega), (by have h5 := hb3.size; have h6 : w1x.heap.size + 1 ≤ W3.heap.size := (by simpa using h5); omega), hw2⟩)
    · have hx : X = 0 := HX0.out hj
      have HO1 := Lib.hid (show ∀ W, (W.cell? ⟨c, p + 1, none⟩ = some (.pointer (some ⟨g, o, none⟩)) ∧ W.cell? ⟨w.heap.size, 1, none⟩ = some (.slice A n cc) ∧ Below w1x.heap.size w1x W) → Calls Tryz.prog 127 #[.slice A n cc] W fun e W' => e = .returned (.agg #[.pointer none]) ∧ Below W.heap.size W W' from fun W h => (HOF.out W h).mono fun e W' h => by
        rcases h.2 with ⟨_, h2⟩ | ⟨h2, _⟩
        · exact ⟨h2, h.1⟩
        · exact absurd h2 hj)
      have HI1 := Lib.hid (show ∀ W, (W.cell? ⟨c, p + 1, none⟩ = some (.pointer (some ⟨g, o, none⟩)) ∧ W.cell? ⟨w.heap.size, 1, none⟩ = some (.slice A n cc) ∧ Below w1x.heap.size w1x W) → Calls Tryz.prog 128 #[.agg #[.pointer (some ⟨g, o, none⟩)], .agg #[.pointer none]] W fun e W' => e = .returned (.agg #[.pointer none]) ∧ Below W.heap.size W W' from fun W h => (HI0.out W h).mono fun e W' h => by
        rcases h.2 with ⟨_, h2⟩ | ⟨h2, _⟩
        · exact ⟨h2, h.1⟩
        · exact absurd rfl h2)
      go_region_held3 (fun W => W.cell? ⟨c, p + 1, none⟩ = some (.pointer (some ⟨g, o, none⟩)) ∧ W.cell? ⟨w.heap.size, 1, none⟩ = some (.slice A n cc) ∧ Below w1x.heap.size w1x W) (first | assumption | exact HT.out _ _ (by assumption) ((Below.refl _ _).alloc (Nat.le_refl _) _) | exact HST.out _ _ _ (by assumption) (by first | (have h1 := hS3.2.2.size; omega) | (have h1 := hS4.2.2.size; omega) | (show _ ≤ w1x.heap.size; omega)) | exact HST.out _ _ _ (HT.out _ _ (by assumption) ((Below.refl _ _).alloc (Nat.le_refl _) _)) (by first | (have h1 := hS3.2.2.size; omega) | (have h1 := hS4.2.2.size; omega) | (show _ ≤ w1x.heap.size; omega)))
        (first
          | (go_at_call 127; refine (HO1.out _ (by assumption)).mono ?_; rintro e W3 ⟨rfl, hb3⟩; have hS3 := HT.out _ _ (by assumption) hb3; (first | (with_reducible have hn3 := new_cell _ _ _ _ _ rfl hb3; obtain ⟨hn3, hf3⟩ := hn3) | (with_reducible have hn3 := new_cell_d _ _ _ _ _ rfl hb3; obtain ⟨hn3, hf3⟩ := hn3) | skip))
          | (go_at_call 128; refine (HI1.out _ (by assumption)).mono ?_; rintro e W4 ⟨rfl, hb4⟩; have hS4 := HT.out _ _ (by assumption) hb4; (first | (with_reducible have hn4 := new_cell _ _ _ _ _ rfl hb4; obtain ⟨hn4, hf4⟩ := hn4) | (with_reducible have hn4 := keep_cell hb4 ⟨hn3, hf3⟩; obtain ⟨hn4, hf4⟩ := hn4) | skip)))
      all_goals go_wp2
      all_goals go_meet
      all_goals have q3 : w1x.heap.size ≤ W3.heap.size := hS3.2.2.size
      all_goals have q4 : w1x.heap.size ≤ W4.heap.size := hS4.2.2.size
      all_goals first
        | exact meet_new hS4.2.2 (.inl ⟨hx, rfl⟩)
        | exact meet_set q3 hn4 hS4.2.2 (.inl ⟨hx, rfl⟩)
        | exact meet_set (Nat.le_refl _) hn4 hS4.2.2 (.inl ⟨hx, rfl⟩)
  case rest =>
    obtain ⟨b, rfl, hb0, hbl, hset, hbw⟩ := hcut
    have hcw : c < wc.heap.size := Nat.lt_of_lt_of_le (by have := HS1.out; omega) hbw.size
    obtain ⟨u, hu, hcu⟩ : ∃ u, wc.cell? ⟨b, 0, none⟩ = some (.pointer u) ∧ ((X = 0 ∧ u = none) ∨ (X ≠ 0 ∧ ∃ g2 o2, u = some ⟨g2, o2, none⟩ ∧ w1x.heap.size ≤ g2 ∧ g2 < wc.heap.size ∧ WordsAt wc g2 o2 (w1 X))) := by
      rcases hset with ⟨h1, h2⟩ | ⟨h1, g2, o2, h2, h3⟩
      · exact ⟨_, h2, .inl ⟨h1, rfl⟩⟩
      · exact ⟨_, h2, .inr ⟨h1, g2, o2, rfl, h3⟩⟩
    have hvb : ∀ q, (Value.slice vA k vc).ownBlock = some q → q < w.heap.size := fun q hq => (HOWN.out.lt q hq).2
    have hbc : b ≠ c := by have := HS1.out; omega
    have hvne : (Value.slice vA k vc).ownBlock ≠ some b := fun e => by have := hvb _ e; have := HS1.out; omega
    have hA0 : AF c p w.heap.size b (.pointer (some ⟨g, o, none⟩)) (.slice vA k vc) (.int .i64 z) (.slice A n cc) (.pointer u) wc wc := by
      have hl1 : c < w1x.heap.size := by have := HS1.out; omega
      have hl2 : w.heap.size < w1x.heap.size := by have := HS1.out; omega
      refine ⟨?_, ?_, ?_, ?_, hu, ?_, ?_, Below.refl _ _⟩
      · rw [hbw.cell (p := ⟨c, p + 1, none⟩) hl1]; exact d1
      · rw [hbw.cell (p := ⟨c, p + 2, none⟩) hl1]; exact d2
      · rw [hbw.cell (p := ⟨w.heap.size, 0, none⟩) hl2]; exact e0
      · rw [hbw.cell (p := ⟨w.heap.size, 1, none⟩) hl2]; exact e1
      · rw [hbw.frozen (p := ⟨c, p + 1, none⟩) hl1, hb1.frozen (p := ⟨c, p + 1, none⟩) hcs]; exact hf1
      · rw [hbw.frozen (p := ⟨c, p + 2, none⟩) hl1, hb1.frozen (p := ⟨c, p + 2, none⟩) hcs]; exact hf2
    have hX5 : X < 512 := by rw [HXX.out]; exact andN_le ha _
    have HCS := Lib.hid (show ∀ W, AF c p w.heap.size b (.pointer (some ⟨g, o, none⟩)) (.slice vA k vc) (.int .i64 z) (.slice A n cc) (.pointer u) wc W → Calls Tryz.prog 155 #[.agg #[.int .i64 z, .slice A n cc]] W (SrcRet W) from fun W h =>
      copySource_is z A n cc l W HN.out (HSI.out.below (hb1.trans ((hbw.trans (h.bel.mono hbw.size)).mono hb1.size))) (by omega) HAN.out)
    have hOW : wc.ownsRow B 287 3 (.slice vA k vc) k xs := own_below HOWN.out (hb1.trans (hbw.mono hb1.size))
    have HOW := Lib.hid hOW
    obtain ⟨i0, hi, hz0, hz1, hz2⟩ := info_parts info287
    have HB0 := Lib.hid (show B ≤ wc.heap.size from Nat.le_trans hB (Nat.le_trans hb1.size hbw.size))
    have HLEN := Lib.hid (show ∃ L : Int, (L > 0 ↔ X ≠ 0) ∧ Calls Tryz.prog 35 #[.agg #[.pointer u]] wc (Gives (.int .i64 L) wc) from by
      have h2 : 2 ≤ wc.heap.size := by have := HB0.out; omega
      rcases hcu with ⟨h1, rfl⟩ | ⟨h1, g2, o2, rfl, _, _, h5⟩
      · exact ⟨0, by simp [h1], len_nil wc h2⟩
      · refine ⟨pop9 X, ?_, len_is wc g2 o2 X h2 hX5 h5⟩
        have := pop9_pos h1 hX5
        simp [h1]
        omega)
    obtain ⟨L, hL, hlen⟩ := HLEN.out
    have HL := Lib.hid hL
    clear hL
    have HLEN := Lib.hid hlen
    have HHW := Lib.hid (show WordsAt wc g o (w1 a) from (HW0.out.below hb1).below hbw)
    clear hlen hset hOW d1 d2 e0 e1 hc1 hc2 hf1 hf2
    obtain ⟨qx, hqx⟩ : ∃ qx : Bool, decide (0 < L) = qx := ⟨_, rfl⟩
    have HCU := Lib.hid hcu
    clear hcu
    have hu0 := hA0.u
    have HA0 := Lib.hid hA0
    clear hA0
    go_wp2_with (go_at_call 35; go_loud (refine HLEN.out.mono ?_; rintro e W6 ⟨rfl, hb6⟩))
    try rw [hqx]
    have hA6 := HA0.out.below hb6
    have a1 := hA6.n
    have a2 := hA6.s
    have a3 := hA6.x0
    have a4 := hA6.x1
    have HAD := Lib.hid (hA6.below (Below.refl _ _).drew)
    clear hA6
    go_cut [] from 39 to 51 (fun W => ∃ S', AG c p b B (k + 1) (.pointer (some ⟨g, o, none⟩)) (.slice vA k vc) S' (.pointer u) wc W)
    case first =>
      go_region_law (first
        | (refine step_append_fresh rfl (.tmp 43) (.tmp 48) 278 rfl B 287 i0 _ 3 40 Tryz.underlying278 hi hz0 hz1 hz2 rfl (by decide) _ _ _ rfl (own_below HOW.out (HA7.out.bel.alloc HA7.out.bel.size _)) ⟨W7.heap.size, 0, none⟩ 1 1 [.int .i64 z', .slice A' n' c', .bool qx] rfl rfl (row3 W7 _ _ _ 287) (by intro y hy; simp at hy; rcases hy with rfl | rfl | rfl <;> rfl) (by unfold maxLen; omega) (by omega) (by have h1 := HB0.out; have h2 := HA7.out.bel.size; simp; omega) ?_; intro v' W9 hown' hgrow hfr; obtain ⟨vA', vc', rfl⟩ := ownsRow_slice hown'; have h9 := (HA7.out.below ((Below.refl _ _).alloc (Nat.le_refl _) (.cells #[.int .i64 z', .slice A' n' c', .bool qx] 287))).grow hgrow hv1; obtain ⟨k9, f9⟩ := h9)
        | (go_simp; go_at_call 155; refine (HCS.out _ HAD.out).mono ?_; rintro e W7 ⟨z', A', n', c', rfl, hb7⟩; have hA7 := HAD.out.below hb7; have b2 := hA7.s; have b3 := (hA7.below ((Below.refl _ _).alloc (Nat.le_refl _) (.cells #[.int .i64 z', .slice A' n' c', .bool qx] 287))).s; have HA7 := Lib.hid hA7; clear hA7))
      all_goals go_wp2
      all_goals go_meet
      all_goals exact ⟨_, AF.stored (HA7.out.below ((Below.refl _ _).alloc (Nat.le_refl _) (.cells #[.int .i64 z', .slice A' n' c', .bool qx] 287))) hgrow hv1 hvne hbc hcw hown' hfr⟩
    case rest =>
      obtain ⟨S', hG⟩ := hcut
      have g1 := hG.n
      have g2' := hG.u
      have g3 := hG.fn
      have HG := Lib.hid hG
      clear hG
      have hBS : ∀ q, (Value.slice vA k vc).ownBlock = some q → B ≤ q := fun q hq => (HOWN.out.lt q hq).1
      have hBW := (hb1.trans (hbw.mono hb1.size)).mono hB
      by_cases hx : X = 0
      · obtain rfl : qx = false := by rw [← hqx]; exact decide_eq_false (fun h => (HL.out.1 h) hx)
        go_wp2
        go_quiet (fail)
        go_wp2
        refine bodyPost_ret (v := .tuple #[.bool false, .int .i64 0]) (by simp [results, Tryz.results78, go_sem]) rfl ⟨⟨_, _, rfl⟩, ?_, ?_⟩
        · exact (HG.out.bel hBW HB0.out hBc hBS).trans ⟨rfl, rfl, rfl, Nat.le_refl _, fun _ _ => rfl⟩
        · rw [HR.out, if_pos hx]
          exact (HG.out.est hBc hcw hBg hgc HHW.out hv1 hv2).below ⟨rfl, rfl, rfl, Nat.le_refl _, fun _ _ => rfl⟩
      · obtain rfl : qx = true := by rw [← hqx]; exact decide_eq_true (HL.out.2 hx)
        rcases HCU.out with ⟨h1, _⟩ | ⟨_, g2, o2, rfl, hg2, hg2w, hw2⟩
        · exact absurd h1 hx
        · have hg2S : (Value.slice vA k vc).ownBlock ≠ some g2 := fun e => by have := hvb _ e; have := HS1.out; omega
          have hg2c : g2 ≠ c := by have := HS1.out; omega
          have HEQ := Lib.hid (fun (W : World) (hW : Below wc.heap.size wc W) => equal_is W g2 o2 g o X a (by have := hW.size; have := HG.out.size; have := HB0.out; omega) (by have := HW0.out.2.1; have := HS1.out; omega) ((HG.out.words hw2 hg2c hg2S).below hW) ((HG.out.words HHW.out hgc hv2).below hW))
          have hcW : c < wc.heap.size := World.block_lt_of_cell? _ _ g1
          go_wp2
          by_cases hxa : X = a
          · have hq : (X == a) = true := by simp [hxa]
            go_region_with (go_at_call 156; refine (HEQ.out _ (Below.refl _ _).drew).mono ?_; rintro e W8 ⟨he, hb8⟩; rw [hq] at he; subst he)
            all_goals go_wp2
            all_goals refine bodyPost_ret (v := .tuple #[.bool false, .int .i64 0]) (by simp [results, Tryz.results78, go_sem]) rfl ⟨⟨_, _, rfl⟩, ?_, ?_⟩
            all_goals have hb9 : Below wc.heap.size wc W8 := (Below.refl _ _).drew.trans (hb8.mono (Nat.le_refl _))
            all_goals first
              | exact (HG.out.bel hBW HB0.out hBc hBS).trans (hb9.mono (Nat.le_trans HB0.out HG.out.size))
              | (rw [HR.out, if_neg hx, hxa]; exact (HG.out.est hBc hcw hBg hgc HHW.out hv1 hv2).below hb9)
          · have hq : (X == a) = false := by simp [hxa]
            go_region_with (go_at_call 156; refine (HEQ.out _ (Below.refl _ _).drew).mono ?_; rintro e W8 ⟨he, hb8⟩; rw [hq] at he; subst he; have hb9 : Below wc.heap.size wc W8 := (Below.refl _ _).drew.trans (hb8.mono (Nat.le_refl _)); have j1 : W8.cell? ⟨c, p + 1, none⟩ = _ := hb9.cell hcW; have j2 : W8.frozen? ⟨c, p + 1, none⟩ = _ := hb9.frozen hcW; rw [g1] at j1; rw [g3] at j2; have j3 : W8.cell? ⟨b, 0, none⟩ = _ := hb9.cell (World.block_lt_of_cell? _ _ g2'); rw [g2'] at j3)
            all_goals go_wp2
            all_goals refine bodyPost_ret (v := .tuple #[.bool true, .int .i64 0]) (by simp [results, Tryz.results78, go_sem]) rfl ⟨⟨_, _, rfl⟩, ?_, ?_⟩
            all_goals first
              | exact ((HG.out.bel hBW HB0.out hBc hBS).trans (hb9.mono (Nat.le_trans HB0.out HG.out.size))).setCell (p := ⟨c, p + 1, none⟩) hBc _
              | (rw [HR.out, if_neg hx]; exact HG.out.est2 hb9 hBc hcw (by have := HS1.out; omega) hg2c hw2 hv1 hg2S)
end Go.Proofs.YtnfmgkkhejminaaGreatDoor

namespace Go.Proofs.YtnfmgkkhejminaaGreatDoor
open Go Go.RowKit Wi
def AddNo (w : World) (e : Ending) (w' : World) : Prop := (∃ q z, e = .returned (.tuple #[.bool q, .int .i64 z])) ∧ Below w.heap.size w w'
set_option maxHeartbeats 4000000 in
set_option maxRecDepth 100000 in
theorem add_low (c p : Nat) (z : Int) (A : Option Addr) (n cc : Nat) (w : World) (h : z < 1) : Calls Tryz.prog 78 #[.pointer (some ⟨c, p, none⟩), .agg #[.int .i64 z, .slice A n cc]] w (AddNo w) := by
  go_enter Tryz.func78, Tryz.ntmps78
  go_wp2
  refine bodyPost_ret (v := .tuple #[.bool false, .int .i64 1]) (by simp [results, Tryz.results78, go_sem]) rfl ⟨⟨_, _, rfl⟩, (Below.refl _ _).alloc (Nat.le_refl _) _⟩
set_option maxHeartbeats 4000000 in
set_option maxRecDepth 100000 in
theorem add_high (c p : Nat) (z : Int) (A : Option Addr) (n cc : Nat) (w : World) (h0 : 1 ≤ z) (h : 9 < z) : Calls Tryz.prog 78 #[.pointer (some ⟨c, p, none⟩), .agg #[.int .i64 z, .slice A n cc]] w (AddNo w) := by
  go_enter Tryz.func78, Tryz.ntmps78
  go_wp2
  refine bodyPost_ret (v := .tuple #[.bool false, .int .i64 1]) (by simp [results, Tryz.results78, go_sem]) rfl ⟨⟨_, _, rfl⟩, (Below.refl _ _).alloc (Nat.le_refl _) _⟩
set_option maxHeartbeats 4000000 in
set_option maxRecDepth 100000 in
theorem add_full (B c p a k : Nat) (z : Int) (A : Option Addr) (n cc : Nat) (w : World) (hE : EstAt B w c p a k) (h0 : 1 ≤ z) (h9 : z ≤ 9) (hn : (n : Int) ≤ 4096) (hk : (64 : Int) ≤ k) : Calls Tryz.prog 78 #[.pointer (some ⟨c, p, none⟩), .agg #[.int .i64 z, .slice A n cc]] w (AddNo w) := by
  obtain ⟨g, o, v, xs, hBc, hcs, hc1, hc2, hf1, hf2, hW, hgc, hBg, hown, hv1, hv2⟩ := hE
  obtain ⟨vA, vc, rfl⟩ := ownsRow_slice hown
  clear hown hW hv1 hv2
  go_enter Tryz.func78, Tryz.ntmps78
  go_wp2
  refine bodyPost_ret (v := .tuple #[.bool false, .int .i64 3]) (by simp [results, Tryz.results78, go_sem]) rfl ⟨⟨_, _, rfl⟩, (Below.refl _ _).alloc (Nat.le_refl _) _⟩
end Go.Proofs.YtnfmgkkhejminaaGreatDoor

namespace Go.Proofs.YtnfmgkkhejminaaGreatDoor
open Go Go.RowKit Wi
/-- what a source makes of an estimate: its nodes, and how many sources it has -/
def stepS (s : Nat × Nat) (x : Int × List Int) : Nat × Nat :=
  if x.1 < 1 ∨ 9 < x.1 then s else if 64 ≤ s.2 then s else (if andN s.1 ((ofL x.2).getD 0 0) = 0 then s.1 else andN s.1 ((ofL x.2).getD 0 0), s.2 + 1)
def locS (L : List (Int × List Int)) : Nat × Nat := L.foldl stepS (511, 0)
theorem stepS_ok {s : Nat × Nat} {x : Int × List Int} (h : s.1 ≠ 0 ∧ s.1 < 512) : (stepS s x).1 ≠ 0 ∧ (stepS s x).1 < 512 := by
  unfold stepS
  split
  · exact h
  · split
    · exact h
    · split
      · exact h
      · rename_i h1
        exact ⟨h1, andN_le h.2 _⟩
theorem locS_ok : ∀ (L : List (Int × List Int)) (s : Nat × Nat), s.1 ≠ 0 ∧ s.1 < 512 → (L.foldl stepS s).1 ≠ 0 ∧ (L.foldl stepS s).1 < 512
  | [], _, h => h
  | x :: L, s, h => locS_ok L (stepS s x) (stepS_ok h)
theorem locS_bound (L : List (Int × List Int)) : (locS L).1 ≠ 0 ∧ (locS L).1 < 512 := locS_ok L _ (by decide)
/-- a row of sources, with their nodes -/
def Srcs (w : World) (A0 : Option Addr) (L : List (Int × List Int)) : Prop := ∀ k x, L[k]? = some x → ∃ b off B cc, A0 = some ⟨b, off, none⟩ ∧ b < w.heap.size ∧ w.cell? ⟨b, off + k * 2, none⟩ = some (.int .i64 x.1) ∧ w.cell? ⟨b, off + k * 2 + 1, none⟩ = some (.slice B x.2.length cc) ∧ IntsIn w B x.2 ∧ (B = none → x.2.length = 0 ∧ cc = 0)
theorem Srcs.below {w W : World} {A0 : Option Addr} {L : List (Int × List Int)} (h : Srcs w A0 L) (hb : Below w.heap.size w W) : Srcs W A0 L := fun k x hk => by
  obtain ⟨b, off, B, cc, h1, h2, h3, h4, h5, h6⟩ := h k x hk
  exact ⟨b, off, B, cc, h1, Nat.lt_of_lt_of_le h2 hb.size, by rw [hb.cell (p := ⟨b, off + k * 2, none⟩) h2]; exact h3, by rw [hb.cell (p := ⟨b, off + k * 2 + 1, none⟩) h2]; exact h4, h5.below hb, h6⟩
theorem add_any (B c p : Nat) (s : Nat × Nat) (x : Int × List Int) (A : Option Addr) (cc : Nat) (w : World) (hB : B ≤ w.heap.size) (h2B : 2 ≤ B) (ha : s.1 < 512) (hE : EstAt B w c p s.1 s.2) (hn4 : (x.2.length : Int) ≤ 4096) (hS : IntsIn w A x.2) (hA : A = none → x.2.length = 0 ∧ cc = 0) :
    Calls Tryz.prog 78 #[.pointer (some ⟨c, p, none⟩), .agg #[.int .i64 x.1, .slice A x.2.length cc]] w (AddRet B w c p (stepS s x).1 (stepS s x).2) := by
  have keep : ∀ e w', AddNo w e w' → AddRet B w c p s.1 s.2 e w' := fun e w' h => ⟨h.1, h.2.mono hB, hE.below h.2⟩
  unfold stepS
  by_cases h1 : x.1 < 1
  · rw [if_pos (.inl h1)]
    exact (add_low c p x.1 A _ cc w h1).mono keep
  · by_cases h2 : 9 < x.1
    · rw [if_pos (.inr h2)]
      exact (add_high c p x.1 A _ cc w (by omega) h2).mono keep
    · rw [if_neg (by omega)]
      by_cases h3 : 64 ≤ s.2
      · rw [if_pos h3]
        exact (add_full B c p s.1 s.2 x.1 A _ cc w hE (by omega) (by omega) hn4 (by omega)).mono keep
      · rw [if_neg h3]
        exact add_good B c p s.1 s.2 x.1 A _ cc x.2 w hB h2B ha hE (by omega) (by omega) hn4 (by omega) rfl hS hA
set_option maxHeartbeats 4000000 in
set_option maxRecDepth 100000 in
theorem nodes_is (c p g o : Nat) (w : World) (h : w.cell? ⟨c, p + 1, none⟩ = some (.pointer (some ⟨g, o, none⟩))) : Calls Tryz.prog 79 #[.pointer (some ⟨c, p, none⟩)] w (Gives (.agg #[.pointer (some ⟨g, o, none⟩)]) w) := by
  have h' : (w.alloc (.cells #[.pointer none] 98)).cell? ⟨c, p + 1, none⟩ = some (.pointer (some ⟨g, o, none⟩)) := by
    rw [World.cell?_alloc_past _ _ _ (World.block_lt_of_cell? _ _ h)]
    exact h
  go_enter Tryz.func79, Tryz.ntmps79
  go_wp2
  refine bodyPost_ret (v := .agg #[.pointer (some ⟨g, o, none⟩)]) (by simp [results, Tryz.results79, go_sem]) rfl ⟨rfl, ?_⟩
  first
    | exact (Below.refl _ _).alloc (Nat.le_refl _) _
    | exact ((Below.refl _ _).alloc (Nat.le_refl _) _).setCell (Nat.le_refl _) _
def LocRet (x : Nat) (w : World) (e : Ending) (w' : World) : Prop := ∃ g o, e = .returned (.agg #[.pointer (some ⟨g, o, none⟩)]) ∧ w.heap.size ≤ g ∧ WordsAt w' g o (w1 x) ∧ Below w.heap.size w w'
set_option maxHeartbeats 4000000 in
set_option maxRecDepth 100000 in
theorem locate_is (d dp N C : Nat) (A0 : Option Addr) (L : List (Int × List Int)) (w : World) (h2 : 2 ≤ w.heap.size) (hN : N = L.length) (hmax : N ≤ 1000) (hS : Srcs w A0 L) (h4 : ∀ x ∈ L, (x.2.length : Int) ≤ 4096) (hd : w.cell? ⟨d, dp + 2, none⟩ = some (.int .i64 9)) : Calls Tryz.prog 31 #[.pointer (some ⟨d, dp, none⟩), .slice A0 N C] w (LocRet (locS L).1 w) := by
  have HS := Lib.hid hS
  have HN := Lib.hid hN
  have H4 := Lib.hid h4
  have HALL := Lib.hid (fun W (h : 2 ≤ W.heap.size) => all_is W h)
  have HNEW := Lib.hid (fun W g o (h : 2 ≤ W.heap.size) hv => new_is W g o h hv)
  obtain ⟨wA, hwA⟩ : ∃ W, W = w.alloc (.cells #[.pointer none] 98) := ⟨_, rfl⟩
  have hbA : Below w.heap.size w wA := by rw [hwA]; exact (Below.refl _ _).alloc (Nat.le_refl _) _
  have HSA := Lib.hid (show wA.heap.size = w.heap.size + 1 by rw [hwA]; simp)
  have HCA := Lib.hid (show wA.cell? ⟨w.heap.size, 0, none⟩ = some (.pointer none) ∧ wA.frozen? ⟨w.heap.size, 0, none⟩ = false by rw [hwA]; simp)
  have hdA : wA.cell? ⟨d, dp + 2, none⟩ = some (.int .i64 9) := by rw [hbA.cell (World.block_lt_of_cell? _ _ hd)]; exact hd
  have HBA := Lib.hid hbA
  have HWA := Lib.hid hwA
  rw [hwA] at hdA
  clear hS hN h4 hbA hwA
  go_enter Tryz.func31, Tryz.ntmps31
  go_wp2_with (first
    | (go_at_call 77; go_loud (rw [← HWA.out]; refine (HALL.out wA (by have := HSA.out; omega)).mono ?_; rintro e W1 ⟨g, o, rfl, hg, hv, hb1⟩; have HV := Lib.hid hv; have HG := Lib.hid hg; have HB1 := Lib.hid hb1; clear hv hg hb1))
    | (go_at_call 76; go_loud (refine (HNEW.out _ g o (by have := HSA.out; have := HB1.out.size; omega) HV.out).mono ?_; rintro e W2 hE; obtain ⟨c, p, rfl, hc, hcs, n0, n1, n2, hfz, hb2⟩ := hE; have HE := Lib.hid (show W1.heap.size ≤ c ∧ c < W2.heap.size ∧ W2.cell? ⟨c, p + 1, none⟩ = some (.pointer (some ⟨g, o, none⟩)) ∧ W2.cell? ⟨c, p + 2, none⟩ = some (.slice none 0 0) ∧ W2.frozen? ⟨c, p + 1, none⟩ = false ∧ W2.frozen? ⟨c, p + 2, none⟩ = false ∧ Below W1.heap.size W1 W2 from ⟨hc, hcs, n1, n2, hfz 1 (by omega), hfz 2 (by omega), hb2⟩); clear hc hcs n0 n1 n2 hfz hb2)))
  have HI := Lib.hid (show EstAt (w.heap.size + 1) W2 c p 511 0 ∧ Below w.heap.size w W2 ∧ W2.cell? ⟨w.heap.size, 0, none⟩ = some (.pointer none) ∧ W2.frozen? ⟨w.heap.size, 0, none⟩ = false from by
    obtain ⟨hc, hcs, n1, n2, f1, f2, hb2⟩ := HE.out
    have hsA := HSA.out
    have hg := HG.out
    have hs1 := HB1.out.size
    have hg1 := HV.out.2.1
    have hA2 : Below wA.heap.size wA W2 := HB1.out.trans (hb2.mono hs1)
    have hrA : w.heap.size < wA.heap.size := by omega
    refine ⟨⟨g, o, .slice none 0 0, [], by omega, hcs, n1, n2, f1, f2, HV.out.below hb2, by omega, by omega, World.ownsRow_nil _ _ _ _, by simp [Value.ownBlock], by simp [Value.ownBlock]⟩, HBA.out.trans (hA2.mono (by omega)), ?_, ?_⟩
    · rw [hA2.cell (p := ⟨w.heap.size, 0, none⟩) hrA]; exact HCA.out.1
    · rw [hA2.frozen (p := ⟨w.heap.size, 0, none⟩) hrA]; exact HCA.out.2)
  clear HE HV HG HB1 HALL HNEW
  go_loopw [27] (fun i wr => ∃ k : Nat, k ≤ N ∧ i = .int .i64 k ∧ EstAt (w.heap.size + 1) wr c p (locS (L.take k)).1 (locS (L.take k)).2 ∧ Below w.heap.size w wr ∧ wr.cell? ⟨w.heap.size, 0, none⟩ = some (.pointer none) ∧ wr.frozen? ⟨w.heap.size, 0, none⟩ = false) (fun i _ => N - (intOf i).toNat)
  case atStart => exact ⟨0, Nat.zero_le _, rfl, HI.out⟩
  case round =>
    obtain ⟨k, hk, rfl, hE, hb, hc, hf⟩ := hrel
    have hrw : w.heap.size < wr.heap.size := World.block_lt_of_cell? _ _ hc
    by_cases hlt : k < N
    · have hkl : k < L.length := by rw [← HN.out]; exact hlt
      obtain ⟨x, hx⟩ : ∃ x, L[k]? = some x := ⟨L[k], List.getElem?_eq_getElem hkl⟩
      obtain ⟨b, off, B, cc, rfl, hbs, hc0, hc1, hS, hA⟩ := HS.out k x hx
      have hki : (k : Int) < N := by omega
      have k0 : wr.cell? ⟨b, off + k * 2, none⟩ = some (.int .i64 x.1) := by rw [hb.cell (p := ⟨b, off + k * 2, none⟩) hbs]; exact hc0
      have k1 : wr.cell? ⟨b, off + k * 2 + 1, none⟩ = some (.slice B x.2.length cc) := by rw [hb.cell (p := ⟨b, off + k * 2 + 1, none⟩) hbs]; exact hc1
      have HT := Lib.hid (show locS (L.take (k + 1)) = stepS (locS (L.take k)) x by
        unfold locS
        rw [List.take_succ_eq_append_getElem hkl, List.foldl_append]
        have : L[k] = x := (List.getElem?_eq_some_iff.1 hx).2
        simp [this])
      have HAD := Lib.hid (show ∀ W, Below wr.heap.size wr W → w.heap.size + 1 ≤ W.heap.size → Calls Tryz.prog 78 #[.pointer (some ⟨c, p, none⟩), .agg #[.int .i64 x.1, .slice B x.2.length cc]] W (AddRet (w.heap.size + 1) W c p (stepS (locS (L.take k)) x).1 (stepS (locS (L.take k)) x).2) from fun W hW hsW =>
        add_any (w.heap.size + 1) c p (locS (L.take k)) x B cc W hsW (by omega) (locS_bound _).2 (hE.below hW) (H4.out x (List.mem_of_getElem? hx)) ((hS.below hb).below hW) hA)
      obtain ⟨z, l⟩ := x
      simp only at k0 k1
      obtain ⟨n, hn⟩ : ∃ n, n = l.length := ⟨_, rfl⟩
      simp only [← hn] at HAD k1
      clear hx hc0 hc1 hS hA hkl hE hn
      have hbW : ∀ o : Obj, Below wr.heap.size wr (wr.alloc o) := fun o => (Below.refl _ _).alloc (Nat.le_refl _) o
      have HBW := Lib.hid hbW
      clear hbW
      go_wp2_with (go_at_call 78; go_loud (refine (HAD.out _ (HBW.out _) (by simp; omega)).mono ?_; rintro e W3 ⟨⟨q, zz, rfl⟩, hb3, hE3⟩; have HE3 := Lib.hid hE3; have HB3 := Lib.hid hb3; clear hE3 hb3))
      go_roundw
      case rel =>
        have hb4 : Below (w.heap.size + 1) wr W3 := ((HBW.out _).mono (by omega)).trans HB3.out
        refine ⟨k + 1, by omega, by go_num, by rw [HT.out]; exact HE3.out, hb.trans (hb4.mono (by omega)), ?_, ?_⟩
        · rw [hb4.cell (p := ⟨w.heap.size, 0, none⟩) (by show w.heap.size < _; omega)]; exact hc
        · rw [hb4.frozen (p := ⟨w.heap.size, 0, none⟩) (by show w.heap.size < _; omega)]; exact hf
      case measure => simp [intOf]; omega
    · have hkn : k = N := by omega
      have hnot : ¬ ((k : Int) < N) := by omega
      have HT : Hid (L.take k = L) := Lib.hid (by rw [List.take_of_length_le (by rw [← HN.out]; omega)])
      rw [HT.out] at hE
      obtain ⟨g2, o2, v, xs, hBc, hcs, n1, n2, f1, f2, hW, hgc, hBg, _⟩ := hE
      have HW := Lib.hid hW
      clear hW n2 f1 f2
      have HNO := Lib.hid (nodes_is c p g2 o2 wr n1)
      clear n1
      go_wp2_with (go_at_call 79; go_loud (refine HNO.out.mono ?_; rintro e W4 ⟨rfl, hb4⟩; have k0 : W4.cell? ⟨w.heap.size, 0, none⟩ = _ := hb4.cell hrw; have k1 : W4.frozen? ⟨w.heap.size, 0, none⟩ = _ := hb4.frozen hrw; rw [hc] at k0; rw [hf] at k1))
      refine bodyPost_ret (v := .agg #[.pointer (some ⟨g2, o2, none⟩)]) (by simp [results, Tryz.results31, go_sem, k0]) rfl ⟨g2, o2, rfl, by omega, ?_, ?_⟩
      · exact (HW.out.below hb4).set (by omega) _
      · exact (hb.trans (hb4.mono (by omega))).setCell (p := ⟨w.heap.size, 0, none⟩) (Nat.le_refl _) _
end Go.Proofs.YtnfmgkkhejminaaGreatDoor
