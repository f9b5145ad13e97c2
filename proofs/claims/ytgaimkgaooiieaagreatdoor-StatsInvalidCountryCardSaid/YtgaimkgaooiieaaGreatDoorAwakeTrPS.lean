/-
  What samaritanref55.Calls answers: as many calls as there are.
  What samaritanref55.Agreed answers: as many lines as there are numbers of applied entries.
  A whole record into a variable that is known; what samaritanref55.Waits answers where no call was served: an empty list.
  What samaritanref55.Of answers where no call was served: the counts.
-/
import Derived.Test.YtgaimkgaooiieaaGreatDoorAwakeTrKO
import Derived.Test.YtgaimkgaooiieaaGreatDoorAwakeCfgE
import Derived.Deep.RegionLaw
import Derived.Deep.QuietTactic
import Derived.BigQuiet
import Derived.Laws.Tables
import Derived.Deep.Heap
import Derived.Laws.Rows
import Derived.Deep.RegionHeld3
namespace Go.Proofs.YtgaimkgaooiieaaGreatDoor
open Go Go.RowKit

theorem own_same {W W' : World} {B T S n : Nat} {v : Value} {xs : List Value} (h : W.ownsRow B T S v n xs) (e : W'.heap = W.heap) : W'.ownsRow B T S v n xs := by
  refine ⟨h.1, ?_⟩
  rcases h.2 with h0 | ⟨g, cap, cur, hv, hg, hh, rest⟩
  · exact .inl h0
  · exact .inr ⟨g, cap, cur, hv, hg, by rw [e]; exact hh, rest⟩
theorem heap_drewN : ∀ (n : Nat) (W : World), (W.drewN n).heap = W.heap := fun n W => by
  rcases n with _ | n <;> rfl
theorem cell_drewN (n : Nat) (W : World) (a : Addr) (_h : a.spot = none) : (W.drewN n).cell? a = W.cell? a := by
  exact World.cell?_of_block (w := W) (by rw [heap_drewN])
/-- append to a row that the call owns, as one step of a region that draws its order -/
theorem step_append_own {P : Program} {ops : Array Oper} {o : Oper} {a : Act} {w : World} {K : Act → World → Prop} {Q : Exit → Act → World → Prop} {E : Prop} (hg : o.guard = none) (s x : Operand) (t : TypeId)
    (ho : o.op = .call { callee := .builtin .append, args := #[s, x], argTypes := #[t, t] })
    (base : Nat) (e : TypeId) (i : TypeInfo) (z : Value) (size bytes : Nat) (ht : P.underlying t = some (.slice e)) (hi : P.info? e = some i) (hz : i.zero = some z)
    (hsize : i.size = size) (hby : i.bytes = bytes) (hzs : z.cells.size = size) (hsz : 0 < size)
    (v : Value) (n : Nat) (xs : List Value) (hs : a.eval s = v) (hown : w.ownsRow base e size v n xs)
    (ad : Addr) (m c : Nat) (news : List Value) (hx : a.eval x = .slice (some ad) m c) (hl : news.length = m * size) (hnews : ∀ j u, news[j]? = some u → w.cell? (ad.add j) = some u) (h1 : ∀ u ∈ news, u.oneCell' = true)
    (h63 : n + m ≤ maxLen) (hbytes : (n + m) * bytes ≤ 140737488355328) (hbase : base ≤ w.heap.size)
    (h : ∀ v' w', w'.ownsRow base e size v' (n + m) (xs ++ news) → w.grownBy w' v.ownBlock → K (a.put o.dst v') w') : if Region.wanted o (yielded ops a.tmps) = true then Oper.wp P o a w K Q else E := by
  rw [if_pos (by simp [Region.wanted, hg])]
  exact wp_append_own w s x t ho base e i z size bytes ht hi hz hsize hby hzs hsz v n xs hs hown ad m c news hx hl hnews h1 h63 hbytes hbase fun v' w' h2 h3 _ => h v' w' h2 h3
def refCells (C : List CallD) : List Value := C.flatMap fun c => [.int .i64 c.call, .int .i64 c.tick, .int .i64 c.who]
theorem refCells_snoc (C : List CallD) (c : CallD) : refCells (C ++ [c]) = refCells C ++ [.int .i64 c.call, .int .i64 c.tick, .int .i64 c.who] := by
  simp [refCells]
theorem refCells_at : ∀ (C : List CallD) (k : Nat) (c : CallD), C[k]? = some c → (refCells C)[k * 3]? = some (.int .i64 c.call)
  | [], _, _, h => by simp at h
  | y :: C, 0, c, h => by
    simp at h
    subst h
    rfl
  | y :: C, k + 1, c, h => by
    have := refCells_at C k c (by simpa using h)
    have e0 : (k + 1) * 3 = k * 3 + 3 := by omega
    rw [e0]
    show (([_, _, _] : List Value) ++ refCells C)[k * 3 + 3]? = _
    rw [List.getElem?_append_right (by simp)]
    simpa using this
theorem own_at {W : World} {B : Nat} {v : Value} {C : List CallD} (h : W.ownsRow B 205 3 v C.length (refCells C)) {m : Nat} {y : CallD} (hy : C[m]? = some y) : ∃ g c, v = .slice (some ⟨g, 0, none⟩) C.length c ∧ W.cell? ⟨g, m * 3, none⟩ = some (.int .i64 y.call) := by
  rcases h.2 with ⟨rfl, h0⟩ | ⟨g, cap, cur, rfl, hg, hh, _⟩
  · have := (List.getElem?_eq_some_iff.1 hy).1; omega
  · have a0 := h.cells (g := g) rfl _ _ (refCells_at C m y hy)
    rw [Addr.add_mid, Nat.zero_add] at a0
    exact ⟨g, cap, rfl, a0⟩
theorem mem_take_succ {C : List CallD} {m : Nat} {y : CallD} {z : Int} (hy : C[m]? = some y) : (z ∈ (C.take (m + 1)).map (·.call)) ↔ (z ∈ (C.take m).map (·.call) ∨ z = y.call) := by
  rw [take_snoc hy, List.map_append, List.mem_append]
  simp
theorem info205 : (Tryz.prog.info? 205).map (fun i => (i.zero, i.size, i.bytes)) = some (some (.agg #[.int .i64 0, .int .i64 0, .int .i64 0]), 3, 24) := by kernel_rfl

set_option maxHeartbeats 4000000 in
set_option maxRecDepth 100000 in
theorem refCalls_any (A : Option Addr) (c : Nat) (L : List EvD) (w : World) (hL : TrAt w w.heap.size A L) (hlen : L.length ≤ 60) :
    Calls Tryz.prog 36 #[.slice A L.length c] w fun e w' => ∃ A' c', e = .returned (.slice A' (callK L L.length).length c') ∧ Below w.heap.size w w' := by
  obtain ⟨i0, hi, hz0, hz1, hz2⟩ := info_parts info205
  have HL := Lib.hid hL
  clear hL
  go_enter Tryz.func36, Tryz.ntmps36
  go_wp2
  go_loopw [3, 4] (fun v i wr => ∃ k : Nat, k ≤ L.length ∧ i = .int .i64 k ∧ wr.ownsRow w.heap.size 205 3 v (callK L k).length (refCells (callK L k)) ∧ Below w.heap.size w wr) (fun _ i _ => L.length - (intOf i).toNat)
  case atStart => exact ⟨0, Nat.zero_le _, rfl, ⟨rfl, .inl ⟨rfl, rfl⟩⟩, Below.refl _ _⟩
  case round =>
    obtain ⟨k, hk, rfl, hown, hb⟩ := hrel
    obtain ⟨A', c', rfl⟩ := shape_of hown
    by_cases hlt : k < L.length
    · obtain ⟨x, hx⟩ : ∃ x, L[k]? = some x := ⟨_, List.getElem?_eq_getElem hlt⟩
      obtain ⟨b, o, P, rfl, hbl, hr, hE⟩ := HL.out k x hx
      have HQ := Lib.hid (show ∀ W, Below w.heap.size w W → W.cell? ⟨b, o + k * 28, none⟩ = some (.int .i64 x.kind) ∧ W.cell? ⟨b, o + k * 28 + 1, none⟩ = some (.int .i64 x.tick) ∧ W.cell? ⟨b, o + k * 28 + 2, none⟩ = some (.int .i64 x.who) ∧ W.cell? ⟨b, o + k * 28 + 3, none⟩ = some (.int .i64 x.call) from fun W hW =>
        ⟨(hW.cell (p := ⟨b, o + k * 28, none⟩) hbl).trans (hr 0 _ rfl), (hW.cell (p := ⟨b, o + k * 28 + 1, none⟩) hbl).trans (hr 1 _ rfl), (hW.cell (p := ⟨b, o + k * 28 + 2, none⟩) hbl).trans (hr 2 _ rfl), (hW.cell (p := ⟨b, o + k * 28 + 3, none⟩) hbl).trans (hr 3 _ rfl)⟩)
      have HX := Lib.hid hx
      have HOW := Lib.hid hown
      have HB := Lib.hid hb
      have hkl := callK_len L k
      obtain ⟨C, hC⟩ : ∃ C, C = callK L k := ⟨_, rfl⟩
      have HC := Lib.hid hC
      rw [← hC] at HOW hkl ⊢
      clear hr hE hx hown hC hb
      obtain ⟨n, hn⟩ : ∃ n, n = C.length := ⟨_, rfl⟩
      have HN := Lib.hid hn
      rw [← hn] at hkl ⊢
      clear hn
      obtain ⟨wo, hwo⟩ : ∃ wo : World, wo = wr := ⟨_, rfl⟩
      have HWO := Lib.hid hwo
      clear hwo
      go_wp2
      go_loopw [5, 6] (fun tw j wi => ∃ m : Nat, m ≤ n ∧ j = .int .i64 m ∧ tw = .bool (decide (x.call ∈ (C.take m).map (·.call))) ∧ Hid (∃ q, wi = wo.drewN q)) (fun _ j _ => n - (intOf j).toNat)
      case atStart => exact ⟨0, Nat.zero_le _, rfl, by simp, Lib.hid ⟨0, HWO.out.symm⟩⟩
      case round =>
        obtain ⟨m, hm, rfl, rfl, HD⟩ := hrel
        by_cases hmn : m < n
        · obtain ⟨y, hy⟩ : ∃ y, C[m]? = some y := ⟨_, List.getElem?_eq_getElem (by rw [← HN.out]; exact hmn)⟩
          obtain ⟨g, c2, hv, hic⟩ := own_at HOW.out hy
          have HY := Lib.hid hy
          obtain ⟨yc, hyc⟩ : ∃ yc, yc = y.call := ⟨_, rfl⟩
          have HYC := Lib.hid hyc
          rw [← hyc] at hic
          have ic : wr.cell? ⟨g, m * 3, none⟩ = some (.int .i64 yc) := by
            obtain ⟨q, e⟩ := HD.out
            rw [e, HWO.out, cell_drewN _ _ _ rfl]
            exact hic
          obtain ⟨_, _, _, lc⟩ := HQ.out wr (by
            obtain ⟨q, e⟩ := HD.out
            rw [e, HWO.out]
            exact below_drewN HB.out)
          rw [← HN.out] at hv
          cases hv
          obtain ⟨v, hv⟩ : ∃ v, v = decide (x.call ∈ (C.take m).map (·.call)) := ⟨_, rfl⟩
          have HV := Lib.hid hv
          rw [← hv]
          obtain ⟨wj, hwj⟩ : ∃ wj : World, wj = wr := ⟨_, rfl⟩
          have HWJ := Lib.hid hwj
          clear hy hyc hic hv hwj
          by_cases he : yc = x.call
          · have HS := Lib.hid (show decide (x.call ∈ (C.take (m + 1)).map (·.call)) = true from decide_eq_true ((mem_take_succ HY.out).2 (.inr (by rw [← HYC.out, he]))))
            rw [he] at ic
            clear he
            go_wp2
            go_quiet (fail)
            go_wp2
            go_roundw
            case rel =>
              refine ⟨m + 1, by omega, by go_num, by rw [HS.out], Lib.hid ?_⟩
              obtain ⟨q, e⟩ := HD.out
              exact ⟨q + nq, by rw [e, World.drewN_drewN]⟩
            case measure => simp [intOf]; omega
          · have HS := Lib.hid (show decide (x.call ∈ (C.take (m + 1)).map (·.call)) = v from by
              rw [HV.out]
              congr 1
              exact propext ⟨fun h => ((mem_take_succ HY.out).1 h).resolve_right (by rw [← HYC.out]; exact fun e => he e.symm), fun h => (mem_take_succ HY.out).2 (.inl h)⟩)
            have hd : decide (yc = x.call) = false := decide_eq_false he
            go_wp2
            go_quiet (fail)
            go_wp2
            go_roundw
            case rel =>
              refine ⟨m + 1, by omega, by go_num, by rw [HS.out], Lib.hid ?_⟩
              obtain ⟨q, e⟩ := HD.out
              exact ⟨q + nq, by rw [e, World.drewN_drewN]⟩
            case measure => simp [intOf]; omega
        · obtain rfl : n = m := by omega
          have HBD := Lib.hid (show Below w.heap.size w wr from by
            obtain ⟨q, e⟩ := HD.out
            rw [e, HWO.out]
            exact below_drewN HB.out)
          have HOD := Lib.hid (show wr.ownsRow w.heap.size 205 3 (.slice A' n c') n (refCells C) from by
            obtain ⟨q, e⟩ := HD.out
            rw [e, HWO.out]
            have h := own_same (W' := wo.drewN q) HOW.out (by rw [heap_drewN, HWO.out])
            rw [← HN.out, HWO.out] at h
            exact h)
          obtain ⟨c0, c1, c2, c3⟩ := HQ.out wr HBD.out
          have HT := Lib.hid (show C.take n = C by rw [HN.out, List.take_length])
          rw [HT.out]
          have hsz := HBD.out.size
          obtain ⟨v, hv⟩ : ∃ v, v = decide (x.call ∈ C.map (·.call)) := ⟨_, rfl⟩
          have HV := Lib.hid hv
          rw [← hv]
          clear hv hmn hm
          by_cases h2 : x.kind = 2
          · rw [h2] at c0
            cases v
            · have HS := Lib.hid (callK_add HX.out h2 (by rw [← HC.out]; exact of_decide_eq_false HV.out.symm))
              rw [← HC.out] at HS
              have hown1 := (own_same (W' := wr.drew) HOD.out rfl).alloc (.cells #[.int .i64 x.call, .int .i64 x.tick, .int .i64 x.who] 205)
              have HCN := Lib.hid (show ∀ (j : Nat) (u : Value), [Value.int .i64 x.call, .int .i64 x.tick, .int .i64 x.who][j]? = some u → (wr.drew.alloc (.cells #[.int .i64 x.call, .int .i64 x.tick, .int .i64 x.who] 205)).cell? ((⟨wr.heap.size, 0, none⟩ : Addr).add j) = some u from fun j u h => cells_new wr.drew [.int .i64 x.call, .int .i64 x.tick, .int .i64 x.who] 205 j u h)
              have hki : (k : Int) < (L.length : Int) := by omega
              have hk0 : (0 : Int) ≤ (k : Int) := by omega
              clear h2
              go_wp2
              go_region_law (refine step_append_own rfl (.tmp 40) (.tmp 57) 117 rfl w.heap.size 205 i0 _ 3 24 Tryz.underlying117 hi hz0 hz1 hz2 rfl (by decide) _ _ _ rfl hown1 ⟨wr.heap.size, 0, none⟩ 1 1 [.int .i64 x.call, .int .i64 x.tick, .int .i64 x.who] rfl rfl HCN.out (by intro u hu; simp at hu; rcases hu with rfl | rfl | rfl <;> rfl) (by unfold maxLen; omega) (by omega) (by simp; omega) ?_; intro v' w2 hown' hgrow)
              all_goals
                have hb2 := (HBD.out.drew.alloc (show w.heap.size ≤ wr.heap.size from hsz) (.cells #[.int .i64 x.call, .int .i64 x.tick, .int .i64 x.who] 205)).grown hgrow (by simp; omega) (own_lt hown1)
                obtain ⟨A2, cap2, rfl⟩ := shape_of hown'
                have HO2 := Lib.hid hown'
                clear hown1 hgrow hown'
                go_wp2
                go_roundw
                case rel =>
                  refine ⟨k + 1, by omega, by go_num, ?_, hb2⟩
                  rw [HS.out, refCells_snoc, List.length_append, ← HN.out]
                  exact HO2.out
                case measure => simp [intOf]; omega
            · have HS := Lib.hid (callK_same HX.out (.inr (by rw [← HC.out]; exact of_decide_eq_true HV.out.symm)))
              rw [← HC.out] at HS
              clear h2
              go_wp2
              go_roundw
              case rel => exact ⟨k + 1, by omega, by go_num, by rw [HS.out, ← HN.out]; exact HOD.out, HBD.out⟩
              case measure => simp [intOf]; omega
          · have HS := Lib.hid (callK_same HX.out (.inl h2))
            rw [← HC.out] at HS
            go_wp2
            go_roundw
            case rel => exact ⟨k + 1, by omega, by go_num, by rw [HS.out, ← HN.out]; exact HOD.out, HBD.out⟩
            case measure => simp [intOf]; omega
    · obtain rfl : k = L.length := by omega
      clear hown
      go_wp2
      go_ret
      exact ⟨_, _, rfl, hb⟩
end Go.Proofs.YtgaimkgaooiieaaGreatDoor

namespace Go.Proofs.YtgaimkgaooiieaaGreatDoor
open Go Go.RowKit

/-- a row of lines: each begins with its number -/
def LinesOwn (W : World) (B : Nat) (v : Value) (ks : List Int) : Prop := ∃ xs, W.ownsRow B 207 5 v ks.length xs ∧ ∀ (m : Nat) z, ks[m]? = some z → xs[m * 5]? = some (.int .i64 z)
theorem LinesOwn.shape {W : World} {B : Nat} {v : Value} {ks : List Int} (h : LinesOwn W B v ks) : ∃ A c, v = .slice A ks.length c := by
  obtain ⟨xs, h, _⟩ := h
  exact shape_of h
theorem LinesOwn.at {W : World} {B : Nat} {v : Value} {ks : List Int} (h : LinesOwn W B v ks) {m : Nat} {y : Int} (hy : ks[m]? = some y) : ∃ g c, v = .slice (some ⟨g, 0, none⟩) ks.length c ∧ W.cell? ⟨g, m * 5, none⟩ = some (.int .i64 y) := by
  obtain ⟨xs, h, hx⟩ := h
  rcases h.2 with ⟨rfl, h0⟩ | ⟨g, cap, cur, rfl, hg, hh, _⟩
  · have := (List.getElem?_eq_some_iff.1 hy).1; omega
  · have a0 := h.cells (g := g) rfl _ _ (hx m y hy)
    rw [Addr.add_mid, Nat.zero_add] at a0
    exact ⟨g, cap, rfl, a0⟩
theorem LinesOwn.same {W W' : World} {B : Nat} {v : Value} {ks : List Int} (h : LinesOwn W B v ks) (e : W'.heap = W.heap) : LinesOwn W' B v ks := by
  obtain ⟨xs, h, hx⟩ := h
  exact ⟨xs, own_same h e, hx⟩
theorem lines_snoc {xs : List Value} {ks : List Int} {z : Int} {a b c d : Value} (hl : xs.length = ks.length * 5) (hx : ∀ (m : Nat) y, ks[m]? = some y → xs[m * 5]? = some (.int .i64 y)) : ∀ (m : Nat) y, (ks ++ [z])[m]? = some y → (xs ++ [.int .i64 z, a, b, c, d])[m * 5]? = some (.int .i64 y) := fun m y hy => by
  by_cases hm : m < ks.length
  · rw [List.getElem?_append_left hm] at hy
    rw [List.getElem?_append_left (by omega)]
    exact hx m y hy
  · have := (List.getElem?_eq_some_iff.1 hy).1
    simp at this
    obtain rfl : m = ks.length := by omega
    rw [List.getElem?_append_right (Nat.le_refl _)] at hy
    simp at hy
    subst hy
    rw [List.getElem?_append_right (by omega), hl]
    simp
theorem mem_takeI_succ {C : List Int} {m : Nat} {y z : Int} (hy : C[m]? = some y) : (z ∈ C.take (m + 1)) ↔ (z ∈ C.take m ∨ z = y) := by
  rw [take_snoc hy, List.mem_append]
  simp
theorem info207 : (Tryz.prog.info? 207).map (fun i => (i.zero, i.size, i.bytes)) = some (some (.agg #[.int .i64 0, .int .i64 0, .int .i64 0, .int .i64 0, .slice none 0 0]), 5, 56) := by kernel_rfl

set_option maxHeartbeats 4000000 in
set_option maxRecDepth 100000 in
theorem agreed_any (A : Option Addr) (c : Nat) (L : List EvD) (w : World) (hL : TrAt w w.heap.size A L) (hlen : L.length ≤ 60) :
    Calls Tryz.prog 37 #[.slice A L.length c] w fun e w' => ∃ A' c', e = .returned (.slice A' (applK L L.length).length c') ∧ Below w.heap.size w w' := by
  obtain ⟨i0, hi, hz0, hz1, hz2⟩ := info_parts info207
  have HL := Lib.hid hL
  clear hL
  go_enter Tryz.func37, Tryz.ntmps37
  go_wp2
  go_loopw [3, 4] (fun v i wr => ∃ k : Nat, k ≤ L.length ∧ i = .int .i64 k ∧ LinesOwn wr w.heap.size v (applK L k) ∧ Below w.heap.size w wr) (fun _ i _ => L.length - (intOf i).toNat)
  case atStart => exact ⟨0, Nat.zero_le _, rfl, ⟨[], ⟨rfl, .inl ⟨rfl, rfl⟩⟩, fun m z h => by simp [applK] at h⟩, Below.refl _ _⟩
  case round =>
    obtain ⟨k, hk, rfl, hown, hb⟩ := hrel
    obtain ⟨A', c', rfl⟩ := hown.shape
    by_cases hlt : k < L.length
    · obtain ⟨x, hx⟩ : ∃ x, L[k]? = some x := ⟨_, List.getElem?_eq_getElem hlt⟩
      obtain ⟨b, o, P, rfl, hbl, hr, hE⟩ := HL.out k x hx
      have HQ := Lib.hid (show ∀ W, Below w.heap.size w W → W.cell? ⟨b, o + k * 28, none⟩ = some (.int .i64 x.kind) ∧ W.cell? ⟨b, o + k * 28 + 1, none⟩ = some (.int .i64 x.tick) ∧ W.cell? ⟨b, o + k * 28 + 5, none⟩ = some (.int .i64 x.n) ∧ W.cell? ⟨b, o + k * 28 + 6, none⟩ = some (.int .i64 x.term) ∧ W.cell? ⟨b, o + k * 28 + 6 + 1, none⟩ = some (.int .i64 x.ek) ∧ W.cell? ⟨b, o + k * 28 + 6 + 2, none⟩ = some (.slice P.b x.body.length P.bc) from fun W hW =>
        ⟨(hW.cell (p := ⟨b, o + k * 28, none⟩) hbl).trans (hr 0 _ rfl), (hW.cell (p := ⟨b, o + k * 28 + 1, none⟩) hbl).trans (hr 1 _ rfl), (hW.cell (p := ⟨b, o + k * 28 + 5, none⟩) hbl).trans (hr 5 _ rfl), (hW.cell (p := ⟨b, o + k * 28 + 6, none⟩) hbl).trans (hr 6 _ rfl), (hW.cell (p := ⟨b, o + k * 28 + 6 + 1, none⟩) hbl).trans (hr 7 _ rfl), (hW.cell (p := ⟨b, o + k * 28 + 6 + 2, none⟩) hbl).trans (hr 8 _ rfl)⟩)
      have HX := Lib.hid hx
      have HOW := Lib.hid hown
      have HB := Lib.hid hb
      have hkl := applK_len L k
      obtain ⟨C, hC⟩ : ∃ C, C = applK L k := ⟨_, rfl⟩
      have HC := Lib.hid hC
      rw [← hC] at HOW hkl ⊢
      clear hr hE hx hown hC hb
      obtain ⟨n, hn⟩ : ∃ n, n = C.length := ⟨_, rfl⟩
      have HN := Lib.hid hn
      rw [← hn] at hkl ⊢
      clear hn
      obtain ⟨wo, hwo⟩ : ∃ wo : World, wo = wr := ⟨_, rfl⟩
      have HWO := Lib.hid hwo
      clear hwo
      go_wp2
      go_loopw [5, 6] (fun tw j wi => ∃ m : Nat, m ≤ n ∧ j = .int .i64 m ∧ tw = .bool (decide (x.n ∈ C.take m)) ∧ Hid (∃ q, wi = wo.drewN q)) (fun _ j _ => n - (intOf j).toNat)
      case atStart => exact ⟨0, Nat.zero_le _, rfl, by simp, Lib.hid ⟨0, HWO.out.symm⟩⟩
      case round =>
        obtain ⟨m, hm, rfl, rfl, HD⟩ := hrel
        by_cases hmn : m < n
        · obtain ⟨y, hy⟩ : ∃ y, C[m]? = some y := ⟨_, List.getElem?_eq_getElem (by rw [← HN.out]; exact hmn)⟩
          obtain ⟨g, c2, hv, hic⟩ := HOW.out.at hy
          have HY := Lib.hid hy
          obtain ⟨yc, hyc⟩ : ∃ yc, yc = y := ⟨_, rfl⟩
          have HYC := Lib.hid hyc
          rw [← hyc] at hic
          have ic : wr.cell? ⟨g, m * 5, none⟩ = some (.int .i64 yc) := by
            obtain ⟨q, e⟩ := HD.out
            rw [e, HWO.out, cell_drewN _ _ _ rfl]
            exact hic
          obtain ⟨_, _, lc, _⟩ := HQ.out wr (by
            obtain ⟨q, e⟩ := HD.out
            rw [e, HWO.out]
            exact below_drewN HB.out)
          rw [← HN.out] at hv
          cases hv
          obtain ⟨v, hv⟩ : ∃ v, v = decide (x.n ∈ C.take m) := ⟨_, rfl⟩
          have HV := Lib.hid hv
          rw [← hv]
          obtain ⟨wj, hwj⟩ : ∃ wj : World, wj = wr := ⟨_, rfl⟩
          have HWJ := Lib.hid hwj
          clear hy hyc hic hv hwj
          by_cases he : yc = x.n
          · have HS := Lib.hid (show decide (x.n ∈ C.take (m + 1)) = true from decide_eq_true ((mem_takeI_succ HY.out).2 (.inr (by rw [← HYC.out, he]))))
            rw [he] at ic
            clear he
            go_wp2
            go_quiet (fail)
            go_wp2
            go_roundw
            case rel =>
              refine ⟨m + 1, by omega, by go_num, by rw [HS.out], Lib.hid ?_⟩
              obtain ⟨q, e⟩ := HD.out
              exact ⟨q + nq, by rw [e, World.drewN_drewN]⟩
            case measure => simp [intOf]; omega
          · have HS := Lib.hid (show decide (x.n ∈ C.take (m + 1)) = v from by
              rw [HV.out]
              congr 1
              exact propext ⟨fun h => ((mem_takeI_succ HY.out).1 h).resolve_right (by rw [← HYC.out]; exact fun e => he e.symm), fun h => (mem_takeI_succ HY.out).2 (.inl h)⟩)
            have hd : decide (yc = x.n) = false := decide_eq_false he
            go_wp2
            go_quiet (fail)
            go_wp2
            go_roundw
            case rel =>
              refine ⟨m + 1, by omega, by go_num, by rw [HS.out], Lib.hid ?_⟩
              obtain ⟨q, e⟩ := HD.out
              exact ⟨q + nq, by rw [e, World.drewN_drewN]⟩
            case measure => simp [intOf]; omega
        · obtain rfl : n = m := by omega
          have HBD := Lib.hid (show Below w.heap.size w wr from by
            obtain ⟨q, e⟩ := HD.out
            rw [e, HWO.out]
            exact below_drewN HB.out)
          have HOD := Lib.hid (show LinesOwn wr w.heap.size (.slice A' n c') C from by
            obtain ⟨q, e⟩ := HD.out
            rw [e, HWO.out]
            have h := HOW.out.same (W' := wo.drewN q) (by rw [heap_drewN, HWO.out])
            rw [← HN.out, HWO.out] at h
            exact h)
          obtain ⟨c0, c1, c5, c6, c7, c8⟩ := HQ.out wr HBD.out
          have HT := Lib.hid (show C.take n = C by rw [HN.out, List.take_length])
          rw [HT.out]
          have hsz := HBD.out.size
          obtain ⟨v, hv⟩ : ∃ v, v = decide (x.n ∈ C) := ⟨_, rfl⟩
          have HV := Lib.hid hv
          rw [← hv]
          clear hv hmn hm
          by_cases h2 : x.kind = 7
          · rw [h2] at c0
            cases v
            · have HS := Lib.hid (applK_add HX.out h2 (by rw [← HC.out]; exact of_decide_eq_false HV.out.symm))
              rw [← HC.out] at HS
              obtain ⟨xs, hox, hxs⟩ := HOD.out
              have HXS := Lib.hid hxs
              rw [← HN.out] at hox
              have hown1 := (own_same (W' := wr.drew) hox rfl).alloc (.cells #[.int .i64 x.n, .int .i64 x.tick, .int .i64 x.term, .int .i64 x.ek, .slice P.b x.body.length P.bc] 207)
              have HCN := Lib.hid (show ∀ (j : Nat) (u : Value), [Value.int .i64 x.n, .int .i64 x.tick, .int .i64 x.term, .int .i64 x.ek, .slice P.b x.body.length P.bc][j]? = some u → (wr.drew.alloc (.cells #[.int .i64 x.n, .int .i64 x.tick, .int .i64 x.term, .int .i64 x.ek, .slice P.b x.body.length P.bc] 207)).cell? ((⟨wr.heap.size, 0, none⟩ : Addr).add j) = some u from fun j u h => cells_new wr.drew [.int .i64 x.n, .int .i64 x.tick, .int .i64 x.term, .int .i64 x.ek, .slice P.b x.body.length P.bc] 207 j u h)
              have hki : (k : Int) < (L.length : Int) := by omega
              have hk0 : (0 : Int) ≤ (k : Int) := by omega
              clear h2
              go_wp2
              go_region_law (refine step_append_own rfl (.tmp 40) (.tmp 57) 119 rfl w.heap.size 207 i0 _ 5 56 Tryz.underlying119 hi hz0 hz1 hz2 rfl (by decide) _ _ _ rfl hown1 ⟨wr.heap.size, 0, none⟩ 1 1 [.int .i64 x.n, .int .i64 x.tick, .int .i64 x.term, .int .i64 x.ek, .slice P.b x.body.length P.bc] rfl rfl HCN.out (by intro u hu; simp at hu; rcases hu with rfl | rfl | rfl | rfl | rfl <;> rfl) (by unfold maxLen; omega) (by omega) (by simp; omega) ?_; intro v' w2 hown' hgrow)
              all_goals
                have hb2 := (HBD.out.drew.alloc (show w.heap.size ≤ wr.heap.size from hsz) (.cells #[.int .i64 x.n, .int .i64 x.tick, .int .i64 x.term, .int .i64 x.ek, .slice P.b x.body.length P.bc] 207)).grown hgrow (by simp; omega) (own_lt hown1)
                obtain ⟨A2, cap2, rfl⟩ := shape_of hown'
                have HO2 := Lib.hid hown'
                have HXL := Lib.hid hown1.1
                clear hown1 hgrow hown' hox hxs
                go_wp2
                go_roundw
                case rel =>
                  refine ⟨k + 1, by omega, by go_num, ?_, hb2⟩
                  rw [HS.out]
                  exact ⟨_, by rw [List.length_append, ← HN.out]; exact HO2.out, lines_snoc (by rw [HXL.out, HN.out]) HXS.out⟩
                case measure => simp [intOf]; omega
            · have HS := Lib.hid (applK_same HX.out (.inr (by rw [← HC.out]; exact of_decide_eq_true HV.out.symm)))
              rw [← HC.out] at HS
              clear h2
              go_wp2
              go_roundw
              case rel => exact ⟨k + 1, by omega, by go_num, by rw [HS.out]; exact HOD.out, HBD.out⟩
              case measure => simp [intOf]; omega
          · have HS := Lib.hid (applK_same HX.out (.inl h2))
            rw [← HC.out] at HS
            go_wp2
            go_roundw
            case rel => exact ⟨k + 1, by omega, by go_num, by rw [HS.out]; exact HOD.out, HBD.out⟩
            case measure => simp [intOf]; omega
    · obtain rfl : k = L.length := by omega
      clear hown
      go_wp2
      go_ret
      exact ⟨_, _, rfl, hb⟩
end Go.Proofs.YtgaimkgaooiieaaGreatDoor

namespace Go.Proofs.YtgaimkgaooiieaaGreatDoor
open Go Go.RowKit

theorem run_storeAt_row {P : Program} (w : World) (g : Nat) (t ty : TypeId) (old cells : Array Value) (hg : w.heap[g]? = some (.cells old t (0, 0))) (hi : (P.info? ty).map (·.size) = some cells.size) (ho : old.size = cells.size) (h1 : cells.all (·.oneCell') = true) :
    (Instr.storeAt ty (.pointer (some ⟨g, 0, none⟩)) (.agg cells)).run P w = .ok () (w.setRow g cells) := by
  simp only [Instr.storeAt, Instr.sureAddr, Sem.run_bind, Sem.run_pure, Result.andThen]
  exact run_storeVar_row w g t ty old cells hg hi ho h1
/-- a whole record into a variable that is known -/
theorem wpList_store_row {P : Program} {ops : Array Oper} {rest : List Oper} {op : Oper} {a : Act} {w : World} {Q : Exit → Act → World → Prop} (hgd : op.guard = none) (ty : TypeId) (x y : Operand) (ho : op.op = .store ty x y)
    (g : Nat) (t : TypeId) (c cells : Array Value) (hx : a.eval x = .pointer (some ⟨g, 0, none⟩)) (hy : a.eval y = .agg cells) (hg : w.heap[g]? = some (.cells c t (0, 0)))
    (hi : (P.info? ty).map (·.size) = some cells.size) (hs : c.size = cells.size) (h1 : cells.all (·.oneCell') = true)
    (h : wpList P ops Q rest (a.put op.dst undef) (w.setRow g cells)) : wpList P ops Q (op :: rest) a w :=
  wpList_plain hgd fun K hK => by
    unfold Oper.wp execOp
    simp only [ho, hx, hy, Sem.run_bind, run_storeAt_row w g t ty c cells hg hi hs h1, Sem.run_pure, Result.andThen_ok]
    exact hK _ _ h
theorem below_setRow' {B g : Nat} {w0 w : World} (hb : Below B w0 w) (hBg : B ≤ g) (cs : Array Value) : Below B w0 (w.setRow g cs) :=
  hb.trans ⟨rfl, rfl, rfl, by simp [World.setRow], fun k hk => setRow_other w g k cs (by omega)⟩

/-- a list of n bools, none of them true, below B -/
def NoneAt (W : World) (B : Nat) (S : Option Addr) (n : Nat) : Prop := ∀ i, i < n → ∃ b o, S = some ⟨b, o, none⟩ ∧ b < B ∧ W.cell? ⟨b, o + i, none⟩ = some (.bool false)
theorem NoneAt.below {W W' : World} {B n : Nat} {S : Option Addr} (h : NoneAt W B S n) (hb : Below B W W') : NoneAt W' B S n := fun i hi => by
  obtain ⟨b, o, e, hlt, hc⟩ := h i hi
  exact ⟨b, o, e, hlt, (hb.cell (p := ⟨b, o + i, none⟩) hlt).trans hc⟩
theorem NoneAt.mono {W : World} {B B' n : Nat} {S : Option Addr} (h : NoneAt W B S n) (hB : B ≤ B') : NoneAt W B' S n := fun i hi => by
  obtain ⟨b, o, e, hlt, hc⟩ := h i hi
  exact ⟨b, o, e, by omega, hc⟩

set_option maxHeartbeats 4000000 in
set_option maxRecDepth 100000 in
theorem refWaits_any (A S T : Option Addr) (c cs ct : Nat) (L : List EvD) (w : World) (hL : TrAt w w.heap.size A L) (hlen : L.length ≤ 60) (hS : NoneAt w w.heap.size S L.length) :
    Calls Tryz.prog 38 #[.slice A L.length c, .agg #[.slice S L.length cs, .slice T L.length ct, .int .i64 0, .int .i64 0]] w fun e w' => e = .returned (.slice none 0 0) ∧ Below w.heap.size w w' := by
  have hb1 : Below w.heap.size w (w.alloc (.cells #[.slice S L.length cs, .slice T L.length ct, .int .i64 0, .int .i64 0] 50)) := (Below.refl _ w).alloc (Nat.le_refl _) _
  have HB1 := Lib.hid hb1
  have HSZ := Lib.hid (show (w.alloc (.cells #[.slice S L.length cs, .slice T L.length ct, .int .i64 0, .int .i64 0] 50)).heap.size = w.heap.size + 1 by simp)
  have HC := Lib.hid (refCalls_any A c L (w.alloc (.cells #[.slice S L.length cs, .slice T L.length ct, .int .i64 0, .int .i64 0] 50)) ((hL.below hb1).mono hb1.size) hlen)
  have HS := Lib.hid hS
  have HKL := Lib.hid (callK_len L L.length)
  have q0 : (w.alloc (.cells #[.slice S L.length cs, .slice T L.length ct, .int .i64 0, .int .i64 0] 50)).cell? ⟨w.heap.size, 0, none⟩ = some (.slice S L.length cs) := by
    unfold World.cell?; simp only [heap_alloc_last]; rfl
  have HQ := Lib.hid q0
  clear hL hS hb1 q0
  go_enter Tryz.func38, Tryz.ntmps38
  go_wp2_with (go_at_call 36; refine HC.out.mono ?_; rintro e w2 ⟨A', c', rfl, hb2⟩; have HB2 := Lib.hid hb2; have q2 : w2.cell? ⟨w.heap.size, 0, none⟩ = some (.slice S L.length cs) := (hb2.cell (p := ⟨w.heap.size, 0, none⟩) (by simp)).trans HQ.out; clear hb2)
  obtain ⟨n, hn⟩ : ∃ n, n = (callK L L.length).length := ⟨_, rfl⟩
  rw [← hn] at HKL ⊢
  clear hn
  go_loop [6, 7] (fun v i => ∃ k : Nat, k ≤ n ∧ i = .int .i64 k ∧ v = .slice none 0 0) (fun _ i => n - (intOf i).toNat)
  case atStart => exact ⟨0, Nat.zero_le _, rfl, rfl⟩
  case round =>
    obtain ⟨k, hk, rfl, rfl⟩ := hrel
    have hkl := HKL.out
    by_cases hlt : k < n
    · obtain ⟨b, o, rfl, hbl, hc⟩ := HS.out k (by omega)
      have hki : (k : Int) < (L.length : Int) := by omega
      have hc2 : w2.cell? ⟨b, o + k, none⟩ = some (.bool false) := ((HB1.out.trans (HB2.out.mono (by have := HSZ.out; omega))).cell (p := ⟨b, o + k, none⟩) hbl).trans hc
      clear hc
      go_wp2
      go_round
      case rel => exact ⟨k + 1, by omega, by go_num, rfl⟩
      case measure => simp [intOf]; omega
    · obtain rfl : n = k := by omega
      go_wp2
      go_ret
      exact ⟨rfl, HB1.out.trans (HB2.out.mono (by have := HSZ.out; omega))⟩
end Go.Proofs.YtgaimkgaooiieaaGreatDoor

namespace Go.Proofs.YtgaimkgaooiieaaGreatDoor
open Go Go.RowKit

theorem cells_ofA {W : World} {g i : Nat} {cs : Array Value} {t : TypeId} {v : Value} (h : W.heap[g]? = some (.cells cs t)) (hv : cs[i]? = some v) : W.cell? ⟨g, i, none⟩ = some v := by
  unfold World.cell?
  simp only [h]
  exact hv
theorem frozen_of {W : World} {g : Nat} {cs : Array Value} {t : TypeId} (h : W.heap[g]? = some (.cells cs t)) (i : Nat) : W.frozen? ⟨g, i, none⟩ = false := by
  unfold World.frozen?
  simp [h]
theorem setCell_block {W : World} {g i : Nat} {C : Array Value} {t : TypeId} {fz : Nat × Nat} (h : W.heap[g]? = some (.cells C t fz)) (v : Value) : (W.setCell ⟨g, i, none⟩ v).heap[g]? = some (.cells (C.setIfInBounds i v) t fz) := by
  simp [World.setCell, Array.getElem?_modify, h]
theorem below_setCell {B : Nat} {w0 W : World} {g i : Nat} {v : Value} (hb : Below B w0 W) (hg : B ≤ g) : Below B w0 (W.setCell ⟨g, i, none⟩ v) :=
  hb.trans ⟨rfl, rfl, rfl, by simp, fun k hk => Deep.blk_setCell_other _ _ _ _ (fun e => by have e : k = g := e; omega)⟩
theorem wrap_small {z : Int} (h0 : 0 ≤ z) (h1 : z ≤ 1000000) : IntKind.i64.wrap z = z := by
  have hm : z < 2 ^ 63 := by omega
  simp [IntKind.wrap, IntKind.signed, IntKind.bits]
  omega
theorem size52 : (Tryz.prog.info? 52).map (·.size) = some 10 := by kernel_rfl
/-- the counts, after k events -/
def ofArr (L : List EvD) (k : Nat) (nc na : Int) : Array Value := #[.int .i64 nc, .int .i64 (cntK L 5 k), .int .i64 (cntK L 6 k), .int .i64 na, .int .i64 (cntK L 8 k), .int .i64 (cntK L 10 k), .int .i64 0, .int .i64 0, .int .i64 0, .int .i64 0]

/-- a variable of ten numbers that was made -/
theorem zero_at {W : World} {g : Nat} (h : W.heap[g]? = some (.cells #[.int .i64 0, .int .i64 0, .int .i64 0, .int .i64 0, .int .i64 0, .int .i64 0, .int .i64 0, .int .i64 0, .int .i64 0, .int .i64 0] 52)) : W.cell? ⟨g, 0, none⟩ = some (.int .i64 0) ∧ W.cell? ⟨g, 1, none⟩ = some (.int .i64 0) ∧ W.cell? ⟨g, 2, none⟩ = some (.int .i64 0) ∧ W.cell? ⟨g, 3, none⟩ = some (.int .i64 0) ∧ W.cell? ⟨g, 4, none⟩ = some (.int .i64 0) ∧ W.cell? ⟨g, 5, none⟩ = some (.int .i64 0) ∧ W.cell? ⟨g, 6, none⟩ = some (.int .i64 0) ∧ W.cell? ⟨g, 7, none⟩ = some (.int .i64 0) ∧ W.cell? ⟨g, 8, none⟩ = some (.int .i64 0) ∧ W.cell? ⟨g, 9, none⟩ = some (.int .i64 0) ∧ W.frozen? ⟨g, 0, none⟩ = false ∧ W.frozen? ⟨g, 1, none⟩ = false ∧ W.frozen? ⟨g, 2, none⟩ = false ∧ W.frozen? ⟨g, 3, none⟩ = false ∧ W.frozen? ⟨g, 4, none⟩ = false ∧ W.frozen? ⟨g, 5, none⟩ = false ∧ W.frozen? ⟨g, 6, none⟩ = false ∧ W.frozen? ⟨g, 7, none⟩ = false ∧ W.frozen? ⟨g, 8, none⟩ = false ∧ W.frozen? ⟨g, 9, none⟩ = false :=
  ⟨cells_ofA h rfl, cells_ofA h rfl, cells_ofA h rfl, cells_ofA h rfl, cells_ofA h rfl, cells_ofA h rfl, cells_ofA h rfl, cells_ofA h rfl, cells_ofA h rfl, cells_ofA h rfl, frozen_of h 0, frozen_of h 1, frozen_of h 2, frozen_of h 3, frozen_of h 4, frozen_of h 5, frozen_of h 6, frozen_of h 7, frozen_of h 8, frozen_of h 9⟩
theorem ten_set {W : World} {g : Nat} (h : W.heap[g]? = some (.cells #[.int .i64 0, .int .i64 0, .int .i64 0, .int .i64 0, .int .i64 0, .int .i64 0, .int .i64 0, .int .i64 0, .int .i64 0, .int .i64 0] 52)) (a0 a1 a2 a3 a4 a5 a6 a7 a8 a9 : Value) : ((((((((((W.setCell ⟨g, 0, none⟩ a0).setCell ⟨g, 1, none⟩ a1).setCell ⟨g, 2, none⟩ a2).setCell ⟨g, 3, none⟩ a3).setCell ⟨g, 4, none⟩ a4).setCell ⟨g, 5, none⟩ a5).setCell ⟨g, 6, none⟩ a6).setCell ⟨g, 7, none⟩ a7).setCell ⟨g, 8, none⟩ a8).setCell ⟨g, 9, none⟩ a9).heap[g]? = some (.cells #[a0, a1, a2, a3, a4, a5, a6, a7, a8, a9] 52) := by
  have h0 := setCell_block (i := 0) h a0
  have h1 := setCell_block (i := 1) h0 a1
  have h2 := setCell_block (i := 2) h1 a2
  have h3 := setCell_block (i := 3) h2 a3
  have h4 := setCell_block (i := 4) h3 a4
  have h5 := setCell_block (i := 5) h4 a5
  have h6 := setCell_block (i := 6) h5 a6
  have h7 := setCell_block (i := 7) h6 a7
  have h8 := setCell_block (i := 8) h7 a8
  have h9 := setCell_block (i := 9) h8 a9
  simpa using h9
theorem ten_below {B : Nat} {w0 W : World} {g : Nat} (h : Below B w0 W) (hg : B ≤ g) (a0 a1 a2 a3 a4 a5 a6 a7 a8 a9 : Value) : Below B w0 ((((((((((W.setCell ⟨g, 0, none⟩ a0).setCell ⟨g, 1, none⟩ a1).setCell ⟨g, 2, none⟩ a2).setCell ⟨g, 3, none⟩ a3).setCell ⟨g, 4, none⟩ a4).setCell ⟨g, 5, none⟩ a5).setCell ⟨g, 6, none⟩ a6).setCell ⟨g, 7, none⟩ a7).setCell ⟨g, 8, none⟩ a8).setCell ⟨g, 9, none⟩ a9) :=
  below_setCell (below_setCell (below_setCell (below_setCell (below_setCell (below_setCell (below_setCell (below_setCell (below_setCell (below_setCell (h) hg) hg) hg) hg) hg) hg) hg) hg) hg) hg
/-- what the first region leaves -/
def OfPost (A S T : Option Addr) (c cs ct : Nat) (L : List EvD) (w : World) (nc na : Int) : Exit → Act → World → Prop
  | .normal, a, w' => ∃ g5 A1 c1 A2 c2 n1 n2, a = ⟨#[.slice A L.length c, .agg #[.slice S L.length cs, .slice T L.length ct, .int .i64 0, .int .i64 0], undef, .pointer (some ⟨w.heap.size, 0, none⟩), .pointer (some ⟨w.heap.size + 1, 0, none⟩), .pointer (some ⟨g5, 0, none⟩), undef, undef, undef, .slice A L.length c, .slice A1 n1 c1, .int .i64 nc, .slice A L.length c, .slice A2 n2 c2, .int .i64 na, .pointer (some ⟨w.heap.size, 2, none⟩), .int .i64 0, .pointer (some ⟨w.heap.size, 3, none⟩), .int .i64 0, .agg (ofArr L 0 nc na), undef, undef, undef, undef, undef, undef, undef, undef, undef, undef, undef, undef, undef, undef, undef, undef, undef, undef, undef, undef, undef, undef, undef, undef, undef, undef, undef, undef, undef, undef, undef, undef, undef, undef, undef, undef, undef, undef, undef, undef, undef, undef, undef, undef, undef, undef, undef, undef, undef, undef, undef, undef, undef, undef, undef, undef, undef, undef], []⟩ ∧ w'.heap[g5]? = some (.cells (ofArr L 0 nc na) 52) ∧ w.heap.size + 2 ≤ g5 ∧ Below (w.heap.size + 2) ((w.alloc (.cells #[.slice S L.length cs, .slice T L.length ct, .int .i64 0, .int .i64 0] 50)).alloc (.cells #[.int .i64 0, .int .i64 0, .int .i64 0, .int .i64 0, .int .i64 0, .int .i64 0, .int .i64 0, .int .i64 0, .int .i64 0, .int .i64 0] 52)) w'
  | _, _, _ => False
theorem of_last {A S T : Option Addr} {c cs ct : Nat} {L : List EvD} {w w4 : World} (A1 A2 : Option Addr) (c1 c2 : Nat) {n1 n2 : Nat} {nc na : Int} (hs : w.heap.size + 2 ≤ w4.heap.size) (hb : Below (w.heap.size + 2) ((w.alloc (.cells #[.slice S L.length cs, .slice T L.length ct, .int .i64 0, .int .i64 0] 50)).alloc (.cells #[.int .i64 0, .int .i64 0, .int .i64 0, .int .i64 0, .int .i64 0, .int .i64 0, .int .i64 0, .int .i64 0, .int .i64 0, .int .i64 0] 52)) w4) :
    OfPost A S T c cs ct L w nc na .normal ⟨#[.slice A L.length c, .agg #[.slice S L.length cs, .slice T L.length ct, .int .i64 0, .int .i64 0], undef, .pointer (some ⟨w.heap.size, 0, none⟩), .pointer (some ⟨w.heap.size + 1, 0, none⟩), .pointer (some ⟨w4.heap.size, 0, none⟩), undef, undef, undef, .slice A L.length c, .slice A1 n1 c1, .int .i64 nc, .slice A L.length c, .slice A2 n2 c2, .int .i64 na, .pointer (some ⟨w.heap.size, 2, none⟩), .int .i64 0, .pointer (some ⟨w.heap.size, 3, none⟩), .int .i64 0, .agg #[.int .i64 nc, .int .i64 0, .int .i64 0, .int .i64 na, .int .i64 0, .int .i64 0, .int .i64 0, .int .i64 0, .int .i64 0, .int .i64 0], undef, undef, undef, undef, undef, undef, undef, undef, undef, undef, undef, undef, undef, undef, undef, undef, undef, undef, undef, undef, undef, undef, undef, undef, undef, undef, undef, undef, undef, undef, undef, undef, undef, undef, undef, undef, undef, undef, undef, undef, undef, undef, undef, undef, undef, undef, undef, undef, undef, undef, undef, undef, undef, undef, undef, undef, undef, undef], []⟩ (w4.alloc (.cells #[.int .i64 nc, .int .i64 0, .int .i64 0, .int .i64 na, .int .i64 0, .int .i64 0, .int .i64 0, .int .i64 0, .int .i64 0, .int .i64 0] 52)) :=
  ⟨w4.heap.size, A1, c1, A2, c2, n1, n2, rfl, heap_alloc_last _ _, hs, hb.alloc hs _⟩
theorem of_set {A S T : Option Addr} {c cs ct g : Nat} {L : List EvD} {w w4 : World} (A1 A2 : Option Addr) (c1 c2 : Nat) {n1 n2 : Nat} {nc na : Int} (hs : w.heap.size + 2 ≤ g) (hb : Below (w.heap.size + 2) ((w.alloc (.cells #[.slice S L.length cs, .slice T L.length ct, .int .i64 0, .int .i64 0] 50)).alloc (.cells #[.int .i64 0, .int .i64 0, .int .i64 0, .int .i64 0, .int .i64 0, .int .i64 0, .int .i64 0, .int .i64 0, .int .i64 0, .int .i64 0] 52)) w4) (h : w4.heap[g]? = some (.cells #[.int .i64 0, .int .i64 0, .int .i64 0, .int .i64 0, .int .i64 0, .int .i64 0, .int .i64 0, .int .i64 0, .int .i64 0, .int .i64 0] 52)) :
    OfPost A S T c cs ct L w nc na .normal ⟨#[.slice A L.length c, .agg #[.slice S L.length cs, .slice T L.length ct, .int .i64 0, .int .i64 0], undef, .pointer (some ⟨w.heap.size, 0, none⟩), .pointer (some ⟨w.heap.size + 1, 0, none⟩), .pointer (some ⟨g, 0, none⟩), undef, undef, undef, .slice A L.length c, .slice A1 n1 c1, .int .i64 nc, .slice A L.length c, .slice A2 n2 c2, .int .i64 na, .pointer (some ⟨w.heap.size, 2, none⟩), .int .i64 0, .pointer (some ⟨w.heap.size, 3, none⟩), .int .i64 0, .agg #[.int .i64 nc, .int .i64 0, .int .i64 0, .int .i64 na, .int .i64 0, .int .i64 0, .int .i64 0, .int .i64 0, .int .i64 0, .int .i64 0], undef, undef, undef, undef, undef, undef, undef, undef, undef, undef, undef, undef, undef, undef, undef, undef, undef, undef, undef, undef, undef, undef, undef, undef, undef, undef, undef, undef, undef, undef, undef, undef, undef, undef, undef, undef, undef, undef, undef, undef, undef, undef, undef, undef, undef, undef, undef, undef, undef, undef, undef, undef, undef, undef, undef, undef, undef, undef], []⟩ ((((((((((w4.setCell ⟨g, 0, none⟩ (.int .i64 nc)).setCell ⟨g, 1, none⟩ (.int .i64 0)).setCell ⟨g, 2, none⟩ (.int .i64 0)).setCell ⟨g, 3, none⟩ (.int .i64 na)).setCell ⟨g, 4, none⟩ (.int .i64 0)).setCell ⟨g, 5, none⟩ (.int .i64 0)).setCell ⟨g, 6, none⟩ (.int .i64 0)).setCell ⟨g, 7, none⟩ (.int .i64 0)).setCell ⟨g, 8, none⟩ (.int .i64 0)).setCell ⟨g, 9, none⟩ (.int .i64 0)) :=
  ⟨g, A1, c1, A2, c2, n1, n2, rfl, ten_set h _ _ _ _ _ _ _ _ _ _, hs, ten_below hb hs _ _ _ _ _ _ _ _ _ _⟩
set_option maxHeartbeats 1000000 in
set_option maxRecDepth 100000 in
theorem of_any (A S T : Option Addr) (c cs ct : Nat) (L : List EvD) (w : World) (hL : TrAt w w.heap.size A L) (hlen : L.length ≤ 60) (hS : NoneAt w w.heap.size S L.length) :
    Calls Tryz.prog 17 #[.slice A L.length c, .agg #[.slice S L.length cs, .slice T L.length ct, .int .i64 0, .int .i64 0]] w fun e w' => e = .returned (.agg (ofArr L L.length (callK L L.length).length (applK L L.length).length)) ∧ Below w.heap.size w w' := by
  have HL := Lib.hid hL
  have HS := Lib.hid hS
  have HC := Lib.hid (show ∀ W, Below w.heap.size w W → Calls Tryz.prog 36 #[.slice A L.length c] W fun e w' => ∃ A' c', e = .returned (.slice A' (callK L L.length).length c') ∧ Below W.heap.size W w' from fun W hW => refCalls_any A c L W ((HL.out.below hW).mono hW.size) hlen)
  have HA := Lib.hid (show ∀ W, Below w.heap.size w W → Calls Tryz.prog 37 #[.slice A L.length c] W fun e w' => ∃ A' c', e = .returned (.slice A' (applK L L.length).length c') ∧ Below W.heap.size W w' from fun W hW => agreed_any A c L W ((HL.out.below hW).mono hW.size) hlen)
  clear hL hS
  go_enter Tryz.func17, Tryz.ntmps17
  go_wp2
  have hb2 : Below w.heap.size w ((w.alloc (.cells #[.slice S L.length cs, .slice T L.length ct, .int .i64 0, .int .i64 0] 50)).alloc (.cells #[.int .i64 0, .int .i64 0, .int .i64 0, .int .i64 0, .int .i64 0, .int .i64 0, .int .i64 0, .int .i64 0, .int .i64 0, .int .i64 0] 52)) := ((Below.refl _ w).alloc (Nat.le_refl _) _).alloc (by simp) _
  have HSZ := Lib.hid (show ((w.alloc (.cells #[.slice S L.length cs, .slice T L.length ct, .int .i64 0, .int .i64 0] 50)).alloc (.cells #[.int .i64 0, .int .i64 0, .int .i64 0, .int .i64 0, .int .i64 0, .int .i64 0, .int .i64 0, .int .i64 0, .int .i64 0, .int .i64 0] 52)).drew.heap.size = w.heap.size + 2 by simp)
  have HK := Lib.hid (show ∀ W, Below (w.heap.size + 2) ((w.alloc (.cells #[.slice S L.length cs, .slice T L.length ct, .int .i64 0, .int .i64 0] 50)).alloc (.cells #[.int .i64 0, .int .i64 0, .int .i64 0, .int .i64 0, .int .i64 0, .int .i64 0, .int .i64 0, .int .i64 0, .int .i64 0, .int .i64 0] 52)) W → W.cell? ⟨w.heap.size, 2, none⟩ = some (.int .i64 0) ∧ W.cell? ⟨w.heap.size, 3, none⟩ = some (.int .i64 0) ∧ Below (w.heap.size + 2) ((w.alloc (.cells #[.slice S L.length cs, .slice T L.length ct, .int .i64 0, .int .i64 0] 50)).alloc (.cells #[.int .i64 0, .int .i64 0, .int .i64 0, .int .i64 0, .int .i64 0, .int .i64 0, .int .i64 0, .int .i64 0, .int .i64 0, .int .i64 0] 52)) W from fun W hW => ⟨(hW.cell (p := ⟨w.heap.size, 2, none⟩) (by simp)).trans (by simp), (hW.cell (p := ⟨w.heap.size, 3, none⟩) (by simp)).trans (by simp), hW⟩)
  have HZA := Lib.hid (show (((w.alloc (.cells #[.slice S L.length cs, .slice T L.length ct, .int .i64 0, .int .i64 0] 50)).alloc (.cells #[.int .i64 0, .int .i64 0, .int .i64 0, .int .i64 0, .int .i64 0, .int .i64 0, .int .i64 0, .int .i64 0, .int .i64 0, .int .i64 0] 52)).alloc (.cells #[.int .i64 0, .int .i64 0, .int .i64 0, .int .i64 0, .int .i64 0, .int .i64 0, .int .i64 0, .int .i64 0, .int .i64 0, .int .i64 0] 52)).drew.heap[w.heap.size + 2]? = some (.cells #[.int .i64 0, .int .i64 0, .int .i64 0, .int .i64 0, .int .i64 0, .int .i64 0, .int .i64 0, .int .i64 0, .int .i64 0, .int .i64 0] 52) from by
    have h := heap_alloc_last ((w.alloc (.cells #[.slice S L.length cs, .slice T L.length ct, .int .i64 0, .int .i64 0] 50)).alloc (.cells #[.int .i64 0, .int .i64 0, .int .i64 0, .int .i64 0, .int .i64 0, .int .i64 0, .int .i64 0, .int .i64 0, .int .i64 0, .int .i64 0] 52)) (.cells #[.int .i64 0, .int .i64 0, .int .i64 0, .int .i64 0, .int .i64 0, .int .i64 0, .int .i64 0, .int .i64 0, .int .i64 0, .int .i64 0] 52)
    rw [show ((w.alloc (.cells #[.slice S L.length cs, .slice T L.length ct, .int .i64 0, .int .i64 0] 50)).alloc (.cells #[.int .i64 0, .int .i64 0, .int .i64 0, .int .i64 0, .int .i64 0, .int .i64 0, .int .i64 0, .int .i64 0, .int .i64 0, .int .i64 0] 52)).heap.size = w.heap.size + 2 by simp] at h
    exact h)
  have hbR : Below (w.heap.size + 2) ((w.alloc (.cells #[.slice S L.length cs, .slice T L.length ct, .int .i64 0, .int .i64 0] 50)).alloc (.cells #[.int .i64 0, .int .i64 0, .int .i64 0, .int .i64 0, .int .i64 0, .int .i64 0, .int .i64 0, .int .i64 0, .int .i64 0, .int .i64 0] 52)) ((w.alloc (.cells #[.slice S L.length cs, .slice T L.length ct, .int .i64 0, .int .i64 0] 50)).alloc (.cells #[.int .i64 0, .int .i64 0, .int .i64 0, .int .i64 0, .int .i64 0, .int .i64 0, .int .i64 0, .int .i64 0, .int .i64 0, .int .i64 0] 52)) := Below.refl _ _
  have hbD : Below (w.heap.size + 2) ((w.alloc (.cells #[.slice S L.length cs, .slice T L.length ct, .int .i64 0, .int .i64 0] 50)).alloc (.cells #[.int .i64 0, .int .i64 0, .int .i64 0, .int .i64 0, .int .i64 0, .int .i64 0, .int .i64 0, .int .i64 0, .int .i64 0, .int .i64 0] 52)) ((w.alloc (.cells #[.slice S L.length cs, .slice T L.length ct, .int .i64 0, .int .i64 0] 50)).alloc (.cells #[.int .i64 0, .int .i64 0, .int .i64 0, .int .i64 0, .int .i64 0, .int .i64 0, .int .i64 0, .int .i64 0, .int .i64 0, .int .i64 0] 52)).drew := (Below.refl _ _).drew
  have hSD := HK.out _ hbD
  have hsR : w.heap.size + 2 ≤ ((w.alloc (.cells #[.slice S L.length cs, .slice T L.length ct, .int .i64 0, .int .i64 0] 50)).alloc (.cells #[.int .i64 0, .int .i64 0, .int .i64 0, .int .i64 0, .int .i64 0, .int .i64 0, .int .i64 0, .int .i64 0, .int .i64 0, .int .i64 0] 52)).heap.size := by simp
  have hsD : w.heap.size + 2 ≤ ((w.alloc (.cells #[.slice S L.length cs, .slice T L.length ct, .int .i64 0, .int .i64 0] 50)).alloc (.cells #[.int .i64 0, .int .i64 0, .int .i64 0, .int .i64 0, .int .i64 0, .int .i64 0, .int .i64 0, .int .i64 0, .int .i64 0, .int .i64 0] 52)).drew.heap.size := by simp
  refine Code.wp_mono (Q := OfPost A S T c cs ct L w (callK L L.length).length (applK L L.length).length) ?_ ?_
  rotate_left
  · go_region_held3 (fun W => W.cell? ⟨w.heap.size, 2, none⟩ = some (.int .i64 0) ∧ W.cell? ⟨w.heap.size, 3, none⟩ = some (.int .i64 0) ∧ Below (w.heap.size + 2) ((w.alloc (.cells #[.slice S L.length cs, .slice T L.length ct, .int .i64 0, .int .i64 0] 50)).alloc (.cells #[.int .i64 0, .int .i64 0, .int .i64 0, .int .i64 0, .int .i64 0, .int .i64 0, .int .i64 0, .int .i64 0, .int .i64 0, .int .i64 0] 52)) W) (first | with_reducible assumption | (with_reducible refine HK.out _ ?_; (repeat (first | with_reducible assumption | (with_reducible refine Below.drew ?_) | (with_reducible refine below_setCell ?_ (by omega)) | (with_reducible refine Below.alloc ?_ (by first | omega | (simp; done) | (simp; omega)) _))); (try with_reducible assumption))) (first
      | (go_at_call 36; with_reducible refine (HC.out ((w.alloc (.cells #[.slice S L.length cs, .slice T L.length ct, .int .i64 0, .int .i64 0] 50)).alloc (.cells #[.int .i64 0, .int .i64 0, .int .i64 0, .int .i64 0, .int .i64 0, .int .i64 0, .int .i64 0, .int .i64 0, .int .i64 0, .int .i64 0] 52)).drew hb2.drew).mono ?_; go_loud (rintro e w3 ⟨A1, c1, rfl, hb3⟩; have hs3 := hb3.size; have hbE : Below (w.heap.size + 2) ((w.alloc (.cells #[.slice S L.length cs, .slice T L.length ct, .int .i64 0, .int .i64 0] 50)).alloc (.cells #[.int .i64 0, .int .i64 0, .int .i64 0, .int .i64 0, .int .i64 0, .int .i64 0, .int .i64 0, .int .i64 0, .int .i64 0, .int .i64 0] 52)) w3 := hbD.trans (hb3.mono hsD); have hS3 := HK.out _ hbE) )
      | (go_at_call 36; with_reducible refine (HC.out (((w.alloc (.cells #[.slice S L.length cs, .slice T L.length ct, .int .i64 0, .int .i64 0] 50)).alloc (.cells #[.int .i64 0, .int .i64 0, .int .i64 0, .int .i64 0, .int .i64 0, .int .i64 0, .int .i64 0, .int .i64 0, .int .i64 0, .int .i64 0] 52)).alloc (.cells #[.int .i64 0, .int .i64 0, .int .i64 0, .int .i64 0, .int .i64 0, .int .i64 0, .int .i64 0, .int .i64 0, .int .i64 0, .int .i64 0] 52)).drew (hb2.alloc (by first | omega | (simp; done) | (simp; omega)) _).drew).mono ?_; go_loud (rintro e w3 ⟨A1, c1, rfl, hb3⟩; have hs3 := hb3.size; simp at hs3; have hbE : Below (w.heap.size + 2) ((w.alloc (.cells #[.slice S L.length cs, .slice T L.length ct, .int .i64 0, .int .i64 0] 50)).alloc (.cells #[.int .i64 0, .int .i64 0, .int .i64 0, .int .i64 0, .int .i64 0, .int .i64 0, .int .i64 0, .int .i64 0, .int .i64 0, .int .i64 0] 52)) w3 := ((hbR.alloc hsR (.cells #[.int .i64 0, .int .i64 0, .int .i64 0, .int .i64 0, .int .i64 0, .int .i64 0, .int .i64 0, .int .i64 0, .int .i64 0, .int .i64 0] 52)).drew).trans (hb3.mono (by first | omega | (simp; done) | (simp; omega))); have hS3 := HK.out _ hbE; have hh3 : w3.heap[w.heap.size + 2]? = some (.cells #[.int .i64 0, .int .i64 0, .int .i64 0, .int .i64 0, .int .i64 0, .int .i64 0, .int .i64 0, .int .i64 0, .int .i64 0, .int .i64 0] 52) := (hb3.block (w.heap.size + 2) (by first | omega | (simp; done) | (simp; omega))).trans HZA.out; have hz3 := zero_at hh3) )
      | (go_at_call 37; with_reducible refine (HA.out w3 (hb2.trans (hbE.mono (by first | omega | (simp; done) | (simp; omega))))).mono ?_; go_loud (rintro e w4 ⟨A2, c2, rfl, hb4⟩; have hs4 := hb4.size; have hh4 : w4.heap[w.heap.size + 2]? = some (.cells #[.int .i64 0, .int .i64 0, .int .i64 0, .int .i64 0, .int .i64 0, .int .i64 0, .int .i64 0, .int .i64 0, .int .i64 0, .int .i64 0] 52) := (hb4.block (w.heap.size + 2) (by first | omega | (simp; done) | (simp; omega))).trans hh3; have hz4 := zero_at hh4; have hbF : Below (w.heap.size + 2) ((w.alloc (.cells #[.slice S L.length cs, .slice T L.length ct, .int .i64 0, .int .i64 0] 50)).alloc (.cells #[.int .i64 0, .int .i64 0, .int .i64 0, .int .i64 0, .int .i64 0, .int .i64 0, .int .i64 0, .int .i64 0, .int .i64 0, .int .i64 0] 52)) w4 := hbE.trans (hb4.mono (by first | omega | (simp; done) | (simp; omega))); have hS4 := HK.out _ hbF) )
      | (go_at_call 37; with_reducible refine (HA.out w3 (hb2.trans (hbE.mono (by first | omega | (simp; done) | (simp; omega))))).mono ?_; go_loud (rintro e w4 ⟨A2, c2, rfl, hb4⟩; have hs4 := hb4.size; have hbF : Below (w.heap.size + 2) ((w.alloc (.cells #[.slice S L.length cs, .slice T L.length ct, .int .i64 0, .int .i64 0] 50)).alloc (.cells #[.int .i64 0, .int .i64 0, .int .i64 0, .int .i64 0, .int .i64 0, .int .i64 0, .int .i64 0, .int .i64 0, .int .i64 0, .int .i64 0] 52)) w4 := hbE.trans (hb4.mono (by first | omega | (simp; done) | (simp; omega))); have hS4 := HK.out _ hbF) )
      | (go_at_call 37; with_reducible refine (HA.out (w3.alloc (.cells #[.int .i64 0, .int .i64 0, .int .i64 0, .int .i64 0, .int .i64 0, .int .i64 0, .int .i64 0, .int .i64 0, .int .i64 0, .int .i64 0] 52)) ((hb2.trans (hbE.mono (by first | omega | (simp; done) | (simp; omega)))).alloc (by first | omega | (simp; done) | (simp; omega)) _)).mono ?_; go_loud (rintro e w4 ⟨A2, c2, rfl, hb4⟩; have hs4 := hb4.size; have hh4 : w4.heap[w3.heap.size]? = some (.cells #[.int .i64 0, .int .i64 0, .int .i64 0, .int .i64 0, .int .i64 0, .int .i64 0, .int .i64 0, .int .i64 0, .int .i64 0, .int .i64 0] 52) := (hb4.block w3.heap.size (by first | omega | (simp; done) | (simp; omega))).trans (heap_alloc_last w3 (.cells #[.int .i64 0, .int .i64 0, .int .i64 0, .int .i64 0, .int .i64 0, .int .i64 0, .int .i64 0, .int .i64 0, .int .i64 0, .int .i64 0] 52)); have hz4 := zero_at hh4; have hbF : Below (w.heap.size + 2) ((w.alloc (.cells #[.slice S L.length cs, .slice T L.length ct, .int .i64 0, .int .i64 0] 50)).alloc (.cells #[.int .i64 0, .int .i64 0, .int .i64 0, .int .i64 0, .int .i64 0, .int .i64 0, .int .i64 0, .int .i64 0, .int .i64 0, .int .i64 0] 52)) w4 := (hbE.alloc (by first | omega | (simp; done) | (simp; omega)) (.cells #[.int .i64 0, .int .i64 0, .int .i64 0, .int .i64 0, .int .i64 0, .int .i64 0, .int .i64 0, .int .i64 0, .int .i64 0, .int .i64 0] 52)).trans (hb4.mono (by first | omega | (simp; done) | (simp; omega))); have hS4 := HK.out _ hbF) ))
    · exact of_last (w4 := w4) A1 A2 c1 c2 (by first | omega | (simp; done) | (simp; omega)) hbF
    · exact of_set (w4 := w4) A1 A2 c1 c2 (by first | omega | (simp; done) | (simp; omega)) hbF hh4
    · exact of_set (w4 := w4) A1 A2 c1 c2 (by first | omega | (simp; done) | (simp; omega)) hbF hh4
  · intro e a W5 h
    cases e
    case normal =>
      obtain ⟨g5, A1, c1, A2, c2, n1, n2, rfl, hh5, hg5, hb5⟩ := h
      obtain ⟨nc, hnc⟩ : ∃ nc : Int, nc = ((callK L L.length).length : Int) := ⟨_, rfl⟩
      obtain ⟨na, hna⟩ : ∃ na : Int, na = ((applK L L.length).length : Int) := ⟨_, rfl⟩
      rw [← hnc, ← hna] at hh5
      have HNC := Lib.hid hnc
      have HNA := Lib.hid hna
      have HH5 := Lib.hid hh5
      have HB5 := Lib.hid hb5
      have HB2 := Lib.hid hb2
      clear HC HA HSZ HK hbR hbD hSD hsR hsD HZA hh5 hb5 hb2 hnc hna
      go_wp2
      have HG5 := Lib.hid hg5
      have HBX := Lib.hid (show ∀ wr, Below g5 W5 wr → Below (w.heap.size + 2) ((w.alloc (.cells #[.slice S L.length cs, .slice T L.length ct, .int .i64 0, .int .i64 0] 50)).alloc (.cells #[.int .i64 0, .int .i64 0, .int .i64 0, .int .i64 0, .int .i64 0, .int .i64 0, .int .i64 0, .int .i64 0, .int .i64 0, .int .i64 0] 52)) wr from fun wr h => HB5.out.trans (h.mono hg5))
      have HBW := Lib.hid (show ∀ wr, Below g5 W5 wr → Below w.heap.size w wr from fun wr h => HB2.out.trans ((HBX.out wr h).mono (by omega)))
      go_loopw [6] (fun i wr => ∃ k : Nat, k ≤ L.length ∧ i = .int .i64 k ∧ Hid (wr.heap[g5]? = some (.cells (ofArr L k nc na) 52)) ∧ Hid (Below g5 W5 wr)) (fun i _ => L.length - (intOf i).toNat)
      case atStart => exact ⟨0, Nat.zero_le _, rfl, HH5, Lib.hid (Below.refl _ _)⟩
      case round =>
        obtain ⟨k, hk, rfl, HH, HBK⟩ := hrel
        by_cases hlt : k < L.length
        · obtain ⟨x, hx⟩ : ∃ x, L[k]? = some x := ⟨_, List.getElem?_eq_getElem hlt⟩
          obtain ⟨b, o, P, rfl, hbl, hr, hE⟩ := HL.out k x hx
          have c0 : wr.cell? ⟨b, o + k * 28, none⟩ = some (.int .i64 x.kind) := ((HBW.out wr HBK.out).cell (p := ⟨b, o + k * 28, none⟩) hbl).trans (hr 0 _ rfl)
          have HX := Lib.hid hx
          clear hr hE hx
          by_cases hq : x.kind = 5
          · rw [hq] at c0
            have HS := Lib.hid (show (ofArr L k nc na).setIfInBounds 1 (.int .i64 (cntK L 5 k + 1)) = ofArr L (k + 1) nc na by
              unfold ofArr
              rw [cntK_yes (q := 5) HX.out (by omega), cntK_no (q := 6) HX.out (by omega), cntK_no (q := 8) HX.out (by omega), cntK_no (q := 10) HX.out (by omega)]
              rfl)
            have hc := cntK_len L 5 k
            have hw1 : IntKind.i64.wrap (cntK L 5 k + 1) = cntK L 5 k + 1 := wrap_small (by omega) (by omega)
            have s1 : wr.cell? ⟨g5, 1, none⟩ = some (.int .i64 (cntK L 5 k)) := cells_ofA HH.out rfl
            have fr : wr.frozen? ⟨g5, 1, none⟩ = false := frozen_of HH.out 1
            clear hq hc
            go_wp2
            go_roundw
            case rel => exact ⟨k + 1, by omega, by go_num, by rw [← HS.out]; exact setCell_block HH.out _, Lib.hid (below_setCell HBK.out (Nat.le_refl _))⟩
            case measure => simp [intOf]; omega
          by_cases hq6 : x.kind = 6
          · rw [hq6] at c0
            have HS := Lib.hid (show (ofArr L k nc na).setIfInBounds 2 (.int .i64 (cntK L 6 k + 1)) = ofArr L (k + 1) nc na by
              unfold ofArr
              rw [cntK_yes (q := 6) HX.out (by omega), cntK_no (q := 5) HX.out (by omega), cntK_no (q := 8) HX.out (by omega), cntK_no (q := 10) HX.out (by omega)]
              rfl)
            have hc := cntK_len L 6 k
            have hw1 : IntKind.i64.wrap (cntK L 6 k + 1) = cntK L 6 k + 1 := wrap_small (by omega) (by omega)
            have s1 : wr.cell? ⟨g5, 2, none⟩ = some (.int .i64 (cntK L 6 k)) := cells_ofA HH.out rfl
            have fr : wr.frozen? ⟨g5, 2, none⟩ = false := frozen_of HH.out 2
            clear hq6 hc
            go_wp2
            go_roundw
            case rel => exact ⟨k + 1, by omega, by go_num, by rw [← HS.out]; exact setCell_block HH.out _, Lib.hid (below_setCell HBK.out (Nat.le_refl _))⟩
            case measure => simp [intOf]; omega
          by_cases hq8 : x.kind = 8
          · rw [hq8] at c0
            have HS := Lib.hid (show (ofArr L k nc na).setIfInBounds 4 (.int .i64 (cntK L 8 k + 1)) = ofArr L (k + 1) nc na by
              unfold ofArr
              rw [cntK_yes (q := 8) HX.out (by omega), cntK_no (q := 5) HX.out (by omega), cntK_no (q := 6) HX.out (by omega), cntK_no (q := 10) HX.out (by omega)]
              rfl)
            have hc := cntK_len L 8 k
            have hw1 : IntKind.i64.wrap (cntK L 8 k + 1) = cntK L 8 k + 1 := wrap_small (by omega) (by omega)
            have s1 : wr.cell? ⟨g5, 4, none⟩ = some (.int .i64 (cntK L 8 k)) := cells_ofA HH.out rfl
            have fr : wr.frozen? ⟨g5, 4, none⟩ = false := frozen_of HH.out 4
            clear hq8 hc
            go_wp2
            go_roundw
            case rel => exact ⟨k + 1, by omega, by go_num, by rw [← HS.out]; exact setCell_block HH.out _, Lib.hid (below_setCell HBK.out (Nat.le_refl _))⟩
            case measure => simp [intOf]; omega
          by_cases hq10 : x.kind = 10
          · rw [hq10] at c0
            have HS := Lib.hid (show (ofArr L k nc na).setIfInBounds 5 (.int .i64 (cntK L 10 k + 1)) = ofArr L (k + 1) nc na by
              unfold ofArr
              rw [cntK_yes (q := 10) HX.out (by omega), cntK_no (q := 5) HX.out (by omega), cntK_no (q := 6) HX.out (by omega), cntK_no (q := 8) HX.out (by omega)]
              rfl)
            have hc := cntK_len L 10 k
            have hw1 : IntKind.i64.wrap (cntK L 10 k + 1) = cntK L 10 k + 1 := wrap_small (by omega) (by omega)
            have s1 : wr.cell? ⟨g5, 5, none⟩ = some (.int .i64 (cntK L 10 k)) := cells_ofA HH.out rfl
            have fr : wr.frozen? ⟨g5, 5, none⟩ = false := frozen_of HH.out 5
            clear hq10 hc
            go_wp2
            go_roundw
            case rel => exact ⟨k + 1, by omega, by go_num, by rw [← HS.out]; exact setCell_block HH.out _, Lib.hid (below_setCell HBK.out (Nat.le_refl _))⟩
            case measure => simp [intOf]; omega
          · have HS := Lib.hid (show ofArr L k nc na = ofArr L (k + 1) nc na by
              unfold ofArr
              rw [cntK_no (q := 5) HX.out hq, cntK_no (q := 6) HX.out hq6, cntK_no (q := 8) HX.out hq8, cntK_no (q := 10) HX.out hq10])
            go_wp2
            go_roundw
            case rel => exact ⟨k + 1, by omega, by go_num, by rw [← HS.out]; exact HH, HBK⟩
            case measure => simp [intOf]; omega
        · obtain rfl : k = L.length := by omega
          have f0 : wr.cell? ⟨w.heap.size, 0, none⟩ = some (.slice S L.length cs) := ((HBX.out wr HBK.out).cell (p := ⟨w.heap.size, 0, none⟩) (by simp)).trans (by simp)
          have f1 : wr.cell? ⟨w.heap.size, 1, none⟩ = some (.slice T L.length ct) := ((HBX.out wr HBK.out).cell (p := ⟨w.heap.size, 1, none⟩) (by simp)).trans (by simp)
          have f2 : wr.cell? ⟨w.heap.size, 2, none⟩ = some (.int .i64 0) := ((HBX.out wr HBK.out).cell (p := ⟨w.heap.size, 2, none⟩) (by simp)).trans (by simp)
          have f3 : wr.cell? ⟨w.heap.size, 3, none⟩ = some (.int .i64 0) := ((HBX.out wr HBK.out).cell (p := ⟨w.heap.size, 3, none⟩) (by simp)).trans (by simp)
          have HW38 := Lib.hid (refWaits_any A S T c cs ct L wr ((HL.out.below (HBW.out wr HBK.out)).mono (HBW.out wr HBK.out).size) hlen ((HS.out.below (HBW.out wr HBK.out)).mono (HBW.out wr HBK.out).size))
          have HZ4 := Lib.hid (show wr.heap[w.heap.size + 1]? = some (.cells #[.int .i64 0, .int .i64 0, .int .i64 0, .int .i64 0, .int .i64 0, .int .i64 0, .int .i64 0, .int .i64 0, .int .i64 0, .int .i64 0] 52) from ((HBX.out wr HBK.out).block (w.heap.size + 1) (by omega)).trans (by
            have h := heap_alloc_last (w.alloc (.cells #[.slice S L.length cs, .slice T L.length ct, .int .i64 0, .int .i64 0] 50)) (.cells #[.int .i64 0, .int .i64 0, .int .i64 0, .int .i64 0, .int .i64 0, .int .i64 0, .int .i64 0, .int .i64 0, .int .i64 0, .int .i64 0] 52)
            rw [show (w.alloc (.cells #[.slice S L.length cs, .slice T L.length ct, .int .i64 0, .int .i64 0] 50)).heap.size = w.heap.size + 1 by simp] at h
            exact h))
          have HGL := Lib.hid (show g5 < wr.heap.size from (Array.getElem?_eq_some_iff.1 HH.out).1)
          obtain ⟨ca, hca⟩ : ∃ ca, ca = ofArr L L.length nc na := ⟨_, rfl⟩
          have HCA := Lib.hid hca
          have HONE := Lib.hid (show ca.all (·.oneCell') = true by rw [hca]; simp [ofArr, Value.oneCell'])
          have H10 := Lib.hid (show (Tryz.prog.info? 52).map (·.size) = some ca.size by rw [hca]; exact size52)
          have H10' := Lib.hid (show (Tryz.prog.info? 52).map (·.size) = some ca.toList.length by rw [hca]; exact size52)
          have HT10 := Lib.hid (show (10 : Nat) = ca.size by rw [hca]; rfl)
          have HB := Lib.hid (HBW.out wr HBK.out)
          rw [← hca] at HH
          clear hca hlt hk
          go_wp2_with (go_at_call 38; refine HW38.out.mono ?_; rintro e W6 ⟨rfl, hb6⟩; have HB6 := Lib.hid hb6; have HLR := Lib.hid (rangeAt_new ((hb6.block g5 HGL.out).trans HH.out)); have HZ6 := Lib.hid ((hb6.block (w.heap.size + 1) (by have := HGL.out; omega)).trans HZ4.out); clear hb6)
          go_loop [8] (fun i => i = .int .i64 0) (fun _ => 0)
          case atStart => rfl
          case round =>
            subst hrel
            go_wp2_with (first | (with_reducible refine wpList_load_mid rfl 52 (.tmp 5) rfl g5 0 rfl ca.toList _ HLR.out Tryz.underlying52 rfl H10'.out ?_; rw [show ca.toList.toArray = ca from rfl]) | (refine wpList_store_row rfl 52 (.tmp 4) (.tmp 77) rfl (w.heap.size + 1) 52 _ ca rfl rfl HZ6.out H10.out HT10.out HONE.out ?_))
            (try simp only [Exit.inBlock, Exit.then])
            refine bodyPost_ret (results_cell_row rfl _ _ (w.heap.size + 1) 52 ca (0, 0) _ rfl (setRow_heap _ _ _ _ _ _ HZ6.out) Tryz.underlying52 rfl H10.out) rfl ?_
            exact ⟨by rw [HCA.out, HNC.out, HNA.out], below_setRow' (HB.out.trans (HB6.out.mono HB.out.size)) (by omega) _⟩
    all_goals exact h.elim
end Go.Proofs.YtgaimkgaooiieaaGreatDoor
