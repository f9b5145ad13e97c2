/-
  What bytes.Clone and verify.CommittedLog answer in this program: for every trace of at most 1000 events with bodies of at most 2000 bytes.
-/
import Derived.Test.YtjhhdklbiibhdaaGreatDoorAwakeRowB
import Derived.Laws.AppendOwnNone
import Derived.Lib.SliceRun
import Derived.Deep.WholeRow
import Derived.Deep.Heap
namespace Go.Proofs.YtjhhdklbiibhdaaGreatDoor
open Go Go.RowKit

theorem info5 : (Tryz.prog.info? 5).map (fun i => (i.zero, i.size, i.bytes)) = some (some (.int .u8 0), 1, 1) := by kernel_rfl

theorem nil_len {te : Nat} {W : World} {B : Nat} {xs : List Int} (h : BytesAt te W B none xs) : xs.length = 0 := by
  by_cases h0 : 0 < xs.length
  · obtain ⟨b, o, e, _⟩ := h h0
    cases e
  · omega
/-- the cells of bytes, as append asks for them -/
theorem bytes_cells {te : Nat} {W : World} {B : Nat} {a : Addr} {xs : List Int} (h : BytesAt te W B (some a) xs) (j : Nat) (u : Value) (hj : (xs.map (Value.int .u8))[j]? = some u) : W.cell? (a.add j) = some u := by
  have hl : j < xs.length := by simpa using (List.getElem?_eq_some_iff.1 hj).1
  obtain ⟨b, o, e, _, hc⟩ := h (by omega)
  cases e
  rw [Addr.add_mid, hc j hl, ← hj]
  simp [hl]
theorem u8_one (xs : List Int) : ∀ u ∈ xs.map (Value.int .u8), u.oneCell' = true := fun u hu => by
  obtain ⟨x, _, rfl⟩ := List.mem_map.1 hu
  rfl

/-- a store into a row of another type, and a new block, leave bytes of the call's own -/
theorem bytes_set {T : Nat} {w1 : World} {A : Option Addr} {xs : List Int} {g i : Nat} {C : Array Value} {fz : Nat × Nat} (h : BytesAt 5 w1 0 A xs) (hg : w1.heap[g]? = some (.cells C T fz)) (hT : T ≠ 5) (v : Value) (o : Obj) :
    BytesAt 5 ((w1.setCell ⟨g, i, none⟩ v).alloc o) 0 A xs := h.keep (by simp) fun b ho => by
  have hne : b ≠ g := fun e => by
    subst e
    rcases ho.2 with h2 | ⟨cur, fz', h2⟩
    · omega
    · rw [hg] at h2
      simp at h2
      exact hT h2.2.1
  show ((w1.setCell ⟨g, i, none⟩ v).heap.push o)[b]? = w1.heap[b]?
  rw [Array.getElem?_push, if_neg (by simp; exact Nat.ne_of_lt ho.1)]
  exact Deep.blk_setCell_other _ _ _ _ hne
/-- a whole record into the variable that was made last -/
theorem wpList_store_new {P : Program} {ops : Array Oper} {rest : List Oper} {op : Oper} {a : Act} {w : World} {Q : Exit → Act → World → Prop} (hgd : op.guard = none) (ty : TypeId) (x y : Operand) (ho : op.op = .store ty x y)
    (c cells : Array Value) (hx : a.eval x = .pointer (some ⟨w.heap.size, 0, none⟩)) (hy : a.eval y = .agg cells)
    (hi : (P.info? ty).map (·.size) = some cells.size) (hs : c.size = cells.size) (h1 : cells.all (·.oneCell') = true)
    (h : wpList P ops Q rest (a.put op.dst undef) (w.alloc (.cells cells ty))) : wpList P ops Q (op :: rest) a (w.alloc (.cells c ty)) :=
  wpList_plain hgd fun K hK => by
    unfold Oper.wp execOp
    simp only [ho, hx, hy, Sem.run_bind, run_storeAt_new w ty c cells hi hs h1, Sem.run_pure, Result.andThen_ok]
    exact hK _ _ h

set_option maxHeartbeats 2000000 in
set_option maxRecDepth 100000 in
theorem clone_any (A : Option Addr) (c : Nat) (xs : List Int) (w : World) (hA : BytesAt 5 w w.heap.size A xs) (hn : A = none → c = 0) (hlen : xs.length ≤ 2000) :
    Calls Tryz.prog 36 #[.slice A xs.length c] w fun e w' => ∃ A' c', e = .returned (.slice A' xs.length c') ∧ BytesAt 5 w' 0 A' xs ∧ (A' = none → c' = 0) ∧ Below w.heap.size w w' := by
  obtain ⟨i0, hi, hz0, hz1, hz2⟩ := info_parts info5
  have q34 : ∀ (w : World) (a : Option Addr) (n c n' c' : Nat), (binOp .eql 34 (.slice a n c) (.slice none n' c')).run Tryz.prog w = .ok (.bool a.isNone) w := fun w a n c n' c' => Lib.run_eql_slice_nil w _ _ a n c n' c' Tryz.underlying34
  have HA := Lib.hid hA
  cases A with
  | none =>
    have h0 := nil_len hA
    have H0 := Lib.hid h0
    obtain ⟨n, hn'⟩ : ∃ n, n = xs.length := ⟨_, rfl⟩
    rw [← hn']
    have HN := Lib.hid hn'
    clear hA hn h0 hn' hlen
    go_enter Tryz.func36, Tryz.ntmps36
    go_wp2
    go_ret
    exact ⟨none, 0, by rw [HN.out, H0.out]; rfl, fun h => by have := H0.out; omega, fun _ => rfl, Below.refl _ _⟩
  | some a =>
    clear hA hn
    have hown0 := World.ownsRow_made (e := 5) (size := 1) w #[] 0 (Nat.le_refl _) (Nat.zero_le _) rfl
    have hx : (BytesAt 5 (w.alloc (.cells #[] 5)) w.heap.size (some a) xs) := HA.out.keep (by simp) fun b ho => by
      show (w.heap.push _)[b]? = w.heap[b]?
      rw [Array.getElem?_push]
      simp [Nat.ne_of_lt ho.1]
    have HX := Lib.hid hx
    clear hx
    go_enter Tryz.func36, Tryz.ntmps36
    go_wp2_with (at_builtin; (refine wpList_append_own _ rfl _ _ 34 rfl w.heap.size 5 i0 _ 1 1 Tryz.underlying34 hi hz0 hz1 hz2 rfl (by decide) _ _ _ rfl hown0 a xs.length c (xs.map (Value.int .u8)) rfl (by simp) (bytes_cells HX.out) (u8_one xs) (by unfold maxLen; omega) (by omega) (by simp) ?_))
    intro v' w2 hown' hgrow _
    have hb2 := ((Below.refl _ w).alloc (Nat.le_refl _) (.cells #[] 5)).grown hgrow (by simp) (own_lt hown0)
    obtain ⟨A2, cap2, rfl, hB2, hn2⟩ := BytesAt.of_own (te := 5) (B' := 0) (by simpa using hown')
    have HB2 := Lib.hid hB2
    clear hown' hgrow hown0 hB2
    go_wp2
    go_ret
    exact ⟨A2, cap2, rfl, HB2.out, hn2, hb2⟩
end Go.Proofs.YtjhhdklbiibhdaaGreatDoor
