/-
  What the law's events answers in this program, a copy of the trace: for every trace of at most 1000 events with bodies of at most 2000 bytes.
-/
import Derived.Test.YtjhhdklbiibhdaaGreatDoorAwakeRowD
import Derived.Great.BuildSlice
namespace Go.Proofs.YtjhhdklbiibhdaaGreatDoor
open Go Go.RowKit

/-- append([]byte{}, b...): new bytes -/
theorem append_bytes {ops : Array Oper} {rest : List Oper} {o : Oper} {a : Act} {w : World} {Q : Exit → Act → World → Prop} (hgd : o.guard = none) (s x : Operand)
    (ho : o.op = .call { callee := .builtin .append, args := #[s, x], argTypes := #[34, 34] }) {A : Option Addr} {c g : Nat} {xs : List Int} (hg : g = w.heap.size)
    (hs : a.eval s = .slice (some ⟨g, 0, none⟩) 0 0) (hx : a.eval x = .slice A xs.length c) (hA : BytesAt 5 w w.heap.size A xs) (hn : A = none → c = 0) (hlen : xs.length ≤ 2000)
    (h : ∀ A1 c1 w2, BytesAt 5 w2 0 A1 xs → (A1 = none → c1 = 0) → Below w.heap.size w w2 → wpList Tryz.prog ops Q rest (a.put o.dst (.slice A1 xs.length c1)) w2) : wpList Tryz.prog ops Q (o :: rest) a (w.alloc (.cells #[] 5)) := by
  subst hg
  obtain ⟨i0, hi, hz0, hz1, hz2⟩ := info_parts info5
  have hown0 := World.ownsRow_made (e := 5) (size := 1) w #[] 0 (Nat.le_refl _) (Nat.zero_le _) rfl
  have hb0 : Below w.heap.size w (w.alloc (.cells #[] 5)) := (Below.refl _ w).alloc (Nat.le_refl _) _
  cases A with
  | none =>
    have h0 := nil_len hA
    have hc := hn rfl
    subst hc
    rw [h0] at hx
    refine wpList_append_own_none hgd s x 34 ho w.heap.size 5 i0 1 Tryz.underlying34 hi _ _ _ hs hown0 hx ?_
    have := h (some ⟨w.heap.size, 0, none⟩) 0 _ (fun h' => by omega) (fun e => by cases e) hb0
    rwa [h0] at this
  | some ad =>
    refine wpList_append_own _ hgd s x 34 ho w.heap.size 5 i0 _ 1 1 Tryz.underlying34 hi hz0 hz1 hz2 rfl (by decide) _ _ _ hs hown0 ad xs.length c (xs.map (Value.int .u8)) hx (by simp) (bytes_cells (hA.below hb0)) (u8_one xs) (by unfold maxLen; omega) (by omega) (by simp) ?_
    intro v' w2 hown' hgrow _
    obtain ⟨A2, cap2, rfl, hB2, hn2⟩ := BytesAt.of_own (te := 5) (B' := 0) (by simpa using hown')
    exact h A2 cap2 w2 hB2 hn2 (hb0.grown hgrow (by simp) (own_lt hown0))

/-- a slice literal of one record -/
theorem build_one {P : Program} {ops : Array Oper} {rest : List Oper} {o : Oper} {a : Act} {w : World} {Q : Exit → Act → World → Prop} (hg : o.guard = none) (t e : TypeId) (x : Operand) (ho : o.op = .buildSlice t 1 #[(0, x)])
    (cells : Array Value) {ie : TypeInfo} {z : Value} {S : Nat} (hx : a.eval x = .agg cells) (hu : P.underlying t = some (.slice e)) (hie : P.info? e = some ie) (hz : ie.zero = some z) (hs : ie.size = S) (hc : cells.size = S) (h0 : 0 < S) (h1 : S ≤ 1000)
    (h : wpList P ops Q rest (a.put o.dst (.slice (some ⟨w.heap.size, 0, none⟩) 1 1)) (w.alloc (.cells cells e))) : wpList P ops Q (o :: rest) a w := by
  refine wpList_buildSlice hg t e 1 #[(0, x)] ho cells ie z hu hie hz (by rw [hs]; omega) (by rw [hs]; omega) ?_ h
  have := Great.fill_whole (s := S) h0 [.agg cells] ((Array.range (1 * ie.size)).map (z.cells[· % z.cells.size]!)) (fun v hv => by
    obtain rfl := List.mem_singleton.1 hv
    exact hc) (by simp [hs])
  simpa [hx, hs, Value.cells] using this

theorem rangeAt_new {W : World} {g : Nat} {C : Array Value} {fz : Nat × Nat} {t : TypeId} (h : W.heap[g]? = some (.cells C t fz)) : W.rangeAt g 0 C.toList := fun j v hv => by
  unfold World.cell?
  simp only [h]
  simpa using hv
theorem setCell_block {W : World} {g i : Nat} {C : Array Value} {t : TypeId} {fz : Nat × Nat} (h : W.heap[g]? = some (.cells C t fz)) (v : Value) : (W.setCell ⟨g, i, none⟩ v).heap[g]? = some (.cells (C.setIfInBounds i v) t fz) := by
  simp [World.setCell, Array.getElem?_modify, h]

/-- what lies where, behind the new bytes and the store -/
theorem round_copy {wr w2 : World} {ca : Array Value} {B A1 : Option Addr} {cap c1 b0 : Nat} {v : Value} {E : List EvD} {tl : List Value} (x : EvD) (hca : ca = (evCells x B cap tl).toArray ∧ tl.length = 19 ∧ ∀ v ∈ tl, v.oneCell' = true)
    (hb1 : Below (wr.alloc (.cells ca 46)).heap.size (wr.alloc (.cells ca 46)) w2) (hA1 : BytesAt 5 w2 0 A1 x.body) (hn1 : A1 = none → c1 = 0) (hrow : OwnR 5 46 28 (EvC 5) wr b0 v E) :
    Below wr.heap.size wr ((w2.setCell ⟨wr.heap.size, 8, none⟩ (.slice A1 x.body.length c1)).alloc (.cells (evCells x A1 c1 tl).toArray 46)) ∧
    OwnR 5 46 28 (EvC 5) ((w2.setCell ⟨wr.heap.size, 8, none⟩ (.slice A1 x.body.length c1)).alloc (.cells (evCells x A1 c1 tl).toArray 46)) b0 v E ∧
    EvC 5 ((w2.setCell ⟨wr.heap.size, 8, none⟩ (.slice A1 x.body.length c1)).alloc (.cells (evCells x A1 c1 tl).toArray 46)) b0 x (evCells x A1 c1 tl) ∧
    (w2.setCell ⟨wr.heap.size, 8, none⟩ (.slice A1 x.body.length c1)).rangeAt wr.heap.size 0 (evCells x A1 c1 tl) ∧
    w2.cell? ⟨wr.heap.size, 8, none⟩ = some (.slice B x.body.length cap) ∧ w2.frozen? ⟨wr.heap.size, 8, none⟩ = false := by
  obtain ⟨rfl, htl, hone⟩ := hca
  have hbw : Below wr.heap.size wr (wr.alloc (.cells (evCells x B cap tl).toArray 46)) := (Below.refl _ wr).alloc (Nat.le_refl _) _
  have hb2 := hbw.trans (hb1.mono hbw.size)
  have hs := hb2.size
  have hB3 := (hb2.setCell (p := ⟨wr.heap.size, 8, none⟩) (Nat.le_refl _) (.slice A1 x.body.length c1)).alloc (by simp; omega) (.cells (evCells x A1 c1 tl).toArray 46)
  have hg : w2.heap[wr.heap.size]? = some (.cells (evCells x B cap tl).toArray 46) := (hb1.block _ (by simp)).trans (heap_alloc_last wr _)
  have hr := rangeAt_new (setCell_block (i := 8) hg (.slice A1 x.body.length c1))
  refine ⟨hB3, ownEv_below hrow hB3, ⟨A1, c1, tl, rfl, htl, hone, (bytes_set hA1 hg (by decide) _ _).lower (Nat.zero_le _), hn1⟩, ?_, rangeAt_new hg 8 _ (by simp [evCells]), ?_⟩
  · have e : ((evCells x B cap tl).toArray.setIfInBounds 8 (.slice A1 x.body.length c1)).toList = evCells x A1 c1 tl := by simp [evCells]
    rw [e] at hr
    exact hr
  · unfold World.frozen?
    simp [hg]

theorem take_snoc {α : Type} {L : List α} {k : Nat} {x : α} (hx : L[k]? = some x) : L.take (k + 1) = L.take k ++ [x] := by
  obtain ⟨hk, rfl⟩ := List.getElem?_eq_some_iff.1 hx
  rw [List.take_succ_eq_append_getElem hk]

theorem info46 : (Tryz.prog.info? 46).map (fun i => (i.zero, i.size, i.bytes)) = some (some (.agg #[.int .i64 0, .int .i64 0, .int .i64 0, .int .i64 0, .int .i64 0, .int .i64 0, .int .i64 0, .int .i64 0, .slice none 0 0, .int .i64 0, .int .i64 0, .int .i64 0, .int .i64 0, .int .i64 0, .int .i64 0, .int .i64 0, .int .i64 0, .int .i64 0, .int .i64 0, .int .i64 0, .int .i64 0, .int .i64 0, .int .i64 0, .int .i64 0, .int .i64 0, .slice none 0 0, .slice none 0 0, .slice none 0 0]), 28, 288) := by kernel_rfl

set_option maxHeartbeats 4000000 in
set_option maxRecDepth 100000 in
theorem events_any (A : Option Addr) (c : Nat) (L : List EvD) (w : World) (hL : RowIn 5 28 (EvC 5) w A L) (hlen : L.length ≤ 1000) (hbody : ∀ x ∈ L, x.body.length ≤ 2000) :
    Calls Tryz.prog 13 #[.slice A L.length c] w fun e w' => ∃ v, e = .returned v ∧ OwnR 5 46 28 (EvC 5) w' w.heap.size v L ∧ Below w.heap.size w w' := by
  obtain ⟨i0, hi, hz0, hz1, hz2⟩ := info_parts info46
  have HL := Lib.hid hL
  have HBD := Lib.hid hbody
  have HZ0 := Lib.hid hz0
  clear hL hbody hz0
  go_enter Tryz.func13, Tryz.ntmps13
  go_wp2
  go_loopw [3, 8] (fun v i wr => ∃ k : Nat, k ≤ L.length ∧ i = .int .i64 k ∧ OwnR 5 46 28 (EvC 5) wr w.heap.size v (L.take k) ∧ Below w.heap.size w wr) (fun _ i _ => L.length - (intOf i).toNat)
  case atStart => exact ⟨0, Nat.zero_le _, rfl, OwnR.nil _ _, Below.refl _ _⟩
  case round =>
    obtain ⟨k, hk, rfl, hrow, hb⟩ := hrel
    by_cases hlt : k < L.length
    · obtain ⟨x, hx⟩ : ∃ x, L[k]? = some x := ⟨_, List.getElem?_eq_getElem hlt⟩
      obtain ⟨b, off, cs, rfl, hbl, hl, hr, B, cap, tl, hcse, htl, hone, hby, hnil⟩ := HL.out k x hx
      have hrr : wr.rangeAt b (off + k * 28) cs := fun j v hv => (hb.cell (p := ⟨b, off + k * 28 + j, none⟩) hbl).trans (hr j v hv)
      have HRR := Lib.hid hrr
      have H28 := Lib.hid (show (Tryz.prog.info? 46).map (·.size) = some cs.length by rw [hl]; exact size46)
      have H28' := Lib.hid (show (Tryz.prog.info? 46).map (·.size) = some cs.toArray.size by rw [List.size_toArray, hl]; exact size46)
      have H28T := Lib.hid (show ∀ A1 c1, (Tryz.prog.info? 46).map (·.size) = some (evCells x A1 c1 tl).length from fun A1 c1 => by rw [show (evCells x A1 c1 tl).length = tl.length + 9 from rfl, htl]; exact size46)
      have HSZT := Lib.hid (show ∀ A1 c1, (evCells x A1 c1 tl).toArray.size = 28 from fun A1 c1 => by rw [List.size_toArray, show (evCells x A1 c1 tl).length = tl.length + 9 from rfl, htl])
      have HLT := Lib.hid (show ∀ A1 c1, (evCells x A1 c1 tl).length = 1 * 28 from fun A1 c1 => by rw [show (evCells x A1 c1 tl).length = tl.length + 9 from rfl, htl])
      have HSZ := Lib.hid (show (28 : Nat) = cs.toArray.size by rw [List.size_toArray, hl])
      have HONE := Lib.hid (show cs.toArray.all (·.oneCell') = true from all_oneCell_toArray (by rw [hcse]; exact evCells_one hone))
      have q8 : cs.toArray[8]? = some (.slice B x.body.length cap) := by rw [hcse]; rfl
      have HTL := Lib.hid (show tl.length = 19 ∧ ∀ v ∈ tl, v.oneCell' = true from ⟨htl, hone⟩)
      have HCA8 := Lib.hid (show cs.toArray = (evCells x B cap tl).toArray ∧ tl.length = 19 ∧ ∀ v ∈ tl, v.oneCell' = true from ⟨by rw [hcse], htl, hone⟩)
      obtain ⟨ca, hca⟩ : ∃ ca, ca = cs.toArray := ⟨_, rfl⟩
      rw [← hca] at q8 H28' HSZ HONE HCA8
      have HCA := Lib.hid hca
      have hbyr : BytesAt 5 wr w.heap.size B x.body := hby.below hb
      have HBW := Lib.hid (show BytesAt 5 (wr.alloc (.cells ca 46)) (wr.alloc (.cells ca 46)).heap.size B x.body from (hbyr.top.below ((Below.refl _ wr).alloc (Nat.le_refl _) _)).top)
      have hbl2 : x.body.length ≤ 2000 := HBD.out x (List.mem_of_getElem? hx)
      have HX := Lib.hid hx
      have HNIL := Lib.hid hnil
      have HG1 := Lib.hid (show wr.heap.size + 1 = (wr.alloc (.cells ca 46)).heap.size by simp)
      have hn : (L.take k).length = k := by rw [List.length_take]; omega
      have HROW := Lib.hid hrow
      obtain ⟨css, hown, hcl, hcs, hC⟩ := hrow
      obtain ⟨A', cap', rfl⟩ := shape_of hown
      rw [hn] at HROW ⊢
      have HN := Lib.hid hn
      have hsz := hb.size
      clear hx hr hrr hby hnil hone htl hbyr hl hcl hcs hC hown hcse hca hn
      go_wp2_with (first | (with_reducible refine wpList_load_mid rfl 46 (.tmp 10) rfl b (off + k * 28) rfl cs _ HRR.out Tryz.underlying46 rfl H28.out ?_; rw [← HCA.out]) | (refine wpList_store_new rfl 46 (.tmp 5) (.tmp 11) rfl _ ca rfl rfl H28'.out HSZ.out HONE.out ?_) | (at_builtin; go_loud (refine append_bytes (g := wr.heap.size + 1) rfl (.tmp 12) (.tmp 15) rfl HG1.out rfl rfl HBW.out HNIL.out hbl2 ?_); go_loud (intro A1 c1 w2 hA1 hn1 hb1; obtain ⟨hB3, hR3, hE3, hl2, cc8, ff8⟩ := round_copy x HCA8.out hb1 hA1 hn1 HROW.out; have HEV := Lib.hid hE3; obtain ⟨css, hown1, hcl, hcs, hC⟩ := hR3; rw [HN.out] at hown1; have HCL := Lib.hid hcl; have HCS := Lib.hid hcs; have HC := Lib.hid hC; have HCN := Lib.hid (cells_new (w2.setCell ⟨wr.heap.size, 8, none⟩ (.slice A1 x.body.length c1)) (evCells x A1 c1 tl) 46); have HONT := Lib.hid (evCells_one (x := x) (B := A1) (cap := c1) HTL.out.2); clear hcl hcs hC; have HL2 := Lib.hid hl2; clear hE3 hl2 hA1 hn1 hb1)) | (with_reducible refine wpList_load_mid rfl 46 (.tmp 5) rfl wr.heap.size 0 rfl (evCells x A1 c1 tl) _ HL2.out Tryz.underlying46 rfl (H28T.out _ _) ?_) | (refine build_one rfl 22 46 (.tmp 20) rfl (evCells x A1 c1 tl).toArray rfl Tryz.underlying22 hi HZ0.out hz1 (HSZT.out _ _) (by decide) (by decide) ?_) | (at_builtin; go_loud (refine wpList_append_own _ rfl (.tmp 19) (.tmp 21) 22 rfl w.heap.size 46 i0 _ 28 288 Tryz.underlying22 hi HZ0.out hz1 hz2 rfl (by decide) _ _ _ rfl hown1 ⟨(w2.setCell ⟨wr.heap.size, 8, none⟩ (.slice A1 x.body.length c1)).heap.size, 0, none⟩ 1 1 (evCells x A1 c1 tl) rfl (HLT.out _ _) HCN.out HONT.out (by unfold maxLen; omega) (by omega) (by have := hB3.size; omega) ?_); intro v' w3 hown' hgrow _))
      have hb2 := (hb.trans (hB3.mono hsz)).grown hgrow (by have := hB3.size; omega) (own_lt hown1)
      have R := OwnR.snoc (te := 5) (C := EvC 5) (L := L.take k) (x := x) (cs := evCells x A1 c1 tl) (evC_stays 5) (by decide) HN.out.symm hown1 HCL.out HCS.out HC.out HEV.out (by rw [HLT.out]) hown' hgrow
      obtain ⟨A2, cap2, rfl⟩ := shape_of hown'
      have HR := Lib.hid R
      clear hown1 hgrow hown' R
      go_wp2
      go_roundw
      case rel =>
        refine ⟨k + 1, by omega, by go_num, ?_, hb2⟩
        rw [take_snoc HX.out]
        exact HR.out
      case measure => simp [intOf]; omega
    · obtain rfl : k = L.length := by omega
      have hT : L.take L.length = L := List.take_length
      rw [hT] at hrow
      clear hT hlt
      have H := Lib.hid hrow
      obtain ⟨css, hown, _, _, _⟩ := hrow
      obtain ⟨A', cap', rfl⟩ := shape_of hown
      clear hown
      go_wp2
      go_ret
      exact ⟨_, rfl, H.out, hb⟩
end Go.Proofs.YtjhhdklbiibhdaaGreatDoor
