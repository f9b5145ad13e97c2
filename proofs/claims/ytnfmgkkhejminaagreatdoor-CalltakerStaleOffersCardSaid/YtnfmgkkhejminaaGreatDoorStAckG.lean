/-
  The reference's encoding of a line, for every line within the reach: samaritanref05.Int, Put, All and samaritanref16.Bytes.
-/
import Derived.Test.YtnfmgkkhejminaaGreatDoorProg
import Derived.WalkKit
import Derived.WalkSmall
import Derived.OwnWalk
import Derived.Lib.Hide
import Derived.Lib.UnsafeStr
import Derived.Lib.AppendStr
import Derived.Deep.RegionLaw
import Derived.BigQuiet
import Derived.Lib.SmallJoins
namespace Go.Proofs.YtnfmgkkhejminaaGreatDoor.Wi
/-- seven bits a byte; all bytes but the last one bear 128 -/
def venc (u : Nat) : List UInt8 := if h : u < 128 then [UInt8.ofNat u] else UInt8.ofNat (u % 128 + 128) :: venc (u / 128)
  termination_by u
theorem venc_small {u : Nat} (h : u < 128) : venc u = [UInt8.ofNat u] := by rw [venc, dif_pos h]
theorem venc_big {u : Nat} (h : ¬ u < 128) : venc u = UInt8.ofNat (u % 128 + 128) :: venc (u / 128) := by rw [venc, dif_neg h]
theorem venc_len : ∀ (k u : Nat), 1 ≤ k → u < 128 ^ k → (venc u).length ≤ k
  | 0, _, h, _ => by omega
  | k + 1, u, _, h => by
    by_cases hs : u < 128
    · rw [venc_small hs]
      simp
    · rw [venc_big hs]
      have hk : 1 ≤ k := by
        rcases Nat.eq_zero_or_pos k with h0 | h0
        · subst h0; simp at h; omega
        · exact h0
      have := venc_len k (u / 128) hk (by rw [Nat.pow_succ] at h; exact Nat.div_lt_of_lt_mul (by rw [Nat.mul_comm]; exact h))
      simp
      omega
theorem venc_len10 {u : Nat} (h : u < 18446744073709551616) : (venc u).length ≤ 10 := venc_len 10 u (by decide) (Nat.lt_of_lt_of_le h (by decide))
theorem venc_pos (u : Nat) : 0 < (venc u).length := by
  by_cases hs : u < 128
  · rw [venc_small hs]; simp
  · rw [venc_big hs]; simp
/-- zigzag -/
def zz (n : Int) : Nat := if n < 0 then 2 * (-(n + 1)).toNat + 1 else 2 * n.toNat
theorem zz_lt {n : Int} (h0 : -9223372036854775808 ≤ n) (h1 : n ≤ 9223372036854775807) : zz n < 18446744073709551616 := by
  unfold zz
  split <;> omega
def encI (n : Int) : List UInt8 := venc (zz n)
/-- a list of numbers -/
def encL (l : List Int) : List UInt8 := encI l.length ++ l.flatMap encI
def encS (s : List UInt8) : List UInt8 := encI s.length ++ s
end Go.Proofs.YtnfmgkkhejminaaGreatDoor.Wi

namespace Go.Proofs.YtnfmgkkhejminaaGreatDoor
open Go Go.RowKit Wi
theorem info_parts {t : TypeId} {z : Value} {n b : Nat} (h : (Tryz.prog.info? t).map (fun i => (i.zero, i.size, i.bytes)) = some (some z, n, b)) : ∃ i, Tryz.prog.info? t = some i ∧ i.zero = some z ∧ i.size = n ∧ i.bytes = b := by
  cases hi : Tryz.prog.info? t with
  | none => simp [hi] at h
  | some i =>
    simp [hi] at h
    exact ⟨i, rfl, h.1, h.2.1, h.2.2⟩
theorem info5 : (Tryz.prog.info? 5).map (fun i => (i.zero, i.size, i.bytes)) = some (some (.int .u8 0), 1, 1) := by kernel_rfl
/-- a new row of bytes -/
def BytesRet (w : World) (l : List UInt8) (e : Ending) (w' : World) : Prop := ∃ v, e = .returned v ∧ w'.ownsRow w.heap.size 5 1 v l.length (Lib.byteCells l) ∧ Below w.heap.size w w'
theorem owns_empty (w : World) (B : Nat) (hB : B ≤ w.heap.size) (e : TypeId) : (w.alloc (.cells #[] e)).ownsRow B e 1 (.slice (some ⟨w.heap.size, 0, none⟩) 0 0) 0 [] :=
  ⟨rfl, .inr ⟨w.heap.size, 0, #[], rfl, hB, heap_alloc_new w _, Nat.le_refl _, Nat.zero_le _, rfl, rfl⟩⟩
theorem byteCells_snoc (l : List UInt8) (b : UInt8) : Lib.byteCells (l ++ [b]) = Lib.byteCells l ++ [.int .u8 b.toNat] := by simp [Lib.byteCells]
theorem u8_nat (u : Nat) (h : u < 256) : ((UInt8.ofNat u).toNat : Int) = u := by
  simp
  omega
set_option maxHeartbeats 4000000 in
set_option maxRecDepth 100000 in
theorem refInt_pos (n : Int) (w : World) (h0 : -9223372036854775808 ≤ n) (h1 : n ≤ 9223372036854775807) (hn : ¬ n < 0) : Calls Tryz.prog 162 #[.int .i64 n] w (BytesRet w (encI n)) := by
  obtain ⟨i0, hi, hz0, hz1, hz2⟩ := info_parts info5
  have hE := owns_empty w w.heap.size (Nat.le_refl _) 5
  have hbE : Below w.heap.size w (w.alloc (.cells #[] 5)) := (Below.refl _ _).alloc (Nat.le_refl _) _
  have HE := Lib.hid hE
  have HB := Lib.hid hbE
  clear hE hbE
  go_enter Tryz.func162, Tryz.ntmps162
  go_wp2
  go_loopw [3, 4] (fun x v wr => ∃ (u : Nat) (l : List UInt8), x = .int .u64 u ∧ u < 18446744073709551616 ∧ l ++ venc u = encI n ∧ wr.ownsRow w.heap.size 5 1 v l.length (Lib.byteCells l) ∧ Below w.heap.size w wr) (fun x _ _ => (intOf x).toNat)
  case atStart =>
    refine ⟨zz n, [], ?_, zz_lt h0 h1, rfl, HE.out, HB.out⟩
    congr 1
    unfold zz
    rw [if_neg (by omega)]
    omega
  case round =>
    obtain ⟨u, l, rfl, hu, hl, hown, hb⟩ := hrel
    have hlen : l.length + (venc u).length = (encI n).length := by rw [← hl]; simp
    have h10 := venc_len10 (zz_lt h0 h1)
    have hl10 : l.length ≤ 10 := by
      unfold encI at hlen
      omega
    have hsz := hb.size
    by_cases hs : u < 128
    · have d1 : ¬ ((u : Int) ≥ 128) := by omega
      have hown1 := hown.alloc (.cells #[.int .u8 u] 5)
      have hbA : Below w.heap.size w (wr.alloc (.cells #[.int .u8 u] 5)) := hb.alloc hb.size _
      have HL := Lib.hid hl
      clear hl hlen h10
      go_wp2_with (at_builtin; (refine wpList_append_own _ rfl _ _ 30 rfl w.heap.size 5 i0 _ 1 1 Tryz.underlying30 hi hz0 hz1 hz2 rfl (by decide) _ _ _ rfl hown1 ⟨wr.heap.size, 0, none⟩ 1 1 [.int .u8 u] rfl rfl ?c1 ?c2 ?c3 ?c4 ?c5 ?_))
      try case c1 =>
        intro j x hj
        match j, hj with
        | 0, hj => simp at hj; subst hj; simp [Addr.add]
        | j + 1, hj => simp at hj
      case c2 => first | rfl | (intro x hx; simp at hx; rcases hx with rfl; rfl)
      case c3 => unfold maxLen; omega
      case c4 => omega
      case c5 => first | omega | (simp; omega)
      intro v' w2 hown' hgrow _
      have hb2 := hbA.grown hgrow (by simp; omega) (fun g hg => (hown1.lt g hg).1)
      clear hown1 hgrow
      have H := Lib.hid (show w2.ownsRow w.heap.size 5 1 v' (encI n).length (Lib.byteCells (encI n)) by
        rw [← HL.out, venc_small hs, byteCells_snoc, List.length_append, u8_nat u (by omega)]
        exact hown')
      clear hown'
      go_wp2
      go_ret
      exact ⟨_, rfl, H.out, hb2⟩
    · have d1 : (u : Int) ≥ 128 := by omega
      have hown1 := hown.alloc (.cells #[.int .u8 ((u : Int) % 128 + 128)] 5)
      have hbA : Below w.heap.size w (wr.alloc (.cells #[.int .u8 ((u : Int) % 128 + 128)] 5)) := hb.alloc hb.size _
      have HL := Lib.hid hl
      clear hl hlen h10
      go_wp2_with (at_builtin; (refine wpList_append_own _ rfl _ _ 30 rfl w.heap.size 5 i0 _ 1 1 Tryz.underlying30 hi hz0 hz1 hz2 rfl (by decide) _ _ _ rfl hown1 ⟨wr.heap.size, 0, none⟩ 1 1 [.int .u8 ((u : Int) % 128 + 128)] rfl rfl ?e1 ?e2 ?e3 ?e4 ?e5 ?_))
      try case e1 =>
        intro j x hj
        match j, hj with
        | 0, hj => simp at hj; subst hj; simp [Addr.add]
        | j + 1, hj => simp at hj
      case e2 => first | rfl | (intro x hx; simp at hx; rcases hx with rfl; rfl)
      case e3 => unfold maxLen; omega
      case e4 => omega
      case e5 => first | omega | (simp; omega)
      intro v' w2 hown' hgrow _
      have hb2 := hbA.grown hgrow (by simp; omega) (fun g hg => (hown1.lt g hg).1)
      clear hown1 hgrow
      go_wp2
      go_roundw
      case rel =>
        refine ⟨u / 128, l ++ [UInt8.ofNat (u % 128 + 128)], by congr 1, by omega, ?_, ?_, hb2⟩
        · rw [List.append_assoc, List.singleton_append, ← venc_big hs]
          exact HL.out
        · rw [byteCells_snoc, List.length_append, u8_nat _ (by omega)]
          have e : ((u % 128 + 128 : Nat) : Int) = (u : Int) % 128 + 128 := by omega
          rw [e]
          exact hown'
      case measure => simp [intOf]; omega
set_option maxHeartbeats 4000000 in
set_option maxRecDepth 100000 in
theorem refInt_neg (n : Int) (w : World) (h0 : -9223372036854775808 ≤ n) (h1 : n ≤ 9223372036854775807) (hn : n < 0) : Calls Tryz.prog 162 #[.int .i64 n] w (BytesRet w (encI n)) := by
  obtain ⟨i0, hi, hz0, hz1, hz2⟩ := info_parts info5
  have hE := owns_empty w w.heap.size (Nat.le_refl _) 5
  have hbE : Below w.heap.size w (w.alloc (.cells #[] 5)) := (Below.refl _ _).alloc (Nat.le_refl _) _
  have HE := Lib.hid hE
  have HB := Lib.hid hbE
  clear hE hbE
  go_enter Tryz.func162, Tryz.ntmps162
  go_wp2
  go_loopw [3, 4] (fun x v wr => ∃ (u : Nat) (l : List UInt8), x = .int .u64 u ∧ u < 18446744073709551616 ∧ l ++ venc u = encI n ∧ wr.ownsRow w.heap.size 5 1 v l.length (Lib.byteCells l) ∧ Below w.heap.size w wr) (fun x _ _ => (intOf x).toNat)
  case atStart =>
    refine ⟨zz n, [], ?_, zz_lt h0 h1, rfl, HE.out, HB.out⟩
    congr 1
    unfold zz
    rw [if_pos (by omega)]
    omega
  case round =>
    obtain ⟨u, l, rfl, hu, hl, hown, hb⟩ := hrel
    have hlen : l.length + (venc u).length = (encI n).length := by rw [← hl]; simp
    have h10 := venc_len10 (zz_lt h0 h1)
    have hl10 : l.length ≤ 10 := by
      unfold encI at hlen
      omega
    have hsz := hb.size
    by_cases hs : u < 128
    · have d1 : ¬ ((u : Int) ≥ 128) := by omega
      have hown1 := hown.alloc (.cells #[.int .u8 u] 5)
      have hbA : Below w.heap.size w (wr.alloc (.cells #[.int .u8 u] 5)) := hb.alloc hb.size _
      have HL := Lib.hid hl
      clear hl hlen h10
      go_wp2_with (at_builtin; (refine wpList_append_own _ rfl _ _ 30 rfl w.heap.size 5 i0 _ 1 1 Tryz.underlying30 hi hz0 hz1 hz2 rfl (by decide) _ _ _ rfl hown1 ⟨wr.heap.size, 0, none⟩ 1 1 [.int .u8 u] rfl rfl ?c1 ?c2 ?c3 ?c4 ?c5 ?_))
      try case c1 =>
        intro j x hj
        match j, hj with
        | 0, hj => simp at hj; subst hj; simp [Addr.add]
        | j + 1, hj => simp at hj
      case c2 => first | rfl | (intro x hx; simp at hx; rcases hx with rfl; rfl)
      case c3 => unfold maxLen; omega
      case c4 => omega
      case c5 => first | omega | (simp; omega)
      intro v' w2 hown' hgrow _
      have hb2 := hbA.grown hgrow (by simp; omega) (fun g hg => (hown1.lt g hg).1)
      clear hown1 hgrow
      have H := Lib.hid (show w2.ownsRow w.heap.size 5 1 v' (encI n).length (Lib.byteCells (encI n)) by
        rw [← HL.out, venc_small hs, byteCells_snoc, List.length_append, u8_nat u (by omega)]
        exact hown')
      clear hown'
      go_wp2
      go_ret
      exact ⟨_, rfl, H.out, hb2⟩
    · have d1 : (u : Int) ≥ 128 := by omega
      have hown1 := hown.alloc (.cells #[.int .u8 ((u : Int) % 128 + 128)] 5)
      have hbA : Below w.heap.size w (wr.alloc (.cells #[.int .u8 ((u : Int) % 128 + 128)] 5)) := hb.alloc hb.size _
      have HL := Lib.hid hl
      clear hl hlen h10
      go_wp2_with (at_builtin; (refine wpList_append_own _ rfl _ _ 30 rfl w.heap.size 5 i0 _ 1 1 Tryz.underlying30 hi hz0 hz1 hz2 rfl (by decide) _ _ _ rfl hown1 ⟨wr.heap.size, 0, none⟩ 1 1 [.int .u8 ((u : Int) % 128 + 128)] rfl rfl ?e1 ?e2 ?e3 ?e4 ?e5 ?_))
      try case e1 =>
        intro j x hj
        match j, hj with
        | 0, hj => simp at hj; subst hj; simp [Addr.add]
        | j + 1, hj => simp at hj
      case e2 => first | rfl | (intro x hx; simp at hx; rcases hx with rfl; rfl)
      case e3 => unfold maxLen; omega
      case e4 => omega
      case e5 => first | omega | (simp; omega)
      intro v' w2 hown' hgrow _
      have hb2 := hbA.grown hgrow (by simp; omega) (fun g hg => (hown1.lt g hg).1)
      clear hown1 hgrow
      go_wp2
      go_roundw
      case rel =>
        refine ⟨u / 128, l ++ [UInt8.ofNat (u % 128 + 128)], by congr 1, by omega, ?_, ?_, hb2⟩
        · rw [List.append_assoc, List.singleton_append, ← venc_big hs]
          exact HL.out
        · rw [byteCells_snoc, List.length_append, u8_nat _ (by omega)]
          have e : ((u % 128 + 128 : Nat) : Int) = (u : Int) % 128 + 128 := by omega
          rw [e]
          exact hown'
      case measure => simp [intOf]; omega
theorem refInt (n : Int) (w : World) (h0 : -9223372036854775808 ≤ n) (h1 : n ≤ 9223372036854775807) : Calls Tryz.prog 162 #[.int .i64 n] w (BytesRet w (encI n)) := by
  by_cases hn : n < 0
  · exact refInt_neg n w h0 h1 hn
  · exact refInt_pos n w h0 h1 hn
end Go.Proofs.YtnfmgkkhejminaaGreatDoor

namespace Go.Proofs.YtnfmgkkhejminaaGreatDoor
open Go Go.RowKit Wi
theorem BytesRet.base {w w1 w' : World} {l : List UInt8} {e : Ending} (h : BytesRet w1 l e w') (hb : Below w.heap.size w w1) : BytesRet w l e w' := by
  obtain ⟨v, rfl, h1, h2⟩ := h
  have hs := hb.size
  refine ⟨v, rfl, ?_, hb.trans (h2.mono hs)⟩
  refine ⟨h1.1, ?_⟩
  rcases h1.2 with h3 | ⟨g, cap, cur, hv, hg, r⟩
  · exact .inl h3
  · exact .inr ⟨g, cap, cur, hv, Nat.le_trans hs hg, r⟩
set_option maxHeartbeats 4000000 in
set_option maxRecDepth 100000 in
theorem put0 (n : Int) (b : Bool) (d : ByteArray) (L : Value) (w : World) (_hL : L.oneCell' = true) (h0 : -9223372036854775808 ≤ n) (h1 : n ≤ 9223372036854775807) : Calls Tryz.prog 94 #[.agg #[.int .i64 0, .int .i64 n, .bool b, .string d, L]] w (BytesRet w (encI n)) := by
  have hb1 : Below w.heap.size w (w.alloc (.cells #[.int .i64 0, .int .i64 n, .bool b, .string d, L] 119)) := (Below.refl _ _).alloc (Nat.le_refl _) _
  have HB := Lib.hid hb1
  clear hb1
  go_enter Tryz.func94, Tryz.ntmps94
  go_wp2_with (go_at_call 162; refine (refInt n _ h0 h1).mono ?_; rintro e w2 ⟨v, rfl, hv, hb2⟩)
  go_ret
  exact BytesRet.base ⟨v, rfl, hv, hb2⟩ HB.out
theorem step_append_string {P : Program} {ops : Array Oper} {o : Oper} {a : Act} {w : World} {K : Act → World → Prop} {Q : Exit → Act → World → Prop} {E : Prop} (hg : o.guard = none) (sl x : Operand) (t u : TypeId)
    (ho : o.op = .call { callee := .builtin .append, args := #[sl, x], argTypes := #[t, u] })
    (base : Nat) (e : TypeId) (i : TypeInfo) (ht : P.underlying t = some (.slice e)) (hu : P.underlying u = some .string) (hi : P.info? e = some i) (hz : i.zero = some (.int .u8 0))
    (hsize : i.size = 1) (hby : i.bytes = 1)
    (v : Value) (n : Nat) (xs : List Value) (hs : a.eval sl = v) (hown : w.ownsRow base e 1 v n xs) (s : ByteArray) (hx : a.eval x = .string s)
    (h63 : n + s.size ≤ maxLen) (hbytes : n + s.size ≤ 140737488355328) (hbase : base ≤ w.heap.size)
    (h : ∀ v' w', w'.ownsRow base e 1 v' (n + s.size) (xs ++ Lib.strCells s) → w.grownBy w' v.ownBlock → K (a.put o.dst v') w') : if Region.wanted o (yielded ops a.tmps) = true then Oper.wp P o a w K Q else E := by
  rw [if_pos (by simp [Region.wanted, hg])]
  obtain ⟨v', w', hr, h2, h3, h4⟩ := Lib.run_append_own_string (P := P) w base t u o.type e i ht hu hi hz hsize hby v n xs hown s h63 hbytes hbase
  unfold Oper.wp execOp
  simp only [ho, resolve, invoke, builtin, Sem.run_bind, Sem.run_pure, Result.andThen_ok, List.map_toArray, List.map_cons, List.map_nil, hs, hx, hr]
  exact h v' w' h2 h3
set_option maxHeartbeats 4000000 in
set_option maxRecDepth 100000 in
theorem put3 (n : Int) (b : Bool) (d : ByteArray) (L : Value) (w : World) (hd : d.size ≤ 1000) : Calls Tryz.prog 94 #[.agg #[.int .i64 3, .int .i64 n, .bool b, .string d, L]] w (BytesRet w (encS d.data.toList)) := by
  obtain ⟨i0, hi, hz0, hz1, hz2⟩ := info_parts info5
  have hb1 : Below w.heap.size w (w.alloc (.cells #[.int .i64 3, .int .i64 n, .bool b, .string d, L] 119)) := (Below.refl _ _).alloc (Nat.le_refl _) _
  have HB := Lib.hid hb1
  have hlen : d.data.toList.length = d.size := Array.length_toList
  have hC3 : ∀ W, Below (w.heap.size + 1) (w.alloc (.cells #[.int .i64 3, .int .i64 n, .bool b, .string d, L] 119)) W → W.cell? ⟨w.heap.size, 3, none⟩ = some (.string d) := fun W hW => by
    rw [hW.cell (p := ⟨w.heap.size, 3, none⟩) (by show w.heap.size < _; omega)]
    simp
  have HC3 := Lib.hid hC3
  have HL := Lib.hid hlen
  have H10 := Lib.hid (venc_len10 (zz_lt (n := d.size) (by omega) (by omega)))
  clear hb1 hC3 hlen
  go_enter Tryz.func94, Tryz.ntmps94
  go_wp2
  go_region_law (first
    | (refine step_append_string rfl (.tmp 24) (.tmp 26) 30 9 rfl _ 5 i0 Tryz.underlying30 Tryz.underlying9 hi hz0 hz1 hz2 _ _ _ rfl hv d rfl (by have h10 : (encI (d.size : Int)).length ≤ 10 := H10.out; unfold maxLen; omega) (by have h10 : (encI (d.size : Int)).length ≤ 10 := H10.out; omega) hb2.size ?_; intro v' w3 hown' hgrow)
    | (go_simp; go_at_call 162; refine (refInt d.size _ (by omega) (by omega)).mono ?_; rintro e w2 ⟨v, rfl, hv, hb2⟩; have hb3 : Below (w.heap.size + 1) (w.alloc (.cells #[.int .i64 3, .int .i64 n, .bool b, .string d, L] 119)) w2 := ⟨hb2.os, hb2.tape, hb2.output, hb2.size, fun k hk => hb2.block k (by simpa using hk)⟩; have c3 := HC3.out w2 hb3))
  all_goals
    have hb4 := hb3.grown hgrow (by have := hb2.size; simpa using this) (fun g hg => by have := (hv.lt g hg).1; simpa using this)
    have H := Lib.hid (show BytesRet (w.alloc (.cells #[.int .i64 3, .int .i64 n, .bool b, .string d, L] 119)) (encS d.data.toList) (.returned v') w3 by
      refine ⟨v', rfl, ?_, by simpa using hb4⟩
      have e : encS d.data.toList = encI d.size ++ d.data.toList := by unfold encS; rw [HL.out]
      rw [e, List.length_append, Lib.byteCells_append, HL.out]
      exact hown')
    clear hown' hgrow hv
    go_wp2
    go_ret
    exact BytesRet.base H.out HB.out
end Go.Proofs.YtnfmgkkhejminaaGreatDoor

namespace Go.Proofs.YtnfmgkkhejminaaGreatDoor
open Go Go.RowKit Wi
theorem owns_below {w w' : World} {B B' S n : Nat} {e : TypeId} {v : Value} {xs : List Value} (h : w.ownsRow B e S v n xs) (hb : Below B' w w') (hB : ∀ g, v.ownBlock = some g → g < B') : w'.ownsRow B e S v n xs := by
  refine ⟨h.1, ?_⟩
  rcases h.2 with h0 | ⟨g, cap, cur, rfl, hg, hh, r⟩
  · exact .inl h0
  · exact .inr ⟨g, cap, cur, rfl, hg, by rw [hb.block g (hB g rfl)]; exact hh, r⟩
/-- a slice of numbers in old memory -/
def IntsIn (w : World) (A : Option Addr) (l : List Int) : Prop := ∀ k, k < l.length → ∃ b off, A = some ⟨b, off, none⟩ ∧ b < w.heap.size ∧ w.cell? ⟨b, off + k, none⟩ = some (.int .i64 (l.getD k 0))
theorem flat_snoc {l : List Int} {k : Nat} (h : k < l.length) : (l.take (k + 1)).flatMap encI = (l.take k).flatMap encI ++ encI (l.getD k 0) := by
  rw [List.take_succ_eq_append_getElem h, List.flatMap_append]
  simp [h]
theorem encI_len10 {n : Int} (h0 : -9223372036854775808 ≤ n) (h1 : n ≤ 9223372036854775807) : (encI n).length ≤ 10 := venc_len10 (zz_lt h0 h1)
theorem flat_len (l : List Int) (h : ∀ x ∈ l, -9223372036854775808 ≤ x ∧ x ≤ 9223372036854775807) : (l.flatMap encI).length ≤ 10 * l.length := by
  induction l with
  | nil => simp
  | cons x l ih =>
    have h1 := encI_len10 (h x (by simp)).1 (h x (by simp)).2
    have h2 := ih fun y hy => h y (by simp [hy])
    simp only [List.flatMap_cons, List.length_append, List.length_cons]
    omega
set_option maxHeartbeats 4000000 in
set_option maxRecDepth 100000 in
theorem put4 (n : Int) (b : Bool) (d : ByteArray) (A : Option Addr) (c : Nat) (l : List Int) (w : World) (hS : IntsIn w A l) (hl : l.length ≤ 1000) (hr : ∀ x ∈ l, -9223372036854775808 ≤ x ∧ x ≤ 9223372036854775807) :
    Calls Tryz.prog 94 #[.agg #[.int .i64 4, .int .i64 n, .bool b, .string d, .slice A l.length c]] w (BytesRet w (encL l)) := by
  obtain ⟨i0, hi, hz0, hz1, hz2⟩ := info_parts info5
  have hb1 : Below w.heap.size w (w.alloc (.cells #[.int .i64 4, .int .i64 n, .bool b, .string d, .slice A l.length c] 119)) := (Below.refl _ _).alloc (Nat.le_refl _) _
  have HB := Lib.hid hb1
  have hs1 : (w.alloc (.cells #[.int .i64 4, .int .i64 n, .bool b, .string d, .slice A l.length c] 119)).heap.size = w.heap.size + 1 := by simp
  have hC4 : ∀ W, Below (w.heap.size + 1) (w.alloc (.cells #[.int .i64 4, .int .i64 n, .bool b, .string d, .slice A l.length c] 119)) W → W.cell? ⟨w.heap.size, 4, none⟩ = some (.slice A l.length c) := fun W hW => by
    rw [hW.cell (p := ⟨w.heap.size, 4, none⟩) (by show w.heap.size < _; omega)]
    simp
  have hCS : ∀ W, Below (w.heap.size + 1) (w.alloc (.cells #[.int .i64 4, .int .i64 n, .bool b, .string d, .slice A l.length c] 119)) W → ∀ k, k < l.length → ∃ b off, A = some ⟨b, off, none⟩ ∧ W.cell? ⟨b, off + k, none⟩ = some (.int .i64 (l.getD k 0)) := fun W hW k hk => by
    obtain ⟨b', off, h1, h2, h3⟩ := hS k hk
    refine ⟨b', off, h1, ?_⟩
    rw [hW.cell (p := ⟨b', off + k, none⟩) (by show b' < _; omega), World.cell?_alloc_past _ _ _ h2]
    exact h3
  have HC4 := Lib.hid hC4
  have HCS := Lib.hid hCS
  have HR := Lib.hid hr
  obtain ⟨m, hm⟩ : ∃ m : Nat, m = l.length := ⟨_, rfl⟩
  have HM := Lib.hid hm
  have c40 := hC4 _ (Below.refl _ _)
  have c00 : (w.alloc (.cells #[.int .i64 4, .int .i64 n, .bool b, .string d, .slice A l.length c] 119)).cell? ⟨w.heap.size, 0, none⟩ = some (.int .i64 4) := by simp
  generalize hW1 : w.alloc (.cells #[.int .i64 4, .int .i64 n, .bool b, .string d, .slice A l.length c] 119) = w1 at HB HC4 HCS hs1 c40 c00
  rw [← hm] at hW1 c40 hl ⊢
  clear hb1 hC4 hCS hr hS hm
  go_enter Tryz.func94, Tryz.ntmps94
  go_wp2_with (go_at_call 162; go_loud (refine (refInt m _ (by omega) (by omega)).mono ?_; rintro e w2 ⟨v, rfl, hv, hb2⟩))
  have hb3 : Below (w.heap.size + 1) w1 w2 := by rw [← hs1]; exact hb2
  rw [hs1] at hv
  clear hb2
  go_loopw [3, 4] (fun x i wr => ∃ k : Nat, k ≤ m ∧ i = .int .i64 k ∧ wr.ownsRow (w.heap.size + 1) 5 1 x (encI m ++ (l.take k).flatMap encI).length (Lib.byteCells (encI m ++ (l.take k).flatMap encI)) ∧ Below (w.heap.size + 1) w1 wr) (fun _ i _ => m - (intOf i).toNat)
  case atStart => exact ⟨0, Nat.zero_le _, rfl, by simpa using hv, hb3⟩
  case round =>
    obtain ⟨k, hk, rfl, hown, hb⟩ := hrel
    have c4 := HC4.out _ hb
    rw [← HM.out] at c4
    by_cases hlt : k < m
    · have hki : (k : Int) < m := by omega
      obtain ⟨b', off, rfl, hc⟩ := HCS.out _ hb k (by rw [← HM.out]; exact hlt)
      have hkl : k < l.length := by rw [← HM.out]; exact hlt
      obtain ⟨z, hz⟩ : ∃ z, z = l.getD k 0 := ⟨_, rfl⟩
      have hzr := HR.out (l.getD k 0) (by rw [List.getD_eq_getElem?_getD, List.getElem?_eq_getElem hkl]; exact List.getElem_mem hkl)
      rw [← hz] at hc hzr
      have hfl := flat_snoc hkl
      rw [← hz] at hfl
      have hlen1 : ((l.take k).flatMap encI).length ≤ 10 * 1000 := by
        have := flat_len (l.take k) (fun x hx => HR.out x (List.mem_of_mem_take hx))
        have h2 := List.length_take_le k l
        omega
      have hlen2 := encI_len10 (n := m) (by omega) (by omega)
      have hlen3 := encI_len10 hzr.1 hzr.2
      have HF := Lib.hid hfl
      have HP := Lib.hid (show 0 < (encI z).length from venc_pos (zz z))
      clear hz hfl hkl
      generalize hacc : encI m ++ (l.take k).flatMap encI = acc at hown
      have hal : acc.length ≤ 10010 := by rw [← hacc, List.length_append]; omega
      have HACC := Lib.hid hacc
      clear hacc hlen1 hlen2
      go_wp2_with (first
        | (go_at_call 162; go_loud (refine (refInt z _ hzr.1 hzr.2).mono ?_; rintro e w3 ⟨v2, rfl, hv2, hb4⟩; have hown3 := owns_below hown hb4 (fun g hg => (hown.lt g hg).2); have hb5 := hb.trans (hb4.mono (show w.heap.size + 1 ≤ wr.heap.size by have := hb.size; omega)); have hb6 := hb5.size; obtain ⟨g2, cap2, rfl⟩ := Joins.ownsRow_form (w := w3) (n := (encI z).length) hv2 HP.out))
        | (at_builtin; (refine wpList_append_own _ rfl _ _ 30 rfl (w.heap.size + 1) 5 i0 _ 1 1 Tryz.underlying30 hi hz0 hz1 hz2 rfl (by decide) _ _ _ rfl hown3 ⟨g2, 0, none⟩ (encI z).length cap2 (Lib.byteCells (encI z)) rfl (by simp [Lib.byteCells]) (hv2.cells rfl) (by intro u hu; simp [Lib.byteCells] at hu; obtain ⟨b, _, rfl⟩ := hu; rfl) (by unfold maxLen; omega) (by omega) (by omega) ?_)))
      intro v' w4 hown' hgrow _
      have hb7 := hb5.grown hgrow (by omega) (fun g hg => (hown3.lt g hg).1)
      clear hown3 hgrow hv2
      have H := Lib.hid (show w4.ownsRow (w.heap.size + 1) 5 1 v' (encI m ++ (l.take (k + 1)).flatMap encI).length (Lib.byteCells (encI m ++ (l.take (k + 1)).flatMap encI)) by
        rw [HF.out, ← List.append_assoc, HACC.out, List.length_append, Lib.byteCells_append]
        exact hown')
      clear hown'
      go_wp2
      go_roundw
      case rel => exact ⟨k + 1, by omega, by go_num, H.out, hb7⟩
      case measure => simp [intOf]; omega
    · obtain rfl : k = m := by omega
      have H := Lib.hid (show BytesRet w1 (encL l) (.returned u3) wr by
        refine ⟨_, rfl, ?_, by rw [hs1]; exact hb⟩
        rw [hs1]
        unfold encL
        rw [← HM.out]
        have : l.take k = l := by rw [HM.out, List.take_length]
        rw [this] at hown
        exact hown)
      clear hown
      go_wp2
      go_ret
      exact BytesRet.base H.out HB.out
end Go.Proofs.YtnfmgkkhejminaaGreatDoor

namespace Go.Proofs.YtnfmgkkhejminaaGreatDoor
open Go Go.RowKit Wi
def cat (bs : Nat → List UInt8) : Nat → List UInt8
  | 0 => []
  | k + 1 => cat bs k ++ bs k
theorem cat_len (bs : Nat → List UInt8) (m : Nat) (h : ∀ k, k < m → (bs k).length ≤ 20000) : ∀ k, k ≤ m → (cat bs k).length ≤ 20000 * k
  | 0, _ => by simp [cat]
  | k + 1, hk => by
    have h1 := cat_len bs m h k (by omega)
    have h2 := h k (by omega)
    simp only [cat, List.length_append]
    omega
set_option maxHeartbeats 4000000 in
set_option maxRecDepth 100000 in
theorem refAll (b m c : Nat) (t0 t1 t2 t3 t4 : Nat → Value) (bs : Nat → List UInt8) (w : World) (hm : m ≤ 100) (hbs : ∀ k, k < m → 0 < (bs k).length ∧ (bs k).length ≤ 20000) (hbl : b < w.heap.size)
    (hc : ∀ k, k < m → w.cell? ⟨b, k * 5, none⟩ = some (t0 k) ∧ w.cell? ⟨b, k * 5 + 1, none⟩ = some (t1 k) ∧ w.cell? ⟨b, k * 5 + 2, none⟩ = some (t2 k) ∧ w.cell? ⟨b, k * 5 + 3, none⟩ = some (t3 k) ∧ w.cell? ⟨b, k * 5 + 4, none⟩ = some (t4 k))
    (hput : ∀ k W, k < m → Below w.heap.size w W → Calls Tryz.prog 94 #[.agg #[t0 k, t1 k, t2 k, t3 k, t4 k]] W (BytesRet W (bs k))) :
    Calls Tryz.prog 39 #[.slice (some ⟨b, 0, none⟩) m c] w (BytesRet w (cat bs m)) := by
  obtain ⟨i0, hi, hz0, hz1, hz2⟩ := info_parts info5
  have hE := owns_empty w w.heap.size (Nat.le_refl _) 5
  have hbE : Below w.heap.size w (w.alloc (.cells #[] 5)) := (Below.refl _ _).alloc (Nat.le_refl _) _
  have HE := Lib.hid hE
  have HB := Lib.hid hbE
  have HC := Lib.hid (show ∀ k W, k < m → Below w.heap.size w W → W.cell? ⟨b, k * 5, none⟩ = some (t0 k) ∧ W.cell? ⟨b, k * 5 + 1, none⟩ = some (t1 k) ∧ W.cell? ⟨b, k * 5 + 2, none⟩ = some (t2 k) ∧ W.cell? ⟨b, k * 5 + 3, none⟩ = some (t3 k) ∧ W.cell? ⟨b, k * 5 + 4, none⟩ = some (t4 k) from fun k W hk hW => by
    obtain ⟨h0, h1, h2, h3, h4⟩ := hc k hk
    exact ⟨(hW.cell (p := ⟨b, k * 5, none⟩) hbl).trans h0, (hW.cell (p := ⟨b, k * 5 + 1, none⟩) hbl).trans h1, (hW.cell (p := ⟨b, k * 5 + 2, none⟩) hbl).trans h2, (hW.cell (p := ⟨b, k * 5 + 3, none⟩) hbl).trans h3, (hW.cell (p := ⟨b, k * 5 + 4, none⟩) hbl).trans h4⟩)
  have HPUT := Lib.hid hput
  have HBS := Lib.hid hbs
  clear hE hbE hc hput hbs hbl
  go_enter Tryz.func39, Tryz.ntmps39
  go_wp2
  go_loopw [3, 4] (fun x i wr => ∃ k : Nat, k ≤ m ∧ i = .int .i64 k ∧ wr.ownsRow w.heap.size 5 1 x (cat bs k).length (Lib.byteCells (cat bs k)) ∧ Below w.heap.size w wr) (fun _ i _ => m - (intOf i).toNat)
  case atStart => exact ⟨0, Nat.zero_le _, rfl, HE.out, HB.out⟩
  case round =>
    obtain ⟨k, hk, rfl, hown, hb⟩ := hrel
    by_cases hlt : k < m
    · have hki : (k : Int) < m := by omega
      obtain ⟨c0, c1, c2, c3, c4⟩ := HC.out k _ hlt hb
      obtain ⟨hp1, hp2⟩ := HBS.out k hlt
      have hal := cat_len bs m (fun j hj => (HBS.out j hj).2) k hk
      have hsuc : cat bs (k + 1) = cat bs k ++ bs k := rfl
      have HS := Lib.hid hsuc
      have HPK := Lib.hid (fun W => HPUT.out k W hlt)
      generalize t0 k = a0 at c0 HPK
      generalize t1 k = a1 at c1 HPK
      generalize t2 k = a2 at c2 HPK
      generalize t3 k = a3 at c3 HPK
      generalize t4 k = a4 at c4 HPK
      generalize cat bs k = acc at hown hal HS
      clear hsuc
      generalize bs k = bk at hp1 hp2 HS HPK
      have HP1 := Lib.hid hp1
      have hsz := hb.size
      go_wp2_with (first
        | (go_at_call 94; go_loud (refine (HPK.out _ hb).mono ?_; rintro e w3 ⟨v2, rfl, hv2, hb4⟩; have hown3 := owns_below hown hb4 (fun g hg => (hown.lt g hg).2); have hb5 := hb.trans (hb4.mono hsz); have hb6 := hb5.size; obtain ⟨g2, cap2, rfl⟩ := Joins.ownsRow_form (w := w3) (n := bk.length) hv2 HP1.out))
        | (at_builtin; go_loud (refine wpList_append_own _ rfl _ _ 30 rfl w.heap.size 5 i0 _ 1 1 Tryz.underlying30 hi hz0 hz1 hz2 rfl (by decide) _ _ _ rfl hown3 ⟨g2, 0, none⟩ bk.length cap2 (Lib.byteCells bk) rfl (by simp [Lib.byteCells]) (hv2.cells rfl) (by intro u hu; simp [Lib.byteCells] at hu; obtain ⟨b, _, rfl⟩ := hu; rfl) (by unfold maxLen; omega) (by omega) (by omega) ?_)))
      intro v' w4 hown' hgrow _
      have hb7 := hb5.grown hgrow (by omega) (fun g hg => (hown3.lt g hg).1)
      clear hown3 hgrow hv2
      have H := Lib.hid (show w4.ownsRow w.heap.size 5 1 v' (cat bs (k + 1)).length (Lib.byteCells (cat bs (k + 1))) by
        rw [HS.out, List.length_append, Lib.byteCells_append]
        exact hown')
      clear hown'
      go_wp2
      go_roundw
      case rel => exact ⟨k + 1, by omega, by go_num, H.out, hb7⟩
      case measure => simp [intOf]; omega
    · obtain rfl : k = m := by omega
      have H := Lib.hid hown
      clear hown
      go_wp2
      go_ret
      exact ⟨_, rfl, H.out, hb⟩
end Go.Proofs.YtnfmgkkhejminaaGreatDoor

namespace Go.Proofs.YtnfmgkkhejminaaGreatDoor
open Go Go.RowKit Wi
def lk : Nat → Value
  | 5 => .int .i64 3
  | 7 => .int .i64 4
  | _ => .int .i64 0
def ln (x0 x1 x2 x3 x4 x6 : Int) : Nat → Int
  | 0 => x0
  | 1 => x1
  | 2 => x2
  | 3 => x3
  | 4 => x4
  | 6 => x6
  | _ => 0
def ld (s : ByteArray) : Nat → ByteArray
  | 5 => s
  | _ => ⟨#[]⟩
def ll (v : Value) : Nat → Value
  | 7 => v
  | _ => .slice none 0 0
def lb (x0 x1 x2 x3 x4 x6 : Int) (s : List UInt8) (l : List Int) : Nat → List UInt8
  | 5 => encS s
  | 7 => encL l
  | k => encI (ln x0 x1 x2 x3 x4 x6 k)
def I64 (n : Int) : Prop := -9223372036854775808 ≤ n ∧ n ≤ 9223372036854775807
theorem encS_len (s : List UInt8) (h : s.length ≤ 1000) : 0 < (encS s).length ∧ (encS s).length ≤ 20000 := by
  have h1 := encI_len10 (n := s.length) (by omega) (by omega)
  have h2 : 0 < (encI (s.length : Int)).length := venc_pos _
  unfold encS
  rw [List.length_append]
  omega
theorem encL_len (l : List Int) (h : l.length ≤ 1000) (hr : ∀ x ∈ l, I64 x) : 0 < (encL l).length ∧ (encL l).length ≤ 20000 := by
  have h1 := encI_len10 (n := l.length) (by omega) (by omega)
  have h2 : 0 < (encI (l.length : Int)).length := venc_pos _
  have h3 := flat_len l hr
  unfold encL
  rw [List.length_append]
  omega
theorem lineCells (W : World) (x0 x1 x2 x3 x4 x6 : Int) (s : ByteArray) (v : Value) (k : Nat) (hk : k < 8) :
    (W.alloc (.cells #[.int .i64 0, .int .i64 x0, .bool false, .string ⟨#[]⟩, .slice none 0 0, .int .i64 0, .int .i64 x1, .bool false, .string ⟨#[]⟩, .slice none 0 0, .int .i64 0, .int .i64 x2, .bool false, .string ⟨#[]⟩, .slice none 0 0, .int .i64 0, .int .i64 x3, .bool false, .string ⟨#[]⟩, .slice none 0 0, .int .i64 0, .int .i64 x4, .bool false, .string ⟨#[]⟩, .slice none 0 0, .int .i64 3, .int .i64 0, .bool false, .string s, .slice none 0 0, .int .i64 0, .int .i64 x6, .bool false, .string ⟨#[]⟩, .slice none 0 0, .int .i64 4, .int .i64 0, .bool false, .string ⟨#[]⟩, v] 119)).cell? ⟨W.heap.size, k * 5, none⟩ = some (lk k) ∧ (W.alloc (.cells #[.int .i64 0, .int .i64 x0, .bool false, .string ⟨#[]⟩, .slice none 0 0, .int .i64 0, .int .i64 x1, .bool false, .string ⟨#[]⟩, .slice none 0 0, .int .i64 0, .int .i64 x2, .bool false, .string ⟨#[]⟩, .slice none 0 0, .int .i64 0, .int .i64 x3, .bool false, .string ⟨#[]⟩, .slice none 0 0, .int .i64 0, .int .i64 x4, .bool false, .string ⟨#[]⟩, .slice none 0 0, .int .i64 3, .int .i64 0, .bool false, .string s, .slice none 0 0, .int .i64 0, .int .i64 x6, .bool false, .string ⟨#[]⟩, .slice none 0 0, .int .i64 4, .int .i64 0, .bool false, .string ⟨#[]⟩, v] 119)).cell? ⟨W.heap.size, k * 5 + 1, none⟩ = some (.int .i64 (ln x0 x1 x2 x3 x4 x6 k)) ∧ (W.alloc (.cells #[.int .i64 0, .int .i64 x0, .bool false, .string ⟨#[]⟩, .slice none 0 0, .int .i64 0, .int .i64 x1, .bool false, .string ⟨#[]⟩, .slice none 0 0, .int .i64 0, .int .i64 x2, .bool false, .string ⟨#[]⟩, .slice none 0 0, .int .i64 0, .int .i64 x3, .bool false, .string ⟨#[]⟩, .slice none 0 0, .int .i64 0, .int .i64 x4, .bool false, .string ⟨#[]⟩, .slice none 0 0, .int .i64 3, .int .i64 0, .bool false, .string s, .slice none 0 0, .int .i64 0, .int .i64 x6, .bool false, .string ⟨#[]⟩, .slice none 0 0, .int .i64 4, .int .i64 0, .bool false, .string ⟨#[]⟩, v] 119)).cell? ⟨W.heap.size, k * 5 + 2, none⟩ = some (.bool false) ∧
    (W.alloc (.cells #[.int .i64 0, .int .i64 x0, .bool false, .string ⟨#[]⟩, .slice none 0 0, .int .i64 0, .int .i64 x1, .bool false, .string ⟨#[]⟩, .slice none 0 0, .int .i64 0, .int .i64 x2, .bool false, .string ⟨#[]⟩, .slice none 0 0, .int .i64 0, .int .i64 x3, .bool false, .string ⟨#[]⟩, .slice none 0 0, .int .i64 0, .int .i64 x4, .bool false, .string ⟨#[]⟩, .slice none 0 0, .int .i64 3, .int .i64 0, .bool false, .string s, .slice none 0 0, .int .i64 0, .int .i64 x6, .bool false, .string ⟨#[]⟩, .slice none 0 0, .int .i64 4, .int .i64 0, .bool false, .string ⟨#[]⟩, v] 119)).cell? ⟨W.heap.size, k * 5 + 3, none⟩ = some (.string (ld s k)) ∧ (W.alloc (.cells #[.int .i64 0, .int .i64 x0, .bool false, .string ⟨#[]⟩, .slice none 0 0, .int .i64 0, .int .i64 x1, .bool false, .string ⟨#[]⟩, .slice none 0 0, .int .i64 0, .int .i64 x2, .bool false, .string ⟨#[]⟩, .slice none 0 0, .int .i64 0, .int .i64 x3, .bool false, .string ⟨#[]⟩, .slice none 0 0, .int .i64 0, .int .i64 x4, .bool false, .string ⟨#[]⟩, .slice none 0 0, .int .i64 3, .int .i64 0, .bool false, .string s, .slice none 0 0, .int .i64 0, .int .i64 x6, .bool false, .string ⟨#[]⟩, .slice none 0 0, .int .i64 4, .int .i64 0, .bool false, .string ⟨#[]⟩, v] 119)).cell? ⟨W.heap.size, k * 5 + 4, none⟩ = some (ll v k) := by
  match k, hk with
  | 0, _ => simp [lk, ln, ld, ll]
  | 1, _ => simp [lk, ln, ld, ll]
  | 2, _ => simp [lk, ln, ld, ll]
  | 3, _ => simp [lk, ln, ld, ll]
  | 4, _ => simp [lk, ln, ld, ll]
  | 5, _ => simp [lk, ln, ld, ll]
  | 6, _ => simp [lk, ln, ld, ll]
  | 7, _ => simp [lk, ln, ld, ll]
set_option maxHeartbeats 4000000 in
set_option maxRecDepth 100000 in
theorem refBytes (x0 x1 x2 x3 x4 x6 : Int) (s : ByteArray) (A : Option Addr) (c : Nat) (l : List Int) (w : World) (h0 : I64 x0) (h1 : I64 x1) (h2 : I64 x2) (h3 : I64 x3) (h4 : I64 x4) (h6 : I64 x6) (hs : s.size ≤ 1000) (hS : IntsIn w A l) (hl : l.length ≤ 1000) (hr : ∀ x ∈ l, I64 x) :
    Calls Tryz.prog 12 #[.agg #[.int .i64 x0, .int .i64 x1, .int .i64 x2, .int .i64 x3, .int .i64 x4, .string s, .int .i64 x6, .slice A l.length c]] w (BytesRet w (cat (lb x0 x1 x2 x3 x4 x6 s.data.toList l) 8)) := by
  obtain ⟨m, hm⟩ : ∃ m : Nat, m = l.length := ⟨_, rfl⟩
  have hsl : s.data.toList.length ≤ 1000 := by rw [Array.length_toList]; exact hs
  have hbs : ∀ k, k < 8 → 0 < (lb x0 x1 x2 x3 x4 x6 s.data.toList l k).length ∧ (lb x0 x1 x2 x3 x4 x6 s.data.toList l k).length ≤ 20000 := fun k hk => by
    have hI : ∀ x, I64 x → 0 < (encI x).length ∧ (encI x).length ≤ 20000 := fun x hx => ⟨venc_pos _, by have := encI_len10 hx.1 hx.2; omega⟩
    match k, hk with
    | 0, _ => exact hI _ h0
    | 1, _ => exact hI _ h1
    | 2, _ => exact hI _ h2
    | 3, _ => exact hI _ h3
    | 4, _ => exact hI _ h4
    | 5, _ => exact encS_len _ hsl
    | 6, _ => exact hI _ h6
    | 7, _ => exact encL_len l hl hr
  have hput : ∀ k W, k < 8 → Below w.heap.size w W → Calls Tryz.prog 94 #[.agg #[lk k, .int .i64 (ln x0 x1 x2 x3 x4 x6 k), .bool false, .string (ld s k), ll (.slice A l.length c) k]] W (BytesRet W (lb x0 x1 x2 x3 x4 x6 s.data.toList l k)) := fun k W hk hW => by
    match k, hk with
    | 0, _ => exact put0 _ _ _ _ W rfl h0.1 h0.2
    | 1, _ => exact put0 _ _ _ _ W rfl h1.1 h1.2
    | 2, _ => exact put0 _ _ _ _ W rfl h2.1 h2.2
    | 3, _ => exact put0 _ _ _ _ W rfl h3.1 h3.2
    | 4, _ => exact put0 _ _ _ _ W rfl h4.1 h4.2
    | 5, _ => exact put3 _ _ _ _ W hs
    | 6, _ => exact put0 _ _ _ _ W rfl h6.1 h6.2
    | 7, _ => exact put4 _ _ _ A c l W (fun k hk => by
        obtain ⟨b, off, e, hb, hc⟩ := hS k hk
        exact ⟨b, off, e, Nat.lt_of_lt_of_le hb hW.size, (hW.cell (p := ⟨b, off + k, none⟩) hb).trans hc⟩) hl hr
  have HBS := Lib.hid hbs
  have HPUT := Lib.hid hput
  rw [← hm] at HPUT ⊢
  clear hbs hput hsl hS hr hl hm h0 h1 h2 h3 h4 h6
  go_enter Tryz.func12, Tryz.ntmps12
  go_wp2_with (go_at_call 39; go_loud (refine (refAll (w.heap.size + 1) 8 8 lk (fun k => .int .i64 (ln x0 x1 x2 x3 x4 x6 k)) (fun _ => .bool false) (fun k => .string (ld s k)) (ll (.slice A m c)) (lb x0 x1 x2 x3 x4 x6 s.data.toList l) _ (by decide) HBS.out (by simp) (fun k hk => by have := lineCells (w.alloc (.cells #[.int .i64 x0, .int .i64 x1, .int .i64 x2, .int .i64 x3, .int .i64 x4, .string s, .int .i64 x6, .slice A m c] 45)) x0 x1 x2 x3 x4 x6 s (.slice A m c) k hk; simpa using this) (fun k W hk hW => HPUT.out k W hk (((Below.refl _ w).alloc (Nat.le_refl _) _).trans (((Below.refl _ _).alloc (by simp) _).trans (hW.mono (by simp; omega)))))).mono ?_; rintro e w3 hw3; obtain ⟨v, rfl, hv⟩ := hw3.base (((Below.refl _ w).alloc (Nat.le_refl _) _).trans ((Below.refl _ _).alloc (by simp) _))))
  go_ret
  exact ⟨v, rfl, hv⟩
end Go.Proofs.YtnfmgkkhejminaaGreatDoor
