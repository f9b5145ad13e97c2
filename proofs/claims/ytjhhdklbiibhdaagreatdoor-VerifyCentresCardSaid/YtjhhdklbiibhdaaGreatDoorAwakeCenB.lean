/-
  What bytes.Equal, verify.equalEntries and samaritanref53.same answer in this program: for all entries.
-/
import Derived.Test.YtjhhdklbiibhdaaGreatDoorAwakeRowE
import Derived.Test.YtjhhdklbiibhdaaGreatDoorAwakeCenA
import Derived.Deep.QuietTactic
import Derived.BigQuiet
namespace Go.Proofs.YtjhhdklbiibhdaaGreatDoor
open Go Go.RowKit

/-- bytes as a string -/
theorem convC {W : World} {B : Nat} {A : Option Addr} {xs : List Int} {c : Nat} (h : BytesAt 5 W B A xs) : (convert 34 9 (.slice A xs.length c)).run Tryz.prog W = .ok (.string (strOfNums xs)) W := by
  by_cases h0 : 0 < xs.length
  · obtain ⟨b, o, rfl, _, hc⟩ := h h0
    exact run_convert_bytes_arg W 34 5 Tryz.underlying34 Tryz.underlying5 b o xs.length c xs rfl hc 9 Tryz.underlying9
  · have e : xs = [] := List.eq_nil_of_length_eq_zero (by omega)
    subst e
    cases A with
    | none => exact run_convert_bytes_nil W 34 5 Tryz.underlying34 Tryz.underlying5 0 c 9 Tryz.underlying9
    | some a =>
      show (convert 34 9 (.slice (some a) 0 c)).run Tryz.prog W = _
      rw [run_convert_bytes_string W 34 9 5 _ 0 c Tryz.underlying34 Tryz.underlying5 Tryz.underlying9, run_bytesToString W a 0 c [] (by simp [loadCells, loadCellsFrom])]
      rfl
def BoolRet (w : World) (b : Bool) (e : Ending) (w' : World) : Prop := e = .returned (.bool b) ∧ Below w.heap.size w w'

set_option maxHeartbeats 2000000 in
set_option maxRecDepth 100000 in
theorem bytesEqual_any (A A' : Option Addr) (c c' : Nat) (xs ys : List Int) (w : World) (hx : BytesAt 5 w w.heap.size A xs) (hy : BytesAt 5 w w.heap.size A' ys) :
    Calls Tryz.prog 61 #[.slice A xs.length c, .slice A' ys.length c'] w (BoolRet w ((strOfNums xs).toList == (strOfNums ys).toList)) := by
  have cv1 : (convert 34 9 (.slice A xs.length c)).run Tryz.prog w = .ok (.string (strOfNums xs)) w := convC hx
  have cv2 : (convert 34 9 (.slice A' ys.length c')).run Tryz.prog w = .ok (.string (strOfNums ys)) w := convC hy
  clear hx hy
  generalize strOfNums xs = s at *
  generalize strOfNums ys = t at *
  generalize xs.length = n at *
  generalize ys.length = m at *
  go_enter Tryz.func61, Tryz.ntmps61
  go_wp2
  go_ret
  exact ⟨rfl, Below.refl _ _⟩

def same4 (p q p' q' : Int) (xs ys : List Int) : Bool := decide (p = p') && (decide (q = q') && ((strOfNums xs).toList == (strOfNums ys).toList))

set_option maxHeartbeats 4000000 in
set_option maxRecDepth 100000 in
theorem equalEntries4 (p q p' q' : Int) (xs ys : List Int) (A A' : Option Addr) (c c' : Nat) (w : World) (hx : BytesAt 5 w w.heap.size A xs) (hy : BytesAt 5 w w.heap.size A' ys) :
    Calls Tryz.prog 34 #[.agg #[.int .i64 p, .int .i64 q, .slice A xs.length c], .agg #[.int .i64 p', .int .i64 q', .slice A' ys.length c']] w (BoolRet w (same4 p q p' q' xs ys)) := by
  have hb0 : Below w.heap.size w ((w.alloc (.cells #[.int .i64 p, .int .i64 q, .slice A xs.length c] 36)).alloc (.cells #[.int .i64 p', .int .i64 q', .slice A' ys.length c'] 36)) := ((Below.refl _ w).alloc (Nat.le_refl _) _).alloc (by simp) _
  have HC := Lib.hid (fun (W : World) (hb : Below w.heap.size w W) => bytesEqual_any A A' c c' xs ys W (hx.below hb).top (hy.below hb).top)
  have HS := Lib.hid (show same4 p q p' q' xs ys = (decide (p = p') && (decide (q = q') && ((strOfNums xs).toList == (strOfNums ys).toList))) from rfl)
  clear hx hy
  generalize same4 p q p' q' xs ys = R at *
  generalize strOfNums xs = s at *
  generalize strOfNums ys = t at *
  generalize xs.length = n at *
  generalize ys.length = m at *
  by_cases h1 : p = p'
  · by_cases h2 : q = q'
    · subst h1 h2
      have HR := Lib.hid (show R = (s.toList == t.toList) by rw [HS.out]; simp)
      have HB := Lib.hid hb0
      clear hb0
      go_enter Tryz.func34, Tryz.ntmps34
      go_wp2_with (go_at_call 61; refine (HC.out _ HB.out).mono ?_; rintro e w1 ⟨rfl, hb1⟩)
      go_ret
      exact ⟨by rw [HR.out]; rfl, HB.out.trans (hb1.mono HB.out.size)⟩
    · have HR := Lib.hid (show R = false by rw [HS.out]; simp [h2])
      subst h1
      have HB := Lib.hid hb0
      clear hb0
      go_enter Tryz.func34, Tryz.ntmps34
      go_wp2
      go_ret
      exact ⟨by rw [HR.out]; rfl, HB.out⟩
  · have HR := Lib.hid (show R = false by rw [HS.out]; simp [h1])
    have HB := Lib.hid hb0
    clear hb0
    go_enter Tryz.func34, Tryz.ntmps34
    go_wp2
    go_ret
    exact ⟨by rw [HR.out]; rfl, HB.out⟩
theorem equalEntries_any (x y : EnD) (A A' : Option Addr) (c c' : Nat) (w : World) (hx : BytesAt 5 w w.heap.size A x.body) (hy : BytesAt 5 w w.heap.size A' y.body) :
    Calls Tryz.prog 34 #[.agg #[.int .i64 x.term, .int .i64 x.ek, .slice A x.body.length c], .agg #[.int .i64 y.term, .int .i64 y.ek, .slice A' y.body.length c']] w (BoolRet w (sameEn x y)) :=
  equalEntries4 x.term x.ek y.term y.ek x.body y.body A A' c c' w hx hy

set_option maxHeartbeats 4000000 in
set_option maxRecDepth 100000 in
theorem sameEntries4 (p q p' q' : Int) (xs ys : List Int) (A A' : Option Addr) (c c' : Nat) (w : World) (hx : BytesAt 5 w w.heap.size A xs) (hy : BytesAt 5 w w.heap.size A' ys) :
    Calls Tryz.prog 35 #[.agg #[.int .i64 p, .int .i64 q, .slice A xs.length c], .agg #[.int .i64 p', .int .i64 q', .slice A' ys.length c']] w (BoolRet w (same4 p q p' q' xs ys)) := by
  have hb0 : Below w.heap.size w ((w.alloc (.cells #[.int .i64 p, .int .i64 q, .slice A xs.length c] 36)).alloc (.cells #[.int .i64 p', .int .i64 q', .slice A' ys.length c'] 36)) := ((Below.refl _ w).alloc (Nat.le_refl _) _).alloc (by simp) _
  have cv1 : (convert 34 9 (.slice A xs.length c)).run Tryz.prog ((w.alloc (.cells #[.int .i64 p, .int .i64 q, .slice A xs.length c] 36)).alloc (.cells #[.int .i64 p', .int .i64 q', .slice A' ys.length c'] 36)) = .ok (.string (strOfNums xs)) _ := convC (hx.below hb0)
  have cv2 : (convert 34 9 (.slice A' ys.length c')).run Tryz.prog ((w.alloc (.cells #[.int .i64 p, .int .i64 q, .slice A xs.length c] 36)).alloc (.cells #[.int .i64 p', .int .i64 q', .slice A' ys.length c'] 36)) = .ok (.string (strOfNums ys)) _ := convC (hy.below hb0)
  have HS := Lib.hid (show same4 p q p' q' xs ys = (decide (p = p') && (decide (q = q') && ((strOfNums xs).toList == (strOfNums ys).toList))) from rfl)
  clear hx hy
  generalize same4 p q p' q' xs ys = R at *
  generalize strOfNums xs = s at *
  generalize strOfNums ys = t at *
  generalize xs.length = n at *
  generalize ys.length = m at *
  by_cases h1 : p = p'
  · by_cases h2 : q = q'
    · subst h1 h2
      have HR := Lib.hid (show R = (s.toList == t.toList) by rw [HS.out]; simp)
      have HB := Lib.hid hb0
      clear hb0
      go_enter Tryz.func35, Tryz.ntmps35
      go_wp2
      go_ret
      exact ⟨by rw [HR.out]; rfl, HB.out⟩
    · have HR := Lib.hid (show R = false by rw [HS.out]; simp [h2])
      subst h1
      have HB := Lib.hid hb0
      clear hb0
      go_enter Tryz.func35, Tryz.ntmps35
      go_wp2
      go_ret
      exact ⟨by rw [HR.out]; rfl, HB.out⟩
  · have HR := Lib.hid (show R = false by rw [HS.out]; simp [h1])
    have HB := Lib.hid hb0
    clear hb0
    go_enter Tryz.func35, Tryz.ntmps35
    go_wp2
    go_ret
    exact ⟨by rw [HR.out]; rfl, HB.out⟩
theorem sameEntries_any (x y : EnD) (A A' : Option Addr) (c c' : Nat) (w : World) (hx : BytesAt 5 w w.heap.size A x.body) (hy : BytesAt 5 w w.heap.size A' y.body) :
    Calls Tryz.prog 35 #[.agg #[.int .i64 x.term, .int .i64 x.ek, .slice A x.body.length c], .agg #[.int .i64 y.term, .int .i64 y.ek, .slice A' y.body.length c']] w (BoolRet w (sameEn x y)) :=
  sameEntries4 x.term x.ek y.term y.ek x.body y.body A A' c c' w hx hy
end Go.Proofs.YtjhhdklbiibhdaaGreatDoor
