/-
  The town of the statements, and what few answers in this program, for every trace.
-/
import Derived.Test.YtjhhdklbiibhdaaGreatDoorAwakeV
import Derived.Test.YtjhhdklbiibhdaaGreatDoorEvTwo
import Derived.Test.YtjhhdklbiibhdaaGreatDoorAwakeRowB
namespace Go.Proofs.YtjhhdklbiibhdaaGreatDoor
open Go Go.Ev
theorem cells61 : Tryz.prog.cellsOf 61 = 15 := by kernel_rfl
theorem town_run : @okTwo tab0 Tryz.prog 25 [.int .i64 1] 60 [.slice none 0 0, .int .i64 0] 4 [t64] true 15 = true := by kernel_rfl
theorem town_any (w : World) (hw : 4 ≤ w.heap.size) (hT : t64.In w) :
    Calls Tryz.prog 25 #[.int .i64 1] w fun e w' => ∃ cs : List Value, e = .returned (.agg ⟨cs⟩) ∧ cs.length = 15 ∧ (∀ u ∈ cs, u.oneCell' = true) ∧ Go.RowKit.Below w.heap.size w w' ∧
      ∀ W, Go.RowKit.Below w'.heap.size w' W → Calls Tryz.prog 60 #[.agg ⟨cs⟩, .slice none 0 0, .int .i64 0] W fun e W' => e = .returned (.bool true) ∧ Go.RowKit.Below W.heap.size W W' :=
  @two_of_run Tryz.prog tab0 val0 mix (fun r hr => by cases hr) 25 60 [.int .i64 1] [.int .i64 1] [.slice none 0 0, .int .i64 0] [.slice none 0 0, .int .i64 0] 4 [t64] true 15 (Nat.le_of_eq globs) t64_lt town_run
    (fun m => by simp [concL, conc]) (fun m => by simp [concL, conc]) w hw (fun t ht => by
    obtain rfl := List.mem_singleton.1 ht
    exact hT)
end Go.Proofs.YtjhhdklbiibhdaaGreatDoor
namespace Go.Proofs.YtjhhdklbiibhdaaGreatDoor
open Go Go.RowKit Go.Ev

theorem fifteen {cs : List Value} (h : cs.length = 15) : ∃ d0 d1 d2 d3 d4 d5 d6 d7 d8 d9 d10 d11 d12 d13 d14, cs = [d0, d1, d2, d3, d4, d5, d6, d7, d8, d9, d10, d11, d12, d13, d14] := by
  match cs, h with
  | [d0, d1, d2, d3, d4, d5, d6, d7, d8, d9, d10, d11, d12, d13, d14], _ => exact ⟨d0, d1, d2, d3, d4, d5, d6, d7, d8, d9, d10, d11, d12, d13, d14, rfl⟩

/-- what the laws go on from -/
def Few (L : List EvD) : Prop := L.length ≤ 80 ∧ ∀ x ∈ L, x.body.length ≤ 2000
def tot : List EvD → Nat
  | [] => 0
  | x :: L => 1 + x.body.length + tot L
theorem tot_append : ∀ (L M : List EvD), tot (L ++ M) = tot L + tot M
  | [], M => by simp [tot]
  | x :: L, M => by
    have := tot_append L M
    simp only [List.cons_append, tot]
    omega
theorem tot_snoc {L : List EvD} {k : Nat} {x : EvD} (hx : L[k]? = some x) : tot (L.take (k + 1)) = tot (L.take k) + 1 + x.body.length := by
  obtain ⟨hk, rfl⟩ := List.getElem?_eq_some_iff.1 hx
  rw [List.take_succ_eq_append_getElem hk, tot_append]
  simp only [tot]
  omega
theorem tot_take (L : List EvD) (k : Nat) : tot (L.take k) ≤ tot L := by
  have := tot_append (L.take k) (L.drop k)
  rw [List.take_append_drop] at this
  omega
theorem tot_mem : ∀ (L : List EvD) x, x ∈ L → x.body.length ≤ tot L
  | y :: L, x, h => by
    simp only [tot]
    rcases List.mem_cons.1 h with rfl | h
    · omega
    · have := tot_mem L x h
      omega
def fewB (L : List EvD) : Bool := decide (tot L ≤ 2000 ∧ L.length ≤ 80)
theorem few_of {L : List EvD} (h : fewB L = true) : Few L := by
  obtain ⟨h1, h2⟩ := of_decide_eq_true h
  exact ⟨h2, fun x hx => Nat.le_trans (tot_mem L x hx) h1⟩
def FewRet (w : World) (L : List EvD) (e : Ending) (w' : World) : Prop := e = .returned (.bool (fewB L)) ∧ Below w.heap.size w w'
theorem few_no1 {L : List EvD} {k s : Nat} (h : s = tot (L.take k)) (h2 : 2000 < s) : fewB L = false := by
  have := tot_take L k
  exact decide_eq_false (by omega)
theorem few_no2 {L : List EvD} (h : 80 < L.length) : fewB L = false := decide_eq_false (by omega)
theorem few_yes {L : List EvD} {s : Nat} (h : s = tot (L.take L.length)) (h2 : s ≤ 2000) (h3 : L.length ≤ 80) : fewB L = true := by
  rw [List.take_length] at h
  exact decide_eq_true ⟨by omega, h3⟩

set_option maxHeartbeats 4000000 in
set_option maxRecDepth 100000 in
theorem small_any (cs : List Value) (h15 : cs.length = 15) (A : Option Addr) (c : Nat) (L : List EvD) (w : World) (hL : RowIn 5 28 (EvC 5) w A L) (hlen : L.length ≤ 140737488355328) (hbody : ∀ x ∈ L, x.body.length ≤ 140737488355328)
    (h44 : ∀ W, Below w.heap.size w W → Calls Tryz.prog 60 #[.agg ⟨cs⟩, .slice none 0 0, .int .i64 0] W fun e W' => e = .returned (.bool true) ∧ Below W.heap.size W W') :
    Calls Tryz.prog 29 #[.agg ⟨cs⟩, .slice A L.length c] w (FewRet w L) := by
  obtain ⟨d0, d1, d2, d3, d4, d5, d6, d7, d8, d9, d10, d11, d12, d13, d14, rfl⟩ := fifteen h15
  have HL := Lib.hid hL
  have HBD := Lib.hid hbody
  have H44 := Lib.hid h44
  have hb0 : Below w.heap.size w (w.alloc (.cells #[d0, d1, d2, d3, d4, d5, d6, d7, d8, d9, d10, d11, d12, d13, d14] 61)) := (Below.refl _ w).alloc (Nat.le_refl _) _
  have HB := Lib.hid hb0
  clear hL hbody h44 h15 hb0
  go_enter Tryz.func29, Tryz.ntmps29
  go_wp2
  go_loopw [5, 6] (fun nv i wr => ∃ k s : Nat, k ≤ L.length ∧ i = .int .i64 k ∧ nv = .int .i64 s ∧ s ≤ 140737488360000 ∧ Hid (s = tot (L.take k)) ∧ wr = w.alloc (.cells #[d0, d1, d2, d3, d4, d5, d6, d7, d8, d9, d10, d11, d12, d13, d14] 61)) (fun _ i _ => L.length - (intOf i).toNat)
  case atStart => exact ⟨0, 0, Nat.zero_le _, rfl, rfl, by omega, (show 0 = tot (L.take 0) from rfl), rfl⟩
  case round =>
    obtain ⟨k, s, hk, rfl, rfl, hs, HK, rfl⟩ := hrel
    by_cases hlt : k < L.length
    · by_cases hs2 : s ≤ 2000
      · obtain ⟨x, hx⟩ : ∃ x, L[k]? = some x := ⟨_, List.getElem?_eq_getElem hlt⟩
        obtain ⟨b, off, cs, rfl, hbl, hl, hr, B, cap, tl, rfl, htl, hone, hby, hnil⟩ := HL.out k x hx
        have q8 : (w.alloc (.cells #[d0, d1, d2, d3, d4, d5, d6, d7, d8, d9, d10, d11, d12, d13, d14] 61)).cell? ⟨b, off + k * 28 + 6 + 2, none⟩ = some (.slice B x.body.length cap) := (HB.out.cell (p := ⟨b, off + k * 28 + 6 + 2, none⟩) hbl).trans (hr 8 _ rfl)
        have hbl2 := HBD.out x (List.mem_of_getElem? hx)
        have HX := Lib.hid hx
        clear hx hr hby hnil hone htl hl
        go_wp2
        go_roundw
        case rel =>
          refine ⟨k + 1, s + 1 + x.body.length, by omega, by go_num, by go_num, by omega, ?_, by first | rfl | trivial⟩
          show s + 1 + x.body.length = tot (L.take (k + 1))
          rw [tot_snoc HX.out, ← HK.out]
        case measure => simp [intOf]; omega
      · have hs3 : 2000 < s := by omega
        have HF := Lib.hid (few_no1 HK.out hs3)
        go_wp2
        go_ret
        exact ⟨by rw [HF.out]; rfl, HB.out⟩
    · obtain rfl : k = L.length := by omega
      by_cases hs2 : s ≤ 2000
      · by_cases h80 : L.length ≤ 80
        · have HF := Lib.hid (few_yes HK.out hs2 h80)
          go_wp2_with (go_at_call 60; refine (H44.out _ HB.out).mono ?_; rintro e w1 ⟨rfl, hb1⟩)
          go_ret
          exact ⟨by rw [HF.out]; rfl, HB.out.trans (hb1.mono (by simp))⟩
        · have h81 : 80 < L.length := by omega
          have HF := Lib.hid (few_no2 h81)
          go_wp2
          go_ret
          exact ⟨by rw [HF.out]; rfl, HB.out⟩
      · have hs3 : 2000 < s := by omega
        have HF := Lib.hid (few_no1 HK.out hs3)
        go_wp2
        go_ret
        exact ⟨by rw [HF.out]; rfl, HB.out⟩

set_option maxHeartbeats 2000000 in
theorem few_any (A : Option Addr) (c : Nat) (L : List EvD) (w : World) (hL : RowIn 5 28 (EvC 5) w A L) (hlen : L.length ≤ 140737488355328) (hbody : ∀ x ∈ L, x.body.length ≤ 140737488355328) (hw : 4 ≤ w.heap.size) (hT : t64.In w) :
    Calls Tryz.prog 9 #[.slice A L.length c] w (FewRet w L) := by
  have cT := town_any w hw hT
  have cS : ∀ (cs : List Value) (W : World), cs.length = 15 → Below w.heap.size w W → (∀ W', Below W.heap.size W W' → Calls Tryz.prog 60 #[.agg ⟨cs⟩, .slice none 0 0, .int .i64 0] W' fun e W'' => e = .returned (.bool true) ∧ Below W'.heap.size W' W'') →
      Calls Tryz.prog 29 #[.agg ⟨cs⟩, .slice A L.length c] W (FewRet W L) := fun cs W h15 hb h44 =>
    small_any cs h15 A c L W (RowIn.below (C := EvC 5) (evC_stays 5) (evC_lowers 5) hL hb) hlen hbody h44
  have CT := Lib.hid cT
  have CS := Lib.hid cS
  clear cT cS hL hbody hT
  go_enter Tryz.func9, Tryz.ntmps9
  go_wp2_with (first | (go_at_call 25; refine CT.out.mono ?_; rintro e w1 ⟨cs, rfl, h15, hone, hb1, h44⟩; have H15 := Lib.hid h15; have H44 := Lib.hid h44; clear h15 hone h44) | (go_at_call 29; refine (CS.out cs _ H15.out hb1 H44.out).mono ?_; rintro e w2 ⟨rfl, hb2⟩))
  go_ret
  exact ⟨rfl, hb1.trans (hb2.mono hb1.size)⟩
end Go.Proofs.YtjhhdklbiibhdaaGreatDoor
