/-
  For every list of steps and every per cent, StatsPercentile of samaritanlaw55 returns true, and both arguments read afterwards as they read before. The listed variable (deBruijn64tab of package bits) is tied to the program's text by the given card.
-/
import Derived.Test.YtacogbmafmdnjaaGreatDoorRows
import Derived.Test.YtacogbmafmdnjaaGreatDoorCards
import Derived.Test.YtacogbmafmdnjaaGreatDoorTie
import Derived.Test.YtacogbmafmdnjaaGreatDoorAwakePercD
import Derived.Test.YtacogbmafmdnjaaGreatDoorWakes
import Derived.Test.YtacogbmafmdnjaaGreatDoorAddPercFacts
import Derived.Test.YtacogbmafmdnjaaGreatDoorEvLift
import Derived.SevenTiedAt
namespace Go.Proofs.YtacogbmafmdnjaaGreatDoor
open Go Go.Ev Go.ChangeShapes Go.WideShapes Go.RowKit
set_option maxHeartbeats 100000000

theorem own : ownKnob Tryz.prog.godebug = none := by as_aux_lemma => kernel_rfl
theorem laidOut : laidOutB Tryz.prog = true := by as_aux_lemma => kernel_rfl
theorem g64 : Tryz.prog.globalNamed "math/bits.deBruijn64tab" = some 2 := by as_aux_lemma => kernel_rfl
def laid1 : List (String × DataW Unit) := [("math/bits.deBruijn64tab", Rows.laid_math_bits_deBruijn64tab)]
theorem door_met1 (os : Os) (args : Array Value) : laidMetH Tryz.prog laid1 ((World.doorLaid Tryz.prog 24 os).forCall (fun _ _ => 0) ⟨#[], args, []⟩).memory :=
  laidMetH_of_parts3 (fuel := 8) (laidMet_of_run' 8 (by as_aux_lemma => kernel_rfl) (by as_aux_lemma => kernel_rfl)) (by as_aux_lemma => kernel_rfl) (by as_aux_lemma => kernel_rfl)
theorem t64_of_laid {W : World} (h : laidMetH Tryz.prog laid1 W) : t64.In W := by
  rw [MakeChecks.laidMetH_plain _ _ _ (by as_aux_lemma => kernel_rfl)] at h
  exact tab_in_of_laid (rest := []) g64 (by as_aux_lemma => kernel_rfl) Tryz.underlying376 Tryz.underlying5 (by as_aux_lemma => kernel_rfl) (by as_aux_lemma => kernel_rfl) (by decide) h
theorem four {W : World} (h : W.ShapedOpen Tryz.prog) : 4 ≤ W.heap.size := size_of_shaped (g := 3) h (by rw [globs]; decide) (by as_aux_lemma => kernel_rfl)
theorem tabIn_below {W W' : World} (h : t64.In W) (hb : Below W.heap.size W W') : t64.In W' := by
  obtain ⟨arr, e, lo, hi, h1, h2⟩ := h
  exact ⟨arr, e, lo, hi, (hb.block _ (Array.getElem?_eq_some_iff.1 h1).1).trans h1, h2⟩
theorem wakes_any (w : World) (hw : 4 ≤ w.heap.size) (hT : t64.In w) : Calls Tryz.prog 9 #[] w fun e w' => e = .returned (.bool true) ∧ Below w.heap.size w w' :=
  (@answers_of_run Tryz.prog tab0 val0 mix (fun r hr => by cases hr) 9 [] [] 4 [t64] (Nat.le_of_eq globs) t64_lt wakes_run (fun m => @concL_nil tab0 val0 m) w hw (fun t ht => by
    obtain rfl := List.mem_singleton.1 ht
    exact hT)).calls

theorem u16_of_wf {z : Int} (h : (Lit.int .u16 z).wf = true) : 0 ≤ z ∧ z ≤ 65535 := by
  simp [Lit.wf, IntKind.min, IntKind.max, IntKind.signed, IntKind.bits] at h
  omega

set_option maxRecDepth 100000 in
theorem open_steps {H : Type} {enc : TypeId × Value → H} {W : World} {r : Reach} {b0 : Nat} {v : Value} {d : DataW H} {p : List MemPlace}
    (hv : Value.okWide Tryz.prog W r b0 48 v) (h : DataW.Trod enc Tryz.prog W 0 (fun _ => true) true 48 v d p) :
    ∃ (A : Option Addr) (c : Nat) (xs : List Int), v = .slice A xs.length c ∧ StepsIn W A xs ∧ Small xs ∧ xs.length ≤ 9223372036854775807 := by
  obtain ⟨a0, len, cap, rfl⟩ := okWide_slice Tryz.underlying48 hv
  obtain ⟨fuel, hf⟩ := h
  rcases open_ints Tryz.underlying48 Tryz.underlying49 (by as_aux_lemma => kernel_rfl) hf with ⟨hcs, _⟩ | ⟨a, len', cap', zs, hcs, _, hl, hm, hzl, _, hc, hw⟩
  · have e : Value.slice a0 len cap = .slice none 0 0 := by simpa [Value.cells] using hcs
    rw [e]
    exact ⟨none, 0, [], rfl, fun k hk => by simp at hk, fun k hk => by simp at hk, Nat.zero_le _⟩
  · have e : Value.slice a0 len cap = .slice (some a) len' cap' := by simpa [Value.cells] using hcs
    rw [e]
    have hzl' : zs.length = cap' := by simpa using hzl
    have hmx : cap' ≤ 9223372036854775807 := hm
    have hlt : (zs.take len').length = len' := by rw [List.length_take]; omega
    have hget : ∀ k, k < len' → (zs.take len')[k]?.getD 0 = zs.getD k 0 := fun k hk => by
      rw [List.getElem?_take_of_lt hk, List.getD_eq_getElem?_getD]
    refine ⟨some a, cap', zs.take len', by rw [hlt], ?_, ?_, by rw [hlt]; omega⟩
    · intro k hk
      rw [hlt] at hk
      rw [hget k hk]
      have e1 := hc k (by omega)
      have e0 := hc 0 (by omega)
      have hplain : a.spot = none := by
        cases hs : a.spot with
        | none => rfl
        | some q =>
          have e0' : W.cell? a = some (.int .u16 (zs.getD 0 0)) := e0
          unfold World.cell? at e0'
          rw [hs] at e0'
          split at e0' <;> simp at e0'
      obtain ⟨b, off, spot⟩ := a
      simp only at hplain
      subst hplain
      have hadd : ∀ j, (⟨b, off, none⟩ : Addr).add j = ⟨b, off + j, none⟩ := fun j => by unfold Addr.add; split <;> simp_all
      rw [hadd] at e1
      exact ⟨b, off, rfl, World.block_lt_of_cell? _ _ e1, e1⟩
    · intro k hk
      rw [hlt] at hk
      rw [hget k hk, List.getD_eq_getElem?_getD]
      have hkz : k < zs.length := by omega
      have := u16_of_wf (hw zs[k] (List.getElem_mem hkz))
      simpa [hkz] using this

set_option maxRecDepth 100000 in
theorem statsPercentile_lifted (os : Os) (started : os.Started) (H : Type) (enc : TypeId × Value → H) :
    ReturnsInHanded {} Tryz.checked os 5 .any (fun w args => (Rows.statsPercentileSpec.pre enc Tryz.prog Tryz.f5 [] false w args ∧ laidMetH Tryz.prog laid1 w) ∧ sizedMet enc Tryz.prog Tryz.f5 (OpenSpec.ofChange Rows.statsPercentileSpec) false w args)
      (Rows.statsPercentileSpec.post enc Tryz.prog Tryz.f5 false true false false) := by
  refine lifted_true (C := Tryz.checked) (laid := laid1) (t := 4) own started (by as_aux_lemma => kernel_rfl) Tryz.func5
    (ChangeSpec.witness_shaped (enc := enc) (C := Tryz.checked) (os := os) (X := fun w _ => laidMetH Tryz.prog laid1 w) false (World.doorLaid Tryz.prog 24 os) #[.slice none 0 0, .int .i64 0] 8 rfl (World.shaped_of_RefB (by as_aux_lemma => kernel_rfl) (by as_aux_lemma => kernel_rfl)) (by as_aux_lemma => kernel_rfl) (by as_aux_lemma => kernel_rfl) (by as_aux_lemma => kernel_rfl) (door_met1 os _))
    laidOut (by as_aux_lemma => kernel_rfl) rfl (by as_aux_lemma => kernel_rfl) Tryz.underlying4 (fun ds hd => ?_) ?_
  · have hd' : ds.length = 2 := hd
    match ds, hd' with
    | [d1, d2], _ => rfl
  · intro W base args ds ps hval hA _ hL hsh
    have hA' : DataW.TrodAll enc Tryz.prog W 0 (fun _ => true) true Tryz.f5.params.toList args.toList ds ps := hA
    have hval' : ∀ (j : Nat) t v, Tryz.f5.params[j]? = some t → args[j]? = some v → Value.okWide Tryz.prog W .any base t v := hval
    rw [Tryz.params5] at hA' hval'
    have h4 := four hsh
    have haw : ∀ W' : World, Below W.heap.size W W' → Calls Tryz.prog 9 #[] W' fun e w' => e = .returned (.bool true) ∧ Below W'.heap.size W' w' := fun W' hb => wakes_any W' (Nat.le_trans h4 hb.size) (tabIn_below (t64_of_laid hL) hb)
    obtain ⟨v0, v1, d0, d1, p0, p1, rfl, rfl, rfl, h0, h1⟩ := trodAll_two hA'
    obtain ⟨A, c, xs, rfl, hS, hx, hlen⟩ := open_steps (hval' 0 48 v0 rfl rfl) h0
    obtain ⟨z, rfl, _, _, _⟩ := open_int Tryz.underlying3 (hval' 1 3 v1 rfl rfl) h1
    exact lawP_any A c xs z W hS hx hlen haw

theorem statsPercentile_said : Rows.StatsPercentileSaid :=
  OpenClaim.holds_of_wide 5 Tryz.f5 rfl rfl rfl rfl rfl rfl rfl ⟨rfl, rfl, rfl, rfl, rfl⟩ rfl rfl rfl rfl rfl (by as_aux_lemma => kernel_rfl) Tryz.func5 statsPercentile_facts
    (of_decide_eq_true (by as_aux_lemma => kernel_rfl)) (by unfold Func.isWrapper; rw [if_neg (of_decide_eq_false (by as_aux_lemma => kernel_rfl))]; exact ⟨rfl, rfl⟩)
    (fun os started H enc _ => statsPercentile_lifted os started H enc)

/-- the card -/
theorem statsPercentile_holds : Rows.StatsPercentileCardSaid :=
  Claim7.holds_tied_plain_at .later [] [.data] true (true, "51e7748c48568807ac5c4575b2ceec215f51bd5a3ad07d1b454bc1b3d3d37dc3") false
    statsPercentile_said (fun _ h => by cases h) (by as_aux_lemma => kernel_rfl) (fun _ h => by cases h) statsPercentile_row_tie rfl ⟨rfl, rfl⟩ (by as_aux_lemma => kernel_rfl) rfl
    (fun f fn hf hfn => by
      obtain rfl : f = 5 := Option.some.inj ((show Tryz.prog.funcNamed Rows.statsPercentileRow.func = some 5 by as_aux_lemma => kernel_rfl).symm.trans hf) |>.symm
      obtain rfl : fn = Tryz.f5 := (Option.some.inj (Tryz.func5.symm.trans hfn)).symm
      exact ⟨(by as_aux_lemma => kernel_rfl), fun j t ht => by
        rw [Tryz.params5] at ht
        have hm : t ∈ [48, 3] := by simpa using Array.mem_of_getElem? ht
        have hall : ([48, 3].all fun u => !Tryz.prog.wantsStandIn u) = true := by as_aux_lemma => kernel_rfl
        exact (show Tryz.prog.wantsStandIn t = false by simpa using List.all_eq_true.1 hall t hm)⟩)
    (by as_aux_lemma => kernel_rfl)
#print axioms statsPercentile_holds
end Go.Proofs.YtacogbmafmdnjaaGreatDoor
