/-
  VerifyCentres of samaritanlaw53, but for its walk: the card follows from what the walk shows.
-/
import Derived.Test.YtjhhdklbiibhdaaGreatDoorRows
import Derived.Test.YtjhhdklbiibhdaaGreatDoorCards
import Derived.Test.YtjhhdklbiibhdaaGreatDoorTie
import Derived.Test.YtjhhdklbiibhdaaGreatDoorAwakeOpen
import Derived.Test.YtjhhdklbiibhdaaGreatDoorAwakeV
import Derived.Test.YtjhhdklbiibhdaaGreatDoorAddCentresFacts
import Derived.Test.YtjhhdklbiibhdaaGreatDoorEvLift
import Derived.SevenTiedAt
namespace Go.Proofs.YtjhhdklbiibhdaaGreatDoor
open Go Go.Ev Go.ChangeShapes Go.WideShapes Go.RowKit
set_option maxHeartbeats 100000000

theorem own : ownKnob Tryz.prog.godebug = none := by as_aux_lemma => kernel_rfl
theorem laidOut : laidOutB Tryz.prog = true := by as_aux_lemma => kernel_rfl
theorem g64 : Tryz.prog.globalNamed "math/bits.deBruijn64tab" = some 2 := by as_aux_lemma => kernel_rfl
def laid1 : List (String × DataW Unit) := [("math/bits.deBruijn64tab", Rows.laid_math_bits_deBruijn64tab)]
theorem door_met1 (os : Os) (args : Array Value) : laidMetH Tryz.prog laid1 ((World.doorLaid Tryz.prog 24 os).forCall (fun _ _ => 0) ⟨#[], args, []⟩).memory :=
  laidMetH_of_parts3 (fuel := 8) (laidMet_of_run' 8 (by as_aux_lemma => kernel_rfl) (by as_aux_lemma => kernel_rfl)) (by as_aux_lemma => kernel_rfl) (by as_aux_lemma => kernel_rfl)
theorem t64_of_laid {W : World} (h : laidMetH Tryz.prog laid1 W) : t64.In W := by
  rw [MakeChecks.laidMetH_plain _ _ _ (by as_aux_lemma => kernel_rfl)] at h
  exact tab_in_of_laid (rest := []) g64 (by as_aux_lemma => kernel_rfl) Tryz.underlying404 Tryz.underlying5 (by as_aux_lemma => kernel_rfl) (by as_aux_lemma => kernel_rfl) (by decide) h
theorem four {W : World} (h : W.ShapedOpen Tryz.prog) : 4 ≤ W.heap.size := size_of_shaped (g := 3) h (by rw [globs]; decide) (by as_aux_lemma => kernel_rfl)

theorem tabIn_below {W W' : World} (h : t64.In W) (hb : Go.RowKit.Below W.heap.size W W') : t64.In W' := by
  obtain ⟨arr, e, lo, hi, h1, h2⟩ := h
  exact ⟨arr, e, lo, hi, (hb.block _ (Array.getElem?_eq_some_iff.1 h1).1).trans h1, h2⟩
theorem awake_any (w : World) (hw : 4 ≤ w.heap.size) (hT : t64.In w) : Calls Tryz.prog 8 #[] w fun e w' => e = .returned (.bool true) ∧ Go.RowKit.Below w.heap.size w w' :=
  (@answers_of_run Tryz.prog tab0 val0 mix (fun r hr => by cases hr) 8 [] [] 4 [t64] (Nat.le_of_eq globs) t64_lt awake_run (fun m => @concL_nil tab0 val0 m) w hw (fun t ht => by
    obtain rfl := List.mem_singleton.1 ht
    exact hT)).calls

def VerifyCentresAny : Prop := ∀ (A : Option Addr) (c : Nat) (L : List EvD) (w : World) (_ : RowIn 5 28 (EvC 5) w A L) (_ : L.length ≤ 140737488355328) (_ : ∀ x ∈ L, x.body.length ≤ 140737488355328) (_ : 4 ≤ w.heap.size)
    (_ : ∀ W : World, Below w.heap.size w W → Calls Tryz.prog 8 #[] W fun e w' => e = .returned (.bool true) ∧ Below W.heap.size W w') (_ : ∀ W : World, Below w.heap.size w W → t64.In W),
    Calls Tryz.prog 4 #[.slice A L.length c] w fun e w' => e = .returned (.bool true) ∧ Below w.heap.size w w'

set_option maxRecDepth 100000 in
theorem verifyCentres_lifted (HANY : VerifyCentresAny) (os : Os) (started : os.Started) (H : Type) (enc : TypeId × Value → H) :
    ReturnsInHanded {} Tryz.checked os 4 .any (fun w args => (Rows.verifyCentresSpec.pre enc Tryz.prog Tryz.f4 [] false w args ∧ laidMetH Tryz.prog laid1 w) ∧ sizedMet enc Tryz.prog Tryz.f4 (OpenSpec.ofChange Rows.verifyCentresSpec) false w args)
      (Rows.verifyCentresSpec.post enc Tryz.prog Tryz.f4 false true false false) := by
  refine lifted_true (C := Tryz.checked) (laid := laid1) (t := 4) own started (by as_aux_lemma => kernel_rfl) Tryz.func4
    (ChangeSpec.witness_shaped (enc := enc) (C := Tryz.checked) (os := os) (X := fun w _ => laidMetH Tryz.prog laid1 w) false (World.doorLaid Tryz.prog 24 os) #[.slice none 0 0] 8 rfl (World.shaped_of_RefB (by as_aux_lemma => kernel_rfl) (by as_aux_lemma => kernel_rfl)) (by as_aux_lemma => kernel_rfl) (by as_aux_lemma => kernel_rfl) (by as_aux_lemma => kernel_rfl) (door_met1 os _))
    laidOut (by as_aux_lemma => kernel_rfl) rfl (by as_aux_lemma => kernel_rfl) Tryz.underlying4 (fun ds hd => ?_) ?_
  · have hd' : ds.length = 1 := hd
    match ds, hd' with
    | [d1], _ => rfl
  · intro W base args ds ps hval hA hwt hL hsh
    have hA' : DataW.TrodAll enc Tryz.prog W 0 (fun _ => true) true Tryz.f4.params.toList args.toList ds ps := hA
    have hval' : ∀ (j : Nat) t v, Tryz.f4.params[j]? = some t → args[j]? = some v → Value.okWide Tryz.prog W .any base t v := hval
    rw [Tryz.params4] at hA' hval'
    obtain ⟨v0, d0, rfl, rfl, h0⟩ := trodAll_one hA'
    have hwt' : (DataW.weightsEach Tryz.prog (Tryz.f4.params.toList ++ Rows.verifyCentresSpec.plain.varTypes Tryz.prog) ([d0] ++ [])).all (· ≤ reachBytes) = true := hwt
    rw [Tryz.params4] at hwt'
    obtain ⟨A, c, L, rfl, hR, hlen, hbody⟩ := open_events (hval' 0 22 v0 rfl rfl) h0 (fun m hm => by simpa using List.all_eq_true.1 hwt' m (DataW.weights_mem_each (j := 0) (t := 22) (d := d0) rfl rfl m hm))
    have h4 := four hsh
    exact HANY A c L W hR hlen hbody h4 (fun W' hb => awake_any W' (Nat.le_trans h4 hb.size) (tabIn_below (t64_of_laid hL) hb)) (fun W' hb => tabIn_below (t64_of_laid hL) hb)

theorem verifyCentres_said (HANY : VerifyCentresAny) : Rows.VerifyCentresSaid :=
  OpenClaim.holds_of_wide 4 Tryz.f4 rfl rfl rfl rfl rfl rfl rfl ⟨rfl, rfl, rfl, rfl, rfl⟩ rfl rfl rfl rfl rfl (by as_aux_lemma => kernel_rfl) Tryz.func4 verifyCentres_facts
    (of_decide_eq_true (by as_aux_lemma => kernel_rfl)) (by unfold Func.isWrapper; rw [if_neg (of_decide_eq_false (by as_aux_lemma => kernel_rfl))]; exact ⟨rfl, rfl⟩)
    (fun os started H enc _ => verifyCentres_lifted HANY os started H enc)

/-- the card -/
theorem verifyCentres_most (HANY : VerifyCentresAny) : Rows.VerifyCentresCardSaid :=
  Claim7.holds_tied_plain_at .later [] [.data] true (true, "1d1436db72fdef282e2e3360a73f29a88666de1cb9ce74d3713f967f9a77340d") false
    (verifyCentres_said HANY) (fun _ h => by cases h) (by as_aux_lemma => kernel_rfl) (fun _ h => by cases h) verifyCentres_row_tie rfl ⟨rfl, rfl⟩ (by as_aux_lemma => kernel_rfl) rfl
    (fun f fn hf hfn => by
      obtain rfl : f = 4 := Option.some.inj ((show Tryz.prog.funcNamed Rows.verifyCentresRow.func = some 4 by as_aux_lemma => kernel_rfl).symm.trans hf) |>.symm
      obtain rfl : fn = Tryz.f4 := (Option.some.inj (Tryz.func4.symm.trans hfn)).symm
      exact ⟨by as_aux_lemma => kernel_rfl, fun j t ht => by
        rw [Tryz.params4] at ht
        have hm : t ∈ [22] := by simpa using Array.mem_of_getElem? ht
        have hall : ([22].all fun u => !Tryz.prog.wantsStandIn u) = true := by as_aux_lemma => kernel_rfl
        exact (show Tryz.prog.wantsStandIn t = false by simpa using List.all_eq_true.1 hall t hm)⟩)
    (by as_aux_lemma => kernel_rfl)
end Go.Proofs.YtjhhdklbiibhdaaGreatDoor
