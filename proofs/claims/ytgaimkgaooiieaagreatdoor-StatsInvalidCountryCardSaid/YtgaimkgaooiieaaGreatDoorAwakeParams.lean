/-
  What config.validParameters answers in this program, for every configuration within the reach: twenty-one runs of the verified evaluator at unknown numbers.
-/
import Derived.Test.YtgaimkgaooiieaaGreatDoorAwakeCfgD
import Derived.Test.YtgaimkgaooiieaaGreatDoorWakes
import Derived.Test.YtgaimkgaooiieaaGreatDoorEvRules
import Derived.Test.YtgaimkgaooiieaaGreatDoorEvTwo
namespace Go.Proofs.YtgaimkgaooiieaaGreatDoor
open Go Go.RowKit Go.Ev

/-! ## a run that begins in a memory of one known block -/
noncomputable def st1 (G n : Nat) : St := ⟨(Mem.lf).put (some (.cells n (fillT ((List.range n).map fun i => Value.float .f64 i) 0 .lf))) G, G + 1, G + 1⟩
def map1 (G g n : Nat) : Map := fun b => if b = G then some ⟨g, 0, n⟩ else if b < G then some ⟨b, 0, 0⟩ else none
theorem map1_some {G g n b : Nat} {x : M} (h : map1 G g n b = some x) : (b = G ∧ x = ⟨g, 0, n⟩) ∨ (b < G ∧ x = ⟨b, 0, 0⟩) := by
  unfold map1 at h
  split at h
  · cases h; exact .inl ⟨by assumption, rfl⟩
  · split at h
    · cases h; exact .inr ⟨by assumption, rfl⟩
    · cases h
theorem st1_get {G n b : Nat} {k : Blk} (h : (st1 G n).mem.get b = some k) : b = G ∧ k = .cells n (fillT ((List.range n).map fun i => Value.float .f64 i) 0 .lf) := by
  unfold st1 at h
  simp only at h
  rw [get_memput, get_memlf] at h
  split at h
  · cases h; exact ⟨by assumption, rfl⟩
  · cases h
section
variable {P : Program} [OTab] [OVal]
theorem rel_one {G g n : Nat} {w : World} {arr : Array Value} {e : TypeId} (hG : P.globals.size ≤ G) (hw : G ≤ w.heap.size) (hg : w.heap[g]? = some (.cells arr e)) (hn : n = arr.size) (hv : ∀ i, i < n → arr[i]? = some (OVal.val i)) : Rel P (map1 G g n) (st1 G n) w where
  glob := fun q hq => ⟨0, by unfold map1; rw [if_neg (by omega), if_pos (by omega)]⟩
  inb := fun b x hb => by
    rcases map1_some hb with ⟨_, rfl⟩ | ⟨h, rfl⟩
    · exact (Array.getElem?_eq_some_iff.1 hg).1
    · exact Nat.lt_of_lt_of_le h hw
  blks := fun b x k hb hk => by
    obtain ⟨rfl, rfl⟩ := st1_get hk
    rcases map1_some hb with ⟨_, rfl⟩ | ⟨h, _⟩
    · refine ⟨arr, e, 0, 0, hg, by show 0 + n ≤ arr.size; omega, Nat.le_refl _, fun i _ => by omega, fun i hi => ?_⟩
      refine ⟨.float .f64 i, OVal.val i, ?_, by rw [conc], by show arr[0 + i]? = _; rw [Nat.zero_add]; exact hv i hi⟩
      rw [fillT_get, if_pos (by simp; omega)]
      simp [hi]
    · omega
  dist := fun b c x y kb kc hbc _ _ hk hc => by
    obtain ⟨rfl, _⟩ := st1_get hk
    obtain ⟨rfl, _⟩ := st1_get hc
    exact absurd rfl hbc
  wf := fun b hb => by
    cases hk : (st1 G n).mem.get b with
    | none => rfl
    | some k =>
      obtain ⟨rfl, _⟩ := st1_get hk
      have : b + 1 ≤ b := hb
      omega
theorem says_of_run (hmix : P.follows .mixedOrders = true) (hC : ∀ r ∈ OTab.calls, CRule.Holds P OVal.val r) {f : FuncId} {G g n : Nat} {w : World} {arr : Array Value} {e : TypeId} {b : Bool} (hG : P.globals.size ≤ G) (hw : G ≤ w.heap.size) (hg : w.heap[g]? = some (.cells arr e)) (hn : n = arr.size) (hv : ∀ i, i < n → arr[i]? = some (OVal.val i))
    (h : okAfter (G + 1) b (run P f [.pointer (some ⟨G, 0, none⟩)] (st1 G n)) = true) : Calls P f #[.pointer (some ⟨g, 0, none⟩)] w fun e w' => e = .returned (.bool b) ∧ Below w.heap.size w w' := fun cs => by
  obtain ⟨st', h1, hlow⟩ : ∃ st', run P f [.pointer (some ⟨G, 0, none⟩)] (st1 G n) = some (.bool b, st') ∧ G + 1 ≤ st'.low := by
    unfold okAfter at h
    split at h
    · rename_i c st' hr
      simp only [Bool.and_eq_true] at h
      refine ⟨st', ?_, Nat.le_of_ble_eq_true h.2⟩
      rw [hr]
      have h3 := h.1
      revert h3
      cases c <;> cases b <;> simp
    · cases h
  have hr := rel_one (P := P) hG hw hg hn hv
  have ha : concL (map1 G g n) [.pointer (some ⟨G, 0, none⟩)] = some [.pointer (some ⟨g, 0, none⟩)] := by
    refine concL_cons' ?_ (concL_nil _)
    rw [conc]
    simp [map1]
  obtain ⟨m', w', cv, s, hv', _, q⟩ := run_sound hmix hC h1 hr (fun d hd _ => by
    have hd' : G + 1 ≤ d := hd
    unfold map1
    rw [if_neg (by omega), if_neg (by omega)]) ha
  have hv2 : some (Value.bool b) = some cv := by rw [← hv']; simp [conc]
  cases hv2
  have hc := s.chk (G + 1) w (Nat.le_refl _) hlow ⟨fun d x k _ hk hd => (by rw [hr.wf d hd] at hk; cases hk), Nat.le_refl _, fun _ _ => rfl⟩
  obtain ⟨fr, q1, q2, q3⟩ := q cs
  exact ⟨.returned (.bool b), w', fr, ⟨rfl, ⟨s.os, s.tape, s.output, s.size, fun k hk => hc.2.2 k hk⟩⟩, q1, q2, q3⟩
end

/-! ## the ten parameters -/
def pval (c : CfD) (Q : CfP) (i : Nat) : Value := (cfCells c Q).toList.getD i (.int .i64 0)
theorem pval_shape (c : CfD) (Q : CfP) (i : Nat) : (∃ k n, pval c Q i = .int k n) ∨ (∃ s, pval c Q i = .string s) ∨ ∃ a l d, pval c Q i = .slice a l d := by
  match i with
  | 0 => exact .inl ⟨_, _, rfl⟩
  | 1 => exact .inr (.inr ⟨_, _, _, rfl⟩)
  | 2 => exact .inr (.inr ⟨_, _, _, rfl⟩)
  | 3 => exact .inr (.inr ⟨_, _, _, rfl⟩)
  | 4 => exact .inr (.inr ⟨_, _, _, rfl⟩)
  | 5 => exact .inl ⟨_, _, rfl⟩
  | 6 => exact .inl ⟨_, _, rfl⟩
  | 7 => exact .inl ⟨_, _, rfl⟩
  | 8 => exact .inl ⟨_, _, rfl⟩
  | 9 => exact .inl ⟨_, _, rfl⟩
  | 10 => exact .inl ⟨_, _, rfl⟩
  | 11 => exact .inl ⟨_, _, rfl⟩
  | 12 => exact .inl ⟨_, _, rfl⟩
  | 13 => exact .inl ⟨_, _, rfl⟩
  | 14 => exact .inl ⟨_, _, rfl⟩
  | n + 15 => exact .inl ⟨.i64, 0, rfl⟩
theorem pval_at (c : CfD) (Q : CfP) (i : Nat) (h : i < 15) : (cfCells c Q)[i]? = some (pval c Q i) := by
  match i, h with
  | 0, _ => rfl
  | 1, _ => rfl
  | 2, _ => rfl
  | 3, _ => rfl
  | 4, _ => rfl
  | 5, _ => rfl
  | 6, _ => rfl
  | 7, _ => rfl
  | 8, _ => rfl
  | 9, _ => rfl
  | 10, _ => rfl
  | 11, _ => rfl
  | 12, _ => rfl
  | 13, _ => rfl
  | 14, _ => rfl
def rules_lo0 : List Rule := [⟨.bin .lss, .float .f64 5, .int .i64 1, .bool true⟩]
@[reducible] def tab_lo0 : OTab := ⟨rules_lo0, []⟩
theorem run_lo0 : okAfter 3 false (@run tab_lo0 Tryz.prog 67 [.pointer (some ⟨2, 0, none⟩)] (@st1 2 15)) = true := by kernel_rfl
theorem par_lo0 (c : CfD) (Q : CfP) (g : Nat) (w : World) (hw : 2 ≤ w.heap.size) (hX : CfBox w g c Q)  (l0 : c.n0 < 1) : Calls Tryz.prog 67 #[.pointer (some ⟨g, 0, none⟩)] w (Says false w) :=
  @says_of_run Tryz.prog tab_lo0 (@OVal.mk tab_lo0 (pval c Q) (pval_shape c Q) (show ∀ r ∈ rules_lo0, r.Holds (pval c Q) from List.forall_mem_cons.2 ⟨h_lss .i64 c.n0 1 _ (decide_eq_true l0), (fun _ h => by cases h)⟩)) mix (fun r hr => by cases hr) 67 2 g 15 w (cfCells c Q) 27 false (Nat.le_of_eq globs) hw hX rfl (pval_at c Q) run_lo0
def rules_hi0 : List Rule := [⟨.bin .lss, .float .f64 5, .int .i64 1, .bool false⟩, ⟨.bin .gtr, .float .f64 5, .int .i64 1048576, .bool true⟩]
@[reducible] def tab_hi0 : OTab := ⟨rules_hi0, []⟩
theorem run_hi0 : okAfter 3 false (@run tab_hi0 Tryz.prog 67 [.pointer (some ⟨2, 0, none⟩)] (@st1 2 15)) = true := by kernel_rfl
theorem par_hi0 (c : CfD) (Q : CfP) (g : Nat) (w : World) (hw : 2 ≤ w.heap.size) (hX : CfBox w g c Q)  (l0 : ¬ c.n0 < 1) (h0 : 1048576 < c.n0) : Calls Tryz.prog 67 #[.pointer (some ⟨g, 0, none⟩)] w (Says false w) :=
  @says_of_run Tryz.prog tab_hi0 (@OVal.mk tab_hi0 (pval c Q) (pval_shape c Q) (show ∀ r ∈ rules_hi0, r.Holds (pval c Q) from List.forall_mem_cons.2 ⟨h_lss .i64 c.n0 1 _ (decide_eq_false l0), List.forall_mem_cons.2 ⟨h_gtr .i64 c.n0 1048576 _ (decide_eq_true h0), (fun _ h => by cases h)⟩⟩)) mix (fun r hr => by cases hr) 67 2 g 15 w (cfCells c Q) 27 false (Nat.le_of_eq globs) hw hX rfl (pval_at c Q) run_hi0
def rules_lo1 : List Rule := [⟨.bin .lss, .float .f64 5, .int .i64 1, .bool false⟩, ⟨.bin .gtr, .float .f64 5, .int .i64 1048576, .bool false⟩, ⟨.bin .lss, .float .f64 6, .int .i64 1, .bool true⟩]
@[reducible] def tab_lo1 : OTab := ⟨rules_lo1, []⟩
theorem run_lo1 : okAfter 3 false (@run tab_lo1 Tryz.prog 67 [.pointer (some ⟨2, 0, none⟩)] (@st1 2 15)) = true := by kernel_rfl
theorem par_lo1 (c : CfD) (Q : CfP) (g : Nat) (w : World) (hw : 2 ≤ w.heap.size) (hX : CfBox w g c Q) (l0 : ¬ c.n0 < 1) (h0 : ¬ 1048576 < c.n0) (l1 : c.n1 < 1) : Calls Tryz.prog 67 #[.pointer (some ⟨g, 0, none⟩)] w (Says false w) :=
  @says_of_run Tryz.prog tab_lo1 (@OVal.mk tab_lo1 (pval c Q) (pval_shape c Q) (show ∀ r ∈ rules_lo1, r.Holds (pval c Q) from List.forall_mem_cons.2 ⟨h_lss .i64 c.n0 1 _ (decide_eq_false l0), List.forall_mem_cons.2 ⟨h_gtr .i64 c.n0 1048576 _ (decide_eq_false h0), List.forall_mem_cons.2 ⟨h_lss .i64 c.n1 1 _ (decide_eq_true l1), (fun _ h => by cases h)⟩⟩⟩)) mix (fun r hr => by cases hr) 67 2 g 15 w (cfCells c Q) 27 false (Nat.le_of_eq globs) hw hX rfl (pval_at c Q) run_lo1
def rules_hi1 : List Rule := [⟨.bin .lss, .float .f64 5, .int .i64 1, .bool false⟩, ⟨.bin .gtr, .float .f64 5, .int .i64 1048576, .bool false⟩, ⟨.bin .lss, .float .f64 6, .int .i64 1, .bool false⟩, ⟨.bin .gtr, .float .f64 6, .int .i64 1048576, .bool true⟩]
@[reducible] def tab_hi1 : OTab := ⟨rules_hi1, []⟩
theorem run_hi1 : okAfter 3 false (@run tab_hi1 Tryz.prog 67 [.pointer (some ⟨2, 0, none⟩)] (@st1 2 15)) = true := by kernel_rfl
theorem par_hi1 (c : CfD) (Q : CfP) (g : Nat) (w : World) (hw : 2 ≤ w.heap.size) (hX : CfBox w g c Q) (l0 : ¬ c.n0 < 1) (h0 : ¬ 1048576 < c.n0) (l1 : ¬ c.n1 < 1) (h1 : 1048576 < c.n1) : Calls Tryz.prog 67 #[.pointer (some ⟨g, 0, none⟩)] w (Says false w) :=
  @says_of_run Tryz.prog tab_hi1 (@OVal.mk tab_hi1 (pval c Q) (pval_shape c Q) (show ∀ r ∈ rules_hi1, r.Holds (pval c Q) from List.forall_mem_cons.2 ⟨h_lss .i64 c.n0 1 _ (decide_eq_false l0), List.forall_mem_cons.2 ⟨h_gtr .i64 c.n0 1048576 _ (decide_eq_false h0), List.forall_mem_cons.2 ⟨h_lss .i64 c.n1 1 _ (decide_eq_false l1), List.forall_mem_cons.2 ⟨h_gtr .i64 c.n1 1048576 _ (decide_eq_true h1), (fun _ h => by cases h)⟩⟩⟩⟩)) mix (fun r hr => by cases hr) 67 2 g 15 w (cfCells c Q) 27 false (Nat.le_of_eq globs) hw hX rfl (pval_at c Q) run_hi1
def rules_lo2 : List Rule := [⟨.bin .lss, .float .f64 5, .int .i64 1, .bool false⟩, ⟨.bin .gtr, .float .f64 5, .int .i64 1048576, .bool false⟩, ⟨.bin .lss, .float .f64 6, .int .i64 1, .bool false⟩, ⟨.bin .gtr, .float .f64 6, .int .i64 1048576, .bool false⟩, ⟨.bin .lss, .float .f64 7, .int .i64 1, .bool true⟩]
@[reducible] def tab_lo2 : OTab := ⟨rules_lo2, []⟩
theorem run_lo2 : okAfter 3 false (@run tab_lo2 Tryz.prog 67 [.pointer (some ⟨2, 0, none⟩)] (@st1 2 15)) = true := by kernel_rfl
theorem par_lo2 (c : CfD) (Q : CfP) (g : Nat) (w : World) (hw : 2 ≤ w.heap.size) (hX : CfBox w g c Q) (l0 : ¬ c.n0 < 1) (h0 : ¬ 1048576 < c.n0) (l1 : ¬ c.n1 < 1) (h1 : ¬ 1048576 < c.n1) (l2 : c.n2 < 1) : Calls Tryz.prog 67 #[.pointer (some ⟨g, 0, none⟩)] w (Says false w) :=
  @says_of_run Tryz.prog tab_lo2 (@OVal.mk tab_lo2 (pval c Q) (pval_shape c Q) (show ∀ r ∈ rules_lo2, r.Holds (pval c Q) from List.forall_mem_cons.2 ⟨h_lss .i64 c.n0 1 _ (decide_eq_false l0), List.forall_mem_cons.2 ⟨h_gtr .i64 c.n0 1048576 _ (decide_eq_false h0), List.forall_mem_cons.2 ⟨h_lss .i64 c.n1 1 _ (decide_eq_false l1), List.forall_mem_cons.2 ⟨h_gtr .i64 c.n1 1048576 _ (decide_eq_false h1), List.forall_mem_cons.2 ⟨h_lss .i64 c.n2 1 _ (decide_eq_true l2), (fun _ h => by cases h)⟩⟩⟩⟩⟩)) mix (fun r hr => by cases hr) 67 2 g 15 w (cfCells c Q) 27 false (Nat.le_of_eq globs) hw hX rfl (pval_at c Q) run_lo2
def rules_hi2 : List Rule := [⟨.bin .lss, .float .f64 5, .int .i64 1, .bool false⟩, ⟨.bin .gtr, .float .f64 5, .int .i64 1048576, .bool false⟩, ⟨.bin .lss, .float .f64 6, .int .i64 1, .bool false⟩, ⟨.bin .gtr, .float .f64 6, .int .i64 1048576, .bool false⟩, ⟨.bin .lss, .float .f64 7, .int .i64 1, .bool false⟩, ⟨.bin .gtr, .float .f64 7, .int .i64 1048576, .bool true⟩]
@[reducible] def tab_hi2 : OTab := ⟨rules_hi2, []⟩
theorem run_hi2 : okAfter 3 false (@run tab_hi2 Tryz.prog 67 [.pointer (some ⟨2, 0, none⟩)] (@st1 2 15)) = true := by kernel_rfl
theorem par_hi2 (c : CfD) (Q : CfP) (g : Nat) (w : World) (hw : 2 ≤ w.heap.size) (hX : CfBox w g c Q) (l0 : ¬ c.n0 < 1) (h0 : ¬ 1048576 < c.n0) (l1 : ¬ c.n1 < 1) (h1 : ¬ 1048576 < c.n1) (l2 : ¬ c.n2 < 1) (h2 : 1048576 < c.n2) : Calls Tryz.prog 67 #[.pointer (some ⟨g, 0, none⟩)] w (Says false w) :=
  @says_of_run Tryz.prog tab_hi2 (@OVal.mk tab_hi2 (pval c Q) (pval_shape c Q) (show ∀ r ∈ rules_hi2, r.Holds (pval c Q) from List.forall_mem_cons.2 ⟨h_lss .i64 c.n0 1 _ (decide_eq_false l0), List.forall_mem_cons.2 ⟨h_gtr .i64 c.n0 1048576 _ (decide_eq_false h0), List.forall_mem_cons.2 ⟨h_lss .i64 c.n1 1 _ (decide_eq_false l1), List.forall_mem_cons.2 ⟨h_gtr .i64 c.n1 1048576 _ (decide_eq_false h1), List.forall_mem_cons.2 ⟨h_lss .i64 c.n2 1 _ (decide_eq_false l2), List.forall_mem_cons.2 ⟨h_gtr .i64 c.n2 1048576 _ (decide_eq_true h2), (fun _ h => by cases h)⟩⟩⟩⟩⟩⟩)) mix (fun r hr => by cases hr) 67 2 g 15 w (cfCells c Q) 27 false (Nat.le_of_eq globs) hw hX rfl (pval_at c Q) run_hi2
def rules_lo3 : List Rule := [⟨.bin .lss, .float .f64 5, .int .i64 1, .bool false⟩, ⟨.bin .gtr, .float .f64 5, .int .i64 1048576, .bool false⟩, ⟨.bin .lss, .float .f64 6, .int .i64 1, .bool false⟩, ⟨.bin .gtr, .float .f64 6, .int .i64 1048576, .bool false⟩, ⟨.bin .lss, .float .f64 7, .int .i64 1, .bool false⟩, ⟨.bin .gtr, .float .f64 7, .int .i64 1048576, .bool false⟩, ⟨.bin .lss, .float .f64 8, .int .i64 1, .bool true⟩]
@[reducible] def tab_lo3 : OTab := ⟨rules_lo3, []⟩
theorem run_lo3 : okAfter 3 false (@run tab_lo3 Tryz.prog 67 [.pointer (some ⟨2, 0, none⟩)] (@st1 2 15)) = true := by kernel_rfl
theorem par_lo3 (c : CfD) (Q : CfP) (g : Nat) (w : World) (hw : 2 ≤ w.heap.size) (hX : CfBox w g c Q) (l0 : ¬ c.n0 < 1) (h0 : ¬ 1048576 < c.n0) (l1 : ¬ c.n1 < 1) (h1 : ¬ 1048576 < c.n1) (l2 : ¬ c.n2 < 1) (h2 : ¬ 1048576 < c.n2) (l3 : c.n3 < 1) : Calls Tryz.prog 67 #[.pointer (some ⟨g, 0, none⟩)] w (Says false w) :=
  @says_of_run Tryz.prog tab_lo3 (@OVal.mk tab_lo3 (pval c Q) (pval_shape c Q) (show ∀ r ∈ rules_lo3, r.Holds (pval c Q) from List.forall_mem_cons.2 ⟨h_lss .i64 c.n0 1 _ (decide_eq_false l0), List.forall_mem_cons.2 ⟨h_gtr .i64 c.n0 1048576 _ (decide_eq_false h0), List.forall_mem_cons.2 ⟨h_lss .i64 c.n1 1 _ (decide_eq_false l1), List.forall_mem_cons.2 ⟨h_gtr .i64 c.n1 1048576 _ (decide_eq_false h1), List.forall_mem_cons.2 ⟨h_lss .i64 c.n2 1 _ (decide_eq_false l2), List.forall_mem_cons.2 ⟨h_gtr .i64 c.n2 1048576 _ (decide_eq_false h2), List.forall_mem_cons.2 ⟨h_lss .i64 c.n3 1 _ (decide_eq_true l3), (fun _ h => by cases h)⟩⟩⟩⟩⟩⟩⟩)) mix (fun r hr => by cases hr) 67 2 g 15 w (cfCells c Q) 27 false (Nat.le_of_eq globs) hw hX rfl (pval_at c Q) run_lo3
def rules_hi3 : List Rule := [⟨.bin .lss, .float .f64 5, .int .i64 1, .bool false⟩, ⟨.bin .gtr, .float .f64 5, .int .i64 1048576, .bool false⟩, ⟨.bin .lss, .float .f64 6, .int .i64 1, .bool false⟩, ⟨.bin .gtr, .float .f64 6, .int .i64 1048576, .bool false⟩, ⟨.bin .lss, .float .f64 7, .int .i64 1, .bool false⟩, ⟨.bin .gtr, .float .f64 7, .int .i64 1048576, .bool false⟩, ⟨.bin .lss, .float .f64 8, .int .i64 1, .bool false⟩, ⟨.bin .gtr, .float .f64 8, .int .i64 1048576, .bool true⟩]
@[reducible] def tab_hi3 : OTab := ⟨rules_hi3, []⟩
theorem run_hi3 : okAfter 3 false (@run tab_hi3 Tryz.prog 67 [.pointer (some ⟨2, 0, none⟩)] (@st1 2 15)) = true := by kernel_rfl
theorem par_hi3 (c : CfD) (Q : CfP) (g : Nat) (w : World) (hw : 2 ≤ w.heap.size) (hX : CfBox w g c Q) (l0 : ¬ c.n0 < 1) (h0 : ¬ 1048576 < c.n0) (l1 : ¬ c.n1 < 1) (h1 : ¬ 1048576 < c.n1) (l2 : ¬ c.n2 < 1) (h2 : ¬ 1048576 < c.n2) (l3 : ¬ c.n3 < 1) (h3 : 1048576 < c.n3) : Calls Tryz.prog 67 #[.pointer (some ⟨g, 0, none⟩)] w (Says false w) :=
  @says_of_run Tryz.prog tab_hi3 (@OVal.mk tab_hi3 (pval c Q) (pval_shape c Q) (show ∀ r ∈ rules_hi3, r.Holds (pval c Q) from List.forall_mem_cons.2 ⟨h_lss .i64 c.n0 1 _ (decide_eq_false l0), List.forall_mem_cons.2 ⟨h_gtr .i64 c.n0 1048576 _ (decide_eq_false h0), List.forall_mem_cons.2 ⟨h_lss .i64 c.n1 1 _ (decide_eq_false l1), List.forall_mem_cons.2 ⟨h_gtr .i64 c.n1 1048576 _ (decide_eq_false h1), List.forall_mem_cons.2 ⟨h_lss .i64 c.n2 1 _ (decide_eq_false l2), List.forall_mem_cons.2 ⟨h_gtr .i64 c.n2 1048576 _ (decide_eq_false h2), List.forall_mem_cons.2 ⟨h_lss .i64 c.n3 1 _ (decide_eq_false l3), List.forall_mem_cons.2 ⟨h_gtr .i64 c.n3 1048576 _ (decide_eq_true h3), (fun _ h => by cases h)⟩⟩⟩⟩⟩⟩⟩⟩)) mix (fun r hr => by cases hr) 67 2 g 15 w (cfCells c Q) 27 false (Nat.le_of_eq globs) hw hX rfl (pval_at c Q) run_hi3
def rules_lo4 : List Rule := [⟨.bin .lss, .float .f64 5, .int .i64 1, .bool false⟩, ⟨.bin .gtr, .float .f64 5, .int .i64 1048576, .bool false⟩, ⟨.bin .lss, .float .f64 6, .int .i64 1, .bool false⟩, ⟨.bin .gtr, .float .f64 6, .int .i64 1048576, .bool false⟩, ⟨.bin .lss, .float .f64 7, .int .i64 1, .bool false⟩, ⟨.bin .gtr, .float .f64 7, .int .i64 1048576, .bool false⟩, ⟨.bin .lss, .float .f64 8, .int .i64 1, .bool false⟩, ⟨.bin .gtr, .float .f64 8, .int .i64 1048576, .bool false⟩, ⟨.bin .lss, .float .f64 9, .int .i64 1, .bool true⟩]
@[reducible] def tab_lo4 : OTab := ⟨rules_lo4, []⟩
theorem run_lo4 : okAfter 3 false (@run tab_lo4 Tryz.prog 67 [.pointer (some ⟨2, 0, none⟩)] (@st1 2 15)) = true := by kernel_rfl
theorem par_lo4 (c : CfD) (Q : CfP) (g : Nat) (w : World) (hw : 2 ≤ w.heap.size) (hX : CfBox w g c Q) (l0 : ¬ c.n0 < 1) (h0 : ¬ 1048576 < c.n0) (l1 : ¬ c.n1 < 1) (h1 : ¬ 1048576 < c.n1) (l2 : ¬ c.n2 < 1) (h2 : ¬ 1048576 < c.n2) (l3 : ¬ c.n3 < 1) (h3 : ¬ 1048576 < c.n3) (l4 : c.n4 < 1) : Calls Tryz.prog 67 #[.pointer (some ⟨g, 0, none⟩)] w (Says false w) :=
  @says_of_run Tryz.prog tab_lo4 (@OVal.mk tab_lo4 (pval c Q) (pval_shape c Q) (show ∀ r ∈ rules_lo4, r.Holds (pval c Q) from List.forall_mem_cons.2 ⟨h_lss .i64 c.n0 1 _ (decide_eq_false l0), List.forall_mem_cons.2 ⟨h_gtr .i64 c.n0 1048576 _ (decide_eq_false h0), List.forall_mem_cons.2 ⟨h_lss .i64 c.n1 1 _ (decide_eq_false l1), List.forall_mem_cons.2 ⟨h_gtr .i64 c.n1 1048576 _ (decide_eq_false h1), List.forall_mem_cons.2 ⟨h_lss .i64 c.n2 1 _ (decide_eq_false l2), List.forall_mem_cons.2 ⟨h_gtr .i64 c.n2 1048576 _ (decide_eq_false h2), List.forall_mem_cons.2 ⟨h_lss .i64 c.n3 1 _ (decide_eq_false l3), List.forall_mem_cons.2 ⟨h_gtr .i64 c.n3 1048576 _ (decide_eq_false h3), List.forall_mem_cons.2 ⟨h_lss .i64 c.n4 1 _ (decide_eq_true l4), (fun _ h => by cases h)⟩⟩⟩⟩⟩⟩⟩⟩⟩)) mix (fun r hr => by cases hr) 67 2 g 15 w (cfCells c Q) 27 false (Nat.le_of_eq globs) hw hX rfl (pval_at c Q) run_lo4
def rules_hi4 : List Rule := [⟨.bin .lss, .float .f64 5, .int .i64 1, .bool false⟩, ⟨.bin .gtr, .float .f64 5, .int .i64 1048576, .bool false⟩, ⟨.bin .lss, .float .f64 6, .int .i64 1, .bool false⟩, ⟨.bin .gtr, .float .f64 6, .int .i64 1048576, .bool false⟩, ⟨.bin .lss, .float .f64 7, .int .i64 1, .bool false⟩, ⟨.bin .gtr, .float .f64 7, .int .i64 1048576, .bool false⟩, ⟨.bin .lss, .float .f64 8, .int .i64 1, .bool false⟩, ⟨.bin .gtr, .float .f64 8, .int .i64 1048576, .bool false⟩, ⟨.bin .lss, .float .f64 9, .int .i64 1, .bool false⟩, ⟨.bin .gtr, .float .f64 9, .int .i64 1048576, .bool true⟩]
@[reducible] def tab_hi4 : OTab := ⟨rules_hi4, []⟩
theorem run_hi4 : okAfter 3 false (@run tab_hi4 Tryz.prog 67 [.pointer (some ⟨2, 0, none⟩)] (@st1 2 15)) = true := by kernel_rfl
theorem par_hi4 (c : CfD) (Q : CfP) (g : Nat) (w : World) (hw : 2 ≤ w.heap.size) (hX : CfBox w g c Q) (l0 : ¬ c.n0 < 1) (h0 : ¬ 1048576 < c.n0) (l1 : ¬ c.n1 < 1) (h1 : ¬ 1048576 < c.n1) (l2 : ¬ c.n2 < 1) (h2 : ¬ 1048576 < c.n2) (l3 : ¬ c.n3 < 1) (h3 : ¬ 1048576 < c.n3) (l4 : ¬ c.n4 < 1) (h4 : 1048576 < c.n4) : Calls Tryz.prog 67 #[.pointer (some ⟨g, 0, none⟩)] w (Says false w) :=
  @says_of_run Tryz.prog tab_hi4 (@OVal.mk tab_hi4 (pval c Q) (pval_shape c Q) (show ∀ r ∈ rules_hi4, r.Holds (pval c Q) from List.forall_mem_cons.2 ⟨h_lss .i64 c.n0 1 _ (decide_eq_false l0), List.forall_mem_cons.2 ⟨h_gtr .i64 c.n0 1048576 _ (decide_eq_false h0), List.forall_mem_cons.2 ⟨h_lss .i64 c.n1 1 _ (decide_eq_false l1), List.forall_mem_cons.2 ⟨h_gtr .i64 c.n1 1048576 _ (decide_eq_false h1), List.forall_mem_cons.2 ⟨h_lss .i64 c.n2 1 _ (decide_eq_false l2), List.forall_mem_cons.2 ⟨h_gtr .i64 c.n2 1048576 _ (decide_eq_false h2), List.forall_mem_cons.2 ⟨h_lss .i64 c.n3 1 _ (decide_eq_false l3), List.forall_mem_cons.2 ⟨h_gtr .i64 c.n3 1048576 _ (decide_eq_false h3), List.forall_mem_cons.2 ⟨h_lss .i64 c.n4 1 _ (decide_eq_false l4), List.forall_mem_cons.2 ⟨h_gtr .i64 c.n4 1048576 _ (decide_eq_true h4), (fun _ h => by cases h)⟩⟩⟩⟩⟩⟩⟩⟩⟩⟩)) mix (fun r hr => by cases hr) 67 2 g 15 w (cfCells c Q) 27 false (Nat.le_of_eq globs) hw hX rfl (pval_at c Q) run_hi4
def rules_lo5 : List Rule := [⟨.bin .lss, .float .f64 5, .int .i64 1, .bool false⟩, ⟨.bin .gtr, .float .f64 5, .int .i64 1048576, .bool false⟩, ⟨.bin .lss, .float .f64 6, .int .i64 1, .bool false⟩, ⟨.bin .gtr, .float .f64 6, .int .i64 1048576, .bool false⟩, ⟨.bin .lss, .float .f64 7, .int .i64 1, .bool false⟩, ⟨.bin .gtr, .float .f64 7, .int .i64 1048576, .bool false⟩, ⟨.bin .lss, .float .f64 8, .int .i64 1, .bool false⟩, ⟨.bin .gtr, .float .f64 8, .int .i64 1048576, .bool false⟩, ⟨.bin .lss, .float .f64 9, .int .i64 1, .bool false⟩, ⟨.bin .gtr, .float .f64 9, .int .i64 1048576, .bool false⟩, ⟨.bin .lss, .float .f64 10, .int .i64 1, .bool true⟩]
@[reducible] def tab_lo5 : OTab := ⟨rules_lo5, []⟩
theorem run_lo5 : okAfter 3 false (@run tab_lo5 Tryz.prog 67 [.pointer (some ⟨2, 0, none⟩)] (@st1 2 15)) = true := by kernel_rfl
theorem par_lo5 (c : CfD) (Q : CfP) (g : Nat) (w : World) (hw : 2 ≤ w.heap.size) (hX : CfBox w g c Q) (l0 : ¬ c.n0 < 1) (h0 : ¬ 1048576 < c.n0) (l1 : ¬ c.n1 < 1) (h1 : ¬ 1048576 < c.n1) (l2 : ¬ c.n2 < 1) (h2 : ¬ 1048576 < c.n2) (l3 : ¬ c.n3 < 1) (h3 : ¬ 1048576 < c.n3) (l4 : ¬ c.n4 < 1) (h4 : ¬ 1048576 < c.n4) (l5 : c.n5 < 1) : Calls Tryz.prog 67 #[.pointer (some ⟨g, 0, none⟩)] w (Says false w) :=
  @says_of_run Tryz.prog tab_lo5 (@OVal.mk tab_lo5 (pval c Q) (pval_shape c Q) (show ∀ r ∈ rules_lo5, r.Holds (pval c Q) from List.forall_mem_cons.2 ⟨h_lss .i64 c.n0 1 _ (decide_eq_false l0), List.forall_mem_cons.2 ⟨h_gtr .i64 c.n0 1048576 _ (decide_eq_false h0), List.forall_mem_cons.2 ⟨h_lss .i64 c.n1 1 _ (decide_eq_false l1), List.forall_mem_cons.2 ⟨h_gtr .i64 c.n1 1048576 _ (decide_eq_false h1), List.forall_mem_cons.2 ⟨h_lss .i64 c.n2 1 _ (decide_eq_false l2), List.forall_mem_cons.2 ⟨h_gtr .i64 c.n2 1048576 _ (decide_eq_false h2), List.forall_mem_cons.2 ⟨h_lss .i64 c.n3 1 _ (decide_eq_false l3), List.forall_mem_cons.2 ⟨h_gtr .i64 c.n3 1048576 _ (decide_eq_false h3), List.forall_mem_cons.2 ⟨h_lss .i64 c.n4 1 _ (decide_eq_false l4), List.forall_mem_cons.2 ⟨h_gtr .i64 c.n4 1048576 _ (decide_eq_false h4), List.forall_mem_cons.2 ⟨h_lss .i64 c.n5 1 _ (decide_eq_true l5), (fun _ h => by cases h)⟩⟩⟩⟩⟩⟩⟩⟩⟩⟩⟩)) mix (fun r hr => by cases hr) 67 2 g 15 w (cfCells c Q) 27 false (Nat.le_of_eq globs) hw hX rfl (pval_at c Q) run_lo5
def rules_hi5 : List Rule := [⟨.bin .lss, .float .f64 5, .int .i64 1, .bool false⟩, ⟨.bin .gtr, .float .f64 5, .int .i64 1048576, .bool false⟩, ⟨.bin .lss, .float .f64 6, .int .i64 1, .bool false⟩, ⟨.bin .gtr, .float .f64 6, .int .i64 1048576, .bool false⟩, ⟨.bin .lss, .float .f64 7, .int .i64 1, .bool false⟩, ⟨.bin .gtr, .float .f64 7, .int .i64 1048576, .bool false⟩, ⟨.bin .lss, .float .f64 8, .int .i64 1, .bool false⟩, ⟨.bin .gtr, .float .f64 8, .int .i64 1048576, .bool false⟩, ⟨.bin .lss, .float .f64 9, .int .i64 1, .bool false⟩, ⟨.bin .gtr, .float .f64 9, .int .i64 1048576, .bool false⟩, ⟨.bin .lss, .float .f64 10, .int .i64 1, .bool false⟩, ⟨.bin .gtr, .float .f64 10, .int .i64 1048576, .bool true⟩]
@[reducible] def tab_hi5 : OTab := ⟨rules_hi5, []⟩
theorem run_hi5 : okAfter 3 false (@run tab_hi5 Tryz.prog 67 [.pointer (some ⟨2, 0, none⟩)] (@st1 2 15)) = true := by kernel_rfl
theorem par_hi5 (c : CfD) (Q : CfP) (g : Nat) (w : World) (hw : 2 ≤ w.heap.size) (hX : CfBox w g c Q) (l0 : ¬ c.n0 < 1) (h0 : ¬ 1048576 < c.n0) (l1 : ¬ c.n1 < 1) (h1 : ¬ 1048576 < c.n1) (l2 : ¬ c.n2 < 1) (h2 : ¬ 1048576 < c.n2) (l3 : ¬ c.n3 < 1) (h3 : ¬ 1048576 < c.n3) (l4 : ¬ c.n4 < 1) (h4 : ¬ 1048576 < c.n4) (l5 : ¬ c.n5 < 1) (h5 : 1048576 < c.n5) : Calls Tryz.prog 67 #[.pointer (some ⟨g, 0, none⟩)] w (Says false w) :=
  @says_of_run Tryz.prog tab_hi5 (@OVal.mk tab_hi5 (pval c Q) (pval_shape c Q) (show ∀ r ∈ rules_hi5, r.Holds (pval c Q) from List.forall_mem_cons.2 ⟨h_lss .i64 c.n0 1 _ (decide_eq_false l0), List.forall_mem_cons.2 ⟨h_gtr .i64 c.n0 1048576 _ (decide_eq_false h0), List.forall_mem_cons.2 ⟨h_lss .i64 c.n1 1 _ (decide_eq_false l1), List.forall_mem_cons.2 ⟨h_gtr .i64 c.n1 1048576 _ (decide_eq_false h1), List.forall_mem_cons.2 ⟨h_lss .i64 c.n2 1 _ (decide_eq_false l2), List.forall_mem_cons.2 ⟨h_gtr .i64 c.n2 1048576 _ (decide_eq_false h2), List.forall_mem_cons.2 ⟨h_lss .i64 c.n3 1 _ (decide_eq_false l3), List.forall_mem_cons.2 ⟨h_gtr .i64 c.n3 1048576 _ (decide_eq_false h3), List.forall_mem_cons.2 ⟨h_lss .i64 c.n4 1 _ (decide_eq_false l4), List.forall_mem_cons.2 ⟨h_gtr .i64 c.n4 1048576 _ (decide_eq_false h4), List.forall_mem_cons.2 ⟨h_lss .i64 c.n5 1 _ (decide_eq_false l5), List.forall_mem_cons.2 ⟨h_gtr .i64 c.n5 1048576 _ (decide_eq_true h5), (fun _ h => by cases h)⟩⟩⟩⟩⟩⟩⟩⟩⟩⟩⟩⟩)) mix (fun r hr => by cases hr) 67 2 g 15 w (cfCells c Q) 27 false (Nat.le_of_eq globs) hw hX rfl (pval_at c Q) run_hi5
def rules_lo6 : List Rule := [⟨.bin .lss, .float .f64 5, .int .i64 1, .bool false⟩, ⟨.bin .gtr, .float .f64 5, .int .i64 1048576, .bool false⟩, ⟨.bin .lss, .float .f64 6, .int .i64 1, .bool false⟩, ⟨.bin .gtr, .float .f64 6, .int .i64 1048576, .bool false⟩, ⟨.bin .lss, .float .f64 7, .int .i64 1, .bool false⟩, ⟨.bin .gtr, .float .f64 7, .int .i64 1048576, .bool false⟩, ⟨.bin .lss, .float .f64 8, .int .i64 1, .bool false⟩, ⟨.bin .gtr, .float .f64 8, .int .i64 1048576, .bool false⟩, ⟨.bin .lss, .float .f64 9, .int .i64 1, .bool false⟩, ⟨.bin .gtr, .float .f64 9, .int .i64 1048576, .bool false⟩, ⟨.bin .lss, .float .f64 10, .int .i64 1, .bool false⟩, ⟨.bin .gtr, .float .f64 10, .int .i64 1048576, .bool false⟩, ⟨.bin .lss, .float .f64 11, .int .i64 0, .bool true⟩]
@[reducible] def tab_lo6 : OTab := ⟨rules_lo6, []⟩
theorem run_lo6 : okAfter 3 false (@run tab_lo6 Tryz.prog 67 [.pointer (some ⟨2, 0, none⟩)] (@st1 2 15)) = true := by kernel_rfl
theorem par_lo6 (c : CfD) (Q : CfP) (g : Nat) (w : World) (hw : 2 ≤ w.heap.size) (hX : CfBox w g c Q) (l0 : ¬ c.n0 < 1) (h0 : ¬ 1048576 < c.n0) (l1 : ¬ c.n1 < 1) (h1 : ¬ 1048576 < c.n1) (l2 : ¬ c.n2 < 1) (h2 : ¬ 1048576 < c.n2) (l3 : ¬ c.n3 < 1) (h3 : ¬ 1048576 < c.n3) (l4 : ¬ c.n4 < 1) (h4 : ¬ 1048576 < c.n4) (l5 : ¬ c.n5 < 1) (h5 : ¬ 1048576 < c.n5) (l6 : c.n6 < 0) : Calls Tryz.prog 67 #[.pointer (some ⟨g, 0, none⟩)] w (Says false w) :=
  @says_of_run Tryz.prog tab_lo6 (@OVal.mk tab_lo6 (pval c Q) (pval_shape c Q) (show ∀ r ∈ rules_lo6, r.Holds (pval c Q) from List.forall_mem_cons.2 ⟨h_lss .i64 c.n0 1 _ (decide_eq_false l0), List.forall_mem_cons.2 ⟨h_gtr .i64 c.n0 1048576 _ (decide_eq_false h0), List.forall_mem_cons.2 ⟨h_lss .i64 c.n1 1 _ (decide_eq_false l1), List.forall_mem_cons.2 ⟨h_gtr .i64 c.n1 1048576 _ (decide_eq_false h1), List.forall_mem_cons.2 ⟨h_lss .i64 c.n2 1 _ (decide_eq_false l2), List.forall_mem_cons.2 ⟨h_gtr .i64 c.n2 1048576 _ (decide_eq_false h2), List.forall_mem_cons.2 ⟨h_lss .i64 c.n3 1 _ (decide_eq_false l3), List.forall_mem_cons.2 ⟨h_gtr .i64 c.n3 1048576 _ (decide_eq_false h3), List.forall_mem_cons.2 ⟨h_lss .i64 c.n4 1 _ (decide_eq_false l4), List.forall_mem_cons.2 ⟨h_gtr .i64 c.n4 1048576 _ (decide_eq_false h4), List.forall_mem_cons.2 ⟨h_lss .i64 c.n5 1 _ (decide_eq_false l5), List.forall_mem_cons.2 ⟨h_gtr .i64 c.n5 1048576 _ (decide_eq_false h5), List.forall_mem_cons.2 ⟨h_lss .i64 c.n6 0 _ (decide_eq_true l6), (fun _ h => by cases h)⟩⟩⟩⟩⟩⟩⟩⟩⟩⟩⟩⟩⟩)) mix (fun r hr => by cases hr) 67 2 g 15 w (cfCells c Q) 27 false (Nat.le_of_eq globs) hw hX rfl (pval_at c Q) run_lo6
def rules_hi6 : List Rule := [⟨.bin .lss, .float .f64 5, .int .i64 1, .bool false⟩, ⟨.bin .gtr, .float .f64 5, .int .i64 1048576, .bool false⟩, ⟨.bin .lss, .float .f64 6, .int .i64 1, .bool false⟩, ⟨.bin .gtr, .float .f64 6, .int .i64 1048576, .bool false⟩, ⟨.bin .lss, .float .f64 7, .int .i64 1, .bool false⟩, ⟨.bin .gtr, .float .f64 7, .int .i64 1048576, .bool false⟩, ⟨.bin .lss, .float .f64 8, .int .i64 1, .bool false⟩, ⟨.bin .gtr, .float .f64 8, .int .i64 1048576, .bool false⟩, ⟨.bin .lss, .float .f64 9, .int .i64 1, .bool false⟩, ⟨.bin .gtr, .float .f64 9, .int .i64 1048576, .bool false⟩, ⟨.bin .lss, .float .f64 10, .int .i64 1, .bool false⟩, ⟨.bin .gtr, .float .f64 10, .int .i64 1048576, .bool false⟩, ⟨.bin .lss, .float .f64 11, .int .i64 0, .bool false⟩, ⟨.bin .gtr, .float .f64 11, .int .i64 1099511627776, .bool true⟩]
@[reducible] def tab_hi6 : OTab := ⟨rules_hi6, []⟩
theorem run_hi6 : okAfter 3 false (@run tab_hi6 Tryz.prog 67 [.pointer (some ⟨2, 0, none⟩)] (@st1 2 15)) = true := by kernel_rfl
theorem par_hi6 (c : CfD) (Q : CfP) (g : Nat) (w : World) (hw : 2 ≤ w.heap.size) (hX : CfBox w g c Q) (l0 : ¬ c.n0 < 1) (h0 : ¬ 1048576 < c.n0) (l1 : ¬ c.n1 < 1) (h1 : ¬ 1048576 < c.n1) (l2 : ¬ c.n2 < 1) (h2 : ¬ 1048576 < c.n2) (l3 : ¬ c.n3 < 1) (h3 : ¬ 1048576 < c.n3) (l4 : ¬ c.n4 < 1) (h4 : ¬ 1048576 < c.n4) (l5 : ¬ c.n5 < 1) (h5 : ¬ 1048576 < c.n5) (l6 : ¬ c.n6 < 0) (h6 : 1099511627776 < c.n6) : Calls Tryz.prog 67 #[.pointer (some ⟨g, 0, none⟩)] w (Says false w) :=
  @says_of_run Tryz.prog tab_hi6 (@OVal.mk tab_hi6 (pval c Q) (pval_shape c Q) (show ∀ r ∈ rules_hi6, r.Holds (pval c Q) from List.forall_mem_cons.2 ⟨h_lss .i64 c.n0 1 _ (decide_eq_false l0), List.forall_mem_cons.2 ⟨h_gtr .i64 c.n0 1048576 _ (decide_eq_false h0), List.forall_mem_cons.2 ⟨h_lss .i64 c.n1 1 _ (decide_eq_false l1), List.forall_mem_cons.2 ⟨h_gtr .i64 c.n1 1048576 _ (decide_eq_false h1), List.forall_mem_cons.2 ⟨h_lss .i64 c.n2 1 _ (decide_eq_false l2), List.forall_mem_cons.2 ⟨h_gtr .i64 c.n2 1048576 _ (decide_eq_false h2), List.forall_mem_cons.2 ⟨h_lss .i64 c.n3 1 _ (decide_eq_false l3), List.forall_mem_cons.2 ⟨h_gtr .i64 c.n3 1048576 _ (decide_eq_false h3), List.forall_mem_cons.2 ⟨h_lss .i64 c.n4 1 _ (decide_eq_false l4), List.forall_mem_cons.2 ⟨h_gtr .i64 c.n4 1048576 _ (decide_eq_false h4), List.forall_mem_cons.2 ⟨h_lss .i64 c.n5 1 _ (decide_eq_false l5), List.forall_mem_cons.2 ⟨h_gtr .i64 c.n5 1048576 _ (decide_eq_false h5), List.forall_mem_cons.2 ⟨h_lss .i64 c.n6 0 _ (decide_eq_false l6), List.forall_mem_cons.2 ⟨h_gtr .i64 c.n6 1099511627776 _ (decide_eq_true h6), (fun _ h => by cases h)⟩⟩⟩⟩⟩⟩⟩⟩⟩⟩⟩⟩⟩⟩)) mix (fun r hr => by cases hr) 67 2 g 15 w (cfCells c Q) 27 false (Nat.le_of_eq globs) hw hX rfl (pval_at c Q) run_hi6
def rules_lo7 : List Rule := [⟨.bin .lss, .float .f64 5, .int .i64 1, .bool false⟩, ⟨.bin .gtr, .float .f64 5, .int .i64 1048576, .bool false⟩, ⟨.bin .lss, .float .f64 6, .int .i64 1, .bool false⟩, ⟨.bin .gtr, .float .f64 6, .int .i64 1048576, .bool false⟩, ⟨.bin .lss, .float .f64 7, .int .i64 1, .bool false⟩, ⟨.bin .gtr, .float .f64 7, .int .i64 1048576, .bool false⟩, ⟨.bin .lss, .float .f64 8, .int .i64 1, .bool false⟩, ⟨.bin .gtr, .float .f64 8, .int .i64 1048576, .bool false⟩, ⟨.bin .lss, .float .f64 9, .int .i64 1, .bool false⟩, ⟨.bin .gtr, .float .f64 9, .int .i64 1048576, .bool false⟩, ⟨.bin .lss, .float .f64 10, .int .i64 1, .bool false⟩, ⟨.bin .gtr, .float .f64 10, .int .i64 1048576, .bool false⟩, ⟨.bin .lss, .float .f64 11, .int .i64 0, .bool false⟩, ⟨.bin .gtr, .float .f64 11, .int .i64 1099511627776, .bool false⟩, ⟨.bin .lss, .float .f64 12, .int .i64 0, .bool true⟩]
@[reducible] def tab_lo7 : OTab := ⟨rules_lo7, []⟩
theorem run_lo7 : okAfter 3 false (@run tab_lo7 Tryz.prog 67 [.pointer (some ⟨2, 0, none⟩)] (@st1 2 15)) = true := by kernel_rfl
theorem par_lo7 (c : CfD) (Q : CfP) (g : Nat) (w : World) (hw : 2 ≤ w.heap.size) (hX : CfBox w g c Q) (l0 : ¬ c.n0 < 1) (h0 : ¬ 1048576 < c.n0) (l1 : ¬ c.n1 < 1) (h1 : ¬ 1048576 < c.n1) (l2 : ¬ c.n2 < 1) (h2 : ¬ 1048576 < c.n2) (l3 : ¬ c.n3 < 1) (h3 : ¬ 1048576 < c.n3) (l4 : ¬ c.n4 < 1) (h4 : ¬ 1048576 < c.n4) (l5 : ¬ c.n5 < 1) (h5 : ¬ 1048576 < c.n5) (l6 : ¬ c.n6 < 0) (h6 : ¬ 1099511627776 < c.n6) (l7 : c.n7 < 0) : Calls Tryz.prog 67 #[.pointer (some ⟨g, 0, none⟩)] w (Says false w) :=
  @says_of_run Tryz.prog tab_lo7 (@OVal.mk tab_lo7 (pval c Q) (pval_shape c Q) (show ∀ r ∈ rules_lo7, r.Holds (pval c Q) from List.forall_mem_cons.2 ⟨h_lss .i64 c.n0 1 _ (decide_eq_false l0), List.forall_mem_cons.2 ⟨h_gtr .i64 c.n0 1048576 _ (decide_eq_false h0), List.forall_mem_cons.2 ⟨h_lss .i64 c.n1 1 _ (decide_eq_false l1), List.forall_mem_cons.2 ⟨h_gtr .i64 c.n1 1048576 _ (decide_eq_false h1), List.forall_mem_cons.2 ⟨h_lss .i64 c.n2 1 _ (decide_eq_false l2), List.forall_mem_cons.2 ⟨h_gtr .i64 c.n2 1048576 _ (decide_eq_false h2), List.forall_mem_cons.2 ⟨h_lss .i64 c.n3 1 _ (decide_eq_false l3), List.forall_mem_cons.2 ⟨h_gtr .i64 c.n3 1048576 _ (decide_eq_false h3), List.forall_mem_cons.2 ⟨h_lss .i64 c.n4 1 _ (decide_eq_false l4), List.forall_mem_cons.2 ⟨h_gtr .i64 c.n4 1048576 _ (decide_eq_false h4), List.forall_mem_cons.2 ⟨h_lss .i64 c.n5 1 _ (decide_eq_false l5), List.forall_mem_cons.2 ⟨h_gtr .i64 c.n5 1048576 _ (decide_eq_false h5), List.forall_mem_cons.2 ⟨h_lss .i64 c.n6 0 _ (decide_eq_false l6), List.forall_mem_cons.2 ⟨h_gtr .i64 c.n6 1099511627776 _ (decide_eq_false h6), List.forall_mem_cons.2 ⟨h_lss .i64 c.n7 0 _ (decide_eq_true l7), (fun _ h => by cases h)⟩⟩⟩⟩⟩⟩⟩⟩⟩⟩⟩⟩⟩⟩⟩)) mix (fun r hr => by cases hr) 67 2 g 15 w (cfCells c Q) 27 false (Nat.le_of_eq globs) hw hX rfl (pval_at c Q) run_lo7
def rules_hi7 : List Rule := [⟨.bin .lss, .float .f64 5, .int .i64 1, .bool false⟩, ⟨.bin .gtr, .float .f64 5, .int .i64 1048576, .bool false⟩, ⟨.bin .lss, .float .f64 6, .int .i64 1, .bool false⟩, ⟨.bin .gtr, .float .f64 6, .int .i64 1048576, .bool false⟩, ⟨.bin .lss, .float .f64 7, .int .i64 1, .bool false⟩, ⟨.bin .gtr, .float .f64 7, .int .i64 1048576, .bool false⟩, ⟨.bin .lss, .float .f64 8, .int .i64 1, .bool false⟩, ⟨.bin .gtr, .float .f64 8, .int .i64 1048576, .bool false⟩, ⟨.bin .lss, .float .f64 9, .int .i64 1, .bool false⟩, ⟨.bin .gtr, .float .f64 9, .int .i64 1048576, .bool false⟩, ⟨.bin .lss, .float .f64 10, .int .i64 1, .bool false⟩, ⟨.bin .gtr, .float .f64 10, .int .i64 1048576, .bool false⟩, ⟨.bin .lss, .float .f64 11, .int .i64 0, .bool false⟩, ⟨.bin .gtr, .float .f64 11, .int .i64 1099511627776, .bool false⟩, ⟨.bin .lss, .float .f64 12, .int .i64 0, .bool false⟩, ⟨.bin .gtr, .float .f64 12, .int .i64 1099511627776, .bool true⟩]
@[reducible] def tab_hi7 : OTab := ⟨rules_hi7, []⟩
theorem run_hi7 : okAfter 3 false (@run tab_hi7 Tryz.prog 67 [.pointer (some ⟨2, 0, none⟩)] (@st1 2 15)) = true := by kernel_rfl
theorem par_hi7 (c : CfD) (Q : CfP) (g : Nat) (w : World) (hw : 2 ≤ w.heap.size) (hX : CfBox w g c Q) (l0 : ¬ c.n0 < 1) (h0 : ¬ 1048576 < c.n0) (l1 : ¬ c.n1 < 1) (h1 : ¬ 1048576 < c.n1) (l2 : ¬ c.n2 < 1) (h2 : ¬ 1048576 < c.n2) (l3 : ¬ c.n3 < 1) (h3 : ¬ 1048576 < c.n3) (l4 : ¬ c.n4 < 1) (h4 : ¬ 1048576 < c.n4) (l5 : ¬ c.n5 < 1) (h5 : ¬ 1048576 < c.n5) (l6 : ¬ c.n6 < 0) (h6 : ¬ 1099511627776 < c.n6) (l7 : ¬ c.n7 < 0) (h7 : 1099511627776 < c.n7) : Calls Tryz.prog 67 #[.pointer (some ⟨g, 0, none⟩)] w (Says false w) :=
  @says_of_run Tryz.prog tab_hi7 (@OVal.mk tab_hi7 (pval c Q) (pval_shape c Q) (show ∀ r ∈ rules_hi7, r.Holds (pval c Q) from List.forall_mem_cons.2 ⟨h_lss .i64 c.n0 1 _ (decide_eq_false l0), List.forall_mem_cons.2 ⟨h_gtr .i64 c.n0 1048576 _ (decide_eq_false h0), List.forall_mem_cons.2 ⟨h_lss .i64 c.n1 1 _ (decide_eq_false l1), List.forall_mem_cons.2 ⟨h_gtr .i64 c.n1 1048576 _ (decide_eq_false h1), List.forall_mem_cons.2 ⟨h_lss .i64 c.n2 1 _ (decide_eq_false l2), List.forall_mem_cons.2 ⟨h_gtr .i64 c.n2 1048576 _ (decide_eq_false h2), List.forall_mem_cons.2 ⟨h_lss .i64 c.n3 1 _ (decide_eq_false l3), List.forall_mem_cons.2 ⟨h_gtr .i64 c.n3 1048576 _ (decide_eq_false h3), List.forall_mem_cons.2 ⟨h_lss .i64 c.n4 1 _ (decide_eq_false l4), List.forall_mem_cons.2 ⟨h_gtr .i64 c.n4 1048576 _ (decide_eq_false h4), List.forall_mem_cons.2 ⟨h_lss .i64 c.n5 1 _ (decide_eq_false l5), List.forall_mem_cons.2 ⟨h_gtr .i64 c.n5 1048576 _ (decide_eq_false h5), List.forall_mem_cons.2 ⟨h_lss .i64 c.n6 0 _ (decide_eq_false l6), List.forall_mem_cons.2 ⟨h_gtr .i64 c.n6 1099511627776 _ (decide_eq_false h6), List.forall_mem_cons.2 ⟨h_lss .i64 c.n7 0 _ (decide_eq_false l7), List.forall_mem_cons.2 ⟨h_gtr .i64 c.n7 1099511627776 _ (decide_eq_true h7), (fun _ h => by cases h)⟩⟩⟩⟩⟩⟩⟩⟩⟩⟩⟩⟩⟩⟩⟩⟩)) mix (fun r hr => by cases hr) 67 2 g 15 w (cfCells c Q) 27 false (Nat.le_of_eq globs) hw hX rfl (pval_at c Q) run_hi7
def rules_lo8 : List Rule := [⟨.bin .lss, .float .f64 5, .int .i64 1, .bool false⟩, ⟨.bin .gtr, .float .f64 5, .int .i64 1048576, .bool false⟩, ⟨.bin .lss, .float .f64 6, .int .i64 1, .bool false⟩, ⟨.bin .gtr, .float .f64 6, .int .i64 1048576, .bool false⟩, ⟨.bin .lss, .float .f64 7, .int .i64 1, .bool false⟩, ⟨.bin .gtr, .float .f64 7, .int .i64 1048576, .bool false⟩, ⟨.bin .lss, .float .f64 8, .int .i64 1, .bool false⟩, ⟨.bin .gtr, .float .f64 8, .int .i64 1048576, .bool false⟩, ⟨.bin .lss, .float .f64 9, .int .i64 1, .bool false⟩, ⟨.bin .gtr, .float .f64 9, .int .i64 1048576, .bool false⟩, ⟨.bin .lss, .float .f64 10, .int .i64 1, .bool false⟩, ⟨.bin .gtr, .float .f64 10, .int .i64 1048576, .bool false⟩, ⟨.bin .lss, .float .f64 11, .int .i64 0, .bool false⟩, ⟨.bin .gtr, .float .f64 11, .int .i64 1099511627776, .bool false⟩, ⟨.bin .lss, .float .f64 12, .int .i64 0, .bool false⟩, ⟨.bin .gtr, .float .f64 12, .int .i64 1099511627776, .bool false⟩, ⟨.bin .lss, .float .f64 13, .int .i64 0, .bool true⟩]
@[reducible] def tab_lo8 : OTab := ⟨rules_lo8, []⟩
theorem run_lo8 : okAfter 3 false (@run tab_lo8 Tryz.prog 67 [.pointer (some ⟨2, 0, none⟩)] (@st1 2 15)) = true := by kernel_rfl
theorem par_lo8 (c : CfD) (Q : CfP) (g : Nat) (w : World) (hw : 2 ≤ w.heap.size) (hX : CfBox w g c Q) (l0 : ¬ c.n0 < 1) (h0 : ¬ 1048576 < c.n0) (l1 : ¬ c.n1 < 1) (h1 : ¬ 1048576 < c.n1) (l2 : ¬ c.n2 < 1) (h2 : ¬ 1048576 < c.n2) (l3 : ¬ c.n3 < 1) (h3 : ¬ 1048576 < c.n3) (l4 : ¬ c.n4 < 1) (h4 : ¬ 1048576 < c.n4) (l5 : ¬ c.n5 < 1) (h5 : ¬ 1048576 < c.n5) (l6 : ¬ c.n6 < 0) (h6 : ¬ 1099511627776 < c.n6) (l7 : ¬ c.n7 < 0) (h7 : ¬ 1099511627776 < c.n7) (l8 : c.n8 < 0) : Calls Tryz.prog 67 #[.pointer (some ⟨g, 0, none⟩)] w (Says false w) :=
  @says_of_run Tryz.prog tab_lo8 (@OVal.mk tab_lo8 (pval c Q) (pval_shape c Q) (show ∀ r ∈ rules_lo8, r.Holds (pval c Q) from List.forall_mem_cons.2 ⟨h_lss .i64 c.n0 1 _ (decide_eq_false l0), List.forall_mem_cons.2 ⟨h_gtr .i64 c.n0 1048576 _ (decide_eq_false h0), List.forall_mem_cons.2 ⟨h_lss .i64 c.n1 1 _ (decide_eq_false l1), List.forall_mem_cons.2 ⟨h_gtr .i64 c.n1 1048576 _ (decide_eq_false h1), List.forall_mem_cons.2 ⟨h_lss .i64 c.n2 1 _ (decide_eq_false l2), List.forall_mem_cons.2 ⟨h_gtr .i64 c.n2 1048576 _ (decide_eq_false h2), List.forall_mem_cons.2 ⟨h_lss .i64 c.n3 1 _ (decide_eq_false l3), List.forall_mem_cons.2 ⟨h_gtr .i64 c.n3 1048576 _ (decide_eq_false h3), List.forall_mem_cons.2 ⟨h_lss .i64 c.n4 1 _ (decide_eq_false l4), List.forall_mem_cons.2 ⟨h_gtr .i64 c.n4 1048576 _ (decide_eq_false h4), List.forall_mem_cons.2 ⟨h_lss .i64 c.n5 1 _ (decide_eq_false l5), List.forall_mem_cons.2 ⟨h_gtr .i64 c.n5 1048576 _ (decide_eq_false h5), List.forall_mem_cons.2 ⟨h_lss .i64 c.n6 0 _ (decide_eq_false l6), List.forall_mem_cons.2 ⟨h_gtr .i64 c.n6 1099511627776 _ (decide_eq_false h6), List.forall_mem_cons.2 ⟨h_lss .i64 c.n7 0 _ (decide_eq_false l7), List.forall_mem_cons.2 ⟨h_gtr .i64 c.n7 1099511627776 _ (decide_eq_false h7), List.forall_mem_cons.2 ⟨h_lss .i64 c.n8 0 _ (decide_eq_true l8), (fun _ h => by cases h)⟩⟩⟩⟩⟩⟩⟩⟩⟩⟩⟩⟩⟩⟩⟩⟩⟩)) mix (fun r hr => by cases hr) 67 2 g 15 w (cfCells c Q) 27 false (Nat.le_of_eq globs) hw hX rfl (pval_at c Q) run_lo8
def rules_hi8 : List Rule := [⟨.bin .lss, .float .f64 5, .int .i64 1, .bool false⟩, ⟨.bin .gtr, .float .f64 5, .int .i64 1048576, .bool false⟩, ⟨.bin .lss, .float .f64 6, .int .i64 1, .bool false⟩, ⟨.bin .gtr, .float .f64 6, .int .i64 1048576, .bool false⟩, ⟨.bin .lss, .float .f64 7, .int .i64 1, .bool false⟩, ⟨.bin .gtr, .float .f64 7, .int .i64 1048576, .bool false⟩, ⟨.bin .lss, .float .f64 8, .int .i64 1, .bool false⟩, ⟨.bin .gtr, .float .f64 8, .int .i64 1048576, .bool false⟩, ⟨.bin .lss, .float .f64 9, .int .i64 1, .bool false⟩, ⟨.bin .gtr, .float .f64 9, .int .i64 1048576, .bool false⟩, ⟨.bin .lss, .float .f64 10, .int .i64 1, .bool false⟩, ⟨.bin .gtr, .float .f64 10, .int .i64 1048576, .bool false⟩, ⟨.bin .lss, .float .f64 11, .int .i64 0, .bool false⟩, ⟨.bin .gtr, .float .f64 11, .int .i64 1099511627776, .bool false⟩, ⟨.bin .lss, .float .f64 12, .int .i64 0, .bool false⟩, ⟨.bin .gtr, .float .f64 12, .int .i64 1099511627776, .bool false⟩, ⟨.bin .lss, .float .f64 13, .int .i64 0, .bool false⟩, ⟨.bin .gtr, .float .f64 13, .int .i64 256, .bool true⟩]
@[reducible] def tab_hi8 : OTab := ⟨rules_hi8, []⟩
theorem run_hi8 : okAfter 3 false (@run tab_hi8 Tryz.prog 67 [.pointer (some ⟨2, 0, none⟩)] (@st1 2 15)) = true := by kernel_rfl
theorem par_hi8 (c : CfD) (Q : CfP) (g : Nat) (w : World) (hw : 2 ≤ w.heap.size) (hX : CfBox w g c Q) (l0 : ¬ c.n0 < 1) (h0 : ¬ 1048576 < c.n0) (l1 : ¬ c.n1 < 1) (h1 : ¬ 1048576 < c.n1) (l2 : ¬ c.n2 < 1) (h2 : ¬ 1048576 < c.n2) (l3 : ¬ c.n3 < 1) (h3 : ¬ 1048576 < c.n3) (l4 : ¬ c.n4 < 1) (h4 : ¬ 1048576 < c.n4) (l5 : ¬ c.n5 < 1) (h5 : ¬ 1048576 < c.n5) (l6 : ¬ c.n6 < 0) (h6 : ¬ 1099511627776 < c.n6) (l7 : ¬ c.n7 < 0) (h7 : ¬ 1099511627776 < c.n7) (l8 : ¬ c.n8 < 0) (h8 : 256 < c.n8) : Calls Tryz.prog 67 #[.pointer (some ⟨g, 0, none⟩)] w (Says false w) :=
  @says_of_run Tryz.prog tab_hi8 (@OVal.mk tab_hi8 (pval c Q) (pval_shape c Q) (show ∀ r ∈ rules_hi8, r.Holds (pval c Q) from List.forall_mem_cons.2 ⟨h_lss .i64 c.n0 1 _ (decide_eq_false l0), List.forall_mem_cons.2 ⟨h_gtr .i64 c.n0 1048576 _ (decide_eq_false h0), List.forall_mem_cons.2 ⟨h_lss .i64 c.n1 1 _ (decide_eq_false l1), List.forall_mem_cons.2 ⟨h_gtr .i64 c.n1 1048576 _ (decide_eq_false h1), List.forall_mem_cons.2 ⟨h_lss .i64 c.n2 1 _ (decide_eq_false l2), List.forall_mem_cons.2 ⟨h_gtr .i64 c.n2 1048576 _ (decide_eq_false h2), List.forall_mem_cons.2 ⟨h_lss .i64 c.n3 1 _ (decide_eq_false l3), List.forall_mem_cons.2 ⟨h_gtr .i64 c.n3 1048576 _ (decide_eq_false h3), List.forall_mem_cons.2 ⟨h_lss .i64 c.n4 1 _ (decide_eq_false l4), List.forall_mem_cons.2 ⟨h_gtr .i64 c.n4 1048576 _ (decide_eq_false h4), List.forall_mem_cons.2 ⟨h_lss .i64 c.n5 1 _ (decide_eq_false l5), List.forall_mem_cons.2 ⟨h_gtr .i64 c.n5 1048576 _ (decide_eq_false h5), List.forall_mem_cons.2 ⟨h_lss .i64 c.n6 0 _ (decide_eq_false l6), List.forall_mem_cons.2 ⟨h_gtr .i64 c.n6 1099511627776 _ (decide_eq_false h6), List.forall_mem_cons.2 ⟨h_lss .i64 c.n7 0 _ (decide_eq_false l7), List.forall_mem_cons.2 ⟨h_gtr .i64 c.n7 1099511627776 _ (decide_eq_false h7), List.forall_mem_cons.2 ⟨h_lss .i64 c.n8 0 _ (decide_eq_false l8), List.forall_mem_cons.2 ⟨h_gtr .i64 c.n8 256 _ (decide_eq_true h8), (fun _ h => by cases h)⟩⟩⟩⟩⟩⟩⟩⟩⟩⟩⟩⟩⟩⟩⟩⟩⟩⟩)) mix (fun r hr => by cases hr) 67 2 g 15 w (cfCells c Q) 27 false (Nat.le_of_eq globs) hw hX rfl (pval_at c Q) run_hi8
def rules_lo9 : List Rule := [⟨.bin .lss, .float .f64 5, .int .i64 1, .bool false⟩, ⟨.bin .gtr, .float .f64 5, .int .i64 1048576, .bool false⟩, ⟨.bin .lss, .float .f64 6, .int .i64 1, .bool false⟩, ⟨.bin .gtr, .float .f64 6, .int .i64 1048576, .bool false⟩, ⟨.bin .lss, .float .f64 7, .int .i64 1, .bool false⟩, ⟨.bin .gtr, .float .f64 7, .int .i64 1048576, .bool false⟩, ⟨.bin .lss, .float .f64 8, .int .i64 1, .bool false⟩, ⟨.bin .gtr, .float .f64 8, .int .i64 1048576, .bool false⟩, ⟨.bin .lss, .float .f64 9, .int .i64 1, .bool false⟩, ⟨.bin .gtr, .float .f64 9, .int .i64 1048576, .bool false⟩, ⟨.bin .lss, .float .f64 10, .int .i64 1, .bool false⟩, ⟨.bin .gtr, .float .f64 10, .int .i64 1048576, .bool false⟩, ⟨.bin .lss, .float .f64 11, .int .i64 0, .bool false⟩, ⟨.bin .gtr, .float .f64 11, .int .i64 1099511627776, .bool false⟩, ⟨.bin .lss, .float .f64 12, .int .i64 0, .bool false⟩, ⟨.bin .gtr, .float .f64 12, .int .i64 1099511627776, .bool false⟩, ⟨.bin .lss, .float .f64 13, .int .i64 0, .bool false⟩, ⟨.bin .gtr, .float .f64 13, .int .i64 256, .bool false⟩, ⟨.bin .lss, .float .f64 14, .int .i64 1, .bool true⟩]
@[reducible] def tab_lo9 : OTab := ⟨rules_lo9, []⟩
theorem run_lo9 : okAfter 3 false (@run tab_lo9 Tryz.prog 67 [.pointer (some ⟨2, 0, none⟩)] (@st1 2 15)) = true := by kernel_rfl
theorem par_lo9 (c : CfD) (Q : CfP) (g : Nat) (w : World) (hw : 2 ≤ w.heap.size) (hX : CfBox w g c Q) (l0 : ¬ c.n0 < 1) (h0 : ¬ 1048576 < c.n0) (l1 : ¬ c.n1 < 1) (h1 : ¬ 1048576 < c.n1) (l2 : ¬ c.n2 < 1) (h2 : ¬ 1048576 < c.n2) (l3 : ¬ c.n3 < 1) (h3 : ¬ 1048576 < c.n3) (l4 : ¬ c.n4 < 1) (h4 : ¬ 1048576 < c.n4) (l5 : ¬ c.n5 < 1) (h5 : ¬ 1048576 < c.n5) (l6 : ¬ c.n6 < 0) (h6 : ¬ 1099511627776 < c.n6) (l7 : ¬ c.n7 < 0) (h7 : ¬ 1099511627776 < c.n7) (l8 : ¬ c.n8 < 0) (h8 : ¬ 256 < c.n8) (l9 : c.n9 < 1) : Calls Tryz.prog 67 #[.pointer (some ⟨g, 0, none⟩)] w (Says false w) :=
  @says_of_run Tryz.prog tab_lo9 (@OVal.mk tab_lo9 (pval c Q) (pval_shape c Q) (show ∀ r ∈ rules_lo9, r.Holds (pval c Q) from List.forall_mem_cons.2 ⟨h_lss .i64 c.n0 1 _ (decide_eq_false l0), List.forall_mem_cons.2 ⟨h_gtr .i64 c.n0 1048576 _ (decide_eq_false h0), List.forall_mem_cons.2 ⟨h_lss .i64 c.n1 1 _ (decide_eq_false l1), List.forall_mem_cons.2 ⟨h_gtr .i64 c.n1 1048576 _ (decide_eq_false h1), List.forall_mem_cons.2 ⟨h_lss .i64 c.n2 1 _ (decide_eq_false l2), List.forall_mem_cons.2 ⟨h_gtr .i64 c.n2 1048576 _ (decide_eq_false h2), List.forall_mem_cons.2 ⟨h_lss .i64 c.n3 1 _ (decide_eq_false l3), List.forall_mem_cons.2 ⟨h_gtr .i64 c.n3 1048576 _ (decide_eq_false h3), List.forall_mem_cons.2 ⟨h_lss .i64 c.n4 1 _ (decide_eq_false l4), List.forall_mem_cons.2 ⟨h_gtr .i64 c.n4 1048576 _ (decide_eq_false h4), List.forall_mem_cons.2 ⟨h_lss .i64 c.n5 1 _ (decide_eq_false l5), List.forall_mem_cons.2 ⟨h_gtr .i64 c.n5 1048576 _ (decide_eq_false h5), List.forall_mem_cons.2 ⟨h_lss .i64 c.n6 0 _ (decide_eq_false l6), List.forall_mem_cons.2 ⟨h_gtr .i64 c.n6 1099511627776 _ (decide_eq_false h6), List.forall_mem_cons.2 ⟨h_lss .i64 c.n7 0 _ (decide_eq_false l7), List.forall_mem_cons.2 ⟨h_gtr .i64 c.n7 1099511627776 _ (decide_eq_false h7), List.forall_mem_cons.2 ⟨h_lss .i64 c.n8 0 _ (decide_eq_false l8), List.forall_mem_cons.2 ⟨h_gtr .i64 c.n8 256 _ (decide_eq_false h8), List.forall_mem_cons.2 ⟨h_lss .i64 c.n9 1 _ (decide_eq_true l9), (fun _ h => by cases h)⟩⟩⟩⟩⟩⟩⟩⟩⟩⟩⟩⟩⟩⟩⟩⟩⟩⟩⟩)) mix (fun r hr => by cases hr) 67 2 g 15 w (cfCells c Q) 27 false (Nat.le_of_eq globs) hw hX rfl (pval_at c Q) run_lo9
def rules_hi9 : List Rule := [⟨.bin .lss, .float .f64 5, .int .i64 1, .bool false⟩, ⟨.bin .gtr, .float .f64 5, .int .i64 1048576, .bool false⟩, ⟨.bin .lss, .float .f64 6, .int .i64 1, .bool false⟩, ⟨.bin .gtr, .float .f64 6, .int .i64 1048576, .bool false⟩, ⟨.bin .lss, .float .f64 7, .int .i64 1, .bool false⟩, ⟨.bin .gtr, .float .f64 7, .int .i64 1048576, .bool false⟩, ⟨.bin .lss, .float .f64 8, .int .i64 1, .bool false⟩, ⟨.bin .gtr, .float .f64 8, .int .i64 1048576, .bool false⟩, ⟨.bin .lss, .float .f64 9, .int .i64 1, .bool false⟩, ⟨.bin .gtr, .float .f64 9, .int .i64 1048576, .bool false⟩, ⟨.bin .lss, .float .f64 10, .int .i64 1, .bool false⟩, ⟨.bin .gtr, .float .f64 10, .int .i64 1048576, .bool false⟩, ⟨.bin .lss, .float .f64 11, .int .i64 0, .bool false⟩, ⟨.bin .gtr, .float .f64 11, .int .i64 1099511627776, .bool false⟩, ⟨.bin .lss, .float .f64 12, .int .i64 0, .bool false⟩, ⟨.bin .gtr, .float .f64 12, .int .i64 1099511627776, .bool false⟩, ⟨.bin .lss, .float .f64 13, .int .i64 0, .bool false⟩, ⟨.bin .gtr, .float .f64 13, .int .i64 256, .bool false⟩, ⟨.bin .lss, .float .f64 14, .int .i64 1, .bool false⟩, ⟨.bin .gtr, .float .f64 14, .int .i64 4096, .bool true⟩]
@[reducible] def tab_hi9 : OTab := ⟨rules_hi9, []⟩
theorem run_hi9 : okAfter 3 false (@run tab_hi9 Tryz.prog 67 [.pointer (some ⟨2, 0, none⟩)] (@st1 2 15)) = true := by kernel_rfl
theorem par_hi9 (c : CfD) (Q : CfP) (g : Nat) (w : World) (hw : 2 ≤ w.heap.size) (hX : CfBox w g c Q) (l0 : ¬ c.n0 < 1) (h0 : ¬ 1048576 < c.n0) (l1 : ¬ c.n1 < 1) (h1 : ¬ 1048576 < c.n1) (l2 : ¬ c.n2 < 1) (h2 : ¬ 1048576 < c.n2) (l3 : ¬ c.n3 < 1) (h3 : ¬ 1048576 < c.n3) (l4 : ¬ c.n4 < 1) (h4 : ¬ 1048576 < c.n4) (l5 : ¬ c.n5 < 1) (h5 : ¬ 1048576 < c.n5) (l6 : ¬ c.n6 < 0) (h6 : ¬ 1099511627776 < c.n6) (l7 : ¬ c.n7 < 0) (h7 : ¬ 1099511627776 < c.n7) (l8 : ¬ c.n8 < 0) (h8 : ¬ 256 < c.n8) (l9 : ¬ c.n9 < 1) (h9 : 4096 < c.n9) : Calls Tryz.prog 67 #[.pointer (some ⟨g, 0, none⟩)] w (Says false w) :=
  @says_of_run Tryz.prog tab_hi9 (@OVal.mk tab_hi9 (pval c Q) (pval_shape c Q) (show ∀ r ∈ rules_hi9, r.Holds (pval c Q) from List.forall_mem_cons.2 ⟨h_lss .i64 c.n0 1 _ (decide_eq_false l0), List.forall_mem_cons.2 ⟨h_gtr .i64 c.n0 1048576 _ (decide_eq_false h0), List.forall_mem_cons.2 ⟨h_lss .i64 c.n1 1 _ (decide_eq_false l1), List.forall_mem_cons.2 ⟨h_gtr .i64 c.n1 1048576 _ (decide_eq_false h1), List.forall_mem_cons.2 ⟨h_lss .i64 c.n2 1 _ (decide_eq_false l2), List.forall_mem_cons.2 ⟨h_gtr .i64 c.n2 1048576 _ (decide_eq_false h2), List.forall_mem_cons.2 ⟨h_lss .i64 c.n3 1 _ (decide_eq_false l3), List.forall_mem_cons.2 ⟨h_gtr .i64 c.n3 1048576 _ (decide_eq_false h3), List.forall_mem_cons.2 ⟨h_lss .i64 c.n4 1 _ (decide_eq_false l4), List.forall_mem_cons.2 ⟨h_gtr .i64 c.n4 1048576 _ (decide_eq_false h4), List.forall_mem_cons.2 ⟨h_lss .i64 c.n5 1 _ (decide_eq_false l5), List.forall_mem_cons.2 ⟨h_gtr .i64 c.n5 1048576 _ (decide_eq_false h5), List.forall_mem_cons.2 ⟨h_lss .i64 c.n6 0 _ (decide_eq_false l6), List.forall_mem_cons.2 ⟨h_gtr .i64 c.n6 1099511627776 _ (decide_eq_false h6), List.forall_mem_cons.2 ⟨h_lss .i64 c.n7 0 _ (decide_eq_false l7), List.forall_mem_cons.2 ⟨h_gtr .i64 c.n7 1099511627776 _ (decide_eq_false h7), List.forall_mem_cons.2 ⟨h_lss .i64 c.n8 0 _ (decide_eq_false l8), List.forall_mem_cons.2 ⟨h_gtr .i64 c.n8 256 _ (decide_eq_false h8), List.forall_mem_cons.2 ⟨h_lss .i64 c.n9 1 _ (decide_eq_false l9), List.forall_mem_cons.2 ⟨h_gtr .i64 c.n9 4096 _ (decide_eq_true h9), (fun _ h => by cases h)⟩⟩⟩⟩⟩⟩⟩⟩⟩⟩⟩⟩⟩⟩⟩⟩⟩⟩⟩⟩)) mix (fun r hr => by cases hr) 67 2 g 15 w (cfCells c Q) 27 false (Nat.le_of_eq globs) hw hX rfl (pval_at c Q) run_hi9
def rules_ok10 : List Rule := [⟨.bin .lss, .float .f64 5, .int .i64 1, .bool false⟩, ⟨.bin .gtr, .float .f64 5, .int .i64 1048576, .bool false⟩, ⟨.bin .lss, .float .f64 6, .int .i64 1, .bool false⟩, ⟨.bin .gtr, .float .f64 6, .int .i64 1048576, .bool false⟩, ⟨.bin .lss, .float .f64 7, .int .i64 1, .bool false⟩, ⟨.bin .gtr, .float .f64 7, .int .i64 1048576, .bool false⟩, ⟨.bin .lss, .float .f64 8, .int .i64 1, .bool false⟩, ⟨.bin .gtr, .float .f64 8, .int .i64 1048576, .bool false⟩, ⟨.bin .lss, .float .f64 9, .int .i64 1, .bool false⟩, ⟨.bin .gtr, .float .f64 9, .int .i64 1048576, .bool false⟩, ⟨.bin .lss, .float .f64 10, .int .i64 1, .bool false⟩, ⟨.bin .gtr, .float .f64 10, .int .i64 1048576, .bool false⟩, ⟨.bin .lss, .float .f64 11, .int .i64 0, .bool false⟩, ⟨.bin .gtr, .float .f64 11, .int .i64 1099511627776, .bool false⟩, ⟨.bin .lss, .float .f64 12, .int .i64 0, .bool false⟩, ⟨.bin .gtr, .float .f64 12, .int .i64 1099511627776, .bool false⟩, ⟨.bin .lss, .float .f64 13, .int .i64 0, .bool false⟩, ⟨.bin .gtr, .float .f64 13, .int .i64 256, .bool false⟩, ⟨.bin .lss, .float .f64 14, .int .i64 1, .bool false⟩, ⟨.bin .gtr, .float .f64 14, .int .i64 4096, .bool false⟩]
@[reducible] def tab_ok10 : OTab := ⟨rules_ok10, []⟩
theorem run_ok10 : okAfter 3 true (@run tab_ok10 Tryz.prog 67 [.pointer (some ⟨2, 0, none⟩)] (@st1 2 15)) = true := by kernel_rfl
theorem par_ok10 (c : CfD) (Q : CfP) (g : Nat) (w : World) (hw : 2 ≤ w.heap.size) (hX : CfBox w g c Q) (l0 : ¬ c.n0 < 1) (h0 : ¬ 1048576 < c.n0) (l1 : ¬ c.n1 < 1) (h1 : ¬ 1048576 < c.n1) (l2 : ¬ c.n2 < 1) (h2 : ¬ 1048576 < c.n2) (l3 : ¬ c.n3 < 1) (h3 : ¬ 1048576 < c.n3) (l4 : ¬ c.n4 < 1) (h4 : ¬ 1048576 < c.n4) (l5 : ¬ c.n5 < 1) (h5 : ¬ 1048576 < c.n5) (l6 : ¬ c.n6 < 0) (h6 : ¬ 1099511627776 < c.n6) (l7 : ¬ c.n7 < 0) (h7 : ¬ 1099511627776 < c.n7) (l8 : ¬ c.n8 < 0) (h8 : ¬ 256 < c.n8) (l9 : ¬ c.n9 < 1) (h9 : ¬ 4096 < c.n9) : Calls Tryz.prog 67 #[.pointer (some ⟨g, 0, none⟩)] w (Says true w) :=
  @says_of_run Tryz.prog tab_ok10 (@OVal.mk tab_ok10 (pval c Q) (pval_shape c Q) (show ∀ r ∈ rules_ok10, r.Holds (pval c Q) from List.forall_mem_cons.2 ⟨h_lss .i64 c.n0 1 _ (decide_eq_false l0), List.forall_mem_cons.2 ⟨h_gtr .i64 c.n0 1048576 _ (decide_eq_false h0), List.forall_mem_cons.2 ⟨h_lss .i64 c.n1 1 _ (decide_eq_false l1), List.forall_mem_cons.2 ⟨h_gtr .i64 c.n1 1048576 _ (decide_eq_false h1), List.forall_mem_cons.2 ⟨h_lss .i64 c.n2 1 _ (decide_eq_false l2), List.forall_mem_cons.2 ⟨h_gtr .i64 c.n2 1048576 _ (decide_eq_false h2), List.forall_mem_cons.2 ⟨h_lss .i64 c.n3 1 _ (decide_eq_false l3), List.forall_mem_cons.2 ⟨h_gtr .i64 c.n3 1048576 _ (decide_eq_false h3), List.forall_mem_cons.2 ⟨h_lss .i64 c.n4 1 _ (decide_eq_false l4), List.forall_mem_cons.2 ⟨h_gtr .i64 c.n4 1048576 _ (decide_eq_false h4), List.forall_mem_cons.2 ⟨h_lss .i64 c.n5 1 _ (decide_eq_false l5), List.forall_mem_cons.2 ⟨h_gtr .i64 c.n5 1048576 _ (decide_eq_false h5), List.forall_mem_cons.2 ⟨h_lss .i64 c.n6 0 _ (decide_eq_false l6), List.forall_mem_cons.2 ⟨h_gtr .i64 c.n6 1099511627776 _ (decide_eq_false h6), List.forall_mem_cons.2 ⟨h_lss .i64 c.n7 0 _ (decide_eq_false l7), List.forall_mem_cons.2 ⟨h_gtr .i64 c.n7 1099511627776 _ (decide_eq_false h7), List.forall_mem_cons.2 ⟨h_lss .i64 c.n8 0 _ (decide_eq_false l8), List.forall_mem_cons.2 ⟨h_gtr .i64 c.n8 256 _ (decide_eq_false h8), List.forall_mem_cons.2 ⟨h_lss .i64 c.n9 1 _ (decide_eq_false l9), List.forall_mem_cons.2 ⟨h_gtr .i64 c.n9 4096 _ (decide_eq_false h9), (fun _ h => by cases h)⟩⟩⟩⟩⟩⟩⟩⟩⟩⟩⟩⟩⟩⟩⟩⟩⟩⟩⟩⟩)) mix (fun r hr => by cases hr) 67 2 g 15 w (cfCells c Q) 27 true (Nat.le_of_eq globs) hw hX rfl (pval_at c Q) run_ok10
theorem params_any (c : CfD) (Q : CfP) (g : Nat) (w : World) (hw : 2 ≤ w.heap.size) (hX : CfBox w g c Q) : Calls Tryz.prog 67 #[.pointer (some ⟨g, 0, none⟩)] w (Says (numsB c.ns) w) := by
  by_cases l0 : c.n0 < 1
  · rw [nums_no (k := 0) (z := c.n0) rfl (by simp [numB]; omega)]
    exact par_lo0 c Q g w hw hX  l0
  by_cases h0 : 1048576 < c.n0
  · rw [nums_no (k := 0) (z := c.n0) rfl (by simp [numB]; omega)]
    exact par_hi0 c Q g w hw hX  l0 h0
  by_cases l1 : c.n1 < 1
  · rw [nums_no (k := 1) (z := c.n1) rfl (by simp [numB]; omega)]
    exact par_lo1 c Q g w hw hX l0 h0 l1
  by_cases h1 : 1048576 < c.n1
  · rw [nums_no (k := 1) (z := c.n1) rfl (by simp [numB]; omega)]
    exact par_hi1 c Q g w hw hX l0 h0 l1 h1
  by_cases l2 : c.n2 < 1
  · rw [nums_no (k := 2) (z := c.n2) rfl (by simp [numB]; omega)]
    exact par_lo2 c Q g w hw hX l0 h0 l1 h1 l2
  by_cases h2 : 1048576 < c.n2
  · rw [nums_no (k := 2) (z := c.n2) rfl (by simp [numB]; omega)]
    exact par_hi2 c Q g w hw hX l0 h0 l1 h1 l2 h2
  by_cases l3 : c.n3 < 1
  · rw [nums_no (k := 3) (z := c.n3) rfl (by simp [numB]; omega)]
    exact par_lo3 c Q g w hw hX l0 h0 l1 h1 l2 h2 l3
  by_cases h3 : 1048576 < c.n3
  · rw [nums_no (k := 3) (z := c.n3) rfl (by simp [numB]; omega)]
    exact par_hi3 c Q g w hw hX l0 h0 l1 h1 l2 h2 l3 h3
  by_cases l4 : c.n4 < 1
  · rw [nums_no (k := 4) (z := c.n4) rfl (by simp [numB]; omega)]
    exact par_lo4 c Q g w hw hX l0 h0 l1 h1 l2 h2 l3 h3 l4
  by_cases h4 : 1048576 < c.n4
  · rw [nums_no (k := 4) (z := c.n4) rfl (by simp [numB]; omega)]
    exact par_hi4 c Q g w hw hX l0 h0 l1 h1 l2 h2 l3 h3 l4 h4
  by_cases l5 : c.n5 < 1
  · rw [nums_no (k := 5) (z := c.n5) rfl (by simp [numB]; omega)]
    exact par_lo5 c Q g w hw hX l0 h0 l1 h1 l2 h2 l3 h3 l4 h4 l5
  by_cases h5 : 1048576 < c.n5
  · rw [nums_no (k := 5) (z := c.n5) rfl (by simp [numB]; omega)]
    exact par_hi5 c Q g w hw hX l0 h0 l1 h1 l2 h2 l3 h3 l4 h4 l5 h5
  by_cases l6 : c.n6 < 0
  · rw [nums_no (k := 6) (z := c.n6) rfl (by simp [numB]; omega)]
    exact par_lo6 c Q g w hw hX l0 h0 l1 h1 l2 h2 l3 h3 l4 h4 l5 h5 l6
  by_cases h6 : 1099511627776 < c.n6
  · rw [nums_no (k := 6) (z := c.n6) rfl (by simp [numB]; omega)]
    exact par_hi6 c Q g w hw hX l0 h0 l1 h1 l2 h2 l3 h3 l4 h4 l5 h5 l6 h6
  by_cases l7 : c.n7 < 0
  · rw [nums_no (k := 7) (z := c.n7) rfl (by simp [numB]; omega)]
    exact par_lo7 c Q g w hw hX l0 h0 l1 h1 l2 h2 l3 h3 l4 h4 l5 h5 l6 h6 l7
  by_cases h7 : 1099511627776 < c.n7
  · rw [nums_no (k := 7) (z := c.n7) rfl (by simp [numB]; omega)]
    exact par_hi7 c Q g w hw hX l0 h0 l1 h1 l2 h2 l3 h3 l4 h4 l5 h5 l6 h6 l7 h7
  by_cases l8 : c.n8 < 0
  · rw [nums_no (k := 8) (z := c.n8) rfl (by simp [numB]; omega)]
    exact par_lo8 c Q g w hw hX l0 h0 l1 h1 l2 h2 l3 h3 l4 h4 l5 h5 l6 h6 l7 h7 l8
  by_cases h8 : 256 < c.n8
  · rw [nums_no (k := 8) (z := c.n8) rfl (by simp [numB]; omega)]
    exact par_hi8 c Q g w hw hX l0 h0 l1 h1 l2 h2 l3 h3 l4 h4 l5 h5 l6 h6 l7 h7 l8 h8
  by_cases l9 : c.n9 < 1
  · rw [nums_no (k := 9) (z := c.n9) rfl (by simp [numB]; omega)]
    exact par_lo9 c Q g w hw hX l0 h0 l1 h1 l2 h2 l3 h3 l4 h4 l5 h5 l6 h6 l7 h7 l8 h8 l9
  by_cases h9 : 4096 < c.n9
  · rw [nums_no (k := 9) (z := c.n9) rfl (by simp [numB]; omega)]
    exact par_hi9 c Q g w hw hX l0 h0 l1 h1 l2 h2 l3 h3 l4 h4 l5 h5 l6 h6 l7 h7 l8 h8 l9 h9
  have e : numsB c.ns = true := by
    simp [numsB, CfD.ns, numB, List.zipIdx]
    omega
  rw [e]
  exact par_ok10 c Q g w hw hX l0 h0 l1 h1 l2 h2 l3 h3 l4 h4 l5 h5 l6 h6 l7 h7 l8 h8 l9 h9
end Go.Proofs.YtgaimkgaooiieaaGreatDoor
