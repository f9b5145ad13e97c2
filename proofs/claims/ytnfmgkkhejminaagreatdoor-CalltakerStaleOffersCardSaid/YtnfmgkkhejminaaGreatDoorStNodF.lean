/-
  What All, OnesCount64, TrailingZeros64 and the sets' small functions answer.
-/
import Derived.Test.YtnfmgkkhejminaaGreatDoorStNodC
import Derived.Test.YtnfmgkkhejminaaGreatDoorStAckX
namespace Go.Proofs.YtnfmgkkhejminaaGreatDoor
open Go Go.RowKit Go.Ev
set_option linter.unusedSectionVars false
section
variable [OTab] [OVal]
/-- a memory of one known row of words -/
theorem rel_w1 {w : World} {g o : Nat} {zs : List Int} {vs : List Value} (hw : 2 ≤ w.heap.size) (hv : WordsAt w g o zs) (hl : vs.length = 64) (hc : ∀ m i v, vs[i]? = some v → conc m v = some (.int .u64 (zs.getD i 0))) (hK : ∀ B, ¬ OVal.kept B) : Rel Tryz.prog (mapB 2 [(2, ⟨g, o, 64⟩)]) (stB [(2, blkR vs)] 3) w := by
  refine rel_blks (fun q hq => ?_) (fun b x hb => ?_) (fun b k x hk hx => ?_) (fun b c x y kb kc h1 h2 hbc _ _ => ?_) (fun b k hk => ?_) hK
  · rw [globs] at hq
    exact ⟨if q = 0 then 64 else 0, by unfold mapB; rw [if_pos hq]⟩
  · unfold mapB at hb
    split at hb
    · cases hb; exact Nat.lt_of_lt_of_le (by assumption) hw
    · by_cases e : b = 2
      · subst e; cases hb; exact hv.2.1
      · have e2 : (2 == b) = false := by simp; omega
        simp [List.find?, e2] at hb
  · simp only [List.mem_singleton, Prod.mk.injEq] at hk
    obtain ⟨rfl, rfl⟩ := hk
    cases hx
    obtain ⟨arr, e, lo, hi, h1, h2, h3⟩ := hv.arr
    exact blkR_rel ⟨arr, e, lo, hi, h1, h2, fun i v hi' => ⟨_, hc _ i v hi', h3 i (by have := (List.getElem?_eq_some_iff.1 hi').1; omega)⟩⟩ (by rw [hl]; exact Nat.le_refl _) (by omega)
  · simp only [List.mem_singleton, Prod.mk.injEq] at h1 h2
    omega
  · simp only [List.mem_singleton, Prod.mk.injEq] at hk
    omega
theorem mapB_free1 {x : M} : ∀ b, 3 ≤ b → mapB 2 [(2, x)] b = none := fun b hb => by
  have e2 : (2 == b) = false := by simp; omega
  simp [mapB, List.find?, e2]
  omega
theorem mapB_free2 {x y : M} : ∀ b, 4 ≤ b → mapB 2 [(2, x), (3, y)] b = none := fun b hb => by
  have e2 : (2 == b) = false := by simp; omega
  have e3 : (3 == b) = false := by simp; omega
  simp [mapB, List.find?, e2, e3]
  omega
theorem mapB_free0 : ∀ b, 2 ≤ b → mapB 2 [] b = none := fun b hb => by
  simp [mapB]
  omega
/-- of two -/
theorem rel_w2 {w : World} {g o g' o' : Nat} {zs zs' : List Int} {vs vs' : List Value} (hw : 2 ≤ w.heap.size) (hne : g ≠ g') (hv : WordsAt w g o zs) (hv' : WordsAt w g' o' zs') (hl : vs.length = 64) (hl' : vs'.length = 64) (hc : ∀ m i v, vs[i]? = some v → conc m v = some (.int .u64 (zs.getD i 0))) (hc' : ∀ m i v, vs'[i]? = some v → conc m v = some (.int .u64 (zs'.getD i 0))) (hK : ∀ B, ¬ OVal.kept B) : Rel Tryz.prog (mapB 2 [(2, ⟨g, o, 64⟩), (3, ⟨g', o', 64⟩)]) (stB [(2, blkR vs), (3, blkR vs')] 4) w := by
  refine rel_blks (fun q hq => ?_) (fun b x hb => ?_) (fun b k x hk hx => ?_) (fun b c x y kb kc h1 h2 hbc h3 h4 => ?_) (fun b k hk => ?_) hK
  · rw [globs] at hq
    exact ⟨if q = 0 then 64 else 0, by unfold mapB; rw [if_pos hq]⟩
  · unfold mapB at hb
    split at hb
    · cases hb; exact Nat.lt_of_lt_of_le (by assumption) hw
    · by_cases e : b = 2
      · subst e; cases hb; exact hv.2.1
      · by_cases e' : b = 3
        · subst e'; cases hb; exact hv'.2.1
        · have e2 : (2 == b) = false := by simp; omega
          have e3 : (3 == b) = false := by simp; omega
          simp [List.find?, e2, e3] at hb
  · simp only [List.mem_cons, List.not_mem_nil, or_false, Prod.mk.injEq] at hk
    rcases hk with ⟨rfl, rfl⟩ | ⟨rfl, rfl⟩
    · cases hx
      obtain ⟨arr, e, lo, hi, h1, h2, h3⟩ := hv.arr
      exact blkR_rel ⟨arr, e, lo, hi, h1, h2, fun i v hi' => ⟨_, hc _ i v hi', h3 i (by have := (List.getElem?_eq_some_iff.1 hi').1; omega)⟩⟩ (by rw [hl]; exact Nat.le_refl _) (by omega)
    · cases hx
      obtain ⟨arr, e, lo, hi, h1, h2, h3⟩ := hv'.arr
      exact blkR_rel ⟨arr, e, lo, hi, h1, h2, fun i v hi' => ⟨_, hc' _ i v hi', h3 i (by have := (List.getElem?_eq_some_iff.1 hi').1; omega)⟩⟩ (by rw [hl']; exact Nat.le_refl _) (by omega)
  · simp only [List.mem_cons, List.not_mem_nil, or_false, Prod.mk.injEq] at h1 h2
    rcases h1 with ⟨rfl, _⟩ | ⟨rfl, _⟩ <;> rcases h2 with ⟨rfl, _⟩ | ⟨rfl, _⟩
    · exact absurd rfl hbc
    · cases h3; cases h4; exact hne
    · cases h3; cases h4; exact hne.symm
    · exact absurd rfl hbc
  · simp only [List.mem_cons, List.not_mem_nil, or_false, Prod.mk.injEq] at hk
    omega
theorem rel_w0 {w : World} (hw : 2 ≤ w.heap.size) (hK : ∀ B, ¬ OVal.kept B) : Rel Tryz.prog (mapB 2 []) (stB [] 2) w := by
  refine rel_blks (fun q hq => ?_) (fun b x hb => ?_) (fun b k x hk hx => by cases hk) (fun b c x y kb kc hbc h1 h2 h3 h4 => by cases h1) (fun b k hk => by cases hk) hK
  · rw [globs] at hq
    exact ⟨if q = 0 then 64 else 0, by unfold mapB; rw [if_pos hq]⟩
  · unfold mapB at hb
    split at hb
    · cases hb; exact Nat.lt_of_lt_of_le (by assumption) hw
    · simp at hb
/-! ## what the runs tell -/
theorem of_isNil {n : Nat} {r : Option (Value × St)} (h : isNil n r = true) : ∃ st, r = some (.agg ⟨[.pointer none]⟩, st) ∧ n ≤ st.low := by
  unfold isNil at h
  split at h
  · exact ⟨_, rfl, Nat.le_of_ble_eq_true h⟩
  · cases h
theorem of_isPtr {n b : Nat} {r : Option (Value × St)} (h : isPtr n b r = true) : ∃ st, r = some (.agg ⟨[.pointer (some ⟨b, 0, none⟩)]⟩, st) ∧ n ≤ st.low := by
  unfold isPtr at h
  split at h
  · rw [Bool.and_eq_true] at h
    obtain rfl := Nat.eq_of_beq_eq_true h.2
    exact ⟨_, rfl, Nat.le_of_ble_eq_true h.1⟩
  · cases h
theorem of_cellsAre {st : St} {c : Nat} {want : List Value} (h : cellsAre st c want = true) : ∃ cs, st.mem.get c = some (.cells want.length cs) ∧ ∀ j, j < want.length → cs.get j = want[j]? := by
  unfold cellsAre at h
  split at h
  · rename_i k cs hk
    rw [Bool.and_eq_true] at h
    obtain rfl := Nat.eq_of_beq_eq_true h.1
    have h2 := h.2
    split at h2
    · rename_i l hl
      obtain ⟨rfl, _⟩ := sEqL_eq h2
      refine ⟨cs, hk, fun j hj => ?_⟩
      have := takeT_at _ 0 _ hl j hj
      rwa [Nat.zero_add] at this
    · cases h2
  · cases h
theorem of_isNew {n : Nat} {want : List Value} {r : Option (Value × St)} (h : isNew n want r = true) : ∃ c st, r = some (.agg ⟨[.pointer (some ⟨c, 0, none⟩)]⟩, st) ∧ n ≤ st.low ∧ n ≤ c ∧ ∃ cs, st.mem.get c = some (.cells want.length cs) ∧ ∀ j, j < want.length → cs.get j = want[j]? := by
  unfold isNew at h
  split at h
  · simp only [Bool.and_eq_true] at h
    exact ⟨_, _, rfl, Nat.le_of_ble_eq_true h.1.1, Nat.le_of_ble_eq_true h.1.2, of_cellsAre h.2⟩
  · cases h
theorem of_isVal {n : Nat} {want : Value} {r : Option (Value × St)} (h : isVal n want r = true) : ∃ st, r = some (want, st) ∧ n ≤ st.low ∧ plainS want = true := by
  unfold isVal at h
  split at h
  · rw [Bool.and_eq_true] at h
    obtain ⟨rfl, h3⟩ := sEq_eq h.2
    exact ⟨_, rfl, Nat.le_of_ble_eq_true h.1, h3⟩
  · cases h
/-- a new row of words, as the machine has it -/
theorem new_words {m : Map} {st : St} {w : World} {c : Nat} {cs : T Value} {cv : Value} (hr : Rel Tryz.prog m st w) (hk : st.mem.get c = some (.cells 64 cs)) {want : List Value} (hw : want.length = 64) (hg : ∀ j, j < want.length → cs.get j = want[j]?) {zs : List Int} (hz : zs.length = 64) (hc : ∀ i v, want[i]? = some v → conc m v = some (.int .u64 (zs.getD i 0)))
    (hv : conc m (.agg ⟨[.pointer (some ⟨c, 0, none⟩)]⟩) = some cv) : ∃ x, m c = some x ∧ cv = .agg #[.pointer (some ⟨x.blk, x.sh, none⟩)] ∧ WordsAt w x.blk x.sh zs := by
  obtain ⟨l', h1, rfl⟩ := conc_agg hv
  obtain ⟨v1, r1, k1, k2, rfl⟩ := concL_cons h1
  obtain rfl : r1 = [] := by simpa using k2.symm
  obtain ⟨x, hx, _, rfl⟩ := conc_pointer k1
  refine ⟨x, hx, rfl, hz, hr.inb _ _ hx, fun i hi => ?_⟩
  obtain ⟨arr, e, lo, hi', q1, q2, q3, q4, q5, _⟩ := rel_cells hr hx hk
  obtain ⟨v, cv, r1, r2, r3⟩ := q5 i hi
  rw [hg i (by omega)] at r1
  rw [hc i v r1] at r2
  cases r2
  simp only [World.cell?, q1]
  exact r3
end
/-- a call that answers v -/
def Gives (v : Value) (w : World) (e : Ending) (w' : World) : Prop := e = .returned v ∧ Below w.heap.size w w'
theorem calls0 (P : Program) {T : OTab} {V : @OVal T} (h : @OTab.calls T = []) (hg : ∀ f l, @OTab.gen T f l = none) (hn : ∀ f l st, @OTab.nat T f l st = none) : @CallsOk T V P :=
  ⟨fun r hr => (by
    rcases hr with h' | ⟨h', _⟩
    · rw [h] at h'; cases h'
    · rw [hg] at h'; cases h'), fun f args st r st' v h' => (by rw [hn] at h'; cases h')⟩
/-! ## setOf -/
def firstJ : List Int → Nat
  | [] => 0
  | z :: r => if z = 0 then firstJ r + 1 else 0
theorem firstJ_le : ∀ l : List Int, firstJ l ≤ l.length
  | [] => Nat.le_refl _
  | z :: r => by
    unfold firstJ
    split
    · simp; exact firstJ_le r
    · exact Nat.zero_le _
theorem firstJ_zero : ∀ (l : List Int) (i : Nat), i < firstJ l → l.getD i 0 = 0
  | [], i, h => by simp
  | z :: r, i, h => by
    unfold firstJ at h
    split at h
    · cases i with
      | zero => simpa
      | succ i => simpa using firstJ_zero r i (by omega)
    · omega
theorem firstJ_not : ∀ (l : List Int), firstJ l < l.length → l.getD (firstJ l) 0 ≠ 0
  | [], h => by simp at h
  | z :: r, h => by
    unfold firstJ at h ⊢
    split
    · rename_i hz
      rw [if_pos hz] at h
      simpa using firstJ_not r (by simpa using h)
    · simpa
noncomputable def setVal (g o : Nat) (zs : List Int) : Value := if firstJ zs < 64 then .agg #[.pointer (some ⟨g, o, none⟩)] else .agg #[.pointer none]
noncomputable def wordsV (zs : List Int) (i : Nat) : Value := .int .u64 (if i = 64 then 1 else zs.getD i 0)
theorem wordsV_conc {T : OTab} {V : @OVal T} {j : Nat} {zs : List Int} (hz : ∀ i, i < j → zs.getD i 0 = 0) (hval : @OVal.val T V = wordsV zs) (m : Map) (i : Nat) (v : Value) (hiv : (wordsJ j)[i]? = some v) : @conc T V m v = some (.int .u64 (zs.getD i 0)) := by
  have hi : i < 64 := by have := (List.getElem?_eq_some_iff.1 hiv).1; simpa [wordsJ] using this
  simp only [wordsJ, List.getElem?_map, List.getElem?_range hi, Option.map_some, Option.some.injEq] at hiv
  subst hiv
  split
  · rw [conc_int, hz i (by assumption)]
  · rw [conc_float, hval, wordsV, if_neg (by omega)]
theorem ptr2 {T : OTab} {V : @OVal T} (g o : Nat) : @conc T V (mapB 2 [(2, ⟨g, o, 64⟩)]) (.pointer (some ⟨2, 0, none⟩)) = some (.pointer (some ⟨g, o, none⟩)) := by
  rw [conc]
  simp [mapB, List.find?]
theorem setOf_is (w : World) (g o : Nat) (zs : List Int) (hw : 2 ≤ w.heap.size) (hv : WordsAt w g o zs) : Calls Tryz.prog 154 #[.pointer (some ⟨g, o, none⟩)] w (Gives (setVal g o zs) w) := by
  have hj : firstJ zs ≤ 64 := by have := firstJ_le zs; rw [hv.1] at this; exact this
  have hrun := List.all_eq_true.1 setOf_runs (firstJ zs) (List.mem_range.2 (by omega))
  letI : OTab := tabJ (firstJ zs)
  letI : OVal := ⟨wordsV zs, fun i => .inl ⟨_, _, rfl⟩, fun r hr => by
      obtain rfl := List.mem_singleton.1 hr
      refine ⟨.u64, _, 0, rfl, rfl, ?_⟩
      rw [eqI_eq]
      have hne : (if firstJ zs = 64 then 1 else zs.getD (firstJ zs) 0) ≠ 0 := by
        split
        · omega
        · exact firstJ_not zs (by rw [hv.1]; omega)
      rw [beq_false_of_ne hne], fun _ => False, #[]⟩
  have hrel := rel_w1 hw hv (vs := wordsJ (firstJ zs)) (by simp [wordsJ]) (fun m i v => wordsV_conc (firstJ_zero zs) rfl m i v) (fun _ h => h)
  have harg := concL_cons' (ptr2 (V := this) g o) (concL_nil _)
  by_cases hlt : firstJ zs < 64
  · unfold okJ at hrun
    rw [if_pos hlt] at hrun
    obtain ⟨st', h1, hlow⟩ := of_isPtr hrun
    refine (piece mix (calls0 _ rfl (fun _ _ => rfl) (fun _ _ _ => rfl)) h1 hrel mapB_free1 harg hlow).mono ?_
    rintro e w' ⟨m', cv, rfl, hcv, hrel, hsub, hb, _⟩
    refine ⟨?_, hb⟩
    have hcv' := conc_agg' (concL_cons' (conc_mono hsub _ _ (ptr2 (V := this) g o)) (concL_nil m'))
    rw [hcv'] at hcv
    cases hcv
    unfold setVal
    rw [if_pos hlt]
  · unfold okJ at hrun
    rw [if_neg hlt] at hrun
    obtain ⟨st', h1, hlow⟩ := of_isNil hrun
    refine (piece mix (calls0 _ rfl (fun _ _ => rfl) (fun _ _ _ => rfl)) h1 hrel mapB_free1 harg hlow).mono ?_
    rintro e w' ⟨m', cv, rfl, hcv, hrel, hsub, hb, _⟩
    refine ⟨?_, hb⟩
    have hcv' := conc_agg' (concL_cons' (show conc m' (.pointer none) = some (.pointer none) from by simp [conc]) (concL_nil m'))
    rw [hcv'] at hcv
    cases hcv
    unfold setVal
    rw [if_neg hlt]
end Go.Proofs.YtnfmgkkhejminaaGreatDoor

namespace Go.Proofs.YtnfmgkkhejminaaGreatDoor
open Go Go.RowKit Go.Ev
/-- what the first word and another have in common -/
def andN (a : Nat) (c : Int) : Nat := (BitVec.ofInt 64 a &&& BitVec.ofInt 64 c).toNat
theorem andN_le {a : Nat} (h : a < 512) (c : Int) : andN a c < 512 := by
  unfold andN
  rw [BitVec.toNat_and]
  refine Nat.lt_of_le_of_lt Nat.and_le_left ?_
  rw [show BitVec.ofInt 64 (a : Int) = BitVec.ofNat 64 a from by simp, BitVec.toNat_ofNat]
  omega
theorem andN_zero (a : Nat) : andN a 0 = 0 := by
  unfold andN
  simp
theorem scal_and {a : Nat} (ha : a < 512) (c : Int) : scalB .and (.int .u64 a) (.int .u64 c) = some (.int .u64 (andN a c)) := by
  have h := andN_le ha c
  have : scalB .and (.int .u64 a) (.int .u64 c) = some (.int .u64 (IntKind.u64.wrap (andN a c))) := rfl
  rw [this]
  congr 2
  show IntKind.u64.wrap _ = _
  simp only [IntKind.wrap, IntKind.bits, IntKind.signed]
  first | (simp; omega) | skip
/-- words of which only the first one counts -/
def w1 (a : Nat) : List Int := (a : Int) :: List.replicate 63 0
theorem w1_len (a : Nat) : (w1 a).length = 64 := by simp [w1]
theorem zeros_getD (n i : Nat) : (List.replicate n (0 : Int)).getD i 0 = 0 := by
  rw [List.getD_eq_getElem?_getD, List.getElem?_replicate]
  split <;> rfl
theorem w1_succ (a i : Nat) : (w1 a).getD (i + 1) 0 = 0 := by
  unfold w1
  rw [List.getD_cons_succ]
  exact zeros_getD 63 i
theorem w1_conc {T : OTab} {V : @OVal T} {u : Value} {a : Nat} (m : Map) (hu : @conc T V m u = some (.int .u64 a)) (i : Nat) (v : Value) (h : (words9 u)[i]? = some v) : @conc T V m v = some (.int .u64 ((w1 a).getD i 0)) := by
  cases i with
  | zero =>
    simp only [words9, List.getElem?_cons_zero, Option.some.injEq] at h
    subst h
    simpa [w1] using hu
  | succ i =>
    simp only [words9, List.getElem?_cons_succ, List.getElem?_replicate] at h
    split at h
    · rename_i hi
      cases h
      rw [conc_int, w1_succ]
    · cases h
theorem w1_first {a : Nat} : firstJ (w1 a) < 64 ↔ a ≠ 0 := by
  constructor
  · rintro h rfl
    have : firstJ (w1 0) = 64 := by decide
    omega
  · intro h
    have : firstJ (w1 a) = 0 := by
      unfold w1 firstJ
      rw [if_neg (by omega)]
    omega
noncomputable def valI (a : Nat) (ys : List Int) (i : Nat) : Value := if i = 0 then .int .u64 a else if i = 65 then .int .u64 (andN a (ys.getD 0 0)) else if 100 ≤ i then .int .u64 (ys.getD (i - 100) 0) else .int .u64 0
theorem valI_shape (a : Nat) (ys : List Int) (i : Nat) : (∃ k n, valI a ys i = .int k n) ∨ (∃ s, valI a ys i = .string s) ∨ ∃ x l c, valI a ys i = .slice x l c := by
  unfold valI
  split
  · exact .inl ⟨_, _, rfl⟩
  · split
    · exact .inl ⟨_, _, rfl⟩
    · split <;> exact .inl ⟨_, _, rfl⟩
theorem valI_100 (a : Nat) (ys : List Int) (i : Nat) : valI a ys (100 + i) = .int .u64 (ys.getD i 0) := by
  unfold valI
  rw [if_neg (by omega), if_neg (by omega), if_pos (by omega), show 100 + i - 100 = i by omega]
theorem words64_conc {T : OTab} {V : @OVal T} {a : Nat} {ys : List Int} (hval : @OVal.val T V = valI a ys) (m : Map) (i : Nat) (v : Value) (h : words64[i]? = some v) : @conc T V m v = some (.int .u64 (ys.getD i 0)) := by
  have hi : i < 64 := by have := (List.getElem?_eq_some_iff.1 h).1; simpa [words64] using this
  simp only [words64, List.getElem?_map, List.getElem?_range hi, Option.map_some, Option.some.injEq] at h
  subst h
  rw [conc_float, hval, valI_100]
theorem andR_holds {a : Nat} {ys : List Int} {l : List Rule} (hl : ∀ r ∈ l, Rule.Holds (valI a ys) r) : ∀ r ∈ andR l, Rule.Holds (valI a ys) r := by
  intro r hr
  unfold andR at hr
  rcases List.mem_append.1 hr with h | h
  · obtain ⟨i, _, rfl⟩ := List.mem_map.1 h
    show scalB .and (.int .u64 0) (valI a ys (101 + i)) = some (.int .u64 0)
    rw [show 101 + i = 100 + (i + 1) by omega, valI_100]
    have := scal_and (a := 0) (by omega) (ys.getD (i + 1) 0)
    rw [show andN 0 (ys.getD (i + 1) 0) = 0 from by unfold andN; simp] at this
    exact this
  · exact hl r h
theorem ptrs2 {T : OTab} {V : @OVal T} (g o g' o' : Nat) : @concL T V (mapB 2 [(2, ⟨g, o, 64⟩), (3, ⟨g', o', 64⟩)]) [.agg ⟨[.pointer (some ⟨2, 0, none⟩)]⟩, .agg ⟨[.pointer (some ⟨3, 0, none⟩)]⟩] = some [.agg ⟨[.pointer (some ⟨g, o, none⟩)]⟩, .agg ⟨[.pointer (some ⟨g', o', none⟩)]⟩] := by
  refine concL_cons' (conc_agg' (concL_cons' ?_ (concL_nil _))) (concL_cons' (conc_agg' (concL_cons' ?_ (concL_nil _))) (concL_nil _))
  · rw [conc]
    simp [mapB, List.find?]
  · rw [conc]
    simp [mapB, List.find?]
/-- a set that has nodes below nine alone, given back -/
def SetRet (x : Nat) (w : World) (e : Ending) (w' : World) : Prop := Below w.heap.size w w' ∧ ((x = 0 ∧ e = .returned (.agg #[.pointer none])) ∨ (x ≠ 0 ∧ ∃ g o, e = .returned (.agg #[.pointer (some ⟨g, o, none⟩)]) ∧ w.heap.size ≤ g ∧ WordsAt w' g o (w1 x)))
theorem inter_is (w : World) (g o g' o' a : Nat) (ys : List Int) (hw : 2 ≤ w.heap.size) (ha : a < 512) (hne : g ≠ g') (hv : WordsAt w g o (w1 a)) (hv' : WordsAt w g' o' ys) : Calls Tryz.prog 128 #[.agg #[.pointer (some ⟨g, o, none⟩)], .agg #[.pointer (some ⟨g', o', none⟩)]] w (SetRet (andN a (ys.getD 0 0)) w) := by
  by_cases hz : andN a (ys.getD 0 0) = 0
  · letI : OTab := tabI0
    letI : OVal := ⟨valI a ys, valI_shape a ys, andR_holds fun r hr => by
      obtain rfl := List.mem_singleton.1 hr
      show scalB .and (valI a ys 0) (valI a ys 100) = some (.int .u64 0)
      rw [show valI a ys 100 = _ from valI_100 a ys 0, show valI a ys 0 = .int .u64 a from rfl, scal_and ha, hz]
      rfl, fun _ => False, #[]⟩
    have hrel := rel_w2 hw hne hv hv' (vs := words9 (.float .f64 0)) (vs' := words64) (by simp [words9]) (by simp [words64]) (fun m i v => w1_conc m (conc_float m _ _) i v) (fun m i v => words64_conc rfl m i v) (fun _ h => h)
    obtain ⟨st', h1, hlow⟩ := of_isNil inter_run0
    refine (piece mix (calls0 _ rfl (fun _ _ => rfl) (fun _ _ _ => rfl)) h1 hrel mapB_free2 (ptrs2 g o g' o') hlow).mono ?_
    rintro e w' ⟨m', cv, rfl, hcv, hrel, hsub, hb, _⟩
    refine ⟨hb, .inl ⟨hz, ?_⟩⟩
    have hcv' := conc_agg' (concL_cons' (show conc m' (.pointer none) = some (.pointer none) from by simp [conc]) (concL_nil m'))
    rw [hcv'] at hcv
    cases hcv
    rfl
  · letI : OTab := tabI
    letI : OVal := ⟨valI a ys, valI_shape a ys, andR_holds fun r hr => by
      simp only [List.mem_cons, List.not_mem_nil, or_false] at hr
      rcases hr with rfl | rfl
      · show scalB .and (valI a ys 0) (valI a ys 100) = some (valI a ys 65)
        rw [show valI a ys 100 = _ from valI_100 a ys 0, show valI a ys 0 = .int .u64 a from rfl, scal_and ha]
        rfl
      · refine ⟨.u64, andN a (ys.getD 0 0), 0, rfl, rfl, ?_⟩
        rw [eqI_eq]
        have hne : ((andN a (ys.getD 0 0) : Nat) : Int) ≠ 0 := by omega
        rw [beq_false_of_ne hne], fun _ => False, #[]⟩
    have hrel := rel_w2 hw hne hv hv' (vs := words9 (.float .f64 0)) (vs' := words64) (by simp [words9]) (by simp [words64]) (fun m i v => w1_conc m (conc_float m _ _) i v) (fun m i v => words64_conc rfl m i v) (fun _ h => h)
    obtain ⟨c, st', h1, hlow, hnc, cs, hk, hg⟩ := of_isNew inter_run
    refine (piece mix (calls0 _ rfl (fun _ _ => rfl) (fun _ _ _ => rfl)) h1 hrel mapB_free2 (ptrs2 g o g' o') hlow).mono ?_
    rintro e w' ⟨m', cv, rfl, hcv, hrel, hsub, hb, _, hnew⟩
    obtain ⟨x, hx, rfl, hws⟩ := new_words hrel hk (want := words9 (.float .f64 65)) (by simp [words9]) hg (w1_len (andN a (ys.getD 0 0))) (fun i v => w1_conc m' (conc_float m' _ _) i v) hcv
    exact ⟨hb, .inr ⟨hz, x.blk, x.sh, rfl, hnew c x _ hnc hx hk, hws⟩⟩
theorem inter_nil (w : World) (g o a : Nat) (hw : 2 ≤ w.heap.size) (ha : a < 512) (hv : WordsAt w g o (w1 a)) : Calls Tryz.prog 128 #[.agg #[.pointer (some ⟨g, o, none⟩)], .agg #[.pointer none]] w (SetRet 0 w) := by
  letI : OTab := tabI1
  letI : OVal := ⟨valI a [], valI_shape a [], fun r hr => by
      obtain rfl := List.mem_singleton.1 hr
      show scalB .and (valI a [] 0) (.int .u64 0) = some (.int .u64 0)
      rw [show valI a [] 0 = .int .u64 a from rfl, scal_and ha, andN_zero]
      rfl, fun _ => False, #[]⟩
  have hrel := rel_w1 hw hv (vs := words9 (.float .f64 0)) (by simp [words9]) (fun m i v => w1_conc m (conc_float m _ _) i v) (fun _ h => h)
  obtain ⟨st', h1, hlow⟩ := of_isNil inter_run1
  refine (piece mix (calls0 _ rfl (fun _ _ => rfl) (fun _ _ _ => rfl)) h1 hrel mapB_free1 (concL_cons' (conc_agg' (concL_cons' (ptr2 (V := this) g o) (concL_nil _))) (concL_cons' (conc_agg' (concL_cons' (show conc _ (.pointer none) = some (.pointer none) from by simp [conc]) (concL_nil _))) (concL_nil _))) hlow).mono ?_
  rintro e w' ⟨m', cv, rfl, hcv, hrel, hsub, hb, _⟩
  refine ⟨hb, .inl ⟨rfl, ?_⟩⟩
  have hcv' := conc_agg' (concL_cons' (show conc m' (.pointer none) = some (.pointer none) from by simp [conc]) (concL_nil m'))
  rw [hcv'] at hcv
  cases hcv
  rfl
end Go.Proofs.YtnfmgkkhejminaaGreatDoor

namespace Go.Proofs.YtnfmgkkhejminaaGreatDoor
open Go Go.RowKit Go.Ev
theorem nilv {T : OTab} {V : @OVal T} (m : Map) : @conc T V m (.pointer none) = some (.pointer none) := by simp [conc]
/-- a run at known numbers is a rule -/
theorem crule_of_run {f : Nat} {args cargs : List Value} {want : Value} {ts : List Tab} {S : St} (hS : S = stT 2 ts) (hts : ∀ t ∈ ts, t.g < 2) (h : isVal 2 want (@run tab0 Tryz.prog f cargs S) = true) (hp : ∀ m, @concL tab0 val0 m cargs = some cargs) (hq : ∀ k i, want ≠ .float k i) (val : Nat → Value) (ha : args.map (con val) = cargs) : CRule.Holds Tryz.prog val ⟨f, args, ts, want⟩ := fun w hw hT => by
  subst hS
  letI : OTab := tab0
  letI : OVal := val0
  obtain ⟨st', h1, hlow, hpl⟩ := of_isVal h
  rw [globs] at hw
  have hr := rel_tabs (P := Tryz.prog) (Nat.le_of_eq globs) hw hts hT ⟨fun B h => h.elim, fun _ _ h => h⟩
  obtain ⟨_, _, _, _, _, hb, _⟩ := run_sound [] mix (ok0 Tryz.prog) h1 hr (fun b hb _ => if_neg (by have : 2 ≤ b := hb; omega)) (hp _)
  refine ⟨hb, fun cs => ?_⟩
  obtain ⟨m', w', cv, s, hv, _, q⟩ := run_sound cs mix (ok0 Tryz.prog) h1 hr (fun b hb _ => if_neg (by have : 2 ≤ b := hb; omega)) (hp _)
  have hc := s.chk 2 w (Nat.le_refl _) hlow ⟨fun b x k _ hk hb => (by rw [hr.wf b hb] at hk; cases hk), Nat.le_refl _, fun _ _ => rfl⟩
  have e : cv = con val want := by
    have h2 : con (@OVal.val tab0 val0) want = con val want := by cases want <;> first | rfl | exact absurd rfl (hq _ _)
    rw [conc_plain m' hpl] at hv
    rw [← h2]
    exact (Option.some.inj hv).symm
  obtain ⟨fr, q1, q2, q3⟩ := q
  exact ⟨w', ⟨s.os, s.tape, s.output, s.size, fun k hk => hc.2.2 k hk⟩, fr, by rw [ha]; exact q1, q2, by rw [← e]; exact q3⟩
theorem ones_rule {a : Nat} (ha : a < 512) (val : Nat → Value) (u : Value) (hu : con val u = .int .u64 a) : CRule.Holds Tryz.prog val ⟨87, [u], [], .int .i64 (pop9 a)⟩ :=
  crule_of_run (cargs := [.int .u64 a]) (S := stB [] 2) rfl (fun _ h => by cases h) (List.all_eq_true.1 ones_runs a (List.mem_range.2 ha)) (fun m => @concL_cons' tab0 val0 _ _ _ _ _ (@conc_int tab0 val0 _ _ _) (@concL_nil tab0 val0 _)) (fun _ _ h => by cases h) val (by simp [hu])
theorem zeros_rule {a : Nat} (h0 : a ≠ 0) (ha : a < 512) (val : Nat → Value) (u : Value) (hu : con val u = .int .u64 a) : CRule.Holds Tryz.prog val ⟨89, [u], [t64], .int .i64 (tz9 a)⟩ := by
  have h := List.all_eq_true.1 zeros_runs (a - 1) (List.mem_range.2 (by omega))
  rw [show a - 1 + 1 = a by omega] at h
  exact crule_of_run (cargs := [.int .u64 a]) rfl t64_lt h (fun m => @concL_cons' tab0 val0 _ _ _ _ _ (@conc_int tab0 val0 _ _ _) (@concL_nil tab0 val0 _)) (fun _ _ h => by cases h) val (by simp [hu])
theorem pop9_le (a : Nat) : pop9 a ≤ 9 := by
  unfold pop9
  exact Nat.le_trans List.countP_le_length (by simp)
/-! ## what the functions do -/
theorem all_is (w : World) (hw : 2 ≤ w.heap.size) : Calls Tryz.prog 77 #[.int .i64 9] w fun e w' => ∃ g o, e = .returned (.agg #[.pointer (some ⟨g, o, none⟩)]) ∧ w.heap.size ≤ g ∧ WordsAt w' g o (w1 511) ∧ Below w.heap.size w w' := by
  letI : OTab := tab0
  letI : OVal := val0
  obtain ⟨c, st', h1, hlow, hnc, cs, hk, hg⟩ := of_isNew all_run
  refine (piece mix (ok0 _) h1 (rel_w0 hw (fun _ h => h)) mapB_free0 (concL_cons' (conc_int _ _ _) (concL_nil _)) hlow).mono ?_
  rintro e w' ⟨m', cv, rfl, hcv, hrel, hsub, hb, _, hnew⟩
  obtain ⟨x, hx, rfl, hws⟩ := new_words hrel hk (want := words9 (.int .u64 511)) (by simp [words9]) hg (w1_len 511) (fun i v => w1_conc m' (conc_int m' _ _) i v) hcv
  exact ⟨x.blk, x.sh, rfl, hnew c x _ hnc hx hk, hws, hb⟩
theorem len_is (w : World) (g o a : Nat) (hw : 2 ≤ w.heap.size) (ha : a < 512) (hv : WordsAt w g o (w1 a)) : Calls Tryz.prog 35 #[.agg #[.pointer (some ⟨g, o, none⟩)]] w (Gives (.int .i64 (pop9 a)) w) := by
  have hrun := List.all_eq_true.1 len_runs (pop9 a) (List.mem_range.2 (by have := pop9_le a; omega))
  letI : OTab := tabL (pop9 a)
  letI : OVal := ⟨fun _ => .int .u64 a, fun i => .inl ⟨_, _, rfl⟩, fun r hr => (by cases hr), fun _ => False, #[]⟩
  have hC : CallsOk Tryz.prog := ⟨fun r hr => (by
    rcases hr with h' | ⟨h', _⟩
    · obtain rfl := List.mem_singleton.1 h'
      exact ones_rule ha _ _ rfl
    · cases h'), fun f args st r st' v h' => (by cases h')⟩
  obtain ⟨st', h1, hlow, _⟩ := of_isVal hrun
  have hrel := rel_w1 hw hv (vs := words9 (.float .f64 0)) (by simp [words9]) (fun m i v => w1_conc m (conc_float m _ _) i v) (fun _ h => h)
  refine (piece mix hC h1 hrel mapB_free1 (concL_cons' (conc_agg' (concL_cons' (ptr2 (V := this) g o) (concL_nil _))) (concL_nil _)) hlow).mono ?_
  rintro e w' ⟨m', cv, rfl, hcv, hrel, hsub, hb, _⟩
  rw [conc_int] at hcv
  cases hcv
  exact ⟨rfl, hb⟩
theorem len_nil (w : World) (hw : 2 ≤ w.heap.size) : Calls Tryz.prog 35 #[.agg #[.pointer none]] w (Gives (.int .i64 0) w) := by
  letI : OTab := tab0
  letI : OVal := val0
  obtain ⟨st', h1, hlow, _⟩ := of_isVal len_run0
  refine (piece mix (ok0 _) h1 (rel_w0 hw (fun _ h => h)) mapB_free0 (concL_cons' (conc_agg' (concL_cons' (nilv _) (concL_nil _))) (concL_nil _)) hlow).mono ?_
  rintro e w' ⟨m', cv, rfl, hcv, hrel, hsub, hb, _⟩
  rw [conc_int] at hcv
  cases hcv
  exact ⟨rfl, hb⟩
noncomputable def valE (a b : Nat) (i : Nat) : Value := if i = 0 then .int .u64 a else .int .u64 b
theorem equal_is (w : World) (g o g' o' a b : Nat) (hw : 2 ≤ w.heap.size) (hne : g ≠ g') (hv : WordsAt w g o (w1 a)) (hv' : WordsAt w g' o' (w1 b)) : Calls Tryz.prog 156 #[.agg #[.pointer (some ⟨g, o, none⟩)], .agg #[.pointer (some ⟨g', o', none⟩)]] w (Gives (.bool (a == b)) w) := by
  have hrun := List.all_eq_true.1 equal_runs (a == b) (by cases a == b <;> simp)
  letI : OTab := tabE (a == b)
  letI : OVal := ⟨valE a b, fun i => by unfold valE; split <;> exact .inl ⟨_, _, rfl⟩, fun r hr => by
      obtain rfl := List.mem_singleton.1 hr
      refine ⟨.u64, a, b, (by show valE a b 0 = _; unfold valE; rw [if_pos rfl]), (by show valE a b 1 = _; unfold valE; rw [if_neg (by omega)]), ?_⟩
      show Value.bool (a == b) = .bool (eqI a b)
      rw [eqI_eq]
      refine congrArg Value.bool ?_
      by_cases hab : a = b
      · subst hab
        rw [beq_self_eq_true, beq_self_eq_true]
      · rw [beq_false_of_ne hab, beq_false_of_ne (show (a : Int) ≠ b by omega)], fun _ => False, #[]⟩
  obtain ⟨st', h1, hlow, _⟩ := of_isVal hrun
  have hrel := rel_w2 hw hne hv hv' (vs := words9 (.float .f64 0)) (vs' := words9 (.float .f64 1)) (by simp [words9]) (by simp [words9]) (fun m i v => w1_conc m (conc_float m _ _) i v) (fun m i v => w1_conc m (conc_float m _ _) i v) (fun _ h => h)
  refine (piece mix (calls0 _ rfl (fun _ _ => rfl) (fun _ _ _ => rfl)) h1 hrel mapB_free2 (ptrs2 g o g' o') hlow).mono ?_
  rintro e w' ⟨m', cv, rfl, hcv, hrel, hsub, hb, _⟩
  rw [conc_bool] at hcv
  cases hcv
  exact ⟨rfl, hb⟩
/-- an estimate: all nodes, the nodes, the sources -/
def EstNew (w w' : World) (g o : Nat) (e : Ending) : Prop := ∃ c p, e = .returned (.tuple #[.pointer (some ⟨c, p, none⟩), .int .i64 0]) ∧ w.heap.size ≤ c ∧ c < w'.heap.size ∧ w'.cell? ⟨c, p + 0, none⟩ = some (.pointer (some ⟨g, o, none⟩)) ∧ w'.cell? ⟨c, p + 1, none⟩ = some (.pointer (some ⟨g, o, none⟩)) ∧ w'.cell? ⟨c, p + 2, none⟩ = some (.slice none 0 0) ∧ (∀ i, i < 3 → w'.frozen? ⟨c, p + i, none⟩ = false) ∧ Below w.heap.size w w'
theorem new_is (w : World) (g o : Nat) (hw : 2 ≤ w.heap.size) (hv : WordsAt w g o (w1 511)) : Calls Tryz.prog 76 #[.agg #[.pointer (some ⟨g, o, none⟩)]] w fun e w' => EstNew w w' g o e := by
  letI : OTab := tab0
  letI : OVal := val0
  have h := new_run
  unfold isEst at h
  split at h
  · rename_i c z st hr
    simp only [Bool.and_eq_true] at h
    obtain ⟨⟨⟨hz, hlow⟩, hnc⟩, h4⟩ := h
    have hz : z = 0 := by rw [eqI_eq] at hz; simpa using hz
    subst hz
    have hlow := Nat.le_of_ble_eq_true hlow
    have hnc := Nat.le_of_ble_eq_true hnc
    split at h4
    · rename_i k cs hk
      simp only [Bool.and_eq_true] at h4
      obtain ⟨⟨hk3, hro⟩, h5⟩ := h4
      obtain rfl := Nat.eq_of_beq_eq_true hk3
      split at h5
      · rename_i l hl
        have hget := fun j hj => takeT_at _ 0 _ hl j hj
        simp only [Nat.zero_add] at hget
        have hrel := rel_w1 hw hv (vs := words9 (.int .u64 511)) (by simp [words9]) (fun m i v => w1_conc m (conc_int m _ _) i v) (fun _ h => h)
        refine (piece mix (ok0 _) hr hrel mapB_free1 (concL_cons' (conc_agg' (concL_cons' (ptr2 (V := this) g o) (concL_nil _))) (concL_nil _)) hlow).mono ?_
        rintro e w' ⟨m', cv, rfl, hcv, hrel', hsub, hb, _, hnew⟩
        obtain ⟨l', k1, rfl⟩ := conc_tuple hcv
        obtain ⟨v1, r1, k2, k3, rfl⟩ := concL_cons k1
        obtain ⟨v2, r2, k4, k5, rfl⟩ := concL_cons k3
        obtain rfl : r2 = [] := by simpa using k5.symm
        obtain ⟨x, hx, _, rfl⟩ := conc_pointer k2
        rw [conc_int] at k4
        cases k4
        obtain ⟨arr, te, lo, hi, q1, q2, q3, q4, q5, _⟩ := rel_cells hrel' hx hk
        have hp := conc_mono hsub _ _ (ptr2 (V := this) g o)
        have cell : ∀ j, j < 3 → ∀ v, cs.get j = some v → ∀ cv, conc m' v = some cv → w'.cell? ⟨x.blk, x.sh + j, none⟩ = some cv := fun j hj v h1 cv h2 => by
          obtain ⟨v', cv', r1, r2, r3⟩ := q5 j hj
          rw [h1] at r1
          cases r1
          rw [h2] at r2
          cases r2
          simp only [World.cell?, q1]
          exact r3
        refine ⟨x.blk, x.sh, rfl, hnew c x _ hnc hx hk, hrel'.inb _ _ hx, cell 0 (by omega) _ (hget 0 (by omega)) _ hp, cell 1 (by omega) _ (hget 1 (by omega)) _ hp, cell 2 (by omega) _ (hget 2 (by omega)) _ (by simp [conc]), fun i hi => ?_, hb⟩
        have := q4 hro (x.sh + i) (by omega)
        simp only [World.frozen?, q1]
        first | (simp; omega) | simpa using this
      · cases h5
    · cases h4
  · cases h
end Go.Proofs.YtnfmgkkhejminaaGreatDoor
