/-
  CalltakerStaleOffers answers true where all that was said is within range.
-/
import Derived.Test.YtnfmgkkhejminaaGreatDoorStStaP
import Derived.Test.YtnfmgkkhejminaaGreatDoorStStaE
import Derived.Test.YtnfmgkkhejminaaGreatDoorStStaRa
import Derived.Test.YtnfmgkkhejminaaGreatDoorStStaRd
import Derived.Test.YtnfmgkkhejminaaGreatDoorStStaRg
import Derived.Test.YtnfmgkkhejminaaGreatDoorStStaRj
import Derived.Test.YtnfmgkkhejminaaGreatDoorStStaT
namespace Go.Proofs.YtnfmgkkhejminaaGreatDoor
open Go Go.RowKit Go.Ev Wi
/-! ## the letters of the offers -/
def valS (l : List Int) (S : Value) (x : Nat) (i : Nat) : Value := if i = 77 then S else if i = 78 then .int .u64 x else valK l 0 0 i
def lowV : Value → Bool
  | .float _ i => Nat.blt i 50
  | _ => true
def lowR (r : Rule) : Bool := lowV r.x && lowV r.y && lowV r.z
theorem low_all : (List.range 11).all (fun k => (List.range 3).all fun c => (rulesK k c).all lowR) = true := by kernel_rfl
theorem con_low {l : List Int} {S : Value} {x : Nat} {v : Value} (h : lowV v = true) : con (valS l S x) v = con (valK l 0 0) v := by
  cases v with
  | float k i =>
    have hi : i < 50 := Nat.le_of_ble_eq_true h
    show valS l S x i = valK l 0 0 i
    unfold valS
    rw [if_neg (by omega), if_neg (by omega)]
  | _ => rfl
theorem rulesS_hold {l : List Int} {S : Value} {x k c : Nat} (hk : k ≤ 10) (hc : c ≤ 2) (h : ∀ r ∈ rulesK k c, r.Holds (valK l 0 0)) : ∀ r ∈ rulesK k c, r.Holds (valS l S x) := by
  intro r hr
  have h1 := List.all_eq_true.1 (List.all_eq_true.1 (List.all_eq_true.1 low_all k (List.mem_range.2 (by omega))) c (List.mem_range.2 (by omega))) r hr
  unfold lowR at h1
  simp only [Bool.and_eq_true] at h1
  have h2 := h r hr
  unfold Rule.Holds at h2 ⊢
  rw [con_low h1.1.1, con_low h1.1.2, con_low h1.2]
  exact h2
theorem valS_shape (l : List Int) (A : Option Addr) (n c x i : Nat) : (∃ k m, valS l (.slice A n c) x i = .int k m) ∨ (∃ s, valS l (.slice A n c) x i = .string s) ∨ ∃ a m c', valS l (.slice A n c) x i = .slice a m c' := by
  unfold valS
  split
  · exact .inr (.inr ⟨_, _, _, rfl⟩)
  · split
    · exact .inl ⟨_, _, rfl⟩
    · exact valK_shape l 0 0 i
/-! ## where the law's runs begin -/
def mapS (g off c : Nat) : Map := fun b => if b = 2 then some ⟨g, off, c⟩ else if b < 2 then some ⟨b, 0, limT [t64] b⟩ else none
theorem mapS_some {g off c b : Nat} {x : Ev.M} (h : mapS g off c b = some x) : (b = 2 ∧ x = ⟨g, off, c⟩) ∨ (b < 2 ∧ x = ⟨b, 0, limT [t64] b⟩) := by
  unfold mapS at h
  split at h
  · cases h; exact .inl ⟨by assumption, rfl⟩
  · split at h
    · cases h; exact .inr ⟨by assumption, rfl⟩
    · cases h
noncomputable def blkK (k a b : Nat) : Blk := .cells k ((fillT (saidK k a b) 0 .lf).put (some (.float .f64 0)) roI)
theorem stK_get {k a b n : Nat} {x : Blk} (h : (stK k a b).mem.get n = some x) : (n = 2 ∧ k ≠ 0 ∧ x = blkK k a b) ∨ (n = 0 ∧ x = .cells t64.vals.length (fillT t64.vals 0 .lf)) := by
  have key : ∀ {n : Nat} {x : Blk}, (memT [t64]).get n = some x → n = 0 ∧ x = .cells t64.vals.length (fillT t64.vals 0 .lf) := fun {n x} h => by
    obtain ⟨t, ht, h1, h2, _⟩ := memT_get _ _ _ h
    obtain rfl := List.mem_singleton.1 ht
    exact ⟨h1.symm, h2⟩
  cases k with
  | zero => exact .inr (key h)
  | succ k =>
    have h' : ((memT [t64]).put (some (blkK (k + 1) a b)) 2).get n = some x := h
    rw [get_memput] at h'
    split at h'
    · cases h'
      exact .inl ⟨by assumption, by omega, rfl⟩
    · exact .inr (key h')
/-- the numbers that were said, as they lie in the memory -/
def SaidAt (w : World) (g off c : Nat) (l : List Int) : Prop :=
  g < w.heap.size ∧ (l ≠ [] → g ≠ 0 ∧ ∃ arr e lo hi, w.heap[g]? = some (.cells arr e (lo, hi)) ∧ off + c ≤ arr.size ∧ l.length ≤ c ∧ ∀ i, i < l.length → arr[off + i]? = some (.int .i64 (l.getD i 0)))
def Code0 (k a b : Nat) (l : List Int) : Prop := (k ≠ 0 → (a = 0 → l.getD 0 0 = 0) ∧ (a = 1 → l.getD 0 0 = 1)) ∧ (2 ≤ k → (b = 0 → l.getD 1 0 = 0) ∧ (b = 1 → l.getD 1 0 = 1))
section
variable [OTab] [OVal]
theorem cell_conc {l : List Int} (hval : ∀ i, i < 10 → OVal.val i = .int .i64 (l.getD i 0)) (m : Map) (a i : Nat) (hi : i < 10) (h0 : a = 0 → l.getD i 0 = 0) (h1 : a = 1 → l.getD i 0 = 1) : conc m (cellK a i) = some (.int .i64 (l.getD i 0)) := by
  match a with
  | 0 => rw [h0 rfl]; simp [cellK, conc]
  | 1 => rw [h1 rfl]; simp [cellK, conc]
  | a + 2 =>
    show conc m (.float .f64 i) = _
    rw [conc, hval i hi]
theorem said_cell {l : List Int} (hval : ∀ i, i < 10 → OVal.val i = .int .i64 (l.getD i 0)) (m : Map) {k a b : Nat} (hk : k ≤ 10) (hc : Code0 k a b l) : (saidK k a b).length = k ∧ ∀ i, i < k → ∃ v, (saidK k a b)[i]? = some v ∧ conc m v = some (.int .i64 (l.getD i 0)) := by
  match k with
  | 0 => exact ⟨rfl, fun i hi => by omega⟩
  | 1 =>
    refine ⟨rfl, fun i hi => ?_⟩
    obtain rfl : i = 0 := by omega
    exact ⟨cellK a 0, rfl, cell_conc hval m a 0 (by omega) (hc.1 (by omega)).1 (hc.1 (by omega)).2⟩
  | k + 2 =>
    refine ⟨by simp [saidK], fun i hi => ?_⟩
    match i with
    | 0 => exact ⟨cellK a 0, rfl, cell_conc hval m a 0 (by omega) (hc.1 (by omega)).1 (hc.1 (by omega)).2⟩
    | 1 => exact ⟨cellK b 1, rfl, cell_conc hval m b 1 (by omega) (hc.2 (by omega)).1 (hc.2 (by omega)).2⟩
    | i + 2 => exact ⟨.float .f64 (i + 2), by
      have : i < k := by omega
      simp [saidK, this], cell_conc hval m 2 (i + 2) (by omega) (by omega) (by omega)⟩
theorem concL_of {m : Map} : ∀ (vs : List Value) (cs : List Value), vs.length = cs.length → (∀ i, i < vs.length → ∃ v c, vs[i]? = some v ∧ cs[i]? = some c ∧ conc m v = some c) → concL m vs = some cs
  | [], [], _, _ => concL_nil m
  | v :: vs, c :: cs, hl, h => by
    obtain ⟨v', c', h1, h2, h3⟩ := h 0 (by simp)
    simp only [List.getElem?_cons_zero, Option.some.injEq] at h1 h2
    subst h1
    subst h2
    refine concL_cons' h3 (concL_of vs cs (by simpa using hl) fun i hi => ?_)
    obtain ⟨v', c', h1, h2, h3⟩ := h (i + 1) (by simp; omega)
    exact ⟨v', c', by simpa using h1, by simpa using h2, h3⟩
  | [], _ :: _, hl, _ => by simp at hl
  | _ :: _, [], hl, _ => by simp at hl
theorem said_conc {l : List Int} (hval : ∀ i, i < 10 → OVal.val i = .int .i64 (l.getD i 0)) (m : Map) {k a b : Nat} (hkl : k = l.length) (hk : k ≤ 10) (hc : Code0 k a b l) : concL m (saidK k a b) = some (l.map (Value.int .i64)) := by
  obtain ⟨h1, h2⟩ := said_cell hval m hk hc
  refine concL_of _ _ (by rw [h1, hkl]; simp) fun i hi => ?_
  obtain ⟨v, h3, h4⟩ := h2 i (by omega)
  have hil : i < l.length := by omega
  exact ⟨v, .int .i64 (l.getD i 0), h3, by simp [hil], h4⟩
theorem rel_said {l : List Int} (hval : ∀ i, i < 10 → OVal.val i = .int .i64 (l.getD i 0)) {k a b g off c : Nat} {w : World} (hw : 2 ≤ w.heap.size) (hT : t64.In w) (hS : SaidAt w g off c l) (hk : k = l.length) (hk10 : k ≤ 10) (hc : Code0 k a b l)
    (hK : (∀ B, OVal.kept B → B < w.heap.size ∧ w.heap[B]? = OVal.heap0[B]?) ∧ ¬ OVal.kept 0) : Rel Tryz.prog (mapS g off c) (stK k a b) w where
  kept := ⟨hK.1, fun b' x k' hb hk' hro => by
    rcases stK_get hk' with ⟨rfl, hk0, rfl⟩ | ⟨rfl, rfl⟩
    · have hro' : ((T.put (some (Value.float .f64 0)) roI (fillT (saidK k a b) 0 .lf)).get roI).isSome = false := hro
      rw [get_put, if_pos rfl] at hro'
      cases hro'
    · rcases mapS_some hb with ⟨h, _⟩ | ⟨_, rfl⟩
      · omega
      · exact hK.2⟩
  glob := fun q hq => ⟨limT [t64] q, by
    have hq2 : q < 2 := by rw [← globs]; exact hq
    unfold mapS
    rw [if_neg (by omega), if_pos hq2]⟩
  inb := fun n x hn => by
    rcases mapS_some hn with ⟨_, rfl⟩ | ⟨h, rfl⟩
    · exact hS.1
    · exact Nat.lt_of_lt_of_le h hw
  blks := fun n x kb hn hkb => by
    rcases stK_get hkb with ⟨rfl, hk0, rfl⟩ | ⟨rfl, rfl⟩
    · rcases mapS_some hn with ⟨_, rfl⟩ | ⟨h, _⟩
      · obtain ⟨_, arr, e, lo, hi, h1, h2, h3, h4⟩ := hS.2 (by intro h; rw [h] at hk; exact hk0 hk)
        obtain ⟨hl, hcell⟩ := said_cell hval (mapS g off c) hk10 hc
        refine ⟨arr, e, lo, hi, h1, h2, by rw [hk]; exact h3, fun hro => ?_, fun i hi' => ?_, fun ht => ⟨fun kk t e' => ?_, fun kk t e' => ?_⟩⟩
        · rw [get_put, if_pos rfl] at hro
          cases hro
        · obtain ⟨v, hv1, hv2⟩ := hcell i hi'
          refine ⟨v, _, ?_, hv2, h4 i (by omega)⟩
          rw [get_put, if_neg (by unfold roI; omega), fillT_get, if_pos (by omega)]
          exact hv1
        · rw [get_put, if_neg (by decide), fillT_get, if_neg (by rw [hl]; unfold tagI; omega), get_lf] at e'
          cases e'
        · rw [get_put, if_neg (by decide), fillT_get, if_neg (by rw [hl]; unfold tagI; omega), get_lf] at e'
          cases e'
      · omega
    · rcases mapS_some hn with ⟨h, _⟩ | ⟨_, rfl⟩
      · omega
      · exact tab_blk hT
  dist := fun n n' x y kb kc hne hn hn' hkb hkc => by
    rcases stK_get hkb with ⟨rfl, hk0, rfl⟩ | ⟨rfl, rfl⟩ <;> rcases stK_get hkc with ⟨rfl, hk0', rfl⟩ | ⟨rfl, rfl⟩
    · exact absurd rfl hne
    · rcases mapS_some hn with ⟨_, rfl⟩ | ⟨h, _⟩
      · rcases mapS_some hn' with ⟨h, _⟩ | ⟨_, rfl⟩
        · omega
        · exact (hS.2 (by intro h; rw [h] at hk; exact hk0 hk)).1
      · omega
    · rcases mapS_some hn' with ⟨_, rfl⟩ | ⟨h, _⟩
      · rcases mapS_some hn with ⟨h, _⟩ | ⟨_, rfl⟩
        · omega
        · exact fun h => (hS.2 (by intro h; rw [h] at hk; exact hk0' hk)).1 h.symm
      · omega
    · exact absurd rfl hne
  wf := fun n hn => by
    cases hkb : (stK k a b).mem.get n with
    | none => rfl
    | some x =>
      have hn' : 3 ≤ n := hn
      rcases stK_get hkb with ⟨rfl, _⟩ | ⟨rfl, _⟩ <;> omega
theorem now_said {l : List Int} (hval : ∀ i, i < 10 → OVal.val i = .int .i64 (l.getD i 0)) {k a b g off c : Nat} {w : World} (hw : 2 ≤ w.heap.size) (hT : t64.In w) (hS : SaidAt w g off c l) (hk : k = l.length) (hk10 : k ≤ 10) (hc : Code0 k a b l)
    (hK : (∀ B, OVal.kept B → B < w.heap.size ∧ w.heap[B]? = OVal.heap0[B]?) ∧ ¬ OVal.kept 0) : Now Tryz.prog 3 w (mapS g off c) (stK k a b) w where
  rel := rel_said hval hw hT hS hk hk10 hc hK
  free := fun b hb => by
    have hb' : 3 ≤ b := hb
    unfold mapS
    rw [if_neg (by omega), if_neg (by omega)]
  ck := ⟨fun b' x k' _ hk' hb => by
    rcases stK_get hk' with ⟨rfl, _⟩ | ⟨rfl, _⟩ <;> omega, Nat.le_refl _, fun _ _ => rfl⟩
  nx := Nat.le_refl _
  bel := Below.refl _ _
end
end Go.Proofs.YtnfmgkkhejminaaGreatDoor

namespace Go.Proofs.YtnfmgkkhejminaaGreatDoor
open Go Go.RowKit Go.Ev Wi
theorem TabU8.below {w W : World} (h : TabU8 w) (h2 : 2 ≤ w.heap.size) (hb : Below w.heap.size w W) : TabU8 W := fun off v hc => h off v (by rw [← hb.cell (p := ⟨0, off, none⟩) (show 0 < w.heap.size by omega)]; exact hc)
theorem TabU8.noInt {w : World} (h : TabU8 w) : NoInt0 w := fun off z hc => by
  obtain ⟨y, hy⟩ := h _ _ hc
  cases hy
theorem tabIn_below {W W' : World} (h : t64.In W) (hb : Below W.heap.size W W') : t64.In W' := by
  obtain ⟨arr, e, lo, hi, h1, h2⟩ := h
  exact ⟨arr, e, lo, hi, (hb.block _ (Array.getElem?_eq_some_iff.1 h1).1).trans h1, h2⟩
/-! ## what the checks tell -/
theorem runS_eq (k c : Nat) (f : Nat) (args : List Value) (st : St) : runS k c f args st = @run (tabS k c) Tryz.prog f args st := by
  unfold runS
  rw [@runF_eq (tabS k c) Tryz.prog good47 good47_ok]
theorem runS_low {k c f : Nat} (V : @OVal (tabS k c)) {args : List Value} {st st' : St} {v : Value} (h : runS k c f args st = some (v, st')) : st'.low ≤ st.low := by
  rw [runS_eq] at h
  exact (@callFn_af (tabS k c) V Tryz.prog _ (@callN_af (tabS k c) V Tryz.prog 999) _ _ _ _ _ h).low
/-- an answer of an offer that is taken -/
def IsOffer (v : Value) : Prop := ∃ a b X n c, v = .tuple ⟨[.agg ⟨[.int .i64 a, .int .i64 b, .slice X n c]⟩, .int .i64 0]⟩
theorem third_some {k a b c d j : Nat} {st : St} (h : okThird k a b c d st j = true) : ∃ A n cp s4 v s5, runS k c 8 [.int .i64 7, .slice (some ⟨2, 0, none⟩) j 2] st = some (.slice A n cp, s4) ∧ runS k c 9 [.pointer (some ⟨d, 0, none⟩), .slice A n cp, .slice none 0 0, .int .i64 2, .int .i64 12] s4 = some (v, s5) ∧ IsOffer v ∧ 3 ≤ s5.low ∧ entryOk k c (saidK k a b) d true s5 = true := by
  unfold okThird at h
  split at h
  · rename_i A n cp s4 h1
    split at h
    · rename_i a' b' X n' c' z s5 h2
      simp only [Bool.and_eq_true] at h
      obtain ⟨⟨h3, h4⟩, h5⟩ := h
      obtain rfl := eqI_to h3
      exact ⟨A, n, cp, s4, _, s5, h1, h2, ⟨_, _, _, _, _, rfl⟩, Nat.le_of_ble_eq_true h4, h5⟩
    · cases h
  · cases h
theorem all_some {k a b c : Nat} {nl : Bool} (h : okS k a b c nl = true) : ∃ d x s0 A n cp s1 v2 s2 v3 s3, runS k c 7 [] (stK k a b) = some (.tuple ⟨[.pointer (some ⟨d, 0, none⟩), .pointer (some x), .bool true]⟩, s0) ∧ x.spot = none ∧ runS k c 8 [.int .i64 7, saidV k nl] s0 = some (.slice A n cp, s1) ∧
    runS k c 9 [.pointer (some ⟨d, 0, none⟩), .slice A n cp, .float .f64 77, .int .i64 1, .int .i64 5] s1 = some (v2, s2) ∧ IsOffer v2 ∧ entryOk k c (saidK k a b) d false s2 = true ∧
    runS k c 9 [.pointer (some ⟨d, 0, none⟩), .slice A n cp, .float .f64 77, .int .i64 1, .int .i64 9] s2 = some (v3, s3) ∧ IsOffer v3 ∧ 3 ≤ s3.low ∧ entryOk k c (saidK k a b) d true s3 = true ∧ ∀ j, j < k → okThird k a b c d s3 j = true := by
  unfold okS at h
  split at h
  · rename_i d xb xo s0 h1
    split at h
    · rename_i A n cp s1 h2
      split at h
      · rename_i a2 b2 X2 n2 c2 z2 s2 h3
        simp only [Bool.and_eq_true] at h
        obtain ⟨⟨h4, h5⟩, h6⟩ := h
        obtain rfl := eqI_to h4
        split at h6
        · rename_i a3 b3 X3 n3 c3 z3 s3 h7
          simp only [Bool.and_eq_true] at h6
          obtain ⟨⟨⟨h8, h9⟩, h10⟩, h11⟩ := h6
          obtain rfl := eqI_to h8
          exact ⟨d, _, s0, A, n, cp, s1, _, s2, _, s3, h1, rfl, h2, h3, ⟨_, _, _, _, _, rfl⟩, h5, h7, ⟨_, _, _, _, _, rfl⟩, Nat.le_of_ble_eq_true h9, h10, fun j hj => List.all_eq_true.1 h11 j (List.mem_range.2 hj)⟩
        · cases h6
      · cases h
    · cases h
  · cases h
theorem iv_some {k c I : Nat} {st : St} (h : ivOk k c I st = true) : (∃ u s q st', runS k c 91 [.pointer (some ⟨I, 0, none⟩)] ⟨st.mem, st.nxt, st.nxt⟩ = some (.tuple ⟨[.int .i64 u, .string s, .bool q]⟩, st') ∧ st.nxt ≤ st'.low) ∧
    ∃ u v st', runS k c 92 [.pointer (some ⟨I, 0, none⟩)] ⟨st.mem, st.nxt, st.nxt⟩ = some (.tuple ⟨[.int .i64 u, .int .i64 v]⟩, st') ∧ st.nxt ≤ st'.low := by
  unfold ivOk at h
  rw [Bool.and_eq_true] at h
  obtain ⟨h1, h2⟩ := h
  refine ⟨?_, ?_⟩
  · split at h1
    · rename_i u s q st' hr
      exact ⟨u, s, q, st', hr, Nat.le_of_ble_eq_true h1⟩
    · cases h1
  · split at h2
    · rename_i u v st' hr
      exact ⟨u, v, st', hr, Nat.le_of_ble_eq_true h2⟩
    · cases h2
/-! ## the steps -/
/-- where the chain stands: the call taker is D -/
def Stand (k c : Nat) (V : @OVal (tabS k c)) (w : World) (mS : Map) (d : Nat) (st : St) (P : Map → Prop) (D : Addr) (W : World) : Prop :=
  ∃ m x, @Now (tabS k c) V Tryz.prog 3 w m st W ∧ Sub mS m ∧ m d = some x ∧ D = ⟨x.blk, x.sh, none⟩ ∧ P m
theorem Stand.below {k c : Nat} {V : @OVal (tabS k c)} {w : World} {mS : Map} {d : Nat} {st : St} {P : Map → Prop} {D : Addr} {W W' : World} (h : Stand k c V w mS d st P D W) (hb : Below W.heap.size W W') : Stand k c V w mS d st P D W' := by
  letI : OTab := tabS k c
  letI : OVal := V
  obtain ⟨m, x, h1, h2⟩ := h
  exact ⟨m, x, h1.below hb, h2⟩
theorem offer_step {k c : Nat} {V : @OVal (tabS k c)} (hC : @CallsOk (tabS k c) V Tryz.prog) {w : World} {mS : Map} {d : Nat} {st st' : St} {P : Map → Prop} {D : Addr} {W : World} {va vs cva cvs v : Value} {p q : Int} (hr : runS k c 9 [.pointer (some ⟨d, 0, none⟩), va, vs, .int .i64 p, .int .i64 q] st = some (v, st')) (hv : IsOffer v) (hlow : 3 ≤ st'.low)
    (h : Stand k c V w mS d st P D W) (ha : ∀ m, Sub mS m → P m → @conc (tabS k c) V m va = some cva) (hs : ∀ m, @conc (tabS k c) V m vs = some cvs) (hP : ∀ m m', Sub m m' → P m → P m') : Calls Tryz.prog 9 #[.pointer (some D), cva, cvs, .int .i64 p, .int .i64 q] W (OffRet (Stand k c V w mS d st' P D)) := by
  letI : OTab := tabS k c
  letI : OVal := V
  obtain ⟨m, x, h1, h2, h3, rfl, h4⟩ := h
  rw [runS_eq] at hr
  refine (chain mix hC hr h1 (concL_cons' (conc_pointer' h3) (concL_cons' (ha m h2 h4) (concL_cons' (hs m) (concL_cons' (conc_int _ _ _) (concL_cons' (conc_int _ _ _) (concL_nil _)))))) hlow).mono ?_
  rintro e W' ⟨m', cv, rfl, hcv, hn, hsub⟩
  obtain ⟨a, b, X, n, cc, rfl⟩ := hv
  obtain ⟨l1, e1, rfl⟩ := conc_tuple hcv
  obtain ⟨u0, r0, k0, e2, rfl⟩ := concL_cons e1
  obtain ⟨u1, r1, k1, e3, rfl⟩ := concL_cons e2
  have hr1 : r1 = [] := by simpa using e3.symm
  subst hr1
  rw [conc_int] at k1
  cases k1
  obtain ⟨l2, e4, rfl⟩ := conc_agg k0
  obtain ⟨y0, s0, q0, e5, rfl⟩ := concL_cons e4
  obtain ⟨y1, s1, q1, e6, rfl⟩ := concL_cons e5
  obtain ⟨y2, s2, q2, e7, rfl⟩ := concL_cons e6
  have hs2 : s2 = [] := by simpa using e7.symm
  subst hs2
  rw [conc_int] at q0 q1
  cases q0
  cases q1
  obtain ⟨X', n', c', rfl⟩ := conc_slice_shape q2
  exact ⟨⟨a, b, X', n', c', rfl⟩, m', x, hn, h2.trans hsub, hsub _ _ h3, rfl, hP _ _ hsub h4⟩
theorem line_step {k c : Nat} {V : @OVal (tabS k c)} (hC : @CallsOk (tabS k c) V Tryz.prog) {w : World} {mS : Map} {d : Nat} {st st' : St} {P : Map → Prop} {D : Addr} {W : World} {vs cvs : Value} {A : Option Addr} {n cp : Nat} (hr : runS k c 8 [.int .i64 7, vs] st = some (.slice A n cp, st')) (hlow : 3 ≤ st'.low)
    (h : Stand k c V w mS d st P D W) (hs : ∀ m, Sub mS m → @conc (tabS k c) V m vs = some cvs) : Calls Tryz.prog 8 #[.int .i64 7, cvs] W fun e W' => ∃ v, e = .returned v ∧ Stand k c V w mS d st' (fun m => @conc (tabS k c) V m (.slice A n cp) = some v) D W' := by
  letI : OTab := tabS k c
  letI : OVal := V
  obtain ⟨m, x, h1, h2, h3, rfl, h4⟩ := h
  rw [runS_eq] at hr
  refine (chain mix hC hr h1 (concL_cons' (conc_int _ _ _) (concL_cons' (hs m h2) (concL_nil _))) hlow).mono ?_
  rintro e W' ⟨m', cv, rfl, hcv, hn, hsub⟩
  exact ⟨cv, rfl, m', x, hn, h2.trans hsub, hsub _ _ h3, rfl, hcv⟩
theorem start_step {k c : Nat} {V : @OVal (tabS k c)} (hC : @CallsOk (tabS k c) V Tryz.prog) {w : World} {mS : Map} {d : Nat} {x : Addr} {st st' : St} {W : World} (hr : runS k c 7 [] st = some (.tuple ⟨[.pointer (some ⟨d, 0, none⟩), .pointer (some x), .bool true]⟩, st')) (hlow : 3 ≤ st'.low)
    (h : @Now (tabS k c) V Tryz.prog 3 w mS st W) : Calls Tryz.prog 7 #[] W fun e W' => ∃ D y, e = .returned (.tuple #[.pointer (some D), .pointer y, .bool true]) ∧ Stand k c V w mS d st' (fun _ => True) D W' := by
  letI : OTab := tabS k c
  letI : OVal := V
  rw [runS_eq] at hr
  refine (chain mix hC hr h (concL_nil _) hlow).mono ?_
  rintro e W' ⟨m', cv, rfl, hcv, hn, hsub⟩
  obtain ⟨l1, e1, rfl⟩ := conc_tuple hcv
  obtain ⟨u0, r0, k0, e2, rfl⟩ := concL_cons e1
  obtain ⟨u1, r1, k1, e3, rfl⟩ := concL_cons e2
  obtain ⟨u2, r2, k2, e4, rfl⟩ := concL_cons e3
  have hr2 : r2 = [] := by simpa using e4.symm
  subst hr2
  obtain ⟨x0, hx0, _, rfl⟩ := conc_pointer k0
  obtain ⟨x1, hx1, _, rfl⟩ := conc_pointer k1
  have hu2 : u2 = .bool true := by simpa [conc] using k2.symm
  subst hu2
  exact ⟨_, _, rfl, m', x0, hn, hsub, hx0, rfl, trivial⟩
/-- what stands in the call taker -/
theorem stand_entry {k c : Nat} {V : @OVal (tabS k c)} {w : World} {mS : Map} {d : Nat} {st : St} {P : Map → Prop} {D : Addr} {W : World} {sv : List Value} {iv : Bool} {l : List Int} {x : Nat} (h : Stand k c V w mS d st P D W) (he : entryOk k c sv d iv st = true) (h78 : @OVal.val _ V 78 = .int .u64 x) (hsv : ∀ m, @concL (tabS k c) V m sv = some (l.map (Value.int .i64))) (hk : k = l.length)
    (hx0 : x ≠ 0) (hx : x < 512) (hs : small l) (hl : l.length ≤ 10) (h2 : 2 ≤ w.heap.size) (hT : t64.In w) (hU : TabU8 w) : Calls Tryz.prog 10 #[.pointer (some D)] W (SumIs (sumZ l x) W) := by
  letI : OTab := tabS k c
  letI : OVal := V
  obtain ⟨m, xd, h1, h2', h3, rfl, h4⟩ := h
  obtain ⟨I, xi, _, hE, _⟩ := entry_world he h1.rel h3 h78 (hsv m) hk
  exact sum_is hE hx0 hx hs hl (Nat.le_trans h2 h1.bel.size) (tabIn_below hT h1.bel) (hU.below h2 h1.bel)
theorem stand_call {k c : Nat} {V : @OVal (tabS k c)} (hC : @CallsOk (tabS k c) V Tryz.prog) {w : World} {mS : Map} {d : Nat} {st : St} {P : Map → Prop} {D : Addr} {W : World} {sv : List Value} {l : List Int} {x : Nat} (h : Stand k c V w mS d st P D W) (he : entryOk k c sv d true st = true) (h78 : @OVal.val _ V 78 = .int .u64 x) (hsv : ∀ m, @concL (tabS k c) V m sv = some (l.map (Value.int .i64))) (hk : k = l.length)
    (hx0 : x ≠ 0) (hx : x < 512) (h2 : 2 ≤ w.heap.size) (hT : t64.In w) (hU : TabU8 w) : Calls Tryz.prog 11 #[.pointer (some D), .int .i64 7] W (CallRet W) := by
  letI : OTab := tabS k c
  letI : OVal := V
  obtain ⟨m, xd, h1, h2', h3, rfl, h4⟩ := h
  obtain ⟨I, xi, hI, hE, hiv⟩ := entry_world he h1.rel h3 h78 (hsv m) hk
  obtain ⟨⟨u, s, q, st1, hr1, hl1⟩, u2, v2, st2, hr2, hl2⟩ := iv_some (hiv rfl)
  rw [runS_eq] at hr1 hr2
  have hRES : ∀ W', Below W.heap.size W W' → Calls Tryz.prog 91 #[.pointer (some ⟨xi.blk, xi.sh, none⟩)] W' (ResRet W') := fun W' hb => by
    refine (chain_low mix hC hr1 (h1.below hb) (concL_cons' (conc_pointer' hI) (concL_nil _)) hl1).mono ?_
    rintro e W2 ⟨m', cv, rfl, hcv, hb2⟩
    obtain ⟨l1, e1, rfl⟩ := conc_tuple hcv
    obtain ⟨y0, r0, k0, e2, rfl⟩ := concL_cons e1
    obtain ⟨y1, r1, k1, e3, rfl⟩ := concL_cons e2
    obtain ⟨y2, r2, k2, e4, rfl⟩ := concL_cons e3
    have hr2 : r2 = [] := by simpa using e4.symm
    subst hr2
    rw [conc_int] at k0
    cases k0
    have hy1 : y1 = .string s := by simpa [conc] using k1.symm
    have hy2 : y2 = .bool q := by simpa [conc] using k2.symm
    subst hy1 hy2
    exact ⟨⟨u, s, q, rfl⟩, hb2⟩
  have hRNG : ∀ W', Below W.heap.size W W' → Calls Tryz.prog 92 #[.pointer (some ⟨xi.blk, xi.sh, none⟩)] W' (RngRet W') := fun W' hb => by
    refine (chain_low mix hC hr2 (h1.below hb) (concL_cons' (conc_pointer' hI) (concL_nil _)) hl2).mono ?_
    rintro e W2 ⟨m', cv, rfl, hcv, hb2⟩
    obtain ⟨l1, e1, rfl⟩ := conc_tuple hcv
    obtain ⟨y0, r0, k0, e2, rfl⟩ := concL_cons e1
    obtain ⟨y1, r1, k1, e3, rfl⟩ := concL_cons e2
    have hr2 : r1 = [] := by simpa using e3.symm
    subst hr2
    rw [conc_int] at k0 k1
    cases k0
    cases k1
    exact ⟨⟨u2, v2, rfl⟩, hb2⟩
  have hTW := tabIn_below hT h1.bel
  have hUW := hU.below h2 h1.bel
  have h2W := Nat.le_trans h2 h1.bel.size
  obtain ⟨sb, so, M, X, xo, L, lo, G, go, rep, S, c1, c2, c3, c4, c5, c6, c7, _, _⟩ := hE
  have z : ∀ {B o : Nat} {cs : List Value} {v : Value}, CellsW W B o (v :: cs) → W.cell? ⟨B, o, none⟩ = some v := fun {B o cs v} h => h.2 0 v rfl
  have hLST : ∀ W', Below W.heap.size W W' → Calls Tryz.prog 93 #[.agg #[.pointer (some ⟨G, go, none⟩)]] W' (ListRet W') := fun W' hb => list_is hx0 hx (Nat.le_trans h2W hb.size) (tabIn_below hTW hb) (hUW.below h2W hb) (c7.below hb)
  refine call_walk xd.blk xd.sh M X xo L lo W (c1.2 6 _ rfl) c3 (z c4) (c6.2 3 _ rfl) (c6.2 4 _ rfl) fun W' hb => ?_
  have c4' := c4.below hb
  have c6' := c6.below hb
  exact summary_is X xo L lo G go xi.blk xi.sh W' (c4'.2 0 _ rfl) (c4'.2 1 _ rfl) (c4'.2 2 _ rfl) (c4'.2 3 _ rfl) (c4'.2 4 _ rfl) (c6'.2 0 _ rfl) (fun W2 hb2 => hRES W2 (hb.trans (hb2.mono hb.size))) (fun W2 hb2 => hRNG W2 (hb.trans (hb2.mono hb.size))) fun W2 hb2 => hLST W2 (hb.trans (hb2.mono hb.size))
end Go.Proofs.YtnfmgkkhejminaaGreatDoor

namespace Go.Proofs.YtnfmgkkhejminaaGreatDoor
open Go Go.RowKit Go.Ev Wi
def PickS (k : Nat) (v0 v1 : Int) : Prop := ∃ a b c, c ≤ 2 ∧ okS k a b c false = true ∧ ((k ≠ 0 → (a = 0 → v0 = 0) ∧ (a = 1 → v0 = 1)) ∧ (2 ≤ k → (b = 0 → v1 = 0) ∧ (b = 1 → v1 = 1))) ∧ (c = 1 → 2 ≤ v0) ∧ (c ≠ 0 → c ≠ 1 → 2 ≤ v1)
theorem pickS0 {v0 v1 : Int} (r : okS 0 0 0 0 false = true) : PickS 0 v0 v1 := ⟨0, 0, 0, by omega, r, by omega, by omega, by omega⟩
theorem pickS1 {v0 v1 : Int} (h0 : 0 ≤ v0) (r1 : okS 1 0 0 0 false = true) (r2 : okS 1 1 0 0 false = true) (r3 : okS 1 2 0 1 false = true) : PickS 1 v0 v1 := by
  by_cases e0 : v0 = 0
  · exact ⟨0, 0, 0, by omega, r1, by omega, by omega, by omega⟩
  · by_cases e1 : v0 = 1
    · exact ⟨1, 0, 0, by omega, r2, by omega, by omega, by omega⟩
    · exact ⟨2, 0, 1, by omega, r3, by omega, by omega, by omega⟩
theorem pickS2 {k : Nat} {v0 v1 : Int} (h0 : 0 ≤ v0) (h1 : 0 ≤ v1) (r1 : okS k 0 2 0 false = true) (r2 : okS k 1 0 0 false = true) (r3 : okS k 1 1 0 false = true) (r4 : okS k 1 2 2 false = true) (r5 : okS k 2 2 1 false = true) : PickS k v0 v1 := by
  by_cases e0 : v0 = 0
  · exact ⟨0, 2, 0, by omega, r1, by omega, by omega, by omega⟩
  · by_cases e1 : v0 = 1
    · by_cases f0 : v1 = 0
      · exact ⟨1, 0, 0, by omega, r2, by omega, by omega, by omega⟩
      · by_cases f1 : v1 = 1
        · exact ⟨1, 1, 0, by omega, r3, by omega, by omega, by omega⟩
        · exact ⟨1, 2, 2, by omega, r4, by omega, by omega, by omega⟩
    · exact ⟨2, 2, 1, by omega, r5, by omega, by omega, by omega⟩
theorem pickS {k : Nat} (hk : k ≤ 10) {v0 v1 : Int} (h0 : 0 ≤ v0) (h1 : 0 ≤ v1) : PickS k v0 v1 := by
  match k, hk with
  | 0, _ => exact pickS0 runZ0_00
  | 1, _ => exact pickS1 h0 runZ1_00 runZ1_10 runZ1_20
  | 2, _ => exact pickS2 h0 h1 runZ2_02 runZ2_10 runZ2_11 runZ2_12 runZ2_22
  | 3, _ => exact pickS2 h0 h1 runZ3_02 runZ3_10 runZ3_11 runZ3_12 runZ3_22
  | 4, _ => exact pickS2 h0 h1 runZ4_02 runZ4_10 runZ4_11 runZ4_12 runZ4_22
  | 5, _ => exact pickS2 h0 h1 runZ5_02 runZ5_10 runZ5_11 runZ5_12 runZ5_22
  | 6, _ => exact pickS2 h0 h1 runZ6_02 runZ6_10 runZ6_11 runZ6_12 runZ6_22
  | 7, _ => exact pickS2 h0 h1 runZ7_02 runZ7_10 runZ7_11 runZ7_12 runZ7_22
  | 8, _ => exact pickS2 h0 h1 runZ8_02 runZ8_10 runZ8_11 runZ8_12 runZ8_22
  | 9, _ => exact pickS2 h0 h1 runZ9_02 runZ9_10 runZ9_11 runZ9_12 runZ9_22
  | 10, _ => exact pickS2 h0 h1 runZ10_02 runZ10_10 runZ10_11 runZ10_12 runZ10_22
theorem OffRet.mono {A B : World → Prop} {e : Ending} {w : World} (h : OffRet A e w) (hab : ∀ W, A W → B W) : OffRet B e w := ⟨h.1, hab _ h.2⟩
/-- the law, where all that was said is within range -/
theorem law3_in {l : List Int} {k a b c : Nat} {nl : Bool} {g off cap : Nat} {A0 : Option Addr} {N C : Nat} {L : List (Int × List Int)} {kk : Int} {w : World} (hrun : okS k a b c nl = true) (hnl : nl = true → k = 0) (hc2 : c ≤ 2) (hk : k = l.length) (hl : l.length ≤ 10) (hsm : small l) (hc : Code0 k a b l) (h1 : c = 1 → 2 ≤ l.getD 0 0) (h2 : c ≠ 0 → c ≠ 1 → 2 ≤ l.getD 1 0)
    (hw : 2 ≤ w.heap.size) (hT : t64.In w) (hU : TabU8 w) (hS : SaidAt w g off cap l) (hSr : Srcs w A0 L) (hN : N = L.length) (hN1 : N ≤ 1000) (h4 : ∀ x ∈ L, (x.2.length : Int) ≤ 4096) (hsmq : ∀ W, Below w.heap.size w W → Calls Tryz.prog 6 #[.slice A0 N C] W (Says true W)) (hkk0 : 0 ≤ kk) (hkk1 : kk < 256) :
    Calls Tryz.prog 3 #[bsel nl (.slice (some ⟨g, off, none⟩) k cap) (.slice none 0 0), .slice A0 N C, .int .u8 kk] w (True1 w) := by
  obtain ⟨x0, x1⟩ := locS_bound L
  obtain ⟨d, y, s0, A, n, cp, s1, v2, s2, v3, s3, r0, _, r1, r2, i2, e2, r3, i3, lo3, e3, r4⟩ := all_some hrun
  let V : @OVal (tabS k c) := @OVal.mk (tabS k c) (valS l (.slice A0 N C) (locS L).1) (valS_shape l A0 N C _) (rulesS_hold (by omega) hc2 (rules_hold hsm c h1 h2 k)) (fun B => B < w.heap.size ∧ B ≠ 0) w.heap
  have h77 : @OVal.val _ V 77 = .slice A0 N C := rfl
  have h78 : @OVal.val _ V 78 = .int .u64 ((locS L).1 : Nat) := rfl
  have hval : ∀ i, i < 10 → @OVal.val _ V i = .int .i64 (l.getD i 0) := fun i hi => by
    show valS l (.slice A0 N C) (locS L).1 i = _
    unfold valS
    rw [if_neg (by omega), if_neg (by omega)]
    unfold valK
    rw [if_pos hi]
  have hC : @CallsOk (tabS k c) V Tryz.prog := by
    refine ⟨fun r hr => ?_, locV_ok k c V h77 h78 (fun B h => h) rfl hSr hU.noInt hN hN1 h4⟩
    rcases hr with h | ⟨h, _⟩ <;> cases h
  have lo2 := Nat.le_trans lo3 (runS_low V r3)
  have lo1 := Nat.le_trans lo2 (runS_low V r2)
  have lo0 := Nat.le_trans lo1 (runS_low V r1)
  have hnow : @Now (tabS k c) V Tryz.prog 3 w (mapS g off cap) (stK k a b) w := @now_said (tabS k c) V l hval k a b g off cap w hw hT hS hk (by omega) hc ⟨fun B hB => ⟨hB.1, rfl⟩, fun h => h.2 rfl⟩
  have hsv : ∀ m, @concL (tabS k c) V m (saidK k a b) = some (l.map (Value.int .i64)) := fun m => @said_conc (tabS k c) V l hval m k a b hk (by omega) hc
  have hs77 : ∀ m, @conc (tabS k c) V m (.float .f64 77) = some (.slice A0 N C) := fun m => rfl
  have hsn : ∀ m, @conc (tabS k c) V m (.slice none 0 0) = some (.slice none 0 0) := fun m => by
    letI : OTab := tabS k c
    letI : OVal := V
    simp [conc]
  have hsj : ∀ j m, Sub (mapS g off cap) m → @conc (tabS k c) V m (.slice (some ⟨2, 0, none⟩) j 2) = some (.slice (some ⟨g, off, none⟩) j cap) := fun j m hm => by
    letI : OTab := tabS k c
    letI : OVal := V
    rw [conc_slice' (hm 2 ⟨g, off, cap⟩ rfl)]
    simp [capC]
  have hsaid : ∀ m, Sub (mapS g off cap) m → @conc (tabS k c) V m (saidV k nl) = some (bsel nl (.slice (some ⟨g, off, none⟩) k cap) (.slice none 0 0)) := fun m hm => by
    cases nl with
    | false => exact hsj k m hm
    | true => exact hsn m
  have mono : ∀ (v : Value) (u : Value) (m m' : Map), Sub m m' → @conc (tabS k c) V m u = some v → @conc (tabS k c) V m' u = some v := fun v u m m' hm hu => by
    letI : OTab := tabS k c
    letI : OVal := V
    exact conc_mono hm u v hu
  have hwk : Calls Tryz.prog 5 #[] w fun e W => e = .returned (.bool true) ∧ Below w.heap.size w W := wakes_calls hw hT
  have hst : ∀ W, Below w.heap.size w W → Calls Tryz.prog 7 #[] W fun e W' => ∃ D x, e = .returned (.tuple #[.pointer (some D), .pointer x, .bool true]) ∧ Stand k c V w (mapS g off cap) d s0 (fun _ => True) D W' := fun W hb => start_step hC r0 lo0 (@Now.below Tryz.prog (tabS k c) V _ _ _ _ _ _ hnow hb)
  have hl1 : ∀ D W, Stand k c V w (mapS g off cap) d s0 (fun _ => True) D W → Calls Tryz.prog 8 #[.int .i64 7, bsel nl (.slice (some ⟨g, off, none⟩) k cap) (.slice none 0 0)] W fun e W' => ∃ v, e = .returned v ∧ Stand k c V w (mapS g off cap) d s1 (fun m => @conc (tabS k c) V m (.slice A n cp) = some v) D W' := fun D W h => line_step hC r1 lo1 h hsaid
  have ho1 : ∀ D v W, Stand k c V w (mapS g off cap) d s1 (fun m => @conc (tabS k c) V m (.slice A n cp) = some v) D W → Calls Tryz.prog 9 #[.pointer (some D), v, .slice A0 N C, .int .i64 1, .int .i64 5] W (OffRet (Stand k c V w (mapS g off cap) d s2 (fun m => @conc (tabS k c) V m (.slice A n cp) = some v) D)) := fun D v W h =>
    offer_step hC r2 i2 lo2 h (fun m _ hm => hm) hs77 (fun m m' hm hu => mono v _ m m' hm hu)
  have ho2 : ∀ D v W, Stand k c V w (mapS g off cap) d s2 (fun m => @conc (tabS k c) V m (.slice A n cp) = some v) D W → Calls Tryz.prog 9 #[.pointer (some D), v, .slice A0 N C, .int .i64 1, .int .i64 9] W (OffRet (Stand k c V w (mapS g off cap) d s3 (fun m => @conc (tabS k c) V m (.slice A n cp) = some v) D)) := fun D v W h =>
    offer_step hC r3 i3 lo3 h (fun m _ hm => hm) hs77 (fun m m' hm hu => mono v _ m m' hm hu)
  have hc3 : ∀ D v W, Stand k c V w (mapS g off cap) d s2 (fun m => @conc (tabS k c) V m (.slice A n cp) = some v) D W → Calls Tryz.prog 10 #[.pointer (some D)] W (SumIs (sumZ l (locS L).1) W) := fun D v W h => stand_entry h e2 h78 hsv hk x0 x1 hsm hl hw hT hU
  have hc4 : ∀ D v W, Stand k c V w (mapS g off cap) d s3 (fun m => @conc (tabS k c) V m (.slice A n cp) = some v) D W → Calls Tryz.prog 10 #[.pointer (some D)] W (SumIs (sumZ l (locS L).1) W) := fun D v W h => stand_entry h e3 h78 hsv hk x0 x1 hsm hl hw hT hU
  have ha4 : ∀ D v W, Stand k c V w (mapS g off cap) d s3 (fun m => @conc (tabS k c) V m (.slice A n cp) = some v) D W → Calls Tryz.prog 11 #[.pointer (some D), .int .i64 7] W (CallRet W) := fun D v W h => stand_call hC h e3 h78 hsv hk x0 x1 hw hT hU
  have bel : ∀ {st : St} {P : Map → Prop} {D : Addr} {W : World}, Stand k c V w (mapS g off cap) d st P D W → Below w.heap.size w W := fun {st P D W} h => by
    obtain ⟨m, x, h1, _⟩ := h
    letI : OTab := tabS k c
    letI : OVal := V
    exact h1.bel
  by_cases hk0 : k = 0
  · subst hk0
    have e : bsel nl (Value.slice (some ⟨g, off, none⟩) 0 cap) (.slice none 0 0) = .slice (bsel nl (some ⟨g, off, none⟩) none) 0 (bsel nl cap 0) := by cases nl <;> rfl
    rw [e] at hl1 ⊢
    exact law3_walk0 _ _ A0 N C kk (sumZ l (locS L).1) w (fun W => Below w.heap.size w W) _ _ _ _ (fun D v W W' h hb => h.below hb) (fun D v W W' h hb => h.below hb) (fun D v W h => bel h) hwk hsmq hst hl1 ho1 hc3 ho2 hc4 ha4
  · have hn : nl = false := by
      cases nl with
      | false => rfl
      | true => exact absurd (hnl rfl) hk0
    subst hn
    have hkc : k ≤ cap := by
      obtain ⟨_, arr, e, lo, hi, _, _, q, _⟩ := hS.2 (fun h => hk0 (by rw [hk, h]; rfl))
      omega
    refine law3_walk1 g off k cap A0 N C kk (sumZ l (locS L).1) w (by omega) (by omega) hkc hkk0 hkk1 (fun W => Below w.heap.size w W) _ _ _ _
      (fun D j v W => ∃ A4 n4 cp4 s4 v5 s5, Stand k c V w (mapS g off cap) d s4 (fun m => @conc (tabS k c) V m (.slice A4 n4 cp4) = some v) D W ∧ runS k c 9 [.pointer (some ⟨d, 0, none⟩), .slice A4 n4 cp4, .slice none 0 0, .int .i64 2, .int .i64 12] s4 = some (v5, s5) ∧ IsOffer v5 ∧ 3 ≤ s5.low ∧ entryOk k c (saidK k a b) d true s5 = true)
      (fun D W => ∃ s5, entryOk k c (saidK k a b) d true s5 = true ∧ Stand k c V w (mapS g off cap) d s5 (fun _ => True) D W)
      (fun D W W' h hb => let ⟨s5, q1, q2⟩ := h; ⟨s5, q1, q2.below hb⟩) (fun D v W W' h hb => h.below hb) (fun D v W W' h hb => h.below hb) (fun D W h => let ⟨s5, q1, q2⟩ := h; bel q2) hwk hsmq hst hl1 ho1 hc3 ho2 hc4 ?_ ?_ ?_ ?_
    · intro D v0 W j hj h
      obtain ⟨A4, n4, cp4, s4, v5, s5, t1, t2, t3, t4, t5⟩ := third_some (r4 j hj)
      refine (line_step hC t1 (Nat.le_trans t4 (runS_low V t2)) h (hsj j)).mono ?_
      rintro e W' ⟨v, rfl, h'⟩
      exact ⟨v, rfl, A4, n4, cp4, s4, v5, s5, h', t2, t3, t4, t5⟩
    · rintro D W j v hj ⟨A4, n4, cp4, s4, v5, s5, h', t2, t3, t4, t5⟩
      refine (offer_step hC t2 t3 t4 h' (fun m _ hm => hm) hsn (fun m m' hm hu => mono v _ m m' hm hu)).mono ?_
      intro e W' h
      exact h.mono fun W2 ⟨m, x, q1, q2, q3, q4, _⟩ => ⟨s5, t5, m, x, q1, q2, q3, q4, trivial⟩
    · rintro D W ⟨s5, q1, q2⟩
      exact stand_entry q2 q1 h78 hsv hk x0 x1 hsm hl hw hT hU
    · rintro D W ⟨s5, q1, q2⟩
      exact stand_call hC q2 q1 h78 hsv hk x0 x1 hw hT hU
end Go.Proofs.YtnfmgkkhejminaaGreatDoor
