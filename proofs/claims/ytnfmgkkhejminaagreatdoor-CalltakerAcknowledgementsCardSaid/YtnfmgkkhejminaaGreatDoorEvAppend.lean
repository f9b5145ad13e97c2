/-
  A part of the proof that the evaluator answers what the model answers, for every program that follows mixed orders; no other condition.
-/
import Derived.Test.YtnfmgkkhejminaaGreatDoorEvSlice
namespace Go.Ev
set_option linter.unusedSectionVars false
variable [OTab] [OVal]
variable {P : Program} {m : Map} {ρ : Operand → Value} {o : Oper} {v : Value} {st : St} {w : World}

theorem lenV_run {x cx : Value} {n : Nat} (hx : conc m x = some cx) (h : lenV x = some n) (w : World) : (Builtin.lenOf cx).run P w = .ok n w := by
  unfold lenV at h
  split at h
  · rename_i a n' code
    cases h
    cases a with
    | none =>
      match n, code, hx with
      | 0, 0, hx => have : cx = .slice none 0 0 := by simpa [conc] using hx.symm
                    subst this; simp [Builtin.lenOf]
      | 0, _ + 1, hx => simp [conc] at hx
      | _ + 1, _, hx => simp [conc] at hx
    | some a => obtain ⟨_, _, rfl⟩ := conc_slice_some hx; simp [Builtin.lenOf]
  · rw [conc_string] at hx; cases hx; cases h; simp [Builtin.lenOf]
  · cases h

theorem firstL_run (h : Rel P m st w) {x cx : Value} {size n : Nat} {l : List Value} (hx : conc m x = some cx) (hl : firstL st size n x = some l) :
    ∃ l', concL m l = some l' ∧ (Builtin.firstCells size n cx).run P w = .ok ⟨l'⟩ w := by
  unfold firstL at hl
  split at hl
  · rename_i a k code
    split at hl
    · rename_i h0
      subst h0
      cases hl
      obtain ⟨a', c', rfl⟩ := conc_slice_some hx
      exact ⟨[], by simp, by simp [Builtin.firstCells, loadCells, loadCellsFrom]⟩
    · obtain ⟨y, hy, _, rfl⟩ := conc_slice (gd_some hl).1 hx
      obtain ⟨l', g1, _, _, g2⟩ := loadN_sound h hy hl
      exact ⟨l', g1, by simp [Builtin.firstCells, g2]⟩
  · rename_i k code
    cases hl
    match k, code, hx with
    | 0, 0, hx => have : cx = .slice none 0 0 := by simpa [conc] using hx.symm
                  subst this
                  exact ⟨[], by simp, by simp [Builtin.firstCells]⟩
    | 0, _ + 1, hx => simp [conc] at hx
    | _ + 1, _, hx => simp [conc] at hx
  · rename_i s
    split at hl
    · rw [conc_string] at hx
      cases hx
      cases hl
      refine ⟨_, concL_map (fun b : UInt8 => Value.int .u8 b.toNat) (fun b : UInt8 => Value.int .u8 b.toNat) _ (fun b _ => conc_int m _ _), ?_⟩
      simp [Builtin.firstCells]
      apply Array.ext'
      simp
    · cases hl
  · cases hl

theorem grow_bound (need c bytes : Nat) (hc : c < need) (h1 : 4 * need * bytes ≤ 1099511627776) : Builtin.nextslicecap need c * bytes ≤ 2 ^ 48 := by
  have hg : ∀ r c, c < need + (need + 768) / 4 + 1 → Builtin.growBy need r c ≤ need + (need + 768) / 4 := by
    intro r
    induction r with
    | zero => intro c hc; simp [Builtin.growBy]; omega
    | succ r ih =>
      intro c hc
      simp only [Builtin.growBy]
      split
      · omega
      · exact ih _ (by omega)
  have hle : Builtin.nextslicecap need c ≤ 2 * need + 192 := by
    unfold Builtin.nextslicecap
    split
    · omega
    · split
      · omega
      · have := hg 4 c (by omega); omega
  have hb : bytes ≤ 274877906944 := by
    have : 4 * 1 * bytes ≤ 4 * need * bytes := Nat.mul_le_mul_right _ (by omega)
    omega
  have h2 : Builtin.nextslicecap need c * bytes ≤ (2 * need + 192) * bytes := Nat.mul_le_mul_right _ hle
  have h3 : (2 * need + 192) * bytes = 2 * need * bytes + 192 * bytes := by rw [Nat.add_mul]
  have h4 : 2 * need * bytes + 2 * need * bytes = 4 * need * bytes := by rw [← Nat.add_mul]; congr 1; omega
  omega

theorem zeroCells_size (z : Array Value) (n : Nat) : (Builtin.zeroCells z n).size = n * z.size := by simp [Builtin.zeroCells]

/-- the model's append, where the slice must grow -/
theorem run_append_grow {sT xT e : TypeId} {s x : Value} {base : Option Addr} {len cap size n : Nat} {old new : List Value} {ie : TypeInfo} {z : Value} {ts : List TypeId} {args : List Value} {ty : TypeId}
    (hu : P.underlying sT = some (.slice e)) (hs : s = .slice base len cap) (hsz : sz P e = some size) (hie : P.info? e = some ie) (hz : ie.zero = some z) (hzs : z.cells.size = size) (hnx : notInts P xT = true)
    (hn : ∀ w, (Builtin.lenOf x).run P w = .ok n w) (hold : ∀ w' : World, w'.heap = w.heap → (Builtin.firstCells size len s).run P w' = .ok ⟨old⟩ w') (hnew : ∀ w' : World, w'.heap = w.heap → (Builtin.firstCells size n x).run P w' = .ok ⟨new⟩ w')
    (hgrow : ¬ len + n ≤ cap) (hf : fitsB (len + n) ie.bytes = true) :
    ∃ (newCap : Nat) (w' : World) (arr : List Value), len + n ≤ newCap ∧ (Builtin.append_ ⟨sT :: xT :: ts⟩ ty ⟨s :: x :: args⟩).run P w = .ok (.slice (some ⟨w.heap.size, 0, none⟩) (len + n) newCap) w' ∧
      w'.heap = w.heap.push (.cells ⟨old ++ new ++ arr⟩ e) ∧ arr.length = (newCap - (len + n)) * size ∧ w'.os = w.os ∧ w'.tape = w.tape ∧ w'.output = w.output := by
  unfold fitsB at hf
  rw [Bool.and_eq_true] at hf
  have f1 := Nat.le_of_ble_eq_true hf.1
  have f2 := Nat.le_of_ble_eq_true hf.2
  obtain ⟨dx, hdx, hndx⟩ : ∃ d, P.underlying xT = some d ∧ ∀ k, d ≠ .int k := by
    unfold notInts at hnx
    split at hnx
    · cases hnx
    · cases hnx
    · rename_i h1 h2
      cases hd : P.underlying xT with
      | none => exact absurd hd h2
      | some d => exact ⟨d, rfl, fun k e => h1 k (by rw [hd, e])⟩
  have hb := grow_bound (len + n) cap ie.bytes (by omega) f1
  let newCap := len + n + w.tape w.drawn (.appendCap (len + n) cap e) % (2 ^ 63 - (len + n))
  let w1 : World := { w with drawn := w.drawn + 1 }
  refine ⟨newCap, w1.alloc (.cells ⟨old ++ new ++ (Builtin.zeroCells z.cells (newCap - (len + n))).toList⟩ e), (Builtin.zeroCells z.cells (newCap - (len + n))).toList, Nat.le_add_right _ _, ?_, rfl, ?_, rfl, rfl, rfl⟩
  · have hmax : ¬ (((len + n : Nat) : Int) > IntKind.i64.max) := by
      have : IntKind.i64.max = 9223372036854775807 := by decide
      rw [this]; omega
    have hnb : ¬ (Builtin.nextslicecap (len + n) cap * ie.bytes > 2 ^ 48) := by omega
    have ho1 := hold w.drew rfl
    have hn1 := hnew w.drew rfl
    subst hs
    simp [Builtin.append_, run_underlying hu, run_underlying hdx, run_sz hsz, hn, hgrow, hnb, typeInfo, hie, choose, Sem.run, Question.forced, Question.cut, askRoom, zeroValue, hz, newRow]
    rw [if_neg (by omega), ho1]
    simp only [Result.andThen_ok]
    rw [hn1]
    simp only [Result.andThen_ok]
    have e2 : newCap - (len + n) = w.tape w.drawn (Question.appendCap (len + n) cap e) % (9223372036854775808 - (len + n)) := Nat.add_sub_cancel_left _ _
    rw [e2]
    have e3 : ∀ q : Array Value, (⟨old⟩ : Array Value) ++ ((⟨new⟩ : Array Value) ++ q) = ⟨old ++ (new ++ q.toList)⟩ := fun q => by apply Array.ext'; simp
    rw [e3]
    rfl
  · rw [Array.length_toList, zeroCells_size, hzs]

/-- where there is room -/
theorem run_append_room {sT xT e : TypeId} {x : Value} {base : Option Addr} {len cap size n : Nat} {new : List Value} {ts : List TypeId} {args : List Value} {ty : TypeId} {w' : World}
    (hu : P.underlying sT = some (.slice e)) (hsz : sz P e = some size) (hnx : notInts P xT = true) (hn : (Builtin.lenOf x).run P w = .ok n w) (hnew : (Builtin.firstCells size n x).run P w = .ok ⟨new⟩ w) (hroom : len + n ≤ cap)
    (hst : (match base with | some a => storeCells (a.add (len * size)) new | none => pure ()).run P w = .ok () w') :
    (Builtin.append_ ⟨sT :: xT :: ts⟩ ty ⟨.slice base len cap :: x :: args⟩).run P w = .ok (.slice base (len + n) cap) w' := by
  obtain ⟨dx, hdx, hndx⟩ : ∃ d, P.underlying xT = some d ∧ ∀ k, d ≠ .int k := by
    unfold notInts at hnx
    split at hnx
    · cases hnx
    · cases hnx
    · rename_i h1 h2
      cases hd : P.underlying xT with
      | none => exact absurd hd h2
      | some d => exact ⟨d, rfl, fun k e => h1 k (by rw [hd, e])⟩
  cases base with
  | none =>
    simp at hst
    subst hst
    simp [Builtin.append_, run_underlying hu, run_underlying hdx, run_sz hsz, hn, hroom, hnew]
  | some a =>
    simp only at hst
    simp [Builtin.append_, run_underlying hu, run_underlying hdx, run_sz hsz, hn, hroom, hnew, hst]

/-- .. that may bear the type of its elements -/
def ReadsT (c : T Value) (l : List Value) (e : TypeId) : Prop := (∀ i, i < l.length → c.get i = l[i]?) ∧ (l.length ≤ tagI → c.get tagI = none ∧ ∀ k t, c.get (tagI + 1) = some (.float k t) → e = t)
theorem Reads.toT {c : T Value} {l : List Value} (h : Reads c l) (e : TypeId) : ReadsT c l e := ⟨h.1, fun ht => ⟨(h.2 ht).1, fun k t e' => by rw [(h.2 ht).2] at e'; cases e'⟩⟩
theorem reads_tag {l : List Value} (e : TypeId) {n : Nat} (hn : n = l.length) {c : T Value} (h : Reads c l) : ReadsT (rowTag e n c) l e := by
  subst hn
  unfold rowTag
  cases hb : (OTab.tags.any (Nat.beq e) && Nat.ble l.length tagI) with
  | false => exact h.toT e
  | true =>
    rw [Bool.and_eq_true] at hb
    have hle := Nat.le_of_ble_eq_true hb.2
    rw [bsel_true]
    refine ⟨fun i hi => ?_, fun ht => ⟨?_, fun k t e' => ?_⟩⟩
    · rw [get_put, if_neg (by omega)]
      exact h.1 i hi
    · rw [get_put, if_neg (by omega)]
      exact (h.2 ht).1
    · rw [get_put, if_pos rfl] at e'
      cases e'
      rfl
/-- a new row of cells behind which lie some more -/
theorem row_rel {l l' rest : List Value} {c : T Value} {e : TypeId} {B lim : Nat} {w : World} (hr : ReadsT c l e) (hl : concL m l = some l') (hw : w.heap[B]? = some (.cells ⟨l' ++ rest⟩ e (0, 0))) (hlim : lim = l.length + rest.length) : BlkRel m (.cells l.length c) ⟨B, 0, lim⟩ w := by
  have hlen := concL_len hl
  refine ⟨⟨l' ++ rest⟩, e, 0, 0, hw, ?_, by show l.length ≤ lim; omega, fun i _ => by omega, fun i hi => ?_, fun ht => ⟨fun k t e' => by (rw [(hr.2 ht).1] at e'; cases e'), (hr.2 ht).2⟩⟩
  · show 0 + lim ≤ (l' ++ rest).length
    simp; omega
  · have hg := hr.1 i hi
    rw [List.getElem?_eq_getElem hi] at hg
    obtain ⟨cv, h1, h2⟩ := concL_get hl i l[i] (List.getElem?_eq_getElem hi)
    refine ⟨l[i], cv, hg, h1, ?_⟩
    have h3 : (l' ++ rest)[i]? = some cv := by rw [List.getElem?_append_left (by omega)]; exact h2
    simpa using h3

theorem mul_div_left {n size : Nat} (h : 0 < size) : n * size / size = n := Nat.mul_div_cancel _ h

theorem takeT_all {c : T Value} : ∀ (n i : Nat), (∀ j, j < n → ∃ v, c.get (i + j) = some v) → ∃ l, takeT c n i = some l
  | 0, i, _ => ⟨[], rfl⟩
  | n + 1, i, h => by
    obtain ⟨v, hv⟩ := h 0 (by omega)
    obtain ⟨l, hl⟩ := takeT_all n (i + 1) (fun j hj => by
      obtain ⟨u, hu⟩ := h (j + 1) (by omega)
      exact ⟨u, by rw [← hu]; congr 1; omega⟩)
    refine ⟨v :: l, ?_⟩
    show (ob (c.get i) fun v => ob (takeT c n (i + 1)) fun l => some (v :: l)) = _
    rw [show c.get i = some v from hv, hl]
    rfl

theorem Rel.heap {w' : World} (h : Rel P m st w) (hw' : w'.heap = w.heap) : Rel P m st w' :=
  ⟨h.glob, fun b x hb => by rw [hw']; exact h.inb b x hb, fun b x k hb hk => (h.blks b x k hb hk).heap (by rw [hw']), h.dist, h.wf⟩

theorem sound_append (h : Rel P m st w) {A : T Value} {c : Call} {st' : St} (hfree : Free m st.nxt st'.nxt) (ho : o.op = .call c) (hc : c.callee = .builtin .append) (ha : ∀ x ∈ c.args.toList, conc m (ev A x) = some (ρ x))
    (hs : appendV P st c.argTypes.toList (c.args.toList.map (ev A)) = some (v, st')) : GenDoes P m st w ρ o v st' := by
  obtain ⟨callee, args, argTypes⟩ := c
  obtain ⟨args⟩ := args
  obtain ⟨argTypes⟩ := argTypes
  simp only at hc ha hs
  subst hc
  unfold appendV at hs
  match argTypes, args, ha, hs, ho with
  | [], _, _, hs, _ => simp at hs
  | [_], _, _, hs, _ => simp at hs
  | _ :: _ :: _, [], _, hs, _ => simp at hs
  | _ :: _ :: _, [_], _, hs, _ => simp at hs
  | sT :: xT :: ts, a0 :: b0 :: rest, ha, hs, ho =>
    simp only [List.map_cons] at hs
    obtain ⟨e, he, s1⟩ := ob_some hs
    obtain ⟨size, hsz, s2⟩ := ob_some s1
    obtain ⟨bytes, hby, s3⟩ := ob_some s2
    obtain ⟨hg, s4⟩ := gd_some s3
    obtain ⟨n, hn, s5⟩ := ob_some s4
    obtain ⟨new, hnew, s6⟩ := ob_some s5
    obtain ⟨hcell, s7⟩ := gd_some s6
    clear hs s1 s2 s3 s4 s5 s6
    rw [Bool.and_eq_true, Bool.and_eq_true] at hg
    obtain ⟨⟨hnx, hs0⟩, hzf⟩ := hg
    have hsz0 : 0 < size := by
      rcases Nat.eq_zero_or_pos size with e | e
      · subst e; simp at hs0
      · exact e
    have hu := sliceElem_some he
    have hxa := ha a0 (by simp)
    have hxb := ha b0 (by simp)
    have hlenC := fun w => lenV_run (P := P) hxb hn w
    obtain ⟨new', hnc, hnr⟩ := firstL_run h hxb hnew
    have hnr' : ∀ w' : World, w'.heap = w.heap → (Builtin.firstCells size n (ρ b0)).run P w' = .ok ⟨new'⟩ w' := fun w' hw' => by
      obtain ⟨new2, q1, q2⟩ := firstL_run (h.heap hw') hxb hnew
      rw [hnc] at q1
      cases q1
      exact q2
    have hnewlen : new.length = n * size := by
      unfold firstL at hnew
      split at hnew
      · rename_i a k code ea
        rw [ea] at hn
        simp [lenV] at hn
        subst hn
        split at hnew
        · rename_i h0
          cases hnew
          simp [h0]
        · obtain ⟨_, h1⟩ := gd_some hnew
          obtain ⟨_, _, _, h2⟩ := cellsAt_some h1
          obtain ⟨_, h3⟩ := gd_some h2
          exact (takeT_some _ _ _ h3).1
      · rename_i k code ea
        rw [ea] at hn hxb
        simp [lenV] at hn
        subst hn
        cases hnew
        match k, code, hxb with
        | 0, 0, _ => simp
        | 0, _ + 1, hx => simp [conc] at hx
        | _ + 1, _, hx => simp [conc] at hx
      · rename_i s ea
        split at hnew
        · rename_i h1
          rw [ea] at hn
          simp [lenV] at hn
          cases hnew
          simp [h1]
          have : s.data.size = s.size := rfl
          omega
        · cases hnew
      · cases hnew
    obtain ⟨ie, z, hie, hz, hzs⟩ : ∃ ie z, P.info? e = some ie ∧ ie.zero = some z ∧ z.cells.size = size := by
      unfold zeroFits zeroOf at hzf
      cases hi : P.info? e with
      | none => rw [hi] at hzf; simp at hzf
      | some ie =>
        cases hz : ie.zero with
        | none => rw [hi] at hzf; simp [hz] at hzf
        | some z =>
          rw [hi] at hzf
          simp only [Option.bind_some, hz] at hzf
          have := Nat.eq_of_beq_eq_true hzf
          rw [cellsL_eq] at this
          exact ⟨ie, z, rfl, hz, by simpa using this⟩
    have hbe : ie.bytes = bytes := by simpa [bytesOf, hie] using hby
    have hfin : ∀ cv w', (Builtin.append_ ⟨sT :: xT :: ts⟩ o.type ⟨ρ a0 :: ρ b0 :: rest.map ρ⟩).run P w = .ok cv w' → (execOp ρ o).run P w = .ok (.value cv) w' := fun cv w' hr => by
      simp only [execOp, ho, resolve, invoke, builtin, Sem.run_bind, Sem.run_pure, Result.andThen_ok, List.map_toArray, List.map_cons]
      rw [hr]
      rfl
    split at s7
    · -- onto nil
      rename_i ea
      rw [ea] at hxa
      have ex : ρ a0 = .slice none 0 0 := by simpa [conc] using hxa.symm
      split at s7
      · rename_i h0
        subst h0
        cases s7
        refine ⟨m, w, .slice none 0 0, Step.refl h, by rw [ea]; simp [conc], .inl (hfin _ _ ?_)⟩
        rw [ex]
        exact run_append_room (base := none) hu hsz hnx (hlenC w) hnr (by omega) (by simp)
      · rename_i h0
        obtain ⟨hf, s8⟩ := gd_some s7
        cases s8
        obtain ⟨newCap, w', arr, q1, q2, q3, q4, q5, q6, q7⟩ := run_append_grow (w := w) (ts := ts) (args := rest.map ρ) (ty := o.type) (old := []) hu ex hsz hie hz hzs hnx hlenC (fun w' _ => by rw [ex]; simp [Builtin.firstCells]) hnr' (by omega) (by rw [hbe]; simpa using hf)
        simp only [Nat.zero_add, List.nil_append] at q1 q2 q3 q4
        refine gen_push (lim := newCap * size) (obj := .cells ⟨new' ++ arr⟩ e) (f := fun B => .slice (some ⟨B, 0, none⟩) n newCap) h (hfree _ (Nat.le_refl _) (Nat.lt_succ_self _)) (fun m' hsub hb => ⟨?_, fun w2 hw2 => ?_⟩) q3 q5 q6 q7 (hfin _ _ q2)
        · rw [conc_slice' hb]
          unfold capC
          rw [if_neg (by omega), show 2 * size / 2 = size from by omega]
          simp [mul_div_left hsz0]
        · rw [← hnewlen]
          refine row_rel (reads_tag e rfl (reads_fill new)) (concL_mono hsub _ _ hnc) hw2 ?_
          rw [hnewlen, q4, ← Nat.add_mul]
          congr 1
          omega
    · -- onto a slice
      rename_i a len code ea
      rw [ea] at hxa
      obtain ⟨hst, s8⟩ := gd_some s7
      obtain ⟨cap, hcap, s9⟩ := ob_some s8
      clear s7 s8
      obtain ⟨b, off, sp⟩ := a
      -- where it lies on the other side
      obtain ⟨y, off0, hy, ex, hoff0⟩ : ∃ y off0, m b = some y ∧ ρ a0 = .slice (some ⟨y.blk, y.sh + off0, none⟩) len (capC y off code) ∧ ((off0 = off ∧ sp = none) ∨ (len = 0 ∧ code % 2 = 0 ∧ (capC y off code ≠ 0 → off0 = off) ∧ sp ≠ none)) := by
        cases sp with
        | none =>
          obtain ⟨y, hy, _, ex⟩ := conc_slice rfl hxa
          exact ⟨y, off, hy, ex, .inl ⟨rfl, rfl⟩⟩
        | some back =>
          obtain ⟨h0, hc, y, hy, ex⟩ := conc_sliceEnd hxa
          subst h0
          refine ⟨y, _, hy, ex, .inr ⟨rfl, hc, fun hne => by rw [if_neg hne], by simp⟩⟩
      obtain ⟨hc1, hc2⟩ := capOf_some h (a := ⟨b, off, sp⟩) hy hcap
      simp only at hc1 hc2
      split at s9
      · -- there is room
        rename_i hroom
        split at s9
        · rename_i h0
          subst h0
          cases s9
          have hn0 : new' = [] := List.eq_nil_of_length_eq_zero (by rw [concL_len hnc, hnewlen]; simp)
          refine ⟨m, w, _, Step.refl h, by rw [ea]; exact hxa, .inl (hfin _ _ ?_)⟩
          rw [ex]
          have := run_append_room (P := P) (w := w) (w' := w) (ts := ts) (args := rest.map ρ) (ty := o.type) (base := some ⟨y.blk, y.sh + off0, none⟩) (len := len) (cap := capC y off code) hu hsz hnx (hlenC w) hnr (by omega) (by subst hn0; simp [storeCells])
          simpa using this
        · obtain ⟨hspn, s9'⟩ := gd_some s9
          obtain ⟨st1, hst1, s10⟩ := ob_some s9'
          cases s10
          have hsp : sp = none := by cases sp with | none => rfl | some _ => cases hspn
          subst hsp
          have hoff : off0 = off := by rcases hoff0 with hh | hh; exact hh.1; exact absurd rfl hh.2.2.2
          subst hoff
          rw [add_eq] at hst1
          obtain ⟨w', r1, r2⟩ := storeN_sound (P := P) h (a := ⟨b, off0 + len * size, none⟩) hy hnc hcell hst1
          refine ⟨m, w', _, r2, conc_slice' hy, .inl (hfin _ _ ?_)⟩
          rw [ex]
          refine run_append_room hu hsz hnx (hlenC w) hnr (by omega) ?_
          simp only [add_eq]
          rw [Nat.add_assoc]
          exact r1
      · -- there is not, as far as is known
        rename_i hroom
        obtain ⟨hf, s10⟩ := gd_some s9
        clear s9
        -- what is in it now
        obtain ⟨old, hold, s11⟩ : ∃ old, loadN st ⟨b, off, none⟩ (len * size) = some old ∧
            ((code % 2 = 1 ∧ sp = none ∧ v = .slice (some ⟨st.nxt, 0, none⟩) (len + n) (2 * size) ∧ st' = st.push (.cells ((len + n) * size) (rowTag e ((len + n) * size) (fillT (old ++ new) 0 .lf)))) ∨
             (code % 2 ≠ 1 ∧ ∃ k c0 ct, st.mem.get b = some (.cells k c0) ∧ (c0.get roI).isNone = true ∧ off + len * size = k ∧ v = .slice (some ⟨st.nxt, 0, none⟩) (len + n) (2 * size) ∧ st' = (st.kill b).push (.cells ((len + n) * size) ct) ∧ ReadsT ct (old ++ new) e ∧ ((len + n) * size ≤ tagI → ∀ kk t, ct.get (tagI + 1) = some (.float kk t) → k ≤ tagI ∧ c0.get (tagI + 1) = some (.float kk t)))) := by
          unfold appendGrow at s10
          split at s10
          · rename_i hodd
            obtain ⟨old, hold, s11⟩ := ob_some s10
            cases s11
            have hsp : sp = none := by
              have := (gd_some hold).1
              cases sp with | none => rfl | some _ => cases this
            subst hsp
            exact ⟨old, hold, .inl ⟨by simpa using hodd, rfl, rfl, rfl⟩⟩
          · rename_i hev
            have hev' : code % 2 ≠ 1 := by simpa using hev
            obtain ⟨k, c0, hk, s11⟩ := cellsAt_some s10
            obtain ⟨hbb, s12⟩ := gd_some s11
            simp only at hk hbb s12
            rw [Bool.and_eq_true] at hbb
            have hro := hbb.2
            have hend : off + len * size = k := Nat.eq_of_beq_eq_true hbb.1
            have hload : ∀ old, takeT c0 (len * size) off = some old → loadN st ⟨b, off, none⟩ (len * size) = some old := fun old ht => by
              show gd true (ob (st.mem.get b) (cellsB (loadNK off (len * size)))) = _
              rw [hk]
              show gd (Nat.ble (off + len * size) k) (takeT c0 (len * size) off) = _
              rw [show Nat.ble (off + len * size) k = true from Nat.ble_eq_true_of_le (by omega)]
              exact ht
            split at s12
            · rename_i h0
              subst h0
              obtain ⟨htag, s12⟩ := gd_some s12
              cases s12
              obtain ⟨arr0, te, flo, fhi, g1, g2, g3, g4, g5, g6⟩ := rel_cells h hy hk
              obtain ⟨old, ht⟩ := takeT_all (c := c0) (len * size) 0 (fun j hj => by
                obtain ⟨u, _, hu, _⟩ := g5 (0 + j) (by omega)
                exact ⟨u, hu⟩)
              refine ⟨old, hload old ht, .inr ⟨hev', k, c0, _, hk, hro, hend, rfl, rfl, ?_⟩⟩
              obtain ⟨holdlen, hget⟩ := takeT_some _ _ _ ht
              rw [Bool.and_eq_true] at htag
              have hsum : (len + n) * size = len * size + new.length := by rw [hnewlen, Nat.add_mul]
              refine ⟨⟨fun i hi => ?_, fun ht => ⟨?_, fun kk t e' => ?_⟩⟩, fun ht kk t e' => ?_⟩
              rotate_left
              · rw [List.length_append] at ht
                rw [fillT_get, if_neg (by omega)]
                exact Option.isNone_iff_eq_none.1 htag.1
              · rw [List.length_append] at ht
                rw [fillT_get, if_neg (by omega)] at e'
                have h2 := htag.2
                unfold rowTagOk at h2
                rw [e'] at h2
                exact (Nat.eq_of_beq_eq_true h2).symm
              · rw [fillT_get, if_neg (by omega)] at e'
                exact ⟨by rw [Nat.add_mul] at ht; omega, e'⟩
              rw [fillT_get]
              by_cases hi2 : len * size ≤ i ∧ i < len * size + new.length
              · rw [if_pos hi2, List.getElem?_append_right (by omega), holdlen]
              · rw [if_neg hi2]
                rw [List.length_append] at hi
                rw [List.getElem?_append_left (by omega)]
                have := hget i (by omega)
                simpa using this
            · obtain ⟨old, ht', s13⟩ := ob_some s12
              cases s13
              exact ⟨old, hload old ht', .inr ⟨hev', k, c0, _, hk, hro, hend, rfl, rfl, (reads_fill _).toT e, fun ht kk t e' => by
                have hl2 : (old ++ new).length = (len + n) * size := by rw [List.length_append, (takeT_some _ _ _ ht').1, hnewlen, Nat.add_mul]
                rw [((reads_fill (old ++ new)).2 (by omega)).2] at e'
                cases e'⟩⟩
        clear s10
        obtain ⟨old', hoc, holdlen, hocell, _⟩ := loadN_sound (P := P) h (a := ⟨b, off, none⟩) hy hold
        have hold0 : len = 0 → old' = [] := fun h0 => List.eq_nil_of_length_eq_zero (by rw [concL_len hoc, holdlen, h0]; simp)
        have holdr : ∀ w' : World, w'.heap = w.heap → (Builtin.firstCells size len (ρ a0)).run P w' = .ok ⟨old'⟩ w' := fun w' hw' => by
          rcases hoff0 with ⟨rfl, _⟩ | ⟨h0, _⟩
          · obtain ⟨o2, q1, _, _, q2⟩ := loadN_sound (P := P) (h.heap hw') (a := ⟨b, off0, none⟩) hy hold
            rw [hoc] at q1
            cases q1
            rw [ex]
            simp [Builtin.firstCells, q2]
          · rw [hold0 h0, ex, h0]
            simp [Builtin.firstCells, loadCells, loadCellsFrom]
        -- the value and the row of a slice that has grown
        have hgrown : ¬ len + n ≤ capC y off code → ∃ newCap w' arr, len + n ≤ newCap ∧ (execOp ρ o).run P w = .ok (.value (.slice (some ⟨w.heap.size, 0, none⟩) (len + n) newCap)) w' ∧
            w'.heap = w.heap.push (.cells ⟨(old' ++ new') ++ arr⟩ e) ∧ newCap * size = (old ++ new).length + arr.length ∧ w'.os = w.os ∧ w'.tape = w.tape ∧ w'.output = w.output := fun hgr => by
          obtain ⟨newCap, w', arr, q1, q2, q3, q4, q5, q6, q7⟩ := run_append_grow (w := w) (ts := ts) (args := rest.map ρ) (ty := o.type) hu ex hsz hie hz hzs hnx hlenC holdr hnr' hgr (by rw [hbe]; exact hf)
          refine ⟨newCap, w', arr, q1, hfin _ _ q2, q3, ?_, q5, q6, q7⟩
          rw [q4, List.length_append, holdlen, hnewlen, ← Nat.add_mul, ← Nat.add_mul]
          congr 1
          omega
        have hall := concL_append hoc hnc
        have hcapval : ∀ newCap, capC ⟨w.heap.size, 0, newCap * size⟩ 0 (2 * size) = newCap := fun newCap => by
          unfold capC
          rw [if_neg (by omega), show 2 * size / 2 = size from by omega]
          simp [mul_div_left hsz0]
        have hlenall : (old ++ new).length = (len + n) * size := by rw [List.length_append, holdlen, hnewlen, Nat.add_mul]
        rcases s11 with ⟨hodd', hsp, rfl, rfl⟩ | ⟨hev', k, c0, ct, hk, hro, hend, rfl, rfl, hreads, hkeep⟩
        · -- it surely grows
          obtain ⟨newCap, w', arr, q1, q2, q3, q4, q5, q6, q7⟩ := hgrown (by rw [← hc2 hodd']; exact hroom)
          refine gen_push (lim := newCap * size) (obj := .cells ⟨(old' ++ new') ++ arr⟩ e) (f := fun B => .slice (some ⟨B, 0, none⟩) (len + n) newCap) h (hfree _ (Nat.le_refl _) (Nat.lt_succ_self _)) (fun m' hsub hb => ⟨?_, fun w2 hw2 => ?_⟩) q3 q5 q6 q7 q2
          · rw [conc_slice' hb, hcapval]
          · rw [← hlenall]
            exact row_rel (reads_tag e rfl (reads_fill _)) (concL_mono hsub _ _ hall) hw2 q4
        · -- perhaps in place, perhaps anew
          have hnf : m st.nxt = none := hfree _ (Nat.le_refl _) (Nat.lt_succ_self _)
          rcases stride_some hst hsz with hodd | ⟨_, hcode⟩
          · exact absurd hodd hev'
          have hcap' : capC y off code = (y.lim - off) / size := by unfold capC; rw [if_neg hev', hcode]; congr 1; omega
          obtain ⟨arr0, te, flo, fhi, g1, g2, g3, g4r, g5, g6⟩ := rel_cells h hy hk
          have g4 := g4r hro
          by_cases hin : len + n ≤ capC y off code
          · -- in place
            have hoff : off0 = off := by
              rcases hoff0 with hh | ⟨h0, _, hh, _⟩
              · exact hh.1
              · exact hh (by omega)
            subst hoff
            have hlim : (len + n) * size ≤ y.lim - off0 := by
              rw [hcap'] at hin
              exact (Nat.le_div_iff_mul_le hsz0).1 hin
            have hnl := concL_len hnc
            rw [Nat.add_mul] at hlim
            obtain ⟨w', r1, r2⟩ := run_storeCells (P := P) (off := y.sh + off0 + len * size) new' 0 w arr0 g1 (by omega) g4 (isCell_concL hnc hcell)
            obtain ⟨arr', q1, q2, q3⟩ := r2.here
            simp only [Nat.add_zero] at q3
            have hstep := heir_step (y := ⟨y.blk, y.sh + off0, y.lim - off0⟩) (w' := w') (k := .cells ((len + n) * size) ct) h hnf hy hk r2.os r2.tape r2.output
              (.inr ⟨rfl, r2.size, r2.other⟩)
              (by
                have hsub := sub_upd (⟨y.blk, y.sh + off0, y.lim - off0⟩ : M) hnf
                refine ⟨arr', te, flo, fhi, q1, by show y.sh + off0 + (y.lim - off0) ≤ _; omega, by show _ ≤ y.lim - off0; rw [Nat.add_mul]; exact hlim, fun _ i hi => g4 i (by omega), fun i hi => ?_, fun ht => ⟨fun k t e' => by (rw [(hreads.2 (by rw [hlenall]; exact ht)).1] at e'; cases e'), fun k t e' => (g6 (hkeep ht k t e').1).2 k t (hkeep ht k t e').2⟩⟩
                have hi' : i < (old ++ new).length := by rw [hlenall]; exact hi
                have hg := hreads.1 i hi'
                rw [List.getElem?_eq_getElem hi'] at hg
                obtain ⟨cv, c1, c2⟩ := concL_get hall i _ (List.getElem?_eq_getElem hi')
                refine ⟨_, cv, hg, conc_mono hsub _ _ c1, ?_⟩
                show arr'[y.sh + off0 + i]? = some cv
                rw [q3]
                have hol := concL_len hoc
                by_cases hi2 : i < len * size
                · rw [if_neg (by omega)]
                  rw [List.getElem?_append_left (by omega)] at c2
                  have := hocell i cv c2
                  simp only [World.cell?, g1] at this
                  simpa using this
                · rw [if_pos (by rw [Nat.add_mul] at hi; omega)]
                  rw [List.getElem?_append_right (by omega)] at c2
                  rw [show y.sh + off0 + i - (y.sh + off0 + len * size) = i - old'.length from by omega]
                  exact c2)
            refine ⟨_, w', _, hstep, conc_slice' (upd_same _ _ _), .inl (hfin _ _ ?_)⟩
            rw [ex]
            have hcc : capC ⟨y.blk, y.sh + off0, y.lim - off0⟩ 0 (2 * size) = capC y off0 code := by
              rw [hcap']
              unfold capC
              rw [if_neg (by omega), show 2 * size / 2 = size from by omega]
              simp
            rw [hcc]
            refine run_append_room hu hsz hnx (hlenC w) hnr hin ?_
            simp only [add_eq]
            exact r1
          · -- anew
            obtain ⟨newCap, w', arr, q1, q2, q3, q4, q5, q6, q7⟩ := hgrown hin
            have hsame : ∀ B, B < w.heap.size → w'.heap[B]? = w.heap[B]? := fun B hB => by rw [q3, Array.getElem?_push, if_neg (by omega)]
            have hstep := heir_step (y := ⟨w.heap.size, 0, newCap * size⟩) (w' := w') (k := .cells ((len + n) * size) ct) h hnf hy hk q5 q6 q7
              (.inl ⟨rfl, by rw [q3]; simp, hsame⟩)
              (by
                have hsub := sub_upd (⟨w.heap.size, 0, newCap * size⟩ : M) hnf
                rw [← hlenall]
                exact row_rel (e := e) hreads (concL_mono hsub _ _ hall) (by rw [q3]; simp) q4)
            refine ⟨_, w', _, hstep, conc_slice' (upd_same _ _ _), .inl ?_⟩
            rw [hcapval]
            simpa using q2
    · cases s7
end Go.Ev
