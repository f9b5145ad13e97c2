/-
  A part of the proof that the evaluator answers what the model answers, for every program that follows mixed orders; no other condition.
-/
import Derived.Test.YtnfmgkkhejminaaGreatDoorStEvSlice
namespace Go.Ev
set_option linter.unusedSectionVars false
variable [OTab] [OVal]
variable {P : Program} {m : Map} {ρ : Operand → Value} {o : Oper} {v : Value} {st : St} {w : World}

theorem lenV_run {x cx : Value} {n : Nat} (hx : conc m x = some cx) (h : lenV x = some n) (w : World) : (Builtin.lenOf cx).run P w = .ok n w := by
  unfold lenV at h
  split at h
  · rename_i a n' code
    cases h
    cases a with
    | none =>
      match n, code, hx with
      | 0, 0, hx => have : cx = .slice none 0 0 := by simpa [conc] using hx.symm
                    subst this; simp [Builtin.lenOf]
      | 0, _ + 1, hx => simp [conc] at hx
      | _ + 1, _, hx => simp [conc] at hx
    | some a => obtain ⟨_, _, rfl⟩ := conc_slice_some hx; simp [Builtin.lenOf]
  · rw [conc_string] at hx; cases hx; cases h; simp [Builtin.lenOf]
  · cases h

theorem firstL_run (h : Rel P m st w) {x cx : Value} {size n : Nat} {l : List Value} (hx : conc m x = some cx) (hl : firstL st size n x = some l) :
    ∃ l', concL m l = some l' ∧ (Builtin.firstCells size n cx).run P w = .ok ⟨l'⟩ w := by
  unfold firstL at hl
  split at hl
  · rename_i a k code
    split at hl
    · rename_i h0
      subst h0
      cases hl
      obtain ⟨a', c', rfl⟩ := conc_slice_some hx
      exact ⟨[], by simp, by simp [Builtin.firstCells, loadCells, loadCellsFrom]⟩
    · obtain ⟨y, hy, _, rfl⟩ := conc_slice (gd_some hl).1 hx
      obtain ⟨l', g1, _, _, g2⟩ := loadN_sound h hy hl
      exact ⟨l', g1, by simp [Builtin.firstCells, g2]⟩
  · rename_i k code
    cases hl
    match k, code, hx with
    | 0, 0, hx => have : cx = .slice none 0 0 := by simpa [conc] using hx.symm
                  subst this
                  exact ⟨[], by simp, by simp [Builtin.firstCells]⟩
    | 0, _ + 1, hx => simp [conc] at hx
    | _ + 1, _, hx => simp [conc] at hx
  · rename_i s
    split at hl
    · rw [conc_string] at hx
      cases hx
      cases hl
      refine ⟨_, concL_map (fun b : UInt8 => Value.int .u8 b.toNat) (fun b : UInt8 => Value.int .u8 b.toNat) _ (fun b _ => conc_int m _ _), ?_⟩
      simp [Builtin.firstCells]
      apply Array.ext'
      simp
    · cases hl
  · cases hl

theorem grow_bound (need c bytes : Nat) (hc : c < need) (h1 : 4 * need * bytes ≤ 1099511627776) : Builtin.nextslicecap need c * bytes ≤ 2 ^ 48 := by
  have hg : ∀ r c, c < need + (need + 768) / 4 + 1 → Builtin.growBy need r c ≤ need + (need + 768) / 4 := by
    intro r
    induction r with
    | zero => intro c hc; simp [Builtin.growBy]; omega
    | succ r ih =>
      intro c hc
      simp only [Builtin.growBy]
      split
      · omega
      · exact ih _ (by omega)
  have hle : Builtin.nextslicecap need c ≤ 2 * need + 192 := by
    unfold Builtin.nextslicecap
    split
    · omega
    · split
      · omega
      · have := hg 4 c (by omega); omega
  have hb : bytes ≤ 274877906944 := by
    have : 4 * 1 * bytes ≤ 4 * need * bytes := Nat.mul_le_mul_right _ (by omega)
    omega
  have h2 : Builtin.nextslicecap need c * bytes ≤ (2 * need + 192) * bytes := Nat.mul_le_mul_right _ hle
  have h3 : (2 * need + 192) * bytes = 2 * need * bytes + 192 * bytes := by rw [Nat.add_mul]
  have h4 : 2 * need * bytes + 2 * need * bytes = 4 * need * bytes := by rw [← Nat.add_mul]; congr 1; omega
  omega

theorem zeroCells_size (z : Array Value) (n : Nat) : (Builtin.zeroCells z n).size = n * z.size := by simp [Builtin.zeroCells]

/-- the model's append, where the slice must grow -/
theorem run_append_grow {sT xT e : TypeId} {s x : Value} {base : Option Addr} {len cap size n : Nat} {old new : List Value} {ie : TypeInfo} {z : Value} {ts : List TypeId} {args : List Value} {ty : TypeId}
    (hu : P.underlying sT = some (.slice e)) (hs : s = .slice base len cap) (hsz : sz P e = some size) (hie : P.info? e = some ie) (hz : ie.zero = some z) (hzs : z.cells.size = size) (hnx : notInts P xT = true)
    (hn : ∀ w, (Builtin.lenOf x).run P w = .ok n w) (hold : ∀ w' : World, w'.heap = w.heap → (Builtin.firstCells size len s).run P w' = .ok ⟨old⟩ w') (hnew : ∀ w' : World, w'.heap = w.heap → (Builtin.firstCells size n x).run P w' = .ok ⟨new⟩ w')
    (hgrow : ¬ len + n ≤ cap) (hf : fitsB (len + n) ie.bytes = true) :
    ∃ (newCap : Nat) (w' : World) (arr : List Value), len + n ≤ newCap ∧ (Builtin.append_ ⟨sT :: xT :: ts⟩ ty ⟨s :: x :: args⟩).run P w = .ok (.slice (some ⟨w.heap.size, 0, none⟩) (len + n) newCap) w' ∧
      w'.heap = w.heap.push (.cells ⟨old ++ new ++ arr⟩ e) ∧ arr.length = (newCap - (len + n)) * size ∧ w'.os = w.os ∧ w'.tape = w.tape ∧ w'.output = w.output := by
  unfold fitsB at hf
  rw [Bool.and_eq_true] at hf
  have f1 := Nat.le_of_ble_eq_true hf.1
  have f2 := Nat.le_of_ble_eq_true hf.2
  obtain ⟨dx, hdx, hndx⟩ : ∃ d, P.underlying xT = some d ∧ ∀ k, d ≠ .int k := by
    unfold notInts at hnx
    split at hnx
    · cases hnx
    · cases hnx
    · rename_i h1 h2
      cases hd : P.underlying xT with
      | none => exact absurd hd h2
      | some d => exact ⟨d, rfl, fun k e => h1 k (by rw [hd, e])⟩
  have hb := grow_bound (len + n) cap ie.bytes (by omega) f1
  let newCap := len + n + w.tape w.drawn (.appendCap (len + n) cap e) % (2 ^ 63 - (len + n))
  let w1 : World := { w with drawn := w.drawn + 1 }
  refine ⟨newCap, w1.alloc (.cells ⟨old ++ new ++ (Builtin.zeroCells z.cells (newCap - (len + n))).toList⟩ e), (Builtin.zeroCells z.cells (newCap - (len + n))).toList, Nat.le_add_right _ _, ?_, rfl, ?_, rfl, rfl, rfl⟩
  · have hmax : ¬ (((len + n : Nat) : Int) > IntKind.i64.max) := by
      have : IntKind.i64.max = 9223372036854775807 := by decide
      rw [this]; omega
    have hnb : ¬ (Builtin.nextslicecap (len + n) cap * ie.bytes > 2 ^ 48) := by omega
    have ho1 := hold w.drew rfl
    have hn1 := hnew w.drew rfl
    subst hs
    simp [Builtin.append_, run_underlying hu, run_underlying hdx, run_sz hsz, hn, hgrow, hnb, typeInfo, hie, choose, Sem.run, Question.forced, Question.cut, askRoom, zeroValue, hz, newRow]
    rw [if_neg (by omega), ho1]
    simp only [Result.andThen_ok]
    rw [hn1]
    simp only [Result.andThen_ok]
    have e2 : newCap - (len + n) = w.tape w.drawn (Question.appendCap (len + n) cap e) % (9223372036854775808 - (len + n)) := Nat.add_sub_cancel_left _ _
    rw [e2]
    have e3 : ∀ q : Array Value, (⟨old⟩ : Array Value) ++ ((⟨new⟩ : Array Value) ++ q) = ⟨old ++ (new ++ q.toList)⟩ := fun q => by apply Array.ext'; simp
    rw [e3]
    rfl
  · rw [Array.length_toList, zeroCells_size, hzs]

/-- where there is room -/
theorem run_append_room {sT xT e : TypeId} {x : Value} {base : Option Addr} {len cap size n : Nat} {new : List Value} {ts : List TypeId} {args : List Value} {ty : TypeId} {w' : World}
    (hu : P.underlying sT = some (.slice e)) (hsz : sz P e = some size) (hnx : notInts P xT = true) (hn : (Builtin.lenOf x).run P w = .ok n w) (hnew : (Builtin.firstCells size n x).run P w = .ok ⟨new⟩ w) (hroom : len + n ≤ cap)
    (hst : (match base with | some a => storeCells (a.add (len * size)) new | none => pure ()).run P w = .ok () w') :
    (Builtin.append_ ⟨sT :: xT :: ts⟩ ty ⟨.slice base len cap :: x :: args⟩).run P w = .ok (.slice base (len + n) cap) w' := by
  obtain ⟨dx, hdx, hndx⟩ : ∃ d, P.underlying xT = some d ∧ ∀ k, d ≠ .int k := by
    unfold notInts at hnx
    split at hnx
    · cases hnx
    · cases hnx
    · rename_i h1 h2
      cases hd : P.underlying xT with
      | none => exact absurd hd h2
      | some d => exact ⟨d, rfl, fun k e => h1 k (by rw [hd, e])⟩
  cases base with
  | none =>
    simp at hst
    subst hst
    simp [Builtin.append_, run_underlying hu, run_underlying hdx, run_sz hsz, hn, hroom, hnew]
  | some a =>
    simp only at hst
    simp [Builtin.append_, run_underlying hu, run_underlying hdx, run_sz hsz, hn, hroom, hnew, hst]

/-- .. that may bear the type of its elements -/
def ReadsT (c : T Value) (l : List Value) (e : TypeId) : Prop := (∀ i, i < l.length → c.get i = l[i]?) ∧ (l.length ≤ tagI → c.get tagI = none ∧ ∀ k t, c.get (tagI + 1) = some (.float k t) → e = t)
theorem Reads.toT {c : T Value} {l : List Value} (h : Reads c l) (e : TypeId) : ReadsT c l e := ⟨h.1, fun ht => ⟨(h.2 ht).1, fun k t e' => by rw [(h.2 ht).2] at e'; cases e'⟩⟩
theorem reads_tag {l : List Value} (e : TypeId) {n : Nat} (hn : n = l.length) {c : T Value} (h : Reads c l) : ReadsT (rowTag e n c) l e := by
  subst hn
  unfold rowTag
  cases hb : (OTab.tags.any (Nat.beq e) && Nat.ble l.length tagI) with
  | false => exact h.toT e
  | true =>
    rw [Bool.and_eq_true] at hb
    have hle := Nat.le_of_ble_eq_true hb.2
    rw [bsel_true]
    refine ⟨fun i hi => ?_, fun ht => ⟨?_, fun k t e' => ?_⟩⟩
    · rw [get_put, if_neg (by omega)]
      exact h.1 i hi
    · rw [get_put, if_neg (by omega)]
      exact (h.2 ht).1
    · rw [get_put, if_pos rfl] at e'
      cases e'
      rfl
/-- a new row of cells behind which lie some more -/
theorem row_rel {l l' rest : List Value} {c : T Value} {e : TypeId} {B lim : Nat} {w : World} (hr : ReadsT c l e) (hl : concL m l = some l') (hw : w.heap[B]? = some (.cells ⟨l' ++ rest⟩ e (0, 0))) (hlim : lim = l.length + rest.length) : BlkRel m (.cells l.length c) ⟨B, 0, lim⟩ w := by
  have hlen := concL_len hl
  refine ⟨⟨l' ++ rest⟩, e, 0, 0, hw, ?_, by show l.length ≤ lim; omega, fun i _ => by omega, fun i hi => ?_, fun ht => ⟨fun k t e' => by (rw [(hr.2 ht).1] at e'; cases e'), (hr.2 ht).2⟩⟩
  · show 0 + lim ≤ (l' ++ rest).length
    simp; omega
  · have hg := hr.1 i hi
    rw [List.getElem?_eq_getElem hi] at hg
    obtain ⟨cv, h1, h2⟩ := concL_get hl i l[i] (List.getElem?_eq_getElem hi)
    refine ⟨l[i], cv, hg, h1, ?_⟩
    have h3 : (l' ++ rest)[i]? = some cv := by rw [List.getElem?_append_left (by omega)]; exact h2
    simpa using h3

theorem mul_div_left {n size : Nat} (h : 0 < size) : n * size / size = n := Nat.mul_div_cancel _ h

theorem takeT_all {c : T Value} : ∀ (n i : Nat), (∀ j, j < n → ∃ v, c.get (i + j) = some v) → ∃ l, takeT c n i = some l
  | 0, i, _ => ⟨[], rfl⟩
  | n + 1, i, h => by
    obtain ⟨v, hv⟩ := h 0 (by omega)
    obtain ⟨l, hl⟩ := takeT_all n (i + 1) (fun j hj => by
      obtain ⟨u, hu⟩ := h (j + 1) (by omega)
      exact ⟨u, by rw [← hu]; congr 1; omega⟩)
    refine ⟨v :: l, ?_⟩
    show (ob (c.get i) fun v => ob (takeT c n (i + 1)) fun l => some (v :: l)) = _
    rw [show c.get i = some v from hv, hl]
    rfl

theorem Rel.heap {w' : World} (h : Rel P m st w) (hw' : w'.heap = w.heap) : Rel P m st w' :=
  ⟨h.glob, fun b x hb => by rw [hw']; exact h.inb b x hb, fun b x k hb hk => (h.blks b x k hb hk).heap (by rw [hw']), h.dist, h.wf, ⟨fun B hB => by rw [hw']; exact h.kept.same B hB, h.kept.off⟩⟩

theorem sound_append (h : Rel P m st w) {A : T Value} {c : Call} {st' : St} (hfree : Free m st.nxt st'.nxt) (ho : o.op = .call c) (hc : c.callee = .builtin .append) (ha : ∀ x ∈ c.args.toList, conc m (ev A x) = some (ρ x))
    (hs : appendV P st c.argTypes.toList (c.args.toList.map (ev A)) = some (v, st')) : GenDoes P m st w ρ o v st' := by
  obtain ⟨callee, args, argTypes⟩ := c
  obtain ⟨args⟩ := args
  obtain ⟨argTypes⟩ := argTypes
  simp only at hc ha hs
  subst hc
  unfold appendV at hs
  match argTypes, args, ha, hs, ho with
  | [], _, _, hs, _ => simp at hs
  | [_], _, _, hs, _ => simp at hs
  | _ :: _ :: _, [], _, hs, _ => simp at hs
  | _ :: _ :: _, [_], _, hs, _ => simp at hs
  | sT :: xT :: ts, a0 :: b0 :: rest, ha, hs, ho =>
    simp only [List.map_cons] at hs
    obtain ⟨e, he, s1⟩ := ob_some hs
    obtain ⟨size, hsz, s2⟩ := ob_some s1
    obtain ⟨bytes, hby, s3⟩ := ob_some s2
    obtain ⟨hg, s4⟩ := gd_some s3
    obtain ⟨n, hn, s5⟩ := ob_some s4
    obtain ⟨new, hnew, s6⟩ := ob_some s5
    obtain ⟨hcell, s7⟩ := gd_some s6
    clear hs s1 s2 s3 s4 s5 s6
    rw [Bool.and_eq_true, Bool.and_eq_true] at hg
    obtain ⟨⟨hnx, hs0⟩, hzf⟩ := hg
    have hsz0 : 0 < size := by
      rcases Nat.eq_zero_or_pos size with e | e
      · subst e; simp at hs0
      · exact e
    have hu := sliceElem_some he
    have hxa := ha a0 (by simp)
    have hxb := ha b0 (by simp)
    have hlenC := fun w => lenV_run (P := P) hxb hn w
    obtain ⟨new', hnc, hnr⟩ := firstL_run h hxb hnew
    have hnr' : ∀ w' : World, w'.heap = w.heap → (Builtin.firstCells size n (ρ b0)).run P w' = .ok ⟨new'⟩ w' := fun w' hw' => by
      obtain ⟨new2, q1, q2⟩ := firstL_run (h.heap hw') hxb hnew
      rw [hnc] at q1
      cases q1
      exact q2
    have hnewlen : new.length = n * size := by
      unfold firstL at hnew
      split at hnew
      · rename_i a k code ea
        rw [ea] at hn
        simp [lenV] at hn
        subst hn
        split at hnew
        · rename_i h0
          cases hnew
          simp [h0]
        · obtain ⟨_, h1⟩ := gd_some hnew
          obtain ⟨_, _, _, h2⟩ := cellsAt_some h1
          obtain ⟨_, h3⟩ := gd_some h2
          exact (takeT_some _ _ _ h3).1
      · rename_i k code ea
        rw [ea] at hn hxb
        simp [lenV] at hn
        subst hn
        cases hnew
        match k, code, hxb with
        | 0, 0, _ => simp
        | 0, _ + 1, hx => simp [conc] at hx
        | _ + 1, _, hx => simp [conc] at hx
      · rename_i s ea
        split at hnew
        · rename_i h1
          rw [ea] at hn
          simp [lenV] at hn
          cases hnew
          simp [h1]
          have : s.data.size = s.size := rfl
          omega
        · cases hnew
      · cases hnew
    obtain ⟨ie, z, hie, hz, hzs⟩ : ∃ ie z, P.info? e = some ie ∧ ie.zero = some z ∧ z.cells.size = size := by
      unfold zeroFits zeroOf at hzf
      cases hi : P.info? e with
      | none => rw [hi] at hzf; simp at hzf
      | some ie =>
        cases hz : ie.zero with
        | none => rw [hi] at hzf; simp [hz] at hzf
        | some z =>
          rw [hi] at hzf
          simp only [Option.bind_some, hz] at hzf
          have := Nat.eq_of_beq_eq_true hzf
          rw [cellsL_eq] at this
          exact ⟨ie, z, rfl, hz, by simpa using this⟩
    have hbe : ie.bytes = bytes := by simpa [bytesOf, hie] using hby
    have hfin : ∀ cv w', (Builtin.append_ ⟨sT :: xT :: ts⟩ o.type ⟨ρ a0 :: ρ b0 :: rest.map ρ⟩).run P w = .ok cv w' → (execOp ρ o).run P w = .ok (.value cv) w' := fun cv w' hr => by
      simp only [execOp, ho, resolve, invoke, builtin, Sem.run_bind, Sem.run_pure, Result.andThen_ok, List.map_toArray, List.map_cons]
      rw [hr]
      rfl
    split at s7
    · -- onto nil
      rename_i ea
      rw [ea] at hxa
      have ex : ρ a0 = .slice none 0 0 := by simpa [conc] using hxa.symm
      split at s7
      · rename_i h0
        subst h0
        cases s7
        refine ⟨m, w, .slice none 0 0, Step.refl h, by rw [ea]; simp [conc], .inl (hfin _ _ ?_)⟩
        rw [ex]
        exact run_append_room (base := none) hu hsz hnx (hlenC w) hnr (by omega) (by simp)
      · rename_i h0
        obtain ⟨hf, s8⟩ := gd_some s7
        cases s8
        obtain ⟨newCap, w', arr, q1, q2, q3, q4, q5, q6, q7⟩ := run_append_grow (w := w) (ts := ts) (args := rest.map ρ) (ty := o.type) (old := []) hu ex hsz hie hz hzs hnx hlenC (fun w' _ => by rw [ex]; simp [Builtin.firstCells]) hnr' (by omega) (by rw [hbe]; simpa using hf)
        simp only [Nat.zero_add, List.nil_append] at q1 q2 q3 q4
        refine gen_push (lim := newCap * size) (obj := .cells ⟨new' ++ arr⟩ e) (f := fun B => .slice (some ⟨B, 0, none⟩) n newCap) h (hfree _ (Nat.le_refl _) (Nat.lt_succ_self _)) (fun m' hsub hb => ⟨?_, fun w2 hw2 => ?_⟩) q3 q5 q6 q7 (hfin _ _ q2)
        · rw [conc_slice' hb]
          unfold capC
          rw [if_neg (by omega), show 2 * size / 2 = size from by omega]
          simp [mul_div_left hsz0]
        · rw [← hnewlen]
          refine row_rel (reads_tag e rfl (reads_fill new)) (concL_mono hsub _ _ hnc) hw2 ?_
          rw [hnewlen, q4, ← Nat.add_mul]
          congr 1
          omega
    · -- onto a slice
      rename_i a len code ea
      rw [ea] at hxa
      obtain ⟨hst, s8⟩ := gd_some s7
      obtain ⟨cap, hcap, s9⟩ := ob_some s8
      clear s7 s8
      obtain ⟨b, off, sp⟩ := a
      -- where it lies on the other side
      obtain ⟨y, off0, hy, ex, hoff0⟩ : ∃ y off0, m b = some y ∧ ρ a0 = .slice (some ⟨y.blk, y.sh + off0, none⟩) len (capC y off code) ∧ ((off0 = off ∧ sp = none) ∨ (len = 0 ∧ code % 2 = 0 ∧ (capC y off code ≠ 0 → off0 = off) ∧ sp ≠ none)) := by
        cases sp with
        | none =>
          obtain ⟨y, hy, _, ex⟩ := conc_slice rfl hxa
          exact ⟨y, off, hy, ex, .inl ⟨rfl, rfl⟩⟩
        | some back =>
          obtain ⟨h0, hc, y, hy, ex⟩ := conc_sliceEnd hxa
          subst h0
          refine ⟨y, _, hy, ex, .inr ⟨rfl, hc, fun hne => by rw [if_neg hne], by simp⟩⟩
      obtain ⟨hc1, hc2⟩ := capOf_some h (a := ⟨b, off, sp⟩) hy hcap
      simp only at hc1 hc2
      split at s9
      · -- there is room
        rename_i hroom
        split at s9
        · rename_i h0
          subst h0
          cases s9
          have hn0 : new' = [] := List.eq_nil_of_length_eq_zero (by rw [concL_len hnc, hnewlen]; simp)
          refine ⟨m, w, _, Step.refl h, by rw [ea]; exact hxa, .inl (hfin _ _ ?_)⟩
          rw [ex]
          have := run_append_room (P := P) (w := w) (w' := w) (ts := ts) (args := rest.map ρ) (ty := o.type) (base := some ⟨y.blk, y.sh + off0, none⟩) (len := len) (cap := capC y off code) hu hsz hnx (hlenC w) hnr (by omega) (by subst hn0; simp [storeCells])
          simpa using this
        · obtain ⟨hspn, s9'⟩ := gd_some s9
          obtain ⟨st1, hst1, s10⟩ := ob_some s9'
          cases s10
          have hsp : sp = none := by cases sp with | none => rfl | some _ => cases hspn
          subst hsp
          have hoff : off0 = off := by rcases hoff0 with hh | hh; exact hh.1; exact absurd rfl hh.2.2.2
          subst hoff
          rw [add_eq] at hst1
          obtain ⟨w', r1, r2⟩ := storeN_sound (P := P) h (a := ⟨b, off0 + len * size, none⟩) hy hnc hcell hst1
          refine ⟨m, w', _, r2, conc_slice' hy, .inl (hfin _ _ ?_)⟩
          rw [ex]
          refine run_append_room hu hsz hnx (hlenC w) hnr (by omega) ?_
          simp only [add_eq]
          rw [Nat.add_assoc]
          exact r1
      · -- there is not, as far as is known
        rename_i hroom
        obtain ⟨hf, s10⟩ := gd_some s9
        clear s9
        -- what is in it now
        obtain ⟨old, hold, s11⟩ : ∃ old, loadN st ⟨b, off, none⟩ (len * size) = some old ∧
            ((code % 2 = 1 ∧ sp = none ∧ v = .slice (some ⟨st.nxt, 0, none⟩) (len + n) (2 * size) ∧ st' = st.push (.cells ((len + n) * size) (rowTag e ((len + n) * size) (fillT (old ++ new) 0 .lf)))) ∨
             (code % 2 ≠ 1 ∧ ∃ k c0 ct, st.mem.get b = some (.cells k c0) ∧ (c0.get roI).isNone = true ∧ off + len * size = k ∧ v = .slice (some ⟨st.nxt, 0, none⟩) (len + n) (2 * size) ∧ st' = (st.kill b).push (.cells ((len + n) * size) ct) ∧ ReadsT ct (old ++ new) e ∧ ((len + n) * size ≤ tagI → ∀ kk t, ct.get (tagI + 1) = some (.float kk t) → k ≤ tagI ∧ c0.get (tagI + 1) = some (.float kk t)))) := by
          unfold appendGrow at s10
          split at s10
          · rename_i hodd
            obtain ⟨old, hold, s11⟩ := ob_some s10
            cases s11
            have hsp : sp = none := by
              have := (gd_some hold).1
              cases sp with | none => rfl | some _ => cases this
            subst hsp
            exact ⟨old, hold, .inl ⟨by simpa using hodd, rfl, rfl, rfl⟩⟩
          · rename_i hev
            have hev' : code % 2 ≠ 1 := by simpa using hev
            obtain ⟨k, c0, hk, s11⟩ := cellsAt_some s10
            obtain ⟨hbb, s12⟩ := gd_some s11
            simp only at hk hbb s12
            rw [Bool.and_eq_true] at hbb
            have hro := hbb.2
            have hend : off + len * size = k := Nat.eq_of_beq_eq_true hbb.1
            have hload : ∀ old, takeT c0 (len * size) off = some old → loadN st ⟨b, off, none⟩ (len * size) = some old := fun old ht => by
              show gd true (ob (st.mem.get b) (cellsB (loadNK off (len * size)))) = _
              rw [hk]
              show gd (Nat.ble (off + len * size) k) (takeT c0 (len * size) off) = _
              rw [show Nat.ble (off + len * size) k = true from Nat.ble_eq_true_of_le (by omega)]
              exact ht
            split at s12
            · rename_i h0
              subst h0
              obtain ⟨htag, s12⟩ := gd_some s12
              cases s12
              obtain ⟨arr0, te, flo, fhi, g1, g2, g3, g4, g5, g6⟩ := rel_cells h hy hk
              obtain ⟨old, ht⟩ := takeT_all (c := c0) (len * size) 0 (fun j hj => by
                obtain ⟨u, _, hu, _⟩ := g5 (0 + j) (by omega)
                exact ⟨u, hu⟩)
              refine ⟨old, hload old ht, .inr ⟨hev', k, c0, _, hk, hro, hend, rfl, rfl, ?_⟩⟩
              obtain ⟨holdlen, hget⟩ := takeT_some _ _ _ ht
              rw [Bool.and_eq_true] at htag
              have hsum : (len + n) * size = len * size + new.length := by rw [hnewlen, Nat.add_mul]
              refine ⟨⟨fun i hi => ?_, fun ht => ⟨?_, fun kk t e' => ?_⟩⟩, fun ht kk t e' => ?_⟩
              rotate_left
              · rw [List.length_append] at ht
                rw [fillT_get, if_neg (by omega)]
                exact Option.isNone_iff_eq_none.1 htag.1
              · rw [List.length_append] at ht
                rw [fillT_get, if_neg (by omega)] at e'
                have h2 := htag.2
                unfold rowTagOk at h2
                rw [e'] at h2
                exact (Nat.eq_of_beq_eq_true h2).symm
              · rw [fillT_get, if_neg (by omega)] at e'
                exact ⟨by rw [Nat.add_mul] at ht; omega, e'⟩
              rw [fillT_get]
              by_cases hi2 : len * size ≤ i ∧ i < len * size + new.length
              · rw [if_pos hi2, List.getElem?_append_right (by omega), holdlen]
              · rw [if_neg hi2]
                rw [List.length_append] at hi
                rw [List.getElem?_append_left (by omega)]
                have := hget i (by omega)
                simpa using this
            · obtain ⟨old, ht', s13⟩ := ob_some s12
              cases s13
              exact ⟨old, hload old ht', .inr ⟨hev', k, c0, _, hk, hro, hend, rfl, rfl, (reads_fill _).toT e, fun ht kk t e' => by
                have hl2 : (old ++ new).length = (len + n) * size := by rw [List.length_append, (takeT_some _ _ _ ht').1, hnewlen, Nat.add_mul]
                rw [((reads_fill (old ++ new)).2 (by omega)).2] at e'
                cases e'⟩⟩
        clear s10
        obtain ⟨old', hoc, holdlen, hocell, _⟩ := loadN_sound (P := P) h (a := ⟨b, off, none⟩) hy hold
        have hold0 : len = 0 → old' = [] := fun h0 => List.eq_nil_of_length_eq_zero (by rw [concL_len hoc, holdlen, h0]; simp)
        have holdr : ∀ w' : World, w'.heap = w.heap → (Builtin.firstCells size len (ρ a0)).run P w' = .ok ⟨old'⟩ w' := fun w' hw' => by
          rcases hoff0 with ⟨rfl, _⟩ | ⟨h0, _⟩
          · obtain ⟨o2, q1, _, _, q2⟩ := loadN_sound (P := P) (h.heap hw') (a := ⟨b, off0, none⟩) hy hold
            rw [hoc] at q1
            cases q1
            rw [ex]
            simp [Builtin.firstCells, q2]
          · rw [hold0 h0, ex, h0]
            simp [Builtin.firstCells, loadCells, loadCellsFrom]
        -- the value and the row of a slice that has grown
        have hgrown : ¬ len + n ≤ capC y off code → ∃ newCap w' arr, len + n ≤ newCap ∧ (execOp ρ o).run P w = .ok (.value (.slice (some ⟨w.heap.size, 0, none⟩) (len + n) newCap)) w' ∧
            w'.heap = w.heap.push (.cells ⟨(old' ++ new') ++ arr⟩ e) ∧ newCap * size = (old ++ new).length + arr.length ∧ w'.os = w.os ∧ w'.tape = w.tape ∧ w'.output = w.output := fun hgr => by
          obtain ⟨newCap, w', arr, q1, q2, q3, q4, q5, q6, q7⟩ := run_append_grow (w := w) (ts := ts) (args := rest.map ρ) (ty := o.type) hu ex hsz hie hz hzs hnx hlenC holdr hnr' hgr (by rw [hbe]; exact hf)
          refine ⟨newCap, w', arr, q1, hfin _ _ q2, q3, ?_, q5, q6, q7⟩
          rw [q4, List.length_append, holdlen, hnewlen, ← Nat.add_mul, ← Nat.add_mul]
          congr 1
          omega
        have hall := concL_append hoc hnc
        have hcapval : ∀ newCap, capC ⟨w.heap.size, 0, newCap * size⟩ 0 (2 * size) = newCap := fun newCap => by
          unfold capC
          rw [if_neg (by omega), show 2 * size / 2 = size from by omega]
          simp [mul_div_left hsz0]
        have hlenall : (old ++ new).length = (len + n) * size := by rw [List.length_append, holdlen, hnewlen, Nat.add_mul]
        rcases s11 with ⟨hodd', hsp, rfl, rfl⟩ | ⟨hev', k, c0, ct, hk, hro, hend, rfl, rfl, hreads, hkeep⟩
        · -- it surely grows
          obtain ⟨newCap, w', arr, q1, q2, q3, q4, q5, q6, q7⟩ := hgrown (by rw [← hc2 hodd']; exact hroom)
          refine gen_push (lim := newCap * size) (obj := .cells ⟨(old' ++ new') ++ arr⟩ e) (f := fun B => .slice (some ⟨B, 0, none⟩) (len + n) newCap) h (hfree _ (Nat.le_refl _) (Nat.lt_succ_self _)) (fun m' hsub hb => ⟨?_, fun w2 hw2 => ?_⟩) q3 q5 q6 q7 q2
          · rw [conc_slice' hb, hcapval]
          · rw [← hlenall]
            exact row_rel (reads_tag e rfl (reads_fill _)) (concL_mono hsub _ _ hall) hw2 q4
        · -- perhaps in place, perhaps anew
          have hnf : m st.nxt = none := hfree _ (Nat.le_refl _) (Nat.lt_succ_self _)
          rcases stride_some hst hsz with hodd | ⟨_, hcode⟩
          · exact absurd hodd hev'
          have hcap' : capC y off code = (y.lim - off) / size := by unfold capC; rw [if_neg hev', hcode]; congr 1; omega
          obtain ⟨arr0, te, flo, fhi, g1, g2, g3, g4r, g5, g6⟩ := rel_cells h hy hk
          have g4 := g4r hro
          by_cases hin : len + n ≤ capC y off code
          · -- in place
            have hoff : off0 = off := by
              rcases hoff0 with hh | ⟨h0, _, hh, _⟩
              · exact hh.1
              · exact hh (by omega)
            subst hoff
            have hlim : (len + n) * size ≤ y.lim - off0 := by
              rw [hcap'] at hin
              exact (Nat.le_div_iff_mul_le hsz0).1 hin
            have hnl := concL_len hnc
            rw [Nat.add_mul] at hlim
            obtain ⟨w', r1, r2⟩ := run_storeCells (P := P) (off := y.sh + off0 + len * size) new' 0 w arr0 g1 (by omega) g4 (isCell_concL hnc hcell)
            obtain ⟨arr', q1, q2, q3⟩ := r2.here
            simp only [Nat.add_zero] at q3
            have hstep := heir_step (y := ⟨y.blk, y.sh + off0, y.lim - off0⟩) (w' := w') (k := .cells ((len + n) * size) ct) h hnf hy hk (by simpa [ro] using hro) r2.os r2.tape r2.output
              (.inr ⟨rfl, r2.size, r2.other⟩)
              (by
                have hsub := sub_upd (⟨y.blk, y.sh + off0, y.lim - off0⟩ : M) hnf
                refine ⟨arr', te, flo, fhi, q1, by show y.sh + off0 + (y.lim - off0) ≤ _; omega, by show _ ≤ y.lim - off0; rw [Nat.add_mul]; exact hlim, fun _ i hi => g4 i (by omega), fun i hi => ?_, fun ht => ⟨fun k t e' => by (rw [(hreads.2 (by rw [hlenall]; exact ht)).1] at e'; cases e'), fun k t e' => (g6 (hkeep ht k t e').1).2 k t (hkeep ht k t e').2⟩⟩
                have hi' : i < (old ++ new).length := by rw [hlenall]; exact hi
                have hg := hreads.1 i hi'
                rw [List.getElem?_eq_getElem hi'] at hg
                obtain ⟨cv, c1, c2⟩ := concL_get hall i _ (List.getElem?_eq_getElem hi')
                refine ⟨_, cv, hg, conc_mono hsub _ _ c1, ?_⟩
                show arr'[y.sh + off0 + i]? = some cv
                rw [q3]
                have hol := concL_len hoc
                by_cases hi2 : i < len * size
                · rw [if_neg (by omega)]
                  rw [List.getElem?_append_left (by omega)] at c2
                  have := hocell i cv c2
                  simp only [World.cell?, g1] at this
                  simpa using this
                · rw [if_pos (by rw [Nat.add_mul] at hi; omega)]
                  rw [List.getElem?_append_right (by omega)] at c2
                  rw [show y.sh + off0 + i - (y.sh + off0 + len * size) = i - old'.length from by omega]
                  exact c2)
            refine ⟨_, w', _, hstep, conc_slice' (upd_same _ _ _), .inl (hfin _ _ ?_)⟩
            rw [ex]
            have hcc : capC ⟨y.blk, y.sh + off0, y.lim - off0⟩ 0 (2 * size) = capC y off0 code := by
              rw [hcap']
              unfold capC
              rw [if_neg (by omega), show 2 * size / 2 = size from by omega]
              simp
            rw [hcc]
            refine run_append_room hu hsz hnx (hlenC w) hnr hin ?_
            simp only [add_eq]
            exact r1
          · -- anew
            obtain ⟨newCap, w', arr, q1, q2, q3, q4, q5, q6, q7⟩ := hgrown hin
            have hsame : ∀ B, B < w.heap.size → w'.heap[B]? = w.heap[B]? := fun B hB => by rw [q3, Array.getElem?_push, if_neg (by omega)]
            have hstep := heir_step (y := ⟨w.heap.size, 0, newCap * size⟩) (w' := w') (k := .cells ((len + n) * size) ct) h hnf hy hk (by simpa [ro] using hro) q5 q6 q7
              (.inl ⟨rfl, by rw [q3]; simp, hsame⟩)
              (by
                have hsub := sub_upd (⟨w.heap.size, 0, newCap * size⟩ : M) hnf
                rw [← hlenall]
                exact row_rel (e := e) hreads (concL_mono hsub _ _ hall) (by rw [q3]; simp) q4)
            refine ⟨_, w', _, hstep, conc_slice' (upd_same _ _ _), .inl ?_⟩
            rw [hcapval]
            simpa using q2
    · cases s7
end Go.Ev

namespace Go.Ev
set_option linter.unusedSectionVars false
variable [OTab] [OVal]
variable {P : Program} {m : Map} {ρ : Operand → Value} {o : Oper} {v : Value} {st : St} {w : World}

theorem sound_copy (h : Rel P m st w) {A : T Value} {c : Call} {st' : St} (ho : o.op = .call c) (hc : c.callee = .builtin .copy) (ha : ∀ x ∈ c.args.toList, conc m (ev A x) = some (ρ x))
    (hs : copyV P st c.argTypes.toList (c.args.toList.map (ev A)) = some (v, st')) : GenDoes P m st w ρ o v st' := by
  obtain ⟨callee, args, argTypes⟩ := c
  obtain ⟨args⟩ := args
  obtain ⟨argTypes⟩ := argTypes
  simp only at hc ha hs
  subst hc
  unfold copyV at hs
  match argTypes, args, ha, hs, ho with
  | [], _, _, hs, _ => simp at hs
  | _ :: _, [], _, hs, _ => simp at hs
  | _ :: _, [_], _, hs, _ => simp at hs
  | t :: ts, a0 :: b0 :: rest, ha, hs, ho =>
    simp only [List.map_cons] at hs
    obtain ⟨e, he, s1⟩ := ob_some hs
    obtain ⟨size, hsz, s2⟩ := ob_some s1
    obtain ⟨ls, hls, s3⟩ := ob_some s2
    clear hs s1 s2
    have hu := sliceElem_some he
    have hxa := ha a0 (by simp)
    have hxb := ha b0 (by simp)
    have hlenC := lenV_run (P := P) hxb hls w
    split at s3
    · rename_i base dl code ea
      rw [ea] at hxa
      have hdst : ∃ cbase ccap, ρ a0 = .slice cbase dl ccap ∧ (base = none → cbase = none ∧ dl = 0) ∧ ∀ a, base = some a → a.spot.isNone = true → ∃ y, m a.block = some y ∧ cbase = some ⟨y.blk, y.sh + a.off, none⟩ := by
        cases base with
        | none =>
          match dl, code, hxa with
          | 0, 0, hx => exact ⟨none, 0, by simpa [conc] using hx.symm, fun _ => ⟨rfl, rfl⟩, fun a e _ => by cases e⟩
          | 0, _ + 1, hx => simp [conc] at hx
          | _ + 1, _, hx => simp [conc] at hx
        | some a =>
          cases hsp : a.spot with
          | none =>
            obtain ⟨y, hy, _, ex⟩ := conc_slice (by rw [hsp]; rfl) hxa
            exact ⟨_, _, ex, fun e => (by cases e), fun a' e _ => by cases e; exact ⟨y, hy, rfl⟩⟩
          | some _ =>
            obtain ⟨a', c', ex⟩ := conc_slice_some hxa
            exact ⟨_, _, ex, fun e => (by cases e), fun a' e hn => by cases e; rw [hsp] at hn; cases hn⟩
      obtain ⟨cbase, ccap, ex, hnone, hsome⟩ := hdst
      have hexec : ∀ (l : List Value) (w' : World), (Builtin.firstCells size (Nat.min ls dl) (ρ b0)).run P w = .ok ⟨l⟩ w → (match cbase with | some a => storeCells a l | none => pure ()).run P w = .ok () w' →
          (execOp ρ o).run P w = .ok (.value (goInt (Nat.min ls dl))) w' := fun l w' h1 h2 => by
        cases cbase with
        | none =>
          simp at h2
          subst h2
          simp [execOp, ho, resolve, invoke, builtin, Builtin.copy_, run_underlying hu, ex, hlenC, run_sz hsz, h1]
        | some a =>
          simp only at h2
          simp [execOp, ho, resolve, invoke, builtin, Builtin.copy_, run_underlying hu, ex, hlenC, run_sz hsz, h1, h2]
      split at s3
      · rename_i h0
        cases s3
        have hfirst : (Builtin.firstCells size (Nat.min ls dl) (ρ b0)).run P w = .ok ⟨[]⟩ w := by
          cases hb : ρ b0 with
          | slice p k c =>
            cases p with
            | none => simp [Builtin.firstCells]
            | some a => simp [Builtin.firstCells, h0, loadCells, loadCellsFrom]
          | string s => rw [h0]; simp [Builtin.firstCells]
          | _ => rw [hb] at hlenC; simp [Builtin.lenOf] at hlenC
        refine ⟨m, w, _, Step.refl h, conc_int m _ _, .inl (hexec [] w hfirst ?_)⟩
        cases cbase <;> simp [storeCells]
      · rename_i h0
        obtain ⟨cells, hcells, s4⟩ := ob_some s3
        obtain ⟨hcell, s5⟩ := gd_some s4
        obtain ⟨a, ea', s6⟩ := ob_some s5
        obtain ⟨st1, hst, s7⟩ := ob_some s6
        cases s7
        obtain ⟨y, hy, ec⟩ := hsome a ea' (gd_some hst).1
        obtain ⟨cells', hc1, hc2⟩ := firstL_run h hxb hcells
        obtain ⟨w', r1, r2⟩ := storeN_sound (P := P) h hy hc1 hcell hst
        refine ⟨m, w', _, r2, conc_int m _ _, .inl (hexec cells' w' hc2 ?_)⟩
        rw [ec]
        exact r1
    · cases s3

theorem sound_toBytes (h : Rel P m st w) {s d : TypeId} {x : Operand} {u : Value} {st' : St} (hf : Free m st.nxt st'.nxt) (ho : o.op = .convert s d x) (hx : conc m u = some (ρ x)) (hs : toBytes P st s d u = some (v, st')) : GenDoes P m st w ρ o v st' := by
  unfold toBytes at hs
  split at hs
  · rename_i e b h1 h2
    split at hs
    · rename_i he
      cases hs
      have hu8 : P.underlying e = some (.int .u8) := he
      rw [conc_string] at hx
      have ex := (Option.some.inj hx).symm
      let q := b.size + w.tape w.drawn (.appendCap b.size 0 e) % (2 ^ 63 - b.size)
      let l : List Value := b.data.toList.map fun y => .int .u8 y.toNat
      let arr : List Value := List.replicate (q - b.size) (.int .u8 0)
      have hlen : l.length = b.size := by simp [l]
      have hlc : concL m l = some l := concL_map _ _ _ (fun y _ => conc_int m _ _)
      have hq : b.size ≤ q := Nat.le_add_right _ _
      have hsize : (l ++ arr).length = q := by simp only [List.length_append, hlen, arr, List.length_replicate]; omega
      let obj : Obj := .cells ⟨l ++ arr⟩ e (q, q + 1)
      let w' : World := { w with drawn := w.drawn + 1, heap := w.heap.push obj }
      refine gen_push (lim := q) (obj := obj) (f := fun B => .slice (some ⟨B, 0, none⟩) b.size q) h (hf _ (Nat.le_refl _) (Nat.lt_succ_self _)) (fun m' hsub hb => ⟨?_, fun w2 hw2 => ?_⟩) (w' := w') rfl rfl rfl rfl ?_
      · rw [conc_slice' hb]
        simp [capC]
      · refine ⟨⟨l ++ arr⟩, e, q, q + 1, hw2, by show 0 + q ≤ (l ++ arr).length; omega, hq, fun _ i hi => by have : i < (l ++ arr).length := hi; omega, fun i hi => ?_, fun ht => ⟨fun k t e' => by (rw [((reads_fill l).2 (by omega)).1] at e'; cases e'), fun k t e' => by (rw [((reads_fill l).2 (by omega)).2] at e'; cases e')⟩⟩
        have hi' : i < l.length := by omega
        refine ⟨l[i], l[i], ?_, ?_, ?_⟩
        · rw [(reads_fill l).1 i hi', List.getElem?_eq_getElem hi']
        · obtain ⟨cv, c1, c2⟩ := concL_get hlc i _ (List.getElem?_eq_getElem hi')
          rw [List.getElem?_eq_getElem hi'] at c2
          cases c2
          exact conc_mono hsub _ _ c1
        · have : (l ++ arr)[i]? = some l[i] := by rw [List.getElem?_append_left hi', List.getElem?_eq_getElem hi']
          simpa using this
      · have e0 : q - b.size = w.tape w.drawn (.appendCap b.size 0 e) % (2 ^ 63 - b.size) := Nat.add_sub_cancel_left _ _
        have hC : Array.map (fun b => Value.int IntKind.u8 (b.toNat : Int)) b.data ++ Array.replicate (w.tape w.drawn (Question.appendCap b.size 0 e) % (9223372036854775808 - b.size)) (Value.int IntKind.u8 0) = ⟨l ++ arr⟩ := by
          apply Array.ext'
          simp [l, arr, e0]
        have hsh : (w.drew.alloc (.cells ⟨l ++ arr⟩ e)).shape? w.heap.size = some (e, q) := by
          have : (w.drew.alloc (.cells ⟨l ++ arr⟩ e)).heap[w.heap.size]? = some (.cells ⟨l ++ arr⟩ e (0, 0)) := by
            show (w.heap.push _)[w.heap.size]? = _
            simp
          simp only [World.shape?, this]
          simp only [List.size_toArray, hsize]
        have hfr : (freeze { block := w.heap.size, off := q } 1).run P (w.drew.alloc (.cells ⟨l ++ arr⟩ e)) = .ok () w' := by
          show (Sem.freeze { block := w.heap.size, off := q } 1 (.pure ())).run P _ = _
          simp only [Sem.run]
          congr 1
          show ({ (w.drew.alloc (.cells ⟨l ++ arr⟩ e)) with heap := _ } : World) = w'
          have hh : ((w.drew.alloc (.cells ⟨l ++ arr⟩ e)).freeze { block := w.heap.size, off := q } 1).heap = w.heap.push obj := by
            apply Array.ext'
            apply List.ext_getElem?
            intro i
            simp only [World.freeze, Nat.one_ne_zero, if_false]
            have hp : (w.drew.alloc (Obj.cells ⟨l ++ arr⟩ e)).heap = w.heap.push (.cells ⟨l ++ arr⟩ e) := rfl
            rw [hp]
            simp only [Array.getElem?_toList, Array.getElem?_modify]
            by_cases hi : w.heap.size = i
            · subst hi
              simp [obj]
            · rw [if_neg hi, Array.getElem?_push, Array.getElem?_push, if_neg (Ne.symm hi), if_neg (Ne.symm hi)]
          have := hh
          simp only [World.freeze, Nat.one_ne_zero, if_false] at this ⊢
          show ({ (w.drew.alloc (.cells ⟨l ++ arr⟩ e)) with heap := _ } : World) = w'
          rw [this]
          rfl
        simp [execOp, ho, convert, ex, run_underlying h1, run_underlying h2, run_underlying hu8, Conv.stringToBytes, choose, Sem.run, Question.forced, Question.cut, newRow, markStringish]
        rw [hC, hsh]
        simp only
        rw [hfr]
        rfl
    · cases hs
  · cases hs

/-- EVERY OPERATION OF CLASS 3 that is no call of a Go function -/
theorem gen_sound (h : Rel P m st w) {A : T Value} {E : Env} {st' : St} (hf : Free m st.nxt st'.nxt) (hcall : ∀ c f, o.op = .call c → c.callee = .value f → False) (hinv : ∀ c r n, o.op = .call c → c.callee = .invoke r n → False) (hops : ∀ x ∈ o.op.operands.toList, conc m (ev A x) = some (ρ x)) (he : evGen o.op P E A st = some (v, st')) : GenDoes P m st w ρ o v st' := by
  have hh : ∀ op, o.op = op → (∀ x ∈ op.operands.toList, conc m (ev A x) = some (ρ x)) → evGen op P E A st = some (v, st') → GenDoes P m st w ρ o v st' := by
    intro op ho hops he
    cases op with
    | store t a x => exact sound_store h ho (hops a (by simp [Op.operands])) (hops x (by simp [Op.operands])) he
    | mapUpdate t mo k x => exact sound_upd h (.inl ho) (hops mo (by simp [Op.operands])) (hops k (by simp [Op.operands])) (hops x (by simp [Op.operands])) he
    | insert t mo k x => exact sound_upd h (.inr ho) (hops mo (by simp [Op.operands])) (hops k (by simp [Op.operands])) (hops x (by simp [Op.operands])) he
    | range t x => exact sound_range h hf ho (hops x (by simp [Op.operands])) he
    | next it s => exact sound_next h ho (hops it (by simp [Op.operands])) he
    | convert s d x => exact sound_toBytes h hf ho (hops x (by simp [Op.operands])) he
    | call c =>
      have he' : callGen P c E A st = some (v, st') := he
      have ha : ∀ x ∈ c.args.toList, conc m (ev A x) = some (ρ x) := fun x hx => hops x (by simp [Op.operands, Call.operands] at hx ⊢; exact .inr hx)
      unfold callGen at he'
      split at he'
      · rename_i f hc; exact (hcall c f ho hc).elim
      · rename_i r n hc; exact (hinv c r n ho hc).elim
      · rename_i hc; exact sound_append h hf ho hc ha he'
      · rename_i hc; exact sound_copy h ho hc ha he'
      · rename_i hc; exact sound_delete h ho hc ha he'
      · cases he'
    | _ => cases he
  exact hh o.op rfl hops he
end Go.Ev

namespace Go.Ev
set_option linter.unusedSectionVars false
variable [OTab] [OVal]
variable {P : Program}

/-! ## steps of a frame that runs -/
def evT (tmps : Array Value) : Operand → Value
  | .tmp t => tmps.getD t undef
  | .const v => v
  | .global g => .pointer (some ⟨g, 0, none⟩)
  | .func f => .func (.func f) #[] #[]
theorem eval_evT (fr : Frame) : fr.eval = evT fr.tmps := by
  funext x; cases x <;> rfl

section steps
variable {fr : Frame} {cs : List Frame} {w w' : World} {k : List Item}
theorem st_skip (hm : fr.mode = .run) (ht : fr.todo = .code .skip :: k) : step P (lone fr cs w) = .next (lone { fr with todo := k } cs w) := by
  obtain ⟨fn, tmps, todo, defers, mode, kind, ro⟩ := fr; simp only at hm ht; subst hm ht
  exact step_lone_go (by simp [stepG, stepG.exec])
theorem st_label {l : Nat} (hm : fr.mode = .run) (ht : fr.todo = .code (.label l) :: k) : step P (lone fr cs w) = .next (lone { fr with todo := k } cs w) := by
  obtain ⟨fn, tmps, todo, defers, mode, kind, ro⟩ := fr; simp only at hm ht; subst hm ht
  exact step_lone_go (by simp [stepG, stepG.exec])
theorem st_inBlock {id : Nat} (hm : fr.mode = .run) (ht : fr.todo = .inBlock id :: k) : step P (lone fr cs w) = .next (lone { fr with todo := k } cs w) := by
  obtain ⟨fn, tmps, todo, defers, mode, kind, ro⟩ := fr; simp only at hm ht; subst hm ht
  exact step_lone_go (by simp [stepG, stepG.exec])
theorem st_inScope {c : Code} (hm : fr.mode = .run) (ht : fr.todo = .inScope c :: k) : step P (lone fr cs w) = .next (lone { fr with todo := k } cs w) := by
  obtain ⟨fn, tmps, todo, defers, mode, kind, ro⟩ := fr; simp only at hm ht; subst hm ht
  exact step_lone_go (by simp [stepG, stepG.exec])
theorem st_seq {a b : Code} (hm : fr.mode = .run) (ht : fr.todo = .code (.seq a b) :: k) : step P (lone fr cs w) = .next (lone { fr with todo := .code a :: .code b :: k } cs w) := by
  obtain ⟨fn, tmps, todo, defers, mode, kind, ro⟩ := fr; simp only at hm ht; subst hm ht
  exact step_lone_go (by simp [stepG, stepG.exec])
theorem st_cond {c : Operand} {a b : Code} {t : Bool} (hm : fr.mode = .run) (ht : fr.todo = .code (.cond c a b) :: k) (hc : fr.eval c = .bool t) : step P (lone fr cs w) = .next (lone { fr with todo := .code (if t then a else b) :: k } cs w) := by
  obtain ⟨fn, tmps, todo, defers, mode, kind, ro⟩ := fr; simp only at hm ht; subst hm ht
  exact step_lone_go (by simp [stepG, stepG.exec, hc])
theorem st_block {id : Nat} {c : Code} (hm : fr.mode = .run) (ht : fr.todo = .code (.block id c) :: k) : step P (lone fr cs w) = .next (lone { fr with todo := .code c :: .inBlock id :: k } cs w) := by
  obtain ⟨fn, tmps, todo, defers, mode, kind, ro⟩ := fr; simp only at hm ht; subst hm ht
  exact step_lone_go (by simp [stepG, stepG.exec])
theorem st_loop {c : Code} (hm : fr.mode = .run) (ht : fr.todo = .code (.loop c) :: k ∨ fr.todo = .inLoop c :: k) : step P (lone fr cs w) = .next (lone { fr with todo := .code c :: .inLoop c :: k } cs w) := by
  obtain ⟨fn, tmps, todo, defers, mode, kind, ro⟩ := fr; simp only at hm ht; subst hm
  rcases ht with ht | ht <;> subst ht <;> exact step_lone_go (by simp [stepG, stepG.exec])
theorem st_scope {c : Code} (hm : fr.mode = .run) (ht : fr.todo = .code (.scope c) :: k) : step P (lone fr cs w) = .next (lone { fr with todo := .code c :: .inScope c :: k } cs w) := by
  obtain ⟨fn, tmps, todo, defers, mode, kind, ro⟩ := fr; simp only at hm ht; subst hm ht
  exact step_lone_go (by simp [stepG, stepG.exec])
theorem st_exit {id : Nat} {k' : List Item} (hm : fr.mode = .run) (ht : fr.todo = .code (.exit id) :: k) (he : exitTo id k = some k') : step P (lone fr cs w) = .next (lone { fr with todo := k' } cs w) := by
  obtain ⟨fn, tmps, todo, defers, mode, kind, ro⟩ := fr; simp only at hm ht; subst hm ht
  exact step_lone_go (by simp [stepG, stepG.exec, he])
theorem st_region {id : Nat} {ops : Array Oper} (hm : fr.mode = .run) (ht : fr.todo = .code (.region id ops false) :: k) : step P (lone fr cs w) = .next (lone { fr with todo := .inRegion ops (List.range ops.size) :: k } cs w) := by
  obtain ⟨fn, tmps, todo, defers, mode, kind, ro⟩ := fr; simp only at hm ht; subst hm ht
  exact step_lone_go (by simp [stepG, stepG.exec])
theorem st_regionDraw {id : Nat} {ops : Array Oper} (hm : fr.mode = .run) (ht : fr.todo = .code (.region id ops true) :: k) :
    step P (lone fr cs w) = .next (lone { fr with todo := .inRegion ops (Region.schedule (P.follows .mixedOrders) ops (w.tape w.drawn (.order fr.fn id))) :: k } cs { w with drawn := w.drawn + 1 }) := by
  obtain ⟨fn, tmps, todo, defers, mode, kind, ro⟩ := fr; simp only at hm ht; subst hm ht
  exact step_lone_go (by simp [stepG, stepG.exec, choose, Sem.run, Question.forced, Question.cut])
theorem st_regionEnd {ops : Array Oper} (hm : fr.mode = .run) (ht : fr.todo = .inRegion ops [] :: k) : step P (lone fr cs w) = .next (lone { fr with todo := k } cs w) := by
  obtain ⟨fn, tmps, todo, defers, mode, kind, ro⟩ := fr; simp only at hm ht; subst hm ht
  exact step_lone_go (by simp [stepG, stepG.exec])
theorem st_opSkip {ops : Array Oper} {i : Nat} {rest : List Nat} (hm : fr.mode = .run) (ht : fr.todo = .inRegion ops (i :: rest) :: k) (hw : ((ops[i]?).map (Region.wanted · (yielded ops fr.tmps))).getD false = false) :
    step P (lone fr cs w) = .next (lone (fr.finish undef) cs w) := by
  obtain ⟨fn, tmps, todo, defers, mode, kind, ro⟩ := fr; simp only at hm ht hw; subst hm ht
  exact step_lone_go (by simp [stepG, stepG.exec, hw])
theorem stepG_op' {ops : Array Oper} {i : Nat} {rest : List Nat} {o : Oper} (hm : fr.mode = .run) (ht : fr.todo = .inRegion ops (i :: rest) :: k) (ho : ops[i]? = some o) (hw : Region.wanted o (yielded ops fr.tmps) = true) (hd : ∀ c, o.op ≠ .defer c) :
    stepG P true { frame := fr, callers := cs, status := .running, dying := none } w = stepG.apply P true fr cs none (execOp fr.eval o) w := by
  obtain ⟨fn, tmps, todo, defers, mode, kind, ro⟩ := fr; simp only at hm ht hw; subst hm ht
  simp only [stepG, stepG.exec, ho, hw, Option.map_some, Option.getD_some, if_true, stepG.oper, Frame.oper?]
  split
  · rename_i h2; exact absurd h2 (hd _)
  · rfl
theorem st_opValue {ops : Array Oper} {i : Nat} {rest : List Nat} {o : Oper} {v : Value} (hm : fr.mode = .run) (ht : fr.todo = .inRegion ops (i :: rest) :: k) (ho : ops[i]? = some o) (hw : Region.wanted o (yielded ops fr.tmps) = true) (hd : ∀ c, o.op ≠ .defer c)
    (hr : (execOp fr.eval o).run P w = .ok (.value v) w') : step P (lone fr cs w) = .next (lone (fr.finish v) cs w') :=
  step_lone_go (by rw [stepG_op' hm ht ho hw hd]; simp [stepG.apply, hr])
theorem st_opUnit {ops : Array Oper} {i : Nat} {rest : List Nat} {o : Oper} (hm : fr.mode = .run) (ht : fr.todo = .inRegion ops (i :: rest) :: k) (ho : ops[i]? = some o) (hw : Region.wanted o (yielded ops fr.tmps) = true) (hd : ∀ c, o.op ≠ .defer c)
    (hr : (execOp fr.eval o).run P w = .ok .skip w') : step P (lone fr cs w) = .next (lone (fr.finish undef) cs w') :=
  step_lone_go (by rw [stepG_op' hm ht ho hw hd]; simp [stepG.apply, hr])
end steps

/-! ## calls -/
/-- the frame that a call goes on in -/
def Enters (P : Program) (nx : Next) (callee : Frame) : Prop :=
  (∃ f args, nx = .enter f args ∧ callee = Frame.enter P f args .normal) ∨ (∃ l f tmps a b, nx = .round l f tmps a b ∧ callee = Frame.round l f tmps a b .normal)

/-- the call of a function value hands back cv -/
def Invokes (P : Program) (cf : Value) (cargs : Array Value) (fr0 : Frame) (cs : List Frame) (w : World) (cv : Value) (w' : World) : Prop :=
  ∃ nx callee, (do let d ← Deferred.ofValue cf cargs; invoke d.target d.args : Sem Next).run P w = .ok nx w ∧ Enters P nx callee ∧ Steps P (lone callee (fr0 :: cs) w) (lone (fr0.finish cv) cs w')

def CallOk (P : Program) (call : CallF) : Prop :=
  ∀ f args st v st', call f args st = some (v, st') → ∀ (m : Map) (w : World) (cf : Value) (cargs : List Value) (fr0 : Frame) (cs : List Frame), Rel P m st w → Free m st.nxt st'.nxt → conc m f = some cf → concL m args = some cargs →
    ∃ m' w' cv, Step P m st w m' st' w' ∧ conc m' v = some cv ∧ Invokes P cf ⟨cargs⟩ fr0 cs w cv w'

/-- an operation of a region, carried out -/
def Performs (P : Program) (o : Oper) (ρ : Operand → Value) (fr : Frame) (cs : List Frame) (w : World) (cv : Value) (w' : World) : Prop :=
  ∀ (ops : Array Oper) (i : Nat) (rest : List Nat) (k : List Item), fr.mode = .run → fr.todo = .inRegion ops (i :: rest) :: k → ops[i]? = some o → Region.wanted o (yielded ops fr.tmps) = true →
    fr.eval = ρ → Steps P (lone fr cs w) (lone (fr.finish cv) cs w')

theorem enter_apply {fr callee : Frame} {cs : List Frame} {w : World} {s : Sem Next} {nx : Next} (hn : ∀ d r sv k, fr.todo ≠ .call d true r sv :: k) (hr : s.run P w = .ok nx w) (he : Enters P nx callee) :
    (stepG.apply P true fr cs none s w).bare = .go { frame := callee, callers := fr :: cs, status := .running, dying := none } w := by
  rcases he with ⟨f, args, rfl, rfl⟩ | ⟨l, f, tmps, a, b, rfl, rfl⟩
  · simp [stepG.apply, hr]
  · simp [stepG.apply, hr]

theorem performs_value {o : Oper} {ρ : Operand → Value} {fr : Frame} {cs : List Frame} {w w' : World} {cv : Value} (hd : ∀ c, o.op ≠ .defer c) (h : (execOp ρ o).run P w = .ok (.value cv) w' ∨ ((execOp ρ o).run P w = .ok .skip w' ∧ cv = undef)) : Performs P o ρ fr cs w cv w' := by
  intro ops i rest k hm ht ho hw he
  subst he
  rcases h with h | ⟨h, rfl⟩
  · exact .one (st_opValue hm ht ho hw hd h)
  · exact .one (st_opUnit hm ht ho hw hd h)

theorem performs_call {o : Oper} {ρ : Operand → Value} {fr : Frame} {cs : List Frame} {c : Call} {f : Operand} {w w' : World} {cv : Value} (ho : o.op = .call c) (hc : c.callee = .value f) (h : Invokes P (ρ f) (c.args.map ρ) fr cs w cv w') : Performs P o ρ fr cs w cv w' := by
  intro ops i rest k hm ht hop hw he
  subst he
  obtain ⟨nx, callee, h1, h2, h3⟩ := h
  refine .head (step_lone_go ?_) h3
  rw [stepG_op' hm ht hop hw (fun c => by rw [ho]; simp)]
  refine enter_apply (fun d r sv k => by rw [ht]; simp) ?_ h2
  simpa [execOp, ho, resolve, hc] using h1

theorem performs_invoke {o : Oper} {ρ : Operand → Value} {fr : Frame} {cs : List Frame} {c : Call} {r : Operand} {n : String} {w w' : World} {cv : Value} (ho : o.op = .call c) (hc : c.callee = .invoke r n) (h : Invokes P (.func (.method n) #[] #[]) (#[ρ r] ++ c.args.map ρ) fr cs w cv w') : Performs P o ρ fr cs w cv w' := by
  intro ops i rest k hm ht hop hw he
  subst he
  obtain ⟨nx, callee, h1, h2, h3⟩ := h
  refine .head (step_lone_go ?_) h3
  rw [stepG_op' hm ht hop hw (fun c => by rw [ho]; simp)]
  refine enter_apply (fun d r sv k => by rw [ht]; simp) ?_ h2
  simpa [execOp, ho, resolve, hc, Deferred.ofValue] using h1

/-! ## every operation -/
theorem pushNew_step {m : Map} {st : St} {w : World} {nv : NewV} {o : Oper} {ρ : Operand → Value} (h : Rel P m st w) (hn : m st.nxt = none) (hd : NewDoes P m ρ o nv) :
    ∃ m' w' cv, Step P m st w m' (st.push (nv.b st.nxt)) w' ∧ conc m' (nv.v st.nxt) = some cv ∧ (execOp ρ o).run P w = .ok (.value cv) w' := by
  obtain ⟨obj, lim, f, h1, h2⟩ := hd
  obtain ⟨g2, g3⟩ := h2 st.nxt (upd m st.nxt ⟨w.heap.size, 0, lim⟩) w.heap.size (sub_upd _ hn) (upd_same _ _ _)
  exact ⟨_, w.alloc obj, f w.heap.size, push_step (o := obj) h hn rfl rfl rfl rfl (g3 _ (by show (w.heap.push obj)[w.heap.size]? = _; simp)), g2, h1 w⟩

theorem byCls_0 : byCls 0 = byPure := rfl
theorem byCls_1 : byCls 1 = byNew := rfl
theorem byCls_2 : byCls 2 = byRead := rfl
theorem byCls_3 (n : Nat) : byCls (n + 3) = evGen := rfl

theorem evOp_noDefer {E : Env} {A : T Value} {st : St} {o : Op} {r : Value × St} (h : evOp P o E A st = some r) : ∀ c, o ≠ .defer c := by
  intro c e
  subst e
  have : evOp P (.defer c) E A st = none := rfl
  rw [this] at h
  cases h

theorem op_sound (fr : Frame) (cs : List Frame) {m : Map} {st st' : St} {w : World} {o : Oper} {ρ : Operand → Value} {A : T Value} {E : Env} {v : Value} (hcall : CallOk P E.call) (h : Rel P m st w) (hf : Free m st.nxt st'.nxt)
    (hops : ∀ x ∈ o.op.operands.toList, conc m (ev A x) = some (ρ x)) (he : evOp P o.op E A st = some (v, st')) :
    ∃ m' w' cv, Step P m st w m' st' w' ∧ conc m' v = some cv ∧ Performs P o ρ fr cs w cv w' := by
  have hnd := evOp_noDefer he
  unfold evOp at he
  match hc : cls P o.op with
  | 0 =>
    rw [hc, byCls_0] at he
    obtain ⟨u, h1, h2⟩ := ob_some he
    cases h2
    obtain ⟨cv, g1, g2⟩ := pure_sound (P := P) (m := m) (ρ := ρ) hops h1
    exact ⟨m, w, cv, Step.refl h, g1, performs_value hnd (.inl (g2 w))⟩
  | 1 =>
    rw [hc, byCls_1] at he
    obtain ⟨nv, h1, h2⟩ := ob_some he
    cases h2
    obtain ⟨m', w', cv, g1, g2, g3⟩ := pushNew_step h (hf _ (Nat.le_refl _) (Nat.lt_succ_self _)) (new_sound (P := P) (m := m) (ρ := ρ) hops h1)
    exact ⟨m', w', cv, g1, g2, performs_value hnd (.inl g3)⟩
  | 2 =>
    rw [hc, byCls_2] at he
    obtain ⟨u, h1, h2⟩ := ob_some he
    cases h2
    obtain ⟨cv, g1, g2⟩ := read_sound (P := P) h hc hops h1
    exact ⟨m, w, cv, Step.refl h, g1, performs_value hnd (.inl g2)⟩
  | n + 3 =>
    rw [hc, byCls_3] at he
    by_cases hcl : ∃ c f, o.op = .call c ∧ c.callee = .value f
    · obtain ⟨c, f, ho, hcf⟩ := hcl
      rw [ho] at he
      have he' : callGen P c E A st = some (v, st') := he
      unfold callGen at he'
      rw [hcf] at he'
      simp only at he'
      have hfo : conc m (ev A f) = some (ρ f) := hops f (by rw [ho]; simp [Op.operands, Call.operands, hcf])
      have hargs : concL m (c.args.toList.map (ev A)) = some (c.args.toList.map ρ) := args_conc (fun x hx => hops x (by rw [ho]; simp [Op.operands, Call.operands] at hx ⊢; exact .inr hx))
      obtain ⟨m', w', cv, g1, g2, g3⟩ := hcall _ _ _ _ _ he' m w _ _ fr cs h hf hfo hargs
      refine ⟨m', w', cv, g1, g2, performs_call ho hcf ?_⟩
      have e : c.args.map ρ = ⟨c.args.toList.map ρ⟩ := by apply Array.ext'; simp
      rw [e]
      exact g3
    · by_cases hcl2 : ∃ c r n, o.op = .call c ∧ c.callee = .invoke r n
      · obtain ⟨c, r, nm, ho, hcf⟩ := hcl2
        rw [ho] at he
        have he' : callGen P c E A st = some (v, st') := he
        unfold callGen at he'
        rw [hcf] at he'
        simp only at he'
        have hro : conc m (ev A r) = some (ρ r) := hops r (by rw [ho]; simp [Op.operands, Call.operands, hcf])
        have hargs : concL m (c.args.toList.map (ev A)) = some (c.args.toList.map ρ) := args_conc (fun x hx => hops x (by rw [ho]; simp [Op.operands, Call.operands] at hx ⊢; exact .inr hx))
        have hfo : conc m (.func (.method nm) #[] #[]) = some (.func (.method nm) #[] #[]) := by
          show conc m (.func (.method nm) ⟨[]⟩ ⟨[]⟩) = _
          simp [conc]
        obtain ⟨m', w', cv, g1, g2, g3⟩ := hcall _ _ _ _ _ he' m w _ _ fr cs h hf hfo (concL_cons' hro hargs)
        refine ⟨m', w', cv, g1, g2, performs_invoke ho hcf ?_⟩
        have e : #[ρ r] ++ c.args.map ρ = ⟨ρ r :: c.args.toList.map ρ⟩ := by apply Array.ext'; simp
        rw [e]
        exact g3
      · obtain ⟨m', w', cv, g1, g2, g3⟩ := gen_sound (P := P) h hf (fun c f h1 h2 => hcl ⟨c, f, h1, h2⟩) (fun c r n h1 h2 => hcl2 ⟨c, r, n, h1, h2⟩) hops he
        exact ⟨m', w', cv, g1, g2, performs_value hnd g3⟩
end Go.Ev

namespace Go.Ev
set_option linter.unusedSectionVars false
variable [OTab] [OVal]
variable {P : Program}

/-- what an evaluation does to the abstract memory -/
structure AF (st st' : St) : Prop where
  nxt : st.nxt ≤ st'.nxt
  low : st'.low ≤ st.low
  keep : ∀ b, b < st.nxt → b < st'.low → st'.mem.get b = st.mem.get b
  wf : (∀ b, st.nxt ≤ b → st.mem.get b = none) → ∀ b, st'.nxt ≤ b → st'.mem.get b = none

theorem AF.refl (st : St) : AF st st := ⟨Nat.le_refl _, Nat.le_refl _, fun _ _ _ => rfl, fun h => h⟩
theorem AF.trans {a b c : St} (h : AF a b) (k : AF b c) : AF a c :=
  ⟨Nat.le_trans h.nxt k.nxt, Nat.le_trans k.low h.low, fun x h1 h2 => (k.keep x (Nat.lt_of_lt_of_le h1 h.nxt) h2).trans (h.keep x h1 (Nat.lt_of_lt_of_le h2 k.low)), fun hw => k.wf (h.wf hw)⟩
theorem AF.push (st : St) (k : Blk) : AF st (st.push k) where
  nxt := Nat.le_succ _
  low := Nat.le_refl _
  keep := fun b h1 _ => by show (st.mem.put _ _).get b = _; rw [get_memput, if_neg (by omega)]
  wf := fun hw b hb => by
    have hb' : st.nxt + 1 ≤ b := hb
    show (st.mem.put _ _).get b = _
    rw [get_memput, if_neg (by omega)]
    exact hw b (by omega)
theorem AF.put {st : St} {b : Nat} {k0 : Blk} (hk : st.mem.get b = some k0) (vo : Option Blk) : AF st ⟨st.mem.put vo b, st.nxt, minN b st.low⟩ where
  nxt := Nat.le_refl _
  low := by show minN b st.low ≤ _; rw [minN_eq]; omega
  keep := fun c _ h2 => by
    have h2' : c < minN b st.low := h2
    rw [minN_eq] at h2'
    show (st.mem.put _ _).get c = _
    rw [get_memput, if_neg (by omega)]
  wf := fun hw c hc => by
    have hc' : st.nxt ≤ c := hc
    show (st.mem.put _ _).get c = _
    have : c ≠ b := fun e => by rw [e] at hc'; rw [hw b hc'] at hk; cases hk
    rw [get_memput, if_neg this]
    exact hw c hc'
theorem AF.set {st : St} {b : Nat} {k0 : Blk} (hk : st.mem.get b = some k0) (k : Blk) : AF st (st.setB b k) := AF.put hk (some k)
theorem AF.kill {st : St} {b : Nat} {k0 : Blk} (hk : st.mem.get b = some k0) : AF st (st.kill b) := AF.put hk none

theorem storeN_af {st st' : St} {a : Addr} {l : List Value} (h : storeN st a l = some st') : AF st st' := by
  unfold storeN at h
  obtain ⟨_, h1⟩ := gd_some h
  obtain ⟨n, c, hk, h2⟩ := cellsAt_some h1
  obtain ⟨_, h3⟩ := gd_some h2
  cases h3
  exact AF.set hk _
theorem updV_af {st st' : St} {t : TypeId} {x k v : Value} (h : updV P st t x k v = some st') : AF st st' := by
  unfold updV at h
  obtain ⟨kv, _, h1⟩ := ob_some h
  obtain ⟨_, h2⟩ := gd_some h1
  split at h2
  · obtain ⟨es, clock, hk, h3⟩ := mapAt_some h2
    obtain ⟨f, _, h4⟩ := ob_some h3
    split at h4 <;> cases h4 <;> exact AF.set hk _
  · cases h2
theorem delV_af {st st' : St} {ts : List TypeId} {args : List Value} {v : Value} (h : delV P st ts args = some (v, st')) : AF st st' := by
  unfold delV at h
  split at h
  · obtain ⟨kv, _, h1⟩ := ob_some h
    obtain ⟨_, h2⟩ := gd_some h1
    split at h2
    · cases h2; exact AF.refl _
    · obtain ⟨es, clock, hk, h3⟩ := mapAt_some h2
      obtain ⟨f, _, h4⟩ := ob_some h3
      split at h4 <;> cases h4 <;> exact AF.set hk _
    · cases h2
  · cases h
theorem rangeV_af {st st' : St} {t : TypeId} {x v : Value} (h : rangeV P st t x = some (v, st')) : AF st st' := by
  unfold rangeV at h
  split at h
  · cases h; exact AF.push _ _
  · obtain ⟨es, clock, hk, h3⟩ := mapAt_some h
    cases h3; exact AF.push _ _
  · cases h
theorem nextV_af {st st' : St} {x v : Value} {s : Bool} (h : nextV st x s = some (v, st')) : AF st st' := by
  unfold nextV at h
  split at h
  · cases h
  · split at h
    · obtain ⟨b, hb, h1⟩ := ob_some h
      split at h1
      · cases h1; exact AF.refl _
      · obtain ⟨es, clock, hk, h3⟩ := mapAt_some h1
        unfold nextM at h3
        split at h3
        · cases h3
        · split at h3
          · cases h3; exact AF.refl _
          · split at h3
            · cases h3; exact AF.set hb _
            · cases h3
          · cases h3
      · cases h1
    · cases h
theorem appendV_af {st st' : St} {ts : List TypeId} {args : List Value} {v : Value} (h : appendV P st ts args = some (v, st')) : AF st st' := by
  unfold appendV at h
  split at h
  · obtain ⟨e, _, h1⟩ := ob_some h
    obtain ⟨size, _, h2⟩ := ob_some h1
    obtain ⟨bytes, _, h3⟩ := ob_some h2
    obtain ⟨_, h4⟩ := gd_some h3
    obtain ⟨n, _, h5⟩ := ob_some h4
    obtain ⟨new, _, h6⟩ := ob_some h5
    obtain ⟨_, h7⟩ := gd_some h6
    clear h h1 h2 h3 h4 h5 h6
    split at h7
    · split at h7
      · cases h7; exact AF.refl _
      · obtain ⟨_, h8⟩ := gd_some h7
        cases h8; exact AF.push _ _
    · obtain ⟨_, h8⟩ := gd_some h7
      obtain ⟨cap, _, h9⟩ := ob_some h8
      split at h9
      · split at h9
        · cases h9; exact AF.refl _
        · obtain ⟨_, h10⟩ := gd_some h9
          obtain ⟨st1, hs, h11⟩ := ob_some h10
          cases h11
          exact storeN_af hs
      · obtain ⟨_, h10⟩ := gd_some h9
        unfold appendGrow at h10
        split at h10
        · obtain ⟨old, _, h11⟩ := ob_some h10
          cases h11; exact AF.push _ _
        · obtain ⟨k, c, hk, h11⟩ := cellsAt_some h10
          obtain ⟨_, h12⟩ := gd_some h11
          split at h12
          · obtain ⟨_, h13⟩ := gd_some h12
            cases h13; exact (AF.kill hk).trans (AF.push _ _)
          · obtain ⟨old, _, h13⟩ := ob_some h12
            cases h13; exact (AF.kill hk).trans (AF.push _ _)
    · cases h7
  · cases h
theorem copyV_af {st st' : St} {ts : List TypeId} {args : List Value} {v : Value} (h : copyV P st ts args = some (v, st')) : AF st st' := by
  unfold copyV at h
  split at h
  · obtain ⟨e, _, h1⟩ := ob_some h
    obtain ⟨size, _, h2⟩ := ob_some h1
    obtain ⟨ls, _, h3⟩ := ob_some h2
    split at h3
    · split at h3
      · cases h3; exact AF.refl _
      · obtain ⟨cells, _, h4⟩ := ob_some h3
        obtain ⟨_, h5⟩ := gd_some h4
        obtain ⟨a, _, h6⟩ := ob_some h5
        obtain ⟨st1, hs, h7⟩ := ob_some h6
        cases h7
        exact storeN_af hs
    · cases h3
  · cases h
theorem toBytes_af {st st' : St} {s d : TypeId} {x v : Value} (h : toBytes P st s d x = some (v, st')) : AF st st' := by
  unfold toBytes at h
  split at h
  · split at h
    · cases h; exact AF.push _ _
    · cases h
  · cases h

def CallAF (call : CallF) : Prop := ∀ f args st v st', call f args st = some (v, st') → AF st st'

theorem retU_some {r : Option St} {v : Value} {st' : St} (h : retU r = some (v, st')) : r = some st' := by
  obtain ⟨st1, h1, h2⟩ := ob_some h
  cases h2
  exact h1

theorem evGen_af {E : Env} {A : T Value} {st st' : St} {v : Value} (hc : CallAF E.call) (op : Op) (h : evGen op P E A st = some (v, st')) : AF st st' := by
  cases op with
  | store t a x =>
    obtain ⟨ad, _, h2⟩ := ob_some (show ob (asP (ev A a)) (storeAtV P t st (ev A x)) = some (v, st') from h)
    have h3 := retU_some h2
    unfold storeV at h3
    obtain ⟨n, _, h4⟩ := ob_some h3
    obtain ⟨_, h5⟩ := gd_some h4
    obtain ⟨_, h6⟩ := gd_some h5
    exact storeN_af h6
  | mapUpdate t mo k x => exact updV_af (retU_some h)
  | insert t mo k x => exact updV_af (retU_some h)
  | range t x => exact rangeV_af h
  | next it s => exact nextV_af h
  | convert s d x => exact toBytes_af h
  | call c =>
    have h' : callGen P c E A st = some (v, st') := h
    unfold callGen at h'
    split at h'
    · exact hc _ _ _ _ _ h'
    · exact hc _ _ _ _ _ h'
    · exact appendV_af h'
    · exact copyV_af h'
    · exact delV_af h'
    · cases h'
  | _ => cases h

theorem evOp_af {E : Env} {A : T Value} {st st' : St} {v : Value} (hc : CallAF E.call) {o : Op} (h : evOp P o E A st = some (v, st')) : AF st st' := by
  unfold evOp at h
  match hcl : cls P o with
  | 0 => rw [hcl, byCls_0] at h; obtain ⟨u, _, h2⟩ := ob_some h; cases h2; exact AF.refl _
  | 1 => rw [hcl, byCls_1] at h; obtain ⟨u, _, h2⟩ := ob_some h; cases h2; exact AF.push _ _
  | 2 => rw [hcl, byCls_2] at h; obtain ⟨u, _, h2⟩ := ob_some h; cases h2; exact AF.refl _
  | n + 3 => rw [hcl, byCls_3] at h; exact evGen_af hc o h

theorem fz_eq {β : Type} (v : Value) (k : Value → Option β) : fz v k = k v := by
  cases v with
  | bool b => cases b <;> rfl
  | int kd n =>
    cases n with
    | ofNat x => show bsel (Nat.ble x x) none (k (.int kd (.ofNat x))) = _; rw [Nat.ble_self_eq_true]; rfl
    | negSucc x => show bsel (Nat.ble x x) none (k (.int kd (.negSucc x))) = _; rw [Nat.ble_self_eq_true]; rfl
  | _ => rfl
theorem fzM_eq {β : Type} (m : Mem) (k : Mem → Option β) : fzM m k = k m := by
  obtain ⟨⟨l, r⟩, u⟩ := m
  rfl
theorem fzS_eq {β : Type} (st : St) (k : St → Option β) : fzS st k = k st := by
  obtain ⟨mem, nxt, low⟩ := st
  show fzN nxt (fzN low (fzM mem (fzS1 (Nat.add nxt 0) low k))) = _
  unfold fzN
  rw [Nat.ble_self_eq_true, Nat.ble_self_eq_true, bsel_true, bsel_true, fzM_eq]
  rfl

theorem evOps_nil {E : Env} {ops : Array Oper} {A : T Value} {st : St} : evOps P E ops [] A st = some ⟨A, st⟩ := rfl
theorem evOps_cons {E : Env} {ops : Array Oper} {o : Oper} {l : List Oper} {A : T Value} {st : St} : evOps P E ops (o :: l) A st =
    if wantedA ops A o.guard = true then (ob (evOp P o.op E A st) fun p => evOps P E ops l (putA A o.dst p.1) p.2) else evOps P E ops l (putA A o.dst undef) st := by
  show bsel (wantedA ops A o.guard) (idd (evOps P E ops l (putA A o.dst undef) st)) (ob (evOp P o.op E A st) (opsK (evOps P E ops l) A o.dst)) = _
  cases wantedA ops A o.guard with
  | false => rfl
  | true =>
    rw [bsel_true, if_pos rfl]
    cases evOp P o.op E A st with
    | none => rfl
    | some p =>
      show opsK (evOps P E ops l) A o.dst p = evOps P E ops l (putA A o.dst p.1) p.2
      unfold opsK
      rw [fz_eq]
      unfold opsK2
      rw [fzS_eq]
      rfl
theorem evOps_af {E : Env} {ops : Array Oper} (hc : CallAF E.call) : ∀ (l : List Oper) (A : T Value) (st : St) (r : OpsRes), evOps P E ops l A st = some r → AF st r.st
  | [], A, st, r, h => by rw [evOps_nil] at h; cases h; exact AF.refl _
  | o :: l, A, st, r, h => by
    rw [evOps_cons] at h
    split at h
    · obtain ⟨p, hp, h2⟩ := ob_some h
      exact (evOp_af hc hp).trans (evOps_af hc l _ _ _ h2)
    · exact evOps_af hc l _ _ _ h

/-! ## regions that draw -/
theorem AF.lower {st st' : St} {n : Nat} (h : AF (setLow st n) st') : AF st (setLow st' (minN st'.low st.low)) where
  nxt := h.nxt
  low := by show minN _ _ ≤ _; rw [minN_eq]; omega
  keep := fun b h1 h2 => by
    have h2' : b < minN st'.low st.low := h2
    rw [minN_eq] at h2'
    exact h.keep b h1 (by omega)
  wf := h.wf

/-- one operation of a region that draws, and what is asked of it -/
theorem evDraws_cons {E : Env} {ops : Array Oper} {oi : Oper × Nat} {l : List (Oper × Nat)} {A : T Value} {st : St} {pend : List Pend} {louds : List Nat} {r : OpsRes} (h : evDraws P E ops (oi :: l) A st pend louds = some r) :
    (wantedA ops A oi.1.guard = false ∧ evDraws P E ops l (putA A oi.1.dst undef) st pend louds = some r) ∨
    (wantedA ops A oi.1.guard = true ∧ ∃ v st1, evOp P oi.1.op E A (setLow st st.nxt) = some (v, st1) ∧ (cls P oi.1.op = 0 ∨ louds.all (fun j => (ancAt ops oi.2).testBit j) = true) ∧
      ((st.nxt ≤ st1.low ∧ evDraws P E ops l (putA A oi.1.dst v) (setLow st1 (minN st1.low st.low)) (if cls P oi.1.op = 0 then pend else ⟨oi.2, oi.1.op, A, v⟩ :: pend) louds = some r) ∨
       (st1.low < st.nxt ∧ pend.all (again P (setLow st1 (minN st1.low st.low)) (ancAt ops oi.2)) = true ∧ evDraws P E ops l (putA A oi.1.dst v) (setLow st1 (minN st1.low st.low)) pend (oi.2 :: louds) = some r))) := by
  have h' : drawStep P E ops oi (evDraws P E ops l) A st pend louds = some r := h
  unfold drawStep at h'
  cases hw : wantedA ops A oi.1.guard with
  | false => rw [hw] at h'; exact .inl ⟨rfl, h'⟩
  | true =>
    rw [hw, bsel_true] at h'
    obtain ⟨p, hp, h2⟩ := ob_some h'
    obtain ⟨v, st1⟩ := p
    unfold drawK at h2
    obtain ⟨h3, h4⟩ := gd_some h2
    rw [Bool.or_eq_true] at h3
    refine .inr ⟨rfl, v, st1, hp, h3.imp (fun h => Nat.le_zero.1 (Nat.le_of_ble_eq_true h)) id, ?_⟩
    cases hb : Nat.blt st1.low st.nxt with
    | false =>
      have hge : st.nxt ≤ st1.low := by rcases Nat.lt_or_ge st1.low st.nxt with hh | hh
                                        · have hh2 : Nat.ble (st1.low + 1) st.nxt = true := Nat.ble_eq_true_of_le hh
                                          rw [show Nat.blt st1.low st.nxt = Nat.ble (st1.low + 1) st.nxt from rfl, hh2] at hb; cases hb
                                        · exact hh
      simp only [hb, bsel_false] at h4
      unfold drawQuiet at h4
      rw [fz_eq, fzS_eq] at h4
      refine .inl ⟨hge, ?_⟩
      have e : (bsel (Nat.ble (cls P oi.1.op) 0) ((⟨oi.2, oi.1.op, A, v⟩ : Pend) :: pend) pend) = (if cls P oi.1.op = 0 then pend else ⟨oi.2, oi.1.op, A, v⟩ :: pend) := by
        cases hc : cls P oi.1.op with
        | zero => rfl
        | succ n => rfl
      rw [← e]
      exact h4
    | true =>
      have hlt : st1.low < st.nxt := by simp [Nat.blt] at hb; omega
      simp only [hb, bsel_true] at h4
      unfold drawLoud at h4
      obtain ⟨h5, h6⟩ := gd_some h4
      rw [fz_eq, fzS_eq] at h6
      exact .inr ⟨hlt, h5, h6⟩

theorem evDraws_af {E : Env} {ops : Array Oper} (hc : CallAF E.call) : ∀ (l : List (Oper × Nat)) (A : T Value) (st : St) (pend : List Pend) (louds : List Nat) (r : OpsRes), evDraws P E ops l A st pend louds = some r → AF st r.st
  | [], A, st, pend, louds, r, h => by have h' : some (⟨A, st⟩ : OpsRes) = some r := h; cases h'; exact AF.refl _
  | oi :: l, A, st, pend, louds, r, h => by
    rcases evDraws_cons h with ⟨_, h1⟩ | ⟨_, v, st1, h1, _, ⟨_, h2⟩ | ⟨_, _, h2⟩⟩
    · exact evDraws_af hc l _ _ _ _ _ h1
    · exact (AF.lower (evOp_af hc h1)).trans (evDraws_af hc l _ _ _ _ _ h2)
    · exact (AF.lower (evOp_af hc h1)).trans (evDraws_af hc l _ _ _ _ _ h2)

/-! ## code -/
def CodeAF (k : CodeF) : Prop := ∀ E A dm st r, CallAF E.call → k E A dm st = some r → AF st r.st

theorem seqK_af {k : CodeF} (hk : CodeAF k) {E : Env} (hc : CallAF E.call) {r r' : Res} (h : seqK k E r = some r') : AF r.st r'.st := by
  unfold seqK at h
  cases hx : r.ex with
  | normal => rw [hx] at h; exact hk _ _ _ _ _ hc h
  | exit id => rw [hx] at h; have h' : some r = some r' := h; cases h'; exact AF.refl _
  | ret => rw [hx] at h; have h' : some r = some r' := h; cases h'; exact AF.refl _
theorem loopN_af {body : CodeF} (hb : CodeAF body) : ∀ n, CodeAF (loopN body n)
  | 0 => fun E A dm st r _ h => by cases h
  | n + 1 => fun E A dm st r hc h => by
    have h' : ob (body E A dm st) (seqK (loopN body n) E) = some r := h
    obtain ⟨r1, h1, h2⟩ := ob_some h'
    exact (hb _ _ _ _ _ hc h1).trans (seqK_af (loopN_af hb n) hc h2)
theorem endLoopK_af {l : Nat} {A : T Value} {dm : List Nat} {v : Value} {st : St} {r : Res} (h : endLoopK l A dm (v, st) = some r) : AF st r.st := by
  unfold endLoopK at h
  obtain ⟨b, hb, h1⟩ := ob_some h
  split at h1
  · split at h1
    · cases h1
    · split at h1 <;> first | (cases h1; exact AF.set hb _) | cases h1
  · cases h1
theorem rangeFn_af (f : Operand) (params : Array Tmp) (assign body : Code) : CodeAF (rangeFn f params assign body) := fun E A dm st r hc h => by
  unfold rangeFn at h
  split at h
  · obtain ⟨p, h1, h2⟩ := ob_some h
    exact (((AF.push _ _).trans (AF.push _ _)).trans (hc _ _ _ _ _ h1)).trans (endLoopK_af h2)
  · obtain ⟨b, hb, h1⟩ := ob_some h
    split at h1
    · obtain ⟨p, h2, h3⟩ := ob_some h1
      exact ((AF.push _ _).trans (hc _ _ _ _ _ h2)).trans (endLoopK_af h3)
    · cases h1

theorem evRegion_af {ops : Array Oper} {draw : Bool} : CodeAF (evRegion P ops draw) := fun E A dm st r hc h => by
  unfold evRegion at h
  obtain ⟨q, h1, h2⟩ := ob_some h
  cases h2
  cases draw with
  | false => exact evOps_af hc _ _ _ _ h1
  | true => exact evDraws_af hc _ _ _ _ _ _ h1

theorem evCode_af : ∀ c : Code, CodeAF (evCode P c)
  | .skip => fun E A dm st r _ h => by have h' : some (⟨.normal, A, dm, st⟩ : Res) = some r := h; cases h'; exact AF.refl _
  | .region _ ops draw => fun E A dm st r hc h => evRegion_af _ _ _ _ _ hc h
  | .seq a b => fun E A dm st r hc h => by
    obtain ⟨r1, h1, h2⟩ := ob_some (show ob (evCode P a E A dm st) (seqK (evCode P b) E) = some r from h)
    exact (evCode_af a _ _ _ _ _ hc h1).trans (seqK_af (evCode_af b) hc h2)
  | .cond c a b => fun E A dm st r hc h => by
    obtain ⟨t, _, h2⟩ := ob_some (show ob (asB (ev A c)) (condK (evCode P a) (evCode P b) E A dm st) = some r from h)
    unfold condK at h2
    cases t with
    | false => exact evCode_af b _ _ _ _ _ hc h2
    | true => exact evCode_af a _ _ _ _ _ hc h2
  | .block id b => fun E A dm st r hc h => by
    obtain ⟨r1, h1, h2⟩ := ob_some (show ob (evCode P b E A dm st) (blockK id) = some r from h)
    have := evCode_af b _ _ _ _ _ hc h1
    unfold blockK at h2
    cases hx : r1.ex with
    | normal => rw [hx] at h2; have h' : some r1 = some r := h2; cases h'; exact this
    | ret => rw [hx] at h2; have h' : some r1 = some r := h2; cases h'; exact this
    | exit id' =>
      rw [hx] at h2
      have h' : bsel (Nat.beq id' id) (some r1) (some ⟨.normal, r1.A, r1.dm, r1.st⟩) = some r := h2
      cases hb : Nat.beq id' id with
      | false => rw [hb] at h'; cases h'; exact this
      | true => rw [hb] at h'; cases h'; exact this
  | .loop b => loopN_af (evCode_af b) 1000000
  | .rangeFunc f params assign body => rangeFn_af f params assign body
  | .exit id => fun E A dm st r _ h => by have h' : some (⟨.exit id, A, dm, st⟩ : Res) = some r := h; cases h'; exact AF.refl _
  | .scope b => evCode_af b
  | .label _ => fun E A dm st r _ h => by have h' : some (⟨.normal, A, dm, st⟩ : Res) = some r := h; cases h'; exact AF.refl _
  | .goto _ => fun E A dm st r _ h => by cases h
  | .ret => fun E A dm st r _ h => by have h' : some (⟨.ret, A, dm, st⟩ : Res) = some r := h; cases h'; exact AF.refl _
  | .refuse _ => fun E A dm st r _ h => by cases h

theorem dropMarks_af : ∀ (l : List Nat) (st st' : St), dropMarks l st = some st' → AF st st'
  | [], st, st', h => by cases h; exact AF.refl _
  | r :: rs, st, st', h => by
    unfold dropMarks at h
    obtain ⟨b, hb, h1⟩ := ob_some h
    split at h1
    · exact (AF.kill hb).trans (dropMarks_af rs _ _ h1)
    · cases h1
theorem callFn_af {call : CallF} (hc : CallAF call) {f : FuncId} {args : List Value} {st st' : St} {v : Value} (h : callFn P call f args st = some (v, st')) : AF st st' := by
  unfold callFn at h
  obtain ⟨fn, _, h1⟩ := ob_some h
  obtain ⟨c, _, h2⟩ := ob_some h1
  obtain ⟨_, h3⟩ := gd_some h2
  obtain ⟨_, h4⟩ := gd_some h3
  obtain ⟨r, h5, h6⟩ := ob_some h4
  have h7 := evCode_af c _ _ _ _ _ hc h5
  unfold retK at h6
  split at h6
  · cases h6
  · obtain ⟨st1, h8, h9⟩ := ob_some h6
    obtain ⟨l, _, h10⟩ := ob_some h9
    cases h10
    exact h7.trans (dropMarks_af _ _ _ h8)
theorem yieldFn_af {call : CallF} (hc : CallAF call) {l : Nat} {args : List Value} {st st' : St} {v : Value} (h : yieldFn P call l args st = some (v, st')) : AF st st' := by
  unfold yieldFn at h
  obtain ⟨b, _, h1⟩ := ob_some h
  split at h1
  · obtain ⟨_, h2⟩ := gd_some h1
    obtain ⟨_, h3⟩ := gd_some h2
    obtain ⟨r, h4, h5⟩ := ob_some h3
    have h6 := evCode_af _ _ _ _ _ _ hc h4
    unfold roundBody at h5
    split at h5
    · obtain ⟨b2, hb2, h7⟩ := ob_some h5
      split at h7
      · split at h7
        · obtain ⟨r2, h8, h9⟩ := ob_some h7
          have h10 := evCode_af _ _ _ _ _ _ hc h8
          unfold roundK at h9
          split at h9
          · cases h9
          · obtain ⟨b3, hb3, h11⟩ := ob_some h9
            split at h11
            · split at h11 <;> cases h11 <;> exact ((h6.trans (AF.set hb2 _)).trans h10).trans (AF.set hb3 _)
            · cases h11
        · cases h7
      · cases h7
    · cases h5
  · cases h1
theorem AF.nsteps : ∀ (l : List NStep) (st st' : St), nsteps l st = some st' → AF st st'
  | [], st, st', h => by cases h; exact AF.refl st
  | .push b :: l, st, st', h => (AF.push st b).trans (AF.nsteps l (st.push b) st' h)
  | .store a c :: l, st, st', h => by
    have h' : ob (storeN st a c) (Go.Ev.nsteps l) = some st' := h
    obtain ⟨st1, h1, h2⟩ := ob_some h'
    exact (storeN_af h1).trans (AF.nsteps l st1 st' h2)
  | .drop b :: l, st, st', h => by
    have h' : ob (cellsAt st b fun _ _ => some (st.kill b)) (Go.Ev.nsteps l) = some st' := h
    obtain ⟨st1, h1, h2⟩ := ob_some h'
    obtain ⟨n, c, hk, h3⟩ := cellsAt_some h1
    cases h3
    exact (AF.kill hk).trans (AF.nsteps l _ st' h2)
theorem AF.pushes {r : Value × List NStep} {st st' : St} {v : Value} (h : Go.Ev.pushes r st = some (v, st')) : AF st st' := by
  obtain ⟨st1, h1, h2⟩ := ob_some (show ob (Go.Ev.nsteps r.2 st) (fun st => some (r.1, st)) = some (v, st') from h)
  cases h2
  exact AF.nsteps _ _ _ h1
theorem callN_af : ∀ n, CallAF (callN P n)
  | 0 => fun f args st v st' h => by cases h
  | n + 1 => fun f args st v st' h => by
    have h' : callV P (callN P n) f args st = some (v, st') := h
    have hO : ∀ f args, callO P (callN P n) f args st = some (v, st') → AF st st' := fun f args h' => by
      unfold callO at h'
      split at h'
      · cases h'; exact AF.refl _
      · split at h'
        · exact AF.pushes h'
        · exact callFn_af (callN_af n) h'
    unfold callV at h'
    split at h'
    · exact hO _ _ h'
    · exact yieldFn_af (callN_af n) h'
    · unfold methV at h'
      split at h'
      · obtain ⟨g, _, h2⟩ := ob_some h'
        exact hO _ _ h2
      · cases h'
    · cases h'
end Go.Ev
