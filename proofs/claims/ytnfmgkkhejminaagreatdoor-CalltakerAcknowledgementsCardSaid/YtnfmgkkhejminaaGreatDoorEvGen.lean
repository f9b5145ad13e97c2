/-
  A part of the proof that the evaluator answers what the model answers, for every program that follows mixed orders; no other condition.
-/
import Derived.Test.YtnfmgkkhejminaaGreatDoorEvAppend
namespace Go.Ev
set_option linter.unusedSectionVars false
variable [OTab] [OVal]
variable {P : Program} {m : Map} {ρ : Operand → Value} {o : Oper} {v : Value} {st : St} {w : World}

theorem sound_copy (h : Rel P m st w) {A : T Value} {c : Call} {st' : St} (ho : o.op = .call c) (hc : c.callee = .builtin .copy) (ha : ∀ x ∈ c.args.toList, conc m (ev A x) = some (ρ x))
    (hs : copyV P st c.argTypes.toList (c.args.toList.map (ev A)) = some (v, st')) : GenDoes P m st w ρ o v st' := by
  obtain ⟨callee, args, argTypes⟩ := c
  obtain ⟨args⟩ := args
  obtain ⟨argTypes⟩ := argTypes
  simp only at hc ha hs
  subst hc
  unfold copyV at hs
  match argTypes, args, ha, hs, ho with
  | [], _, _, hs, _ => simp at hs
  | _ :: _, [], _, hs, _ => simp at hs
  | _ :: _, [_], _, hs, _ => simp at hs
  | t :: ts, a0 :: b0 :: rest, ha, hs, ho =>
    simp only [List.map_cons] at hs
    obtain ⟨e, he, s1⟩ := ob_some hs
    obtain ⟨size, hsz, s2⟩ := ob_some s1
    obtain ⟨ls, hls, s3⟩ := ob_some s2
    clear hs s1 s2
    have hu := sliceElem_some he
    have hxa := ha a0 (by simp)
    have hxb := ha b0 (by simp)
    have hlenC := lenV_run (P := P) hxb hls w
    split at s3
    · rename_i base dl code ea
      rw [ea] at hxa
      have hdst : ∃ cbase ccap, ρ a0 = .slice cbase dl ccap ∧ (base = none → cbase = none ∧ dl = 0) ∧ ∀ a, base = some a → a.spot.isNone = true → ∃ y, m a.block = some y ∧ cbase = some ⟨y.blk, y.sh + a.off, none⟩ := by
        cases base with
        | none =>
          match dl, code, hxa with
          | 0, 0, hx => exact ⟨none, 0, by simpa [conc] using hx.symm, fun _ => ⟨rfl, rfl⟩, fun a e _ => by cases e⟩
          | 0, _ + 1, hx => simp [conc] at hx
          | _ + 1, _, hx => simp [conc] at hx
        | some a =>
          cases hsp : a.spot with
          | none =>
            obtain ⟨y, hy, _, ex⟩ := conc_slice (by rw [hsp]; rfl) hxa
            exact ⟨_, _, ex, fun e => (by cases e), fun a' e _ => by cases e; exact ⟨y, hy, rfl⟩⟩
          | some _ =>
            obtain ⟨a', c', ex⟩ := conc_slice_some hxa
            exact ⟨_, _, ex, fun e => (by cases e), fun a' e hn => by cases e; rw [hsp] at hn; cases hn⟩
      obtain ⟨cbase, ccap, ex, hnone, hsome⟩ := hdst
      have hexec : ∀ (l : List Value) (w' : World), (Builtin.firstCells size (Nat.min ls dl) (ρ b0)).run P w = .ok ⟨l⟩ w → (match cbase with | some a => storeCells a l | none => pure ()).run P w = .ok () w' →
          (execOp ρ o).run P w = .ok (.value (goInt (Nat.min ls dl))) w' := fun l w' h1 h2 => by
        cases cbase with
        | none =>
          simp at h2
          subst h2
          simp [execOp, ho, resolve, invoke, builtin, Builtin.copy_, run_underlying hu, ex, hlenC, run_sz hsz, h1]
        | some a =>
          simp only at h2
          simp [execOp, ho, resolve, invoke, builtin, Builtin.copy_, run_underlying hu, ex, hlenC, run_sz hsz, h1, h2]
      split at s3
      · rename_i h0
        cases s3
        have hfirst : (Builtin.firstCells size (Nat.min ls dl) (ρ b0)).run P w = .ok ⟨[]⟩ w := by
          cases hb : ρ b0 with
          | slice p k c =>
            cases p with
            | none => simp [Builtin.firstCells]
            | some a => simp [Builtin.firstCells, h0, loadCells, loadCellsFrom]
          | string s => rw [h0]; simp [Builtin.firstCells]
          | _ => rw [hb] at hlenC; simp [Builtin.lenOf] at hlenC
        refine ⟨m, w, _, Step.refl h, conc_int m _ _, .inl (hexec [] w hfirst ?_)⟩
        cases cbase <;> simp [storeCells]
      · rename_i h0
        obtain ⟨cells, hcells, s4⟩ := ob_some s3
        obtain ⟨hcell, s5⟩ := gd_some s4
        obtain ⟨a, ea', s6⟩ := ob_some s5
        obtain ⟨st1, hst, s7⟩ := ob_some s6
        cases s7
        obtain ⟨y, hy, ec⟩ := hsome a ea' (gd_some hst).1
        obtain ⟨cells', hc1, hc2⟩ := firstL_run h hxb hcells
        obtain ⟨w', r1, r2⟩ := storeN_sound (P := P) h hy hc1 hcell hst
        refine ⟨m, w', _, r2, conc_int m _ _, .inl (hexec cells' w' hc2 ?_)⟩
        rw [ec]
        exact r1
    · cases s3

theorem sound_toBytes (h : Rel P m st w) {s d : TypeId} {x : Operand} {u : Value} {st' : St} (hf : Free m st.nxt st'.nxt) (ho : o.op = .convert s d x) (hx : conc m u = some (ρ x)) (hs : toBytes P st s d u = some (v, st')) : GenDoes P m st w ρ o v st' := by
  unfold toBytes at hs
  split at hs
  · rename_i e b h1 h2
    split at hs
    · rename_i he
      cases hs
      have hu8 : P.underlying e = some (.int .u8) := he
      rw [conc_string] at hx
      have ex := (Option.some.inj hx).symm
      let q := b.size + w.tape w.drawn (.appendCap b.size 0 e) % (2 ^ 63 - b.size)
      let l : List Value := b.data.toList.map fun y => .int .u8 y.toNat
      let arr : List Value := List.replicate (q - b.size) (.int .u8 0)
      have hlen : l.length = b.size := by simp [l]
      have hlc : concL m l = some l := concL_map _ _ _ (fun y _ => conc_int m _ _)
      have hq : b.size ≤ q := Nat.le_add_right _ _
      have hsize : (l ++ arr).length = q := by simp only [List.length_append, hlen, arr, List.length_replicate]; omega
      let obj : Obj := .cells ⟨l ++ arr⟩ e (q, q + 1)
      let w' : World := { w with drawn := w.drawn + 1, heap := w.heap.push obj }
      refine gen_push (lim := q) (obj := obj) (f := fun B => .slice (some ⟨B, 0, none⟩) b.size q) h (hf _ (Nat.le_refl _) (Nat.lt_succ_self _)) (fun m' hsub hb => ⟨?_, fun w2 hw2 => ?_⟩) (w' := w') rfl rfl rfl rfl ?_
      · rw [conc_slice' hb]
        simp [capC]
      · refine ⟨⟨l ++ arr⟩, e, q, q + 1, hw2, by show 0 + q ≤ (l ++ arr).length; omega, hq, fun _ i hi => by have : i < (l ++ arr).length := hi; omega, fun i hi => ?_, fun ht => ⟨fun k t e' => by (rw [((reads_fill l).2 (by omega)).1] at e'; cases e'), fun k t e' => by (rw [((reads_fill l).2 (by omega)).2] at e'; cases e')⟩⟩
        have hi' : i < l.length := by omega
        refine ⟨l[i], l[i], ?_, ?_, ?_⟩
        · rw [(reads_fill l).1 i hi', List.getElem?_eq_getElem hi']
        · obtain ⟨cv, c1, c2⟩ := concL_get hlc i _ (List.getElem?_eq_getElem hi')
          rw [List.getElem?_eq_getElem hi'] at c2
          cases c2
          exact conc_mono hsub _ _ c1
        · have : (l ++ arr)[i]? = some l[i] := by rw [List.getElem?_append_left hi', List.getElem?_eq_getElem hi']
          simpa using this
      · have e0 : q - b.size = w.tape w.drawn (.appendCap b.size 0 e) % (2 ^ 63 - b.size) := Nat.add_sub_cancel_left _ _
        have hC : Array.map (fun b => Value.int IntKind.u8 (b.toNat : Int)) b.data ++ Array.replicate (w.tape w.drawn (Question.appendCap b.size 0 e) % (9223372036854775808 - b.size)) (Value.int IntKind.u8 0) = ⟨l ++ arr⟩ := by
          apply Array.ext'
          simp [l, arr, e0]
        have hsh : (w.drew.alloc (.cells ⟨l ++ arr⟩ e)).shape? w.heap.size = some (e, q) := by
          have : (w.drew.alloc (.cells ⟨l ++ arr⟩ e)).heap[w.heap.size]? = some (.cells ⟨l ++ arr⟩ e (0, 0)) := by
            show (w.heap.push _)[w.heap.size]? = _
            simp
          simp only [World.shape?, this]
          simp only [List.size_toArray, hsize]
        have hfr : (freeze { block := w.heap.size, off := q } 1).run P (w.drew.alloc (.cells ⟨l ++ arr⟩ e)) = .ok () w' := by
          show (Sem.freeze { block := w.heap.size, off := q } 1 (.pure ())).run P _ = _
          simp only [Sem.run]
          congr 1
          show ({ (w.drew.alloc (.cells ⟨l ++ arr⟩ e)) with heap := _ } : World) = w'
          have hh : ((w.drew.alloc (.cells ⟨l ++ arr⟩ e)).freeze { block := w.heap.size, off := q } 1).heap = w.heap.push obj := by
            apply Array.ext'
            apply List.ext_getElem?
            intro i
            simp only [World.freeze, Nat.one_ne_zero, if_false]
            have hp : (w.drew.alloc (Obj.cells ⟨l ++ arr⟩ e)).heap = w.heap.push (.cells ⟨l ++ arr⟩ e) := rfl
            rw [hp]
            simp only [Array.getElem?_toList, Array.getElem?_modify]
            by_cases hi : w.heap.size = i
            · subst hi
              simp [obj]
            · rw [if_neg hi, Array.getElem?_push, Array.getElem?_push, if_neg (Ne.symm hi), if_neg (Ne.symm hi)]
          have := hh
          simp only [World.freeze, Nat.one_ne_zero, if_false] at this ⊢
          show ({ (w.drew.alloc (.cells ⟨l ++ arr⟩ e)) with heap := _ } : World) = w'
          rw [this]
          rfl
        simp [execOp, ho, convert, ex, run_underlying h1, run_underlying h2, run_underlying hu8, Conv.stringToBytes, choose, Sem.run, Question.forced, Question.cut, newRow, markStringish]
        rw [hC, hsh]
        simp only
        rw [hfr]
        rfl
    · cases hs
  · cases hs

/-- EVERY OPERATION OF CLASS 3 that is no call of a Go function -/
theorem gen_sound (h : Rel P m st w) {A : T Value} {E : Env} {st' : St} (hf : Free m st.nxt st'.nxt) (hcall : ∀ c f, o.op = .call c → c.callee = .value f → False) (hinv : ∀ c r n, o.op = .call c → c.callee = .invoke r n → False) (hops : ∀ x ∈ o.op.operands.toList, conc m (ev A x) = some (ρ x)) (he : evGen o.op P E A st = some (v, st')) : GenDoes P m st w ρ o v st' := by
  have hh : ∀ op, o.op = op → (∀ x ∈ op.operands.toList, conc m (ev A x) = some (ρ x)) → evGen op P E A st = some (v, st') → GenDoes P m st w ρ o v st' := by
    intro op ho hops he
    cases op with
    | store t a x => exact sound_store h ho (hops a (by simp [Op.operands])) (hops x (by simp [Op.operands])) he
    | mapUpdate t mo k x => exact sound_upd h (.inl ho) (hops mo (by simp [Op.operands])) (hops k (by simp [Op.operands])) (hops x (by simp [Op.operands])) he
    | insert t mo k x => exact sound_upd h (.inr ho) (hops mo (by simp [Op.operands])) (hops k (by simp [Op.operands])) (hops x (by simp [Op.operands])) he
    | range t x => exact sound_range h hf ho (hops x (by simp [Op.operands])) he
    | next it s => exact sound_next h ho (hops it (by simp [Op.operands])) he
    | convert s d x => exact sound_toBytes h hf ho (hops x (by simp [Op.operands])) he
    | call c =>
      have he' : callGen P c E A st = some (v, st') := he
      have ha : ∀ x ∈ c.args.toList, conc m (ev A x) = some (ρ x) := fun x hx => hops x (by simp [Op.operands, Call.operands] at hx ⊢; exact .inr hx)
      unfold callGen at he'
      split at he'
      · rename_i f hc; exact (hcall c f ho hc).elim
      · rename_i r n hc; exact (hinv c r n ho hc).elim
      · rename_i hc; exact sound_append h hf ho hc ha he'
      · rename_i hc; exact sound_copy h ho hc ha he'
      · rename_i hc; exact sound_delete h ho hc ha he'
      · cases he'
    | _ => cases he
  exact hh o.op rfl hops he
end Go.Ev
