/-
  A part of the proof that the evaluator answers what the model answers, for every program that follows mixed orders; no other condition.
-/
import Derived.Test.YtnfmgkkhejminaaGreatDoorEvNew
namespace Go.Ev
set_option linter.unusedSectionVars false
variable [OTab] [OVal]
variable {P : Program} {m : Map} {ρ : Operand → Value} {o : Oper} {v : Value} {st : St} {w : World}

theorem cellsB_some {β : Type} {k : Nat → T Value → Option β} {x : Blk} {r : β} (h : cellsB k x = some r) : ∃ n c, x = .cells n c ∧ k n c = some r := by
  cases x with
  | cells n c => exact ⟨n, c, rfl, h⟩
  | _ => cases h
theorem cellsAt_some {β : Type} {b : Nat} {k : Nat → T Value → Option β} {r : β} (h : cellsAt st b k = some r) : ∃ n c, st.mem.get b = some (.cells n c) ∧ k n c = some r := by
  obtain ⟨x, hx, h⟩ := ob_some h
  obtain ⟨n, c, rfl, h⟩ := cellsB_some h
  exact ⟨n, c, hx, h⟩
theorem takeT_some {c : T Value} : ∀ (n i : Nat) (l : List Value), takeT c n i = some l → l.length = n ∧ ∀ j, j < n → c.get (i + j) = l[j]?
  | 0, i, l, h => by
    have h' : some [] = some l := h
    cases h'
    exact ⟨rfl, fun j hj => by omega⟩
  | n + 1, i, l, h => by
    have h' : (ob (c.get i) fun v => ob (takeT c n (i + 1)) fun l => some (v :: l)) = some l := h
    obtain ⟨v, hv, h1⟩ := ob_some h'
    obtain ⟨r, hr, h2⟩ := ob_some h1
    cases h2
    obtain ⟨h3, h4⟩ := takeT_some n (i + 1) r hr
    refine ⟨by simp [h3], fun j hj => ?_⟩
    cases j with
    | zero => simpa using hv
    | succ j => rw [show i + (j + 1) = i + 1 + j from by omega]; simpa using h4 j (by omega)

theorem isNone_spot {a : Addr} (h : a.spot.isNone = true) : a = ⟨a.block, a.off, none⟩ := by
  obtain ⟨b, o, s⟩ := a
  cases s with
  | none => rfl
  | some _ => cases h

/-- a block of cells in the world -/
theorem rel_cells (h : Rel P m st w) {b n : Nat} {c : T Value} {x : M} (hb : m b = some x) (hk : st.mem.get b = some (.cells n c)) : ∃ (arr : Array Value) (e : TypeId) (lo hi : Nat),
    w.heap[x.blk]? = some (.cells arr e (lo, hi)) ∧ x.sh + x.lim ≤ arr.size ∧ n ≤ x.lim ∧ ((c.get roI).isNone = true → ∀ i, i < arr.size → ¬ (lo ≤ i ∧ i < hi)) ∧ (∀ i, i < n → ∃ v cv, c.get i = some v ∧ conc m v = some cv ∧ arr[x.sh + i]? = some cv) ∧ Tagged n c e x.sh arr.size := h.blks b x _ hb hk

theorem load1_sound (h : Rel P m st w) {a : Addr} {x : M} (hx : m a.block = some x) (hl : load1 st a = some v) : ∃ cv, conc m v = some cv ∧ w.cell? ⟨x.blk, x.sh + a.off, none⟩ = some cv := by
  unfold load1 at hl
  obtain ⟨_, h1⟩ := gd_some hl
  obtain ⟨n, c, hk, h2⟩ := cellsAt_some h1
  obtain ⟨hlt, h3⟩ := gd_some h2
  have hlt' : a.off < n := by simp [Nat.blt] at hlt; omega
  obtain ⟨arr, e, lo, hi, g1, _, _, _, g5, _⟩ := rel_cells h hx hk
  obtain ⟨v', cv, g6, g7, g8⟩ := g5 a.off hlt'
  rw [h3] at g6
  cases g6
  exact ⟨cv, g7, by simp [World.cell?, g1, g8]⟩

theorem loadN_sound (h : Rel P m st w) {a : Addr} {x : M} {n : Nat} {l : List Value} (hx : m a.block = some x) (hl : loadN st a n = some l) :
    ∃ l', concL m l = some l' ∧ l.length = n ∧ (∀ j cv, l'[j]? = some cv → w.cell? ⟨x.blk, x.sh + a.off + j, none⟩ = some cv) ∧ (loadCells ⟨x.blk, x.sh + a.off, none⟩ n).run P w = .ok ⟨l'⟩ w := by
  unfold loadN at hl
  obtain ⟨_, h1⟩ := gd_some hl
  obtain ⟨k, c, hk, h2⟩ := cellsAt_some h1
  obtain ⟨hle, h3⟩ := gd_some h2
  have hle' : a.off + n ≤ k := Nat.le_of_ble_eq_true hle
  obtain ⟨hlen, hget⟩ := takeT_some n a.off l h3
  obtain ⟨arr, e, lo, hi, g1, _, _, _, g5, _⟩ := rel_cells h hx hk
  have key : ∀ (r : List Value) (i : Nat), (∀ j, j < r.length → ∃ cv, conc m (r[j]?.getD undef) = some cv ∧ w.cell? ⟨x.blk, x.sh + a.off + (i + j), none⟩ = some cv) → ∃ r', concL m r = some r' ∧ ∀ j cv, r'[j]? = some cv → w.cell? ⟨x.blk, x.sh + a.off + (i + j), none⟩ = some cv := by
    intro r
    induction r with
    | nil => intro i _; exact ⟨[], by simp, fun j cv hj => by simp at hj⟩
    | cons u r ih =>
      intro i hr
      obtain ⟨cv, h1, h2⟩ := hr 0 (by simp)
      obtain ⟨r', h3, h4⟩ := ih (i + 1) (fun j hj => by
        have := hr (j + 1) (by simp; omega)
        simpa [Nat.add_assoc, Nat.add_comm 1 j] using this)
      refine ⟨cv :: r', concL_cons' (by simpa using h1) h3, fun j cv' hj => ?_⟩
      cases j with
      | zero => simp at hj; subst hj; simpa using h2
      | succ j => have := h4 j cv' (by simpa using hj); simpa [Nat.add_assoc, Nat.add_comm 1 j] using this
  obtain ⟨l', hl', hc⟩ := key l 0 (fun j hj => by
    obtain ⟨v', cv, g6, g7, g8⟩ := g5 (a.off + j) (by omega)
    rw [hget j (by omega)] at g6
    refine ⟨cv, by simpa [g6] using g7, ?_⟩
    have g9 : arr[x.sh + a.off + j]? = some cv := by rw [Nat.add_assoc]; exact g8
    simp [World.cell?, g1, g9])
  refine ⟨l', hl', hlen, fun j cv hj => by simpa using hc j cv hj, ?_⟩
  have hl2 := concL_len hl'
  have := run_loadCells_list (P := P) w ⟨x.blk, x.sh + a.off, none⟩ l' (fun j cv hj => by rw [add_eq]; simpa using hc j cv hj)
  rw [hl2, hlen] at this
  exact this

theorem loadV_sound (h : Rel P m st w) {t : TypeId} {a : Addr} {c : Value} (hc : conc m (.pointer (some a)) = some c) (hl : loadV P st t a = some v) : ∃ cv, conc m v = some cv ∧ ∃ b, c = .pointer (some b) ∧ (loadVar t b).run P w = .ok cv w := by
  obtain ⟨x, hx, _, rfl⟩ := conc_pointer hc
  unfold loadV at hl
  obtain ⟨g, hg, h1⟩ := ob_some hl
  cases g with
  | false =>
    simp only [bsel_false] at h1
    obtain ⟨cv, h2, h3⟩ := load1_sound h hx h1
    exact ⟨cv, h2, _, rfl, by simp [loadVar, run_aggT hg, h3]⟩
  | true =>
    simp only [bsel_true] at h1
    unfold loadAg at h1
    obtain ⟨n, hn, h2⟩ := ob_some h1
    obtain ⟨l, hl', h3⟩ := ob_some h2
    cases h3
    obtain ⟨l', g1, _, _, g2⟩ := loadN_sound h hx hl'
    exact ⟨.agg ⟨l'⟩, conc_agg' g1, _, rfl, by simp [loadVar, run_aggT hg, run_sz hn, g2]⟩

/-! ## maps -/
theorem mapAt_some {β : Type} {b : Nat} {k : List MapEntry → Nat → Option β} {r : β} (h : mapAt st b k = some r) : ∃ es clock, st.mem.get b = some (.map es clock) ∧ k es clock = some r := by
  obtain ⟨x, hx, h⟩ := ob_some h
  cases x with
  | map es clock => exact ⟨es, clock, hx, h⟩
  | _ => cases h
theorem concE_cons {e : MapEntry} {r c : List MapEntry} (h : concE m (e :: r) = some c) : ∃ k u r', conc m e.key = some k ∧ conc m e.val = some u ∧ concE m r = some r' ∧ c = { key := k, val := u, born := e.born } :: r' := by
  simp only [concE] at h
  split at h
  · rename_i k u r' h1 h2 h3; cases h; exact ⟨k, u, r', h1, h2, h3, rfl⟩
  · cases h

/-- the key, and that it is one of the plain kinds -/
theorem keyDesc_some {kt : TypeId} {k ck : Value} (h : keyDesc P kt k = true) (hk : conc m k = some ck) : ck = k ∧ ∃ d, P.underlying kt = some d ∧
    ((∃ i q n, d = .int i ∧ k = .int q n) ∨ (∃ s, d = .string ∧ k = .string s) ∨ (∃ b, d = .bool ∧ k = .bool b)) := by
  unfold keyDesc at h
  split at h
  · rename_i i q n hu; rw [conc_int] at hk; cases hk; exact ⟨rfl, _, hu, .inl ⟨i, q, n, rfl, rfl⟩⟩
  · rename_i s hu; rw [conc_string] at hk; cases hk; exact ⟨rfl, _, hu, .inr (.inl ⟨s, rfl, rfl⟩)⟩
  · rename_i b hu; rw [conc_bool] at hk; cases hk; exact ⟨rfl, _, hu, .inr (.inr ⟨b, rfl, rfl⟩)⟩
  · cases h
theorem run_checkKey1 {kt : TypeId} {k : Value} {e : Bool} {d : TypeDesc} (n : Nat) (hu : P.underlying kt = some d) (hk : (∃ i q n, d = .int i ∧ k = .int q n) ∨ (∃ s, d = .string ∧ k = .string s) ∨ (∃ b, d = .bool ∧ k = .bool b)) (w : World) :
    (Instr.checkKey e (n + 1) kt k).run P w = .ok () w := by
  rcases hk with ⟨i, q, n, rfl, rfl⟩ | ⟨s, rfl, rfl⟩ | ⟨b, rfl, rfl⟩ <;> simp [Instr.checkKey, run_underlying hu]
theorem run_checkKey {kt : TypeId} {k : Value} {e : Bool} {d : TypeDesc} (hu : P.underlying kt = some d) (hk : (∃ i q n, d = .int i ∧ k = .int q n) ∨ (∃ s, d = .string ∧ k = .string s) ∨ (∃ b, d = .bool ∧ k = .bool b)) (w : World) :
    (Instr.checkKey e 10000 kt k).run P w = .ok () w := run_checkKey1 9999 hu hk w
theorem sameNow_of {d : TypeDesc} {k k' : Value} {b : Bool} (hk : (∃ i q n, d = .int i ∧ k = .int q n) ∨ (∃ s, d = .string ∧ k = .string s) ∨ (∃ b, d = .bool ∧ k = .bool b)) (h : eqS k k' = some b) : Instr.sameNow d k k' = some b := by
  rcases hk with ⟨i, q, n, rfl, rfl⟩ | ⟨s, rfl, rfl⟩ | ⟨b', rfl, rfl⟩
  · cases k' with
    | int q' n' =>
      simp only [eqS] at h
      split at h
      · rename_i e; cases h; subst e; simp [Instr.sameNow, eqI_eq]
      · cases h
    | _ => simp [eqS] at h
  · cases k' with
    | string s' => simp only [eqS] at h; cases h; rw [data_beq]; rfl
    | _ => simp [eqS] at h
  · cases k' with
    | bool s' => simp only [eqS] at h; cases h; simp [Instr.sameNow]
    | _ => simp [eqS] at h
theorem findM_sound {d : TypeDesc} {k : Value} (hkc : conc m k = some k) (hk : (∃ i q n, d = .int i ∧ k = .int q n) ∨ (∃ s, d = .string ∧ k = .string s) ∨ (∃ b, d = .bool ∧ k = .bool b)) :
    ∀ (es ces : List MapEntry) (i : Nat) (r : Option (Nat × Value)), concE m es = some ces → findM k es i = some r →
      ∃ cr, Instr.findNow d k ces i = some cr ∧ ((r = none ∧ cr = none) ∨ ∃ j u cu, r = some (j, u) ∧ cr = some (j, cu) ∧ conc m u = some cu ∧ i ≤ j ∧ j < i + es.length ∧ ∃ ke, es[j - i]? = some ke ∧ eqS k ke.key = some true)
  | [], ces, i, r, hc, h => by
    simp [concE] at hc; subst hc
    simp [findM] at h; subst h
    exact ⟨none, rfl, .inl ⟨rfl, rfl⟩⟩
  | e :: es, ces, i, r, hc, h => by
    obtain ⟨ck, cu, cr, h1, h2, h3, rfl⟩ := concE_cons hc
    simp only [findM] at h
    obtain ⟨b, hb, h⟩ := ob_some h
    have hb' := eqS_conc hkc h1 hb
    have hs := sameNow_of hk hb'
    cases b with
    | true =>
      simp at h
      subst h
      refine ⟨some (i, cu), by simp [Instr.findNow, hs], .inr ⟨i, e.val, cu, rfl, rfl, h2, Nat.le_refl _, by simp, e, by simp, hb⟩⟩
    | false =>
      simp at h
      obtain ⟨cr', h4, h5⟩ := findM_sound hkc hk es cr (i + 1) r h3 h
      refine ⟨cr', by simp [Instr.findNow, hs, h4], ?_⟩
      rcases h5 with h5 | ⟨j, u, cu', e1, e2, e3, e4, e5, ke, e6, e7⟩
      · exact .inl h5
      · refine .inr ⟨j, u, cu', e1, e2, e3, by omega, by simp; omega, ke, ?_, e7⟩
        rw [show j - i = (j - (i + 1)) + 1 from by omega]
        simpa using e6
theorem run_findKey {d : TypeDesc} {kt : TypeId} {k : Value} {ces : List MapEntry} {cr : Option (Nat × Value)} (hu : P.underlying kt = some d) (h : Instr.findNow d k ces 0 = some cr) (w : World) : (Instr.findKey kt k ces).run P w = .ok cr w := by
  simp [Instr.findKey, run_underlying hu, h]

theorem rel_map (h : Rel P m st w) {b clock : Nat} {es : List MapEntry} {x : M} (hb : m b = some x) (hk : st.mem.get b = some (.map es clock)) : x.sh = 0 ∧ ∃ ces : List MapEntry, w.heap[x.blk]? = some (.map ⟨ces⟩ clock) ∧ concE m es = some ces := h.blks b x _ hb hk

theorem conc_map_some {r : Nat} {c : Value} (h : conc m (.map (some r)) = some c) : ∃ x, m r = some x ∧ c = .map (some x.blk) := by
  simp only [conc, Option.map_eq_some_iff] at h
  obtain ⟨x, hx, rfl⟩ := h
  exact ⟨x, hx, rfl⟩

theorem run_getObj {B : Nat} {ob : Obj} (h : w.heap[B]? = some ob) (hn : ∀ c e f, ob ≠ .cells c e f) : (getObj B).run P w = .ok ob w := by
  show (Sem.getObj B Sem.pure).run P w = _
  simp only [Sem.run]
  rw [h]
  cases ob with
  | cells c e f => exact absurd rfl (hn c e f)
  | _ => rfl
theorem run_setObj {B : Nat} {ob ob' : Obj} (h : w.heap[B]? = some ob) (hn : ∀ c e f, ob ≠ .cells c e f) : (setObj B ob').run P w = .ok () { w with heap := w.heap.setIfInBounds B ob' } := by
  show (Sem.setObj B ob' (Sem.pure ())).run P w = _
  simp only [Sem.run]
  rw [h]
  cases ob with
  | cells c e f => exact absurd rfl (hn c e f)
  | _ => rfl

theorem sound_lookup (h : Rel P m st w) {t : TypeId} {x k : Operand} {ok : Bool} {u z : Value} (ho : o.op = .lookup t x k ok) (hx : conc m u = some (ρ x)) (hk : conc m z = some (ρ k)) (hl : lookupV P st t u z ok = some v) :
    ∃ cv, conc m v = some cv ∧ (execOp ρ o).run P w = .ok (.value cv) w := by
  unfold lookupV at hl
  obtain ⟨kv, hkv, h1⟩ := ob_some hl
  obtain ⟨hd, h2⟩ := gd_some h1
  obtain ⟨es, hes, h3⟩ := ob_some h2
  obtain ⟨r, hr, h4⟩ := ob_some h3
  obtain ⟨p, hp, h5⟩ := ob_some h4
  clear hl h1 h2 h3 h4
  obtain ⟨ek, d, hu, hkd⟩ := keyDesc_some hd hk
  have hkc : conc m z = some z := ek ▸ hk
  have hum := mapKV_some hkv
  have hent : ∃ ces, concE m es = some ces ∧ ((ρ x = .map none ∧ ces = []) ∨ ∃ B clock, ρ x = .map (some B) ∧ w.heap[B]? = some (.map ⟨ces⟩ clock)) := by
    unfold entriesOf at hes
    split at hes
    · cases hes
      exact ⟨[], rfl, .inl ⟨by simpa [conc] using hx.symm, rfl⟩⟩
    · obtain ⟨es', clock, g1, g2⟩ := mapAt_some hes
      cases g2
      obtain ⟨y, hy, e⟩ := conc_map_some hx
      obtain ⟨_, ces, g3, g4⟩ := rel_map h hy g1
      exact ⟨ces, g4, .inr ⟨y.blk, clock, e, g3⟩⟩
    · cases hes
  obtain ⟨ces, hces, hmem⟩ := hent
  obtain ⟨cr, hf, hcr⟩ := findM_sound hkc hkd es ces 0 r hces hr
  have hrun := run_findKey (P := P) hu hf w
  have hchk := fun e => run_checkKey (P := P) (e := e) hu hkd w
  have hval : ∃ cp : Value × Bool, conc m p.1 = some cp.1 ∧ cp.2 = p.2 ∧ ((cr = none ∧ (zeroValue kv.2).run P w = .ok cp.1 w ∧ p.2 = false) ∨ (∃ j, cr = some (j, cp.1) ∧ p.2 = true)) := by
    rcases hcr with ⟨rfl, rfl⟩ | ⟨j, a, ca, rfl, rfl, e3, _⟩
    · simp only [foundOr] at hp
      obtain ⟨q, hq, hp⟩ := ob_some hp
      cases hp
      exact ⟨(q, false), (zeroP_some hq).2 m, rfl, .inl ⟨rfl, run_zeroP hq w, rfl⟩⟩
    · simp only [foundOr] at hp
      cases hp
      exact ⟨(ca, true), e3, rfl, .inr ⟨j, rfl, rfl⟩⟩
  obtain ⟨cp, hcp, hcp2, hcp3⟩ := hval
  cases h5
  refine ⟨if ok then .tuple ⟨[cp.1, .bool cp.2]⟩ else cp.1, ?_, ?_⟩
  · cases ok with
    | false => simpa using hcp
    | true => simp only [if_true]; exact conc_tuple' (concL_cons' hcp (concL_cons' (by rw [hcp2]; exact conc_bool m _) (concL_nil m)))
  · have ekρ : ρ k = z := ek
    rcases hmem with ⟨e1, rfl⟩ | ⟨B, clock, e1, e2⟩
    · rcases hcp3 with ⟨rfl, hz, hb⟩ | ⟨j, rfl, hb⟩
      · simp [execOp, ho, Instr.lookup, run_underlying hum, e1, ekρ, hchk, hrun, hz, hcp2, hb]
      · simp [execOp, ho, Instr.lookup, run_underlying hum, e1, ekρ, hchk, hrun, hcp2, hb]
    · have hg := run_getObj (P := P) e2 (by intros; simp)
      rcases hcp3 with ⟨rfl, hz, hb⟩ | ⟨j, rfl, hb⟩
      · simp [execOp, ho, Instr.lookup, run_underlying hum, e1, ekρ, hchk, hrun, hz, hcp2, hb, hg]
      · simp [execOp, ho, Instr.lookup, run_underlying hum, e1, ekρ, hchk, hrun, hcp2, hb, hg]

theorem sound_load (h : Rel P m st w) {t : TypeId} {a : Operand} {u : Value} (ho : o.op = .load t a) (ha : conc m u = some (ρ a)) (hl : ob (asP u) (loadV P st t) = some v) : ∃ cv, conc m v = some cv ∧ (execOp ρ o).run P w = .ok (.value cv) w := by
  obtain ⟨ad, h1, h2⟩ := ob_some hl
  have := asP_some h1
  subst this
  obtain ⟨cv, h3, b, h4, h5⟩ := loadV_sound h ha h2
  exact ⟨cv, h3, by simp [execOp, ho, Instr.loadAt, h4, Instr.sureAddr, h5]⟩

theorem rel_iter (h : Rel P m st w) {b since stepped : Nat} {mp : Option Nat} {seen : List Nat} {x : M} (hb : m b = some x) (hk : st.mem.get b = some (.iter mp since seen stepped)) : x.sh = 0 ∧ ∃ cmp, w.heap[x.blk]? = some (.mapIter cmp since ⟨seen⟩ stepped) ∧ iterOf m mp = some cmp := h.blks b x _ hb hk

theorem concE_find {stamp : Nat} : ∀ {es ces : List MapEntry} {e : MapEntry}, concE m es = some ces → es.find? (·.born == stamp) = some e → ∃ k u, conc m e.key = some k ∧ conc m e.val = some u ∧ ces.find? (·.born == stamp) = some { key := k, val := u, born := e.born }
  | [], _, _, _, h => by simp at h
  | a :: es, _, e, hc, h => by
    obtain ⟨k, u, r, h1, h2, h3, rfl⟩ := concE_cons hc
    by_cases hb : a.born == stamp
    · rw [List.find?_cons_of_pos (by exact hb)] at h
      cases h
      exact ⟨k, u, h1, h2, by rw [List.find?_cons_of_pos (by exact hb)]⟩
    · rw [List.find?_cons_of_neg (by exact hb)] at h
      obtain ⟨k', u', g1, g2, g3⟩ := concE_find h3 h
      exact ⟨k', u', g1, g2, by rw [List.find?_cons_of_neg (by exact hb)]; exact g3⟩

theorem sound_entry (h : Rel P m st w) {it : Operand} {u : Value} (ho : o.op = .entry it) (hx : conc m u = some (ρ it)) (hl : entryV st u = some v) : ∃ cv, conc m v = some cv ∧ (execOp ρ o).run P w = .ok (.value cv) w := by
  unfold entryV at hl
  split at hl
  · rename_i r
    obtain ⟨b, hb, h1⟩ := ob_some hl
    split at h1
    · rename_i mp since seen stepped
      obtain ⟨stamp, hs, h2⟩ := ob_some h1
      obtain ⟨es, clock, hm, h3⟩ := mapAt_some h2
      obtain ⟨hc, h4⟩ := gd_some h3
      obtain ⟨e, he, h5⟩ := ob_some h4
      cases h5
      obtain ⟨x, hx1, _, e1⟩ := conc_pointer hx
      obtain ⟨x0, cmp, g1, g2⟩ := rel_iter h hx1 hb
      simp only [iterOf, Option.map_eq_some_iff] at g2
      obtain ⟨y, hy, rfl⟩ := g2
      obtain ⟨_, ces, g3, g4⟩ := rel_map h hy hm
      obtain ⟨k, u, q1, q2, q3⟩ := concE_find g4 he
      have hc' : clock = stepped := by simpa using hc
      subst hc'
      have o1 := run_getObj (P := P) g1 (by intros; simp)
      have o2 := run_getObj (P := P) g3 (by intros; simp)
      have hs' : (Array.mk seen).back? = some stamp := by simpa [Array.back?, List.getLast?_eq_getElem?] using hs
      have q3' : Array.find? (fun x => x.born == stamp) ⟨ces⟩ = some { key := k, val := u, born := e.born } := by simpa using q3
      refine ⟨.tuple ⟨[k, u]⟩, conc_tuple' (concL_cons' q1 (concL_cons' q2 (concL_nil m))), ?_⟩
      simp only [Nat.add_zero] at e1
      rw [x0] at e1
      simp [execOp, ho, Instr.entry, e1, o1, hs', o2, q3']
    · cases h1
  · cases hl

theorem bytesL_sound {f : Value → ByteArray → Sem (ForInStep ByteArray)} (hf : ∀ n s, f (.int .u8 n) s = pure (.yield (s.push (UInt8.ofNat n.toNat)))) : ∀ {l : List Value} {bs : List UInt8}, bytesL l = some bs → ∀ l', concL m l = some l' →
    l' = l ∧ (∀ s : ByteArray, (forIn l s f : Sem ByteArray).run P w = .ok ⟨⟨s.data.toList ++ bs⟩⟩ w)
  | [], _, h, l', hc => by
    simp [bytesL] at h; subst h
    simp at hc; subst hc
    exact ⟨rfl, fun s => by simp⟩
  | v :: l, bs, h, l', hc => by
    cases v with
    | int k n =>
      cases k with
      | u8 =>
        simp only [bytesL] at h
        obtain ⟨bs', h1, h2⟩ := ob_some h
        cases h2
        obtain ⟨a, b, g1, g2, rfl⟩ := concL_cons hc
        rw [conc_int] at g1
        cases g1
        obtain ⟨rfl, ih⟩ := bytesL_sound hf h1 b g2
        refine ⟨rfl, fun s => ?_⟩
        have := ih (s.push (UInt8.ofNat n.toNat))
        simp only [List.forIn_cons, Sem.run_bind, hf]
        simp at this ⊢
        rw [this]
      | _ => simp [bytesL] at h
    | _ => simp [bytesL] at h

theorem sound_toStr (h : Rel P m st w) {s d : TypeId} {x : Operand} {u : Value} (ho : o.op = .convert s d x) (hx : conc m u = some (ρ x)) (hl : toStr P st s d u = some v) : ∃ cv, conc m v = some cv ∧ (execOp ρ o).run P w = .ok (.value cv) w := by
  unfold toStr at hl
  split at hl
  · rename_i e h1 h2
    split at hl
    · rename_i he
      cases hl
      have hu8 : P.underlying e = some (.int .u8) := he
      have ex : ρ x = .slice none 0 0 := by simpa [conc] using hx.symm
      refine ⟨_, conc_string m _, ?_⟩
      simp [execOp, ho, convert, ex, run_underlying h1, run_underlying h2, run_underlying hu8, Conv.bytesToString]
      rfl
    · cases hl
  · rename_i e a len code h1 h2
    split at hl
    · rename_i he
      have hu8 : P.underlying e = some (.int .u8) := he
      simp only [if_true] at hl
      obtain ⟨l, hl1, h3⟩ := ob_some hl
      obtain ⟨bs, hbs, h4⟩ := ob_some h3
      cases h4
      obtain ⟨b, off, sp⟩ := a
      cases sp with
      | some _ => have := (gd_some hl1).1; cases this
      | none =>
        simp only [conc, Option.map_eq_some_iff] at hx
        obtain ⟨y, hy, ex⟩ := hx
        obtain ⟨l', g1, g2, _, g3⟩ := loadN_sound h hy hl1
        refine ⟨_, conc_string m _, ?_⟩
        simp [execOp, ho, convert, ← ex, run_underlying h1, run_underlying h2, run_underlying hu8, Conv.bytesToString, g3]
        generalize hF : (fun (c : Value) (s : ByteArray) => (match c with
            | Value.int IntKind.u8 n => pure (ForInStep.yield (s.push (UInt8.ofNat n.toNat)))
            | x => (fun _ => ForInStep.yield s) <$> stuck "bytesToString: byte expected" : Sem (ForInStep ByteArray))) = F
        obtain ⟨rfl, g4⟩ := bytesL_sound (P := P) (w := w) (m := m) (f := F) (fun n s => by rw [← hF]) hbs l' g1
        rw [g4]
        simp
    · cases hl
  · cases hl

theorem concE_len : ∀ {es ces : List MapEntry}, concE m es = some ces → ces.length = es.length
  | [], _, h => by simp [concE] at h; subst h; rfl
  | e :: es, _, h => by
    obtain ⟨k, u, r, h1, h2, h3, rfl⟩ := concE_cons h
    simp [concE_len h3]

theorem sound_lenMap (h : Rel P m st w) {A : T Value} {c : Call} (ho : o.op = .call c) (hc : c.callee = .builtin .len) (ha : ∀ x ∈ c.args.toList, conc m (ev A x) = some (ρ x))
    (hl : lenMap P st c.argTypes.toList (c.args.toList.map (ev A)) = some v) : ∃ cv, conc m v = some cv ∧ (execOp ρ o).run P w = .ok (.value cv) w := by
  obtain ⟨callee, args, argTypes⟩ := c
  obtain ⟨args⟩ := args
  obtain ⟨argTypes⟩ := argTypes
  simp only at hc ha hl
  subst hc
  unfold lenMap at hl
  cases args with
  | nil => simp at hl
  | cons x xs =>
    simp only [List.map_cons] at hl
    obtain ⟨hm, h1⟩ := gd_some hl
    obtain ⟨es, hes, h2⟩ := ob_some h1
    cases h2
    have hx := ha x (by simp)
    unfold isMapT at hm
    cases argTypes with
    | nil => cases hm
    | cons t ts =>
      simp only at hm
      obtain ⟨kv, hkv⟩ := Option.isSome_iff_exists.1 hm
      have hu := mapKV_some hkv
      refine ⟨_, conc_int m _ _, ?_⟩
      unfold entriesOf at hes
      split at hes
      · rename_i e
        cases hes
        rw [e] at hx
        have ex : ρ x = .map none := by simpa [conc] using hx.symm
        simp [execOp, ho, resolve, invoke, builtin, Builtin.len_, run_underlying hu, ex, goInt]
      · rename_i r e
        rw [e] at hx
        obtain ⟨es', clock, g1, g2⟩ := mapAt_some hes
        cases g2
        obtain ⟨y, hy, ex⟩ := conc_map_some hx
        obtain ⟨_, ces, g3, g4⟩ := rel_map h hy g1
        have og := run_getObj (P := P) g3 (by intros; simp)
        have := concE_len g4
        simp [execOp, ho, resolve, invoke, builtin, Builtin.len_, run_underlying hu, ex, goInt, og, this]
      · cases hes

end Go.Ev
