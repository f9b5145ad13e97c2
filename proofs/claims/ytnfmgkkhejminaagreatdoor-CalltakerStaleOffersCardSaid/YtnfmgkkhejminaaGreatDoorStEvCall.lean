/-
  A part of the proof that the evaluator answers what the model answers, for every program that follows mixed orders; no other condition.
-/
import Derived.Test.YtnfmgkkhejminaaGreatDoorStEvRun
import Derived.OpenVars
import Derived.OpenShut
import Derived.Lib.LaidTab
import Derived.Deep.Fields
import Derived.ProofKit
import Derived.LaidMore
import Derived.Stop.Joined
namespace Go.Ev
open Go.RowKit
variable {P : Program}

/-! ## where a run begins: the program's variables; of some it is known that they are tables of numbers -/
noncomputable def memT : List Tab → Mem
  | [] => .lf
  | t :: r => (memT r).put (some (.cells t.vals.length (fillT t.vals 0 .lf))) t.g
def limT : List Tab → Nat → Nat
  | [], _ => 0
  | t :: r, b => if b = t.g then t.vals.length else limT r b
def gmap (G : Nat) (l : List Tab) : Map := fun b => if b < G then some ⟨b, 0, limT l b⟩ else none
noncomputable def stT (G : Nat) (l : List Tab) : St := ⟨memT l, G, G⟩

theorem memT_get : ∀ (l : List Tab) (b : Nat) (k : Blk), (memT l).get b = some k → ∃ t ∈ l, t.g = b ∧ k = .cells t.vals.length (fillT t.vals 0 .lf) ∧ limT l b = t.vals.length
  | [], b, k, h => by
    have h' : Mem.lf.get b = some k := h
    rw [get_memlf] at h'
    cases h'
  | t :: r, b, k, h => by
    unfold memT at h
    rw [get_memput] at h
    by_cases e : b = t.g
    · rw [if_pos e] at h
      cases h
      exact ⟨t, by simp, e.symm, rfl, if_pos e⟩
    · rw [if_neg e] at h
      obtain ⟨u, hu, h1, h2, h3⟩ := memT_get r b k h
      exact ⟨u, by simp [hu], h1, h2, by rw [← h3]; exact if_neg e⟩

theorem gmap_some {G : Nat} {l : List Tab} {b : Nat} {x : M} (h : gmap G l b = some x) : b < G ∧ x = ⟨b, 0, limT l b⟩ := by
  unfold gmap at h
  split at h
  · rename_i hb
    cases h
    exact ⟨hb, rfl⟩
  · cases h

section
variable [OTab] [OVal]
theorem rel_tabs {G : Nat} {l : List Tab} {w : World} (hG : P.globals.size ≤ G) (h : G ≤ w.heap.size) (hl : ∀ t ∈ l, t.g < G) (hT : ∀ t ∈ l, t.In w) (hK : (∀ B, OVal.kept B → B < w.heap.size ∧ w.heap[B]? = OVal.heap0[B]?) ∧ ∀ t ∈ l, ¬ OVal.kept t.g) : Rel P (gmap G l) (stT G l) w where
  kept := ⟨hK.1, fun b x k hb hk _ => by
    obtain ⟨_, rfl⟩ := gmap_some hb
    obtain ⟨t, ht, rfl, _⟩ := memT_get l b k hk
    exact hK.2 t ht⟩
  glob := fun g hg => ⟨limT l g, if_pos (by omega)⟩
  inb := fun b x hb => by
    obtain ⟨h1, rfl⟩ := gmap_some hb
    exact Nat.lt_of_lt_of_le h1 h
  blks := fun b x k hb hk => by
    obtain ⟨h1, rfl⟩ := gmap_some hb
    obtain ⟨t, ht, rfl, rfl, h3⟩ := memT_get l b k hk
    obtain ⟨arr, e, lo, hi, he, hs, hf, hc⟩ := hT t ht
    refine ⟨arr, e, lo, hi, he, ?_, ?_, fun _ => hf, fun i hi => ?_, fun ht => by
      have hvl : t.vals.length ≤ tagI := ht
      exact ⟨fun k t' e' => by (rw [fillT_get, if_neg (by omega), get_lf] at e'; cases e'), fun k t' e' => by (rw [fillT_get, if_neg (by omega), get_lf] at e'; cases e')⟩⟩
    · show 0 + limT l t.g ≤ arr.size
      omega
    · show t.vals.length ≤ limT l t.g
      omega
    · have hg : (fillT t.vals 0 .lf).get i = t.vals[i]? := by rw [fillT_get, if_pos (by omega)]; simp
      have hz : t.vals[i]? = some t.vals[i] := List.getElem?_eq_getElem hi
      refine ⟨t.vals[i], t.vals[i], by rw [hg, hz], ?_, ?_⟩
      · simp [Tab.vals, conc]
      · show arr[0 + i]? = _
        rw [Nat.zero_add, hc i hi, hz]
  dist := fun b c x y kb kc hbc hb hc _ _ => by
    obtain ⟨_, rfl⟩ := gmap_some hb
    obtain ⟨_, rfl⟩ := gmap_some hc
    exact hbc
  wf := fun b hb => by
    cases e : (stT G l).mem.get b with
    | none => rfl
    | some k =>
      obtain ⟨t, ht, rfl, _⟩ := memT_get l b k e
      have := hl t ht
      have : G ≤ t.g := hb
      omega
end

def okTrue (G : Nat) (r : Option (Value × St)) : Bool :=
  match r with
  | some (.bool true, st) => Nat.ble G st.low
  | _ => false

theorem okTrue_some {G : Nat} {r : Option (Value × St)} (h : okTrue G r = true) : ∃ st, r = some (.bool true, st) ∧ G ≤ st.low := by
  unfold okTrue at h
  split at h
  · exact ⟨_, rfl, Nat.le_of_ble_eq_true h⟩
  · cases h

/-- the function answers true; nothing that was there has turned -/
def Answers (P : Program) (f : FuncId) (args : List Value) (w : World) : Prop :=
  (∃ fn c, P.funcs[f]? = some fn ∧ fn.body = some c ∧ (fn.name == "runtime.NumGoroutine") = false) ∧
    ∀ cs, ∃ w', Below w.heap.size w w' ∧ ∃ fr, Steps P (lone (Frame.enter P f ⟨args⟩ .normal) cs w) (lone fr cs w') ∧ fr.fn = f ∧ fr.leaving P w' (.returned (.bool true))

theorem Answers.calls {f : FuncId} {args : List Value} {w : World} (h : Answers P f args w) : Calls P f ⟨args⟩ w fun e w' => e = .returned (.bool true) ∧ Below w.heap.size w w' := fun cs => by
  obtain ⟨_, q⟩ := h
  obtain ⟨w', hb, fr, q1, q2, q3⟩ := q cs
  exact ⟨.returned (.bool true), w', fr, ⟨rfl, hb⟩, q1, q2, q3⟩

section
variable [OTab] [OVal]
theorem answers_of_run (hmix : P.follows .mixedOrders = true) (hC : CallsOk P) {f : FuncId} {args cargs : List Value} {G : Nat} {l : List Tab} (hG : P.globals.size ≤ G) (hl : ∀ t ∈ l, t.g < G)
    (h : okTrue G (run P f args (stT G l)) = true) (ha : ∀ m : Map, concL m args = some cargs) {w : World} (hw : G ≤ w.heap.size) (hT : ∀ t ∈ l, t.In w) (hK : (∀ B, OVal.kept B → B < w.heap.size ∧ w.heap[B]? = OVal.heap0[B]?) ∧ ∀ t ∈ l, ¬ OVal.kept t.g) : Answers P f cargs w := by
  obtain ⟨st', h1, hlow⟩ := okTrue_some h
  have hr := rel_tabs (P := P) hG hw hl hT hK
  obtain ⟨_, _, _, _, _, hb, _⟩ := run_sound [] hmix hC h1 hr (fun b hb _ => if_neg (by have : G ≤ b := hb; omega)) (ha _)
  refine ⟨hb, fun cs => ?_⟩
  obtain ⟨m', w', cv, s, hv, _, q⟩ := run_sound cs hmix hC h1 hr (fun b hb _ => if_neg (by have : G ≤ b := hb; omega)) (ha _)
  have hv' : some (Value.bool true) = some cv := by rw [← hv]; simp [conc]
  cases hv'
  have hc := s.chk G w (Nat.le_refl _) hlow ⟨fun b x k _ hk hb => (by rw [hr.wf b hb] at hk; cases hk), Nat.le_refl _, fun _ _ => rfl⟩
  exact ⟨w', ⟨s.os, s.tape, s.output, s.size, fun k hk => hc.2.2 k hk⟩, q⟩
end

/-- nothing is unknown -/
@[reducible] def tab0 : OTab := { rules := [], calls := [] }
@[reducible] def val0 : @OVal tab0 := @OVal.mk tab0 (fun _ => .int .i64 0) (fun _ => .inl ⟨_, _, rfl⟩) (fun _ hr => by cases hr) (fun _ => False) #[]

theorem ok0 (P : Program) : @CallsOk tab0 val0 P := ⟨fun r hr => (by
  rcases hr with h | ⟨h, _⟩ <;> cases h), fun f args st r st' v h => (by cases h)⟩
/-- a fixed example: a rule for later runs -/
theorem rule_of_run (hmix : P.follows .mixedOrders = true) {f : FuncId} {G : Nat} {l : List Tab} (hG : P.globals.size = G) (hl : ∀ t ∈ l, t.g < G) (h : okTrue G (@run tab0 P f [] (stT G l)) = true) (val : Nat → Value) :
    CRule.Holds P val ⟨f, [], l, .bool true⟩ := fun w hw hT => by
  subst hG
  exact @answers_of_run P tab0 val0 hmix (ok0 P) f [] [] _ l (Nat.le_refl _) hl h (fun m => by simp) w hw hT ⟨fun B h => h.elim, fun _ _ h => h⟩
end Go.Ev

namespace Go.Ev
/-! ## what the rules of unknown numbers ask -/
theorem kind_self (k : IntKind) : kindEq k k = true := by simp [kindEq]
theorem h_add (k : IntKind) (a b : Int) : scalB .add (.int k a) (.int k b) = some (.int k (k.wrap (a + b))) := by
  show gd (kindEq k k) (some (Value.int k (wrapF k (Int.add a b)))) = _
  rw [kind_self, wrapF_eq]
  rfl
theorem h_add_comm (k : IntKind) (a b : Int) : scalB .add (.int k a) (.int k b) = some (.int k (k.wrap (b + a))) := by rw [h_add, Int.add_comm]
theorem h_add_zero (a : Int) (h : (Lit.int .i64 a).wf = true) : scalB .add (.int .i64 a) (.int .i64 0) = some (.int .i64 a) := by
  rw [h_add]
  have e : IntKind.i64.wrap (a + 0) = a := by
    simp [Lit.wf, IntKind.min, IntKind.max, IntKind.signed, IntKind.bits] at h
    simp [IntKind.wrap, IntKind.bits, IntKind.signed]
    omega
  rw [e]
theorem h_neq_self (k : IntKind) (a : Int) : scalB .neq (.int k a) (.int k a) = some (.bool false) := by
  show gd (kindEq k k) (some (Value.bool !(eqI a a))) = _
  rw [kind_self, eqI_eq]
  simp [gd]
theorem h_lss (k : IntKind) (a b : Int) (q : Bool) (h : decide (a < b) = q) : scalB .lss (.int k a) (.int k b) = some (.bool q) := by
  show gd (kindEq k k) (some (Value.bool (ltI a b))) = _
  rw [kind_self, ltI_eq, h]
  rfl
theorem h_geq (k : IntKind) (a b : Int) (q : Bool) (h : (!decide (a < b)) = q) : scalB .geq (.int k a) (.int k b) = some (.bool q) := by
  show gd (kindEq k k) (some (Value.bool !(ltI a b))) = _
  rw [kind_self, ltI_eq, h]
  rfl
theorem h_gtr (k : IntKind) (a b : Int) (q : Bool) (h : decide (b < a) = q) : scalB .gtr (.int k a) (.int k b) = some (.bool q) := by
  show gd (kindEq k k) (some (Value.bool (ltI b a))) = _
  rw [kind_self, ltI_eq, h]
  rfl
theorem h_eqi (a : Int) : Value.bool true = .bool (eqI a a) := by rw [eqI_eq]; simp
theorem h_max (k : IntKind) (a b c : Int) (h : (if a < b then b else a) = c) : max2 (.int k a) (.int k b) = some (.int k c) := by
  show some (Value.int k (if ltI a b = true then b else a)) = _
  rw [ltI_eq, ← h]
  simp
theorem h_max_comm (k : IntKind) (a b : Int) : max2 (.int k a) (.int k b) = some (.int k (if b < a then a else b)) :=
  h_max k a b _ (by split <;> split <;> omega)

end Go.Ev

namespace Go.Ev
open Go.ChangeShapes Go.WideShapes Go.RowKit
section
variable {H : Type} {enc : TypeId × Value → H} {P : Program}

theorem trodAll_below (hl : laidOutB P = true) {W W' : World} (hb : Below W.heap.size W W') :
    ∀ (ts : List TypeId) (vs : List Value) (ds : List (DataW H)) (ps : List MemPlace), (ts.all fun t => P.readableRec t && decide (t < P.types.size)) = true →
      DataW.TrodAll enc P W 0 (fun _ => true) true ts vs ds ps → (∀ x ∈ ps, x.block < W.heap.size) → DataW.TrodAll enc P W' 0 (fun b => decide (b < W.heap.size)) true ts vs ds ps
  | [], vs, ds, ps, _, h, _ => by
    obtain ⟨rfl, rfl, rfl⟩ := trodAll_nil h
    exact trodAll_mk0
  | t :: ts, vs, ds, ps, ht, h, hlt => by
    obtain ⟨v, vs', d, ds', p, q, rfl, rfl, rfl, h1, h2⟩ := trodAll_cons h
    simp only [List.all_cons, Bool.and_eq_true, decide_eq_true_eq] at ht
    exact trodAll_cons_mk (Below.trod hl ht.1.1 ht.1.2 h1 hb (fun x hx => hlt x (by simp [hx]))) (trodAll_below hl hb ts vs' ds' q (by simpa using ht.2) h2 (fun x hx => hlt x (by simp [hx])))

theorem trodAll_length {W : World} {b : Nat} {sp : Nat → Bool} {hd : Bool} : ∀ {ts : List TypeId} {vs : List Value} {ds : List (DataW H)} {ps : List MemPlace}, DataW.TrodAll enc P W b sp hd ts vs ds ps → ds.length = ts.length
  | [], vs, ds, ps, h => by
    obtain ⟨_, rfl, _⟩ := trodAll_nil h
    rfl
  | t :: ts, vs, ds, ps, h => by
    obtain ⟨v, vs', d, ds', p, q, rfl, rfl, rfl, h1, h2⟩ := trodAll_cons h
    simp [trodAll_length h2]

/-- the law returned true; nothing that was there has turned -/
theorem post_true {f : Func} {s : ChangeSpec} {apart fresh handsOn : Bool} {W W' : World} {args : Array Value} {ds gs : List (DataW H)} {before : List MemPlace} {t : TypeId}
    (hl : laidOutB P = true) (hW : DataW.Whole enc P f.params.toList s.vars apart W args.toList ds gs before)
    (hp : (f.params.toList.all fun t => P.readableRec t && decide (t < P.types.size)) = true) (hv : varsRowed P s.vars = true)
    (hr : f.resultTypes = #[t]) (ht : P.underlying t = some .bool)
    (hs : s.fn H (ds ++ gs) = { results := [.lit (.bool true)], args := ds, vars := gs }) (hb : Below W.heap.size W W') :
    s.post enc P f apart fresh handsOn false W args (.bool true) W' := by
  have hlt : ∀ p ∈ before, p.block < W.heap.size := fun p hp => hW.lt p hp
  have hW' := hW
  obtain ⟨p, q, hA, hV, rfl, _, _⟩ := hW
  refine ⟨ds, gs, p ++ q, [], p, q, hW', ?_, ?_, ?_, ?_, fun h => by cases h⟩
  · rw [hs, hr]
    exact trodAll_mk1 (shut_bool ht true)
  · rw [hs]
    exact trodAll_below hl hb _ _ _ _ hp hA (fun x hx => hlt x (by simp [hx]))
  · rw [hs]
    exact hb.trodVars hl hv hV
  · exact World.keptBut_mono (fun x hx => ⟨hx, Or.inr (List.mem_append.1 hx)⟩) (hb.frame (· ∈ p ++ q))

/-- a law's row, out of its contract -/
theorem lifted_true {C : Checked} {os : Os} {f : FuncId} {fn : Func} {s : ChangeSpec} {conds : List PathCond} {apart fresh handsOn : Bool} {laid : List (String × DataW Unit)} {t : TypeId}
    (own : ownKnob C.prog.godebug = none) (started : os.Started) (noInit : C.prog.inits.idxOf? f = none) (hfn : C.prog.funcs[f]? = some fn)
    (witness : ∃ (w : World) (tape : Tape) (i : Input), w.os = os ∧ (w.forCall tape i).Shaped C.prog ∧ i.vars = [] ∧ Input.okWide C.prog (w.forCall tape i) .any w.heap.size f i ∧
      ((s.pre enc C.prog fn conds apart (w.forCall tape i).memory i.args ∧ laidMetH C.prog laid (w.forCall tape i).memory) ∧ sizedMet enc C.prog fn (OpenSpec.ofChange s) apart (w.forCall tape i).memory i.args) ∧ ({} : Assume).holds C.prog (lone (Frame.enter C.prog f i.args .normal) [] (w.forCall tape i)))
    (hl : laidOutB C.prog = true) (hp : (fn.params.toList.all fun t => C.prog.readableRec t && decide (t < C.prog.types.size)) = true) (hv : s.vars = [])
    (hr : fn.resultTypes = #[t]) (ht : C.prog.underlying t = some .bool)
    (hs : ∀ ds : List (DataW H), ds.length = fn.params.toList.length → s.fn H (ds ++ []) = { results := [.lit (.bool true)], args := ds, vars := [] })
    (contract : ∀ (W : World) (base : Nat) (args : Array Value) (ds : List (DataW H)) (ps : List MemPlace),
      (∀ (j : Nat) t v, fn.params[j]? = some t → args[j]? = some v → Value.okWide C.prog W .any base t v) →
      DataW.TrodAll enc C.prog W 0 (fun _ => true) true fn.params.toList args.toList ds ps →
      (DataW.weightsEach C.prog (fn.params.toList ++ s.plain.varTypes C.prog) (ds ++ [])).all (· ≤ reachBytes) = true →
      laidMetH C.prog laid W → W.ShapedOpen C.prog → Calls C.prog f args W fun e W' => e = .returned (.bool true) ∧ Below W.heap.size W W') :
    ReturnsInHanded {} C os f .any (fun w args => (s.pre enc C.prog fn conds apart w args ∧ laidMetH C.prog laid w) ∧ sizedMet enc C.prog fn (OpenSpec.ofChange s) apart w args) (s.post enc C.prog fn apart fresh handsOn false) := by
  refine returnsInHanded_of_calls own started noInit witness ?_
  intro w tape i _ hsh _ hok hpre _
  obtain ⟨_, _, _, fn', hfn', _, _, _, _, hval⟩ := hok
  have e : fn' = fn := Option.some.inj (hfn'.symm.trans hfn)
  subst e
  obtain ⟨⟨⟨ds, gs, before, hw, hc⟩, hx⟩, hz⟩ := hpre
  have hw' := DataW.Whole.of_heap (w' := w.forCall tape i) (by rfl) hw
  have hwt := hz.weights hw
  have hw2 := hw'
  obtain ⟨p, q, hA, hV, rfl, _, _⟩ := hw2
  rw [hv] at hV
  obtain ⟨rfl, rfl⟩ := trodVars_none hV
  refine (contract (w.forCall tape i) w.heap.size i.args ds p hval hA hwt (laidMetH.of_heap (by rfl) hx) hsh).mono fun e W' ⟨he, hb⟩ => ?_
  subst he
  exact ChangeSpec.post_blind (post_true hl hw' hp (by rw [hv]; rfl) hr ht (hs ds (trodAll_length hA)) hb)

/-- what a listed table gives a run -/
theorem tab_in_of_laid {W : World} {name : String} {k : IntKind} {zs : List Int} {rest : List (String × DataW Unit)} {g : Nat} {t e : TypeId} {n : Nat}
    (hg : P.globalNamed name = some g) (hty : (P.globals[g]?).map (·.type) = some t) (ht : P.underlying t = some (.array n e)) (he : P.underlying e = some (.int k)) (hce : P.cellsOf e = 1) (hct : P.cellsOf t = n)
    (hz : 0 < zs.length) (h : laidMet P ((name, Lib.tabData k zs) :: rest) W) : Tab.In ⟨g, k, zs⟩ W := by
  obtain ⟨ps, ⟨g', t', cs, fuel, p, q, h1, h2, h3, h4, h5, rfl⟩, _, hpl⟩ := h
  obtain rfl := Option.some.inj (hg.symm.trans h1)
  obtain rfl := Option.some.inj (hty.symm.trans h2)
  have hcs := Lib.cells_of_tab ht he hce hct h4
  obtain ⟨cs⟩ := cs
  have hcs : cs = zs.map fun z => Value.int k z := hcs
  subst hcs
  have hin : MemPlace.cell g 0 ∈ MemPlace.row ⟨g, 0, none⟩ (zs.map fun z => Value.int k z).length ++ p ++ q := by
    simp only [MemPlace.row, List.mem_append, List.mem_map, List.mem_range]
    exact .inl (.inl ⟨0, by simpa using hz, rfl⟩)
  obtain ⟨⟨c, t2, hc⟩, _⟩ := hpl g 0 hin
  have hv : W.var? P name = some c := by simp [World.var?, h1, hc]
  rw [hv] at h3
  cases h3
  exact ⟨_, t2, 0, 0, hc, by simp [Tab.vals], fun i _ => by omega, fun i _ => by simp [Tab.vals]⟩

theorem laid_tail {W : World} {x : String × DataW Unit} {rest : List (String × DataW Unit)} (h : laidMet P (x :: rest) W) : laidMet P rest W := by
  obtain ⟨nm, d⟩ := x
  obtain ⟨ps, ⟨g', t', cs, fuel, p, q, h1, h2, h3, h4, h5, rfl⟩, hn, hpl⟩ := h
  refine ⟨q, h5, (List.nodup_append.1 hn).2.1, fun b off hb => hpl b off (by simp [hb])⟩

/-- how many blocks there are at least -/
theorem size_of_shaped {W : World} (h : W.ShapedOpen P) {g : Nat} (hg : g < P.globals.size) (hz : (((begin P (fun _ _ => 0) default).world.heap[g]?).bind Obj.row?).isSome = true) : g < W.heap.size := by
  obtain ⟨⟨zero, t⟩, hz⟩ := Option.isSome_iff_exists.1 hz
  obtain ⟨cs, hc, _⟩ := h.1 g zero t hg hz
  exact (Array.getElem?_eq_some_iff.1 hc).1

def isI64 (P : Program) (t : TypeId) : Bool :=
  match P.underlying t with
  | some (.int .i64) => true
  | _ => false
theorem isI64_eq {t : TypeId} (h : isI64 P t = true) : P.underlying t = some (.int .i64) := by
  unfold isI64 at h
  split at h
  · assumption
  · cases h
/-- a struct all of whose fields are numbers of 64 bits, by value -/
theorem open_struct_i64 {w : World} {base : Nat} {spare : Nat → Bool} {held : Bool} {r : Reach} {b0 : Nat} {t : TypeId} {fs : Array Field} {v : Value} {d : DataW H} {p : List MemPlace} (hs : P.underlying t = some (.struct fs)) (hone : Deep.oneCellFields P fs = true) (hC : P.cellsOf t = fs.size)
    (hi' : (fs.toList.all fun f => isI64 P f.type) = true)
    (hv : Value.okWide P w r b0 t v) (h : DataW.Trod enc P w base spare held t v d p) :
    ∃ zs : List Int, zs.length = fs.size ∧ v = .agg ⟨zs.map (Value.int .i64)⟩ ∧ ∀ z ∈ zs, (Lit.int .i64 z).wf = true := by
  have hi : ∀ (j : Nat) (f : Field), fs[j]? = some f → P.underlying f.type = some (.int .i64) := fun j f hf =>
    isI64_eq (List.all_eq_true.1 hi' f (by obtain ⟨h1, h2⟩ := Array.getElem?_eq_some_iff.1 hf; rw [← h2]; simp))
  obtain ⟨cs, rfl, hsz⟩ := okWide_struct hs hv
  obtain ⟨fuel, hf⟩ := h
  obtain ⟨xs, n, _, _, _, hlen, hg⟩ := DataW.trod_struct hs hf
  have each : ∀ j, j < fs.size → ∃ z, cs.toList[j]? = some (.int .i64 z) ∧ (Lit.int .i64 z).wf = true := fun j hj => by
    have hfj : fs[j]? = some fs[j] := Array.getElem?_eq_getElem hj
    obtain ⟨ho, hk⟩ := Deep.hone_of hone j _ hfj
    have hgj := hg j _ hfj
    have hxj : xs[j]? = some xs[j] := List.getElem?_eq_getElem (by omega)
    rw [hxj] at hgj
    obtain ⟨z, hc, _, hw⟩ := DataW.trod_int (hi j _ hfj) hgj
    refine ⟨z, ?_, hw⟩
    have hc0 := congrArg (·[0]?) hc
    simp only [Value.cells, ho, hk, List.getElem?_take, List.getElem?_drop] at hc0
    simpa using hc0
  refine ⟨cs.toList.map intOf, by simp [hsz, hC], ?_, fun z hz => ?_⟩
  · congr 1
    apply Array.ext'
    simp only [List.map_map]
    apply List.ext_getElem?
    intro j
    by_cases hj : j < fs.size
    · obtain ⟨z, hz, _⟩ := each j hj
      simp only [List.getElem?_map, hz, Option.map_some, Function.comp, intOf]
    · rw [List.getElem?_eq_none (by simp; omega), List.getElem?_eq_none (by simp; omega)]
  · obtain ⟨v, hv', rfl⟩ := List.mem_map.1 hz
    obtain ⟨j, hj, rfl⟩ := List.mem_iff_getElem.1 hv'
    obtain ⟨z, hz', hw⟩ := each j (by simp at hj; omega)
    rw [List.getElem?_eq_getElem hj] at hz'
    rw [Option.some.inj hz']
    exact hw
end
end Go.Ev

namespace Go.Ev
open Go.RowKit
variable {P : Program}

/-! ## two runs, one behind the other: the second has the first one's answer and is begun in whatever world has come since -/
def okAfter (n : Nat) (b : Bool) (r : Option (Value × St)) : Bool :=
  match r with
  | some (.bool c, st) => (match c, b with | true, true => true | false, false => true | _, _ => false) && Nat.ble n st.low
  | _ => false
/-- a value of one cell -/
def plainOne : Value → Bool
  | .int _ _ => true
  | .string _ => true
  | .bool _ => true
  | .slice _ _ _ => true
  | _ => false
/-- n such values -/
def aggN (n : Nat) : Value → Bool
  | .agg ⟨l⟩ => Nat.beq l.length n && l.all plainOne
  | _ => false
noncomputable def okTwo [OTab] (P : Program) (f1 : FuncId) (args : List Value) (f2 : FuncId) (rest : List Value) (G : Nat) (l : List Tab) (b : Bool) (n : Nat) : Bool :=
  match run P f1 args (stT G l) with
  | some (v, st) => aggN n v && Nat.ble G st.low && okAfter st.nxt b (run P f2 (v :: rest) ⟨st.mem, st.nxt, st.nxt⟩)
  | _ => false

section
variable [OTab] [OVal]
theorem conc_one {m : Map} {v c : Value} (h : plainOne v = true) (hc : conc m v = some c) : c.oneCell' = true := by
  unfold plainOne at h
  split at h
  · simp [conc] at hc; subst hc; rfl
  · simp [conc] at hc; subst hc; rfl
  · simp [conc] at hc; subst hc; rfl
  · rename_i a len code
    rcases a with _ | ⟨b, off, _ | back⟩
    · rcases len with _ | len <;> rcases code with _ | code <;> simp [conc] at hc
      subst hc
      rfl
    · simp only [conc] at hc
      obtain ⟨x, _, rfl⟩ := Option.map_eq_some_iff.1 hc
      rfl
    · rcases len with _ | len
      · simp only [conc] at hc
        split at hc
        · cases hc
        · obtain ⟨x, _, rfl⟩ := Option.map_eq_some_iff.1 hc
          split <;> rfl
      · simp [conc] at hc
  · cases h
theorem concL_one {m : Map} : ∀ {l c : List Value}, l.all plainOne = true → concL m l = some c → c.length = l.length ∧ ∀ v ∈ c, v.oneCell' = true
  | [], c, _, h => by
    rw [concL_nil] at h
    cases h
    exact ⟨rfl, fun v hv => by cases hv⟩
  | v :: r, c, ha, h => by
    obtain ⟨a, b, h1, h2, rfl⟩ := concL_cons h
    simp only [List.all_cons, Bool.and_eq_true] at ha
    obtain ⟨h3, h4⟩ := concL_one ha.2 h2
    refine ⟨by simp [h3], fun u hu => ?_⟩
    rcases List.mem_cons.1 hu with rfl | hu
    · exact conc_one ha.1 h1
    · exact h4 u hu
theorem aggN_conc {m : Map} {n : Nat} {v c : Value} (h : aggN n v = true) (hc : conc m v = some c) : ∃ cs : List Value, c = .agg ⟨cs⟩ ∧ cs.length = n ∧ ∀ u ∈ cs, u.oneCell' = true := by
  unfold aggN at h
  split at h
  · rename_i l
    rw [Bool.and_eq_true] at h
    simp only [conc] at hc
    obtain ⟨cs, h1, rfl⟩ := Option.map_eq_some_iff.1 hc
    obtain ⟨h2, h3⟩ := concL_one h.2 h1
    exact ⟨cs, rfl, h2.trans (Nat.eq_of_beq_eq_true h.1), h3⟩
  · cases h
end

theorem okAfter_some {n : Nat} {b : Bool} {r : Option (Value × St)} (h : okAfter n b r = true) : ∃ st, r = some (.bool b, st) ∧ n ≤ st.low := by
  unfold okAfter at h
  split at h
  · rename_i c st
    rw [Bool.and_eq_true] at h
    obtain ⟨h1, h2⟩ := h
    cases c <;> cases b <;> first | exact ⟨_, rfl, Nat.le_of_ble_eq_true h2⟩ | cases h1
  · cases h

theorem Rel.below {m : Map} {st : St} {w W : World} [OTab] [OVal] (h : Rel P m st w) (hb : Below w.heap.size w W) : Rel P m st W where
  glob := h.glob
  inb := fun b x hx => Nat.lt_of_lt_of_le (h.inb b x hx) hb.size
  blks := fun b x k hx hk => (h.blks b x k hx hk).heap (hb.block _ (h.inb b x hx))
  dist := h.dist
  wf := h.wf
  kept := ⟨fun B hB => ⟨Nat.lt_of_lt_of_le (h.kept.same B hB).1 hb.size, (hb.block _ (h.kept.same B hB).1).trans (h.kept.same B hB).2⟩, h.kept.off⟩

section
variable [OTab] [OVal]
theorem two_of_run (hmix : P.follows .mixedOrders = true) (hC : CallsOk P) {f1 f2 : FuncId} {args cargs rest crest : List Value} {G : Nat} {l : List Tab} {b : Bool} {n : Nat} (hG : P.globals.size ≤ G) (hl : ∀ t ∈ l, t.g < G)
    (h : okTwo P f1 args f2 rest G l b n = true) (ha : ∀ m : Map, concL m args = some cargs) (hb : ∀ m : Map, concL m rest = some crest) {w : World} (hw : G ≤ w.heap.size) (hT : ∀ t ∈ l, t.In w) (hK : (∀ B, OVal.kept B → B < w.heap.size ∧ w.heap[B]? = OVal.heap0[B]?) ∧ ∀ t ∈ l, ¬ OVal.kept t.g) :
    Calls P f1 ⟨cargs⟩ w fun e w' => ∃ cs : List Value, e = .returned (.agg ⟨cs⟩) ∧ cs.length = n ∧ (∀ u ∈ cs, u.oneCell' = true) ∧ Below w.heap.size w w' ∧ ∀ W, Below w'.heap.size w' W → Calls P f2 ⟨.agg ⟨cs⟩ :: crest⟩ W fun e W' => e = .returned (.bool b) ∧ Below W.heap.size W W' := by
  unfold okTwo at h
  cases h1 : run P f1 args (stT G l) with
  | none => rw [h1] at h; cases h
  | some r =>
    obtain ⟨v, st⟩ := r
    rw [h1] at h
    simp only [Bool.and_eq_true] at h
    obtain ⟨⟨hagg, hlow⟩, h2⟩ := h
    have hlow := Nat.le_of_ble_eq_true hlow
    obtain ⟨st2, h2, hlow2⟩ := okAfter_some h2
    have hr := rel_tabs (P := P) hG hw hl hT hK
    intro cs
    obtain ⟨m', w', cv, s, hv, _, q⟩ := run_sound cs hmix hC h1 hr (fun b hb _ => if_neg (by have : G ≤ b := hb; omega)) (ha _)
    have hc := s.chk G w (Nat.le_refl _) hlow ⟨fun b x k _ hk hb => (by rw [hr.wf b hb] at hk; cases hk), Nat.le_refl _, fun _ _ => rfl⟩
    obtain ⟨vs, rfl, hcs1, hcs2⟩ := aggN_conc hagg hv
    have hB : Below w.heap.size w w' := ⟨s.os, s.tape, s.output, s.size, fun k hk => hc.2.2 k hk⟩
    have key : ∀ W, Below w'.heap.size w' W → Calls P f2 ⟨.agg ⟨vs⟩ :: crest⟩ W fun e W' => e = .returned (.bool b) ∧ Below W.heap.size W W' := fun W hW => by
      have hr2 : Rel P m' ⟨st.mem, st.nxt, st.nxt⟩ W := by
        have := s.rel.below hW
        exact ⟨this.glob, this.inb, this.blks, this.dist, this.wf, this.kept.same, this.kept.off⟩
      have hfree : Free m' st.nxt st2.nxt := fun b hb _ => by
        cases e : m' b with
        | none => rfl
        | some x =>
          rcases s.newm b x e with h | ⟨_, h⟩
          · obtain ⟨hg, _⟩ := gmap_some h
            have : (stT G l).nxt ≤ st.nxt := s.nxt
            have : G ≤ st.nxt := this
            omega
          · omega
      have hargs : concL m' (v :: rest) = some (.agg ⟨vs⟩ :: crest) := by
        show (match conc m' v, concL m' rest with | some a, some b => some (a :: b) | _, _ => none) = _
        rw [hv, hb]
      intro cs
      obtain ⟨m2, W', cv2, s2, hv2, _, q2⟩ := run_sound cs hmix hC h2 hr2 hfree hargs
      have hv' : some (Value.bool b) = some cv2 := by rw [← hv2]; simp [conc]
      cases hv'
      have hc2 := s2.chk st.nxt W (Nat.le_refl _) hlow2 ⟨fun b x k _ hk hb => (by rw [hr2.wf b hb] at hk; cases hk), Nat.le_refl _, fun _ _ => rfl⟩
      have hB2 : Below W.heap.size W W' := ⟨s2.os, s2.tape, s2.output, s2.size, fun k hk => hc2.2.2 k hk⟩
      obtain ⟨fr, a1, a2, a3⟩ := q2
      exact ⟨.returned (.bool b), W', fr, ⟨rfl, hB2⟩, a1, a2, a3⟩
    obtain ⟨fr, a1, a2, a3⟩ := q
    exact ⟨.returned (.agg ⟨vs⟩), w', fr, ⟨vs, rfl, hcs1, hcs2, hB, key⟩, a1, a2, a3⟩
end
end Go.Ev
