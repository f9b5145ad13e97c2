/-
  A part of the proof that the evaluator answers what the model answers, for every program that follows mixed orders; no other condition.
-/
import Derived.Test.YtnfmgkkhejminaaGreatDoorEvMem
import Derived.Laws.Cells
import Derived.Laws.StructEq
namespace Go.Ev
set_option linter.unusedSectionVars false
variable [OTab] [OVal]
variable {P : Program}
theorem run_sz {t n : Nat} (h : sz P t = some n) (w : World) : (sizeOf t).run P w = .ok n w := by
  unfold sz at h
  cases hi : P.info? t with
  | none => rw [hi] at h; cases h
  | some i => rw [hi] at h; cases h; simp [sizeOf, typeInfo, hi]
theorem run_aggT {t : Nat} {g : Bool} (h : aggT P t = some g) (w : World) : (isAgg t).run P w = .ok g w := by
  unfold aggT at h
  cases hu : P.underlying t with
  | none => rw [hu] at h; cases h
  | some d => rw [hu] at h; cases h; cases d <;> simp [isAgg, run_underlying hu, isAggD]
theorem conc_pointer {m : Map} {a : Addr} {c : Value} (h : conc m (.pointer (some a)) = some c) :
    ∃ x, m a.block = some x ∧ a.spot = none ∧ c = .pointer (some ⟨x.blk, x.sh + a.off, none⟩) := by
  obtain ⟨b, off, spot⟩ := a
  cases spot with
  | some s => simp [conc] at h
  | none =>
    simp only [conc, Option.map_eq_some_iff] at h
    obtain ⟨x, hx, rfl⟩ := h
    exact ⟨x, hx, rfl, rfl⟩
theorem conc_pointer' {m : Map} {b off : Nat} {x : M} (h : m b = some x) : conc m (.pointer (some ⟨b, off, none⟩)) = some (.pointer (some ⟨x.blk, x.sh + off, none⟩)) := by
  simp [conc, h]
theorem asP_some {v : Value} {a : Addr} (h : asP v = some a) : v = .pointer (some a) := by
  cases v with
  | pointer p => cases p with
    | none => cases h
    | some q => cases h; rfl
  | _ => cases h
theorem add_eq (b off k : Nat) : (⟨b, off, none⟩ : Addr).add k = ⟨b, off + k, none⟩ := by
  unfold Addr.add
  split
  · rename_i h; subst h; rfl
  · rfl


omit [OTab] [OVal] in
theorem wrapF_eq (k : IntKind) (n : Int) : wrapF k n = k.wrap n := by
  cases n with
  | negSucc x => rfl
  | ofNat x =>
    show bsel (Nat.blt x (half k)) (k.wrap (.ofNat x)) (.ofNat x) = _
    cases h : Nat.blt x (half k) with
    | false => rfl
    | true =>
      rw [bsel_true]
      have hx : x < half k := by simp [Nat.blt] at h; omega
      cases k <;> simp [half] at hx <;> simp [IntKind.wrap, IntKind.bits, IntKind.signed] <;> omega
omit [OTab] [OVal] in
theorem ltI_eq (a b : Int) : ltI a b = decide (a < b) := by
  cases a <;> cases b <;> simp only [ltI] <;> rw [Bool.eq_iff_iff] <;> simp [Nat.blt] <;> omega
omit [OTab] [OVal] in
theorem eqI_eq (a b : Int) : eqI a b = (a == b) := by
  cases a <;> cases b <;> simp only [eqI] <;> rw [Bool.eq_iff_iff] <;> simp <;> omega

theorem conc_int (m : Map) (k : IntKind) (n : Int) : conc m (.int k n) = some (.int k n) := by simp [conc]
theorem conc_float (m : Map) (k : FloatKind) (i : Nat) : conc m (.float k i) = some (OVal.val i) := by simp [conc]
theorem conc_bool (m : Map) (b : Bool) : conc m (.bool b) = some (.bool b) := by simp [conc]
theorem conc_string (m : Map) (s : ByteArray) : conc m (.string s) = some (.string s) := by simp [conc]
theorem conc_plain (m : Map) {v : Value} (h : plainS v = true) : conc m v = some (con OVal.val v) := by
  cases v with
  | bool b => exact conc_bool m b
  | int k n => exact conc_int m k n
  | string s => exact conc_string m s
  | float k i => exact conc_float m k i
  | _ => cases h
theorem conc_agg {m : Map} {l : Array Value} {c : Value} (h : conc m (.agg l) = some c) : ∃ l', concL m l.toList = some l' ∧ c = .agg ⟨l'⟩ := by
  obtain ⟨l⟩ := l
  simp only [conc, Option.map_eq_some_iff] at h
  obtain ⟨x, hx, rfl⟩ := h
  exact ⟨x, hx, rfl⟩
theorem conc_agg' {m : Map} {l l' : List Value} (h : concL m l = some l') : conc m (.agg ⟨l⟩) = some (.agg ⟨l'⟩) := by
  simp [conc, h]
theorem conc_tuple {m : Map} {l : Array Value} {c : Value} (h : conc m (.tuple l) = some c) : ∃ l', concL m l.toList = some l' ∧ c = .tuple ⟨l'⟩ := by
  obtain ⟨l⟩ := l
  simp only [conc, Option.map_eq_some_iff] at h
  obtain ⟨x, hx, rfl⟩ := h
  exact ⟨x, hx, rfl⟩
theorem conc_tuple' {m : Map} {l l' : List Value} (h : concL m l = some l') : conc m (.tuple ⟨l⟩) = some (.tuple ⟨l'⟩) := by
  simp [conc, h]

theorem concL_get {m : Map} : ∀ {l l' : List Value}, concL m l = some l' → ∀ (i : Nat) (v : Value), l[i]? = some v → ∃ c, conc m v = some c ∧ l'[i]? = some c
  | [], _, h, i, v, hv => by simp at hv
  | a :: l, _, h, i, v, hv => by
    obtain ⟨c, r, hc, hr, rfl⟩ := concL_cons h
    cases i with
    | zero => simp at hv; subst hv; exact ⟨c, hc, by simp⟩
    | succ i => simp at hv; obtain ⟨d, h1, h2⟩ := concL_get hr i v hv; exact ⟨d, h1, by simpa using h2⟩
theorem concL_len {m : Map} : ∀ {l l' : List Value}, concL m l = some l' → l'.length = l.length
  | [], _, h => by simp at h; subst h; rfl
  | a :: l, _, h => by
    obtain ⟨c, r, hc, hr, rfl⟩ := concL_cons h
    simp [concL_len hr]
theorem concL_append {m : Map} : ∀ {l l' k k' : List Value}, concL m l = some l' → concL m k = some k' → concL m (l ++ k) = some (l' ++ k')
  | [], _, k, k', h, hk => by simp at h; subst h; simpa using hk
  | a :: l, _, k, k', h, hk => by
    obtain ⟨c, r, hc, hr, rfl⟩ := concL_cons h
    exact concL_cons' hc (concL_append hr hk)
theorem concL_take {m : Map} : ∀ {l l' : List Value} (n : Nat), concL m l = some l' → concL m (l.take n) = some (l'.take n)
  | [], _, n, h => by simp at h; subst h; simp
  | a :: l, _, n, h => by
    obtain ⟨c, r, hc, hr, rfl⟩ := concL_cons h
    cases n with
    | zero => simp
    | succ n => simp only [List.take_succ_cons]; exact concL_cons' hc (concL_take n hr)
theorem concL_drop {m : Map} : ∀ {l l' : List Value} (n : Nat), concL m l = some l' → concL m (l.drop n) = some (l'.drop n)
  | [], _, n, h => by simp at h; subst h; simp
  | a :: l, _, n, h => by
    obtain ⟨c, r, hc, hr, rfl⟩ := concL_cons h
    cases n with
    | zero => simpa using h
    | succ n => simp only [List.drop_succ_cons]; exact concL_drop n hr
theorem concL_map {m : Map} {α : Type} (f g : α → Value) : ∀ (l : List α), (∀ x ∈ l, conc m (f x) = some (g x)) → concL m (l.map f) = some (l.map g)
  | [], _ => by simp
  | a :: l, h => concL_cons' (h a (by simp)) (concL_map f g l fun x hx => h x (by simp [hx]))

/-- a part of an aggregate -/
theorem part_sound {m : Map} {t : TypeId} {l l' : List Value} {off : Nat} {v : Value} (hl : concL m l = some l') (h : partL P t l off = some v) (w : World) :
    ∃ c, conc m v = some c ∧ (part t ⟨l'⟩ off).run P w = .ok c w := by
  unfold partL at h
  obtain ⟨g, hg, h⟩ := ob_some h
  cases g with
  | false =>
    simp only [bsel_false] at h
    obtain ⟨c, hc, hc'⟩ := concL_get hl off v h
    exact ⟨c, hc, by simp [part, run_aggT hg, hc']⟩
  | true =>
    simp only [bsel_true] at h
    obtain ⟨n, hn, h⟩ := ob_some h
    cases h
    refine ⟨_, conc_agg' (concL_take n (concL_drop off hl)), ?_⟩
    simp [part, run_aggT hg, run_sz hn, List.extract_eq_take_drop]
end Go.Ev
