/-
  A part of the proof that the evaluator answers what the model answers, for every program that follows mixed orders; no other condition.
-/
import Derived.Test.YtnfmgkkhejminaaGreatDoorEvBase
namespace Go.Ev
set_option linter.unusedSectionVars false
structure M where
  blk : Nat
  sh : Nat
  lim : Nat
abbrev Map : Type := Nat → Option M
/-! ## what is chosen for what is not known -/
def con (val : Nat → Value) : Value → Value
  | .float _ i => val i
  | v => v
noncomputable def scalB (op : BinOp) (x y : Value) : Option Value :=
  match x, y with
  | .int k a, .int k' b => binII op k a k' b
  | .string a, .string b => strBin op a b
  | _, _ => none
def Rule.Holds (val : Nat → Value) (r : Rule) : Prop :=
  match r.op with
  | .bin op => scalB op (con val r.x) (con val r.y) = some (con val r.z)
  | .min => min2 (con val r.x) (con val r.y) = some (con val r.z)
  | .max => max2 (con val r.x) (con val r.y) = some (con val r.z)
  | .eqi => ∃ k a b, con val r.x = .int k a ∧ con val r.y = .int k b ∧ r.z = .bool (eqI a b)
  | .eqs => ∃ a b, con val r.x = .string a ∧ con val r.y = .string b ∧ r.z = .bool (a.data.toList == b.data.toList)
  | .conv k => ∃ q a, con val r.x = .int q a ∧ con val r.z = .int k (k.wrap a)
class OVal [OTab] where
  val : Nat → Value
  shape : ∀ i, (∃ k n, val i = .int k n) ∨ (∃ s, val i = .string s) ∨ ∃ a l c, val i = .slice a l c
  rules : ∀ r ∈ OTab.rules, r.Holds val
variable [OTab] [OVal]
mutual
def conc (m : Map) : Value → Option Value
  | .bool b => some (.bool b)
  | .int k n => some (.int k n)
  | .string s => some (.string s)
  | .float _ i => some (OVal.val i)
  | .pointer none => some (.pointer none)
  | .pointer (some ⟨b, off, none⟩) => (m b).map fun x => .pointer (some ⟨x.blk, x.sh + off, none⟩)
  | .slice none 0 0 => some (.slice none 0 0)
  | .slice (some ⟨b, off, none⟩) len code => (m b).map fun x => .slice (some ⟨x.blk, x.sh + off, none⟩) len (if code % 2 = 1 then code / 2 else (x.lim - off) / (code / 2))
  | .slice (some ⟨b, off, some back⟩) 0 code => if code % 2 = 1 then none else (m b).map fun x => if (x.lim - off) / (code / 2) = 0 then .slice (some ⟨x.blk, x.sh + (off - back), none⟩) 0 0 else .slice (some ⟨x.blk, x.sh + off, none⟩) 0 ((x.lim - off) / (code / 2))
  | .map none => some (.map none)
  | .map (some r) => (m r).map fun x => .map (some x.blk)
  | .nilFunc => some .nilFunc
  | .nilIface => some .nilIface
  | .func (.func f) ⟨a⟩ ⟨c⟩ => match concL m a, concL m c with
    | some a, some c => some (.func (.func f) ⟨a⟩ ⟨c⟩)
    | _, _ => none
  | .func (.method f) ⟨a⟩ ⟨c⟩ => match concL m a, concL m c with
    | some a, some c => some (.func (.method f) ⟨a⟩ ⟨c⟩)
    | _, _ => none
  | .func (.yield l) ⟨[]⟩ ⟨[]⟩ => (m l).map fun x => .func (.yield x.blk) ⟨[]⟩ ⟨[]⟩
  | .iface t v => (conc m v).map (.iface t)
  | .agg ⟨l⟩ => (concL m l).map fun l => .agg ⟨l⟩
  | .tuple ⟨l⟩ => (concL m l).map fun l => .tuple ⟨l⟩
  | _ => none
def concL (m : Map) : List Value → Option (List Value)
  | [] => some []
  | v :: r => match conc m v, concL m r with
    | some v, some r => some (v :: r)
    | _, _ => none
end

def Sub (m m' : Map) : Prop := ∀ b x, m b = some x → m' b = some x
theorem Sub.refl (m : Map) : Sub m m := fun _ _ h => h
theorem Sub.trans {a b c : Map} (h : Sub a b) (k : Sub b c) : Sub a c := fun x y e => k x y (h x y e)

theorem concL_cons {m : Map} {v : Value} {r : List Value} {c : List Value} (h : concL m (v :: r) = some c) : ∃ a b, conc m v = some a ∧ concL m r = some b ∧ c = a :: b := by
  rw [concL] at h
  split at h
  · rename_i a b ha hb; cases h; exact ⟨a, b, ha, hb, rfl⟩
  · cases h
theorem concL_cons' {m : Map} {v : Value} {r : List Value} {a : Value} {b : List Value} (h : conc m v = some a) (h' : concL m r = some b) : concL m (v :: r) = some (a :: b) := by
  rw [concL, h, h']
@[simp] theorem concL_nil (m : Map) : concL m [] = some [] := by rw [concL]

theorem conc_mono {m m' : Map} (hm : Sub m m') (v : Value) : ∀ c, conc m v = some c → conc m' v = some c := by
  refine Value.rec (motive_1 := fun v => ∀ c, conc m v = some c → conc m' v = some c) (motive_2 := fun a => ∀ c, concL m a.toList = some c → concL m' a.toList = some c)
    (motive_3 := fun l => ∀ c, concL m l = some c → concL m' l = some c) ?_ ?_ ?_ ?_ ?_ ?_ ?_ ?_ ?_ ?_ ?_ ?_ ?_ ?_ ?_ ?_ ?_ ?_ v
  · intro b c h; simpa [conc] using h
  · intro k n c h; simpa [conc] using h
  · intro k n c h; simpa [conc] using h
  · intro k n _ c h; simp [conc] at h
  · intro s c h; simpa [conc] using h
  · intro a c h
    match a with
    | none => simpa [conc] using h
    | some ⟨b, off, some _⟩ => simp [conc] at h
    | some ⟨b, off, none⟩ =>
      simp only [conc, Option.map_eq_some_iff] at h ⊢
      obtain ⟨x, hx, e⟩ := h
      exact ⟨x, hm b x hx, e⟩
  · intro a len code c h
    match a, len, code with
    | none, 0, 0 => simpa [conc] using h
    | none, 0, _ + 1 => simp [conc] at h
    | none, _ + 1, _ => simp [conc] at h
    | some ⟨b, off, some _⟩, _ + 1, _ => simp [conc] at h
    | some ⟨b, off, some back⟩, 0, code =>
      simp only [conc] at h ⊢
      split at h
      · cases h
      · rename_i hc
        rw [if_neg hc]
        simp only [Option.map_eq_some_iff] at h ⊢
        obtain ⟨x, hx, e⟩ := h
        exact ⟨x, hm b x hx, e⟩
    | some ⟨b, off, none⟩, len, code =>
      simp only [conc, Option.map_eq_some_iff] at h ⊢
      obtain ⟨x, hx, e⟩ := h
      exact ⟨x, hm b x hx, e⟩
  · intro r c h
    match r with
    | none => simpa [conc] using h
    | some r =>
      simp only [conc, Option.map_eq_some_iff] at h ⊢
      obtain ⟨x, hx, e⟩ := h
      exact ⟨x, hm r x hx, e⟩
  · intro r c h; simp [conc] at h
  · intro fn a b iha ihb c h
    obtain ⟨a⟩ := a
    obtain ⟨b⟩ := b
    match fn with
    | .func f =>
      simp only [conc] at h ⊢
      split at h
      · rename_i x y hx hy
        cases h
        simp [iha x hx, ihb y hy]
      · cases h
    | .yield l =>
      match a, b with
      | [], [] =>
        simp only [conc, Option.map_eq_some_iff] at h ⊢
        obtain ⟨x, hx, e⟩ := h
        exact ⟨x, hm l x hx, e⟩
      | _ :: _, _ => simp [conc] at h
      | [], _ :: _ => simp [conc] at h
    | .method f =>
      simp only [conc] at h ⊢
      split at h
      · rename_i x y hx hy
        cases h
        simp [iha x hx, ihb y hy]
      · cases h
    | .methodOf _ _ => simp [conc] at h
    | .via _ _ _ _ => simp [conc] at h
  · intro c h; simpa [conc] using h
  · intro t v ih c h
    simp only [conc, Option.map_eq_some_iff] at h ⊢
    obtain ⟨x, hx, e⟩ := h
    exact ⟨x, ih x hx, e⟩
  · intro c h; simpa [conc] using h
  · intro a ih c h
    obtain ⟨a⟩ := a
    simp only [conc, Option.map_eq_some_iff] at h ⊢
    obtain ⟨x, hx, e⟩ := h
    exact ⟨x, ih x hx, e⟩
  · intro a ih c h
    obtain ⟨a⟩ := a
    simp only [conc, Option.map_eq_some_iff] at h ⊢
    obtain ⟨x, hx, e⟩ := h
    exact ⟨x, ih x hx, e⟩
  · intro l ih; exact ih
  · intro c h; simpa using h
  · intro v r ihv ihr c h
    obtain ⟨a, b, ha, hb, rfl⟩ := concL_cons h
    exact concL_cons' (ihv a ha) (ihr b hb)
theorem concL_mono {m m' : Map} (hm : Sub m m') : ∀ (l : List Value) (c : List Value), concL m l = some c → concL m' l = some c
  | [], _, h => by simpa using h
  | v :: r, c, h => by
    obtain ⟨a, b, ha, hb, rfl⟩ := concL_cons h
    exact concL_cons' (conc_mono hm v a ha) (concL_mono hm r b hb)
end Go.Ev
