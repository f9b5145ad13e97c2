/-
  Rows of records that hold a slice of bytes, as they lie in memory; the committed log as a plain list: no program in sight.
-/
import Derived.Shelf.Bytes.SlSmallAll
import Derived.WalkKit
import Derived.Lib.Hide
import Derived.Deep.MidRow
import Derived.OwnWalk
namespace Go.Proofs.YtjhhdklbiibhdaaGreatDoor
open Go Go.RowKit

/-- block b lies below B, or is a row of type te -/
def Out (te : Nat) (W : World) (B b : Nat) : Prop := b < W.heap.size ∧ (b < B ∨ ∃ cur fz, W.heap[b]? = some (.cells cur te fz))
/-- bytes whose block is one of those -/
def BytesAt (te : Nat) (W : World) (B : Nat) (A : Option Addr) (xs : List Int) : Prop :=
  0 < xs.length → ∃ b o, A = some ⟨b, o, none⟩ ∧ Out te W B b ∧ ∀ i, i < xs.length → W.cell? ⟨b, o + i, none⟩ = some (.int .u8 (xs.getD i 0))

theorem Out.keep {te : Nat} {W W' : World} {B b : Nat} (h : Out te W B b) (hs : W.heap.size ≤ W'.heap.size) (e : W'.heap[b]? = W.heap[b]?) : Out te W' B b := by
  refine ⟨Nat.lt_of_lt_of_le h.1 hs, ?_⟩
  rcases h.2 with h2 | ⟨cur, fz, h2⟩
  · exact .inl h2
  · exact .inr ⟨cur, fz, e.trans h2⟩
theorem BytesAt.keep {te : Nat} {W W' : World} {B : Nat} {A : Option Addr} {xs : List Int} (h : BytesAt te W B A xs) (hs : W.heap.size ≤ W'.heap.size) (e : ∀ b, Out te W B b → W'.heap[b]? = W.heap[b]?) : BytesAt te W' B A xs := fun hn => by
  obtain ⟨b, o, rfl, ho, hc⟩ := h hn
  exact ⟨b, o, rfl, ho.keep hs (e b ho), fun i hi => (World.cell?_of_block (w := W) (e b ho)).trans (hc i hi)⟩
theorem BytesAt.lower {te : Nat} {W : World} {B B' : Nat} {A : Option Addr} {xs : List Int} (h : BytesAt te W B A xs) (hs : B ≤ B') : BytesAt te W B' A xs := fun hn => by
  obtain ⟨b, o, rfl, ho, hc⟩ := h hn
  refine ⟨b, o, rfl, ⟨ho.1, ?_⟩, hc⟩
  rcases ho.2 with h2 | h2
  · exact .inl (Nat.lt_of_lt_of_le h2 hs)
  · exact .inr h2
/-- the reading form: every block that is there -/
theorem BytesAt.top {te : Nat} {W : World} {B : Nat} {A : Option Addr} {xs : List Int} (h : BytesAt te W B A xs) : BytesAt te W W.heap.size A xs := fun hn => by
  obtain ⟨b, o, rfl, ho, hc⟩ := h hn
  exact ⟨b, o, rfl, ⟨ho.1, .inl ho.1⟩, hc⟩
theorem BytesAt.bytesIn {te : Nat} {W : World} {B : Nat} {A : Option Addr} {xs : List Int} (h : BytesAt te W B A xs) : Lib.BytesIn W A xs.length xs := fun hn => by
  obtain ⟨b, o, rfl, _, hc⟩ := h hn
  exact ⟨b, o, rfl, hc⟩
theorem BytesAt.below {te : Nat} {W W' : World} {A : Option Addr} {xs : List Int} (h : BytesAt te W W.heap.size A xs) (hb : Below W.heap.size W W') : BytesAt te W' W.heap.size A xs :=
  h.keep hb.size fun b ho => hb.block b ho.1
theorem BytesAt.of_own {te : Nat} {W : World} {B B' : Nat} {v : Value} {xs : List Int} (h : W.ownsRow B te 1 v xs.length (xs.map (Value.int .u8))) : ∃ A cap, v = .slice A xs.length cap ∧ BytesAt te W B' A xs ∧ (A = none → cap = 0) := by
  rcases h.2 with ⟨rfl, h0⟩ | ⟨g, cap, cur, rfl, hg, hh, _⟩
  · exact ⟨none, 0, by rw [h0], fun hn => by omega, fun _ => rfl⟩
  · refine ⟨_, cap, rfl, fun hn => ⟨g, 0, rfl, ⟨(Array.getElem?_eq_some_iff.1 hh).1, .inr ⟨_, _, hh⟩⟩, fun i hi => ?_⟩, fun e => by cases e⟩
    have := h.cells (g := g) rfl i (.int .u8 (xs.getD i 0)) (by simp [hi])
    rw [Addr.add_mid] at this
    exact this

/-- an owned row's block is not one of the bytes' blocks -/
theorem Out.apart {te T S : Nat} {W : World} {B b n : Nat} {v : Value} {xs : List Value} (ho : Out te W B b) (h : W.ownsRow B T S v n xs) (hne : te ≠ T) : some b ≠ v.ownBlock := by
  rcases h.2 with ⟨rfl, _⟩ | ⟨g, cap, cur, rfl, hg, hh, _⟩
  · intro e; cases e
  · intro e
    have e : b = g := by simpa [Value.ownBlock] using e
    subst e
    rcases ho.2 with h2 | ⟨cur', fz, h2⟩
    · omega
    · rw [hh] at h2
      simp at h2
      exact hne h2.2.1.symm

section
variable {α : Type}
/-- A row of records that the call itself owns: the cells record by record, each record told by C. -/
def OwnR (_te T S : Nat) (C : World → Nat → α → List Value → Prop) (W : World) (B : Nat) (v : Value) (L : List α) : Prop :=
  ∃ css : List (List Value), W.ownsRow B T S v L.length css.flatten ∧ css.length = L.length ∧ (∀ cs ∈ css, cs.length = S) ∧ ∀ (k : Nat) x cs, L[k]? = some x → css[k]? = some cs → C W B x cs
/-- a record's telling stays where the bytes' blocks stay -/
def Stays (te : Nat) (C : World → Nat → α → List Value → Prop) : Prop := ∀ {W W' : World} {B : Nat} {x : α} {cs : List Value}, C W B x cs → W.heap.size ≤ W'.heap.size → (∀ b, Out te W B b → W'.heap[b]? = W.heap[b]?) → C W' B x cs

variable {te T S : Nat} {C : World → Nat → α → List Value → Prop}
theorem Stays.next {W : World} {B : Nat} {x : α} {cs : List Value} (hC : Stays te C) (h : C W B x cs) (o : Obj) : C (W.alloc o) B x cs := hC h (by simp) fun b ho => by
  show (W.heap.push o)[b]? = W.heap[b]?
  rw [Array.getElem?_push]
  simp [Nat.ne_of_lt ho.1]
theorem OwnR.nil (W : World) (B : Nat) : OwnR te T S C W B (.slice none 0 0) ([] : List α) := ⟨[], World.ownsRow_nil _ _ _ _, rfl, fun _ h => absurd h (by simp), fun k x cs h => absurd h (by simp)⟩
/-- behind whatever leaves the row and the bytes -/
theorem OwnR.keep {W W' : World} {B : Nat} {v : Value} {L : List α} (hC : Stays te C) (h : OwnR te T S C W B v L) (hs : W.heap.size ≤ W'.heap.size) (e : ∀ k, k < W.heap.size → W'.heap[k]? = W.heap[k]?) : OwnR te T S C W' B v L := by
  obtain ⟨css, h1, h2, h3, h4⟩ := h
  refine ⟨css, ⟨h1.1, ?_⟩, h2, h3, fun k x cs hx hcs => hC (h4 k x cs hx hcs) hs fun b ho => e b ho.1⟩
  rcases h1.2 with h | ⟨g, cap, cur, hv, hg, hh, rest⟩
  · exact .inl h
  · exact .inr ⟨g, cap, cur, hv, hg, (e g (Array.getElem?_eq_some_iff.1 hh).1).trans hh, rest⟩
theorem OwnR.below {W W' : World} {B : Nat} {v : Value} {L : List α} (hC : Stays te C) (h : OwnR te T S C W B v L) (hb : Below W.heap.size W W') : OwnR te T S C W' B v L := h.keep hC hb.size hb.block
theorem flatten_at : ∀ (css : List (List Value)), (∀ cs ∈ css, cs.length = S) → ∀ (k : Nat) cs (j : Nat) v, css[k]? = some cs → cs[j]? = some v → css.flatten[k * S + j]? = some v
  | [], _, k, cs, j, v, h, _ => by simp at h
  | c :: css, hl, 0, cs, j, v, h, hj => by
    simp at h
    subst h
    rw [Nat.zero_mul, Nat.zero_add, List.flatten_cons, List.getElem?_append_left (List.getElem?_eq_some_iff.1 hj).1]
    exact hj
  | c :: css, hl, k + 1, cs, j, v, h, hj => by
    have hc : c.length = S := hl c (by simp)
    have := flatten_at css (fun c' h' => hl c' (by simp [h'])) k cs j v (by simpa using h) hj
    rw [List.flatten_cons, List.getElem?_append_right (by rw [hc, Nat.succ_mul]; omega), hc]
    rw [← this]
    congr 1
    rw [Nat.succ_mul]
    omega
/-- one more -/
theorem OwnR.snoc {W W' : World} {B : Nat} {v v' : Value} {L : List α} {x : α} {cs : List Value} (hC : Stays te C) (hne : te ≠ T) {css : List (List Value)} {n : Nat} (hn : n = L.length) (h1 : W.ownsRow B T S v n css.flatten) (h2 : css.length = L.length) (h3 : ∀ cs ∈ css, cs.length = S)
    (h4 : ∀ (k : Nat) x cs, L[k]? = some x → css[k]? = some cs → C W B x cs) (hx : C W B x cs) (hl : cs.length = S)
    (hown : W'.ownsRow B T S v' (n + 1) (css.flatten ++ cs)) (hg : W.grownBy W' v.ownBlock) : OwnR te T S C W' B v' (L ++ [x]) := by
  subst hn
  have keep : ∀ b, Out te W B b → W'.heap[b]? = W.heap[b]? := fun b ho => hg.block b ho.1 (ho.apart h1 hne)
  refine ⟨css ++ [cs], by simpa using hown, by simp [h2], fun c hc => ?_, fun k y c hy hc => ?_⟩
  · rcases List.mem_append.1 hc with hc | hc
    · exact h3 c hc
    · obtain rfl := List.mem_singleton.1 hc
      exact hl
  · by_cases hk : k < L.length
    · rw [List.getElem?_append_left hk] at hy
      rw [List.getElem?_append_left (by omega)] at hc
      exact hC (h4 k y c hy hc) hg.size keep
    · have hk' : k = L.length := by
        have := (List.getElem?_eq_some_iff.1 hy).1
        simp at this
        omega
      subst hk'
      rw [List.getElem?_append_right (Nat.le_refl _)] at hy
      rw [List.getElem?_append_right (by omega)] at hc
      rw [show L.length - css.length = 0 by omega] at hc
      simp at hy hc
      subst hy hc
      exact hC hx hg.size keep

theorem OwnR.of {W : World} {B n : Nat} {v : Value} {L : List α} {css : List (List Value)} (hn : n = L.length) (h1 : W.ownsRow B T S v n css.flatten) (h2 : css.length = L.length) (h3 : ∀ cs ∈ css, cs.length = S)
    (h4 : ∀ (k : Nat) x cs, L[k]? = some x → css[k]? = some cs → C W B x cs) : OwnR te T S C W B v L := by
  subst hn
  exact ⟨css, h1, h2, h3, h4⟩
/-- A row of records that can be read: the slice's address, the records from there on. -/
def RowIn (_te S : Nat) (C : World → Nat → α → List Value → Prop) (W : World) (A : Option Addr) (L : List α) : Prop :=
  ∀ (k : Nat) x, L[k]? = some x → ∃ b off cs, A = some ⟨b, off, none⟩ ∧ b < W.heap.size ∧ cs.length = S ∧ W.rangeAt b (off + k * S) cs ∧ C W W.heap.size x cs
/-- telling under a greater base -/
def Lowers (C : World → Nat → α → List Value → Prop) : Prop := ∀ {W : World} {B B' : Nat} {x : α} {cs : List Value}, C W B x cs → (∀ b, Out te W B b → Out te W B' b) → C W B' x cs
theorem RowIn.below {W W' : World} {A : Option Addr} {L : List α} (hC : Stays te C) (hD : Lowers (te := te) C) (h : RowIn te S C W A L) (hb : Below W.heap.size W W') : RowIn te S C W' A L := fun k x hx => by
  obtain ⟨b, off, cs, e, hlt, hl, hr, hc⟩ := h k x hx
  refine ⟨b, off, cs, e, Nat.lt_of_lt_of_le hlt hb.size, hl, fun j v hv => (hb.cell (p := ⟨b, off + k * S + j, none⟩) hlt).trans (hr j v hv), ?_⟩
  exact hD (hC hc hb.size fun b ho => hb.block b ho.1) fun b ho => ⟨ho.1, .inl ho.1⟩
theorem OwnR.rowIn {W : World} {B : Nat} {v : Value} {L : List α} (hD : Lowers (te := te) C) (h : OwnR te T S C W B v L) : ∃ A cap, v = .slice A L.length cap ∧ RowIn te S C W A L := by
  obtain ⟨css, h1, h2, h3, h4⟩ := h
  rcases h1.2 with ⟨rfl, h0⟩ | ⟨g, cap, cur, rfl, hg, hh, _⟩
  · exact ⟨none, 0, by rw [h0], fun k x hx => by have := (List.getElem?_eq_some_iff.1 hx).1; omega⟩
  · refine ⟨_, cap, rfl, fun k x hx => ?_⟩
    have hk : k < css.length := by have := (List.getElem?_eq_some_iff.1 hx).1; omega
    refine ⟨g, 0, css[k], rfl, (Array.getElem?_eq_some_iff.1 hh).1, h3 _ (List.getElem_mem hk), fun j v hv => ?_, hD (h4 k x _ hx (List.getElem?_eq_getElem hk)) fun b ho => ⟨ho.1, .inl ho.1⟩⟩
    have := h1.cells (g := g) rfl _ _ (flatten_at css h3 k css[k] j v (List.getElem?_eq_getElem hk) hv)
    rw [Addr.add_mid] at this
    rw [show 0 + k * S + j = 0 + (k * S + j) by omega]
    exact this
end

/-! ## events and entries -/
/-- what the laws read of an event -/
structure EvD where
  kind : Int
  tick : Int
  who : Int
  call : Int
  epoch : Int
  n : Int
  term : Int
  ek : Int
  body : List Int
/-- an entry -/
structure EnD where
  term : Int
  ek : Int
  body : List Int
def EvD.en (x : EvD) : EnD := ⟨x.term, x.ek, x.body⟩
def enCells (x : EnD) (A : Option Addr) (cap : Nat) : List Value := [.int .i64 x.term, .int .i64 x.ek, .slice A x.body.length cap]
def evCells (x : EvD) (A : Option Addr) (cap : Nat) (tl : List Value) : List Value :=
  .int .i64 x.kind :: .int .i64 x.tick :: .int .i64 x.who :: .int .i64 x.call :: .int .i64 x.epoch :: .int .i64 x.n :: .int .i64 x.term :: .int .i64 x.ek :: .slice A x.body.length cap :: tl
def EnC (te : Nat) (W : World) (B : Nat) (x : EnD) (cs : List Value) : Prop := ∃ A cap, cs = enCells x A cap ∧ BytesAt te W B A x.body ∧ (A = none → cap = 0)
def EvC (te : Nat) (W : World) (B : Nat) (x : EvD) (cs : List Value) : Prop := ∃ A cap tl, cs = evCells x A cap tl ∧ tl.length = 19 ∧ (∀ v ∈ tl, v.oneCell' = true) ∧ BytesAt te W B A x.body ∧ (A = none → cap = 0)
theorem enC_stays (te : Nat) : Stays te (EnC te) := fun ⟨A, cap, h1, h2, h3⟩ hs e => ⟨A, cap, h1, h2.keep hs e, h3⟩
theorem evC_stays (te : Nat) : Stays te (EvC te) := fun ⟨A, cap, tl, h1, h2, h3, h4, h5⟩ hs e => ⟨A, cap, tl, h1, h2, h3, h4.keep hs e, h5⟩
theorem enC_next {te : Nat} {W : World} {B : Nat} {x : EnD} {cs : List Value} (h : EnC te W B x cs) (o : Obj) : EnC te (W.alloc o) B x cs := Stays.next (C := EnC te) (enC_stays te) h o
theorem evC_next {te : Nat} {W : World} {B : Nat} {x : EvD} {cs : List Value} (h : EvC te W B x cs) (o : Obj) : EvC te (W.alloc o) B x cs := Stays.next (C := EvC te) (evC_stays te) h o
theorem BytesAt.imp {te : Nat} {W : World} {B B' : Nat} {A : Option Addr} {xs : List Int} (h : BytesAt te W B A xs) (f : ∀ b, Out te W B b → Out te W B' b) : BytesAt te W B' A xs := fun hn => by
  obtain ⟨b, o, e, ho, hc⟩ := h hn
  exact ⟨b, o, e, f b ho, hc⟩
theorem enC_lowers (te : Nat) : Lowers (te := te) (EnC te) := fun ⟨A, cap, h1, h2, h3⟩ f => ⟨A, cap, h1, h2.imp f, h3⟩
theorem evC_lowers (te : Nat) : Lowers (te := te) (EvC te) := fun ⟨A, cap, tl, h1, h2, h3, h4, h5⟩ f => ⟨A, cap, tl, h1, h2, h3, h4.imp f, h5⟩

/-! ## the committed log -/
def logStep (acc : List EnD) (x : EvD) : List EnD := if x.kind = 7 ∧ x.n = (acc.length : Int) + 1 then acc ++ [x.en] else acc
def logOf (L : List EvD) : List EnD := L.foldl logStep []
theorem logOf_snoc (L : List EvD) (k : Nat) (x : EvD) (hx : L[k]? = some x) : logOf (L.take (k + 1)) = logStep (logOf (L.take k)) x := by
  obtain ⟨hk, rfl⟩ := List.getElem?_eq_some_iff.1 hx
  unfold logOf
  rw [List.take_succ_eq_append_getElem hk, List.foldl_append]
  rfl
theorem logStep_hit {acc : List EnD} {x : EvD} (h1 : x.kind = 7) (h2 : x.n = (acc.length : Int) + 1) : logStep acc x = acc ++ [x.en] := if_pos ⟨h1, h2⟩
theorem logStep_miss {acc : List EnD} {x : EvD} (h : ¬ (x.kind = 7 ∧ x.n = (acc.length : Int) + 1)) : logStep acc x = acc := if_neg h
theorem logOf_len : ∀ (L : List EvD) (acc : List EnD), (L.foldl logStep acc).length ≤ acc.length + L.length
  | [], acc => by simp
  | x :: L, acc => by
    have h := logOf_len L (logStep acc x)
    have h2 : (logStep acc x).length ≤ acc.length + 1 := by unfold logStep; split <;> simp
    simp only [List.foldl_cons, List.length_cons]
    omega
theorem logOf_le (L : List EvD) : (logOf L).length ≤ L.length := by simpa [logOf] using logOf_len L []
theorem logOf_old : ∀ (M : List EvD) (acc : List EnD), (∀ x ∈ M, x.n ≤ acc.length) → M.foldl logStep acc = acc
  | [], _, _ => rfl
  | x :: M, acc, h => by
    have hx := h x (by simp)
    rw [List.foldl_cons, logStep_miss (by omega)]
    exact logOf_old M acc fun y hy => h y (by simp [hy])
theorem logOf_more (L M : List EvD) (h : ∀ x ∈ M, x.n ≤ (logOf L).length) : logOf (L ++ M) = logOf L := by
  unfold logOf
  rw [List.foldl_append]
  exact logOf_old M _ h
theorem logOf_body : ∀ (L : List EvD) (acc : List EnD) (m : Nat), (∀ x ∈ L, x.body.length ≤ m) → (∀ y ∈ acc, y.body.length ≤ m) → ∀ y ∈ L.foldl logStep acc, y.body.length ≤ m
  | [], acc, m, _, h => h
  | x :: L, acc, m, h1, h2 => by
    rw [List.foldl_cons]
    refine logOf_body L _ m (fun y hy => h1 y (by simp [hy])) fun y hy => ?_
    unfold logStep at hy
    split at hy
    · rcases List.mem_append.1 hy with hy | hy
      · exact h2 y hy
      · obtain rfl := List.mem_singleton.1 hy
        exact h1 x (by simp)
    · exact h2 y hy
end Go.Proofs.YtjhhdklbiibhdaaGreatDoor
