/-
  A part of the proof that the evaluator answers what the model answers, for every program that follows mixed orders; no other condition.
-/
import Derived.Test.YtnfmgkkhejminaaGreatDoorStEvDefs
namespace Go.Ev
noncomputable section
variable [OTab]

/-! ## the fast evaluator: each operation is made ready once (a closed term, so the kernel remembers it) and then run at the temporaries -/
structure Bx (α : Type) where
  v : α
structure N8 (α : Type) where
  a : α
  b : α
  c : α
  d : α
  e : α
  f : α
  g : α
  h : α
abbrev F0 : Type := Bx Value
abbrev F1 : Type := N8 F0
abbrev F2 : Type := N8 F1
abbrev F3 : Type := N8 F2
def w0 : F0 := ⟨undef⟩
def w1 : F1 := ⟨w0, w0, w0, w0, w0, w0, w0, w0⟩
def w2 : F2 := ⟨w1, w1, w1, w1, w1, w1, w1, w1⟩
def w3 : F3 := ⟨w2, w2, w2, w2, w2, w2, w2, w2⟩
def sl1 (d : Nat) : Bx (F1 → F0) := match d with
  | 0 => ⟨fun x => x.a⟩
  | 1 => ⟨fun x => x.b⟩
  | 2 => ⟨fun x => x.c⟩
  | 3 => ⟨fun x => x.d⟩
  | 4 => ⟨fun x => x.e⟩
  | 5 => ⟨fun x => x.f⟩
  | 6 => ⟨fun x => x.g⟩
  | _ => ⟨fun x => x.h⟩
def st1a (y : F0) (x : F1) : F1 := N8.rec (motive := fun _ => F0 → F1) (fun _ b c d e f g h y => N8.mk y b c d e f g h) x y
def st1b (y : F0) (x : F1) : F1 := N8.rec (motive := fun _ => F0 → F1) (fun a _ c d e f g h y => N8.mk a y c d e f g h) x y
def st1c (y : F0) (x : F1) : F1 := N8.rec (motive := fun _ => F0 → F1) (fun a b _ d e f g h y => N8.mk a b y d e f g h) x y
def st1d (y : F0) (x : F1) : F1 := N8.rec (motive := fun _ => F0 → F1) (fun a b c _ e f g h y => N8.mk a b c y e f g h) x y
def st1e (y : F0) (x : F1) : F1 := N8.rec (motive := fun _ => F0 → F1) (fun a b c d _ f g h y => N8.mk a b c d y f g h) x y
def st1f (y : F0) (x : F1) : F1 := N8.rec (motive := fun _ => F0 → F1) (fun a b c d e _ g h y => N8.mk a b c d e y g h) x y
def st1g (y : F0) (x : F1) : F1 := N8.rec (motive := fun _ => F0 → F1) (fun a b c d e f _ h y => N8.mk a b c d e f y h) x y
def st1h (y : F0) (x : F1) : F1 := N8.rec (motive := fun _ => F0 → F1) (fun a b c d e f g _ y => N8.mk a b c d e f g y) x y
def se1 (d : Nat) : Bx (F0 → F1 → F1) := match d with
  | 0 => ⟨st1a⟩
  | 1 => ⟨st1b⟩
  | 2 => ⟨st1c⟩
  | 3 => ⟨st1d⟩
  | 4 => ⟨st1e⟩
  | 5 => ⟨st1f⟩
  | 6 => ⟨st1g⟩
  | _ => ⟨st1h⟩
def sl2 (d : Nat) : Bx (F2 → F1) := match d with
  | 0 => ⟨fun x => x.a⟩
  | 1 => ⟨fun x => x.b⟩
  | 2 => ⟨fun x => x.c⟩
  | 3 => ⟨fun x => x.d⟩
  | 4 => ⟨fun x => x.e⟩
  | 5 => ⟨fun x => x.f⟩
  | 6 => ⟨fun x => x.g⟩
  | _ => ⟨fun x => x.h⟩
def st2a (y : F1) (x : F2) : F2 := N8.rec (motive := fun _ => F1 → F2) (fun _ b c d e f g h y => N8.mk y b c d e f g h) x y
def st2b (y : F1) (x : F2) : F2 := N8.rec (motive := fun _ => F1 → F2) (fun a _ c d e f g h y => N8.mk a y c d e f g h) x y
def st2c (y : F1) (x : F2) : F2 := N8.rec (motive := fun _ => F1 → F2) (fun a b _ d e f g h y => N8.mk a b y d e f g h) x y
def st2d (y : F1) (x : F2) : F2 := N8.rec (motive := fun _ => F1 → F2) (fun a b c _ e f g h y => N8.mk a b c y e f g h) x y
def st2e (y : F1) (x : F2) : F2 := N8.rec (motive := fun _ => F1 → F2) (fun a b c d _ f g h y => N8.mk a b c d y f g h) x y
def st2f (y : F1) (x : F2) : F2 := N8.rec (motive := fun _ => F1 → F2) (fun a b c d e _ g h y => N8.mk a b c d e y g h) x y
def st2g (y : F1) (x : F2) : F2 := N8.rec (motive := fun _ => F1 → F2) (fun a b c d e f _ h y => N8.mk a b c d e f y h) x y
def st2h (y : F1) (x : F2) : F2 := N8.rec (motive := fun _ => F1 → F2) (fun a b c d e f g _ y => N8.mk a b c d e f g y) x y
def se2 (d : Nat) : Bx (F1 → F2 → F2) := match d with
  | 0 => ⟨st2a⟩
  | 1 => ⟨st2b⟩
  | 2 => ⟨st2c⟩
  | 3 => ⟨st2d⟩
  | 4 => ⟨st2e⟩
  | 5 => ⟨st2f⟩
  | 6 => ⟨st2g⟩
  | _ => ⟨st2h⟩
def sl3 (d : Nat) : Bx (F3 → F2) := match d with
  | 0 => ⟨fun x => x.a⟩
  | 1 => ⟨fun x => x.b⟩
  | 2 => ⟨fun x => x.c⟩
  | 3 => ⟨fun x => x.d⟩
  | 4 => ⟨fun x => x.e⟩
  | 5 => ⟨fun x => x.f⟩
  | 6 => ⟨fun x => x.g⟩
  | _ => ⟨fun x => x.h⟩
def st3a (y : F2) (x : F3) : F3 := N8.rec (motive := fun _ => F2 → F3) (fun _ b c d e f g h y => N8.mk y b c d e f g h) x y
def st3b (y : F2) (x : F3) : F3 := N8.rec (motive := fun _ => F2 → F3) (fun a _ c d e f g h y => N8.mk a y c d e f g h) x y
def st3c (y : F2) (x : F3) : F3 := N8.rec (motive := fun _ => F2 → F3) (fun a b _ d e f g h y => N8.mk a b y d e f g h) x y
def st3d (y : F2) (x : F3) : F3 := N8.rec (motive := fun _ => F2 → F3) (fun a b c _ e f g h y => N8.mk a b c y e f g h) x y
def st3e (y : F2) (x : F3) : F3 := N8.rec (motive := fun _ => F2 → F3) (fun a b c d _ f g h y => N8.mk a b c d y f g h) x y
def st3f (y : F2) (x : F3) : F3 := N8.rec (motive := fun _ => F2 → F3) (fun a b c d e _ g h y => N8.mk a b c d e y g h) x y
def st3g (y : F2) (x : F3) : F3 := N8.rec (motive := fun _ => F2 → F3) (fun a b c d e f _ h y => N8.mk a b c d e f y h) x y
def st3h (y : F2) (x : F3) : F3 := N8.rec (motive := fun _ => F2 → F3) (fun a b c d e f g _ y => N8.mk a b c d e f g y) x y
def se3 (d : Nat) : Bx (F2 → F3 → F3) := match d with
  | 0 => ⟨st3a⟩
  | 1 => ⟨st3b⟩
  | 2 => ⟨st3c⟩
  | 3 => ⟨st3d⟩
  | 4 => ⟨st3e⟩
  | 5 => ⟨st3f⟩
  | 6 => ⟨st3g⟩
  | _ => ⟨st3h⟩
def q000 (N : F3) : F0 := N.a.a.a
def q001 (N : F3) : F0 := N.a.a.b
def q002 (N : F3) : F0 := N.a.a.c
def q003 (N : F3) : F0 := N.a.a.d
def q004 (N : F3) : F0 := N.a.a.e
def q005 (N : F3) : F0 := N.a.a.f
def q006 (N : F3) : F0 := N.a.a.g
def q007 (N : F3) : F0 := N.a.a.h
def q010 (N : F3) : F0 := N.a.b.a
def q011 (N : F3) : F0 := N.a.b.b
def q012 (N : F3) : F0 := N.a.b.c
def q013 (N : F3) : F0 := N.a.b.d
def q014 (N : F3) : F0 := N.a.b.e
def q015 (N : F3) : F0 := N.a.b.f
def q016 (N : F3) : F0 := N.a.b.g
def q017 (N : F3) : F0 := N.a.b.h
def q020 (N : F3) : F0 := N.a.c.a
def q021 (N : F3) : F0 := N.a.c.b
def q022 (N : F3) : F0 := N.a.c.c
def q023 (N : F3) : F0 := N.a.c.d
def q024 (N : F3) : F0 := N.a.c.e
def q025 (N : F3) : F0 := N.a.c.f
def q026 (N : F3) : F0 := N.a.c.g
def q027 (N : F3) : F0 := N.a.c.h
def q030 (N : F3) : F0 := N.a.d.a
def q031 (N : F3) : F0 := N.a.d.b
def q032 (N : F3) : F0 := N.a.d.c
def q033 (N : F3) : F0 := N.a.d.d
def q034 (N : F3) : F0 := N.a.d.e
def q035 (N : F3) : F0 := N.a.d.f
def q036 (N : F3) : F0 := N.a.d.g
def q037 (N : F3) : F0 := N.a.d.h
def q040 (N : F3) : F0 := N.a.e.a
def q041 (N : F3) : F0 := N.a.e.b
def q042 (N : F3) : F0 := N.a.e.c
def q043 (N : F3) : F0 := N.a.e.d
def q044 (N : F3) : F0 := N.a.e.e
def q045 (N : F3) : F0 := N.a.e.f
def q046 (N : F3) : F0 := N.a.e.g
def q047 (N : F3) : F0 := N.a.e.h
def q050 (N : F3) : F0 := N.a.f.a
def q051 (N : F3) : F0 := N.a.f.b
def q052 (N : F3) : F0 := N.a.f.c
def q053 (N : F3) : F0 := N.a.f.d
def q054 (N : F3) : F0 := N.a.f.e
def q055 (N : F3) : F0 := N.a.f.f
def q056 (N : F3) : F0 := N.a.f.g
def q057 (N : F3) : F0 := N.a.f.h
def q060 (N : F3) : F0 := N.a.g.a
def q061 (N : F3) : F0 := N.a.g.b
def q062 (N : F3) : F0 := N.a.g.c
def q063 (N : F3) : F0 := N.a.g.d
def q064 (N : F3) : F0 := N.a.g.e
def q065 (N : F3) : F0 := N.a.g.f
def q066 (N : F3) : F0 := N.a.g.g
def q067 (N : F3) : F0 := N.a.g.h
def q070 (N : F3) : F0 := N.a.h.a
def q071 (N : F3) : F0 := N.a.h.b
def q072 (N : F3) : F0 := N.a.h.c
def q073 (N : F3) : F0 := N.a.h.d
def q074 (N : F3) : F0 := N.a.h.e
def q075 (N : F3) : F0 := N.a.h.f
def q076 (N : F3) : F0 := N.a.h.g
def q077 (N : F3) : F0 := N.a.h.h
def q100 (N : F3) : F0 := N.b.a.a
def q101 (N : F3) : F0 := N.b.a.b
def q102 (N : F3) : F0 := N.b.a.c
def q103 (N : F3) : F0 := N.b.a.d
def q104 (N : F3) : F0 := N.b.a.e
def q105 (N : F3) : F0 := N.b.a.f
def q106 (N : F3) : F0 := N.b.a.g
def q107 (N : F3) : F0 := N.b.a.h
def q110 (N : F3) : F0 := N.b.b.a
def q111 (N : F3) : F0 := N.b.b.b
def q112 (N : F3) : F0 := N.b.b.c
def q113 (N : F3) : F0 := N.b.b.d
def q114 (N : F3) : F0 := N.b.b.e
def q115 (N : F3) : F0 := N.b.b.f
def q116 (N : F3) : F0 := N.b.b.g
def q117 (N : F3) : F0 := N.b.b.h
def q120 (N : F3) : F0 := N.b.c.a
def q121 (N : F3) : F0 := N.b.c.b
def q122 (N : F3) : F0 := N.b.c.c
def q123 (N : F3) : F0 := N.b.c.d
def q124 (N : F3) : F0 := N.b.c.e
def q125 (N : F3) : F0 := N.b.c.f
def q126 (N : F3) : F0 := N.b.c.g
def q127 (N : F3) : F0 := N.b.c.h
def q130 (N : F3) : F0 := N.b.d.a
def q131 (N : F3) : F0 := N.b.d.b
def q132 (N : F3) : F0 := N.b.d.c
def q133 (N : F3) : F0 := N.b.d.d
def q134 (N : F3) : F0 := N.b.d.e
def q135 (N : F3) : F0 := N.b.d.f
def q136 (N : F3) : F0 := N.b.d.g
def q137 (N : F3) : F0 := N.b.d.h
def q140 (N : F3) : F0 := N.b.e.a
def q141 (N : F3) : F0 := N.b.e.b
def q142 (N : F3) : F0 := N.b.e.c
def q143 (N : F3) : F0 := N.b.e.d
def q144 (N : F3) : F0 := N.b.e.e
def q145 (N : F3) : F0 := N.b.e.f
def q146 (N : F3) : F0 := N.b.e.g
def q147 (N : F3) : F0 := N.b.e.h
def q150 (N : F3) : F0 := N.b.f.a
def q151 (N : F3) : F0 := N.b.f.b
def q152 (N : F3) : F0 := N.b.f.c
def q153 (N : F3) : F0 := N.b.f.d
def q154 (N : F3) : F0 := N.b.f.e
def q155 (N : F3) : F0 := N.b.f.f
def q156 (N : F3) : F0 := N.b.f.g
def q157 (N : F3) : F0 := N.b.f.h
def q160 (N : F3) : F0 := N.b.g.a
def q161 (N : F3) : F0 := N.b.g.b
def q162 (N : F3) : F0 := N.b.g.c
def q163 (N : F3) : F0 := N.b.g.d
def q164 (N : F3) : F0 := N.b.g.e
def q165 (N : F3) : F0 := N.b.g.f
def q166 (N : F3) : F0 := N.b.g.g
def q167 (N : F3) : F0 := N.b.g.h
def q170 (N : F3) : F0 := N.b.h.a
def q171 (N : F3) : F0 := N.b.h.b
def q172 (N : F3) : F0 := N.b.h.c
def q173 (N : F3) : F0 := N.b.h.d
def q174 (N : F3) : F0 := N.b.h.e
def q175 (N : F3) : F0 := N.b.h.f
def q176 (N : F3) : F0 := N.b.h.g
def q177 (N : F3) : F0 := N.b.h.h
def q200 (N : F3) : F0 := N.c.a.a
def q201 (N : F3) : F0 := N.c.a.b
def q202 (N : F3) : F0 := N.c.a.c
def q203 (N : F3) : F0 := N.c.a.d
def q204 (N : F3) : F0 := N.c.a.e
def q205 (N : F3) : F0 := N.c.a.f
def q206 (N : F3) : F0 := N.c.a.g
def q207 (N : F3) : F0 := N.c.a.h
def q210 (N : F3) : F0 := N.c.b.a
def q211 (N : F3) : F0 := N.c.b.b
def q212 (N : F3) : F0 := N.c.b.c
def q213 (N : F3) : F0 := N.c.b.d
def q214 (N : F3) : F0 := N.c.b.e
def q215 (N : F3) : F0 := N.c.b.f
def q216 (N : F3) : F0 := N.c.b.g
def q217 (N : F3) : F0 := N.c.b.h
def q220 (N : F3) : F0 := N.c.c.a
def q221 (N : F3) : F0 := N.c.c.b
def q222 (N : F3) : F0 := N.c.c.c
def q223 (N : F3) : F0 := N.c.c.d
def q224 (N : F3) : F0 := N.c.c.e
def q225 (N : F3) : F0 := N.c.c.f
def q226 (N : F3) : F0 := N.c.c.g
def q227 (N : F3) : F0 := N.c.c.h
def q230 (N : F3) : F0 := N.c.d.a
def q231 (N : F3) : F0 := N.c.d.b
def q232 (N : F3) : F0 := N.c.d.c
def q233 (N : F3) : F0 := N.c.d.d
def q234 (N : F3) : F0 := N.c.d.e
def q235 (N : F3) : F0 := N.c.d.f
def q236 (N : F3) : F0 := N.c.d.g
def q237 (N : F3) : F0 := N.c.d.h
def q240 (N : F3) : F0 := N.c.e.a
def q241 (N : F3) : F0 := N.c.e.b
def q242 (N : F3) : F0 := N.c.e.c
def q243 (N : F3) : F0 := N.c.e.d
def q244 (N : F3) : F0 := N.c.e.e
def q245 (N : F3) : F0 := N.c.e.f
def q246 (N : F3) : F0 := N.c.e.g
def q247 (N : F3) : F0 := N.c.e.h
def q250 (N : F3) : F0 := N.c.f.a
def q251 (N : F3) : F0 := N.c.f.b
def q252 (N : F3) : F0 := N.c.f.c
def q253 (N : F3) : F0 := N.c.f.d
def q254 (N : F3) : F0 := N.c.f.e
def q255 (N : F3) : F0 := N.c.f.f
def q256 (N : F3) : F0 := N.c.f.g
def q257 (N : F3) : F0 := N.c.f.h
def q260 (N : F3) : F0 := N.c.g.a
def q261 (N : F3) : F0 := N.c.g.b
def q262 (N : F3) : F0 := N.c.g.c
def q263 (N : F3) : F0 := N.c.g.d
def q264 (N : F3) : F0 := N.c.g.e
def q265 (N : F3) : F0 := N.c.g.f
def q266 (N : F3) : F0 := N.c.g.g
def q267 (N : F3) : F0 := N.c.g.h
def q270 (N : F3) : F0 := N.c.h.a
def q271 (N : F3) : F0 := N.c.h.b
def q272 (N : F3) : F0 := N.c.h.c
def q273 (N : F3) : F0 := N.c.h.d
def q274 (N : F3) : F0 := N.c.h.e
def q275 (N : F3) : F0 := N.c.h.f
def q276 (N : F3) : F0 := N.c.h.g
def q277 (N : F3) : F0 := N.c.h.h
def q300 (N : F3) : F0 := N.d.a.a
def q301 (N : F3) : F0 := N.d.a.b
def q302 (N : F3) : F0 := N.d.a.c
def q303 (N : F3) : F0 := N.d.a.d
def q304 (N : F3) : F0 := N.d.a.e
def q305 (N : F3) : F0 := N.d.a.f
def q306 (N : F3) : F0 := N.d.a.g
def q307 (N : F3) : F0 := N.d.a.h
def q310 (N : F3) : F0 := N.d.b.a
def q311 (N : F3) : F0 := N.d.b.b
def q312 (N : F3) : F0 := N.d.b.c
def q313 (N : F3) : F0 := N.d.b.d
def q314 (N : F3) : F0 := N.d.b.e
def q315 (N : F3) : F0 := N.d.b.f
def q316 (N : F3) : F0 := N.d.b.g
def q317 (N : F3) : F0 := N.d.b.h
def q320 (N : F3) : F0 := N.d.c.a
def q321 (N : F3) : F0 := N.d.c.b
def q322 (N : F3) : F0 := N.d.c.c
def q323 (N : F3) : F0 := N.d.c.d
def q324 (N : F3) : F0 := N.d.c.e
def q325 (N : F3) : F0 := N.d.c.f
def q326 (N : F3) : F0 := N.d.c.g
def q327 (N : F3) : F0 := N.d.c.h
def q330 (N : F3) : F0 := N.d.d.a
def q331 (N : F3) : F0 := N.d.d.b
def q332 (N : F3) : F0 := N.d.d.c
def q333 (N : F3) : F0 := N.d.d.d
def q334 (N : F3) : F0 := N.d.d.e
def q335 (N : F3) : F0 := N.d.d.f
def q336 (N : F3) : F0 := N.d.d.g
def q337 (N : F3) : F0 := N.d.d.h
def q340 (N : F3) : F0 := N.d.e.a
def q341 (N : F3) : F0 := N.d.e.b
def q342 (N : F3) : F0 := N.d.e.c
def q343 (N : F3) : F0 := N.d.e.d
def q344 (N : F3) : F0 := N.d.e.e
def q345 (N : F3) : F0 := N.d.e.f
def q346 (N : F3) : F0 := N.d.e.g
def q347 (N : F3) : F0 := N.d.e.h
def q350 (N : F3) : F0 := N.d.f.a
def q351 (N : F3) : F0 := N.d.f.b
def q352 (N : F3) : F0 := N.d.f.c
def q353 (N : F3) : F0 := N.d.f.d
def q354 (N : F3) : F0 := N.d.f.e
def q355 (N : F3) : F0 := N.d.f.f
def q356 (N : F3) : F0 := N.d.f.g
def q357 (N : F3) : F0 := N.d.f.h
def q360 (N : F3) : F0 := N.d.g.a
def q361 (N : F3) : F0 := N.d.g.b
def q362 (N : F3) : F0 := N.d.g.c
def q363 (N : F3) : F0 := N.d.g.d
def q364 (N : F3) : F0 := N.d.g.e
def q365 (N : F3) : F0 := N.d.g.f
def q366 (N : F3) : F0 := N.d.g.g
def q367 (N : F3) : F0 := N.d.g.h
def q370 (N : F3) : F0 := N.d.h.a
def q371 (N : F3) : F0 := N.d.h.b
def q372 (N : F3) : F0 := N.d.h.c
def q373 (N : F3) : F0 := N.d.h.d
def q374 (N : F3) : F0 := N.d.h.e
def q375 (N : F3) : F0 := N.d.h.f
def q376 (N : F3) : F0 := N.d.h.g
def q377 (N : F3) : F0 := N.d.h.h
def q400 (N : F3) : F0 := N.e.a.a
def q401 (N : F3) : F0 := N.e.a.b
def q402 (N : F3) : F0 := N.e.a.c
def q403 (N : F3) : F0 := N.e.a.d
def q404 (N : F3) : F0 := N.e.a.e
def q405 (N : F3) : F0 := N.e.a.f
def q406 (N : F3) : F0 := N.e.a.g
def q407 (N : F3) : F0 := N.e.a.h
def q410 (N : F3) : F0 := N.e.b.a
def q411 (N : F3) : F0 := N.e.b.b
def q412 (N : F3) : F0 := N.e.b.c
def q413 (N : F3) : F0 := N.e.b.d
def q414 (N : F3) : F0 := N.e.b.e
def q415 (N : F3) : F0 := N.e.b.f
def q416 (N : F3) : F0 := N.e.b.g
def q417 (N : F3) : F0 := N.e.b.h
def q420 (N : F3) : F0 := N.e.c.a
def q421 (N : F3) : F0 := N.e.c.b
def q422 (N : F3) : F0 := N.e.c.c
def q423 (N : F3) : F0 := N.e.c.d
def q424 (N : F3) : F0 := N.e.c.e
def q425 (N : F3) : F0 := N.e.c.f
def q426 (N : F3) : F0 := N.e.c.g
def q427 (N : F3) : F0 := N.e.c.h
def q430 (N : F3) : F0 := N.e.d.a
def q431 (N : F3) : F0 := N.e.d.b
def q432 (N : F3) : F0 := N.e.d.c
def q433 (N : F3) : F0 := N.e.d.d
def q434 (N : F3) : F0 := N.e.d.e
def q435 (N : F3) : F0 := N.e.d.f
def q436 (N : F3) : F0 := N.e.d.g
def q437 (N : F3) : F0 := N.e.d.h
def q440 (N : F3) : F0 := N.e.e.a
def q441 (N : F3) : F0 := N.e.e.b
def q442 (N : F3) : F0 := N.e.e.c
def q443 (N : F3) : F0 := N.e.e.d
def q444 (N : F3) : F0 := N.e.e.e
def q445 (N : F3) : F0 := N.e.e.f
def q446 (N : F3) : F0 := N.e.e.g
def q447 (N : F3) : F0 := N.e.e.h
def q450 (N : F3) : F0 := N.e.f.a
def q451 (N : F3) : F0 := N.e.f.b
def q452 (N : F3) : F0 := N.e.f.c
def q453 (N : F3) : F0 := N.e.f.d
def q454 (N : F3) : F0 := N.e.f.e
def q455 (N : F3) : F0 := N.e.f.f
def q456 (N : F3) : F0 := N.e.f.g
def q457 (N : F3) : F0 := N.e.f.h
def q460 (N : F3) : F0 := N.e.g.a
def q461 (N : F3) : F0 := N.e.g.b
def q462 (N : F3) : F0 := N.e.g.c
def q463 (N : F3) : F0 := N.e.g.d
def q464 (N : F3) : F0 := N.e.g.e
def q465 (N : F3) : F0 := N.e.g.f
def q466 (N : F3) : F0 := N.e.g.g
def q467 (N : F3) : F0 := N.e.g.h
def q470 (N : F3) : F0 := N.e.h.a
def q471 (N : F3) : F0 := N.e.h.b
def q472 (N : F3) : F0 := N.e.h.c
def q473 (N : F3) : F0 := N.e.h.d
def q474 (N : F3) : F0 := N.e.h.e
def q475 (N : F3) : F0 := N.e.h.f
def q476 (N : F3) : F0 := N.e.h.g
def q477 (N : F3) : F0 := N.e.h.h
def q500 (N : F3) : F0 := N.f.a.a
def q501 (N : F3) : F0 := N.f.a.b
def q502 (N : F3) : F0 := N.f.a.c
def q503 (N : F3) : F0 := N.f.a.d
def q504 (N : F3) : F0 := N.f.a.e
def q505 (N : F3) : F0 := N.f.a.f
def q506 (N : F3) : F0 := N.f.a.g
def q507 (N : F3) : F0 := N.f.a.h
def q510 (N : F3) : F0 := N.f.b.a
def q511 (N : F3) : F0 := N.f.b.b
def q512 (N : F3) : F0 := N.f.b.c
def q513 (N : F3) : F0 := N.f.b.d
def q514 (N : F3) : F0 := N.f.b.e
def q515 (N : F3) : F0 := N.f.b.f
def q516 (N : F3) : F0 := N.f.b.g
def q517 (N : F3) : F0 := N.f.b.h
def q520 (N : F3) : F0 := N.f.c.a
def q521 (N : F3) : F0 := N.f.c.b
def q522 (N : F3) : F0 := N.f.c.c
def q523 (N : F3) : F0 := N.f.c.d
def q524 (N : F3) : F0 := N.f.c.e
def q525 (N : F3) : F0 := N.f.c.f
def q526 (N : F3) : F0 := N.f.c.g
def q527 (N : F3) : F0 := N.f.c.h
def q530 (N : F3) : F0 := N.f.d.a
def q531 (N : F3) : F0 := N.f.d.b
def q532 (N : F3) : F0 := N.f.d.c
def q533 (N : F3) : F0 := N.f.d.d
def q534 (N : F3) : F0 := N.f.d.e
def q535 (N : F3) : F0 := N.f.d.f
def q536 (N : F3) : F0 := N.f.d.g
def q537 (N : F3) : F0 := N.f.d.h
def q540 (N : F3) : F0 := N.f.e.a
def q541 (N : F3) : F0 := N.f.e.b
def q542 (N : F3) : F0 := N.f.e.c
def q543 (N : F3) : F0 := N.f.e.d
def q544 (N : F3) : F0 := N.f.e.e
def q545 (N : F3) : F0 := N.f.e.f
def q546 (N : F3) : F0 := N.f.e.g
def q547 (N : F3) : F0 := N.f.e.h
def q550 (N : F3) : F0 := N.f.f.a
def q551 (N : F3) : F0 := N.f.f.b
def q552 (N : F3) : F0 := N.f.f.c
def q553 (N : F3) : F0 := N.f.f.d
def q554 (N : F3) : F0 := N.f.f.e
def q555 (N : F3) : F0 := N.f.f.f
def q556 (N : F3) : F0 := N.f.f.g
def q557 (N : F3) : F0 := N.f.f.h
def q560 (N : F3) : F0 := N.f.g.a
def q561 (N : F3) : F0 := N.f.g.b
def q562 (N : F3) : F0 := N.f.g.c
def q563 (N : F3) : F0 := N.f.g.d
def q564 (N : F3) : F0 := N.f.g.e
def q565 (N : F3) : F0 := N.f.g.f
def q566 (N : F3) : F0 := N.f.g.g
def q567 (N : F3) : F0 := N.f.g.h
def q570 (N : F3) : F0 := N.f.h.a
def q571 (N : F3) : F0 := N.f.h.b
def q572 (N : F3) : F0 := N.f.h.c
def q573 (N : F3) : F0 := N.f.h.d
def q574 (N : F3) : F0 := N.f.h.e
def q575 (N : F3) : F0 := N.f.h.f
def q576 (N : F3) : F0 := N.f.h.g
def q577 (N : F3) : F0 := N.f.h.h
def q600 (N : F3) : F0 := N.g.a.a
def q601 (N : F3) : F0 := N.g.a.b
def q602 (N : F3) : F0 := N.g.a.c
def q603 (N : F3) : F0 := N.g.a.d
def q604 (N : F3) : F0 := N.g.a.e
def q605 (N : F3) : F0 := N.g.a.f
def q606 (N : F3) : F0 := N.g.a.g
def q607 (N : F3) : F0 := N.g.a.h
def q610 (N : F3) : F0 := N.g.b.a
def q611 (N : F3) : F0 := N.g.b.b
def q612 (N : F3) : F0 := N.g.b.c
def q613 (N : F3) : F0 := N.g.b.d
def q614 (N : F3) : F0 := N.g.b.e
def q615 (N : F3) : F0 := N.g.b.f
def q616 (N : F3) : F0 := N.g.b.g
def q617 (N : F3) : F0 := N.g.b.h
def q620 (N : F3) : F0 := N.g.c.a
def q621 (N : F3) : F0 := N.g.c.b
def q622 (N : F3) : F0 := N.g.c.c
def q623 (N : F3) : F0 := N.g.c.d
def q624 (N : F3) : F0 := N.g.c.e
def q625 (N : F3) : F0 := N.g.c.f
def q626 (N : F3) : F0 := N.g.c.g
def q627 (N : F3) : F0 := N.g.c.h
def q630 (N : F3) : F0 := N.g.d.a
def q631 (N : F3) : F0 := N.g.d.b
def q632 (N : F3) : F0 := N.g.d.c
def q633 (N : F3) : F0 := N.g.d.d
def q634 (N : F3) : F0 := N.g.d.e
def q635 (N : F3) : F0 := N.g.d.f
def q636 (N : F3) : F0 := N.g.d.g
def q637 (N : F3) : F0 := N.g.d.h
def q640 (N : F3) : F0 := N.g.e.a
def q641 (N : F3) : F0 := N.g.e.b
def q642 (N : F3) : F0 := N.g.e.c
def q643 (N : F3) : F0 := N.g.e.d
def q644 (N : F3) : F0 := N.g.e.e
def q645 (N : F3) : F0 := N.g.e.f
def q646 (N : F3) : F0 := N.g.e.g
def q647 (N : F3) : F0 := N.g.e.h
def q650 (N : F3) : F0 := N.g.f.a
def q651 (N : F3) : F0 := N.g.f.b
def q652 (N : F3) : F0 := N.g.f.c
def q653 (N : F3) : F0 := N.g.f.d
def q654 (N : F3) : F0 := N.g.f.e
def q655 (N : F3) : F0 := N.g.f.f
def q656 (N : F3) : F0 := N.g.f.g
def q657 (N : F3) : F0 := N.g.f.h
def q660 (N : F3) : F0 := N.g.g.a
def q661 (N : F3) : F0 := N.g.g.b
def q662 (N : F3) : F0 := N.g.g.c
def q663 (N : F3) : F0 := N.g.g.d
def q664 (N : F3) : F0 := N.g.g.e
def q665 (N : F3) : F0 := N.g.g.f
def q666 (N : F3) : F0 := N.g.g.g
def q667 (N : F3) : F0 := N.g.g.h
def q670 (N : F3) : F0 := N.g.h.a
def q671 (N : F3) : F0 := N.g.h.b
def q672 (N : F3) : F0 := N.g.h.c
def q673 (N : F3) : F0 := N.g.h.d
def q674 (N : F3) : F0 := N.g.h.e
def q675 (N : F3) : F0 := N.g.h.f
def q676 (N : F3) : F0 := N.g.h.g
def q677 (N : F3) : F0 := N.g.h.h
def q700 (N : F3) : F0 := N.h.a.a
def q701 (N : F3) : F0 := N.h.a.b
def q702 (N : F3) : F0 := N.h.a.c
def q703 (N : F3) : F0 := N.h.a.d
def q704 (N : F3) : F0 := N.h.a.e
def q705 (N : F3) : F0 := N.h.a.f
def q706 (N : F3) : F0 := N.h.a.g
def q707 (N : F3) : F0 := N.h.a.h
def q710 (N : F3) : F0 := N.h.b.a
def q711 (N : F3) : F0 := N.h.b.b
def q712 (N : F3) : F0 := N.h.b.c
def q713 (N : F3) : F0 := N.h.b.d
def q714 (N : F3) : F0 := N.h.b.e
def q715 (N : F3) : F0 := N.h.b.f
def q716 (N : F3) : F0 := N.h.b.g
def q717 (N : F3) : F0 := N.h.b.h
def q720 (N : F3) : F0 := N.h.c.a
def q721 (N : F3) : F0 := N.h.c.b
def q722 (N : F3) : F0 := N.h.c.c
def q723 (N : F3) : F0 := N.h.c.d
def q724 (N : F3) : F0 := N.h.c.e
def q725 (N : F3) : F0 := N.h.c.f
def q726 (N : F3) : F0 := N.h.c.g
def q727 (N : F3) : F0 := N.h.c.h
def q730 (N : F3) : F0 := N.h.d.a
def q731 (N : F3) : F0 := N.h.d.b
def q732 (N : F3) : F0 := N.h.d.c
def q733 (N : F3) : F0 := N.h.d.d
def q734 (N : F3) : F0 := N.h.d.e
def q735 (N : F3) : F0 := N.h.d.f
def q736 (N : F3) : F0 := N.h.d.g
def q737 (N : F3) : F0 := N.h.d.h
def q740 (N : F3) : F0 := N.h.e.a
def q741 (N : F3) : F0 := N.h.e.b
def q742 (N : F3) : F0 := N.h.e.c
def q743 (N : F3) : F0 := N.h.e.d
def q744 (N : F3) : F0 := N.h.e.e
def q745 (N : F3) : F0 := N.h.e.f
def q746 (N : F3) : F0 := N.h.e.g
def q747 (N : F3) : F0 := N.h.e.h
def q750 (N : F3) : F0 := N.h.f.a
def q751 (N : F3) : F0 := N.h.f.b
def q752 (N : F3) : F0 := N.h.f.c
def q753 (N : F3) : F0 := N.h.f.d
def q754 (N : F3) : F0 := N.h.f.e
def q755 (N : F3) : F0 := N.h.f.f
def q756 (N : F3) : F0 := N.h.f.g
def q757 (N : F3) : F0 := N.h.f.h
def q760 (N : F3) : F0 := N.h.g.a
def q761 (N : F3) : F0 := N.h.g.b
def q762 (N : F3) : F0 := N.h.g.c
def q763 (N : F3) : F0 := N.h.g.d
def q764 (N : F3) : F0 := N.h.g.e
def q765 (N : F3) : F0 := N.h.g.f
def q766 (N : F3) : F0 := N.h.g.g
def q767 (N : F3) : F0 := N.h.g.h
def q770 (N : F3) : F0 := N.h.h.a
def q771 (N : F3) : F0 := N.h.h.b
def q772 (N : F3) : F0 := N.h.h.c
def q773 (N : F3) : F0 := N.h.h.d
def q774 (N : F3) : F0 := N.h.h.e
def q775 (N : F3) : F0 := N.h.h.f
def q776 (N : F3) : F0 := N.h.h.g
def q777 (N : F3) : F0 := N.h.h.h
def t00 (y : F0) (x : F2) : F2 := N8.rec (motive := fun _ => F0 → F2) (fun a b c d e f g h y => N8.mk (st1a y a) b c d e f g h) x y
def t01 (y : F0) (x : F2) : F2 := N8.rec (motive := fun _ => F0 → F2) (fun a b c d e f g h y => N8.mk (st1b y a) b c d e f g h) x y
def t02 (y : F0) (x : F2) : F2 := N8.rec (motive := fun _ => F0 → F2) (fun a b c d e f g h y => N8.mk (st1c y a) b c d e f g h) x y
def t03 (y : F0) (x : F2) : F2 := N8.rec (motive := fun _ => F0 → F2) (fun a b c d e f g h y => N8.mk (st1d y a) b c d e f g h) x y
def t04 (y : F0) (x : F2) : F2 := N8.rec (motive := fun _ => F0 → F2) (fun a b c d e f g h y => N8.mk (st1e y a) b c d e f g h) x y
def t05 (y : F0) (x : F2) : F2 := N8.rec (motive := fun _ => F0 → F2) (fun a b c d e f g h y => N8.mk (st1f y a) b c d e f g h) x y
def t06 (y : F0) (x : F2) : F2 := N8.rec (motive := fun _ => F0 → F2) (fun a b c d e f g h y => N8.mk (st1g y a) b c d e f g h) x y
def t07 (y : F0) (x : F2) : F2 := N8.rec (motive := fun _ => F0 → F2) (fun a b c d e f g h y => N8.mk (st1h y a) b c d e f g h) x y
def t10 (y : F0) (x : F2) : F2 := N8.rec (motive := fun _ => F0 → F2) (fun a b c d e f g h y => N8.mk a (st1a y b) c d e f g h) x y
def t11 (y : F0) (x : F2) : F2 := N8.rec (motive := fun _ => F0 → F2) (fun a b c d e f g h y => N8.mk a (st1b y b) c d e f g h) x y
def t12 (y : F0) (x : F2) : F2 := N8.rec (motive := fun _ => F0 → F2) (fun a b c d e f g h y => N8.mk a (st1c y b) c d e f g h) x y
def t13 (y : F0) (x : F2) : F2 := N8.rec (motive := fun _ => F0 → F2) (fun a b c d e f g h y => N8.mk a (st1d y b) c d e f g h) x y
def t14 (y : F0) (x : F2) : F2 := N8.rec (motive := fun _ => F0 → F2) (fun a b c d e f g h y => N8.mk a (st1e y b) c d e f g h) x y
def t15 (y : F0) (x : F2) : F2 := N8.rec (motive := fun _ => F0 → F2) (fun a b c d e f g h y => N8.mk a (st1f y b) c d e f g h) x y
def t16 (y : F0) (x : F2) : F2 := N8.rec (motive := fun _ => F0 → F2) (fun a b c d e f g h y => N8.mk a (st1g y b) c d e f g h) x y
def t17 (y : F0) (x : F2) : F2 := N8.rec (motive := fun _ => F0 → F2) (fun a b c d e f g h y => N8.mk a (st1h y b) c d e f g h) x y
def t20 (y : F0) (x : F2) : F2 := N8.rec (motive := fun _ => F0 → F2) (fun a b c d e f g h y => N8.mk a b (st1a y c) d e f g h) x y
def t21 (y : F0) (x : F2) : F2 := N8.rec (motive := fun _ => F0 → F2) (fun a b c d e f g h y => N8.mk a b (st1b y c) d e f g h) x y
def t22 (y : F0) (x : F2) : F2 := N8.rec (motive := fun _ => F0 → F2) (fun a b c d e f g h y => N8.mk a b (st1c y c) d e f g h) x y
def t23 (y : F0) (x : F2) : F2 := N8.rec (motive := fun _ => F0 → F2) (fun a b c d e f g h y => N8.mk a b (st1d y c) d e f g h) x y
def t24 (y : F0) (x : F2) : F2 := N8.rec (motive := fun _ => F0 → F2) (fun a b c d e f g h y => N8.mk a b (st1e y c) d e f g h) x y
def t25 (y : F0) (x : F2) : F2 := N8.rec (motive := fun _ => F0 → F2) (fun a b c d e f g h y => N8.mk a b (st1f y c) d e f g h) x y
def t26 (y : F0) (x : F2) : F2 := N8.rec (motive := fun _ => F0 → F2) (fun a b c d e f g h y => N8.mk a b (st1g y c) d e f g h) x y
def t27 (y : F0) (x : F2) : F2 := N8.rec (motive := fun _ => F0 → F2) (fun a b c d e f g h y => N8.mk a b (st1h y c) d e f g h) x y
def t30 (y : F0) (x : F2) : F2 := N8.rec (motive := fun _ => F0 → F2) (fun a b c d e f g h y => N8.mk a b c (st1a y d) e f g h) x y
def t31 (y : F0) (x : F2) : F2 := N8.rec (motive := fun _ => F0 → F2) (fun a b c d e f g h y => N8.mk a b c (st1b y d) e f g h) x y
def t32 (y : F0) (x : F2) : F2 := N8.rec (motive := fun _ => F0 → F2) (fun a b c d e f g h y => N8.mk a b c (st1c y d) e f g h) x y
def t33 (y : F0) (x : F2) : F2 := N8.rec (motive := fun _ => F0 → F2) (fun a b c d e f g h y => N8.mk a b c (st1d y d) e f g h) x y
def t34 (y : F0) (x : F2) : F2 := N8.rec (motive := fun _ => F0 → F2) (fun a b c d e f g h y => N8.mk a b c (st1e y d) e f g h) x y
def t35 (y : F0) (x : F2) : F2 := N8.rec (motive := fun _ => F0 → F2) (fun a b c d e f g h y => N8.mk a b c (st1f y d) e f g h) x y
def t36 (y : F0) (x : F2) : F2 := N8.rec (motive := fun _ => F0 → F2) (fun a b c d e f g h y => N8.mk a b c (st1g y d) e f g h) x y
def t37 (y : F0) (x : F2) : F2 := N8.rec (motive := fun _ => F0 → F2) (fun a b c d e f g h y => N8.mk a b c (st1h y d) e f g h) x y
def t40 (y : F0) (x : F2) : F2 := N8.rec (motive := fun _ => F0 → F2) (fun a b c d e f g h y => N8.mk a b c d (st1a y e) f g h) x y
def t41 (y : F0) (x : F2) : F2 := N8.rec (motive := fun _ => F0 → F2) (fun a b c d e f g h y => N8.mk a b c d (st1b y e) f g h) x y
def t42 (y : F0) (x : F2) : F2 := N8.rec (motive := fun _ => F0 → F2) (fun a b c d e f g h y => N8.mk a b c d (st1c y e) f g h) x y
def t43 (y : F0) (x : F2) : F2 := N8.rec (motive := fun _ => F0 → F2) (fun a b c d e f g h y => N8.mk a b c d (st1d y e) f g h) x y
def t44 (y : F0) (x : F2) : F2 := N8.rec (motive := fun _ => F0 → F2) (fun a b c d e f g h y => N8.mk a b c d (st1e y e) f g h) x y
def t45 (y : F0) (x : F2) : F2 := N8.rec (motive := fun _ => F0 → F2) (fun a b c d e f g h y => N8.mk a b c d (st1f y e) f g h) x y
def t46 (y : F0) (x : F2) : F2 := N8.rec (motive := fun _ => F0 → F2) (fun a b c d e f g h y => N8.mk a b c d (st1g y e) f g h) x y
def t47 (y : F0) (x : F2) : F2 := N8.rec (motive := fun _ => F0 → F2) (fun a b c d e f g h y => N8.mk a b c d (st1h y e) f g h) x y
def t50 (y : F0) (x : F2) : F2 := N8.rec (motive := fun _ => F0 → F2) (fun a b c d e f g h y => N8.mk a b c d e (st1a y f) g h) x y
def t51 (y : F0) (x : F2) : F2 := N8.rec (motive := fun _ => F0 → F2) (fun a b c d e f g h y => N8.mk a b c d e (st1b y f) g h) x y
def t52 (y : F0) (x : F2) : F2 := N8.rec (motive := fun _ => F0 → F2) (fun a b c d e f g h y => N8.mk a b c d e (st1c y f) g h) x y
def t53 (y : F0) (x : F2) : F2 := N8.rec (motive := fun _ => F0 → F2) (fun a b c d e f g h y => N8.mk a b c d e (st1d y f) g h) x y
def t54 (y : F0) (x : F2) : F2 := N8.rec (motive := fun _ => F0 → F2) (fun a b c d e f g h y => N8.mk a b c d e (st1e y f) g h) x y
def t55 (y : F0) (x : F2) : F2 := N8.rec (motive := fun _ => F0 → F2) (fun a b c d e f g h y => N8.mk a b c d e (st1f y f) g h) x y
def t56 (y : F0) (x : F2) : F2 := N8.rec (motive := fun _ => F0 → F2) (fun a b c d e f g h y => N8.mk a b c d e (st1g y f) g h) x y
def t57 (y : F0) (x : F2) : F2 := N8.rec (motive := fun _ => F0 → F2) (fun a b c d e f g h y => N8.mk a b c d e (st1h y f) g h) x y
def t60 (y : F0) (x : F2) : F2 := N8.rec (motive := fun _ => F0 → F2) (fun a b c d e f g h y => N8.mk a b c d e f (st1a y g) h) x y
def t61 (y : F0) (x : F2) : F2 := N8.rec (motive := fun _ => F0 → F2) (fun a b c d e f g h y => N8.mk a b c d e f (st1b y g) h) x y
def t62 (y : F0) (x : F2) : F2 := N8.rec (motive := fun _ => F0 → F2) (fun a b c d e f g h y => N8.mk a b c d e f (st1c y g) h) x y
def t63 (y : F0) (x : F2) : F2 := N8.rec (motive := fun _ => F0 → F2) (fun a b c d e f g h y => N8.mk a b c d e f (st1d y g) h) x y
def t64 (y : F0) (x : F2) : F2 := N8.rec (motive := fun _ => F0 → F2) (fun a b c d e f g h y => N8.mk a b c d e f (st1e y g) h) x y
def t65 (y : F0) (x : F2) : F2 := N8.rec (motive := fun _ => F0 → F2) (fun a b c d e f g h y => N8.mk a b c d e f (st1f y g) h) x y
def t66 (y : F0) (x : F2) : F2 := N8.rec (motive := fun _ => F0 → F2) (fun a b c d e f g h y => N8.mk a b c d e f (st1g y g) h) x y
def t67 (y : F0) (x : F2) : F2 := N8.rec (motive := fun _ => F0 → F2) (fun a b c d e f g h y => N8.mk a b c d e f (st1h y g) h) x y
def t70 (y : F0) (x : F2) : F2 := N8.rec (motive := fun _ => F0 → F2) (fun a b c d e f g h y => N8.mk a b c d e f g (st1a y h)) x y
def t71 (y : F0) (x : F2) : F2 := N8.rec (motive := fun _ => F0 → F2) (fun a b c d e f g h y => N8.mk a b c d e f g (st1b y h)) x y
def t72 (y : F0) (x : F2) : F2 := N8.rec (motive := fun _ => F0 → F2) (fun a b c d e f g h y => N8.mk a b c d e f g (st1c y h)) x y
def t73 (y : F0) (x : F2) : F2 := N8.rec (motive := fun _ => F0 → F2) (fun a b c d e f g h y => N8.mk a b c d e f g (st1d y h)) x y
def t74 (y : F0) (x : F2) : F2 := N8.rec (motive := fun _ => F0 → F2) (fun a b c d e f g h y => N8.mk a b c d e f g (st1e y h)) x y
def t75 (y : F0) (x : F2) : F2 := N8.rec (motive := fun _ => F0 → F2) (fun a b c d e f g h y => N8.mk a b c d e f g (st1f y h)) x y
def t76 (y : F0) (x : F2) : F2 := N8.rec (motive := fun _ => F0 → F2) (fun a b c d e f g h y => N8.mk a b c d e f g (st1g y h)) x y
def t77 (y : F0) (x : F2) : F2 := N8.rec (motive := fun _ => F0 → F2) (fun a b c d e f g h y => N8.mk a b c d e f g (st1h y h)) x y
def p000 (x : F3) (y : F0) : F3 := N8.rec (motive := fun _ => F0 → F3) (fun a b c d e f g h y => N8.mk (t00 y a) b c d e f g h) x y
def p001 (x : F3) (y : F0) : F3 := N8.rec (motive := fun _ => F0 → F3) (fun a b c d e f g h y => N8.mk (t01 y a) b c d e f g h) x y
def p002 (x : F3) (y : F0) : F3 := N8.rec (motive := fun _ => F0 → F3) (fun a b c d e f g h y => N8.mk (t02 y a) b c d e f g h) x y
def p003 (x : F3) (y : F0) : F3 := N8.rec (motive := fun _ => F0 → F3) (fun a b c d e f g h y => N8.mk (t03 y a) b c d e f g h) x y
def p004 (x : F3) (y : F0) : F3 := N8.rec (motive := fun _ => F0 → F3) (fun a b c d e f g h y => N8.mk (t04 y a) b c d e f g h) x y
def p005 (x : F3) (y : F0) : F3 := N8.rec (motive := fun _ => F0 → F3) (fun a b c d e f g h y => N8.mk (t05 y a) b c d e f g h) x y
def p006 (x : F3) (y : F0) : F3 := N8.rec (motive := fun _ => F0 → F3) (fun a b c d e f g h y => N8.mk (t06 y a) b c d e f g h) x y
def p007 (x : F3) (y : F0) : F3 := N8.rec (motive := fun _ => F0 → F3) (fun a b c d e f g h y => N8.mk (t07 y a) b c d e f g h) x y
def p010 (x : F3) (y : F0) : F3 := N8.rec (motive := fun _ => F0 → F3) (fun a b c d e f g h y => N8.mk (t10 y a) b c d e f g h) x y
def p011 (x : F3) (y : F0) : F3 := N8.rec (motive := fun _ => F0 → F3) (fun a b c d e f g h y => N8.mk (t11 y a) b c d e f g h) x y
def p012 (x : F3) (y : F0) : F3 := N8.rec (motive := fun _ => F0 → F3) (fun a b c d e f g h y => N8.mk (t12 y a) b c d e f g h) x y
def p013 (x : F3) (y : F0) : F3 := N8.rec (motive := fun _ => F0 → F3) (fun a b c d e f g h y => N8.mk (t13 y a) b c d e f g h) x y
def p014 (x : F3) (y : F0) : F3 := N8.rec (motive := fun _ => F0 → F3) (fun a b c d e f g h y => N8.mk (t14 y a) b c d e f g h) x y
def p015 (x : F3) (y : F0) : F3 := N8.rec (motive := fun _ => F0 → F3) (fun a b c d e f g h y => N8.mk (t15 y a) b c d e f g h) x y
def p016 (x : F3) (y : F0) : F3 := N8.rec (motive := fun _ => F0 → F3) (fun a b c d e f g h y => N8.mk (t16 y a) b c d e f g h) x y
def p017 (x : F3) (y : F0) : F3 := N8.rec (motive := fun _ => F0 → F3) (fun a b c d e f g h y => N8.mk (t17 y a) b c d e f g h) x y
def p020 (x : F3) (y : F0) : F3 := N8.rec (motive := fun _ => F0 → F3) (fun a b c d e f g h y => N8.mk (t20 y a) b c d e f g h) x y
def p021 (x : F3) (y : F0) : F3 := N8.rec (motive := fun _ => F0 → F3) (fun a b c d e f g h y => N8.mk (t21 y a) b c d e f g h) x y
def p022 (x : F3) (y : F0) : F3 := N8.rec (motive := fun _ => F0 → F3) (fun a b c d e f g h y => N8.mk (t22 y a) b c d e f g h) x y
def p023 (x : F3) (y : F0) : F3 := N8.rec (motive := fun _ => F0 → F3) (fun a b c d e f g h y => N8.mk (t23 y a) b c d e f g h) x y
def p024 (x : F3) (y : F0) : F3 := N8.rec (motive := fun _ => F0 → F3) (fun a b c d e f g h y => N8.mk (t24 y a) b c d e f g h) x y
def p025 (x : F3) (y : F0) : F3 := N8.rec (motive := fun _ => F0 → F3) (fun a b c d e f g h y => N8.mk (t25 y a) b c d e f g h) x y
def p026 (x : F3) (y : F0) : F3 := N8.rec (motive := fun _ => F0 → F3) (fun a b c d e f g h y => N8.mk (t26 y a) b c d e f g h) x y
def p027 (x : F3) (y : F0) : F3 := N8.rec (motive := fun _ => F0 → F3) (fun a b c d e f g h y => N8.mk (t27 y a) b c d e f g h) x y
def p030 (x : F3) (y : F0) : F3 := N8.rec (motive := fun _ => F0 → F3) (fun a b c d e f g h y => N8.mk (t30 y a) b c d e f g h) x y
def p031 (x : F3) (y : F0) : F3 := N8.rec (motive := fun _ => F0 → F3) (fun a b c d e f g h y => N8.mk (t31 y a) b c d e f g h) x y
def p032 (x : F3) (y : F0) : F3 := N8.rec (motive := fun _ => F0 → F3) (fun a b c d e f g h y => N8.mk (t32 y a) b c d e f g h) x y
def p033 (x : F3) (y : F0) : F3 := N8.rec (motive := fun _ => F0 → F3) (fun a b c d e f g h y => N8.mk (t33 y a) b c d e f g h) x y
def p034 (x : F3) (y : F0) : F3 := N8.rec (motive := fun _ => F0 → F3) (fun a b c d e f g h y => N8.mk (t34 y a) b c d e f g h) x y
def p035 (x : F3) (y : F0) : F3 := N8.rec (motive := fun _ => F0 → F3) (fun a b c d e f g h y => N8.mk (t35 y a) b c d e f g h) x y
def p036 (x : F3) (y : F0) : F3 := N8.rec (motive := fun _ => F0 → F3) (fun a b c d e f g h y => N8.mk (t36 y a) b c d e f g h) x y
def p037 (x : F3) (y : F0) : F3 := N8.rec (motive := fun _ => F0 → F3) (fun a b c d e f g h y => N8.mk (t37 y a) b c d e f g h) x y
def p040 (x : F3) (y : F0) : F3 := N8.rec (motive := fun _ => F0 → F3) (fun a b c d e f g h y => N8.mk (t40 y a) b c d e f g h) x y
def p041 (x : F3) (y : F0) : F3 := N8.rec (motive := fun _ => F0 → F3) (fun a b c d e f g h y => N8.mk (t41 y a) b c d e f g h) x y
def p042 (x : F3) (y : F0) : F3 := N8.rec (motive := fun _ => F0 → F3) (fun a b c d e f g h y => N8.mk (t42 y a) b c d e f g h) x y
def p043 (x : F3) (y : F0) : F3 := N8.rec (motive := fun _ => F0 → F3) (fun a b c d e f g h y => N8.mk (t43 y a) b c d e f g h) x y
def p044 (x : F3) (y : F0) : F3 := N8.rec (motive := fun _ => F0 → F3) (fun a b c d e f g h y => N8.mk (t44 y a) b c d e f g h) x y
def p045 (x : F3) (y : F0) : F3 := N8.rec (motive := fun _ => F0 → F3) (fun a b c d e f g h y => N8.mk (t45 y a) b c d e f g h) x y
def p046 (x : F3) (y : F0) : F3 := N8.rec (motive := fun _ => F0 → F3) (fun a b c d e f g h y => N8.mk (t46 y a) b c d e f g h) x y
def p047 (x : F3) (y : F0) : F3 := N8.rec (motive := fun _ => F0 → F3) (fun a b c d e f g h y => N8.mk (t47 y a) b c d e f g h) x y
def p050 (x : F3) (y : F0) : F3 := N8.rec (motive := fun _ => F0 → F3) (fun a b c d e f g h y => N8.mk (t50 y a) b c d e f g h) x y
def p051 (x : F3) (y : F0) : F3 := N8.rec (motive := fun _ => F0 → F3) (fun a b c d e f g h y => N8.mk (t51 y a) b c d e f g h) x y
def p052 (x : F3) (y : F0) : F3 := N8.rec (motive := fun _ => F0 → F3) (fun a b c d e f g h y => N8.mk (t52 y a) b c d e f g h) x y
def p053 (x : F3) (y : F0) : F3 := N8.rec (motive := fun _ => F0 → F3) (fun a b c d e f g h y => N8.mk (t53 y a) b c d e f g h) x y
def p054 (x : F3) (y : F0) : F3 := N8.rec (motive := fun _ => F0 → F3) (fun a b c d e f g h y => N8.mk (t54 y a) b c d e f g h) x y
def p055 (x : F3) (y : F0) : F3 := N8.rec (motive := fun _ => F0 → F3) (fun a b c d e f g h y => N8.mk (t55 y a) b c d e f g h) x y
def p056 (x : F3) (y : F0) : F3 := N8.rec (motive := fun _ => F0 → F3) (fun a b c d e f g h y => N8.mk (t56 y a) b c d e f g h) x y
def p057 (x : F3) (y : F0) : F3 := N8.rec (motive := fun _ => F0 → F3) (fun a b c d e f g h y => N8.mk (t57 y a) b c d e f g h) x y
def p060 (x : F3) (y : F0) : F3 := N8.rec (motive := fun _ => F0 → F3) (fun a b c d e f g h y => N8.mk (t60 y a) b c d e f g h) x y
def p061 (x : F3) (y : F0) : F3 := N8.rec (motive := fun _ => F0 → F3) (fun a b c d e f g h y => N8.mk (t61 y a) b c d e f g h) x y
def p062 (x : F3) (y : F0) : F3 := N8.rec (motive := fun _ => F0 → F3) (fun a b c d e f g h y => N8.mk (t62 y a) b c d e f g h) x y
def p063 (x : F3) (y : F0) : F3 := N8.rec (motive := fun _ => F0 → F3) (fun a b c d e f g h y => N8.mk (t63 y a) b c d e f g h) x y
def p064 (x : F3) (y : F0) : F3 := N8.rec (motive := fun _ => F0 → F3) (fun a b c d e f g h y => N8.mk (t64 y a) b c d e f g h) x y
def p065 (x : F3) (y : F0) : F3 := N8.rec (motive := fun _ => F0 → F3) (fun a b c d e f g h y => N8.mk (t65 y a) b c d e f g h) x y
def p066 (x : F3) (y : F0) : F3 := N8.rec (motive := fun _ => F0 → F3) (fun a b c d e f g h y => N8.mk (t66 y a) b c d e f g h) x y
def p067 (x : F3) (y : F0) : F3 := N8.rec (motive := fun _ => F0 → F3) (fun a b c d e f g h y => N8.mk (t67 y a) b c d e f g h) x y
def p070 (x : F3) (y : F0) : F3 := N8.rec (motive := fun _ => F0 → F3) (fun a b c d e f g h y => N8.mk (t70 y a) b c d e f g h) x y
def p071 (x : F3) (y : F0) : F3 := N8.rec (motive := fun _ => F0 → F3) (fun a b c d e f g h y => N8.mk (t71 y a) b c d e f g h) x y
def p072 (x : F3) (y : F0) : F3 := N8.rec (motive := fun _ => F0 → F3) (fun a b c d e f g h y => N8.mk (t72 y a) b c d e f g h) x y
def p073 (x : F3) (y : F0) : F3 := N8.rec (motive := fun _ => F0 → F3) (fun a b c d e f g h y => N8.mk (t73 y a) b c d e f g h) x y
def p074 (x : F3) (y : F0) : F3 := N8.rec (motive := fun _ => F0 → F3) (fun a b c d e f g h y => N8.mk (t74 y a) b c d e f g h) x y
def p075 (x : F3) (y : F0) : F3 := N8.rec (motive := fun _ => F0 → F3) (fun a b c d e f g h y => N8.mk (t75 y a) b c d e f g h) x y
def p076 (x : F3) (y : F0) : F3 := N8.rec (motive := fun _ => F0 → F3) (fun a b c d e f g h y => N8.mk (t76 y a) b c d e f g h) x y
def p077 (x : F3) (y : F0) : F3 := N8.rec (motive := fun _ => F0 → F3) (fun a b c d e f g h y => N8.mk (t77 y a) b c d e f g h) x y
def p100 (x : F3) (y : F0) : F3 := N8.rec (motive := fun _ => F0 → F3) (fun a b c d e f g h y => N8.mk a (t00 y b) c d e f g h) x y
def p101 (x : F3) (y : F0) : F3 := N8.rec (motive := fun _ => F0 → F3) (fun a b c d e f g h y => N8.mk a (t01 y b) c d e f g h) x y
def p102 (x : F3) (y : F0) : F3 := N8.rec (motive := fun _ => F0 → F3) (fun a b c d e f g h y => N8.mk a (t02 y b) c d e f g h) x y
def p103 (x : F3) (y : F0) : F3 := N8.rec (motive := fun _ => F0 → F3) (fun a b c d e f g h y => N8.mk a (t03 y b) c d e f g h) x y
def p104 (x : F3) (y : F0) : F3 := N8.rec (motive := fun _ => F0 → F3) (fun a b c d e f g h y => N8.mk a (t04 y b) c d e f g h) x y
def p105 (x : F3) (y : F0) : F3 := N8.rec (motive := fun _ => F0 → F3) (fun a b c d e f g h y => N8.mk a (t05 y b) c d e f g h) x y
def p106 (x : F3) (y : F0) : F3 := N8.rec (motive := fun _ => F0 → F3) (fun a b c d e f g h y => N8.mk a (t06 y b) c d e f g h) x y
def p107 (x : F3) (y : F0) : F3 := N8.rec (motive := fun _ => F0 → F3) (fun a b c d e f g h y => N8.mk a (t07 y b) c d e f g h) x y
def p110 (x : F3) (y : F0) : F3 := N8.rec (motive := fun _ => F0 → F3) (fun a b c d e f g h y => N8.mk a (t10 y b) c d e f g h) x y
def p111 (x : F3) (y : F0) : F3 := N8.rec (motive := fun _ => F0 → F3) (fun a b c d e f g h y => N8.mk a (t11 y b) c d e f g h) x y
def p112 (x : F3) (y : F0) : F3 := N8.rec (motive := fun _ => F0 → F3) (fun a b c d e f g h y => N8.mk a (t12 y b) c d e f g h) x y
def p113 (x : F3) (y : F0) : F3 := N8.rec (motive := fun _ => F0 → F3) (fun a b c d e f g h y => N8.mk a (t13 y b) c d e f g h) x y
def p114 (x : F3) (y : F0) : F3 := N8.rec (motive := fun _ => F0 → F3) (fun a b c d e f g h y => N8.mk a (t14 y b) c d e f g h) x y
def p115 (x : F3) (y : F0) : F3 := N8.rec (motive := fun _ => F0 → F3) (fun a b c d e f g h y => N8.mk a (t15 y b) c d e f g h) x y
def p116 (x : F3) (y : F0) : F3 := N8.rec (motive := fun _ => F0 → F3) (fun a b c d e f g h y => N8.mk a (t16 y b) c d e f g h) x y
def p117 (x : F3) (y : F0) : F3 := N8.rec (motive := fun _ => F0 → F3) (fun a b c d e f g h y => N8.mk a (t17 y b) c d e f g h) x y
def p120 (x : F3) (y : F0) : F3 := N8.rec (motive := fun _ => F0 → F3) (fun a b c d e f g h y => N8.mk a (t20 y b) c d e f g h) x y
def p121 (x : F3) (y : F0) : F3 := N8.rec (motive := fun _ => F0 → F3) (fun a b c d e f g h y => N8.mk a (t21 y b) c d e f g h) x y
def p122 (x : F3) (y : F0) : F3 := N8.rec (motive := fun _ => F0 → F3) (fun a b c d e f g h y => N8.mk a (t22 y b) c d e f g h) x y
def p123 (x : F3) (y : F0) : F3 := N8.rec (motive := fun _ => F0 → F3) (fun a b c d e f g h y => N8.mk a (t23 y b) c d e f g h) x y
def p124 (x : F3) (y : F0) : F3 := N8.rec (motive := fun _ => F0 → F3) (fun a b c d e f g h y => N8.mk a (t24 y b) c d e f g h) x y
def p125 (x : F3) (y : F0) : F3 := N8.rec (motive := fun _ => F0 → F3) (fun a b c d e f g h y => N8.mk a (t25 y b) c d e f g h) x y
def p126 (x : F3) (y : F0) : F3 := N8.rec (motive := fun _ => F0 → F3) (fun a b c d e f g h y => N8.mk a (t26 y b) c d e f g h) x y
def p127 (x : F3) (y : F0) : F3 := N8.rec (motive := fun _ => F0 → F3) (fun a b c d e f g h y => N8.mk a (t27 y b) c d e f g h) x y
def p130 (x : F3) (y : F0) : F3 := N8.rec (motive := fun _ => F0 → F3) (fun a b c d e f g h y => N8.mk a (t30 y b) c d e f g h) x y
def p131 (x : F3) (y : F0) : F3 := N8.rec (motive := fun _ => F0 → F3) (fun a b c d e f g h y => N8.mk a (t31 y b) c d e f g h) x y
def p132 (x : F3) (y : F0) : F3 := N8.rec (motive := fun _ => F0 → F3) (fun a b c d e f g h y => N8.mk a (t32 y b) c d e f g h) x y
def p133 (x : F3) (y : F0) : F3 := N8.rec (motive := fun _ => F0 → F3) (fun a b c d e f g h y => N8.mk a (t33 y b) c d e f g h) x y
def p134 (x : F3) (y : F0) : F3 := N8.rec (motive := fun _ => F0 → F3) (fun a b c d e f g h y => N8.mk a (t34 y b) c d e f g h) x y
def p135 (x : F3) (y : F0) : F3 := N8.rec (motive := fun _ => F0 → F3) (fun a b c d e f g h y => N8.mk a (t35 y b) c d e f g h) x y
def p136 (x : F3) (y : F0) : F3 := N8.rec (motive := fun _ => F0 → F3) (fun a b c d e f g h y => N8.mk a (t36 y b) c d e f g h) x y
def p137 (x : F3) (y : F0) : F3 := N8.rec (motive := fun _ => F0 → F3) (fun a b c d e f g h y => N8.mk a (t37 y b) c d e f g h) x y
def p140 (x : F3) (y : F0) : F3 := N8.rec (motive := fun _ => F0 → F3) (fun a b c d e f g h y => N8.mk a (t40 y b) c d e f g h) x y
def p141 (x : F3) (y : F0) : F3 := N8.rec (motive := fun _ => F0 → F3) (fun a b c d e f g h y => N8.mk a (t41 y b) c d e f g h) x y
def p142 (x : F3) (y : F0) : F3 := N8.rec (motive := fun _ => F0 → F3) (fun a b c d e f g h y => N8.mk a (t42 y b) c d e f g h) x y
def p143 (x : F3) (y : F0) : F3 := N8.rec (motive := fun _ => F0 → F3) (fun a b c d e f g h y => N8.mk a (t43 y b) c d e f g h) x y
def p144 (x : F3) (y : F0) : F3 := N8.rec (motive := fun _ => F0 → F3) (fun a b c d e f g h y => N8.mk a (t44 y b) c d e f g h) x y
def p145 (x : F3) (y : F0) : F3 := N8.rec (motive := fun _ => F0 → F3) (fun a b c d e f g h y => N8.mk a (t45 y b) c d e f g h) x y
def p146 (x : F3) (y : F0) : F3 := N8.rec (motive := fun _ => F0 → F3) (fun a b c d e f g h y => N8.mk a (t46 y b) c d e f g h) x y
def p147 (x : F3) (y : F0) : F3 := N8.rec (motive := fun _ => F0 → F3) (fun a b c d e f g h y => N8.mk a (t47 y b) c d e f g h) x y
def p150 (x : F3) (y : F0) : F3 := N8.rec (motive := fun _ => F0 → F3) (fun a b c d e f g h y => N8.mk a (t50 y b) c d e f g h) x y
def p151 (x : F3) (y : F0) : F3 := N8.rec (motive := fun _ => F0 → F3) (fun a b c d e f g h y => N8.mk a (t51 y b) c d e f g h) x y
def p152 (x : F3) (y : F0) : F3 := N8.rec (motive := fun _ => F0 → F3) (fun a b c d e f g h y => N8.mk a (t52 y b) c d e f g h) x y
def p153 (x : F3) (y : F0) : F3 := N8.rec (motive := fun _ => F0 → F3) (fun a b c d e f g h y => N8.mk a (t53 y b) c d e f g h) x y
def p154 (x : F3) (y : F0) : F3 := N8.rec (motive := fun _ => F0 → F3) (fun a b c d e f g h y => N8.mk a (t54 y b) c d e f g h) x y
def p155 (x : F3) (y : F0) : F3 := N8.rec (motive := fun _ => F0 → F3) (fun a b c d e f g h y => N8.mk a (t55 y b) c d e f g h) x y
def p156 (x : F3) (y : F0) : F3 := N8.rec (motive := fun _ => F0 → F3) (fun a b c d e f g h y => N8.mk a (t56 y b) c d e f g h) x y
def p157 (x : F3) (y : F0) : F3 := N8.rec (motive := fun _ => F0 → F3) (fun a b c d e f g h y => N8.mk a (t57 y b) c d e f g h) x y
def p160 (x : F3) (y : F0) : F3 := N8.rec (motive := fun _ => F0 → F3) (fun a b c d e f g h y => N8.mk a (t60 y b) c d e f g h) x y
def p161 (x : F3) (y : F0) : F3 := N8.rec (motive := fun _ => F0 → F3) (fun a b c d e f g h y => N8.mk a (t61 y b) c d e f g h) x y
def p162 (x : F3) (y : F0) : F3 := N8.rec (motive := fun _ => F0 → F3) (fun a b c d e f g h y => N8.mk a (t62 y b) c d e f g h) x y
def p163 (x : F3) (y : F0) : F3 := N8.rec (motive := fun _ => F0 → F3) (fun a b c d e f g h y => N8.mk a (t63 y b) c d e f g h) x y
def p164 (x : F3) (y : F0) : F3 := N8.rec (motive := fun _ => F0 → F3) (fun a b c d e f g h y => N8.mk a (t64 y b) c d e f g h) x y
def p165 (x : F3) (y : F0) : F3 := N8.rec (motive := fun _ => F0 → F3) (fun a b c d e f g h y => N8.mk a (t65 y b) c d e f g h) x y
def p166 (x : F3) (y : F0) : F3 := N8.rec (motive := fun _ => F0 → F3) (fun a b c d e f g h y => N8.mk a (t66 y b) c d e f g h) x y
def p167 (x : F3) (y : F0) : F3 := N8.rec (motive := fun _ => F0 → F3) (fun a b c d e f g h y => N8.mk a (t67 y b) c d e f g h) x y
def p170 (x : F3) (y : F0) : F3 := N8.rec (motive := fun _ => F0 → F3) (fun a b c d e f g h y => N8.mk a (t70 y b) c d e f g h) x y
def p171 (x : F3) (y : F0) : F3 := N8.rec (motive := fun _ => F0 → F3) (fun a b c d e f g h y => N8.mk a (t71 y b) c d e f g h) x y
def p172 (x : F3) (y : F0) : F3 := N8.rec (motive := fun _ => F0 → F3) (fun a b c d e f g h y => N8.mk a (t72 y b) c d e f g h) x y
def p173 (x : F3) (y : F0) : F3 := N8.rec (motive := fun _ => F0 → F3) (fun a b c d e f g h y => N8.mk a (t73 y b) c d e f g h) x y
def p174 (x : F3) (y : F0) : F3 := N8.rec (motive := fun _ => F0 → F3) (fun a b c d e f g h y => N8.mk a (t74 y b) c d e f g h) x y
def p175 (x : F3) (y : F0) : F3 := N8.rec (motive := fun _ => F0 → F3) (fun a b c d e f g h y => N8.mk a (t75 y b) c d e f g h) x y
def p176 (x : F3) (y : F0) : F3 := N8.rec (motive := fun _ => F0 → F3) (fun a b c d e f g h y => N8.mk a (t76 y b) c d e f g h) x y
def p177 (x : F3) (y : F0) : F3 := N8.rec (motive := fun _ => F0 → F3) (fun a b c d e f g h y => N8.mk a (t77 y b) c d e f g h) x y
def p200 (x : F3) (y : F0) : F3 := N8.rec (motive := fun _ => F0 → F3) (fun a b c d e f g h y => N8.mk a b (t00 y c) d e f g h) x y
def p201 (x : F3) (y : F0) : F3 := N8.rec (motive := fun _ => F0 → F3) (fun a b c d e f g h y => N8.mk a b (t01 y c) d e f g h) x y
def p202 (x : F3) (y : F0) : F3 := N8.rec (motive := fun _ => F0 → F3) (fun a b c d e f g h y => N8.mk a b (t02 y c) d e f g h) x y
def p203 (x : F3) (y : F0) : F3 := N8.rec (motive := fun _ => F0 → F3) (fun a b c d e f g h y => N8.mk a b (t03 y c) d e f g h) x y
def p204 (x : F3) (y : F0) : F3 := N8.rec (motive := fun _ => F0 → F3) (fun a b c d e f g h y => N8.mk a b (t04 y c) d e f g h) x y
def p205 (x : F3) (y : F0) : F3 := N8.rec (motive := fun _ => F0 → F3) (fun a b c d e f g h y => N8.mk a b (t05 y c) d e f g h) x y
def p206 (x : F3) (y : F0) : F3 := N8.rec (motive := fun _ => F0 → F3) (fun a b c d e f g h y => N8.mk a b (t06 y c) d e f g h) x y
def p207 (x : F3) (y : F0) : F3 := N8.rec (motive := fun _ => F0 → F3) (fun a b c d e f g h y => N8.mk a b (t07 y c) d e f g h) x y
def p210 (x : F3) (y : F0) : F3 := N8.rec (motive := fun _ => F0 → F3) (fun a b c d e f g h y => N8.mk a b (t10 y c) d e f g h) x y
def p211 (x : F3) (y : F0) : F3 := N8.rec (motive := fun _ => F0 → F3) (fun a b c d e f g h y => N8.mk a b (t11 y c) d e f g h) x y
def p212 (x : F3) (y : F0) : F3 := N8.rec (motive := fun _ => F0 → F3) (fun a b c d e f g h y => N8.mk a b (t12 y c) d e f g h) x y
def p213 (x : F3) (y : F0) : F3 := N8.rec (motive := fun _ => F0 → F3) (fun a b c d e f g h y => N8.mk a b (t13 y c) d e f g h) x y
def p214 (x : F3) (y : F0) : F3 := N8.rec (motive := fun _ => F0 → F3) (fun a b c d e f g h y => N8.mk a b (t14 y c) d e f g h) x y
def p215 (x : F3) (y : F0) : F3 := N8.rec (motive := fun _ => F0 → F3) (fun a b c d e f g h y => N8.mk a b (t15 y c) d e f g h) x y
def p216 (x : F3) (y : F0) : F3 := N8.rec (motive := fun _ => F0 → F3) (fun a b c d e f g h y => N8.mk a b (t16 y c) d e f g h) x y
def p217 (x : F3) (y : F0) : F3 := N8.rec (motive := fun _ => F0 → F3) (fun a b c d e f g h y => N8.mk a b (t17 y c) d e f g h) x y
def p220 (x : F3) (y : F0) : F3 := N8.rec (motive := fun _ => F0 → F3) (fun a b c d e f g h y => N8.mk a b (t20 y c) d e f g h) x y
def p221 (x : F3) (y : F0) : F3 := N8.rec (motive := fun _ => F0 → F3) (fun a b c d e f g h y => N8.mk a b (t21 y c) d e f g h) x y
def p222 (x : F3) (y : F0) : F3 := N8.rec (motive := fun _ => F0 → F3) (fun a b c d e f g h y => N8.mk a b (t22 y c) d e f g h) x y
def p223 (x : F3) (y : F0) : F3 := N8.rec (motive := fun _ => F0 → F3) (fun a b c d e f g h y => N8.mk a b (t23 y c) d e f g h) x y
def p224 (x : F3) (y : F0) : F3 := N8.rec (motive := fun _ => F0 → F3) (fun a b c d e f g h y => N8.mk a b (t24 y c) d e f g h) x y
def p225 (x : F3) (y : F0) : F3 := N8.rec (motive := fun _ => F0 → F3) (fun a b c d e f g h y => N8.mk a b (t25 y c) d e f g h) x y
def p226 (x : F3) (y : F0) : F3 := N8.rec (motive := fun _ => F0 → F3) (fun a b c d e f g h y => N8.mk a b (t26 y c) d e f g h) x y
def p227 (x : F3) (y : F0) : F3 := N8.rec (motive := fun _ => F0 → F3) (fun a b c d e f g h y => N8.mk a b (t27 y c) d e f g h) x y
def p230 (x : F3) (y : F0) : F3 := N8.rec (motive := fun _ => F0 → F3) (fun a b c d e f g h y => N8.mk a b (t30 y c) d e f g h) x y
def p231 (x : F3) (y : F0) : F3 := N8.rec (motive := fun _ => F0 → F3) (fun a b c d e f g h y => N8.mk a b (t31 y c) d e f g h) x y
def p232 (x : F3) (y : F0) : F3 := N8.rec (motive := fun _ => F0 → F3) (fun a b c d e f g h y => N8.mk a b (t32 y c) d e f g h) x y
def p233 (x : F3) (y : F0) : F3 := N8.rec (motive := fun _ => F0 → F3) (fun a b c d e f g h y => N8.mk a b (t33 y c) d e f g h) x y
def p234 (x : F3) (y : F0) : F3 := N8.rec (motive := fun _ => F0 → F3) (fun a b c d e f g h y => N8.mk a b (t34 y c) d e f g h) x y
def p235 (x : F3) (y : F0) : F3 := N8.rec (motive := fun _ => F0 → F3) (fun a b c d e f g h y => N8.mk a b (t35 y c) d e f g h) x y
def p236 (x : F3) (y : F0) : F3 := N8.rec (motive := fun _ => F0 → F3) (fun a b c d e f g h y => N8.mk a b (t36 y c) d e f g h) x y
def p237 (x : F3) (y : F0) : F3 := N8.rec (motive := fun _ => F0 → F3) (fun a b c d e f g h y => N8.mk a b (t37 y c) d e f g h) x y
def p240 (x : F3) (y : F0) : F3 := N8.rec (motive := fun _ => F0 → F3) (fun a b c d e f g h y => N8.mk a b (t40 y c) d e f g h) x y
def p241 (x : F3) (y : F0) : F3 := N8.rec (motive := fun _ => F0 → F3) (fun a b c d e f g h y => N8.mk a b (t41 y c) d e f g h) x y
def p242 (x : F3) (y : F0) : F3 := N8.rec (motive := fun _ => F0 → F3) (fun a b c d e f g h y => N8.mk a b (t42 y c) d e f g h) x y
def p243 (x : F3) (y : F0) : F3 := N8.rec (motive := fun _ => F0 → F3) (fun a b c d e f g h y => N8.mk a b (t43 y c) d e f g h) x y
def p244 (x : F3) (y : F0) : F3 := N8.rec (motive := fun _ => F0 → F3) (fun a b c d e f g h y => N8.mk a b (t44 y c) d e f g h) x y
def p245 (x : F3) (y : F0) : F3 := N8.rec (motive := fun _ => F0 → F3) (fun a b c d e f g h y => N8.mk a b (t45 y c) d e f g h) x y
def p246 (x : F3) (y : F0) : F3 := N8.rec (motive := fun _ => F0 → F3) (fun a b c d e f g h y => N8.mk a b (t46 y c) d e f g h) x y
def p247 (x : F3) (y : F0) : F3 := N8.rec (motive := fun _ => F0 → F3) (fun a b c d e f g h y => N8.mk a b (t47 y c) d e f g h) x y
def p250 (x : F3) (y : F0) : F3 := N8.rec (motive := fun _ => F0 → F3) (fun a b c d e f g h y => N8.mk a b (t50 y c) d e f g h) x y
def p251 (x : F3) (y : F0) : F3 := N8.rec (motive := fun _ => F0 → F3) (fun a b c d e f g h y => N8.mk a b (t51 y c) d e f g h) x y
def p252 (x : F3) (y : F0) : F3 := N8.rec (motive := fun _ => F0 → F3) (fun a b c d e f g h y => N8.mk a b (t52 y c) d e f g h) x y
def p253 (x : F3) (y : F0) : F3 := N8.rec (motive := fun _ => F0 → F3) (fun a b c d e f g h y => N8.mk a b (t53 y c) d e f g h) x y
def p254 (x : F3) (y : F0) : F3 := N8.rec (motive := fun _ => F0 → F3) (fun a b c d e f g h y => N8.mk a b (t54 y c) d e f g h) x y
def p255 (x : F3) (y : F0) : F3 := N8.rec (motive := fun _ => F0 → F3) (fun a b c d e f g h y => N8.mk a b (t55 y c) d e f g h) x y
def p256 (x : F3) (y : F0) : F3 := N8.rec (motive := fun _ => F0 → F3) (fun a b c d e f g h y => N8.mk a b (t56 y c) d e f g h) x y
def p257 (x : F3) (y : F0) : F3 := N8.rec (motive := fun _ => F0 → F3) (fun a b c d e f g h y => N8.mk a b (t57 y c) d e f g h) x y
def p260 (x : F3) (y : F0) : F3 := N8.rec (motive := fun _ => F0 → F3) (fun a b c d e f g h y => N8.mk a b (t60 y c) d e f g h) x y
def p261 (x : F3) (y : F0) : F3 := N8.rec (motive := fun _ => F0 → F3) (fun a b c d e f g h y => N8.mk a b (t61 y c) d e f g h) x y
def p262 (x : F3) (y : F0) : F3 := N8.rec (motive := fun _ => F0 → F3) (fun a b c d e f g h y => N8.mk a b (t62 y c) d e f g h) x y
def p263 (x : F3) (y : F0) : F3 := N8.rec (motive := fun _ => F0 → F3) (fun a b c d e f g h y => N8.mk a b (t63 y c) d e f g h) x y
def p264 (x : F3) (y : F0) : F3 := N8.rec (motive := fun _ => F0 → F3) (fun a b c d e f g h y => N8.mk a b (t64 y c) d e f g h) x y
def p265 (x : F3) (y : F0) : F3 := N8.rec (motive := fun _ => F0 → F3) (fun a b c d e f g h y => N8.mk a b (t65 y c) d e f g h) x y
def p266 (x : F3) (y : F0) : F3 := N8.rec (motive := fun _ => F0 → F3) (fun a b c d e f g h y => N8.mk a b (t66 y c) d e f g h) x y
def p267 (x : F3) (y : F0) : F3 := N8.rec (motive := fun _ => F0 → F3) (fun a b c d e f g h y => N8.mk a b (t67 y c) d e f g h) x y
def p270 (x : F3) (y : F0) : F3 := N8.rec (motive := fun _ => F0 → F3) (fun a b c d e f g h y => N8.mk a b (t70 y c) d e f g h) x y
def p271 (x : F3) (y : F0) : F3 := N8.rec (motive := fun _ => F0 → F3) (fun a b c d e f g h y => N8.mk a b (t71 y c) d e f g h) x y
def p272 (x : F3) (y : F0) : F3 := N8.rec (motive := fun _ => F0 → F3) (fun a b c d e f g h y => N8.mk a b (t72 y c) d e f g h) x y
def p273 (x : F3) (y : F0) : F3 := N8.rec (motive := fun _ => F0 → F3) (fun a b c d e f g h y => N8.mk a b (t73 y c) d e f g h) x y
def p274 (x : F3) (y : F0) : F3 := N8.rec (motive := fun _ => F0 → F3) (fun a b c d e f g h y => N8.mk a b (t74 y c) d e f g h) x y
def p275 (x : F3) (y : F0) : F3 := N8.rec (motive := fun _ => F0 → F3) (fun a b c d e f g h y => N8.mk a b (t75 y c) d e f g h) x y
def p276 (x : F3) (y : F0) : F3 := N8.rec (motive := fun _ => F0 → F3) (fun a b c d e f g h y => N8.mk a b (t76 y c) d e f g h) x y
def p277 (x : F3) (y : F0) : F3 := N8.rec (motive := fun _ => F0 → F3) (fun a b c d e f g h y => N8.mk a b (t77 y c) d e f g h) x y
def p300 (x : F3) (y : F0) : F3 := N8.rec (motive := fun _ => F0 → F3) (fun a b c d e f g h y => N8.mk a b c (t00 y d) e f g h) x y
def p301 (x : F3) (y : F0) : F3 := N8.rec (motive := fun _ => F0 → F3) (fun a b c d e f g h y => N8.mk a b c (t01 y d) e f g h) x y
def p302 (x : F3) (y : F0) : F3 := N8.rec (motive := fun _ => F0 → F3) (fun a b c d e f g h y => N8.mk a b c (t02 y d) e f g h) x y
def p303 (x : F3) (y : F0) : F3 := N8.rec (motive := fun _ => F0 → F3) (fun a b c d e f g h y => N8.mk a b c (t03 y d) e f g h) x y
def p304 (x : F3) (y : F0) : F3 := N8.rec (motive := fun _ => F0 → F3) (fun a b c d e f g h y => N8.mk a b c (t04 y d) e f g h) x y
def p305 (x : F3) (y : F0) : F3 := N8.rec (motive := fun _ => F0 → F3) (fun a b c d e f g h y => N8.mk a b c (t05 y d) e f g h) x y
def p306 (x : F3) (y : F0) : F3 := N8.rec (motive := fun _ => F0 → F3) (fun a b c d e f g h y => N8.mk a b c (t06 y d) e f g h) x y
def p307 (x : F3) (y : F0) : F3 := N8.rec (motive := fun _ => F0 → F3) (fun a b c d e f g h y => N8.mk a b c (t07 y d) e f g h) x y
def p310 (x : F3) (y : F0) : F3 := N8.rec (motive := fun _ => F0 → F3) (fun a b c d e f g h y => N8.mk a b c (t10 y d) e f g h) x y
def p311 (x : F3) (y : F0) : F3 := N8.rec (motive := fun _ => F0 → F3) (fun a b c d e f g h y => N8.mk a b c (t11 y d) e f g h) x y
def p312 (x : F3) (y : F0) : F3 := N8.rec (motive := fun _ => F0 → F3) (fun a b c d e f g h y => N8.mk a b c (t12 y d) e f g h) x y
def p313 (x : F3) (y : F0) : F3 := N8.rec (motive := fun _ => F0 → F3) (fun a b c d e f g h y => N8.mk a b c (t13 y d) e f g h) x y
def p314 (x : F3) (y : F0) : F3 := N8.rec (motive := fun _ => F0 → F3) (fun a b c d e f g h y => N8.mk a b c (t14 y d) e f g h) x y
def p315 (x : F3) (y : F0) : F3 := N8.rec (motive := fun _ => F0 → F3) (fun a b c d e f g h y => N8.mk a b c (t15 y d) e f g h) x y
def p316 (x : F3) (y : F0) : F3 := N8.rec (motive := fun _ => F0 → F3) (fun a b c d e f g h y => N8.mk a b c (t16 y d) e f g h) x y
def p317 (x : F3) (y : F0) : F3 := N8.rec (motive := fun _ => F0 → F3) (fun a b c d e f g h y => N8.mk a b c (t17 y d) e f g h) x y
def p320 (x : F3) (y : F0) : F3 := N8.rec (motive := fun _ => F0 → F3) (fun a b c d e f g h y => N8.mk a b c (t20 y d) e f g h) x y
def p321 (x : F3) (y : F0) : F3 := N8.rec (motive := fun _ => F0 → F3) (fun a b c d e f g h y => N8.mk a b c (t21 y d) e f g h) x y
def p322 (x : F3) (y : F0) : F3 := N8.rec (motive := fun _ => F0 → F3) (fun a b c d e f g h y => N8.mk a b c (t22 y d) e f g h) x y
def p323 (x : F3) (y : F0) : F3 := N8.rec (motive := fun _ => F0 → F3) (fun a b c d e f g h y => N8.mk a b c (t23 y d) e f g h) x y
def p324 (x : F3) (y : F0) : F3 := N8.rec (motive := fun _ => F0 → F3) (fun a b c d e f g h y => N8.mk a b c (t24 y d) e f g h) x y
def p325 (x : F3) (y : F0) : F3 := N8.rec (motive := fun _ => F0 → F3) (fun a b c d e f g h y => N8.mk a b c (t25 y d) e f g h) x y
def p326 (x : F3) (y : F0) : F3 := N8.rec (motive := fun _ => F0 → F3) (fun a b c d e f g h y => N8.mk a b c (t26 y d) e f g h) x y
def p327 (x : F3) (y : F0) : F3 := N8.rec (motive := fun _ => F0 → F3) (fun a b c d e f g h y => N8.mk a b c (t27 y d) e f g h) x y
def p330 (x : F3) (y : F0) : F3 := N8.rec (motive := fun _ => F0 → F3) (fun a b c d e f g h y => N8.mk a b c (t30 y d) e f g h) x y
def p331 (x : F3) (y : F0) : F3 := N8.rec (motive := fun _ => F0 → F3) (fun a b c d e f g h y => N8.mk a b c (t31 y d) e f g h) x y
def p332 (x : F3) (y : F0) : F3 := N8.rec (motive := fun _ => F0 → F3) (fun a b c d e f g h y => N8.mk a b c (t32 y d) e f g h) x y
def p333 (x : F3) (y : F0) : F3 := N8.rec (motive := fun _ => F0 → F3) (fun a b c d e f g h y => N8.mk a b c (t33 y d) e f g h) x y
def p334 (x : F3) (y : F0) : F3 := N8.rec (motive := fun _ => F0 → F3) (fun a b c d e f g h y => N8.mk a b c (t34 y d) e f g h) x y
def p335 (x : F3) (y : F0) : F3 := N8.rec (motive := fun _ => F0 → F3) (fun a b c d e f g h y => N8.mk a b c (t35 y d) e f g h) x y
def p336 (x : F3) (y : F0) : F3 := N8.rec (motive := fun _ => F0 → F3) (fun a b c d e f g h y => N8.mk a b c (t36 y d) e f g h) x y
def p337 (x : F3) (y : F0) : F3 := N8.rec (motive := fun _ => F0 → F3) (fun a b c d e f g h y => N8.mk a b c (t37 y d) e f g h) x y
def p340 (x : F3) (y : F0) : F3 := N8.rec (motive := fun _ => F0 → F3) (fun a b c d e f g h y => N8.mk a b c (t40 y d) e f g h) x y
def p341 (x : F3) (y : F0) : F3 := N8.rec (motive := fun _ => F0 → F3) (fun a b c d e f g h y => N8.mk a b c (t41 y d) e f g h) x y
def p342 (x : F3) (y : F0) : F3 := N8.rec (motive := fun _ => F0 → F3) (fun a b c d e f g h y => N8.mk a b c (t42 y d) e f g h) x y
def p343 (x : F3) (y : F0) : F3 := N8.rec (motive := fun _ => F0 → F3) (fun a b c d e f g h y => N8.mk a b c (t43 y d) e f g h) x y
def p344 (x : F3) (y : F0) : F3 := N8.rec (motive := fun _ => F0 → F3) (fun a b c d e f g h y => N8.mk a b c (t44 y d) e f g h) x y
def p345 (x : F3) (y : F0) : F3 := N8.rec (motive := fun _ => F0 → F3) (fun a b c d e f g h y => N8.mk a b c (t45 y d) e f g h) x y
def p346 (x : F3) (y : F0) : F3 := N8.rec (motive := fun _ => F0 → F3) (fun a b c d e f g h y => N8.mk a b c (t46 y d) e f g h) x y
def p347 (x : F3) (y : F0) : F3 := N8.rec (motive := fun _ => F0 → F3) (fun a b c d e f g h y => N8.mk a b c (t47 y d) e f g h) x y
def p350 (x : F3) (y : F0) : F3 := N8.rec (motive := fun _ => F0 → F3) (fun a b c d e f g h y => N8.mk a b c (t50 y d) e f g h) x y
def p351 (x : F3) (y : F0) : F3 := N8.rec (motive := fun _ => F0 → F3) (fun a b c d e f g h y => N8.mk a b c (t51 y d) e f g h) x y
def p352 (x : F3) (y : F0) : F3 := N8.rec (motive := fun _ => F0 → F3) (fun a b c d e f g h y => N8.mk a b c (t52 y d) e f g h) x y
def p353 (x : F3) (y : F0) : F3 := N8.rec (motive := fun _ => F0 → F3) (fun a b c d e f g h y => N8.mk a b c (t53 y d) e f g h) x y
def p354 (x : F3) (y : F0) : F3 := N8.rec (motive := fun _ => F0 → F3) (fun a b c d e f g h y => N8.mk a b c (t54 y d) e f g h) x y
def p355 (x : F3) (y : F0) : F3 := N8.rec (motive := fun _ => F0 → F3) (fun a b c d e f g h y => N8.mk a b c (t55 y d) e f g h) x y
def p356 (x : F3) (y : F0) : F3 := N8.rec (motive := fun _ => F0 → F3) (fun a b c d e f g h y => N8.mk a b c (t56 y d) e f g h) x y
def p357 (x : F3) (y : F0) : F3 := N8.rec (motive := fun _ => F0 → F3) (fun a b c d e f g h y => N8.mk a b c (t57 y d) e f g h) x y
def p360 (x : F3) (y : F0) : F3 := N8.rec (motive := fun _ => F0 → F3) (fun a b c d e f g h y => N8.mk a b c (t60 y d) e f g h) x y
def p361 (x : F3) (y : F0) : F3 := N8.rec (motive := fun _ => F0 → F3) (fun a b c d e f g h y => N8.mk a b c (t61 y d) e f g h) x y
def p362 (x : F3) (y : F0) : F3 := N8.rec (motive := fun _ => F0 → F3) (fun a b c d e f g h y => N8.mk a b c (t62 y d) e f g h) x y
def p363 (x : F3) (y : F0) : F3 := N8.rec (motive := fun _ => F0 → F3) (fun a b c d e f g h y => N8.mk a b c (t63 y d) e f g h) x y
def p364 (x : F3) (y : F0) : F3 := N8.rec (motive := fun _ => F0 → F3) (fun a b c d e f g h y => N8.mk a b c (t64 y d) e f g h) x y
def p365 (x : F3) (y : F0) : F3 := N8.rec (motive := fun _ => F0 → F3) (fun a b c d e f g h y => N8.mk a b c (t65 y d) e f g h) x y
def p366 (x : F3) (y : F0) : F3 := N8.rec (motive := fun _ => F0 → F3) (fun a b c d e f g h y => N8.mk a b c (t66 y d) e f g h) x y
def p367 (x : F3) (y : F0) : F3 := N8.rec (motive := fun _ => F0 → F3) (fun a b c d e f g h y => N8.mk a b c (t67 y d) e f g h) x y
def p370 (x : F3) (y : F0) : F3 := N8.rec (motive := fun _ => F0 → F3) (fun a b c d e f g h y => N8.mk a b c (t70 y d) e f g h) x y
def p371 (x : F3) (y : F0) : F3 := N8.rec (motive := fun _ => F0 → F3) (fun a b c d e f g h y => N8.mk a b c (t71 y d) e f g h) x y
def p372 (x : F3) (y : F0) : F3 := N8.rec (motive := fun _ => F0 → F3) (fun a b c d e f g h y => N8.mk a b c (t72 y d) e f g h) x y
def p373 (x : F3) (y : F0) : F3 := N8.rec (motive := fun _ => F0 → F3) (fun a b c d e f g h y => N8.mk a b c (t73 y d) e f g h) x y
def p374 (x : F3) (y : F0) : F3 := N8.rec (motive := fun _ => F0 → F3) (fun a b c d e f g h y => N8.mk a b c (t74 y d) e f g h) x y
def p375 (x : F3) (y : F0) : F3 := N8.rec (motive := fun _ => F0 → F3) (fun a b c d e f g h y => N8.mk a b c (t75 y d) e f g h) x y
def p376 (x : F3) (y : F0) : F3 := N8.rec (motive := fun _ => F0 → F3) (fun a b c d e f g h y => N8.mk a b c (t76 y d) e f g h) x y
def p377 (x : F3) (y : F0) : F3 := N8.rec (motive := fun _ => F0 → F3) (fun a b c d e f g h y => N8.mk a b c (t77 y d) e f g h) x y
def p400 (x : F3) (y : F0) : F3 := N8.rec (motive := fun _ => F0 → F3) (fun a b c d e f g h y => N8.mk a b c d (t00 y e) f g h) x y
def p401 (x : F3) (y : F0) : F3 := N8.rec (motive := fun _ => F0 → F3) (fun a b c d e f g h y => N8.mk a b c d (t01 y e) f g h) x y
def p402 (x : F3) (y : F0) : F3 := N8.rec (motive := fun _ => F0 → F3) (fun a b c d e f g h y => N8.mk a b c d (t02 y e) f g h) x y
def p403 (x : F3) (y : F0) : F3 := N8.rec (motive := fun _ => F0 → F3) (fun a b c d e f g h y => N8.mk a b c d (t03 y e) f g h) x y
def p404 (x : F3) (y : F0) : F3 := N8.rec (motive := fun _ => F0 → F3) (fun a b c d e f g h y => N8.mk a b c d (t04 y e) f g h) x y
def p405 (x : F3) (y : F0) : F3 := N8.rec (motive := fun _ => F0 → F3) (fun a b c d e f g h y => N8.mk a b c d (t05 y e) f g h) x y
def p406 (x : F3) (y : F0) : F3 := N8.rec (motive := fun _ => F0 → F3) (fun a b c d e f g h y => N8.mk a b c d (t06 y e) f g h) x y
def p407 (x : F3) (y : F0) : F3 := N8.rec (motive := fun _ => F0 → F3) (fun a b c d e f g h y => N8.mk a b c d (t07 y e) f g h) x y
def p410 (x : F3) (y : F0) : F3 := N8.rec (motive := fun _ => F0 → F3) (fun a b c d e f g h y => N8.mk a b c d (t10 y e) f g h) x y
def p411 (x : F3) (y : F0) : F3 := N8.rec (motive := fun _ => F0 → F3) (fun a b c d e f g h y => N8.mk a b c d (t11 y e) f g h) x y
def p412 (x : F3) (y : F0) : F3 := N8.rec (motive := fun _ => F0 → F3) (fun a b c d e f g h y => N8.mk a b c d (t12 y e) f g h) x y
def p413 (x : F3) (y : F0) : F3 := N8.rec (motive := fun _ => F0 → F3) (fun a b c d e f g h y => N8.mk a b c d (t13 y e) f g h) x y
def p414 (x : F3) (y : F0) : F3 := N8.rec (motive := fun _ => F0 → F3) (fun a b c d e f g h y => N8.mk a b c d (t14 y e) f g h) x y
def p415 (x : F3) (y : F0) : F3 := N8.rec (motive := fun _ => F0 → F3) (fun a b c d e f g h y => N8.mk a b c d (t15 y e) f g h) x y
def p416 (x : F3) (y : F0) : F3 := N8.rec (motive := fun _ => F0 → F3) (fun a b c d e f g h y => N8.mk a b c d (t16 y e) f g h) x y
def p417 (x : F3) (y : F0) : F3 := N8.rec (motive := fun _ => F0 → F3) (fun a b c d e f g h y => N8.mk a b c d (t17 y e) f g h) x y
def p420 (x : F3) (y : F0) : F3 := N8.rec (motive := fun _ => F0 → F3) (fun a b c d e f g h y => N8.mk a b c d (t20 y e) f g h) x y
def p421 (x : F3) (y : F0) : F3 := N8.rec (motive := fun _ => F0 → F3) (fun a b c d e f g h y => N8.mk a b c d (t21 y e) f g h) x y
def p422 (x : F3) (y : F0) : F3 := N8.rec (motive := fun _ => F0 → F3) (fun a b c d e f g h y => N8.mk a b c d (t22 y e) f g h) x y
def p423 (x : F3) (y : F0) : F3 := N8.rec (motive := fun _ => F0 → F3) (fun a b c d e f g h y => N8.mk a b c d (t23 y e) f g h) x y
def p424 (x : F3) (y : F0) : F3 := N8.rec (motive := fun _ => F0 → F3) (fun a b c d e f g h y => N8.mk a b c d (t24 y e) f g h) x y
def p425 (x : F3) (y : F0) : F3 := N8.rec (motive := fun _ => F0 → F3) (fun a b c d e f g h y => N8.mk a b c d (t25 y e) f g h) x y
def p426 (x : F3) (y : F0) : F3 := N8.rec (motive := fun _ => F0 → F3) (fun a b c d e f g h y => N8.mk a b c d (t26 y e) f g h) x y
def p427 (x : F3) (y : F0) : F3 := N8.rec (motive := fun _ => F0 → F3) (fun a b c d e f g h y => N8.mk a b c d (t27 y e) f g h) x y
def p430 (x : F3) (y : F0) : F3 := N8.rec (motive := fun _ => F0 → F3) (fun a b c d e f g h y => N8.mk a b c d (t30 y e) f g h) x y
def p431 (x : F3) (y : F0) : F3 := N8.rec (motive := fun _ => F0 → F3) (fun a b c d e f g h y => N8.mk a b c d (t31 y e) f g h) x y
def p432 (x : F3) (y : F0) : F3 := N8.rec (motive := fun _ => F0 → F3) (fun a b c d e f g h y => N8.mk a b c d (t32 y e) f g h) x y
def p433 (x : F3) (y : F0) : F3 := N8.rec (motive := fun _ => F0 → F3) (fun a b c d e f g h y => N8.mk a b c d (t33 y e) f g h) x y
def p434 (x : F3) (y : F0) : F3 := N8.rec (motive := fun _ => F0 → F3) (fun a b c d e f g h y => N8.mk a b c d (t34 y e) f g h) x y
def p435 (x : F3) (y : F0) : F3 := N8.rec (motive := fun _ => F0 → F3) (fun a b c d e f g h y => N8.mk a b c d (t35 y e) f g h) x y
def p436 (x : F3) (y : F0) : F3 := N8.rec (motive := fun _ => F0 → F3) (fun a b c d e f g h y => N8.mk a b c d (t36 y e) f g h) x y
def p437 (x : F3) (y : F0) : F3 := N8.rec (motive := fun _ => F0 → F3) (fun a b c d e f g h y => N8.mk a b c d (t37 y e) f g h) x y
def p440 (x : F3) (y : F0) : F3 := N8.rec (motive := fun _ => F0 → F3) (fun a b c d e f g h y => N8.mk a b c d (t40 y e) f g h) x y
def p441 (x : F3) (y : F0) : F3 := N8.rec (motive := fun _ => F0 → F3) (fun a b c d e f g h y => N8.mk a b c d (t41 y e) f g h) x y
def p442 (x : F3) (y : F0) : F3 := N8.rec (motive := fun _ => F0 → F3) (fun a b c d e f g h y => N8.mk a b c d (t42 y e) f g h) x y
def p443 (x : F3) (y : F0) : F3 := N8.rec (motive := fun _ => F0 → F3) (fun a b c d e f g h y => N8.mk a b c d (t43 y e) f g h) x y
def p444 (x : F3) (y : F0) : F3 := N8.rec (motive := fun _ => F0 → F3) (fun a b c d e f g h y => N8.mk a b c d (t44 y e) f g h) x y
def p445 (x : F3) (y : F0) : F3 := N8.rec (motive := fun _ => F0 → F3) (fun a b c d e f g h y => N8.mk a b c d (t45 y e) f g h) x y
def p446 (x : F3) (y : F0) : F3 := N8.rec (motive := fun _ => F0 → F3) (fun a b c d e f g h y => N8.mk a b c d (t46 y e) f g h) x y
def p447 (x : F3) (y : F0) : F3 := N8.rec (motive := fun _ => F0 → F3) (fun a b c d e f g h y => N8.mk a b c d (t47 y e) f g h) x y
def p450 (x : F3) (y : F0) : F3 := N8.rec (motive := fun _ => F0 → F3) (fun a b c d e f g h y => N8.mk a b c d (t50 y e) f g h) x y
def p451 (x : F3) (y : F0) : F3 := N8.rec (motive := fun _ => F0 → F3) (fun a b c d e f g h y => N8.mk a b c d (t51 y e) f g h) x y
def p452 (x : F3) (y : F0) : F3 := N8.rec (motive := fun _ => F0 → F3) (fun a b c d e f g h y => N8.mk a b c d (t52 y e) f g h) x y
def p453 (x : F3) (y : F0) : F3 := N8.rec (motive := fun _ => F0 → F3) (fun a b c d e f g h y => N8.mk a b c d (t53 y e) f g h) x y
def p454 (x : F3) (y : F0) : F3 := N8.rec (motive := fun _ => F0 → F3) (fun a b c d e f g h y => N8.mk a b c d (t54 y e) f g h) x y
def p455 (x : F3) (y : F0) : F3 := N8.rec (motive := fun _ => F0 → F3) (fun a b c d e f g h y => N8.mk a b c d (t55 y e) f g h) x y
def p456 (x : F3) (y : F0) : F3 := N8.rec (motive := fun _ => F0 → F3) (fun a b c d e f g h y => N8.mk a b c d (t56 y e) f g h) x y
def p457 (x : F3) (y : F0) : F3 := N8.rec (motive := fun _ => F0 → F3) (fun a b c d e f g h y => N8.mk a b c d (t57 y e) f g h) x y
def p460 (x : F3) (y : F0) : F3 := N8.rec (motive := fun _ => F0 → F3) (fun a b c d e f g h y => N8.mk a b c d (t60 y e) f g h) x y
def p461 (x : F3) (y : F0) : F3 := N8.rec (motive := fun _ => F0 → F3) (fun a b c d e f g h y => N8.mk a b c d (t61 y e) f g h) x y
def p462 (x : F3) (y : F0) : F3 := N8.rec (motive := fun _ => F0 → F3) (fun a b c d e f g h y => N8.mk a b c d (t62 y e) f g h) x y
def p463 (x : F3) (y : F0) : F3 := N8.rec (motive := fun _ => F0 → F3) (fun a b c d e f g h y => N8.mk a b c d (t63 y e) f g h) x y
def p464 (x : F3) (y : F0) : F3 := N8.rec (motive := fun _ => F0 → F3) (fun a b c d e f g h y => N8.mk a b c d (t64 y e) f g h) x y
def p465 (x : F3) (y : F0) : F3 := N8.rec (motive := fun _ => F0 → F3) (fun a b c d e f g h y => N8.mk a b c d (t65 y e) f g h) x y
def p466 (x : F3) (y : F0) : F3 := N8.rec (motive := fun _ => F0 → F3) (fun a b c d e f g h y => N8.mk a b c d (t66 y e) f g h) x y
def p467 (x : F3) (y : F0) : F3 := N8.rec (motive := fun _ => F0 → F3) (fun a b c d e f g h y => N8.mk a b c d (t67 y e) f g h) x y
def p470 (x : F3) (y : F0) : F3 := N8.rec (motive := fun _ => F0 → F3) (fun a b c d e f g h y => N8.mk a b c d (t70 y e) f g h) x y
def p471 (x : F3) (y : F0) : F3 := N8.rec (motive := fun _ => F0 → F3) (fun a b c d e f g h y => N8.mk a b c d (t71 y e) f g h) x y
def p472 (x : F3) (y : F0) : F3 := N8.rec (motive := fun _ => F0 → F3) (fun a b c d e f g h y => N8.mk a b c d (t72 y e) f g h) x y
def p473 (x : F3) (y : F0) : F3 := N8.rec (motive := fun _ => F0 → F3) (fun a b c d e f g h y => N8.mk a b c d (t73 y e) f g h) x y
def p474 (x : F3) (y : F0) : F3 := N8.rec (motive := fun _ => F0 → F3) (fun a b c d e f g h y => N8.mk a b c d (t74 y e) f g h) x y
def p475 (x : F3) (y : F0) : F3 := N8.rec (motive := fun _ => F0 → F3) (fun a b c d e f g h y => N8.mk a b c d (t75 y e) f g h) x y
def p476 (x : F3) (y : F0) : F3 := N8.rec (motive := fun _ => F0 → F3) (fun a b c d e f g h y => N8.mk a b c d (t76 y e) f g h) x y
def p477 (x : F3) (y : F0) : F3 := N8.rec (motive := fun _ => F0 → F3) (fun a b c d e f g h y => N8.mk a b c d (t77 y e) f g h) x y
def p500 (x : F3) (y : F0) : F3 := N8.rec (motive := fun _ => F0 → F3) (fun a b c d e f g h y => N8.mk a b c d e (t00 y f) g h) x y
def p501 (x : F3) (y : F0) : F3 := N8.rec (motive := fun _ => F0 → F3) (fun a b c d e f g h y => N8.mk a b c d e (t01 y f) g h) x y
def p502 (x : F3) (y : F0) : F3 := N8.rec (motive := fun _ => F0 → F3) (fun a b c d e f g h y => N8.mk a b c d e (t02 y f) g h) x y
def p503 (x : F3) (y : F0) : F3 := N8.rec (motive := fun _ => F0 → F3) (fun a b c d e f g h y => N8.mk a b c d e (t03 y f) g h) x y
def p504 (x : F3) (y : F0) : F3 := N8.rec (motive := fun _ => F0 → F3) (fun a b c d e f g h y => N8.mk a b c d e (t04 y f) g h) x y
def p505 (x : F3) (y : F0) : F3 := N8.rec (motive := fun _ => F0 → F3) (fun a b c d e f g h y => N8.mk a b c d e (t05 y f) g h) x y
def p506 (x : F3) (y : F0) : F3 := N8.rec (motive := fun _ => F0 → F3) (fun a b c d e f g h y => N8.mk a b c d e (t06 y f) g h) x y
def p507 (x : F3) (y : F0) : F3 := N8.rec (motive := fun _ => F0 → F3) (fun a b c d e f g h y => N8.mk a b c d e (t07 y f) g h) x y
def p510 (x : F3) (y : F0) : F3 := N8.rec (motive := fun _ => F0 → F3) (fun a b c d e f g h y => N8.mk a b c d e (t10 y f) g h) x y
def p511 (x : F3) (y : F0) : F3 := N8.rec (motive := fun _ => F0 → F3) (fun a b c d e f g h y => N8.mk a b c d e (t11 y f) g h) x y
def p512 (x : F3) (y : F0) : F3 := N8.rec (motive := fun _ => F0 → F3) (fun a b c d e f g h y => N8.mk a b c d e (t12 y f) g h) x y
def p513 (x : F3) (y : F0) : F3 := N8.rec (motive := fun _ => F0 → F3) (fun a b c d e f g h y => N8.mk a b c d e (t13 y f) g h) x y
def p514 (x : F3) (y : F0) : F3 := N8.rec (motive := fun _ => F0 → F3) (fun a b c d e f g h y => N8.mk a b c d e (t14 y f) g h) x y
def p515 (x : F3) (y : F0) : F3 := N8.rec (motive := fun _ => F0 → F3) (fun a b c d e f g h y => N8.mk a b c d e (t15 y f) g h) x y
def p516 (x : F3) (y : F0) : F3 := N8.rec (motive := fun _ => F0 → F3) (fun a b c d e f g h y => N8.mk a b c d e (t16 y f) g h) x y
def p517 (x : F3) (y : F0) : F3 := N8.rec (motive := fun _ => F0 → F3) (fun a b c d e f g h y => N8.mk a b c d e (t17 y f) g h) x y
def p520 (x : F3) (y : F0) : F3 := N8.rec (motive := fun _ => F0 → F3) (fun a b c d e f g h y => N8.mk a b c d e (t20 y f) g h) x y
def p521 (x : F3) (y : F0) : F3 := N8.rec (motive := fun _ => F0 → F3) (fun a b c d e f g h y => N8.mk a b c d e (t21 y f) g h) x y
def p522 (x : F3) (y : F0) : F3 := N8.rec (motive := fun _ => F0 → F3) (fun a b c d e f g h y => N8.mk a b c d e (t22 y f) g h) x y
def p523 (x : F3) (y : F0) : F3 := N8.rec (motive := fun _ => F0 → F3) (fun a b c d e f g h y => N8.mk a b c d e (t23 y f) g h) x y
def p524 (x : F3) (y : F0) : F3 := N8.rec (motive := fun _ => F0 → F3) (fun a b c d e f g h y => N8.mk a b c d e (t24 y f) g h) x y
def p525 (x : F3) (y : F0) : F3 := N8.rec (motive := fun _ => F0 → F3) (fun a b c d e f g h y => N8.mk a b c d e (t25 y f) g h) x y
def p526 (x : F3) (y : F0) : F3 := N8.rec (motive := fun _ => F0 → F3) (fun a b c d e f g h y => N8.mk a b c d e (t26 y f) g h) x y
def p527 (x : F3) (y : F0) : F3 := N8.rec (motive := fun _ => F0 → F3) (fun a b c d e f g h y => N8.mk a b c d e (t27 y f) g h) x y
def p530 (x : F3) (y : F0) : F3 := N8.rec (motive := fun _ => F0 → F3) (fun a b c d e f g h y => N8.mk a b c d e (t30 y f) g h) x y
def p531 (x : F3) (y : F0) : F3 := N8.rec (motive := fun _ => F0 → F3) (fun a b c d e f g h y => N8.mk a b c d e (t31 y f) g h) x y
def p532 (x : F3) (y : F0) : F3 := N8.rec (motive := fun _ => F0 → F3) (fun a b c d e f g h y => N8.mk a b c d e (t32 y f) g h) x y
def p533 (x : F3) (y : F0) : F3 := N8.rec (motive := fun _ => F0 → F3) (fun a b c d e f g h y => N8.mk a b c d e (t33 y f) g h) x y
def p534 (x : F3) (y : F0) : F3 := N8.rec (motive := fun _ => F0 → F3) (fun a b c d e f g h y => N8.mk a b c d e (t34 y f) g h) x y
def p535 (x : F3) (y : F0) : F3 := N8.rec (motive := fun _ => F0 → F3) (fun a b c d e f g h y => N8.mk a b c d e (t35 y f) g h) x y
def p536 (x : F3) (y : F0) : F3 := N8.rec (motive := fun _ => F0 → F3) (fun a b c d e f g h y => N8.mk a b c d e (t36 y f) g h) x y
def p537 (x : F3) (y : F0) : F3 := N8.rec (motive := fun _ => F0 → F3) (fun a b c d e f g h y => N8.mk a b c d e (t37 y f) g h) x y
def p540 (x : F3) (y : F0) : F3 := N8.rec (motive := fun _ => F0 → F3) (fun a b c d e f g h y => N8.mk a b c d e (t40 y f) g h) x y
def p541 (x : F3) (y : F0) : F3 := N8.rec (motive := fun _ => F0 → F3) (fun a b c d e f g h y => N8.mk a b c d e (t41 y f) g h) x y
def p542 (x : F3) (y : F0) : F3 := N8.rec (motive := fun _ => F0 → F3) (fun a b c d e f g h y => N8.mk a b c d e (t42 y f) g h) x y
def p543 (x : F3) (y : F0) : F3 := N8.rec (motive := fun _ => F0 → F3) (fun a b c d e f g h y => N8.mk a b c d e (t43 y f) g h) x y
def p544 (x : F3) (y : F0) : F3 := N8.rec (motive := fun _ => F0 → F3) (fun a b c d e f g h y => N8.mk a b c d e (t44 y f) g h) x y
def p545 (x : F3) (y : F0) : F3 := N8.rec (motive := fun _ => F0 → F3) (fun a b c d e f g h y => N8.mk a b c d e (t45 y f) g h) x y
def p546 (x : F3) (y : F0) : F3 := N8.rec (motive := fun _ => F0 → F3) (fun a b c d e f g h y => N8.mk a b c d e (t46 y f) g h) x y
def p547 (x : F3) (y : F0) : F3 := N8.rec (motive := fun _ => F0 → F3) (fun a b c d e f g h y => N8.mk a b c d e (t47 y f) g h) x y
def p550 (x : F3) (y : F0) : F3 := N8.rec (motive := fun _ => F0 → F3) (fun a b c d e f g h y => N8.mk a b c d e (t50 y f) g h) x y
def p551 (x : F3) (y : F0) : F3 := N8.rec (motive := fun _ => F0 → F3) (fun a b c d e f g h y => N8.mk a b c d e (t51 y f) g h) x y
def p552 (x : F3) (y : F0) : F3 := N8.rec (motive := fun _ => F0 → F3) (fun a b c d e f g h y => N8.mk a b c d e (t52 y f) g h) x y
def p553 (x : F3) (y : F0) : F3 := N8.rec (motive := fun _ => F0 → F3) (fun a b c d e f g h y => N8.mk a b c d e (t53 y f) g h) x y
def p554 (x : F3) (y : F0) : F3 := N8.rec (motive := fun _ => F0 → F3) (fun a b c d e f g h y => N8.mk a b c d e (t54 y f) g h) x y
def p555 (x : F3) (y : F0) : F3 := N8.rec (motive := fun _ => F0 → F3) (fun a b c d e f g h y => N8.mk a b c d e (t55 y f) g h) x y
def p556 (x : F3) (y : F0) : F3 := N8.rec (motive := fun _ => F0 → F3) (fun a b c d e f g h y => N8.mk a b c d e (t56 y f) g h) x y
def p557 (x : F3) (y : F0) : F3 := N8.rec (motive := fun _ => F0 → F3) (fun a b c d e f g h y => N8.mk a b c d e (t57 y f) g h) x y
def p560 (x : F3) (y : F0) : F3 := N8.rec (motive := fun _ => F0 → F3) (fun a b c d e f g h y => N8.mk a b c d e (t60 y f) g h) x y
def p561 (x : F3) (y : F0) : F3 := N8.rec (motive := fun _ => F0 → F3) (fun a b c d e f g h y => N8.mk a b c d e (t61 y f) g h) x y
def p562 (x : F3) (y : F0) : F3 := N8.rec (motive := fun _ => F0 → F3) (fun a b c d e f g h y => N8.mk a b c d e (t62 y f) g h) x y
def p563 (x : F3) (y : F0) : F3 := N8.rec (motive := fun _ => F0 → F3) (fun a b c d e f g h y => N8.mk a b c d e (t63 y f) g h) x y
def p564 (x : F3) (y : F0) : F3 := N8.rec (motive := fun _ => F0 → F3) (fun a b c d e f g h y => N8.mk a b c d e (t64 y f) g h) x y
def p565 (x : F3) (y : F0) : F3 := N8.rec (motive := fun _ => F0 → F3) (fun a b c d e f g h y => N8.mk a b c d e (t65 y f) g h) x y
def p566 (x : F3) (y : F0) : F3 := N8.rec (motive := fun _ => F0 → F3) (fun a b c d e f g h y => N8.mk a b c d e (t66 y f) g h) x y
def p567 (x : F3) (y : F0) : F3 := N8.rec (motive := fun _ => F0 → F3) (fun a b c d e f g h y => N8.mk a b c d e (t67 y f) g h) x y
def p570 (x : F3) (y : F0) : F3 := N8.rec (motive := fun _ => F0 → F3) (fun a b c d e f g h y => N8.mk a b c d e (t70 y f) g h) x y
def p571 (x : F3) (y : F0) : F3 := N8.rec (motive := fun _ => F0 → F3) (fun a b c d e f g h y => N8.mk a b c d e (t71 y f) g h) x y
def p572 (x : F3) (y : F0) : F3 := N8.rec (motive := fun _ => F0 → F3) (fun a b c d e f g h y => N8.mk a b c d e (t72 y f) g h) x y
def p573 (x : F3) (y : F0) : F3 := N8.rec (motive := fun _ => F0 → F3) (fun a b c d e f g h y => N8.mk a b c d e (t73 y f) g h) x y
def p574 (x : F3) (y : F0) : F3 := N8.rec (motive := fun _ => F0 → F3) (fun a b c d e f g h y => N8.mk a b c d e (t74 y f) g h) x y
def p575 (x : F3) (y : F0) : F3 := N8.rec (motive := fun _ => F0 → F3) (fun a b c d e f g h y => N8.mk a b c d e (t75 y f) g h) x y
def p576 (x : F3) (y : F0) : F3 := N8.rec (motive := fun _ => F0 → F3) (fun a b c d e f g h y => N8.mk a b c d e (t76 y f) g h) x y
def p577 (x : F3) (y : F0) : F3 := N8.rec (motive := fun _ => F0 → F3) (fun a b c d e f g h y => N8.mk a b c d e (t77 y f) g h) x y
def p600 (x : F3) (y : F0) : F3 := N8.rec (motive := fun _ => F0 → F3) (fun a b c d e f g h y => N8.mk a b c d e f (t00 y g) h) x y
def p601 (x : F3) (y : F0) : F3 := N8.rec (motive := fun _ => F0 → F3) (fun a b c d e f g h y => N8.mk a b c d e f (t01 y g) h) x y
def p602 (x : F3) (y : F0) : F3 := N8.rec (motive := fun _ => F0 → F3) (fun a b c d e f g h y => N8.mk a b c d e f (t02 y g) h) x y
def p603 (x : F3) (y : F0) : F3 := N8.rec (motive := fun _ => F0 → F3) (fun a b c d e f g h y => N8.mk a b c d e f (t03 y g) h) x y
def p604 (x : F3) (y : F0) : F3 := N8.rec (motive := fun _ => F0 → F3) (fun a b c d e f g h y => N8.mk a b c d e f (t04 y g) h) x y
def p605 (x : F3) (y : F0) : F3 := N8.rec (motive := fun _ => F0 → F3) (fun a b c d e f g h y => N8.mk a b c d e f (t05 y g) h) x y
def p606 (x : F3) (y : F0) : F3 := N8.rec (motive := fun _ => F0 → F3) (fun a b c d e f g h y => N8.mk a b c d e f (t06 y g) h) x y
def p607 (x : F3) (y : F0) : F3 := N8.rec (motive := fun _ => F0 → F3) (fun a b c d e f g h y => N8.mk a b c d e f (t07 y g) h) x y
def p610 (x : F3) (y : F0) : F3 := N8.rec (motive := fun _ => F0 → F3) (fun a b c d e f g h y => N8.mk a b c d e f (t10 y g) h) x y
def p611 (x : F3) (y : F0) : F3 := N8.rec (motive := fun _ => F0 → F3) (fun a b c d e f g h y => N8.mk a b c d e f (t11 y g) h) x y
def p612 (x : F3) (y : F0) : F3 := N8.rec (motive := fun _ => F0 → F3) (fun a b c d e f g h y => N8.mk a b c d e f (t12 y g) h) x y
def p613 (x : F3) (y : F0) : F3 := N8.rec (motive := fun _ => F0 → F3) (fun a b c d e f g h y => N8.mk a b c d e f (t13 y g) h) x y
def p614 (x : F3) (y : F0) : F3 := N8.rec (motive := fun _ => F0 → F3) (fun a b c d e f g h y => N8.mk a b c d e f (t14 y g) h) x y
def p615 (x : F3) (y : F0) : F3 := N8.rec (motive := fun _ => F0 → F3) (fun a b c d e f g h y => N8.mk a b c d e f (t15 y g) h) x y
def p616 (x : F3) (y : F0) : F3 := N8.rec (motive := fun _ => F0 → F3) (fun a b c d e f g h y => N8.mk a b c d e f (t16 y g) h) x y
def p617 (x : F3) (y : F0) : F3 := N8.rec (motive := fun _ => F0 → F3) (fun a b c d e f g h y => N8.mk a b c d e f (t17 y g) h) x y
def p620 (x : F3) (y : F0) : F3 := N8.rec (motive := fun _ => F0 → F3) (fun a b c d e f g h y => N8.mk a b c d e f (t20 y g) h) x y
def p621 (x : F3) (y : F0) : F3 := N8.rec (motive := fun _ => F0 → F3) (fun a b c d e f g h y => N8.mk a b c d e f (t21 y g) h) x y
def p622 (x : F3) (y : F0) : F3 := N8.rec (motive := fun _ => F0 → F3) (fun a b c d e f g h y => N8.mk a b c d e f (t22 y g) h) x y
def p623 (x : F3) (y : F0) : F3 := N8.rec (motive := fun _ => F0 → F3) (fun a b c d e f g h y => N8.mk a b c d e f (t23 y g) h) x y
def p624 (x : F3) (y : F0) : F3 := N8.rec (motive := fun _ => F0 → F3) (fun a b c d e f g h y => N8.mk a b c d e f (t24 y g) h) x y
def p625 (x : F3) (y : F0) : F3 := N8.rec (motive := fun _ => F0 → F3) (fun a b c d e f g h y => N8.mk a b c d e f (t25 y g) h) x y
def p626 (x : F3) (y : F0) : F3 := N8.rec (motive := fun _ => F0 → F3) (fun a b c d e f g h y => N8.mk a b c d e f (t26 y g) h) x y
def p627 (x : F3) (y : F0) : F3 := N8.rec (motive := fun _ => F0 → F3) (fun a b c d e f g h y => N8.mk a b c d e f (t27 y g) h) x y
def p630 (x : F3) (y : F0) : F3 := N8.rec (motive := fun _ => F0 → F3) (fun a b c d e f g h y => N8.mk a b c d e f (t30 y g) h) x y
def p631 (x : F3) (y : F0) : F3 := N8.rec (motive := fun _ => F0 → F3) (fun a b c d e f g h y => N8.mk a b c d e f (t31 y g) h) x y
def p632 (x : F3) (y : F0) : F3 := N8.rec (motive := fun _ => F0 → F3) (fun a b c d e f g h y => N8.mk a b c d e f (t32 y g) h) x y
def p633 (x : F3) (y : F0) : F3 := N8.rec (motive := fun _ => F0 → F3) (fun a b c d e f g h y => N8.mk a b c d e f (t33 y g) h) x y
def p634 (x : F3) (y : F0) : F3 := N8.rec (motive := fun _ => F0 → F3) (fun a b c d e f g h y => N8.mk a b c d e f (t34 y g) h) x y
def p635 (x : F3) (y : F0) : F3 := N8.rec (motive := fun _ => F0 → F3) (fun a b c d e f g h y => N8.mk a b c d e f (t35 y g) h) x y
def p636 (x : F3) (y : F0) : F3 := N8.rec (motive := fun _ => F0 → F3) (fun a b c d e f g h y => N8.mk a b c d e f (t36 y g) h) x y
def p637 (x : F3) (y : F0) : F3 := N8.rec (motive := fun _ => F0 → F3) (fun a b c d e f g h y => N8.mk a b c d e f (t37 y g) h) x y
def p640 (x : F3) (y : F0) : F3 := N8.rec (motive := fun _ => F0 → F3) (fun a b c d e f g h y => N8.mk a b c d e f (t40 y g) h) x y
def p641 (x : F3) (y : F0) : F3 := N8.rec (motive := fun _ => F0 → F3) (fun a b c d e f g h y => N8.mk a b c d e f (t41 y g) h) x y
def p642 (x : F3) (y : F0) : F3 := N8.rec (motive := fun _ => F0 → F3) (fun a b c d e f g h y => N8.mk a b c d e f (t42 y g) h) x y
def p643 (x : F3) (y : F0) : F3 := N8.rec (motive := fun _ => F0 → F3) (fun a b c d e f g h y => N8.mk a b c d e f (t43 y g) h) x y
def p644 (x : F3) (y : F0) : F3 := N8.rec (motive := fun _ => F0 → F3) (fun a b c d e f g h y => N8.mk a b c d e f (t44 y g) h) x y
def p645 (x : F3) (y : F0) : F3 := N8.rec (motive := fun _ => F0 → F3) (fun a b c d e f g h y => N8.mk a b c d e f (t45 y g) h) x y
def p646 (x : F3) (y : F0) : F3 := N8.rec (motive := fun _ => F0 → F3) (fun a b c d e f g h y => N8.mk a b c d e f (t46 y g) h) x y
def p647 (x : F3) (y : F0) : F3 := N8.rec (motive := fun _ => F0 → F3) (fun a b c d e f g h y => N8.mk a b c d e f (t47 y g) h) x y
def p650 (x : F3) (y : F0) : F3 := N8.rec (motive := fun _ => F0 → F3) (fun a b c d e f g h y => N8.mk a b c d e f (t50 y g) h) x y
def p651 (x : F3) (y : F0) : F3 := N8.rec (motive := fun _ => F0 → F3) (fun a b c d e f g h y => N8.mk a b c d e f (t51 y g) h) x y
def p652 (x : F3) (y : F0) : F3 := N8.rec (motive := fun _ => F0 → F3) (fun a b c d e f g h y => N8.mk a b c d e f (t52 y g) h) x y
def p653 (x : F3) (y : F0) : F3 := N8.rec (motive := fun _ => F0 → F3) (fun a b c d e f g h y => N8.mk a b c d e f (t53 y g) h) x y
def p654 (x : F3) (y : F0) : F3 := N8.rec (motive := fun _ => F0 → F3) (fun a b c d e f g h y => N8.mk a b c d e f (t54 y g) h) x y
def p655 (x : F3) (y : F0) : F3 := N8.rec (motive := fun _ => F0 → F3) (fun a b c d e f g h y => N8.mk a b c d e f (t55 y g) h) x y
def p656 (x : F3) (y : F0) : F3 := N8.rec (motive := fun _ => F0 → F3) (fun a b c d e f g h y => N8.mk a b c d e f (t56 y g) h) x y
def p657 (x : F3) (y : F0) : F3 := N8.rec (motive := fun _ => F0 → F3) (fun a b c d e f g h y => N8.mk a b c d e f (t57 y g) h) x y
def p660 (x : F3) (y : F0) : F3 := N8.rec (motive := fun _ => F0 → F3) (fun a b c d e f g h y => N8.mk a b c d e f (t60 y g) h) x y
def p661 (x : F3) (y : F0) : F3 := N8.rec (motive := fun _ => F0 → F3) (fun a b c d e f g h y => N8.mk a b c d e f (t61 y g) h) x y
def p662 (x : F3) (y : F0) : F3 := N8.rec (motive := fun _ => F0 → F3) (fun a b c d e f g h y => N8.mk a b c d e f (t62 y g) h) x y
def p663 (x : F3) (y : F0) : F3 := N8.rec (motive := fun _ => F0 → F3) (fun a b c d e f g h y => N8.mk a b c d e f (t63 y g) h) x y
def p664 (x : F3) (y : F0) : F3 := N8.rec (motive := fun _ => F0 → F3) (fun a b c d e f g h y => N8.mk a b c d e f (t64 y g) h) x y
def p665 (x : F3) (y : F0) : F3 := N8.rec (motive := fun _ => F0 → F3) (fun a b c d e f g h y => N8.mk a b c d e f (t65 y g) h) x y
def p666 (x : F3) (y : F0) : F3 := N8.rec (motive := fun _ => F0 → F3) (fun a b c d e f g h y => N8.mk a b c d e f (t66 y g) h) x y
def p667 (x : F3) (y : F0) : F3 := N8.rec (motive := fun _ => F0 → F3) (fun a b c d e f g h y => N8.mk a b c d e f (t67 y g) h) x y
def p670 (x : F3) (y : F0) : F3 := N8.rec (motive := fun _ => F0 → F3) (fun a b c d e f g h y => N8.mk a b c d e f (t70 y g) h) x y
def p671 (x : F3) (y : F0) : F3 := N8.rec (motive := fun _ => F0 → F3) (fun a b c d e f g h y => N8.mk a b c d e f (t71 y g) h) x y
def p672 (x : F3) (y : F0) : F3 := N8.rec (motive := fun _ => F0 → F3) (fun a b c d e f g h y => N8.mk a b c d e f (t72 y g) h) x y
def p673 (x : F3) (y : F0) : F3 := N8.rec (motive := fun _ => F0 → F3) (fun a b c d e f g h y => N8.mk a b c d e f (t73 y g) h) x y
def p674 (x : F3) (y : F0) : F3 := N8.rec (motive := fun _ => F0 → F3) (fun a b c d e f g h y => N8.mk a b c d e f (t74 y g) h) x y
def p675 (x : F3) (y : F0) : F3 := N8.rec (motive := fun _ => F0 → F3) (fun a b c d e f g h y => N8.mk a b c d e f (t75 y g) h) x y
def p676 (x : F3) (y : F0) : F3 := N8.rec (motive := fun _ => F0 → F3) (fun a b c d e f g h y => N8.mk a b c d e f (t76 y g) h) x y
def p677 (x : F3) (y : F0) : F3 := N8.rec (motive := fun _ => F0 → F3) (fun a b c d e f g h y => N8.mk a b c d e f (t77 y g) h) x y
def p700 (x : F3) (y : F0) : F3 := N8.rec (motive := fun _ => F0 → F3) (fun a b c d e f g h y => N8.mk a b c d e f g (t00 y h)) x y
def p701 (x : F3) (y : F0) : F3 := N8.rec (motive := fun _ => F0 → F3) (fun a b c d e f g h y => N8.mk a b c d e f g (t01 y h)) x y
def p702 (x : F3) (y : F0) : F3 := N8.rec (motive := fun _ => F0 → F3) (fun a b c d e f g h y => N8.mk a b c d e f g (t02 y h)) x y
def p703 (x : F3) (y : F0) : F3 := N8.rec (motive := fun _ => F0 → F3) (fun a b c d e f g h y => N8.mk a b c d e f g (t03 y h)) x y
def p704 (x : F3) (y : F0) : F3 := N8.rec (motive := fun _ => F0 → F3) (fun a b c d e f g h y => N8.mk a b c d e f g (t04 y h)) x y
def p705 (x : F3) (y : F0) : F3 := N8.rec (motive := fun _ => F0 → F3) (fun a b c d e f g h y => N8.mk a b c d e f g (t05 y h)) x y
def p706 (x : F3) (y : F0) : F3 := N8.rec (motive := fun _ => F0 → F3) (fun a b c d e f g h y => N8.mk a b c d e f g (t06 y h)) x y
def p707 (x : F3) (y : F0) : F3 := N8.rec (motive := fun _ => F0 → F3) (fun a b c d e f g h y => N8.mk a b c d e f g (t07 y h)) x y
def p710 (x : F3) (y : F0) : F3 := N8.rec (motive := fun _ => F0 → F3) (fun a b c d e f g h y => N8.mk a b c d e f g (t10 y h)) x y
def p711 (x : F3) (y : F0) : F3 := N8.rec (motive := fun _ => F0 → F3) (fun a b c d e f g h y => N8.mk a b c d e f g (t11 y h)) x y
def p712 (x : F3) (y : F0) : F3 := N8.rec (motive := fun _ => F0 → F3) (fun a b c d e f g h y => N8.mk a b c d e f g (t12 y h)) x y
def p713 (x : F3) (y : F0) : F3 := N8.rec (motive := fun _ => F0 → F3) (fun a b c d e f g h y => N8.mk a b c d e f g (t13 y h)) x y
def p714 (x : F3) (y : F0) : F3 := N8.rec (motive := fun _ => F0 → F3) (fun a b c d e f g h y => N8.mk a b c d e f g (t14 y h)) x y
def p715 (x : F3) (y : F0) : F3 := N8.rec (motive := fun _ => F0 → F3) (fun a b c d e f g h y => N8.mk a b c d e f g (t15 y h)) x y
def p716 (x : F3) (y : F0) : F3 := N8.rec (motive := fun _ => F0 → F3) (fun a b c d e f g h y => N8.mk a b c d e f g (t16 y h)) x y
def p717 (x : F3) (y : F0) : F3 := N8.rec (motive := fun _ => F0 → F3) (fun a b c d e f g h y => N8.mk a b c d e f g (t17 y h)) x y
def p720 (x : F3) (y : F0) : F3 := N8.rec (motive := fun _ => F0 → F3) (fun a b c d e f g h y => N8.mk a b c d e f g (t20 y h)) x y
def p721 (x : F3) (y : F0) : F3 := N8.rec (motive := fun _ => F0 → F3) (fun a b c d e f g h y => N8.mk a b c d e f g (t21 y h)) x y
def p722 (x : F3) (y : F0) : F3 := N8.rec (motive := fun _ => F0 → F3) (fun a b c d e f g h y => N8.mk a b c d e f g (t22 y h)) x y
def p723 (x : F3) (y : F0) : F3 := N8.rec (motive := fun _ => F0 → F3) (fun a b c d e f g h y => N8.mk a b c d e f g (t23 y h)) x y
def p724 (x : F3) (y : F0) : F3 := N8.rec (motive := fun _ => F0 → F3) (fun a b c d e f g h y => N8.mk a b c d e f g (t24 y h)) x y
def p725 (x : F3) (y : F0) : F3 := N8.rec (motive := fun _ => F0 → F3) (fun a b c d e f g h y => N8.mk a b c d e f g (t25 y h)) x y
def p726 (x : F3) (y : F0) : F3 := N8.rec (motive := fun _ => F0 → F3) (fun a b c d e f g h y => N8.mk a b c d e f g (t26 y h)) x y
def p727 (x : F3) (y : F0) : F3 := N8.rec (motive := fun _ => F0 → F3) (fun a b c d e f g h y => N8.mk a b c d e f g (t27 y h)) x y
def p730 (x : F3) (y : F0) : F3 := N8.rec (motive := fun _ => F0 → F3) (fun a b c d e f g h y => N8.mk a b c d e f g (t30 y h)) x y
def p731 (x : F3) (y : F0) : F3 := N8.rec (motive := fun _ => F0 → F3) (fun a b c d e f g h y => N8.mk a b c d e f g (t31 y h)) x y
def p732 (x : F3) (y : F0) : F3 := N8.rec (motive := fun _ => F0 → F3) (fun a b c d e f g h y => N8.mk a b c d e f g (t32 y h)) x y
def p733 (x : F3) (y : F0) : F3 := N8.rec (motive := fun _ => F0 → F3) (fun a b c d e f g h y => N8.mk a b c d e f g (t33 y h)) x y
def p734 (x : F3) (y : F0) : F3 := N8.rec (motive := fun _ => F0 → F3) (fun a b c d e f g h y => N8.mk a b c d e f g (t34 y h)) x y
def p735 (x : F3) (y : F0) : F3 := N8.rec (motive := fun _ => F0 → F3) (fun a b c d e f g h y => N8.mk a b c d e f g (t35 y h)) x y
def p736 (x : F3) (y : F0) : F3 := N8.rec (motive := fun _ => F0 → F3) (fun a b c d e f g h y => N8.mk a b c d e f g (t36 y h)) x y
def p737 (x : F3) (y : F0) : F3 := N8.rec (motive := fun _ => F0 → F3) (fun a b c d e f g h y => N8.mk a b c d e f g (t37 y h)) x y
def p740 (x : F3) (y : F0) : F3 := N8.rec (motive := fun _ => F0 → F3) (fun a b c d e f g h y => N8.mk a b c d e f g (t40 y h)) x y
def p741 (x : F3) (y : F0) : F3 := N8.rec (motive := fun _ => F0 → F3) (fun a b c d e f g h y => N8.mk a b c d e f g (t41 y h)) x y
def p742 (x : F3) (y : F0) : F3 := N8.rec (motive := fun _ => F0 → F3) (fun a b c d e f g h y => N8.mk a b c d e f g (t42 y h)) x y
def p743 (x : F3) (y : F0) : F3 := N8.rec (motive := fun _ => F0 → F3) (fun a b c d e f g h y => N8.mk a b c d e f g (t43 y h)) x y
def p744 (x : F3) (y : F0) : F3 := N8.rec (motive := fun _ => F0 → F3) (fun a b c d e f g h y => N8.mk a b c d e f g (t44 y h)) x y
def p745 (x : F3) (y : F0) : F3 := N8.rec (motive := fun _ => F0 → F3) (fun a b c d e f g h y => N8.mk a b c d e f g (t45 y h)) x y
def p746 (x : F3) (y : F0) : F3 := N8.rec (motive := fun _ => F0 → F3) (fun a b c d e f g h y => N8.mk a b c d e f g (t46 y h)) x y
def p747 (x : F3) (y : F0) : F3 := N8.rec (motive := fun _ => F0 → F3) (fun a b c d e f g h y => N8.mk a b c d e f g (t47 y h)) x y
def p750 (x : F3) (y : F0) : F3 := N8.rec (motive := fun _ => F0 → F3) (fun a b c d e f g h y => N8.mk a b c d e f g (t50 y h)) x y
def p751 (x : F3) (y : F0) : F3 := N8.rec (motive := fun _ => F0 → F3) (fun a b c d e f g h y => N8.mk a b c d e f g (t51 y h)) x y
def p752 (x : F3) (y : F0) : F3 := N8.rec (motive := fun _ => F0 → F3) (fun a b c d e f g h y => N8.mk a b c d e f g (t52 y h)) x y
def p753 (x : F3) (y : F0) : F3 := N8.rec (motive := fun _ => F0 → F3) (fun a b c d e f g h y => N8.mk a b c d e f g (t53 y h)) x y
def p754 (x : F3) (y : F0) : F3 := N8.rec (motive := fun _ => F0 → F3) (fun a b c d e f g h y => N8.mk a b c d e f g (t54 y h)) x y
def p755 (x : F3) (y : F0) : F3 := N8.rec (motive := fun _ => F0 → F3) (fun a b c d e f g h y => N8.mk a b c d e f g (t55 y h)) x y
def p756 (x : F3) (y : F0) : F3 := N8.rec (motive := fun _ => F0 → F3) (fun a b c d e f g h y => N8.mk a b c d e f g (t56 y h)) x y
def p757 (x : F3) (y : F0) : F3 := N8.rec (motive := fun _ => F0 → F3) (fun a b c d e f g h y => N8.mk a b c d e f g (t57 y h)) x y
def p760 (x : F3) (y : F0) : F3 := N8.rec (motive := fun _ => F0 → F3) (fun a b c d e f g h y => N8.mk a b c d e f g (t60 y h)) x y
def p761 (x : F3) (y : F0) : F3 := N8.rec (motive := fun _ => F0 → F3) (fun a b c d e f g h y => N8.mk a b c d e f g (t61 y h)) x y
def p762 (x : F3) (y : F0) : F3 := N8.rec (motive := fun _ => F0 → F3) (fun a b c d e f g h y => N8.mk a b c d e f g (t62 y h)) x y
def p763 (x : F3) (y : F0) : F3 := N8.rec (motive := fun _ => F0 → F3) (fun a b c d e f g h y => N8.mk a b c d e f g (t63 y h)) x y
def p764 (x : F3) (y : F0) : F3 := N8.rec (motive := fun _ => F0 → F3) (fun a b c d e f g h y => N8.mk a b c d e f g (t64 y h)) x y
def p765 (x : F3) (y : F0) : F3 := N8.rec (motive := fun _ => F0 → F3) (fun a b c d e f g h y => N8.mk a b c d e f g (t65 y h)) x y
def p766 (x : F3) (y : F0) : F3 := N8.rec (motive := fun _ => F0 → F3) (fun a b c d e f g h y => N8.mk a b c d e f g (t66 y h)) x y
def p767 (x : F3) (y : F0) : F3 := N8.rec (motive := fun _ => F0 → F3) (fun a b c d e f g h y => N8.mk a b c d e f g (t67 y h)) x y
def p770 (x : F3) (y : F0) : F3 := N8.rec (motive := fun _ => F0 → F3) (fun a b c d e f g h y => N8.mk a b c d e f g (t70 y h)) x y
def p771 (x : F3) (y : F0) : F3 := N8.rec (motive := fun _ => F0 → F3) (fun a b c d e f g h y => N8.mk a b c d e f g (t71 y h)) x y
def p772 (x : F3) (y : F0) : F3 := N8.rec (motive := fun _ => F0 → F3) (fun a b c d e f g h y => N8.mk a b c d e f g (t72 y h)) x y
def p773 (x : F3) (y : F0) : F3 := N8.rec (motive := fun _ => F0 → F3) (fun a b c d e f g h y => N8.mk a b c d e f g (t73 y h)) x y
def p774 (x : F3) (y : F0) : F3 := N8.rec (motive := fun _ => F0 → F3) (fun a b c d e f g h y => N8.mk a b c d e f g (t74 y h)) x y
def p775 (x : F3) (y : F0) : F3 := N8.rec (motive := fun _ => F0 → F3) (fun a b c d e f g h y => N8.mk a b c d e f g (t75 y h)) x y
def p776 (x : F3) (y : F0) : F3 := N8.rec (motive := fun _ => F0 → F3) (fun a b c d e f g h y => N8.mk a b c d e f g (t76 y h)) x y
def p777 (x : F3) (y : F0) : F3 := N8.rec (motive := fun _ => F0 → F3) (fun a b c d e f g h y => N8.mk a b c d e f g (t77 y h)) x y
def cG00 (l : Nat) : Bx (F3 → F0) := match l with
  | 0 => ⟨q000⟩
  | 1 => ⟨q001⟩
  | 2 => ⟨q002⟩
  | 3 => ⟨q003⟩
  | 4 => ⟨q004⟩
  | 5 => ⟨q005⟩
  | 6 => ⟨q006⟩
  | _ => ⟨q007⟩
def cG01 (l : Nat) : Bx (F3 → F0) := match l with
  | 0 => ⟨q010⟩
  | 1 => ⟨q011⟩
  | 2 => ⟨q012⟩
  | 3 => ⟨q013⟩
  | 4 => ⟨q014⟩
  | 5 => ⟨q015⟩
  | 6 => ⟨q016⟩
  | _ => ⟨q017⟩
def cG02 (l : Nat) : Bx (F3 → F0) := match l with
  | 0 => ⟨q020⟩
  | 1 => ⟨q021⟩
  | 2 => ⟨q022⟩
  | 3 => ⟨q023⟩
  | 4 => ⟨q024⟩
  | 5 => ⟨q025⟩
  | 6 => ⟨q026⟩
  | _ => ⟨q027⟩
def cG03 (l : Nat) : Bx (F3 → F0) := match l with
  | 0 => ⟨q030⟩
  | 1 => ⟨q031⟩
  | 2 => ⟨q032⟩
  | 3 => ⟨q033⟩
  | 4 => ⟨q034⟩
  | 5 => ⟨q035⟩
  | 6 => ⟨q036⟩
  | _ => ⟨q037⟩
def cG04 (l : Nat) : Bx (F3 → F0) := match l with
  | 0 => ⟨q040⟩
  | 1 => ⟨q041⟩
  | 2 => ⟨q042⟩
  | 3 => ⟨q043⟩
  | 4 => ⟨q044⟩
  | 5 => ⟨q045⟩
  | 6 => ⟨q046⟩
  | _ => ⟨q047⟩
def cG05 (l : Nat) : Bx (F3 → F0) := match l with
  | 0 => ⟨q050⟩
  | 1 => ⟨q051⟩
  | 2 => ⟨q052⟩
  | 3 => ⟨q053⟩
  | 4 => ⟨q054⟩
  | 5 => ⟨q055⟩
  | 6 => ⟨q056⟩
  | _ => ⟨q057⟩
def cG06 (l : Nat) : Bx (F3 → F0) := match l with
  | 0 => ⟨q060⟩
  | 1 => ⟨q061⟩
  | 2 => ⟨q062⟩
  | 3 => ⟨q063⟩
  | 4 => ⟨q064⟩
  | 5 => ⟨q065⟩
  | 6 => ⟨q066⟩
  | _ => ⟨q067⟩
def cG07 (l : Nat) : Bx (F3 → F0) := match l with
  | 0 => ⟨q070⟩
  | 1 => ⟨q071⟩
  | 2 => ⟨q072⟩
  | 3 => ⟨q073⟩
  | 4 => ⟨q074⟩
  | 5 => ⟨q075⟩
  | 6 => ⟨q076⟩
  | _ => ⟨q077⟩
def cG0 (j l : Nat) : Bx (F3 → F0) := match j with
  | 0 => cG00 l
  | 1 => cG01 l
  | 2 => cG02 l
  | 3 => cG03 l
  | 4 => cG04 l
  | 5 => cG05 l
  | 6 => cG06 l
  | _ => cG07 l
def cG10 (l : Nat) : Bx (F3 → F0) := match l with
  | 0 => ⟨q100⟩
  | 1 => ⟨q101⟩
  | 2 => ⟨q102⟩
  | 3 => ⟨q103⟩
  | 4 => ⟨q104⟩
  | 5 => ⟨q105⟩
  | 6 => ⟨q106⟩
  | _ => ⟨q107⟩
def cG11 (l : Nat) : Bx (F3 → F0) := match l with
  | 0 => ⟨q110⟩
  | 1 => ⟨q111⟩
  | 2 => ⟨q112⟩
  | 3 => ⟨q113⟩
  | 4 => ⟨q114⟩
  | 5 => ⟨q115⟩
  | 6 => ⟨q116⟩
  | _ => ⟨q117⟩
def cG12 (l : Nat) : Bx (F3 → F0) := match l with
  | 0 => ⟨q120⟩
  | 1 => ⟨q121⟩
  | 2 => ⟨q122⟩
  | 3 => ⟨q123⟩
  | 4 => ⟨q124⟩
  | 5 => ⟨q125⟩
  | 6 => ⟨q126⟩
  | _ => ⟨q127⟩
def cG13 (l : Nat) : Bx (F3 → F0) := match l with
  | 0 => ⟨q130⟩
  | 1 => ⟨q131⟩
  | 2 => ⟨q132⟩
  | 3 => ⟨q133⟩
  | 4 => ⟨q134⟩
  | 5 => ⟨q135⟩
  | 6 => ⟨q136⟩
  | _ => ⟨q137⟩
def cG14 (l : Nat) : Bx (F3 → F0) := match l with
  | 0 => ⟨q140⟩
  | 1 => ⟨q141⟩
  | 2 => ⟨q142⟩
  | 3 => ⟨q143⟩
  | 4 => ⟨q144⟩
  | 5 => ⟨q145⟩
  | 6 => ⟨q146⟩
  | _ => ⟨q147⟩
def cG15 (l : Nat) : Bx (F3 → F0) := match l with
  | 0 => ⟨q150⟩
  | 1 => ⟨q151⟩
  | 2 => ⟨q152⟩
  | 3 => ⟨q153⟩
  | 4 => ⟨q154⟩
  | 5 => ⟨q155⟩
  | 6 => ⟨q156⟩
  | _ => ⟨q157⟩
def cG16 (l : Nat) : Bx (F3 → F0) := match l with
  | 0 => ⟨q160⟩
  | 1 => ⟨q161⟩
  | 2 => ⟨q162⟩
  | 3 => ⟨q163⟩
  | 4 => ⟨q164⟩
  | 5 => ⟨q165⟩
  | 6 => ⟨q166⟩
  | _ => ⟨q167⟩
def cG17 (l : Nat) : Bx (F3 → F0) := match l with
  | 0 => ⟨q170⟩
  | 1 => ⟨q171⟩
  | 2 => ⟨q172⟩
  | 3 => ⟨q173⟩
  | 4 => ⟨q174⟩
  | 5 => ⟨q175⟩
  | 6 => ⟨q176⟩
  | _ => ⟨q177⟩
def cG1 (j l : Nat) : Bx (F3 → F0) := match j with
  | 0 => cG10 l
  | 1 => cG11 l
  | 2 => cG12 l
  | 3 => cG13 l
  | 4 => cG14 l
  | 5 => cG15 l
  | 6 => cG16 l
  | _ => cG17 l
def cG20 (l : Nat) : Bx (F3 → F0) := match l with
  | 0 => ⟨q200⟩
  | 1 => ⟨q201⟩
  | 2 => ⟨q202⟩
  | 3 => ⟨q203⟩
  | 4 => ⟨q204⟩
  | 5 => ⟨q205⟩
  | 6 => ⟨q206⟩
  | _ => ⟨q207⟩
def cG21 (l : Nat) : Bx (F3 → F0) := match l with
  | 0 => ⟨q210⟩
  | 1 => ⟨q211⟩
  | 2 => ⟨q212⟩
  | 3 => ⟨q213⟩
  | 4 => ⟨q214⟩
  | 5 => ⟨q215⟩
  | 6 => ⟨q216⟩
  | _ => ⟨q217⟩
def cG22 (l : Nat) : Bx (F3 → F0) := match l with
  | 0 => ⟨q220⟩
  | 1 => ⟨q221⟩
  | 2 => ⟨q222⟩
  | 3 => ⟨q223⟩
  | 4 => ⟨q224⟩
  | 5 => ⟨q225⟩
  | 6 => ⟨q226⟩
  | _ => ⟨q227⟩
def cG23 (l : Nat) : Bx (F3 → F0) := match l with
  | 0 => ⟨q230⟩
  | 1 => ⟨q231⟩
  | 2 => ⟨q232⟩
  | 3 => ⟨q233⟩
  | 4 => ⟨q234⟩
  | 5 => ⟨q235⟩
  | 6 => ⟨q236⟩
  | _ => ⟨q237⟩
def cG24 (l : Nat) : Bx (F3 → F0) := match l with
  | 0 => ⟨q240⟩
  | 1 => ⟨q241⟩
  | 2 => ⟨q242⟩
  | 3 => ⟨q243⟩
  | 4 => ⟨q244⟩
  | 5 => ⟨q245⟩
  | 6 => ⟨q246⟩
  | _ => ⟨q247⟩
def cG25 (l : Nat) : Bx (F3 → F0) := match l with
  | 0 => ⟨q250⟩
  | 1 => ⟨q251⟩
  | 2 => ⟨q252⟩
  | 3 => ⟨q253⟩
  | 4 => ⟨q254⟩
  | 5 => ⟨q255⟩
  | 6 => ⟨q256⟩
  | _ => ⟨q257⟩
def cG26 (l : Nat) : Bx (F3 → F0) := match l with
  | 0 => ⟨q260⟩
  | 1 => ⟨q261⟩
  | 2 => ⟨q262⟩
  | 3 => ⟨q263⟩
  | 4 => ⟨q264⟩
  | 5 => ⟨q265⟩
  | 6 => ⟨q266⟩
  | _ => ⟨q267⟩
def cG27 (l : Nat) : Bx (F3 → F0) := match l with
  | 0 => ⟨q270⟩
  | 1 => ⟨q271⟩
  | 2 => ⟨q272⟩
  | 3 => ⟨q273⟩
  | 4 => ⟨q274⟩
  | 5 => ⟨q275⟩
  | 6 => ⟨q276⟩
  | _ => ⟨q277⟩
def cG2 (j l : Nat) : Bx (F3 → F0) := match j with
  | 0 => cG20 l
  | 1 => cG21 l
  | 2 => cG22 l
  | 3 => cG23 l
  | 4 => cG24 l
  | 5 => cG25 l
  | 6 => cG26 l
  | _ => cG27 l
def cG30 (l : Nat) : Bx (F3 → F0) := match l with
  | 0 => ⟨q300⟩
  | 1 => ⟨q301⟩
  | 2 => ⟨q302⟩
  | 3 => ⟨q303⟩
  | 4 => ⟨q304⟩
  | 5 => ⟨q305⟩
  | 6 => ⟨q306⟩
  | _ => ⟨q307⟩
def cG31 (l : Nat) : Bx (F3 → F0) := match l with
  | 0 => ⟨q310⟩
  | 1 => ⟨q311⟩
  | 2 => ⟨q312⟩
  | 3 => ⟨q313⟩
  | 4 => ⟨q314⟩
  | 5 => ⟨q315⟩
  | 6 => ⟨q316⟩
  | _ => ⟨q317⟩
def cG32 (l : Nat) : Bx (F3 → F0) := match l with
  | 0 => ⟨q320⟩
  | 1 => ⟨q321⟩
  | 2 => ⟨q322⟩
  | 3 => ⟨q323⟩
  | 4 => ⟨q324⟩
  | 5 => ⟨q325⟩
  | 6 => ⟨q326⟩
  | _ => ⟨q327⟩
def cG33 (l : Nat) : Bx (F3 → F0) := match l with
  | 0 => ⟨q330⟩
  | 1 => ⟨q331⟩
  | 2 => ⟨q332⟩
  | 3 => ⟨q333⟩
  | 4 => ⟨q334⟩
  | 5 => ⟨q335⟩
  | 6 => ⟨q336⟩
  | _ => ⟨q337⟩
def cG34 (l : Nat) : Bx (F3 → F0) := match l with
  | 0 => ⟨q340⟩
  | 1 => ⟨q341⟩
  | 2 => ⟨q342⟩
  | 3 => ⟨q343⟩
  | 4 => ⟨q344⟩
  | 5 => ⟨q345⟩
  | 6 => ⟨q346⟩
  | _ => ⟨q347⟩
def cG35 (l : Nat) : Bx (F3 → F0) := match l with
  | 0 => ⟨q350⟩
  | 1 => ⟨q351⟩
  | 2 => ⟨q352⟩
  | 3 => ⟨q353⟩
  | 4 => ⟨q354⟩
  | 5 => ⟨q355⟩
  | 6 => ⟨q356⟩
  | _ => ⟨q357⟩
def cG36 (l : Nat) : Bx (F3 → F0) := match l with
  | 0 => ⟨q360⟩
  | 1 => ⟨q361⟩
  | 2 => ⟨q362⟩
  | 3 => ⟨q363⟩
  | 4 => ⟨q364⟩
  | 5 => ⟨q365⟩
  | 6 => ⟨q366⟩
  | _ => ⟨q367⟩
def cG37 (l : Nat) : Bx (F3 → F0) := match l with
  | 0 => ⟨q370⟩
  | 1 => ⟨q371⟩
  | 2 => ⟨q372⟩
  | 3 => ⟨q373⟩
  | 4 => ⟨q374⟩
  | 5 => ⟨q375⟩
  | 6 => ⟨q376⟩
  | _ => ⟨q377⟩
def cG3 (j l : Nat) : Bx (F3 → F0) := match j with
  | 0 => cG30 l
  | 1 => cG31 l
  | 2 => cG32 l
  | 3 => cG33 l
  | 4 => cG34 l
  | 5 => cG35 l
  | 6 => cG36 l
  | _ => cG37 l
def cG40 (l : Nat) : Bx (F3 → F0) := match l with
  | 0 => ⟨q400⟩
  | 1 => ⟨q401⟩
  | 2 => ⟨q402⟩
  | 3 => ⟨q403⟩
  | 4 => ⟨q404⟩
  | 5 => ⟨q405⟩
  | 6 => ⟨q406⟩
  | _ => ⟨q407⟩
def cG41 (l : Nat) : Bx (F3 → F0) := match l with
  | 0 => ⟨q410⟩
  | 1 => ⟨q411⟩
  | 2 => ⟨q412⟩
  | 3 => ⟨q413⟩
  | 4 => ⟨q414⟩
  | 5 => ⟨q415⟩
  | 6 => ⟨q416⟩
  | _ => ⟨q417⟩
def cG42 (l : Nat) : Bx (F3 → F0) := match l with
  | 0 => ⟨q420⟩
  | 1 => ⟨q421⟩
  | 2 => ⟨q422⟩
  | 3 => ⟨q423⟩
  | 4 => ⟨q424⟩
  | 5 => ⟨q425⟩
  | 6 => ⟨q426⟩
  | _ => ⟨q427⟩
def cG43 (l : Nat) : Bx (F3 → F0) := match l with
  | 0 => ⟨q430⟩
  | 1 => ⟨q431⟩
  | 2 => ⟨q432⟩
  | 3 => ⟨q433⟩
  | 4 => ⟨q434⟩
  | 5 => ⟨q435⟩
  | 6 => ⟨q436⟩
  | _ => ⟨q437⟩
def cG44 (l : Nat) : Bx (F3 → F0) := match l with
  | 0 => ⟨q440⟩
  | 1 => ⟨q441⟩
  | 2 => ⟨q442⟩
  | 3 => ⟨q443⟩
  | 4 => ⟨q444⟩
  | 5 => ⟨q445⟩
  | 6 => ⟨q446⟩
  | _ => ⟨q447⟩
def cG45 (l : Nat) : Bx (F3 → F0) := match l with
  | 0 => ⟨q450⟩
  | 1 => ⟨q451⟩
  | 2 => ⟨q452⟩
  | 3 => ⟨q453⟩
  | 4 => ⟨q454⟩
  | 5 => ⟨q455⟩
  | 6 => ⟨q456⟩
  | _ => ⟨q457⟩
def cG46 (l : Nat) : Bx (F3 → F0) := match l with
  | 0 => ⟨q460⟩
  | 1 => ⟨q461⟩
  | 2 => ⟨q462⟩
  | 3 => ⟨q463⟩
  | 4 => ⟨q464⟩
  | 5 => ⟨q465⟩
  | 6 => ⟨q466⟩
  | _ => ⟨q467⟩
def cG47 (l : Nat) : Bx (F3 → F0) := match l with
  | 0 => ⟨q470⟩
  | 1 => ⟨q471⟩
  | 2 => ⟨q472⟩
  | 3 => ⟨q473⟩
  | 4 => ⟨q474⟩
  | 5 => ⟨q475⟩
  | 6 => ⟨q476⟩
  | _ => ⟨q477⟩
def cG4 (j l : Nat) : Bx (F3 → F0) := match j with
  | 0 => cG40 l
  | 1 => cG41 l
  | 2 => cG42 l
  | 3 => cG43 l
  | 4 => cG44 l
  | 5 => cG45 l
  | 6 => cG46 l
  | _ => cG47 l
def cG50 (l : Nat) : Bx (F3 → F0) := match l with
  | 0 => ⟨q500⟩
  | 1 => ⟨q501⟩
  | 2 => ⟨q502⟩
  | 3 => ⟨q503⟩
  | 4 => ⟨q504⟩
  | 5 => ⟨q505⟩
  | 6 => ⟨q506⟩
  | _ => ⟨q507⟩
def cG51 (l : Nat) : Bx (F3 → F0) := match l with
  | 0 => ⟨q510⟩
  | 1 => ⟨q511⟩
  | 2 => ⟨q512⟩
  | 3 => ⟨q513⟩
  | 4 => ⟨q514⟩
  | 5 => ⟨q515⟩
  | 6 => ⟨q516⟩
  | _ => ⟨q517⟩
def cG52 (l : Nat) : Bx (F3 → F0) := match l with
  | 0 => ⟨q520⟩
  | 1 => ⟨q521⟩
  | 2 => ⟨q522⟩
  | 3 => ⟨q523⟩
  | 4 => ⟨q524⟩
  | 5 => ⟨q525⟩
  | 6 => ⟨q526⟩
  | _ => ⟨q527⟩
def cG53 (l : Nat) : Bx (F3 → F0) := match l with
  | 0 => ⟨q530⟩
  | 1 => ⟨q531⟩
  | 2 => ⟨q532⟩
  | 3 => ⟨q533⟩
  | 4 => ⟨q534⟩
  | 5 => ⟨q535⟩
  | 6 => ⟨q536⟩
  | _ => ⟨q537⟩
def cG54 (l : Nat) : Bx (F3 → F0) := match l with
  | 0 => ⟨q540⟩
  | 1 => ⟨q541⟩
  | 2 => ⟨q542⟩
  | 3 => ⟨q543⟩
  | 4 => ⟨q544⟩
  | 5 => ⟨q545⟩
  | 6 => ⟨q546⟩
  | _ => ⟨q547⟩
def cG55 (l : Nat) : Bx (F3 → F0) := match l with
  | 0 => ⟨q550⟩
  | 1 => ⟨q551⟩
  | 2 => ⟨q552⟩
  | 3 => ⟨q553⟩
  | 4 => ⟨q554⟩
  | 5 => ⟨q555⟩
  | 6 => ⟨q556⟩
  | _ => ⟨q557⟩
def cG56 (l : Nat) : Bx (F3 → F0) := match l with
  | 0 => ⟨q560⟩
  | 1 => ⟨q561⟩
  | 2 => ⟨q562⟩
  | 3 => ⟨q563⟩
  | 4 => ⟨q564⟩
  | 5 => ⟨q565⟩
  | 6 => ⟨q566⟩
  | _ => ⟨q567⟩
def cG57 (l : Nat) : Bx (F3 → F0) := match l with
  | 0 => ⟨q570⟩
  | 1 => ⟨q571⟩
  | 2 => ⟨q572⟩
  | 3 => ⟨q573⟩
  | 4 => ⟨q574⟩
  | 5 => ⟨q575⟩
  | 6 => ⟨q576⟩
  | _ => ⟨q577⟩
def cG5 (j l : Nat) : Bx (F3 → F0) := match j with
  | 0 => cG50 l
  | 1 => cG51 l
  | 2 => cG52 l
  | 3 => cG53 l
  | 4 => cG54 l
  | 5 => cG55 l
  | 6 => cG56 l
  | _ => cG57 l
def cG60 (l : Nat) : Bx (F3 → F0) := match l with
  | 0 => ⟨q600⟩
  | 1 => ⟨q601⟩
  | 2 => ⟨q602⟩
  | 3 => ⟨q603⟩
  | 4 => ⟨q604⟩
  | 5 => ⟨q605⟩
  | 6 => ⟨q606⟩
  | _ => ⟨q607⟩
def cG61 (l : Nat) : Bx (F3 → F0) := match l with
  | 0 => ⟨q610⟩
  | 1 => ⟨q611⟩
  | 2 => ⟨q612⟩
  | 3 => ⟨q613⟩
  | 4 => ⟨q614⟩
  | 5 => ⟨q615⟩
  | 6 => ⟨q616⟩
  | _ => ⟨q617⟩
def cG62 (l : Nat) : Bx (F3 → F0) := match l with
  | 0 => ⟨q620⟩
  | 1 => ⟨q621⟩
  | 2 => ⟨q622⟩
  | 3 => ⟨q623⟩
  | 4 => ⟨q624⟩
  | 5 => ⟨q625⟩
  | 6 => ⟨q626⟩
  | _ => ⟨q627⟩
def cG63 (l : Nat) : Bx (F3 → F0) := match l with
  | 0 => ⟨q630⟩
  | 1 => ⟨q631⟩
  | 2 => ⟨q632⟩
  | 3 => ⟨q633⟩
  | 4 => ⟨q634⟩
  | 5 => ⟨q635⟩
  | 6 => ⟨q636⟩
  | _ => ⟨q637⟩
def cG64 (l : Nat) : Bx (F3 → F0) := match l with
  | 0 => ⟨q640⟩
  | 1 => ⟨q641⟩
  | 2 => ⟨q642⟩
  | 3 => ⟨q643⟩
  | 4 => ⟨q644⟩
  | 5 => ⟨q645⟩
  | 6 => ⟨q646⟩
  | _ => ⟨q647⟩
def cG65 (l : Nat) : Bx (F3 → F0) := match l with
  | 0 => ⟨q650⟩
  | 1 => ⟨q651⟩
  | 2 => ⟨q652⟩
  | 3 => ⟨q653⟩
  | 4 => ⟨q654⟩
  | 5 => ⟨q655⟩
  | 6 => ⟨q656⟩
  | _ => ⟨q657⟩
def cG66 (l : Nat) : Bx (F3 → F0) := match l with
  | 0 => ⟨q660⟩
  | 1 => ⟨q661⟩
  | 2 => ⟨q662⟩
  | 3 => ⟨q663⟩
  | 4 => ⟨q664⟩
  | 5 => ⟨q665⟩
  | 6 => ⟨q666⟩
  | _ => ⟨q667⟩
def cG67 (l : Nat) : Bx (F3 → F0) := match l with
  | 0 => ⟨q670⟩
  | 1 => ⟨q671⟩
  | 2 => ⟨q672⟩
  | 3 => ⟨q673⟩
  | 4 => ⟨q674⟩
  | 5 => ⟨q675⟩
  | 6 => ⟨q676⟩
  | _ => ⟨q677⟩
def cG6 (j l : Nat) : Bx (F3 → F0) := match j with
  | 0 => cG60 l
  | 1 => cG61 l
  | 2 => cG62 l
  | 3 => cG63 l
  | 4 => cG64 l
  | 5 => cG65 l
  | 6 => cG66 l
  | _ => cG67 l
def cG70 (l : Nat) : Bx (F3 → F0) := match l with
  | 0 => ⟨q700⟩
  | 1 => ⟨q701⟩
  | 2 => ⟨q702⟩
  | 3 => ⟨q703⟩
  | 4 => ⟨q704⟩
  | 5 => ⟨q705⟩
  | 6 => ⟨q706⟩
  | _ => ⟨q707⟩
def cG71 (l : Nat) : Bx (F3 → F0) := match l with
  | 0 => ⟨q710⟩
  | 1 => ⟨q711⟩
  | 2 => ⟨q712⟩
  | 3 => ⟨q713⟩
  | 4 => ⟨q714⟩
  | 5 => ⟨q715⟩
  | 6 => ⟨q716⟩
  | _ => ⟨q717⟩
def cG72 (l : Nat) : Bx (F3 → F0) := match l with
  | 0 => ⟨q720⟩
  | 1 => ⟨q721⟩
  | 2 => ⟨q722⟩
  | 3 => ⟨q723⟩
  | 4 => ⟨q724⟩
  | 5 => ⟨q725⟩
  | 6 => ⟨q726⟩
  | _ => ⟨q727⟩
def cG73 (l : Nat) : Bx (F3 → F0) := match l with
  | 0 => ⟨q730⟩
  | 1 => ⟨q731⟩
  | 2 => ⟨q732⟩
  | 3 => ⟨q733⟩
  | 4 => ⟨q734⟩
  | 5 => ⟨q735⟩
  | 6 => ⟨q736⟩
  | _ => ⟨q737⟩
def cG74 (l : Nat) : Bx (F3 → F0) := match l with
  | 0 => ⟨q740⟩
  | 1 => ⟨q741⟩
  | 2 => ⟨q742⟩
  | 3 => ⟨q743⟩
  | 4 => ⟨q744⟩
  | 5 => ⟨q745⟩
  | 6 => ⟨q746⟩
  | _ => ⟨q747⟩
def cG75 (l : Nat) : Bx (F3 → F0) := match l with
  | 0 => ⟨q750⟩
  | 1 => ⟨q751⟩
  | 2 => ⟨q752⟩
  | 3 => ⟨q753⟩
  | 4 => ⟨q754⟩
  | 5 => ⟨q755⟩
  | 6 => ⟨q756⟩
  | _ => ⟨q757⟩
def cG76 (l : Nat) : Bx (F3 → F0) := match l with
  | 0 => ⟨q760⟩
  | 1 => ⟨q761⟩
  | 2 => ⟨q762⟩
  | 3 => ⟨q763⟩
  | 4 => ⟨q764⟩
  | 5 => ⟨q765⟩
  | 6 => ⟨q766⟩
  | _ => ⟨q767⟩
def cG77 (l : Nat) : Bx (F3 → F0) := match l with
  | 0 => ⟨q770⟩
  | 1 => ⟨q771⟩
  | 2 => ⟨q772⟩
  | 3 => ⟨q773⟩
  | 4 => ⟨q774⟩
  | 5 => ⟨q775⟩
  | 6 => ⟨q776⟩
  | _ => ⟨q777⟩
def cG7 (j l : Nat) : Bx (F3 → F0) := match j with
  | 0 => cG70 l
  | 1 => cG71 l
  | 2 => cG72 l
  | 3 => cG73 l
  | 4 => cG74 l
  | 5 => cG75 l
  | 6 => cG76 l
  | _ => cG77 l
def cG (i j l : Nat) : Bx (F3 → F0) := match i with
  | 0 => cG0 j l
  | 1 => cG1 j l
  | 2 => cG2 j l
  | 3 => cG3 j l
  | 4 => cG4 j l
  | 5 => cG5 j l
  | 6 => cG6 j l
  | _ => cG7 j l
def cP00 (l : Nat) : Bx (F3 → F0 → F3) := match l with
  | 0 => ⟨p000⟩
  | 1 => ⟨p001⟩
  | 2 => ⟨p002⟩
  | 3 => ⟨p003⟩
  | 4 => ⟨p004⟩
  | 5 => ⟨p005⟩
  | 6 => ⟨p006⟩
  | _ => ⟨p007⟩
def cP01 (l : Nat) : Bx (F3 → F0 → F3) := match l with
  | 0 => ⟨p010⟩
  | 1 => ⟨p011⟩
  | 2 => ⟨p012⟩
  | 3 => ⟨p013⟩
  | 4 => ⟨p014⟩
  | 5 => ⟨p015⟩
  | 6 => ⟨p016⟩
  | _ => ⟨p017⟩
def cP02 (l : Nat) : Bx (F3 → F0 → F3) := match l with
  | 0 => ⟨p020⟩
  | 1 => ⟨p021⟩
  | 2 => ⟨p022⟩
  | 3 => ⟨p023⟩
  | 4 => ⟨p024⟩
  | 5 => ⟨p025⟩
  | 6 => ⟨p026⟩
  | _ => ⟨p027⟩
def cP03 (l : Nat) : Bx (F3 → F0 → F3) := match l with
  | 0 => ⟨p030⟩
  | 1 => ⟨p031⟩
  | 2 => ⟨p032⟩
  | 3 => ⟨p033⟩
  | 4 => ⟨p034⟩
  | 5 => ⟨p035⟩
  | 6 => ⟨p036⟩
  | _ => ⟨p037⟩
def cP04 (l : Nat) : Bx (F3 → F0 → F3) := match l with
  | 0 => ⟨p040⟩
  | 1 => ⟨p041⟩
  | 2 => ⟨p042⟩
  | 3 => ⟨p043⟩
  | 4 => ⟨p044⟩
  | 5 => ⟨p045⟩
  | 6 => ⟨p046⟩
  | _ => ⟨p047⟩
def cP05 (l : Nat) : Bx (F3 → F0 → F3) := match l with
  | 0 => ⟨p050⟩
  | 1 => ⟨p051⟩
  | 2 => ⟨p052⟩
  | 3 => ⟨p053⟩
  | 4 => ⟨p054⟩
  | 5 => ⟨p055⟩
  | 6 => ⟨p056⟩
  | _ => ⟨p057⟩
def cP06 (l : Nat) : Bx (F3 → F0 → F3) := match l with
  | 0 => ⟨p060⟩
  | 1 => ⟨p061⟩
  | 2 => ⟨p062⟩
  | 3 => ⟨p063⟩
  | 4 => ⟨p064⟩
  | 5 => ⟨p065⟩
  | 6 => ⟨p066⟩
  | _ => ⟨p067⟩
def cP07 (l : Nat) : Bx (F3 → F0 → F3) := match l with
  | 0 => ⟨p070⟩
  | 1 => ⟨p071⟩
  | 2 => ⟨p072⟩
  | 3 => ⟨p073⟩
  | 4 => ⟨p074⟩
  | 5 => ⟨p075⟩
  | 6 => ⟨p076⟩
  | _ => ⟨p077⟩
def cP0 (j l : Nat) : Bx (F3 → F0 → F3) := match j with
  | 0 => cP00 l
  | 1 => cP01 l
  | 2 => cP02 l
  | 3 => cP03 l
  | 4 => cP04 l
  | 5 => cP05 l
  | 6 => cP06 l
  | _ => cP07 l
def cP10 (l : Nat) : Bx (F3 → F0 → F3) := match l with
  | 0 => ⟨p100⟩
  | 1 => ⟨p101⟩
  | 2 => ⟨p102⟩
  | 3 => ⟨p103⟩
  | 4 => ⟨p104⟩
  | 5 => ⟨p105⟩
  | 6 => ⟨p106⟩
  | _ => ⟨p107⟩
def cP11 (l : Nat) : Bx (F3 → F0 → F3) := match l with
  | 0 => ⟨p110⟩
  | 1 => ⟨p111⟩
  | 2 => ⟨p112⟩
  | 3 => ⟨p113⟩
  | 4 => ⟨p114⟩
  | 5 => ⟨p115⟩
  | 6 => ⟨p116⟩
  | _ => ⟨p117⟩
def cP12 (l : Nat) : Bx (F3 → F0 → F3) := match l with
  | 0 => ⟨p120⟩
  | 1 => ⟨p121⟩
  | 2 => ⟨p122⟩
  | 3 => ⟨p123⟩
  | 4 => ⟨p124⟩
  | 5 => ⟨p125⟩
  | 6 => ⟨p126⟩
  | _ => ⟨p127⟩
def cP13 (l : Nat) : Bx (F3 → F0 → F3) := match l with
  | 0 => ⟨p130⟩
  | 1 => ⟨p131⟩
  | 2 => ⟨p132⟩
  | 3 => ⟨p133⟩
  | 4 => ⟨p134⟩
  | 5 => ⟨p135⟩
  | 6 => ⟨p136⟩
  | _ => ⟨p137⟩
def cP14 (l : Nat) : Bx (F3 → F0 → F3) := match l with
  | 0 => ⟨p140⟩
  | 1 => ⟨p141⟩
  | 2 => ⟨p142⟩
  | 3 => ⟨p143⟩
  | 4 => ⟨p144⟩
  | 5 => ⟨p145⟩
  | 6 => ⟨p146⟩
  | _ => ⟨p147⟩
def cP15 (l : Nat) : Bx (F3 → F0 → F3) := match l with
  | 0 => ⟨p150⟩
  | 1 => ⟨p151⟩
  | 2 => ⟨p152⟩
  | 3 => ⟨p153⟩
  | 4 => ⟨p154⟩
  | 5 => ⟨p155⟩
  | 6 => ⟨p156⟩
  | _ => ⟨p157⟩
def cP16 (l : Nat) : Bx (F3 → F0 → F3) := match l with
  | 0 => ⟨p160⟩
  | 1 => ⟨p161⟩
  | 2 => ⟨p162⟩
  | 3 => ⟨p163⟩
  | 4 => ⟨p164⟩
  | 5 => ⟨p165⟩
  | 6 => ⟨p166⟩
  | _ => ⟨p167⟩
def cP17 (l : Nat) : Bx (F3 → F0 → F3) := match l with
  | 0 => ⟨p170⟩
  | 1 => ⟨p171⟩
  | 2 => ⟨p172⟩
  | 3 => ⟨p173⟩
  | 4 => ⟨p174⟩
  | 5 => ⟨p175⟩
  | 6 => ⟨p176⟩
  | _ => ⟨p177⟩
def cP1 (j l : Nat) : Bx (F3 → F0 → F3) := match j with
  | 0 => cP10 l
  | 1 => cP11 l
  | 2 => cP12 l
  | 3 => cP13 l
  | 4 => cP14 l
  | 5 => cP15 l
  | 6 => cP16 l
  | _ => cP17 l
def cP20 (l : Nat) : Bx (F3 → F0 → F3) := match l with
  | 0 => ⟨p200⟩
  | 1 => ⟨p201⟩
  | 2 => ⟨p202⟩
  | 3 => ⟨p203⟩
  | 4 => ⟨p204⟩
  | 5 => ⟨p205⟩
  | 6 => ⟨p206⟩
  | _ => ⟨p207⟩
def cP21 (l : Nat) : Bx (F3 → F0 → F3) := match l with
  | 0 => ⟨p210⟩
  | 1 => ⟨p211⟩
  | 2 => ⟨p212⟩
  | 3 => ⟨p213⟩
  | 4 => ⟨p214⟩
  | 5 => ⟨p215⟩
  | 6 => ⟨p216⟩
  | _ => ⟨p217⟩
def cP22 (l : Nat) : Bx (F3 → F0 → F3) := match l with
  | 0 => ⟨p220⟩
  | 1 => ⟨p221⟩
  | 2 => ⟨p222⟩
  | 3 => ⟨p223⟩
  | 4 => ⟨p224⟩
  | 5 => ⟨p225⟩
  | 6 => ⟨p226⟩
  | _ => ⟨p227⟩
def cP23 (l : Nat) : Bx (F3 → F0 → F3) := match l with
  | 0 => ⟨p230⟩
  | 1 => ⟨p231⟩
  | 2 => ⟨p232⟩
  | 3 => ⟨p233⟩
  | 4 => ⟨p234⟩
  | 5 => ⟨p235⟩
  | 6 => ⟨p236⟩
  | _ => ⟨p237⟩
def cP24 (l : Nat) : Bx (F3 → F0 → F3) := match l with
  | 0 => ⟨p240⟩
  | 1 => ⟨p241⟩
  | 2 => ⟨p242⟩
  | 3 => ⟨p243⟩
  | 4 => ⟨p244⟩
  | 5 => ⟨p245⟩
  | 6 => ⟨p246⟩
  | _ => ⟨p247⟩
def cP25 (l : Nat) : Bx (F3 → F0 → F3) := match l with
  | 0 => ⟨p250⟩
  | 1 => ⟨p251⟩
  | 2 => ⟨p252⟩
  | 3 => ⟨p253⟩
  | 4 => ⟨p254⟩
  | 5 => ⟨p255⟩
  | 6 => ⟨p256⟩
  | _ => ⟨p257⟩
def cP26 (l : Nat) : Bx (F3 → F0 → F3) := match l with
  | 0 => ⟨p260⟩
  | 1 => ⟨p261⟩
  | 2 => ⟨p262⟩
  | 3 => ⟨p263⟩
  | 4 => ⟨p264⟩
  | 5 => ⟨p265⟩
  | 6 => ⟨p266⟩
  | _ => ⟨p267⟩
def cP27 (l : Nat) : Bx (F3 → F0 → F3) := match l with
  | 0 => ⟨p270⟩
  | 1 => ⟨p271⟩
  | 2 => ⟨p272⟩
  | 3 => ⟨p273⟩
  | 4 => ⟨p274⟩
  | 5 => ⟨p275⟩
  | 6 => ⟨p276⟩
  | _ => ⟨p277⟩
def cP2 (j l : Nat) : Bx (F3 → F0 → F3) := match j with
  | 0 => cP20 l
  | 1 => cP21 l
  | 2 => cP22 l
  | 3 => cP23 l
  | 4 => cP24 l
  | 5 => cP25 l
  | 6 => cP26 l
  | _ => cP27 l
def cP30 (l : Nat) : Bx (F3 → F0 → F3) := match l with
  | 0 => ⟨p300⟩
  | 1 => ⟨p301⟩
  | 2 => ⟨p302⟩
  | 3 => ⟨p303⟩
  | 4 => ⟨p304⟩
  | 5 => ⟨p305⟩
  | 6 => ⟨p306⟩
  | _ => ⟨p307⟩
def cP31 (l : Nat) : Bx (F3 → F0 → F3) := match l with
  | 0 => ⟨p310⟩
  | 1 => ⟨p311⟩
  | 2 => ⟨p312⟩
  | 3 => ⟨p313⟩
  | 4 => ⟨p314⟩
  | 5 => ⟨p315⟩
  | 6 => ⟨p316⟩
  | _ => ⟨p317⟩
def cP32 (l : Nat) : Bx (F3 → F0 → F3) := match l with
  | 0 => ⟨p320⟩
  | 1 => ⟨p321⟩
  | 2 => ⟨p322⟩
  | 3 => ⟨p323⟩
  | 4 => ⟨p324⟩
  | 5 => ⟨p325⟩
  | 6 => ⟨p326⟩
  | _ => ⟨p327⟩
def cP33 (l : Nat) : Bx (F3 → F0 → F3) := match l with
  | 0 => ⟨p330⟩
  | 1 => ⟨p331⟩
  | 2 => ⟨p332⟩
  | 3 => ⟨p333⟩
  | 4 => ⟨p334⟩
  | 5 => ⟨p335⟩
  | 6 => ⟨p336⟩
  | _ => ⟨p337⟩
def cP34 (l : Nat) : Bx (F3 → F0 → F3) := match l with
  | 0 => ⟨p340⟩
  | 1 => ⟨p341⟩
  | 2 => ⟨p342⟩
  | 3 => ⟨p343⟩
  | 4 => ⟨p344⟩
  | 5 => ⟨p345⟩
  | 6 => ⟨p346⟩
  | _ => ⟨p347⟩
def cP35 (l : Nat) : Bx (F3 → F0 → F3) := match l with
  | 0 => ⟨p350⟩
  | 1 => ⟨p351⟩
  | 2 => ⟨p352⟩
  | 3 => ⟨p353⟩
  | 4 => ⟨p354⟩
  | 5 => ⟨p355⟩
  | 6 => ⟨p356⟩
  | _ => ⟨p357⟩
def cP36 (l : Nat) : Bx (F3 → F0 → F3) := match l with
  | 0 => ⟨p360⟩
  | 1 => ⟨p361⟩
  | 2 => ⟨p362⟩
  | 3 => ⟨p363⟩
  | 4 => ⟨p364⟩
  | 5 => ⟨p365⟩
  | 6 => ⟨p366⟩
  | _ => ⟨p367⟩
def cP37 (l : Nat) : Bx (F3 → F0 → F3) := match l with
  | 0 => ⟨p370⟩
  | 1 => ⟨p371⟩
  | 2 => ⟨p372⟩
  | 3 => ⟨p373⟩
  | 4 => ⟨p374⟩
  | 5 => ⟨p375⟩
  | 6 => ⟨p376⟩
  | _ => ⟨p377⟩
def cP3 (j l : Nat) : Bx (F3 → F0 → F3) := match j with
  | 0 => cP30 l
  | 1 => cP31 l
  | 2 => cP32 l
  | 3 => cP33 l
  | 4 => cP34 l
  | 5 => cP35 l
  | 6 => cP36 l
  | _ => cP37 l
def cP40 (l : Nat) : Bx (F3 → F0 → F3) := match l with
  | 0 => ⟨p400⟩
  | 1 => ⟨p401⟩
  | 2 => ⟨p402⟩
  | 3 => ⟨p403⟩
  | 4 => ⟨p404⟩
  | 5 => ⟨p405⟩
  | 6 => ⟨p406⟩
  | _ => ⟨p407⟩
def cP41 (l : Nat) : Bx (F3 → F0 → F3) := match l with
  | 0 => ⟨p410⟩
  | 1 => ⟨p411⟩
  | 2 => ⟨p412⟩
  | 3 => ⟨p413⟩
  | 4 => ⟨p414⟩
  | 5 => ⟨p415⟩
  | 6 => ⟨p416⟩
  | _ => ⟨p417⟩
def cP42 (l : Nat) : Bx (F3 → F0 → F3) := match l with
  | 0 => ⟨p420⟩
  | 1 => ⟨p421⟩
  | 2 => ⟨p422⟩
  | 3 => ⟨p423⟩
  | 4 => ⟨p424⟩
  | 5 => ⟨p425⟩
  | 6 => ⟨p426⟩
  | _ => ⟨p427⟩
def cP43 (l : Nat) : Bx (F3 → F0 → F3) := match l with
  | 0 => ⟨p430⟩
  | 1 => ⟨p431⟩
  | 2 => ⟨p432⟩
  | 3 => ⟨p433⟩
  | 4 => ⟨p434⟩
  | 5 => ⟨p435⟩
  | 6 => ⟨p436⟩
  | _ => ⟨p437⟩
def cP44 (l : Nat) : Bx (F3 → F0 → F3) := match l with
  | 0 => ⟨p440⟩
  | 1 => ⟨p441⟩
  | 2 => ⟨p442⟩
  | 3 => ⟨p443⟩
  | 4 => ⟨p444⟩
  | 5 => ⟨p445⟩
  | 6 => ⟨p446⟩
  | _ => ⟨p447⟩
def cP45 (l : Nat) : Bx (F3 → F0 → F3) := match l with
  | 0 => ⟨p450⟩
  | 1 => ⟨p451⟩
  | 2 => ⟨p452⟩
  | 3 => ⟨p453⟩
  | 4 => ⟨p454⟩
  | 5 => ⟨p455⟩
  | 6 => ⟨p456⟩
  | _ => ⟨p457⟩
def cP46 (l : Nat) : Bx (F3 → F0 → F3) := match l with
  | 0 => ⟨p460⟩
  | 1 => ⟨p461⟩
  | 2 => ⟨p462⟩
  | 3 => ⟨p463⟩
  | 4 => ⟨p464⟩
  | 5 => ⟨p465⟩
  | 6 => ⟨p466⟩
  | _ => ⟨p467⟩
def cP47 (l : Nat) : Bx (F3 → F0 → F3) := match l with
  | 0 => ⟨p470⟩
  | 1 => ⟨p471⟩
  | 2 => ⟨p472⟩
  | 3 => ⟨p473⟩
  | 4 => ⟨p474⟩
  | 5 => ⟨p475⟩
  | 6 => ⟨p476⟩
  | _ => ⟨p477⟩
def cP4 (j l : Nat) : Bx (F3 → F0 → F3) := match j with
  | 0 => cP40 l
  | 1 => cP41 l
  | 2 => cP42 l
  | 3 => cP43 l
  | 4 => cP44 l
  | 5 => cP45 l
  | 6 => cP46 l
  | _ => cP47 l
def cP50 (l : Nat) : Bx (F3 → F0 → F3) := match l with
  | 0 => ⟨p500⟩
  | 1 => ⟨p501⟩
  | 2 => ⟨p502⟩
  | 3 => ⟨p503⟩
  | 4 => ⟨p504⟩
  | 5 => ⟨p505⟩
  | 6 => ⟨p506⟩
  | _ => ⟨p507⟩
def cP51 (l : Nat) : Bx (F3 → F0 → F3) := match l with
  | 0 => ⟨p510⟩
  | 1 => ⟨p511⟩
  | 2 => ⟨p512⟩
  | 3 => ⟨p513⟩
  | 4 => ⟨p514⟩
  | 5 => ⟨p515⟩
  | 6 => ⟨p516⟩
  | _ => ⟨p517⟩
def cP52 (l : Nat) : Bx (F3 → F0 → F3) := match l with
  | 0 => ⟨p520⟩
  | 1 => ⟨p521⟩
  | 2 => ⟨p522⟩
  | 3 => ⟨p523⟩
  | 4 => ⟨p524⟩
  | 5 => ⟨p525⟩
  | 6 => ⟨p526⟩
  | _ => ⟨p527⟩
def cP53 (l : Nat) : Bx (F3 → F0 → F3) := match l with
  | 0 => ⟨p530⟩
  | 1 => ⟨p531⟩
  | 2 => ⟨p532⟩
  | 3 => ⟨p533⟩
  | 4 => ⟨p534⟩
  | 5 => ⟨p535⟩
  | 6 => ⟨p536⟩
  | _ => ⟨p537⟩
def cP54 (l : Nat) : Bx (F3 → F0 → F3) := match l with
  | 0 => ⟨p540⟩
  | 1 => ⟨p541⟩
  | 2 => ⟨p542⟩
  | 3 => ⟨p543⟩
  | 4 => ⟨p544⟩
  | 5 => ⟨p545⟩
  | 6 => ⟨p546⟩
  | _ => ⟨p547⟩
def cP55 (l : Nat) : Bx (F3 → F0 → F3) := match l with
  | 0 => ⟨p550⟩
  | 1 => ⟨p551⟩
  | 2 => ⟨p552⟩
  | 3 => ⟨p553⟩
  | 4 => ⟨p554⟩
  | 5 => ⟨p555⟩
  | 6 => ⟨p556⟩
  | _ => ⟨p557⟩
def cP56 (l : Nat) : Bx (F3 → F0 → F3) := match l with
  | 0 => ⟨p560⟩
  | 1 => ⟨p561⟩
  | 2 => ⟨p562⟩
  | 3 => ⟨p563⟩
  | 4 => ⟨p564⟩
  | 5 => ⟨p565⟩
  | 6 => ⟨p566⟩
  | _ => ⟨p567⟩
def cP57 (l : Nat) : Bx (F3 → F0 → F3) := match l with
  | 0 => ⟨p570⟩
  | 1 => ⟨p571⟩
  | 2 => ⟨p572⟩
  | 3 => ⟨p573⟩
  | 4 => ⟨p574⟩
  | 5 => ⟨p575⟩
  | 6 => ⟨p576⟩
  | _ => ⟨p577⟩
def cP5 (j l : Nat) : Bx (F3 → F0 → F3) := match j with
  | 0 => cP50 l
  | 1 => cP51 l
  | 2 => cP52 l
  | 3 => cP53 l
  | 4 => cP54 l
  | 5 => cP55 l
  | 6 => cP56 l
  | _ => cP57 l
def cP60 (l : Nat) : Bx (F3 → F0 → F3) := match l with
  | 0 => ⟨p600⟩
  | 1 => ⟨p601⟩
  | 2 => ⟨p602⟩
  | 3 => ⟨p603⟩
  | 4 => ⟨p604⟩
  | 5 => ⟨p605⟩
  | 6 => ⟨p606⟩
  | _ => ⟨p607⟩
def cP61 (l : Nat) : Bx (F3 → F0 → F3) := match l with
  | 0 => ⟨p610⟩
  | 1 => ⟨p611⟩
  | 2 => ⟨p612⟩
  | 3 => ⟨p613⟩
  | 4 => ⟨p614⟩
  | 5 => ⟨p615⟩
  | 6 => ⟨p616⟩
  | _ => ⟨p617⟩
def cP62 (l : Nat) : Bx (F3 → F0 → F3) := match l with
  | 0 => ⟨p620⟩
  | 1 => ⟨p621⟩
  | 2 => ⟨p622⟩
  | 3 => ⟨p623⟩
  | 4 => ⟨p624⟩
  | 5 => ⟨p625⟩
  | 6 => ⟨p626⟩
  | _ => ⟨p627⟩
def cP63 (l : Nat) : Bx (F3 → F0 → F3) := match l with
  | 0 => ⟨p630⟩
  | 1 => ⟨p631⟩
  | 2 => ⟨p632⟩
  | 3 => ⟨p633⟩
  | 4 => ⟨p634⟩
  | 5 => ⟨p635⟩
  | 6 => ⟨p636⟩
  | _ => ⟨p637⟩
def cP64 (l : Nat) : Bx (F3 → F0 → F3) := match l with
  | 0 => ⟨p640⟩
  | 1 => ⟨p641⟩
  | 2 => ⟨p642⟩
  | 3 => ⟨p643⟩
  | 4 => ⟨p644⟩
  | 5 => ⟨p645⟩
  | 6 => ⟨p646⟩
  | _ => ⟨p647⟩
def cP65 (l : Nat) : Bx (F3 → F0 → F3) := match l with
  | 0 => ⟨p650⟩
  | 1 => ⟨p651⟩
  | 2 => ⟨p652⟩
  | 3 => ⟨p653⟩
  | 4 => ⟨p654⟩
  | 5 => ⟨p655⟩
  | 6 => ⟨p656⟩
  | _ => ⟨p657⟩
def cP66 (l : Nat) : Bx (F3 → F0 → F3) := match l with
  | 0 => ⟨p660⟩
  | 1 => ⟨p661⟩
  | 2 => ⟨p662⟩
  | 3 => ⟨p663⟩
  | 4 => ⟨p664⟩
  | 5 => ⟨p665⟩
  | 6 => ⟨p666⟩
  | _ => ⟨p667⟩
def cP67 (l : Nat) : Bx (F3 → F0 → F3) := match l with
  | 0 => ⟨p670⟩
  | 1 => ⟨p671⟩
  | 2 => ⟨p672⟩
  | 3 => ⟨p673⟩
  | 4 => ⟨p674⟩
  | 5 => ⟨p675⟩
  | 6 => ⟨p676⟩
  | _ => ⟨p677⟩
def cP6 (j l : Nat) : Bx (F3 → F0 → F3) := match j with
  | 0 => cP60 l
  | 1 => cP61 l
  | 2 => cP62 l
  | 3 => cP63 l
  | 4 => cP64 l
  | 5 => cP65 l
  | 6 => cP66 l
  | _ => cP67 l
def cP70 (l : Nat) : Bx (F3 → F0 → F3) := match l with
  | 0 => ⟨p700⟩
  | 1 => ⟨p701⟩
  | 2 => ⟨p702⟩
  | 3 => ⟨p703⟩
  | 4 => ⟨p704⟩
  | 5 => ⟨p705⟩
  | 6 => ⟨p706⟩
  | _ => ⟨p707⟩
def cP71 (l : Nat) : Bx (F3 → F0 → F3) := match l with
  | 0 => ⟨p710⟩
  | 1 => ⟨p711⟩
  | 2 => ⟨p712⟩
  | 3 => ⟨p713⟩
  | 4 => ⟨p714⟩
  | 5 => ⟨p715⟩
  | 6 => ⟨p716⟩
  | _ => ⟨p717⟩
def cP72 (l : Nat) : Bx (F3 → F0 → F3) := match l with
  | 0 => ⟨p720⟩
  | 1 => ⟨p721⟩
  | 2 => ⟨p722⟩
  | 3 => ⟨p723⟩
  | 4 => ⟨p724⟩
  | 5 => ⟨p725⟩
  | 6 => ⟨p726⟩
  | _ => ⟨p727⟩
def cP73 (l : Nat) : Bx (F3 → F0 → F3) := match l with
  | 0 => ⟨p730⟩
  | 1 => ⟨p731⟩
  | 2 => ⟨p732⟩
  | 3 => ⟨p733⟩
  | 4 => ⟨p734⟩
  | 5 => ⟨p735⟩
  | 6 => ⟨p736⟩
  | _ => ⟨p737⟩
def cP74 (l : Nat) : Bx (F3 → F0 → F3) := match l with
  | 0 => ⟨p740⟩
  | 1 => ⟨p741⟩
  | 2 => ⟨p742⟩
  | 3 => ⟨p743⟩
  | 4 => ⟨p744⟩
  | 5 => ⟨p745⟩
  | 6 => ⟨p746⟩
  | _ => ⟨p747⟩
def cP75 (l : Nat) : Bx (F3 → F0 → F3) := match l with
  | 0 => ⟨p750⟩
  | 1 => ⟨p751⟩
  | 2 => ⟨p752⟩
  | 3 => ⟨p753⟩
  | 4 => ⟨p754⟩
  | 5 => ⟨p755⟩
  | 6 => ⟨p756⟩
  | _ => ⟨p757⟩
def cP76 (l : Nat) : Bx (F3 → F0 → F3) := match l with
  | 0 => ⟨p760⟩
  | 1 => ⟨p761⟩
  | 2 => ⟨p762⟩
  | 3 => ⟨p763⟩
  | 4 => ⟨p764⟩
  | 5 => ⟨p765⟩
  | 6 => ⟨p766⟩
  | _ => ⟨p767⟩
def cP77 (l : Nat) : Bx (F3 → F0 → F3) := match l with
  | 0 => ⟨p770⟩
  | 1 => ⟨p771⟩
  | 2 => ⟨p772⟩
  | 3 => ⟨p773⟩
  | 4 => ⟨p774⟩
  | 5 => ⟨p775⟩
  | 6 => ⟨p776⟩
  | _ => ⟨p777⟩
def cP7 (j l : Nat) : Bx (F3 → F0 → F3) := match j with
  | 0 => cP70 l
  | 1 => cP71 l
  | 2 => cP72 l
  | 3 => cP73 l
  | 4 => cP74 l
  | 5 => cP75 l
  | 6 => cP76 l
  | _ => cP77 l
def cP (i j l : Nat) : Bx (F3 → F0 → F3) := match i with
  | 0 => cP0 j l
  | 1 => cP1 j l
  | 2 => cP2 j l
  | 3 => cP3 j l
  | 4 => cP4 j l
  | 5 => cP5 j l
  | 6 => cP6 j l
  | _ => cP7 j l
def gW (_ : F3) : F0 := w0
def cGet (k : Nat) : Bx (F3 → F0) := bsel (Nat.blt k 512) ⟨gW⟩ (cG (Nat.div k 64) (Nat.mod (Nat.div k 8) 8) (Nat.mod k 8))
abbrev PutF : Type := F3 → F0 → F3
def cPut (k : Nat) : Bx PutF := cP (Nat.div k 64) (Nat.mod (Nat.div k 8) 8) (Nat.mod k 8)
end
end Go.Ev
