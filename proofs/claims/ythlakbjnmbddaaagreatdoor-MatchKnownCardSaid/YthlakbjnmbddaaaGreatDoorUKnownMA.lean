/- Merged texts, part of the proof KnownM: T, ParL, Bits, Rdr, Wr, PrL, Shelf, Wt, Nx, Kb, Ma, Sem, Layer, Mach, OpenN, Same, Lent, Mb, Mm, LentN, KeptN, CheckN. -/
import Derived.WalkKit
import Derived.Laws.Entries
import Derived.Laws.BitsAllLaws
import Derived.Test.YthlakbjnmbddaaaGreatDoorRows
import Derived.Deep.LoopGhost
import Derived.Lib.Hide
import Derived.Lib.Strings
import Derived.Laws.OwnMore
import Derived.Lib.Builder
import Derived.Lib.AppendStr
import Derived.Lib.UnsafeStr
import Derived.Shelf.Strings.Builder1
import Derived.Laws.AppendOwn
import Derived.Maps.AppendAt
import Derived.Laws.Externs
import Derived.Shelf.Small.Strs
import Derived.Shelf.Strconv.Itoa0
import Derived.Shelf.Strconv.Itoa1
import Derived.Shelf.LaysM
import Derived.Shelf.Strconv.Itoa2
import Derived.Shelf.Strconv.Itoa3
import Derived.Shelf.Strings.Search1
import Derived.Shelf.Strings.Search2
import Derived.Shelf.Strings.Cut
import Derived.Shelf.Strings.Shaped
import Derived.Test.YthlakbjnmbddaaaGreatDoorProg
import Derived.Lib.LaidTab
import Derived.Lib.AppendIntMem
import Derived.Deep.DeepCutAuto
import Derived.Deep.RegionHeld3
import Derived.BigRegion
import Derived.Great.BuildSlice
import Derived.Laws.IdiomStrings
import Derived.IntWalk
import Derived.Deep.RegionLaw
import Derived.Deep.QuietTactic
import Derived.BigQuiet
import Derived.ProofKit
import Derived.OpenShut
import Derived.ChangeOld
import Derived.SizedLaws
import Derived.Deep.Slices
import Derived.Deep.Fields
set_option linter.unusedVariables false
set_option linter.unusedSimpArgs false
set_option maxRecDepth 100000
set_option maxHeartbeats 16000000
namespace Go.Proofs.YthlakbjnmbddaaaGreatDoor
open Lib (hid)
open Go.RowKit
theorem nal {w : World} {o : Obj} : Below w.heap.size w (w.alloc o) := (Below.refl _ _).alloc (Nat.le_refl _) _
theorem cM {p : Nat → Prop} (h : ∀ o, p o) : p 0 ∧ p 1 ∧ p 2 ∧ p 3 ∧ p 4 ∧ p 5 ∧ p 6 ∧ p 7 := ⟨h 0, h 1, h 2, h 3, h 4, h 5, h 6, h 7⟩
inductive T where
 | mk (k s0 s1 s2 s3 mn mx : Int) (ps : List T)
deriving Inhabited
namespace T
open Lib (hid)
def k : T → Int | .mk k _ _ _ _ _ _ _ => k
def s0 : T → Int | .mk _ s _ _ _ _ _ _ => s
def s1 : T → Int | .mk _ _ s _ _ _ _ _ => s
def s2 : T → Int | .mk _ _ _ s _ _ _ _ => s
def s3 : T → Int | .mk _ _ _ _ s _ _ _ => s
def mn : T → Int | .mk _ _ _ _ _ m _ _ => m
def mx : T → Int | .mk _ _ _ _ _ _ m _ => m
def ps : T → List T | .mk _ _ _ _ _ _ _ p => p
theorem eta (t : T) : t = .mk t.k t.s0 t.s1 t.s2 t.s3 t.mn t.mx t.ps := by cases t; rfl
theorem tS {p t : T} (h : p ∈ t.ps) : SizeOf.sizeOf p < SizeOf.sizeOf t := by
 cases t with
 | mk k s0 s1 s2 s3 mn mx ps =>
  have := List.sizeOf_lt_of_mem (show p ∈ ps from h)
  simp only [T.mk.sizeOf_spec]
  omega
theorem ind {motive : T → Prop} (h : ∀ t, (∀ p ∈ t.ps, motive p) → motive t) (t : T) : motive t :=
 h t fun p hp => ind h p
termination_by SizeOf.sizeOf t
decreasing_by exact tS hp
end T
abbrev aB (t : T) (A : Option Addr) (c : Nat) : Value :=
 .agg #[.int .i64 t.k, .int .u64 t.s0, .int .u64 t.s1, .int .u64 t.s2, .int .u64 t.s3, .int .i64 t.mn, .int .i64 t.mx, .slice A t.ps.length c]
structure At8 (w : World) (b o : Nat) (t : T) (A : Option Addr) (c : Nat) : Prop where
 f0 : w.cell? ⟨b, o, none⟩ = some (.int .i64 t.k)
 f1 : w.cell? ⟨b, o + 1, none⟩ = some (.int .u64 t.s0)
 f2 : w.cell? ⟨b, o + 2, none⟩ = some (.int .u64 t.s1)
 f3 : w.cell? ⟨b, o + 3, none⟩ = some (.int .u64 t.s2)
 f4 : w.cell? ⟨b, o + 4, none⟩ = some (.int .u64 t.s3)
 f5 : w.cell? ⟨b, o + 5, none⟩ = some (.int .i64 t.mn)
 f6 : w.cell? ⟨b, o + 6, none⟩ = some (.int .i64 t.mx)
 f7 : w.cell? ⟨b, o + 7, none⟩ = some (.slice A t.ps.length c)
theorem At8.mono {w w' : World} {b o : Nat} {t : T} {A : Option Addr} {c : Nat} (h : At8 w b o t A c) (hk : ∀ o, w'.cell? ⟨b, o, none⟩ = w.cell? ⟨b, o, none⟩) : At8 w' b o t A c :=
 ⟨(hk _).trans h.f0, (hk _).trans h.f1, (hk _).trans h.f2, (hk _).trans h.f3, (hk _).trans h.f4, (hk _).trans h.f5, (hk _).trans h.f6, (hk _).trans h.f7⟩
inductive NodeAt (w : World) (ok : Nat → Prop) : T → Option Addr → Nat → Prop where
 | mk (t : T) (A : Option Addr) (c : Nat) (As : Nat → Option Addr) (cs : Nat → Nat) :
  t.ps.length ≤ c → t.ps.length ≤ 17592186044416 →
  (t.ps ≠ [] → ∃ b o, A = some ⟨b, o, none⟩ ∧ ok b ∧ ∀ i p, t.ps[i]? = some p → At8 w b (o + i * 8) p (As i) (cs i)) →
  (∀ i p, t.ps[i]? = some p → NodeAt w ok p (As i) (cs i)) →
  NodeAt w ok t A c
theorem NodeAt.mono {w w' : World} {ok ok' : Nat → Prop} (hk : ∀ b, ok b → ok' b ∧ ∀ o, w'.cell? ⟨b, o, none⟩ = w.cell? ⟨b, o, none⟩) {t : T} {A : Option Addr} {c : Nat} (h : NodeAt w ok t A c) : NodeAt w' ok' t A c := by
 induction h with
 | mk t A c As cs hc hl ha hp ih =>
  refine .mk t A c As cs hc hl (fun hne => ?_) ih
  obtain ⟨b, o, e, hb, hcell⟩ := ha hne
  exact ⟨b, o, e, (hk b hb).1, fun i p hi => (hcell i p hi).mono (hk b hb).2⟩
theorem NodeAt.later {w w' : World} {ok : Nat → Prop} {B : Nat} (hb : Below B w w') (hok : ∀ b, ok b → b < B) {t : T} {A : Option Addr} {c : Nat} (h : NodeAt w ok t A c) : NodeAt w' ok t A c :=
 h.mono fun b hk => ⟨hk, fun _ => hb.cell (p := ⟨b, _, none⟩) (hok b hk)⟩
theorem NodeAt.part {w : World} {ok : Nat → Prop} {t : T} {A : Option Addr} {c : Nat} (h : NodeAt w ok t A c) (hne : 0 < t.ps.length) :
 ∃ b o, A = some ⟨b, o, none⟩ ∧ ok b ∧ ∀ i (hi : i < t.ps.length), ∃ A' c', At8 w b (o + i * 8) t.ps[i] A' c' ∧ NodeAt w ok t.ps[i] A' c' := by
 cases h with
 | mk _ _ _ As cs hc hl ha hp =>
  obtain ⟨b, o, e, hb, hcell⟩ := ha (fun e => by simp [e] at hne)
  exact ⟨b, o, e, hb, fun i hi => ⟨_, _, hcell i _ (List.getElem?_eq_getElem hi), hp i _ (List.getElem?_eq_getElem hi)⟩⟩
theorem NodeAt.cap {w : World} {ok : Nat → Prop} {t : T} {A : Option Addr} {c : Nat} (h : NodeAt w ok t A c) : t.ps.length ≤ c := by cases h; assumption
theorem NodeAt.len {w : World} {ok : Nat → Prop} {t : T} {A : Option Addr} {c : Nat} (h : NodeAt w ok t A c) : t.ps.length ≤ 17592186044416 := by cases h; assumption
theorem ed {W w1 : World} (hb : Below W.heap.size W w1) : (∀ b o, b < W.heap.size → w1.cell? ⟨b, o, none⟩ = W.cell? ⟨b, o, none⟩) ∧ (∀ b o, b < W.heap.size → w1.frozen? ⟨b, o, none⟩ = W.frozen? ⟨b, o, none⟩) :=
 ⟨fun b o h => hb.cell (p := ⟨b, o, none⟩) h, fun b o h => hb.frozen (p := ⟨b, o, none⟩) h⟩
theorem bI {α : Type} {l : List α} {j : Nat} (h : j < l.length) : l.drop j = l[j] :: l.drop (j + 1) := List.drop_eq_getElem_cons h
abbrev Bs := List UInt8
structure W4 where
 a : Int
 b : Int
 c : Int
 d : Int
def w40 : W4 := ⟨0, 0, 0, 0⟩
def W4.T (s : W4) : T := .mk 1 s.a s.b s.c s.d 0 0 []
def orI (x y : Int) : Int := bits .or .u64 x y
def W4.add (s : W4) (c : Nat) : W4 :=
 if c < 64 then { s with a := orI s.a (2 ^ c) } else if c < 128 then { s with b := orI s.b (2 ^ (c - 64)) } else if c < 192 then { s with c := orI s.c (2 ^ (c - 128)) } else { s with d := orI s.d (2 ^ (c - 192)) }
def W4.or (s x : W4) : W4 := ⟨orI s.a x.a, orI s.b x.b, orI s.c x.c, orI s.d x.d⟩
def oc (x : Int) : Int := 18446744073709551615 - x
def W4.not (s : W4) : W4 := ⟨oc s.a, oc s.b, oc s.c, oc s.d⟩
def W4.span (s : W4) (from_ n : Nat) : W4 := (List.range' from_ n).foldl W4.add s
def dq (p : Nat → Bool) : W4 := (List.range 256).foldl (fun s c => if p c then s.add c else s) w40
def aq (s r : Bs) : Option Bs := if s.isPrefixOf r then some (r.drop s.length) else none
def cS (c : UInt8) : Bool := decide (48 ≤ c.toNat) && decide (c.toNat ≤ 57)
def aD : Nat → Int → Nat → Bs → Int × Nat × Bs
 | 0, n, w, r => (n, w, r)
 | _ + 1, n, w, [] => (n, w, [])
 | k + 1, n, w, c :: t => if cS c then aD k (10 * n + (c.toNat - 48)) (w + 1) t else (n, w, c :: t)
def aw (r : Bs) : Except Int (Int × Bs) :=
 if (aD 4 0 0 r).2.1 = 0 ∨ 3 < (aD 4 0 0 r).2.1 ∨ 255 < (aD 4 0 0 r).1 then .error 105 else .ok ((aD 4 0 0 r).1, (aD 4 0 0 r).2.2)
def aj (r : Bs) : Except Int (Int × Int × Bs) :=
 match aw r with
 | .error e => .error e
 | .ok (m, r1) =>
  match aq [125] r1 with
  | some r2 => .ok (m, m, r2)
  | none =>
   match aq [44, 125] r1 with
   | some r2 => .ok (m, -1, r2)
   | none =>
    match aq [44] r1 with
    | none => .error 105
    | some r2 =>
     match aw r2 with
     | .error e => .error e
     | .ok (n, r3) =>
      if n < m then .error 105 else
      match aq [125] r3 with
      | some r4 => .ok (m, n, r4)
      | none => .error 105
def be (sign : UInt8) (r : Bs) : Except Int (Nat × Bs) :=
 match r with
 | [] => .error 101
 | c :: t => match aq [sign, 93] t with
  | some r1 => .ok (c.toNat, r1)
  | none => .error 101
def aS (r : Bs) : Except Int (Nat × Bs) :=
 match aq [91, 46] r with
 | some r1 => be 46 r1
 | none => match r with
  | [] => .error 101
  | c :: t => .ok (c.toNat, t)
def ew (name : Bs) : Option W4 :=
 if name = [97, 108, 112, 104, 97] then some ((w40.span 65 26).span 97 26)
 else if name = [117, 112, 112, 101, 114] then some (w40.span 65 26)
 else if name = [108, 111, 119, 101, 114] then some (w40.span 97 26)
 else if name = [100, 105, 103, 105, 116] then some (w40.span 48 10)
 else if name = [97, 108, 110, 117, 109] then some (((w40.span 65 26).span 97 26).span 48 10)
 else if name = [120, 100, 105, 103, 105, 116] then some (((w40.span 48 10).span 65 6).span 97 6)
 else if name = [115, 112, 97, 99, 101] then some ((w40.span 9 5).add 32)
 else if name = [98, 108, 97, 110, 107] then some ((w40.add 9).add 32)
 else if name = [99, 110, 116, 114, 108] then some ((w40.span 0 32).add 127)
 else if name = [103, 114, 97, 112, 104] then some (w40.span 33 94)
 else if name = [112, 114, 105, 110, 116] then some (w40.span 32 95)
 else if name = [112, 117, 110, 99, 116] then some ((((w40.span 33 15).span 58 7).span 91 6).span 123 4)
 else none
def fX : Bs → Option (Bs × Bs)
 | [] => none
 | c :: t => match aq [58, 93] (c :: t) with
  | some r => some ([], r)
  | none => match fX t with
   | some (a, b) => some (c :: a, b)
   | none => none
def cr (s : W4) (r : Bs) : Except Int (W4 × Bs) :=
 match fX r with
 | none => .error 101
 | some (name, r1) => match ew name with
  | none => .error 103
  | some x => .ok (s.or x, r1)
def co (s : W4) (from_ : Nat) (r : Bs) : Except Int (W4 × Bs) :=
 match aq [45] r, aq [45, 93] r with
 | some r1, none =>
  if (aq [91, 58] r1).isSome || (aq [91, 61] r1).isSome then .error 101 else
  match aS r1 with
  | .error e => .error e
  | .ok (to_, r2) => if to_ < from_ then .error 102 else .ok (s.span from_ (to_ + 1 - from_), r2)
 | _, _ => .ok (s.add from_, r)
def bD (s : W4) (r : Bs) : Except Int (W4 × Bs) :=
 match aq [91, 58] r with
 | some r1 => cr s r1
 | none => match aq [91, 61] r with
  | some r1 => match be 61 r1 with
   | .error e => .error e
   | .ok (c, r2) => .ok (s.add c, r2)
  | none => match aS r with
   | .error e => .error e
   | .ok (c, r1) => co s c r1
def aU : Nat → W4 → Bs → Except Int (W4 × Bs)
 | 0, _, _ => .error 101
 | k + 1, s, r => match bD s r with
  | .error e => .error e
  | .ok (s', r1) => match aq [93] r1 with
   | some r2 => .ok (s', r2)
   | none => aU k s' r1
def bf (r : Bs) : Except Int (W4 × Bs) :=
 match aq [94] r with
 | some r1 => match aU (r1.length + 1) w40 r1 with
  | .error e => .error e
  | .ok (s, r2) => .ok (s.not, r2)
 | none => aU (r.length + 1) w40 r
abbrev PT := Except Int (T × Bs)
def aN (grp : Bs → PT) (r : Bs) : PT :=
 match r with
 | [] => .error 104
 | c :: t =>
  if c = 40 then grp t
  else if c = 94 then .ok (.mk 2 0 0 0 0 0 0 [], t)
  else if c = 36 then .ok (.mk 3 0 0 0 0 0 0 [], t)
  else if c = 91 then match bf t with
   | .error e => .error e
   | .ok (s, r1) => .ok (s.T, r1)
  else if c = 46 then .ok ((w40.span 0 256).T, t)
  else if c = 42 ∨ c = 43 ∨ c = 63 ∨ c = 123 then .error 104
  else if c = 92 then match t with
   | [] => .error 106
   | x :: t' => .ok ((w40.add x.toNat).T, t')
  else .ok ((w40.add c.toNat).T, t)
def cO (m n : Int) (t : T) : T := .mk 6 0 0 0 0 m n [t]
def cG : Nat → T → Bs → PT
 | 0, n, r => .ok (n, r)
 | k + 1, n, r =>
  match aq [42] r with
  | some r1 => cG k (cO 0 (-1) n) r1
  | none => match aq [43] r with
   | some r1 => cG k (cO 1 (-1) n) r1
   | none => match aq [63] r with
    | some r1 => cG k (cO 0 1 n) r1
    | none => match aq [123] r with
     | some r1 => match aj r1 with
      | .error e => .error e
      | .ok (m, x, r2) => cG k (cO m x n) r2
     | none => .ok (n, r)
def aT (grp : Bs → PT) (r : Bs) : PT :=
 match aN grp r with
 | .error e => .error e
 | .ok (n, r1) => cG (r1.length + 1) n r1
def ce : Bs → Bool
 | [] => true
 | c :: _ => c == 124 || c == 41
def aI (grp : Bs → PT) : Nat → List T → Bs → Except Int (List T × Bs)
 | 0, l, r => .ok (l, r)
 | k + 1, l, r => if ce r then .ok (l, r) else match aT grp r with
  | .error e => .error e
  | .ok (n, r1) => aI grp k (l ++ [n]) r1
def bW (k : Int) (l : List T) : T :=
 match l with
 | [] => .mk 0 0 0 0 0 0 0 []
 | [n] => n
 | _ => .mk k 0 0 0 0 0 0 l
def dL (grp : Bs → PT) (r : Bs) : PT :=
 match aI grp (r.length + 1) [] r with
 | .error e => .error e
 | .ok (l, r1) => .ok (bW 4 l, r1)
def bX (grp : Bs → PT) : Nat → List T → Bs → Except Int (List T × Bs)
 | 0, l, r => .ok (l, r)
 | k + 1, l, r => match aq [124] r with
  | none => .ok (l, r)
  | some r1 => match dL grp r1 with
   | .error e => .error e
   | .ok (n, r2) => bX grp k (l ++ [n]) r2
def av (grp : Bs → PT) (r : Bs) : PT :=
 match dL grp r with
 | .error e => .error e
 | .ok (n, r1) => match bX grp (r1.length + 1) [n] r1 with
  | .error e => .error e
  | .ok (l, r2) => .ok (bW 5 l, r2)
def aE : Nat → Bs → PT
 | 0, _ => .error 3
 | d + 1, r => match av (aE d) r with
  | .error e => .error e
  | .ok (n, r1) => match aq [41] r1 with
   | some r2 => .ok (n, r2)
   | none => .error 100
def aY (s : Bs) : Except Int T :=
 if 1024 < s.length then .error 3 else
 match av (aE 64) s with
 | .error e => .error e
 | .ok (n, []) => .ok n
 | .ok (_, _ :: _) => .error 100
def lL (x : Int) : Prop := 0 ≤ x ∧ x < 18446744073709551616
structure Wok (s : W4) : Prop where
 a : lL s.a
 b : lL s.b
 c : lL s.c
 d : lL s.d
def W4.at (s : W4) (c : Nat) : Int := if c < 64 then s.a else if c < 128 then s.b else if c < 192 then s.c else s.d
def W4.has (s : W4) (c : Nat) : Bool := (s.at c).toNat.testBit (c % 64)
theorem Wok.at {s : W4} (h : Wok s) (c : Nat) : lL (s.at c) := by
 unfold W4.at; split
 · exact h.a
 split
 · exact h.b
 split
 · exact h.c
 · exact h.d
theorem mM : Wok w40 := ⟨⟨by decide, by decide⟩, ⟨by decide, by decide⟩, ⟨by decide, by decide⟩, ⟨by decide, by decide⟩⟩
theorem zu (c : Nat) : w40.has c = false := by
 have : w40.at c = 0 := by unfold W4.at w40; split <;> (try rfl); split <;> (try rfl); split <;> rfl
 unfold W4.has; rw [this]; simp
theorem iA {k : Nat} (h : k < 64) : lL (2 ^ k) := by
 have h1 : (2 : Nat) ^ k < 2 ^ 64 := Nat.pow_lt_pow_right (by omega) h
 have e : ((2 : Int) ^ k) = ((2 ^ k : Nat) : Int) := by push_cast; rfl
 rw [e]
 generalize (2 : Nat) ^ k = p at *
 exact ⟨by omega, by omega⟩
theorem wF {x y : Int} (hx : lL x) (hy : lL y) : orI x y = ((x.toNat ||| y.toNat : Nat) : Int) := u64_or x y hx.1 hx.2 hy.1 hy.2
theorem iC {x y : Int} (hx : lL x) (hy : lL y) : lL (orI x y) := by
 rw [wF hx hy]
 have : x.toNat ||| y.toNat < 2 ^ 64 := Nat.or_lt_two_pow (by have := hx.2; omega) (by have := hy.2; omega)
 exact ⟨by omega, by omega⟩
theorem lV {x y : Int} (hx : lL x) (hy : lL y) (k : Nat) : (orI x y).toNat.testBit k = (x.toNat.testBit k || y.toNat.testBit k) := by
 rw [wF hx hy, Int.toNat_natCast, Nat.testBit_or]
theorem lU (k j : Nat) : ((2 : Int) ^ k).toNat.testBit j = decide (k = j) := by
 have e : ((2 : Int) ^ k) = ((2 ^ k : Nat) : Int) := by push_cast; rfl
 rw [e, Int.toNat_natCast, Nat.testBit_two_pow]
theorem jl {x : Int} (hx : lL x) : lL (oc x) := by unfold oc; have := hx.1; have := hx.2; exact ⟨by omega, by omega⟩
theorem gC {x : Int} (hx : lL x) (k : Nat) (hk : k < 64) : (oc x).toNat.testBit k = !x.toNat.testBit k := by
 have h0 := hx.1; have h1 := hx.2
 have e : (oc x).toNat = 2 ^ 64 - (x.toNat + 1) := by unfold oc; omega
 rw [e, Nat.testBit_two_pow_sub_succ (by omega)]
 simp [hk]
theorem gr {x y : Int} (hx : lL x) (hy : lL y) (h : ∀ k, k < 64 → x.toNat.testBit k = y.toNat.testBit k) : x = y := by
 have : x.toNat = y.toNat := by
  refine Nat.eq_of_testBit_eq fun k => ?_
  rcases Nat.lt_or_ge k 64 with hk | hk
  · exact h k hk
  · have h1 : x.toNat < 2 ^ k := Nat.lt_of_lt_of_le (by have := hx.2; omega) (Nat.pow_le_pow_right (n := 2) (by omega) hk)
    have h2 : y.toNat < 2 ^ k := Nat.lt_of_lt_of_le (by have := hy.2; omega) (Nat.pow_le_pow_right (n := 2) (by omega) hk)
    rw [Nat.testBit_lt_two_pow h1, Nat.testBit_lt_two_pow h2]
 have := hx.1; have := hy.1
 omega
theorem W4.ext' {s t : W4} (hs : Wok s) (ht : Wok t) (h : ∀ c, c < 256 → s.has c = t.has c) : s = t := by
 obtain ⟨a, b, c, d⟩ := s
 obtain ⟨a', b', c', d'⟩ := t
 have e1 : a = a' := gr hs.a ht.a fun k hk => by
  have := h k (by omega)
  simpa [W4.has, W4.at, hk, Nat.mod_eq_of_lt hk] using this
 have e2 : b = b' := gr hs.b ht.b fun k hk => by
  have := h (64 + k) (by omega)
  simpa [W4.has, W4.at, show ¬ 64 + k < 64 by omega, show 64 + k < 128 by omega, show (64 + k) % 64 = k by omega, Nat.mod_eq_of_lt hk] using this
 have e3 : c = c' := gr hs.c ht.c fun k hk => by
  have := h (128 + k) (by omega)
  simpa [W4.has, W4.at, show ¬ 128 + k < 64 by omega, show ¬ 128 + k < 128 by omega, show 128 + k < 192 by omega, show (128 + k) % 64 = k by omega, Nat.mod_eq_of_lt hk] using this
 have e4 : d = d' := gr hs.d ht.d fun k hk => by
  have := h (192 + k) (by omega)
  simpa [W4.has, W4.at, show ¬ 192 + k < 64 by omega, show ¬ 192 + k < 128 by omega, show ¬ 192 + k < 192 by omega, show (192 + k) % 64 = k by omega, Nat.mod_eq_of_lt hk] using this
 subst e1; subst e2; subst e3; subst e4; rfl
theorem iE {s : W4} (h : Wok s) (c : Nat) (hc : c < 256) : Wok (s.add c) := by
 unfold W4.add
 split
 · exact ⟨iC h.a (iA (by omega)), h.b, h.c, h.d⟩
 split
 · exact ⟨h.a, iC h.b (iA (by omega)), h.c, h.d⟩
 split
 · exact ⟨h.a, h.b, iC h.c (iA (by omega)), h.d⟩
 · exact ⟨h.a, h.b, h.c, iC h.d (iA (by omega))⟩
theorem jr {p q : Prop} [Decidable p] [Decidable q] (h : p ↔ q) : decide p = decide q := by simp [h]
theorem sH {s : W4} (h : Wok s) (c x : Nat) (hc : c < 256) (hx : x < 256) : (s.add c).has x = (decide (x = c) || s.has x) := by
 unfold W4.add W4.has W4.at
 by_cases c1 : c < 64
 · rw [if_pos c1]
   by_cases x1 : x < 64
   · simp only [if_pos x1]
     rw [lV h.a (iA (by omega)), lU, Bool.or_comm, jr (show c = x % 64 ↔ x = c by omega)]
   · simp only [if_neg x1]
     rw [show decide (x = c) = false by simp; omega, Bool.false_or]
 rw [if_neg c1]
 by_cases c2 : c < 128
 · rw [if_pos c2]
   by_cases x1 : x < 64
   · simp only [if_pos x1]
     rw [show decide (x = c) = false by simp; omega, Bool.false_or]
   by_cases x2 : x < 128
   · simp only [if_neg x1, if_pos x2]
     rw [lV h.b (iA (by omega)), lU, Bool.or_comm, jr (show c - 64 = x % 64 ↔ x = c by omega)]
   · simp only [if_neg x1, if_neg x2]
     rw [show decide (x = c) = false by simp; omega, Bool.false_or]
 rw [if_neg c2]
 by_cases c3 : c < 192
 · rw [if_pos c3]
   by_cases x1 : x < 64
   · simp only [if_pos x1]
     rw [show decide (x = c) = false by simp; omega, Bool.false_or]
   by_cases x2 : x < 128
   · simp only [if_neg x1, if_pos x2]
     rw [show decide (x = c) = false by simp; omega, Bool.false_or]
   by_cases x3 : x < 192
   · simp only [if_neg x1, if_neg x2, if_pos x3]
     rw [lV h.c (iA (by omega)), lU, Bool.or_comm, jr (show c - 128 = x % 64 ↔ x = c by omega)]
   · simp only [if_neg x1, if_neg x2, if_neg x3]
     rw [show decide (x = c) = false by simp; omega, Bool.false_or]
 · rw [if_neg c3]
   by_cases x1 : x < 64
   · simp only [if_pos x1]
     rw [show decide (x = c) = false by simp; omega, Bool.false_or]
   by_cases x2 : x < 128
   · simp only [if_neg x1, if_pos x2]
     rw [show decide (x = c) = false by simp; omega, Bool.false_or]
   by_cases x3 : x < 192
   · simp only [if_neg x1, if_neg x2, if_pos x3]
     rw [show decide (x = c) = false by simp; omega, Bool.false_or]
   · simp only [if_neg x1, if_neg x2, if_neg x3]
     rw [lV h.d (iA (by omega)), lU, Bool.or_comm, jr (show c - 192 = x % 64 ↔ x = c by omega)]
theorem yU {s t : W4} (h : Wok s) (k : Wok t) : Wok (s.or t) := ⟨iC h.a k.a, iC h.b k.b, iC h.c k.c, iC h.d k.d⟩
theorem wI {s : W4} (h : Wok s) : Wok s.not := ⟨jl h.a, jl h.b, jl h.c, jl h.d⟩
theorem xu {s : W4} (h : Wok s) (x : Nat) : s.not.has x = !s.has x := by
 unfold W4.not W4.has W4.at
 by_cases x1 : x < 64
 · simp only [if_pos x1]; exact gC h.a _ (by omega)
 by_cases x2 : x < 128
 · simp only [if_neg x1, if_pos x2]; exact gC h.b _ (by omega)
 by_cases x3 : x < 192
 · simp only [if_neg x1, if_neg x2, if_pos x3]; exact gC h.c _ (by omega)
 · simp only [if_neg x1, if_neg x2, if_neg x3]; exact gC h.d _ (by omega)
theorem jP : ∀ (l : List Nat) {s : W4}, Wok s → (∀ c ∈ l, c < 256) → Wok (l.foldl W4.add s) ∧ ∀ x, x < 256 → (l.foldl W4.add s).has x = (s.has x || decide (x ∈ l))
 | [], s, h, _ => ⟨h, fun x _ => by simp⟩
 | c :: l, s, h, hl => by
  obtain ⟨h1, h2⟩ := jP l (iE h c (hl c (List.mem_cons_self ..))) (fun x hx => hl x (List.mem_cons_of_mem _ hx))
  refine ⟨h1, fun x hx => ?_⟩
  rw [List.foldl_cons, h2 x hx, sH h c x (hl c (List.mem_cons_self ..)) hx]
  simp only [List.mem_cons, Bool.decide_or]
  cases s.has x <;> simp
theorem gI {s : W4} (h : Wok s) (f n : Nat) (hn : f + n ≤ 256) : Wok (s.span f n) ∧ ∀ x, x < 256 → (s.span f n).has x = (s.has x || (decide (f ≤ x) && decide (x < f + n))) := by
 obtain ⟨h1, h2⟩ := jP (List.range' f n) h (fun c hc => by simp at hc; omega)
 refine ⟨h1, fun x hx => ?_⟩
 rw [W4.span, h2 x hx, jr (show x ∈ List.range' f n ↔ f ≤ x ∧ x < f + n by simp), Bool.decide_and]
def T.w4 (t : T) : W4 := ⟨t.s0, t.s1, t.s2, t.s3⟩
inductive Words : T → Prop where
 | mk (t : T) : Wok t.w4 → (∀ p ∈ t.ps, Words p) → Words t
theorem Words.w {t : T} (h : Words t) : Wok t.w4 := by cases h; assumption
theorem Words.p {t : T} (h : Words t) : ∀ p ∈ t.ps, Words p := by cases h; assumption
theorem sC {s : W4} (h : Wok s) (c : Nat) : s.has c = ((s.at c) / 2 ^ (c % 64) % 2 == 1) := by
 obtain ⟨h0, h1⟩ := h.at c
 unfold W4.has
 generalize s.at c = x at *
 obtain ⟨n, rfl⟩ : ∃ n : Nat, x = n := ⟨x.toNat, by omega⟩
 rw [Int.toNat_natCast, Nat.testBit_eq_decide_div_mod_eq]
 have e : ((n : Int) / 2 ^ (c % 64) % 2) = ((n / 2 ^ (c % 64) % 2 : Nat) : Int) := by push_cast; rfl
 rw [e, Bool.eq_iff_iff, decide_eq_true_eq, beq_iff_eq]
 omega
abbrev bs (r : Bs) : ByteArray := ⟨r.toArray⟩
theorem xM (c : UInt8) (r : Bs) : (bs (c :: r)).extract 1 (r.length + 1) = bs r := by
 rw [Lib.extract_eq]; simp [bs]
theorem xO (r q : Bs) : (bs r).extract q.length r.length = bs (r.drop q.length) := by
 rw [Lib.extract_eq]
 congr 2
 simp only [bs]
 exact List.take_of_length_le (by simp)
theorem xN (r q : Bs) (h : q.length ≤ r.length) : (((bs r).extract 0 q.length).toList == q) = q.isPrefixOf r := by
 have h1 := Lib.hasPrefix_raw (bs r) (bs q)
 have h2 : (bs q).size = q.length := by rw [Lib.size_eq]
 have h3 : (bs r).size = r.length := by rw [Lib.size_eq]
 rw [h2, h3, decide_eq_true h, Bool.true_and] at h1
 have h4 : (bs q).toList = q := by rw [Lib.toList_data]
 rw [h4] at h1
 rw [h1]
 simp [Lib.hasPrefix, bs]
def nZ (q r : Bs) : Bs := if q.isPrefixOf r then r.drop q.length else r
theorem gA {q r : Bs} (h : q.isPrefixOf r = true) : q.length ≤ r.length := (List.isPrefixOf_iff_prefix.1 h).length_le
@[go_sem] theorem zm (c : UInt8) (t : Bs) (h : 0 < (bs (c :: t)).size) : (bs (c :: t))[0]'h = c := rfl
def dc (w : World) : Prop := ∃ m, w.cell? ⟨0, 0, none⟩ = some (.int .i64 m)
theorem dc.lt {w : World} (h : dc w) : 0 < w.heap.size := by obtain ⟨m, h⟩ := h; exact World.block_lt_of_cell? _ _ h
theorem dc.of {w w' : World} (h : dc w) (hb : w'.heap[0]? = w.heap[0]?) : dc w' := by obtain ⟨m, h⟩ := h; exact ⟨m, (World.cell?_of_block (w := w) (a := ⟨0, 0, none⟩) hb).trans h⟩
theorem dc.later {w w' : World} (h : dc w) (hb : Below w.heap.size w w') : dc w' := h.of (hb.block 0 h.lt)
theorem dc.set {w : World} (h : dc w) {p : Nat} (hp : 0 < p) (o : Nat) (v : Value) : dc (w.setCell ⟨p, o, none⟩ v) := h.of (Below.heap_setCell _ _ _ _ (by show 0 ≠ p; omega))
structure Rdr (w : World) (p : Nat) (r : Bs) (op e : Int) : Prop where
 c0 : w.cell? ⟨p, 0, none⟩ = some (.string (bs r))
 c1 : w.cell? ⟨p, 1, none⟩ = some (.int .i64 op)
 c2 : w.cell? ⟨p, 2, none⟩ = some (.int .i64 e)
 z : ∀ o, w.frozen? ⟨p, o, none⟩ = false
 lt : p < w.heap.size
 mx : dc w
 pn : 0 < p
abbrev Off (p : Nat) (w w' : World) : Prop := w.grownBy w' (some p)
theorem Off.refl (p : Nat) (w : World) : Off p w w := ⟨rfl, rfl, rfl, Nat.le_refl _, fun _ _ _ => rfl⟩
theorem Off.trans {p : Nat} {w w1 w2 : World} (h : Off p w w1) (k : Off p w1 w2) : Off p w w2 :=
 ⟨k.os.trans h.os, k.tape.trans h.tape, k.output.trans h.output, Nat.le_trans h.size k.size, fun b hb hn => (k.block b (Nat.lt_of_lt_of_le hb h.size) hn).trans (h.block b hb hn)⟩
theorem Off.below {p B : Nat} {w w' : World} (h : Off p w w') (hB : B ≤ p) (hs : B ≤ w.heap.size) : Below B w w' :=
 ⟨h.os, h.tape, h.output, h.size, fun k hk => h.block k (by omega) (by simp; omega)⟩
theorem Off.of_below {p : Nat} {w w' : World} (h : Below w.heap.size w w') : Off p w w' := ⟨h.os, h.tape, h.output, h.size, fun k hk _ => h.block k hk⟩
theorem Off.cell {p : Nat} {w w' : World} (h : Off p w w') {b o : Nat} (hb : b < w.heap.size) (hn : b ≠ p) : w'.cell? ⟨b, o, none⟩ = w.cell? ⟨b, o, none⟩ := World.cell?_of_block (w := w) (h.block b hb (by simpa using hn))
theorem Off.set {p : Nat} {w w' : World} (h : Off p w w') (o : Nat) (v : Value) : Off p w (w'.setCell ⟨p, o, none⟩ v) :=
 ⟨h.os, h.tape, h.output, by simpa using h.size, fun k hk hn => (Below.heap_setCell _ _ _ _ (by simpa using hn)).trans (h.block k hk hn)⟩
theorem Rdr.later {w w' : World} {p : Nat} {r : Bs} {op e : Int} (h : Rdr w p r op e) (hb : Below w.heap.size w w') : Rdr w' p r op e :=
 ⟨(hb.cell (p := ⟨p, 0, none⟩) h.lt).trans h.c0, (hb.cell (p := ⟨p, 1, none⟩) h.lt).trans h.c1, (hb.cell (p := ⟨p, 2, none⟩) h.lt).trans h.c2, fun o => (hb.frozen (p := ⟨p, o, none⟩) h.lt).trans (h.z o), Nat.lt_of_lt_of_le h.lt hb.size, h.mx.later hb, h.pn⟩
theorem Rdr.set0 {w : World} {p : Nat} {r : Bs} {op e : Int} (h : Rdr w p r op e) (r' : Bs) : Rdr (w.setCell ⟨p, 0, none⟩ (.string (bs r'))) p r' op e :=
 ⟨World.cell?_setCell_same _ _ _ h.c0, (World.cell?_setCell_other _ _ _ _ (by simp)).trans h.c1, (World.cell?_setCell_other _ _ _ _ (by simp)).trans h.c2, fun o => by rw [World.frozen?_setCell]; exact h.z o, by simpa using h.lt, h.mx.set h.pn _ _, h.pn⟩
theorem Rdr.set1 {w : World} {p : Nat} {r : Bs} {op e : Int} (h : Rdr w p r op e) (op' : Int) : Rdr (w.setCell ⟨p, 1, none⟩ (.int .i64 op')) p r op' e :=
 ⟨(World.cell?_setCell_other _ _ _ _ (by simp)).trans h.c0, World.cell?_setCell_same _ _ _ h.c1, (World.cell?_setCell_other _ _ _ _ (by simp)).trans h.c2, fun o => by rw [World.frozen?_setCell]; exact h.z o, by simpa using h.lt, h.mx.set h.pn _ _, h.pn⟩
theorem Rdr.set2 {w : World} {p : Nat} {r : Bs} {op e : Int} (h : Rdr w p r op e) (e' : Int) : Rdr (w.setCell ⟨p, 2, none⟩ (.int .i64 e')) p r op e' :=
 ⟨(World.cell?_setCell_other _ _ _ _ (by simp)).trans h.c0, (World.cell?_setCell_other _ _ _ _ (by simp)).trans h.c1, World.cell?_setCell_same _ _ _ h.c2, fun o => by rw [World.frozen?_setCell]; exact h.z o, by simpa using h.lt, h.mx.set h.pn _ _, h.pn⟩
abbrev Rs := Except Int Bs
def Rs.rest : Rs → Bs
 | .ok r => r
 | .error _ => []
def Rs.no : Rs → Int
 | .ok _ => 0
 | .error e => e
structure RS (w : World) (p : Nat) (op : Int) (s : Rs) : Prop where
 rdr : Rdr w p s.rest op s.no
 ne : ∀ e, s = .error e → e ≠ 0
theorem RS.later {w w' : World} {p : Nat} {op : Int} {s : Rs} (h : RS w p op s) (hb : Below w.heap.size w w') : RS w' p op s := ⟨h.rdr.later hb, h.ne⟩
theorem RS.lt {w : World} {p : Nat} {op : Int} {s : Rs} (h : RS w p op s) : p < w.heap.size := h.rdr.lt
def wR (s : Rs) (x : Int) : Rs := match s with
 | .ok _ => .error x
 | .error e => .error e
def uP (s : Rs) (x : Int) : Nat × Rs := match s with
 | .ok [] => (0, .error x)
 | .ok (c :: t) => (c.toNat, .ok t)
 | .error e => (0, .error e)
def cP (q : Bs) (s : Rs) : Bool × Rs := match s with
 | .ok r => match aq q r with
  | some r' => (true, .ok r')
  | none => (false, .ok r)
 | .error e => (false, .error e)
theorem ci (w : World) (p : Nat) (op : Int) (s : Rs) (x : Int) (hx : x ≠ 0) (h : RS w p op s) :
 Calls Tryz.prog 63 #[.pointer (some ⟨p, 0, none⟩), .int .i64 x] w fun en w' => en = .returned (.tuple #[]) ∧ RS w' p op (wR s x) ∧ Off p w w' := by
 have c0 := h.rdr.c0
 have c2 := h.rdr.c2
 have z0 := h.rdr.z 0
 have z2 := h.rdr.z 2
 cases s with
 | ok r =>
  simp only [Rs.rest, Rs.no] at c0 c2
  have H := hid h; clear h
  go_enter Tryz.func63, Tryz.ntmps63
  go_wp2_with fail
  go_end0
  exact ⟨rfl, ⟨((H.out.rdr.set2 x).set0 []), fun e he => by cases he; exact hx⟩, ((Off.refl p w).set _ _).set _ _⟩
 | error e =>
  have hne := h.ne e rfl
  simp only [Rs.rest, Rs.no] at c0 c2
  have hb : (e == 0) = false := by rw [beq_eq_false_iff_ne]; exact hne
  have H := hid h; clear h hne
  go_enter Tryz.func63, Tryz.ntmps63
  go_wp2_with fail
  go_end0
  exact ⟨rfl, H.out, Off.refl p w⟩
theorem iS (w : World) (p : Nat) (op : Int) (s : Rs) (x : Int) (hx : x ≠ 0) (h : RS w p op s) :
 Calls Tryz.prog 127 #[.pointer (some ⟨p, 0, none⟩), .int .i64 x] w fun en w' => en = .returned (.int .u8 ((uP s x).1 : Nat)) ∧ RS w' p op (uP s x).2 ∧ Off p w w' := by
 have c0 := h.rdr.c0
 have z0 := h.rdr.z 0
 have H := hid h; clear h
 rcases s with e | (_ | ⟨c, t⟩)
 · simp only [Rs.rest] at c0
   go_enter Tryz.func127, Tryz.ntmps127
   go_wp2_with fail
   refine (ci w p op _ x hx H.out).mono ?_
   rintro en w1 ⟨rfl, h1, hb1⟩
   go_wp2_with fail
   go_ret
   exact ⟨rfl, h1, hb1⟩
 · simp only [Rs.rest] at c0
   go_enter Tryz.func127, Tryz.ntmps127
   go_wp2_with fail
   refine (ci w p op _ x hx H.out).mono ?_
   rintro en w1 ⟨rfl, h1, hb1⟩
   go_wp2_with fail
   go_ret
   exact ⟨rfl, h1, hb1⟩
 · simp only [Rs.rest] at c0
   have ht := xM c t
   have hc : (uP (.ok (c :: t)) x).1 = c.toNat := rfl
   rw [hc]
   clear hc
   go_enter Tryz.func127, Tryz.ntmps127
   go_wp2_with fail
   go_ret
   exact ⟨rfl, ⟨H.out.rdr.set0 t, fun e he => by cases he⟩, (Off.refl p w).set _ _⟩
theorem mw (r q : Bs) (w : World) : Calls Tryz.prog 134 #[.string (bs r), .string (bs q)] w fun e w' => e = .returned (.bool (q.isPrefixOf r)) ∧ w' = w := by
 by_cases h : q.length ≤ r.length
 · have hp := xN r q h
   generalize q.isPrefixOf r = b at *
   go_enter Tryz.func134, Tryz.ntmps134
   go_wp2_with fail
   go_ret
   exact ⟨rfl, rfl⟩
 · have hp : q.isPrefixOf r = false := by
    rw [Bool.eq_false_iff]; exact fun h' => h (gA h')
   rw [hp]
   clear hp
   go_enter Tryz.func134, Tryz.ntmps134
   go_wp2_with fail
   go_ret
   exact ⟨rfl, rfl⟩
theorem cK (r q : Bs) (w : World) : Calls Tryz.prog 158 #[.string (bs r), .string (bs q)] w fun e w' => e = .returned (.bool (q.isPrefixOf r)) ∧ w' = w := by
 go_enter Tryz.func158, Tryz.ntmps158
 go_wp2_with fail
 refine (mw r q w).mono ?_
 rintro e w1 ⟨rfl, rfl⟩
 go_wp2_with fail
 go_ret
 exact ⟨rfl, rfl⟩
theorem un (r q : Bs) (w : World) : Calls Tryz.prog 119 #[.string (bs r), .string (bs q)] w fun e w' => e = .returned (.tuple #[.string (bs (nZ q r)), .bool (q.isPrefixOf r)]) ∧ w' = w := by
 cases hp : q.isPrefixOf r
 · have hc : nZ q r = r := by rw [nZ, hp]; rfl
   rw [hc]
   have Hp := hid hp; clear hp hc
   go_enter Tryz.func119, Tryz.ntmps119
   go_wp2_with fail
   refine (mw r q w).mono ?_
   rintro e w1 ⟨rfl, rfl⟩
   rw [Hp.out]
   go_wp2_with fail
   go_ret2
   exact ⟨rfl, rfl⟩
 · have hc : nZ q r = r.drop q.length := by rw [nZ, hp]; rfl
   have hl := gA hp
   have hd := xO r q
   rw [← hc] at hd
   have Hp := hid hp; clear hp hc
   generalize nZ q r = r' at *
   go_enter Tryz.func119, Tryz.ntmps119
   go_wp2_with fail
   refine (mw r q w).mono ?_
   rintro e w1 ⟨rfl, rfl⟩
   rw [Hp.out]
   go_wp2_with fail
   go_ret2
   exact ⟨rfl, rfl⟩
theorem vZ (r q : Bs) (w : World) : Calls Tryz.prog 101 #[.string (bs r), .string (bs q)] w fun e w' => e = .returned (.tuple #[.string (bs (nZ q r)), .bool (q.isPrefixOf r)]) ∧ w' = w := by
 have hc := un r q w
 generalize nZ q r = r' at *
 generalize q.isPrefixOf r = b at *
 have Hc := hid hc; clear hc
 go_enter Tryz.func101, Tryz.ntmps101
 go_wp2_with fail
 refine Hc.out.mono ?_
 rintro e w1 ⟨rfl, rfl⟩
 go_wp2_with fail
 go_ret2
 exact ⟨rfl, rfl⟩
theorem fD (q r : Bs) : cP q (.ok r) = (q.isPrefixOf r, .ok (nZ q r)) := by
 simp only [cP, aq, nZ]
 cases h : q.isPrefixOf r <;> simp [h]
theorem iO (w : World) (p : Nat) (op : Int) (s : Rs) (q : Bs) (hq : q ≠ []) (h : RS w p op s) :
 Calls Tryz.prog 84 #[.pointer (some ⟨p, 0, none⟩), .string (bs q)] w fun en w' => en = .returned (.bool (cP q s).1) ∧ RS w' p op (cP q s).2 ∧ Off p w w' := by
 have c0 := h.rdr.c0
 have z0 := h.rdr.z 0
 have hr : (cP q s).1 = q.isPrefixOf s.rest ∧ RS (w.setCell ⟨p, 0, none⟩ (.string (bs (nZ q s.rest)))) p op (cP q s).2 := by
  cases s with
  | ok r => rw [fD]; exact ⟨rfl, h.rdr.set0 _, fun e he => by cases he⟩
  | error e =>
   have hf : q.isPrefixOf ([] : Bs) = false := by cases q with
    | nil => exact absurd rfl hq
    | cons => rfl
   simp only [Rs.rest, cP, hf, nZ]
   exact ⟨trivial, h.rdr.set0 [], h.ne⟩
 rw [hr.1]
 have Hr := hid hr.2
 clear hr h
 generalize (cP q s).2 = s' at *
 generalize s.rest = r at *
 have hc := vZ r q w
 generalize nZ q r = r' at *
 generalize q.isPrefixOf r = b at *
 have Hc := hid hc; clear hc
 go_enter Tryz.func84, Tryz.ntmps84
 go_wp2_with fail
 refine Hc.out.mono ?_
 rintro en w1 ⟨rfl, rfl⟩
 go_wp2_with fail
 go_ret
 exact ⟨rfl, Hr.out, (Off.refl p _).set _ _⟩
theorem cg {w : World} {p : Nat} {op : Int} {r r' : Bs} (q : Bs) (hq : q ≠ []) (ht : aq q r = some r') (h : RS w p op (.ok r)) :
 Calls Tryz.prog 84 #[.pointer (some ⟨p, 0, none⟩), .string (bs q)] w fun en w' => en = .returned (.bool true) ∧ RS w' p op (.ok r') ∧ Off p w w' := by
 have := iO w p op (.ok r) q hq h
 simpa only [cP, ht] using this
theorem aX {w : World} {p : Nat} {op : Int} {r : Bs} (q : Bs) (hq : q ≠ []) (ht : aq q r = none) (h : RS w p op (.ok r)) :
 Calls Tryz.prog 84 #[.pointer (some ⟨p, 0, none⟩), .string (bs q)] w fun en w' => en = .returned (.bool false) ∧ RS w' p op (.ok r) ∧ Off p w w' := by
 have := iO w p op (.ok r) q hq h
 simpa only [cP, ht] using this
theorem dm {w : World} {p : Nat} {op : Int} {e : Int} (q : Bs) (hq : q ≠ []) (h : RS w p op (.error e)) :
 Calls Tryz.prog 84 #[.pointer (some ⟨p, 0, none⟩), .string (bs q)] w fun en w' => en = .returned (.bool false) ∧ RS w' p op (.error e) ∧ Off p w w' := iO w p op (.error e) q hq h
theorem dd {w : World} {p : Nat} {op : Int} {r : Bs} (x : Int) (hx : x ≠ 0) (h : RS w p op (.ok r)) :
 Calls Tryz.prog 63 #[.pointer (some ⟨p, 0, none⟩), .int .i64 x] w fun en w' => en = .returned (.tuple #[]) ∧ RS w' p op (.error x) ∧ Off p w w' := ci w p op (.ok r) x hx h
theorem gE {w : World} {p : Nat} {op : Int} {e : Int} (x : Int) (hx : x ≠ 0) (h : RS w p op (.error e)) :
 Calls Tryz.prog 63 #[.pointer (some ⟨p, 0, none⟩), .int .i64 x] w fun en w' => en = .returned (.tuple #[]) ∧ RS w' p op (.error e) ∧ Off p w w' := ci w p op (.error e) x hx h
theorem jm {w : World} {p : Nat} {op : Int} {c : UInt8} {t : Bs} (x : Int) (hx : x ≠ 0) (h : RS w p op (.ok (c :: t))) :
 Calls Tryz.prog 127 #[.pointer (some ⟨p, 0, none⟩), .int .i64 x] w fun en w' => en = .returned (.int .u8 c.toNat) ∧ RS w' p op (.ok t) ∧ Off p w w' := iS w p op (.ok (c :: t)) x hx h
theorem iR {w : World} {p : Nat} {op : Int} (x : Int) (hx : x ≠ 0) (h : RS w p op (.ok [])) :
 Calls Tryz.prog 127 #[.pointer (some ⟨p, 0, none⟩), .int .i64 x] w fun en w' => en = .returned (.int .u8 0) ∧ RS w' p op (.error x) ∧ Off p w w' := iS w p op (.ok []) x hx h
theorem vy {w : World} {p : Nat} {op : Int} {e : Int} (x : Int) (hx : x ≠ 0) (h : RS w p op (.error e)) :
 Calls Tryz.prog 127 #[.pointer (some ⟨p, 0, none⟩), .int .i64 x] w fun en w' => en = .returned (.int .u8 0) ∧ RS w' p op (.error e) ∧ Off p w w' := iS w p op (.error e) x hx h
def fS (w : World) (p : Nat) (a : Option Addr) (v : Value) (o d : Int) : Prop := w.heap[p]? = some (.cells #[.pointer a, v, .int .i64 o, .int .i64 d] 78 (0, 0))
theorem fS.lt {w : World} {p : Nat} {a : Option Addr} {v : Value} {o d : Int} (h : fS w p a v o d) : p < w.heap.size := (Array.getElem?_eq_some_iff.1 h).1
theorem fS.cells {w : World} {p : Nat} {a : Option Addr} {v : Value} {o d : Int} (h : fS w p a v o d) : w.cell? ⟨p, 0, none⟩ = some (.pointer a) ∧ w.cell? ⟨p, 1, none⟩ = some v ∧ w.cell? ⟨p, 2, none⟩ = some (.int .i64 o) ∧ w.cell? ⟨p, 3, none⟩ = some (.int .i64 d) :=
 ⟨cell_of_row w p 0 _ _ (0, 0) h, cell_of_row w p 1 _ _ (0, 0) h, cell_of_row w p 2 _ _ (0, 0) h, cell_of_row w p 3 _ _ (0, 0) h⟩
theorem fS.froz {w : World} {p : Nat} {a : Option Addr} {v : Value} {o d : Int} (h : fS w p a v o d) (k : Nat) : w.frozen? ⟨p, k, none⟩ = false := by
 unfold World.frozen?
 rw [show w.heap[(⟨p, k, none⟩ : Addr).block]? = _ from h]
 simp
theorem fS.shape {w : World} {p : Nat} {a : Option Addr} {v : Value} {o d : Int} (h : fS w p a v o d) : w.shape? p = some (78, 4) := by
 have h' : w.heap[p]? = _ := h
 simp [World.shape?, h']
theorem fS.put0 {w : World} {p : Nat} {a : Option Addr} {v : Value} {o d : Int} (h : fS w p a v o d) (a' : Option Addr) : fS (w.setCell ⟨p, 0, none⟩ (.pointer a')) p a' v o d := by
 unfold fS at h ⊢
 simp only [World.setCell, Array.getElem?_modify, ↓reduceIte, h, Option.map_some]
 rfl
theorem fS.put1 {w : World} {p : Nat} {a : Option Addr} {v : Value} {o d : Int} (h : fS w p a v o d) (v' : Value) : fS (w.setCell ⟨p, 1, none⟩ v') p a v' o d := by
 unfold fS at h ⊢
 simp only [World.setCell, Array.getElem?_modify, ↓reduceIte, h, Option.map_some]
 rfl
theorem fS.put2 {w : World} {p : Nat} {a : Option Addr} {v : Value} {o d : Int} (h : fS w p a v o d) (o' : Int) : fS (w.setCell ⟨p, 2, none⟩ (.int .i64 o')) p a v o' d := by
 unfold fS at h ⊢
 simp only [World.setCell, Array.getElem?_modify, ↓reduceIte, h, Option.map_some]
 rfl
theorem fS.put3 {w : World} {p : Nat} {a : Option Addr} {v : Value} {o d : Int} (h : fS w p a v o d) (d' : Int) : fS (w.setCell ⟨p, 3, none⟩ (.int .i64 d')) p a v o d' := by
 unfold fS at h ⊢
 simp only [World.setCell, Array.getElem?_modify, ↓reduceIte, h, Option.map_some]
 rfl
structure Only (p : Nat) (w w' : World) : Prop where
 os : w'.os = w.os
 tape : w'.tape = w.tape
 output : w'.output = w.output
 size : w'.heap.size = w.heap.size
 block : ∀ k, k ≠ p → w'.heap[k]? = w.heap[k]?
theorem Only.refl (p : Nat) (w : World) : Only p w w := ⟨rfl, rfl, rfl, rfl, fun _ _ => rfl⟩
theorem Only.set (p : Nat) (w : World) (o : Nat) (v : Value) : Only p w (w.setCell ⟨p, o, none⟩ v) := ⟨rfl, rfl, rfl, by simp, fun k hk => Below.heap_setCell _ _ _ _ hk⟩
theorem Only.below {p B : Nat} {w w' : World} (h : Only p w w') (hB : B ≤ p) : Below B w w' := ⟨h.os, h.tape, h.output, by rw [h.size]; exact Nat.le_refl _, fun k hk => h.block k (by omega)⟩
theorem zd : Tryz.prog.info? 76 ≠ none := by
 intro h
 have : (Tryz.prog.info? 76).map (·.size) = some 2 := by kernel_rfl
 rw [h] at this; cases this
theorem yV : liesAt Tryz.prog Tryz.prog.depth 78 (4 / Tryz.prog.cellsOf 78) 0 76 1 = true := by kernel_rfl
theorem gX (w : World) (p : Nat) (a : Option Addr) (v : Value) (o d : Int) (h : fS w p a v o d) (ha : a = none ∨ a = some ⟨p, 0, none⟩) :
 Calls Tryz.prog 94 #[.pointer (some ⟨p, 0, none⟩)] w fun e w' => e = .returned (.tuple #[]) ∧ fS w' p (some ⟨p, 0, none⟩) v o d ∧ Only p w w' := by
 obtain ⟨j, hj⟩ := Option.ne_none_iff_exists'.1 zd
 have hjs : j.size = 2 := by
  have : (Tryz.prog.info? 76).map (·.size) = some 2 := by kernel_rfl
  rw [hj] at this; exact Option.some.inj this
 obtain ⟨c0, c1, c2, c3⟩ := h.cells
 have hsh := h.shape
 have f0 := h.froz 0
 have H := hid h; clear h
 have hto : (convert 74 127 (.pointer (some ⟨p, 0, none⟩))).run Tryz.prog w = .ok (.pointer (some ⟨p, 0, none⟩)) w := Lib.run_to_unsafe w ⟨p, 0, none⟩ Tryz.underlying74 Tryz.underlying127 hj (by rw [hjs]; decide) hsh (by show 0 < 4; decide)
 have hfrom : (convert 127 74 (.pointer (some ⟨p, 0, none⟩))).run Tryz.prog w = .ok (.pointer (some ⟨p, 0, none⟩)) w := Lib.run_from_unsafe w ⟨p, 0, none⟩ Tryz.underlying127 Tryz.underlying74 hj hsh yV
 have hne : (callFunc 113 #[.pointer (some ⟨p, 0, none⟩)]).run Tryz.prog w = .ok (.value (.pointer (some ⟨p, 0, none⟩))) w := by
  rw [run_callFunc_extern Tryz.func113 (by kernel_rfl) (by kernel_rfl) (by kernel_rfl) (e := Extern.AbiNoEscape.same) (by kernel_rfl), Lib.run_noEscape]
  rfl
 have hsame := Lib.run_neq_ptr_same w ⟨p, 0, none⟩ Tryz.underlying74 hj
 rcases ha with rfl | rfl
 · go_enter Tryz.func94, Tryz.ntmps94
   go_wp2_with fail
   go_end0
   exact ⟨rfl, H.out.put0 _, Only.set _ _ _ _⟩
 · go_enter Tryz.func94, Tryz.ntmps94
   go_wp2_with fail
   go_end0
   exact ⟨rfl, H.out, Only.refl _ _⟩
def WAt (B p : Nat) (l : Bs) (o d : Int) (w : World) : Prop :=
 B ≤ p ∧ ∃ a v, fS w p a v o d ∧ (a = none ∨ a = some ⟨p, 0, none⟩) ∧ w.ownsRow B 5 1 v l.length (Lib.byteCells l) ∧ (l = [] → v = .slice none 0 0)
theorem WAt.blk {B p : Nat} {l : Bs} {o d : Int} {w : World} (h : WAt B p l o d w) : ∃ a A c, fS w p a (.slice A l.length c) o d ∧ (a = none ∨ a = some ⟨p, 0, none⟩) ∧ w.ownsRow B 5 1 (.slice A l.length c) l.length (Lib.byteCells l) := by
 obtain ⟨_, a, v, hb, ha, ho, _⟩ := h
 rcases ho.2 with ⟨hv, h0⟩ | ⟨g, cap, cur, hv, _⟩
 · subst hv; exact ⟨a, none, 0, by rw [h0]; exact hb, ha, by rw [h0] at ho ⊢; exact ho⟩
 · subst hv; exact ⟨a, some ⟨g, 0, none⟩, cap, hb, ha, ho⟩
theorem iB {w : World} {B p n : Nat} {v : Value} {xs : List Value} {a : Option Addr} {u : Value} {o d : Int} (ho : w.ownsRow B 5 1 v n xs) (hb : fS w p a u o d) : v.ownBlock ≠ some p := by
 rcases ho.2 with ⟨rfl, _⟩ | ⟨g, cap, cur, rfl, _, hg, _⟩
 · simp [Value.ownBlock]
 · intro e
   simp only [Value.ownBlock, Option.some.injEq] at e
   subst e
   have h' : w.heap[g]? = _ := hb
   rw [h'] at hg
   simp at hg
theorem WAt.lt {B p : Nat} {l : Bs} {o d : Int} {w : World} (h : WAt B p l o d w) : p < w.heap.size := by
 obtain ⟨_, a, v, hb, _⟩ := h
 exact hb.lt
theorem ek (B p : Nat) (l : Bs) (o d : Int) (w : World) (h : WAt B p l o d w) :
 Calls Tryz.prog 55 #[.pointer (some ⟨p, 0, none⟩)] w fun e w' => e = .returned (.int .i64 l.length) ∧ w' = w := by
 obtain ⟨a, A, c, hb, _, _⟩ := h.blk
 obtain ⟨_, c1, _, _⟩ := hb.cells
 clear h hb
 go_enter Tryz.func55, Tryz.ntmps55
 go_wp2_with fail
 go_ret
 exact ⟨rfl, rfl⟩
theorem rR : (Tryz.prog.info? 5).map (fun i => (i.zero, i.size, i.bytes)) = some (some (.int .u8 0), 1, 1) := by kernel_rfl
def dk (w : World) (p k : Nat) : Prop := k < w.heap.size ∧ k ≠ p ∧ ∀ v, w.cell? ⟨p, 1, none⟩ = some v → v.ownBlock ≠ some k
def Fr (p : Nat) (w w' : World) : Prop := ∀ k, dk w p k → w'.heap[k]? = w.heap[k]? ∧ dk w' p k
theorem Fr.trans {p : Nat} {w w1 w2 : World} (h : Fr p w w1) (k : Fr p w1 w2) : Fr p w w2 := fun i hi => ⟨((k i (h i hi).2).1).trans (h i hi).1, (k i (h i hi).2).2⟩
theorem Fr.of_below {p : Nat} {w w' : World} (hp : p < w.heap.size) (h : Below w.heap.size w w') : Fr p w w' := fun k hk =>
 ⟨h.block k hk.1, Nat.lt_of_lt_of_le hk.1 h.size, hk.2.1, fun v hv => hk.2.2 v ((h.cell (p := ⟨p, 1, none⟩) hp).symm.trans hv)⟩
theorem yl {P : Program} {w w' : World} {base : Nat} {t u ty e : TypeId} {i : TypeInfo} (ht : P.underlying t = some (.slice e)) (hu : P.underlying u = some .string) (hi : P.info? e = some i) (hz : i.zero = some (.int .u8 0)) (hsize : i.size = 1) (hby : i.bytes = 1)
 {v v' : Value} {n : Nat} {xs : List Value} (hown : w.ownsRow base e 1 v n xs) (s : ByteArray) (h63 : n + s.size ≤ maxLen) (hbytes : n + s.size ≤ 140737488355328)
 (hr : (Builtin.append_ #[t, u] ty #[v, .string s]).run P w = .ok v' w') : ∀ k, v'.ownBlock = some k → v.ownBlock = some k ∨ w.heap.size ≤ k := by
 intro k hk
 have hxl : xs.length = n := by simpa using hown.1
 rcases hown.2 with ⟨rfl, rfl⟩ | ⟨g, cap, cur, rfl, hbg, hg, hnc, hcm, hcs, htake⟩
 · obtain ⟨v2, w2, hr2, h2, _, _⟩ := Lib.run_append_own_string (P := P) w w.heap.size t u ty e i ht hu hi hz hsize hby (.slice none 0 0) 0 [] ⟨rfl, .inl ⟨rfl, rfl⟩⟩ s h63 hbytes (Nat.le_refl _)
   rw [hr] at hr2
   injection hr2 with e1 e2
   subst e1
   exact .inr (h2.lt k hk).1
 · by_cases hroom : n + s.size ≤ cap
   · have hr2 := Lib.run_append_room_string (P := P) w t u ty e i ht hu hi hsize g n cap cur hg s hroom (by omega)
     rw [hr] at hr2
     injection hr2 with e1 e2
     subst e1
     exact .inl hk
   · have holds : ∀ j u, xs[j]? = some u → w.cell? ((⟨g, 0, none⟩ : Addr).add j) = some u := hown.cells (g := g) rfl
     have hr2 := Lib.run_append_grow_string (P := P) w t u ty e i (.int .u8 0) ht hu hi hz ⟨g, 0, none⟩ n cap xs (by rw [hsize]; simpa using hxl) holds s (by omega) (by unfold maxLen at h63; omega) (by rw [hby]; exact growslice_fits (by omega) (by omega))
     rw [hr] at hr2
     injection hr2 with e1 e2
     subst e1
     simp only [Value.ownBlock, Option.some.injEq] at hk
     exact .inr (by omega)
theorem mF {P : Program} (w : World) {ops : Array Oper} {rest : List Oper} {o : Oper} {a : Act} {Q : Exit → Act → World → Prop} (hgd : o.guard = none) (sl x : Operand) (t u : TypeId)
 (ho : o.op = .call { callee := .builtin .append, args := #[sl, x], argTypes := #[t, u] })
 (base : Nat) (e : TypeId) (i : TypeInfo) (ht : P.underlying t = some (.slice e)) (hu : P.underlying u = some .string) (hi : P.info? e = some i) (hz : i.zero = some (.int .u8 0))
 (hsize : i.size = 1) (hby : i.bytes = 1)
 (v : Value) (n : Nat) (xs : List Value) (hs : a.eval sl = v) (hown : w.ownsRow base e 1 v n xs) (s : ByteArray) (hx : a.eval x = .string s)
 (h63 : n + s.size ≤ maxLen) (hbytes : n + s.size ≤ 140737488355328) (hbase : base ≤ w.heap.size)
 (h : ∀ v' w', w'.ownsRow base e 1 v' (n + s.size) (xs ++ Lib.strCells s) → w.grownBy w' v.ownBlock → (∀ k, v'.ownBlock = some k → v.ownBlock = some k ∨ w.heap.size ≤ k) → wpList P ops Q rest (a.put o.dst v') w') : wpList P ops Q (o :: rest) a w := by
 refine wpList_plain hgd fun K hK => ?_
 obtain ⟨v', w', hr, h2, h3, _⟩ := Lib.run_append_own_string (P := P) w base t u o.type e i ht hu hi hz hsize hby v n xs hown s h63 hbytes hbase
 have h5 := yl ht hu hi hz hsize hby hown s h63 hbytes hr
 unfold Oper.wp execOp
 simp only [ho, resolve, invoke, builtin, Sem.run_bind, Sem.run_pure, Result.andThen_ok, List.map_toArray, List.map_cons, List.map_nil, hs, hx, hr]
 exact hK _ _ (h v' w' h2 h3 h5)
theorem yb {p : Nat} {w w1 w2 : World} {A : Option Addr} {n cp : Nat} {v' : Value} {a1 : Option Addr} {o d : Int} {a0 : Option Addr} (hb : fS w p a0 (.slice A n cp) o d) (hO : Only p w w1) (h2 : ∀ k, k < w1.heap.size → k ≠ p → (Value.slice A n cp).ownBlock ≠ some k → w2.heap[k]? = w1.heap[k]?)
 (hb2 : fS w2 p a1 (.slice A n cp) o d) (hz : w1.heap.size ≤ w2.heap.size) (hat : ∀ k, v'.ownBlock = some k → (Value.slice A n cp).ownBlock = some k ∨ w1.heap.size ≤ k) : Fr p w (w2.setCell ⟨p, 1, none⟩ v') := fun k hk => by
 obtain ⟨k1, k2, k3⟩ := hk
 have k3 := k3 _ hb.cells.2.1
 have hs := hO.size
 refine ⟨(Below.heap_setCell _ _ _ _ k2).trans ((h2 k (by omega) k2 k3).trans (hO.block k k2)), by simp; omega, k2, fun u hu e => ?_⟩
 rw [World.cell?_setCell_same _ _ _ hb2.cells.2.1] at hu
 cases hu
 rcases hat k e with h | h
 · exact k3 h
 · omega
theorem bY (B p : Nat) (l : Bs) (o d : Int) (w : World) (h : WAt B p l o d w) (hl : l.length ≤ 1000000) (hBw : B ≤ w.heap.size) (c : UInt8) :
 Calls Tryz.prog 78 #[.pointer (some ⟨p, 0, none⟩), .int .u8 c.toNat] w fun e w' => e = .returned .nilIface ∧ WAt B p (l ++ [c]) o d w' ∧ Below B w w' ∧ Fr p w w' := by
 obtain ⟨i0, hi, hz0, hz1, hz2⟩ := info_parts rR
 obtain ⟨a, A, cp, hb, ha, hown⟩ := h.blk
 have hBp := h.1
 have hb0 := hb
 have Hown := hid hown
 clear h hown
 go_enter Tryz.func78, Tryz.ntmps78
 go_wp2_with fail
 refine (gX w p a _ o d hb ha).mono ?_
 rintro e w1 ⟨rfl, h1, hO⟩
 have hown1 : w1.ownsRow B 5 1 (.slice A l.length cp) l.length (Lib.byteCells l) := Hown.out.kept (row := some p) ⟨hO.os, hO.tape, hO.output, by rw [hO.size]; exact Nat.le_refl _, fun k _ hk => hO.block k (fun e => hk (by rw [e]))⟩ (Or.inr (iB Hown.out hb0))
 have hb1 := hO.below hBp
 obtain ⟨c0, c1, c2, c3⟩ := h1.cells
 have hne := iB hown1 h1
 have H1 := hid h1
 have Hb0 := hid hb0
 clear h1 hb hb0 ha Hown
 go_wp2_with (at_builtin; refine wpList_append_own_at _ rfl _ _ 42 rfl B 5 i0 (.int .u8 0) 1 1 Tryz.underlying42 hi hz0 hz1 hz2 rfl (by decide) _ _ _ rfl (hown1.alloc _) ⟨w1.heap.size, 0, none⟩ 1 1 [.int .u8 c.toNat] rfl rfl ?c1 ?c2 ?c3 ?c4 ?c5 ?_)
 case c1 =>
  intro j u hj
  match j, hj with
  | 0, hj => simp at hj; subst hj; simp [Addr.add]
 case c2 => intro u hu; simp at hu; subst hu; rfl
 case c3 => unfold maxLen; omega
 case c4 => omega
 case c5 => have := hb1.size; simp; omega
 intro v' w2 hown' hgrow _ hat
 have hlt := H1.out.lt
 have h2 : fS w2 p (some ⟨p, 0, none⟩) (.slice A l.length cp) o d := by
  have e1 := hgrow.block p (by simp; omega) (fun e => hne e.symm)
  have e2 := ((Below.refl w1.heap.size w1).alloc (Nat.le_refl _) (.cells #[.int .u8 c.toNat] 5)).block p hlt
  exact (e1.trans e2).trans H1.out
 obtain ⟨d0, d1, d2, d3⟩ := h2.cells
 have f1 := h2.froz 1
 have hB2 : Below B w w2 := (hb1.alloc (by have := hb1.size; omega) _).grown hgrow (by have := hb1.size; simp; omega) (fun k hk => (hown1.lt k hk).1)
 have hfr := yb (v' := v') Hb0.out hO (w2 := w2) (fun k k1 k2 k3 => (hgrow.block k (by simp; omega) (fun e => k3 e.symm)).trans (((Below.refl w1.heap.size w1).alloc (Nat.le_refl _) (.cells #[.int .u8 c.toNat] 5)).block k k1)) h2 (by have := hgrow.size; simp at this; omega) (fun k hk => by
  rcases hat with h | h
  · exact .inl (h ▸ hk)
  · rw [h] at hk; simp at hk; exact .inr (by omega))
 have HF := hid hfr
 clear hfr hat
 obtain ⟨g, cap, rfl⟩ : ∃ g cap, v' = .slice (some ⟨g, 0, none⟩) (l.length + 1) cap := by
  rcases hown'.2 with ⟨_, h0⟩ | ⟨g, cap, cur, hv, _⟩
  · omega
  · exact ⟨g, cap, hv⟩
 have H2 := hid h2; have HB2 := hid hB2; have Ho := hid hown'
 clear h2 hB2 hown' hgrow hown1 hb1 hne H1 hO c0 c1 c2 c3
 go_wp2_with fail
 go_ret
 have hn2 := iB Ho.out H2.out
 refine ⟨rfl, ⟨hBp, _, _, H2.out.put1 _, .inr rfl, ?_, fun h0 => absurd h0 (by simp)⟩, HB2.out.setCell (p := ⟨p, 1, none⟩) hBp _, HF.out⟩
 have hx : w2.ownsRow B 5 1 (.slice (some ⟨g, 0, none⟩) (l.length + 1) cap) (l ++ [c]).length (Lib.byteCells (l ++ [c])) := by
  have := Ho.out
  simpa [Lib.byteCells] using this
 exact hx.kept (row := some p) ⟨rfl, rfl, rfl, by simp, fun k _ hk => Below.heap_setCell _ _ _ _ (fun e => hk (by rw [e]))⟩ (Or.inr hn2)
theorem cV (B p : Nat) (l : Bs) (o d : Int) (w : World) (h : WAt B p l o d w) (hl : l.length ≤ 1000000) (hBw : B ≤ w.heap.size) (s : Bs) (hs : s.length ≤ 1000000) (hs0 : s ≠ []) :
 Calls Tryz.prog 96 #[.pointer (some ⟨p, 0, none⟩), .string (bs s)] w fun e w' => (∃ n : Int, e = .returned (.tuple #[.int .i64 n, .nilIface])) ∧ WAt B p (l ++ s) o d w' ∧ Below B w w' ∧ Fr p w w' := by
 obtain ⟨i0, hi, hz0, hz1, hz2⟩ := info_parts rR
 obtain ⟨a, A, cp, hb, ha, hown⟩ := h.blk
 have hBp := h.1
 have hb0 := hb
 have Hown := hid hown
 have hsz : (bs s).size = s.length := by simp [bs, ByteArray.size]
 clear h hown
 go_enter Tryz.func96, Tryz.ntmps96
 go_wp2_with fail
 refine (gX w p a _ o d hb ha).mono ?_
 rintro e w1 ⟨rfl, h1, hO⟩
 have hown1 : w1.ownsRow B 5 1 (.slice A l.length cp) l.length (Lib.byteCells l) := Hown.out.kept (row := some p) ⟨hO.os, hO.tape, hO.output, by rw [hO.size]; exact Nat.le_refl _, fun k _ hk => hO.block k (fun e => hk (by rw [e]))⟩ (Or.inr (iB Hown.out hb0))
 have hb1 := hO.below hBp
 obtain ⟨c0, c1, c2, c3⟩ := h1.cells
 have hne := iB hown1 h1
 have H1 := hid h1
 have Hb0 := hid hb0
 clear h1 hb hb0 ha Hown
 go_wp2_with (at_builtin; refine mF _ rfl _ _ 42 9 rfl B 5 i0 Tryz.underlying42 Tryz.underlying9 hi hz0 hz1 hz2 _ _ _ rfl hown1 (bs s) rfl ?c3 ?c4 ?c5 ?_)
 case c3 => unfold maxLen; rw [hsz]; omega
 case c4 => rw [hsz]; omega
 case c5 => have := hb1.size; omega
 intro v' w2 hown' hgrow hat
 have hlt := H1.out.lt
 have h2 : fS w2 p (some ⟨p, 0, none⟩) (.slice A l.length cp) o d := (hgrow.block p hlt (fun e => hne e.symm)).trans H1.out
 obtain ⟨d0, d1, d2, d3⟩ := h2.cells
 have f1 := h2.froz 1
 have hB2 : Below B w w2 := hb1.grown hgrow (by have := hb1.size; omega) (fun k hk => (hown1.lt k hk).1)
 have hfr := yb (v' := v') Hb0.out hO (w2 := w2) (fun k k1 k2 k3 => hgrow.block k k1 (fun e => k3 e.symm)) h2 hgrow.size hat
 have HF := hid hfr
 clear hfr hat
 obtain ⟨ao, n', cap, rfl⟩ : ∃ ao n' cap, v' = .slice ao n' cap := by
  rcases hown'.2 with ⟨hv, _⟩ | ⟨g, cap, cur, hv, _⟩
  · exact ⟨_, _, _, hv⟩
  · exact ⟨_, _, _, hv⟩
 have H2 := hid h2; have HB2 := hid hB2; have Ho := hid hown'
 clear h2 hB2 hown' hgrow hown1 hb1 hne H1 hO c0 c1 c2 c3
 go_wp2_with fail
 go_ret2
 have hn2 := iB Ho.out H2.out
 refine ⟨⟨_, rfl⟩, ⟨hBp, _, _, H2.out.put1 _, .inr rfl, ?_, fun h0 => absurd h0 (by simp [hs0])⟩, HB2.out.setCell (p := ⟨p, 1, none⟩) hBp _, HF.out⟩
 have hx : w2.ownsRow B 5 1 (.slice ao n' cap) (l ++ s).length (Lib.byteCells (l ++ s)) := by
  have := Ho.out
  simpa [Lib.byteCells, Lib.strCells, bs, ByteArray.size] using this
 exact hx.kept (row := some p) ⟨rfl, rfl, rfl, by simp, fun k _ hk => Below.heap_setCell _ _ _ _ (fun e => hk (by rw [e]))⟩ (Or.inr hn2)
theorem ux : Tryz.prog.cellsOf 5 = 1 := by kernel_rfl
theorem pk (B p : Nat) (l : Bs) (o d : Int) (w : World) (h : WAt B p l o d w) :
 Calls Tryz.prog 56 #[.pointer (some ⟨p, 0, none⟩)] w fun e w' => e = .returned (.string (bs l)) ∧ Below B w w' := by
 obtain ⟨hBp, a, v, hb, ha, hown, h0⟩ := h
 by_cases hl : l = []
 · have hv := h0 hl
   subst hv
   subst hl
   have c1 : w.drew.cell? ⟨p, 1, none⟩ = some (.slice none 0 0) := hb.cells.2.1
   have c1' : w.cell? ⟨p, 1, none⟩ = some (.slice none 0 0) := hb.cells.2.1
   have hSD : (Builtin.unsafeSliceData_ #[42] 111 #[.slice none 0 0]).run Tryz.prog w.drew = .ok (.pointer none) w.drew := rfl
   have hUS : (Builtin.unsafeString_ #[111, 3] 9 #[.pointer none, .int .i64 0]).run Tryz.prog w.drew = .ok (.string .empty) w.drew := Lib.run_unsafeString_none w.drew _ _ _ none
   clear hb hown h0
   go_enter Tryz.func56, Tryz.ntmps56
   go_wp2_with fail
   go_region
   all_goals
    go_wp2_with fail
    go_ret
    exact ⟨rfl, Below.drew (Below.refl B w)⟩
 · have hl0 : l.length ≠ 0 := by simpa using hl
   obtain ⟨g, cap, cur, rfl, hbg, hg, hnc, hcm, hcs, htake⟩ : ∃ g cap cur, v = .slice (some ⟨g, 0, none⟩) l.length cap ∧ B ≤ g ∧ w.heap[g]? = some (.cells cur 5 (0, 0)) ∧ l.length ≤ cap ∧ cap ≤ maxLen ∧ cur.size = cap * 1 ∧ cur.toList.take (l.length * 1) = Lib.byteCells l := by
    rcases hown.2 with ⟨_, hz⟩ | ⟨g, cap, cur, hv, r⟩
    · exact absurd hz hl0
    · exact ⟨g, cap, cur, hv, r⟩
   have c1 : w.drew.cell? ⟨p, 1, none⟩ = some (.slice (some ⟨g, 0, none⟩) l.length cap) := hb.cells.2.1
   have c1' : w.cell? ⟨p, 1, none⟩ = some (.slice (some ⟨g, 0, none⟩) l.length cap) := hb.cells.2.1
   have hSD : (Builtin.unsafeSliceData_ #[42] 111 #[.slice (some ⟨g, 0, none⟩) l.length cap]).run Tryz.prog w.drew = .ok (.pointer (some ⟨g, 0, none⟩)) w.drew :=
    Lib.run_unsafeSliceData_row _ _ _ _ _ _ (by omega)
   have hUS : (Builtin.unsafeString_ #[111, 3] 9 #[.pointer (some ⟨g, 0, none⟩), .int .i64 l.length]).run Tryz.prog w.drew = .ok (.string (bs l)) (w.drew.freeze ⟨g, 0, none⟩ l.length) := by
    refine Lib.run_unsafeString_row w.drew 111 3 9 5 Tryz.underlying111 ux g cur.size (by have hg' : w.drew.heap[g]? = some (.cells cur 5 (0, 0)) := hg; simp [World.shape?, hg']) l hl (by omega) (by unfold maxLen at hcm; omega) ?_
    intro j x hx
    have := hown.cells (g := g) rfl j (.int .u8 x.toNat) (by simp [Lib.byteCells, hx])
    exact this
   clear hb hown h0 hg htake hcs hcm hnc
   go_enter Tryz.func56, Tryz.ntmps56
   go_wp2_with fail
   go_region
   all_goals
    go_wp2_with fail
    go_ret
    exact ⟨rfl, Lib.below_freeze (Below.drew (Below.refl B w)) (p := ⟨g, 0, none⟩) hbg _⟩
def dt (c : Nat) : Bs := if c = 93 ∨ c = 91 ∨ c = 94 ∨ c = 45 then [91, 46, UInt8.ofNat c, 46, 93] else [UInt8.ofNat c]
def mO (c : Nat) : Bool := decide (c ∈ [92, 94, 46, 91, 36, 40, 41, 124, 42, 43, 63, 123])
def dD : Nat → List Nat → Nat
 | _, [] => 0
 | c, d :: t => if d = c + 1 then 1 + dD d t else 0
def cf : Nat → List Nat → Bs
 | 0, _ => []
 | _ + 1, [] => []
 | k + 1, c :: t => dt c ++ ((if 1 < dD c t then [45] else []) ++ ((if 0 < dD c t then dt (c + dD c t) else []) ++ cf k (t.drop (dD c t))))
def bc (s : W4) : List Nat := (List.range 256).filter s.has
def lK (s : W4) : Bs :=
 if (bc s).length = 256 then [46]
 else if (bc s).length = 0 then [91, 94, 0, 45, 255, 93]
 else if (bc s).length = 1 then (if mO ((bc s).headD 0) then [92, UInt8.ofNat ((bc s).headD 0)] else [UInt8.ofNat ((bc s).headD 0)])
 else [91] ++ (cf (bc s).length (bc s) ++ [93])
def kA (n : Nat) : Bs := if n < 10 then [UInt8.ofNat (48 + n)] else if n < 100 then [UInt8.ofNat (48 + n / 10), UInt8.ofNat (48 + n % 10)] else [UInt8.ofNat (48 + n / 100), UInt8.ofNat (48 + n / 10 % 10), UInt8.ofNat (48 + n % 10)]
def bH (m n : Int) : Bs :=
 if m = 0 ∧ n = -1 then [42] else if m = 1 ∧ n = -1 then [43] else if m = 0 ∧ n = 1 then [63]
 else if m = n then [123] ++ (kA m.toNat ++ [125]) else if n = -1 then [123] ++ (kA m.toNat ++ [44, 125]) else [123] ++ (kA m.toNat ++ ([44] ++ (kA n.toNat ++ [125])))
def iy (so : Bool) (x : Bs) : Bs := if so then [40] ++ (x ++ [41]) else x
def bu (t : T) : Bool := t.k == 0 || t.k == 4 || t.k == 5
mutual
def prT : T → Bs
 | .mk k s0 s1 s2 s3 mn mx ps =>
  if k = 1 then lK ⟨s0, s1, s2, s3⟩ else if k = 2 then [94] else if k = 3 then [36]
  else if k = 4 then cl ps else if k = 5 then lN ps else if k = 6 then gn ps ++ bH mn mx else []
def cl : List T → Bs
 | [] => []
 | p :: ps => iy (bu p) (prT p) ++ cl ps
def lN : List T → Bs
 | [] => []
 | p :: ps => iy (p.k == 5) (prT p) ++ gZ ps
def gZ : List T → Bs
 | [] => []
 | p :: ps => [124] ++ (iy (p.k == 5) (prT p) ++ gZ ps)
def gn : List T → Bs
 | [] => []
 | p :: _ => iy (bu p) (prT p)
end
theorem dQ (t : T) : prT t = if t.k = 1 then lK t.w4 else if t.k = 2 then [94] else if t.k = 3 then [36]
 else if t.k = 4 then cl t.ps else if t.k = 5 then lN t.ps else if t.k = 6 then gn t.ps ++ bH t.mn t.mx else [] := by cases t; rw [prT]; rfl
mutual
def ca : T → Nat
 | .mk k _ _ _ _ _ _ ps => if k = 4 then bC ps else if k = 5 then de ps else if k = 6 then dN ps else 0
def bC : List T → Nat
 | [] => 0
 | p :: ps => max (ca p + (if bu p then 1 else 0)) (bC ps)
def de : List T → Nat
 | [] => 0
 | p :: ps => max (ca p + (if p.k == 5 then 1 else 0)) (de ps)
def dN : List T → Nat
 | [] => 0
 | p :: _ => ca p + (if bu p then 1 else 0)
end
theorem dM (t : T) : ca t = if t.k = 4 then bC t.ps else if t.k = 5 then de t.ps else if t.k = 6 then dN t.ps else 0 := by cases t; rw [ca]; rfl
theorem b8 {c : Nat} (h : c < 256) : (UInt8.ofNat c).toNat = c := by simp [UInt8.toNat_ofNat']; omega
theorem mQ {c k : Nat} (h : c < 256) (hk : k < 256) : UInt8.ofNat c = UInt8.ofNat k ↔ c = k := by
 constructor
 · intro e
   have := congrArg UInt8.toNat e
   rwa [b8 h, b8 hk] at this
 · rintro rfl; rfl
theorem dT (q : Bs) (hq : q ≠ []) : aq q [] = none := by
 cases q with
 | nil => exact absurd rfl hq
 | cons a q => rfl
theorem bg (a : UInt8) (q : Bs) (c : UInt8) (r : Bs) : aq (a :: q) (c :: r) = if a = c then aq q r else none := by
 unfold aq
 by_cases h : a = c
 · subst h; simp [List.isPrefixOf]
 · simp [List.isPrefixOf, h]
theorem eH (r : Bs) : aq [] r = some r := by unfold aq; simp [List.isPrefixOf]
theorem aH (a c : UInt8) (r : Bs) : aq [a] (c :: r) = if a = c then some r else none := by rw [bg]; simp [eH]
theorem yd {c : Nat} (hc : c < 256) : (91 : UInt8) = UInt8.ofNat c ↔ c = 91 := by
 rw [show (91 : UInt8) = UInt8.ofNat 91 from rfl, mQ (by omega) hc]; exact ⟨fun h => h.symm, fun h => h.symm⟩
theorem zf {c : Nat} (hc : c < 256) : (93 : UInt8) = UInt8.ofNat c ↔ c = 93 := by
 rw [show (93 : UInt8) = UInt8.ofNat 93 from rfl, mQ (by omega) hc]; exact ⟨fun h => h.symm, fun h => h.symm⟩
theorem zg {c : Nat} (hc : c < 256) : (45 : UInt8) = UInt8.ofNat c ↔ c = 45 := by
 rw [show (45 : UInt8) = UInt8.ofNat 45 from rfl, mQ (by omega) hc]; exact ⟨fun h => h.symm, fun h => h.symm⟩
theorem ze {c : Nat} (hc : c < 256) : (94 : UInt8) = UInt8.ofNat c ↔ c = 94 := by
 rw [show (94 : UInt8) = UInt8.ofNat 94 from rfl, mQ (by omega) hc]; exact ⟨fun h => h.symm, fun h => h.symm⟩
theorem lk {c : Nat} (hc : c < 256) (r : Bs) : (dt c ++ r = 91 :: 46 :: UInt8.ofNat c :: 46 :: 93 :: r) ∨ (dt c ++ r = UInt8.ofNat c :: r ∧ c ≠ 91 ∧ c ≠ 93 ∧ c ≠ 45 ∧ c ≠ 94) := by
 unfold dt
 split
 · exact .inl rfl
 · exact .inr ⟨rfl, by omega, by omega, by omega, by omega⟩
theorem fp {c : Nat} (hc : c < 256) (r : Bs) : aq [93] (dt c ++ r) = none ∧ aq [45] (dt c ++ r) = none ∧ aq [94] (dt c ++ r) = none ∧ aq [91, 58] (dt c ++ r) = none ∧ aq [91, 61] (dt c ++ r) = none := by
 rcases lk hc r with e | ⟨e, h1, h2, h3, h4⟩
 · rw [e]
   simp [bg]
 · rw [e]
   have h5 := yd hc; have h6 := zf hc; have h7 := zg hc; have h8 := ze hc
   simp only [bg]
   rw [if_neg (fun e => h2 (h6.1 e)), if_neg (fun e => h3 (h7.1 e)), if_neg (fun e => h4 (h8.1 e)), if_neg (fun e => h1 (h5.1 e)), if_neg (fun e => h1 (h5.1 e))]
   exact ⟨rfl, rfl, rfl, rfl, rfl⟩
theorem jC {c : Nat} (hc : c < 256) (r : Bs) : aS (dt c ++ r) = .ok (c, r) := by
 rcases lk hc r with e | ⟨e, h1, h2, h3, h4⟩
 · rw [e, aS]
   simp only [bg, if_true, eH, be, b8 hc]
 · rw [e, aS]
   have h5 := yd hc
   simp only [bg]
   rw [if_neg (fun e => h1 (h5.1 e))]
   simp only [b8 hc]
theorem mr {c : Nat} (hc : c < 256) (s : W4) (r : Bs) (hr : aq [45] r = none) : bD s (dt c ++ r) = .ok (s.add c, r) := by
 obtain ⟨_, _, _, h4, h5⟩ := fp hc r
 rw [bD, h4, h5]
 simp only [jC hc]
 rw [co, hr]
theorem lw {a b : Nat} (ha : a < 256) (hb : b < 256) (hab : a ≤ b) (s : W4) (r : Bs) : bD s (dt a ++ (45 :: (dt b ++ r))) = .ok (s.span a (b + 1 - a), r) := by
 obtain ⟨_, _, _, h4, h5⟩ := fp ha (45 :: (dt b ++ r))
 obtain ⟨g1, _, _, g4, g5⟩ := fp hb r
 rw [bD, h4, h5]
 simp only [jC ha]
 rw [co, aH, bg, if_pos rfl, if_pos rfl, g1]
 simp only [g4, g5, jC hb]
 simp only [Option.isSome, Bool.or_false, Bool.false_eq_true, if_false]
 rw [if_neg (by omega)]
theorem lR : ∀ (c : Nat) (t : List Nat), dD c t ≤ t.length
 | _, [] => by rw [dD]; simp
 | c, d :: t => by rw [dD]; split; (have := lR d t; simp; omega); simp
theorem nh : ∀ (c : Nat) (t : List Nat), t.take (dD c t) = List.range' (c + 1) (dD c t)
 | _, [] => by rw [dD]; simp
 | c, d :: t => by
  rw [dD]
  split
  · rename_i h
    subst h
    rw [Nat.add_comm 1, List.take_succ_cons, nh (c + 1) t, List.range'_succ]
  · simp
theorem mp (x : Nat) : 1 ≤ (dt x).length := by unfold dt; split <;> simp
theorem jv {k : Nat} {l : List Nat} (hl : l.length ≤ k) (h : ∀ x ∈ l, x < 256) (r : Bs) : (l = [] ∧ cf k l ++ 93 :: r = 93 :: r) ∨ (l ≠ [] ∧ aq [93] (cf k l ++ 93 :: r) = none ∧ aq [45] (cf k l ++ 93 :: r) = none ∧ aq [94] (cf k l ++ 93 :: r) = none) := by
 cases l with
 | nil => exact .inl ⟨rfl, by cases k <;> rfl⟩
 | cons y q =>
  obtain ⟨k, rfl⟩ : ∃ k', k = k' + 1 := ⟨k - 1, by simp at hl; omega⟩
  have hh := fp (h y (List.mem_cons_self ..)) (((if 1 < dD y q then [45] else []) ++ ((if 0 < dD y q then dt (y + dD y q) else []) ++ cf k (q.drop (dD y q)))) ++ 93 :: r)
  rw [cf, List.append_assoc]
  exact .inr ⟨by simp, hh.1, hh.2.1, hh.2.2.1⟩
theorem nf : ∀ (k : Nat) (l : List Nat) (s : W4) (r : Bs) (m : Nat), l ≠ [] → l.length ≤ k → (cf k l ++ (93 :: r)).length ≤ m → (∀ x ∈ l, x < 256) → aU m s (cf k l ++ (93 :: r)) = .ok (l.foldl W4.add s, r)
 | 0, l, s, r, m, hne, hk, hm, hl => by
  have : l = [] := List.eq_nil_of_length_eq_zero (by omega)
  exact absurd this hne
 | k + 1, [], s, r, m, hne, _, _, _ => absurd rfl hne
 | k + 1, c :: t, s, r, m, _, hk, hm, hl => by
  have hc : c < 256 := hl c (List.mem_cons_self ..)
  have hrn := lR c t
  have htk := nh c t
  have hdrop : t = List.range' (c + 1) (dD c t) ++ t.drop (dD c t) := by rw [← htk]; exact (List.take_append_drop _ _).symm
  have hlast : c + dD c t < 256 := by
   rcases Nat.eq_zero_or_pos (dD c t) with h | h
   · omega
   · exact hl _ (List.mem_cons_of_mem _ (List.mem_of_mem_take (i := dD c t) (by rw [htk, List.mem_range'_1]; omega)))
  have hrest : ∀ x ∈ t.drop (dD c t), x < 256 := fun x hx => hl x (List.mem_cons_of_mem _ (List.mem_of_mem_drop hx))
  have hfold : (c :: t).foldl W4.add s = (t.drop (dD c t)).foldl W4.add (s.span c (dD c t + 1)) := by
   conv => lhs; rw [List.foldl_cons, hdrop, List.foldl_append]
   rw [W4.span, List.range'_succ, List.foldl_cons]
  rw [hfold]
  rw [cf] at hm ⊢
  simp only [List.length_cons] at hk
  generalize hn : dD c t = n at *
  have hTk : (t.drop n).length ≤ k := by rw [List.length_drop]; omega
  generalize t.drop n = T' at *
  have tail : ∀ (m' : Nat) (s' : W4), (cf k T' ++ (93 :: r)).length ≤ m' → (match aq [93] (cf k T' ++ (93 :: r)) with | some r2 => (.ok (s', r2) : Except Int (W4 × Bs)) | none => aU m' s' (cf k T' ++ (93 :: r))) = .ok (T'.foldl W4.add s', r) := fun m' s' hm' => by
   rcases jv hTk hrest r with ⟨rfl, e⟩ | ⟨hne, e, _⟩
   · rw [e, aH, if_pos rfl]; rfl
   · rw [e]; exact nf k T' s' r m' hne hTk hm' hrest
  have t45 : aq [45] (cf k T' ++ (93 :: r)) = none := by
   rcases jv hTk hrest r with ⟨rfl, e⟩ | ⟨_, _, e, _⟩
   · rw [e, aH, if_neg (by decide)]
   · exact e
  have hp := mp c
  simp only [List.append_assoc, List.length_append] at hm ⊢
  simp only [List.length_append] at tail
  rcases (by omega : n = 0 ∨ n = 1 ∨ 2 ≤ n) with h | h | h
  · subst h
    simp only [Nat.lt_irrefl, if_false, List.nil_append, show ¬ (1 < 0) by omega, List.length_nil, Nat.zero_add] at hm ⊢
    obtain ⟨m, rfl⟩ : ∃ m', m = m' + 1 := ⟨m - 1, by omega⟩
    rw [aU, mr hc s _ t45]
    exact tail m _ (by omega)
  · subst h
    have hp2 := mp (c + 1)
    simp only [Nat.lt_irrefl, if_false, List.nil_append, Nat.zero_lt_one, if_true, List.length_nil, Nat.zero_add] at hm ⊢
    obtain ⟨m, rfl⟩ : ∃ m', m = m' + 2 := ⟨m - 2, by omega⟩
    obtain ⟨g1, g2, _⟩ := fp (c := c + 1) (by omega) (cf k T' ++ 93 :: r)
    rw [aU, mr hc s _ g2]
    simp only [g1]
    rw [aU, mr (by omega) (s.add c) _ t45]
    exact tail m _ (by omega)
  · have hp2 := mp (c + n)
    simp only [if_pos (show 1 < n by omega), if_pos (show 0 < n by omega), List.cons_append, List.nil_append] at hm ⊢
    obtain ⟨m, rfl⟩ : ∃ m', m = m' + 1 := ⟨m - 1, by simp only [List.length_append, List.length_cons] at hm; omega⟩
    rw [aU, lw hc hlast (by omega) s]
    simp only [show c + n + 1 - c = n + 1 by omega]
    exact tail m _ (by simp only [List.length_append, List.length_cons] at hm ⊢; omega)
theorem eG (s : W4) : ∀ x ∈ bc s, x < 256 := fun x hx => by unfold bc at hx; rw [List.mem_filter, List.mem_range] at hx; exact hx.1
theorem lJ (s : W4) (x : Nat) : x ∈ bc s ↔ x < 256 ∧ s.has x = true := by unfold bc; rw [List.mem_filter, List.mem_range]
theorem nH (s : W4) : (bc s).length ≤ 256 := by
 have := List.length_filter_le s.has (List.range 256)
 simpa [bc] using this
theorem lB {s : W4} (h : Wok s) : (bc s).foldl W4.add w40 = s := by
 obtain ⟨h1, h2⟩ := jP (bc s) mM (eG s)
 refine W4.ext' h1 h fun c hc => ?_
 rw [h2 c hc, zu, Bool.false_or, Bool.eq_iff_iff, decide_eq_true_eq, lJ]
 exact ⟨fun h => h.2, fun h => ⟨hc, h⟩⟩
theorem uJ {s : W4} (h : Wok s) (hl : (bc s).length = 256) : s = w40.span 0 256 := by
 obtain ⟨h1, h2⟩ := gI mM 0 256 (by omega)
 refine W4.ext' h h1 fun c hc => ?_
 have ha := List.length_filter_eq_length_iff.1 (show ((List.range 256).filter s.has).length = (List.range 256).length by simpa [bc] using hl)
 rw [h2 c hc, ha c (List.mem_range.2 hc)]
 simp [hc]
theorem vx {s : W4} (h : Wok s) (hl : (bc s).length = 0) : (w40.span 0 256).not = s := by
 obtain ⟨h1, h2⟩ := gI mM 0 256 (by omega)
 refine W4.ext' (wI h1) h fun c hc => ?_
 rw [xu h1, h2 c hc]
 have hn : bc s = [] := List.eq_nil_of_length_eq_zero hl
 have : s.has c = false := by
  cases hh : s.has c with
  | false => rfl
  | true => have := (lJ s c).2 ⟨hc, hh⟩; rw [hn] at this; cases this
 rw [this]
 simp [hc]
theorem uZ {s : W4} (h : Wok s) (grp : Bs → PT) (r : Bs) : aN grp (lK s ++ r) = .ok (s.T, r) := by
 unfold lK
 split
 · rename_i h1
   simp only [List.cons_append, List.nil_append, aN]
   rw [uJ h h1]
   simp
 split
 · rename_i h1
   simp only [List.cons_append, List.nil_append, aN]
   simp only [show ¬ ((91 : UInt8) = 40) by decide, show ¬ ((91 : UInt8) = 94) by decide, show ¬ ((91 : UInt8) = 36) by decide, if_true, if_false]
   have hb : bf (94 :: 0 :: 45 :: 255 :: 93 :: r) = .ok ((w40.span 0 256).not, r) := by
    rw [bf, aH, if_pos rfl]
    have := lw (a := 0) (b := 255) (by omega) (by omega) (by omega) w40 (93 :: r)
    rw [show dt 0 ++ 45 :: (dt 255 ++ 93 :: r) = 0 :: 45 :: 255 :: 93 :: r by rfl] at this
    simp only
    rw [aU, this]
    simp only [aH, if_true]
   rw [hb, vx h h1]
 split
 · rename_i h1
   obtain ⟨c, hc⟩ := List.length_eq_one_iff.1 h1
   have hcl : c < 256 := eG s c (by rw [hc]; simp)
   have hf := lB h
   have hh : (bc s).headD 0 = c := by rw [hc]; rfl
   rw [hc] at hf
   simp only [List.foldl_cons, List.foldl_nil] at hf
   rw [hh]
   by_cases hs : mO c = true
   · rw [if_pos hs]
     simp only [List.cons_append, List.nil_append, aN]
     simp only [show ¬ ((92 : UInt8) = 40) by decide, show ¬ ((92 : UInt8) = 94) by decide, show ¬ ((92 : UInt8) = 36) by decide, show ¬ ((92 : UInt8) = 91) by decide, show ¬ ((92 : UInt8) = 46) by decide, show ¬ ((92 : UInt8) = 42 ∨ (92 : UInt8) = 43 ∨ (92 : UInt8) = 63 ∨ (92 : UInt8) = 123) by decide, if_true, if_false]
     rw [b8 hcl, hf]
   · rw [if_neg hs]
     have hs : ¬ c ∈ [92, 94, 46, 91, 36, 40, 41, 124, 42, 43, 63, 123] := by simpa [mO] using hs
     simp only [List.mem_cons, List.not_mem_nil, or_false, not_or] at hs
     have ne : ∀ k, k < 256 → c ≠ k → UInt8.ofNat c ≠ UInt8.ofNat k := fun k hk hn e => hn ((mQ hcl hk).1 e)
     simp only [List.cons_append, List.nil_append, aN]
     rw [if_neg (show UInt8.ofNat c ≠ 40 from ne 40 (by omega) (by omega)), if_neg (show UInt8.ofNat c ≠ 94 from ne 94 (by omega) (by omega)), if_neg (show UInt8.ofNat c ≠ 36 from ne 36 (by omega) (by omega)), if_neg (show UInt8.ofNat c ≠ 91 from ne 91 (by omega) (by omega)), if_neg (show UInt8.ofNat c ≠ 46 from ne 46 (by omega) (by omega)),
      if_neg (fun e => e.elim (show UInt8.ofNat c ≠ 42 from ne 42 (by omega) (by omega)) (fun e => e.elim (show UInt8.ofNat c ≠ 43 from ne 43 (by omega) (by omega)) (fun e => e.elim (show UInt8.ofNat c ≠ 63 from ne 63 (by omega) (by omega)) (show UInt8.ofNat c ≠ 123 from ne 123 (by omega) (by omega))))), if_neg (show UInt8.ofNat c ≠ 92 from ne 92 (by omega) (by omega)), b8 hcl, hf]
 · rename_i h0 h1 h2
   have hne : bc s ≠ [] := fun e => h1 (by rw [e]; rfl)
   have hrd := fun m (hm : (cf (bc s).length (bc s) ++ (93 :: r)).length ≤ m) => nf (bc s).length (bc s) w40 r m hne (Nat.le_refl _) hm (eG s)
   simp only [List.cons_append, List.nil_append, List.append_assoc, aN]
   simp only [show ¬ ((91 : UInt8) = 40) by decide, show ¬ ((91 : UInt8) = 94) by decide, show ¬ ((91 : UInt8) = 36) by decide, if_true, if_false]
   have hb : bf (cf (bc s).length (bc s) ++ 93 :: r) = .ok (s, r) := by
    rcases jv (Nat.le_refl _) (eG s) r with ⟨e, _⟩ | ⟨_, _, _, e⟩
    · exact absurd e hne
    · rw [bf, e]
      simp only
      rw [hrd _ (by omega), lB h]
   rw [hb]
end Go.Proofs.YthlakbjnmbddaaaGreatDoor
namespace Go.Proofs
open Lib (hid)
open Go.Shelf
def Tryz.lays137_ren : Go.Shelf.Ren := ⟨fun | 137 => 97 | 217 => 115 | 266 => 125 | n => n, fun | 9 => 9 | 5 => 5 | 3 => 3 | n => n, fun | n => n⟩
theorem Tryz.lays137 : Go.Proofs.Lays.n137 Tryz.prog Tryz.lays137_ren := {
 mixed := by kernel_rfl
 f137 := Tryz.func97.trans (congrArg some (by kernel_rfl))
 f217 := Tryz.func115.trans (congrArg some (by kernel_rfl))
 f266 := Tryz.func125.trans (congrArg some (by kernel_rfl))
 t3 := Tryz.underlying3
 a3 := Tryz.isAgg3
 z3 := Tryz.sizeOf3
 v3 := Tryz.zeroValue3
 t5 := Tryz.underlying5
 a5 := Tryz.isAgg5
 z5 := Tryz.sizeOf5
 v5 := Tryz.zeroValue5
 t9 := Tryz.underlying9
 a9 := Tryz.isAgg9
 z9 := Tryz.sizeOf9
 v9 := Tryz.zeroValue9 }
open Go.RowKit in
theorem Tryz.strings_IndexByte (s : ByteArray) (c : Int) (w : World) :
 Calls Tryz.prog 97 #[.string s, .int .u8 c] w fun e w' => e = .returned (.int .i64 (Lib.indexByte s.data.toList c.toNat.toUInt8)) ∧ w' = w := Any.strings_IndexByte Tryz.lays137 s c w
def Tryz.laysM246_ren : Go.Shelf.Ren := ⟨fun | 246 => 126 | 283 => 142 | 284 => 143 | 285 => 144 | 286 => 145 | 129 => 151 | 317 => 150 | 318 => 152 | 319 => 153 | 320 => 154 | 337 => 162 | 338 => 163 | n => n, fun | 2 => 2 | 3 => 3 | 9 => 9 | 4 => 4 | 171 => 147 | 0 => 0 | 53 => 26 | 37 => 42 | 5 => 5 | 173 => 150 | 212 => 158 | 51 => 159 | 20 => 20 | 213 => 160 | 46 => 161 | 232 => 174 | 233 => 175 | n => n, fun | 17 => 1 | 18 => 2 | 19 => 3 | n => n⟩
def Tryz.laysM243_ren : Go.Shelf.Ren := ⟨fun | 243 => 116 | 246 => 126 | 283 => 142 | 284 => 143 | 285 => 144 | 286 => 145 | 129 => 151 | 317 => 150 | 318 => 152 | 319 => 153 | 320 => 154 | 337 => 162 | 338 => 163 | n => n, fun | 3 => 3 | 9 => 9 | 2 => 2 | 4 => 4 | 171 => 147 | 0 => 0 | 53 => 26 | 37 => 42 | 5 => 5 | 173 => 150 | 212 => 158 | 51 => 159 | 20 => 20 | 213 => 160 | 46 => 161 | 232 => 174 | 233 => 175 | n => n, fun | 17 => 1 | 18 => 2 | 19 => 3 | n => n⟩
def Tryz.laysM171_ren : Go.Shelf.Ren := ⟨fun | 171 => 99 | 243 => 116 | 246 => 126 | 283 => 142 | 284 => 143 | 285 => 144 | 286 => 145 | 129 => 151 | 317 => 150 | 318 => 152 | 319 => 153 | 320 => 154 | 337 => 162 | 338 => 163 | n => n, fun | 3 => 3 | 9 => 9 | 2 => 2 | 4 => 4 | 171 => 147 | 0 => 0 | 53 => 26 | 37 => 42 | 5 => 5 | 173 => 150 | 212 => 158 | 51 => 159 | 20 => 20 | 213 => 160 | 46 => 161 | 232 => 174 | 233 => 175 | n => n, fun | 17 => 1 | 18 => 2 | 19 => 3 | n => n⟩
theorem Tryz.laysM171 : Go.Proofs.LaysM.n171 Tryz.prog Tryz.laysM171_ren := {
 mixed := by kernel_rfl
 f129 := Tryz.func151.trans (congrArg some (by kernel_rfl))
 f171 := Tryz.func99.trans (congrArg some (by kernel_rfl))
 f243 := Tryz.func116.trans (congrArg some (by kernel_rfl))
 f246 := Tryz.func126.trans (congrArg some (by kernel_rfl))
 f283 := Tryz.func142.trans (congrArg some (by kernel_rfl))
 f284 := Tryz.func143.trans (congrArg some (by kernel_rfl))
 f285 := Tryz.func144.trans (congrArg some (by kernel_rfl))
 f286 := Tryz.func145.trans (congrArg some (by kernel_rfl))
 f317 := Tryz.func150.trans (congrArg some (by kernel_rfl))
 f318 := Tryz.func152.trans (congrArg some (by kernel_rfl))
 f319 := Tryz.func153.trans (congrArg some (by kernel_rfl))
 f320 := Tryz.func154.trans (congrArg some (by kernel_rfl))
 f337 := Tryz.func162.trans (congrArg some (by kernel_rfl))
 f338 := Tryz.func163.trans (congrArg some (by kernel_rfl))
 t0 := Tryz.underlying0
 a0 := Tryz.isAgg0
 z0 := Tryz.sizeOf0
 v0 := Tryz.zeroValue0
 t2 := Tryz.underlying2
 a2 := Tryz.isAgg2
 z2 := Tryz.sizeOf2
 v2 := Tryz.zeroValue2
 t3 := Tryz.underlying3
 a3 := Tryz.isAgg3
 z3 := Tryz.sizeOf3
 v3 := Tryz.zeroValue3
 t4 := Tryz.underlying4
 a4 := Tryz.isAgg4
 z4 := Tryz.sizeOf4
 v4 := Tryz.zeroValue4
 t5 := Tryz.underlying5
 a5 := Tryz.isAgg5
 z5 := Tryz.sizeOf5
 v5 := Tryz.zeroValue5
 t9 := Tryz.underlying9
 a9 := Tryz.isAgg9
 z9 := Tryz.sizeOf9
 v9 := Tryz.zeroValue9
 t20 := Tryz.underlying20
 a20 := Tryz.isAgg20
 z20 := Tryz.sizeOf20
 v20 := Tryz.zeroValue20
 t37 := Tryz.underlying42
 a37 := Tryz.isAgg42
 z37 := Tryz.sizeOf42
 v37 := Tryz.zeroValue42
 t46 := Tryz.underlying161
 a46 := Tryz.isAgg161
 z46 := Tryz.sizeOf161
 v46 := Tryz.zeroValue161
 t51 := Tryz.underlying159
 a51 := Tryz.isAgg159
 z51 := Tryz.sizeOf159
 v51 := Tryz.zeroValue159
 t53 := Tryz.underlying26
 a53 := Tryz.isAgg26
 z53 := Tryz.sizeOf26
 v53 := Tryz.zeroValue26
 t171 := Tryz.underlying147
 a171 := Tryz.isAgg147
 z171 := Tryz.sizeOf147
 v171 := Tryz.zeroValue147
 t173 := Tryz.underlying150
 a173 := Tryz.isAgg150
 z173 := Tryz.sizeOf150
 v173 := Tryz.zeroValue150
 t212 := Tryz.underlying158
 a212 := Tryz.isAgg158
 z212 := Tryz.sizeOf158
 v212 := Tryz.zeroValue158
 t213 := Tryz.underlying160
 a213 := Tryz.isAgg160
 z213 := Tryz.sizeOf160
 t232 := Tryz.underlying174
 a232 := Tryz.isAgg174
 z232 := Tryz.sizeOf174
 v232 := Tryz.zeroValue174
 t233 := Tryz.underlying175
 a233 := Tryz.isAgg175
 z233 := Tryz.sizeOf175
 v233 := Tryz.zeroValue175
 g17 := by kernel_rfl
 g18 := by kernel_rfl
 g19 := by kernel_rfl
 i0 := by kernel_rfl
 i2 := by kernel_rfl
 i3 := by kernel_rfl
 i4 := by kernel_rfl
 i5 := by kernel_rfl
 i9 := by kernel_rfl
 i20 := by kernel_rfl
 i37 := by kernel_rfl
 i46 := by kernel_rfl
 i51 := by kernel_rfl
 i53 := by kernel_rfl
 i171 := by kernel_rfl
 i173 := by kernel_rfl
 i212 := by kernel_rfl
 i232 := by kernel_rfl
 i233 := by kernel_rfl
 m17 := by kernel_rfl
 m18 := by kernel_rfl
 m19 := by kernel_rfl }
open Go.RowKit Go.Sort Go.Lib in
theorem Tryz.strconv_Itoa (n : Int) (h0 : -9223372036854775808 ≤ n) (h1 : n ≤ 9223372036854775807) (w : World) (htab : Lib.TabIs Tryz.prog w "internal/strconv.uint64pow10" .u64 Lib.pow10Tab) :
 Calls Tryz.prog 99 #[.int .i64 n] w fun e w' => e = .returned (.string ⟨(Lib.itoa n).toArray⟩) ∧ ∃ k os, w' = grow (w.drewN k) os := Any.strconv_Itoa Tryz.laysM171 n h0 h1 w htab
def Tryz.lays219_ren : Go.Shelf.Ren := ⟨fun | 219 => 171 | 217 => 115 | 225 => 174 | 224 => 175 | 267 => 176 | 266 => 125 | 314 => 177 | n => n, fun | 9 => 9 | 3 => 3 | 4 => 4 | 5 => 5 | 46 => 161 | 146 => 180 | 51 => 159 | n => n, fun | 1 => 0 | n => n⟩
def Tryz.lays145_ren : Go.Shelf.Ren := ⟨fun | 145 => 164 | 220 => 167 | 219 => 171 | 217 => 115 | 225 => 174 | 224 => 175 | 267 => 176 | 266 => 125 | 314 => 177 | n => n, fun | 9 => 9 | 4 => 4 | 59 => 167 | 3 => 3 | 5 => 5 | 46 => 161 | 146 => 180 | 51 => 159 | n => n, fun | 1 => 0 | n => n⟩
theorem Tryz.lays145 : Go.Proofs.Lays.n145 Tryz.prog Tryz.lays145_ren := {
 mixed := by kernel_rfl
 f145 := Tryz.func164.trans (congrArg some (by kernel_rfl))
 f217 := Tryz.func115.trans (congrArg some (by kernel_rfl))
 f219 := Tryz.func171.trans (congrArg some (by kernel_rfl))
 f220 := Tryz.func167.trans (congrArg some (by kernel_rfl))
 f224 := Tryz.func175.trans (congrArg some (by kernel_rfl))
 f225 := Tryz.func174.trans (congrArg some (by kernel_rfl))
 f266 := Tryz.func125.trans (congrArg some (by kernel_rfl))
 f267 := Tryz.func176.trans (congrArg some (by kernel_rfl))
 f314 := Tryz.func177.trans (congrArg some (by kernel_rfl))
 t3 := Tryz.underlying3
 a3 := Tryz.isAgg3
 z3 := Tryz.sizeOf3
 v3 := Tryz.zeroValue3
 t4 := Tryz.underlying4
 a4 := Tryz.isAgg4
 z4 := Tryz.sizeOf4
 v4 := Tryz.zeroValue4
 t5 := Tryz.underlying5
 a5 := Tryz.isAgg5
 z5 := Tryz.sizeOf5
 v5 := Tryz.zeroValue5
 t9 := Tryz.underlying9
 a9 := Tryz.isAgg9
 z9 := Tryz.sizeOf9
 v9 := Tryz.zeroValue9
 t46 := Tryz.underlying161
 a46 := Tryz.isAgg161
 z46 := Tryz.sizeOf161
 v46 := Tryz.zeroValue161
 t51 := Tryz.underlying159
 a51 := Tryz.isAgg159
 z51 := Tryz.sizeOf159
 v51 := Tryz.zeroValue159
 t59 := Tryz.underlying167
 a59 := Tryz.isAgg167
 z59 := Tryz.sizeOf167
 v59 := Tryz.zeroValue167
 t146 := Tryz.underlying180
 a146 := Tryz.isAgg180
 z146 := Tryz.sizeOf180
 v146 := Tryz.zeroValue180
 g1 := by kernel_rfl }
open Go.RowKit Go.Lib in
theorem Tryz.strings_Cut (s sep : ByteArray) (m : Int) (w : World) (hs : s.size < 4294967281) (hm : w.cell? ⟨0, 0, none⟩ = some (.int .i64 m)) :
 Calls Tryz.prog 164 #[.string s, .string sep] w fun e w' => e = .returned (.tuple #[.string ⟨(Lib.cut s.data.toList sep.data.toList).1.toArray⟩, .string ⟨(Lib.cut s.data.toList sep.data.toList).2.1.toArray⟩, .bool (Lib.cut s.data.toList sep.data.toList).2.2]) ∧ ∃ n, w' = w.drewN n := Any.strings_Cut Tryz.lays145 s sep m w hs hm
def Tryz.laysM219_ren : Go.Shelf.Ren := ⟨fun | 219 => 171 | 217 => 115 | 225 => 174 | 224 => 175 | 267 => 176 | 266 => 125 | 314 => 177 | n => n, fun | 9 => 9 | 3 => 3 | 4 => 4 | 5 => 5 | 46 => 161 | 146 => 180 | 51 => 159 | n => n, fun | 1 => 0 | n => n⟩
theorem Tryz.laysM219 : Go.Proofs.LaysM.n219 Tryz.prog Tryz.laysM219_ren := {
 mixed := by kernel_rfl
 f217 := Tryz.func115.trans (congrArg some (by kernel_rfl))
 f219 := Tryz.func171.trans (congrArg some (by kernel_rfl))
 f224 := Tryz.func175.trans (congrArg some (by kernel_rfl))
 f225 := Tryz.func174.trans (congrArg some (by kernel_rfl))
 f266 := Tryz.func125.trans (congrArg some (by kernel_rfl))
 f267 := Tryz.func176.trans (congrArg some (by kernel_rfl))
 f314 := Tryz.func177.trans (congrArg some (by kernel_rfl))
 t3 := Tryz.underlying3
 a3 := Tryz.isAgg3
 z3 := Tryz.sizeOf3
 v3 := Tryz.zeroValue3
 t4 := Tryz.underlying4
 a4 := Tryz.isAgg4
 z4 := Tryz.sizeOf4
 v4 := Tryz.zeroValue4
 t5 := Tryz.underlying5
 a5 := Tryz.isAgg5
 z5 := Tryz.sizeOf5
 v5 := Tryz.zeroValue5
 t9 := Tryz.underlying9
 a9 := Tryz.isAgg9
 z9 := Tryz.sizeOf9
 v9 := Tryz.zeroValue9
 t46 := Tryz.underlying161
 a46 := Tryz.isAgg161
 z46 := Tryz.sizeOf161
 v46 := Tryz.zeroValue161
 t51 := Tryz.underlying159
 a51 := Tryz.isAgg159
 z51 := Tryz.sizeOf159
 v51 := Tryz.zeroValue159
 t146 := Tryz.underlying180
 a146 := Tryz.isAgg180
 z146 := Tryz.sizeOf180
 v146 := Tryz.zeroValue180
 g1 := by kernel_rfl
 i3 := by kernel_rfl
 i4 := by kernel_rfl
 i5 := by kernel_rfl
 i9 := by kernel_rfl
 i46 := by kernel_rfl
 i51 := by kernel_rfl
 i146 := by kernel_rfl
 m1 := by kernel_rfl
 s1_3 := fun w h => Go.Proofs.cell_of_shapedOpen_int (zero := #[.int .i64 0]) (t := 3) h (of_decide_eq_true (by kernel_rfl)) (by kernel_rfl) rfl (by kernel_rfl) (by kernel_rfl) Tryz.underlying3 }
end Go.Proofs
namespace Go.Proofs.YthlakbjnmbddaaaGreatDoor
open Lib (hid)
open Go.RowKit
def ep (B : Nat) (w : World) : Prop := Lib.TabIs Tryz.prog w "internal/strconv.uint64pow10" .u64 Lib.pow10Tab ∧ ∀ g, Tryz.prog.globalNamed "internal/strconv.uint64pow10" = some g → g < B
theorem ep.later {B : Nat} {w w' : World} (h : ep B w) (hb : Below B w w') : ep B w' := by
 obtain ⟨h1, h2⟩ := h
 refine ⟨?_, h2⟩
 unfold Lib.TabIs World.var? at h1 ⊢
 cases hg : Tryz.prog.globalNamed "internal/strconv.uint64pow10" with
 | none => rw [hg] at h1; cases h1
 | some g =>
  rw [hg] at h1
  simp only [Option.bind_some] at h1 ⊢
  rw [hb.block g (h2 g hg)]
  exact h1
theorem ey (a b : Bs) : bs a ++ bs b = bs (a ++ b) := by
 apply ByteArray.ext
 simp [bs]
theorem mq : ∀ k < 256, Lib.itoa ((k : Nat) : Int) = kA k := by decide +kernel
theorem xD : Lib.itoa (-1) = [45, 49] := by decide +kernel
theorem jO (n : Nat) : 1 ≤ (kA n).length ∧ (kA n).length ≤ 3 := by unfold kA; split <;> (try simp) <;> split <;> simp
theorem pY {n : Int} (h0 : -1 ≤ n) (h1 : n ≤ 255) : (Lib.itoa n).length ≤ 3 := by
 by_cases h : n = -1
 · subst h; rw [xD]; simp
 · obtain ⟨k, rfl⟩ : ∃ k : Nat, n = k := ⟨n.toNat, by omega⟩
   rw [mq k (by omega)]
   exact (jO k).2
theorem pZ (B : Nat) (n : Int) (h0 : -1 ≤ n) (h1 : n ≤ 255) (w : World) (ht : ep B w) (hB : B ≤ w.heap.size) :
 Calls Tryz.prog 99 #[.int .i64 n] w fun e w' => e = .returned (.string (bs (Lib.itoa n))) ∧ Below w.heap.size w w' := by
 refine (Tryz.strconv_Itoa n (by omega) (by omega) w ht.1).mono ?_
 rintro e w' ⟨rfl, k, os, rfl⟩
 refine ⟨rfl, ?_⟩
 exact Lib.below_grow w.heap.size w (Nat.le_refl _) k os
theorem WAt.later {B p : Nat} {l : Bs} {o d : Int} {w w' : World} (h : WAt B p l o d w) (hb : Below w.heap.size w w') : WAt B p l o d w' := by
 obtain ⟨h1, a, v, h2, h3, h4, h5⟩ := h
 exact ⟨h1, a, v, (hb.block p h2.lt).trans h2, h3, h4.kept (row := none) ⟨hb.os, hb.tape, hb.output, hb.size, fun k hk _ => hb.block k hk⟩ (by cases h : v.ownBlock <;> simp), h5⟩
theorem qC (B p : Nat) (l : Bs) (o d : Int) (w : World) (h : WAt B p l o d w) (hl : l.length ≤ 1000000) (hB : B ≤ w.heap.size) (ht : ep B w) (m n : Int) (hm0 : 0 ≤ m) (hm1 : m ≤ 255) (hn0 : -1 ≤ n) (hn1 : n ≤ 255) :
 Calls Tryz.prog 82 #[.pointer (some ⟨p, 0, none⟩), .int .i64 m, .int .i64 n] w fun e w' => e = .returned (.tuple #[]) ∧ WAt B p (l ++ bH m n) o d w' ∧ Below B w w' ∧ Fr p w w' := by
 have H := hid h; have HT := hid ht
 have lm := pY (n := m) (by omega) hm1
 have ln := pY hn0 hn1
 have im : Lib.itoa m = kA m.toNat := by rw [show m = ((m.toNat : Nat) : Int) by omega, mq _ (by omega)]; rw [Int.toNat_natCast]
 have hin : n ≠ -1 → Lib.itoa n = kA n.toNat := fun hne => by rw [show n = ((n.toNat : Nat) : Int) by omega, mq _ (by omega)]; rw [Int.toNat_natCast]
 have Him := hid im; have Hin := hid hin
 have cm := pZ B m (by omega) hm1
 have cn := pZ B n hn0 hn1
 have Cm := hid cm; have Cn := hid cn
 clear h ht im hin cm cn
 generalize Lib.itoa m = M at *
 generalize Lib.itoa n = N at *
 have sM : (bs M).size = M.length := by simp [bs, ByteArray.size]
 have sN : (bs N).size = N.length := by simp [bs, ByteArray.size]
 have c1 : bs [123] ++ bs M = bs (123 :: M) := ey _ _
 have c2 : bs (123 :: M) ++ bs [44] = bs (123 :: (M ++ [44])) := ey _ _
 have c3 : bs (123 :: (M ++ [44])) ++ bs N = bs (123 :: (M ++ 44 :: N)) := (ey _ _).trans (by simp)
 have c4 : bs (123 :: (M ++ 44 :: N)) ++ bs [125] = bs (123 :: (M ++ 44 :: (N ++ [125]))) := (ey _ _).trans (by simp)
 have c5 : bs (123 :: M) ++ bs [125] = bs (123 :: (M ++ [125])) := ey _ _
 have c6 : bs (123 :: M) ++ bs [44, 125] = bs (123 :: (M ++ [44, 125])) := ey _ _
 go_enter Tryz.func82, Tryz.ntmps82
 go_wp2_with fail
 refine (Cm.out w HT.out hB).mono ?_
 rintro e w1 ⟨rfl, hb1⟩
 have HB1 := hid hb1
 clear hb1
 go_wp2_with fail
 refine (Cn.out w1 (HT.out.later (HB1.out.mono hB)) (Nat.le_trans hB HB1.out.size)).mono ?_
 rintro e w2 ⟨rfl, hb2⟩
 have H2 := hid ((H.out.later HB1.out).later hb2)
 have HB2 := hid ((HB1.out.mono hB).trans (hb2.mono (Nat.le_trans hB HB1.out.size)))
 have HF2 := hid ((Fr.of_below H.out.lt HB1.out).trans (Fr.of_below (H.out.later HB1.out).lt hb2))
 clear hb2 HB1 H
 by_cases hn : n = -1
 · subst hn
   by_cases h0 : m = 0
   · subst h0
     have hT := hid (show bH 0 (-1) = [42] by simp [bH])
     go_wp2_with fail
     refine (cV B p l o d w2 H2.out hl (Nat.le_trans hB HB2.out.size) ([42]) (by simp; try omega) (by simp)).mono ?_
     rintro e w9 ⟨⟨k9, rfl⟩, h9, hb9, hf9⟩
     go_wp2_with fail
     go_end0
     exact ⟨rfl, by rw [hT.out]; exact h9, HB2.out.trans hb9, HF2.out.trans hf9⟩
   by_cases h1 : m = 1
   · subst h1
     have hT := hid (show bH 1 (-1) = [43] by simp [bH])
     go_wp2_with fail
     refine (cV B p l o d w2 H2.out hl (Nat.le_trans hB HB2.out.size) ([43]) (by simp; try omega) (by simp)).mono ?_
     rintro e w9 ⟨⟨k9, rfl⟩, h9, hb9, hf9⟩
     go_wp2_with fail
     go_end0
     exact ⟨rfl, by rw [hT.out]; exact h9, HB2.out.trans hb9, HF2.out.trans hf9⟩
   have hT := hid (show bH m (-1) = 123 :: (M ++ [44, 125]) by rw [Him.out]; unfold bH; rw [if_neg (by omega), if_neg (by omega), if_neg (by omega), if_neg (by omega), if_pos rfl]; rfl)
   go_wp2_with fail
   refine (Cm.out w2 (HT.out.later HB2.out) (Nat.le_trans hB HB2.out.size)).mono ?_
   rintro e w3 ⟨rfl, hb3⟩
   have H3 := hid (H2.out.later hb3)
   have HB3 := hid (HB2.out.trans (hb3.mono (Nat.le_trans hB HB2.out.size)))
   have HF3 := hid (HF2.out.trans (Fr.of_below H2.out.lt hb3))
   clear hb3
   go_wp2_with fail
   refine (cV B p l o d w3 H3.out hl (Nat.le_trans hB HB3.out.size) (123 :: (M ++ [44, 125])) (by simp; try omega) (by simp)).mono ?_
   rintro e w9 ⟨⟨k9, rfl⟩, h9, hb9, hf9⟩
   go_wp2_with fail
   go_end0
   exact ⟨rfl, by rw [hT.out]; exact h9, HB3.out.trans hb9, HF3.out.trans hf9⟩
 have hN := hid (Hin.out hn)
 by_cases m0 : m = 0
 · subst m0
   by_cases n1 : n = 1
   · subst n1
     have hT := hid (show bH 0 1 = [63] by simp [bH])
     clear Hin
     go_wp2_with fail
     refine (cV B p l o d w2 H2.out hl (Nat.le_trans hB HB2.out.size) ([63]) (by simp; try omega) (by simp)).mono ?_
     rintro e w9 ⟨⟨k9, rfl⟩, h9, hb9, hf9⟩
     go_wp2_with fail
     go_end0
     exact ⟨rfl, by rw [hT.out]; exact h9, HB2.out.trans hb9, HF2.out.trans hf9⟩
   by_cases n0 : n = 0
   · subst n0
     have hT := hid (show bH 0 0 = 123 :: (M ++ [125]) by rw [Him.out]; unfold bH; rw [if_neg (by omega), if_neg (by omega), if_neg (by omega), if_pos rfl]; rfl)
     clear Hin
     go_wp2_with fail
     refine (Cm.out w2 (HT.out.later HB2.out) (Nat.le_trans hB HB2.out.size)).mono ?_
     rintro e w3 ⟨rfl, hb3⟩
     have H3 := hid (H2.out.later hb3)
     have HB3 := hid (HB2.out.trans (hb3.mono (Nat.le_trans hB HB2.out.size)))
     have HF3 := hid (HF2.out.trans (Fr.of_below H2.out.lt hb3))
     clear hb3
     go_wp2_with fail
     refine (cV B p l o d w3 H3.out hl (Nat.le_trans hB HB3.out.size) (123 :: (M ++ [125])) (by simp; try omega) (by simp)).mono ?_
     rintro e w9 ⟨⟨k9, rfl⟩, h9, hb9, hf9⟩
     go_wp2_with fail
     go_end0
     exact ⟨rfl, by rw [hT.out]; exact h9, HB3.out.trans hb9, HF3.out.trans hf9⟩
   have hT := hid (show bH 0 n = 123 :: (M ++ 44 :: (N ++ [125])) by rw [Him.out, hN.out]; unfold bH; rw [if_neg (by omega), if_neg (by omega), if_neg (by omega), if_neg (by omega), if_neg (by omega)]; rfl)
   clear Hin
   go_wp2_with fail
   refine (cV B p l o d w2 H2.out hl (Nat.le_trans hB HB2.out.size) (123 :: (M ++ 44 :: (N ++ [125]))) (by simp; try omega) (by simp)).mono ?_
   rintro e w9 ⟨⟨k9, rfl⟩, h9, hb9, hf9⟩
   go_wp2_with fail
   go_end0
   exact ⟨rfl, by rw [hT.out]; exact h9, HB2.out.trans hb9, HF2.out.trans hf9⟩
 by_cases m1 : m = 1
 · subst m1
   by_cases n1 : n = 1
   · subst n1
     have hT := hid (show bH 1 1 = 123 :: (M ++ [125]) by rw [Him.out]; unfold bH; rw [if_neg (by omega), if_neg (by omega), if_neg (by omega), if_pos rfl]; rfl)
     clear Hin
     go_wp2_with fail
     refine (Cm.out w2 (HT.out.later HB2.out) (Nat.le_trans hB HB2.out.size)).mono ?_
     rintro e w3 ⟨rfl, hb3⟩
     have H3 := hid (H2.out.later hb3)
     have HB3 := hid (HB2.out.trans (hb3.mono (Nat.le_trans hB HB2.out.size)))
     have HF3 := hid (HF2.out.trans (Fr.of_below H2.out.lt hb3))
     clear hb3
     go_wp2_with fail
     refine (cV B p l o d w3 H3.out hl (Nat.le_trans hB HB3.out.size) (123 :: (M ++ [125])) (by simp; try omega) (by simp)).mono ?_
     rintro e w9 ⟨⟨k9, rfl⟩, h9, hb9, hf9⟩
     go_wp2_with fail
     go_end0
     exact ⟨rfl, by rw [hT.out]; exact h9, HB3.out.trans hb9, HF3.out.trans hf9⟩
   have hT := hid (show bH 1 n = 123 :: (M ++ 44 :: (N ++ [125])) by rw [Him.out, hN.out]; unfold bH; rw [if_neg (by omega), if_neg (by omega), if_neg (by omega), if_neg (by omega), if_neg (by omega)]; rfl)
   clear Hin
   go_wp2_with fail
   refine (cV B p l o d w2 H2.out hl (Nat.le_trans hB HB2.out.size) (123 :: (M ++ 44 :: (N ++ [125]))) (by simp; try omega) (by simp)).mono ?_
   rintro e w9 ⟨⟨k9, rfl⟩, h9, hb9, hf9⟩
   go_wp2_with fail
   go_end0
   exact ⟨rfl, by rw [hT.out]; exact h9, HB2.out.trans hb9, HF2.out.trans hf9⟩
 by_cases hmn : m = n
 · subst hmn
   have hT := hid (show bH m m = 123 :: (M ++ [125]) by rw [Him.out]; unfold bH; rw [if_neg (by omega), if_neg (by omega), if_neg (by omega), if_pos rfl]; rfl)
   clear Hin
   go_wp2_with fail
   refine (Cm.out w2 (HT.out.later HB2.out) (Nat.le_trans hB HB2.out.size)).mono ?_
   rintro e w3 ⟨rfl, hb3⟩
   have H3 := hid (H2.out.later hb3)
   have HB3 := hid (HB2.out.trans (hb3.mono (Nat.le_trans hB HB2.out.size)))
   have HF3 := hid (HF2.out.trans (Fr.of_below H2.out.lt hb3))
   clear hb3
   go_wp2_with fail
   refine (cV B p l o d w3 H3.out hl (Nat.le_trans hB HB3.out.size) (123 :: (M ++ [125])) (by simp; try omega) (by simp)).mono ?_
   rintro e w9 ⟨⟨k9, rfl⟩, h9, hb9, hf9⟩
   go_wp2_with fail
   go_end0
   exact ⟨rfl, by rw [hT.out]; exact h9, HB3.out.trans hb9, HF3.out.trans hf9⟩
 have hT := hid (show bH m n = 123 :: (M ++ 44 :: (N ++ [125])) by rw [Him.out, hN.out]; unfold bH; rw [if_neg (by omega), if_neg (by omega), if_neg (by omega), if_neg (by omega), if_neg (by omega)]; rfl)
 clear Hin
 go_wp2_with fail
 refine (cV B p l o d w2 H2.out hl (Nat.le_trans hB HB2.out.size) (123 :: (M ++ 44 :: (N ++ [125]))) (by simp; try omega) (by simp)).mono ?_
 rintro e w9 ⟨⟨k9, rfl⟩, h9, hb9, hf9⟩
 go_wp2_with fail
 go_end0
 exact ⟨rfl, by rw [hT.out]; exact h9, HB2.out.trans hb9, HF2.out.trans hf9⟩
def ar (x : T × Option Addr × Nat) : List Value := [.int .i64 x.1.k, .int .u64 x.1.s0, .int .u64 x.1.s1, .int .u64 x.1.s2, .int .u64 x.1.s3, .int .i64 x.1.mn, .int .i64 x.1.mx, .slice x.2.1 x.1.ps.length x.2.2]
def bq (l : List (T × Option Addr × Nat)) : List Value := l.flatMap ar
theorem mE (l : List (T × Option Addr × Nat)) : (bq l).length = l.length * 8 := by
 induction l with
 | nil => rfl
 | cons s l ih =>
  show (ar s ++ bq l).length = _
  rw [List.length_append, ih, List.length_cons]
  simp only [ar, List.length_cons, List.length_nil]
  omega
theorem jQ (l : List (T × Option Addr × Nat)) (s : T × Option Addr × Nat) : bq (l ++ [s]) = bq l ++ ar s := by simp [bq]
theorem cT (s : T × Option Addr × Nat) : ∀ u ∈ ar s, u.oneCell' = true := by
 intro u hu
 simp only [ar, List.mem_cons, List.not_mem_nil, or_false] at hu
 rcases hu with rfl | rfl | rfl | rfl | rfl | rfl | rfl | rfl <;> rfl
theorem dv : ∀ (l : List (T × Option Addr × Nat)) (i j : Nat) (hi : i < l.length), j < 8 → (bq l)[i * 8 + j]? = (ar l[i])[j]?
 | s :: l, 0, j, hi, hj => by
  show (ar s ++ bq l)[0 * 8 + j]? = _
  rw [Nat.zero_mul, Nat.zero_add, List.getElem?_append_left (by simp [ar]; omega)]
  rfl
 | s :: l, i + 1, j, hi, hj => by
  show (ar s ++ bq l)[(i + 1) * 8 + j]? = _
  rw [List.getElem?_append_right (by simp [ar]; omega)]
  simp only [ar, List.length_cons, List.length_nil]
  rw [show (i + 1) * 8 + j - (0 + 1 + 1 + 1 + 1 + 1 + 1 + 1 + 1) = i * 8 + j by omega, dv l i j (by simpa using hi) hj]
  rfl
theorem At8.ofX {w : World} {b o : Nat} {x : T × Option Addr × Nat} (h : ∀ j, j < 8 → w.cell? ⟨b, o + j, none⟩ = (ar x)[j]?) : At8 w b o x.1 x.2.1 x.2.2 :=
 ⟨h 0 (by omega), h 1 (by omega), h 2 (by omega), h 3 (by omega), h 4 (by omega), h 5 (by omega), h 6 (by omega), h 7 (by omega)⟩
theorem Tryz.infoNodeX : (Tryz.prog.info? 48).map (fun i => (i.zero, i.size, i.bytes)) = some (some (.agg #[.int .i64 0, .int .u64 0, .int .u64 0, .int .u64 0, .int .u64 0, .int .i64 0, .int .i64 0, .slice none 0 0]), 8, 80) := by kernel_rfl
def bj (w : World) (b : Nat) (cs : Array Value) : Prop := w.heap[b]? = some (.cells cs 48 (0, 0))
theorem bj.lt {w : World} {b : Nat} {cs : Array Value} (h : bj w b cs) : b < w.heap.size := (Array.getElem?_eq_some_iff.1 h).1
theorem bj.cell {w : World} {b : Nat} {cs : Array Value} (h : bj w b cs) (o : Nat) : w.cell? ⟨b, o, none⟩ = cs[o]? := cell_of_row w b o cs _ (0, 0) h
theorem bj.froz {w : World} {b : Nat} {cs : Array Value} (h : bj w b cs) (o : Nat) : w.frozen? ⟨b, o, none⟩ = false := by
 unfold World.frozen?
 rw [show w.heap[(⟨b, o, none⟩ : Addr).block]? = _ from h]
 simp
theorem bj.keep {w w' : World} {b : Nat} {cs : Array Value} (h : bj w b cs) (e : w'.heap[b]? = w.heap[b]?) : bj w' b cs := e.trans h
theorem bj.set {w : World} {b : Nat} {cs : Array Value} (h : bj w b cs) (o : Nat) (u : Value) : bj (w.setCell ⟨b, o, none⟩ u) b (cs.setIfInBounds o u) := by
 unfold bj at h ⊢
 simp only [World.setCell, Array.getElem?_modify, ↓reduceIte, h, Option.map_some]
 rfl
theorem bj.new (w : World) (cs : Array Value) : bj (w.alloc (.cells cs 48)) w.heap.size cs := heap_alloc_new w _
theorem aA (w : World) (ok : Nat → Prop) (t : T) (h : t.ps = []) : NodeAt w ok t none 0 :=
 .mk t none 0 (fun _ => none) (fun _ => 0) (by simp [h]) (by simp [h]) (fun e => absurd h e) (fun i p hi => by simp [h] at hi)
theorem gP {W : World} {ok : Nat → Prop} {g : Nat} (R : T) (L : List (T × Option Addr × Nat)) (hps : R.ps = L.map (·.1)) (hlen : L.length ≤ 17592186044416) (hg : ok g)
 (h8 : ∀ (i : Nat) (x : T × Option Addr × Nat), L[i]? = some x → At8 W g (i * 8) x.1 x.2.1 x.2.2) (hN : ∀ (i : Nat) (x : T × Option Addr × Nat), L[i]? = some x → NodeAt W ok x.1 x.2.1 x.2.2) : NodeAt W ok R (some ⟨g, 0, none⟩) L.length := by
 have hx : ∀ (i : Nat) (p : T), R.ps[i]? = some p → ∃ x : T × Option Addr × Nat, L[i]? = some x ∧ x.1 = p := fun i p h => by
  rw [hps, List.getElem?_map, Option.map_eq_some_iff] at h
  exact h
 refine .mk R _ _ (fun i => match L[i]? with | some x => x.2.1 | none => none) (fun i => match L[i]? with | some x => x.2.2 | none => 0) (by rw [hps]; simp) (by rw [hps]; simpa using hlen) (fun _ => ⟨g, 0, rfl, hg, fun i p h => ?_⟩) (fun i p h => ?_)
 · obtain ⟨x, hi, rfl⟩ := hx i p h
   simp only [hi, Nat.zero_add]
   exact h8 i x hi
 · obtain ⟨x, hi, rfl⟩ := hx i p h
   simp only [hi]
   exact hN i x hi
theorem ya {α : Type} {P : Nat → α → Prop} {a : α} (h0 : P 0 a) : ∀ (i : Nat) (x : α), [a][i]? = some x → P i x
 | 0, x, h => by simp at h; subst h; exact h0
 | i + 1, x, h => by simp at h
theorem NodeAt.widerX {w : World} {ok : Nat → Prop} {t : T} {A : Option Addr} {c c' : Nat} (h : NodeAt w ok t A c) (hc : t.ps.length ≤ c') : NodeAt w ok t A c' := by
 cases h with
 | mk _ _ _ As cs h1 h2 h3 h4 => exact .mk t A c' As cs hc h2 h3 h4
abbrev Nx := T × Option Addr × Nat
theorem wu {w W : World} (L : List Nx) (hW : W = w.alloc (.cells (bq L).toArray 48)) : ∀ (i : Nat) (x : Nx), L[i]? = some x → At8 W w.heap.size (i * 8) x.1 x.2.1 x.2.2 := fun i x hi => .ofX fun j hj => by
 have hl := (List.getElem?_eq_some_iff.1 hi).1
 have hx : L[i] = x := (List.getElem?_eq_some_iff.1 hi).2
 rw [hW, World.cell?_alloc_new, List.getElem?_toArray, dv L i j hl hj, hx]
def aa (w : World) (b : Nat) (x : Nx) : World :=
 (((((((w.setCell ⟨b, 0, none⟩ (.int .i64 x.1.k)).setCell ⟨b, 1, none⟩ (.int .u64 x.1.s0)).setCell ⟨b, 2, none⟩ (.int .u64 x.1.s1)).setCell ⟨b, 3, none⟩ (.int .u64 x.1.s2)).setCell ⟨b, 4, none⟩ (.int .u64 x.1.s3)).setCell ⟨b, 5, none⟩ (.int .i64 x.1.mn)).setCell ⟨b, 6, none⟩ (.int .i64 x.1.mx)).setCell ⟨b, 7, none⟩ (.slice x.2.1 x.1.ps.length x.2.2)
theorem ac {w : World} {b : Nat} {y : Nx} (h : bj w b (ar y).toArray) (x : Nx) : bj (aa w b x) b (ar x).toArray := by
 have h1 := (((((((h.set 0 (.int .i64 x.1.k)).set 1 (.int .u64 x.1.s0)).set 2 (.int .u64 x.1.s1)).set 3 (.int .u64 x.1.s2)).set 4 (.int .u64 x.1.s3)).set 5 (.int .i64 x.1.mn)).set 6 (.int .i64 x.1.mx)).set 7 (.slice x.2.1 x.1.ps.length x.2.2)
 unfold aa; simpa [ar] using h1
theorem af (w : World) (b : Nat) (x : Nx) (k : Nat) (hk : k ≠ b) : (aa w b x).heap[k]? = w.heap[k]? := by
 unfold aa
 iterate 7 rw [Below.heap_setCell _ _ _ _ hk]
 exact Below.heap_setCell _ _ _ _ hk
theorem ai (w : World) (b : Nat) (x : Nx) : (aa w b x).heap.size = w.heap.size := by simp [aa]
theorem bO {B : Nat} {w0 w : World} {b : Nat} (h : Below B w0 w) (hb : B ≤ b) (x : Nx) : Below B w0 (aa w b x) := by
 unfold aa
 exact (((((((h.setCell hb _).setCell hb _).setCell hb _).setCell hb _).setCell hb _).setCell hb _).setCell hb _).setCell hb _
theorem bj.cells8 {w : World} {b : Nat} {x : Nx} (h : bj w b (ar x).toArray) : (w.cell? ⟨b, 0, none⟩ = some (.int .i64 x.1.k) ∧ w.cell? ⟨b, 1, none⟩ = some (.int .u64 x.1.s0) ∧ w.cell? ⟨b, 2, none⟩ = some (.int .u64 x.1.s1) ∧ w.cell? ⟨b, 3, none⟩ = some (.int .u64 x.1.s2) ∧ w.cell? ⟨b, 4, none⟩ = some (.int .u64 x.1.s3) ∧ w.cell? ⟨b, 5, none⟩ = some (.int .i64 x.1.mn) ∧ w.cell? ⟨b, 6, none⟩ = some (.int .i64 x.1.mx) ∧ w.cell? ⟨b, 7, none⟩ = some (.slice x.2.1 x.1.ps.length x.2.2)) ∧ ∀ o, w.frozen? ⟨b, o, none⟩ = false := by
 refine ⟨⟨?_, ?_, ?_, ?_, ?_, ?_, ?_, ?_⟩, h.froz⟩ <;> (rw [h.cell]; rfl)
theorem au {P : Program} {ops : Array Oper} {rest : List Oper} {o : Oper} {a : Act} {Q : Exit → Act → World → Prop} {W : World} (base : Nat)
 (hgd : o.guard = none) (s x : Operand) (t e : TypeId) (z : Value) (size bytes : Nat)
 (ho : o.op = .call { callee := .builtin .append, args := #[s, x], argTypes := #[t, t] })
 (ht : P.underlying t = some (.slice e)) (hinfo : (P.info? e).map (fun i => (i.zero, i.size, i.bytes)) = some (some z, size, bytes)) (hz : z.cells.size = size) (hs0 : 0 < size) (hb0 : 0 < bytes)
 (v : Value) (n m : Nat) (xs ys : List Value) (A : Option Addr) (c : Nat) (hs : a.eval s = v) (hx : a.eval x = .slice A m c) (hA : A = none → m = 0 ∧ c = 0) (hys : ys.length = m * size)
 (hnews : ∀ ad, A = some ad → ∀ j u, ys[j]? = some u → W.cell? (ad.add j) = some u) (h1 : ∀ u ∈ ys, u.oneCell' = true)
 (HO : W.ownsRow base e size v n xs) (hbase : base ≤ W.heap.size) (hl : (n + m) * bytes ≤ 140737488355328)
 (h : ∀ A' c' w1, w1.ownsRow base e size (.slice A' (n + m) c') (n + m) (xs ++ ys) → W.grownBy w1 v.ownBlock → ((Value.slice A' (n + m) c').ownBlock = v.ownBlock ∨ (Value.slice A' (n + m) c').ownBlock = some W.heap.size) →
  wpList P ops Q rest (a.put o.dst (.slice A' (n + m) c')) w1) :
 wpList P ops Q (o :: rest) a W := by
 refine wpList_plain hgd fun K hK => ?_
 obtain ⟨i0, hi, hzz⟩ := Option.map_eq_some_iff.1 hinfo
 simp only [Prod.mk.injEq] at hzz
 obtain ⟨hz0, hz1, hz2⟩ := hzz
 have hlen : n + m ≤ 140737488355328 := Nat.le_trans (Nat.le_mul_of_pos_right _ hb0) hl
 unfold Oper.wp execOp
 cases A with
 | none =>
  obtain ⟨rfl, rfl⟩ := hA rfl
  have hy : ys = [] := by simpa using hys
  subst hy
  have hr := run_append_owned_none (P := P) (w := W) base t o.type e i0 size ht hi v n xs HO
  simp only [ho, resolve, invoke, builtin, Sem.run_bind, Sem.run_pure, Result.andThen_ok, List.map_toArray, List.map_cons, List.map_nil, hs, hx, hr]
  have hv : ∃ A' c', v = .slice A' (n + 0) c' := by
   rcases HO.2 with ⟨rfl, rfl⟩ | ⟨g, cap, cur, rfl, _⟩
   · exact ⟨_, _, rfl⟩
   · exact ⟨_, _, rfl⟩
  obtain ⟨A', c', rfl⟩ := hv
  exact hK _ _ (h A' c' W (by simpa using HO) ⟨rfl, rfl, rfl, Nat.le_refl _, fun _ _ _ => rfl⟩ (.inl rfl))
 | some ad =>
  obtain ⟨v1, w1, hr, hown, hg, _, hat⟩ := run_append_own_at (P := P) W base t o.type e i0 z size bytes ht hi hz0 hz1 hz2 hz hs0 v n xs HO ad m c ys hys (hnews ad rfl) h1 (by simp only [maxLen]; omega) hl hbase
  simp only [ho, resolve, invoke, builtin, Sem.run_bind, Sem.run_pure, Result.andThen_ok, List.map_toArray, List.map_cons, List.map_nil, hs, hx, hr]
  have hv : ∃ A' c', v1 = .slice A' (n + m) c' := by
   rcases hown.2 with ⟨rfl, h0⟩ | ⟨g, cap, cur, rfl, _⟩
   · exact ⟨_, _, by rw [h0]⟩
   · exact ⟨_, _, rfl⟩
  obtain ⟨A', c', rfl⟩ := hv
  exact hK _ _ (h A' c' w1 hown hg hat)
theorem ct (b o j : Nat) : (⟨b, o, none⟩ : Addr).add j = ⟨b, o + j, none⟩ := by unfold Addr.add; split <;> simp_all
structure KEnv (w : World) : Prop where
 mx : dc w
 tb : ep w.heap.size w
theorem KEnv.step {w w' : World} (h : KEnv w) (hb : Below w.heap.size w w') : KEnv w' :=
 ⟨h.mx.later hb, ⟨(h.tb.later hb).1, fun g hg => Nat.lt_of_lt_of_le (h.tb.2 g hg) hb.size⟩⟩
abbrev qB (w : World) (e : Ending) (w' : World) : Prop := e = .returned (.bool true) ∧ Below w.heap.size w w'
def K0 (f : Nat) : Prop := ∀ w, KEnv w → Calls Tryz.prog f #[] w fun e w' => qB w e w'
def KSS (f : Nat) : Prop := ∀ w, KEnv w → ∀ x y : Bs, x.length ≤ 1000000 → y.length ≤ 1000000 → Calls Tryz.prog f #[.string (bs x), .string (bs y)] w fun e w' => qB w e w'
def yO (f : Nat) : Prop := ∀ w, KEnv w → ∀ x y z : Bs, x.length ≤ 1000000 → y.length ≤ 1000000 → z.length ≤ 1000000 → Calls Tryz.prog f #[.string (bs x), .string (bs y), .string (bs z)] w fun e w' => qB w e w'
theorem zt (a b : Bs) : bs a ++ bs b = bs (a ++ b) := by
 apply ByteArray.ext
 simp [bs]
theorem wP (r : Bs) : (bs r).size = r.length := by simp [bs, ByteArray.size]
def wQ (v : Value) : Bool := match v with
 | .string b => decide (b.size ≤ 100000)
 | _ => false
theorem yk {v : Value} (h : wQ v = true) : ∃ s : Bs, s.length ≤ 100000 ∧ v = .string (bs s) := by
 cases v with
 | string b =>
  refine ⟨b.data.toList, ?_, ?_⟩
  · have : b.size ≤ 100000 := of_decide_eq_true h
    have e : b.data.toList.length = b.size := Array.length_toList
    omega
  · exact congrArg Value.string (show b = bs b.data.toList by simp [bs])
 | _ => cases h
theorem sX {cs : Array Value} {n : Nat} (hn : cs.size = n) (h : cs.all wQ = true) (i : Nat) (hi : i < n) : ∃ s : Bs, s.length ≤ 100000 ∧ cs[i]? = some (.string (bs s)) := by
 have hi' : i < cs.size := by omega
 have h2 := (Array.all_eq_true.1 h) i hi'
 obtain ⟨s, h3, h4⟩ := yk h2
 exact ⟨s, h3, by rw [Array.getElem?_eq_getElem hi', h4]⟩
def Strs (w : World) (g n : Nat) : Prop := g < w.heap.size ∧ ∀ i, i < n → ∃ s : Bs, s.length ≤ 100000 ∧ w.cell? ⟨g, i, none⟩ = some (.string (bs s))
theorem Strs.later {w w' : World} {g n : Nat} (h : Strs w g n) (hb : Below w.heap.size w w') : Strs w' g n :=
 ⟨Nat.lt_of_lt_of_le h.1 hb.size, fun i hi => by obtain ⟨s, h1, h2⟩ := h.2 i hi; exact ⟨s, h1, (hb.cell (p := ⟨g, i, none⟩) h.1).trans h2⟩⟩
theorem Strs.new {w W : World} {cs : Array Value} {e : TypeId} {n : Nat} (hW : w.alloc (.cells cs e) = W) (hn : cs.size = n) (h : cs.all wQ = true) : Strs W w.heap.size n ∧ Below w.heap.size w W := by
 subst hW
 exact ⟨⟨by simp, fun i hi => by rw [World.cell?_alloc_new]; exact sX hn h i hi⟩, nal⟩
theorem oL (a : Act) (parts : Array (Nat × Operand)) (zs : List Bs) (hparts : parts.toList = (zs.zipIdx 0).map fun x => (x.2, Operand.const (Value.string (bs x.1)))) :
 (parts.map fun (i, x) => (i, a.eval x)).toList = ((zs.map fun z => Value.string (bs z)).zipIdx 0).map fun x => (x.2, x.1) := by
 rw [Array.toList_map, hparts, List.zipIdx_map, List.map_map, List.map_map]
 rfl
theorem iM {P : Program} {ops : Array Oper} {rest : List Oper} {o : Oper} {a : Act} {w : World} {Q : Exit → Act → World → Prop} (hg : o.guard = none) (t e : TypeId) (len : Nat) (parts : Array (Nat × Operand)) (ho : o.op = .buildSlice t len parts)
 (zs : List Bs) (hu : P.underlying t = some (.slice e)) (hsz : (P.info? e).map (·.size) = some 1) (hz : ((P.info? e).bind (·.zero)).isSome = true)
 (hlen : len = zs.length) (hpos : 0 < len) (hsmall : len ≤ 2 ^ 24)
 (hparts : parts.toList = (zs.zipIdx 0).map fun x => (x.2, Operand.const (Value.string (bs x.1)))) (h100 : zs.all (fun z => decide (z.length ≤ 100000)) = true)
 (h : ∀ W, Strs W w.heap.size len → Below w.heap.size w W → wpList P ops Q rest (a.put o.dst (.slice (some ⟨w.heap.size, 0, none⟩) len len)) W) : wpList P ops Q (o :: rest) a w := by
 cases hie : P.info? e with
 | none => simp [hie] at hsz
 | some ie =>
  simp only [hie, Option.map_some, Option.some.injEq, Option.bind_some] at hsz hz
  obtain ⟨z, hzz⟩ := Option.isSome_iff_exists.1 hz
  refine wpList_buildSlice hg t e len parts ho _ ie z hu hie hzz (by rw [hsz]; omega) (by rw [hsz]; omega) ?_ (h _ ⟨by simp, fun i hi => ?_⟩ ((Below.refl _ _).alloc (Nat.le_refl _) (.cells (zs.map fun z => Value.string (bs z)).toArray e)))
  · rw [oL a parts zs hparts, hsz]
    exact Great.fill_flat _ _ (fun v hv => by obtain ⟨n, _, rfl⟩ := List.mem_map.1 hv; rfl) (by simp [hlen])
  · have hi' : i < zs.length := by omega
    refine ⟨zs[i], of_decide_eq_true (List.all_eq_true.1 h100 _ (List.getElem_mem hi')), ?_⟩
    rw [World.cell?_alloc_new, List.getElem?_toArray, List.getElem?_map, List.getElem?_eq_getElem hi']
    rfl
def vz : List Bs := [[], [97], [94, 97], [97, 36], [94, 36], [94], [36], [36, 97], [97, 94], [97, 42], [97, 43], [97, 63, 98], [40, 97, 42, 41, 42], [40, 97, 42, 41, 43, 98], [40, 97, 124, 98, 41, 42, 99], [40, 124, 97, 41, 98], [40, 41], [40, 41, 42, 97], [40, 94, 97, 124, 98, 36, 41], [40, 94, 124, 98, 41, 97], [97, 40, 36, 124, 98, 41], [40, 94, 41, 42, 97], [40, 36, 41, 42], [97, 123, 50, 125], [97, 123, 50, 44, 125], [97, 123, 49, 44, 50, 125, 98], [40, 97, 98, 41, 123, 50, 125], [40, 97, 123, 48, 125, 98, 41], [97, 123, 48, 125], [91, 91, 58, 100, 105, 103, 105, 116, 58, 93, 93, 123, 51, 125], [91, 94, 97, 93], [46], [46, 46], [92, 46], [91, 46, 93], [97, 46, 99], [94, 40, 97, 124, 98, 41, 36], [40, 97, 98, 41, 43, 99], [97, 40], [42], [97, 123, 50, 53, 53, 125, 123, 50, 53, 53, 125], [91, 122, 45, 97, 93], [255], [91, 128, 45, 255, 93]]
theorem MH.keep {w w1 w2 : World} {g g2 k m q : Nat} {x y z : Bs} (hb : Below w1.heap.size w1 w2) (hg : g ≤ w1.heap.size) (h1 : Below g w w1) (h2 : Strs w1 g 44) (h3 : Strs w1 g2 15) (h4 : KEnv w1) (h5 : g < w1.heap.size) (h6 : g2 < w1.heap.size) (h7 : w1.cell? ⟨g, k, none⟩ = some (.string (bs x))) (h8 : w1.cell? ⟨g2, m, none⟩ = some (.string (bs y))) (h9 : w1.cell? ⟨g, q, none⟩ = some (.string (bs z))) :
 Below g w w2 ∧ Strs w2 g 44 ∧ Strs w2 g2 15 ∧ KEnv w2 ∧ g < w2.heap.size ∧ g2 < w2.heap.size ∧ w2.cell? ⟨g, k, none⟩ = some (.string (bs x)) ∧ w2.cell? ⟨g2, m, none⟩ = some (.string (bs y)) ∧ w2.cell? ⟨g, q, none⟩ = some (.string (bs z)) :=
 ⟨h1.trans (hb.mono hg), h2.later hb, h3.later hb, h4.step hb, Nat.lt_of_lt_of_le h5 hb.size, Nat.lt_of_lt_of_le h6 hb.size, (hb.cell (p := ⟨g, k, none⟩) h5).trans h7, (hb.cell (p := ⟨g2, m, none⟩) h6).trans h8, (hb.cell (p := ⟨g, q, none⟩) h5).trans h9⟩
theorem MP.keep {w w1 w2 : World} {g g2 k m q : Nat} {x y z : Bs} (hb : Below w1.heap.size w1 w2) (hg : g ≤ w1.heap.size) (h1 : Below g w w1) (h3 : Strs w1 g2 15) (h4 : KEnv w1) (h6 : g2 < w1.heap.size) (h7 : w1.cell? ⟨g2, k, none⟩ = some (.string (bs x))) (h8 : w1.cell? ⟨g2, m, none⟩ = some (.string (bs y))) (h9 : w1.cell? ⟨g2, q, none⟩ = some (.string (bs z))) :
 Below g w w2 ∧ Strs w2 g2 15 ∧ KEnv w2 ∧ g2 < w2.heap.size ∧ w2.cell? ⟨g2, k, none⟩ = some (.string (bs x)) ∧ w2.cell? ⟨g2, m, none⟩ = some (.string (bs y)) ∧ w2.cell? ⟨g2, q, none⟩ = some (.string (bs z)) :=
 ⟨h1.trans (hb.mono hg), h3.later hb, h4.step hb, Nat.lt_of_lt_of_le h6 hb.size, (hb.cell (p := ⟨g2, k, none⟩) h6).trans h7, (hb.cell (p := ⟨g2, m, none⟩) h6).trans h8, (hb.cell (p := ⟨g2, q, none⟩) h6).trans h9⟩
theorem yj (k m : Nat) : ∃ q : Nat, q < 44 ∧ ((k : Int) + (m : Int)).tmod 44 = (q : Int) := ⟨(k + m) % 44, Nat.mod_lt _ (by omega), by rw [← Int.natCast_add]; exact (Int.ofNat_tmod (k + m) 44).symm⟩
theorem yR (k m : Nat) : ((k : Int) + (m : Int)).tmod 3 = 0 ∨ ((k : Int) + (m : Int)).tmod 3 = 1 ∨ ((k : Int) + (m : Int)).tmod 3 = 2 := by
 have h : ((k : Int) + (m : Int)).tmod 3 = (((k + m) % 3 : Nat) : Int) := by rw [← Int.natCast_add]; exact (Int.ofNat_tmod (k + m) 3).symm
 rw [h]
 omega
theorem wV (m : Nat) : ∃ q : Nat, q < 15 ∧ ((m : Int) + 3).tmod 15 = (q : Int) := ⟨(m + 3) % 15, Nat.mod_lt _ (by omega), (Int.ofNat_tmod (m + 3) 15).symm⟩
theorem wU (m : Nat) : ∃ q : Nat, q < 15 ∧ ((m : Int) + 7).tmod 15 = (q : Int) := ⟨(m + 7) % 15, Nat.mod_lt _ (by omega), (Int.ofNat_tmod (m + 7) 15).symm⟩
theorem mc (k m : Nat) (h : k + m ≤ 1000) : IntKind.i64.wrap ((k : Int) + (m : Int)) = (k : Int) + (m : Int) := IntWalk.i64_in _ (by omega)
theorem eV {P : Program} {md : Region.Mode} {ops : Array Oper} {Q : Exit → Act → World → Prop} {S : World → Prop} {fuel i : Nat} {oi : Oper} {d : Tmp} {v : Value} {l : Array Bool} {a : Act} {w : World} (hi : ops[i]? = some oi) (hd : oi.dst = some d)
 (hc : (Region.noSelect ops && Region.free md ops l i && (Region.ready md ops l).contains i && Region.wanted oi (yielded ops a.tmps)) = true) (hQ : ∀ c a w, Q (.panic c) (a.put (some d) v) w → Q (.panic c) a w) (hS : S w)
 (hy : ∀ w, S w → (execOp a.eval oi).run P w = .ok (.value v) w) (h : wpAnyH P md ops Q S fuel (l.setIfInBounds i true) (a.put (some d) v) w) : wpAnyH P md ops Q S (fuel + 1) l a w := by
 simp only [Bool.and_eq_true] at hc
 rw [← hd] at h
 have hQ' : ∀ c (a : Act) w, Q (.panic c) (a.put oi.dst v) w → Q (.panic c) a w := by rw [hd]; exact hQ
 exact wpAnyH_take hi hc.1.1.1 hc.1.1.2 hc.1.2 hQ' (Or.inl ⟨hc.2, hy⟩) hS h
theorem eL {P : Program} {md : Region.Mode} {ops : Array Oper} {Q : Exit → Act → World → Prop} {S : World → Prop} {fuel i : Nat} {oi : Oper} {d : Tmp} {l : Array Bool} {a : Act} {w : World} (hi : ops[i]? = some oi) (hd : oi.dst = some d)
 (hc : (Region.noSelect ops && Region.free md ops l i && (Region.ready md ops l).contains i && !(Region.wanted oi (yielded ops a.tmps))) = true) (hQ : ∀ c a w, Q (.panic c) (a.put (some d) undef) w → Q (.panic c) a w) (hS : S w)
 (h : wpAnyH P md ops Q S fuel (l.setIfInBounds i true) (a.put (some d) undef) w) : wpAnyH P md ops Q S (fuel + 1) l a w := by
 simp only [Bool.and_eq_true, Bool.not_eq_true'] at hc
 rw [← hd] at h
 have hQ' : ∀ c (a : Act) w, Q (.panic c) (a.put oi.dst undef) w → Q (.panic c) a w := by rw [hd]; exact hQ
 exact wpAnyH_take hi hc.1.1.1 hc.1.1.2 hc.1.2 hQ' (Or.inr ⟨hc.2, rfl⟩) hS h
theorem oO (hF : KSS 13) (hJ : yO 14) (hP : yO 15) (hK : K0 16) : K0 5 := by
 intro w hE
 have HF := hid hF; have HJ := hid hJ; have HP := hid hP; have HK := hid hK; have HE := hid hE
 clear hF hJ hP hK hE
 go_enter Tryz.func5, Tryz.ntmps5
 go_upto_region 1 with fail
 apply wp_region_lit
 refine iM rfl 23 9 44 _ rfl vz Tryz.underlying23 (by kernel_rfl) (by kernel_rfl) (by kernel_rfl) (by decide) (by decide) (by kernel_rfl) (by kernel_rfl) (fun W0 hS0 hB0 => ?_)
 have HS0 := hid hS0; have HE0 := hid (HE.out.step hB0); have HB0 := hid hB0
 have hz0 : w.heap.size < W0.heap.size := hS0.1
 clear hS0 hB0
 generalize hgg : w.heap.size = g at *
 go_upto_region 3 with fail
 generalize hW : W0.alloc _ = W1
 obtain ⟨hS1, hB1⟩ := Strs.new (n := 15) hW (by kernel_rfl) (by kernel_rfl)
 have HS1 := hid hS1; have HE1 := hid (HE0.out.step hB1); have HB1 := hid (HB0.out.trans (hB1.mono (by omega))); have HS := hid (HS0.out.later hB1)
 clear hW hS1 hB1 HB0 HE0 HS0
 generalize W0.heap.size = g2 at *
 go_wp2_with fail
 go_loopg [3] 44 (fun n i wr => ∃ k : Nat, i = .int .i64 k ∧ k + n = 44 ∧ Below g w wr ∧ Strs wr g 44 ∧ Strs wr g2 15 ∧ KEnv wr)
 case atStart => exact ⟨0, rfl, rfl, HB1.out, HS.out, HS1.out, HE1.out⟩
 case round =>
  clear HB1 HS HS1 HE1
  obtain ⟨k, rfl, hk, hB, hS, hS2, hE⟩ := hrel
  have HB := hid hB; have HS := hid hS; have HS2 := hid hS2; have HE1 := hid hE; have Hk := hid hk
  clear hB hS hS2 hE hk
  by_cases hlt : k < 44
  · have hlti : (k : Int) < 44 := by omega
    go_wp2_with fail
    obtain ⟨G1, hG1⟩ : ∃ G, G = gk := ⟨_, rfl⟩
    subst hG1
    go_loopg [4] 15 (fun n i wr => ∃ m : Nat, i = .int .i64 m ∧ m + n = 15 ∧ Below g w wr ∧ Strs wr g 44 ∧ Strs wr g2 15 ∧ KEnv wr)
    case atStart => exact ⟨0, rfl, rfl, HB.out, HS.out, HS2.out, HE1.out⟩
    case round =>
     clear HB HS HS2 HE1
     obtain ⟨m, rfl, hm, hB, hS, hS2, hE⟩ := hrel
     have HB := hid hB; have HS := hid hS; have HS2 := hid hS2; have HE1 := hid hE; have Hm := hid hm
     clear hB hS hS2 hE hm
     by_cases hlm : m < 15
     · have hlmi : (m : Int) < 15 := by omega
       obtain ⟨q, hq, hqe⟩ := yj k m
       obtain ⟨x, hx, cx⟩ := HS.out.2 k hlt
       obtain ⟨y, hy, cy⟩ := HS2.out.2 m hlm
       obtain ⟨z, hz, cz⟩ := HS.out.2 q hq
       have hgz := HS.out.1; have hgz2 := HS2.out.1
       have hB := HB.out; have hS := HS.out; have hS2 := HS2.out; have hE := HE1.out
       have hw := mc k m (by omega)
       have hqi : (q : Int) < 44 := by omega
       have hq0 : (0 : Int) ≤ (q : Int) := by omega
       rcases yR k m with hre | hre
       · go_wp2_with fail
         go_region_held3 (fun w' => Below g w w' ∧ Strs w' g 44 ∧ Strs w' g2 15 ∧ KEnv w' ∧ g < w'.heap.size ∧ g2 < w'.heap.size ∧ w'.cell? ⟨g, k, none⟩ = some (.string (bs x)) ∧ w'.cell? ⟨g2, m, none⟩ = some (.string (bs y)) ∧ w'.cell? ⟨g, q, none⟩ = some (.string (bs z)))
          (first
           | ((try go_split_ands); refine MH.keep (by assumption) (by omega) ?_ ?_ ?_ ?_ ?_ ?_ ?_ ?_ ?_ <;> assumption)
           | ((try go_split_ands); refine MH.keep (Below.drew (Below.refl _ _)) (by omega) ?_ ?_ ?_ ?_ ?_ ?_ ?_ ?_ ?_ <;> assumption)
           | ((try go_split_ands); refine ⟨?_, ?_, ?_, ?_, ?_, ?_, ?_, ?_, ?_⟩ <;> assumption)
           | go_keep)
          (first
           | (go_at_call 13; (try go_split_ands); refine (HF.out _ (by assumption) x y (by omega) (by omega)).mono ?_; rintro e w' ⟨rfl, hb⟩)
           | (go_at_call 14; (try go_split_ands); refine (HJ.out _ (by assumption) x z y (by omega) (by omega) (by omega)).mono ?_; rintro e w' ⟨rfl, hb⟩))
         go_split_ands
         rename_i hB2 hS3 hS4 hE2 _ _ _ _ _
         have HB2 := hid hB2; have HS3 := hid hS3; have HS4 := hid hS4; have HE2 := hid hE2
         clear hB2 hS3 hS4 hE2
         go_wp2_with fail
         have hm := Hm.out
         go_roundg (gk - 1)
         case measure => omega
         case rel => exact ⟨m + 1, by go_num, by omega, HB2.out, HS3.out, HS4.out, HE2.out⟩
       · rcases hre with hre | hre
         all_goals
          go_wp2_with fail
          refine wp_region_held_drew (S := fun w' => Below g w w' ∧ Strs w' g 44 ∧ Strs w' g2 15 ∧ KEnv w' ∧ g < w'.heap.size ∧ g2 < w'.heap.size ∧ w'.cell? ⟨g, k, none⟩ = some (.string (bs x)) ∧ w'.cell? ⟨g2, m, none⟩ = some (.string (bs y)) ∧ w'.cell? ⟨g, q, none⟩ = some (.string (bs z))) (by kernel_rfl) ?_ (fun hHeld => ?_)
          · refine MH.keep (Below.drew (Below.refl _ _)) (by omega) ?_ ?_ ?_ ?_ ?_ ?_ ?_ ?_ ?_ <;> assumption
          refine' eV (i := 0) (d := 20) rfl rfl (by kernel_rfl) (fun _ _ _ h => h) hHeld (fun w s => by (try dsimp only at s); go_split_ands; go_simp; first | done | with_reducible rfl) ?_
          try simp only [Act.put, List.setIfInBounds_toArray, List.set_cons_zero, List.set_cons_succ]
          refine' eV (i := 1) (d := 21) rfl rfl (by kernel_rfl) (fun _ _ _ h => h) hHeld (fun w s => by (try dsimp only at s); go_split_ands; go_simp; first | done | with_reducible rfl) ?_
          try simp only [Act.put, List.setIfInBounds_toArray, List.set_cons_zero, List.set_cons_succ]
          refine' eV (i := 2) (d := 22) rfl rfl (by kernel_rfl) (fun _ _ _ h => h) hHeld (fun w s => by (try dsimp only at s); go_split_ands; go_simp; first | done | with_reducible rfl) ?_
          try simp only [Act.put, List.setIfInBounds_toArray, List.set_cons_zero, List.set_cons_succ]
          refine' eV (i := 3) (d := 23) rfl rfl (by kernel_rfl) (fun _ _ _ h => h) hHeld (fun w s => by (try dsimp only at s); go_split_ands; go_simp; first | done | with_reducible rfl) ?_
          try simp only [Act.put, List.setIfInBounds_toArray, List.set_cons_zero, List.set_cons_succ]
          refine' eV (i := 4) (d := 24) rfl rfl (by kernel_rfl) (fun _ _ _ h => h) hHeld (fun w s => by (try dsimp only at s); go_split_ands; go_simp; first | done | with_reducible rfl) ?_
          try simp only [Act.put, List.setIfInBounds_toArray, List.set_cons_zero, List.set_cons_succ]
          refine' eV (i := 5) (d := 25) rfl rfl (by kernel_rfl) (fun _ _ _ h => h) hHeld (fun w s => by (try dsimp only at s); go_split_ands; go_simp; first | done | with_reducible rfl) ?_
          try simp only [Act.put, List.setIfInBounds_toArray, List.set_cons_zero, List.set_cons_succ]
          refine' eV (i := 6) (d := 26) rfl rfl (by kernel_rfl) (fun _ _ _ h => h) hHeld (fun w s => by (try dsimp only at s); go_split_ands; go_simp; first | done | with_reducible rfl) ?_
          try simp only [Act.put, List.setIfInBounds_toArray, List.set_cons_zero, List.set_cons_succ]
          refine' eV (i := 7) (d := 27) rfl rfl (by kernel_rfl) (fun _ _ _ h => h) hHeld (fun w s => by (try dsimp only at s); go_split_ands; go_simp; first | done | with_reducible rfl) ?_
          try simp only [Act.put, List.setIfInBounds_toArray, List.set_cons_zero, List.set_cons_succ]
          refine wpAnyH_ready (rs := [8]) (by kernel_rfl) (by simp) ?_
          refine AllReadyH.cons rfl (fun K hK => ?_) AllReadyH.nil
          obtain ⟨i1, i2, i3, i4, i5, i6, i7, i8, i9⟩ := hHeld
          go_simp
          refine (HF.out _ i4 x y (by omega) (by omega)).mono ?_
          rintro e w' ⟨rfl, hb⟩
          go_wp2_with fail
          refine hK.out _ _ (MH.keep hb (by have := i1.size; omega) i1 i2 i3 i4 i5 i6 i7 i8 i9) (fun hHeld => ?_)
          clear hK K i1 i2 i3 i4 i5 i6 i7 i8 i9 hb
          try simp only [Act.put, List.setIfInBounds_toArray, List.set_cons_zero, List.set_cons_succ]
          refine' eV (i := 9) (d := 29) rfl rfl (by kernel_rfl) (fun _ _ _ h => h) hHeld (fun w s => by (try dsimp only at s); go_split_ands; go_simp; first | done | with_reducible rfl) ?_
          try simp only [Act.put, List.setIfInBounds_toArray, List.set_cons_zero, List.set_cons_succ]
          refine' eV (i := 10) (d := 30) rfl rfl (by kernel_rfl) (fun _ _ _ h => h) hHeld (fun w s => by (try dsimp only at s); go_split_ands; go_simp; first | done | with_reducible rfl) ?_
          try simp only [Act.put, List.setIfInBounds_toArray, List.set_cons_zero, List.set_cons_succ]
          refine' eV (i := 11) (d := 31) rfl rfl (by kernel_rfl) (fun _ _ _ h => h) hHeld (fun w s => by (try dsimp only at s); go_split_ands; go_simp; first | done | with_reducible rfl) ?_
          try simp only [Act.put, List.setIfInBounds_toArray, List.set_cons_zero, List.set_cons_succ]
          refine' eV (i := 12) (d := 32) rfl rfl (by kernel_rfl) (fun _ _ _ h => h) hHeld (fun w s => by (try dsimp only at s); go_split_ands; go_simp; first | done | with_reducible rfl) ?_
          try simp only [Act.put, List.setIfInBounds_toArray, List.set_cons_zero, List.set_cons_succ]
          refine' eV (i := 13) (d := 33) rfl rfl (by kernel_rfl) (fun _ _ _ h => h) hHeld (fun w s => by (try dsimp only at s); go_split_ands; go_simp; first | done | with_reducible rfl) ?_
          try simp only [Act.put, List.setIfInBounds_toArray, List.set_cons_zero, List.set_cons_succ]
          refine' eV (i := 14) (d := 34) rfl rfl (by kernel_rfl) (fun _ _ _ h => h) hHeld (fun w s => by (try dsimp only at s); go_split_ands; go_simp; first | done | with_reducible rfl) ?_
          try simp only [Act.put, List.setIfInBounds_toArray, List.set_cons_zero, List.set_cons_succ]
          refine' eV (i := 15) (d := 35) rfl rfl (by kernel_rfl) (fun _ _ _ h => h) hHeld (fun w s => by (try dsimp only at s); go_split_ands; go_simp; first | done | with_reducible rfl) ?_
          try simp only [Act.put, List.setIfInBounds_toArray, List.set_cons_zero, List.set_cons_succ]
          refine' eV (i := 16) (d := 36) rfl rfl (by kernel_rfl) (fun _ _ _ h => h) hHeld (fun w s => by (try dsimp only at s); go_split_ands; go_simp; first | done | with_reducible rfl) ?_
          try simp only [Act.put, List.setIfInBounds_toArray, List.set_cons_zero, List.set_cons_succ]
          refine eL (i := 17) (d := 37) rfl rfl (by kernel_rfl) (fun _ _ _ h => h) hHeld ?_
          try simp only [Act.put, List.setIfInBounds_toArray, List.set_cons_zero, List.set_cons_succ]
          refine eL (i := 18) (d := 38) rfl rfl (by kernel_rfl) (fun _ _ _ h => h) hHeld ?_
          try simp only [Act.put, List.setIfInBounds_toArray, List.set_cons_zero, List.set_cons_succ]
          refine eL (i := 19) (d := 39) rfl rfl (by kernel_rfl) (fun _ _ _ h => h) hHeld ?_
          try simp only [Act.put, List.setIfInBounds_toArray, List.set_cons_zero, List.set_cons_succ]
          refine eL (i := 20) (d := 40) rfl rfl (by kernel_rfl) (fun _ _ _ h => h) hHeld ?_
          try simp only [Act.put, List.setIfInBounds_toArray, List.set_cons_zero, List.set_cons_succ]
          refine eL (i := 21) (d := 41) rfl rfl (by kernel_rfl) (fun _ _ _ h => h) hHeld ?_
          try simp only [Act.put, List.setIfInBounds_toArray, List.set_cons_zero, List.set_cons_succ]
          refine eL (i := 22) (d := 42) rfl rfl (by kernel_rfl) (fun _ _ _ h => h) hHeld ?_
          try simp only [Act.put, List.setIfInBounds_toArray, List.set_cons_zero, List.set_cons_succ]
          refine eL (i := 23) (d := 43) rfl rfl (by kernel_rfl) (fun _ _ _ h => h) hHeld ?_
          try simp only [Act.put, List.setIfInBounds_toArray, List.set_cons_zero, List.set_cons_succ]
          refine eL (i := 24) (d := 44) rfl rfl (by kernel_rfl) (fun _ _ _ h => h) hHeld ?_
          try simp only [Act.put, List.setIfInBounds_toArray, List.set_cons_zero, List.set_cons_succ]
          refine eL (i := 25) (d := 45) rfl rfl (by kernel_rfl) (fun _ _ _ h => h) hHeld ?_
          try simp only [Act.put, List.setIfInBounds_toArray, List.set_cons_zero, List.set_cons_succ]
          refine eL (i := 26) (d := 46) rfl rfl (by kernel_rfl) (fun _ _ _ h => h) hHeld ?_
          try simp only [Act.put, List.setIfInBounds_toArray, List.set_cons_zero, List.set_cons_succ]
          refine eL (i := 27) (d := 47) rfl rfl (by kernel_rfl) (fun _ _ _ h => h) hHeld ?_
          try simp only [Act.put, List.setIfInBounds_toArray, List.set_cons_zero, List.set_cons_succ]
          refine eL (i := 28) (d := 48) rfl rfl (by kernel_rfl) (fun _ _ _ h => h) hHeld ?_
          try simp only [Act.put, List.setIfInBounds_toArray, List.set_cons_zero, List.set_cons_succ]
          refine eL (i := 29) (d := 49) rfl rfl (by kernel_rfl) (fun _ _ _ h => h) hHeld ?_
          try simp only [Act.put, List.setIfInBounds_toArray, List.set_cons_zero, List.set_cons_succ]
          refine eL (i := 30) (d := 50) rfl rfl (by kernel_rfl) (fun _ _ _ h => h) hHeld ?_
          try simp only [Act.put, List.setIfInBounds_toArray, List.set_cons_zero, List.set_cons_succ]
          refine eL (i := 31) (d := 51) rfl rfl (by kernel_rfl) (fun _ _ _ h => h) hHeld ?_
          try simp only [Act.put, List.setIfInBounds_toArray, List.set_cons_zero, List.set_cons_succ]
          refine eL (i := 32) (d := 52) rfl rfl (by kernel_rfl) (fun _ _ _ h => h) hHeld ?_
          try simp only [Act.put, List.setIfInBounds_toArray, List.set_cons_zero, List.set_cons_succ]
          refine eL (i := 33) (d := 53) rfl rfl (by kernel_rfl) (fun _ _ _ h => h) hHeld ?_
          try simp only [Act.put, List.setIfInBounds_toArray, List.set_cons_zero, List.set_cons_succ]
          refine eL (i := 34) (d := 54) rfl rfl (by kernel_rfl) (fun _ _ _ h => h) hHeld ?_
          try simp only [Act.put, List.setIfInBounds_toArray, List.set_cons_zero, List.set_cons_succ]
          refine eL (i := 35) (d := 55) rfl rfl (by kernel_rfl) (fun _ _ _ h => h) hHeld ?_
          try simp only [Act.put, List.setIfInBounds_toArray, List.set_cons_zero, List.set_cons_succ]
          refine' eV (i := 36) (d := 56) rfl rfl (by kernel_rfl) (fun _ _ _ h => h) hHeld (fun w s => by (try dsimp only at s); go_split_ands; go_simp; first | done | with_reducible rfl) ?_
          try simp only [Act.put, List.setIfInBounds_toArray, List.set_cons_zero, List.set_cons_succ]
          refine' eV (i := 37) (d := 57) rfl rfl (by kernel_rfl) (fun _ _ _ h => h) hHeld (fun w s => by (try dsimp only at s); go_split_ands; go_simp; first | done | with_reducible rfl) ?_
          try simp only [Act.put, List.setIfInBounds_toArray, List.set_cons_zero, List.set_cons_succ]
          refine wpAnyH_done (by kernel_rfl) ?_ _
          obtain ⟨hB2, hS3, hS4, hE2, _, _, _, _, _⟩ := hHeld
          have HB2 := hid hB2; have HS3 := hid hS3; have HS4 := hid hS4; have HE2 := hid hE2
          clear hB2 hS3 hS4 hE2
          go_wp2_with fail
          have hm := Hm.out
          go_roundg (gk - 1)
          case measure => omega
          case rel => exact ⟨m + 1, by go_num, by omega, HB2.out, HS3.out, HS4.out, HE2.out⟩
     · have hm' : (15 : Int) ≤ (m : Int) := by omega
       go_wp2_with fail
       have hk := Hk.out
       go_roundg (G1 - 1)
       case measure => omega
       case rel => exact ⟨k + 1, by go_num, by omega, HB.out, HS.out, HS2.out, HE1.out⟩
  · have hk' : (44 : Int) ≤ (k : Int) := by omega
    clear HS
    go_wp2_with fail
    go_loopg [5] 15 (fun n i wr => ∃ m : Nat, i = .int .i64 m ∧ m + n = 15 ∧ Below g w wr ∧ Strs wr g2 15 ∧ KEnv wr)
    case atStart => exact ⟨0, rfl, rfl, HB.out, HS2.out, HE1.out⟩
    case round =>
     clear HB HS2 HE1
     obtain ⟨m, rfl, hm, hB, hS2, hE⟩ := hrel
     have HB := hid hB; have HS2 := hid hS2; have HE1 := hid hE; have Hm := hid hm
     clear hB hS2 hE hm
     by_cases hlm : m < 15
     · have hlmi : (m : Int) < 15 := by omega
       obtain ⟨q, hq, hqe⟩ := wV m
       obtain ⟨r, hr, hre⟩ := wU m
       obtain ⟨x, hx, cx⟩ := HS2.out.2 m hlm
       obtain ⟨y, hy, cy⟩ := HS2.out.2 q hq
       obtain ⟨z, hz, cz⟩ := HS2.out.2 r hr
       have hgz2 := HS2.out.1
       have hB := HB.out; have hS2 := HS2.out; have hE := HE1.out
       have hqi : (q : Int) < 15 := by omega
       have hri : (r : Int) < 15 := by omega
       have P1 := hid (fun w' (h : KEnv w') => HP.out w' h x y z (by omega) (by omega) (by omega))
       have P2 := hid (show ∀ w', KEnv w' → Calls Tryz.prog 15 #[.string (bs x), .string ⟨#[]⟩, .string ⟨#[]⟩] w' fun e w'' => qB w' e w'' from fun w' h => HP.out w' h x [] [] (by omega) (by simp) (by simp))
       have hw3 : IntKind.i64.wrap ((m : Int) + 3) = (m : Int) + 3 := mc m 3 (by omega)
       have hw7 : IntKind.i64.wrap ((m : Int) + 7) = (m : Int) + 7 := mc m 7 (by omega)
       go_wp2_with fail
       go_region_held3 (fun w' => Below g w w' ∧ Strs w' g2 15 ∧ KEnv w' ∧ g2 < w'.heap.size ∧ w'.cell? ⟨g2, m, none⟩ = some (.string (bs x)) ∧ w'.cell? ⟨g2, q, none⟩ = some (.string (bs y)) ∧ w'.cell? ⟨g2, r, none⟩ = some (.string (bs z)))
        (first
         | ((try go_split_ands); refine MP.keep (by assumption) (by omega) ?_ ?_ ?_ ?_ ?_ ?_ ?_ <;> assumption)
         | ((try go_split_ands); refine MP.keep (Below.drew (Below.refl _ _)) (by omega) ?_ ?_ ?_ ?_ ?_ ?_ ?_ <;> assumption)
         | ((try go_split_ands); refine ⟨?_, ?_, ?_, ?_, ?_, ?_, ?_⟩ <;> assumption)
         | go_keep)
        (first
         | (go_at_call 15; (try go_split_ands); with_reducible refine (P1.out _ (by assumption)).mono ?_; rintro e w' ⟨rfl, hb⟩)
         | (go_at_call 15; (try go_split_ands); with_reducible refine (P2.out _ (by assumption)).mono ?_; rintro e w' ⟨rfl, hb⟩))
       go_split_ands
       rename_i hB2 hS4 hE2 _ _ _ _
       have HB2 := hid hB2; have HS4 := hid hS4; have HE2 := hid hE2
       clear hB2 hS4 hE2
       go_wp2_with fail
       have hm := Hm.out
       go_roundg (gk - 1)
       case measure => omega
       case rel => exact ⟨m + 1, by go_num, by omega, HB2.out, HS4.out, HE2.out⟩
     · have hm' : (15 : Int) ≤ (m : Int) := by omega
       go_wp2_with fail
       refine (HK.out wr HE1.out).mono ?_
       rintro e w1 ⟨rfl, hb1⟩
       go_wp2_with fail
       go_ret
       exact ⟨rfl, by rw [hgg]; exact HB.out.trans (hb1.mono (by have := HB.out.size; omega))⟩
def eq4 (a0 a1 a2 a3 b0 b1 b2 b3 : Int) : Bool := a0 == b0 && a1 == b1 && a2 == b2 && a3 == b3
theorem jp {a0 a1 a2 a3 b0 b1 b2 b3 : Int} : eq4 a0 a1 a2 a3 b0 b1 b2 b3 = true ↔ (a0 = b0 ∧ a1 = b1 ∧ a2 = b2 ∧ a3 = b3) := by
 simp [eq4, and_assoc]
@[go_sem] theorem zl (w : World) (d : Nat) (a0 a1 a2 a3 b0 b1 b2 b3 : Int) :
 (Op.equalIn (d + 2) 28 (.agg #[.int .u64 a0, .int .u64 a1, .int .u64 a2, .int .u64 a3]) (.agg #[.int .u64 b0, .int .u64 b1, .int .u64 b2, .int .u64 b3])).run Tryz.prog w = .ok (eq4 a0 a1 a2 a3 b0 b1 b2 b3) w := by
  rw [Op.equalIn]
  simp only [Sem.run_bind, run_underlying Tryz.underlying28, Result.andThen_ok]
  simp [go_sem, List.range']
  unfold eq4
  by_cases h0 : a0 = b0 <;> by_cases h1 : a1 = b1 <;> by_cases h2 : a2 = b2 <;> by_cases h3 : a3 = b3 <;> simp [h0, h1, h2, h3]
theorem et {P : Program} {ops : Array Oper} {o : Oper} {a : Act} {Q : Exit → Act → World → Prop} {K : Act → World → Prop} {E : Prop} {W : World} (base : Nat)
 (hgd : o.guard = none) (s x : Operand) (t e : TypeId) (z : Value) (size bytes : Nat)
 (ho : o.op = .call { callee := .builtin .append, args := #[s, x], argTypes := #[t, t] })
 (ht : P.underlying t = some (.slice e)) (hinfo : (P.info? e).map (fun i => (i.zero, i.size, i.bytes)) = some (some z, size, bytes)) (hz : z.cells.size = size) (hs0 : 0 < size) (hb0 : 0 < bytes)
 (v : Value) (n m : Nat) (xs ys : List Value) (ad : Addr) (c : Nat) (hs : a.eval s = v) (hx : a.eval x = .slice (some ad) m c) (hm : 0 < m) (hys : ys.length = m * size)
 (hnews : ∀ j u, ys[j]? = some u → W.cell? (ad.add j) = some u) (h1 : ∀ u ∈ ys, u.oneCell' = true)
 (HO : W.ownsRow base e size v n xs) (hbase : base ≤ W.heap.size) (hl : (n + m) * bytes ≤ 140737488355328)
 (h : ∀ g cap w1, w1.ownsRow base e size (.slice (some ⟨g, 0, none⟩) (n + m) cap) (n + m) (xs ++ ys) → W.grownBy w1 v.ownBlock → (v.ownBlock = some g ∨ g = W.heap.size) →
  K (a.put o.dst (.slice (some ⟨g, 0, none⟩) (n + m) cap)) w1) :
 if Region.wanted o (yielded ops a.tmps) = true then Oper.wp P o a W K Q else E := by
 obtain ⟨i0, hi, hzz⟩ := Option.map_eq_some_iff.1 hinfo
 simp only [Prod.mk.injEq] at hzz
 obtain ⟨hz0, hz1, hz2⟩ := hzz
 have hlen : n + m ≤ 140737488355328 := Nat.le_trans (Nat.le_mul_of_pos_right _ hb0) hl
 rw [if_pos (by simp [Region.wanted, hgd])]
 obtain ⟨v1, w1, hr, hown, hg, _, hat⟩ := run_append_own_at (P := P) W base t o.type e i0 z size bytes ht hi hz0 hz1 hz2 hz hs0 v n xs HO ad m c ys hys hnews h1 (by simp only [maxLen]; omega) hl hbase
 unfold Oper.wp execOp
 simp only [ho, resolve, invoke, builtin, Sem.run_bind, Sem.run_pure, Result.andThen_ok, List.map_toArray, List.map_cons, List.map_nil, hs, hx, hr]
 rcases hown.2 with ⟨_, h0⟩ | ⟨g, cap, cur, rfl, _⟩
 · omega
 · refine h g cap w1 hown hg ?_
   rcases hat with hat | hat
   · exact .inl hat.symm
   · exact .inr (by simpa [Value.ownBlock] using hat)
theorem eT {P : Program} {ops : Array Oper} {rest : List Oper} {o : Oper} {a : Act} {Q : Exit → Act → World → Prop} {W : World} (base : Nat)
 (hgd : o.guard = none) (s x : Operand) (t e : TypeId) (z : Value) (size bytes : Nat)
 (ho : o.op = .call { callee := .builtin .append, args := #[s, x], argTypes := #[t, t] })
 (ht : P.underlying t = some (.slice e)) (hinfo : (P.info? e).map (fun i => (i.zero, i.size, i.bytes)) = some (some z, size, bytes)) (hz : z.cells.size = size) (hs0 : 0 < size) (hb0 : 0 < bytes)
 (v : Value) (n m : Nat) (xs ys : List Value) (ad : Addr) (c : Nat) (hs : a.eval s = v) (hx : a.eval x = .slice (some ad) m c) (hm : 0 < m) (hys : ys.length = m * size)
 (hnews : ∀ j u, ys[j]? = some u → W.cell? (ad.add j) = some u) (h1 : ∀ u ∈ ys, u.oneCell' = true)
 (HO : W.ownsRow base e size v n xs) (hbase : base ≤ W.heap.size) (hl : (n + m) * bytes ≤ 140737488355328)
 (h : ∀ g cap w1, w1.ownsRow base e size (.slice (some ⟨g, 0, none⟩) (n + m) cap) (n + m) (xs ++ ys) → W.grownBy w1 v.ownBlock → (v.ownBlock = some g ∨ g = W.heap.size) →
  wpList P ops Q rest (a.put o.dst (.slice (some ⟨g, 0, none⟩) (n + m) cap)) w1) :
 wpList P ops Q (o :: rest) a W := by
 refine wpList_plain hgd fun K hK => ?_
 have := et (ops := ops) (o := o) (a := a) (Q := Q) (K := K) (E := True) base hgd s x t e z size bytes ho ht hinfo hz hs0 hb0 v n m xs ys ad c hs hx hm hys hnews h1 HO hbase hl (fun g cap w1 h1 h2 h3 => hK _ _ (h g cap w1 h1 h2 h3))
 rwa [if_pos (by simp [Region.wanted, hgd])] at this
structure St where
 k : Int
 s0 : Int
 s1 : Int
 s2 : Int
 s3 : Int
 nx : Int
 ot : Int
deriving Inhabited
abbrev St.V (s : St) : Value := .agg #[.int .i64 s.k, .int .u64 s.s0, .int .u64 s.s1, .int .u64 s.s2, .int .u64 s.s3, .int .i64 s.nx, .int .i64 s.ot]
def St.cells (s : St) : List Value := [.int .i64 s.k, .int .u64 s.s0, .int .u64 s.s1, .int .u64 s.s2, .int .u64 s.s3, .int .i64 s.nx, .int .i64 s.ot]
def aR (l : List St) : List Value := l.flatMap St.cells
theorem eu (l : List St) : (aR l).length = l.length * 7 := by
 induction l with
 | nil => rfl
 | cons s l ih =>
  show (s.cells ++ aR l).length = _
  rw [List.length_append, ih, List.length_cons]
  simp only [St.cells, List.length_cons, List.length_nil]
  omega
theorem fw (l : List St) (s : St) : aR (l ++ [s]) = aR l ++ s.cells := by simp [aR]
structure Lays (L : Nat) (r : Option Nat) (w w' : World) : Prop where
 os : w'.os = w.os
 tape : w'.tape = w.tape
 output : w'.output = w.output
 size : w.heap.size ≤ w'.heap.size
 block : ∀ k, k < w.heap.size → k ≠ L → some k ≠ r → w'.heap[k]? = w.heap[k]?
def aP (w : World) (v v' : Value) : Prop := v'.ownBlock = v.ownBlock ∨ ∃ b, v'.ownBlock = some b ∧ w.heap.size ≤ b
structure Layer (w : World) (L base : Nat) (v : Value) (l : List St) : Prop where
 cell : w.cell? ⟨L, 0, none⟩ = some v
 froz : w.frozen? ⟨L, 0, none⟩ = false
 own : w.ownsRow base 30 7 v l.length (aR l)
 ne : v.ownBlock ≠ some L
 base : base ≤ w.heap.size
theorem Layer.lt {w : World} {L base : Nat} {v : Value} {l : List St} (h : Layer w L base v l) : L < w.heap.size := World.block_lt_of_cell? _ _ h.cell
theorem Lays.refl (L : Nat) (r : Option Nat) (w : World) : Lays L r w w := ⟨rfl, rfl, rfl, Nat.le_refl _, fun _ _ _ _ => rfl⟩
theorem Lays.of_below {L : Nat} {r : Option Nat} {w w' : World} (h : Below w.heap.size w w') : Lays L r w w' := ⟨h.os, h.tape, h.output, h.size, fun k hk _ _ => h.block k hk⟩
theorem Lays.trans {L : Nat} {v v1 : Value} {a b c : World} (h : Lays L v.ownBlock a b) (hm : aP a v v1) (k : Lays L v1.ownBlock b c) : Lays L v.ownBlock a c :=
 ⟨k.os.trans h.os, k.tape.trans h.tape, k.output.trans h.output, Nat.le_trans h.size k.size, fun i hi h1 h2 => (k.block i (Nat.lt_of_lt_of_le hi h.size) h1 (fun e => by
  rcases hm with hm | ⟨b, hb, hle⟩
  · exact h2 (e.trans hm)
  · rw [hb] at e; injection e with e; omega)).trans (h.block i hi h1 h2)⟩
theorem aP.refl (w : World) (v : Value) : aP w v v := .inl rfl
theorem aP.trans {a b : World} {v v1 v2 : Value} (h : aP a v v1) (hs : a.heap.size ≤ b.heap.size) (k : aP b v1 v2) : aP a v v2 := by
 rcases k with k | ⟨x, hx, hle⟩
 · rcases h with h | ⟨y, hy, hle⟩
   · exact .inl (k.trans h)
   · exact .inr ⟨y, k.trans hy, hle⟩
 · exact .inr ⟨x, hx, by omega⟩
theorem Lays.cell {L : Nat} {r : Option Nat} {w w' : World} (h : Lays L r w w') {b o : Nat} (h0 : b < w.heap.size) (h1 : b ≠ L) (h2 : some b ≠ r) : w'.cell? ⟨b, o, none⟩ = w.cell? ⟨b, o, none⟩ := World.cell?_of_block (w := w) (h.block b h0 h1 h2)
theorem Lays.frozen {L : Nat} {r : Option Nat} {w w' : World} (h : Lays L r w w') {b o : Nat} (h0 : b < w.heap.size) (h1 : b ≠ L) (h2 : some b ≠ r) : w'.frozen? ⟨b, o, none⟩ = w.frozen? ⟨b, o, none⟩ := World.frozen?_of_block (w := w) (h.block b h0 h1 h2)
theorem Layer.later {w w' : World} {L base : Nat} {v : Value} {l : List St} (h : Layer w L base v l) (hb : Below w.heap.size w w') : Layer w' L base v l :=
 ⟨(hb.cell (p := ⟨L, 0, none⟩) h.lt).trans h.cell, (hb.frozen (p := ⟨L, 0, none⟩) h.lt).trans h.froz, h.own.kept (row := none) ⟨hb.os, hb.tape, hb.output, hb.size, fun k hk _ => hb.block k hk⟩ (by cases hv : v.ownBlock <;> simp), h.ne, Nat.le_trans h.base hb.size⟩
theorem St.cells_one (s : St) : ∀ u ∈ s.cells, u.oneCell' = true := by
 intro u hu
 simp only [St.cells, List.mem_cons, List.not_mem_nil, or_false] at hu
 rcases hu with rfl | rfl | rfl | rfl | rfl | rfl | rfl <;> rfl
theorem Tryz.infoState : (Tryz.prog.info? 30).map (fun i => (i.zero, i.size, i.bytes)) = some (some (.agg #[.int .i64 0, .int .u64 0, .int .u64 0, .int .u64 0, .int .u64 0, .int .i64 0, .int .i64 0]), 7, 56) := by kernel_rfl
theorem dU (w : World) (L base : Nat) (v : Value) (l : List St) (s : St) (h : Layer w L base v l) (hl : l.length ≤ 1000000) :
 Calls Tryz.prog 73 #[.pointer (some ⟨L, 0, none⟩), s.V] w fun e w' => e = .returned (.int .i64 l.length) ∧ ∃ v', Layer w' L base v' (l ++ [s]) ∧ aP w v v' ∧ Lays L v.ownBlock w w' := by
 have hL := h.lt
 have hc := h.cell
 have hf := h.froz
 obtain ⟨A, c, rfl⟩ : ∃ A c, v = .slice A l.length c := by
  rcases h.own.2 with ⟨rfl, h0⟩ | ⟨g, cap, cur, rfl, _⟩
  · exact ⟨none, 0, by rw [h0]⟩
  · exact ⟨_, cap, rfl⟩
 go_enter Tryz.func73, Tryz.ntmps73
 go_wp2_with fail
 have hown : ((w.alloc (.cells s.cells.toArray 30)).alloc (.cells s.cells.toArray 30)).drew.ownsRow base 30 7 (.slice A l.length c) l.length (aR l) :=
  ((h.own.alloc _).alloc _).kept (row := none) ⟨rfl, rfl, rfl, Nat.le_refl _, fun _ _ _ => rfl⟩ (by cases A <;> simp [Value.ownBlock])
 have hnews : ∀ j u, s.cells[j]? = some u → ((w.alloc (.cells s.cells.toArray 30)).alloc (.cells s.cells.toArray 30)).drew.cell? ((⟨w.heap.size + 1, 0, none⟩ : Addr).add j) = some u := by
  intro j u hu
  have e : (⟨w.heap.size + 1, 0, none⟩ : Addr).add j = ⟨w.heap.size + 1, j, none⟩ := by unfold Addr.add; split <;> simp_all
  rw [e, World.cell?_drew]
  rw [show w.heap.size + 1 = (w.alloc (.cells s.cells.toArray 30)).heap.size by simp, World.cell?_alloc_new]
  simpa using hu
 have hb0 : base ≤ ((w.alloc (.cells s.cells.toArray 30)).alloc (.cells s.cells.toArray 30)).drew.heap.size := by have := h.base; simp; omega
 have hLA : (Value.slice A l.length c).ownBlock ≠ some L := h.ne
 have hcL : ((w.alloc (.cells s.cells.toArray 30)).alloc (.cells s.cells.toArray 30)).drew.cell? ⟨L, 0, none⟩ = some (.slice A l.length c) := by
  rw [World.cell?_drew, World.cell?_alloc_lt _ _ _ (by simp; omega), World.cell?_alloc_lt _ _ _ hL, hc]
 have hfL : ((w.alloc (.cells s.cells.toArray 30)).alloc (.cells s.cells.toArray 30)).drew.frozen? ⟨L, 0, none⟩ = false := by
  rw [World.frozen?_drew, World.frozen?_alloc_old _ _ _ (by simp; omega), World.frozen?_alloc_old _ _ _ (by simp; omega), hf]
 have Hown := hid hown; have Hnews := hid hnews; have HcL := hid hcL; have HfL := hid hfL; have Hb0 := hid hb0; have H := hid h; have HLA := hid hLA
 clear hown hnews hcL hfL hb0 h hLA
 go_region_law (refine et base rfl (.tmp 9) (.tmp 11) 31 30 _ 7 56 rfl Tryz.underlying31 Tryz.infoState rfl (by omega) (by omega) (.slice A l.length c) l.length 1 (aR l) s.cells ⟨w.heap.size + 1, 0, none⟩ 1 rfl rfl (by omega) rfl Hnews.out s.cells_one Hown.out Hb0.out (by omega) (fun g cap w1 hown1 hg1 hat1 => ?_); have k0 : w1.cell? ⟨L, 0, none⟩ = some (.slice A l.length c) := (hg1.cell HcL.out (fun e => HLA.out e.symm)); have e0 : w1.frozen? ⟨L, 0, none⟩ = false := (World.frozen?_of_block (w := ((w.alloc (.cells s.cells.toArray 30)).alloc (.cells s.cells.toArray 30)).drew) (a := ⟨L, 0, none⟩) (hg1.block L (by simp; omega) (fun e => HLA.out e.symm))).trans HfL.out)
 all_goals
  have k1 := World.cell?_setCell_same w1 _ (.slice (some ⟨g, 0, none⟩) (l.length + 1) cap) k0
  have hlt : L < w1.heap.size := World.block_lt_of_cell? _ _ k0
  go_wp2_with fail
  go_ret
  have hg0 : (Value.slice A l.length c).ownBlock = some g ∨ w.heap.size ≤ g := by
   rcases hat1 with e | e
   · exact .inl e
   · exact .inr (by rw [e]; simp; omega)
  have hgL : g ≠ L := by
   intro e
   rcases hg0 with h0 | h0
   · exact HLA.out (by rw [h0, e])
   · omega
  have hz := hg1.size
  simp only [World.size_drew, World.size_alloc] at hz
  refine ⟨by go_num, _, ⟨k1, ?_, ?_, ?_, ?_⟩, ?_, ?_⟩
  · rw [World.frozen?_setCell]; exact e0
  · have := hown1.kept (w' := w1.setCell ⟨L, 0, none⟩ (.slice (some ⟨g, 0, none⟩) (l.length + 1) cap)) (row := some L) ⟨rfl, rfl, rfl, by simp, fun k hk hne => Below.heap_setCell _ _ _ _ (fun e => hne (by rw [e]))⟩ (.inr (by simp [Value.ownBlock]; exact hgL))
    rw [fw, List.length_append]
    exact this
  · simp only [Value.ownBlock]; intro e; injection e with e; exact hgL e
  · have := H.out.base; simp only [World.size_setCell]; omega
  · rcases hg0 with h0 | h0
    · exact .inl (by rw [h0]; rfl)
    · exact .inr ⟨g, rfl, h0⟩
  · refine ⟨hg1.os, hg1.tape, hg1.output, by simp only [World.size_setCell]; omega, fun k hk h1 h2 => ?_⟩
    rw [Below.heap_setCell _ _ _ _ h1, hg1.block k (by simp; omega) h2]
    show ((w.heap.push _).push _)[k]? = _
    rw [Array.getElem?_push, Array.getElem?_push]
    simp only [Array.size_push]
    rw [if_neg (by omega), if_neg (by omega)]
deriving instance DecidableEq for St
def xX (a b : St) : Bool := a.k == b.k && eq4 a.s0 a.s1 a.s2 a.s3 b.s0 b.s1 b.s2 b.s3 && a.nx == b.nx && a.ot == b.ot
theorem qg {a b : St} : xX a b = true ↔ a = b := by
 cases a; cases b
 simp [xX, eq4, and_assoc]
theorem vd (w : World) (d : Nat) (a0 a1 a2 a3 a4 a5 a6 b0 b1 b2 b3 b4 b5 b6 : Int) :
 (Op.equalIn (d + 3) 30 (.agg #[.int .i64 a0, .int .u64 a1, .int .u64 a2, .int .u64 a3, .int .u64 a4, .int .i64 a5, .int .i64 a6]) (.agg #[.int .i64 b0, .int .u64 b1, .int .u64 b2, .int .u64 b3, .int .u64 b4, .int .i64 b5, .int .i64 b6])).run Tryz.prog w = .ok (a0 == b0 && eq4 a1 a2 a3 a4 b1 b2 b3 b4 && a5 == b5 && a6 == b6) w := by
 rw [Op.equalIn]
 simp only [Sem.run_bind, run_underlying Tryz.underlying30, Result.andThen_ok]
 simp [go_sem, List.range']
 by_cases h0 : a0 = b0 <;> cases h1 : eq4 a1 a2 a3 a4 b1 b2 b3 b4 <;> by_cases h2 : a5 = b5 <;> by_cases h3 : a6 = b6 <;> simp [h0, h2, h3]
@[go_sem high] theorem yL (w : World) (a0 a1 a2 a3 a4 a5 a6 b0 b1 b2 b3 b4 b5 b6 : Int) :
 (binOp .neq 30 (.agg #[.int .i64 a0, .int .u64 a1, .int .u64 a2, .int .u64 a3, .int .u64 a4, .int .i64 a5, .int .i64 a6]) (.agg #[.int .i64 b0, .int .u64 b1, .int .u64 b2, .int .u64 b3, .int .u64 b4, .int .i64 b5, .int .i64 b6])).run Tryz.prog w = .ok (.bool (!(xX ⟨a0, a1, a2, a3, a4, a5, a6⟩ ⟨b0, b1, b2, b3, b4, b5, b6⟩))) w := by
  rw [run_neq_struct, vd _ 9997]; rfl
structure St7 (w : World) (b o : Nat) (s : St) : Prop where
 f0 : w.cell? ⟨b, o, none⟩ = some (.int .i64 s.k)
 f1 : w.cell? ⟨b, o + 1, none⟩ = some (.int .u64 s.s0)
 f2 : w.cell? ⟨b, o + 2, none⟩ = some (.int .u64 s.s1)
 f3 : w.cell? ⟨b, o + 3, none⟩ = some (.int .u64 s.s2)
 f4 : w.cell? ⟨b, o + 4, none⟩ = some (.int .u64 s.s3)
 f5 : w.cell? ⟨b, o + 5, none⟩ = some (.int .i64 s.nx)
 f6 : w.cell? ⟨b, o + 6, none⟩ = some (.int .i64 s.ot)
theorem St7.mono {w w' : World} {b o : Nat} {s : St} (h : St7 w b o s) (hk : ∀ o, w'.cell? ⟨b, o, none⟩ = w.cell? ⟨b, o, none⟩) : St7 w' b o s :=
 ⟨(hk _).trans h.f0, (hk _).trans h.f1, (hk _).trans h.f2, (hk _).trans h.f3, (hk _).trans h.f4, (hk _).trans h.f5, (hk _).trans h.f6⟩
theorem St7.of {w : World} {b o : Nat} {s : St} (h : ∀ j, j < 7 → w.cell? ⟨b, o + j, none⟩ = s.cells[j]?) : St7 w b o s :=
 ⟨h 0 (by omega), h 1 (by omega), h 2 (by omega), h 3 (by omega), h 4 (by omega), h 5 (by omega), h 6 (by omega)⟩
structure StsAt (w : World) (ok : Nat → Prop) (l : List St) (A : Option Addr) (c : Nat) : Prop where
 cap : l.length ≤ c
 len : l.length ≤ 17592186044416
 nil : A = none → c = 0
 at_ : 0 < l.length → ∃ b o, A = some ⟨b, o, none⟩ ∧ ok b ∧ ∀ i (hi : i < l.length), St7 w b (o + i * 7) l[i]
theorem StsAt.mono {w w' : World} {ok ok' : Nat → Prop} {l : List St} {A : Option Addr} {c : Nat} (h : StsAt w ok l A c) (hk : ∀ b, ok b → ok' b ∧ ∀ o, w'.cell? ⟨b, o, none⟩ = w.cell? ⟨b, o, none⟩) : StsAt w' ok' l A c :=
 ⟨h.cap, h.len, h.nil, fun hne => by
  obtain ⟨b, o, e, hb, hc⟩ := h.at_ hne
  exact ⟨b, o, e, (hk b hb).1, fun i hi => (hc i hi).mono (hk b hb).2⟩⟩
theorem StsAt.later {w w' : World} {ok : Nat → Prop} {B : Nat} {l : List St} {A : Option Addr} {c : Nat} (h : StsAt w ok l A c) (hb : Below B w w') (hok : ∀ b, ok b → b < B) : StsAt w' ok l A c :=
 h.mono fun b hk => ⟨hk, fun _ => hb.cell (p := ⟨b, _, none⟩) (hok b hk)⟩
abbrev iI (l : List St) (s : Int) (A : Option Addr) (c : Nat) : Value := .agg #[.slice A l.length c, .int .i64 s]
end Go.Proofs.YthlakbjnmbddaaaGreatDoor
namespace Go.Proofs.YthlakbjnmbddaaaGreatDoor
open Lib (hid)
open Go.RowKit Go.ChangeShapes Go.WideShapes Go.Deep
section
variable {H : Type} {enc : TypeId × Value → H} {P : Program} {tSt tSts tNfa tSet tI tU : TypeId} {w : World} {base : Nat} {spare : Nat → Bool} {held : Bool}
structure Types (P : Program) (tSt tSts tNfa tSet tI tU : TypeId) : Prop where
 set : P.underlying tSet = some (.array 4 tU)
 u : P.underlying tU = some (.int .u64)
 i : P.underlying tI = some (.int .i64)
 sts : P.underlying tSts = some (.slice tSt)
 st : ∃ f0 f1 f2 f3, P.underlying tSt = some (.struct #[f0, f1, f2, f3]) ∧ (f0.type = tI ∧ f0.offset = 0) ∧ (f1.type = tSet ∧ f1.offset = 1) ∧ (f2.type = tI ∧ f2.offset = 5) ∧ (f3.type = tI ∧ f3.offset = 6)
 nfa : ∃ f0 f1, P.underlying tNfa = some (.struct #[f0, f1]) ∧ (f0.type = tSts ∧ f0.offset = 0) ∧ (f1.type = tI ∧ f1.offset = 1)
 cSet : P.cellsOf tSet = 4
 cU : P.cellsOf tU = 1
 cI : P.cellsOf tI = 1
 cSts : P.cellsOf tSts = 1
 cSt : P.cellsOf tSt = 7
 cNfa : P.cellsOf tNfa = 2
 bSt : P.bytesOf tSt = 56
def WSt (s : St) : Prop := Wok ⟨s.s0, s.s1, s.s2, s.s3⟩
end
end Go.Proofs.YthlakbjnmbddaaaGreatDoor
namespace Go.Proofs.YthlakbjnmbddaaaGreatDoor
open Lib (hid)
open Go.RowKit
theorem wM {B : Nat} {a w : World} (h : Below B a w) (n : Nat) : Below B a (w.drewN n) := ⟨h.os, h.tape, h.output, h.size, h.block⟩
def fZ (a : List St) (sa : Int) (b : List St) (sb : Int) : Bool := decide (sa = sb ∧ a = b)
theorem pF (w : World) (ok : Nat → Prop) (a b : List St) (sa sb : Int) (A B : Option Addr) (c d : Nat) (ha : StsAt w ok a A c) (hb : StsAt w ok b B d) (hok : ∀ b, ok b → b < w.heap.size) :
 Calls Tryz.prog 32 #[iI a sa A c, iI b sb B d] w fun e w' => e = .returned (.bool (fZ a sa b sb)) ∧ Below w.heap.size w w' := by
 have hla := ha.len
 have hlb := hb.len
 by_cases h1 : sa = sb
 case neg =>
  have hres : fZ a sa b sb = false := by simp [fZ, h1]
  have Hres := hid hres; clear hres
  go_enter Tryz.func32, Tryz.ntmps32
  go_wp2_with fail
  go_ret
  exact ⟨by rw [Hres.out]; rfl, nal.alloc (by simp) _⟩
 subst h1
 by_cases h2 : a.length = b.length
 case neg =>
  have hres : fZ a sa b sa = false := by simp [fZ]; intro e; exact h2 (by rw [e])
  have Hres := hid hres; clear hres
  have h2' : ¬ ((a.length : Int) = b.length) := by omega
  go_enter Tryz.func32, Tryz.ntmps32
  go_wp2_with fail
  go_ret
  exact ⟨by rw [Hres.out]; rfl, nal.alloc (by simp) _⟩
 go_enter Tryz.func32, Tryz.ntmps32
 have h2' : (a.length : Int) = b.length := by omega
 go_wp2_with fail
 clear h2'
 generalize hW : (w.alloc _).alloc _ = W0
 have hB0 : Below w.heap.size w W0 := by subst hW; exact nal.alloc (by simp) _
 have p0 : W0.cell? ⟨w.heap.size, 0, none⟩ = some (.slice A a.length c) := by subst hW; simp [go_sem, h2]
 have q0 : W0.cell? ⟨w.heap.size + 1, 0, none⟩ = some (.slice B b.length d) := by subst hW; simp [go_sem]
 clear hW
 have ha0 := ha.later hB0 hok
 have hb0 := hb.later hB0 hok
 have h2a : a.length ≤ b.length := by omega
 have h2b : b.length ≤ a.length := by omega
 clear h2
 go_loopg [5] (a.length) (fun n i wr => ∃ (j : Nat) (m : Nat), i = .int .i64 j ∧ j + n = a.length ∧ (∀ k, k < j → a[k]? = b[k]?) ∧ wr = W0.drewN m)
 case atStart => exact ⟨0, 0, rfl, by omega, by omega, rfl⟩
 case round =>
  obtain ⟨j, m, rfl, hj, hm, rfl⟩ := hrel
  by_cases hlt : j < a.length
  · obtain ⟨x, o, rfl, hx, hcell⟩ := ha0.at_ (by omega)
    obtain ⟨y, u, rfl, hy, hcellb⟩ := hb0.at_ (by omega)
    obtain ⟨f0, f1, f2, f3, f4, f5, f6⟩ := hcell j hlt
    obtain ⟨g0, g1, g2, g3, g4, g5, g6⟩ := hcellb j (by omega)
    have i1 : (j : Int) < (a.length : Int) := by omega
    have i2 : (j : Int) < (b.length : Int) := by omega
    have i0 : (0 : Int) ≤ (j : Int) := by omega
    go_wp2_with fail
    go_quiet (fail)
    generalize hq : xX _ _ = q
    have hq' : xX a[j] b[j] = q := hq
    clear hq
    cases q with
    | false =>
     have hres : fZ a sa b sa = false := by
      simp only [fZ, decide_eq_false_iff_not, true_and]
      intro e
      subst e
      rw [qg.2 rfl] at hq'
      simp at hq'
     have Hres := hid hres; clear hres hq'
     go_wp2_with fail
     go_ret
     exact ⟨by rw [Hres.out]; rfl, by simpa using wM hB0 (m + nq)⟩
    | true =>
     have hq2 := hid (qg.1 hq'); clear hq'
     go_wp2_with fail
     go_roundg (gk - 1)
     case measure => omega
     case rel => exact ⟨j + 1, m + nq, by go_num, by omega, fun k hk => by
      rcases Nat.lt_or_ge k j with h | h
      · exact hm k h
      · have : k = j := by omega
        subst this
        rw [List.getElem?_eq_getElem hlt, List.getElem?_eq_getElem (by omega), hq2.out], by simp⟩
  · have hres : fZ a sa b sa = true := by
     simp only [fZ, decide_eq_true_eq, true_and]
     refine List.ext_getElem? fun k => ?_
     rcases Nat.lt_or_ge k j with h | h
     · exact hm k h
     · rw [List.getElem?_eq_none (by omega), List.getElem?_eq_none (by omega)]
    have Hres := hid hres; clear hres
    have i1 : (a.length : Int) ≤ (j : Int) := by omega
    go_wp2_with fail
    go_ret
    exact ⟨by rw [Hres.out]; rfl, wM hB0 _⟩
theorem dp {P : Program} {ops : Array Oper} {rest : List Oper} {o : Oper} {a : Act} {Q : Exit → Act → World → Prop} {W : World} (base : Nat)
 (hgd : o.guard = none) (s x : Operand) (t e : TypeId) (z : Value) (size bytes : Nat)
 (ho : o.op = .call { callee := .builtin .append, args := #[s, x], argTypes := #[t, t] })
 (ht : P.underlying t = some (.slice e)) (hinfo : (P.info? e).map (fun i => (i.zero, i.size, i.bytes)) = some (some z, size, bytes)) (hz : z.cells.size = size) (hs0 : 0 < size) (hb0 : 0 < bytes)
 (v : Value) (n m : Nat) (xs ys : List Value) (A : Option Addr) (c : Nat) (hs : a.eval s = v) (hx : a.eval x = .slice A m c) (hA : A = none → m = 0 ∧ c = 0) (hys : ys.length = m * size)
 (hnews : ∀ ad, A = some ad → ∀ j u, ys[j]? = some u → W.cell? (ad.add j) = some u) (h1 : ∀ u ∈ ys, u.oneCell' = true)
 (HO : W.ownsRow base e size v n xs) (hbase : base ≤ W.heap.size) (hl : (n + m) * bytes ≤ 140737488355328)
 (h : ∀ A' c' w1, w1.ownsRow base e size (.slice A' (n + m) c') (n + m) (xs ++ ys) → W.grownBy w1 v.ownBlock → ((Value.slice A' (n + m) c').ownBlock = v.ownBlock ∨ (Value.slice A' (n + m) c').ownBlock = some W.heap.size) →
  wpList P ops Q rest (a.put o.dst (.slice A' (n + m) c')) w1) :
 wpList P ops Q (o :: rest) a W := by
 refine wpList_plain hgd fun K hK => ?_
 obtain ⟨i0, hi, hzz⟩ := Option.map_eq_some_iff.1 hinfo
 simp only [Prod.mk.injEq] at hzz
 obtain ⟨hz0, hz1, hz2⟩ := hzz
 have hlen : n + m ≤ 140737488355328 := Nat.le_trans (Nat.le_mul_of_pos_right _ hb0) hl
 unfold Oper.wp execOp
 cases A with
 | none =>
  obtain ⟨rfl, rfl⟩ := hA rfl
  have hy : ys = [] := by simpa using hys
  subst hy
  have hr := run_append_owned_none (P := P) (w := W) base t o.type e i0 size ht hi v n xs HO
  simp only [ho, resolve, invoke, builtin, Sem.run_bind, Sem.run_pure, Result.andThen_ok, List.map_toArray, List.map_cons, List.map_nil, hs, hx, hr]
  have hv : ∃ A' c', v = .slice A' (n + 0) c' := by
   rcases HO.2 with ⟨rfl, rfl⟩ | ⟨g, cap, cur, rfl, _⟩
   · exact ⟨_, _, rfl⟩
   · exact ⟨_, _, rfl⟩
  obtain ⟨A', c', rfl⟩ := hv
  exact hK _ _ (h A' c' W (by simpa using HO) ⟨rfl, rfl, rfl, Nat.le_refl _, fun _ _ _ => rfl⟩ (.inl rfl))
 | some ad =>
  obtain ⟨v1, w1, hr, hown, hg, _, hat⟩ := run_append_own_at (P := P) W base t o.type e i0 z size bytes ht hi hz0 hz1 hz2 hz hs0 v n xs HO ad m c ys hys (hnews ad rfl) h1 (by simp only [maxLen]; omega) hl hbase
  simp only [ho, resolve, invoke, builtin, Sem.run_bind, Sem.run_pure, Result.andThen_ok, List.map_toArray, List.map_cons, List.map_nil, hs, hx, hr]
  have hv : ∃ A' c', v1 = .slice A' (n + m) c' := by
   rcases hown.2 with ⟨rfl, h0⟩ | ⟨g, cap, cur, rfl, _⟩
   · exact ⟨_, _, by rw [h0]⟩
   · exact ⟨_, _, rfl⟩
  obtain ⟨A', c', rfl⟩ := hv
  exact hK _ _ (h A' c' w1 hown hg hat)
theorem mD (b o j : Nat) : (⟨b, o, none⟩ : Addr).add j = ⟨b, o + j, none⟩ := by unfold Addr.add; split <;> simp_all
theorem oD (l : List St) : ∀ u ∈ aR l, u.oneCell' = true := by
 intro u hu
 obtain ⟨s, hs, hu⟩ := List.mem_flatMap.1 hu
 exact s.cells_one u hu
theorem eN : ∀ (l : List St) (i j : Nat) (hi : i < l.length), j < 7 → (aR l)[i * 7 + j]? = l[i].cells[j]?
 | s :: l, 0, j, hi, hj => by
  show (s.cells ++ aR l)[0 * 7 + j]? = _
  rw [Nat.zero_mul, Nat.zero_add, List.getElem?_append_left (by simp [St.cells]; omega)]
  rfl
 | s :: l, i + 1, j, hi, hj => by
  show (s.cells ++ aR l)[(i + 1) * 7 + j]? = _
  rw [List.getElem?_append_right (by simp [St.cells]; omega)]
  simp only [St.cells, List.length_cons, List.length_nil]
  rw [show (i + 1) * 7 + j - (0 + 1 + 1 + 1 + 1 + 1 + 1 + 1) = i * 7 + j by omega, eN l i j (by simpa using hi) hj]
  rfl
theorem St7.cells {w : World} {b o : Nat} {s : St} (h : St7 w b o s) (j : Nat) (hj : j < 7) : w.cell? ⟨b, o + j, none⟩ = s.cells[j]? := by
 have : j = 0 ∨ j = 1 ∨ j = 2 ∨ j = 3 ∨ j = 4 ∨ j = 5 ∨ j = 6 := by omega
 rcases this with rfl | rfl | rfl | rfl | rfl | rfl | rfl
 · exact h.f0
 · exact h.f1
 · exact h.f2
 · exact h.f3
 · exact h.f4
 · exact h.f5
 · exact h.f6
theorem StsAt.cells {w : World} {ok : Nat → Prop} {l : List St} {b o c : Nat} (h : StsAt w ok l (some ⟨b, o, none⟩) c) : ∀ j u, (aR l)[j]? = some u → w.cell? ⟨b, o + j, none⟩ = some u := by
 intro j u hu
 have hj : j < l.length * 7 := by
  rw [← eu]; exact (List.getElem?_eq_some_iff.1 hu).1
 obtain ⟨b', o', e, _, hc⟩ := h.at_ (by omega)
 simp only [Option.some.injEq, Addr.mk.injEq, and_true] at e
 obtain ⟨rfl, rfl⟩ := e
 have hi : j / 7 < l.length := by omega
 have := (hc (j / 7) hi).cells (j % 7) (Nat.mod_lt _ (by omega))
 rw [show o + j = o + j / 7 * 7 + j % 7 by omega, this, ← eN l _ _ hi (Nat.mod_lt _ (by omega)), show j / 7 * 7 + j % 7 = j by omega, hu]
theorem mY {w : World} {base : Nat} {l : List St} {A : Option Addr} {c : Nat} (h : w.ownsRow base 30 7 (.slice A l.length c) l.length (aR l)) (hl : l.length ≤ 17592186044416) :
 StsAt w (fun b => base ≤ b ∧ b < w.heap.size) l A c := by
 have h0 := h
 rcases h.2 with ⟨e, h1⟩ | ⟨g, cap, cur, e, hb, hg, hn, _⟩
 · simp only [Value.slice.injEq] at e
   obtain ⟨rfl, _, rfl⟩ := e
   exact ⟨by omega, hl, fun _ => rfl, fun hh => by omega⟩
 · simp only [Value.slice.injEq] at e
   obtain ⟨rfl, _, rfl⟩ := e
   have hlt : g < w.heap.size := by
    rcases Nat.lt_or_ge g w.heap.size with h | h
    · exact h
    · rw [Array.getElem?_eq_none h] at hg; simp at hg
   refine ⟨hn, hl, fun e => by simp at e, fun _ => ⟨g, 0, rfl, ⟨hb, hlt⟩, fun i hi => .of fun j hj => ?_⟩⟩
   rw [← eN l i j hi hj, Nat.zero_add]
   exact h0.cellAt _ (by omega)
theorem StsAt.take {w : World} {ok : Nat → Prop} {l m : List St} {A : Option Addr} {c : Nat} (h : StsAt w ok (l ++ m) A c) : StsAt w ok l A c :=
 ⟨by have := h.cap; simp at this; omega, by have := h.len; simp at this; omega, h.nil, fun hne => by
  obtain ⟨b, o, e, hb, hc⟩ := h.at_ (by simp; omega)
  exact ⟨b, o, e, hb, fun i hi => by have := hc i (by simp; omega); rwa [List.getElem_append_left hi] at this⟩⟩
def KM (f : Nat) : Prop := ∀ w, KEnv w → ∀ (l : List St) (sa : Int) (A : Option Addr) (c : Nat), StsAt w (fun b => b < w.heap.size) l A c → (∀ s ∈ l, WSt s) → ∀ x : Bs, x.length ≤ 1000000 → Calls Tryz.prog f #[iI l sa A c, .string (bs x)] w fun e w' => qB w e w'
def KMS (f : Nat) : Prop := ∀ w, KEnv w → ∀ (l : List St) (sa : Int) (A : Option Addr) (c : Nat), StsAt w (fun b => b < w.heap.size) l A c → (∀ s ∈ l, WSt s) → ∀ x y : Bs, x.length ≤ 1000000 → y.length ≤ 1000000 → Calls Tryz.prog f #[iI l sa A c, .string (bs x), .string (bs y)] w fun e w' => qB w e w'
def Ms (w : World) (g n : Nat) : Prop := g < w.heap.size ∧ ∀ i, i < n → ∃ (l : List St) (sa : Int) (A : Option Addr) (c : Nat), w.cell? ⟨g, i * 2, none⟩ = some (.slice A l.length c) ∧ w.cell? ⟨g, i * 2 + 1, none⟩ = some (.int .i64 sa) ∧ StsAt w (fun b => b < w.heap.size) l A c ∧ ∀ s ∈ l, WSt s
theorem ag {w w' : World} {l : List St} {A : Option Addr} {c : Nat} (h : StsAt w (fun b => b < w.heap.size) l A c) (hb : Below w.heap.size w w') : StsAt w' (fun b => b < w'.heap.size) l A c :=
 h.mono fun b hk => ⟨Nat.lt_of_lt_of_le hk hb.size, fun _ => hb.cell (p := ⟨b, _, none⟩) hk⟩
theorem Ms.later {w w' : World} {g n : Nat} (h : Ms w g n) (hb : Below w.heap.size w w') : Ms w' g n :=
 ⟨Nat.lt_of_lt_of_le h.1 hb.size, fun i hi => by
  obtain ⟨l, sa, A, c, h1, h2, h3, h4⟩ := h.2 i hi
  exact ⟨l, sa, A, c, (hb.cell (p := ⟨g, _, none⟩) h.1).trans h1, (hb.cell (p := ⟨g, _, none⟩) h.1).trans h2, ag h3 hb, h4⟩⟩
abbrev mC (l : List St) : Obj := .cells (aR l).toArray 30
theorem er {w W : World} (l : List St) (hW : W = w.alloc (mC l)) (hl : l.length ≤ 17592186044416) : StsAt W (fun b => b < W.heap.size) l (some ⟨w.heap.size, 0, none⟩) l.length :=
 ⟨Nat.le_refl _, hl, fun h => by simp at h, fun hne => ⟨w.heap.size, 0, rfl, by rw [hW]; simp, fun i hi => .of fun j hj => by
  rw [hW, World.cell?_alloc_new, List.getElem?_toArray, Nat.zero_add, eN l i j hi hj]⟩⟩
theorem sA (w : World) (ok : Nat → Prop) : StsAt w ok [] none 0 := ⟨Nat.le_refl _, by simp, fun _ => rfl, fun h => by simp at h⟩
def wst (s : St) : Bool := decide (0 ≤ s.s0 ∧ s.s0 < 18446744073709551616) && decide (0 ≤ s.s1 ∧ s.s1 < 18446744073709551616) && decide (0 ≤ s.s2 ∧ s.s2 < 18446744073709551616) && decide (0 ≤ s.s3 ∧ s.s3 < 18446744073709551616)
theorem dS {l : List St} (h : l.all wst = true) : ∀ s ∈ l, WSt s := fun s hs => by
 have := List.all_eq_true.1 h s hs
 simp only [wst, Bool.and_eq_true, decide_eq_true_eq] at this
 exact ⟨this.1.1.1, this.1.1.2, this.1.2, this.2⟩
abbrev m0 : List St := [⟨2, 0, 0, 0, 0, 0, 0⟩]
abbrev m1 : List St := [⟨2, 0, 0, 0, 0, 1, 1⟩, ⟨2, 0, 0, 0, 0, 0, 2⟩, ⟨5, 0, 0, 0, 0, 0, 0⟩]
abbrev m2 : List St := [⟨3, 0, 0, 0, 0, 0, 0⟩]
abbrev m3 : List St := [⟨4, 0, 0, 0, 0, 0, 0⟩]
abbrev m4 : List St := [⟨3, 0, 0, 0, 0, 1, 0⟩, ⟨4, 0, 0, 0, 0, 2, 0⟩, ⟨1, 0, 2, 0, 0, 3, 0⟩, ⟨5, 0, 0, 0, 0, 0, 0⟩]
abbrev m5 : List St := [⟨1, 0, 2, 0, 0, 0, 0⟩]
abbrev m6 : List St := [⟨1, 0, 2, 0, 0, 1, 0⟩, ⟨4, 0, 0, 0, 0, 2, 0⟩, ⟨5, 0, 0, 0, 0, 0, 0⟩]
abbrev m7 : List St := [⟨5, 0, 0, 0, 0, 0, 0⟩, ⟨1, 0, 2, 0, 0, 2, 0⟩, ⟨3, 0, 0, 0, 0, 0, 0⟩]
abbrev m8 : List St := [⟨5, 0, 0, 0, 0, -9, 0⟩]
abbrev m10 : List St := [⟨1, 0, 0, 0, 0, 5, 0⟩]
abbrev mW (w : World) : World := (((((((((w.alloc (mC m0)).alloc (mC m1)).alloc (mC m2)).alloc (mC m3)).alloc (mC m4)).alloc (mC m5)).alloc (mC m6)).alloc (mC m7)).alloc (mC m8)).alloc (mC m10)
abbrev mK (n : Nat) : Array Value := #[.slice (some ⟨n, 0, none⟩) 1 1, .int .i64 0, .slice (some ⟨n + 1, 0, none⟩) 3 3, .int .i64 0, .slice (some ⟨n + 2, 0, none⟩) 1 1, .int .i64 0, .slice (some ⟨n + 3, 0, none⟩) 1 1, .int .i64 0, .slice (some ⟨n + 4, 0, none⟩) 4 4, .int .i64 0, .slice (some ⟨n + 5, 0, none⟩) 1 1, .int .i64 0, .slice (some ⟨n + 6, 0, none⟩) 3 3, .int .i64 0, .slice (some ⟨n + 7, 0, none⟩) 3 3, .int .i64 1, .slice (some ⟨n + 8, 0, none⟩) 1 1, .int .i64 0, .slice none 0 0, .int .i64 0, .slice (some ⟨n + 9, 0, none⟩) 1 1, .int .i64 0]
theorem rN (w : World) (o : Obj) : Below w.heap.size w (w.alloc o) := nal
theorem pV (w : World) : Below w.heap.size w (mW w) := by
 unfold mW
 exact (((((((((rN w _).alloc (by simp) _).alloc (by simp; omega) _).alloc (by simp; omega) _).alloc (by simp; omega) _).alloc (by simp; omega) _).alloc (by simp; omega) _).alloc (by simp; omega) _).alloc (by simp; omega) _).alloc (by simp; omega) _
theorem yu (w : World) (n : Nat) (hn : w.heap.size = n) : Ms ((mW w).alloc (.cells (mK n) 33)) (n + 10) 11 := by
 obtain ⟨V1, h1⟩ : ∃ V1, V1 = w.alloc (mC m0) := ⟨_, rfl⟩
 obtain ⟨V2, h2⟩ : ∃ V2, V2 = V1.alloc (mC m1) := ⟨_, rfl⟩
 obtain ⟨V3, h3⟩ : ∃ V3, V3 = V2.alloc (mC m2) := ⟨_, rfl⟩
 obtain ⟨V4, h4⟩ : ∃ V4, V4 = V3.alloc (mC m3) := ⟨_, rfl⟩
 obtain ⟨V5, h5⟩ : ∃ V5, V5 = V4.alloc (mC m4) := ⟨_, rfl⟩
 obtain ⟨V6, h6⟩ : ∃ V6, V6 = V5.alloc (mC m5) := ⟨_, rfl⟩
 obtain ⟨V7, h7⟩ : ∃ V7, V7 = V6.alloc (mC m6) := ⟨_, rfl⟩
 obtain ⟨V8, h8⟩ : ∃ V8, V8 = V7.alloc (mC m7) := ⟨_, rfl⟩
 obtain ⟨V9, h9⟩ : ∃ V9, V9 = V8.alloc (mC m8) := ⟨_, rfl⟩
 obtain ⟨V10, h10⟩ : ∃ V10, V10 = V9.alloc (mC m10) := ⟨_, rfl⟩
 obtain ⟨V, hV⟩ : ∃ V, V = V10.alloc (.cells (mK n) 33) := ⟨_, rfl⟩
 have e : (mW w).alloc (.cells (mK n) 33) = V := by rw [hV, h10, h9, h8, h7, h6, h5, h4, h3, h2, h1]
 have z1 : V1.heap.size = n + 1 := by rw [h1]; simp [hn]
 have z2 : V2.heap.size = n + 2 := by rw [h2]; simp [z1]
 have z3 : V3.heap.size = n + 3 := by rw [h3]; simp [z2]
 have z4 : V4.heap.size = n + 4 := by rw [h4]; simp [z3]
 have z5 : V5.heap.size = n + 5 := by rw [h5]; simp [z4]
 have z6 : V6.heap.size = n + 6 := by rw [h6]; simp [z5]
 have z7 : V7.heap.size = n + 7 := by rw [h7]; simp [z6]
 have z8 : V8.heap.size = n + 8 := by rw [h8]; simp [z7]
 have z9 : V9.heap.size = n + 9 := by rw [h9]; simp [z8]
 have z10 : V10.heap.size = n + 10 := by rw [h10]; simp [z9]
 have zV : V.heap.size = n + 11 := by rw [hV]; simp [z10]
 have b2 : Below V1.heap.size V1 V2 := by rw [h2]; exact rN _ _
 have b3 : Below V2.heap.size V2 V3 := by rw [h3]; exact rN _ _
 have b4 : Below V3.heap.size V3 V4 := by rw [h4]; exact rN _ _
 have b5 : Below V4.heap.size V4 V5 := by rw [h5]; exact rN _ _
 have b6 : Below V5.heap.size V5 V6 := by rw [h6]; exact rN _ _
 have b7 : Below V6.heap.size V6 V7 := by rw [h7]; exact rN _ _
 have b8 : Below V7.heap.size V7 V8 := by rw [h8]; exact rN _ _
 have b9 : Below V8.heap.size V8 V9 := by rw [h9]; exact rN _ _
 have b10 : Below V9.heap.size V9 V10 := by rw [h10]; exact rN _ _
 have bV : Below V10.heap.size V10 V := by rw [hV]; exact rN _ _
 have s0 := ag (ag (ag (ag (ag (ag (ag (ag (ag (ag (er m0 h1 (by simp)) b2) b3) b4) b5) b6) b7) b8) b9) b10) bV
 have s1 := ag (ag (ag (ag (ag (ag (ag (ag (ag (er m1 h2 (by simp)) b3) b4) b5) b6) b7) b8) b9) b10) bV
 have s2 := ag (ag (ag (ag (ag (ag (ag (ag (er m2 h3 (by simp)) b4) b5) b6) b7) b8) b9) b10) bV
 have s3 := ag (ag (ag (ag (ag (ag (ag (er m3 h4 (by simp)) b5) b6) b7) b8) b9) b10) bV
 have s4 := ag (ag (ag (ag (ag (ag (er m4 h5 (by simp)) b6) b7) b8) b9) b10) bV
 have s5 := ag (ag (ag (ag (ag (er m5 h6 (by simp)) b7) b8) b9) b10) bV
 have s6 := ag (ag (ag (ag (er m6 h7 (by simp)) b8) b9) b10) bV
 have s7 := ag (ag (ag (er m7 h8 (by simp)) b9) b10) bV
 have s8 := ag (ag (er m8 h9 (by simp)) b10) bV
 have s10 := ag (er m10 h10 (by simp)) bV
 rw [hn] at s0; rw [z1] at s1; rw [z2] at s2; rw [z3] at s3; rw [z4] at s4; rw [z5] at s5; rw [z6] at s6; rw [z7] at s7; rw [z8] at s8; rw [z9] at s10
 have hc : ∀ j, V.cell? ⟨n + 10, j, none⟩ = (mK n)[j]? := fun j => by rw [hV, ← z10, World.cell?_alloc_new]
 rw [e]
 refine ⟨by omega, fun i hi => ?_⟩
 rcases (show i = 0 ∨ i = 1 ∨ i = 2 ∨ i = 3 ∨ i = 4 ∨ i = 5 ∨ i = 6 ∨ i = 7 ∨ i = 8 ∨ i = 9 ∨ i = 10 by omega) with rfl | rfl | rfl | rfl | rfl | rfl | rfl | rfl | rfl | rfl | rfl
 · exact ⟨m0, 0, _, _, hc _, hc _, s0, dS (by decide)⟩
 · exact ⟨m1, 0, _, _, hc _, hc _, s1, dS (by decide)⟩
 · exact ⟨m2, 0, _, _, hc _, hc _, s2, dS (by decide)⟩
 · exact ⟨m3, 0, _, _, hc _, hc _, s3, dS (by decide)⟩
 · exact ⟨m4, 0, _, _, hc _, hc _, s4, dS (by decide)⟩
 · exact ⟨m5, 0, _, _, hc _, hc _, s5, dS (by decide)⟩
 · exact ⟨m6, 0, _, _, hc _, hc _, s6, dS (by decide)⟩
 · exact ⟨m7, 1, _, _, hc _, hc _, s7, dS (by decide)⟩
 · exact ⟨m8, 0, _, _, hc _, hc _, s8, dS (by decide)⟩
 · exact ⟨[], 0, none, 0, hc _, hc _, sA _ _, dS (by decide)⟩
 · exact ⟨m10, 0, _, _, hc _, hc _, s10, dS (by decide)⟩
theorem tX (hH : KM 17) (hS : KMS 18) (hK : K0 16) : K0 6 := by
 intro w hE
 have HH := hid hH; have HSt := hid hS; have HK := hid hK; have HE := hid hE
 clear hH hS hK hE
 go_enter Tryz.func6, Tryz.ntmps6
 go_upto_region 2 with fail
 generalize hW : World.alloc _ _ = W1
 have hb1 : Below w.heap.size w W1 := by subst hW; exact nal
 have f0 : W1.cell? ⟨w.heap.size, 0, none⟩ = some (.int .u64 0) := by subst hW; simp [go_sem]
 have f1 : W1.cell? ⟨w.heap.size, 1, none⟩ = some (.int .u64 2) := by subst hW; simp [go_sem]
 have f2 : W1.cell? ⟨w.heap.size, 2, none⟩ = some (.int .u64 0) := by subst hW; simp [go_sem]
 have f3 : W1.cell? ⟨w.heap.size, 3, none⟩ = some (.int .u64 0) := by subst hW; simp [go_sem]
 have hl : w.heap.size < W1.heap.size := by subst hW; simp
 have HB1 := hid hb1; have HE1 := hid (HE.out.step hb1)
 clear hW hb1
 generalize hba : w.heap.size = ba at *
 have hl1 : ba < W1.heap.size + 1 := by omega
 have hm1 : ba < W1.heap.size + 1 := by omega
 have hl2 : ba < W1.heap.size + 2 := by omega
 have hm2 : ba < W1.heap.size + 1 + 1 := by omega
 have hl3 : ba < W1.heap.size + 3 := by omega
 have hm3 : ba < W1.heap.size + 1 + 1 + 1 := by omega
 have hl4 : ba < W1.heap.size + 4 := by omega
 have hm4 : ba < W1.heap.size + 1 + 1 + 1 + 1 := by omega
 have hl5 : ba < W1.heap.size + 5 := by omega
 have hm5 : ba < W1.heap.size + 1 + 1 + 1 + 1 + 1 := by omega
 have hl6 : ba < W1.heap.size + 6 := by omega
 have hm6 : ba < W1.heap.size + 1 + 1 + 1 + 1 + 1 + 1 := by omega
 have hl7 : ba < W1.heap.size + 7 := by omega
 have hm7 : ba < W1.heap.size + 1 + 1 + 1 + 1 + 1 + 1 + 1 := by omega
 have hl8 : ba < W1.heap.size + 8 := by omega
 have hm8 : ba < W1.heap.size + 1 + 1 + 1 + 1 + 1 + 1 + 1 + 1 := by omega
 have hl9 : ba < W1.heap.size + 9 := by omega
 have hm9 : ba < W1.heap.size + 1 + 1 + 1 + 1 + 1 + 1 + 1 + 1 + 1 := by omega
 go_upto_region 3 with fail
 generalize hW : World.alloc _ _ = W2
 replace hW : (mW W1).alloc (.cells (mK W1.heap.size) 33) = W2 := hW
 have hM := yu W1 W1.heap.size rfl
 have hb2 : Below W1.heap.size W1 W2 := by rw [← hW]; exact (pV W1).alloc (pV W1).size _
 rw [hW] at hM
 have hg10 : W1.heap.size + 10 = W1.heap.size + 1 + 1 + 1 + 1 + 1 + 1 + 1 + 1 + 1 + 1 := rfl
 rw [hg10] at hM
 have HB2 := hid (HB1.out.trans (hb2.mono (by omega))); have HE2 := hid (HE1.out.step hb2); have HM2 := hid hM
 clear hW hb2 HB1 HE1 hM hg10 f0 f1 f2 f3 hl1 hm1 hl2 hm2 hl3 hm3 hl4 hm4 hl5 hm5 hl6 hm6 hl7 hm7 hl8 hm8 hl9 hm9 hl
 generalize W1.heap.size + 1 + 1 + 1 + 1 + 1 + 1 + 1 + 1 + 1 + 1 = g0 at *
 go_wp2_with fail
 go_loopg [3] 11 (fun n i wr => ∃ k : Nat, i = .int .i64 k ∧ k + n = 11 ∧ Below ba w wr ∧ Ms wr g0 11 ∧ KEnv wr)
 case atStart => exact ⟨0, rfl, rfl, HB2.out, HM2.out, HE2.out⟩
 case round =>
  clear HB2 HM2 HE2
  obtain ⟨k, rfl, hk, hB, hM, hE⟩ := hrel
  have HB := hid hB; have HM := hid hM; have HE1 := hid hE; have Hk := hid hk
  clear hB hM hE hk
  by_cases hlt : k < 11
  · have hlti : (k : Int) < 11 := by omega
    go_upto_region 7 with fail
    generalize hW : wr.alloc _ = W3
    obtain ⟨hS, hb3⟩ := Strs.new (n := 7) hW (by kernel_rfl) (by kernel_rfl)
    have hbs := HB.out.size
    have HS := hid hS; have HE2 := hid (HE1.out.step hb3); have HB2 := hid (HB.out.trans (hb3.mono (by omega))); have HM2 := hid (HM.out.later hb3)
    clear hW hS hb3 HE1 HB HM
    generalize wr.heap.size = g1 at *
    obtain ⟨G1, hG1⟩ : ∃ G, G = gk := ⟨_, rfl⟩
    subst hG1
    go_loopg [60] 7 (fun n i wr => ∃ m : Nat, i = .int .i64 m ∧ m + n = 7 ∧ Below ba w wr ∧ Ms wr g0 11 ∧ KEnv wr ∧ Strs wr g1 7)
    case atStart => exact ⟨0, rfl, rfl, HB2.out, HM2.out, HE2.out, HS.out⟩
    case round =>
     clear HB2 HM2 HE2 HS
     obtain ⟨m, rfl, hm, hB, hM, hE, hS⟩ := hrel
     have HB := hid hB; have HM := hid hM; have HE1 := hid hE; have Hm := hid hm; have HS := hid hS
     clear hB hM hE hm hS
     by_cases hlm : m < 7
     · have hlmi : (m : Int) < 7 := by omega
       obtain ⟨x, hx, cx⟩ := HS.out.2 m hlm
       obtain ⟨l, sa, A, c, c0, c1, hsts, hws⟩ := HM.out.2 k hlt
       have hz0 := HM.out.1; have hz1 := HS.out.1
       have Hsts := hid hsts; have Hws := hid hws
       have hbs := HB.out.size
       clear hsts hws
       go_wp2_with fail
       refine (HH.out wr HE1.out l sa A c Hsts.out Hws.out x (by omega)).mono ?_
       rintro e w1 ⟨rfl, hb1⟩
       have HE2 := hid (HE1.out.step hb1); have HB2 := hid (HB.out.trans (hb1.mono (by omega))); have HS2 := hid (HS.out.later hb1); have HM2 := hid (HM.out.later hb1); have Hsts2 := hid (ag Hsts.out hb1)
       have hz2 := hb1.size
       rw [← hb1.cell (p := ⟨g0, _, none⟩) hz0] at c0 c1
       clear hb1 HE1 HB HS HM Hsts cx
       go_wp2_with fail
       refine (HSt.out w1 HE2.out l sa A c Hsts2.out Hws.out x [97, 98] (by omega) (by simp)).mono ?_
       rintro e w2 ⟨rfl, hb2⟩
       have HE3 := hid (HE2.out.step hb2); have HB3 := hid (HB2.out.trans (hb2.mono (by have := HB2.out.size; omega))); have HS3 := hid (HS2.out.later hb2); have HM3 := hid (HM2.out.later hb2)
       clear hb2 HE2 HB2 HS2 HM2 c0 c1 Hsts2
       go_wp2_with fail
       have hm := Hm.out
       go_roundg (gk - 1)
       case measure => omega
       case rel => exact ⟨m + 1, by go_num, by omega, HB3.out, HM3.out, HE3.out, HS3.out⟩
     · have hm' : (7 : Int) ≤ (m : Int) := by omega
       go_wp2_with fail
       have hk := Hk.out
       go_roundg (G1 - 1)
       case measure => omega
       case rel => exact ⟨k + 1, by go_num, by omega, HB.out, HM.out, HE1.out⟩
  · have hk' : (11 : Int) ≤ (k : Int) := by omega
    go_wp2_with fail
    refine (HK.out wr HE1.out).mono ?_
    rintro e w1 ⟨rfl, hb1⟩
    go_wp2_with fail
    go_ret
    exact ⟨rfl, by rw [hba]; exact HB.out.trans (hb1.mono (by have := HB.out.size; omega))⟩
abbrev s77 : St := ⟨-77, 0, 0, 0, 0, 0, 0⟩
structure LentB (n : Nat) (sa : Int) (wr : World) (x v : Value) : Prop where
 p0 : wr.cell? ⟨n, 0, none⟩ = some x
 q0 : wr.cell? ⟨n + 1 + 1, 0, none⟩ = some v
 q1 : wr.cell? ⟨n + 1 + 1, 1, none⟩ = some (.int .i64 sa)
 qf : wr.frozen? ⟨n + 1 + 1, 0, none⟩ = false
 r0 : wr.cell? ⟨n + 1, 0, none⟩ = some (.slice none 0 0)
 r1 : wr.cell? ⟨n + 1, 1, none⟩ = some (.int .i64 0)
 rf0 : wr.frozen? ⟨n + 1, 0, none⟩ = false
 rf1 : wr.frozen? ⟨n + 1, 1, none⟩ = false
 sz : n + 2 < wr.heap.size
theorem LentB.grown {n : Nat} {sa : Int} {wr w1 : World} {x v : Value} {row : Option Nat} (h : LentB n sa wr x v) (hg : wr.grownBy w1 row) (hr : ∀ k, row = some k → n + 3 ≤ k) : LentB n sa w1 x v := by
 have hz := h.sz
 have k : ∀ b o, b < n + 3 → w1.cell? ⟨b, o, none⟩ = wr.cell? ⟨b, o, none⟩ := fun b o hb => World.cell?_of_block (w := wr) (hg.block b (by omega) (fun e => by have := hr b e.symm; omega))
 have f : ∀ b o, b < n + 3 → w1.frozen? ⟨b, o, none⟩ = wr.frozen? ⟨b, o, none⟩ := fun b o hb => World.frozen?_of_block (w := wr) (hg.block b (by omega) (fun e => by have := hr b e.symm; omega))
 have := hg.size
 exact ⟨(k _ _ (by omega)).trans h.p0, (k _ _ (by omega)).trans h.q0, (k _ _ (by omega)).trans h.q1, (f _ _ (by omega)).trans h.qf, (k _ _ (by omega)).trans h.r0, (k _ _ (by omega)).trans h.r1, (f _ _ (by omega)).trans h.rf0, (f _ _ (by omega)).trans h.rf1, by omega⟩
theorem LentB.set {n : Nat} {sa : Int} {wr : World} {x v : Value} (h : LentB n sa wr x v) (u : Value) : LentB n sa (wr.setCell ⟨n + 1 + 1, 0, none⟩ u) x u :=
 ⟨by rw [World.cell?_setCell_other (h := by simp)]; exact h.p0, World.cell?_setCell_same _ _ _ h.q0, by rw [World.cell?_setCell_other (h := by simp)]; exact h.q1, by rw [World.frozen?_setCell]; exact h.qf,
  by rw [World.cell?_setCell_other (h := by simp)]; exact h.r0, by rw [World.cell?_setCell_other (h := by simp)]; exact h.r1, by rw [World.frozen?_setCell]; exact h.rf0, by rw [World.frozen?_setCell]; exact h.rf1, by simpa using h.sz⟩
theorem tW {w : World} {x y v : Value} {sa : Int} {t : TypeId} : LentB w.heap.size sa (((w.alloc (.cells #[x, y] t)).alloc (.cells #[.slice none 0 0, .int .i64 0] t)).alloc (.cells #[v, .int .i64 sa] t)) x v := by
 have e : w.heap.size + 1 + 1 = (((w.alloc (.cells #[x, y] t)).alloc (.cells #[.slice none 0 0, .int .i64 0] t))).heap.size := by simp only [World.size_alloc]
 have e1 : w.heap.size + 1 = ((w.alloc (.cells #[x, y] t))).heap.size := by simp only [World.size_alloc]
 refine ⟨?_, ?_, ?_, ?_, ?_, ?_, ?_, ?_, ?_⟩
 · rw [World.cell?_alloc_lt _ _ _ (by simp only [World.size_alloc]; omega), World.cell?_alloc_lt _ _ _ (by simp only [World.size_alloc]; omega), World.cell?_alloc_new]; rfl
 · rw [e, World.cell?_alloc_new]; rfl
 · rw [e, World.cell?_alloc_new]; rfl
 · rw [e, World.frozen?_alloc_new]
 · rw [World.cell?_alloc_lt _ _ _ (by simp only [World.size_alloc]; omega), e1, World.cell?_alloc_new]; rfl
 · rw [World.cell?_alloc_lt _ _ _ (by simp only [World.size_alloc]; omega), e1, World.cell?_alloc_new]; rfl
 · rw [World.frozen?_alloc_old _ _ _ (by simp only [World.size_alloc]; omega), e1, World.frozen?_alloc_new]
 · rw [World.frozen?_alloc_old _ _ _ (by simp only [World.size_alloc]; omega), e1, World.frozen?_alloc_new]
 · simp only [World.size_alloc]; omega
def zi (w : World) (l : List St) (sa : Int) (A : Option Addr) (c n : Nat) (i : Value) (wr : World) : Prop :=
 ∃ (j : Nat) (A' : Option Addr) (c' : Nat), i = .int .i64 j ∧ j + n = 5 ∧ Below w.heap.size w wr ∧ LentB w.heap.size sa wr (.slice A l.length c) (.slice A' (l.length + j) c') ∧
  wr.ownsRow (w.heap.size + 3) 30 7 (.slice A' (l.length + j) c') (l.length + j) (aR (l ++ List.replicate j s77))
theorem pq {w : World} {base : Nat} {e : TypeId} {size n : Nat} {v : Value} {xs : List Value} (h : w.ownsRow base e size v n xs) : ∀ k, v.ownBlock = some k → base ≤ k := by
 intro k hk
 rcases h.2 with ⟨rfl, _⟩ | ⟨g, cap, cur, rfl, hb, _⟩
 · simp [Value.ownBlock] at hk
 · simp [Value.ownBlock] at hk; omega
theorem kh {B : Nat} {w wr w1 : World} {row : Option Nat} (h : Below B w wr) (hs : B ≤ wr.heap.size) (hg : wr.grownBy w1 row) (hr : ∀ k, row = some k → B ≤ k) : Below B w w1 :=
 ⟨hg.os.trans h.os, hg.tape.trans h.tape, hg.output.trans h.output, Nat.le_trans h.size hg.size, fun k hk => (hg.block k (by omega) (fun e => by have := hr k e.symm; omega)).trans (h.block k hk)⟩
theorem tV (w : World) (ok : Nat → Prop) (l : List St) (sa : Int) (A : Option Addr) (c : Nat) (ha : StsAt w ok l A c) (hok : ∀ b, ok b → b < w.heap.size) (hl : l.length ≤ 1000000) :
 Calls Tryz.prog 36 #[iI l sa A c] w fun e w' => ∃ A' c', e = .returned (iI l sa A' c') ∧ StsAt w' (fun b => w.heap.size ≤ b ∧ b < w'.heap.size) (l ++ List.replicate 5 s77) A' c' ∧ Below w.heap.size w w' := by
 go_enter Tryz.func36, Tryz.ntmps36
 have hA : A = none → l.length = 0 ∧ c = 0 := fun e => ⟨by
  rcases Nat.eq_zero_or_pos l.length with h | h
  · exact h
  · obtain ⟨b, o, e', _⟩ := ha.at_ h; rw [e] at e'; simp at e', ha.nil e⟩
 have hys := eu l
 have hnews : ∀ ad, A = some ad → ∀ j u, (aR l)[j]? = some u → (((w.alloc (.cells #[.slice A l.length c, .int .i64 sa] 33)).alloc (.cells #[.slice none 0 0, .int .i64 0] 33)).alloc (.cells #[.slice none 0 0, .int .i64 sa] 33)).cell? (ad.add j) = some u := by
  intro ad e j u hu
  have hj : j < l.length * 7 := by rw [← eu]; exact (List.getElem?_eq_some_iff.1 hu).1
  obtain ⟨b, o, e', hb, _⟩ := ha.at_ (by omega)
  rw [e'] at e
  simp only [Option.some.injEq] at e
  subst e
  have hlt := hok b hb
  subst e'
  rw [mD, World.cell?_alloc_lt _ _ _ (by simp; omega), World.cell?_alloc_lt _ _ _ (by simp; omega), World.cell?_alloc_lt _ _ _ hlt]
  exact ha.cells j u hu
 go_wp2_with (at_builtin; refine dp (w.heap.size + 3) rfl _ _ 31 30 _ 7 56 rfl Tryz.underlying31 Tryz.infoState rfl (by omega) (by omega) (.slice none 0 0) 0 l.length [] (aR l) A c rfl rfl hA hys hnews (oD l) ⟨rfl, .inl ⟨rfl, rfl⟩⟩ (by simp) (by omega) (fun A1 c1 w1 ho1 hg1 hat1 => ?_); have hb1 := tW.grown hg1 (by simp [Value.ownBlock]); have hbl := kh (((((Below.refl w.heap.size w).alloc (Nat.le_refl _) _).alloc (by simp) _).alloc (by simp; omega) _)) (by simp; omega) hg1 (by simp [Value.ownBlock]); obtain ⟨p0, q0, q1, qf, r0, r1, rf0, rf1, sz⟩ := hb1; clear hnews hA hys hat1)
 go_loopg [4] 5 (fun n i wr => zi w l sa A c n i wr)
 case atStart =>
  refine ⟨0, A1, c1, rfl, rfl, hbl.setCell (by simp; omega) _, LentB.set ⟨p0, q0, q1, qf, r0, r1, rf0, rf1, sz⟩ _, ?_⟩
  have := ho1.kept (w' := w1.setCell ⟨w.heap.size + 1 + 1, 0, none⟩ (.slice A1 l.length c1)) (row := some (w.heap.size + 1 + 1)) ⟨rfl, rfl, rfl, by simp, fun k hk hne => Below.heap_setCell _ _ _ _ (fun e => hne (by rw [e]))⟩ (.inr (fun e => by have := pq ho1 _ e; omega))
  simpa using this
 case round =>
  obtain ⟨j, A2, c2, rfl, hj, hB, hb2, ho2⟩ := hrel
  have HB := hid hB; have Hb2 := hid hb2; have Ho2 := hid ho2
  obtain ⟨p0, q0, q1, qf, r0, r1, rf0, rf1, sz⟩ := hb2
  clear hB ho2
  by_cases hlt : j < 5
  · have hnews : ∀ ad, some (⟨wr.heap.size, 0, none⟩ : Addr) = some ad → ∀ j u, s77.cells[j]? = some u → (wr.alloc (.cells s77.cells.toArray 30)).cell? (ad.add j) = some u := by
     intro ad e j u hu
     simp only [Option.some.injEq] at e
     subst e
     rw [mD, World.cell?_alloc_new, Nat.zero_add]
     simpa using hu
    go_wp2_with (at_builtin; refine dp (w.heap.size + 3) rfl _ _ 31 30 _ 7 56 rfl Tryz.underlying31 Tryz.infoState rfl (by omega) (by omega) (.slice A2 (l.length + j) c2) (l.length + j) 1 (aR (l ++ List.replicate j s77)) s77.cells (some ⟨wr.heap.size, 0, none⟩) 1 rfl rfl (by simp) rfl hnews s77.cells_one (Ho2.out.alloc _) (by simp; omega) (by omega) (fun A3 c3 w3 ho3 hg3 hat3 => ?_); have hb3 := (Hb2.out.grown (World.grownBy_alloc wr _ none) (by simp)).grown hg3 (pq Ho2.out); have hbl3 := kh (HB.out.alloc (by omega) _) (by simp; omega) hg3 (fun k hk => by have := pq Ho2.out k hk; omega); have Hb3 := hid hb3; obtain ⟨p0, q0, q1, qf, r0, r1, rf0, rf1, sz⟩ := hb3; clear hnews hat3)
    go_roundg (gk - 1)
    case measure => omega
    case rel =>
     refine ⟨j + 1, A3, c3, by go_num, by omega, hbl3.setCell (by simp; omega) _, Hb3.out.set _, ?_⟩
     have := ho3.kept (w' := w3.setCell ⟨w.heap.size + 1 + 1, 0, none⟩ (.slice A3 (l.length + j + 1) c3)) (row := some (w.heap.size + 1 + 1)) ⟨rfl, rfl, rfl, by simp, fun k hk hne => Below.heap_setCell _ _ _ _ (fun e => hne (by rw [e]))⟩ (.inr (fun e => by have := pq ho3 _ e; omega))
     rw [List.replicate_succ', ← List.append_assoc, fw]
     exact this
  · have hj5 : j = 5 := by omega
    subst hj5
    obtain ⟨g, rfl, hg⟩ : ∃ g, A2 = some ⟨g, 0, none⟩ ∧ w.heap.size + 3 ≤ g := by
     rcases Ho2.out.2 with ⟨e, h0⟩ | ⟨g, cap, cur, e, hb, _⟩
     · omega
     · simp only [Value.slice.injEq] at e; exact ⟨g, e.1, hb⟩
    have hcap : l.length + 5 ≤ c2 := by
     rcases Ho2.out.2 with ⟨e, h0⟩ | ⟨g, cap, cur, e, hb, _, hn, _⟩
     · omega
     · simp only [Value.slice.injEq] at e; omega
    go_wp2_with fail
    generalize hX : wr.setCell _ _ = X
    have x0 : X.cell? ⟨w.heap.size + 1, 0, none⟩ = some (.slice none 0 0) := by subst hX; rw [World.cell?_setCell_other (h := by simp)]; exact r0
    have x1 : X.cell? ⟨w.heap.size + 1, 1, none⟩ = some (.int .i64 0) := by subst hX; rw [World.cell?_setCell_other (h := by simp)]; exact r1
    have hXz : X.heap.size = wr.heap.size := by subst hX; simp
    have hXb : ∀ k, k ≠ w.heap.size + 1 + 1 → X.heap[k]? = wr.heap[k]? := fun k hk => by subst hX; exact Below.heap_setCell _ _ _ _ hk
    have hXB : Below w.heap.size w X := by subst hX; exact HB.out.setCell (by simp; omega) _
    clear hX
    have y1 := World.cell?_setCell_same (X.setCell ⟨w.heap.size + 1, 0, none⟩ (.slice (some ⟨g, 0, none⟩) l.length c2)) ⟨w.heap.size + 1, 1, none⟩ (.int .i64 sa) (by rw [World.cell?_setCell_other (h := by simp)]; exact x1)
    have y0 : ((X.setCell ⟨w.heap.size + 1, 0, none⟩ (.slice (some ⟨g, 0, none⟩) l.length c2)).setCell ⟨w.heap.size + 1, 1, none⟩ (.int .i64 sa)).cell? ⟨w.heap.size + 1, 0, none⟩ = some (.slice (some ⟨g, 0, none⟩) l.length c2) := by
     rw [World.cell?_setCell_other (h := by simp)]
     exact World.cell?_setCell_same X _ _ x0
    refine bodyPost_ret (v := iI l sa (some ⟨g, 0, none⟩) c2) (by simp [results, Tryz.results36, y0, y1, go_sem]) rfl ⟨_, _, rfl, ?_, ?_⟩
    · have h5 : (l ++ List.replicate 5 s77).length = l.length + 5 := by simp
      have hs := mY (A := some ⟨g, 0, none⟩) (c := c2) (l := l ++ List.replicate 5 s77) (w := wr) (base := w.heap.size + 3) (by rw [h5]; exact Ho2.out) (by omega)
      refine hs.mono fun b hb => ⟨?_, fun o => ?_⟩
      · simp only [World.size_setCell]; omega
      · exact World.cell?_of_block (w := wr) (by rw [Below.heap_setCell _ _ _ _ (by simp; omega), Below.heap_setCell _ _ _ _ (by simp; omega), hXb b (by omega)])
    · exact (hXB.setCell (by simp) _).setCell (by simp) _
theorem tZ (w : World) (ok : Nat → Prop) (l n : List St) (sa sb : Int) (A B : Option Addr) (c d : Nat) (ha : StsAt w ok (l ++ List.replicate 5 s77) A c) (hb : StsAt w ok n B d) (hok : ∀ b, ok b → b < w.heap.size) (hl : l.length ≤ 1000000) :
 Calls Tryz.prog 38 #[iI l sa A c, iI n sb B d] w fun e w' => e = .returned (.bool (fZ l sa n sb)) ∧ Below w.heap.size w w' := by
 have hln := hb.len
 obtain ⟨g, o, rfl, hg, hcell⟩ := ha.at_ (by simp)
 have hcap := ha.cap
 simp only [List.length_append, List.length_replicate] at hcap
 go_enter Tryz.func38, Tryz.ntmps38
 go_wp2_with fail
 generalize hW : (w.alloc _).alloc _ = W0
 have hB0 : Below w.heap.size w W0 := by subst hW; exact nal.alloc (by simp) _
 have hsz : w.heap.size + 2 ≤ W0.heap.size := by subst hW; simp
 have p0 : W0.cell? ⟨w.heap.size, 0, none⟩ = some (.slice (some ⟨g, o, none⟩) l.length c) := by subst hW; simp [go_sem]
 have q0 : W0.cell? ⟨w.heap.size + 1, 0, none⟩ = some (.slice B n.length d) := by subst hW; simp [go_sem]
 clear hW
 refine (pF W0 ok l n sa sb (some ⟨g, o, none⟩) B c d (ha.take.later hB0 hok) (hb.later hB0 hok) (fun b h => by have := hok b h; omega)).mono ?_
 rintro e w1 ⟨rfl, hb1⟩
 have hB1 : Below w.heap.size w w1 := hB0.trans (hb1.mono (by omega))
 have hs1 := hb1.size
 obtain ⟨hc1, _⟩ := ed hb1
 rw [← hc1 _ _ (by omega)] at p0 q0
 clear hc1
 cases hs : fZ l sa n sb with
 | false =>
  go_wp2_with fail
  go_ret
  exact ⟨by rw [hs]; rfl, hB1⟩
 | true =>
  have hls : l.length = n.length := by simp [fZ] at hs; rw [hs.2]
  have hcells : ∀ i, l.length ≤ i → i < l.length + 5 → w1.cell? ⟨g, o + i * 7, none⟩ = some (.int .i64 (-77)) := by
   intro i h1 h2
   have := (hcell i (by simp; omega)).f0
   rw [List.getElem_append_right h1, List.getElem_replicate] at this
   exact (hB1.cell (p := ⟨g, _, none⟩) (hok g hg)).trans this
  have hle : n.length + 5 ≤ c := by omega
  have hn6 : n.length ≤ 1000000 := by omega
  have Hcells := hid hcells
  have h1 : l.length ≤ n.length := by omega
  have h2 : n.length ≤ l.length := by omega
  have Hs := hid hs
  clear hcells hcell hs hls hcap
  have w5 : IntKind.i64.wrap ((n.length : Int) + 5) = (n.length + 5 : Nat) := by rw [IntKind.wrap_i64]; push_cast; omega
  go_wp2_with fail
  go_loopg [6] 5 (fun k i wr => ∃ (j : Nat), i = .int .i64 (n.length + j : Nat) ∧ j + k = 5 ∧ wr = w1)
  case atStart => exact ⟨0, by simp, rfl, rfl⟩
  case round =>
   obtain ⟨j, rfl, hj, rfl⟩ := hrel
   by_cases hlt : j < 5
   · have f0 := Hcells.out (n.length + j) (by omega) (by omega)
     go_wp2_with fail
     go_roundg (gk - 1)
     case measure => omega
     case rel => exact ⟨j + 1, by go_num, by omega, rfl⟩
   · go_wp2_with fail
     go_ret
     exact ⟨by rw [Hs.out]; rfl, hB1⟩
def inR (n i : Int) : Bool := decide (0 ≤ i) && decide (i < n)
def fA (n : Int) (s : St) : Bool := if s.k = 5 then true else if s.k = 1 ∨ s.k = 3 ∨ s.k = 4 then inR n s.nx else if s.k = 2 then inR n s.nx && inR n s.ot else false
def bB (l : List St) (sa : Int) : Int := if (l.length : Int) ≤ 4096 ∧ inR l.length sa = true then (if l.all (fA l.length) then 0 else 110) else 110
theorem pt (w : World) (b : Nat) (n i : Int) (h : w.cell? ⟨b, 0, none⟩ = some (.int .i64 n)) : Calls Tryz.prog 60 #[.int .i64 i, .pointer (some ⟨b, 0, none⟩)] w fun e w' => e = .returned (.bool (inR n i)) ∧ w' = w := by
 go_enter Tryz.func60, Tryz.ntmps60
 by_cases h1 : 0 ≤ i
 · by_cases h2 : i < n
   · have hr : inR n i = true := by simp [inR, h1, h2]
     have Hr := hid hr; clear hr
     go_wp2_with fail
     go_ret
     exact ⟨by rw [Hr.out]; rfl, rfl⟩
   · have hr : inR n i = false := by simp [inR]; omega
     have Hr := hid hr; clear hr
     go_wp2_with fail
     go_ret
     exact ⟨by rw [Hr.out]; rfl, rfl⟩
 · have hr : inR n i = false := by simp [inR]; omega
   have Hr := hid hr; clear hr
   go_wp2_with fail
   go_ret
   exact ⟨by rw [Hr.out]; rfl, rfl⟩
theorem ld (w : World) (ok : Nat → Prop) (l : List St) (sa : Int) (A : Option Addr) (c : Nat) (ha : StsAt w ok l A c) (hok : ∀ b, ok b → b < w.heap.size) :
 Calls Tryz.prog 39 #[iI l sa A c] w fun e w' => e = .returned (.int .i64 (bB l sa)) ∧ Below w.heap.size w w' := by
 have hmf : ∀ (fn : Fn) (first cap : Array Value) (w : World), (Instr.makeFunc fn first cap).run Tryz.prog w = .ok (.func fn first cap) w := fun _ _ _ _ => rfl
 have hlen := ha.len
 by_cases hbig : 4096 < (l.length : Int)
 · have hres : bB l sa = 110 := by rw [bB, if_neg (by omega)]
   have Hres := hid hres; clear hres
   go_enter Tryz.func39, Tryz.ntmps39
   go_wp2_with fail
   go_ret
   exact ⟨by rw [Hres.out]; rfl, nal.alloc (by simp) _⟩
 go_enter Tryz.func39, Tryz.ntmps39
 go_wp2_with fail
 generalize hW : (w.alloc _).alloc _ = W0
 have hB0 : Below w.heap.size w W0 := by subst hW; exact nal.alloc (by simp) _
 have hsz : w.heap.size + 2 ≤ W0.heap.size := by subst hW; simp
 have p0 : W0.cell? ⟨w.heap.size, 0, none⟩ = some (.slice A l.length c) := by subst hW; simp [go_sem]
 have p1 : W0.cell? ⟨w.heap.size, 1, none⟩ = some (.int .i64 sa) := by subst hW; simp [go_sem]
 have q0 : W0.cell? ⟨w.heap.size + 1, 0, none⟩ = some (.int .i64 l.length) := by subst hW; simp [go_sem]
 clear hW
 refine (pt _ (w.heap.size + 1) l.length sa q0).mono ?_
 rintro e wx ⟨rfl, rfl⟩
 cases hs : inR l.length sa with
 | false =>
  have hres : bB l sa = 110 := by rw [bB, if_neg (by simp [hs])]
  have Hres := hid hres; clear hres
  go_wp2_with fail
  go_ret
  exact ⟨by rw [Hres.out]; rfl, hB0⟩
 | true =>
  have hres : bB l sa = if l.all (fA l.length) then 0 else 110 := by rw [bB, if_pos ⟨by omega, hs⟩]
  have Hres := hid hres; clear hres hs
  go_wp2_with fail
  go_loopg [24] (l.length) (fun n i wr => ∃ j : Nat, i = .int .i64 j ∧ j + n = l.length ∧ (l.drop j).all (fA l.length) = l.all (fA l.length) ∧ Below w.heap.size w wr ∧ w.heap.size + 2 ≤ wr.heap.size ∧ wr.cell? ⟨w.heap.size + 1, 0, none⟩ = some (.int .i64 l.length))
  case atStart => exact ⟨0, rfl, by omega, rfl, hB0, hsz, q0⟩
  case round =>
   obtain ⟨j, rfl, hj, hm, hB, hz, hq⟩ := hrel
   have Hm := hid hm; clear hm
   clear hsz p0 p1 q0 hB0
   by_cases hlt : j < l.length
   · obtain ⟨b, o, rfl, hb, hcell⟩ := ha.at_ (by omega)
     obtain ⟨f0, f1, f2, f3, f4, f5, f6⟩ := (hcell j hlt).mono (w' := wr) (fun o => hB.cell (p := ⟨b, o, none⟩) (hok b hb))
     have Hd := hid (bI hlt)
     clear hcell
     generalize l[j] = s at *
     have hbz := hok b hb
     have fin : fA l.length s = false → bB l sa = 110 := fun h => by
      rw [Hres.out, ← Hm.out, Hd.out, List.all_cons, h]; rfl
     have go : fA l.length s = true → (l.drop (j + 1)).all (fA l.length) = l.all (fA l.length) := fun h => by
      rw [← Hm.out, Hd.out, List.all_cons, h, Bool.true_and]
     have Fin := hid fin; have Go := hid go; clear fin go
     obtain ⟨k, s0, s1, s2, s3, nx, ot⟩ := s
     simp only at f0 f1 f2 f3 f4 f5 f6
     have q1 : (wr.alloc (.cells #[.int .i64 k, .int .u64 s0, .int .u64 s1, .int .u64 s2, .int .u64 s3, .int .i64 nx, .int .i64 ot] 30)).cell? ⟨w.heap.size + 1, 0, none⟩ = some (.int .i64 l.length) := by
      rw [World.cell?_alloc_lt _ _ _ (by show w.heap.size + 1 < _; omega)]; exact hq
     by_cases k5 : k = 5
     · subst k5
       have hg := hid (Go.out (by simp [fA])); clear Go Fin
       go_wp2_with fail
       go_roundg (gk - 1)
       case measure => omega
       case rel => exact ⟨j + 1, by go_num, by omega, hg.out, hB.alloc (by omega) _, by simp; omega, q1⟩
     by_cases k134 : k = 1 ∨ k = 3 ∨ k = 4
     · have hstep : ∀ r, inR l.length nx = r → fA l.length ⟨k, s0, s1, s2, s3, nx, ot⟩ = r := fun r h => by
        simp only [fA]; rw [if_neg k5, if_pos k134, h]
       rcases k134 with rfl | rfl | rfl
       all_goals
        go_wp2_with fail
        refine (pt _ (w.heap.size + 1) l.length nx q1).mono ?_
        rintro e wx ⟨rfl, rfl⟩
        cases hr : inR l.length nx with
        | true =>
         have hg := hid (Go.out (hstep _ hr)); clear Go Fin hr hstep
         go_wp2_with fail
         go_roundg (gk - 1)
         case measure => omega
         case rel => exact ⟨j + 1, by go_num, by omega, hg.out, hB.alloc (by omega) _, by simp; omega, q1⟩
        | false =>
         have hg := hid (Fin.out (hstep _ hr)); clear Go Fin hr hstep
         go_wp2_with fail
         go_ret
         exact ⟨by rw [hg.out]; rfl, hB.alloc (by omega) _⟩
     by_cases k2 : k = 2
     · subst k2
       have hstep : fA l.length ⟨2, s0, s1, s2, s3, nx, ot⟩ = (inR l.length nx && inR l.length ot) := by simp [fA]
       clear k134 k5
       go_wp2_with fail
       refine (pt _ (w.heap.size + 1) l.length nx q1).mono ?_
       rintro e wx ⟨rfl, rfl⟩
       cases hr : inR l.length nx with
       | true =>
        go_wp2_with fail
        refine (pt _ (w.heap.size + 1) l.length ot q1).mono ?_
        rintro e wx ⟨rfl, rfl⟩
        cases hr2 : inR l.length ot with
        | true =>
         have hg := hid (Go.out (by rw [hstep, hr, hr2]; rfl)); clear Go Fin hr hr2 hstep
         go_wp2_with fail
         go_roundg (gk - 1)
         case measure => omega
         case rel => exact ⟨j + 1, by go_num, by omega, hg.out, hB.alloc (by omega) _, by simp; omega, q1⟩
        | false =>
         have hg := hid (Fin.out (by rw [hstep, hr, hr2]; rfl)); clear Go Fin hr hr2 hstep
         go_wp2_with fail
         go_ret
         exact ⟨by rw [hg.out]; rfl, hB.alloc (by omega) _⟩
       | false =>
        have hg := hid (Fin.out (by rw [hstep, hr]; rfl)); clear Go Fin hr hstep
        go_wp2_with fail
        go_ret
        exact ⟨by rw [hg.out]; rfl, hB.alloc (by omega) _⟩
     · have hg := hid (Fin.out (by simp [fA, k5, k134, k2]))
       have b1 : (k == 1) = false := by simp; omega
       have b2 : (k == 2) = false := by simp; omega
       have b3 : (k == 3) = false := by simp; omega
       have b4 : (k == 4) = false := by simp; omega
       have b5 : (k == 5) = false := by simp; omega
       clear Go Fin k5 k134 k2
       go_wp2_with fail
       go_ret
       exact ⟨by rw [hg.out]; rfl, hB.alloc (by omega) _⟩
   · have hg : l.all (fA l.length) = true := by rw [← Hm.out, List.drop_of_length_le (by omega)]; rfl
     have hg2 := hid (by rw [Hres.out, hg]; rfl : bB l sa = 0); clear hg
     have i1 : (l.length : Int) ≤ (j : Int) := by omega
     go_wp2_with fail
     go_ret
     exact ⟨by rw [hg2.out]; rfl, hB⟩
end Go.Proofs.YthlakbjnmbddaaaGreatDoor
