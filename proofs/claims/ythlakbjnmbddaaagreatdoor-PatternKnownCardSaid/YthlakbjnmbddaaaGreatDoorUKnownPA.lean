/- Merged texts, part of the proof KnownP: T, ParL, Bits, Rdr, Wr, PrL, Shelf, Wt, Nx, Kb, Ks, Ke, ParN, ParI, ParA, Ky, Kr, Kt. -/
import Derived.WalkKit
import Derived.Laws.Entries
import Derived.Laws.BitsAllLaws
import Derived.Test.YthlakbjnmbddaaaGreatDoorRows
import Derived.Deep.LoopGhost
import Derived.Lib.Hide
import Derived.Lib.Strings
import Derived.Laws.OwnMore
import Derived.Lib.Builder
import Derived.Lib.AppendStr
import Derived.Lib.UnsafeStr
import Derived.Shelf.Strings.Builder1
import Derived.Laws.AppendOwn
import Derived.Maps.AppendAt
import Derived.Laws.Externs
import Derived.Shelf.Small.Strs
import Derived.Shelf.Strconv.Itoa0
import Derived.Shelf.Strconv.Itoa1
import Derived.Shelf.LaysM
import Derived.Shelf.Strconv.Itoa2
import Derived.Shelf.Strconv.Itoa3
import Derived.Shelf.Strings.Search1
import Derived.Shelf.Strings.Search2
import Derived.Shelf.Strings.Cut
import Derived.Shelf.Strings.Shaped
import Derived.Test.YthlakbjnmbddaaaGreatDoorProg
import Derived.Lib.LaidTab
import Derived.Lib.AppendIntMem
import Derived.Deep.DeepCutAuto
import Derived.Deep.RegionHeld3
import Derived.BigRegion
import Derived.Great.BuildSlice
import Derived.Laws.IdiomStrings
/-
  Trees of patterns as plain data, and what it means that a value reads as one in a world. Plain Lean: no program in sight.
-/
set_option linter.unusedVariables false
namespace Go.Proofs.YthlakbjnmbddaaaGreatDoor
open Go.RowKit

/-- A pattern's tree, as data: its kind, its set's four words, Min, Max, its parts. -/
inductive T where
  | mk (k s0 s1 s2 s3 mn mx : Int) (ps : List T)
deriving Inhabited

namespace T
def k : T → Int | .mk k _ _ _ _ _ _ _ => k
def s0 : T → Int | .mk _ s _ _ _ _ _ _ => s
def s1 : T → Int | .mk _ _ s _ _ _ _ _ => s
def s2 : T → Int | .mk _ _ _ s _ _ _ _ => s
def s3 : T → Int | .mk _ _ _ _ s _ _ _ => s
def mn : T → Int | .mk _ _ _ _ _ m _ _ => m
def mx : T → Int | .mk _ _ _ _ _ _ m _ => m
def ps : T → List T | .mk _ _ _ _ _ _ _ p => p
theorem eta (t : T) : t = .mk t.k t.s0 t.s1 t.s2 t.s3 t.mn t.mx t.ps := by cases t; rfl
theorem lt_of_mem {p t : T} (h : p ∈ t.ps) : SizeOf.sizeOf p < SizeOf.sizeOf t := by
  cases t with
  | mk k s0 s1 s2 s3 mn mx ps =>
    have := List.sizeOf_lt_of_mem (show p ∈ ps from h)
    simp only [T.mk.sizeOf_spec]
    omega
/-- Induction over a tree and its parts. -/
theorem ind {motive : T → Prop} (h : ∀ t, (∀ p ∈ t.ps, motive p) → motive t) (t : T) : motive t :=
  h t fun p hp => ind h p
termination_by SizeOf.sizeOf t
decreasing_by exact lt_of_mem hp
end T

/-- A node's value: A, c: its parts' address and capacity. -/
abbrev nodeV (t : T) (A : Option Addr) (c : Nat) : Value :=
  .agg #[.int .i64 t.k, .int .u64 t.s0, .int .u64 t.s1, .int .u64 t.s2, .int .u64 t.s3, .int .i64 t.mn, .int .i64 t.mx, .slice A t.ps.length c]

/-- A node's eight cells from a place on. -/
structure At8 (w : World) (b o : Nat) (t : T) (A : Option Addr) (c : Nat) : Prop where
  f0 : w.cell? ⟨b, o, none⟩ = some (.int .i64 t.k)
  f1 : w.cell? ⟨b, o + 1, none⟩ = some (.int .u64 t.s0)
  f2 : w.cell? ⟨b, o + 2, none⟩ = some (.int .u64 t.s1)
  f3 : w.cell? ⟨b, o + 3, none⟩ = some (.int .u64 t.s2)
  f4 : w.cell? ⟨b, o + 4, none⟩ = some (.int .u64 t.s3)
  f5 : w.cell? ⟨b, o + 5, none⟩ = some (.int .i64 t.mn)
  f6 : w.cell? ⟨b, o + 6, none⟩ = some (.int .i64 t.mx)
  f7 : w.cell? ⟨b, o + 7, none⟩ = some (.slice A t.ps.length c)

theorem At8.mono {w w' : World} {b o : Nat} {t : T} {A : Option Addr} {c : Nat} (h : At8 w b o t A c) (hk : ∀ o, w'.cell? ⟨b, o, none⟩ = w.cell? ⟨b, o, none⟩) : At8 w' b o t A c :=
  ⟨(hk _).trans h.f0, (hk _).trans h.f1, (hk _).trans h.f2, (hk _).trans h.f3, (hk _).trans h.f4, (hk _).trans h.f5, (hk _).trans h.f6, (hk _).trans h.f7⟩

/-- A tree reads in a world, its parts' list at A with capacity c; every block that is read satisfies 'ok'. -/
inductive NodeAt (w : World) (ok : Nat → Prop) : T → Option Addr → Nat → Prop where
  | mk (t : T) (A : Option Addr) (c : Nat) (As : Nat → Option Addr) (cs : Nat → Nat) :
      t.ps.length ≤ c → t.ps.length ≤ 17592186044416 →
      (t.ps ≠ [] → ∃ b o, A = some ⟨b, o, none⟩ ∧ ok b ∧ ∀ i p, t.ps[i]? = some p → At8 w b (o + i * 8) p (As i) (cs i)) →
      (∀ i p, t.ps[i]? = some p → NodeAt w ok p (As i) (cs i)) →
      NodeAt w ok t A c

theorem NodeAt.mono {w w' : World} {ok ok' : Nat → Prop} (hk : ∀ b, ok b → ok' b ∧ ∀ o, w'.cell? ⟨b, o, none⟩ = w.cell? ⟨b, o, none⟩) {t : T} {A : Option Addr} {c : Nat} (h : NodeAt w ok t A c) : NodeAt w' ok' t A c := by
  induction h with
  | mk t A c As cs hc hl ha hp ih =>
    refine .mk t A c As cs hc hl (fun hne => ?_) ih
    obtain ⟨b, o, e, hb, hcell⟩ := ha hne
    exact ⟨b, o, e, (hk b hb).1, fun i p hi => (hcell i p hi).mono (hk b hb).2⟩

theorem NodeAt.later {w w' : World} {ok : Nat → Prop} {B : Nat} (hb : Below B w w') (hok : ∀ b, ok b → b < B) {t : T} {A : Option Addr} {c : Nat} (h : NodeAt w ok t A c) : NodeAt w' ok t A c :=
  h.mono fun b hk => ⟨hk, fun _ => hb.cell (p := ⟨b, _, none⟩) (hok b hk)⟩

/-- Part i: its eight cells, and that it reads. -/
theorem NodeAt.part {w : World} {ok : Nat → Prop} {t : T} {A : Option Addr} {c : Nat} (h : NodeAt w ok t A c) (hne : 0 < t.ps.length) :
    ∃ b o, A = some ⟨b, o, none⟩ ∧ ok b ∧ ∀ i (hi : i < t.ps.length), ∃ A' c', At8 w b (o + i * 8) t.ps[i] A' c' ∧ NodeAt w ok t.ps[i] A' c' := by
  cases h with
  | mk _ _ _ As cs hc hl ha hp =>
    obtain ⟨b, o, e, hb, hcell⟩ := ha (fun e => by simp [e] at hne)
    exact ⟨b, o, e, hb, fun i hi => ⟨_, _, hcell i _ (List.getElem?_eq_getElem hi), hp i _ (List.getElem?_eq_getElem hi)⟩⟩

theorem NodeAt.cap {w : World} {ok : Nat → Prop} {t : T} {A : Option Addr} {c : Nat} (h : NodeAt w ok t A c) : t.ps.length ≤ c := by cases h; assumption
theorem NodeAt.len {w : World} {ok : Nat → Prop} {t : T} {A : Option Addr} {c : Nat} (h : NodeAt w ok t A c) : t.ps.length ≤ 17592186044416 := by cases h; assumption

/-- Old cells and marks read as before: two rules for the walk. -/
theorem bcell {W w1 : World} (hb : Below W.heap.size W w1) : (∀ b o, b < W.heap.size → w1.cell? ⟨b, o, none⟩ = W.cell? ⟨b, o, none⟩) ∧ (∀ b o, b < W.heap.size → w1.frozen? ⟨b, o, none⟩ = W.frozen? ⟨b, o, none⟩) :=
  ⟨fun b o h => hb.cell (p := ⟨b, o, none⟩) h, fun b o h => hb.frozen (p := ⟨b, o, none⟩) h⟩

theorem drop_cons {α : Type} {l : List α} {j : Nat} (h : j < l.length) : l.drop j = l[j] :: l.drop (j + 1) := List.drop_eq_getElem_cons h

end Go.Proofs.YthlakbjnmbddaaaGreatDoor

/- Patterns read, plain: what a text reads as, or what is wrong with it. -/
set_option linter.unusedVariables false
set_option linter.unusedSimpArgs false
namespace Go.Proofs.YthlakbjnmbddaaaGreatDoor
open Go.RowKit

abbrev Bs := List UInt8
/-- A set of bytes: four words. -/
structure W4 where
  a : Int
  b : Int
  c : Int
  d : Int
def w40 : W4 := ⟨0, 0, 0, 0⟩
def W4.T (s : W4) : T := .mk 1 s.a s.b s.c s.d 0 0 []
def orI (x y : Int) : Int := bits .or .u64 x y
/-- A set with a byte more. -/
def W4.add (s : W4) (c : Nat) : W4 :=
  if c < 64 then { s with a := orI s.a (2 ^ c) } else if c < 128 then { s with b := orI s.b (2 ^ (c - 64)) } else if c < 192 then { s with c := orI s.c (2 ^ (c - 128)) } else { s with d := orI s.d (2 ^ (c - 192)) }
def W4.or (s x : W4) : W4 := ⟨orI s.a x.a, orI s.b x.b, orI s.c x.c, orI s.d x.d⟩
def notI (x : Int) : Int := 18446744073709551615 - x
def W4.not (s : W4) : W4 := ⟨notI s.a, notI s.b, notI s.c, notI s.d⟩
/-- All bytes from one on, so many. -/
def W4.span (s : W4) (from_ n : Nat) : W4 := (List.range' from_ n).foldl W4.add s
def whereW (p : Nat → Bool) : W4 := (List.range 256).foldl (fun s c => if p c then s.add c else s) w40

def takeP (s r : Bs) : Option Bs := if s.isPrefixOf r then some (r.drop s.length) else none
def isDigit (c : UInt8) : Bool := decide (48 ≤ c.toNat) && decide (c.toNat ≤ 57)
def digitsP : Nat → Int → Nat → Bs → Int × Nat × Bs
  | 0, n, w, r => (n, w, r)
  | _ + 1, n, w, [] => (n, w, [])
  | k + 1, n, w, c :: t => if isDigit c then digitsP k (10 * n + (c.toNat - 48)) (w + 1) t else (n, w, c :: t)
def numberP (r : Bs) : Except Int (Int × Bs) :=
  if (digitsP 4 0 0 r).2.1 = 0 ∨ 3 < (digitsP 4 0 0 r).2.1 ∨ 255 < (digitsP 4 0 0 r).1 then .error 105 else .ok ((digitsP 4 0 0 r).1, (digitsP 4 0 0 r).2.2)
def intervalP (r : Bs) : Except Int (Int × Int × Bs) :=
  match numberP r with
  | .error e => .error e
  | .ok (m, r1) =>
    match takeP [125] r1 with
    | some r2 => .ok (m, m, r2)
    | none =>
      match takeP [44, 125] r1 with
      | some r2 => .ok (m, -1, r2)
      | none =>
        match takeP [44] r1 with
        | none => .error 105
        | some r2 =>
          match numberP r2 with
          | .error e => .error e
          | .ok (n, r3) =>
            if n < m then .error 105 else
            match takeP [125] r3 with
            | some r4 => .ok (m, n, r4)
            | none => .error 105
/-- A byte, and what ends it: a sign and ]. -/
def singleP (sign : UInt8) (r : Bs) : Except Int (Nat × Bs) :=
  match r with
  | [] => .error 101
  | c :: t => match takeP [sign, 93] t with
    | some r1 => .ok (c.toNat, r1)
    | none => .error 101
def memberP (r : Bs) : Except Int (Nat × Bs) :=
  match takeP [91, 46] r with
  | some r1 => singleP 46 r1
  | none => match r with
    | [] => .error 101
    | c :: t => .ok (c.toNat, t)
/-- A class's set. -/
def classW (name : Bs) : Option W4 :=
  if name = [97, 108, 112, 104, 97] then some ((w40.span 65 26).span 97 26)
  else if name = [117, 112, 112, 101, 114] then some (w40.span 65 26)
  else if name = [108, 111, 119, 101, 114] then some (w40.span 97 26)
  else if name = [100, 105, 103, 105, 116] then some (w40.span 48 10)
  else if name = [97, 108, 110, 117, 109] then some (((w40.span 65 26).span 97 26).span 48 10)
  else if name = [120, 100, 105, 103, 105, 116] then some (((w40.span 48 10).span 65 6).span 97 6)
  else if name = [115, 112, 97, 99, 101] then some ((w40.span 9 5).add 32)
  else if name = [98, 108, 97, 110, 107] then some ((w40.add 9).add 32)
  else if name = [99, 110, 116, 114, 108] then some ((w40.span 0 32).add 127)
  else if name = [103, 114, 97, 112, 104] then some (w40.span 33 94)
  else if name = [112, 114, 105, 110, 116] then some (w40.span 32 95)
  else if name = [112, 117, 110, 99, 116] then some ((((w40.span 33 15).span 58 7).span 91 6).span 123 4)
  else none
/-- A text up tu :], and what stands behind. -/
def cutP : Bs → Option (Bs × Bs)
  | [] => none
  | c :: t => match takeP [58, 93] (c :: t) with
    | some r => some ([], r)
    | none => match cutP t with
      | some (a, b) => some (c :: a, b)
      | none => none
def classP (s : W4) (r : Bs) : Except Int (W4 × Bs) :=
  match cutP r with
  | none => .error 101
  | some (name, r1) => match classW name with
    | none => .error 103
    | some x => .ok (s.or x, r1)
def rangeP (s : W4) (from_ : Nat) (r : Bs) : Except Int (W4 × Bs) :=
  match takeP [45] r, takeP [45, 93] r with
  | some r1, none =>
    if (takeP [91, 58] r1).isSome || (takeP [91, 61] r1).isSome then .error 101 else
    match memberP r1 with
    | .error e => .error e
    | .ok (to_, r2) => if to_ < from_ then .error 102 else .ok (s.span from_ (to_ + 1 - from_), r2)
  | _, _ => .ok (s.add from_, r)
def itemP (s : W4) (r : Bs) : Except Int (W4 × Bs) :=
  match takeP [91, 58] r with
  | some r1 => classP s r1
  | none => match takeP [91, 61] r with
    | some r1 => match singleP 61 r1 with
      | .error e => .error e
      | .ok (c, r2) => .ok (s.add c, r2)
    | none => match memberP r with
      | .error e => .error e
      | .ok (c, r1) => rangeP s c r1
/-- Items, up tu ]. -/
def itemsP : Nat → W4 → Bs → Except Int (W4 × Bs)
  | 0, _, _ => .error 101
  | k + 1, s, r => match itemP s r with
    | .error e => .error e
    | .ok (s', r1) => match takeP [93] r1 with
      | some r2 => .ok (s', r2)
      | none => itemsP k s' r1
def bracketP (r : Bs) : Except Int (W4 × Bs) :=
  match takeP [94] r with
  | some r1 => match itemsP (r1.length + 1) w40 r1 with
    | .error e => .error e
    | .ok (s, r2) => .ok (s.not, r2)
  | none => itemsP (r.length + 1) w40 r
abbrev PT := Except Int (T × Bs)
def atomP (grp : Bs → PT) (r : Bs) : PT :=
  match r with
  | [] => .error 104
  | c :: t =>
    if c = 40 then grp t
    else if c = 94 then .ok (.mk 2 0 0 0 0 0 0 [], t)
    else if c = 36 then .ok (.mk 3 0 0 0 0 0 0 [], t)
    else if c = 91 then match bracketP t with
      | .error e => .error e
      | .ok (s, r1) => .ok (s.T, r1)
    else if c = 46 then .ok ((w40.span 0 256).T, t)
    else if c = 42 ∨ c = 43 ∨ c = 63 ∨ c = 123 then .error 104
    else if c = 92 then match t with
      | [] => .error 106
      | x :: t' => .ok ((w40.add x.toNat).T, t')
    else .ok ((w40.add c.toNat).T, t)
def repT (m n : Int) (t : T) : T := .mk 6 0 0 0 0 m n [t]
/-- How often an atom stands. -/
def sufP : Nat → T → Bs → PT
  | 0, n, r => .ok (n, r)
  | k + 1, n, r =>
    match takeP [42] r with
    | some r1 => sufP k (repT 0 (-1) n) r1
    | none => match takeP [43] r with
      | some r1 => sufP k (repT 1 (-1) n) r1
      | none => match takeP [63] r with
        | some r1 => sufP k (repT 0 1 n) r1
        | none => match takeP [123] r with
          | some r1 => match intervalP r1 with
            | .error e => .error e
            | .ok (m, x, r2) => sufP k (repT m x n) r2
          | none => .ok (n, r)
def pieceP (grp : Bs → PT) (r : Bs) : PT :=
  match atomP grp r with
  | .error e => .error e
  | .ok (n, r1) => sufP (r1.length + 1) n r1
/-- Does a row end here? -/
def endsRow : Bs → Bool
  | [] => true
  | c :: _ => c == 124 || c == 41
def piecesP (grp : Bs → PT) : Nat → List T → Bs → Except Int (List T × Bs)
  | 0, l, r => .ok (l, r)
  | k + 1, l, r => if endsRow r then .ok (l, r) else match pieceP grp r with
    | .error e => .error e
    | .ok (n, r1) => piecesP grp k (l ++ [n]) r1
def joinT (k : Int) (l : List T) : T :=
  match l with
  | [] => .mk 0 0 0 0 0 0 0 []
  | [n] => n
  | _ => .mk k 0 0 0 0 0 0 l
def rowP (grp : Bs → PT) (r : Bs) : PT :=
  match piecesP grp (r.length + 1) [] r with
  | .error e => .error e
  | .ok (l, r1) => .ok (joinT 4 l, r1)
def altsP (grp : Bs → PT) : Nat → List T → Bs → Except Int (List T × Bs)
  | 0, l, r => .ok (l, r)
  | k + 1, l, r => match takeP [124] r with
    | none => .ok (l, r)
    | some r1 => match rowP grp r1 with
      | .error e => .error e
      | .ok (n, r2) => altsP grp k (l ++ [n]) r2
def choiceP (grp : Bs → PT) (r : Bs) : PT :=
  match rowP grp r with
  | .error e => .error e
  | .ok (n, r1) => match altsP grp (r1.length + 1) [n] r1 with
    | .error e => .error e
    | .ok (l, r2) => .ok (joinT 5 l, r2)
/-- What stands in brackets, so many more within. -/
def groupP : Nat → Bs → PT
  | 0, _ => .error 3
  | d + 1, r => match choiceP (groupP d) r with
    | .error e => .error e
    | .ok (n, r1) => match takeP [41] r1 with
      | some r2 => .ok (n, r2)
      | none => .error 100
/-- Parse. -/
def parseP (s : Bs) : Except Int T :=
  if 1024 < s.length then .error 3 else
  match choiceP (groupP 64) s with
  | .error e => .error e
  | .ok (n, []) => .ok n
  | .ok (_, _ :: _) => .error 100
end Go.Proofs.YthlakbjnmbddaaaGreatDoor

/- Sets of bytes as four words: which byte is in, of each way of making one. Plain. -/
set_option linter.unusedVariables false
set_option linter.unusedSimpArgs false
namespace Go.Proofs.YthlakbjnmbddaaaGreatDoor
open Go.RowKit

def In64 (x : Int) : Prop := 0 ≤ x ∧ x < 18446744073709551616
structure Wok (s : W4) : Prop where
  a : In64 s.a
  b : In64 s.b
  c : In64 s.c
  d : In64 s.d
def W4.at (s : W4) (c : Nat) : Int := if c < 64 then s.a else if c < 128 then s.b else if c < 192 then s.c else s.d
/-- Is a byte in a set? -/
def W4.has (s : W4) (c : Nat) : Bool := (s.at c).toNat.testBit (c % 64)
theorem Wok.at {s : W4} (h : Wok s) (c : Nat) : In64 (s.at c) := by
  unfold W4.at; split
  · exact h.a
  split
  · exact h.b
  split
  · exact h.c
  · exact h.d
theorem wok0 : Wok w40 := ⟨⟨by decide, by decide⟩, ⟨by decide, by decide⟩, ⟨by decide, by decide⟩, ⟨by decide, by decide⟩⟩
theorem has0 (c : Nat) : w40.has c = false := by
  have : w40.at c = 0 := by unfold W4.at w40; split <;> (try rfl); split <;> (try rfl); split <;> rfl
  unfold W4.has; rw [this]; simp
theorem pow_in {k : Nat} (h : k < 64) : In64 (2 ^ k) := by
  have h1 : (2 : Nat) ^ k < 2 ^ 64 := Nat.pow_lt_pow_right (by omega) h
  have e : ((2 : Int) ^ k) = ((2 ^ k : Nat) : Int) := by push_cast; rfl
  rw [e]
  generalize (2 : Nat) ^ k = p at *
  exact ⟨by omega, by omega⟩
theorem orI_eq {x y : Int} (hx : In64 x) (hy : In64 y) : orI x y = ((x.toNat ||| y.toNat : Nat) : Int) := u64_or x y hx.1 hx.2 hy.1 hy.2
theorem orI_in {x y : Int} (hx : In64 x) (hy : In64 y) : In64 (orI x y) := by
  rw [orI_eq hx hy]
  have : x.toNat ||| y.toNat < 2 ^ 64 := Nat.or_lt_two_pow (by have := hx.2; omega) (by have := hy.2; omega)
  exact ⟨by omega, by omega⟩
theorem orI_bit {x y : Int} (hx : In64 x) (hy : In64 y) (k : Nat) : (orI x y).toNat.testBit k = (x.toNat.testBit k || y.toNat.testBit k) := by
  rw [orI_eq hx hy, Int.toNat_natCast, Nat.testBit_or]
theorem pow_bit (k j : Nat) : ((2 : Int) ^ k).toNat.testBit j = decide (k = j) := by
  have e : ((2 : Int) ^ k) = ((2 ^ k : Nat) : Int) := by push_cast; rfl
  rw [e, Int.toNat_natCast, Nat.testBit_two_pow]
theorem notI_in {x : Int} (hx : In64 x) : In64 (notI x) := by unfold notI; have := hx.1; have := hx.2; exact ⟨by omega, by omega⟩
theorem notI_bit {x : Int} (hx : In64 x) (k : Nat) (hk : k < 64) : (notI x).toNat.testBit k = !x.toNat.testBit k := by
  have h0 := hx.1; have h1 := hx.2
  have e : (notI x).toNat = 2 ^ 64 - (x.toNat + 1) := by unfold notI; omega
  rw [e, Nat.testBit_two_pow_sub_succ (by omega)]
  simp [hk]
theorem word_ext {x y : Int} (hx : In64 x) (hy : In64 y) (h : ∀ k, k < 64 → x.toNat.testBit k = y.toNat.testBit k) : x = y := by
  have : x.toNat = y.toNat := by
    refine Nat.eq_of_testBit_eq fun k => ?_
    rcases Nat.lt_or_ge k 64 with hk | hk
    · exact h k hk
    · have h1 : x.toNat < 2 ^ k := Nat.lt_of_lt_of_le (by have := hx.2; omega) (Nat.pow_le_pow_right (n := 2) (by omega) hk)
      have h2 : y.toNat < 2 ^ k := Nat.lt_of_lt_of_le (by have := hy.2; omega) (Nat.pow_le_pow_right (n := 2) (by omega) hk)
      rw [Nat.testBit_lt_two_pow h1, Nat.testBit_lt_two_pow h2]
  have := hx.1; have := hy.1
  omega
/-- A set is what it has. -/
theorem W4.ext' {s t : W4} (hs : Wok s) (ht : Wok t) (h : ∀ c, c < 256 → s.has c = t.has c) : s = t := by
  obtain ⟨a, b, c, d⟩ := s
  obtain ⟨a', b', c', d'⟩ := t
  have e1 : a = a' := word_ext hs.a ht.a fun k hk => by
    have := h k (by omega)
    simpa [W4.has, W4.at, hk, Nat.mod_eq_of_lt hk] using this
  have e2 : b = b' := word_ext hs.b ht.b fun k hk => by
    have := h (64 + k) (by omega)
    simpa [W4.has, W4.at, show ¬ 64 + k < 64 by omega, show 64 + k < 128 by omega, show (64 + k) % 64 = k by omega, Nat.mod_eq_of_lt hk] using this
  have e3 : c = c' := word_ext hs.c ht.c fun k hk => by
    have := h (128 + k) (by omega)
    simpa [W4.has, W4.at, show ¬ 128 + k < 64 by omega, show ¬ 128 + k < 128 by omega, show 128 + k < 192 by omega, show (128 + k) % 64 = k by omega, Nat.mod_eq_of_lt hk] using this
  have e4 : d = d' := word_ext hs.d ht.d fun k hk => by
    have := h (192 + k) (by omega)
    simpa [W4.has, W4.at, show ¬ 192 + k < 64 by omega, show ¬ 192 + k < 128 by omega, show ¬ 192 + k < 192 by omega, show (192 + k) % 64 = k by omega, Nat.mod_eq_of_lt hk] using this
  subst e1; subst e2; subst e3; subst e4; rfl
theorem add_ok {s : W4} (h : Wok s) (c : Nat) (hc : c < 256) : Wok (s.add c) := by
  unfold W4.add
  split
  · exact ⟨orI_in h.a (pow_in (by omega)), h.b, h.c, h.d⟩
  split
  · exact ⟨h.a, orI_in h.b (pow_in (by omega)), h.c, h.d⟩
  split
  · exact ⟨h.a, h.b, orI_in h.c (pow_in (by omega)), h.d⟩
  · exact ⟨h.a, h.b, h.c, orI_in h.d (pow_in (by omega))⟩
theorem dec_iff {p q : Prop} [Decidable p] [Decidable q] (h : p ↔ q) : decide p = decide q := by simp [h]
theorem add_has {s : W4} (h : Wok s) (c x : Nat) (hc : c < 256) (hx : x < 256) : (s.add c).has x = (decide (x = c) || s.has x) := by
  unfold W4.add W4.has W4.at
  by_cases c1 : c < 64
  · rw [if_pos c1]
    by_cases x1 : x < 64
    · simp only [if_pos x1]
      rw [orI_bit h.a (pow_in (by omega)), pow_bit, Bool.or_comm, dec_iff (show c = x % 64 ↔ x = c by omega)]
    · simp only [if_neg x1]
      rw [show decide (x = c) = false by simp; omega, Bool.false_or]
  rw [if_neg c1]
  by_cases c2 : c < 128
  · rw [if_pos c2]
    by_cases x1 : x < 64
    · simp only [if_pos x1]
      rw [show decide (x = c) = false by simp; omega, Bool.false_or]
    by_cases x2 : x < 128
    · simp only [if_neg x1, if_pos x2]
      rw [orI_bit h.b (pow_in (by omega)), pow_bit, Bool.or_comm, dec_iff (show c - 64 = x % 64 ↔ x = c by omega)]
    · simp only [if_neg x1, if_neg x2]
      rw [show decide (x = c) = false by simp; omega, Bool.false_or]
  rw [if_neg c2]
  by_cases c3 : c < 192
  · rw [if_pos c3]
    by_cases x1 : x < 64
    · simp only [if_pos x1]
      rw [show decide (x = c) = false by simp; omega, Bool.false_or]
    by_cases x2 : x < 128
    · simp only [if_neg x1, if_pos x2]
      rw [show decide (x = c) = false by simp; omega, Bool.false_or]
    by_cases x3 : x < 192
    · simp only [if_neg x1, if_neg x2, if_pos x3]
      rw [orI_bit h.c (pow_in (by omega)), pow_bit, Bool.or_comm, dec_iff (show c - 128 = x % 64 ↔ x = c by omega)]
    · simp only [if_neg x1, if_neg x2, if_neg x3]
      rw [show decide (x = c) = false by simp; omega, Bool.false_or]
  · rw [if_neg c3]
    by_cases x1 : x < 64
    · simp only [if_pos x1]
      rw [show decide (x = c) = false by simp; omega, Bool.false_or]
    by_cases x2 : x < 128
    · simp only [if_neg x1, if_pos x2]
      rw [show decide (x = c) = false by simp; omega, Bool.false_or]
    by_cases x3 : x < 192
    · simp only [if_neg x1, if_neg x2, if_pos x3]
      rw [show decide (x = c) = false by simp; omega, Bool.false_or]
    · simp only [if_neg x1, if_neg x2, if_neg x3]
      rw [orI_bit h.d (pow_in (by omega)), pow_bit, Bool.or_comm, dec_iff (show c - 192 = x % 64 ↔ x = c by omega)]
theorem or_ok {s t : W4} (h : Wok s) (k : Wok t) : Wok (s.or t) := ⟨orI_in h.a k.a, orI_in h.b k.b, orI_in h.c k.c, orI_in h.d k.d⟩
theorem not_ok {s : W4} (h : Wok s) : Wok s.not := ⟨notI_in h.a, notI_in h.b, notI_in h.c, notI_in h.d⟩
theorem not_has {s : W4} (h : Wok s) (x : Nat) : s.not.has x = !s.has x := by
  unfold W4.not W4.has W4.at
  by_cases x1 : x < 64
  · simp only [if_pos x1]; exact notI_bit h.a _ (by omega)
  by_cases x2 : x < 128
  · simp only [if_neg x1, if_pos x2]; exact notI_bit h.b _ (by omega)
  by_cases x3 : x < 192
  · simp only [if_neg x1, if_neg x2, if_pos x3]; exact notI_bit h.c _ (by omega)
  · simp only [if_neg x1, if_neg x2, if_neg x3]; exact notI_bit h.d _ (by omega)
theorem adds_spec : ∀ (l : List Nat) {s : W4}, Wok s → (∀ c ∈ l, c < 256) → Wok (l.foldl W4.add s) ∧ ∀ x, x < 256 → (l.foldl W4.add s).has x = (s.has x || decide (x ∈ l))
  | [], s, h, _ => ⟨h, fun x _ => by simp⟩
  | c :: l, s, h, hl => by
    obtain ⟨h1, h2⟩ := adds_spec l (add_ok h c (hl c (List.mem_cons_self ..))) (fun x hx => hl x (List.mem_cons_of_mem _ hx))
    refine ⟨h1, fun x hx => ?_⟩
    rw [List.foldl_cons, h2 x hx, add_has h c x (hl c (List.mem_cons_self ..)) hx]
    simp only [List.mem_cons, Bool.decide_or]
    cases s.has x <;> simp
theorem span_spec {s : W4} (h : Wok s) (f n : Nat) (hn : f + n ≤ 256) : Wok (s.span f n) ∧ ∀ x, x < 256 → (s.span f n).has x = (s.has x || (decide (f ≤ x) && decide (x < f + n))) := by
  obtain ⟨h1, h2⟩ := adds_spec (List.range' f n) h (fun c hc => by simp at hc; omega)
  refine ⟨h1, fun x hx => ?_⟩
  rw [W4.span, h2 x hx, dec_iff (show x ∈ List.range' f n ↔ f ≤ x ∧ x < f + n by simp), Bool.decide_and]
def T.w4 (t : T) : W4 := ⟨t.s0, t.s1, t.s2, t.s3⟩
/-- What may stand in a node: its set's words are in range. -/
inductive Words : T → Prop where
  | mk (t : T) : Wok t.w4 → (∀ p ∈ t.ps, Words p) → Words t
theorem Words.w {t : T} (h : Words t) : Wok t.w4 := by cases h; assumption
theorem Words.p {t : T} (h : Words t) : ∀ p ∈ t.ps, Words p := by cases h; assumption
/-- The same bit, as the matcher asks for it. -/
theorem has_div {s : W4} (h : Wok s) (c : Nat) : s.has c = ((s.at c) / 2 ^ (c % 64) % 2 == 1) := by
  obtain ⟨h0, h1⟩ := h.at c
  unfold W4.has
  generalize s.at c = x at *
  obtain ⟨n, rfl⟩ : ∃ n : Nat, x = n := ⟨x.toNat, by omega⟩
  rw [Int.toNat_natCast, Nat.testBit_eq_decide_div_mod_eq]
  have e : ((n : Int) / 2 ^ (c % 64) % 2) = ((n / 2 ^ (c % 64) % 2 : Nat) : Int) := by push_cast; rfl
  rw [e, Bool.eq_iff_iff, decide_eq_true_eq, beq_iff_eq]
  omega
end Go.Proofs.YthlakbjnmbddaaaGreatDoor

/- The pattern reader's state; fail, next, take: walked. -/
set_option linter.unusedVariables false
set_option linter.unusedSimpArgs false
namespace Go.Proofs.YthlakbjnmbddaaaGreatDoor
open Go.RowKit

abbrev bs (r : Bs) : ByteArray := ⟨r.toArray⟩
theorem bs_tail (c : UInt8) (r : Bs) : (bs (c :: r)).extract 1 (r.length + 1) = bs r := by
  rw [Lib.extract_eq]; simp [bs]
theorem bs_drop (r q : Bs) : (bs r).extract q.length r.length = bs (r.drop q.length) := by
  rw [Lib.extract_eq]
  congr 2
  simp only [bs]
  exact List.take_of_length_le (by simp)
theorem bs_pref (r q : Bs) (h : q.length ≤ r.length) : (((bs r).extract 0 q.length).toList == q) = q.isPrefixOf r := by
  have h1 := Lib.hasPrefix_raw (bs r) (bs q)
  have h2 : (bs q).size = q.length := by rw [Lib.size_eq]
  have h3 : (bs r).size = r.length := by rw [Lib.size_eq]
  rw [h2, h3, decide_eq_true h, Bool.true_and] at h1
  have h4 : (bs q).toList = q := by rw [Lib.toList_data]
  rw [h4] at h1
  rw [h1]
  simp [Lib.hasPrefix, bs]
/-- What CutPrefix leaves. -/
def cutR (q r : Bs) : Bs := if q.isPrefixOf r then r.drop q.length else r
theorem pref_len {q r : Bs} (h : q.isPrefixOf r = true) : q.length ≤ r.length := (List.isPrefixOf_iff_prefix.1 h).length_le

@[go_sem] theorem bs_get0 (c : UInt8) (t : Bs) (h : 0 < (bs (c :: t)).size) : (bs (c :: t))[0]'h = c := rfl
/-- internal/bytealg.MaxLen holds some number. -/
def MaxOk (w : World) : Prop := ∃ m, w.cell? ⟨0, 0, none⟩ = some (.int .i64 m)
theorem MaxOk.lt {w : World} (h : MaxOk w) : 0 < w.heap.size := by obtain ⟨m, h⟩ := h; exact World.block_lt_of_cell? _ _ h
theorem MaxOk.of {w w' : World} (h : MaxOk w) (hb : w'.heap[0]? = w.heap[0]?) : MaxOk w' := by obtain ⟨m, h⟩ := h; exact ⟨m, (World.cell?_of_block (w := w) (a := ⟨0, 0, none⟩) hb).trans h⟩
theorem MaxOk.later {w w' : World} (h : MaxOk w) (hb : Below w.heap.size w w') : MaxOk w' := h.of (hb.block 0 h.lt)
theorem MaxOk.set {w : World} (h : MaxOk w) {p : Nat} (hp : 0 < p) (o : Nat) (v : Value) : MaxOk (w.setCell ⟨p, o, none⟩ v) := h.of (Below.heap_setCell _ _ _ _ (by show 0 ≠ p; omega))
/-- The reader's three cells. -/
structure Rdr (w : World) (p : Nat) (r : Bs) (op e : Int) : Prop where
  c0 : w.cell? ⟨p, 0, none⟩ = some (.string (bs r))
  c1 : w.cell? ⟨p, 1, none⟩ = some (.int .i64 op)
  c2 : w.cell? ⟨p, 2, none⟩ = some (.int .i64 e)
  z : ∀ o, w.frozen? ⟨p, o, none⟩ = false
  lt : p < w.heap.size
  mx : MaxOk w
  pn : 0 < p
/-- What a call may do: write in the reader's block, make memory. -/
abbrev Off (p : Nat) (w w' : World) : Prop := w.grownBy w' (some p)
theorem Off.refl (p : Nat) (w : World) : Off p w w := ⟨rfl, rfl, rfl, Nat.le_refl _, fun _ _ _ => rfl⟩
theorem Off.trans {p : Nat} {w w1 w2 : World} (h : Off p w w1) (k : Off p w1 w2) : Off p w w2 :=
  ⟨k.os.trans h.os, k.tape.trans h.tape, k.output.trans h.output, Nat.le_trans h.size k.size, fun b hb hn => (k.block b (Nat.lt_of_lt_of_le hb h.size) hn).trans (h.block b hb hn)⟩
theorem Off.below {p B : Nat} {w w' : World} (h : Off p w w') (hB : B ≤ p) (hs : B ≤ w.heap.size) : Below B w w' :=
  ⟨h.os, h.tape, h.output, h.size, fun k hk => h.block k (by omega) (by simp; omega)⟩
theorem Off.of_below {p : Nat} {w w' : World} (h : Below w.heap.size w w') : Off p w w' := ⟨h.os, h.tape, h.output, h.size, fun k hk _ => h.block k hk⟩
theorem Off.cell {p : Nat} {w w' : World} (h : Off p w w') {b o : Nat} (hb : b < w.heap.size) (hn : b ≠ p) : w'.cell? ⟨b, o, none⟩ = w.cell? ⟨b, o, none⟩ := World.cell?_of_block (w := w) (h.block b hb (by simpa using hn))
theorem Off.set {p : Nat} {w w' : World} (h : Off p w w') (o : Nat) (v : Value) : Off p w (w'.setCell ⟨p, o, none⟩ v) :=
  ⟨h.os, h.tape, h.output, by simpa using h.size, fun k hk hn => (Below.heap_setCell _ _ _ _ (by simpa using hn)).trans (h.block k hk hn)⟩
theorem Rdr.later {w w' : World} {p : Nat} {r : Bs} {op e : Int} (h : Rdr w p r op e) (hb : Below w.heap.size w w') : Rdr w' p r op e :=
  ⟨(hb.cell (p := ⟨p, 0, none⟩) h.lt).trans h.c0, (hb.cell (p := ⟨p, 1, none⟩) h.lt).trans h.c1, (hb.cell (p := ⟨p, 2, none⟩) h.lt).trans h.c2, fun o => (hb.frozen (p := ⟨p, o, none⟩) h.lt).trans (h.z o), Nat.lt_of_lt_of_le h.lt hb.size, h.mx.later hb, h.pn⟩
theorem Rdr.set0 {w : World} {p : Nat} {r : Bs} {op e : Int} (h : Rdr w p r op e) (r' : Bs) : Rdr (w.setCell ⟨p, 0, none⟩ (.string (bs r'))) p r' op e :=
  ⟨World.cell?_setCell_same _ _ _ h.c0, (World.cell?_setCell_other _ _ _ _ (by simp)).trans h.c1, (World.cell?_setCell_other _ _ _ _ (by simp)).trans h.c2, fun o => by rw [World.frozen?_setCell]; exact h.z o, by simpa using h.lt, h.mx.set h.pn _ _, h.pn⟩
theorem Rdr.set1 {w : World} {p : Nat} {r : Bs} {op e : Int} (h : Rdr w p r op e) (op' : Int) : Rdr (w.setCell ⟨p, 1, none⟩ (.int .i64 op')) p r op' e :=
  ⟨(World.cell?_setCell_other _ _ _ _ (by simp)).trans h.c0, World.cell?_setCell_same _ _ _ h.c1, (World.cell?_setCell_other _ _ _ _ (by simp)).trans h.c2, fun o => by rw [World.frozen?_setCell]; exact h.z o, by simpa using h.lt, h.mx.set h.pn _ _, h.pn⟩
theorem Rdr.set2 {w : World} {p : Nat} {r : Bs} {op e : Int} (h : Rdr w p r op e) (e' : Int) : Rdr (w.setCell ⟨p, 2, none⟩ (.int .i64 e')) p r op e' :=
  ⟨(World.cell?_setCell_other _ _ _ _ (by simp)).trans h.c0, (World.cell?_setCell_other _ _ _ _ (by simp)).trans h.c1, World.cell?_setCell_same _ _ _ h.c2, fun o => by rw [World.frozen?_setCell]; exact h.z o, by simpa using h.lt, h.mx.set h.pn _ _, h.pn⟩

/-- What is left tu read, or what is wrong. -/
abbrev Rs := Except Int Bs
def Rs.rest : Rs → Bs
  | .ok r => r
  | .error _ => []
def Rs.no : Rs → Int
  | .ok _ => 0
  | .error e => e
structure RS (w : World) (p : Nat) (op : Int) (s : Rs) : Prop where
  rdr : Rdr w p s.rest op s.no
  ne : ∀ e, s = .error e → e ≠ 0
theorem RS.later {w w' : World} {p : Nat} {op : Int} {s : Rs} (h : RS w p op s) (hb : Below w.heap.size w w') : RS w' p op s := ⟨h.rdr.later hb, h.ne⟩
theorem RS.lt {w : World} {p : Nat} {op : Int} {s : Rs} (h : RS w p op s) : p < w.heap.size := h.rdr.lt
def failS (s : Rs) (x : Int) : Rs := match s with
  | .ok _ => .error x
  | .error e => .error e
def nextS (s : Rs) (x : Int) : Nat × Rs := match s with
  | .ok [] => (0, .error x)
  | .ok (c :: t) => (c.toNat, .ok t)
  | .error e => (0, .error e)
def takeS (q : Bs) (s : Rs) : Bool × Rs := match s with
  | .ok r => match takeP q r with
    | some r' => (true, .ok r')
    | none => (false, .ok r)
  | .error e => (false, .error e)

set_option maxRecDepth 100000 in
set_option maxHeartbeats 400000 in
theorem fail_any (w : World) (p : Nat) (op : Int) (s : Rs) (x : Int) (hx : x ≠ 0) (h : RS w p op s) :
    Calls Tryz.prog 63 #[.pointer (some ⟨p, 0, none⟩), .int .i64 x] w fun en w' => en = .returned (.tuple #[]) ∧ RS w' p op (failS s x) ∧ Off p w w' := by
  have c0 := h.rdr.c0
  have c2 := h.rdr.c2
  have z0 := h.rdr.z 0
  have z2 := h.rdr.z 2
  cases s with
  | ok r =>
    simp only [Rs.rest, Rs.no] at c0 c2
    have H := Lib.hid h; clear h
    go_enter Tryz.func63, Tryz.ntmps63
    go_wp2_with fail
    go_end0
    exact ⟨rfl, ⟨((H.out.rdr.set2 x).set0 []), fun e he => by cases he; exact hx⟩, ((Off.refl p w).set _ _).set _ _⟩
  | error e =>
    have hne := h.ne e rfl
    simp only [Rs.rest, Rs.no] at c0 c2
    have hb : (e == 0) = false := by rw [beq_eq_false_iff_ne]; exact hne
    have H := Lib.hid h; clear h hne
    go_enter Tryz.func63, Tryz.ntmps63
    go_wp2_with fail
    go_end0
    exact ⟨rfl, H.out, Off.refl p w⟩

set_option maxRecDepth 100000 in
set_option maxHeartbeats 400000 in
theorem next_any (w : World) (p : Nat) (op : Int) (s : Rs) (x : Int) (hx : x ≠ 0) (h : RS w p op s) :
    Calls Tryz.prog 127 #[.pointer (some ⟨p, 0, none⟩), .int .i64 x] w fun en w' => en = .returned (.int .u8 ((nextS s x).1 : Nat)) ∧ RS w' p op (nextS s x).2 ∧ Off p w w' := by
  have c0 := h.rdr.c0
  have z0 := h.rdr.z 0
  have H := Lib.hid h; clear h
  rcases s with e | (_ | ⟨c, t⟩)
  · simp only [Rs.rest] at c0
    go_enter Tryz.func127, Tryz.ntmps127
    go_wp2_with fail
    refine (fail_any w p op _ x hx H.out).mono ?_
    rintro en w1 ⟨rfl, h1, hb1⟩
    go_wp2_with fail
    go_ret
    exact ⟨rfl, h1, hb1⟩
  · simp only [Rs.rest] at c0
    go_enter Tryz.func127, Tryz.ntmps127
    go_wp2_with fail
    refine (fail_any w p op _ x hx H.out).mono ?_
    rintro en w1 ⟨rfl, h1, hb1⟩
    go_wp2_with fail
    go_ret
    exact ⟨rfl, h1, hb1⟩
  · simp only [Rs.rest] at c0
    have ht := bs_tail c t
    have hc : (nextS (.ok (c :: t)) x).1 = c.toNat := rfl
    rw [hc]
    clear hc
    go_enter Tryz.func127, Tryz.ntmps127
    go_wp2_with fail
    go_ret
    exact ⟨rfl, ⟨H.out.rdr.set0 t, fun e he => by cases he⟩, (Off.refl p w).set _ _⟩

set_option maxRecDepth 100000 in
set_option maxHeartbeats 400000 in
theorem hasP_any (r q : Bs) (w : World) : Calls Tryz.prog 134 #[.string (bs r), .string (bs q)] w fun e w' => e = .returned (.bool (q.isPrefixOf r)) ∧ w' = w := by
  by_cases h : q.length ≤ r.length
  · have hp := bs_pref r q h
    generalize q.isPrefixOf r = b at *
    go_enter Tryz.func134, Tryz.ntmps134
    go_wp2_with fail
    go_ret
    exact ⟨rfl, rfl⟩
  · have hp : q.isPrefixOf r = false := by
      rw [Bool.eq_false_iff]; exact fun h' => h (pref_len h')
    rw [hp]
    clear hp
    go_enter Tryz.func134, Tryz.ntmps134
    go_wp2_with fail
    go_ret
    exact ⟨rfl, rfl⟩
set_option maxRecDepth 100000 in
theorem shasP_any (r q : Bs) (w : World) : Calls Tryz.prog 158 #[.string (bs r), .string (bs q)] w fun e w' => e = .returned (.bool (q.isPrefixOf r)) ∧ w' = w := by
  go_enter Tryz.func158, Tryz.ntmps158
  go_wp2_with fail
  refine (hasP_any r q w).mono ?_
  rintro e w1 ⟨rfl, rfl⟩
  go_wp2_with fail
  go_ret
  exact ⟨rfl, rfl⟩
set_option maxRecDepth 100000 in
set_option maxHeartbeats 400000 in
theorem cutP0_any (r q : Bs) (w : World) : Calls Tryz.prog 119 #[.string (bs r), .string (bs q)] w fun e w' => e = .returned (.tuple #[.string (bs (cutR q r)), .bool (q.isPrefixOf r)]) ∧ w' = w := by
  cases hp : q.isPrefixOf r
  · have hc : cutR q r = r := by rw [cutR, hp]; rfl
    rw [hc]
    have Hp := Lib.hid hp; clear hp hc
    go_enter Tryz.func119, Tryz.ntmps119
    go_wp2_with fail
    refine (hasP_any r q w).mono ?_
    rintro e w1 ⟨rfl, rfl⟩
    rw [Hp.out]
    go_wp2_with fail
    go_ret2
    exact ⟨rfl, rfl⟩
  · have hc : cutR q r = r.drop q.length := by rw [cutR, hp]; rfl
    have hl := pref_len hp
    have hd := bs_drop r q
    rw [← hc] at hd
    have Hp := Lib.hid hp; clear hp hc
    generalize cutR q r = r' at *
    go_enter Tryz.func119, Tryz.ntmps119
    go_wp2_with fail
    refine (hasP_any r q w).mono ?_
    rintro e w1 ⟨rfl, rfl⟩
    rw [Hp.out]
    go_wp2_with fail
    go_ret2
    exact ⟨rfl, rfl⟩
set_option maxRecDepth 100000 in
theorem cutP_any (r q : Bs) (w : World) : Calls Tryz.prog 101 #[.string (bs r), .string (bs q)] w fun e w' => e = .returned (.tuple #[.string (bs (cutR q r)), .bool (q.isPrefixOf r)]) ∧ w' = w := by
  have hc := cutP0_any r q w
  generalize cutR q r = r' at *
  generalize q.isPrefixOf r = b at *
  have Hc := Lib.hid hc; clear hc
  go_enter Tryz.func101, Tryz.ntmps101
  go_wp2_with fail
  refine Hc.out.mono ?_
  rintro e w1 ⟨rfl, rfl⟩
  go_wp2_with fail
  go_ret2
  exact ⟨rfl, rfl⟩

theorem takeS_ok (q r : Bs) : takeS q (.ok r) = (q.isPrefixOf r, .ok (cutR q r)) := by
  simp only [takeS, takeP, cutR]
  cases h : q.isPrefixOf r <;> simp [h]
set_option maxRecDepth 100000 in
set_option maxHeartbeats 400000 in
theorem take_any (w : World) (p : Nat) (op : Int) (s : Rs) (q : Bs) (hq : q ≠ []) (h : RS w p op s) :
    Calls Tryz.prog 84 #[.pointer (some ⟨p, 0, none⟩), .string (bs q)] w fun en w' => en = .returned (.bool (takeS q s).1) ∧ RS w' p op (takeS q s).2 ∧ Off p w w' := by
  have c0 := h.rdr.c0
  have z0 := h.rdr.z 0
  have hr : (takeS q s).1 = q.isPrefixOf s.rest ∧ RS (w.setCell ⟨p, 0, none⟩ (.string (bs (cutR q s.rest)))) p op (takeS q s).2 := by
    cases s with
    | ok r => rw [takeS_ok]; exact ⟨rfl, h.rdr.set0 _, fun e he => by cases he⟩
    | error e =>
      have hf : q.isPrefixOf ([] : Bs) = false := by cases q with
        | nil => exact absurd rfl hq
        | cons => rfl
      simp only [Rs.rest, takeS, hf, cutR]
      exact ⟨trivial, h.rdr.set0 [], h.ne⟩
  rw [hr.1]
  have Hr := Lib.hid hr.2
  clear hr h
  generalize (takeS q s).2 = s' at *
  generalize s.rest = r at *
  have hc := cutP_any r q w
  generalize cutR q r = r' at *
  generalize q.isPrefixOf r = b at *
  have Hc := Lib.hid hc; clear hc
  go_enter Tryz.func84, Tryz.ntmps84
  go_wp2_with fail
  refine Hc.out.mono ?_
  rintro en w1 ⟨rfl, rfl⟩
  go_wp2_with fail
  go_ret
  exact ⟨rfl, Hr.out, (Off.refl p _).set _ _⟩

/-- The same, case by case. -/
theorem take_hit {w : World} {p : Nat} {op : Int} {r r' : Bs} (q : Bs) (hq : q ≠ []) (ht : takeP q r = some r') (h : RS w p op (.ok r)) :
    Calls Tryz.prog 84 #[.pointer (some ⟨p, 0, none⟩), .string (bs q)] w fun en w' => en = .returned (.bool true) ∧ RS w' p op (.ok r') ∧ Off p w w' := by
  have := take_any w p op (.ok r) q hq h
  simpa only [takeS, ht] using this
theorem take_miss {w : World} {p : Nat} {op : Int} {r : Bs} (q : Bs) (hq : q ≠ []) (ht : takeP q r = none) (h : RS w p op (.ok r)) :
    Calls Tryz.prog 84 #[.pointer (some ⟨p, 0, none⟩), .string (bs q)] w fun en w' => en = .returned (.bool false) ∧ RS w' p op (.ok r) ∧ Off p w w' := by
  have := take_any w p op (.ok r) q hq h
  simpa only [takeS, ht] using this
theorem take_err {w : World} {p : Nat} {op : Int} {e : Int} (q : Bs) (hq : q ≠ []) (h : RS w p op (.error e)) :
    Calls Tryz.prog 84 #[.pointer (some ⟨p, 0, none⟩), .string (bs q)] w fun en w' => en = .returned (.bool false) ∧ RS w' p op (.error e) ∧ Off p w w' := take_any w p op (.error e) q hq h
theorem fail_ok {w : World} {p : Nat} {op : Int} {r : Bs} (x : Int) (hx : x ≠ 0) (h : RS w p op (.ok r)) :
    Calls Tryz.prog 63 #[.pointer (some ⟨p, 0, none⟩), .int .i64 x] w fun en w' => en = .returned (.tuple #[]) ∧ RS w' p op (.error x) ∧ Off p w w' := fail_any w p op (.ok r) x hx h
theorem fail_err {w : World} {p : Nat} {op : Int} {e : Int} (x : Int) (hx : x ≠ 0) (h : RS w p op (.error e)) :
    Calls Tryz.prog 63 #[.pointer (some ⟨p, 0, none⟩), .int .i64 x] w fun en w' => en = .returned (.tuple #[]) ∧ RS w' p op (.error e) ∧ Off p w w' := fail_any w p op (.error e) x hx h
theorem next_ok {w : World} {p : Nat} {op : Int} {c : UInt8} {t : Bs} (x : Int) (hx : x ≠ 0) (h : RS w p op (.ok (c :: t))) :
    Calls Tryz.prog 127 #[.pointer (some ⟨p, 0, none⟩), .int .i64 x] w fun en w' => en = .returned (.int .u8 c.toNat) ∧ RS w' p op (.ok t) ∧ Off p w w' := next_any w p op (.ok (c :: t)) x hx h
theorem next_end {w : World} {p : Nat} {op : Int} (x : Int) (hx : x ≠ 0) (h : RS w p op (.ok [])) :
    Calls Tryz.prog 127 #[.pointer (some ⟨p, 0, none⟩), .int .i64 x] w fun en w' => en = .returned (.int .u8 0) ∧ RS w' p op (.error x) ∧ Off p w w' := next_any w p op (.ok []) x hx h
theorem next_err {w : World} {p : Nat} {op : Int} {e : Int} (x : Int) (hx : x ≠ 0) (h : RS w p op (.error e)) :
    Calls Tryz.prog 127 #[.pointer (some ⟨p, 0, none⟩), .int .i64 x] w fun en w' => en = .returned (.int .u8 0) ∧ RS w' p op (.error e) ∧ Off p w w' := next_any w p op (.error e) x hx h
end Go.Proofs.YthlakbjnmbddaaaGreatDoor

/- A writer of patterns: the Builder in its first field: walked. -/
set_option linter.unusedVariables false
set_option linter.unusedSimpArgs false
namespace Go.Proofs.YthlakbjnmbddaaaGreatDoor
open Go.RowKit

/-- A writer's block. -/
def WBlk (w : World) (p : Nat) (a : Option Addr) (v : Value) (o d : Int) : Prop := w.heap[p]? = some (.cells #[.pointer a, v, .int .i64 o, .int .i64 d] 78 (0, 0))
theorem WBlk.lt {w : World} {p : Nat} {a : Option Addr} {v : Value} {o d : Int} (h : WBlk w p a v o d) : p < w.heap.size := (Array.getElem?_eq_some_iff.1 h).1
theorem WBlk.cells {w : World} {p : Nat} {a : Option Addr} {v : Value} {o d : Int} (h : WBlk w p a v o d) : w.cell? ⟨p, 0, none⟩ = some (.pointer a) ∧ w.cell? ⟨p, 1, none⟩ = some v ∧ w.cell? ⟨p, 2, none⟩ = some (.int .i64 o) ∧ w.cell? ⟨p, 3, none⟩ = some (.int .i64 d) :=
  ⟨cell_of_row w p 0 _ _ (0, 0) h, cell_of_row w p 1 _ _ (0, 0) h, cell_of_row w p 2 _ _ (0, 0) h, cell_of_row w p 3 _ _ (0, 0) h⟩
theorem WBlk.froz {w : World} {p : Nat} {a : Option Addr} {v : Value} {o d : Int} (h : WBlk w p a v o d) (k : Nat) : w.frozen? ⟨p, k, none⟩ = false := by
  unfold World.frozen?
  rw [show w.heap[(⟨p, k, none⟩ : Addr).block]? = _ from h]
  simp
theorem WBlk.shape {w : World} {p : Nat} {a : Option Addr} {v : Value} {o d : Int} (h : WBlk w p a v o d) : w.shape? p = some (78, 4) := by
  have h' : w.heap[p]? = _ := h
  simp [World.shape?, h']
theorem WBlk.put0 {w : World} {p : Nat} {a : Option Addr} {v : Value} {o d : Int} (h : WBlk w p a v o d) (a' : Option Addr) : WBlk (w.setCell ⟨p, 0, none⟩ (.pointer a')) p a' v o d := by
  unfold WBlk at h ⊢
  simp only [World.setCell, Array.getElem?_modify, ↓reduceIte, h, Option.map_some]
  rfl
theorem WBlk.put1 {w : World} {p : Nat} {a : Option Addr} {v : Value} {o d : Int} (h : WBlk w p a v o d) (v' : Value) : WBlk (w.setCell ⟨p, 1, none⟩ v') p a v' o d := by
  unfold WBlk at h ⊢
  simp only [World.setCell, Array.getElem?_modify, ↓reduceIte, h, Option.map_some]
  rfl
theorem WBlk.put2 {w : World} {p : Nat} {a : Option Addr} {v : Value} {o d : Int} (h : WBlk w p a v o d) (o' : Int) : WBlk (w.setCell ⟨p, 2, none⟩ (.int .i64 o')) p a v o' d := by
  unfold WBlk at h ⊢
  simp only [World.setCell, Array.getElem?_modify, ↓reduceIte, h, Option.map_some]
  rfl
theorem WBlk.put3 {w : World} {p : Nat} {a : Option Addr} {v : Value} {o d : Int} (h : WBlk w p a v o d) (d' : Int) : WBlk (w.setCell ⟨p, 3, none⟩ (.int .i64 d')) p a v o d' := by
  unfold WBlk at h ⊢
  simp only [World.setCell, Array.getElem?_modify, ↓reduceIte, h, Option.map_some]
  rfl
/-- Only a writer's block is written. -/
structure Only (p : Nat) (w w' : World) : Prop where
  os : w'.os = w.os
  tape : w'.tape = w.tape
  output : w'.output = w.output
  size : w'.heap.size = w.heap.size
  block : ∀ k, k ≠ p → w'.heap[k]? = w.heap[k]?
theorem Only.refl (p : Nat) (w : World) : Only p w w := ⟨rfl, rfl, rfl, rfl, fun _ _ => rfl⟩
theorem Only.set (p : Nat) (w : World) (o : Nat) (v : Value) : Only p w (w.setCell ⟨p, o, none⟩ v) := ⟨rfl, rfl, rfl, by simp, fun k hk => Below.heap_setCell _ _ _ _ hk⟩
theorem Only.below {p B : Nat} {w w' : World} (h : Only p w w') (hB : B ≤ p) : Below B w w' := ⟨h.os, h.tape, h.output, by rw [h.size]; exact Nat.le_refl _, fun k hk => h.block k (by omega)⟩

theorem infoB : Tryz.prog.info? 76 ≠ none := by
  intro h
  have : (Tryz.prog.info? 76).map (·.size) = some 2 := by kernel_rfl
  rw [h] at this; cases this
theorem liesW : liesAt Tryz.prog Tryz.prog.depth 78 (4 / Tryz.prog.cellsOf 78) 0 76 1 = true := by kernel_rfl
set_option maxHeartbeats 1000000 in
set_option maxRecDepth 100000 in
theorem copyCheck_any (w : World) (p : Nat) (a : Option Addr) (v : Value) (o d : Int) (h : WBlk w p a v o d) (ha : a = none ∨ a = some ⟨p, 0, none⟩) :
    Calls Tryz.prog 94 #[.pointer (some ⟨p, 0, none⟩)] w fun e w' => e = .returned (.tuple #[]) ∧ WBlk w' p (some ⟨p, 0, none⟩) v o d ∧ Only p w w' := by
  obtain ⟨j, hj⟩ := Option.ne_none_iff_exists'.1 infoB
  have hjs : j.size = 2 := by
    have : (Tryz.prog.info? 76).map (·.size) = some 2 := by kernel_rfl
    rw [hj] at this; exact Option.some.inj this
  obtain ⟨c0, c1, c2, c3⟩ := h.cells
  have hsh := h.shape
  have f0 := h.froz 0
  have H := Lib.hid h; clear h
  have hto : (convert 74 127 (.pointer (some ⟨p, 0, none⟩))).run Tryz.prog w = .ok (.pointer (some ⟨p, 0, none⟩)) w := Lib.run_to_unsafe w ⟨p, 0, none⟩ Tryz.underlying74 Tryz.underlying127 hj (by rw [hjs]; decide) hsh (by show 0 < 4; decide)
  have hfrom : (convert 127 74 (.pointer (some ⟨p, 0, none⟩))).run Tryz.prog w = .ok (.pointer (some ⟨p, 0, none⟩)) w := Lib.run_from_unsafe w ⟨p, 0, none⟩ Tryz.underlying127 Tryz.underlying74 hj hsh liesW
  have hne : (callFunc 113 #[.pointer (some ⟨p, 0, none⟩)]).run Tryz.prog w = .ok (.value (.pointer (some ⟨p, 0, none⟩))) w := by
    rw [run_callFunc_extern Tryz.func113 (by kernel_rfl) (by kernel_rfl) (by kernel_rfl) (e := Extern.AbiNoEscape.same) (by kernel_rfl), Lib.run_noEscape]
    rfl
  have hsame := Lib.run_neq_ptr_same w ⟨p, 0, none⟩ Tryz.underlying74 hj
  rcases ha with rfl | rfl
  · go_enter Tryz.func94, Tryz.ntmps94
    go_wp2_with fail
    go_end0
    exact ⟨rfl, H.out.put0 _, Only.set _ _ _ _⟩
  · go_enter Tryz.func94, Tryz.ntmps94
    go_wp2_with fail
    go_end0
    exact ⟨rfl, H.out, Only.refl _ _⟩
/-- A writer that holds a text; open brackets, the most of them. -/
def WAt (B p : Nat) (l : Bs) (o d : Int) (w : World) : Prop :=
  B ≤ p ∧ ∃ a v, WBlk w p a v o d ∧ (a = none ∨ a = some ⟨p, 0, none⟩) ∧ w.ownsRow B 5 1 v l.length (Lib.byteCells l) ∧ (l = [] → v = .slice none 0 0)
theorem WAt.blk {B p : Nat} {l : Bs} {o d : Int} {w : World} (h : WAt B p l o d w) : ∃ a A c, WBlk w p a (.slice A l.length c) o d ∧ (a = none ∨ a = some ⟨p, 0, none⟩) ∧ w.ownsRow B 5 1 (.slice A l.length c) l.length (Lib.byteCells l) := by
  obtain ⟨_, a, v, hb, ha, ho, _⟩ := h
  rcases ho.2 with ⟨hv, h0⟩ | ⟨g, cap, cur, hv, _⟩
  · subst hv; exact ⟨a, none, 0, by rw [h0]; exact hb, ha, by rw [h0] at ho ⊢; exact ho⟩
  · subst hv; exact ⟨a, some ⟨g, 0, none⟩, cap, hb, ha, ho⟩
theorem own_ne {w : World} {B p n : Nat} {v : Value} {xs : List Value} {a : Option Addr} {u : Value} {o d : Int} (ho : w.ownsRow B 5 1 v n xs) (hb : WBlk w p a u o d) : v.ownBlock ≠ some p := by
  rcases ho.2 with ⟨rfl, _⟩ | ⟨g, cap, cur, rfl, _, hg, _⟩
  · simp [Value.ownBlock]
  · intro e
    simp only [Value.ownBlock, Option.some.injEq] at e
    subst e
    have h' : w.heap[g]? = _ := hb
    rw [h'] at hg
    simp at hg
theorem WAt.lt {B p : Nat} {l : Bs} {o d : Int} {w : World} (h : WAt B p l o d w) : p < w.heap.size := by
  obtain ⟨_, a, v, hb, _⟩ := h
  exact hb.lt

set_option maxHeartbeats 1000000 in
set_option maxRecDepth 100000 in
theorem blen_any (B p : Nat) (l : Bs) (o d : Int) (w : World) (h : WAt B p l o d w) :
    Calls Tryz.prog 55 #[.pointer (some ⟨p, 0, none⟩)] w fun e w' => e = .returned (.int .i64 l.length) ∧ w' = w := by
  obtain ⟨a, A, c, hb, _, _⟩ := h.blk
  obtain ⟨_, c1, _, _⟩ := hb.cells
  clear h hb
  go_enter Tryz.func55, Tryz.ntmps55
  go_wp2_with fail
  go_ret
  exact ⟨rfl, rfl⟩
theorem infoU8 : (Tryz.prog.info? 5).map (fun i => (i.zero, i.size, i.bytes)) = some (some (.int .u8 0), 1, 1) := by kernel_rfl
/-- What stands beside a writer: its own block and its row apart. -/
def Foreign (w : World) (p k : Nat) : Prop := k < w.heap.size ∧ k ≠ p ∧ ∀ v, w.cell? ⟨p, 1, none⟩ = some v → v.ownBlock ≠ some k
/-- What a writing step leaves as it is. -/
def Fr (p : Nat) (w w' : World) : Prop := ∀ k, Foreign w p k → w'.heap[k]? = w.heap[k]? ∧ Foreign w' p k
theorem Fr.trans {p : Nat} {w w1 w2 : World} (h : Fr p w w1) (k : Fr p w1 w2) : Fr p w w2 := fun i hi => ⟨((k i (h i hi).2).1).trans (h i hi).1, (k i (h i hi).2).2⟩
theorem Fr.of_below {p : Nat} {w w' : World} (hp : p < w.heap.size) (h : Below w.heap.size w w') : Fr p w w' := fun k hk =>
  ⟨h.block k hk.1, Nat.lt_of_lt_of_le hk.1 h.size, hk.2.1, fun v hv => hk.2.2 v ((h.cell (p := ⟨p, 1, none⟩) hp).symm.trans hv)⟩
/-- An append of a string: where the row lies behind it. -/
theorem str_at {P : Program} {w w' : World} {base : Nat} {t u ty e : TypeId} {i : TypeInfo} (ht : P.underlying t = some (.slice e)) (hu : P.underlying u = some .string) (hi : P.info? e = some i) (hz : i.zero = some (.int .u8 0)) (hsize : i.size = 1) (hby : i.bytes = 1)
    {v v' : Value} {n : Nat} {xs : List Value} (hown : w.ownsRow base e 1 v n xs) (s : ByteArray) (h63 : n + s.size ≤ maxLen) (hbytes : n + s.size ≤ 140737488355328)
    (hr : (Builtin.append_ #[t, u] ty #[v, .string s]).run P w = .ok v' w') : ∀ k, v'.ownBlock = some k → v.ownBlock = some k ∨ w.heap.size ≤ k := by
  intro k hk
  have hxl : xs.length = n := by simpa using hown.1
  rcases hown.2 with ⟨rfl, rfl⟩ | ⟨g, cap, cur, rfl, hbg, hg, hnc, hcm, hcs, htake⟩
  · obtain ⟨v2, w2, hr2, h2, _, _⟩ := Lib.run_append_own_string (P := P) w w.heap.size t u ty e i ht hu hi hz hsize hby (.slice none 0 0) 0 [] ⟨rfl, .inl ⟨rfl, rfl⟩⟩ s h63 hbytes (Nat.le_refl _)
    rw [hr] at hr2
    injection hr2 with e1 e2
    subst e1
    exact .inr (h2.lt k hk).1
  · by_cases hroom : n + s.size ≤ cap
    · have hr2 := Lib.run_append_room_string (P := P) w t u ty e i ht hu hi hsize g n cap cur hg s hroom (by omega)
      rw [hr] at hr2
      injection hr2 with e1 e2
      subst e1
      exact .inl hk
    · have holds : ∀ j u, xs[j]? = some u → w.cell? ((⟨g, 0, none⟩ : Addr).add j) = some u := hown.cells (g := g) rfl
      have hr2 := Lib.run_append_grow_string (P := P) w t u ty e i (.int .u8 0) ht hu hi hz ⟨g, 0, none⟩ n cap xs (by rw [hsize]; simpa using hxl) holds s (by omega) (by unfold maxLen at h63; omega) (by rw [hby]; exact growslice_fits (by omega) (by omega))
      rw [hr] at hr2
      injection hr2 with e1 e2
      subst e1
      simp only [Value.ownBlock, Option.some.injEq] at hk
      exact .inr (by omega)
theorem wpList_str_at {P : Program} (w : World) {ops : Array Oper} {rest : List Oper} {o : Oper} {a : Act} {Q : Exit → Act → World → Prop} (hgd : o.guard = none) (sl x : Operand) (t u : TypeId)
    (ho : o.op = .call { callee := .builtin .append, args := #[sl, x], argTypes := #[t, u] })
    (base : Nat) (e : TypeId) (i : TypeInfo) (ht : P.underlying t = some (.slice e)) (hu : P.underlying u = some .string) (hi : P.info? e = some i) (hz : i.zero = some (.int .u8 0))
    (hsize : i.size = 1) (hby : i.bytes = 1)
    (v : Value) (n : Nat) (xs : List Value) (hs : a.eval sl = v) (hown : w.ownsRow base e 1 v n xs) (s : ByteArray) (hx : a.eval x = .string s)
    (h63 : n + s.size ≤ maxLen) (hbytes : n + s.size ≤ 140737488355328) (hbase : base ≤ w.heap.size)
    (h : ∀ v' w', w'.ownsRow base e 1 v' (n + s.size) (xs ++ Lib.strCells s) → w.grownBy w' v.ownBlock → (∀ k, v'.ownBlock = some k → v.ownBlock = some k ∨ w.heap.size ≤ k) → wpList P ops Q rest (a.put o.dst v') w') : wpList P ops Q (o :: rest) a w := by
  refine wpList_plain hgd fun K hK => ?_
  obtain ⟨v', w', hr, h2, h3, _⟩ := Lib.run_append_own_string (P := P) w base t u o.type e i ht hu hi hz hsize hby v n xs hown s h63 hbytes hbase
  have h5 := str_at ht hu hi hz hsize hby hown s h63 hbytes hr
  unfold Oper.wp execOp
  simp only [ho, resolve, invoke, builtin, Sem.run_bind, Sem.run_pure, Result.andThen_ok, List.map_toArray, List.map_cons, List.map_nil, hs, hx, hr]
  exact hK _ _ (h v' w' h2 h3 h5)
/-- The frame of a writing step. -/
theorem fr_of {p : Nat} {w w1 w2 : World} {A : Option Addr} {n cp : Nat} {v' : Value} {a1 : Option Addr} {o d : Int} {a0 : Option Addr} (hb : WBlk w p a0 (.slice A n cp) o d) (hO : Only p w w1) (h2 : ∀ k, k < w1.heap.size → k ≠ p → (Value.slice A n cp).ownBlock ≠ some k → w2.heap[k]? = w1.heap[k]?)
    (hb2 : WBlk w2 p a1 (.slice A n cp) o d) (hz : w1.heap.size ≤ w2.heap.size) (hat : ∀ k, v'.ownBlock = some k → (Value.slice A n cp).ownBlock = some k ∨ w1.heap.size ≤ k) : Fr p w (w2.setCell ⟨p, 1, none⟩ v') := fun k hk => by
  obtain ⟨k1, k2, k3⟩ := hk
  have k3 := k3 _ hb.cells.2.1
  have hs := hO.size
  refine ⟨(Below.heap_setCell _ _ _ _ k2).trans ((h2 k (by omega) k2 k3).trans (hO.block k k2)), by simp; omega, k2, fun u hu e => ?_⟩
  rw [World.cell?_setCell_same _ _ _ hb2.cells.2.1] at hu
  cases hu
  rcases hat k e with h | h
  · exact k3 h
  · omega
set_option maxHeartbeats 2000000 in
set_option maxRecDepth 100000 in
theorem wbyte_any (B p : Nat) (l : Bs) (o d : Int) (w : World) (h : WAt B p l o d w) (hl : l.length ≤ 1000000) (hBw : B ≤ w.heap.size) (c : UInt8) :
    Calls Tryz.prog 78 #[.pointer (some ⟨p, 0, none⟩), .int .u8 c.toNat] w fun e w' => e = .returned .nilIface ∧ WAt B p (l ++ [c]) o d w' ∧ Below B w w' ∧ Fr p w w' := by
  obtain ⟨i0, hi, hz0, hz1, hz2⟩ := info_parts infoU8
  obtain ⟨a, A, cp, hb, ha, hown⟩ := h.blk
  have hBp := h.1
  have hb0 := hb
  have Hown := Lib.hid hown
  clear h hown
  go_enter Tryz.func78, Tryz.ntmps78
  go_wp2_with fail
  refine (copyCheck_any w p a _ o d hb ha).mono ?_
  rintro e w1 ⟨rfl, h1, hO⟩
  have hown1 : w1.ownsRow B 5 1 (.slice A l.length cp) l.length (Lib.byteCells l) := Hown.out.kept (row := some p) ⟨hO.os, hO.tape, hO.output, by rw [hO.size]; exact Nat.le_refl _, fun k _ hk => hO.block k (fun e => hk (by rw [e]))⟩ (Or.inr (own_ne Hown.out hb0))
  have hb1 := hO.below hBp
  obtain ⟨c0, c1, c2, c3⟩ := h1.cells
  have hne := own_ne hown1 h1
  have H1 := Lib.hid h1
  have Hb0 := Lib.hid hb0
  clear h1 hb hb0 ha Hown
  go_wp2_with (at_builtin; refine wpList_append_own_at _ rfl _ _ 42 rfl B 5 i0 (.int .u8 0) 1 1 Tryz.underlying42 hi hz0 hz1 hz2 rfl (by decide) _ _ _ rfl (hown1.alloc _) ⟨w1.heap.size, 0, none⟩ 1 1 [.int .u8 c.toNat] rfl rfl ?c1 ?c2 ?c3 ?c4 ?c5 ?_)
  case c1 =>
    intro j u hj
    match j, hj with
    | 0, hj => simp at hj; subst hj; simp [Addr.add]
  case c2 => intro u hu; simp at hu; subst hu; rfl
  case c3 => unfold maxLen; omega
  case c4 => omega
  case c5 => have := hb1.size; simp; omega
  intro v' w2 hown' hgrow _ hat
  have hlt := H1.out.lt
  have h2 : WBlk w2 p (some ⟨p, 0, none⟩) (.slice A l.length cp) o d := by
    have e1 := hgrow.block p (by simp; omega) (fun e => hne e.symm)
    have e2 := ((Below.refl w1.heap.size w1).alloc (Nat.le_refl _) (.cells #[.int .u8 c.toNat] 5)).block p hlt
    exact (e1.trans e2).trans H1.out
  obtain ⟨d0, d1, d2, d3⟩ := h2.cells
  have f1 := h2.froz 1
  have hB2 : Below B w w2 := (hb1.alloc (by have := hb1.size; omega) _).grown hgrow (by have := hb1.size; simp; omega) (fun k hk => (hown1.lt k hk).1)
  have hfr := fr_of (v' := v') Hb0.out hO (w2 := w2) (fun k k1 k2 k3 => (hgrow.block k (by simp; omega) (fun e => k3 e.symm)).trans (((Below.refl w1.heap.size w1).alloc (Nat.le_refl _) (.cells #[.int .u8 c.toNat] 5)).block k k1)) h2 (by have := hgrow.size; simp at this; omega) (fun k hk => by
    rcases hat with h | h
    · exact .inl (h ▸ hk)
    · rw [h] at hk; simp at hk; exact .inr (by omega))
  have HF := Lib.hid hfr
  clear hfr hat
  obtain ⟨g, cap, rfl⟩ : ∃ g cap, v' = .slice (some ⟨g, 0, none⟩) (l.length + 1) cap := by
    rcases hown'.2 with ⟨_, h0⟩ | ⟨g, cap, cur, hv, _⟩
    · omega
    · exact ⟨g, cap, hv⟩
  have H2 := Lib.hid h2; have HB2 := Lib.hid hB2; have Ho := Lib.hid hown'
  clear h2 hB2 hown' hgrow hown1 hb1 hne H1 hO c0 c1 c2 c3
  go_wp2_with fail
  go_ret
  have hn2 := own_ne Ho.out H2.out
  refine ⟨rfl, ⟨hBp, _, _, H2.out.put1 _, .inr rfl, ?_, fun h0 => absurd h0 (by simp)⟩, HB2.out.setCell (p := ⟨p, 1, none⟩) hBp _, HF.out⟩
  have hx : w2.ownsRow B 5 1 (.slice (some ⟨g, 0, none⟩) (l.length + 1) cap) (l ++ [c]).length (Lib.byteCells (l ++ [c])) := by
    have := Ho.out
    simpa [Lib.byteCells] using this
  exact hx.kept (row := some p) ⟨rfl, rfl, rfl, by simp, fun k _ hk => Below.heap_setCell _ _ _ _ (fun e => hk (by rw [e]))⟩ (Or.inr hn2)
set_option maxHeartbeats 2000000 in
set_option maxRecDepth 100000 in
theorem wstr_any (B p : Nat) (l : Bs) (o d : Int) (w : World) (h : WAt B p l o d w) (hl : l.length ≤ 1000000) (hBw : B ≤ w.heap.size) (s : Bs) (hs : s.length ≤ 1000000) (hs0 : s ≠ []) :
    Calls Tryz.prog 96 #[.pointer (some ⟨p, 0, none⟩), .string (bs s)] w fun e w' => (∃ n : Int, e = .returned (.tuple #[.int .i64 n, .nilIface])) ∧ WAt B p (l ++ s) o d w' ∧ Below B w w' ∧ Fr p w w' := by
  obtain ⟨i0, hi, hz0, hz1, hz2⟩ := info_parts infoU8
  obtain ⟨a, A, cp, hb, ha, hown⟩ := h.blk
  have hBp := h.1
  have hb0 := hb
  have Hown := Lib.hid hown
  have hsz : (bs s).size = s.length := by simp [bs, ByteArray.size]
  clear h hown
  go_enter Tryz.func96, Tryz.ntmps96
  go_wp2_with fail
  refine (copyCheck_any w p a _ o d hb ha).mono ?_
  rintro e w1 ⟨rfl, h1, hO⟩
  have hown1 : w1.ownsRow B 5 1 (.slice A l.length cp) l.length (Lib.byteCells l) := Hown.out.kept (row := some p) ⟨hO.os, hO.tape, hO.output, by rw [hO.size]; exact Nat.le_refl _, fun k _ hk => hO.block k (fun e => hk (by rw [e]))⟩ (Or.inr (own_ne Hown.out hb0))
  have hb1 := hO.below hBp
  obtain ⟨c0, c1, c2, c3⟩ := h1.cells
  have hne := own_ne hown1 h1
  have H1 := Lib.hid h1
  have Hb0 := Lib.hid hb0
  clear h1 hb hb0 ha Hown
  go_wp2_with (at_builtin; refine wpList_str_at _ rfl _ _ 42 9 rfl B 5 i0 Tryz.underlying42 Tryz.underlying9 hi hz0 hz1 hz2 _ _ _ rfl hown1 (bs s) rfl ?c3 ?c4 ?c5 ?_)
  case c3 => unfold maxLen; rw [hsz]; omega
  case c4 => rw [hsz]; omega
  case c5 => have := hb1.size; omega
  intro v' w2 hown' hgrow hat
  have hlt := H1.out.lt
  have h2 : WBlk w2 p (some ⟨p, 0, none⟩) (.slice A l.length cp) o d := (hgrow.block p hlt (fun e => hne e.symm)).trans H1.out
  obtain ⟨d0, d1, d2, d3⟩ := h2.cells
  have f1 := h2.froz 1
  have hB2 : Below B w w2 := hb1.grown hgrow (by have := hb1.size; omega) (fun k hk => (hown1.lt k hk).1)
  have hfr := fr_of (v' := v') Hb0.out hO (w2 := w2) (fun k k1 k2 k3 => hgrow.block k k1 (fun e => k3 e.symm)) h2 hgrow.size hat
  have HF := Lib.hid hfr
  clear hfr hat
  obtain ⟨ao, n', cap, rfl⟩ : ∃ ao n' cap, v' = .slice ao n' cap := by
    rcases hown'.2 with ⟨hv, _⟩ | ⟨g, cap, cur, hv, _⟩
    · exact ⟨_, _, _, hv⟩
    · exact ⟨_, _, _, hv⟩
  have H2 := Lib.hid h2; have HB2 := Lib.hid hB2; have Ho := Lib.hid hown'
  clear h2 hB2 hown' hgrow hown1 hb1 hne H1 hO c0 c1 c2 c3
  go_wp2_with fail
  go_ret2
  have hn2 := own_ne Ho.out H2.out
  refine ⟨⟨_, rfl⟩, ⟨hBp, _, _, H2.out.put1 _, .inr rfl, ?_, fun h0 => absurd h0 (by simp [hs0])⟩, HB2.out.setCell (p := ⟨p, 1, none⟩) hBp _, HF.out⟩
  have hx : w2.ownsRow B 5 1 (.slice ao n' cap) (l ++ s).length (Lib.byteCells (l ++ s)) := by
    have := Ho.out
    simpa [Lib.byteCells, Lib.strCells, bs, ByteArray.size] using this
  exact hx.kept (row := some p) ⟨rfl, rfl, rfl, by simp, fun k _ hk => Below.heap_setCell _ _ _ _ (fun e => hk (by rw [e]))⟩ (Or.inr hn2)
theorem cellsByte : Tryz.prog.cellsOf 5 = 1 := by kernel_rfl
set_option maxHeartbeats 2000000 in
set_option maxRecDepth 100000 in
theorem bstring_any (B p : Nat) (l : Bs) (o d : Int) (w : World) (h : WAt B p l o d w) :
    Calls Tryz.prog 56 #[.pointer (some ⟨p, 0, none⟩)] w fun e w' => e = .returned (.string (bs l)) ∧ Below B w w' := by
  obtain ⟨hBp, a, v, hb, ha, hown, h0⟩ := h
  by_cases hl : l = []
  · have hv := h0 hl
    subst hv
    subst hl
    have c1 : w.drew.cell? ⟨p, 1, none⟩ = some (.slice none 0 0) := hb.cells.2.1
    have c1' : w.cell? ⟨p, 1, none⟩ = some (.slice none 0 0) := hb.cells.2.1
    have hSD : (Builtin.unsafeSliceData_ #[42] 111 #[.slice none 0 0]).run Tryz.prog w.drew = .ok (.pointer none) w.drew := rfl
    have hUS : (Builtin.unsafeString_ #[111, 3] 9 #[.pointer none, .int .i64 0]).run Tryz.prog w.drew = .ok (.string .empty) w.drew := Lib.run_unsafeString_none w.drew _ _ _ none
    clear hb hown h0
    go_enter Tryz.func56, Tryz.ntmps56
    go_wp2_with fail
    go_region
    all_goals
      go_wp2_with fail
      go_ret
      exact ⟨rfl, Below.drew (Below.refl B w)⟩
  · have hl0 : l.length ≠ 0 := by simpa using hl
    obtain ⟨g, cap, cur, rfl, hbg, hg, hnc, hcm, hcs, htake⟩ : ∃ g cap cur, v = .slice (some ⟨g, 0, none⟩) l.length cap ∧ B ≤ g ∧ w.heap[g]? = some (.cells cur 5 (0, 0)) ∧ l.length ≤ cap ∧ cap ≤ maxLen ∧ cur.size = cap * 1 ∧ cur.toList.take (l.length * 1) = Lib.byteCells l := by
      rcases hown.2 with ⟨_, hz⟩ | ⟨g, cap, cur, hv, r⟩
      · exact absurd hz hl0
      · exact ⟨g, cap, cur, hv, r⟩
    have c1 : w.drew.cell? ⟨p, 1, none⟩ = some (.slice (some ⟨g, 0, none⟩) l.length cap) := hb.cells.2.1
    have c1' : w.cell? ⟨p, 1, none⟩ = some (.slice (some ⟨g, 0, none⟩) l.length cap) := hb.cells.2.1
    have hSD : (Builtin.unsafeSliceData_ #[42] 111 #[.slice (some ⟨g, 0, none⟩) l.length cap]).run Tryz.prog w.drew = .ok (.pointer (some ⟨g, 0, none⟩)) w.drew :=
      Lib.run_unsafeSliceData_row _ _ _ _ _ _ (by omega)
    have hUS : (Builtin.unsafeString_ #[111, 3] 9 #[.pointer (some ⟨g, 0, none⟩), .int .i64 l.length]).run Tryz.prog w.drew = .ok (.string (bs l)) (w.drew.freeze ⟨g, 0, none⟩ l.length) := by
      refine Lib.run_unsafeString_row w.drew 111 3 9 5 Tryz.underlying111 cellsByte g cur.size (by have hg' : w.drew.heap[g]? = some (.cells cur 5 (0, 0)) := hg; simp [World.shape?, hg']) l hl (by omega) (by unfold maxLen at hcm; omega) ?_
      intro j x hx
      have := hown.cells (g := g) rfl j (.int .u8 x.toNat) (by simp [Lib.byteCells, hx])
      exact this
    clear hb hown h0 hg htake hcs hcm hnc
    go_enter Tryz.func56, Tryz.ntmps56
    go_wp2_with fail
    go_region
    all_goals
      go_wp2_with fail
      go_ret
      exact ⟨rfl, Lib.below_freeze (Below.drew (Below.refl B w)) (p := ⟨g, 0, none⟩) hbg _⟩
end Go.Proofs.YthlakbjnmbddaaaGreatDoor

/- Trees as texts, plain; sets in brackets read back. -/
set_option linter.unusedVariables false
set_option linter.unusedSimpArgs false
namespace Go.Proofs.YthlakbjnmbddaaaGreatDoor
open Go.RowKit

/-- A byte within a bracket. -/
def memT (c : Nat) : Bs := if c = 93 ∨ c = 91 ∨ c = 94 ∨ c = 45 then [91, 46, UInt8.ofNat c, 46, 93] else [UInt8.ofNat c]
def specB (c : Nat) : Bool := decide (c ∈ [92, 94, 46, 91, 36, 40, 41, 124, 42, 43, 63, 123])
/-- How many stand behind, each by one more. -/
def runN : Nat → List Nat → Nat
  | _, [] => 0
  | c, d :: t => if d = c + 1 then 1 + runN d t else 0
def runsT : Nat → List Nat → Bs
  | 0, _ => []
  | _ + 1, [] => []
  | k + 1, c :: t => memT c ++ ((if 1 < runN c t then [45] else []) ++ ((if 0 < runN c t then memT (c + runN c t) else []) ++ runsT k (t.drop (runN c t))))
def bytesW (s : W4) : List Nat := (List.range 256).filter s.has
def setT (s : W4) : Bs :=
  if (bytesW s).length = 256 then [46]
  else if (bytesW s).length = 0 then [91, 94, 0, 45, 255, 93]
  else if (bytesW s).length = 1 then (if specB ((bytesW s).headD 0) then [92, UInt8.ofNat ((bytesW s).headD 0)] else [UInt8.ofNat ((bytesW s).headD 0)])
  else [91] ++ (runsT (bytesW s).length (bytesW s) ++ [93])
def decT (n : Nat) : Bs := if n < 10 then [UInt8.ofNat (48 + n)] else if n < 100 then [UInt8.ofNat (48 + n / 10), UInt8.ofNat (48 + n % 10)] else [UInt8.ofNat (48 + n / 100), UInt8.ofNat (48 + n / 10 % 10), UInt8.ofNat (48 + n % 10)]
def timesT (m n : Int) : Bs :=
  if m = 0 ∧ n = -1 then [42] else if m = 1 ∧ n = -1 then [43] else if m = 0 ∧ n = 1 then [63]
  else if m = n then [123] ++ (decT m.toNat ++ [125]) else if n = -1 then [123] ++ (decT m.toNat ++ [44, 125]) else [123] ++ (decT m.toNat ++ ([44] ++ (decT n.toNat ++ [125])))
def parT (so : Bool) (x : Bs) : Bs := if so then [40] ++ (x ++ [41]) else x
def looseT (t : T) : Bool := t.k == 0 || t.k == 4 || t.k == 5
mutual
def prT : T → Bs
  | .mk k s0 s1 s2 s3 mn mx ps =>
    if k = 1 then setT ⟨s0, s1, s2, s3⟩ else if k = 2 then [94] else if k = 3 then [36]
    else if k = 4 then prRow ps else if k = 5 then prAlt ps else if k = 6 then prHead ps ++ timesT mn mx else []
def prRow : List T → Bs
  | [] => []
  | p :: ps => parT (looseT p) (prT p) ++ prRow ps
def prAlt : List T → Bs
  | [] => []
  | p :: ps => parT (p.k == 5) (prT p) ++ prBar ps
def prBar : List T → Bs
  | [] => []
  | p :: ps => [124] ++ (parT (p.k == 5) (prT p) ++ prBar ps)
def prHead : List T → Bs
  | [] => []
  | p :: _ => parT (looseT p) (prT p)
end
theorem prT_eq (t : T) : prT t = if t.k = 1 then setT t.w4 else if t.k = 2 then [94] else if t.k = 3 then [36]
    else if t.k = 4 then prRow t.ps else if t.k = 5 then prAlt t.ps else if t.k = 6 then prHead t.ps ++ timesT t.mn t.mx else [] := by cases t; rw [prT]; rfl
mutual
/-- How many brackets are open at once. -/
def deepT : T → Nat
  | .mk k _ _ _ _ _ _ ps => if k = 4 then deepRow ps else if k = 5 then deepAlt ps else if k = 6 then deepHead ps else 0
def deepRow : List T → Nat
  | [] => 0
  | p :: ps => max (deepT p + (if looseT p then 1 else 0)) (deepRow ps)
def deepAlt : List T → Nat
  | [] => 0
  | p :: ps => max (deepT p + (if p.k == 5 then 1 else 0)) (deepAlt ps)
def deepHead : List T → Nat
  | [] => 0
  | p :: _ => deepT p + (if looseT p then 1 else 0)
end
theorem deepT_eq (t : T) : deepT t = if t.k = 4 then deepRow t.ps else if t.k = 5 then deepAlt t.ps else if t.k = 6 then deepHead t.ps else 0 := by cases t; rw [deepT]; rfl

/-! Sets read back. -/
theorem b8 {c : Nat} (h : c < 256) : (UInt8.ofNat c).toNat = c := by simp [UInt8.toNat_ofNat']; omega
theorem b8_eq {c k : Nat} (h : c < 256) (hk : k < 256) : UInt8.ofNat c = UInt8.ofNat k ↔ c = k := by
  constructor
  · intro e
    have := congrArg UInt8.toNat e
    rwa [b8 h, b8 hk] at this
  · rintro rfl; rfl
theorem takeP_nil (q : Bs) (hq : q ≠ []) : takeP q [] = none := by
  cases q with
  | nil => exact absurd rfl hq
  | cons a q => rfl
theorem takeP_cons (a : UInt8) (q : Bs) (c : UInt8) (r : Bs) : takeP (a :: q) (c :: r) = if a = c then takeP q r else none := by
  unfold takeP
  by_cases h : a = c
  · subst h; simp [List.isPrefixOf]
  · simp [List.isPrefixOf, h]
theorem takeP_done (r : Bs) : takeP [] r = some r := by unfold takeP; simp [List.isPrefixOf]
theorem takeP_one (a c : UInt8) (r : Bs) : takeP [a] (c :: r) = if a = c then some r else none := by rw [takeP_cons]; simp [takeP_done]
theorem b8_91 {c : Nat} (hc : c < 256) : (91 : UInt8) = UInt8.ofNat c ↔ c = 91 := by
  rw [show (91 : UInt8) = UInt8.ofNat 91 from rfl, b8_eq (by omega) hc]; exact ⟨fun h => h.symm, fun h => h.symm⟩
theorem b8_93 {c : Nat} (hc : c < 256) : (93 : UInt8) = UInt8.ofNat c ↔ c = 93 := by
  rw [show (93 : UInt8) = UInt8.ofNat 93 from rfl, b8_eq (by omega) hc]; exact ⟨fun h => h.symm, fun h => h.symm⟩
theorem b8_45 {c : Nat} (hc : c < 256) : (45 : UInt8) = UInt8.ofNat c ↔ c = 45 := by
  rw [show (45 : UInt8) = UInt8.ofNat 45 from rfl, b8_eq (by omega) hc]; exact ⟨fun h => h.symm, fun h => h.symm⟩
theorem b8_94 {c : Nat} (hc : c < 256) : (94 : UInt8) = UInt8.ofNat c ↔ c = 94 := by
  rw [show (94 : UInt8) = UInt8.ofNat 94 from rfl, b8_eq (by omega) hc]; exact ⟨fun h => h.symm, fun h => h.symm⟩
theorem memT_cases {c : Nat} (hc : c < 256) (r : Bs) : (memT c ++ r = 91 :: 46 :: UInt8.ofNat c :: 46 :: 93 :: r) ∨ (memT c ++ r = UInt8.ofNat c :: r ∧ c ≠ 91 ∧ c ≠ 93 ∧ c ≠ 45 ∧ c ≠ 94) := by
  unfold memT
  split
  · exact .inl rfl
  · exact .inr ⟨rfl, by omega, by omega, by omega, by omega⟩
/-- A member's text begins with none of these. -/
theorem memT_take {c : Nat} (hc : c < 256) (r : Bs) : takeP [93] (memT c ++ r) = none ∧ takeP [45] (memT c ++ r) = none ∧ takeP [94] (memT c ++ r) = none ∧ takeP [91, 58] (memT c ++ r) = none ∧ takeP [91, 61] (memT c ++ r) = none := by
  rcases memT_cases hc r with e | ⟨e, h1, h2, h3, h4⟩
  · rw [e]
    simp [takeP_cons]
  · rw [e]
    have h5 := b8_91 hc; have h6 := b8_93 hc; have h7 := b8_45 hc; have h8 := b8_94 hc
    simp only [takeP_cons]
    rw [if_neg (fun e => h2 (h6.1 e)), if_neg (fun e => h3 (h7.1 e)), if_neg (fun e => h4 (h8.1 e)), if_neg (fun e => h1 (h5.1 e)), if_neg (fun e => h1 (h5.1 e))]
    exact ⟨rfl, rfl, rfl, rfl, rfl⟩
theorem memP_memT {c : Nat} (hc : c < 256) (r : Bs) : memberP (memT c ++ r) = .ok (c, r) := by
  rcases memT_cases hc r with e | ⟨e, h1, h2, h3, h4⟩
  · rw [e, memberP]
    simp only [takeP_cons, if_true, takeP_done, singleP, b8 hc]
  · rw [e, memberP]
    have h5 := b8_91 hc
    simp only [takeP_cons]
    rw [if_neg (fun e => h1 (h5.1 e))]
    simp only [b8 hc]
theorem item_one {c : Nat} (hc : c < 256) (s : W4) (r : Bs) (hr : takeP [45] r = none) : itemP s (memT c ++ r) = .ok (s.add c, r) := by
  obtain ⟨_, _, _, h4, h5⟩ := memT_take hc r
  rw [itemP, h4, h5]
  simp only [memP_memT hc]
  rw [rangeP, hr]
theorem item_range {a b : Nat} (ha : a < 256) (hb : b < 256) (hab : a ≤ b) (s : W4) (r : Bs) : itemP s (memT a ++ (45 :: (memT b ++ r))) = .ok (s.span a (b + 1 - a), r) := by
  obtain ⟨_, _, _, h4, h5⟩ := memT_take ha (45 :: (memT b ++ r))
  obtain ⟨g1, _, _, g4, g5⟩ := memT_take hb r
  rw [itemP, h4, h5]
  simp only [memP_memT ha]
  rw [rangeP, takeP_one, takeP_cons, if_pos rfl, if_pos rfl, g1]
  simp only [g4, g5, memP_memT hb]
  simp only [Option.isSome, Bool.or_false, Bool.false_eq_true, if_false]
  rw [if_neg (by omega)]

theorem runN_le : ∀ (c : Nat) (t : List Nat), runN c t ≤ t.length
  | _, [] => by rw [runN]; simp
  | c, d :: t => by rw [runN]; split; (have := runN_le d t; simp; omega); simp
theorem runN_take : ∀ (c : Nat) (t : List Nat), t.take (runN c t) = List.range' (c + 1) (runN c t)
  | _, [] => by rw [runN]; simp
  | c, d :: t => by
    rw [runN]
    split
    · rename_i h
      subst h
      rw [Nat.add_comm 1, List.take_succ_cons, runN_take (c + 1) t, List.range'_succ]
    · simp
theorem memT_pos (x : Nat) : 1 ≤ (memT x).length := by unfold memT; split <;> simp
theorem runs_head {k : Nat} {l : List Nat} (hl : l.length ≤ k) (h : ∀ x ∈ l, x < 256) (r : Bs) : (l = [] ∧ runsT k l ++ 93 :: r = 93 :: r) ∨ (l ≠ [] ∧ takeP [93] (runsT k l ++ 93 :: r) = none ∧ takeP [45] (runsT k l ++ 93 :: r) = none ∧ takeP [94] (runsT k l ++ 93 :: r) = none) := by
  cases l with
  | nil => exact .inl ⟨rfl, by cases k <;> rfl⟩
  | cons y q =>
    obtain ⟨k, rfl⟩ : ∃ k', k = k' + 1 := ⟨k - 1, by simp at hl; omega⟩
    have hh := memT_take (h y (List.mem_cons_self ..)) (((if 1 < runN y q then [45] else []) ++ ((if 0 < runN y q then memT (y + runN y q) else []) ++ runsT k (q.drop (runN y q)))) ++ 93 :: r)
    rw [runsT, List.append_assoc]
    exact .inr ⟨by simp, hh.1, hh.2.1, hh.2.2.1⟩
/-- Runs, up tu ]. -/
theorem runs_read : ∀ (k : Nat) (l : List Nat) (s : W4) (r : Bs) (m : Nat), l ≠ [] → l.length ≤ k → (runsT k l ++ (93 :: r)).length ≤ m → (∀ x ∈ l, x < 256) → itemsP m s (runsT k l ++ (93 :: r)) = .ok (l.foldl W4.add s, r)
  | 0, l, s, r, m, hne, hk, hm, hl => by
    have : l = [] := List.eq_nil_of_length_eq_zero (by omega)
    exact absurd this hne
  | k + 1, [], s, r, m, hne, _, _, _ => absurd rfl hne
  | k + 1, c :: t, s, r, m, _, hk, hm, hl => by
    have hc : c < 256 := hl c (List.mem_cons_self ..)
    have hrn := runN_le c t
    have htk := runN_take c t
    have hdrop : t = List.range' (c + 1) (runN c t) ++ t.drop (runN c t) := by rw [← htk]; exact (List.take_append_drop _ _).symm
    have hlast : c + runN c t < 256 := by
      rcases Nat.eq_zero_or_pos (runN c t) with h | h
      · omega
      · exact hl _ (List.mem_cons_of_mem _ (List.mem_of_mem_take (i := runN c t) (by rw [htk, List.mem_range'_1]; omega)))
    have hrest : ∀ x ∈ t.drop (runN c t), x < 256 := fun x hx => hl x (List.mem_cons_of_mem _ (List.mem_of_mem_drop hx))
    have hfold : (c :: t).foldl W4.add s = (t.drop (runN c t)).foldl W4.add (s.span c (runN c t + 1)) := by
      conv => lhs; rw [List.foldl_cons, hdrop, List.foldl_append]
      rw [W4.span, List.range'_succ, List.foldl_cons]
    rw [hfold]
    rw [runsT] at hm ⊢
    simp only [List.length_cons] at hk
    generalize hn : runN c t = n at *
    have hTk : (t.drop n).length ≤ k := by rw [List.length_drop]; omega
    generalize t.drop n = T' at *
    have tail : ∀ (m' : Nat) (s' : W4), (runsT k T' ++ (93 :: r)).length ≤ m' → (match takeP [93] (runsT k T' ++ (93 :: r)) with | some r2 => (.ok (s', r2) : Except Int (W4 × Bs)) | none => itemsP m' s' (runsT k T' ++ (93 :: r))) = .ok (T'.foldl W4.add s', r) := fun m' s' hm' => by
      rcases runs_head hTk hrest r with ⟨rfl, e⟩ | ⟨hne, e, _⟩
      · rw [e, takeP_one, if_pos rfl]; rfl
      · rw [e]; exact runs_read k T' s' r m' hne hTk hm' hrest
    have t45 : takeP [45] (runsT k T' ++ (93 :: r)) = none := by
      rcases runs_head hTk hrest r with ⟨rfl, e⟩ | ⟨_, _, e, _⟩
      · rw [e, takeP_one, if_neg (by decide)]
      · exact e
    have hp := memT_pos c
    simp only [List.append_assoc, List.length_append] at hm ⊢
    simp only [List.length_append] at tail
    rcases (by omega : n = 0 ∨ n = 1 ∨ 2 ≤ n) with h | h | h
    · subst h
      simp only [Nat.lt_irrefl, if_false, List.nil_append, show ¬ (1 < 0) by omega, List.length_nil, Nat.zero_add] at hm ⊢
      obtain ⟨m, rfl⟩ : ∃ m', m = m' + 1 := ⟨m - 1, by omega⟩
      rw [itemsP, item_one hc s _ t45]
      exact tail m _ (by omega)
    · subst h
      have hp2 := memT_pos (c + 1)
      simp only [Nat.lt_irrefl, if_false, List.nil_append, Nat.zero_lt_one, if_true, List.length_nil, Nat.zero_add] at hm ⊢
      obtain ⟨m, rfl⟩ : ∃ m', m = m' + 2 := ⟨m - 2, by omega⟩
      obtain ⟨g1, g2, _⟩ := memT_take (c := c + 1) (by omega) (runsT k T' ++ 93 :: r)
      rw [itemsP, item_one hc s _ g2]
      simp only [g1]
      rw [itemsP, item_one (by omega) (s.add c) _ t45]
      exact tail m _ (by omega)
    · have hp2 := memT_pos (c + n)
      simp only [if_pos (show 1 < n by omega), if_pos (show 0 < n by omega), List.cons_append, List.nil_append] at hm ⊢
      obtain ⟨m, rfl⟩ : ∃ m', m = m' + 1 := ⟨m - 1, by simp only [List.length_append, List.length_cons] at hm; omega⟩
      rw [itemsP, item_range hc hlast (by omega) s]
      simp only [show c + n + 1 - c = n + 1 by omega]
      exact tail m _ (by simp only [List.length_append, List.length_cons] at hm ⊢; omega)

theorem bytesW_lt (s : W4) : ∀ x ∈ bytesW s, x < 256 := fun x hx => by unfold bytesW at hx; rw [List.mem_filter, List.mem_range] at hx; exact hx.1
theorem bytesW_mem (s : W4) (x : Nat) : x ∈ bytesW s ↔ x < 256 ∧ s.has x = true := by unfold bytesW; rw [List.mem_filter, List.mem_range]
theorem bytesW_le (s : W4) : (bytesW s).length ≤ 256 := by
  have := List.length_filter_le s.has (List.range 256)
  simpa [bytesW] using this
/-- All bytes of a set, put in, are the set. -/
theorem fold_bytes {s : W4} (h : Wok s) : (bytesW s).foldl W4.add w40 = s := by
  obtain ⟨h1, h2⟩ := adds_spec (bytesW s) wok0 (bytesW_lt s)
  refine W4.ext' h1 h fun c hc => ?_
  rw [h2 c hc, has0, Bool.false_or, Bool.eq_iff_iff, decide_eq_true_eq, bytesW_mem]
  exact ⟨fun h => h.2, fun h => ⟨hc, h⟩⟩
theorem all_bytes {s : W4} (h : Wok s) (hl : (bytesW s).length = 256) : s = w40.span 0 256 := by
  obtain ⟨h1, h2⟩ := span_spec wok0 0 256 (by omega)
  refine W4.ext' h h1 fun c hc => ?_
  have ha := List.length_filter_eq_length_iff.1 (show ((List.range 256).filter s.has).length = (List.range 256).length by simpa [bytesW] using hl)
  rw [h2 c hc, ha c (List.mem_range.2 hc)]
  simp [hc]
theorem no_bytes {s : W4} (h : Wok s) (hl : (bytesW s).length = 0) : (w40.span 0 256).not = s := by
  obtain ⟨h1, h2⟩ := span_spec wok0 0 256 (by omega)
  refine W4.ext' (not_ok h1) h fun c hc => ?_
  rw [not_has h1, h2 c hc]
  have hn : bytesW s = [] := List.eq_nil_of_length_eq_zero hl
  have : s.has c = false := by
    cases hh : s.has c with
    | false => rfl
    | true => have := (bytesW_mem s c).2 ⟨hc, hh⟩; rw [hn] at this; cases this
  rw [this]
  simp [hc]
/-- A set's text is read as that set. -/
theorem set_atom {s : W4} (h : Wok s) (grp : Bs → PT) (r : Bs) : atomP grp (setT s ++ r) = .ok (s.T, r) := by
  unfold setT
  split
  · rename_i h1
    simp only [List.cons_append, List.nil_append, atomP]
    rw [all_bytes h h1]
    simp
  split
  · rename_i h1
    simp only [List.cons_append, List.nil_append, atomP]
    simp only [show ¬ ((91 : UInt8) = 40) by decide, show ¬ ((91 : UInt8) = 94) by decide, show ¬ ((91 : UInt8) = 36) by decide, if_true, if_false]
    have hb : bracketP (94 :: 0 :: 45 :: 255 :: 93 :: r) = .ok ((w40.span 0 256).not, r) := by
      rw [bracketP, takeP_one, if_pos rfl]
      have := item_range (a := 0) (b := 255) (by omega) (by omega) (by omega) w40 (93 :: r)
      rw [show memT 0 ++ 45 :: (memT 255 ++ 93 :: r) = 0 :: 45 :: 255 :: 93 :: r by rfl] at this
      simp only
      rw [itemsP, this]
      simp only [takeP_one, if_true]
    rw [hb, no_bytes h h1]
  split
  · rename_i h1
    obtain ⟨c, hc⟩ := List.length_eq_one_iff.1 h1
    have hcl : c < 256 := bytesW_lt s c (by rw [hc]; simp)
    have hf := fold_bytes h
    have hh : (bytesW s).headD 0 = c := by rw [hc]; rfl
    rw [hc] at hf
    simp only [List.foldl_cons, List.foldl_nil] at hf
    rw [hh]
    by_cases hs : specB c = true
    · rw [if_pos hs]
      simp only [List.cons_append, List.nil_append, atomP]
      simp only [show ¬ ((92 : UInt8) = 40) by decide, show ¬ ((92 : UInt8) = 94) by decide, show ¬ ((92 : UInt8) = 36) by decide, show ¬ ((92 : UInt8) = 91) by decide, show ¬ ((92 : UInt8) = 46) by decide, show ¬ ((92 : UInt8) = 42 ∨ (92 : UInt8) = 43 ∨ (92 : UInt8) = 63 ∨ (92 : UInt8) = 123) by decide, if_true, if_false]
      rw [b8 hcl, hf]
    · rw [if_neg hs]
      have hs : ¬ c ∈ [92, 94, 46, 91, 36, 40, 41, 124, 42, 43, 63, 123] := by simpa [specB] using hs
      simp only [List.mem_cons, List.not_mem_nil, or_false, not_or] at hs
      have ne : ∀ k, k < 256 → c ≠ k → UInt8.ofNat c ≠ UInt8.ofNat k := fun k hk hn e => hn ((b8_eq hcl hk).1 e)
      simp only [List.cons_append, List.nil_append, atomP]
      rw [if_neg (show UInt8.ofNat c ≠ 40 from ne 40 (by omega) (by omega)), if_neg (show UInt8.ofNat c ≠ 94 from ne 94 (by omega) (by omega)), if_neg (show UInt8.ofNat c ≠ 36 from ne 36 (by omega) (by omega)), if_neg (show UInt8.ofNat c ≠ 91 from ne 91 (by omega) (by omega)), if_neg (show UInt8.ofNat c ≠ 46 from ne 46 (by omega) (by omega)),
        if_neg (fun e => e.elim (show UInt8.ofNat c ≠ 42 from ne 42 (by omega) (by omega)) (fun e => e.elim (show UInt8.ofNat c ≠ 43 from ne 43 (by omega) (by omega)) (fun e => e.elim (show UInt8.ofNat c ≠ 63 from ne 63 (by omega) (by omega)) (show UInt8.ofNat c ≠ 123 from ne 123 (by omega) (by omega))))), if_neg (show UInt8.ofNat c ≠ 92 from ne 92 (by omega) (by omega)), b8 hcl, hf]
  · rename_i h0 h1 h2
    have hne : bytesW s ≠ [] := fun e => h1 (by rw [e]; rfl)
    have hrd := fun m (hm : (runsT (bytesW s).length (bytesW s) ++ (93 :: r)).length ≤ m) => runs_read (bytesW s).length (bytesW s) w40 r m hne (Nat.le_refl _) hm (bytesW_lt s)
    simp only [List.cons_append, List.nil_append, List.append_assoc, atomP]
    simp only [show ¬ ((91 : UInt8) = 40) by decide, show ¬ ((91 : UInt8) = 94) by decide, show ¬ ((91 : UInt8) = 36) by decide, if_true, if_false]
    have hb : bracketP (runsT (bytesW s).length (bytesW s) ++ 93 :: r) = .ok (s, r) := by
      rcases runs_head (Nat.le_refl _) (bytesW_lt s) r with ⟨e, _⟩ | ⟨_, _, _, e⟩
      · exact absurd e hne
      · rw [bracketP, e]
        simp only
        rw [hrd _ (by omega), fold_bytes h]
    rw [hb]
end Go.Proofs.YthlakbjnmbddaaaGreatDoor

/-
  DERIVED: THE SHELF's CONTRACTS AT THIS DUMP, IN PLAIN WORDS (tools/lay-plain.mjs out of 'TryzShelf.lean', which tools/lay-shelf.mjs wrote): THE SAME DECLARATIONS UNDER THE SAME NAMES: 'import', 'namespace', 'open', 'def', 'theorem' AND NOTHING ELSE: no command of the shelf's: FOR A HAND-IN. Each laying: the table of numbers ('.._ren') and one theorem, a field a fact of the dump's own or the kernel's comparison; each contract: ONE APPLICATION.
-/
namespace Go.Proofs
open Go.Shelf
def Tryz.lays137_ren : Go.Shelf.Ren := ⟨fun | 137 => 97 | 217 => 115 | 266 => 125 | n => n, fun | 9 => 9 | 5 => 5 | 3 => 3 | n => n, fun | n => n⟩
theorem Tryz.lays137 : Go.Proofs.Lays.n137 Tryz.prog Tryz.lays137_ren := {
  mixed := by kernel_rfl
  f137 := Tryz.func97.trans (congrArg some (by kernel_rfl))
  f217 := Tryz.func115.trans (congrArg some (by kernel_rfl))
  f266 := Tryz.func125.trans (congrArg some (by kernel_rfl))
  t3 := Tryz.underlying3
  a3 := Tryz.isAgg3
  z3 := Tryz.sizeOf3
  v3 := Tryz.zeroValue3
  t5 := Tryz.underlying5
  a5 := Tryz.isAgg5
  z5 := Tryz.sizeOf5
  v5 := Tryz.zeroValue5
  t9 := Tryz.underlying9
  a9 := Tryz.isAgg9
  z9 := Tryz.sizeOf9
  v9 := Tryz.zeroValue9 }
open Go.RowKit in
/-- strings.IndexByte: "IndexByte returns the index of the first instance of c in s, or -1 if c is not present in s.": IT RETURNS 'Lib.indexByte s c'; the world is as it was. (LAID: no walk: one application.) -/
theorem Tryz.strings_IndexByte (s : ByteArray) (c : Int) (w : World) :
    Calls Tryz.prog 97 #[.string s, .int .u8 c] w fun e w' => e = .returned (.int .i64 (Lib.indexByte s.data.toList c.toNat.toUInt8)) ∧ w' = w := Any.strings_IndexByte Tryz.lays137 s c w
def Tryz.laysM246_ren : Go.Shelf.Ren := ⟨fun | 246 => 126 | 283 => 142 | 284 => 143 | 285 => 144 | 286 => 145 | 129 => 151 | 317 => 150 | 318 => 152 | 319 => 153 | 320 => 154 | 337 => 162 | 338 => 163 | n => n, fun | 2 => 2 | 3 => 3 | 9 => 9 | 4 => 4 | 171 => 147 | 0 => 0 | 53 => 26 | 37 => 42 | 5 => 5 | 173 => 150 | 212 => 158 | 51 => 159 | 20 => 20 | 213 => 160 | 46 => 161 | 232 => 174 | 233 => 175 | n => n, fun | 17 => 1 | 18 => 2 | 19 => 3 | n => n⟩
def Tryz.laysM243_ren : Go.Shelf.Ren := ⟨fun | 243 => 116 | 246 => 126 | 283 => 142 | 284 => 143 | 285 => 144 | 286 => 145 | 129 => 151 | 317 => 150 | 318 => 152 | 319 => 153 | 320 => 154 | 337 => 162 | 338 => 163 | n => n, fun | 3 => 3 | 9 => 9 | 2 => 2 | 4 => 4 | 171 => 147 | 0 => 0 | 53 => 26 | 37 => 42 | 5 => 5 | 173 => 150 | 212 => 158 | 51 => 159 | 20 => 20 | 213 => 160 | 46 => 161 | 232 => 174 | 233 => 175 | n => n, fun | 17 => 1 | 18 => 2 | 19 => 3 | n => n⟩
def Tryz.laysM171_ren : Go.Shelf.Ren := ⟨fun | 171 => 99 | 243 => 116 | 246 => 126 | 283 => 142 | 284 => 143 | 285 => 144 | 286 => 145 | 129 => 151 | 317 => 150 | 318 => 152 | 319 => 153 | 320 => 154 | 337 => 162 | 338 => 163 | n => n, fun | 3 => 3 | 9 => 9 | 2 => 2 | 4 => 4 | 171 => 147 | 0 => 0 | 53 => 26 | 37 => 42 | 5 => 5 | 173 => 150 | 212 => 158 | 51 => 159 | 20 => 20 | 213 => 160 | 46 => 161 | 232 => 174 | 233 => 175 | n => n, fun | 17 => 1 | 18 => 2 | 19 => 3 | n => n⟩
theorem Tryz.laysM171 : Go.Proofs.LaysM.n171 Tryz.prog Tryz.laysM171_ren := {
  mixed := by kernel_rfl
  f129 := Tryz.func151.trans (congrArg some (by kernel_rfl))
  f171 := Tryz.func99.trans (congrArg some (by kernel_rfl))
  f243 := Tryz.func116.trans (congrArg some (by kernel_rfl))
  f246 := Tryz.func126.trans (congrArg some (by kernel_rfl))
  f283 := Tryz.func142.trans (congrArg some (by kernel_rfl))
  f284 := Tryz.func143.trans (congrArg some (by kernel_rfl))
  f285 := Tryz.func144.trans (congrArg some (by kernel_rfl))
  f286 := Tryz.func145.trans (congrArg some (by kernel_rfl))
  f317 := Tryz.func150.trans (congrArg some (by kernel_rfl))
  f318 := Tryz.func152.trans (congrArg some (by kernel_rfl))
  f319 := Tryz.func153.trans (congrArg some (by kernel_rfl))
  f320 := Tryz.func154.trans (congrArg some (by kernel_rfl))
  f337 := Tryz.func162.trans (congrArg some (by kernel_rfl))
  f338 := Tryz.func163.trans (congrArg some (by kernel_rfl))
  t0 := Tryz.underlying0
  a0 := Tryz.isAgg0
  z0 := Tryz.sizeOf0
  v0 := Tryz.zeroValue0
  t2 := Tryz.underlying2
  a2 := Tryz.isAgg2
  z2 := Tryz.sizeOf2
  v2 := Tryz.zeroValue2
  t3 := Tryz.underlying3
  a3 := Tryz.isAgg3
  z3 := Tryz.sizeOf3
  v3 := Tryz.zeroValue3
  t4 := Tryz.underlying4
  a4 := Tryz.isAgg4
  z4 := Tryz.sizeOf4
  v4 := Tryz.zeroValue4
  t5 := Tryz.underlying5
  a5 := Tryz.isAgg5
  z5 := Tryz.sizeOf5
  v5 := Tryz.zeroValue5
  t9 := Tryz.underlying9
  a9 := Tryz.isAgg9
  z9 := Tryz.sizeOf9
  v9 := Tryz.zeroValue9
  t20 := Tryz.underlying20
  a20 := Tryz.isAgg20
  z20 := Tryz.sizeOf20
  v20 := Tryz.zeroValue20
  t37 := Tryz.underlying42
  a37 := Tryz.isAgg42
  z37 := Tryz.sizeOf42
  v37 := Tryz.zeroValue42
  t46 := Tryz.underlying161
  a46 := Tryz.isAgg161
  z46 := Tryz.sizeOf161
  v46 := Tryz.zeroValue161
  t51 := Tryz.underlying159
  a51 := Tryz.isAgg159
  z51 := Tryz.sizeOf159
  v51 := Tryz.zeroValue159
  t53 := Tryz.underlying26
  a53 := Tryz.isAgg26
  z53 := Tryz.sizeOf26
  v53 := Tryz.zeroValue26
  t171 := Tryz.underlying147
  a171 := Tryz.isAgg147
  z171 := Tryz.sizeOf147
  v171 := Tryz.zeroValue147
  t173 := Tryz.underlying150
  a173 := Tryz.isAgg150
  z173 := Tryz.sizeOf150
  v173 := Tryz.zeroValue150
  t212 := Tryz.underlying158
  a212 := Tryz.isAgg158
  z212 := Tryz.sizeOf158
  v212 := Tryz.zeroValue158
  t213 := Tryz.underlying160
  a213 := Tryz.isAgg160
  z213 := Tryz.sizeOf160
  t232 := Tryz.underlying174
  a232 := Tryz.isAgg174
  z232 := Tryz.sizeOf174
  v232 := Tryz.zeroValue174
  t233 := Tryz.underlying175
  a233 := Tryz.isAgg175
  z233 := Tryz.sizeOf175
  v233 := Tryz.zeroValue175
  g17 := by kernel_rfl
  g18 := by kernel_rfl
  g19 := by kernel_rfl
  i0 := by kernel_rfl
  i2 := by kernel_rfl
  i3 := by kernel_rfl
  i4 := by kernel_rfl
  i5 := by kernel_rfl
  i9 := by kernel_rfl
  i20 := by kernel_rfl
  i37 := by kernel_rfl
  i46 := by kernel_rfl
  i51 := by kernel_rfl
  i53 := by kernel_rfl
  i171 := by kernel_rfl
  i173 := by kernel_rfl
  i212 := by kernel_rfl
  i232 := by kernel_rfl
  i233 := by kernel_rfl
  m17 := by kernel_rfl
  m18 := by kernel_rfl
  m19 := by kernel_rfl }
open Go.RowKit Go.Sort Go.Lib in
/-- strconv.Itoa: "Itoa is equivalent tu FormatInt(int64(i), 10).": i's DECIMAL NUMERAL ('Lib.itoa': a '-' where i is negative, then the digits), FOR EVERY int. The world behind the call: the world before it, new blocks behind the heap (the library's 'var a [24]byte'), draws. (LAID: no walk: one application.) -/
theorem Tryz.strconv_Itoa (n : Int) (h0 : -9223372036854775808 ≤ n) (h1 : n ≤ 9223372036854775807) (w : World) (htab : Lib.TabIs Tryz.prog w "internal/strconv.uint64pow10" .u64 Lib.pow10Tab) :
    Calls Tryz.prog 99 #[.int .i64 n] w fun e w' => e = .returned (.string ⟨(Lib.itoa n).toArray⟩) ∧ ∃ k os, w' = grow (w.drewN k) os := Any.strconv_Itoa Tryz.laysM171 n h0 h1 w htab
def Tryz.lays219_ren : Go.Shelf.Ren := ⟨fun | 219 => 171 | 217 => 115 | 225 => 174 | 224 => 175 | 267 => 176 | 266 => 125 | 314 => 177 | n => n, fun | 9 => 9 | 3 => 3 | 4 => 4 | 5 => 5 | 46 => 161 | 146 => 180 | 51 => 159 | n => n, fun | 1 => 0 | n => n⟩
def Tryz.lays145_ren : Go.Shelf.Ren := ⟨fun | 145 => 164 | 220 => 167 | 219 => 171 | 217 => 115 | 225 => 174 | 224 => 175 | 267 => 176 | 266 => 125 | 314 => 177 | n => n, fun | 9 => 9 | 4 => 4 | 59 => 167 | 3 => 3 | 5 => 5 | 46 => 161 | 146 => 180 | 51 => 159 | n => n, fun | 1 => 0 | n => n⟩
theorem Tryz.lays145 : Go.Proofs.Lays.n145 Tryz.prog Tryz.lays145_ren := {
  mixed := by kernel_rfl
  f145 := Tryz.func164.trans (congrArg some (by kernel_rfl))
  f217 := Tryz.func115.trans (congrArg some (by kernel_rfl))
  f219 := Tryz.func171.trans (congrArg some (by kernel_rfl))
  f220 := Tryz.func167.trans (congrArg some (by kernel_rfl))
  f224 := Tryz.func175.trans (congrArg some (by kernel_rfl))
  f225 := Tryz.func174.trans (congrArg some (by kernel_rfl))
  f266 := Tryz.func125.trans (congrArg some (by kernel_rfl))
  f267 := Tryz.func176.trans (congrArg some (by kernel_rfl))
  f314 := Tryz.func177.trans (congrArg some (by kernel_rfl))
  t3 := Tryz.underlying3
  a3 := Tryz.isAgg3
  z3 := Tryz.sizeOf3
  v3 := Tryz.zeroValue3
  t4 := Tryz.underlying4
  a4 := Tryz.isAgg4
  z4 := Tryz.sizeOf4
  v4 := Tryz.zeroValue4
  t5 := Tryz.underlying5
  a5 := Tryz.isAgg5
  z5 := Tryz.sizeOf5
  v5 := Tryz.zeroValue5
  t9 := Tryz.underlying9
  a9 := Tryz.isAgg9
  z9 := Tryz.sizeOf9
  v9 := Tryz.zeroValue9
  t46 := Tryz.underlying161
  a46 := Tryz.isAgg161
  z46 := Tryz.sizeOf161
  v46 := Tryz.zeroValue161
  t51 := Tryz.underlying159
  a51 := Tryz.isAgg159
  z51 := Tryz.sizeOf159
  v51 := Tryz.zeroValue159
  t59 := Tryz.underlying167
  a59 := Tryz.isAgg167
  z59 := Tryz.sizeOf167
  v59 := Tryz.zeroValue167
  t146 := Tryz.underlying180
  a146 := Tryz.isAgg180
  z146 := Tryz.sizeOf180
  v146 := Tryz.zeroValue180
  g1 := by kernel_rfl }
open Go.RowKit Go.Lib in
/-- strings.Cut: "Cut slices s around the first instance of sep, returning the text before and after sep. The found result reports whether sep appears in s. If sep does not appear in s, cut returns s, "", false.": IT RETURNS 'Lib.cut s sep'; the world is as it was but for the count of draws. (LAID: no walk: one application.) -/
theorem Tryz.strings_Cut (s sep : ByteArray) (m : Int) (w : World) (hs : s.size < 4294967281) (hm : w.cell? ⟨0, 0, none⟩ = some (.int .i64 m)) :
    Calls Tryz.prog 164 #[.string s, .string sep] w fun e w' => e = .returned (.tuple #[.string ⟨(Lib.cut s.data.toList sep.data.toList).1.toArray⟩, .string ⟨(Lib.cut s.data.toList sep.data.toList).2.1.toArray⟩, .bool (Lib.cut s.data.toList sep.data.toList).2.2]) ∧ ∃ n, w' = w.drewN n := Any.strings_Cut Tryz.lays145 s sep m w hs hm
def Tryz.laysM219_ren : Go.Shelf.Ren := ⟨fun | 219 => 171 | 217 => 115 | 225 => 174 | 224 => 175 | 267 => 176 | 266 => 125 | 314 => 177 | n => n, fun | 9 => 9 | 3 => 3 | 4 => 4 | 5 => 5 | 46 => 161 | 146 => 180 | 51 => 159 | n => n, fun | 1 => 0 | n => n⟩
theorem Tryz.laysM219 : Go.Proofs.LaysM.n219 Tryz.prog Tryz.laysM219_ren := {
  mixed := by kernel_rfl
  f217 := Tryz.func115.trans (congrArg some (by kernel_rfl))
  f219 := Tryz.func171.trans (congrArg some (by kernel_rfl))
  f224 := Tryz.func175.trans (congrArg some (by kernel_rfl))
  f225 := Tryz.func174.trans (congrArg some (by kernel_rfl))
  f266 := Tryz.func125.trans (congrArg some (by kernel_rfl))
  f267 := Tryz.func176.trans (congrArg some (by kernel_rfl))
  f314 := Tryz.func177.trans (congrArg some (by kernel_rfl))
  t3 := Tryz.underlying3
  a3 := Tryz.isAgg3
  z3 := Tryz.sizeOf3
  v3 := Tryz.zeroValue3
  t4 := Tryz.underlying4
  a4 := Tryz.isAgg4
  z4 := Tryz.sizeOf4
  v4 := Tryz.zeroValue4
  t5 := Tryz.underlying5
  a5 := Tryz.isAgg5
  z5 := Tryz.sizeOf5
  v5 := Tryz.zeroValue5
  t9 := Tryz.underlying9
  a9 := Tryz.isAgg9
  z9 := Tryz.sizeOf9
  v9 := Tryz.zeroValue9
  t46 := Tryz.underlying161
  a46 := Tryz.isAgg161
  z46 := Tryz.sizeOf161
  v46 := Tryz.zeroValue161
  t51 := Tryz.underlying159
  a51 := Tryz.isAgg159
  z51 := Tryz.sizeOf159
  v51 := Tryz.zeroValue159
  t146 := Tryz.underlying180
  a146 := Tryz.isAgg180
  z146 := Tryz.sizeOf180
  v146 := Tryz.zeroValue180
  g1 := by kernel_rfl
  i3 := by kernel_rfl
  i4 := by kernel_rfl
  i5 := by kernel_rfl
  i9 := by kernel_rfl
  i46 := by kernel_rfl
  i51 := by kernel_rfl
  i146 := by kernel_rfl
  m1 := by kernel_rfl
  s1_3 := fun w h => Go.Proofs.cell_of_shapedOpen_int (zero := #[.int .i64 0]) (t := 3) h (of_decide_eq_true (by kernel_rfl)) (by kernel_rfl) rfl (by kernel_rfl) (by kernel_rfl) Tryz.underlying3 }
end Go.Proofs

/- A writer of patterns: how often: walked. -/
set_option linter.unusedVariables false
set_option linter.unusedSimpArgs false
namespace Go.Proofs.YthlakbjnmbddaaaGreatDoor
open Go.RowKit

/-- The table of powers of ten stands below B. -/
def TabIn (B : Nat) (w : World) : Prop := Lib.TabIs Tryz.prog w "internal/strconv.uint64pow10" .u64 Lib.pow10Tab ∧ ∀ g, Tryz.prog.globalNamed "internal/strconv.uint64pow10" = some g → g < B
theorem TabIn.later {B : Nat} {w w' : World} (h : TabIn B w) (hb : Below B w w') : TabIn B w' := by
  obtain ⟨h1, h2⟩ := h
  refine ⟨?_, h2⟩
  unfold Lib.TabIs World.var? at h1 ⊢
  cases hg : Tryz.prog.globalNamed "internal/strconv.uint64pow10" with
  | none => rw [hg] at h1; cases h1
  | some g =>
    rw [hg] at h1
    simp only [Option.bind_some] at h1 ⊢
    rw [hb.block g (h2 g hg)]
    exact h1
theorem bs_cat (a b : Bs) : bs a ++ bs b = bs (a ++ b) := by
  apply ByteArray.ext
  simp [bs]
theorem itoa_dec : ∀ k < 256, Lib.itoa ((k : Nat) : Int) = decT k := by decide +kernel
theorem itoa_m1 : Lib.itoa (-1) = [45, 49] := by decide +kernel
theorem decT_len3 (n : Nat) : 1 ≤ (decT n).length ∧ (decT n).length ≤ 3 := by unfold decT; split <;> (try simp) <;> split <;> simp
theorem itoa_len {n : Int} (h0 : -1 ≤ n) (h1 : n ≤ 255) : (Lib.itoa n).length ≤ 3 := by
  by_cases h : n = -1
  · subst h; rw [itoa_m1]; simp
  · obtain ⟨k, rfl⟩ : ∃ k : Nat, n = k := ⟨n.toNat, by omega⟩
    rw [itoa_dec k (by omega)]
    exact (decT_len3 k).2
theorem itoa_any (B : Nat) (n : Int) (h0 : -1 ≤ n) (h1 : n ≤ 255) (w : World) (ht : TabIn B w) (hB : B ≤ w.heap.size) :
    Calls Tryz.prog 99 #[.int .i64 n] w fun e w' => e = .returned (.string (bs (Lib.itoa n))) ∧ Below w.heap.size w w' := by
  refine (Tryz.strconv_Itoa n (by omega) (by omega) w ht.1).mono ?_
  rintro e w' ⟨rfl, k, os, rfl⟩
  refine ⟨rfl, ?_⟩
  exact Lib.below_grow w.heap.size w (Nat.le_refl _) k os
theorem WAt.later {B p : Nat} {l : Bs} {o d : Int} {w w' : World} (h : WAt B p l o d w) (hb : Below w.heap.size w w') : WAt B p l o d w' := by
  obtain ⟨h1, a, v, h2, h3, h4, h5⟩ := h
  exact ⟨h1, a, v, (hb.block p h2.lt).trans h2, h3, h4.kept (row := none) ⟨hb.os, hb.tape, hb.output, hb.size, fun k hk _ => hb.block k hk⟩ (by cases h : v.ownBlock <;> simp), h5⟩
set_option maxHeartbeats 4000000 in
set_option maxRecDepth 100000 in
theorem wtimes_any (B p : Nat) (l : Bs) (o d : Int) (w : World) (h : WAt B p l o d w) (hl : l.length ≤ 1000000) (hB : B ≤ w.heap.size) (ht : TabIn B w) (m n : Int) (hm0 : 0 ≤ m) (hm1 : m ≤ 255) (hn0 : -1 ≤ n) (hn1 : n ≤ 255) :
    Calls Tryz.prog 82 #[.pointer (some ⟨p, 0, none⟩), .int .i64 m, .int .i64 n] w fun e w' => e = .returned (.tuple #[]) ∧ WAt B p (l ++ timesT m n) o d w' ∧ Below B w w' ∧ Fr p w w' := by
  have H := Lib.hid h; have HT := Lib.hid ht
  have lm := itoa_len (n := m) (by omega) hm1
  have ln := itoa_len hn0 hn1
  have im : Lib.itoa m = decT m.toNat := by rw [show m = ((m.toNat : Nat) : Int) by omega, itoa_dec _ (by omega)]; rw [Int.toNat_natCast]
  have hin : n ≠ -1 → Lib.itoa n = decT n.toNat := fun hne => by rw [show n = ((n.toNat : Nat) : Int) by omega, itoa_dec _ (by omega)]; rw [Int.toNat_natCast]
  have Him := Lib.hid im; have Hin := Lib.hid hin
  have cm := itoa_any B m (by omega) hm1
  have cn := itoa_any B n hn0 hn1
  have Cm := Lib.hid cm; have Cn := Lib.hid cn
  clear h ht im hin cm cn
  generalize Lib.itoa m = M at *
  generalize Lib.itoa n = N at *
  have sM : (bs M).size = M.length := by simp [bs, ByteArray.size]
  have sN : (bs N).size = N.length := by simp [bs, ByteArray.size]
  have c1 : bs [123] ++ bs M = bs (123 :: M) := bs_cat _ _
  have c2 : bs (123 :: M) ++ bs [44] = bs (123 :: (M ++ [44])) := bs_cat _ _
  have c3 : bs (123 :: (M ++ [44])) ++ bs N = bs (123 :: (M ++ 44 :: N)) := (bs_cat _ _).trans (by simp)
  have c4 : bs (123 :: (M ++ 44 :: N)) ++ bs [125] = bs (123 :: (M ++ 44 :: (N ++ [125]))) := (bs_cat _ _).trans (by simp)
  have c5 : bs (123 :: M) ++ bs [125] = bs (123 :: (M ++ [125])) := bs_cat _ _
  have c6 : bs (123 :: M) ++ bs [44, 125] = bs (123 :: (M ++ [44, 125])) := bs_cat _ _
  go_enter Tryz.func82, Tryz.ntmps82
  go_wp2_with fail
  refine (Cm.out w HT.out hB).mono ?_
  rintro e w1 ⟨rfl, hb1⟩
  have HB1 := Lib.hid hb1
  clear hb1
  go_wp2_with fail
  refine (Cn.out w1 (HT.out.later (HB1.out.mono hB)) (Nat.le_trans hB HB1.out.size)).mono ?_
  rintro e w2 ⟨rfl, hb2⟩
  have H2 := Lib.hid ((H.out.later HB1.out).later hb2)
  have HB2 := Lib.hid ((HB1.out.mono hB).trans (hb2.mono (Nat.le_trans hB HB1.out.size)))
  have HF2 := Lib.hid ((Fr.of_below H.out.lt HB1.out).trans (Fr.of_below (H.out.later HB1.out).lt hb2))
  clear hb2 HB1 H
  by_cases hn : n = -1
  · subst hn
    by_cases h0 : m = 0
    · subst h0
      have hT := Lib.hid (show timesT 0 (-1) = [42] by simp [timesT])
      go_wp2_with fail
      refine (wstr_any B p l o d w2 H2.out hl (Nat.le_trans hB HB2.out.size) ([42]) (by simp; try omega) (by simp)).mono ?_
      rintro e w9 ⟨⟨k9, rfl⟩, h9, hb9, hf9⟩
      go_wp2_with fail
      go_end0
      exact ⟨rfl, by rw [hT.out]; exact h9, HB2.out.trans hb9, HF2.out.trans hf9⟩
    by_cases h1 : m = 1
    · subst h1
      have hT := Lib.hid (show timesT 1 (-1) = [43] by simp [timesT])
      go_wp2_with fail
      refine (wstr_any B p l o d w2 H2.out hl (Nat.le_trans hB HB2.out.size) ([43]) (by simp; try omega) (by simp)).mono ?_
      rintro e w9 ⟨⟨k9, rfl⟩, h9, hb9, hf9⟩
      go_wp2_with fail
      go_end0
      exact ⟨rfl, by rw [hT.out]; exact h9, HB2.out.trans hb9, HF2.out.trans hf9⟩
    have hT := Lib.hid (show timesT m (-1) = 123 :: (M ++ [44, 125]) by rw [Him.out]; unfold timesT; rw [if_neg (by omega), if_neg (by omega), if_neg (by omega), if_neg (by omega), if_pos rfl]; rfl)
    go_wp2_with fail
    refine (Cm.out w2 (HT.out.later HB2.out) (Nat.le_trans hB HB2.out.size)).mono ?_
    rintro e w3 ⟨rfl, hb3⟩
    have H3 := Lib.hid (H2.out.later hb3)
    have HB3 := Lib.hid (HB2.out.trans (hb3.mono (Nat.le_trans hB HB2.out.size)))
    have HF3 := Lib.hid (HF2.out.trans (Fr.of_below H2.out.lt hb3))
    clear hb3
    go_wp2_with fail
    refine (wstr_any B p l o d w3 H3.out hl (Nat.le_trans hB HB3.out.size) (123 :: (M ++ [44, 125])) (by simp; try omega) (by simp)).mono ?_
    rintro e w9 ⟨⟨k9, rfl⟩, h9, hb9, hf9⟩
    go_wp2_with fail
    go_end0
    exact ⟨rfl, by rw [hT.out]; exact h9, HB3.out.trans hb9, HF3.out.trans hf9⟩
  have hN := Lib.hid (Hin.out hn)
  by_cases m0 : m = 0
  · subst m0
    by_cases n1 : n = 1
    · subst n1
      have hT := Lib.hid (show timesT 0 1 = [63] by simp [timesT])
      clear Hin
      go_wp2_with fail
      refine (wstr_any B p l o d w2 H2.out hl (Nat.le_trans hB HB2.out.size) ([63]) (by simp; try omega) (by simp)).mono ?_
      rintro e w9 ⟨⟨k9, rfl⟩, h9, hb9, hf9⟩
      go_wp2_with fail
      go_end0
      exact ⟨rfl, by rw [hT.out]; exact h9, HB2.out.trans hb9, HF2.out.trans hf9⟩
    by_cases n0 : n = 0
    · subst n0
      have hT := Lib.hid (show timesT 0 0 = 123 :: (M ++ [125]) by rw [Him.out]; unfold timesT; rw [if_neg (by omega), if_neg (by omega), if_neg (by omega), if_pos rfl]; rfl)
      clear Hin
      go_wp2_with fail
      refine (Cm.out w2 (HT.out.later HB2.out) (Nat.le_trans hB HB2.out.size)).mono ?_
      rintro e w3 ⟨rfl, hb3⟩
      have H3 := Lib.hid (H2.out.later hb3)
      have HB3 := Lib.hid (HB2.out.trans (hb3.mono (Nat.le_trans hB HB2.out.size)))
      have HF3 := Lib.hid (HF2.out.trans (Fr.of_below H2.out.lt hb3))
      clear hb3
      go_wp2_with fail
      refine (wstr_any B p l o d w3 H3.out hl (Nat.le_trans hB HB3.out.size) (123 :: (M ++ [125])) (by simp; try omega) (by simp)).mono ?_
      rintro e w9 ⟨⟨k9, rfl⟩, h9, hb9, hf9⟩
      go_wp2_with fail
      go_end0
      exact ⟨rfl, by rw [hT.out]; exact h9, HB3.out.trans hb9, HF3.out.trans hf9⟩
    have hT := Lib.hid (show timesT 0 n = 123 :: (M ++ 44 :: (N ++ [125])) by rw [Him.out, hN.out]; unfold timesT; rw [if_neg (by omega), if_neg (by omega), if_neg (by omega), if_neg (by omega), if_neg (by omega)]; rfl)
    clear Hin
    go_wp2_with fail
    refine (wstr_any B p l o d w2 H2.out hl (Nat.le_trans hB HB2.out.size) (123 :: (M ++ 44 :: (N ++ [125]))) (by simp; try omega) (by simp)).mono ?_
    rintro e w9 ⟨⟨k9, rfl⟩, h9, hb9, hf9⟩
    go_wp2_with fail
    go_end0
    exact ⟨rfl, by rw [hT.out]; exact h9, HB2.out.trans hb9, HF2.out.trans hf9⟩
  by_cases m1 : m = 1
  · subst m1
    by_cases n1 : n = 1
    · subst n1
      have hT := Lib.hid (show timesT 1 1 = 123 :: (M ++ [125]) by rw [Him.out]; unfold timesT; rw [if_neg (by omega), if_neg (by omega), if_neg (by omega), if_pos rfl]; rfl)
      clear Hin
      go_wp2_with fail
      refine (Cm.out w2 (HT.out.later HB2.out) (Nat.le_trans hB HB2.out.size)).mono ?_
      rintro e w3 ⟨rfl, hb3⟩
      have H3 := Lib.hid (H2.out.later hb3)
      have HB3 := Lib.hid (HB2.out.trans (hb3.mono (Nat.le_trans hB HB2.out.size)))
      have HF3 := Lib.hid (HF2.out.trans (Fr.of_below H2.out.lt hb3))
      clear hb3
      go_wp2_with fail
      refine (wstr_any B p l o d w3 H3.out hl (Nat.le_trans hB HB3.out.size) (123 :: (M ++ [125])) (by simp; try omega) (by simp)).mono ?_
      rintro e w9 ⟨⟨k9, rfl⟩, h9, hb9, hf9⟩
      go_wp2_with fail
      go_end0
      exact ⟨rfl, by rw [hT.out]; exact h9, HB3.out.trans hb9, HF3.out.trans hf9⟩
    have hT := Lib.hid (show timesT 1 n = 123 :: (M ++ 44 :: (N ++ [125])) by rw [Him.out, hN.out]; unfold timesT; rw [if_neg (by omega), if_neg (by omega), if_neg (by omega), if_neg (by omega), if_neg (by omega)]; rfl)
    clear Hin
    go_wp2_with fail
    refine (wstr_any B p l o d w2 H2.out hl (Nat.le_trans hB HB2.out.size) (123 :: (M ++ 44 :: (N ++ [125]))) (by simp; try omega) (by simp)).mono ?_
    rintro e w9 ⟨⟨k9, rfl⟩, h9, hb9, hf9⟩
    go_wp2_with fail
    go_end0
    exact ⟨rfl, by rw [hT.out]; exact h9, HB2.out.trans hb9, HF2.out.trans hf9⟩
  by_cases hmn : m = n
  · subst hmn
    have hT := Lib.hid (show timesT m m = 123 :: (M ++ [125]) by rw [Him.out]; unfold timesT; rw [if_neg (by omega), if_neg (by omega), if_neg (by omega), if_pos rfl]; rfl)
    clear Hin
    go_wp2_with fail
    refine (Cm.out w2 (HT.out.later HB2.out) (Nat.le_trans hB HB2.out.size)).mono ?_
    rintro e w3 ⟨rfl, hb3⟩
    have H3 := Lib.hid (H2.out.later hb3)
    have HB3 := Lib.hid (HB2.out.trans (hb3.mono (Nat.le_trans hB HB2.out.size)))
    have HF3 := Lib.hid (HF2.out.trans (Fr.of_below H2.out.lt hb3))
    clear hb3
    go_wp2_with fail
    refine (wstr_any B p l o d w3 H3.out hl (Nat.le_trans hB HB3.out.size) (123 :: (M ++ [125])) (by simp; try omega) (by simp)).mono ?_
    rintro e w9 ⟨⟨k9, rfl⟩, h9, hb9, hf9⟩
    go_wp2_with fail
    go_end0
    exact ⟨rfl, by rw [hT.out]; exact h9, HB3.out.trans hb9, HF3.out.trans hf9⟩
  have hT := Lib.hid (show timesT m n = 123 :: (M ++ 44 :: (N ++ [125])) by rw [Him.out, hN.out]; unfold timesT; rw [if_neg (by omega), if_neg (by omega), if_neg (by omega), if_neg (by omega), if_neg (by omega)]; rfl)
  clear Hin
  go_wp2_with fail
  refine (wstr_any B p l o d w2 H2.out hl (Nat.le_trans hB HB2.out.size) (123 :: (M ++ 44 :: (N ++ [125]))) (by simp; try omega) (by simp)).mono ?_
  rintro e w9 ⟨⟨k9, rfl⟩, h9, hb9, hf9⟩
  go_wp2_with fail
  go_end0
  exact ⟨rfl, by rw [hT.out]; exact h9, HB2.out.trans hb9, HF2.out.trans hf9⟩
end Go.Proofs.YthlakbjnmbddaaaGreatDoor

/- Nodes in memory: values, blocks, boxes. Plain. -/
set_option linter.unusedVariables false
set_option linter.unusedSimpArgs false
namespace Go.Proofs.YthlakbjnmbddaaaGreatDoor
open Go.RowKit

def xcell (x : T × Option Addr × Nat) : List Value := [.int .i64 x.1.k, .int .u64 x.1.s0, .int .u64 x.1.s1, .int .u64 x.1.s2, .int .u64 x.1.s3, .int .i64 x.1.mn, .int .i64 x.1.mx, .slice x.2.1 x.1.ps.length x.2.2]
def xcells (l : List (T × Option Addr × Nat)) : List Value := l.flatMap xcell
theorem xcells_length (l : List (T × Option Addr × Nat)) : (xcells l).length = l.length * 8 := by
  induction l with
  | nil => rfl
  | cons s l ih =>
    show (xcell s ++ xcells l).length = _
    rw [List.length_append, ih, List.length_cons]
    simp only [xcell, List.length_cons, List.length_nil]
    omega
theorem xcells_snoc (l : List (T × Option Addr × Nat)) (s : T × Option Addr × Nat) : xcells (l ++ [s]) = xcells l ++ xcell s := by simp [xcells]
theorem xcell_one (s : T × Option Addr × Nat) : ∀ u ∈ xcell s, u.oneCell' = true := by
  intro u hu
  simp only [xcell, List.mem_cons, List.not_mem_nil, or_false] at hu
  rcases hu with rfl | rfl | rfl | rfl | rfl | rfl | rfl | rfl <;> rfl
theorem xcells_get : ∀ (l : List (T × Option Addr × Nat)) (i j : Nat) (hi : i < l.length), j < 8 → (xcells l)[i * 8 + j]? = (xcell l[i])[j]?
  | s :: l, 0, j, hi, hj => by
    show (xcell s ++ xcells l)[0 * 8 + j]? = _
    rw [Nat.zero_mul, Nat.zero_add, List.getElem?_append_left (by simp [xcell]; omega)]
    rfl
  | s :: l, i + 1, j, hi, hj => by
    show (xcell s ++ xcells l)[(i + 1) * 8 + j]? = _
    rw [List.getElem?_append_right (by simp [xcell]; omega)]
    simp only [xcell, List.length_cons, List.length_nil]
    rw [show (i + 1) * 8 + j - (0 + 1 + 1 + 1 + 1 + 1 + 1 + 1 + 1) = i * 8 + j by omega, xcells_get l i j (by simpa using hi) hj]
    rfl
theorem At8.ofX {w : World} {b o : Nat} {x : T × Option Addr × Nat} (h : ∀ j, j < 8 → w.cell? ⟨b, o + j, none⟩ = (xcell x)[j]?) : At8 w b o x.1 x.2.1 x.2.2 :=
  ⟨h 0 (by omega), h 1 (by omega), h 2 (by omega), h 3 (by omega), h 4 (by omega), h 5 (by omega), h 6 (by omega), h 7 (by omega)⟩

theorem Tryz.infoNodeX : (Tryz.prog.info? 48).map (fun i => (i.zero, i.size, i.bytes)) = some (some (.agg #[.int .i64 0, .int .u64 0, .int .u64 0, .int .u64 0, .int .u64 0, .int .i64 0, .int .i64 0, .slice none 0 0]), 8, 80) := by kernel_rfl


/-- A block of cells, nothing frozen. -/
def BlkX (w : World) (b : Nat) (cs : Array Value) : Prop := w.heap[b]? = some (.cells cs 48 (0, 0))
theorem BlkX.lt {w : World} {b : Nat} {cs : Array Value} (h : BlkX w b cs) : b < w.heap.size := (Array.getElem?_eq_some_iff.1 h).1
theorem BlkX.cell {w : World} {b : Nat} {cs : Array Value} (h : BlkX w b cs) (o : Nat) : w.cell? ⟨b, o, none⟩ = cs[o]? := cell_of_row w b o cs _ (0, 0) h
theorem BlkX.froz {w : World} {b : Nat} {cs : Array Value} (h : BlkX w b cs) (o : Nat) : w.frozen? ⟨b, o, none⟩ = false := by
  unfold World.frozen?
  rw [show w.heap[(⟨b, o, none⟩ : Addr).block]? = _ from h]
  simp
theorem BlkX.keep {w w' : World} {b : Nat} {cs : Array Value} (h : BlkX w b cs) (e : w'.heap[b]? = w.heap[b]?) : BlkX w' b cs := e.trans h
theorem BlkX.set {w : World} {b : Nat} {cs : Array Value} (h : BlkX w b cs) (o : Nat) (u : Value) : BlkX (w.setCell ⟨b, o, none⟩ u) b (cs.setIfInBounds o u) := by
  unfold BlkX at h ⊢
  simp only [World.setCell, Array.getElem?_modify, ↓reduceIte, h, Option.map_some]
  rfl
theorem BlkX.new (w : World) (cs : Array Value) : BlkX (w.alloc (.cells cs 48)) w.heap.size cs := heap_alloc_new w _

theorem nodeAt_leafX (w : World) (ok : Nat → Prop) (t : T) (h : t.ps = []) : NodeAt w ok t none 0 :=
  .mk t none 0 (fun _ => none) (fun _ => 0) (by simp [h]) (by simp [h]) (fun e => absurd h e) (fun i p hi => by simp [h] at hi)
theorem At8.laterX {w w' : World} {B b o : Nat} {t : T} {A : Option Addr} {c : Nat} (h : At8 w b o t A c) (hb : Below B w w') (hlt : b < B) : At8 w' b o t A c :=
  h.mono fun o => hb.cell (p := ⟨b, o, none⟩) hlt
/-- A tree over a block of nodes. -/
theorem node_litX {W : World} {ok : Nat → Prop} {g : Nat} (R : T) (L : List (T × Option Addr × Nat)) (hps : R.ps = L.map (·.1)) (hlen : L.length ≤ 17592186044416) (hg : ok g)
    (h8 : ∀ (i : Nat) (x : T × Option Addr × Nat), L[i]? = some x → At8 W g (i * 8) x.1 x.2.1 x.2.2) (hN : ∀ (i : Nat) (x : T × Option Addr × Nat), L[i]? = some x → NodeAt W ok x.1 x.2.1 x.2.2) : NodeAt W ok R (some ⟨g, 0, none⟩) L.length := by
  have hx : ∀ (i : Nat) (p : T), R.ps[i]? = some p → ∃ x : T × Option Addr × Nat, L[i]? = some x ∧ x.1 = p := fun i p h => by
    rw [hps, List.getElem?_map, Option.map_eq_some_iff] at h
    exact h
  refine .mk R _ _ (fun i => match L[i]? with | some x => x.2.1 | none => none) (fun i => match L[i]? with | some x => x.2.2 | none => 0) (by rw [hps]; simp) (by rw [hps]; simpa using hlen) (fun _ => ⟨g, 0, rfl, hg, fun i p h => ?_⟩) (fun i p h => ?_)
  · obtain ⟨x, hi, rfl⟩ := hx i p h
    simp only [hi, Nat.zero_add]
    exact h8 i x hi
  · obtain ⟨x, hi, rfl⟩ := hx i p h
    simp only [hi]
    exact hN i x hi
theorem getX1 {α : Type} {P : Nat → α → Prop} {a : α} (h0 : P 0 a) : ∀ (i : Nat) (x : α), [a][i]? = some x → P i x
  | 0, x, h => by simp at h; subst h; exact h0
  | i + 1, x, h => by simp at h
theorem NodeAt.wideX {W w : World} {ok ok' : Nat → Prop} {t : T} {A : Option Addr} {c : Nat} (h : NodeAt w ok t A c) {B : Nat} (hb : Below B w W) (hok : ∀ b, ok b → b < B) (hk : ∀ b, b < B → ok' b) : NodeAt W ok' t A c :=
  h.mono fun b hbk => ⟨hk b (hok b hbk), fun o => hb.cell (p := ⟨b, o, none⟩) (hok b hbk)⟩
theorem NodeAt.widerX {w : World} {ok : Nat → Prop} {t : T} {A : Option Addr} {c c' : Nat} (h : NodeAt w ok t A c) (hc : t.ps.length ≤ c') : NodeAt w ok t A c' := by
  cases h with
  | mk _ _ _ As cs h1 h2 h3 h4 => exact .mk t A c' As cs hc h2 h3 h4

abbrev Nx := T × Option Addr × Nat
/-- A node reads, whatever block is read lying in the world. -/
def OwnX (w : World) (x : Nx) : Prop := NodeAt w (fun b => b < w.heap.size) x.1 x.2.1 x.2.2
def OwnsX (w : World) (L : List Nx) : Prop := ∀ x ∈ L, OwnX w x
theorem OwnX.later {w w' : World} {x : Nx} (h : OwnX w x) (hb : Below w.heap.size w w') : OwnX w' x := NodeAt.wideX h hb (fun b h => h) (fun b h => Nat.lt_of_lt_of_le h hb.size)
theorem OwnsX.cons {w w' : World} {L : List Nx} (h : OwnsX w L) (hb : Below w.heap.size w w') {x : Nx} (hx : OwnX w' x) : OwnsX w' (x :: L) := fun y hy => by
  rcases List.mem_cons.1 hy with rfl | hy
  · exact hx
  · exact (h y hy).later hb
/-- A literal block of nodes. -/
theorem at8_litX {w W : World} (L : List Nx) (hW : W = w.alloc (.cells (xcells L).toArray 48)) : ∀ (i : Nat) (x : Nx), L[i]? = some x → At8 W w.heap.size (i * 8) x.1 x.2.1 x.2.2 := fun i x hi => .ofX fun j hj => by
  have hl := (List.getElem?_eq_some_iff.1 hi).1
  have hx : L[i] = x := (List.getElem?_eq_some_iff.1 hi).2
  rw [hW, World.cell?_alloc_new, List.getElem?_toArray, xcells_get L i j hl hj, hx]
theorem own_litX {w W : World} (L : List Nx) (hW : W = w.alloc (.cells (xcells L).toArray 48)) (hl : L.length ≤ 17592186044416) (H : OwnsX w L) (R : T) (hps : R.ps = L.map (·.1)) : OwnX W (R, some ⟨w.heap.size, 0, none⟩, L.length) := by
  have hb : Below w.heap.size w W := by subst hW; exact (Below.refl _ _).alloc (Nat.le_refl _) _
  have hz : w.heap.size < W.heap.size := by subst hW; simp
  exact node_litX R L hps hl hz (at8_litX L hW) (fun i x hi => (H x (List.mem_of_getElem? hi)).later hb)


/-- The eight cells of a box written. -/
def writeX (w : World) (b : Nat) (x : Nx) : World :=
  (((((((w.setCell ⟨b, 0, none⟩ (.int .i64 x.1.k)).setCell ⟨b, 1, none⟩ (.int .u64 x.1.s0)).setCell ⟨b, 2, none⟩ (.int .u64 x.1.s1)).setCell ⟨b, 3, none⟩ (.int .u64 x.1.s2)).setCell ⟨b, 4, none⟩ (.int .u64 x.1.s3)).setCell ⟨b, 5, none⟩ (.int .i64 x.1.mn)).setCell ⟨b, 6, none⟩ (.int .i64 x.1.mx)).setCell ⟨b, 7, none⟩ (.slice x.2.1 x.1.ps.length x.2.2)
theorem writeX_blk {w : World} {b : Nat} {y : Nx} (h : BlkX w b (xcell y).toArray) (x : Nx) : BlkX (writeX w b x) b (xcell x).toArray := by
  have h1 := (((((((h.set 0 (.int .i64 x.1.k)).set 1 (.int .u64 x.1.s0)).set 2 (.int .u64 x.1.s1)).set 3 (.int .u64 x.1.s2)).set 4 (.int .u64 x.1.s3)).set 5 (.int .i64 x.1.mn)).set 6 (.int .i64 x.1.mx)).set 7 (.slice x.2.1 x.1.ps.length x.2.2)
  unfold writeX; simpa [xcell] using h1
theorem writeX_other (w : World) (b : Nat) (x : Nx) (k : Nat) (hk : k ≠ b) : (writeX w b x).heap[k]? = w.heap[k]? := by
  unfold writeX
  iterate 7 rw [Below.heap_setCell _ _ _ _ hk]
  exact Below.heap_setCell _ _ _ _ hk
theorem writeX_size (w : World) (b : Nat) (x : Nx) : (writeX w b x).heap.size = w.heap.size := by simp [writeX]
theorem writeX_below {B : Nat} {w0 w : World} {b : Nat} (h : Below B w0 w) (hb : B ≤ b) (x : Nx) : Below B w0 (writeX w b x) := by
  unfold writeX
  exact (((((((h.setCell hb _).setCell hb _).setCell hb _).setCell hb _).setCell hb _).setCell hb _).setCell hb _).setCell hb _

theorem BlkX.cells8 {w : World} {b : Nat} {x : Nx} (h : BlkX w b (xcell x).toArray) : (w.cell? ⟨b, 0, none⟩ = some (.int .i64 x.1.k) ∧ w.cell? ⟨b, 1, none⟩ = some (.int .u64 x.1.s0) ∧ w.cell? ⟨b, 2, none⟩ = some (.int .u64 x.1.s1) ∧ w.cell? ⟨b, 3, none⟩ = some (.int .u64 x.1.s2) ∧ w.cell? ⟨b, 4, none⟩ = some (.int .u64 x.1.s3) ∧ w.cell? ⟨b, 5, none⟩ = some (.int .i64 x.1.mn) ∧ w.cell? ⟨b, 6, none⟩ = some (.int .i64 x.1.mx) ∧ w.cell? ⟨b, 7, none⟩ = some (.slice x.2.1 x.1.ps.length x.2.2)) ∧ ∀ o, w.frozen? ⟨b, o, none⟩ = false := by
  refine ⟨⟨?_, ?_, ?_, ?_, ?_, ?_, ?_, ?_⟩, h.froz⟩ <;> (rw [h.cell]; rfl)


/-- append of a slice that may be nil or empty. -/
theorem wpList_append_fromX {P : Program} {ops : Array Oper} {rest : List Oper} {o : Oper} {a : Act} {Q : Exit → Act → World → Prop} {W : World} (base : Nat)
    (hgd : o.guard = none) (s x : Operand) (t e : TypeId) (z : Value) (size bytes : Nat)
    (ho : o.op = .call { callee := .builtin .append, args := #[s, x], argTypes := #[t, t] })
    (ht : P.underlying t = some (.slice e)) (hinfo : (P.info? e).map (fun i => (i.zero, i.size, i.bytes)) = some (some z, size, bytes)) (hz : z.cells.size = size) (hs0 : 0 < size) (hb0 : 0 < bytes)
    (v : Value) (n m : Nat) (xs ys : List Value) (A : Option Addr) (c : Nat) (hs : a.eval s = v) (hx : a.eval x = .slice A m c) (hA : A = none → m = 0 ∧ c = 0) (hys : ys.length = m * size)
    (hnews : ∀ ad, A = some ad → ∀ j u, ys[j]? = some u → W.cell? (ad.add j) = some u) (h1 : ∀ u ∈ ys, u.oneCell' = true)
    (HO : W.ownsRow base e size v n xs) (hbase : base ≤ W.heap.size) (hl : (n + m) * bytes ≤ 140737488355328)
    (h : ∀ A' c' w1, w1.ownsRow base e size (.slice A' (n + m) c') (n + m) (xs ++ ys) → W.grownBy w1 v.ownBlock → ((Value.slice A' (n + m) c').ownBlock = v.ownBlock ∨ (Value.slice A' (n + m) c').ownBlock = some W.heap.size) →
      wpList P ops Q rest (a.put o.dst (.slice A' (n + m) c')) w1) :
    wpList P ops Q (o :: rest) a W := by
  refine wpList_plain hgd fun K hK => ?_
  obtain ⟨i0, hi, hzz⟩ := Option.map_eq_some_iff.1 hinfo
  simp only [Prod.mk.injEq] at hzz
  obtain ⟨hz0, hz1, hz2⟩ := hzz
  have hlen : n + m ≤ 140737488355328 := Nat.le_trans (Nat.le_mul_of_pos_right _ hb0) hl
  unfold Oper.wp execOp
  cases A with
  | none =>
    obtain ⟨rfl, rfl⟩ := hA rfl
    have hy : ys = [] := by simpa using hys
    subst hy
    have hr := run_append_owned_none (P := P) (w := W) base t o.type e i0 size ht hi v n xs HO
    simp only [ho, resolve, invoke, builtin, Sem.run_bind, Sem.run_pure, Result.andThen_ok, List.map_toArray, List.map_cons, List.map_nil, hs, hx, hr]
    have hv : ∃ A' c', v = .slice A' (n + 0) c' := by
      rcases HO.2 with ⟨rfl, rfl⟩ | ⟨g, cap, cur, rfl, _⟩
      · exact ⟨_, _, rfl⟩
      · exact ⟨_, _, rfl⟩
    obtain ⟨A', c', rfl⟩ := hv
    exact hK _ _ (h A' c' W (by simpa using HO) ⟨rfl, rfl, rfl, Nat.le_refl _, fun _ _ _ => rfl⟩ (.inl rfl))
  | some ad =>
    obtain ⟨v1, w1, hr, hown, hg, _, hat⟩ := run_append_own_at (P := P) W base t o.type e i0 z size bytes ht hi hz0 hz1 hz2 hz hs0 v n xs HO ad m c ys hys (hnews ad rfl) h1 (by simp only [maxLen]; omega) hl hbase
    simp only [ho, resolve, invoke, builtin, Sem.run_bind, Sem.run_pure, Result.andThen_ok, List.map_toArray, List.map_cons, List.map_nil, hs, hx, hr]
    have hv : ∃ A' c', v1 = .slice A' (n + m) c' := by
      rcases hown.2 with ⟨rfl, h0⟩ | ⟨g, cap, cur, rfl, _⟩
      · exact ⟨_, _, by rw [h0]⟩
      · exact ⟨_, _, rfl⟩
    obtain ⟨A', c', rfl⟩ := hv
    exact hK _ _ (h A' c' w1 hown hg hat)


theorem addr_addX (b o j : Nat) : (⟨b, o, none⟩ : Addr).add j = ⟨b, o + j, none⟩ := by unfold Addr.add; split <;> simp_all
end Go.Proofs.YthlakbjnmbddaaaGreatDoor

/- The closed laws: what they ask of the laws that they call. -/
set_option linter.unusedVariables false
set_option linter.unusedSimpArgs false
namespace Go.Proofs.YthlakbjnmbddaaaGreatDoor
open Go.RowKit

/-- What every law asks of the world. -/
structure KEnv (w : World) : Prop where
  mx : MaxOk w
  tb : TabIn w.heap.size w
theorem KEnv.step {w w' : World} (h : KEnv w) (hb : Below w.heap.size w w') : KEnv w' :=
  ⟨h.mx.later hb, ⟨(h.tb.later hb).1, fun g hg => Nat.lt_of_lt_of_le (h.tb.2 g hg) hb.size⟩⟩
abbrev KTrue (w : World) (e : Ending) (w' : World) : Prop := e = .returned (.bool true) ∧ Below w.heap.size w w'
/-- A law of no argument; of one text, two, three; of a tree; of a set. -/
def K0 (f : Nat) : Prop := ∀ w, KEnv w → Calls Tryz.prog f #[] w fun e w' => KTrue w e w'
def KS (f : Nat) : Prop := ∀ w, KEnv w → ∀ x : Bs, x.length ≤ 1000000 → Calls Tryz.prog f #[.string (bs x)] w fun e w' => KTrue w e w'
def KSS (f : Nat) : Prop := ∀ w, KEnv w → ∀ x y : Bs, x.length ≤ 1000000 → y.length ≤ 1000000 → Calls Tryz.prog f #[.string (bs x), .string (bs y)] w fun e w' => KTrue w e w'
def KN (f : Nat) : Prop := ∀ w, KEnv w → ∀ x : Nx, OwnX w x → Words x.1 → Calls Tryz.prog f #[nodeV x.1 x.2.1 x.2.2] w fun e w' => KTrue w e w'
def KB (f : Nat) : Prop := ∀ w, KEnv w → ∀ S : W4, Wok S → Calls Tryz.prog f #[.agg #[.int .u64 S.a, .int .u64 S.b, .int .u64 S.c, .int .u64 S.d]] w fun e w' => KTrue w e w'

theorem kcat (a b : Bs) : bs a ++ bs b = bs (a ++ b) := by
  apply ByteArray.ext
  simp [bs]
theorem ksize (r : Bs) : (bs r).size = r.length := by simp [bs, ByteArray.size]
/-- A block of texts. -/
def isStr (v : Value) : Bool := match v with
  | .string b => decide (b.size ≤ 100000)
  | _ => false
theorem str_of {v : Value} (h : isStr v = true) : ∃ s : Bs, s.length ≤ 100000 ∧ v = .string (bs s) := by
  cases v with
  | string b =>
    refine ⟨b.data.toList, ?_, ?_⟩
    · have : b.size ≤ 100000 := of_decide_eq_true h
      have e : b.data.toList.length = b.size := Array.length_toList
      omega
    · exact congrArg Value.string (show b = bs b.data.toList by simp [bs])
  | _ => cases h
theorem str_cells {cs : Array Value} {n : Nat} (hn : cs.size = n) (h : cs.all isStr = true) (i : Nat) (hi : i < n) : ∃ s : Bs, s.length ≤ 100000 ∧ cs[i]? = some (.string (bs s)) := by
  have hi' : i < cs.size := by omega
  have h2 := (Array.all_eq_true.1 h) i hi'
  obtain ⟨s, h3, h4⟩ := str_of h2
  exact ⟨s, h3, by rw [Array.getElem?_eq_getElem hi', h4]⟩
/-- Texts lie at a block. -/
def Strs (w : World) (g n : Nat) : Prop := g < w.heap.size ∧ ∀ i, i < n → ∃ s : Bs, s.length ≤ 100000 ∧ w.cell? ⟨g, i, none⟩ = some (.string (bs s))
theorem Strs.later {w w' : World} {g n : Nat} (h : Strs w g n) (hb : Below w.heap.size w w') : Strs w' g n :=
  ⟨Nat.lt_of_lt_of_le h.1 hb.size, fun i hi => by obtain ⟨s, h1, h2⟩ := h.2 i hi; exact ⟨s, h1, (hb.cell (p := ⟨g, i, none⟩) h.1).trans h2⟩⟩
theorem Strs.new {w W : World} {cs : Array Value} {e : TypeId} {n : Nat} (hW : w.alloc (.cells cs e) = W) (hn : cs.size = n) (h : cs.all isStr = true) : Strs W w.heap.size n ∧ Below w.heap.size w W := by
  subst hW
  exact ⟨⟨by simp, fun i hi => by rw [World.cell?_alloc_new]; exact str_cells hn h i hi⟩, (Below.refl _ _).alloc (Nat.le_refl _) _⟩

theorem parts_evalS (a : Act) (parts : Array (Nat × Operand)) (zs : List Bs) (hparts : parts.toList = (zs.zipIdx 0).map fun x => (x.2, Operand.const (Value.string (bs x.1)))) :
    (parts.map fun (i, x) => (i, a.eval x)).toList = ((zs.map fun z => Value.string (bs z)).zipIdx 0).map fun x => (x.2, x.1) := by
  rw [Array.toList_map, hparts, List.zipIdx_map, List.map_map, List.map_map]
  rfl
/-- A slice literal of texts. -/
theorem wpList_buildStrs {P : Program} {ops : Array Oper} {rest : List Oper} {o : Oper} {a : Act} {w : World} {Q : Exit → Act → World → Prop} (hg : o.guard = none) (t e : TypeId) (len : Nat) (parts : Array (Nat × Operand)) (ho : o.op = .buildSlice t len parts)
    (zs : List Bs) (hu : P.underlying t = some (.slice e)) (hsz : (P.info? e).map (·.size) = some 1) (hz : ((P.info? e).bind (·.zero)).isSome = true)
    (hlen : len = zs.length) (hpos : 0 < len) (hsmall : len ≤ 2 ^ 24)
    (hparts : parts.toList = (zs.zipIdx 0).map fun x => (x.2, Operand.const (Value.string (bs x.1)))) (h100 : zs.all (fun z => decide (z.length ≤ 100000)) = true)
    (h : ∀ W, Strs W w.heap.size len → Below w.heap.size w W → wpList P ops Q rest (a.put o.dst (.slice (some ⟨w.heap.size, 0, none⟩) len len)) W) : wpList P ops Q (o :: rest) a w := by
  cases hie : P.info? e with
  | none => simp [hie] at hsz
  | some ie =>
    simp only [hie, Option.map_some, Option.some.injEq, Option.bind_some] at hsz hz
    obtain ⟨z, hzz⟩ := Option.isSome_iff_exists.1 hz
    refine wpList_buildSlice hg t e len parts ho _ ie z hu hie hzz (by rw [hsz]; omega) (by rw [hsz]; omega) ?_ (h _ ⟨by simp, fun i hi => ?_⟩ ((Below.refl _ _).alloc (Nat.le_refl _) (.cells (zs.map fun z => Value.string (bs z)).toArray e)))
    · rw [parts_evalS a parts zs hparts, hsz]
      exact Great.fill_flat _ _ (fun v hv => by obtain ⟨n, _, rfl⟩ := List.mem_map.1 hv; rfl) (by simp [hlen])
    · have hi' : i < zs.length := by omega
      refine ⟨zs[i], of_decide_eq_true (List.all_eq_true.1 h100 _ (List.getElem_mem hi')), ?_⟩
      rw [World.cell?_alloc_new, List.getElem?_toArray, List.getElem?_map, List.getElem?_eq_getElem hi']
      rfl
def shownL0 : List Bs := [[], [97], [97, 98], [97, 124], [124, 97], [124, 124], [40, 97, 98, 41, 99], [40, 40, 97, 41, 41], [40, 41], [40, 41, 42], [97, 42, 63], [97, 123, 50, 125], [97, 123, 50, 44, 125], [97, 123, 48, 44, 50, 53, 53, 125], [97, 123, 48, 125], [97, 123, 50, 53, 53, 125, 123, 49, 125], [94, 97, 36], [94, 42], [97, 94, 98], [92, 46], [93, 125], [91, 93, 97, 93], [91, 94, 45, 97, 93], [91, 97, 45, 99, 45, 93], [91, 91, 46, 45, 46, 93, 45, 91, 46, 48, 46, 93, 93], [91, 92, 110, 93], [91, 91, 58, 100, 105, 103, 105, 116, 58, 93, 120, 93], [91, 91, 61, 97, 61, 93, 98, 93], [42, 97], [97, 124, 43], [40, 63, 41], [123, 49, 125], [97, 123], [97, 123, 44, 50, 125], [97, 123, 51, 44, 50, 125], [97, 123, 50, 53, 54, 125], [97, 123, 48, 48, 48, 49, 125], [97, 123, 49], [97, 123, 49, 44], [97, 123, 49, 44, 50], [97, 123, 49, 44, 50, 44, 51, 125], [97, 123, 49, 32, 125], [97, 123, 120, 125], [97, 123, 49, 125, 125], [97, 92], [40, 97], [97, 41], [40, 40, 97, 41], [40, 97, 41, 41], [91, 97], [91, 93], [91, 94, 93], [91, 94, 93, 93], [91, 98, 45, 97, 93], [91, 97, 45, 97, 93], [91, 91, 58, 102, 111, 111, 58, 93, 93], [91, 91, 58, 58, 93, 93], [91, 91, 58, 97, 108, 112, 104, 97, 58, 93], [91, 91, 58, 97, 108, 112, 104, 97, 93], [91, 91, 46, 97, 98, 46, 93, 93], [91, 91, 46, 46, 93, 93], [91, 91, 46, 97, 46, 93, 93], [91, 91, 46, 93, 46, 93, 93], [91, 91, 61, 93, 61, 93, 93], [91, 97, 45, 91, 58, 100, 105, 103, 105, 116, 58, 93, 93], [91, 97, 45, 91, 61, 98, 61, 93, 93], [91, 97, 45, 91, 46, 99, 46, 93, 93], [91, 91, 46, 99, 46, 93, 45, 97, 93], [91, 91, 61, 97, 61, 93, 45, 99, 93], [91, 91, 58, 100, 105, 103, 105, 116, 58, 93, 45, 97, 93], [91, 45, 45, 48, 93], [91, 97, 45, 45, 93], [91, 97, 45, 122, 45, 57, 93], [91, 93, 45, 97, 93], [91, 93, 45, 93], [91, 91, 93], [91, 91, 97, 93], [91, 91, 45, 93, 93], [91, 33, 45, 91, 46, 93, 46, 93, 93], [91, 46, 97, 46, 93], [91, 58, 97, 108, 112, 104, 97, 58, 93], [91, 61, 97, 61, 93], [91, 97, 45], [91, 97, 45, 93], [91, 91], [91, 91, 58], [91, 91, 46], [91, 91, 61], [91, 91, 46, 97], [91, 91, 46, 97, 46], [91, 92, 93], [91, 97, 92, 93, 98, 93], [97, 124, 98, 124, 99], [40, 97, 124, 98, 41, 99, 124, 100], [97, 124, 124, 98], [40, 124, 97, 41], [0], [255], [91, 0, 45, 255, 93], [91, 94, 0, 45, 255, 93], [97, 124, 42], [40, 42, 41], [97, 40], [97, 40, 124], [41, 40], [91, 91, 58, 115, 112, 97, 99, 101, 58, 93, 91, 58, 112, 117, 110, 99, 116, 58, 93, 93], [91, 91, 58, 117, 112, 112, 101, 114, 58, 93, 91, 58, 108, 111, 119, 101, 114, 58, 93, 45, 93], [120, 91, 91, 58, 99, 110, 116, 114, 108, 58, 93, 45, 120, 93]]
end Go.Proofs.YthlakbjnmbddaaaGreatDoor

/- vouchlaw10.shown: walked. -/
set_option linter.unusedVariables false
set_option linter.unusedSimpArgs false
namespace Go.Proofs.YthlakbjnmbddaaaGreatDoor
open Go.RowKit

set_option maxRecDepth 100000 in
set_option maxHeartbeats 8000000 in
theorem kshown_any (hR : KS 21) (hO : KS 22) (hJ : KSS 23) (hK : K0 24) : K0 8 := by
  intro w hE
  have HR := Lib.hid hR; have HO := Lib.hid hO; have HJ := Lib.hid hJ; have HK := Lib.hid hK; have HE := Lib.hid hE
  clear hR hO hJ hK hE
  go_enter Tryz.func8, Tryz.ntmps8
  go_upto_region 1 with fail
  apply wp_region_lit
  refine wpList_buildStrs rfl 23 9 108 _ rfl shownL0 Tryz.underlying23 (by kernel_rfl) (by kernel_rfl) (by kernel_rfl) (by decide) (by decide) (by kernel_rfl) (by kernel_rfl) (fun W0 hS hB => ?_)
  have HS := Lib.hid hS; have HE0 := Lib.hid (HE.out.step hB)
  clear hS
  go_wp2_with fail
  go_loopg [7] 108 (fun n i wr => ∃ k : Nat, i = .int .i64 k ∧ k + n = 108 ∧ Below w.heap.size w wr ∧ Strs wr w.heap.size 108 ∧ KEnv wr)
  case atStart => exact ⟨0, rfl, rfl, hB, HS.out, HE0.out⟩
  case round =>
    clear hB HS HE0
    obtain ⟨k, rfl, hk, hB, hS, hE⟩ := hrel
    have HB := Lib.hid hB; have HS := Lib.hid hS; have HE1 := Lib.hid hE
    clear hB hS hE
    by_cases hlt : k < 108
    · obtain ⟨s, hs, hc⟩ := HS.out.2 k hlt
      have hz := HS.out.1
      go_wp2_with fail
      refine (HR.out wr HE1.out s (by omega)).mono ?_
      rintro e w1 ⟨rfl, hb1⟩
      have HE2 := Lib.hid (HE1.out.step hb1); have HB2 := Lib.hid (HB.out.trans (hb1.mono HB.out.size)); have HS2 := Lib.hid (HS.out.later hb1)
      clear hb1 HB HS HE1 hc hz
      go_wp2_with fail
      refine (HO.out w1 HE2.out s (by omega)).mono ?_
      rintro e w2 ⟨rfl, hb2⟩
      have HE3 := Lib.hid (HE2.out.step hb2); have HB3 := Lib.hid (HB2.out.trans (hb2.mono HB2.out.size)); have HS3 := Lib.hid (HS2.out.later hb2)
      clear hb2 HB2 HS2 HE2
      go_wp2_with fail
      refine (HJ.out w2 HE3.out s [120, 124, 121] (by omega) (by simp)).mono ?_
      rintro e w3 ⟨rfl, hb3⟩
      have HE4 := Lib.hid (HE3.out.step hb3); have HB4 := Lib.hid (HB3.out.trans (hb3.mono HB3.out.size)); have HS4 := Lib.hid (HS3.out.later hb3)
      clear hb3 HB3 HS3 HE3
      go_wp2_with fail
      refine (HJ.out w3 HE4.out [91, 91, 58, 98, 108, 97, 110, 107, 58, 93, 93] s (by simp) (by omega)).mono ?_
      rintro e w4 ⟨rfl, hb4⟩
      have HE5 := Lib.hid (HE4.out.step hb4); have HB5 := Lib.hid (HB4.out.trans (hb4.mono HB4.out.size)); have HS5 := Lib.hid (HS4.out.later hb4)
      clear hb4 HB4 HS4 HE4
      go_wp2_with fail
      go_roundg (gk - 1)
      case measure => omega
      case rel => exact ⟨k + 1, by go_num, by omega, HB5.out, HS5.out, HE5.out⟩
    · clear HS
      go_wp2_with fail
      generalize hW : wr.alloc _ = W1
      obtain ⟨hS, hb⟩ := Strs.new (n := 16) hW (by kernel_rfl) (by kernel_rfl)
      have HS := Lib.hid hS; have HE2 := Lib.hid (HE1.out.step hb); have HB2 := Lib.hid (HB.out.trans (hb.mono HB.out.size))
      clear hW hS hb HE1 HB
      generalize wr.heap.size = g at *
      go_loopg [32] 16 (fun n i wr => ∃ k : Nat, i = .int .i64 k ∧ k + n = 16 ∧ Below w.heap.size w wr ∧ Strs wr g 16 ∧ KEnv wr)
      case atStart => exact ⟨0, rfl, rfl, HB2.out, HS.out, HE2.out⟩
      case round =>
        clear HB2 HS HE2
        obtain ⟨k, rfl, hk, hB, hS, hE⟩ := hrel
        have HB := Lib.hid hB; have HS := Lib.hid hS; have HE1 := Lib.hid hE
        clear hB hS hE
        by_cases hlt : k < 16
        · obtain ⟨s, hs, hc⟩ := HS.out.2 k hlt
          have hz := HS.out.1
          have c1 : bs [91, 91, 58] ++ bs s = bs (91 :: 91 :: 58 :: s) := kcat _ _
          have s1 : (bs (91 :: 91 :: 58 :: s)).size = s.length + 3 := ksize _
          have s0 : (bs s).size = s.length := ksize _
          have c2 : bs (91 :: 91 :: 58 :: s) ++ bs [58, 93, 93] = bs (91 :: 91 :: 58 :: (s ++ [58, 93, 93])) := kcat _ _
          have c3 : bs [91, 94, 91, 58] ++ bs s = bs (91 :: 94 :: 91 :: 58 :: s) := kcat _ _
          have s3 : (bs (91 :: 94 :: 91 :: 58 :: s)).size = s.length + 4 := ksize _
          have c4 : bs (91 :: 94 :: 91 :: 58 :: s) ++ bs [58, 93, 95, 93] = bs (91 :: 94 :: 91 :: 58 :: (s ++ [58, 93, 95, 93])) := kcat _ _
          go_wp2_with fail
          refine (HR.out wr HE1.out (91 :: 91 :: 58 :: (s ++ [58, 93, 93])) (by simp; omega)).mono ?_
          rintro e w1 ⟨rfl, hb1⟩
          have HE2 := Lib.hid (HE1.out.step hb1); have HB2 := Lib.hid (HB.out.trans (hb1.mono HB.out.size)); have HS2 := Lib.hid (HS.out.later hb1)
          clear hb1 HB HS HE1 hc hz
          go_wp2_with fail
          refine (HR.out w1 HE2.out (91 :: 94 :: 91 :: 58 :: (s ++ [58, 93, 95, 93])) (by simp; omega)).mono ?_
          rintro e w2 ⟨rfl, hb2⟩
          have HE3 := Lib.hid (HE2.out.step hb2); have HB3 := Lib.hid (HB2.out.trans (hb2.mono HB2.out.size)); have HS3 := Lib.hid (HS2.out.later hb2)
          clear hb2 HB2 HS2 HE2
          go_wp2_with fail
          refine (HO.out w2 HE3.out (91 :: 91 :: 58 :: (s ++ [58, 93, 93])) (by simp; omega)).mono ?_
          rintro e w3 ⟨rfl, hb3⟩
          have HE4 := Lib.hid (HE3.out.step hb3); have HB4 := Lib.hid (HB3.out.trans (hb3.mono HB3.out.size)); have HS4 := Lib.hid (HS3.out.later hb3)
          clear hb3 HB3 HS3 HE3
          go_wp2_with fail
          go_roundg (gk - 1)
          case measure => omega
          case rel => exact ⟨k + 1, by go_num, by omega, HB4.out, HS4.out, HE4.out⟩
        · go_wp2_with fail
          refine (HK.out wr HE1.out).mono ?_
          rintro e w1 ⟨rfl, hb1⟩
          go_wp2_with fail
          go_ret
          exact ⟨rfl, HB.out.trans (hb1.mono HB.out.size)⟩
end Go.Proofs.YthlakbjnmbddaaaGreatDoor

/- vouchlaw10.beside: walked. -/
set_option linter.unusedVariables false
set_option linter.unusedSimpArgs false
namespace Go.Proofs.YthlakbjnmbddaaaGreatDoor
open Go.RowKit

/-- What is kept while three texts of a block are read and a law is called. -/
abbrev KHeld (w : World) (g n k m q : Nat) (x y z : Bs) (w' : World) : Prop := Below g w w' ∧ Strs w' g n ∧ KEnv w' ∧ g < w'.heap.size ∧ w'.cell? ⟨g, k, none⟩ = some (.string (bs x)) ∧ w'.cell? ⟨g, m, none⟩ = some (.string (bs y)) ∧ w'.cell? ⟨g, q, none⟩ = some (.string (bs z))
theorem KHeld.keep {w w1 w2 : World} {g n k m q : Nat} {x y z : Bs} (hb : Below w1.heap.size w1 w2) (hg : g ≤ w1.heap.size) (h1 : Below g w w1) (h2 : Strs w1 g n) (h3 : KEnv w1) (h4 : g < w1.heap.size) (h5 : w1.cell? ⟨g, k, none⟩ = some (.string (bs x))) (h6 : w1.cell? ⟨g, m, none⟩ = some (.string (bs y))) (h7 : w1.cell? ⟨g, q, none⟩ = some (.string (bs z))) : KHeld w g n k m q x y z w2 :=
  ⟨h1.trans (hb.mono hg), h2.later hb, h3.step hb, Nat.lt_of_lt_of_le h4 hb.size, (hb.cell (p := ⟨g, k, none⟩) h4).trans h5, (hb.cell (p := ⟨g, m, none⟩) h4).trans h6, (hb.cell (p := ⟨g, q, none⟩) h4).trans h7⟩
theorem KHeld2.keep {w w1 w2 : World} {g g2 n k m q : Nat} {x y z : Bs} (hb : Below w1.heap.size w1 w2) (hg : g ≤ w1.heap.size) (h1 : Below g w w1) (h2 : Strs w1 g2 n) (h3 : KEnv w1) (h4 : g2 < w1.heap.size) (h5 : w1.cell? ⟨g2, k, none⟩ = some (.string (bs x))) (h6 : w1.cell? ⟨g2, m, none⟩ = some (.string (bs y))) (h7 : w1.cell? ⟨g2, q, none⟩ = some (.string (bs z))) :
    Below g w w2 ∧ Strs w2 g2 n ∧ KEnv w2 ∧ g2 < w2.heap.size ∧ w2.cell? ⟨g2, k, none⟩ = some (.string (bs x)) ∧ w2.cell? ⟨g2, m, none⟩ = some (.string (bs y)) ∧ w2.cell? ⟨g2, q, none⟩ = some (.string (bs z)) :=
  ⟨h1.trans (hb.mono hg), h2.later hb, h3.step hb, Nat.lt_of_lt_of_le h4 hb.size, (hb.cell (p := ⟨g2, k, none⟩) h4).trans h5, (hb.cell (p := ⟨g2, m, none⟩) h4).trans h6, (hb.cell (p := ⟨g2, q, none⟩) h4).trans h7⟩
set_option maxRecDepth 100000 in
set_option maxHeartbeats 16000000 in
theorem kbeside_any (hR : KS 21) : K0 10 := by
  intro w hE
  have HR := Lib.hid hR; have HE := Lib.hid hE
  clear hR hE
  go_enter Tryz.func10, Tryz.ntmps10
  go_upto_region 2 with fail
  generalize hW : w.alloc _ = W0
  obtain ⟨hS, hB⟩ := Strs.new (n := 18) hW (by kernel_rfl) (by kernel_rfl)
  have HS := Lib.hid hS; have HE0 := Lib.hid (HE.out.step hB)
  clear hW hS
  generalize hg : w.heap.size = g at *
  go_wp2_with fail
  go_loopg [2] 18 (fun n i wr => ∃ k : Nat, i = .int .i64 k ∧ k + n = 18 ∧ Below g w wr ∧ Strs wr g 18 ∧ KEnv wr)
  case atStart => exact ⟨0, rfl, rfl, hB, HS.out, HE0.out⟩
  case round =>
    clear hB HS HE0
    obtain ⟨k, rfl, hk, hB, hS, hE⟩ := hrel
    have HB := Lib.hid hB; have HS := Lib.hid hS; have HE1 := Lib.hid hE; have Hk := Lib.hid hk
    clear hB hS hE hk
    by_cases hlt : k < 18
    · have hlti : (k : Int) < 18 := by omega
      go_wp2_with fail
      obtain ⟨G1, hG1⟩ : ∃ G, G = gk := ⟨_, rfl⟩
      subst hG1
      go_loopg [3] 18 (fun n i wr => ∃ m : Nat, i = .int .i64 m ∧ m + n = 18 ∧ Below g w wr ∧ Strs wr g 18 ∧ KEnv wr)
      case atStart => exact ⟨0, rfl, rfl, HB.out, HS.out, HE1.out⟩
      case round =>
        clear HB HS HE1
        obtain ⟨m, rfl, hm, hB, hS, hE⟩ := hrel
        have HB := Lib.hid hB; have HS := Lib.hid hS; have HE1 := Lib.hid hE; have Hm := Lib.hid hm
        clear hB hS hE hm
        by_cases hlm : m < 18
        · have hlmi : (m : Int) < 18 := by omega
          go_wp2_with fail
          obtain ⟨G2, hG2⟩ : ∃ G, G = gk := ⟨_, rfl⟩
          subst hG2
          go_loopg [4] 18 (fun n i wr => ∃ q : Nat, i = .int .i64 q ∧ q + n = 18 ∧ Below g w wr ∧ Strs wr g 18 ∧ KEnv wr)
          case atStart => exact ⟨0, rfl, rfl, HB.out, HS.out, HE1.out⟩
          case round =>
            clear HB HS HE1
            obtain ⟨q, rfl, hq, hB, hS, hE⟩ := hrel
            have HB := Lib.hid hB; have HS := Lib.hid hS; have HE1 := Lib.hid hE; have Hq := Lib.hid hq
            clear hB hS hE hq
            by_cases hlq : q < 18
            · have hlqi : (q : Int) < 18 := by omega
              obtain ⟨x, hx, cx⟩ := HS.out.2 k hlt
              obtain ⟨y, hy, cy⟩ := HS.out.2 m hlm
              obtain ⟨z, hz, cz⟩ := HS.out.2 q hlq
              have hgz := HS.out.1
              have sx : (bs x).size = x.length := ksize _
              have sy : (bs y).size = y.length := ksize _
              have sz : (bs z).size = z.length := ksize _
              have c1 : bs x ++ bs y = bs (x ++ y) := kcat _ _
              have s1 : (bs (x ++ y)).size = x.length + y.length := by rw [ksize, List.length_append]
              have c2 : bs (x ++ y) ++ bs z = bs (x ++ (y ++ z)) := (kcat _ _).trans (by rw [List.append_assoc])
              have hl : (x ++ (y ++ z)).length ≤ 1000000 := by simp only [List.length_append]; omega
              have hB := HB.out; have hS := HS.out; have hE := HE1.out
              have q1 : ¬ (9223372036854775807 < x.length + y.length) := by omega
              have q2 : ¬ (9223372036854775807 < x.length + y.length + z.length) := by omega
              go_wp2_with fail
              go_region_held3 (fun w' => Below g w w' ∧ Strs w' g 18 ∧ KEnv w' ∧ g < w'.heap.size ∧ w'.cell? ⟨g, k, none⟩ = some (.string (bs x)) ∧ w'.cell? ⟨g, m, none⟩ = some (.string (bs y)) ∧ w'.cell? ⟨g, q, none⟩ = some (.string (bs z)))
                (first
                  | ((try go_split_ands); refine KHeld.keep (by assumption) (by omega) ?_ ?_ ?_ ?_ ?_ ?_ ?_ <;> assumption)
                  | ((try go_split_ands); refine KHeld.keep (Below.drew (Below.refl _ _)) (by omega) ?_ ?_ ?_ ?_ ?_ ?_ ?_ <;> assumption)
                  | ((try go_split_ands); refine ⟨?_, ?_, ?_, ?_, ?_, ?_, ?_⟩ <;> assumption)
                  | go_keep)
                (first
                  | (go_at_call 21; (try go_split_ands); refine (HR.out _ (by assumption) _ hl).mono ?_; rintro e w' ⟨rfl, hb⟩))
              go_split_ands
              rename_i hB2 hS2 hE2 _ _ _ _
              have HB2 := Lib.hid hB2; have HS2 := Lib.hid hS2; have HE2 := Lib.hid hE2
              clear hB2 hS2 hE2
              go_wp2_with fail
              have hq := Hq.out
              go_roundg (gk - 1)
              case measure => omega
              case rel => exact ⟨q + 1, by go_num, by omega, HB2.out, HS2.out, HE2.out⟩
            · have hq' : (18 : Int) ≤ (q : Int) := by omega
              go_wp2_with fail
              have hm := Hm.out
              go_roundg (G2 - 1)
              case measure => omega
              case rel => exact ⟨m + 1, by go_num, by omega, HB.out, HS.out, HE1.out⟩
        · have hm' : (18 : Int) ≤ (m : Int) := by omega
          go_wp2_with fail
          have hk := Hk.out
          go_roundg (G1 - 1)
          case measure => omega
          case rel => exact ⟨k + 1, by go_num, by omega, HB.out, HS.out, HE1.out⟩
    · have hk' : (18 : Int) ≤ (k : Int) := by omega
      clear HS
      go_upto_region 14 with fail
      generalize hW : wr.alloc _ = W1
      obtain ⟨hS, hb⟩ := Strs.new (n := 12) hW (by kernel_rfl) (by kernel_rfl)
      have HS2 := Lib.hid hS; have HE2 := Lib.hid (HE1.out.step hb); have HB2 := Lib.hid (HB.out.trans (hb.mono (by have := HB.out.size; omega)))
      have hgs := HB.out.size
      clear hW hS hb
      generalize hg2 : wr.heap.size = g2 at *
      go_wp2_with fail
      go_loopg [6] 12 (fun n i wr => ∃ k : Nat, i = .int .i64 k ∧ k + n = 12 ∧ Below g w wr ∧ Strs wr g2 12 ∧ KEnv wr)
      case atStart => exact ⟨0, rfl, rfl, HB2.out, HS2.out, HE2.out⟩
      case round =>
        clear HB2 HS2 HE2 HB HE1
        obtain ⟨k, rfl, hk, hB, hS, hE⟩ := hrel
        have HB := Lib.hid hB; have HS := Lib.hid hS; have HE1 := Lib.hid hE; have Hk := Lib.hid hk
        clear hB hS hE hk
        by_cases hlt : k < 12
        · have hlti : (k : Int) < 12 := by omega
          go_wp2_with fail
          obtain ⟨G1, hG1⟩ : ∃ G, G = gk := ⟨_, rfl⟩
          subst hG1
          go_loopg [7] 12 (fun n i wr => ∃ m : Nat, i = .int .i64 m ∧ m + n = 12 ∧ Below g w wr ∧ Strs wr g2 12 ∧ KEnv wr)
          case atStart => exact ⟨0, rfl, rfl, HB.out, HS.out, HE1.out⟩
          case round =>
            clear HB HS HE1
            obtain ⟨m, rfl, hm, hB, hS, hE⟩ := hrel
            have HB := Lib.hid hB; have HS := Lib.hid hS; have HE1 := Lib.hid hE; have Hm := Lib.hid hm
            clear hB hS hE hm
            by_cases hlm : m < 12
            · have hlmi : (m : Int) < 12 := by omega
              go_wp2_with fail
              obtain ⟨G2, hG2⟩ : ∃ G, G = gk := ⟨_, rfl⟩
              subst hG2
              go_loopg [8] 12 (fun n i wr => ∃ q : Nat, i = .int .i64 q ∧ q + n = 12 ∧ Below g w wr ∧ Strs wr g2 12 ∧ KEnv wr)
              case atStart => exact ⟨0, rfl, rfl, HB.out, HS.out, HE1.out⟩
              case round =>
                clear HB HS HE1
                obtain ⟨q, rfl, hq, hB, hS, hE⟩ := hrel
                have HB := Lib.hid hB; have HS := Lib.hid hS; have HE1 := Lib.hid hE; have Hq := Lib.hid hq
                clear hB hS hE hq
                by_cases hlq : q < 12
                · have hlqi : (q : Int) < 12 := by omega
                  obtain ⟨x, hx, cx⟩ := HS.out.2 k hlt
                  obtain ⟨y, hy, cy⟩ := HS.out.2 m hlm
                  obtain ⟨z, hz, cz⟩ := HS.out.2 q hlq
                  have hgz := HS.out.1
                  have sx : (bs x).size = x.length := ksize _
                  have sy : (bs y).size = y.length := ksize _
                  have sz : (bs z).size = z.length := ksize _
                  have c0 : bs [91] ++ bs x = bs (91 :: x) := kcat _ _
                  have s0 : (bs (91 :: x)).size = x.length + 1 := ksize _
                  have c1 : bs (91 :: x) ++ bs y = bs (91 :: (x ++ y)) := kcat _ _
                  have s1 : (bs (91 :: (x ++ y))).size = x.length + y.length + 1 := by rw [ksize, List.length_cons, List.length_append]
                  have c2 : bs (91 :: (x ++ y)) ++ bs z = bs (91 :: (x ++ (y ++ z))) := (kcat _ _).trans (by simp)
                  have s2 : (bs (91 :: (x ++ (y ++ z)))).size = x.length + y.length + z.length + 1 := by rw [ksize]; simp only [List.length_cons, List.length_append]; omega
                  have c3 : bs (91 :: (x ++ (y ++ z))) ++ bs [93] = bs (91 :: (x ++ (y ++ (z ++ [93])))) := (kcat _ _).trans (by simp)
                  have hl : (91 :: (x ++ (y ++ (z ++ [93])))).length ≤ 1000000 := by simp only [List.length_cons, List.length_append, List.length_nil]; omega
                  have hB := HB.out; have hS := HS.out; have hE := HE1.out
                  have s9 : (bs [91]).size = 1 := rfl
                  have s8 : (bs [93]).size = 1 := rfl
                  have q1 : ¬ (9223372036854775807 < 1 + x.length) := by omega
                  have q2 : ¬ (9223372036854775807 < x.length + 1 + y.length) := by omega
                  have q3 : ¬ (9223372036854775807 < x.length + y.length + 1 + z.length) := by omega
                  have q4 : ¬ (9223372036854775807 < x.length + y.length + z.length + 1 + 1) := by omega
                  go_wp2_with fail
                  go_region_held3 (fun w' => Below g w w' ∧ Strs w' g2 12 ∧ KEnv w' ∧ g2 < w'.heap.size ∧ w'.cell? ⟨g2, k, none⟩ = some (.string (bs x)) ∧ w'.cell? ⟨g2, m, none⟩ = some (.string (bs y)) ∧ w'.cell? ⟨g2, q, none⟩ = some (.string (bs z)))
                    (first
                      | ((try go_split_ands); refine KHeld2.keep (by assumption) (by omega) ?_ ?_ ?_ ?_ ?_ ?_ ?_ <;> assumption)
                      | ((try go_split_ands); refine KHeld2.keep (Below.drew (Below.refl _ _)) (by omega) ?_ ?_ ?_ ?_ ?_ ?_ ?_ <;> assumption)
                      | ((try go_split_ands); refine ⟨?_, ?_, ?_, ?_, ?_, ?_, ?_⟩ <;> assumption)
                      | go_keep)
                    (first
                      | (go_at_call 21; (try go_split_ands); refine (HR.out _ (by assumption) _ hl).mono ?_; rintro e w' ⟨rfl, hb⟩))
                  go_split_ands
                  rename_i hB2 hS2 hE2 _ _ _ _
                  have HB2 := Lib.hid hB2; have HS2 := Lib.hid hS2; have HE2 := Lib.hid hE2
                  clear hB2 hS2 hE2
                  go_wp2_with fail
                  have hq := Hq.out
                  go_roundg (gk - 1)
                  case measure => omega
                  case rel => exact ⟨q + 1, by go_num, by omega, HB2.out, HS2.out, HE2.out⟩
                · have hq' : (12 : Int) ≤ (q : Int) := by omega
                  go_wp2_with fail
                  have hm := Hm.out
                  go_roundg (G2 - 1)
                  case measure => omega
                  case rel => exact ⟨m + 1, by go_num, by omega, HB.out, HS.out, HE1.out⟩
            · have hm' : (12 : Int) ≤ (m : Int) := by omega
              go_wp2_with fail
              have hk := Hk.out
              go_roundg (G1 - 1)
              case measure => omega
              case rel => exact ⟨k + 1, by go_num, by omega, HB.out, HS.out, HE1.out⟩
        · have hk' : (12 : Int) ≤ (k : Int) := by omega
          go_wp2_with fail
          go_ret
          exact ⟨rfl, by rw [hg]; exact HB.out⟩
end Go.Proofs.YthlakbjnmbddaaaGreatDoor

/- The pattern reader's number, interval: walked. -/
set_option linter.unusedVariables false
set_option linter.unusedSimpArgs false
namespace Go.Proofs.YthlakbjnmbddaaaGreatDoor
open Go.RowKit

/-- What a reading step leaves: nothing read behind an error; else what is read, or the error. -/
def Out {α : Type} (f : Bs → Except Int (α × Bs)) (s : Rs) (v : α → Prop) (s' : Rs) : Prop :=
  match s with
  | .error e => s' = .error e
  | .ok r => match f r with
    | .error e => s' = .error e
    | .ok (x, r') => v x ∧ s' = .ok r'
theorem Out.err {α : Type} {f : Bs → Except Int (α × Bs)} {e : Int} {v : α → Prop} : Out f (.error e) v (.error e) := rfl
theorem Out.bad {α : Type} {f : Bs → Except Int (α × Bs)} {r : Bs} {e : Int} {v : α → Prop} (h : f r = .error e) : Out f (.ok r) v (.error e) := by simp only [Out, h]
theorem Out.good {α : Type} {f : Bs → Except Int (α × Bs)} {r r' : Bs} {x : α} {v : α → Prop} (h : f r = .ok (x, r')) (hv : v x) : Out f (.ok r) v (.ok r') := by simp only [Out, h]; exact ⟨hv, trivial⟩
/-- What number hands back. -/
def GNum (p : Nat) (op : Int) (s : Rs) (w : World) (en : Ending) (w' : World) : Prop :=
  ∃ (n : Int) (s' : Rs), en = .returned (.int .i64 n) ∧ -9223372036854775808 ≤ n ∧ n ≤ 9223372036854775807 ∧ RS w' p op s' ∧ Off p w w' ∧ Out numberP s (fun m => n = m ∧ 0 ≤ n ∧ n ≤ 255) s'
def lim10 (w : Nat) : Int := if w = 0 then 0 else if w = 1 then 9 else if w = 2 then 99 else if w = 3 then 999 else 9999
theorem digits_bd : ∀ (k : Nat) (n : Int) (w : Nat) (r : Bs), k + w ≤ 4 → 0 ≤ n → n ≤ lim10 w → 0 ≤ (digitsP k n w r).1 ∧ (digitsP k n w r).1 ≤ 9999 ∧ (digitsP k n w r).2.1 ≤ 4
  | 0, n, w, r, h, h0, h1 => by
    rw [digitsP]; simp only
    unfold lim10 at h1
    refine ⟨h0, ?_, by omega⟩
    split at h1; omega; split at h1; omega; split at h1; omega; split at h1; omega; omega
  | k + 1, n, w, [], h, h0, h1 => by
    rw [digitsP]; simp only
    unfold lim10 at h1
    refine ⟨h0, ?_, by omega⟩
    split at h1; omega; split at h1; omega; split at h1; omega; split at h1; omega; omega
  | k + 1, n, w, c :: t, h, h0, h1 => by
    rw [digitsP]
    split
    · rename_i hc
      simp only [isDigit, Bool.and_eq_true, decide_eq_true_eq] at hc
      refine digits_bd k _ (w + 1) t (by omega) (by omega) ?_
      unfold lim10 at h1 ⊢
      rcases (show w = 0 ∨ w = 1 ∨ w = 2 ∨ w = 3 by omega) with rfl | rfl | rfl | rfl <;> simp at h1 ⊢ <;> omega
    · simp only
      unfold lim10 at h1
      refine ⟨h0, ?_, by omega⟩
      split at h1; omega; split at h1; omega; split at h1; omega; split at h1; omega; omega

set_option maxRecDepth 100000 in
set_option maxHeartbeats 2000000 in
theorem number_any (w : World) (p : Nat) (op : Int) (s : Rs) (h : RS w p op s) :
    Calls Tryz.prog 133 #[.pointer (some ⟨p, 0, none⟩)] w fun en w' => GNum p op s w en w' := by
  rcases s with e | r
  · have c0 := h.rdr.c0
    simp only [Rs.rest] at c0
    have H := Lib.hid h; clear h
    go_enter Tryz.func133, Tryz.ntmps133
    go_wp2_with fail
    go_loopg [3, 4] 1 (fun n a b wr => a = .int .i64 0 ∧ b = .int .i64 0 ∧ wr = w)
    case atStart => exact ⟨rfl, rfl, rfl⟩
    case round =>
      obtain ⟨rfl, rfl, rfl⟩ := hrel
      go_wp2_with fail
      refine (fail_any _ p op _ 105 (by omega) H.out).mono ?_
      rintro en w1 ⟨rfl, h1, hb1⟩
      go_wp2_with fail
      go_ret
      exact ⟨0, _, rfl, by omega, by omega, h1, hb1, Out.err⟩
  · have H := Lib.hid h; clear h
    have hbd := digits_bd 4 0 0 r (by omega) (by omega) (by simp [lim10])
    have Hbd := Lib.hid hbd; clear hbd
    go_enter Tryz.func133, Tryz.ntmps133
    go_wp2_with fail
    go_loopg [3, 4] 4 (fun k a b wr => ∃ (n : Int) (wd : Nat) (r' : Bs), a = .int .i64 n ∧ b = .int .i64 wd ∧ k + wd = 4 ∧ 0 ≤ n ∧ n ≤ lim10 wd ∧ digitsP k n wd r' = digitsP 4 0 0 r ∧ RS wr p op (.ok r') ∧ Off p w wr)
    case atStart => exact ⟨0, 0, r, rfl, rfl, rfl, by omega, by simp [lim10], rfl, H.out, Off.refl p w⟩
    case round =>
      obtain ⟨n, wd, r', rfl, rfl, hk, hn0, hn1, hd, hR, hO⟩ := hrel
      have hn2 : n ≤ 9999 := by
        unfold lim10 at hn1
        split at hn1; omega; split at hn1; omega; split at hn1; omega; split at hn1; omega; omega
      have c0 := hR.rdr.c0
      simp only [Rs.rest] at c0
      have HR := Lib.hid hR; have Hd := Lib.hid hd; have Hn1 := Lib.hid hn1; clear hR hd hn1
      have done : gk = 0 ∨ r' = [] ∨ (∃ c t, r' = c :: t ∧ isDigit c = false) → digitsP 4 0 0 r = (n, wd, r') := fun hh => by
        rw [← Hd.out]
        rcases hh with rfl | rfl | ⟨c, t, rfl, hc⟩
        · rw [digitsP]
        · cases gk <;> rw [digitsP]
        · cases gk with
          | zero => rw [digitsP]
          | succ k => rw [digitsP, hc]; rfl
      have Done := Lib.hid done; clear done
      rcases r' with _ | ⟨c, t⟩
      · have Done := Lib.hid (Done.out (.inr (.inl rfl)))
        have hnum : numberP r = if wd = 0 ∨ 3 < wd ∨ 255 < n then .error 105 else .ok (n, []) := by
          unfold numberP; rw [Done.out]
        have Hnum := Lib.hid hnum; clear hnum
        clear Done Hd Hn1
        by_cases b1 : wd = 0
        · subst b1
          have Hnum := Lib.hid (show numberP r = .error 105 by rw [Hnum.out, if_pos (.inl rfl)])
          go_wp2_with fail
          all_goals
            refine (fail_any _ p op _ 105 (by omega) HR.out).mono ?_
            rintro en w1 ⟨rfl, h1, hb1⟩
            go_wp2_with fail
            go_ret
            exact ⟨n, _, rfl, by omega, by omega, h1, hO.trans hb1, Out.bad Hnum.out⟩
        by_cases b2 : 3 < wd
        · have Hnum := Lib.hid (show numberP r = .error 105 by rw [Hnum.out, if_pos (.inr (.inl b2))])
          go_wp2_with fail
          all_goals
            refine (fail_any _ p op _ 105 (by omega) HR.out).mono ?_
            rintro en w1 ⟨rfl, h1, hb1⟩
            go_wp2_with fail
            go_ret
            exact ⟨n, _, rfl, by omega, by omega, h1, hO.trans hb1, Out.bad Hnum.out⟩
        by_cases b3 : 255 < n
        · have Hnum := Lib.hid (show numberP r = .error 105 by rw [Hnum.out, if_pos (.inr (.inr b3))])
          go_wp2_with fail
          all_goals
            refine (fail_any _ p op _ 105 (by omega) HR.out).mono ?_
            rintro en w1 ⟨rfl, h1, hb1⟩
            go_wp2_with fail
            go_ret
            exact ⟨n, _, rfl, by omega, by omega, h1, hO.trans hb1, Out.bad Hnum.out⟩
        · have Hnum := Lib.hid (show numberP r = .ok (n, []) by rw [Hnum.out, if_neg (by omega)])
          have hb1 : ((wd : Int) == 0) = false := by rw [beq_eq_false_iff_ne]; omega
          have hb2 : decide (3 < (wd : Int)) = false := by rw [decide_eq_false_iff_not]; omega
          clear b1 b2
          go_wp2_with fail
          all_goals
            go_ret
            exact ⟨n, _, rfl, by omega, by omega, HR.out, hO, Out.good Hnum.out ⟨rfl, hn0, by omega⟩⟩
      · have hc2 : c.toNat < 256 := c.toNat_lt
        by_cases d1 : 48 ≤ c.toNat
        case' neg =>
          have Done := Lib.hid (Done.out (.inr (.inr ⟨c, t, rfl, by simp [isDigit]; omega⟩)))
          have hnum : numberP r = if wd = 0 ∨ 3 < wd ∨ 255 < n then .error 105 else .ok (n, c :: t) := by
            unfold numberP; rw [Done.out]
          have Hnum := Lib.hid hnum; clear hnum
          clear Done Hd Hn1
          by_cases b1 : wd = 0
          · subst b1
            have Hnum := Lib.hid (show numberP r = .error 105 by rw [Hnum.out, if_pos (.inl rfl)])
            go_wp2_with fail
            all_goals
              refine (fail_any _ p op _ 105 (by omega) HR.out).mono ?_
              rintro en w1 ⟨rfl, h1, hb1⟩
              go_wp2_with fail
              go_ret
              exact ⟨n, _, rfl, by omega, by omega, h1, hO.trans hb1, Out.bad Hnum.out⟩
          by_cases b2 : 3 < wd
          · have Hnum := Lib.hid (show numberP r = .error 105 by rw [Hnum.out, if_pos (.inr (.inl b2))])
            go_wp2_with fail
            all_goals
              refine (fail_any _ p op _ 105 (by omega) HR.out).mono ?_
              rintro en w1 ⟨rfl, h1, hb1⟩
              go_wp2_with fail
              go_ret
              exact ⟨n, _, rfl, by omega, by omega, h1, hO.trans hb1, Out.bad Hnum.out⟩
          by_cases b3 : 255 < n
          · have Hnum := Lib.hid (show numberP r = .error 105 by rw [Hnum.out, if_pos (.inr (.inr b3))])
            go_wp2_with fail
            all_goals
              refine (fail_any _ p op _ 105 (by omega) HR.out).mono ?_
              rintro en w1 ⟨rfl, h1, hb1⟩
              go_wp2_with fail
              go_ret
              exact ⟨n, _, rfl, by omega, by omega, h1, hO.trans hb1, Out.bad Hnum.out⟩
          · have Hnum := Lib.hid (show numberP r = .ok (n, c :: t) by rw [Hnum.out, if_neg (by omega)])
            have hb1 : ((wd : Int) == 0) = false := by rw [beq_eq_false_iff_ne]; omega
            have hb2 : decide (3 < (wd : Int)) = false := by rw [decide_eq_false_iff_not]; omega
            clear b1 b2
            go_wp2_with fail
            all_goals
              go_ret
              exact ⟨n, _, rfl, by omega, by omega, HR.out, hO, Out.good Hnum.out ⟨rfl, hn0, by omega⟩⟩
        by_cases d2 : c.toNat ≤ 57
        case' neg =>
          have Done := Lib.hid (Done.out (.inr (.inr ⟨c, t, rfl, by simp [isDigit]; omega⟩)))
          have hnum : numberP r = if wd = 0 ∨ 3 < wd ∨ 255 < n then .error 105 else .ok (n, c :: t) := by
            unfold numberP; rw [Done.out]
          have Hnum := Lib.hid hnum; clear hnum
          clear Done Hd Hn1
          by_cases b1 : wd = 0
          · subst b1
            have Hnum := Lib.hid (show numberP r = .error 105 by rw [Hnum.out, if_pos (.inl rfl)])
            go_wp2_with fail
            all_goals
              refine (fail_any _ p op _ 105 (by omega) HR.out).mono ?_
              rintro en w1 ⟨rfl, h1, hb1⟩
              go_wp2_with fail
              go_ret
              exact ⟨n, _, rfl, by omega, by omega, h1, hO.trans hb1, Out.bad Hnum.out⟩
          by_cases b2 : 3 < wd
          · have Hnum := Lib.hid (show numberP r = .error 105 by rw [Hnum.out, if_pos (.inr (.inl b2))])
            go_wp2_with fail
            all_goals
              refine (fail_any _ p op _ 105 (by omega) HR.out).mono ?_
              rintro en w1 ⟨rfl, h1, hb1⟩
              go_wp2_with fail
              go_ret
              exact ⟨n, _, rfl, by omega, by omega, h1, hO.trans hb1, Out.bad Hnum.out⟩
          by_cases b3 : 255 < n
          · have Hnum := Lib.hid (show numberP r = .error 105 by rw [Hnum.out, if_pos (.inr (.inr b3))])
            go_wp2_with fail
            all_goals
              refine (fail_any _ p op _ 105 (by omega) HR.out).mono ?_
              rintro en w1 ⟨rfl, h1, hb1⟩
              go_wp2_with fail
              go_ret
              exact ⟨n, _, rfl, by omega, by omega, h1, hO.trans hb1, Out.bad Hnum.out⟩
          · have Hnum := Lib.hid (show numberP r = .ok (n, c :: t) by rw [Hnum.out, if_neg (by omega)])
            have hb1 : ((wd : Int) == 0) = false := by rw [beq_eq_false_iff_ne]; omega
            have hb2 : decide (3 < (wd : Int)) = false := by rw [decide_eq_false_iff_not]; omega
            clear b1 b2
            go_wp2_with fail
            all_goals
              go_ret
              exact ⟨n, _, rfl, by omega, by omega, HR.out, hO, Out.good Hnum.out ⟨rfl, hn0, by omega⟩⟩
        by_cases d3 : gk = 0
        · have Done := Lib.hid (Done.out (.inl d3))
          have hw4 : 3 < wd := by omega
          have hnum : numberP r = .error 105 := by
            unfold numberP; rw [Done.out, if_pos (.inr (.inl hw4))]
          have Hnum := Lib.hid hnum; clear hnum
          have hb2 : decide ((wd : Int) < 4) = false := by rw [decide_eq_false_iff_not]; omega
          clear Done Hd Hn1 d3
          go_wp2_with fail
          all_goals
            refine (fail_any _ p op _ 105 (by omega) HR.out).mono ?_
            rintro en w1 ⟨rfl, h1, hb1⟩
            go_wp2_with fail
            go_ret
            exact ⟨n, _, rfl, by omega, by omega, h1, hO.trans hb1, Out.bad Hnum.out⟩
        · have hw4 : wd < 4 := by omega
          have hn3 : n ≤ 999 := by
            have := Hn1.out
            unfold lim10 at this
            rcases (show wd = 0 ∨ wd = 1 ∨ wd = 2 ∨ wd = 3 by omega) with rfl | rfl | rfl | rfl <;> simp at this <;> omega
          have hs1 : IntKind.u8.wrap ((c.toNat : Int) - 48) = (c.toNat : Int) - 48 := by simp [IntKind.wrap, IntKind.signed, IntKind.bits]; omega
          go_wp2_with fail
          refine (next_any wr p op _ 105 (by omega) HR.out).mono ?_
          rintro en w1 ⟨rfl, h1, hb1⟩
          have H1 := Lib.hid h1
          clear h1
          have hcn : (nextS (.ok (c :: t)) 105).1 = c.toNat := rfl
          rw [hcn]
          clear hcn
          go_wp2_with fail
          go_roundg (gk - 1)
          case measure => omega
          case rel =>
            refine ⟨10 * n + (c.toNat - 48), wd + 1, t, by go_num, by go_num, by omega, by omega, ?_, ?_, H1.out, hO.trans hb1⟩
            · have := Hn1.out
              unfold lim10 at this ⊢
              rcases (show wd = 0 ∨ wd = 1 ∨ wd = 2 ∨ wd = 3 by omega) with rfl | rfl | rfl | rfl <;> simp at this ⊢ <;> omega
            · rw [← Hd.out]
              obtain ⟨k, rfl⟩ : ∃ k, gk = k + 1 := ⟨gk - 1, by omega⟩
              rw [digitsP, if_pos (by simp [isDigit, d1, d2])]
              rfl
end Go.Proofs.YthlakbjnmbddaaaGreatDoor

/- The pattern reader's interval: walked. -/
set_option linter.unusedVariables false
set_option linter.unusedSimpArgs false
namespace Go.Proofs.YthlakbjnmbddaaaGreatDoor
open Go.RowKit

/-- What interval hands back. -/
def GInt (p : Nat) (op : Int) (s : Rs) (w : World) (en : Ending) (w' : World) : Prop :=
  ∃ (m n : Int) (s' : Rs), en = .returned (.tuple #[.int .i64 m, .int .i64 n]) ∧ RS w' p op s' ∧ Off p w w' ∧
    match s with
    | .error e => s' = .error e
    | .ok r => match intervalP r with
      | .error e => s' = .error e
      | .ok (a, b, r') => m = a ∧ n = b ∧ s' = .ok r'
theorem GInt.bad {p : Nat} {op : Int} {r : Bs} {w w' : World} {e : Int} (m n : Int) (hi : intervalP r = .error e) (h : RS w' p op (.error e)) (hO : Off p w w') : GInt p op (.ok r) w (.returned (.tuple #[.int .i64 m, .int .i64 n])) w' := by
  refine ⟨m, n, _, rfl, h, hO, ?_⟩
  simp only [hi]
theorem GInt.good {p : Nat} {op : Int} {r r' : Bs} {w w' : World} {m n : Int} (hi : intervalP r = .ok (m, n, r')) (h : RS w' p op (.ok r')) (hO : Off p w w') : GInt p op (.ok r) w (.returned (.tuple #[.int .i64 m, .int .i64 n])) w' := by
  refine ⟨m, n, _, rfl, h, hO, ?_⟩
  simp only [hi]
  exact ⟨trivial, trivial, trivial⟩
set_option maxRecDepth 100000 in
set_option maxHeartbeats 2000000 in
theorem interval_any (w : World) (p : Nat) (op : Int) (s : Rs) (h : RS w p op s) :
    Calls Tryz.prog 118 #[.pointer (some ⟨p, 0, none⟩)] w fun en w' => GInt p op s w en w' := by
  have H := Lib.hid h; clear h
  go_enter Tryz.func118, Tryz.ntmps118
  go_wp2_with fail
  refine (number_any w p op s H.out).mono ?_
  rintro en w1 ⟨m, s1, rfl, hm0, hm1, h1, hO1, ho1⟩
  rcases s1 with e | r1
  · -- an error
    have hfin : ∀ w', RS w' p op (.error e) → Off p w w' → GInt p op s w (.returned (.tuple #[.int .i64 0, .int .i64 0])) w' := fun w' h hO => by
      rcases s with e' | r
      · have : (Except.error e : Rs) = .error e' := ho1
        cases this
        exact ⟨0, 0, _, rfl, h, hO, rfl⟩
      · refine GInt.bad 0 0 ?_ h hO
        cases hn : numberP r with
        | error e' =>
          simp only [Out, hn] at ho1
          cases ho1
          simp only [intervalP, hn]
        | ok y => simp only [Out, hn] at ho1; cases ho1.2
    have Hfin := Lib.hid hfin; clear hfin ho1
    go_wp2_with fail
    refine (take_err [125] (by simp) h1).mono ?_
    rintro en w2 ⟨rfl, h2, hO2⟩
    go_wp2_with fail
    refine (take_err [44, 125] (by simp) h2).mono ?_
    rintro en w3 ⟨rfl, h3, hO3⟩
    go_wp2_with fail
    refine (take_err [44] (by simp) h3).mono ?_
    rintro en w4 ⟨rfl, h4, hO4⟩
    go_wp2_with fail
    refine (fail_err 105 (by omega) h4).mono ?_
    rintro en w5 ⟨rfl, h5, hO5⟩
    go_wp2_with fail
    go_ret2
    exact Hfin.out _ h5 ((((hO1.trans hO2).trans hO3).trans hO4).trans hO5)
  · rcases s with e' | r
    · cases (show (Except.ok r1 : Rs) = .error e' from ho1)
    obtain ⟨hn, hmn⟩ : numberP r = .ok (m, r1) ∧ 0 ≤ m := by
      cases hn : numberP r with
      | error e' => simp only [Out, hn] at ho1; cases ho1
      | ok y =>
        obtain ⟨a, b⟩ := y
        simp only [Out, hn] at ho1
        obtain ⟨⟨rfl, h0, _⟩, h2⟩ := ho1
        cases h2
        exact ⟨rfl, h0⟩
    clear ho1
    have Hn := Lib.hid hn; clear hn
    rcases ht : takeP [125] r1 with _ | r2
    case' some =>
      have hi : intervalP r = .ok (m, m, r2) := by simp only [intervalP, Hn.out, ht]
      have Hi := Lib.hid hi; have Ht := Lib.hid ht; clear hi ht
      go_wp2_with fail
      refine (take_hit [125] (by simp) Ht.out h1).mono ?_
      rintro en w2 ⟨rfl, h2, hO2⟩
      go_wp2_with fail
      go_ret2
      exact GInt.good Hi.out h2 (hO1.trans hO2)
    rcases ht2 : takeP [44, 125] r1 with _ | r2
    case' some =>
      have hi : intervalP r = .ok (m, -1, r2) := by simp only [intervalP, Hn.out, ht, ht2]
      have Hi := Lib.hid hi; have Ht := Lib.hid ht; have Ht2 := Lib.hid ht2; clear hi ht ht2
      go_wp2_with fail
      refine (take_miss [125] (by simp) Ht.out h1).mono ?_
      rintro en w2 ⟨rfl, h2, hO2⟩
      go_wp2_with fail
      refine (take_hit [44, 125] (by simp) Ht2.out h2).mono ?_
      rintro en w3 ⟨rfl, h3, hO3⟩
      go_wp2_with fail
      go_ret2
      exact GInt.good Hi.out h3 ((hO1.trans hO2).trans hO3)
    have Ht := Lib.hid ht; have Ht2 := Lib.hid ht2; clear ht ht2
    go_wp2_with fail
    refine (take_miss [125] (by simp) Ht.out h1).mono ?_
    rintro en w2 ⟨rfl, h2, hO2⟩
    go_wp2_with fail
    refine (take_miss [44, 125] (by simp) Ht2.out h2).mono ?_
    rintro en w3 ⟨rfl, h3, hO3⟩
    have hO13 := (hO1.trans hO2).trans hO3
    clear h1 h2 hO1 hO2 hO3
    rcases ht3 : takeP [44] r1 with _ | r2
    · have hi : intervalP r = .error 105 := by simp only [intervalP, Hn.out, Ht.out, Ht2.out, ht3]
      have Hi := Lib.hid hi; have Ht3 := Lib.hid ht3; clear hi ht3
      go_wp2_with fail
      refine (take_miss [44] (by simp) Ht3.out h3).mono ?_
      rintro en w4 ⟨rfl, h4, hO4⟩
      go_wp2_with fail
      refine (fail_ok 105 (by omega) h4).mono ?_
      rintro en w5 ⟨rfl, h5, hO5⟩
      go_wp2_with fail
      go_ret2
      exact GInt.bad 0 0 Hi.out h5 ((hO13.trans hO4).trans hO5)
    have Ht3 := Lib.hid ht3; clear ht3
    go_wp2_with fail
    refine (take_hit [44] (by simp) Ht3.out h3).mono ?_
    rintro en w4 ⟨rfl, h4, hO4⟩
    go_wp2_with fail
    refine (number_any w4 p op (.ok r2) h4).mono ?_
    rintro en w5 ⟨n, s5, rfl, hn0, hn1, h5, hO5, ho5⟩
    have hO15 := (hO13.trans hO4).trans hO5
    clear h3 h4 hO13 hO4 hO5
    rcases s5 with e5 | r3
    · have hi : intervalP r = .error e5 := by
        cases hn : numberP r2 with
        | error e' =>
          simp only [Out, hn] at ho5
          cases ho5
          simp only [intervalP, Hn.out, Ht.out, Ht2.out, Ht3.out, hn]
        | ok y => simp only [Out, hn] at ho5; cases ho5.2
      have Hi := Lib.hid hi; clear hi ho5
      by_cases hnm : m ≤ n
      · go_wp2_with fail
        refine (take_err [125] (by simp) h5).mono ?_
        rintro en w6 ⟨rfl, h6, hO6⟩
        go_wp2_with fail
        refine (fail_err 105 (by omega) h6).mono ?_
        rintro en w7 ⟨rfl, h7, hO7⟩
        go_wp2_with fail
        go_ret2
        exact GInt.bad 0 0 Hi.out h7 ((hO15.trans hO6).trans hO7)
      · go_wp2_with fail
        refine (fail_err 105 (by omega) h5).mono ?_
        rintro en w7 ⟨rfl, h7, hO7⟩
        go_wp2_with fail
        go_ret2
        exact GInt.bad 0 0 Hi.out h7 (hO15.trans hO7)
    · have hnn : numberP r2 = .ok (n, r3) := by
        cases hn : numberP r2 with
        | error e' => simp only [Out, hn] at ho5; cases ho5
        | ok y =>
          obtain ⟨a, b⟩ := y
          simp only [Out, hn] at ho5
          obtain ⟨⟨rfl, _, _⟩, h2⟩ := ho5
          cases h2
          rfl
      have Hnn := Lib.hid hnn; clear hnn ho5
      by_cases hnm : m ≤ n
      · rcases ht4 : takeP [125] r3 with _ | r4
        · have hi : intervalP r = .error 105 := by simp only [intervalP, Hn.out, Ht.out, Ht2.out, Ht3.out, Hnn.out, ht4]; rw [if_neg (by omega)]
          have Hi := Lib.hid hi; have Ht4 := Lib.hid ht4; clear hi ht4
          go_wp2_with fail
          refine (take_miss [125] (by simp) Ht4.out h5).mono ?_
          rintro en w6 ⟨rfl, h6, hO6⟩
          go_wp2_with fail
          refine (fail_ok 105 (by omega) h6).mono ?_
          rintro en w7 ⟨rfl, h7, hO7⟩
          go_wp2_with fail
          go_ret2
          exact GInt.bad 0 0 Hi.out h7 ((hO15.trans hO6).trans hO7)
        · have hi : intervalP r = .ok (m, n, r4) := by simp only [intervalP, Hn.out, Ht.out, Ht2.out, Ht3.out, Hnn.out, ht4]; rw [if_neg (by omega)]
          have Hi := Lib.hid hi; have Ht4 := Lib.hid ht4; clear hi ht4
          go_wp2_with fail
          refine (take_hit [125] (by simp) Ht4.out h5).mono ?_
          rintro en w6 ⟨rfl, h6, hO6⟩
          go_wp2_with fail
          go_ret2
          exact GInt.good Hi.out h6 (hO15.trans hO6)
      · have hi : intervalP r = .error 105 := by simp only [intervalP, Hn.out, Ht.out, Ht2.out, Ht3.out, Hnn.out]; rw [if_pos (by omega)]
        have Hi := Lib.hid hi; clear hi
        go_wp2_with fail
        refine (fail_ok 105 (by omega) h5).mono ?_
        rintro en w7 ⟨rfl, h7, hO7⟩
        go_wp2_with fail
        go_ret2
        exact GInt.bad 0 0 Hi.out h7 (hO15.trans hO7)
end Go.Proofs.YthlakbjnmbddaaaGreatDoor

/- The pattern reader's add, atom: walked. -/
set_option linter.unusedVariables false
set_option linter.unusedSimpArgs false
namespace Go.Proofs.YthlakbjnmbddaaaGreatDoor
open Go.RowKit

abbrev W4.V (s : W4) : Value := .agg #[.int .u64 s.a, .int .u64 s.b, .int .u64 s.c, .int .u64 s.d]
def W4.word (s : W4) (i : Nat) : Int := if i = 0 then s.a else if i = 1 then s.b else if i = 2 then s.c else s.d
/-- A set's four cells. -/
structure At4 (w : World) (b o : Nat) (s : W4) : Prop where
  f0 : w.cell? ⟨b, o, none⟩ = some (.int .u64 s.a)
  f1 : w.cell? ⟨b, o + 1, none⟩ = some (.int .u64 s.b)
  f2 : w.cell? ⟨b, o + 2, none⟩ = some (.int .u64 s.c)
  f3 : w.cell? ⟨b, o + 3, none⟩ = some (.int .u64 s.d)
/-- What add writes. -/
def addW (w : World) (b o : Nat) (s : W4) (c : Nat) : World := w.setCell ⟨b, o + c / 64, none⟩ (.int .u64 (orI (s.word (c / 64)) (2 ^ (c % 64))))
theorem wrap_pow (k : Nat) (h : k < 64) : IntKind.u64.wrap (2 ^ k) = 2 ^ k := by
  have h0 : 2 ^ k < 2 ^ 64 := Nat.pow_lt_pow_right (by omega) h
  have h3 : ((2 ^ k : Nat) : Int) = (2 : Int) ^ k := by rw [Int.natCast_pow]; rfl
  have h1 : (2 : Int) ^ k < 18446744073709551616 := by
    rw [← h3]
    exact Int.ofNat_lt.2 (show 2 ^ k < 18446744073709551616 from h0)
  have h2 : (0 : Int) ≤ 2 ^ k := by rw [← h3]; exact Int.natCast_nonneg _
  simp only [IntKind.wrap, IntKind.signed, IntKind.bits]
  generalize (2 : Int) ^ k = x at *
  simp
  omega
set_option maxRecDepth 100000 in
set_option maxHeartbeats 2000000 in
theorem add_any (w : World) (b o : Nat) (s : W4) (c : Nat) (hc : c < 256) (h : At4 w b o s) (hz : ∀ k, w.frozen? ⟨b, k, none⟩ = false) :
    Calls Tryz.prog 132 #[.pointer (some ⟨b, o, none⟩), .int .u8 c] w fun en w' => en = .returned (.tuple #[]) ∧ w' = (addW w b o s c).drew := by
  obtain ⟨f0, f1, f2, f3⟩ := h
  have hq : (c : Int).tdiv 64 = ((c / 64 : Nat) : Int) := by rw [Int.tdiv_eq_ediv_of_nonneg (by omega)]; omega
  have hr : (c : Int).tmod 64 = ((c % 64 : Nat) : Int) := by rw [Int.tmod_eq_emod_of_nonneg (by omega)]; omega
  have hw := wrap_pow (c % 64) (by omega)
  unfold addW
  have hk4 : c % 64 < 64 := by omega
  rcases (show c / 64 = 0 ∨ c / 64 = 1 ∨ c / 64 = 2 ∨ c / 64 = 3 by omega) with e | e | e | e
  all_goals
    rw [e] at hq ⊢
    have z := hz (o + c / 64)
    rw [e] at z
    clear hz e
    try simp only [Nat.add_zero] at z ⊢
    generalize hk : c % 64 = k at *
    clear hk
    go_enter Tryz.func132, Tryz.ntmps132
    go_region
    all_goals go_wp2_with fail
    all_goals go_end0
    all_goals exact ⟨rfl, rfl⟩
end Go.Proofs.YthlakbjnmbddaaaGreatDoor

/- vouchlaw10.bytes: walked. -/
set_option linter.unusedVariables false
set_option linter.unusedSimpArgs false
namespace Go.Proofs.YthlakbjnmbddaaaGreatDoor
open Go.RowKit

/-- A set of some words in a box. -/
def KSet (w : World) (p : Nat) : Prop := ∃ a b c d : Int, In64 a ∧ In64 b ∧ In64 c ∧ In64 d ∧ w.heap[p]? = some (.cells #[.int .u64 a, .int .u64 b, .int .u64 c, .int .u64 d] 28 (0, 0))
theorem KSet.later {w w' : World} {p : Nat} (h : KSet w p) (hb : Below w.heap.size w w') : KSet w' p := by
  obtain ⟨a, b, c, d, h1, h2, h3, h4, h5⟩ := h
  exact ⟨a, b, c, d, h1, h2, h3, h4, (hb.block p (Array.getElem?_eq_some_iff.1 h5).1).trans h5⟩
theorem KSet.keep {w w' : World} {p : Nat} (h : KSet w p) (e : w'.heap[p]? = w.heap[p]?) : KSet w' p := by
  obtain ⟨a, b, c, d, h1, h2, h3, h4, h5⟩ := h
  exact ⟨a, b, c, d, h1, h2, h3, h4, e.trans h5⟩
theorem KSet.put {w : World} {p : Nat} (h : KSet w p) {i : Nat} (hi : i < 4) {x : Int} (hx : In64 x) : KSet (w.setCell ⟨p, i, none⟩ (.int .u64 x)) p := by
  obtain ⟨a, b, c, d, h1, h2, h3, h4, h5⟩ := h
  have e : (w.setCell ⟨p, i, none⟩ (.int .u64 x)).heap[p]? = some (.cells ((#[.int .u64 a, .int .u64 b, .int .u64 c, .int .u64 d] : Array Value).setIfInBounds i (.int .u64 x)) 28 (0, 0)) := by
    simp only [World.setCell, Array.getElem?_modify, ↓reduceIte, h5, Option.map_some]
    rfl
  rcases (by omega : i = 0 ∨ i = 1 ∨ i = 2 ∨ i = 3) with rfl | rfl | rfl | rfl
  · exact ⟨x, b, c, d, hx, h2, h3, h4, e⟩
  · exact ⟨a, x, c, d, h1, hx, h3, h4, e⟩
  · exact ⟨a, b, x, d, h1, h2, hx, h4, e⟩
  · exact ⟨a, b, c, x, h1, h2, h3, hx, e⟩
theorem KSet.word {w : World} {p : Nat} (h : KSet w p) {i : Nat} (hi : i < 4) : ∃ x, In64 x ∧ w.cell? ⟨p, i, none⟩ = some (.int .u64 x) ∧ w.frozen? ⟨p, i, none⟩ = false := by
  obtain ⟨a, b, c, d, h1, h2, h3, h4, h5⟩ := h
  have hf : w.frozen? ⟨p, i, none⟩ = false := by unfold World.frozen?; simp [h5]
  have hc := cell_of_row w p i _ _ (0, 0) h5
  rcases (by omega : i = 0 ∨ i = 1 ∨ i = 2 ∨ i = 3) with rfl | rfl | rfl | rfl
  · exact ⟨a, h1, hc, hf⟩
  · exact ⟨b, h2, hc, hf⟩
  · exact ⟨c, h3, hc, hf⟩
  · exact ⟨d, h4, hc, hf⟩
theorem KSet.four {w : World} {p : Nat} (h : KSet w p) : ∃ S : W4, Wok S ∧ w.cell? ⟨p, 0, none⟩ = some (.int .u64 S.a) ∧ w.cell? ⟨p, 1, none⟩ = some (.int .u64 S.b) ∧ w.cell? ⟨p, 2, none⟩ = some (.int .u64 S.c) ∧ w.cell? ⟨p, 3, none⟩ = some (.int .u64 S.d) := by
  obtain ⟨a, b, c, d, h1, h2, h3, h4, h5⟩ := h
  exact ⟨⟨a, b, c, d⟩, ⟨h1, h2, h3, h4⟩, cell_of_row w p 0 _ _ (0, 0) h5, cell_of_row w p 1 _ _ (0, 0) h5, cell_of_row w p 2 _ _ (0, 0) h5, cell_of_row w p 3 _ _ (0, 0) h5⟩
theorem KSet.lt {w : World} {p : Nat} (h : KSet w p) : p < w.heap.size := by
  obtain ⟨a, b, c, d, h1, h2, h3, h4, h5⟩ := h
  exact (Array.getElem?_eq_some_iff.1 h5).1
theorem KSet.new (w : World) {a b c d : Int} (h1 : In64 a) (h2 : In64 b) (h3 : In64 c) (h4 : In64 d) : KSet (w.alloc (.cells #[.int .u64 a, .int .u64 b, .int .u64 c, .int .u64 d] 28)) w.heap.size := ⟨a, b, c, d, h1, h2, h3, h4, heap_alloc_new w _⟩
theorem pow_in64 {k : Nat} (h : k < 64) : In64 (2 ^ k) := by
  have h0 : 2 ^ k < 2 ^ 64 := Nat.pow_lt_pow_right (by omega) h
  have h3 : ((2 ^ k : Nat) : Int) = (2 : Int) ^ k := by rw [Int.natCast_pow]; rfl
  have h1 : (2 : Int) ^ k < 18446744073709551616 := by
    rw [← h3]
    exact Int.ofNat_lt.2 (show 2 ^ k < 18446744073709551616 from h0)
  have h2 : (0 : Int) ≤ 2 ^ k := by rw [← h3]; exact Int.natCast_nonneg _
  exact ⟨h2, h1⟩
theorem kxor {x : Int} (h : In64 x) : In64 (bits .xor .u64 IntKind.u64.max x) := by
  have e : bits .xor .u64 IntKind.u64.max x = ((18446744073709551615 ^^^ x.toNat : Nat) : Int) := by
    have := bits_xor_u64_nat 18446744073709551615 x.toNat (by omega) (by have := h.1; have := h.2; omega)
    rw [show ((x.toNat : Nat) : Int) = x by have := h.1; omega] at this
    exact this
  have hlt : 18446744073709551615 ^^^ x.toNat < 2 ^ 64 := Nat.xor_lt_two_pow (by decide) (by have := h.1; have := h.2; omega)
  rw [e]
  exact ⟨by omega, by omega⟩
theorem kconv (w : World) (c : Nat) (hc : c < 256) : (convert 42 9 (.slice (some ⟨w.heap.size, 0, none⟩) 1 1)).run Tryz.prog (w.alloc (.cells #[.int .u8 (c : Int)] 5)) = .ok (.string (bs [UInt8.ofNat c])) (w.alloc (.cells #[.int .u8 (c : Int)] 5)) := by
  refine run_convert_bytes_back _ _ _ 5 ⟨w.heap.size, 0, none⟩ 1 [UInt8.ofNat c] Tryz.underlying42 Tryz.underlying5 Tryz.underlying9 ?_
  intro j hj
  have : j = 0 := by simpa using hj
  subst this
  have hb8 : (UInt8.ofNat c).toNat = c := by simp [UInt8.toNat_ofNat']; omega
  simp only [List.getElem_cons_zero, hb8]
  exact World.cell?_alloc_new w #[.int .u8 (c : Nat)] 5 0

set_option maxRecDepth 100000 in
set_option maxHeartbeats 16000000 in
theorem kbytes_any (hR : KS 21) (hO : KS 22) (hS : KB 25) (hK : K0 24) : K0 9 := by
  intro w hE
  have HR := Lib.hid hR; have HO := Lib.hid hO; have HS := Lib.hid hS; have HK := Lib.hid hK; have HE := Lib.hid hE
  clear hR hO hS hK hE
  go_enter Tryz.func9, Tryz.ntmps9
  go_wp2_with fail
  go_loopg [1] 256 (fun n i wr => ∃ k : Nat, i = .int .i64 k ∧ k + n = 256 ∧ Below w.heap.size w wr ∧ KEnv wr)
  case atStart => exact ⟨0, rfl, rfl, Below.refl _ _, HE.out⟩
  case round =>
    obtain ⟨k, rfl, hk, hB, hE⟩ := hrel
    have HB := Lib.hid hB; have HE1 := Lib.hid hE; have Hk := Lib.hid hk
    clear hB hE hk
    by_cases hlt : k < 256
    · have hlti : (k : Int) < 256 := by omega
      have hw8 : (k : Int) % 256 = (k : Int) := by omega
      have hcv := kconv wr k hlt
      generalize UInt8.ofNat k = b at *
      go_upto_region 5 with fail
      generalize hW : wr.alloc _ = W1
      have hb1 : Below wr.heap.size wr W1 := by subst hW; exact (Below.refl _ _).alloc (Nat.le_refl _) _
      have HE2 := Lib.hid (HE1.out.step hb1); have HB2 := Lib.hid (HB.out.trans (hb1.mono HB.out.size))
      clear hW hb1 HE1 HB hcv
      have s0 : (bs [b]).size = 1 := ksize _
      have c1 : bs [92] ++ bs [b] = bs [92, b] := kcat _ _
      have c2 : bs [91] ++ bs [b] = bs [91, b] := kcat _ _
      have s2 : (bs [91, b]).size = 2 := ksize _
      have c3 : bs [91, b] ++ bs [93] = bs [91, b, 93] := kcat _ _
      have c4 : bs [91, 94] ++ bs [b] = bs [91, 94, b] := kcat _ _
      have s4 : (bs [91, 94, b]).size = 3 := ksize _
      have c5 : bs [91, 94, b] ++ bs [93] = bs [91, 94, b, 93] := kcat _ _
      have c6 : bs [91, b] ++ bs [45, 122, 93] = bs [91, b, 45, 122, 93] := kcat _ _
      have c7 : bs [91, 33, 45] ++ bs [b] = bs [91, 33, 45, b] := kcat _ _
      have s7 : (bs [91, 33, 45, b]).size = 4 := ksize _
      have c8 : bs [91, 33, 45, b] ++ bs [93] = bs [91, 33, 45, b, 93] := kcat _ _
      have c9 : bs [97] ++ bs [b] = bs [97, b] := kcat _ _
      have c10 : bs [b] ++ bs [42] = bs [b, 42] := kcat _ _
      have c11 : bs [40] ++ bs [b] = bs [40, b] := kcat _ _
      have s11 : (bs [40, b]).size = 2 := ksize _
      have c12 : bs [40, b] ++ bs [41] = bs [40, b, 41] := kcat _ _
      have c13 : bs [91, 91, 46] ++ bs [b] = bs [91, 91, 46, b] := kcat _ _
      have s13 : (bs [91, 91, 46, b]).size = 4 := ksize _
      have c14 : bs [91, 91, 46, b] ++ bs [46, 93, 120, 93] = bs [91, 91, 46, b, 46, 93, 120, 93] := kcat _ _
      have c15 : bs [91, 97] ++ bs [b] = bs [91, 97, b] := kcat _ _
      have s15 : (bs [91, 97, b]).size = 3 := ksize _
      have c16 : bs [91, 97, b] ++ bs [99, 93] = bs [91, 97, b, 99, 93] := kcat _ _
      have c17 : bs [97, 123, 49] ++ bs [b] = bs [97, 123, 49, b] := kcat _ _
      have s17 : (bs [97, 123, 49, b]).size = 4 := ksize _
      have c18 : bs [97, 123, 49, b] ++ bs [50, 125] = bs [97, 123, 49, b, 50, 125] := kcat _ _
      go_upto_region 6 with fail
      generalize hW : W1.alloc _ = W2
      obtain ⟨hS2, hb2⟩ := Strs.new (n := 12) hW rfl (by simp [isStr, ksize])
      have HS2 := Lib.hid hS2; have HE3 := Lib.hid (HE2.out.step hb2); have HB3 := Lib.hid (HB2.out.trans (hb2.mono HB2.out.size))
      clear hW hS2 hb2 HE2 HB2 s0 c1 c2 s2 c3 c4 s4 c5 c6 c7 s7 c8 c9 c10 c11 s11 c12 c13 s13 c14 c15 s15 c16 c17 s17 c18 hw8
      generalize W1.heap.size = g at *
      obtain ⟨G, hG⟩ : ∃ G, G = gk := ⟨_, rfl⟩
      subst hG
      go_loopg [49] 12 (fun n i wr => ∃ m : Nat, i = .int .i64 m ∧ m + n = 12 ∧ Below w.heap.size w wr ∧ Strs wr g 12 ∧ KEnv wr)
      case atStart => exact ⟨0, rfl, rfl, HB3.out, HS2.out, HE3.out⟩
      case round =>
        clear HB3 HS2 HE3
        obtain ⟨m, rfl, hm, hB, hS, hE⟩ := hrel
        have HB := Lib.hid hB; have HSt := Lib.hid hS; have HE1 := Lib.hid hE; have Hm := Lib.hid hm
        clear hB hS hE hm
        by_cases hlm : m < 12
        · obtain ⟨s, hs, hc⟩ := HSt.out.2 m hlm
          have hz := HSt.out.1
          have hlmi : (m : Int) < 12 := by omega
          go_wp2_with fail
          refine (HR.out wr HE1.out s (by omega)).mono ?_
          rintro e w1 ⟨rfl, hb1⟩
          have HE2 := Lib.hid (HE1.out.step hb1); have HB2 := Lib.hid (HB.out.trans (hb1.mono HB.out.size)); have HS2 := Lib.hid (HSt.out.later hb1)
          clear hb1 HB HSt HE1 hc hz
          go_wp2_with fail
          refine (HO.out w1 HE2.out s (by omega)).mono ?_
          rintro e w2 ⟨rfl, hb2⟩
          have HE3 := Lib.hid (HE2.out.step hb2); have HB3 := Lib.hid (HB2.out.trans (hb2.mono HB2.out.size)); have HS3 := Lib.hid (HS2.out.later hb2)
          clear hb2 HB2 HS2 HE2
          go_wp2_with fail
          have hm := Hm.out
          go_roundg (gk - 1)
          case measure => omega
          case rel => exact ⟨m + 1, by go_num, by omega, HB3.out, HS3.out, HE3.out⟩
        · have hm' : (12 : Int) ≤ (m : Int) := by omega
          clear HSt
          go_upto_region 12 with fail
          generalize hW : wr.alloc _ = W3
          have hb3 : Below wr.heap.size wr W3 := by subst hW; exact (Below.refl _ _).alloc (Nat.le_refl _) _
          have hX3 : KSet W3 wr.heap.size := by subst hW; exact KSet.new wr ⟨by omega, by omega⟩ ⟨by omega, by omega⟩ ⟨by omega, by omega⟩ ⟨by omega, by omega⟩
          have hpw : w.heap.size ≤ wr.heap.size := HB.out.size
          have HE3 := Lib.hid (HE1.out.step hb3); have HB3 := Lib.hid (HB.out.trans (hb3.mono HB.out.size)); have HX3 := Lib.hid hX3
          clear hW hb3 hX3 HE1 HB Hm hm' hlm
          generalize wr.heap.size = px at *
          have hq : (k : Int).tdiv 64 = ((k / 64 : Nat) : Int) := by rw [Int.tdiv_eq_ediv_of_nonneg (by omega)]; omega
          have hr : (k : Int).tmod 64 = ((k % 64 : Nat) : Int) := by rw [Int.tmod_eq_emod_of_nonneg (by omega)]; omega
          have hi0 : k / 64 < 4 := by omega
          have hr0 : k % 64 < 64 := by omega
          have hq1 : ((k : Int) + 1).tmod 256 = (((k + 1) % 256 : Nat) : Int) := by rw [Int.tmod_eq_emod_of_nonneg (by omega)]; omega
          have hq2 : ((((k + 1) % 256 : Nat)) : Int).tdiv 64 = (((k + 1) % 256 / 64 : Nat) : Int) := by rw [Int.tdiv_eq_ediv_of_nonneg (by omega)]; omega
          have hi1 : (k + 1) % 256 / 64 < 4 := by omega
          have hq3 : ((k : Int) + 1).tmod 64 = (((k + 1) % 64 : Nat) : Int) := by rw [Int.tmod_eq_emod_of_nonneg (by omega)]; omega
          have hr1 : (k + 1) % 64 < 64 := by omega
          have hq4 : ((k : Int) + 2).tmod 256 = (((k + 2) % 256 : Nat) : Int) := by rw [Int.tmod_eq_emod_of_nonneg (by omega)]; omega
          have hq5 : ((((k + 2) % 256 : Nat)) : Int).tdiv 64 = (((k + 2) % 256 / 64 : Nat) : Int) := by rw [Int.tdiv_eq_ediv_of_nonneg (by omega)]; omega
          have hi2 : (k + 2) % 256 / 64 < 4 := by omega
          have hq6 : ((k : Int) + 2).tmod 64 = (((k + 2) % 64 : Nat) : Int) := by rw [Int.tmod_eq_emod_of_nonneg (by omega)]; omega
          have hr2 : (k + 2) % 64 < 64 := by omega
          generalize (k + 1) % 256 / 64 = i1 at *
          generalize (k + 2) % 256 / 64 = i2 at *
          generalize (k + 1) % 256 = m1 at *
          generalize (k + 2) % 256 = m2 at *
          generalize (k + 1) % 64 = r1 at *
          generalize (k + 2) % 64 = r2 at *
          generalize k / 64 = i0 at *
          generalize k % 64 = r0 at *
          obtain ⟨x0, hx0, y0, z0⟩ := HX3.out.word hi0
          have hw0 := wrap_pow r0 hr0; have hw1 := wrap_pow r1 hr1; have hw2 := wrap_pow r2 hr2
          have hp0 := pow_in64 hr0; have hp1 := pow_in64 hr1; have hp2 := pow_in64 hr2
          have Hp0 := Lib.hid hp0; have Hp1 := Lib.hid hp1; have Hp2 := Lib.hid hp2
          have hlx := HX3.out.lt
          clear hp0 hp1 hp2
          go_upto_region 13 with fail
          generalize hW : W3.setCell _ _ = W4
          have hX4 : KSet W4 px := by rw [← hW]; exact HX3.out.put hi0 Hp0.out
          have hB4 : Below w.heap.size w W4 := by rw [← hW]; exact HB3.out.setCell (p := ⟨px, i0, none⟩) hpw _
          have HX4 := Lib.hid hX4; have HB4 := Lib.hid hB4
          clear hW hX4 hB4 HX3 HB3 HE3 y0 z0 hlx
          obtain ⟨S, hS, y0, y1, y2, y3⟩ := HX4.out.four
          have hlx := HX4.out.lt
          go_upto_region 14 with fail
          generalize hW : W4.alloc _ = W5
          have hb5 : Below W4.heap.size W4 W5 := by subst hW; exact (Below.refl _ _).alloc (Nat.le_refl _) _
          have hY5 : KSet W5 W4.heap.size := by subst hW; exact KSet.new W4 hS.a hS.b hS.c hS.d
          have HX5 := Lib.hid (HX4.out.later hb5); have HB5 := Lib.hid (HB4.out.trans (hb5.mono HB4.out.size)); have HY5 := Lib.hid hY5
          have hpy : w.heap.size ≤ W4.heap.size := HB4.out.size
          have hne : px ≠ W4.heap.size := by omega
          clear hW hb5 hY5 HX4 HB4 y0 y1 y2 y3 hS hlx
          generalize W4.heap.size = py at *
          obtain ⟨x1, hx1, y1, z1⟩ := HY5.out.word hi1
          have hly := HY5.out.lt
          have hoin := orI_in hx1 Hp1.out
          unfold orI at hoin
          have Hoin := Lib.hid hoin
          clear hoin
          go_wp2_with fail
          go_region
          generalize hW : World.drew _ = W6
          have hY6 : KSet W6 py := by rw [← hW]; exact (HY5.out.put hi1 Hoin.out).keep rfl
          have hX6 : KSet W6 px := by rw [← hW]; exact HX5.out.keep (Below.heap_setCell _ _ _ _ (by simpa using hne))
          have hB6 : Below w.heap.size w W6 := by rw [← hW]; exact (HB5.out.setCell (p := ⟨py, i1, none⟩) hpy _).drew
          have HX6 := Lib.hid hX6; have HY6 := Lib.hid hY6; have HB6 := Lib.hid hB6
          clear hW hX6 hY6 hB6 HX5 HB5 HY5 y1 z1 hly hx1 Hoin
          obtain ⟨S2, hS2, y0, y1, y2, y3⟩ := HY6.out.four
          have hly := HY6.out.lt
          go_upto_region 16 with fail
          generalize hW : W6.alloc _ = W7
          have hb7 : Below W6.heap.size W6 W7 := by subst hW; exact (Below.refl _ _).alloc (Nat.le_refl _) _
          have hZ7 : KSet W7 W6.heap.size := by subst hW; exact KSet.new W6 hS2.a hS2.b hS2.c hS2.d
          have HX7 := Lib.hid (HX6.out.later hb7); have HY7 := Lib.hid (HY6.out.later hb7); have HB7 := Lib.hid (HB6.out.trans (hb7.mono HB6.out.size)); have HZ7 := Lib.hid hZ7
          have hpz : w.heap.size ≤ W6.heap.size := HB6.out.size
          have hne2 : px ≠ W6.heap.size := by have := HX6.out.lt; omega
          have hne3 : py ≠ W6.heap.size := by omega
          clear hW hb7 hZ7 HX6 HB6 HY6 y0 y1 y2 y3 hS2 hly
          generalize W6.heap.size = pz at *
          obtain ⟨x2, hx2, y2, z2⟩ := HZ7.out.word hi2
          have hlz := HZ7.out.lt
          have hoin := orI_in hx2 Hp2.out
          unfold orI at hoin
          have Hoin := Lib.hid hoin
          clear hoin
          go_wp2_with fail
          go_region
          generalize hW : World.drew _ = W8
          have hZ8 : KSet W8 pz := by rw [← hW]; exact (HZ7.out.put hi2 Hoin.out).keep rfl
          have hX8 : KSet W8 px := by rw [← hW]; exact HX7.out.keep (Below.heap_setCell _ _ _ _ (by simpa using hne2))
          have hY8 : KSet W8 py := by rw [← hW]; exact HY7.out.keep (Below.heap_setCell _ _ _ _ (by simpa using hne3))
          have hB8 : Below w.heap.size w W8 := by rw [← hW]; exact (HB7.out.setCell (p := ⟨pz, i2, none⟩) hpz _).drew
          have HX8 := Lib.hid hX8; have HY8 := Lib.hid hY8; have HB8 := Lib.hid hB8; have HZ8 := Lib.hid hZ8
          clear hW hX8 hY8 hB8 hZ8 HX7 HB7 HY7 HZ7 y2 z2 hlz hx2 Hoin hw0 hw1 hw2 hq1 hq2 hq3 hq4 hq5 hq6 hq hr Hp0 Hp1 Hp2
          obtain ⟨Sx, hSx, f0, f1, f2, f3⟩ := HX8.out.four
          go_wp2_with fail
          refine (HS.out W8 (HE.out.step HB8.out) Sx hSx).mono ?_
          rintro e w1 ⟨rfl, hb1⟩
          have HB1 := Lib.hid (HB8.out.trans (hb1.mono HB8.out.size)); have HY1 := Lib.hid (HY8.out.later hb1); have HZ1 := Lib.hid (HZ8.out.later hb1)
          clear hb1 HB8 HX8 HY8 HZ8 f0 f1 f2 f3 hSx
          obtain ⟨Sy, hSy, f0, f1, f2, f3⟩ := HY1.out.four
          go_wp2_with fail
          refine (HS.out w1 (HE.out.step HB1.out) Sy hSy).mono ?_
          rintro e w2 ⟨rfl, hb2⟩
          have HB2 := Lib.hid (HB1.out.trans (hb2.mono HB1.out.size)); have HZ2 := Lib.hid (HZ1.out.later hb2)
          clear hb2 HB1 HY1 HZ1 f0 f1 f2 f3 hSy
          obtain ⟨Sz, hSz, f0, f1, f2, f3⟩ := HZ2.out.four
          go_wp2_with fail
          refine (HS.out w2 (HE.out.step HB2.out) Sz hSz).mono ?_
          rintro e w3 ⟨rfl, hb3⟩
          have HB3 := Lib.hid (HB2.out.trans (hb3.mono HB2.out.size)); have HZ3 := Lib.hid (HZ2.out.later hb3)
          clear hb3 HB2 HZ2 f0 f1 f2 f3 hSz
          obtain ⟨Sz, hSz, f0, f1, f2, f3⟩ := HZ3.out.four
          have hlz := HZ3.out.lt
          have Hn := Lib.hid (show Wok ⟨bits .xor .u64 IntKind.u64.max Sz.a, bits .xor .u64 IntKind.u64.max Sz.b, bits .xor .u64 IntKind.u64.max Sz.c, bits .xor .u64 IntKind.u64.max Sz.d⟩ from ⟨kxor hSz.a, kxor hSz.b, kxor hSz.c, kxor hSz.d⟩)
          clear hSz
          go_wp2_with fail
          refine (HS.out w3 (HE.out.step HB3.out) _ Hn.out).mono ?_
          rintro e w4 ⟨rfl, hb4⟩
          have HB4 := Lib.hid (HB3.out.trans (hb4.mono HB3.out.size))
          clear hb4 HB3 HZ3 f0 f1 f2 f3
          go_wp2_with fail
          have hk := Hk.out
          go_roundg (G - 1)
          case measure => omega
          case rel => exact ⟨k + 1, by go_num, by omega, HB4.out, HE.out.step HB4.out⟩
    · have hk' : (256 : Int) ≤ (k : Int) := by omega
      go_wp2_with fail
      refine (HS.out wr HE1.out w40 wok0).mono ?_
      rintro e w1 ⟨rfl, hb1⟩
      have HE2 := Lib.hid (HE1.out.step hb1); have HB2 := Lib.hid (HB.out.trans (hb1.mono HB.out.size))
      clear hb1 HE1 HB
      go_wp2_with fail
      refine (HK.out w1 HE2.out).mono ?_
      rintro e w2 ⟨rfl, hb2⟩
      go_wp2_with fail
      go_ret
      exact ⟨rfl, HB2.out.trans (hb2.mono HB2.out.size)⟩
end Go.Proofs.YthlakbjnmbddaaaGreatDoor

/- Rows and towers that grow in boxes. Plain. -/
set_option linter.unusedVariables false
set_option linter.unusedSimpArgs false
namespace Go.Proofs.YthlakbjnmbddaaaGreatDoor
open Go.RowKit

def lfT (k : Int) : T := .mk k 0 0 0 0 0 0 []
abbrev lfX (k : Int) : Nx := (lfT k, none, 0)
theorem lf_words (k : Int) : Words (lfT k) := .mk _ wok0 (fun p hp => by cases hp)
abbrev krowT (kd : Int) (ns : List Nx) : T := .mk kd 0 0 0 0 0 0 (ns.map fun x : Nx => x.1)
/-- A row of leaves that grows in a box. -/
structure KRow (w : World) (B R : Nat) (kd lf : Int) (ns : List Nx) (A : Option Addr) (c : Nat) : Prop where
  blk : BlkX w R #[.int .i64 kd, .int .u64 0, .int .u64 0, .int .u64 0, .int .u64 0, .int .i64 0, .int .i64 0, .slice A ns.length c]
  own : w.ownsRow B 48 8 (.slice A ns.length c) ns.length (xcells ns)
  leaf : ∀ x ∈ ns, x = lfX lf
  ne : (Value.slice A ns.length c).ownBlock ≠ some R
  ge : B ≤ R
theorem KRow.frame {w w' : World} {B R : Nat} {kd lf : Int} {ns : List Nx} {A : Option Addr} {c : Nat} (h : KRow w B R kd lf ns A c) (hR : w'.heap[R]? = w.heap[R]?) (hA : ∀ g, (Value.slice A ns.length c).ownBlock = some g → w'.heap[g]? = w.heap[g]?) : KRow w' B R kd lf ns A c := by
  refine ⟨h.blk.keep hR, ⟨h.own.1, ?_⟩, h.leaf, h.ne, h.ge⟩
  rcases h.own.2 with hn | ⟨g, cap, cur, e, hb, hh, hcap, hcm, hcs, htk⟩
  · exact .inl hn
  · exact .inr ⟨g, cap, cur, e, hb, (hA g (by rw [e]; rfl)).trans hh, hcap, hcm, hcs, htk⟩
theorem KRow.later {w w' : World} {B R : Nat} {kd lf : Int} {ns : List Nx} {A : Option Addr} {c : Nat} (h : KRow w B R kd lf ns A c) (hb : Below w.heap.size w w') : KRow w' B R kd lf ns A c :=
  h.frame (hb.block R h.blk.lt) (fun g hg => hb.block g (h.own.lt g hg).2)
/-- One leaf more. -/
theorem KRow.push {w w1 w5 : World} {B R : Nat} {kd lf : Int} {ns : List Nx} {A A5 : Option Addr} {c c5 : Nat} (h : KRow w B R kd lf ns A c) (h1 : Below w.heap.size w w1)
    (ho : w5.ownsRow B 48 8 (.slice A5 (ns.length + 1) c5) (ns.length + 1) (xcells ns ++ xcell (lfX lf))) (hg : w1.grownBy w5 (Value.slice A ns.length c).ownBlock)
    (hat : (Value.slice A5 (ns.length + 1) c5).ownBlock = (Value.slice A ns.length c).ownBlock ∨ (Value.slice A5 (ns.length + 1) c5).ownBlock = some w1.heap.size) :
    KRow (w5.setCell ⟨R, 7, none⟩ (.slice A5 (ns.length + 1) c5)) B R kd lf (ns ++ [lfX lf]) A5 c5 ∧
      (∀ b, b < w.heap.size → b ≠ R → some b ≠ (Value.slice A ns.length c).ownBlock → (w5.setCell ⟨R, 7, none⟩ (.slice A5 (ns.length + 1) c5)).heap[b]? = w.heap[b]?) ∧
      ((Value.slice A5 (ns ++ [lfX lf]).length c5).ownBlock = (Value.slice A ns.length c).ownBlock ∨ ∃ g, (Value.slice A5 (ns ++ [lfX lf]).length c5).ownBlock = some g ∧ w.heap.size ≤ g) ∧
      Below B w (w5.setCell ⟨R, 7, none⟩ (.slice A5 (ns.length + 1) c5)) := by
  have hlt := h.blk.lt
  have hR : R < w1.heap.size := Nat.lt_of_lt_of_le hlt h1.size
  have hb : BlkX w5 R #[.int .i64 kd, .int .u64 0, .int .u64 0, .int .u64 0, .int .u64 0, .int .i64 0, .int .i64 0, .slice A ns.length c] :=
    h.blk.keep ((hg.block R hR (fun e => h.ne e.symm)).trans (h1.block R hlt))
  have hne5 : (Value.slice A5 (ns.length + 1) c5).ownBlock ≠ some R := by
    rcases hat with e | e
    · rw [e]; exact h.ne
    · rw [e]; intro e'; simp only [Option.some.injEq] at e'; omega
  refine ⟨⟨?_, ?_, fun x hx => ?_, ?_, h.ge⟩, fun b hb1 hbR hbA => ?_, ?_, ?_⟩
  · have := hb.set 7 (.slice A5 (ns.length + 1) c5)
    rw [List.length_append]
    exact this
  · have := ho.kept (row := some R) (w' := w5.setCell ⟨R, 7, none⟩ (.slice A5 (ns.length + 1) c5)) ⟨rfl, rfl, rfl, by simp, fun k _ hk => Below.heap_setCell _ _ _ _ (fun e => hk (by rw [e]))⟩ (Or.inr hne5)
    rw [List.length_append, show xcells (ns ++ [lfX lf]) = xcells ns ++ xcell (lfX lf) by simp [xcells]]
    exact this
  · rcases List.mem_append.1 hx with hx | hx
    · exact h.leaf x hx
    · simpa using hx
  · rw [List.length_append]; exact hne5
  · exact (Below.heap_setCell _ _ _ _ (by simpa using hbR)).trans ((hg.block b (Nat.lt_of_lt_of_le hb1 h1.size) hbA).trans (h1.block b hb1))
  · rw [List.length_append]
    rcases hat with e | e
    · exact .inl e
    · exact .inr ⟨_, e, h1.size⟩
  · have hBw : B ≤ w.heap.size := Nat.le_trans h.ge (Nat.le_of_lt hlt)
    exact ((h1.mono hBw).grown hg (Nat.le_trans hBw h1.size) (fun k hk => (h.own.lt k hk).1)).setCell (p := ⟨R, 7, none⟩) h.ge _
theorem KRow.words {w : World} {B R : Nat} {kd lf : Int} {ns : List Nx} {A : Option Addr} {c : Nat} (h : KRow w B R kd lf ns A c) : Words (krowT kd ns) :=
  .mk _ wok0 (fun p hp => by
    obtain ⟨x, hx, rfl⟩ := List.mem_map.1 hp
    rw [h.leaf x hx]
    exact lf_words lf)
/-- The row as a tree. -/
theorem KRow.node {w : World} {B R : Nat} {kd lf : Int} {ns : List Nx} {A : Option Addr} {c : Nat} (h : KRow w B R kd lf ns A c) (hn2 : ns.length ≤ 17592186044416) : OwnX w (krowT kd ns, A, c) := by
  rcases h.own.2 with ⟨e, h0⟩ | ⟨g, cap, cur, e, hb, hh, hcap, _⟩
  · simp only [Value.slice.injEq] at e
    obtain ⟨rfl, e2, rfl⟩ := e
    have : ns = [] := List.eq_nil_of_length_eq_zero e2
    subst this
    exact nodeAt_leafX w _ _ rfl
  · simp only [Value.slice.injEq] at e
    obtain ⟨rfl, _, rfl⟩ := e
    have hg : g < w.heap.size := (Array.getElem?_eq_some_iff.1 hh).1
    have h8 : ∀ (i : Nat) (x : Nx), ns[i]? = some x → At8 w g (i * 8) x.1 x.2.1 x.2.2 := fun i x hi => .ofX fun j hj => by
      have hl := (List.getElem?_eq_some_iff.1 hi).1
      have hx : ns[i] = x := (List.getElem?_eq_some_iff.1 hi).2
      rw [h.own.cellAt (i * 8 + j) (by omega), xcells_get ns i j hl hj, hx]
    have hm := node_litX (W := w) (ok := fun b => b < w.heap.size) (g := g) (krowT kd ns) ns rfl hn2 hg h8 (fun i x hi => by
      rw [h.leaf x (List.mem_of_getElem? hi)]
      exact nodeAt_leafX w _ _ rfl)
    exact hm.widerX (by show (ns.map _).length ≤ _; rw [List.length_map]; exact hcap)
theorem KRow.new (w : World) {B : Nat} (hB : B ≤ w.heap.size) (kd lf : Int) : KRow (w.alloc (.cells #[.int .i64 kd, .int .u64 0, .int .u64 0, .int .u64 0, .int .u64 0, .int .i64 0, .int .i64 0, .slice none 0 0] 48)) B w.heap.size kd lf [] none 0 :=
  ⟨BlkX.new w _, World.ownsRow_nil _ _ _ _, fun x hx => (by cases hx), by simp [Value.ownBlock], hB⟩
/-- A tree in a box that is written over and over: what it reads is elsewhere. -/
structure KTow (w : World) (D : Nat) (no : Nat → Prop) (x : Nx) : Prop where
  blk : BlkX w D (xcell x).toArray
  node : NodeAt w (fun b => b < w.heap.size ∧ b ≠ D ∧ ¬ no b) x.1 x.2.1 x.2.2
  words : Words x.1
theorem KTow.frame {w w' : World} {D : Nat} {no no' : Nat → Prop} {x : Nx} (h : KTow w D no x) (hs : w.heap.size ≤ w'.heap.size) (hD : w'.heap[D]? = w.heap[D]?) (hk : ∀ b, b < w.heap.size → b ≠ D → ¬ no b → ¬ no' b ∧ w'.heap[b]? = w.heap[b]?) : KTow w' D no' x :=
  ⟨h.blk.keep hD, h.node.mono fun b hb => ⟨⟨Nat.lt_of_lt_of_le hb.1 hs, hb.2.1, (hk b hb.1 hb.2.1 hb.2.2).1⟩, fun o => World.cell?_of_block (w := w) (a := ⟨b, o, none⟩) (hk b hb.1 hb.2.1 hb.2.2).2⟩, h.words⟩
theorem KTow.later {w w' : World} {D : Nat} {no : Nat → Prop} {x : Nx} (h : KTow w D no x) (hb : Below w.heap.size w w') : KTow w' D no x :=
  h.frame hb.size (hb.block D h.blk.lt) (fun b h1 _ h3 => ⟨h3, hb.block b h1⟩)
theorem KTow.own {w : World} {D : Nat} {no : Nat → Prop} {x : Nx} (h : KTow w D no x) : OwnX w x := h.node.mono fun b hb => ⟨hb.1, fun _ => rfl⟩
theorem KTow.new (w : World) (k : Int) (no : Nat → Prop) : KTow (w.alloc (.cells (xcell (lfX k)).toArray 48)) w.heap.size no (lfX k) :=
  ⟨BlkX.new w _, nodeAt_leafX _ _ _ rfl, lf_words k⟩
/-- The same, the box written first. -/
theorem KTow.wrap2 {w : World} {D : Nat} {no : Nat → Prop} {x : Nx} (h : KTow w D no x) (L : List Nx) (hno : ¬ no w.heap.size) (hl : L.length ≤ 1000) (hL : ∀ y ∈ L, y = x ∨ ∃ k, y = lfX k)
    (R : T) (hps : R.ps = L.map (·.1)) (hw : Wok R.w4) : KTow ((writeX w D (R, some ⟨w.heap.size, 0, none⟩, L.length)).alloc (.cells (xcells L).toArray 48)) D no (R, some ⟨w.heap.size, 0, none⟩, L.length) := by
  obtain ⟨W1, h1⟩ : ∃ W1, W1 = writeX w D (R, some ⟨w.heap.size, 0, none⟩, L.length) := ⟨_, rfl⟩
  obtain ⟨W, hW⟩ : ∃ W, W = W1.alloc (.cells (xcells L).toArray 48) := ⟨_, rfl⟩
  have hs : W1.heap.size = w.heap.size := by rw [h1, writeX_size]
  have hb : Below W1.heap.size W1 W := by subst hW; exact (Below.refl _ _).alloc (Nat.le_refl _) _
  have hz : w.heap.size < W.heap.size := by subst hW; simp [hs]
  have hlt := h.blk.lt
  have ho : ∀ k, k ≠ D → W1.heap[k]? = w.heap[k]? := fun k hk => by rw [h1]; exact writeX_other _ _ _ _ hk
  have h8 := at8_litX L hW
  rw [hs] at h8
  have hN := node_litX (W := W) (ok := fun b => b < W.heap.size ∧ b ≠ D ∧ ¬ no b) (g := w.heap.size) R L hps (by omega) ⟨hz, by omega, hno⟩ h8 (fun i y hi => by
    rcases hL y (List.mem_of_getElem? hi) with rfl | ⟨k, rfl⟩
    · exact h.node.mono fun b hb2 => ⟨⟨by omega, hb2.2⟩, fun o => World.cell?_of_block (w := w) (a := ⟨b, o, none⟩) ((hb.block b (by rw [hs]; exact hb2.1)).trans (ho b hb2.2.1))⟩
    · exact nodeAt_leafX _ _ _ rfl)
  have hbk : BlkX W D (xcell (R, some ⟨w.heap.size, 0, none⟩, L.length)).toArray := by
    have := writeX_blk h.blk (R, some ⟨w.heap.size, 0, none⟩, L.length)
    rw [← h1] at this
    exact this.keep (hb.block D (by rw [hs]; exact hlt))
  rw [← h1, ← hW]
  refine ⟨hbk, hN, .mk _ hw (fun p hp => ?_)⟩
  rw [hps] at hp
  obtain ⟨y, hy, rfl⟩ := List.mem_map.1 hp
  rcases hL y hy with rfl | ⟨k, rfl⟩
  · exact h.words
  · exact lf_words k
/-- A box written with a node over a new block; whatever stood in it. -/
theorem KTow.put {w : World} {D : Nat} {no : Nat → Prop} {x : Nx} (h : KTow w D no x) (L : List Nx) (hno : ¬ no w.heap.size) (hl : L.length ≤ 1000) (hL : ∀ y ∈ L, NodeAt w (fun b => b < w.heap.size ∧ b ≠ D ∧ ¬ no b) y.1 y.2.1 y.2.2 ∧ Words y.1)
    (R : T) (hps : R.ps = L.map (·.1)) (hw : Wok R.w4) : KTow ((writeX w D (R, some ⟨w.heap.size, 0, none⟩, L.length)).alloc (.cells (xcells L).toArray 48)) D no (R, some ⟨w.heap.size, 0, none⟩, L.length) := by
  obtain ⟨W1, h1⟩ : ∃ W1, W1 = writeX w D (R, some ⟨w.heap.size, 0, none⟩, L.length) := ⟨_, rfl⟩
  obtain ⟨W, hW⟩ : ∃ W, W = W1.alloc (.cells (xcells L).toArray 48) := ⟨_, rfl⟩
  have hs : W1.heap.size = w.heap.size := by rw [h1, writeX_size]
  have hb : Below W1.heap.size W1 W := by subst hW; exact (Below.refl _ _).alloc (Nat.le_refl _) _
  have hz : w.heap.size < W.heap.size := by subst hW; simp [hs]
  have hlt := h.blk.lt
  have ho : ∀ k, k ≠ D → W1.heap[k]? = w.heap[k]? := fun k hk => by rw [h1]; exact writeX_other _ _ _ _ hk
  have h8 := at8_litX L hW
  rw [hs] at h8
  have hN := node_litX (W := W) (ok := fun b => b < W.heap.size ∧ b ≠ D ∧ ¬ no b) (g := w.heap.size) R L hps (by omega) ⟨hz, by omega, hno⟩ h8 (fun i y hi =>
    (hL y (List.mem_of_getElem? hi)).1.mono fun b hb2 => ⟨⟨by omega, hb2.2⟩, fun o => World.cell?_of_block (w := w) (a := ⟨b, o, none⟩) ((hb.block b (by rw [hs]; exact hb2.1)).trans (ho b hb2.2.1))⟩)
  have hbk : BlkX W D (xcell (R, some ⟨w.heap.size, 0, none⟩, L.length)).toArray := by
    have := writeX_blk h.blk (R, some ⟨w.heap.size, 0, none⟩, L.length)
    rw [← h1] at this
    exact this.keep (hb.block D (by rw [hs]; exact hlt))
  rw [← h1, ← hW]
  refine ⟨hbk, hN, .mk _ hw (fun p hp => ?_)⟩
  rw [hps] at hp
  obtain ⟨y, hy, rfl⟩ := List.mem_map.1 hp
  exact (hL y hy).2
/-- A law's call at a row. -/
theorem KRow.law {f : Nat} (hf : KN f) {w w' : World} {B R : Nat} {kd lf : Int} {ns : List Nx} {A : Option Addr} {c : Nat} (h : KRow w B R kd lf ns A c) (he : KEnv w') (hb : Below w.heap.size w w') (hn2 : ns.length ≤ 17592186044416) :
    Calls Tryz.prog f #[.agg #[.int .i64 kd, .int .u64 0, .int .u64 0, .int .u64 0, .int .u64 0, .int .i64 0, .int .i64 0, .slice A ns.length c]] w' fun e w'' => KTrue w' e w'' := by
  have h2 := hf w' he (krowT kd ns, A, c) ((h.node hn2).later hb) h.words
  simpa only [nodeV, krowT, T.k, T.s0, T.s1, T.s2, T.s3, T.mn, T.mx, T.ps, List.length_map] using h2
theorem KRow.cells {w : World} {B R : Nat} {kd lf : Int} {ns : List Nx} {A : Option Addr} {c : Nat} (h : KRow w B R kd lf ns A c) : w.cell? ⟨R, 0, none⟩ = some (.int .i64 kd) ∧ w.cell? ⟨R, 1, none⟩ = some (.int .u64 0) ∧ w.cell? ⟨R, 2, none⟩ = some (.int .u64 0) ∧ w.cell? ⟨R, 3, none⟩ = some (.int .u64 0) ∧ w.cell? ⟨R, 4, none⟩ = some (.int .u64 0) ∧ w.cell? ⟨R, 5, none⟩ = some (.int .i64 0) ∧ w.cell? ⟨R, 6, none⟩ = some (.int .i64 0) ∧ w.cell? ⟨R, 7, none⟩ = some (.slice A ns.length c) :=
  ⟨h.blk.cell 0, h.blk.cell 1, h.blk.cell 2, h.blk.cell 3, h.blk.cell 4, h.blk.cell 5, h.blk.cell 6, h.blk.cell 7⟩
/-- Numbers at a block. -/
def Ints (w : World) (g n : Nat) : Prop := g < w.heap.size ∧ ∀ i, i < n → ∃ v : Nat, v ≤ 3000 ∧ w.cell? ⟨g, i, none⟩ = some (.int .i64 v)
theorem Ints.later {w w' : World} {g n : Nat} (h : Ints w g n) (hb : Below w.heap.size w w') : Ints w' g n :=
  ⟨Nat.lt_of_lt_of_le h.1 hb.size, fun i hi => by obtain ⟨s, h1, h2⟩ := h.2 i hi; exact ⟨s, h1, (hb.cell (p := ⟨g, i, none⟩) h.1).trans h2⟩⟩
theorem Ints.keep {w w' : World} {g n R : Nat} (h : Ints w g n) (hg : g < R) (hb : Below R w w') : Ints w' g n :=
  ⟨Nat.lt_of_lt_of_le h.1 hb.size, fun i hi => by obtain ⟨s, h1, h2⟩ := h.2 i hi; exact ⟨s, h1, (hb.cell (p := ⟨g, i, none⟩) hg).trans h2⟩⟩
theorem Ints.lit {w W : World} (L : List Nat) {e : TypeId} (hW : w.alloc (.cells (L.map fun z => Value.int .i64 (z : Nat)).toArray e) = W) (hl : ∀ z ∈ L, z ≤ 3000) : Ints W w.heap.size L.length ∧ Below w.heap.size w W := by
  subst hW
  exact ⟨⟨by simp, fun i hi => ⟨L[i], hl _ (List.getElem_mem hi), by rw [World.cell?_alloc_new, List.getElem?_toArray, List.getElem?_map, List.getElem?_eq_getElem hi]; rfl⟩⟩, (Below.refl _ _).alloc (Nat.le_refl _) _⟩
theorem Strs.lit {w W : World} (L : List Bs) {e : TypeId} (hW : w.alloc (.cells (L.map fun z => Value.string (bs z)).toArray e) = W) (hl : ∀ z ∈ L, z.length ≤ 100000) : Strs W w.heap.size L.length ∧ Below w.heap.size w W := by
  subst hW
  exact ⟨⟨by simp, fun i hi => ⟨L[i], hl _ (List.getElem_mem hi), by rw [World.cell?_alloc_new, List.getElem?_toArray, List.getElem?_map, List.getElem?_eq_getElem hi]; rfl⟩⟩, (Below.refl _ _).alloc (Nat.le_refl _) _⟩
end Go.Proofs.YthlakbjnmbddaaaGreatDoor

/- vouchlaw10.times: walked. -/
set_option linter.unusedVariables false
set_option linter.unusedSimpArgs false
namespace Go.Proofs.YthlakbjnmbddaaaGreatDoor
open Go.RowKit

/-- Some text no longer than so much. -/
def KText (n : Nat) (w : World) (e : Ending) (w' : World) : Prop := (∃ s : Bs, e = .returned (.string (bs s)) ∧ s.length ≤ n) ∧ w' = w
set_option maxRecDepth 100000 in
set_option maxHeartbeats 1000000 in
theorem ktimes_any (w : World) (x : Bs) (hx : x.length ≤ 5) (n : Nat) (hn : n ≤ 2000) :
    Calls Tryz.prog 26 #[.string (bs x), .int .i64 (n : Int)] w fun e w' => KText 10000 w e w' := by
  have s0 : (bs x).size = x.length := ksize _
  go_enter Tryz.func26, Tryz.ntmps26
  go_wp2_with fail
  go_loopg [5, 6] n (fun m b i wr => ∃ (k : Nat) (y : Bs), i = .int .i64 k ∧ b = .string (bs y) ∧ k + m = n ∧ y.length ≤ 5 * k ∧ w = wr)
  case atStart => exact ⟨0, [], rfl, rfl, by omega, by simp, rfl⟩
  case round =>
    obtain ⟨k, y, rfl, rfl, hk, hy, rfl⟩ := hrel
    have Hk := Lib.hid hk
    clear hk
    have s1 : (bs y).size = y.length := ksize _
    have c1 : bs y ++ bs x = bs (y ++ x) := kcat _ _
    by_cases hlt : k < n
    · go_wp2_with fail
      have hk := Hk.out
      go_roundg (gk - 1)
      case measure => omega
      case rel => exact ⟨k + 1, y ++ x, by go_num, rfl, by omega, by rw [List.length_append]; omega, rfl⟩
    · have hle : (n : Int) ≤ (k : Int) := by omega
      have hyl : y.length ≤ 10000 := by have := Hk.out; omega
      go_wp2_with fail
      exact bodyPost_ret (v := .string (bs y)) (by simp [results, Tryz.results26, go_sem]) rfl ⟨⟨y, rfl, hyl⟩, rfl⟩
end Go.Proofs.YthlakbjnmbddaaaGreatDoor

