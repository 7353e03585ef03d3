/- Patterns read, plain: what a text reads as, or what is wrong with it. -/
import Derived.Test.YtdpmbanfaigmcaaVT
import Derived.Laws.Entries
set_option linter.unusedVariables false
set_option linter.unusedSimpArgs false
namespace Go.Proofs.Ytdpmbanfaigmcaa
open Go.RowKit

abbrev Bs := List UInt8
/-- A set of bytes: four words. -/
structure W4 where
  a : Int
  b : Int
  c : Int
  d : Int
def w40 : W4 := ⟨0, 0, 0, 0⟩
def W4.T (s : W4) : T := .mk 1 s.a s.b s.c s.d 0 0 []
def orI (x y : Int) : Int := bits .or .u64 x y
/-- A set with a byte more. -/
def W4.add (s : W4) (c : Nat) : W4 :=
  if c < 64 then { s with a := orI s.a (2 ^ c) } else if c < 128 then { s with b := orI s.b (2 ^ (c - 64)) } else if c < 192 then { s with c := orI s.c (2 ^ (c - 128)) } else { s with d := orI s.d (2 ^ (c - 192)) }
def W4.or (s x : W4) : W4 := ⟨orI s.a x.a, orI s.b x.b, orI s.c x.c, orI s.d x.d⟩
def notI (x : Int) : Int := 18446744073709551615 - x
def W4.not (s : W4) : W4 := ⟨notI s.a, notI s.b, notI s.c, notI s.d⟩
/-- All bytes from one on, so many. -/
def W4.span (s : W4) (from_ n : Nat) : W4 := (List.range' from_ n).foldl W4.add s
def whereW (p : Nat → Bool) : W4 := (List.range 256).foldl (fun s c => if p c then s.add c else s) w40

def takeP (s r : Bs) : Option Bs := if s.isPrefixOf r then some (r.drop s.length) else none
def isDigit (c : UInt8) : Bool := decide (48 ≤ c.toNat) && decide (c.toNat ≤ 57)
def digitsP : Nat → Int → Nat → Bs → Int × Nat × Bs
  | 0, n, w, r => (n, w, r)
  | _ + 1, n, w, [] => (n, w, [])
  | k + 1, n, w, c :: t => if isDigit c then digitsP k (10 * n + (c.toNat - 48)) (w + 1) t else (n, w, c :: t)
def numberP (r : Bs) : Except Int (Int × Bs) :=
  if (digitsP 4 0 0 r).2.1 = 0 ∨ 3 < (digitsP 4 0 0 r).2.1 ∨ 255 < (digitsP 4 0 0 r).1 then .error 105 else .ok ((digitsP 4 0 0 r).1, (digitsP 4 0 0 r).2.2)
def intervalP (r : Bs) : Except Int (Int × Int × Bs) :=
  match numberP r with
  | .error e => .error e
  | .ok (m, r1) =>
    match takeP [125] r1 with
    | some r2 => .ok (m, m, r2)
    | none =>
      match takeP [44, 125] r1 with
      | some r2 => .ok (m, -1, r2)
      | none =>
        match takeP [44] r1 with
        | none => .error 105
        | some r2 =>
          match numberP r2 with
          | .error e => .error e
          | .ok (n, r3) =>
            if n < m then .error 105 else
            match takeP [125] r3 with
            | some r4 => .ok (m, n, r4)
            | none => .error 105
/-- A byte, and what ends it: a sign and ]. -/
def singleP (sign : UInt8) (r : Bs) : Except Int (Nat × Bs) :=
  match r with
  | [] => .error 101
  | c :: t => match takeP [sign, 93] t with
    | some r1 => .ok (c.toNat, r1)
    | none => .error 101
def memberP (r : Bs) : Except Int (Nat × Bs) :=
  match takeP [91, 46] r with
  | some r1 => singleP 46 r1
  | none => match r with
    | [] => .error 101
    | c :: t => .ok (c.toNat, t)
/-- A class's set. -/
def classW (name : Bs) : Option W4 :=
  if name = [97, 108, 112, 104, 97] then some ((w40.span 65 26).span 97 26)
  else if name = [117, 112, 112, 101, 114] then some (w40.span 65 26)
  else if name = [108, 111, 119, 101, 114] then some (w40.span 97 26)
  else if name = [100, 105, 103, 105, 116] then some (w40.span 48 10)
  else if name = [97, 108, 110, 117, 109] then some (((w40.span 65 26).span 97 26).span 48 10)
  else if name = [120, 100, 105, 103, 105, 116] then some (((w40.span 48 10).span 65 6).span 97 6)
  else if name = [115, 112, 97, 99, 101] then some ((w40.span 9 5).add 32)
  else if name = [98, 108, 97, 110, 107] then some ((w40.add 9).add 32)
  else if name = [99, 110, 116, 114, 108] then some ((w40.span 0 32).add 127)
  else if name = [103, 114, 97, 112, 104] then some (w40.span 33 94)
  else if name = [112, 114, 105, 110, 116] then some (w40.span 32 95)
  else if name = [112, 117, 110, 99, 116] then some ((((w40.span 33 15).span 58 7).span 91 6).span 123 4)
  else none
/-- A text up to :], and what stands behind. -/
def cutP : Bs → Option (Bs × Bs)
  | [] => none
  | c :: t => match takeP [58, 93] (c :: t) with
    | some r => some ([], r)
    | none => match cutP t with
      | some (a, b) => some (c :: a, b)
      | none => none
def classP (s : W4) (r : Bs) : Except Int (W4 × Bs) :=
  match cutP r with
  | none => .error 101
  | some (name, r1) => match classW name with
    | none => .error 103
    | some x => .ok (s.or x, r1)
def rangeP (s : W4) (from_ : Nat) (r : Bs) : Except Int (W4 × Bs) :=
  match takeP [45] r, takeP [45, 93] r with
  | some r1, none =>
    if (takeP [91, 58] r1).isSome || (takeP [91, 61] r1).isSome then .error 101 else
    match memberP r1 with
    | .error e => .error e
    | .ok (to_, r2) => if to_ < from_ then .error 102 else .ok (s.span from_ (to_ + 1 - from_), r2)
  | _, _ => .ok (s.add from_, r)
def itemP (s : W4) (r : Bs) : Except Int (W4 × Bs) :=
  match takeP [91, 58] r with
  | some r1 => classP s r1
  | none => match takeP [91, 61] r with
    | some r1 => match singleP 61 r1 with
      | .error e => .error e
      | .ok (c, r2) => .ok (s.add c, r2)
    | none => match memberP r with
      | .error e => .error e
      | .ok (c, r1) => rangeP s c r1
/-- Items, up to ]. -/
def itemsP : Nat → W4 → Bs → Except Int (W4 × Bs)
  | 0, _, _ => .error 101
  | k + 1, s, r => match itemP s r with
    | .error e => .error e
    | .ok (s', r1) => match takeP [93] r1 with
      | some r2 => .ok (s', r2)
      | none => itemsP k s' r1
def bracketP (r : Bs) : Except Int (W4 × Bs) :=
  match takeP [94] r with
  | some r1 => match itemsP (r1.length + 1) w40 r1 with
    | .error e => .error e
    | .ok (s, r2) => .ok (s.not, r2)
  | none => itemsP (r.length + 1) w40 r
abbrev PT := Except Int (T × Bs)
def atomP (grp : Bs → PT) (r : Bs) : PT :=
  match r with
  | [] => .error 104
  | c :: t =>
    if c = 40 then grp t
    else if c = 94 then .ok (.mk 2 0 0 0 0 0 0 [], t)
    else if c = 36 then .ok (.mk 3 0 0 0 0 0 0 [], t)
    else if c = 91 then match bracketP t with
      | .error e => .error e
      | .ok (s, r1) => .ok (s.T, r1)
    else if c = 46 then .ok ((w40.span 0 256).T, t)
    else if c = 42 ∨ c = 43 ∨ c = 63 ∨ c = 123 then .error 104
    else if c = 92 then match t with
      | [] => .error 106
      | x :: t' => .ok ((w40.add x.toNat).T, t')
    else .ok ((w40.add c.toNat).T, t)
def repT (m n : Int) (t : T) : T := .mk 6 0 0 0 0 m n [t]
/-- How often an atom stands. -/
def sufP : Nat → T → Bs → PT
  | 0, n, r => .ok (n, r)
  | k + 1, n, r =>
    match takeP [42] r with
    | some r1 => sufP k (repT 0 (-1) n) r1
    | none => match takeP [43] r with
      | some r1 => sufP k (repT 1 (-1) n) r1
      | none => match takeP [63] r with
        | some r1 => sufP k (repT 0 1 n) r1
        | none => match takeP [123] r with
          | some r1 => match intervalP r1 with
            | .error e => .error e
            | .ok (m, x, r2) => sufP k (repT m x n) r2
          | none => .ok (n, r)
def pieceP (grp : Bs → PT) (r : Bs) : PT :=
  match atomP grp r with
  | .error e => .error e
  | .ok (n, r1) => sufP (r1.length + 1) n r1
/-- Does a row end here? -/
def endsRow : Bs → Bool
  | [] => true
  | c :: _ => c == 124 || c == 41
def piecesP (grp : Bs → PT) : Nat → List T → Bs → Except Int (List T × Bs)
  | 0, l, r => .ok (l, r)
  | k + 1, l, r => if endsRow r then .ok (l, r) else match pieceP grp r with
    | .error e => .error e
    | .ok (n, r1) => piecesP grp k (l ++ [n]) r1
def joinT (k : Int) (l : List T) : T :=
  match l with
  | [] => .mk 0 0 0 0 0 0 0 []
  | [n] => n
  | _ => .mk k 0 0 0 0 0 0 l
def rowP (grp : Bs → PT) (r : Bs) : PT :=
  match piecesP grp (r.length + 1) [] r with
  | .error e => .error e
  | .ok (l, r1) => .ok (joinT 4 l, r1)
def altsP (grp : Bs → PT) : Nat → List T → Bs → Except Int (List T × Bs)
  | 0, l, r => .ok (l, r)
  | k + 1, l, r => match takeP [124] r with
    | none => .ok (l, r)
    | some r1 => match rowP grp r1 with
      | .error e => .error e
      | .ok (n, r2) => altsP grp k (l ++ [n]) r2
def choiceP (grp : Bs → PT) (r : Bs) : PT :=
  match rowP grp r with
  | .error e => .error e
  | .ok (n, r1) => match altsP grp (r1.length + 1) [n] r1 with
    | .error e => .error e
    | .ok (l, r2) => .ok (joinT 5 l, r2)
/-- What stands in brackets, so many more within. -/
def groupP : Nat → Bs → PT
  | 0, _ => .error 3
  | d + 1, r => match choiceP (groupP d) r with
    | .error e => .error e
    | .ok (n, r1) => match takeP [41] r1 with
      | some r2 => .ok (n, r2)
      | none => .error 100
/-- Parse. -/
def parseP (s : Bs) : Except Int T :=
  if 1024 < s.length then .error 3 else
  match choiceP (groupP 64) s with
  | .error e => .error e
  | .ok (n, []) => .ok n
  | .ok (_, _ :: _) => .error 100
end Go.Proofs.Ytdpmbanfaigmcaa
