/- What laying a tree makes, as plain functions: the states behind those that lie there, and where the tree begins. -/
import Derived.Test.YtdpmbanfaigmcaaVLayer
import Derived.Test.YtdpmbanfaigmcaaVCount
set_option linter.unusedVariables false
set_option linter.unusedSimpArgs false
namespace Go.Proofs.Ytdpmbanfaigmcaa
open Go.RowKit

abbrev LF := Int → List St → Int × List St
def splitS (nx ot : Int) : St := ⟨2, 0, 0, 0, 0, nx, ot⟩
def splitsF : List Int → List St → Int × List St
  | [], l => (0, l)
  | [x], l => (x, l)
  | b :: bs, l => ((splitsF bs l).2.length, (splitsF bs l).2 ++ [splitS b (splitsF bs l).1])
/-- n times: the part, and a split behind it. -/
def optF (p : LF) (to : Int) : Nat → Int → List St → Int × List St
  | 0, t, l => (t, l)
  | n + 1, t, l => optF p to n (p t l).2.length ((p t l).2 ++ [splitS (p t l).1 to])
/-- n times the part, as long as it lays something. -/
def minF (p : LF) : Nat → Int → List St → Int × List St
  | 0, t, l => (t, l)
  | n + 1, t, l => if (p t l).2.length = l.length then p t l else minF p n (p t l).1 (p t l).2
def setNx (l : List St) (i : Nat) (x : Int) : List St := l.modify i fun s => { s with nx := x }
/-- A repeat without an end: the split, the part behind it. -/
def starF (p : LF) (to : Int) (l : List St) : Int × List St :=
  (l.length, setNx (p l.length (l ++ [splitS 0 to])).2 l.length (p l.length (l ++ [splitS 0 to])).1)
def repF (mn mx : Int) (p : LF) (to : Int) (l : List St) : Int × List St :=
  let a := if mx < 0 then starF p to l else optF p to (mx - mn).toNat to l
  minF p mn.toNat a.1 a.2

mutual
def layF : T → LF
  | .mk k s0 s1 s2 s3 mn mx ps, to, l =>
    if k = 1 then (l.length, l ++ [⟨1, s0, s1, s2, s3, to, 0⟩])
    else if k = 2 then (l.length, l ++ [⟨3, 0, 0, 0, 0, to, 0⟩])
    else if k = 3 then (l.length, l ++ [⟨4, 0, 0, 0, 0, to, 0⟩])
    else if k = 4 then rowF ps to l
    else if k = 5 then splitsF (begF ps to l).1 (begF ps to l).2
    else if k = 6 then repF mn mx (headF ps) to l
    else (to, l)
/-- The last part first. -/
def rowF : List T → LF
  | [], to, l => (to, l)
  | p :: ps, to, l => layF p (rowF ps to l).1 (rowF ps to l).2
def begF : List T → Int → List St → List Int × List St
  | [], to, l => ([], l)
  | p :: ps, to, l => ((layF p to l).1 :: (begF ps to (layF p to l).2).1, (begF ps to (layF p to l).2).2)
def headF : List T → LF
  | [], to, l => (to, l)
  | p :: _, to, l => layF p to l
end
theorem layF_eq (t : T) (to : Int) (l : List St) : layF t to l =
    if t.k = 1 then ((l.length : Int), l ++ [⟨1, t.s0, t.s1, t.s2, t.s3, to, 0⟩])
    else if t.k = 2 then ((l.length : Int), l ++ [⟨3, 0, 0, 0, 0, to, 0⟩])
    else if t.k = 3 then ((l.length : Int), l ++ [⟨4, 0, 0, 0, 0, to, 0⟩])
    else if t.k = 4 then rowF t.ps to l
    else if t.k = 5 then splitsF (begF t.ps to l).1 (begF t.ps to l).2
    else if t.k = 6 then repF t.mn t.mx (headF t.ps) to l
    else (to, l) := by cases t; rw [layF]; rfl

/-- What lays never takes away. -/
def Grows (p : LF) : Prop := ∀ t l, l.length ≤ (p t l).2.length
theorem splitsF_len : ∀ (bs : List Int) (l : List St), (splitsF bs l).2.length = l.length + (bs.length - 1)
  | [], l => by simp [splitsF]
  | [x], l => by simp [splitsF]
  | a :: b :: bs, l => by
    have := splitsF_len (b :: bs) l
    rw [splitsF]
    · simp only [List.length_append, this, List.length_cons, List.length_nil]; omega
    · simp
theorem optF_grows {p : LF} (hp : Grows p) (to : Int) : ∀ n, Grows (optF p to n)
  | 0, t, l => by simp [optF]
  | n + 1, t, l => by
    rw [optF]
    have h1 := hp t l
    have h2 := optF_grows hp to n (p t l).2.length ((p t l).2 ++ [splitS (p t l).1 to])
    simp only [List.length_append, List.length_cons, List.length_nil] at h2
    omega
theorem minF_grows {p : LF} (hp : Grows p) : ∀ n, Grows (minF p n)
  | 0, t, l => by simp [minF]
  | n + 1, t, l => by
    rw [minF]
    split
    · exact hp t l
    · have h1 := hp t l
      have h2 := minF_grows hp n (p t l).1 (p t l).2
      omega
theorem starF_grows {p : LF} (hp : Grows p) (to : Int) (l : List St) : l.length + 1 ≤ (starF p to l).2.length := by
  have h := hp l.length (l ++ [splitS 0 to])
  simp only [starF, setNx, List.length_modify, List.length_append, List.length_cons, List.length_nil] at h ⊢
  omega
theorem repF_grows {p : LF} (hp : Grows p) (mn mx : Int) : Grows (repF mn mx p) := fun to l => by
  unfold repF
  simp only
  split
  · have := starF_grows hp to l
    have := minF_grows hp mn.toNat (starF p to l).1 (starF p to l).2
    omega
  · have := optF_grows hp to (mx - mn).toNat to l
    have := minF_grows hp mn.toNat (optF p to (mx - mn).toNat to l).1 (optF p to (mx - mn).toNat to l).2
    omega
theorem rowF_grows : ∀ ps : List T, (∀ p ∈ ps, Grows (layF p)) → Grows (rowF ps)
  | [], _, to, l => by simp [rowF]
  | p :: ps, h, to, l => by
    rw [rowF]
    have h1 := rowF_grows ps (fun q hq => h q (List.mem_cons_of_mem _ hq)) to l
    have h2 := h p (List.mem_cons_self ..) (rowF ps to l).1 (rowF ps to l).2
    omega
theorem begF_grows : ∀ ps : List T, (∀ p ∈ ps, Grows (layF p)) → ∀ to l, l.length ≤ (begF ps to l).2.length
  | [], _, to, l => by simp [begF]
  | p :: ps, h, to, l => by
    rw [begF]
    have h1 := h p (List.mem_cons_self ..) to l
    have h2 := begF_grows ps (fun q hq => h q (List.mem_cons_of_mem _ hq)) to (layF p to l).2
    simp only
    omega
theorem begF_len : ∀ (ps : List T) (to : Int) (l : List St), (begF ps to l).1.length = ps.length
  | [], to, l => by simp [begF]
  | p :: ps, to, l => by rw [begF]; simp [begF_len ps]
theorem layF_grows (t : T) : Grows (layF t) := by
  induction t using T.ind with
  | h t ih =>
    intro to l
    rw [layF_eq]
    split
    · simp
    split
    · simp
    split
    · simp
    split
    · exact rowF_grows t.ps ih to l
    split
    · rw [splitsF_len]
      have := begF_grows t.ps ih to l
      omega
    split
    · refine repF_grows (fun to l => ?_) _ _ to l
      cases h : t.ps with
      | nil => simp [headF]
      | cons p ps => rw [headF]; exact ih p (by rw [h]; exact List.mem_cons_self ..) to l
    · exact Nat.le_refl _
theorem headF_grows (ps : List T) : Grows (headF ps) := fun to l => by
  cases ps with
  | nil => simp [headF]
  | cons p ps => rw [headF]; exact layF_grows p to l
end Go.Proofs.Ytdpmbanfaigmcaa
