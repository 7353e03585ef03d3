/-
  Trees of patterns as plain data, and what it means that a value reads as one in a world. Plain Lean: no program in sight.
-/
import Derived.WalkKit
set_option linter.unusedVariables false
namespace Go.Proofs.Ytdpmbanfaigmcaa
open Go.RowKit

/-- A pattern's tree, as data: its kind, its set's four words, Min, Max, its parts. -/
inductive T where
  | mk (k s0 s1 s2 s3 mn mx : Int) (ps : List T)
deriving Inhabited

namespace T
def k : T → Int | .mk k _ _ _ _ _ _ _ => k
def s0 : T → Int | .mk _ s _ _ _ _ _ _ => s
def s1 : T → Int | .mk _ _ s _ _ _ _ _ => s
def s2 : T → Int | .mk _ _ _ s _ _ _ _ => s
def s3 : T → Int | .mk _ _ _ _ s _ _ _ => s
def mn : T → Int | .mk _ _ _ _ _ m _ _ => m
def mx : T → Int | .mk _ _ _ _ _ _ m _ => m
def ps : T → List T | .mk _ _ _ _ _ _ _ p => p
theorem eta (t : T) : t = .mk t.k t.s0 t.s1 t.s2 t.s3 t.mn t.mx t.ps := by cases t; rfl
theorem lt_of_mem {p t : T} (h : p ∈ t.ps) : SizeOf.sizeOf p < SizeOf.sizeOf t := by
  cases t with
  | mk k s0 s1 s2 s3 mn mx ps =>
    have := List.sizeOf_lt_of_mem (show p ∈ ps from h)
    simp only [T.mk.sizeOf_spec]
    omega
/-- Induction over a tree and its parts. -/
theorem ind {motive : T → Prop} (h : ∀ t, (∀ p ∈ t.ps, motive p) → motive t) (t : T) : motive t :=
  h t fun p hp => ind h p
termination_by SizeOf.sizeOf t
decreasing_by exact lt_of_mem hp
end T

/-- A node's value: A, c: its parts' address and capacity. -/
abbrev nodeV (t : T) (A : Option Addr) (c : Nat) : Value :=
  .agg #[.int .i64 t.k, .int .u64 t.s0, .int .u64 t.s1, .int .u64 t.s2, .int .u64 t.s3, .int .i64 t.mn, .int .i64 t.mx, .slice A t.ps.length c]

/-- A node's eight cells from a place on. -/
structure At8 (w : World) (b o : Nat) (t : T) (A : Option Addr) (c : Nat) : Prop where
  f0 : w.cell? ⟨b, o, none⟩ = some (.int .i64 t.k)
  f1 : w.cell? ⟨b, o + 1, none⟩ = some (.int .u64 t.s0)
  f2 : w.cell? ⟨b, o + 2, none⟩ = some (.int .u64 t.s1)
  f3 : w.cell? ⟨b, o + 3, none⟩ = some (.int .u64 t.s2)
  f4 : w.cell? ⟨b, o + 4, none⟩ = some (.int .u64 t.s3)
  f5 : w.cell? ⟨b, o + 5, none⟩ = some (.int .i64 t.mn)
  f6 : w.cell? ⟨b, o + 6, none⟩ = some (.int .i64 t.mx)
  f7 : w.cell? ⟨b, o + 7, none⟩ = some (.slice A t.ps.length c)

theorem At8.mono {w w' : World} {b o : Nat} {t : T} {A : Option Addr} {c : Nat} (h : At8 w b o t A c) (hk : ∀ o, w'.cell? ⟨b, o, none⟩ = w.cell? ⟨b, o, none⟩) : At8 w' b o t A c :=
  ⟨(hk _).trans h.f0, (hk _).trans h.f1, (hk _).trans h.f2, (hk _).trans h.f3, (hk _).trans h.f4, (hk _).trans h.f5, (hk _).trans h.f6, (hk _).trans h.f7⟩

/-- A tree reads in a world, its parts' list at A with capacity c; every block that is read satisfies 'ok'. -/
inductive NodeAt (w : World) (ok : Nat → Prop) : T → Option Addr → Nat → Prop where
  | mk (t : T) (A : Option Addr) (c : Nat) (As : Nat → Option Addr) (cs : Nat → Nat) :
      t.ps.length ≤ c → t.ps.length ≤ 17592186044416 →
      (t.ps ≠ [] → ∃ b o, A = some ⟨b, o, none⟩ ∧ ok b ∧ ∀ i p, t.ps[i]? = some p → At8 w b (o + i * 8) p (As i) (cs i)) →
      (∀ i p, t.ps[i]? = some p → NodeAt w ok p (As i) (cs i)) →
      NodeAt w ok t A c

theorem NodeAt.mono {w w' : World} {ok ok' : Nat → Prop} (hk : ∀ b, ok b → ok' b ∧ ∀ o, w'.cell? ⟨b, o, none⟩ = w.cell? ⟨b, o, none⟩) {t : T} {A : Option Addr} {c : Nat} (h : NodeAt w ok t A c) : NodeAt w' ok' t A c := by
  induction h with
  | mk t A c As cs hc hl ha hp ih =>
    refine .mk t A c As cs hc hl (fun hne => ?_) ih
    obtain ⟨b, o, e, hb, hcell⟩ := ha hne
    exact ⟨b, o, e, (hk b hb).1, fun i p hi => (hcell i p hi).mono (hk b hb).2⟩

theorem NodeAt.later {w w' : World} {ok : Nat → Prop} {B : Nat} (hb : Below B w w') (hok : ∀ b, ok b → b < B) {t : T} {A : Option Addr} {c : Nat} (h : NodeAt w ok t A c) : NodeAt w' ok t A c :=
  h.mono fun b hk => ⟨hk, fun _ => hb.cell (p := ⟨b, _, none⟩) (hok b hk)⟩

/-- Part i: its eight cells, and that it reads. -/
theorem NodeAt.part {w : World} {ok : Nat → Prop} {t : T} {A : Option Addr} {c : Nat} (h : NodeAt w ok t A c) (hne : 0 < t.ps.length) :
    ∃ b o, A = some ⟨b, o, none⟩ ∧ ok b ∧ ∀ i (hi : i < t.ps.length), ∃ A' c', At8 w b (o + i * 8) t.ps[i] A' c' ∧ NodeAt w ok t.ps[i] A' c' := by
  cases h with
  | mk _ _ _ As cs hc hl ha hp =>
    obtain ⟨b, o, e, hb, hcell⟩ := ha (fun e => by simp [e] at hne)
    exact ⟨b, o, e, hb, fun i hi => ⟨_, _, hcell i _ (List.getElem?_eq_getElem hi), hp i _ (List.getElem?_eq_getElem hi)⟩⟩

theorem NodeAt.cap {w : World} {ok : Nat → Prop} {t : T} {A : Option Addr} {c : Nat} (h : NodeAt w ok t A c) : t.ps.length ≤ c := by cases h; assumption
theorem NodeAt.len {w : World} {ok : Nat → Prop} {t : T} {A : Option Addr} {c : Nat} (h : NodeAt w ok t A c) : t.ps.length ≤ 17592186044416 := by cases h; assumption

/-- Old cells and marks read as before: two rules for the walk. -/
theorem bcell {W w1 : World} (hb : Below W.heap.size W w1) : (∀ b o, b < W.heap.size → w1.cell? ⟨b, o, none⟩ = W.cell? ⟨b, o, none⟩) ∧ (∀ b o, b < W.heap.size → w1.frozen? ⟨b, o, none⟩ = W.frozen? ⟨b, o, none⟩) :=
  ⟨fun b o h => hb.cell (p := ⟨b, o, none⟩) h, fun b o h => hb.frozen (p := ⟨b, o, none⟩) h⟩

theorem drop_cons {α : Type} {l : List α} {j : Nat} (h : j < l.length) : l.drop j = l[j] :: l.drop (j + 1) := List.drop_eq_getElem_cons h

end Go.Proofs.Ytdpmbanfaigmcaa
