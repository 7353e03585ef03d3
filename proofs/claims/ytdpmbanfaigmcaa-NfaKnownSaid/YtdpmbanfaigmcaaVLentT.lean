/- Trees that are handed in, marks in their spare room: what it means; helper laws. -/
import Derived.Test.YtdpmbanfaigmcaaVLay
import Derived.Test.YtdpmbanfaigmcaaVLentN
set_option linter.unusedVariables false
set_option linter.unusedSimpArgs false
namespace Go.Proofs.Ytdpmbanfaigmcaa
open Go.RowKit

/-- A tree reads, three marks behind each list. -/
inductive LentAt (w : World) (ok : Nat → Prop) : T → Option Addr → Nat → Prop where
  | mk (t : T) (g : Nat) (c : Nat) (As : Nat → Option Addr) (cs : Nat → Nat) :
      t.ps.length + 3 ≤ c → t.ps.length ≤ 1000000 → ok g →
      (∀ i p, t.ps[i]? = some p → At8 w g (i * 8) p (As i) (cs i)) →
      (∀ k, k < 3 → w.cell? ⟨g, (t.ps.length + k) * 8, none⟩ = some (.int .i64 (-77)) ∧ w.cell? ⟨g, (t.ps.length + k) * 8 + 7, none⟩ = some (.slice none 0 0)) →
      (∀ i p, t.ps[i]? = some p → LentAt w ok p (As i) (cs i)) →
      LentAt w ok t (some ⟨g, 0, none⟩) c
theorem LentAt.mono {w w' : World} {ok ok' : Nat → Prop} (hk : ∀ b, ok b → ok' b ∧ ∀ o, w'.cell? ⟨b, o, none⟩ = w.cell? ⟨b, o, none⟩) {t : T} {A : Option Addr} {c : Nat} (h : LentAt w ok t A c) : LentAt w' ok' t A c := by
  induction h with
  | mk t g c As cs hc hl hg ha hm hp ih =>
    exact .mk t g c As cs hc hl (hk g hg).1 (fun i p hi => (ha i p hi).mono (hk g hg).2) (fun k hk' => ⟨((hk g hg).2 _).trans (hm k hk').1, ((hk g hg).2 _).trans (hm k hk').2⟩) ih
theorem LentAt.node {w : World} {ok : Nat → Prop} {t : T} {A : Option Addr} {c : Nat} (h : LentAt w ok t A c) : NodeAt w ok t A c := by
  induction h with
  | mk t g c As cs hc hl hg ha hm hp ih =>
    exact .mk t _ c As cs (by omega) (by omega) (fun _ => ⟨g, 0, rfl, hg, fun i p hi => by rw [Nat.zero_add]; exact ha i p hi⟩) ih
def ncell (x : T × Option Addr × Nat) : List Value := [.int .i64 x.1.k, .int .u64 x.1.s0, .int .u64 x.1.s1, .int .u64 x.1.s2, .int .u64 x.1.s3, .int .i64 x.1.mn, .int .i64 x.1.mx, .slice x.2.1 x.1.ps.length x.2.2]
def ncells (l : List (T × Option Addr × Nat)) : List Value := l.flatMap ncell
theorem ncells_length (l : List (T × Option Addr × Nat)) : (ncells l).length = l.length * 8 := by
  induction l with
  | nil => rfl
  | cons s l ih =>
    show (ncell s ++ ncells l).length = _
    rw [List.length_append, ih, List.length_cons]
    simp only [ncell, List.length_cons, List.length_nil]
    omega
theorem ncells_snoc (l : List (T × Option Addr × Nat)) (s : T × Option Addr × Nat) : ncells (l ++ [s]) = ncells l ++ ncell s := by simp [ncells]
theorem ncell_one (s : T × Option Addr × Nat) : ∀ u ∈ ncell s, u.oneCell' = true := by
  intro u hu
  simp only [ncell, List.mem_cons, List.not_mem_nil, or_false] at hu
  rcases hu with rfl | rfl | rfl | rfl | rfl | rfl | rfl | rfl <;> rfl
theorem ncells_get : ∀ (l : List (T × Option Addr × Nat)) (i j : Nat) (hi : i < l.length), j < 8 → (ncells l)[i * 8 + j]? = (ncell l[i])[j]?
  | s :: l, 0, j, hi, hj => by
    show (ncell s ++ ncells l)[0 * 8 + j]? = _
    rw [Nat.zero_mul, Nat.zero_add, List.getElem?_append_left (by simp [ncell]; omega)]
    rfl
  | s :: l, i + 1, j, hi, hj => by
    show (ncell s ++ ncells l)[(i + 1) * 8 + j]? = _
    rw [List.getElem?_append_right (by simp [ncell]; omega)]
    simp only [ncell, List.length_cons, List.length_nil]
    rw [show (i + 1) * 8 + j - (0 + 1 + 1 + 1 + 1 + 1 + 1 + 1 + 1) = i * 8 + j by omega, ncells_get l i j (by simpa using hi) hj]
    rfl
theorem At8.of {w : World} {b o : Nat} {x : T × Option Addr × Nat} (h : ∀ j, j < 8 → w.cell? ⟨b, o + j, none⟩ = (ncell x)[j]?) : At8 w b o x.1 x.2.1 x.2.2 :=
  ⟨h 0 (by omega), h 1 (by omega), h 2 (by omega), h 3 (by omega), h 4 (by omega), h 5 (by omega), h 6 (by omega), h 7 (by omega)⟩
abbrev mark : T × Option Addr × Nat := (.mk (-77) 0 0 0 0 0 0 [], none, 0)
theorem Try.infoNode : (Try.prog.info? 27).map (fun i => (i.zero, i.size, i.bytes)) = some (some (.agg #[.int .i64 0, .int .u64 0, .int .u64 0, .int .u64 0, .int .u64 0, .int .i64 0, .int .i64 0, .slice none 0 0]), 8, 80) := by kernel_rfl

/-- A block of cells, nothing frozen. -/
def Blk (w : World) (b : Nat) (cs : Array Value) : Prop := w.heap[b]? = some (.cells cs 27 (0, 0))
theorem Blk.lt {w : World} {b : Nat} {cs : Array Value} (h : Blk w b cs) : b < w.heap.size := (Array.getElem?_eq_some_iff.1 h).1
theorem Blk.cell {w : World} {b : Nat} {cs : Array Value} (h : Blk w b cs) (o : Nat) : w.cell? ⟨b, o, none⟩ = cs[o]? := cell_of_row w b o cs _ (0, 0) h
theorem Blk.froz {w : World} {b : Nat} {cs : Array Value} (h : Blk w b cs) (o : Nat) : w.frozen? ⟨b, o, none⟩ = false := by
  unfold World.frozen?
  rw [show w.heap[(⟨b, o, none⟩ : Addr).block]? = _ from h]
  simp
theorem Blk.keep {w w' : World} {b : Nat} {cs : Array Value} (h : Blk w b cs) (e : w'.heap[b]? = w.heap[b]?) : Blk w' b cs := e.trans h
theorem Blk.set {w : World} {b : Nat} {cs : Array Value} (h : Blk w b cs) (o : Nat) (u : Value) : Blk (w.setCell ⟨b, o, none⟩ u) b (cs.setIfInBounds o u) := by
  unfold Blk at h ⊢
  simp only [World.setCell, Array.getElem?_modify, ↓reduceIte, h, Option.map_some]
  rfl
theorem Blk.new (w : World) (cs : Array Value) : Blk (w.alloc (.cells cs 27)) w.heap.size cs := heap_alloc_new w _
end Go.Proofs.Ytdpmbanfaigmcaa
