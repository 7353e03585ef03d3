/- Merged texts, part of the proof Finds: Sem, Layer, Mach, Same, Lent, LentN, T, KeptN, CheckN, MatL, MatH, Nx, Run, RunA, RunE, RunH, ParL, Rdr, Right, Count, LayS, Lay, LentT, Many, Ref10. -/
import Derived.Test.YteekafkpeimhoaaGreatRows
import Derived.WalkKit
import Derived.Deep.LoopGhost
import Derived.Lib.Hide
import Derived.Maps.AppendAt
import Derived.Deep.RegionLaw
import Derived.Deep.QuietTactic
import Derived.BigQuiet
import Derived.Laws.OwnMore
import Derived.BigRegion
import Derived.Deep.DeepCutAuto
import Derived.Lib.SliceRun
import Derived.BigFrame
import Derived.Laws.IdiomCopy
import Derived.Lib.SlBuf
import Derived.Deep.Upon
import Derived.Laws.Entries
import Derived.Lib.Strings
/- Runs of operations that the kit's walk does not carry out by itself: sets (arrays of four words) compared, and states of machines. -/
set_option linter.unusedVariables false
set_option linter.unusedSimpArgs false
namespace Go.Proofs.YteekafkpeimhoaaGreat
open Go.RowKit

/-- Are two sets the same? -/
def eq4 (a0 a1 a2 a3 b0 b1 b2 b3 : Int) : Bool := a0 == b0 && a1 == b1 && a2 == b2 && a3 == b3
theorem eq4_true {a0 a1 a2 a3 b0 b1 b2 b3 : Int} (h : a0 = b0 ∧ a1 = b1 ∧ a2 = b2 ∧ a3 = b3) : eq4 a0 a1 a2 a3 b0 b1 b2 b3 = true := by
  obtain ⟨rfl, rfl, rfl, rfl⟩ := h; simp [eq4]
theorem eq4_false {a0 a1 a2 a3 b0 b1 b2 b3 : Int} (h : ¬ (a0 = b0 ∧ a1 = b1 ∧ a2 = b2 ∧ a3 = b3)) : eq4 a0 a1 a2 a3 b0 b1 b2 b3 = false := by
  rw [Bool.eq_false_iff]; intro e; simp [eq4] at e; exact h ⟨e.1.1.1, e.1.1.2, e.1.2, e.2⟩
theorem eq4_iff {a0 a1 a2 a3 b0 b1 b2 b3 : Int} : eq4 a0 a1 a2 a3 b0 b1 b2 b3 = true ↔ (a0 = b0 ∧ a1 = b1 ∧ a2 = b2 ∧ a3 = b3) := by
  simp [eq4, and_assoc]

@[go_sem] theorem run_eq4 (w : World) (d : Nat) (a0 a1 a2 a3 b0 b1 b2 b3 : Int) :
    (Op.equalIn (d + 2) 36 (.agg #[.int .u64 a0, .int .u64 a1, .int .u64 a2, .int .u64 a3]) (.agg #[.int .u64 b0, .int .u64 b1, .int .u64 b2, .int .u64 b3])).run Tryz.prog w = .ok (eq4 a0 a1 a2 a3 b0 b1 b2 b3) w := by
  rw [Op.equalIn]
  simp only [Sem.run_bind, run_underlying Tryz.underlying36, Result.andThen_ok]
  simp [go_sem, List.range']
  unfold eq4
  by_cases h0 : a0 = b0 <;> by_cases h1 : a1 = b1 <;> by_cases h2 : a2 = b2 <;> by_cases h3 : a3 = b3 <;> simp [h0, h1, h2, h3]
end Go.Proofs.YteekafkpeimhoaaGreat

/- States of machines in memory; a layer; append as one step. -/
set_option linter.unusedVariables false
set_option linter.unusedSimpArgs false
namespace Go.Proofs.YteekafkpeimhoaaGreat
open Go.RowKit

/-- append, as one step of a region that draws its order; the new slice is not nil. -/
theorem step_append_at {P : Program} {ops : Array Oper} {o : Oper} {a : Act} {Q : Exit → Act → World → Prop} {K : Act → World → Prop} {E : Prop} {W : World} (base : Nat)
    (hgd : o.guard = none) (s x : Operand) (t e : TypeId) (z : Value) (size bytes : Nat)
    (ho : o.op = .call { callee := .builtin .append, args := #[s, x], argTypes := #[t, t] })
    (ht : P.underlying t = some (.slice e)) (hinfo : (P.info? e).map (fun i => (i.zero, i.size, i.bytes)) = some (some z, size, bytes)) (hz : z.cells.size = size) (hs0 : 0 < size) (hb0 : 0 < bytes)
    (v : Value) (n m : Nat) (xs ys : List Value) (ad : Addr) (c : Nat) (hs : a.eval s = v) (hx : a.eval x = .slice (some ad) m c) (hm : 0 < m) (hys : ys.length = m * size)
    (hnews : ∀ j u, ys[j]? = some u → W.cell? (ad.add j) = some u) (h1 : ∀ u ∈ ys, u.oneCell' = true)
    (HO : W.ownsRow base e size v n xs) (hbase : base ≤ W.heap.size) (hl : (n + m) * bytes ≤ 140737488355328)
    (h : ∀ g cap w1, w1.ownsRow base e size (.slice (some ⟨g, 0, none⟩) (n + m) cap) (n + m) (xs ++ ys) → W.grownBy w1 v.ownBlock → (v.ownBlock = some g ∨ g = W.heap.size) →
      K (a.put o.dst (.slice (some ⟨g, 0, none⟩) (n + m) cap)) w1) :
    if Region.wanted o (yielded ops a.tmps) = true then Oper.wp P o a W K Q else E := by
  obtain ⟨i0, hi, hzz⟩ := Option.map_eq_some_iff.1 hinfo
  simp only [Prod.mk.injEq] at hzz
  obtain ⟨hz0, hz1, hz2⟩ := hzz
  have hlen : n + m ≤ 140737488355328 := Nat.le_trans (Nat.le_mul_of_pos_right _ hb0) hl
  rw [if_pos (by simp [Region.wanted, hgd])]
  obtain ⟨v1, w1, hr, hown, hg, _, hat⟩ := run_append_own_at (P := P) W base t o.type e i0 z size bytes ht hi hz0 hz1 hz2 hz hs0 v n xs HO ad m c ys hys hnews h1 (by simp only [maxLen]; omega) hl hbase
  unfold Oper.wp execOp
  simp only [ho, resolve, invoke, builtin, Sem.run_bind, Sem.run_pure, Result.andThen_ok, List.map_toArray, List.map_cons, List.map_nil, hs, hx, hr]
  rcases hown.2 with ⟨_, h0⟩ | ⟨g, cap, cur, rfl, _⟩
  · omega
  · refine h g cap w1 hown hg ?_
    rcases hat with hat | hat
    · exact .inl hat.symm
    · exact .inr (by simpa [Value.ownBlock] using hat)

/-- The same, in a region that keeps its order; behind 'at_builtin'. -/
theorem wpList_append_at {P : Program} {ops : Array Oper} {rest : List Oper} {o : Oper} {a : Act} {Q : Exit → Act → World → Prop} {W : World} (base : Nat)
    (hgd : o.guard = none) (s x : Operand) (t e : TypeId) (z : Value) (size bytes : Nat)
    (ho : o.op = .call { callee := .builtin .append, args := #[s, x], argTypes := #[t, t] })
    (ht : P.underlying t = some (.slice e)) (hinfo : (P.info? e).map (fun i => (i.zero, i.size, i.bytes)) = some (some z, size, bytes)) (hz : z.cells.size = size) (hs0 : 0 < size) (hb0 : 0 < bytes)
    (v : Value) (n m : Nat) (xs ys : List Value) (ad : Addr) (c : Nat) (hs : a.eval s = v) (hx : a.eval x = .slice (some ad) m c) (hm : 0 < m) (hys : ys.length = m * size)
    (hnews : ∀ j u, ys[j]? = some u → W.cell? (ad.add j) = some u) (h1 : ∀ u ∈ ys, u.oneCell' = true)
    (HO : W.ownsRow base e size v n xs) (hbase : base ≤ W.heap.size) (hl : (n + m) * bytes ≤ 140737488355328)
    (h : ∀ g cap w1, w1.ownsRow base e size (.slice (some ⟨g, 0, none⟩) (n + m) cap) (n + m) (xs ++ ys) → W.grownBy w1 v.ownBlock → (v.ownBlock = some g ∨ g = W.heap.size) →
      wpList P ops Q rest (a.put o.dst (.slice (some ⟨g, 0, none⟩) (n + m) cap)) w1) :
    wpList P ops Q (o :: rest) a W := by
  refine wpList_plain hgd fun K hK => ?_
  have := step_append_at (ops := ops) (o := o) (a := a) (Q := Q) (K := K) (E := True) base hgd s x t e z size bytes ho ht hinfo hz hs0 hb0 v n m xs ys ad c hs hx hm hys hnews h1 HO hbase hl (fun g cap w1 h1 h2 h3 => hK _ _ (h g cap w1 h1 h2 h3))
  rwa [if_pos (by simp [Region.wanted, hgd])] at this

/-- A state of a machine, as data. -/
structure St where
  k : Int
  s0 : Int
  s1 : Int
  s2 : Int
  s3 : Int
  nx : Int
  ot : Int
deriving Inhabited
abbrev St.V (s : St) : Value := .agg #[.int .i64 s.k, .int .u64 s.s0, .int .u64 s.s1, .int .u64 s.s2, .int .u64 s.s3, .int .i64 s.nx, .int .i64 s.ot]
def St.cells (s : St) : List Value := [.int .i64 s.k, .int .u64 s.s0, .int .u64 s.s1, .int .u64 s.s2, .int .u64 s.s3, .int .i64 s.nx, .int .i64 s.ot]
def stCells (l : List St) : List Value := l.flatMap St.cells
theorem stCells_length (l : List St) : (stCells l).length = l.length * 7 := by
  induction l with
  | nil => rfl
  | cons s l ih =>
    show (s.cells ++ stCells l).length = _
    rw [List.length_append, ih, List.length_cons]
    simp only [St.cells, List.length_cons, List.length_nil]
    omega
theorem stCells_snoc (l : List St) (s : St) : stCells (l ++ [s]) = stCells l ++ s.cells := by simp [stCells]

/-- What a layer's calls leave alone: all but the layer's own cell (block L) and its row's block. -/
structure Lays (L : Nat) (r : Option Nat) (w w' : World) : Prop where
  os : w'.os = w.os
  tape : w'.tape = w.tape
  output : w'.output = w.output
  size : w.heap.size ≤ w'.heap.size
  block : ∀ k, k < w.heap.size → k ≠ L → some k ≠ r → w'.heap[k]? = w.heap[k]?
/-- The row's block is the old one, or a new one. -/
def Moves (w : World) (v v' : Value) : Prop := v'.ownBlock = v.ownBlock ∨ ∃ b, v'.ownBlock = some b ∧ w.heap.size ≤ b
/-- A layer behind a pointer: block L holds the slice v; v owns the states l. -/
structure Layer (w : World) (L base : Nat) (v : Value) (l : List St) : Prop where
  cell : w.cell? ⟨L, 0, none⟩ = some v
  froz : w.frozen? ⟨L, 0, none⟩ = false
  own : w.ownsRow base 45 7 v l.length (stCells l)
  ne : v.ownBlock ≠ some L
  base : base ≤ w.heap.size
theorem Layer.lt {w : World} {L base : Nat} {v : Value} {l : List St} (h : Layer w L base v l) : L < w.heap.size := World.block_lt_of_cell? _ _ h.cell
theorem Lays.refl (L : Nat) (r : Option Nat) (w : World) : Lays L r w w := ⟨rfl, rfl, rfl, Nat.le_refl _, fun _ _ _ _ => rfl⟩
theorem Lays.of_below {L : Nat} {r : Option Nat} {w w' : World} (h : Below w.heap.size w w') : Lays L r w w' := ⟨h.os, h.tape, h.output, h.size, fun k hk _ _ => h.block k hk⟩
theorem Lays.trans {L : Nat} {v v1 : Value} {a b c : World} (h : Lays L v.ownBlock a b) (hm : Moves a v v1) (k : Lays L v1.ownBlock b c) : Lays L v.ownBlock a c :=
  ⟨k.os.trans h.os, k.tape.trans h.tape, k.output.trans h.output, Nat.le_trans h.size k.size, fun i hi h1 h2 => (k.block i (Nat.lt_of_lt_of_le hi h.size) h1 (fun e => by
    rcases hm with hm | ⟨b, hb, hle⟩
    · exact h2 (e.trans hm)
    · rw [hb] at e; injection e with e; omega)).trans (h.block i hi h1 h2)⟩
theorem Moves.refl (w : World) (v : Value) : Moves w v v := .inl rfl
theorem Moves.trans {a b : World} {v v1 v2 : Value} (h : Moves a v v1) (hs : a.heap.size ≤ b.heap.size) (k : Moves b v1 v2) : Moves a v v2 := by
  rcases k with k | ⟨x, hx, hle⟩
  · rcases h with h | ⟨y, hy, hle⟩
    · exact .inl (k.trans h)
    · exact .inr ⟨y, k.trans hy, hle⟩
  · exact .inr ⟨x, hx, by omega⟩
theorem Lays.cell {L : Nat} {r : Option Nat} {w w' : World} (h : Lays L r w w') {b o : Nat} (h0 : b < w.heap.size) (h1 : b ≠ L) (h2 : some b ≠ r) : w'.cell? ⟨b, o, none⟩ = w.cell? ⟨b, o, none⟩ := World.cell?_of_block (w := w) (h.block b h0 h1 h2)
theorem Lays.frozen {L : Nat} {r : Option Nat} {w w' : World} (h : Lays L r w w') {b o : Nat} (h0 : b < w.heap.size) (h1 : b ≠ L) (h2 : some b ≠ r) : w'.frozen? ⟨b, o, none⟩ = w.frozen? ⟨b, o, none⟩ := World.frozen?_of_block (w := w) (h.block b h0 h1 h2)
/-- What leaves all old blocks alone leaves a layer. -/
theorem Layer.later {w w' : World} {L base : Nat} {v : Value} {l : List St} (h : Layer w L base v l) (hb : Below w.heap.size w w') : Layer w' L base v l :=
  ⟨(hb.cell (p := ⟨L, 0, none⟩) h.lt).trans h.cell, (hb.frozen (p := ⟨L, 0, none⟩) h.lt).trans h.froz, h.own.kept (row := none) ⟨hb.os, hb.tape, hb.output, hb.size, fun k hk _ => hb.block k hk⟩ (by cases hv : v.ownBlock <;> simp), h.ne, Nat.le_trans h.base hb.size⟩
theorem St.cells_one (s : St) : ∀ u ∈ s.cells, u.oneCell' = true := by
  intro u hu
  simp only [St.cells, List.mem_cons, List.not_mem_nil, or_false] at hu
  rcases hu with rfl | rfl | rfl | rfl | rfl | rfl | rfl <;> rfl

theorem Tryz.infoState : (Tryz.prog.info? 45).map (fun i => (i.zero, i.size, i.bytes)) = some (some (.agg #[.int .i64 0, .int .u64 0, .int .u64 0, .int .u64 0, .int .u64 0, .int .i64 0, .int .i64 0]), 7, 56) := by kernel_rfl

set_option maxRecDepth 100000 in
set_option maxHeartbeats 1000000 in
theorem state_any (w : World) (L base : Nat) (v : Value) (l : List St) (s : St) (h : Layer w L base v l) (hl : l.length ≤ 1000000) :
    Calls Tryz.prog 20 #[.pointer (some ⟨L, 0, none⟩), s.V] w fun e w' => e = .returned (.int .i64 l.length) ∧ ∃ v', Layer w' L base v' (l ++ [s]) ∧ Moves w v v' ∧ Lays L v.ownBlock w w' := by
  have hL := h.lt
  have hc := h.cell
  have hf := h.froz
  obtain ⟨A, c, rfl⟩ : ∃ A c, v = .slice A l.length c := by
    rcases h.own.2 with ⟨rfl, h0⟩ | ⟨g, cap, cur, rfl, _⟩
    · exact ⟨none, 0, by rw [h0]⟩
    · exact ⟨_, cap, rfl⟩
  go_enter Tryz.func20, Tryz.ntmps20
  go_wp2_with fail
  have hown : ((w.alloc (.cells s.cells.toArray 45)).alloc (.cells s.cells.toArray 45)).drew.ownsRow base 45 7 (.slice A l.length c) l.length (stCells l) :=
    ((h.own.alloc _).alloc _).kept (row := none) ⟨rfl, rfl, rfl, Nat.le_refl _, fun _ _ _ => rfl⟩ (by cases A <;> simp [Value.ownBlock])
  have hnews : ∀ j u, s.cells[j]? = some u → ((w.alloc (.cells s.cells.toArray 45)).alloc (.cells s.cells.toArray 45)).drew.cell? ((⟨w.heap.size + 1, 0, none⟩ : Addr).add j) = some u := by
    intro j u hu
    have e : (⟨w.heap.size + 1, 0, none⟩ : Addr).add j = ⟨w.heap.size + 1, j, none⟩ := by unfold Addr.add; split <;> simp_all
    rw [e, World.cell?_drew]
    rw [show w.heap.size + 1 = (w.alloc (.cells s.cells.toArray 45)).heap.size by simp, World.cell?_alloc_new]
    simpa using hu
  have hb0 : base ≤ ((w.alloc (.cells s.cells.toArray 45)).alloc (.cells s.cells.toArray 45)).drew.heap.size := by have := h.base; simp; omega
  have hLA : (Value.slice A l.length c).ownBlock ≠ some L := h.ne
  have hcL : ((w.alloc (.cells s.cells.toArray 45)).alloc (.cells s.cells.toArray 45)).drew.cell? ⟨L, 0, none⟩ = some (.slice A l.length c) := by
    rw [World.cell?_drew, World.cell?_alloc_lt _ _ _ (by simp; omega), World.cell?_alloc_lt _ _ _ hL, hc]
  have hfL : ((w.alloc (.cells s.cells.toArray 45)).alloc (.cells s.cells.toArray 45)).drew.frozen? ⟨L, 0, none⟩ = false := by
    rw [World.frozen?_drew, World.frozen?_alloc_old _ _ _ (by simp; omega), World.frozen?_alloc_old _ _ _ (by simp; omega), hf]
  have Hown := Lib.hid hown; have Hnews := Lib.hid hnews; have HcL := Lib.hid hcL; have HfL := Lib.hid hfL; have Hb0 := Lib.hid hb0; have H := Lib.hid h; have HLA := Lib.hid hLA
  clear hown hnews hcL hfL hb0 h hLA
  go_region_law (refine step_append_at base rfl (.tmp 9) (.tmp 11) 22 45 _ 7 56 rfl Tryz.underlying22 Tryz.infoState rfl (by omega) (by omega) (.slice A l.length c) l.length 1 (stCells l) s.cells ⟨w.heap.size + 1, 0, none⟩ 1 rfl rfl (by omega) rfl Hnews.out s.cells_one Hown.out Hb0.out (by omega) (fun g cap w1 hown1 hg1 hat1 => ?_); have k0 : w1.cell? ⟨L, 0, none⟩ = some (.slice A l.length c) := (hg1.cell HcL.out (fun e => HLA.out e.symm)); have e0 : w1.frozen? ⟨L, 0, none⟩ = false := (World.frozen?_of_block (w := ((w.alloc (.cells s.cells.toArray 45)).alloc (.cells s.cells.toArray 45)).drew) (a := ⟨L, 0, none⟩) (hg1.block L (by simp; omega) (fun e => HLA.out e.symm))).trans HfL.out)
  all_goals
    have k1 := World.cell?_setCell_same w1 _ (.slice (some ⟨g, 0, none⟩) (l.length + 1) cap) k0
    have hlt : L < w1.heap.size := World.block_lt_of_cell? _ _ k0
    go_wp2_with fail
    go_ret
    have hg0 : (Value.slice A l.length c).ownBlock = some g ∨ w.heap.size ≤ g := by
      rcases hat1 with e | e
      · exact .inl e
      · exact .inr (by rw [e]; simp; omega)
    have hgL : g ≠ L := by
      intro e
      rcases hg0 with h0 | h0
      · exact HLA.out (by rw [h0, e])
      · omega
    have hz := hg1.size
    simp only [World.size_drew, World.size_alloc] at hz
    refine ⟨by go_num, _, ⟨k1, ?_, ?_, ?_, ?_⟩, ?_, ?_⟩
    · rw [World.frozen?_setCell]; exact e0
    · have := hown1.kept (w' := w1.setCell ⟨L, 0, none⟩ (.slice (some ⟨g, 0, none⟩) (l.length + 1) cap)) (row := some L) ⟨rfl, rfl, rfl, by simp, fun k hk hne => Below.heap_setCell _ _ _ _ (fun e => hne (by rw [e]))⟩ (.inr (by simp [Value.ownBlock]; exact hgL))
      rw [stCells_snoc, List.length_append]
      exact this
    · simp only [Value.ownBlock]; intro e; injection e with e; exact hgL e
    · have := H.out.base; simp only [World.size_setCell]; omega
    · rcases hg0 with h0 | h0
      · exact .inl (by rw [h0]; rfl)
      · exact .inr ⟨g, rfl, h0⟩
    · refine ⟨hg1.os, hg1.tape, hg1.output, by simp only [World.size_setCell]; omega, fun k hk h1 h2 => ?_⟩
      rw [Below.heap_setCell _ _ _ _ h1, hg1.block k (by simp; omega) h2]
      show ((w.heap.push _).push _)[k]? = _
      rw [Array.getElem?_push, Array.getElem?_push]
      simp only [Array.size_push]
      rw [if_neg (by omega), if_neg (by omega)]
end Go.Proofs.YteekafkpeimhoaaGreat

/- Machines in memory; two machines compared. -/
set_option linter.unusedVariables false
set_option linter.unusedSimpArgs false
namespace Go.Proofs.YteekafkpeimhoaaGreat
open Go.RowKit

deriving instance DecidableEq for St
def eqSt (a b : St) : Bool := a.k == b.k && eq4 a.s0 a.s1 a.s2 a.s3 b.s0 b.s1 b.s2 b.s3 && a.nx == b.nx && a.ot == b.ot
theorem eqSt_iff {a b : St} : eqSt a b = true ↔ a = b := by
  cases a; cases b
  simp [eqSt, eq4, and_assoc]
theorem eqSt_false {a b : St} (h : a ≠ b) : eqSt a b = false := by rw [Bool.eq_false_iff]; exact fun e => h (eqSt_iff.1 e)

theorem run_eqSt (w : World) (d : Nat) (a0 a1 a2 a3 a4 a5 a6 b0 b1 b2 b3 b4 b5 b6 : Int) :
    (Op.equalIn (d + 3) 45 (.agg #[.int .i64 a0, .int .u64 a1, .int .u64 a2, .int .u64 a3, .int .u64 a4, .int .i64 a5, .int .i64 a6]) (.agg #[.int .i64 b0, .int .u64 b1, .int .u64 b2, .int .u64 b3, .int .u64 b4, .int .i64 b5, .int .i64 b6])).run Tryz.prog w = .ok (a0 == b0 && eq4 a1 a2 a3 a4 b1 b2 b3 b4 && a5 == b5 && a6 == b6) w := by
  rw [Op.equalIn]
  simp only [Sem.run_bind, run_underlying Tryz.underlying45, Result.andThen_ok]
  simp [go_sem, List.range']
  by_cases h0 : a0 = b0 <;> cases h1 : eq4 a1 a2 a3 a4 b1 b2 b3 b4 <;> by_cases h2 : a5 = b5 <;> by_cases h3 : a6 = b6 <;> simp [h0, h2, h3]
@[go_sem high] theorem run_neqSt (w : World) (a0 a1 a2 a3 a4 a5 a6 b0 b1 b2 b3 b4 b5 b6 : Int) :
    (binOp .neq 45 (.agg #[.int .i64 a0, .int .u64 a1, .int .u64 a2, .int .u64 a3, .int .u64 a4, .int .i64 a5, .int .i64 a6]) (.agg #[.int .i64 b0, .int .u64 b1, .int .u64 b2, .int .u64 b3, .int .u64 b4, .int .i64 b5, .int .i64 b6])).run Tryz.prog w = .ok (.bool (!(eqSt ⟨a0, a1, a2, a3, a4, a5, a6⟩ ⟨b0, b1, b2, b3, b4, b5, b6⟩))) w := by
  rw [run_neq_struct, run_eqSt _ 9997]; rfl
/-- A state's seven cells from a place on. -/
structure St7 (w : World) (b o : Nat) (s : St) : Prop where
  f0 : w.cell? ⟨b, o, none⟩ = some (.int .i64 s.k)
  f1 : w.cell? ⟨b, o + 1, none⟩ = some (.int .u64 s.s0)
  f2 : w.cell? ⟨b, o + 2, none⟩ = some (.int .u64 s.s1)
  f3 : w.cell? ⟨b, o + 3, none⟩ = some (.int .u64 s.s2)
  f4 : w.cell? ⟨b, o + 4, none⟩ = some (.int .u64 s.s3)
  f5 : w.cell? ⟨b, o + 5, none⟩ = some (.int .i64 s.nx)
  f6 : w.cell? ⟨b, o + 6, none⟩ = some (.int .i64 s.ot)
theorem St7.mono {w w' : World} {b o : Nat} {s : St} (h : St7 w b o s) (hk : ∀ o, w'.cell? ⟨b, o, none⟩ = w.cell? ⟨b, o, none⟩) : St7 w' b o s :=
  ⟨(hk _).trans h.f0, (hk _).trans h.f1, (hk _).trans h.f2, (hk _).trans h.f3, (hk _).trans h.f4, (hk _).trans h.f5, (hk _).trans h.f6⟩
theorem addr_add' (b o j : Nat) : (⟨b, o, none⟩ : Addr).add j = ⟨b, o + j, none⟩ := by unfold Addr.add; split <;> simp_all
theorem St7.of {w : World} {b o : Nat} {s : St} (h : ∀ j, j < 7 → w.cell? ⟨b, o + j, none⟩ = s.cells[j]?) : St7 w b o s :=
  ⟨h 0 (by omega), h 1 (by omega), h 2 (by omega), h 3 (by omega), h 4 (by omega), h 5 (by omega), h 6 (by omega)⟩
/-- A list of states reads at A; each block that is read satisfies ok. -/
structure StsAt (w : World) (ok : Nat → Prop) (l : List St) (A : Option Addr) (c : Nat) : Prop where
  cap : l.length ≤ c
  len : l.length ≤ 17592186044416
  nil : A = none → c = 0
  at_ : 0 < l.length → ∃ b o, A = some ⟨b, o, none⟩ ∧ ok b ∧ ∀ i (hi : i < l.length), St7 w b (o + i * 7) l[i]
theorem StsAt.mono {w w' : World} {ok ok' : Nat → Prop} {l : List St} {A : Option Addr} {c : Nat} (h : StsAt w ok l A c) (hk : ∀ b, ok b → ok' b ∧ ∀ o, w'.cell? ⟨b, o, none⟩ = w.cell? ⟨b, o, none⟩) : StsAt w' ok' l A c :=
  ⟨h.cap, h.len, h.nil, fun hne => by
    obtain ⟨b, o, e, hb, hc⟩ := h.at_ hne
    exact ⟨b, o, e, (hk b hb).1, fun i hi => (hc i hi).mono (hk b hb).2⟩⟩
theorem StsAt.later {w w' : World} {ok : Nat → Prop} {B : Nat} {l : List St} {A : Option Addr} {c : Nat} (h : StsAt w ok l A c) (hb : Below B w w') (hok : ∀ b, ok b → b < B) : StsAt w' ok l A c :=
  h.mono fun b hk => ⟨hk, fun _ => hb.cell (p := ⟨b, _, none⟩) (hok b hk)⟩
abbrev nfaV (l : List St) (s : Int) (A : Option Addr) (c : Nat) : Value := .agg #[.slice A l.length c, .int .i64 s]

end Go.Proofs.YteekafkpeimhoaaGreat

/- SameNfa, KeptNfa, LentNfa: walked. -/
set_option linter.unusedVariables false
set_option linter.unusedSimpArgs false
namespace Go.Proofs.YteekafkpeimhoaaGreat
open Go.RowKit

theorem belowN {B : Nat} {a w : World} (h : Below B a w) (n : Nat) : Below B a (w.drewN n) := ⟨h.os, h.tape, h.output, h.size, h.block⟩
/-- Are two machines the same? -/
def sameM (a : List St) (sa : Int) (b : List St) (sb : Int) : Bool := decide (sa = sb ∧ a = b)
set_option maxRecDepth 100000 in
set_option maxHeartbeats 2000000 in
theorem same_any (w : World) (ok : Nat → Prop) (a b : List St) (sa sb : Int) (A B : Option Addr) (c d : Nat) (ha : StsAt w ok a A c) (hb : StsAt w ok b B d) (hok : ∀ b, ok b → b < w.heap.size) :
    Calls Tryz.prog 8 #[nfaV a sa A c, nfaV b sb B d] w fun e w' => e = .returned (.bool (sameM a sa b sb)) ∧ Below w.heap.size w w' := by
  have hla := ha.len
  have hlb := hb.len
  by_cases h1 : sa = sb
  case neg =>
    have hres : sameM a sa b sb = false := by simp [sameM, h1]
    have Hres := Lib.hid hres; clear hres
    go_enter Tryz.func8, Tryz.ntmps8
    go_wp2_with fail
    go_ret
    exact ⟨by rw [Hres.out]; rfl, ((Below.refl _ _).alloc (Nat.le_refl _) _).alloc (by simp) _⟩
  subst h1
  by_cases h2 : a.length = b.length
  case neg =>
    have hres : sameM a sa b sa = false := by simp [sameM]; intro e; exact h2 (by rw [e])
    have Hres := Lib.hid hres; clear hres
    have h2' : ¬ ((a.length : Int) = b.length) := by omega
    go_enter Tryz.func8, Tryz.ntmps8
    go_wp2_with fail
    go_ret
    exact ⟨by rw [Hres.out]; rfl, ((Below.refl _ _).alloc (Nat.le_refl _) _).alloc (by simp) _⟩
  go_enter Tryz.func8, Tryz.ntmps8
  have h2' : (a.length : Int) = b.length := by omega
  go_wp2_with fail
  clear h2'
  generalize hW : (w.alloc _).alloc _ = W0
  have hB0 : Below w.heap.size w W0 := by subst hW; exact ((Below.refl _ _).alloc (Nat.le_refl _) _).alloc (by simp) _
  have p0 : W0.cell? ⟨w.heap.size, 0, none⟩ = some (.slice A a.length c) := by subst hW; simp [go_sem, h2]
  have q0 : W0.cell? ⟨w.heap.size + 1, 0, none⟩ = some (.slice B b.length d) := by subst hW; simp [go_sem]
  clear hW
  have ha0 := ha.later hB0 hok
  have hb0 := hb.later hB0 hok
  have h2a : a.length ≤ b.length := by omega
  have h2b : b.length ≤ a.length := by omega
  clear h2
  go_loopg [5] (a.length) (fun n i wr => ∃ (j : Nat) (m : Nat), i = .int .i64 j ∧ j + n = a.length ∧ (∀ k, k < j → a[k]? = b[k]?) ∧ wr = W0.drewN m)
  case atStart => exact ⟨0, 0, rfl, by omega, by omega, rfl⟩
  case round =>
    obtain ⟨j, m, rfl, hj, hm, rfl⟩ := hrel
    by_cases hlt : j < a.length
    · obtain ⟨x, o, rfl, hx, hcell⟩ := ha0.at_ (by omega)
      obtain ⟨y, u, rfl, hy, hcellb⟩ := hb0.at_ (by omega)
      obtain ⟨f0, f1, f2, f3, f4, f5, f6⟩ := hcell j hlt
      obtain ⟨g0, g1, g2, g3, g4, g5, g6⟩ := hcellb j (by omega)
      have i1 : (j : Int) < (a.length : Int) := by omega
      have i2 : (j : Int) < (b.length : Int) := by omega
      have i0 : (0 : Int) ≤ (j : Int) := by omega
      go_wp2_with fail
      go_quiet (fail)
      generalize hq : eqSt _ _ = q
      have hq' : eqSt a[j] b[j] = q := hq
      clear hq
      cases q with
      | false =>
        have hres : sameM a sa b sa = false := by
          simp only [sameM, decide_eq_false_iff_not, true_and]
          intro e
          subst e
          rw [eqSt_iff.2 rfl] at hq'
          simp at hq'
        have Hres := Lib.hid hres; clear hres hq'
        go_wp2_with fail
        go_ret
        exact ⟨by rw [Hres.out]; rfl, by simpa using belowN hB0 (m + nq)⟩
      | true =>
        have hq2 := Lib.hid (eqSt_iff.1 hq'); clear hq'
        go_wp2_with fail
        go_roundg (gk - 1)
        case measure => omega
        case rel => exact ⟨j + 1, m + nq, by go_num, by omega, fun k hk => by
          rcases Nat.lt_or_ge k j with h | h
          · exact hm k h
          · have : k = j := by omega
            subst this
            rw [List.getElem?_eq_getElem hlt, List.getElem?_eq_getElem (by omega), hq2.out], by simp⟩
    · have hres : sameM a sa b sa = true := by
        simp only [sameM, decide_eq_true_eq, true_and]
        refine List.ext_getElem? fun k => ?_
        rcases Nat.lt_or_ge k j with h | h
        · exact hm k h
        · rw [List.getElem?_eq_none (by omega), List.getElem?_eq_none (by omega)]
      have Hres := Lib.hid hres; clear hres
      have i1 : (a.length : Int) ≤ (j : Int) := by omega
      go_wp2_with fail
      go_ret
      exact ⟨by rw [Hres.out]; rfl, belowN hB0 _⟩
end Go.Proofs.YteekafkpeimhoaaGreat

/- LentNfa, KeptNfa: walked. -/
set_option linter.unusedVariables false
set_option linter.unusedSimpArgs false
namespace Go.Proofs.YteekafkpeimhoaaGreat
open Go.RowKit

/-- append of a slice that may be nil or empty. -/
theorem wpList_append_from {P : Program} {ops : Array Oper} {rest : List Oper} {o : Oper} {a : Act} {Q : Exit → Act → World → Prop} {W : World} (base : Nat)
    (hgd : o.guard = none) (s x : Operand) (t e : TypeId) (z : Value) (size bytes : Nat)
    (ho : o.op = .call { callee := .builtin .append, args := #[s, x], argTypes := #[t, t] })
    (ht : P.underlying t = some (.slice e)) (hinfo : (P.info? e).map (fun i => (i.zero, i.size, i.bytes)) = some (some z, size, bytes)) (hz : z.cells.size = size) (hs0 : 0 < size) (hb0 : 0 < bytes)
    (v : Value) (n m : Nat) (xs ys : List Value) (A : Option Addr) (c : Nat) (hs : a.eval s = v) (hx : a.eval x = .slice A m c) (hA : A = none → m = 0 ∧ c = 0) (hys : ys.length = m * size)
    (hnews : ∀ ad, A = some ad → ∀ j u, ys[j]? = some u → W.cell? (ad.add j) = some u) (h1 : ∀ u ∈ ys, u.oneCell' = true)
    (HO : W.ownsRow base e size v n xs) (hbase : base ≤ W.heap.size) (hl : (n + m) * bytes ≤ 140737488355328)
    (h : ∀ A' c' w1, w1.ownsRow base e size (.slice A' (n + m) c') (n + m) (xs ++ ys) → W.grownBy w1 v.ownBlock → ((Value.slice A' (n + m) c').ownBlock = v.ownBlock ∨ (Value.slice A' (n + m) c').ownBlock = some W.heap.size) →
      wpList P ops Q rest (a.put o.dst (.slice A' (n + m) c')) w1) :
    wpList P ops Q (o :: rest) a W := by
  refine wpList_plain hgd fun K hK => ?_
  obtain ⟨i0, hi, hzz⟩ := Option.map_eq_some_iff.1 hinfo
  simp only [Prod.mk.injEq] at hzz
  obtain ⟨hz0, hz1, hz2⟩ := hzz
  have hlen : n + m ≤ 140737488355328 := Nat.le_trans (Nat.le_mul_of_pos_right _ hb0) hl
  unfold Oper.wp execOp
  cases A with
  | none =>
    obtain ⟨rfl, rfl⟩ := hA rfl
    have hy : ys = [] := by simpa using hys
    subst hy
    have hr := run_append_owned_none (P := P) (w := W) base t o.type e i0 size ht hi v n xs HO
    simp only [ho, resolve, invoke, builtin, Sem.run_bind, Sem.run_pure, Result.andThen_ok, List.map_toArray, List.map_cons, List.map_nil, hs, hx, hr]
    have hv : ∃ A' c', v = .slice A' (n + 0) c' := by
      rcases HO.2 with ⟨rfl, rfl⟩ | ⟨g, cap, cur, rfl, _⟩
      · exact ⟨_, _, rfl⟩
      · exact ⟨_, _, rfl⟩
    obtain ⟨A', c', rfl⟩ := hv
    exact hK _ _ (h A' c' W (by simpa using HO) ⟨rfl, rfl, rfl, Nat.le_refl _, fun _ _ _ => rfl⟩ (.inl rfl))
  | some ad =>
    obtain ⟨v1, w1, hr, hown, hg, _, hat⟩ := run_append_own_at (P := P) W base t o.type e i0 z size bytes ht hi hz0 hz1 hz2 hz hs0 v n xs HO ad m c ys hys (hnews ad rfl) h1 (by simp only [maxLen]; omega) hl hbase
    simp only [ho, resolve, invoke, builtin, Sem.run_bind, Sem.run_pure, Result.andThen_ok, List.map_toArray, List.map_cons, List.map_nil, hs, hx, hr]
    have hv : ∃ A' c', v1 = .slice A' (n + m) c' := by
      rcases hown.2 with ⟨rfl, h0⟩ | ⟨g, cap, cur, rfl, _⟩
      · exact ⟨_, _, by rw [h0]⟩
      · exact ⟨_, _, rfl⟩
    obtain ⟨A', c', rfl⟩ := hv
    exact hK _ _ (h A' c' w1 hown hg hat)

theorem addr_add (b o j : Nat) : (⟨b, o, none⟩ : Addr).add j = ⟨b, o + j, none⟩ := by unfold Addr.add; split <;> simp_all
theorem stCells_one (l : List St) : ∀ u ∈ stCells l, u.oneCell' = true := by
  intro u hu
  obtain ⟨s, hs, hu⟩ := List.mem_flatMap.1 hu
  exact s.cells_one u hu
theorem stCells_get : ∀ (l : List St) (i j : Nat) (hi : i < l.length), j < 7 → (stCells l)[i * 7 + j]? = l[i].cells[j]?
  | s :: l, 0, j, hi, hj => by
    show (s.cells ++ stCells l)[0 * 7 + j]? = _
    rw [Nat.zero_mul, Nat.zero_add, List.getElem?_append_left (by simp [St.cells]; omega)]
    rfl
  | s :: l, i + 1, j, hi, hj => by
    show (s.cells ++ stCells l)[(i + 1) * 7 + j]? = _
    rw [List.getElem?_append_right (by simp [St.cells]; omega)]
    simp only [St.cells, List.length_cons, List.length_nil]
    rw [show (i + 1) * 7 + j - (0 + 1 + 1 + 1 + 1 + 1 + 1 + 1) = i * 7 + j by omega, stCells_get l i j (by simpa using hi) hj]
    rfl
/-- The cells behind a slice of states, one by one. -/
theorem St7.cells {w : World} {b o : Nat} {s : St} (h : St7 w b o s) (j : Nat) (hj : j < 7) : w.cell? ⟨b, o + j, none⟩ = s.cells[j]? := by
  have : j = 0 ∨ j = 1 ∨ j = 2 ∨ j = 3 ∨ j = 4 ∨ j = 5 ∨ j = 6 := by omega
  rcases this with rfl | rfl | rfl | rfl | rfl | rfl | rfl
  · exact h.f0
  · exact h.f1
  · exact h.f2
  · exact h.f3
  · exact h.f4
  · exact h.f5
  · exact h.f6
theorem StsAt.cells {w : World} {ok : Nat → Prop} {l : List St} {b o c : Nat} (h : StsAt w ok l (some ⟨b, o, none⟩) c) : ∀ j u, (stCells l)[j]? = some u → w.cell? ⟨b, o + j, none⟩ = some u := by
  intro j u hu
  have hj : j < l.length * 7 := by
    rw [← stCells_length]; exact (List.getElem?_eq_some_iff.1 hu).1
  obtain ⟨b', o', e, _, hc⟩ := h.at_ (by omega)
  simp only [Option.some.injEq, Addr.mk.injEq, and_true] at e
  obtain ⟨rfl, rfl⟩ := e
  have hi : j / 7 < l.length := by omega
  have := (hc (j / 7) hi).cells (j % 7) (Nat.mod_lt _ (by omega))
  rw [show o + j = o + j / 7 * 7 + j % 7 by omega, this, ← stCells_get l _ _ hi (Nat.mod_lt _ (by omega)), show j / 7 * 7 + j % 7 = j by omega, hu]
/-- An owned row of states reads. -/
theorem stsAt_own {w : World} {base : Nat} {l : List St} {A : Option Addr} {c : Nat} (h : w.ownsRow base 45 7 (.slice A l.length c) l.length (stCells l)) (hl : l.length ≤ 17592186044416) :
    StsAt w (fun b => base ≤ b ∧ b < w.heap.size) l A c := by
  have h0 := h
  rcases h.2 with ⟨e, h1⟩ | ⟨g, cap, cur, e, hb, hg, hn, _⟩
  · simp only [Value.slice.injEq] at e
    obtain ⟨rfl, _, rfl⟩ := e
    exact ⟨by omega, hl, fun _ => rfl, fun hh => by omega⟩
  · simp only [Value.slice.injEq] at e
    obtain ⟨rfl, _, rfl⟩ := e
    have hlt : g < w.heap.size := by
      rcases Nat.lt_or_ge g w.heap.size with h | h
      · exact h
      · rw [Array.getElem?_eq_none h] at hg; simp at hg
    refine ⟨hn, hl, fun e => by simp at e, fun _ => ⟨g, 0, rfl, ⟨hb, hlt⟩, fun i hi => .of fun j hj => ?_⟩⟩
    rw [← stCells_get l i j hi hj, Nat.zero_add]
    exact h0.cellAt _ (by omega)
theorem StsAt.take {w : World} {ok : Nat → Prop} {l m : List St} {A : Option Addr} {c : Nat} (h : StsAt w ok (l ++ m) A c) : StsAt w ok l A c :=
  ⟨by have := h.cap; simp at this; omega, by have := h.len; simp at this; omega, h.nil, fun hne => by
    obtain ⟨b, o, e, hb, hc⟩ := h.at_ (by simp; omega)
    exact ⟨b, o, e, hb, fun i hi => by have := hc i (by simp; omega); rwa [List.getElem_append_left hi] at this⟩⟩
end Go.Proofs.YteekafkpeimhoaaGreat

/- LentNfa: walked. -/
set_option linter.unusedVariables false
set_option linter.unusedSimpArgs false
namespace Go.Proofs.YteekafkpeimhoaaGreat
open Go.RowKit

theorem grown_cells {W w1 : World} (hg : W.grownBy w1 none) : (∀ b o, b < W.heap.size → w1.cell? ⟨b, o, none⟩ = W.cell? ⟨b, o, none⟩) ∧ (∀ b o, b < W.heap.size → w1.frozen? ⟨b, o, none⟩ = W.frozen? ⟨b, o, none⟩) ∧ W.heap.size ≤ w1.heap.size :=
  ⟨fun b o h => World.cell?_of_block (w := W) (hg.block b h (by simp)), fun b o h => World.frozen?_of_block (w := W) (hg.block b h (by simp)), hg.size⟩
abbrev s77 : St := ⟨-77, 0, 0, 0, 0, 0, 0⟩
/-- The three boxes of LentNfa: what came in, the result, the copy. -/
structure LentB (n : Nat) (sa : Int) (wr : World) (x v : Value) : Prop where
  p0 : wr.cell? ⟨n, 0, none⟩ = some x
  q0 : wr.cell? ⟨n + 1 + 1, 0, none⟩ = some v
  q1 : wr.cell? ⟨n + 1 + 1, 1, none⟩ = some (.int .i64 sa)
  qf : wr.frozen? ⟨n + 1 + 1, 0, none⟩ = false
  r0 : wr.cell? ⟨n + 1, 0, none⟩ = some (.slice none 0 0)
  r1 : wr.cell? ⟨n + 1, 1, none⟩ = some (.int .i64 0)
  rf0 : wr.frozen? ⟨n + 1, 0, none⟩ = false
  rf1 : wr.frozen? ⟨n + 1, 1, none⟩ = false
  sz : n + 2 < wr.heap.size
theorem LentB.grown {n : Nat} {sa : Int} {wr w1 : World} {x v : Value} {row : Option Nat} (h : LentB n sa wr x v) (hg : wr.grownBy w1 row) (hr : ∀ k, row = some k → n + 3 ≤ k) : LentB n sa w1 x v := by
  have hz := h.sz
  have k : ∀ b o, b < n + 3 → w1.cell? ⟨b, o, none⟩ = wr.cell? ⟨b, o, none⟩ := fun b o hb => World.cell?_of_block (w := wr) (hg.block b (by omega) (fun e => by have := hr b e.symm; omega))
  have f : ∀ b o, b < n + 3 → w1.frozen? ⟨b, o, none⟩ = wr.frozen? ⟨b, o, none⟩ := fun b o hb => World.frozen?_of_block (w := wr) (hg.block b (by omega) (fun e => by have := hr b e.symm; omega))
  have := hg.size
  exact ⟨(k _ _ (by omega)).trans h.p0, (k _ _ (by omega)).trans h.q0, (k _ _ (by omega)).trans h.q1, (f _ _ (by omega)).trans h.qf, (k _ _ (by omega)).trans h.r0, (k _ _ (by omega)).trans h.r1, (f _ _ (by omega)).trans h.rf0, (f _ _ (by omega)).trans h.rf1, by omega⟩
theorem LentB.set {n : Nat} {sa : Int} {wr : World} {x v : Value} (h : LentB n sa wr x v) (u : Value) : LentB n sa (wr.setCell ⟨n + 1 + 1, 0, none⟩ u) x u :=
  ⟨by rw [World.cell?_setCell_other (h := by simp)]; exact h.p0, World.cell?_setCell_same _ _ _ h.q0, by rw [World.cell?_setCell_other (h := by simp)]; exact h.q1, by rw [World.frozen?_setCell]; exact h.qf,
    by rw [World.cell?_setCell_other (h := by simp)]; exact h.r0, by rw [World.cell?_setCell_other (h := by simp)]; exact h.r1, by rw [World.frozen?_setCell]; exact h.rf0, by rw [World.frozen?_setCell]; exact h.rf1, by simpa using h.sz⟩
theorem lentB_new {w : World} {x y v : Value} {sa : Int} {t : TypeId} : LentB w.heap.size sa (((w.alloc (.cells #[x, y] t)).alloc (.cells #[.slice none 0 0, .int .i64 0] t)).alloc (.cells #[v, .int .i64 sa] t)) x v := by
  have e : w.heap.size + 1 + 1 = (((w.alloc (.cells #[x, y] t)).alloc (.cells #[.slice none 0 0, .int .i64 0] t))).heap.size := by simp only [World.size_alloc]
  have e1 : w.heap.size + 1 = ((w.alloc (.cells #[x, y] t))).heap.size := by simp only [World.size_alloc]
  refine ⟨?_, ?_, ?_, ?_, ?_, ?_, ?_, ?_, ?_⟩
  · rw [World.cell?_alloc_lt _ _ _ (by simp only [World.size_alloc]; omega), World.cell?_alloc_lt _ _ _ (by simp only [World.size_alloc]; omega), World.cell?_alloc_new]; rfl
  · rw [e, World.cell?_alloc_new]; rfl
  · rw [e, World.cell?_alloc_new]; rfl
  · rw [e, World.frozen?_alloc_new]
  · rw [World.cell?_alloc_lt _ _ _ (by simp only [World.size_alloc]; omega), e1, World.cell?_alloc_new]; rfl
  · rw [World.cell?_alloc_lt _ _ _ (by simp only [World.size_alloc]; omega), e1, World.cell?_alloc_new]; rfl
  · rw [World.frozen?_alloc_old _ _ _ (by simp only [World.size_alloc]; omega), e1, World.frozen?_alloc_new]
  · rw [World.frozen?_alloc_old _ _ _ (by simp only [World.size_alloc]; omega), e1, World.frozen?_alloc_new]
  · simp only [World.size_alloc]; omega
/-- The loop of LentNfa. -/
def LentI (w : World) (l : List St) (sa : Int) (A : Option Addr) (c n : Nat) (i : Value) (wr : World) : Prop :=
  ∃ (j : Nat) (A' : Option Addr) (c' : Nat), i = .int .i64 j ∧ j + n = 5 ∧ Below w.heap.size w wr ∧ LentB w.heap.size sa wr (.slice A l.length c) (.slice A' (l.length + j) c') ∧
    wr.ownsRow (w.heap.size + 3) 45 7 (.slice A' (l.length + j) c') (l.length + j) (stCells (l ++ List.replicate j s77))
theorem own_ge {w : World} {base : Nat} {e : TypeId} {size n : Nat} {v : Value} {xs : List Value} (h : w.ownsRow base e size v n xs) : ∀ k, v.ownBlock = some k → base ≤ k := by
  intro k hk
  rcases h.2 with ⟨rfl, _⟩ | ⟨g, cap, cur, rfl, hb, _⟩
  · simp [Value.ownBlock] at hk
  · simp [Value.ownBlock] at hk; omega
theorem below_grown {B : Nat} {w wr w1 : World} {row : Option Nat} (h : Below B w wr) (hs : B ≤ wr.heap.size) (hg : wr.grownBy w1 row) (hr : ∀ k, row = some k → B ≤ k) : Below B w w1 :=
  ⟨hg.os.trans h.os, hg.tape.trans h.tape, hg.output.trans h.output, Nat.le_trans h.size hg.size, fun k hk => (hg.block k (by omega) (fun e => by have := hr k e.symm; omega)).trans (h.block k hk)⟩

end Go.Proofs.YteekafkpeimhoaaGreat

/-
  Trees of patterns as plain data, and what it means that a value reads as one in a world. Plain Lean: no program in sight.
-/
set_option linter.unusedVariables false
namespace Go.Proofs.YteekafkpeimhoaaGreat
open Go.RowKit

/-- A pattern's tree, as data: its kind, its set's four words, Min, Max, its parts. -/
inductive T where
  | mk (k s0 s1 s2 s3 mn mx : Int) (ps : List T)
deriving Inhabited

namespace T
def k : T → Int | .mk k _ _ _ _ _ _ _ => k
def s0 : T → Int | .mk _ s _ _ _ _ _ _ => s
def s1 : T → Int | .mk _ _ s _ _ _ _ _ => s
def s2 : T → Int | .mk _ _ _ s _ _ _ _ => s
def s3 : T → Int | .mk _ _ _ _ s _ _ _ => s
def mn : T → Int | .mk _ _ _ _ _ m _ _ => m
def mx : T → Int | .mk _ _ _ _ _ _ m _ => m
def ps : T → List T | .mk _ _ _ _ _ _ _ p => p
theorem eta (t : T) : t = .mk t.k t.s0 t.s1 t.s2 t.s3 t.mn t.mx t.ps := by cases t; rfl
theorem lt_of_mem {p t : T} (h : p ∈ t.ps) : SizeOf.sizeOf p < SizeOf.sizeOf t := by
  cases t with
  | mk k s0 s1 s2 s3 mn mx ps =>
    have := List.sizeOf_lt_of_mem (show p ∈ ps from h)
    simp only [T.mk.sizeOf_spec]
    omega
/-- Induction over a tree and its parts. -/
theorem ind {motive : T → Prop} (h : ∀ t, (∀ p ∈ t.ps, motive p) → motive t) (t : T) : motive t :=
  h t fun p hp => ind h p
termination_by SizeOf.sizeOf t
decreasing_by exact lt_of_mem hp
end T

/-- A node's value: A, c: its parts' address and capacity. -/
abbrev nodeV (t : T) (A : Option Addr) (c : Nat) : Value :=
  .agg #[.int .i64 t.k, .int .u64 t.s0, .int .u64 t.s1, .int .u64 t.s2, .int .u64 t.s3, .int .i64 t.mn, .int .i64 t.mx, .slice A t.ps.length c]

/-- A node's eight cells from a place on. -/
structure At8 (w : World) (b o : Nat) (t : T) (A : Option Addr) (c : Nat) : Prop where
  f0 : w.cell? ⟨b, o, none⟩ = some (.int .i64 t.k)
  f1 : w.cell? ⟨b, o + 1, none⟩ = some (.int .u64 t.s0)
  f2 : w.cell? ⟨b, o + 2, none⟩ = some (.int .u64 t.s1)
  f3 : w.cell? ⟨b, o + 3, none⟩ = some (.int .u64 t.s2)
  f4 : w.cell? ⟨b, o + 4, none⟩ = some (.int .u64 t.s3)
  f5 : w.cell? ⟨b, o + 5, none⟩ = some (.int .i64 t.mn)
  f6 : w.cell? ⟨b, o + 6, none⟩ = some (.int .i64 t.mx)
  f7 : w.cell? ⟨b, o + 7, none⟩ = some (.slice A t.ps.length c)

theorem At8.mono {w w' : World} {b o : Nat} {t : T} {A : Option Addr} {c : Nat} (h : At8 w b o t A c) (hk : ∀ o, w'.cell? ⟨b, o, none⟩ = w.cell? ⟨b, o, none⟩) : At8 w' b o t A c :=
  ⟨(hk _).trans h.f0, (hk _).trans h.f1, (hk _).trans h.f2, (hk _).trans h.f3, (hk _).trans h.f4, (hk _).trans h.f5, (hk _).trans h.f6, (hk _).trans h.f7⟩

/-- A tree reads in a world, its parts' list at A with capacity c; every block that is read satisfies 'ok'. -/
inductive NodeAt (w : World) (ok : Nat → Prop) : T → Option Addr → Nat → Prop where
  | mk (t : T) (A : Option Addr) (c : Nat) (As : Nat → Option Addr) (cs : Nat → Nat) :
      t.ps.length ≤ c → t.ps.length ≤ 17592186044416 →
      (t.ps ≠ [] → ∃ b o, A = some ⟨b, o, none⟩ ∧ ok b ∧ ∀ i p, t.ps[i]? = some p → At8 w b (o + i * 8) p (As i) (cs i)) →
      (∀ i p, t.ps[i]? = some p → NodeAt w ok p (As i) (cs i)) →
      NodeAt w ok t A c

theorem NodeAt.mono {w w' : World} {ok ok' : Nat → Prop} (hk : ∀ b, ok b → ok' b ∧ ∀ o, w'.cell? ⟨b, o, none⟩ = w.cell? ⟨b, o, none⟩) {t : T} {A : Option Addr} {c : Nat} (h : NodeAt w ok t A c) : NodeAt w' ok' t A c := by
  induction h with
  | mk t A c As cs hc hl ha hp ih =>
    refine .mk t A c As cs hc hl (fun hne => ?_) ih
    obtain ⟨b, o, e, hb, hcell⟩ := ha hne
    exact ⟨b, o, e, (hk b hb).1, fun i p hi => (hcell i p hi).mono (hk b hb).2⟩

theorem NodeAt.later {w w' : World} {ok : Nat → Prop} {B : Nat} (hb : Below B w w') (hok : ∀ b, ok b → b < B) {t : T} {A : Option Addr} {c : Nat} (h : NodeAt w ok t A c) : NodeAt w' ok t A c :=
  h.mono fun b hk => ⟨hk, fun _ => hb.cell (p := ⟨b, _, none⟩) (hok b hk)⟩

/-- Part i: its eight cells, and that it reads. -/
theorem NodeAt.part {w : World} {ok : Nat → Prop} {t : T} {A : Option Addr} {c : Nat} (h : NodeAt w ok t A c) (hne : 0 < t.ps.length) :
    ∃ b o, A = some ⟨b, o, none⟩ ∧ ok b ∧ ∀ i (hi : i < t.ps.length), ∃ A' c', At8 w b (o + i * 8) t.ps[i] A' c' ∧ NodeAt w ok t.ps[i] A' c' := by
  cases h with
  | mk _ _ _ As cs hc hl ha hp =>
    obtain ⟨b, o, e, hb, hcell⟩ := ha (fun e => by simp [e] at hne)
    exact ⟨b, o, e, hb, fun i hi => ⟨_, _, hcell i _ (List.getElem?_eq_getElem hi), hp i _ (List.getElem?_eq_getElem hi)⟩⟩

theorem NodeAt.cap {w : World} {ok : Nat → Prop} {t : T} {A : Option Addr} {c : Nat} (h : NodeAt w ok t A c) : t.ps.length ≤ c := by cases h; assumption
theorem NodeAt.len {w : World} {ok : Nat → Prop} {t : T} {A : Option Addr} {c : Nat} (h : NodeAt w ok t A c) : t.ps.length ≤ 17592186044416 := by cases h; assumption

/-- Old cells and marks read as before: two rules for the walk. -/
theorem bcell {W w1 : World} (hb : Below W.heap.size W w1) : (∀ b o, b < W.heap.size → w1.cell? ⟨b, o, none⟩ = W.cell? ⟨b, o, none⟩) ∧ (∀ b o, b < W.heap.size → w1.frozen? ⟨b, o, none⟩ = W.frozen? ⟨b, o, none⟩) :=
  ⟨fun b o h => hb.cell (p := ⟨b, o, none⟩) h, fun b o h => hb.frozen (p := ⟨b, o, none⟩) h⟩

theorem drop_cons {α : Type} {l : List α} {j : Nat} (h : j < l.length) : l.drop j = l[j] :: l.drop (j + 1) := List.drop_eq_getElem_cons h

end Go.Proofs.YteekafkpeimhoaaGreat

/- KeptNfa: walked. -/
set_option linter.unusedVariables false
set_option linter.unusedSimpArgs false
namespace Go.Proofs.YteekafkpeimhoaaGreat
open Go.RowKit

end Go.Proofs.YteekafkpeimhoaaGreat

/- nfa.Check: walked. -/
set_option linter.unusedVariables false
set_option linter.unusedSimpArgs false
namespace Go.Proofs.YteekafkpeimhoaaGreat
open Go.RowKit

def inR (n i : Int) : Bool := decide (0 ≤ i) && decide (i < n)
/-- May a state be, among n? -/
def okSt (n : Int) (s : St) : Bool := if s.k = 5 then true else if s.k = 1 ∨ s.k = 3 ∨ s.k = 4 then inR n s.nx else if s.k = 2 then inR n s.nx && inR n s.ot else false
/-- May a machine be? -/
def mcheck (l : List St) (sa : Int) : Int := if (l.length : Int) ≤ 4096 ∧ inR l.length sa = true then (if l.all (okSt l.length) then 0 else 110) else 110

set_option maxRecDepth 100000 in
set_option maxHeartbeats 1000000 in
theorem in_any (w : World) (b : Nat) (n i : Int) (h : w.cell? ⟨b, 0, none⟩ = some (.int .i64 n)) : Calls Tryz.prog 39 #[.int .i64 i, .pointer (some ⟨b, 0, none⟩)] w fun e w' => e = .returned (.bool (inR n i)) ∧ w' = w := by
  go_enter Tryz.func39, Tryz.ntmps39
  by_cases h1 : 0 ≤ i
  · by_cases h2 : i < n
    · have hr : inR n i = true := by simp [inR, h1, h2]
      have Hr := Lib.hid hr; clear hr
      go_wp2_with fail
      go_ret
      exact ⟨by rw [Hr.out]; rfl, rfl⟩
    · have hr : inR n i = false := by simp [inR]; omega
      have Hr := Lib.hid hr; clear hr
      go_wp2_with fail
      go_ret
      exact ⟨by rw [Hr.out]; rfl, rfl⟩
  · have hr : inR n i = false := by simp [inR]; omega
    have Hr := Lib.hid hr; clear hr
    go_wp2_with fail
    go_ret
    exact ⟨by rw [Hr.out]; rfl, rfl⟩

set_option maxRecDepth 100000 in
set_option maxHeartbeats 4000000 in
theorem ncheck_any (w : World) (ok : Nat → Prop) (l : List St) (sa : Int) (A : Option Addr) (c : Nat) (ha : StsAt w ok l A c) (hok : ∀ b, ok b → b < w.heap.size) :
    Calls Tryz.prog 22 #[nfaV l sa A c] w fun e w' => e = .returned (.int .i64 (mcheck l sa)) ∧ Below w.heap.size w w' := by
  have hmf : ∀ (fn : Fn) (first cap : Array Value) (w : World), (Instr.makeFunc fn first cap).run Tryz.prog w = .ok (.func fn first cap) w := fun _ _ _ _ => rfl
  have hlen := ha.len
  by_cases hbig : 4096 < (l.length : Int)
  · have hres : mcheck l sa = 110 := by rw [mcheck, if_neg (by omega)]
    have Hres := Lib.hid hres; clear hres
    go_enter Tryz.func22, Tryz.ntmps22
    go_wp2_with fail
    go_ret
    exact ⟨by rw [Hres.out]; rfl, ((Below.refl _ _).alloc (Nat.le_refl _) _).alloc (by simp) _⟩
  go_enter Tryz.func22, Tryz.ntmps22
  go_wp2_with fail
  generalize hW : (w.alloc _).alloc _ = W0
  have hB0 : Below w.heap.size w W0 := by subst hW; exact ((Below.refl _ _).alloc (Nat.le_refl _) _).alloc (by simp) _
  have hsz : w.heap.size + 2 ≤ W0.heap.size := by subst hW; simp
  have p0 : W0.cell? ⟨w.heap.size, 0, none⟩ = some (.slice A l.length c) := by subst hW; simp [go_sem]
  have p1 : W0.cell? ⟨w.heap.size, 1, none⟩ = some (.int .i64 sa) := by subst hW; simp [go_sem]
  have q0 : W0.cell? ⟨w.heap.size + 1, 0, none⟩ = some (.int .i64 l.length) := by subst hW; simp [go_sem]
  clear hW
  refine (in_any _ (w.heap.size + 1) l.length sa q0).mono ?_
  rintro e wx ⟨rfl, rfl⟩
  cases hs : inR l.length sa with
  | false =>
    have hres : mcheck l sa = 110 := by rw [mcheck, if_neg (by simp [hs])]
    have Hres := Lib.hid hres; clear hres
    go_wp2_with fail
    go_ret
    exact ⟨by rw [Hres.out]; rfl, hB0⟩
  | true =>
    have hres : mcheck l sa = if l.all (okSt l.length) then 0 else 110 := by rw [mcheck, if_pos ⟨by omega, hs⟩]
    have Hres := Lib.hid hres; clear hres hs
    go_wp2_with fail
    go_loopg [24] (l.length) (fun n i wr => ∃ j : Nat, i = .int .i64 j ∧ j + n = l.length ∧ (l.drop j).all (okSt l.length) = l.all (okSt l.length) ∧ Below w.heap.size w wr ∧ w.heap.size + 2 ≤ wr.heap.size ∧ wr.cell? ⟨w.heap.size + 1, 0, none⟩ = some (.int .i64 l.length))
    case atStart => exact ⟨0, rfl, by omega, rfl, hB0, hsz, q0⟩
    case round =>
      obtain ⟨j, rfl, hj, hm, hB, hz, hq⟩ := hrel
      have Hm := Lib.hid hm; clear hm
      clear hsz p0 p1 q0 hB0
      by_cases hlt : j < l.length
      · obtain ⟨b, o, rfl, hb, hcell⟩ := ha.at_ (by omega)
        obtain ⟨f0, f1, f2, f3, f4, f5, f6⟩ := (hcell j hlt).mono (w' := wr) (fun o => hB.cell (p := ⟨b, o, none⟩) (hok b hb))
        have Hd := Lib.hid (drop_cons hlt)
        clear hcell
        generalize l[j] = s at *
        have hbz := hok b hb
        have fin : okSt l.length s = false → mcheck l sa = 110 := fun h => by
          rw [Hres.out, ← Hm.out, Hd.out, List.all_cons, h]; rfl
        have go : okSt l.length s = true → (l.drop (j + 1)).all (okSt l.length) = l.all (okSt l.length) := fun h => by
          rw [← Hm.out, Hd.out, List.all_cons, h, Bool.true_and]
        have Fin := Lib.hid fin; have Go := Lib.hid go; clear fin go
        obtain ⟨k, s0, s1, s2, s3, nx, ot⟩ := s
        simp only at f0 f1 f2 f3 f4 f5 f6
        have q1 : (wr.alloc (.cells #[.int .i64 k, .int .u64 s0, .int .u64 s1, .int .u64 s2, .int .u64 s3, .int .i64 nx, .int .i64 ot] 45)).cell? ⟨w.heap.size + 1, 0, none⟩ = some (.int .i64 l.length) := by
          rw [World.cell?_alloc_lt _ _ _ (by show w.heap.size + 1 < _; omega)]; exact hq
        by_cases k5 : k = 5
        · subst k5
          have hg := Lib.hid (Go.out (by simp [okSt])); clear Go Fin
          go_wp2_with fail
          go_roundg (gk - 1)
          case measure => omega
          case rel => exact ⟨j + 1, by go_num, by omega, hg.out, hB.alloc (by omega) _, by simp; omega, q1⟩
        by_cases k134 : k = 1 ∨ k = 3 ∨ k = 4
        · have hstep : ∀ r, inR l.length nx = r → okSt l.length ⟨k, s0, s1, s2, s3, nx, ot⟩ = r := fun r h => by
            simp only [okSt]; rw [if_neg k5, if_pos k134, h]
          rcases k134 with rfl | rfl | rfl
          all_goals
            go_wp2_with fail
            refine (in_any _ (w.heap.size + 1) l.length nx q1).mono ?_
            rintro e wx ⟨rfl, rfl⟩
            cases hr : inR l.length nx with
            | true =>
              have hg := Lib.hid (Go.out (hstep _ hr)); clear Go Fin hr hstep
              go_wp2_with fail
              go_roundg (gk - 1)
              case measure => omega
              case rel => exact ⟨j + 1, by go_num, by omega, hg.out, hB.alloc (by omega) _, by simp; omega, q1⟩
            | false =>
              have hg := Lib.hid (Fin.out (hstep _ hr)); clear Go Fin hr hstep
              go_wp2_with fail
              go_ret
              exact ⟨by rw [hg.out]; rfl, hB.alloc (by omega) _⟩
        by_cases k2 : k = 2
        · subst k2
          have hstep : okSt l.length ⟨2, s0, s1, s2, s3, nx, ot⟩ = (inR l.length nx && inR l.length ot) := by simp [okSt]
          clear k134 k5
          go_wp2_with fail
          refine (in_any _ (w.heap.size + 1) l.length nx q1).mono ?_
          rintro e wx ⟨rfl, rfl⟩
          cases hr : inR l.length nx with
          | true =>
            go_wp2_with fail
            refine (in_any _ (w.heap.size + 1) l.length ot q1).mono ?_
            rintro e wx ⟨rfl, rfl⟩
            cases hr2 : inR l.length ot with
            | true =>
              have hg := Lib.hid (Go.out (by rw [hstep, hr, hr2]; rfl)); clear Go Fin hr hr2 hstep
              go_wp2_with fail
              go_roundg (gk - 1)
              case measure => omega
              case rel => exact ⟨j + 1, by go_num, by omega, hg.out, hB.alloc (by omega) _, by simp; omega, q1⟩
            | false =>
              have hg := Lib.hid (Fin.out (by rw [hstep, hr, hr2]; rfl)); clear Go Fin hr hr2 hstep
              go_wp2_with fail
              go_ret
              exact ⟨by rw [hg.out]; rfl, hB.alloc (by omega) _⟩
          | false =>
            have hg := Lib.hid (Fin.out (by rw [hstep, hr]; rfl)); clear Go Fin hr hstep
            go_wp2_with fail
            go_ret
            exact ⟨by rw [hg.out]; rfl, hB.alloc (by omega) _⟩
        · have hg := Lib.hid (Fin.out (by simp [okSt, k5, k134, k2]))
          have b1 : (k == 1) = false := by simp; omega
          have b2 : (k == 2) = false := by simp; omega
          have b3 : (k == 3) = false := by simp; omega
          have b4 : (k == 4) = false := by simp; omega
          have b5 : (k == 5) = false := by simp; omega
          clear Go Fin k5 k134 k2
          go_wp2_with fail
          go_ret
          exact ⟨by rw [hg.out]; rfl, hB.alloc (by omega) _⟩
      · have hg : l.all (okSt l.length) = true := by rw [← Hm.out, List.drop_of_length_le (by omega)]; rfl
        have hg2 := Lib.hid (by rw [Hres.out, hg]; rfl : mcheck l sa = 0); clear hg
        have i1 : (l.length : Int) ≤ (j : Int) := by omega
        go_wp2_with fail
        go_ret
        exact ⟨by rw [hg2.out]; rfl, hB⟩
end Go.Proofs.YteekafkpeimhoaaGreat

/- The matcher, plain: which states are there; the code's way of adding states and the document's come tu the same sets. -/
set_option linter.unusedVariables false
set_option linter.unusedSimpArgs false
namespace Go.Proofs.YteekafkpeimhoaaGreat
open Go.RowKit

def stN (l : List St) (i : Nat) : St := l.getD i default
/-- Where a state leads without a byte. -/
def outs (b e : Bool) (s : St) : List Nat := if s.k = 2 then [s.nx.toNat, s.ot.toNat] else if (s.k = 3 ∧ b = true) ∨ (s.k = 4 ∧ e = true) then [s.nx.toNat] else []
def OutsOk (l : List St) (b e : Bool) : Prop := ∀ i, i < l.length → ∀ y ∈ outs b e (stN l i), y < l.length
inductive Rch (l : List St) (b e : Bool) (i : Nat) : Nat → Prop where
  | refl : Rch l b e i i
  | step {j k : Nat} : Rch l b e i j → k ∈ outs b e (stN l j) → Rch l b e i k
theorem Rch.closed {l : List St} {b e : Bool} {i j : Nat} (h : Rch l b e i j) {S : Nat → Prop} (hi : S i) (hc : ∀ x, S x → ∀ y ∈ outs b e (stN l x), S y) : S j := by
  induction h with
  | refl => exact hi
  | step _ hk ih => exact hc _ ih _ hk

/-- put: a state alone. -/
def putF (X : List Nat) (i : Nat) : List Nat := if i ∈ X then X else X ++ [i]
def loopF (l : List St) (b e : Bool) : Nat → Nat → List Nat → List Nat
  | 0, _, X => X
  | k + 1, fr, X => if fr < X.length then loopF l b e k (fr + 1) ((outs b e (stN l (X.getD fr 0))).foldl putF X) else X
/-- add: a state and those tu which it leads. -/
def addF (l : List St) (b e : Bool) (X : List Nat) (i : Nat) : List Nat := loopF l b e (l.length - X.length) X.length (putF X i)

theorem put_mem (X : List Nat) (i : Nat) : i ∈ putF X i := by unfold putF; split <;> simp [*]
theorem put_app (X : List Nat) (i : Nat) : ∃ Z, putF X i = X ++ Z ∧ ∀ z ∈ Z, z = i := by
  unfold putF; split
  · exact ⟨[], by simp⟩
  · exact ⟨[i], by simp⟩
theorem put_nodup {X : List Nat} (h : X.Nodup) (i : Nat) : (putF X i).Nodup := by
  unfold putF; split
  · exact h
  · rename_i hi
    rw [List.nodup_append]
    exact ⟨h, by simp, fun a ha b hb => by simp at hb; subst hb; exact fun e => hi (e ▸ ha)⟩
theorem fold_put : ∀ (ys X : List Nat), X.Nodup → (ys.foldl putF X).Nodup ∧ (∃ Z, ys.foldl putF X = X ++ Z ∧ ∀ z ∈ Z, z ∈ ys) ∧ ∀ y ∈ ys, y ∈ ys.foldl putF X
  | [], X, h => ⟨h, ⟨[], by simp, by simp⟩, by simp⟩
  | y :: ys, X, h => by
    obtain ⟨h1, ⟨Z, h2, h3⟩, h4⟩ := fold_put ys (putF X y) (put_nodup h y)
    obtain ⟨Z0, e0, hz0⟩ := put_app X y
    refine ⟨h1, ⟨Z0 ++ Z, ?_, ?_⟩, ?_⟩
    · rw [List.foldl_cons, h2, e0, List.append_assoc]
    · intro z hz
      rcases List.mem_append.1 hz with hz | hz
      · rw [hz0 z hz]; exact List.mem_cons_self ..
      · exact List.mem_cons_of_mem _ (h3 z hz)
    · intro z hz
      rcases List.mem_cons.1 hz with rfl | hz
      · rw [List.foldl_cons, h2]; exact List.mem_append_left _ (put_mem X z)
      · exact h4 z hz
theorem nodup_le {X : List Nat} {n : Nat} (h : X.Nodup) (hl : ∀ x ∈ X, x < n) : X.length ≤ n := by
  have := List.Nodup.length_le_of_subset h (l₂ := List.range n) (fun x hx => List.mem_range.2 (hl x hx))
  simpa using this

theorem loop_spec {l : List St} {b e : Bool} (ho : OutsOk l b e) : ∀ (k fr : Nat) (X : List Nat), X.Nodup → (∀ x ∈ X, x < l.length) → l.length ≤ fr + k → (∀ p x, p < fr → X[p]? = some x → ∀ y ∈ outs b e (stN l x), y ∈ X) →
    (loopF l b e k fr X).Nodup ∧ (∀ x ∈ loopF l b e k fr X, x < l.length) ∧ (∀ x ∈ loopF l b e k fr X, ∀ y ∈ outs b e (stN l x), y ∈ loopF l b e k fr X) ∧ (∃ Z, loopF l b e k fr X = X ++ Z) ∧
    ∀ S : Nat → Prop, (∀ x ∈ X, S x) → (∀ x, S x → ∀ y ∈ outs b e (stN l x), S y) → ∀ x ∈ loopF l b e k fr X, S x := by
  intro k
  induction k with
  | zero =>
    intro fr X hn hl hk hc
    rw [loopF]
    have := nodup_le hn hl
    refine ⟨hn, hl, fun x hx => ?_, ⟨[], by simp⟩, fun S h _ => h⟩
    obtain ⟨p, hp, rfl⟩ := List.getElem_of_mem hx
    exact hc p _ (by omega) (List.getElem?_eq_getElem hp)
  | succ k ih =>
    intro fr X hn hl hk hc
    rw [loopF]
    split
    · rename_i hlt
      have hget : X.getD fr 0 = X[fr] := by simp [hlt]
      rw [hget]
      have hx : X[fr] < l.length := hl _ (List.getElem_mem _)
      obtain ⟨h1, ⟨Z, h2, h3⟩, h4⟩ := fold_put (outs b e (stN l X[fr])) X hn
      have hsub : ∀ z ∈ X, z ∈ (outs b e (stN l X[fr])).foldl putF X := fun z hz => by rw [h2]; exact List.mem_append_left _ hz
      have hmem : ∀ z ∈ (outs b e (stN l X[fr])).foldl putF X, z ∈ X ∨ z ∈ outs b e (stN l X[fr]) := fun z hz => by
        rw [h2] at hz
        rcases List.mem_append.1 hz with hz | hz
        · exact .inl hz
        · exact .inr (h3 z hz)
      obtain ⟨r1, r2, r3, ⟨Z', r4⟩, r5⟩ := ih (fr + 1) _ h1 (fun x hx' => (hmem x hx').elim (hl x) (ho _ hx x)) (by omega) (fun p x hp hpx y hy => by
        by_cases hpf : p < fr
        · have hp0 : X[p]? = some x := by
            rw [h2, List.getElem?_append_left (by omega)] at hpx; exact hpx
          exact hsub y (hc p x hpf hp0 y hy)
        · have : p = fr := by omega
          subst this
          rw [h2, List.getElem?_append_left (by omega), List.getElem?_eq_getElem hlt] at hpx
          cases hpx
          exact h4 y hy)
      exact ⟨r1, r2, r3, ⟨Z ++ Z', by rw [r4, h2, List.append_assoc]⟩, fun S hS hcl => r5 S (fun x hx' => (hmem x hx').elim (hS x) (hcl _ (hS _ (List.getElem_mem hlt)) x)) hcl⟩
    · rename_i hge
      refine ⟨hn, hl, fun x hx => ?_, ⟨[], by simp⟩, fun S h _ => h⟩
      obtain ⟨p, hp, rfl⟩ := List.getElem_of_mem hx
      exact hc p _ (by omega) (List.getElem?_eq_getElem hp)

/-- A set of states as the code keeps it: each once, closed. -/
structure Good (l : List St) (b e : Bool) (X : List Nat) : Prop where
  nodup : X.Nodup
  lt : ∀ x ∈ X, x < l.length
  closed : ∀ x ∈ X, ∀ y ∈ outs b e (stN l x), y ∈ X
theorem add_spec {l : List St} {b e : Bool} (ho : OutsOk l b e) {X : List Nat} (hX : Good l b e X) {i : Nat} (hi : i < l.length) : Good l b e (addF l b e X i) ∧ ∀ j, j ∈ addF l b e X i ↔ j ∈ X ∨ Rch l b e i j := by
  have hle := nodup_le hX.nodup hX.lt
  obtain ⟨Z, hz1, hz2⟩ := put_app X i
  obtain ⟨h1, h2, h3, ⟨Z', h4⟩, h5⟩ := loop_spec ho (l.length - X.length) X.length (putF X i) (put_nodup hX.nodup i) (fun x hx => by
    rw [hz1] at hx
    rcases List.mem_append.1 hx with hx | hx
    · exact hX.lt x hx
    · rw [hz2 x hx]; exact hi) (by omega) (fun p x hp hpx y hy => by
    rw [hz1, List.getElem?_append_left hp] at hpx
    rw [hz1]
    exact List.mem_append_left _ (hX.closed x (List.mem_of_getElem? hpx) y hy))
  refine ⟨⟨h1, h2, h3⟩, fun j => ⟨fun hj => ?_, fun hj => ?_⟩⟩
  · refine h5 (fun j => j ∈ X ∨ Rch l b e i j) (fun x hx => ?_) (fun x hx y hy => ?_) j hj
    · rw [hz1] at hx
      rcases List.mem_append.1 hx with hx | hx
      · exact .inl hx
      · rw [hz2 x hx]; exact .inr .refl
    · rcases hx with hx | hx
      · exact .inl (hX.closed x hx y hy)
      · exact .inr (.step hx hy)
  · unfold addF
    rcases hj with hj | hj
    · rw [h4, hz1]; simp [hj]
    · refine hj.closed (S := fun j => j ∈ loopF l b e (l.length - X.length) X.length (putF X i)) ?_ h3
      rw [h4]; exact List.mem_append_left _ (put_mem X i)
theorem good_nil (l : List St) (b e : Bool) : Good l b e [] := ⟨List.nodup_nil, by simp, by simp⟩

/-- The document's way. -/
def withL (l : List St) (b e : Bool) : Nat → List Bool → List Nat → List Bool
  | 0, X, _ => X
  | _ + 1, X, [] => X
  | k + 1, X, x :: t => if X.getD x false = true then withL l b e k X t else withL l b e k (X.set x true) ((outs b e (stN l x)).reverse ++ t)
def withF (l : List St) (b e : Bool) (X : List Bool) (i : Nat) : List Bool := withL l b e (3 * l.length + 2) X [i]
theorem outs_len (b e : Bool) (s : St) : (outs b e s).length ≤ 2 := by
  unfold outs
  split
  · simp
  · split <;> simp
def falses (X : List Bool) : Nat := X.countP (fun x => !x)
theorem falses_le (X : List Bool) : falses X ≤ X.length := List.countP_le_length
theorem falses_set : ∀ (X : List Bool) (x : Nat), x < X.length → X.getD x false = false → falses (X.set x true) + 1 = falses X
  | c :: X, 0, h, h0 => by
    have : c = false := by simpa using h0
    subst this
    simp [falses]
  | c :: X, x + 1, h, h0 => by
    have := falses_set X x (by simpa using h) (by simpa using h0)
    simp only [falses, List.set_cons_succ, List.countP_cons] at this ⊢
    omega
theorem getD_set (X : List Bool) (x : Nat) (hx : x < X.length) (j : Nat) : (X.set x true).getD j false = true ↔ j = x ∨ X.getD j false = true := by
  rw [List.getD_eq_getElem?_getD, List.getD_eq_getElem?_getD, List.getElem?_set]
  by_cases h : x = j
  · subst h; simp [hx]
  · rw [if_neg h]
    constructor
    · exact .inr
    · rintro (rfl | h')
      · exact absurd rfl h
      · exact h'
theorem with_spec {l : List St} {b e : Bool} (ho : OutsOk l b e) : ∀ (k : Nat) (X : List Bool) (st : List Nat), X.length = l.length → (∀ x ∈ st, x < l.length) → 3 * falses X + st.length ≤ k → (∀ x, X.getD x false = true → ∀ y ∈ outs b e (stN l x), X.getD y false = true ∨ y ∈ st) →
    (withL l b e k X st).length = l.length ∧ (∀ x, X.getD x false = true → (withL l b e k X st).getD x false = true) ∧ (∀ x ∈ st, (withL l b e k X st).getD x false = true) ∧
    (∀ x, (withL l b e k X st).getD x false = true → ∀ y ∈ outs b e (stN l x), (withL l b e k X st).getD y false = true) ∧
    ∀ S : Nat → Prop, (∀ x, X.getD x false = true → S x) → (∀ x ∈ st, S x) → (∀ x, S x → ∀ y ∈ outs b e (stN l x), S y) → ∀ x, (withL l b e k X st).getD x false = true → S x := by
  intro k
  induction k with
  | zero =>
    intro X st hX hst hk hc
    have : st = [] := List.eq_nil_of_length_eq_zero (by omega)
    subst this
    rw [withL]
    exact ⟨hX, fun _ h => h, by simp, fun x h y hy => (hc x h y hy).elim id (by simp), fun S h _ _ => h⟩
  | succ k ih =>
    intro X st hX hst hk hc
    cases st with
    | nil =>
      rw [withL]
      exact ⟨hX, fun _ h => h, by simp, fun x h y hy => (hc x h y hy).elim id (by simp), fun S h _ _ => h⟩
    | cons x t =>
      rw [withL]
      have hxl := hst x (List.mem_cons_self ..)
      simp only [List.length_cons] at hk
      split
      · rename_i hx
        obtain ⟨r1, r2, r3, r4, r5⟩ := ih X t hX (fun y hy => hst y (List.mem_cons_of_mem _ hy)) (by omega) (fun z hz y hy => by
          rcases hc z hz y hy with h | h
          · exact .inl h
          · rcases List.mem_cons.1 h with rfl | h
            · exact .inl hx
            · exact .inr h)
        exact ⟨r1, r2, fun z hz => by
          rcases List.mem_cons.1 hz with rfl | hz
          · exact r2 _ hx
          · exact r3 z hz, r4, fun S h1 h2 h3 => r5 S h1 (fun z hz => h2 z (List.mem_cons_of_mem _ hz)) h3⟩
      · rename_i hx
        have hx0 : X.getD x false = false := by simpa using hx
        have hf := falses_set X x (by omega) hx0
        have hol := outs_len b e (stN l x)
        have hg := getD_set X x (by omega)
        obtain ⟨r1, r2, r3, r4, r5⟩ := ih (X.set x true) ((outs b e (stN l x)).reverse ++ t) (by simpa using hX) (fun y hy => by
          rcases List.mem_append.1 hy with h | h
          · exact ho x hxl y (List.mem_reverse.1 h)
          · exact hst y (List.mem_cons_of_mem _ h)) (by simp only [List.length_append, List.length_reverse]; omega) (fun z hz y hy => by
          rcases (hg z).1 hz with rfl | hz
          · exact .inr (List.mem_append_left _ (List.mem_reverse.2 hy))
          · rcases hc z hz y hy with h | h
            · exact .inl ((hg y).2 (.inr h))
            · rcases List.mem_cons.1 h with rfl | h
              · exact .inl ((hg y).2 (.inl rfl))
              · exact .inr (List.mem_append_right _ h))
        refine ⟨r1, fun z hz => r2 z ((hg z).2 (.inr hz)), fun z hz => ?_, r4, fun S h1 h2 h3 => r5 S (fun z hz => ?_) (fun z hz => ?_) h3⟩
        · rcases List.mem_cons.1 hz with rfl | hz
          · exact r2 z ((hg z).2 (.inl rfl))
          · exact r3 z (List.mem_append_right _ hz)
        · rcases (hg z).1 hz with rfl | hz
          · exact h2 z (List.mem_cons_self ..)
          · exact h1 z hz
        · rcases List.mem_append.1 hz with h | h
          · exact h3 x (h2 x (List.mem_cons_self ..)) z (List.mem_reverse.1 h)
          · exact h2 z (List.mem_cons_of_mem _ h)

/-- The same set, kept in two ways. -/
structure SameSet (l : List St) (X : List Nat) (Y : List Bool) : Prop where
  len : Y.length = l.length
  mem : ∀ j, j ∈ X ↔ Y.getD j false = true
theorem add_same {l : List St} {b e : Bool} (ho : OutsOk l b e) {X : List Nat} {Y : List Bool} (hX : Good l b e X) (hs : SameSet l X Y) {i : Nat} (hi : i < l.length) : Good l b e (addF l b e X i) ∧ SameSet l (addF l b e X i) (withF l b e Y i) := by
  obtain ⟨hG, hm⟩ := add_spec ho hX hi
  have hfl := falses_le Y
  have hlen := hs.len
  obtain ⟨r1, r2, r3, r4, r5⟩ := with_spec ho (3 * l.length + 2) Y [i] hs.len (by simpa using hi) (by simp; omega) (fun x hx y hy => .inl ((hs.mem y).1 (hX.closed x ((hs.mem x).2 hx) y hy)))
  refine ⟨hG, r1, fun j => ?_⟩
  rw [hm j]
  constructor
  · rintro (h | h)
    · exact r2 j ((hs.mem j).1 h)
    · exact h.closed (S := fun j => (withF l b e Y i).getD j false = true) (r3 i (by simp)) r4
  · intro h
    refine r5 (fun j => j ∈ X ∨ Rch l b e i j) (fun x hx => .inl ((hs.mem x).2 hx)) (fun x hx => ?_) (fun x hx y hy => ?_) j h
    · simp at hx; subst hx; exact .inr .refl
    · rcases hx with hx | hx
      · exact .inl (hX.closed x hx y hy)
      · exact .inr (.step hx hy)
end Go.Proofs.YteekafkpeimhoaaGreat

/- The matcher, plain: a machine over a subject; the document's way comes tu the same; how many steps. -/
set_option linter.unusedVariables false
set_option linter.unusedSimpArgs false
namespace Go.Proofs.YteekafkpeimhoaaGreat
open Go.RowKit

def wordN (s : St) (i : Nat) : Int := if i = 0 then s.s0 else if i = 1 then s.s1 else if i = 2 then s.s2 else s.s3
/-- Is a byte in a state's set? -/
def bitS (s : St) (c : Nat) : Bool := wordN s (c / 64) / 2 ^ (c % 64) % 2 == 1
def takes (s : St) (c : Nat) : Bool := s.k == 1 && bitS s c
def byteN (subj : List UInt8) (at_ : Nat) : Nat := (subj.getD (at_ - 1) 0).toNat
def eatF (l : List St) (b e : Bool) (c : Nat) (X : List Nat) (i : Nat) : List Nat := if takes (stN l i) c = true then addF l b e X (stN l i).nx.toNat else X
def stepF (l : List St) (sa : Int) (subj : List UInt8) (at_ : Nat) (now : List Nat) : List Nat :=
  now.foldl (eatF l (at_ == 0) (at_ == subj.length) (byteN subj at_)) (addF l (at_ == 0) (at_ == subj.length) [] sa.toNat)
def doneF (l : List St) (X : List Nat) : Bool := X.any fun i => (stN l i).k == 5
def overF (l : List St) (sa : Int) (subj : List UInt8) : Nat → Nat → List Nat → Int → Bool × Int
  | 0, _, _, s => (false, s)
  | k + 1, at_, now, s => if doneF l (stepF l sa subj at_ now) = true then (true, s + (stepF l sa subj at_ now).length) else overF l sa subj k (at_ + 1) (stepF l sa subj at_ now) (s + (stepF l sa subj at_ now).length)
/-- match.Has: found?, steps, error. -/
def hasF (l : List St) (sa : Int) (subj : List UInt8) : Bool × Int × Int :=
  if mcheck l sa ≠ 0 then (false, 0, mcheck l sa) else if 65536 < subj.length then (false, 0, 3) else ((overF l sa subj (subj.length + 1) 0 [] 0).1, (overF l sa subj (subj.length + 1) 0 [] 0).2, 0)

/-- The document's. -/
def eatR (l : List St) (b e : Bool) (c : Nat) (there : List Bool) (Y : List Bool) (i : Nat) : List Bool := if there.getD i false = true ∧ takes (stN l i) c = true then withF l b e Y (stN l i).nx.toNat else Y
def stepR (l : List St) (sa : Int) (subj : List UInt8) (at_ : Nat) (there : List Bool) : List Bool :=
  (List.range l.length).foldl (eatR l (at_ == 0) (at_ == subj.length) (byteN subj at_) there) (withF l (at_ == 0) (at_ == subj.length) (List.replicate l.length false) sa.toNat)
def cntR (Y : List Bool) : Int := (Y.countP id : Nat)
def doneR (l : List St) (Y : List Bool) : Bool := (List.range l.length).any fun i => Y.getD i false && (stN l i).k == 5
def overR (l : List St) (sa : Int) (subj : List UInt8) : Nat → Nat → List Bool → Int → Bool × Int
  | 0, _, _, s => (false, s)
  | k + 1, at_, now, s => if doneR l (stepR l sa subj at_ now) = true then (true, s + cntR (stepR l sa subj at_ now)) else overR l sa subj k (at_ + 1) (stepR l sa subj at_ now) (s + cntR (stepR l sa subj at_ now))

/-- A machine that may be. -/
structure MOk (l : List St) (sa : Int) : Prop where
  len : l.length ≤ 4096
  s0 : 0 ≤ sa
  s1 : sa < l.length
  ok : ∀ i, i < l.length → okSt l.length (stN l i) = true
theorem inR_iff {n i : Int} : inR n i = true ↔ 0 ≤ i ∧ i < n := by simp [inR]
theorem mok_of {l : List St} {sa : Int} (h : mcheck l sa = 0) : MOk l sa := by
  unfold mcheck at h
  split at h
  · rename_i h1
    split at h
    · rename_i h2
      have h3 := inR_iff.1 h1.2
      exact ⟨by omega, h3.1, h3.2, fun i hi => by
        have := List.all_eq_true.1 h2 (stN l i) (by unfold stN; simp [hi])
        exact this⟩
    · omega
  · omega
theorem mok_to {l : List St} {sa : Int} (h : MOk l sa) : mcheck l sa = 0 := by
  unfold mcheck
  rw [if_pos ⟨by have := h.len; omega, inR_iff.2 ⟨h.s0, h.s1⟩⟩, if_pos]
  rw [List.all_eq_true]
  intro s hs
  obtain ⟨i, hi, rfl⟩ := List.getElem_of_mem hs
  have := h.ok i hi
  unfold stN at this
  simpa [hi] using this
theorem MOk.start {l : List St} {sa : Int} (h : MOk l sa) : sa.toNat < l.length := by have := h.s0; have := h.s1; omega
theorem MOk.kinds {l : List St} {sa : Int} (h : MOk l sa) {i : Nat} (hi : i < l.length) : (stN l i).k = 5 ∨ ((stN l i).k = 1 ∨ (stN l i).k = 3 ∨ (stN l i).k = 4) ∧ 0 ≤ (stN l i).nx ∧ (stN l i).nx < l.length ∨ (stN l i).k = 2 ∧ (0 ≤ (stN l i).nx ∧ (stN l i).nx < l.length) ∧ 0 ≤ (stN l i).ot ∧ (stN l i).ot < l.length := by
  have h1 := h.ok i hi
  unfold okSt at h1
  split at h1
  · exact .inl (by assumption)
  · split at h1
    · exact .inr (.inl ⟨by assumption, inR_iff.1 h1⟩)
    · split at h1
      · rw [Bool.and_eq_true] at h1
        exact .inr (.inr ⟨by assumption, inR_iff.1 h1.1, inR_iff.1 h1.2⟩)
      · cases h1
theorem MOk.outs {l : List St} {sa : Int} (h : MOk l sa) (b e : Bool) : OutsOk l b e := by
  intro i hi y hy
  unfold Go.Proofs.YteekafkpeimhoaaGreat.outs at hy
  rcases h.kinds hi with hk | ⟨hk, h1, h2⟩ | ⟨hk, ⟨h1, h2⟩, h3, h4⟩
  · rw [if_neg (by omega), if_neg (by omega)] at hy; cases hy
  · rw [if_neg (by omega)] at hy
    split at hy
    · simp at hy; omega
    · cases hy
  · rw [if_pos hk] at hy
    simp at hy; omega
theorem takes_kind {s : St} {c : Nat} (h : takes s c = true) : s.k = 1 := by simp [takes] at h; exact h.1
theorem MOk.next {l : List St} {sa : Int} (h : MOk l sa) {i : Nat} (hi : i < l.length) (hk : (stN l i).k = 1) : (stN l i).nx.toNat < l.length := by
  rcases h.kinds hi with h1 | ⟨_, h1, h2⟩ | ⟨h1, _⟩ <;> omega

theorem foldF_spec {l : List St} {sa : Int} (hm : MOk l sa) (b e : Bool) (c : Nat) : ∀ (xs X : List Nat), (∀ x ∈ xs, x < l.length) → Good l b e X →
    Good l b e (xs.foldl (eatF l b e c) X) ∧ ∀ j, j ∈ xs.foldl (eatF l b e c) X ↔ j ∈ X ∨ ∃ i ∈ xs, takes (stN l i) c = true ∧ Rch l b e (stN l i).nx.toNat j
  | [], X, _, hX => ⟨hX, fun j => by simp⟩
  | x :: xs, X, hxs, hX => by
    have hx := hxs x (List.mem_cons_self ..)
    by_cases ht : takes (stN l x) c = true
    · obtain ⟨h1, h2⟩ := add_spec (hm.outs b e) hX (hm.next hx (takes_kind ht))
      obtain ⟨r1, r2⟩ := foldF_spec hm b e c xs _ (fun y hy => hxs y (List.mem_cons_of_mem _ hy)) h1
      have e1 : eatF l b e c X x = addF l b e X (stN l x).nx.toNat := if_pos ht
      rw [List.foldl_cons, e1]
      refine ⟨r1, fun j => ?_⟩
      rw [r2 j, h2 j]
      simp only [List.mem_cons, exists_eq_or_imp, ht, true_and, or_assoc]
    · obtain ⟨r1, r2⟩ := foldF_spec hm b e c xs X (fun y hy => hxs y (List.mem_cons_of_mem _ hy)) hX
      have e1 : eatF l b e c X x = X := if_neg ht
      rw [List.foldl_cons, e1]
      refine ⟨r1, fun j => ?_⟩
      rw [r2 j]
      simp only [List.mem_cons, exists_eq_or_imp, ht, false_and, false_or, Bool.false_eq_true]
theorem foldR_spec {l : List St} {sa : Int} (hm : MOk l sa) (b e : Bool) (c : Nat) (there : List Bool) : ∀ (xs X : List Nat) (Y : List Bool), (∀ x ∈ xs, x < l.length) → Good l b e X → SameSet l X Y →
    ∃ X', SameSet l X' (xs.foldl (eatR l b e c there) Y) ∧ Good l b e X' ∧ ∀ j, j ∈ X' ↔ j ∈ X ∨ ∃ i ∈ xs, there.getD i false = true ∧ takes (stN l i) c = true ∧ Rch l b e (stN l i).nx.toNat j
  | [], X, Y, _, hX, hs => ⟨X, hs, hX, fun j => by simp⟩
  | x :: xs, X, Y, hxs, hX, hs => by
    have hx := hxs x (List.mem_cons_self ..)
    by_cases ht : there.getD x false = true ∧ takes (stN l x) c = true
    · have hn := hm.next hx (takes_kind ht.2)
      obtain ⟨h1, h2⟩ := add_spec (hm.outs b e) hX hn
      obtain ⟨h3, h4⟩ := add_same (hm.outs b e) hX hs hn
      obtain ⟨X', r0, r1, r2⟩ := foldR_spec hm b e c there xs _ _ (fun y hy => hxs y (List.mem_cons_of_mem _ hy)) h1 h4
      have e1 : eatR l b e c there Y x = withF l b e Y (stN l x).nx.toNat := if_pos ht
      rw [List.foldl_cons, e1]
      refine ⟨X', r0, r1, fun j => ?_⟩
      rw [r2 j, h2 j]
      simp only [List.mem_cons, exists_eq_or_imp, ht.1, ht.2, true_and, or_assoc]
    · obtain ⟨X', r0, r1, r2⟩ := foldR_spec hm b e c there xs X Y (fun y hy => hxs y (List.mem_cons_of_mem _ hy)) hX hs
      have e1 : eatR l b e c there Y x = Y := if_neg ht
      rw [List.foldl_cons, e1]
      refine ⟨X', r0, r1, fun j => ?_⟩
      rw [r2 j]
      simp only [List.mem_cons, exists_eq_or_imp]
      constructor
      · rintro (h | h)
        · exact .inl h
        · exact .inr (.inr h)
      · rintro (h | ⟨h1, h2, _⟩ | h)
        · exact .inl h
        · exact absurd ⟨h1, h2⟩ ht
        · exact .inr h

theorem same_nil (l : List St) : SameSet l [] (List.replicate l.length false) := ⟨by simp, fun j => by
  simp only [List.not_mem_nil, false_iff, List.getD_eq_getElem?_getD, List.getElem?_replicate]
  split <;> simp⟩
theorem step_same {l : List St} {sa : Int} (hm : MOk l sa) (subj : List UInt8) (at_ : Nat) {now : List Nat} {there : List Bool} (hl : ∀ x ∈ now, x < l.length) (hs : SameSet l now there) :
    Good l (at_ == 0) (at_ == subj.length) (stepF l sa subj at_ now) ∧ SameSet l (stepF l sa subj at_ now) (stepR l sa subj at_ there) := by
  obtain ⟨g1, g2⟩ := add_same (hm.outs (at_ == 0) (at_ == subj.length)) (good_nil l _ _) (same_nil l) hm.start
  obtain ⟨h1, h2⟩ := foldF_spec hm _ _ (byteN subj at_) now _ hl g1
  obtain ⟨X', r0, r1, r2⟩ := foldR_spec hm _ _ (byteN subj at_) there (List.range l.length) _ _ (fun x hx => List.mem_range.1 hx) g1 g2
  refine ⟨h1, r0.len, fun j => ?_⟩
  unfold stepF stepR
  rw [h2 j, ← r0.mem j, r2 j]
  constructor
  · rintro (h | ⟨i, hi, h3, h4⟩)
    · exact .inl h
    · exact .inr ⟨i, List.mem_range.2 (hl i hi), (hs.mem i).1 hi, h3, h4⟩
  · rintro (h | ⟨i, hi, h3, h4, h5⟩)
    · exact .inl h
    · exact .inr ⟨i, (hs.mem i).2 h3, h4, h5⟩
theorem same_count {l : List St} {X : List Nat} {Y : List Bool} (hn : X.Nodup) (hl : ∀ x ∈ X, x < l.length) (hs : SameSet l X Y) : (X.length : Int) = cntR Y := by
  have hp : X.Perm ((List.range l.length).filter fun j => Y.getD j false) := (List.perm_ext_iff_of_nodup hn (List.nodup_range.filter _)).2 fun j => by
    rw [List.mem_filter, List.mem_range, hs.mem j]
    constructor
    · intro h
      exact ⟨hl j ((hs.mem j).2 h), h⟩
    · exact fun h => h.2
  have hy : Y = (List.range l.length).map fun j => Y.getD j false := by
    refine List.ext_getElem (by simp [hs.len]) fun i h1 h2 => ?_
    simp [h1]
  have : Y.countP id = (List.range l.length).countP (fun j => Y.getD j false) := by
    conv => lhs; rw [hy]
    rw [List.countP_map]
    rfl
  unfold cntR
  rw [this, hp.length_eq, List.countP_eq_length_filter]
theorem same_done {l : List St} {X : List Nat} {Y : List Bool} (hl : ∀ x ∈ X, x < l.length) (hs : SameSet l X Y) : doneF l X = doneR l Y := by
  rw [Bool.eq_iff_iff]
  unfold doneF doneR
  simp only [List.any_eq_true, List.mem_range, Bool.and_eq_true]
  constructor
  · rintro ⟨i, hi, h⟩
    exact ⟨i, hl i hi, (hs.mem i).1 hi, h⟩
  · rintro ⟨i, _, h1, h2⟩
    exact ⟨i, (hs.mem i).2 h1, h2⟩
theorem over_same {l : List St} {sa : Int} (hm : MOk l sa) (subj : List UInt8) : ∀ (k at_ : Nat) (now : List Nat) (there : List Bool) (s : Int), (∀ x ∈ now, x < l.length) → SameSet l now there → overF l sa subj k at_ now s = overR l sa subj k at_ there s
  | 0, _, _, _, _, _, _ => rfl
  | k + 1, at_, now, there, s, hl, hs => by
    obtain ⟨h1, h2⟩ := step_same hm subj at_ hl hs
    rw [overF, overR, same_done h1.lt h2, same_count h1.nodup h1.lt h2, over_same hm subj k (at_ + 1) _ _ _ h1.lt h2]

/-- How many steps a position takes. -/
theorem step_pos {l : List St} {sa : Int} (hm : MOk l sa) (subj : List UInt8) (at_ : Nat) {now : List Nat} (hl : ∀ x ∈ now, x < l.length) :
    (∀ x ∈ stepF l sa subj at_ now, x < l.length) ∧ 1 ≤ (stepF l sa subj at_ now).length ∧ (stepF l sa subj at_ now).length ≤ l.length := by
  obtain ⟨g1, g2⟩ := add_spec (hm.outs (at_ == 0) (at_ == subj.length)) (good_nil l _ _) hm.start
  obtain ⟨h1, h2⟩ := foldF_spec hm _ _ (byteN subj at_) now _ hl g1
  refine ⟨h1.lt, ?_, nodup_le h1.nodup h1.lt⟩
  have : sa.toNat ∈ stepF l sa subj at_ now := (h2 _).2 (.inl ((g2 _).2 (.inr .refl)))
  exact List.length_pos_of_mem this
theorem over_ge {l : List St} {sa : Int} (subj : List UInt8) : ∀ (k at_ : Nat) (now : List Nat) (s : Int), s ≤ (overF l sa subj k at_ now s).2
  | 0, _, _, s => by rw [overF]; exact Int.le_refl _
  | k + 1, at_, now, s => by
    rw [overF]
    split
    · simp only; omega
    · have := over_ge (l := l) (sa := sa) subj k (at_ + 1) (stepF l sa subj at_ now) (s + (stepF l sa subj at_ now).length)
      omega
theorem over_bd {l : List St} {sa : Int} (hm : MOk l sa) (subj : List UInt8) : ∀ (k at_ : Nat) (now : List Nat) (s : Int), (∀ x ∈ now, x < l.length) → (overF l sa subj k at_ now s).2 ≤ s + k * l.length ∧ (0 < k → s + 1 ≤ (overF l sa subj k at_ now s).2)
  | 0, _, _, s, _ => by rw [overF]; simp
  | k + 1, at_, now, s, hl => by
    obtain ⟨h1, h2, h3⟩ := step_pos hm subj at_ hl
    have e1 : (((k + 1 : Nat) : Int)) * (l.length : Int) = k * l.length + l.length := by rw [Int.natCast_add, Int.add_mul]; simp
    have e2 : 0 ≤ (k : Int) * (l.length : Int) := Int.mul_nonneg (by omega) (by omega)
    rw [overF, e1]
    split
    · simp only; omega
    · have := over_bd hm subj k (at_ + 1) _ (s + (stepF l sa subj at_ now).length) h1
      have := over_ge (l := l) (sa := sa) subj k (at_ + 1) (stepF l sa subj at_ now) (s + (stepF l sa subj at_ now).length)
      omega

/-- More behind a subject, where no state asks for its end. -/
theorem outs_any {l : List St} (h : ∀ i, i < l.length → (stN l i).k ≠ 4) (b e : Bool) (i : Nat) : outs b e (stN l i) = outs b false (stN l i) := by
  have hk : (stN l i).k ≠ 4 := by
    by_cases hi : i < l.length
    · exact h i hi
    · have : stN l i = default := by unfold stN; simp [List.getD_eq_getElem?_getD, List.getElem?_eq_none (Nat.le_of_not_lt hi)]
      rw [this]; decide
  unfold outs
  simp [hk]
theorem loop_any {l : List St} (h : ∀ i, i < l.length → (stN l i).k ≠ 4) (b e : Bool) : ∀ (k fr : Nat) (X : List Nat), loopF l b e k fr X = loopF l b false k fr X
  | 0, _, _ => rfl
  | k + 1, fr, X => by rw [loopF, loopF, outs_any h b e, loop_any h b e k]
theorem addF_any {l : List St} (h : ∀ i, i < l.length → (stN l i).k ≠ 4) (b e : Bool) (X : List Nat) (i : Nat) : addF l b e X i = addF l b false X i := loop_any h b e _ _ _
theorem fold_any {l : List St} (h : ∀ i, i < l.length → (stN l i).k ≠ 4) (b e e' : Bool) (c : Nat) (xs X : List Nat) : xs.foldl (eatF l b e c) X = xs.foldl (eatF l b e' c) X := by
  have : eatF l b e c = eatF l b e' c := by
    funext X i
    unfold eatF
    rw [addF_any h b e, addF_any h b e']
  rw [this]
theorem step_any {l : List St} {sa : Int} (h : ∀ i, i < l.length → (stN l i).k ≠ 4) (subj more : List UInt8) (at_ : Nat) (now : List Nat) (hat : at_ ≤ subj.length) (h0 : at_ = 0 → now = []) : stepF l sa (subj ++ more) at_ now = stepF l sa subj at_ now := by
  unfold stepF
  rw [addF_any h _ (at_ == (subj ++ more).length), addF_any h _ (at_ == subj.length)]
  rcases Nat.eq_zero_or_pos at_ with rfl | hp
  · rw [h0 rfl]; rfl
  · have : byteN (subj ++ more) at_ = byteN subj at_ := by
      unfold byteN
      rw [List.getD_eq_getElem?_getD, List.getD_eq_getElem?_getD, List.getElem?_append_left (by omega)]
    rw [this]
    exact fold_any h _ _ _ _ _ _
theorem over_more {l : List St} {sa : Int} (h : ∀ i, i < l.length → (stN l i).k ≠ 4) (subj more : List UInt8) : ∀ (k at_ : Nat) (now : List Nat) (s : Int), at_ + k = subj.length + 1 → (at_ = 0 → now = []) →
    (overF l sa subj k at_ now s).2 ≤ (overF l sa (subj ++ more) (k + more.length) at_ now s).2 ∧ ((overF l sa subj k at_ now s).1 = true → (overF l sa (subj ++ more) (k + more.length) at_ now s).1 = true ∧ (overF l sa (subj ++ more) (k + more.length) at_ now s).2 = (overF l sa subj k at_ now s).2)
  | 0, at_, now, s, _, _ => by
    rw [overF]
    exact ⟨over_ge _ _ _ _ _, fun h => by cases h⟩
  | k + 1, at_, now, s, hk, h0 => by
    rw [show k + 1 + more.length = k + more.length + 1 by omega, overF, overF, step_any h subj more at_ now (by omega) h0]
    split
    · exact ⟨Int.le_refl _, fun _ => ⟨rfl, rfl⟩⟩
    · exact over_more h subj more k (at_ + 1) _ _ (by omega) (by omega)
end Go.Proofs.YteekafkpeimhoaaGreat

/- Nodes in memory: values, blocks, boxes. Plain. -/
set_option linter.unusedVariables false
set_option linter.unusedSimpArgs false
namespace Go.Proofs.YteekafkpeimhoaaGreat
open Go.RowKit

def xcell (x : T × Option Addr × Nat) : List Value := [.int .i64 x.1.k, .int .u64 x.1.s0, .int .u64 x.1.s1, .int .u64 x.1.s2, .int .u64 x.1.s3, .int .i64 x.1.mn, .int .i64 x.1.mx, .slice x.2.1 x.1.ps.length x.2.2]
def xcells (l : List (T × Option Addr × Nat)) : List Value := l.flatMap xcell
theorem xcells_length (l : List (T × Option Addr × Nat)) : (xcells l).length = l.length * 8 := by
  induction l with
  | nil => rfl
  | cons s l ih =>
    show (xcell s ++ xcells l).length = _
    rw [List.length_append, ih, List.length_cons]
    simp only [xcell, List.length_cons, List.length_nil]
    omega
theorem xcells_snoc (l : List (T × Option Addr × Nat)) (s : T × Option Addr × Nat) : xcells (l ++ [s]) = xcells l ++ xcell s := by simp [xcells]
theorem xcell_one (s : T × Option Addr × Nat) : ∀ u ∈ xcell s, u.oneCell' = true := by
  intro u hu
  simp only [xcell, List.mem_cons, List.not_mem_nil, or_false] at hu
  rcases hu with rfl | rfl | rfl | rfl | rfl | rfl | rfl | rfl <;> rfl
theorem xcells_get : ∀ (l : List (T × Option Addr × Nat)) (i j : Nat) (hi : i < l.length), j < 8 → (xcells l)[i * 8 + j]? = (xcell l[i])[j]?
  | s :: l, 0, j, hi, hj => by
    show (xcell s ++ xcells l)[0 * 8 + j]? = _
    rw [Nat.zero_mul, Nat.zero_add, List.getElem?_append_left (by simp [xcell]; omega)]
    rfl
  | s :: l, i + 1, j, hi, hj => by
    show (xcell s ++ xcells l)[(i + 1) * 8 + j]? = _
    rw [List.getElem?_append_right (by simp [xcell]; omega)]
    simp only [xcell, List.length_cons, List.length_nil]
    rw [show (i + 1) * 8 + j - (0 + 1 + 1 + 1 + 1 + 1 + 1 + 1 + 1) = i * 8 + j by omega, xcells_get l i j (by simpa using hi) hj]
    rfl
theorem At8.ofX {w : World} {b o : Nat} {x : T × Option Addr × Nat} (h : ∀ j, j < 8 → w.cell? ⟨b, o + j, none⟩ = (xcell x)[j]?) : At8 w b o x.1 x.2.1 x.2.2 :=
  ⟨h 0 (by omega), h 1 (by omega), h 2 (by omega), h 3 (by omega), h 4 (by omega), h 5 (by omega), h 6 (by omega), h 7 (by omega)⟩

theorem Tryz.infoNodeX : (Tryz.prog.info? 39).map (fun i => (i.zero, i.size, i.bytes)) = some (some (.agg #[.int .i64 0, .int .u64 0, .int .u64 0, .int .u64 0, .int .u64 0, .int .i64 0, .int .i64 0, .slice none 0 0]), 8, 80) := by kernel_rfl


/-- A block of cells, nothing frozen. -/
def BlkX (w : World) (b : Nat) (cs : Array Value) : Prop := w.heap[b]? = some (.cells cs 39 (0, 0))
theorem BlkX.lt {w : World} {b : Nat} {cs : Array Value} (h : BlkX w b cs) : b < w.heap.size := (Array.getElem?_eq_some_iff.1 h).1
theorem BlkX.cell {w : World} {b : Nat} {cs : Array Value} (h : BlkX w b cs) (o : Nat) : w.cell? ⟨b, o, none⟩ = cs[o]? := cell_of_row w b o cs _ (0, 0) h
theorem BlkX.froz {w : World} {b : Nat} {cs : Array Value} (h : BlkX w b cs) (o : Nat) : w.frozen? ⟨b, o, none⟩ = false := by
  unfold World.frozen?
  rw [show w.heap[(⟨b, o, none⟩ : Addr).block]? = _ from h]
  simp
theorem BlkX.keep {w w' : World} {b : Nat} {cs : Array Value} (h : BlkX w b cs) (e : w'.heap[b]? = w.heap[b]?) : BlkX w' b cs := e.trans h
theorem BlkX.set {w : World} {b : Nat} {cs : Array Value} (h : BlkX w b cs) (o : Nat) (u : Value) : BlkX (w.setCell ⟨b, o, none⟩ u) b (cs.setIfInBounds o u) := by
  unfold BlkX at h ⊢
  simp only [World.setCell, Array.getElem?_modify, ↓reduceIte, h, Option.map_some]
  rfl
theorem BlkX.new (w : World) (cs : Array Value) : BlkX (w.alloc (.cells cs 39)) w.heap.size cs := heap_alloc_new w _

theorem nodeAt_leafX (w : World) (ok : Nat → Prop) (t : T) (h : t.ps = []) : NodeAt w ok t none 0 :=
  .mk t none 0 (fun _ => none) (fun _ => 0) (by simp [h]) (by simp [h]) (fun e => absurd h e) (fun i p hi => by simp [h] at hi)
theorem At8.laterX {w w' : World} {B b o : Nat} {t : T} {A : Option Addr} {c : Nat} (h : At8 w b o t A c) (hb : Below B w w') (hlt : b < B) : At8 w' b o t A c :=
  h.mono fun o => hb.cell (p := ⟨b, o, none⟩) hlt
/-- A tree over a block of nodes. -/
theorem node_litX {W : World} {ok : Nat → Prop} {g : Nat} (R : T) (L : List (T × Option Addr × Nat)) (hps : R.ps = L.map (·.1)) (hlen : L.length ≤ 17592186044416) (hg : ok g)
    (h8 : ∀ (i : Nat) (x : T × Option Addr × Nat), L[i]? = some x → At8 W g (i * 8) x.1 x.2.1 x.2.2) (hN : ∀ (i : Nat) (x : T × Option Addr × Nat), L[i]? = some x → NodeAt W ok x.1 x.2.1 x.2.2) : NodeAt W ok R (some ⟨g, 0, none⟩) L.length := by
  have hx : ∀ (i : Nat) (p : T), R.ps[i]? = some p → ∃ x : T × Option Addr × Nat, L[i]? = some x ∧ x.1 = p := fun i p h => by
    rw [hps, List.getElem?_map, Option.map_eq_some_iff] at h
    exact h
  refine .mk R _ _ (fun i => match L[i]? with | some x => x.2.1 | none => none) (fun i => match L[i]? with | some x => x.2.2 | none => 0) (by rw [hps]; simp) (by rw [hps]; simpa using hlen) (fun _ => ⟨g, 0, rfl, hg, fun i p h => ?_⟩) (fun i p h => ?_)
  · obtain ⟨x, hi, rfl⟩ := hx i p h
    simp only [hi, Nat.zero_add]
    exact h8 i x hi
  · obtain ⟨x, hi, rfl⟩ := hx i p h
    simp only [hi]
    exact hN i x hi
theorem getX1 {α : Type} {P : Nat → α → Prop} {a : α} (h0 : P 0 a) : ∀ (i : Nat) (x : α), [a][i]? = some x → P i x
  | 0, x, h => by simp at h; subst h; exact h0
  | i + 1, x, h => by simp at h
theorem getX2 {α : Type} {P : Nat → α → Prop} {a b : α} (h0 : P 0 a) (h1 : P 1 b) : ∀ (i : Nat) (x : α), [a, b][i]? = some x → P i x
  | 0, x, h => by simp at h; subst h; exact h0
  | 1, x, h => by simp at h; subst h; exact h1
  | i + 2, x, h => by simp at h
theorem NodeAt.wideX {W w : World} {ok ok' : Nat → Prop} {t : T} {A : Option Addr} {c : Nat} (h : NodeAt w ok t A c) {B : Nat} (hb : Below B w W) (hok : ∀ b, ok b → b < B) (hk : ∀ b, b < B → ok' b) : NodeAt W ok' t A c :=
  h.mono fun b hbk => ⟨hk b (hok b hbk), fun o => hb.cell (p := ⟨b, o, none⟩) (hok b hbk)⟩
theorem NodeAt.widerX {w : World} {ok : Nat → Prop} {t : T} {A : Option Addr} {c c' : Nat} (h : NodeAt w ok t A c) (hc : t.ps.length ≤ c') : NodeAt w ok t A c' := by
  cases h with
  | mk _ _ _ As cs h1 h2 h3 h4 => exact .mk t A c' As cs hc h2 h3 h4

abbrev Nx := T × Option Addr × Nat
/-- A node reads, whatever block is read lying in the world. -/
def OwnX (w : World) (x : Nx) : Prop := NodeAt w (fun b => b < w.heap.size) x.1 x.2.1 x.2.2
def OwnsX (w : World) (L : List Nx) : Prop := ∀ x ∈ L, OwnX w x
theorem OwnX.later {w w' : World} {x : Nx} (h : OwnX w x) (hb : Below w.heap.size w w') : OwnX w' x := NodeAt.wideX h hb (fun b h => h) (fun b h => Nat.lt_of_lt_of_le h hb.size)
theorem OwnsX.later {w w' : World} {L : List Nx} (h : OwnsX w L) (hb : Below w.heap.size w w') : OwnsX w' L := fun x hx => (h x hx).later hb
theorem OwnsX.cons {w w' : World} {L : List Nx} (h : OwnsX w L) (hb : Below w.heap.size w w') {x : Nx} (hx : OwnX w' x) : OwnsX w' (x :: L) := fun y hy => by
  rcases List.mem_cons.1 hy with rfl | hy
  · exact hx
  · exact (h y hy).later hb
theorem own_leafX (w : World) (t : T) (h : t.ps = []) : OwnX w (t, none, 0) := nodeAt_leafX w _ t h
/-- Some node is handed out. -/
def GivesX (w' : World) (e : Ending) : Prop := ∃ x : Nx, e = .returned (nodeV x.1 x.2.1 x.2.2) ∧ OwnX w' x
/-- A literal block of nodes. -/
theorem at8_litX {w W : World} (L : List Nx) (hW : W = w.alloc (.cells (xcells L).toArray 39)) : ∀ (i : Nat) (x : Nx), L[i]? = some x → At8 W w.heap.size (i * 8) x.1 x.2.1 x.2.2 := fun i x hi => .ofX fun j hj => by
  have hl := (List.getElem?_eq_some_iff.1 hi).1
  have hx : L[i] = x := (List.getElem?_eq_some_iff.1 hi).2
  rw [hW, World.cell?_alloc_new, List.getElem?_toArray, xcells_get L i j hl hj, hx]
theorem own_litX {w W : World} (L : List Nx) (hW : W = w.alloc (.cells (xcells L).toArray 39)) (hl : L.length ≤ 17592186044416) (H : OwnsX w L) (R : T) (hps : R.ps = L.map (·.1)) : OwnX W (R, some ⟨w.heap.size, 0, none⟩, L.length) := by
  have hb : Below w.heap.size w W := by subst hW; exact (Below.refl _ _).alloc (Nat.le_refl _) _
  have hz : w.heap.size < W.heap.size := by subst hW; simp
  exact node_litX R L hps hl hz (at8_litX L hW) (fun i x hi => (H x (List.mem_of_getElem? hi)).later hb)


/-- The eight cells of a box written. -/
def writeX (w : World) (b : Nat) (x : Nx) : World :=
  (((((((w.setCell ⟨b, 0, none⟩ (.int .i64 x.1.k)).setCell ⟨b, 1, none⟩ (.int .u64 x.1.s0)).setCell ⟨b, 2, none⟩ (.int .u64 x.1.s1)).setCell ⟨b, 3, none⟩ (.int .u64 x.1.s2)).setCell ⟨b, 4, none⟩ (.int .u64 x.1.s3)).setCell ⟨b, 5, none⟩ (.int .i64 x.1.mn)).setCell ⟨b, 6, none⟩ (.int .i64 x.1.mx)).setCell ⟨b, 7, none⟩ (.slice x.2.1 x.1.ps.length x.2.2)
theorem writeX_blk {w : World} {b : Nat} {y : Nx} (h : BlkX w b (xcell y).toArray) (x : Nx) : BlkX (writeX w b x) b (xcell x).toArray := by
  have h1 := (((((((h.set 0 (.int .i64 x.1.k)).set 1 (.int .u64 x.1.s0)).set 2 (.int .u64 x.1.s1)).set 3 (.int .u64 x.1.s2)).set 4 (.int .u64 x.1.s3)).set 5 (.int .i64 x.1.mn)).set 6 (.int .i64 x.1.mx)).set 7 (.slice x.2.1 x.1.ps.length x.2.2)
  unfold writeX; simpa [xcell] using h1
theorem writeX_other (w : World) (b : Nat) (x : Nx) (k : Nat) (hk : k ≠ b) : (writeX w b x).heap[k]? = w.heap[k]? := by
  unfold writeX
  iterate 7 rw [Below.heap_setCell _ _ _ _ hk]
  exact Below.heap_setCell _ _ _ _ hk
theorem writeX_size (w : World) (b : Nat) (x : Nx) : (writeX w b x).heap.size = w.heap.size := by simp [writeX]
theorem writeX_below {B : Nat} {w0 w : World} {b : Nat} (h : Below B w0 w) (hb : B ≤ b) (x : Nx) : Below B w0 (writeX w b x) := by
  unfold writeX
  exact (((((((h.setCell hb _).setCell hb _).setCell hb _).setCell hb _).setCell hb _).setCell hb _).setCell hb _).setCell hb _

theorem BlkX.cells8 {w : World} {b : Nat} {x : Nx} (h : BlkX w b (xcell x).toArray) : (w.cell? ⟨b, 0, none⟩ = some (.int .i64 x.1.k) ∧ w.cell? ⟨b, 1, none⟩ = some (.int .u64 x.1.s0) ∧ w.cell? ⟨b, 2, none⟩ = some (.int .u64 x.1.s1) ∧ w.cell? ⟨b, 3, none⟩ = some (.int .u64 x.1.s2) ∧ w.cell? ⟨b, 4, none⟩ = some (.int .u64 x.1.s3) ∧ w.cell? ⟨b, 5, none⟩ = some (.int .i64 x.1.mn) ∧ w.cell? ⟨b, 6, none⟩ = some (.int .i64 x.1.mx) ∧ w.cell? ⟨b, 7, none⟩ = some (.slice x.2.1 x.1.ps.length x.2.2)) ∧ ∀ o, w.frozen? ⟨b, o, none⟩ = false := by
  refine ⟨⟨?_, ?_, ?_, ?_, ?_, ?_, ?_, ?_⟩, h.froz⟩ <;> (rw [h.cell]; rfl)


/-- append of a slice that may be nil or empty. -/
theorem wpList_append_fromX {P : Program} {ops : Array Oper} {rest : List Oper} {o : Oper} {a : Act} {Q : Exit → Act → World → Prop} {W : World} (base : Nat)
    (hgd : o.guard = none) (s x : Operand) (t e : TypeId) (z : Value) (size bytes : Nat)
    (ho : o.op = .call { callee := .builtin .append, args := #[s, x], argTypes := #[t, t] })
    (ht : P.underlying t = some (.slice e)) (hinfo : (P.info? e).map (fun i => (i.zero, i.size, i.bytes)) = some (some z, size, bytes)) (hz : z.cells.size = size) (hs0 : 0 < size) (hb0 : 0 < bytes)
    (v : Value) (n m : Nat) (xs ys : List Value) (A : Option Addr) (c : Nat) (hs : a.eval s = v) (hx : a.eval x = .slice A m c) (hA : A = none → m = 0 ∧ c = 0) (hys : ys.length = m * size)
    (hnews : ∀ ad, A = some ad → ∀ j u, ys[j]? = some u → W.cell? (ad.add j) = some u) (h1 : ∀ u ∈ ys, u.oneCell' = true)
    (HO : W.ownsRow base e size v n xs) (hbase : base ≤ W.heap.size) (hl : (n + m) * bytes ≤ 140737488355328)
    (h : ∀ A' c' w1, w1.ownsRow base e size (.slice A' (n + m) c') (n + m) (xs ++ ys) → W.grownBy w1 v.ownBlock → ((Value.slice A' (n + m) c').ownBlock = v.ownBlock ∨ (Value.slice A' (n + m) c').ownBlock = some W.heap.size) →
      wpList P ops Q rest (a.put o.dst (.slice A' (n + m) c')) w1) :
    wpList P ops Q (o :: rest) a W := by
  refine wpList_plain hgd fun K hK => ?_
  obtain ⟨i0, hi, hzz⟩ := Option.map_eq_some_iff.1 hinfo
  simp only [Prod.mk.injEq] at hzz
  obtain ⟨hz0, hz1, hz2⟩ := hzz
  have hlen : n + m ≤ 140737488355328 := Nat.le_trans (Nat.le_mul_of_pos_right _ hb0) hl
  unfold Oper.wp execOp
  cases A with
  | none =>
    obtain ⟨rfl, rfl⟩ := hA rfl
    have hy : ys = [] := by simpa using hys
    subst hy
    have hr := run_append_owned_none (P := P) (w := W) base t o.type e i0 size ht hi v n xs HO
    simp only [ho, resolve, invoke, builtin, Sem.run_bind, Sem.run_pure, Result.andThen_ok, List.map_toArray, List.map_cons, List.map_nil, hs, hx, hr]
    have hv : ∃ A' c', v = .slice A' (n + 0) c' := by
      rcases HO.2 with ⟨rfl, rfl⟩ | ⟨g, cap, cur, rfl, _⟩
      · exact ⟨_, _, rfl⟩
      · exact ⟨_, _, rfl⟩
    obtain ⟨A', c', rfl⟩ := hv
    exact hK _ _ (h A' c' W (by simpa using HO) ⟨rfl, rfl, rfl, Nat.le_refl _, fun _ _ _ => rfl⟩ (.inl rfl))
  | some ad =>
    obtain ⟨v1, w1, hr, hown, hg, _, hat⟩ := run_append_own_at (P := P) W base t o.type e i0 z size bytes ht hi hz0 hz1 hz2 hz hs0 v n xs HO ad m c ys hys (hnews ad rfl) h1 (by simp only [maxLen]; omega) hl hbase
    simp only [ho, resolve, invoke, builtin, Sem.run_bind, Sem.run_pure, Result.andThen_ok, List.map_toArray, List.map_cons, List.map_nil, hs, hx, hr]
    have hv : ∃ A' c', v1 = .slice A' (n + m) c' := by
      rcases hown.2 with ⟨rfl, h0⟩ | ⟨g, cap, cur, rfl, _⟩
      · exact ⟨_, _, by rw [h0]⟩
      · exact ⟨_, _, rfl⟩
    obtain ⟨A', c', rfl⟩ := hv
    exact hK _ _ (h A' c' w1 hown hg hat)


theorem addr_addX (b o j : Nat) : (⟨b, o, none⟩ : Addr).add j = ⟨b, o + j, none⟩ := by unfold Addr.add; split <;> simp_all
end Go.Proofs.YteekafkpeimhoaaGreat

/- match.runner: put, add: walked. -/
set_option linter.unusedVariables false
set_option linter.unusedSimpArgs false
namespace Go.Proofs.YteekafkpeimhoaaGreat
open Go.RowKit

theorem Tryz.infoInt : (Tryz.prog.info? 3).map (fun i => (i.zero, i.size, i.bytes)) = some (some (.int .i64 0), 1, 8) := by kernel_rfl
def ints (X : List Nat) : List Value := X.map fun i : Nat => Value.int .i64 (i : Int)
theorem ints_len (X : List Nat) : (ints X).length = X.length := by simp [ints]
theorem ints_snoc (X : List Nat) (i : Nat) : ints (X ++ [i]) = ints X ++ [.int .i64 (i : Int)] := by simp [ints]
/-- The next places, as they lie in memory: q: the runner's block, T: the block of what is there. -/
structure Nxt (w : World) (B q T N : Nat) (X : List Nat) (n : Nat) (A : Option Addr) (c : Nat) : Prop where
  len : X.length = n
  f4 : w.cell? ⟨q, 4, none⟩ = some (.slice A n c)
  f5 : w.cell? ⟨q, 5, none⟩ = some (.slice (some ⟨T, 0, none⟩) N N)
  z4 : w.frozen? ⟨q, 4, none⟩ = false
  row : w.ownsRow B 3 1 (.slice A n c) n (ints X)
  th : ∀ i, i < N → w.cell? ⟨T, i, none⟩ = some (.bool (decide (i ∈ X)))
  tz : ∀ i, w.frozen? ⟨T, i, none⟩ = false
  lq : q < w.heap.size
  lT : T < w.heap.size
  qT : q ≠ T
  rq : (Value.slice A n c).ownBlock ≠ some q
  rT : (Value.slice A n c).ownBlock ≠ some T
  lt : ∀ x ∈ X, x < N
  nd : X.Nodup
  hB : B ≤ w.heap.size
/-- What put and add may write. -/
structure Mv (q T : Nat) (o o' : Option Nat) (w w' : World) : Prop where
  os : w'.os = w.os
  tape : w'.tape = w.tape
  output : w'.output = w.output
  size : w.heap.size ≤ w'.heap.size
  block : ∀ k, k < w.heap.size → k ≠ q → k ≠ T → some k ≠ o → w'.heap[k]? = w.heap[k]?
  cell : ∀ i, i ≠ 4 → w'.cell? ⟨q, i, none⟩ = w.cell? ⟨q, i, none⟩
  froz : ∀ i, w'.frozen? ⟨q, i, none⟩ = w.frozen? ⟨q, i, none⟩
  own : o' = o ∨ ∃ g, o' = some g ∧ w.heap.size ≤ g
theorem Mv.refl (q T : Nat) (o : Option Nat) (w : World) : Mv q T o o w w := ⟨rfl, rfl, rfl, Nat.le_refl _, fun _ _ _ _ _ => rfl, fun _ _ => rfl, fun _ => rfl, .inl rfl⟩
theorem Mv.trans {q T : Nat} {o o1 o2 : Option Nat} {w w1 w2 : World} (h : Mv q T o o1 w w1) (k : Mv q T o1 o2 w1 w2) : Mv q T o o2 w w2 := by
  refine ⟨k.os.trans h.os, k.tape.trans h.tape, k.output.trans h.output, Nat.le_trans h.size k.size, fun b hb h1 h2 h3 => (k.block b (Nat.lt_of_lt_of_le hb h.size) h1 h2 ?_).trans (h.block b hb h1 h2 h3), fun i hi => (k.cell i hi).trans (h.cell i hi), fun i => (k.froz i).trans (h.froz i), ?_⟩
  · rcases h.own with e | ⟨g, e, hg⟩
    · rw [e]; exact h3
    · rw [e]; intro e'; simp only [Option.some.injEq] at e'; omega
  · rcases k.own with e | ⟨g, e, hg⟩
    · rw [e]; exact h.own
    · exact .inr ⟨g, e, Nat.le_trans h.size hg⟩

set_option maxRecDepth 100000 in
set_option maxHeartbeats 2000000 in
theorem put_any (w : World) (B q T N : Nat) (X : List Nat) (n : Nat) (A : Option Addr) (c : Nat) (h : Nxt w B q T N X n A c) (hN : N ≤ 5000) (i : Nat) (hi : i < N) :
    Calls Tryz.prog 40 #[.pointer (some ⟨q, 0, none⟩), .int .i64 (i : Int)] w fun en w' => en = .returned (.tuple #[]) ∧ ∃ n' A' c', Nxt w' B q T N (putF X i) n' A' c' ∧ Mv q T (Value.slice A n c).ownBlock (Value.slice A' n' c').ownBlock w w' := by
  have f4 := h.f4; have f5 := h.f5
  have tc := h.th i hi
  have tz := h.tz i
  have lT := h.lT; have lq := h.lq; have qT := h.qT
  have hn : n ≤ N := by rw [← h.len]; exact nodup_le h.nd h.lt
  by_cases hx : i ∈ X
  · have hp : putF X i = X := if_pos hx
    rw [hp]
    rw [decide_eq_true hx] at tc
    have H := Lib.hid h; clear h hp hx
    go_enter Tryz.func40, Tryz.ntmps40
    go_wp2_with fail
    go_end0
    exact ⟨rfl, n, A, c, H.out, Mv.refl _ _ _ _⟩
  · have hp : putF X i = X ++ [i] := if_neg hx
    rw [hp]
    rw [decide_eq_false hx] at tc
    have z4 := h.z4
    have H := Lib.hid h; have Hx := Lib.hid hx; clear h hp hx
    go_enter Tryz.func40, Tryz.ntmps40
    go_upto_region 2 with fail
    generalize hW : w.setCell _ _ = W1
    have W1b : ∀ k, k ≠ T → W1.heap[k]? = w.heap[k]? := fun k hk => by subst hW; exact Below.heap_setCell _ _ _ _ hk
    have W1z : W1.heap.size = w.heap.size := by subst hW; simp
    have W1t : ∀ j, j < N → W1.cell? ⟨T, j, none⟩ = some (.bool (decide (j ∈ X ++ [i]))) := fun j hj => by
      subst hW
      by_cases e : i = j
      · subst e
        rw [World.cell?_setCell_same _ _ _ (H.out.th i hi)]
        simp
      · rw [World.cell?_setCell_other _ _ _ _ (by simp [e]), H.out.th j hj]
        simp [Ne.symm e]
    have W1f : ∀ a, W1.frozen? a = w.frozen? a := fun a => by subst hW; rw [World.frozen?_setCell]
    have W1e : W1.os = w.os ∧ W1.tape = w.tape ∧ W1.output = w.output := by subst hW; exact ⟨rfl, rfl, rfl⟩
    have g4 : W1.cell? ⟨q, 4, none⟩ = some (.slice A n c) := (World.cell?_of_block (w := w) (a := ⟨q, 4, none⟩) (W1b q qT)).trans f4
    have g5 : W1.frozen? ⟨q, 4, none⟩ = false := (W1f _).trans z4
    have lq1 : q < W1.heap.size := by omega
    have hrow : W1.ownsRow B 3 1 (.slice A n c) n (ints X) := H.out.row.kept (w' := W1) (row := some T) ⟨W1e.1, W1e.2.1, W1e.2.2, by omega, fun k hk hne => W1b k (by simpa using hne)⟩ (.inr H.out.rT)
    have Hrow := Lib.hid hrow; have HW1b := Lib.hid W1b; have HW1t := Lib.hid W1t; have HW1f := Lib.hid W1f; have HW1e := Lib.hid W1e; have HW1z := Lib.hid W1z
    have hnews : ∀ ad, some (⟨W1.heap.size, 0, none⟩ : Addr) = some ad → ∀ j u, (ints [i])[j]? = some u → (W1.alloc (.cells (ints [i]).toArray 3)).cell? (ad.add j) = some u := fun ad e j u hu => by
      simp only [Option.some.injEq] at e
      subst e
      rw [addr_addX, World.cell?_alloc_new, Nat.zero_add]
      simpa using hu
    have Hnews := Lib.hid hnews
    have hBz : B ≤ W1.heap.size := by have := H.out.hB; omega
    clear hW hrow W1b W1t W1f W1e W1z hnews tc tz f4 f5 z4
    go_wp2_with (at_builtin; refine wpList_append_fromX B rfl _ _ 61 3 _ 1 8 rfl Tryz.underlying61 Tryz.infoInt rfl (by omega) (by omega) (.slice A n c) n 1 (ints X) (ints [i]) (some ⟨W1.heap.size, 0, none⟩) 1 rfl rfl (by simp) rfl Hnews.out (by simp [ints, Value.oneCell']) (Hrow.out.alloc _) (by simp; omega) (by omega) (fun A5 c5 w5 ho5 hg5 hat5 => ?_); have hqb : w5.heap[q]? = W1.heap[q]? := (hg5.block q (by simp; omega) (fun e => H.out.rq e.symm)).trans (((Below.refl W1.heap.size W1).alloc (Nat.le_refl _) _).block q lq1); have k4 : w5.cell? ⟨q, 4, none⟩ = some (.slice A n c) := (World.cell?_of_block (w := W1) (a := ⟨q, 4, none⟩) hqb).trans g4; have e4 : w5.frozen? ⟨q, 4, none⟩ = false := (World.frozen?_of_block (w := W1) (a := ⟨q, 4, none⟩) hqb).trans g5; have Hqb := Lib.hid hqb; have Ho5 := Lib.hid ho5; have Hg5 := Lib.hid hg5; have Hat5 := Lib.hid hat5; clear hqb ho5 hg5 hat5)
    go_end0
    have hz1 := HW1z.out
    have hz5 : W1.heap.size + 1 ≤ w5.heap.size := by have := Hg5.out.size; simpa using this
    have hblk : ∀ k, k < w.heap.size → k ≠ T → some k ≠ (Value.slice A n c).ownBlock → w5.heap[k]? = w.heap[k]? := fun k hk h1 h2 => ((Hg5.out.block k (by simp; omega) h2).trans (((Below.refl W1.heap.size W1).alloc (Nat.le_refl _) _).block k (by omega))).trans (HW1b.out k h1)
    have hqw : w5.heap[q]? = w.heap[q]? := Hqb.out.trans (HW1b.out q qT)
    have hTw : w5.heap[T]? = W1.heap[T]? := (Hg5.out.block T (by simp; omega) (fun e => H.out.rT e.symm)).trans (((Below.refl W1.heap.size W1).alloc (Nat.le_refl _) _).block T (by omega))
    have hown : (Value.slice A5 (n + 1) c5).ownBlock = (Value.slice A n c).ownBlock ∨ (Value.slice A5 (n + 1) c5).ownBlock = some (W1.heap.size + 1) := Hat5.out.imp (fun e => e) (fun e => by rw [e]; simp)
    have hneq : (Value.slice A5 (n + 1) c5).ownBlock ≠ some q := by
      rcases hown with e | e
      · rw [e]; exact H.out.rq
      · rw [e]; simp; omega
    have hneT : (Value.slice A5 (n + 1) c5).ownBlock ≠ some T := by
      rcases hown with e | e
      · rw [e]; exact H.out.rT
      · rw [e]; simp; omega
    have hset : ∀ k, k ≠ q → (w5.setCell ⟨q, 4, none⟩ (.slice A5 (n + 1) c5)).heap[k]? = w5.heap[k]? := fun k hk => Below.heap_setCell _ _ _ _ hk
    refine ⟨rfl, n + 1, A5, c5, ⟨by simp [H.out.len], World.cell?_setCell_same _ _ _ k4, ?_, ?_, ?_, fun j hj => ?_, fun j => ?_, by simp; omega, by simp; omega, qT, hneq, hneT, fun x hx' => ?_, ?_, by have := H.out.hB; simp; omega⟩, ⟨?_, ?_, ?_, by simp; omega, fun k hk h1 h2 h3 => (hset k h1).trans (hblk k hk h2 h3), fun j hj => ?_, fun j => ?_, ?_⟩⟩
    · exact (World.cell?_setCell_other _ _ _ _ (by simp)).trans ((World.cell?_of_block (w := w) (a := ⟨q, 5, none⟩) hqw).trans H.out.f5)
    · rw [World.frozen?_setCell]; exact e4
    · rw [ints_snoc]
      exact Ho5.out.kept (row := some q) ⟨rfl, rfl, rfl, by simp, fun k hk hne => hset k (by simpa using hne)⟩ (.inr hneq)
    · exact (World.cell?_of_block (w := W1) (a := ⟨T, j, none⟩) ((hset T (fun e => qT e.symm)).trans hTw)).trans (HW1t.out j hj)
    · rw [World.frozen?_setCell]
      exact ((World.frozen?_of_block (w := W1) (a := ⟨T, j, none⟩) hTw).trans (HW1f.out _)).trans (H.out.tz j)
    · rcases List.mem_append.1 hx' with h' | h'
      · exact H.out.lt x h'
      · simp at h'; omega
    · have := put_nodup H.out.nd i
      rwa [putF, if_neg Hx.out] at this
    · exact (Hg5.out.os).trans HW1e.out.1
    · exact (Hg5.out.tape).trans HW1e.out.2.1
    · exact (Hg5.out.output).trans HW1e.out.2.2
    · exact (World.cell?_setCell_other _ _ _ _ (by simp <;> omega)).trans (World.cell?_of_block (w := w) (a := ⟨q, j, none⟩) hqw)
    · rw [World.frozen?_setCell]; exact World.frozen?_of_block (w := w) (a := ⟨q, j, none⟩) hqw
    · rcases hown with e | e
      · exact .inl e
      · exact .inr ⟨_, e, by omega⟩
end Go.Proofs.YteekafkpeimhoaaGreat

/- match.runner.add: walked. -/
set_option linter.unusedVariables false
set_option linter.unusedSimpArgs false
namespace Go.Proofs.YteekafkpeimhoaaGreat
open Go.RowKit

theorem Nxt.later {w w' : World} {B q T N : Nat} {X : List Nat} {n : Nat} {A : Option Addr} {c : Nat} (h : Nxt w B q T N X n A c) (hb : Below w.heap.size w w') : Nxt w' B q T N X n A c :=
  ⟨h.len, (hb.cell (p := ⟨q, 4, none⟩) h.lq).trans h.f4, (hb.cell (p := ⟨q, 5, none⟩) h.lq).trans h.f5, (hb.frozen (p := ⟨q, 4, none⟩) h.lq).trans h.z4, h.row.kept (row := none) ⟨hb.os, hb.tape, hb.output, hb.size, fun k hk _ => hb.block k hk⟩ (by cases hv : (Value.slice A n c).ownBlock <;> simp), fun i hi => (hb.cell (p := ⟨T, i, none⟩) h.lT).trans (h.th i hi), fun i => (hb.frozen (p := ⟨T, i, none⟩) h.lT).trans (h.tz i), Nat.lt_of_lt_of_le h.lq hb.size, Nat.lt_of_lt_of_le h.lT hb.size, h.qT, h.rq, h.rT, h.lt, h.nd, Nat.le_trans h.hB hb.size⟩
theorem Mv.of_below {q T : Nat} {o : Option Nat} {w w' : World} (hq : q < w.heap.size) (hb : Below w.heap.size w w') : Mv q T o o w w' :=
  ⟨hb.os, hb.tape, hb.output, hb.size, fun k hk _ _ _ => hb.block k hk, fun i _ => hb.cell (p := ⟨q, i, none⟩) hq, fun i => hb.frozen (p := ⟨q, i, none⟩) hq, .inl rfl⟩
theorem Mv.below {q T : Nat} {o o' : Option Nat} {w w' : World} (h : Mv q T o o' w w') {S : Nat} (hq : S ≤ q) (hT : S ≤ T) (ho : ∀ k, o = some k → S ≤ k) (hs : S ≤ w.heap.size) : Below S w w' :=
  ⟨h.os, h.tape, h.output, h.size, fun k hk => h.block k (by omega) (by omega) (by omega) (fun e => by have := ho k e.symm; omega)⟩
theorem Nxt.own_le {w : World} {B q T N : Nat} {X : List Nat} {n : Nat} {A : Option Addr} {c : Nat} (h : Nxt w B q T N X n A c) : ∀ k, (Value.slice A n c).ownBlock = some k → B ≤ k ∧ k < w.heap.size := fun k hk => h.row.lt k hk
/-- An entry of the list of places. -/
theorem Nxt.at_ {w : World} {B q T N : Nat} {X : List Nat} {n : Nat} {A : Option Addr} {c : Nat} (h : Nxt w B q T N X n A c) {i : Nat} (hi : i < n) : ∃ g, A = some ⟨g, 0, none⟩ ∧ g < w.heap.size ∧ n ≤ c ∧ w.cell? ⟨g, i, none⟩ = some (.int .i64 ((X.getD i 0 : Nat) : Int)) := by
  have hl := h.len
  rcases h.row.2 with ⟨_, h0⟩ | ⟨g, cap, cur, e, hb, hh, hcap, _⟩
  · omega
  · simp only [Value.slice.injEq] at e
    obtain ⟨rfl, _, rfl⟩ := e
    refine ⟨g, rfl, by (rcases Nat.lt_or_ge g w.heap.size with h' | h'; exact h'; rw [Array.getElem?_eq_none h'] at hh; simp at hh), hcap, ?_⟩
    rw [h.row.cellAt i (by omega)]
    simp [ints, List.getD_eq_getElem?_getD, List.getElem?_eq_getElem (show i < X.length by omega)]

set_option maxRecDepth 100000 in
set_option maxHeartbeats 4000000 in
theorem add_par (w : World) (B q T S : Nat) (l : List St) (sa : Int) (hm : MOk l sa) (ok : Nat → Prop) (Am : Option Addr) (cm : Nat) (b e : Bool) (hS : StsAt w ok l Am cm) (hok : ∀ k, ok k → k < S) (hq : S ≤ q) (hT : S ≤ T) (hBS : S ≤ B)
    (m0 : w.cell? ⟨q, 0, none⟩ = some (.slice Am l.length cm)) (m6 : w.cell? ⟨q, 6, none⟩ = some (.bool b)) (m7 : w.cell? ⟨q, 7, none⟩ = some (.bool e))
    (X : List Nat) (n : Nat) (A : Option Addr) (c : Nat) (h : Nxt w B q T l.length X n A c) (i : Nat) (hi : i < l.length) :
    Calls Tryz.prog 23 #[.pointer (some ⟨q, 0, none⟩), .int .i64 (i : Int)] w fun en w' => en = .returned (.tuple #[]) ∧ ∃ n' A' c', Nxt w' B q T l.length (addF l b e X i) n' A' c' ∧ Mv q T (Value.slice A n c).ownBlock (Value.slice A' n' c').ownBlock w w' := by
  have hN : l.length ≤ 5000 := by have := hm.len; omega
  have hn : n ≤ l.length := by rw [← h.len]; exact nodup_le h.nd h.lt
  have hXn := h.len
  have f4 := h.f4
  have lq := h.lq
  have hBz := h.hB
  have H := Lib.hid h; have HM := Lib.hid hm; have HS := Lib.hid hS; have HOk := Lib.hid hok; have HXn := Lib.hid hXn
  have hol := h.own_le
  have Hol := Lib.hid hol
  clear h hm hS hok hXn hol
  go_enter Tryz.func23, Tryz.ntmps23
  go_wp2_with fail
  refine (put_any w B q T l.length X n A c H.out hN i hi).mono ?_
  rintro en w1 ⟨rfl, n1, A1, c1, h1, hv1⟩
  have H1 := Lib.hid h1; have Hv1 := Lib.hid hv1
  clear h1 hv1 f4
  go_wp2_with fail
  go_loopg [4] (l.length - n) (fun k v wr => ∃ (fr : Nat) (Y : List Nat) (nY : Nat) (AY : Option Addr) (cY : Nat), v = .int .i64 (fr : Int) ∧ fr + k = l.length ∧ loopF l b e k fr Y = addF l b e X i ∧ Nxt wr B q T l.length Y nY AY cY ∧ Mv q T (Value.slice A n c).ownBlock (Value.slice AY nY cY).ownBlock w wr)
  case atStart => exact ⟨n, putF X i, n1, A1, c1, rfl, by omega, by rw [addF, HXn.out], H1.out, Hv1.out⟩
  case round =>
    clear H1 Hv1
    obtain ⟨fr, Y, nY, AY, cY, rfl, hfr, hl, hY, hv⟩ := hrel
    have g4 := hY.f4
    have lqr := hY.lq
    have lTr := hY.lT
    have hnY : nY ≤ l.length := by rw [← hY.len]; exact nodup_le hY.nd hY.lt
    have hBel : Below S w wr := hv.below hq hT (fun k hk => by have := Hol.out k hk; omega) (by omega)
    have HY := Lib.hid hY; have Hl := Lib.hid hl; have Hv := Lib.hid hv
    by_cases hlt : fr < nY
    · obtain ⟨g, rfl, hg, hcY, hcell⟩ := hY.at_ hlt
      have hx : Y.getD fr 0 < l.length := hY.lt _ (by rw [List.getD_eq_getElem?_getD, List.getElem?_eq_getElem (by rw [hY.len]; exact hlt)]; exact List.getElem_mem _)
      have hsk := HM.out.kinds hx
      have hfold : loopF l b e gk fr Y = loopF l b e (gk - 1) (fr + 1) ((outs b e (stN l (Y.getD fr 0))).foldl putF Y) := by
        obtain ⟨k, rfl⟩ : ∃ k, gk = k + 1 := ⟨gk - 1, by omega⟩
        rw [loopF, if_pos (by rw [hY.len]; exact hlt)]; rfl
      rw [hfold] at hl
      have Hl := Lib.hid hl
      clear hfold hl
      obtain ⟨gm, om, rfl, hgm, hst⟩ := (HS.out.later hBel HOk.out).at_ (by omega)
      have hstx := hst (Y.getD fr 0) hx
      have hsN : l[Y.getD fr 0] = stN l (Y.getD fr 0) := by unfold stN; rw [List.getD_eq_getElem?_getD (l := l), List.getElem?_eq_getElem hx]; rfl
      rw [hsN] at hstx
      clear hst hsN
      generalize hxe : Y.getD fr 0 = x at *
      generalize stN l x = s at *
      have hgS := HOk.out gm hgm
      have k0 := (hv.cell 0 (by omega)).trans m0
      have k6 := (hv.cell 6 (by omega)).trans m6
      have k7 := (hv.cell 7 (by omega)).trans m7
      have hcS := HS.out.cap
      obtain ⟨sk, s0, s1, s2, s3, nx, ot⟩ := s
      obtain ⟨f0, f1, f2, f3, f4, f5, f6⟩ := hstx
      simp only at f0 f1 f2 f3 f4 f5 f6 hsk
      have hgw : gm < wr.heap.size := by omega
      clear hY hv hxe
      rcases hsk with rfl | ⟨hk, hn0, hn1⟩ | ⟨rfl, ⟨hn0, hn1⟩, ho0, ho1⟩
      · have ho : outs b e ⟨5, s0, s1, s2, s3, nx, ot⟩ = [] := by simp [outs]
        rw [ho] at Hl
        clear ho
        go_upto_region 4 with fail
        go_region
        all_goals go_wp2_with fail
        generalize hW : (wr.alloc _).drew = W2
        have hb2 : Below wr.heap.size wr W2 := by subst hW; exact ((Below.refl _ _).alloc (Nat.le_refl _) _).drew
        have HY2 := Lib.hid (HY.out.later hb2)
        have Hv2 := Lib.hid (Hv.out.trans (Mv.of_below lqr hb2))
        clear hW
        go_roundg (gk - 1)
        case measure => omega
        case rel => exact ⟨fr + 1, _, _, _, _, by go_num, by omega, Hl.out, HY2.out, Hv2.out⟩
      · obtain ⟨x1, rfl⟩ : ∃ x1 : Nat, nx = x1 := ⟨nx.toNat, by omega⟩
        have hx1 : x1 < l.length := by omega
        rcases hk with rfl | rfl | rfl
        · have ho : outs b e ⟨1, s0, s1, s2, s3, x1, ot⟩ = [] := by simp [outs]
          rw [ho] at Hl
          clear ho
          go_upto_region 4 with fail
          go_region
          all_goals go_wp2_with fail
          generalize hW : (wr.alloc _).drew = W2
          have hb2 : Below wr.heap.size wr W2 := by subst hW; exact ((Below.refl _ _).alloc (Nat.le_refl _) _).drew
          have HY2 := Lib.hid (HY.out.later hb2)
          have Hv2 := Lib.hid (Hv.out.trans (Mv.of_below lqr hb2))
          clear hW
          go_roundg (gk - 1)
          case measure => omega
          case rel => exact ⟨fr + 1, _, _, _, _, by go_num, by omega, Hl.out, HY2.out, Hv2.out⟩
        · cases b
          · have ho : outs false e ⟨3, s0, s1, s2, s3, x1, ot⟩ = [] := by simp [outs]
            rw [ho] at Hl
            clear ho
            go_upto_region 4 with fail
            go_region
            all_goals go_wp2_with fail
            generalize hW : (wr.alloc _).drew = W2
            have hb2 : Below wr.heap.size wr W2 := by subst hW; exact ((Below.refl _ _).alloc (Nat.le_refl _) _).drew
            have HY2 := Lib.hid (HY.out.later hb2)
            have Hv2 := Lib.hid (Hv.out.trans (Mv.of_below lqr hb2))
            clear hW
            go_roundg (gk - 1)
            case measure => omega
            case rel => exact ⟨fr + 1, _, _, _, _, by go_num, by omega, Hl.out, HY2.out, Hv2.out⟩
          · have ho : outs true e ⟨3, s0, s1, s2, s3, x1, ot⟩ = [x1] := by simp [outs]
            rw [ho] at Hl
            clear ho
            go_upto_region 4 with fail
            go_region
            all_goals go_wp2_with fail
            generalize hW : (wr.alloc _).drew = W2
            have hb2 : Below wr.heap.size wr W2 := by subst hW; exact ((Below.refl _ _).alloc (Nat.le_refl _) _).drew
            have HY2 := Lib.hid (HY.out.later hb2)
            have Hv2 := Lib.hid (Hv.out.trans (Mv.of_below lqr hb2))
            clear hW
            refine (put_any W2 B q T l.length Y nY _ cY HY2.out hN x1 hx1).mono ?_
            rintro en w3 ⟨rfl, n3, A3, c3, h3, hv3⟩
            have H3 := Lib.hid h3; have Hv3 := Lib.hid (Hv2.out.trans hv3)
            clear h3 hv3
            go_wp2_with fail
            go_roundg (gk - 1)
            case measure => omega
            case rel => exact ⟨fr + 1, _, _, _, _, by go_num, by omega, Hl.out, H3.out, Hv3.out⟩
        · cases e
          · have ho : outs b false ⟨4, s0, s1, s2, s3, x1, ot⟩ = [] := by simp [outs]
            rw [ho] at Hl
            clear ho
            go_upto_region 4 with fail
            go_region
            all_goals go_wp2_with fail
            generalize hW : (wr.alloc _).drew = W2
            have hb2 : Below wr.heap.size wr W2 := by subst hW; exact ((Below.refl _ _).alloc (Nat.le_refl _) _).drew
            have HY2 := Lib.hid (HY.out.later hb2)
            have Hv2 := Lib.hid (Hv.out.trans (Mv.of_below lqr hb2))
            clear hW
            go_roundg (gk - 1)
            case measure => omega
            case rel => exact ⟨fr + 1, _, _, _, _, by go_num, by omega, Hl.out, HY2.out, Hv2.out⟩
          · have ho : outs b true ⟨4, s0, s1, s2, s3, x1, ot⟩ = [x1] := by simp [outs]
            rw [ho] at Hl
            clear ho
            go_upto_region 4 with fail
            go_region
            all_goals go_wp2_with fail
            generalize hW : (wr.alloc _).drew = W2
            have hb2 : Below wr.heap.size wr W2 := by subst hW; exact ((Below.refl _ _).alloc (Nat.le_refl _) _).drew
            have HY2 := Lib.hid (HY.out.later hb2)
            have Hv2 := Lib.hid (Hv.out.trans (Mv.of_below lqr hb2))
            clear hW
            refine (put_any W2 B q T l.length Y nY _ cY HY2.out hN x1 hx1).mono ?_
            rintro en w3 ⟨rfl, n3, A3, c3, h3, hv3⟩
            have H3 := Lib.hid h3; have Hv3 := Lib.hid (Hv2.out.trans hv3)
            clear h3 hv3
            go_wp2_with fail
            go_roundg (gk - 1)
            case measure => omega
            case rel => exact ⟨fr + 1, _, _, _, _, by go_num, by omega, Hl.out, H3.out, Hv3.out⟩
      · obtain ⟨x1, rfl⟩ : ∃ x1 : Nat, nx = x1 := ⟨nx.toNat, by omega⟩
        obtain ⟨x2, rfl⟩ : ∃ x2 : Nat, ot = x2 := ⟨ot.toNat, by omega⟩
        have hx1 : x1 < l.length := by omega
        have hx2 : x2 < l.length := by omega
        have ho : outs b e ⟨2, s0, s1, s2, s3, x1, x2⟩ = [x1, x2] := by simp [outs]
        rw [ho] at Hl
        clear ho
        go_upto_region 4 with fail
        go_region
        all_goals go_wp2_with fail
        generalize hW : (wr.alloc _).drew = W2
        have hb2 : Below wr.heap.size wr W2 := by subst hW; exact ((Below.refl _ _).alloc (Nat.le_refl _) _).drew
        have HY2 := Lib.hid (HY.out.later hb2)
        have Hv2 := Lib.hid (Hv.out.trans (Mv.of_below lqr hb2))
        have b3 : W2.cell? ⟨wr.heap.size, 6, none⟩ = some (.int .i64 x2) := by subst hW; simp [go_sem]
        have lb : wr.heap.size < W2.heap.size := by subst hW; simp
        clear hW
        refine (put_any W2 B q T l.length Y nY _ cY HY2.out hN x1 hx1).mono ?_
        rintro en w3 ⟨rfl, n3, A3, c3, h3, hv3⟩
        have b4 := (World.cell?_of_block (w := W2) (a := ⟨wr.heap.size, 6, none⟩) (hv3.block wr.heap.size lb (by omega) (by omega) (fun e' => by have := HY.out.own_le _ e'.symm; omega))).trans b3
        have lb3 : wr.heap.size < w3.heap.size := by have := hv3.size; omega
        have H3 := Lib.hid h3; have Hv3 := Lib.hid (Hv2.out.trans hv3)
        clear h3 hv3 b3
        go_wp2_with fail
        refine (put_any w3 B q T l.length (putF Y x1) n3 A3 c3 H3.out hN x2 hx2).mono ?_
        rintro en w4 ⟨rfl, n4, A4, c4, h4, hv4⟩
        have H4 := Lib.hid h4; have Hv4 := Lib.hid (Hv3.out.trans hv4)
        clear h4 hv4 b4
        go_wp2_with fail
        go_roundg (gk - 1)
        case measure => omega
        case rel => exact ⟨fr + 1, _, _, _, _, by go_num, by omega, Hl.out, H4.out, Hv4.out⟩
    · have hfin : Y = addF l b e X i := by
        rw [← Hl.out]
        cases gk with
        | zero => rw [loopF]
        | succ k => rw [loopF, if_neg (by rw [hY.len]; exact hlt)]
      clear hY hv hl
      go_wp2_with fail
      go_end0
      exact ⟨rfl, nY, AY, cY, by rw [← hfin]; exact HY.out, Hv.out⟩
end Go.Proofs.YteekafkpeimhoaaGreat

/- match.places.empty: walked. -/
set_option linter.unusedVariables false
set_option linter.unusedSimpArgs false
namespace Go.Proofs.YteekafkpeimhoaaGreat
open Go.RowKit

theorem Tryz.zeroBool (w : World) : (zeroValue 4).run Tryz.prog w = .ok (.bool false) w := by kernel_rfl
theorem Nxt.trim {w : World} {B : Nat} {X : List Nat} {n : Nat} {A : Option Addr} {c : Nat} (h : w.ownsRow B 3 1 (.slice A n c) n (ints X)) : w.ownsRow B 3 1 (.slice A 0 c) 0 (ints []) := by
  refine ⟨rfl, ?_⟩
  rcases h.2 with ⟨e, _⟩ | ⟨g, cap, cur, e, hb, hh, hcap, hm, hs, _⟩
  · simp only [Value.slice.injEq] at e
    obtain ⟨rfl, _, rfl⟩ := e
    exact .inl ⟨rfl, rfl⟩
  · simp only [Value.slice.injEq] at e
    obtain ⟨rfl, _, rfl⟩ := e
    exact .inr ⟨g, c, cur, rfl, hb, hh, by omega, hm, hs, by simp [ints]⟩

set_option maxRecDepth 100000 in
set_option maxHeartbeats 2000000 in
theorem empty_any (w : World) (B q T N : Nat) (X : List Nat) (n : Nat) (A : Option Addr) (c : Nat) (h : Nxt w B q T N X n A c) (h0 : 0 < N) (hN : N ≤ 5000) :
    Calls Tryz.prog 24 #[.pointer (some ⟨q, 4, none⟩)] w fun en w' => en = .returned (.tuple #[]) ∧ Nxt w' B q T N [] 0 A c ∧ Mv q T (Value.slice A n c).ownBlock (Value.slice A 0 c).ownBlock w w' := by
  have f4 := h.f4; have f5 := h.f5; have z4 := h.z4
  have lT := h.lT; have lq := h.lq; have qT := h.qT
  have hcap : n ≤ c := by
    rcases h.row.2 with ⟨e, h0'⟩ | ⟨g, cap, cur, e, hb, hh, hcap, _⟩
    · omega
    · simp only [Value.slice.injEq] at e; omega
  have hcl : ∀ ty, (Builtin.clear_ #[60] ty #[.slice (some ⟨T, 0, none⟩) N N]).run Tryz.prog w = .ok (.tuple #[]) (w.setCells T 0 (List.replicate N (.bool false))) :=
    fun ty => Lib.run_clear_slice w 60 4 ty (.bool false) Tryz.underlying60 Tryz.zeroBool rfl rfl T 0 N N h0 (fun j hj => by rw [Nat.zero_add, h.th j hj]; rfl) (fun j hj => h.tz _)
  generalize hW : w.setCells T 0 (List.replicate N (.bool false)) = W1 at *
  have hz1 : w.heap.size ≤ W1.heap.size := by rw [← hW]; exact (Lib.below_setCells T (Nat.zero_le _) _ 0 (Below.refl 0 w)).size
  have hbel : Below 0 w W1 := by rw [← hW]; exact Lib.below_setCells T (Nat.zero_le _) _ 0 (Below.refl 0 w)
  have hblk : ∀ k, k < w.heap.size → k ≠ T → W1.heap[k]? = w.heap[k]? := fun k hk hn => by rw [← hW]; exact World.heap_setCells_other w T 0 _ hk hn
  have hth : ∀ i, i < N → W1.cell? ⟨T, i, none⟩ = some (.bool false) := fun i hi => by
    rw [← hW]
    have := World.cell?_setCells_in T (List.replicate N (.bool false)) 0 w (fun j hj => by rw [Nat.zero_add, h.th j (by simpa using hj)]; rfl) i (by simpa using hi)
    simpa using this
  have hfz : ∀ a, W1.frozen? a = w.frozen? a := fun a => by rw [← hW]; exact World.frozen?_setCells T _ 0 w a
  have g4 : W1.cell? ⟨q, 4, none⟩ = some (.slice A n c) := (World.cell?_of_block (w := w) (a := ⟨q, 4, none⟩) (hblk q lq qT)).trans f4
  have y4 : W1.frozen? ⟨q, 4, none⟩ = false := (hfz _).trans z4
  have H := Lib.hid h; have Hth := Lib.hid hth; have Hfz := Lib.hid hfz; have Hblk := Lib.hid hblk; have Hbel := Lib.hid hbel
  clear h hth hfz hblk hbel hW
  go_enter Tryz.func24, Tryz.ntmps24
  go_wp2_with (simp only [hcl])
  go_end0
  have hset : ∀ k, k ≠ q → (W1.setCell ⟨q, 4, none⟩ (.slice A 0 c)).heap[k]? = W1.heap[k]? := fun k hk => Below.heap_setCell _ _ _ _ hk
  have hob : (Value.slice A 0 c).ownBlock = (Value.slice A n c).ownBlock := by cases A <;> rfl
  have hrow : W1.ownsRow B 3 1 (.slice A n c) n (ints X) := H.out.row.kept (row := some T) ⟨Hbel.out.os, Hbel.out.tape, Hbel.out.output, hz1, fun k hk hne => Hblk.out k hk (by simpa using hne)⟩ (.inr H.out.rT)
  have hrow2 := hrow.kept (w' := W1.setCell ⟨q, 4, none⟩ (.slice A 0 c)) (row := some q) ⟨rfl, rfl, rfl, by simp, fun k hk hne => hset k (by simpa using hne)⟩ (.inr H.out.rq)
  refine ⟨rfl, ⟨rfl, World.cell?_setCell_same _ _ _ g4, ?_, ?_, Nxt.trim hrow2, fun i hi => ?_, fun i => ?_, by simp; omega, by simp; omega, qT, by rw [hob]; exact H.out.rq, by rw [hob]; exact H.out.rT, by simp, List.nodup_nil, by have := H.out.hB; simp; omega⟩, ⟨Hbel.out.os, Hbel.out.tape, Hbel.out.output, by simpa using hz1, fun k hk h1 h2 _ => (hset k h1).trans (Hblk.out k hk h2), fun i hi => ?_, fun i => ?_, .inl hob⟩⟩
  · exact (World.cell?_setCell_other _ _ _ _ (by simp)).trans ((World.cell?_of_block (w := w) (a := ⟨q, 5, none⟩) (Hblk.out q lq qT)).trans f5)
  · rw [World.frozen?_setCell]; exact y4
  · rw [World.cell?_setCell_other _ _ _ _ (by simp [qT]), Hth.out i hi]; simp
  · rw [World.frozen?_setCell]; exact (Hfz.out _).trans (H.out.tz i)
  · exact (World.cell?_setCell_other _ _ _ _ (by simp <;> omega)).trans (World.cell?_of_block (w := w) (a := ⟨q, i, none⟩) (Hblk.out q lq qT))
  · rw [World.frozen?_setCell]; exact Hfz.out _
end Go.Proofs.YteekafkpeimhoaaGreat

/- match.Has's runner, as it lies in memory. Plain. -/
set_option linter.unusedVariables false
set_option linter.unusedSimpArgs false
namespace Go.Proofs.YteekafkpeimhoaaGreat
open Go.RowKit

/-- The places at hand. -/
structure Nw (w : World) (B q T N : Nat) (X : List Nat) (n : Nat) (A : Option Addr) (c : Nat) : Prop where
  len : X.length = n
  f2 : w.cell? ⟨q, 2, none⟩ = some (.slice A n c)
  f3 : w.cell? ⟨q, 3, none⟩ = some (.slice (some ⟨T, 0, none⟩) N N)
  row : w.ownsRow B 3 1 (.slice A n c) n (ints X)
  th : ∀ i, i < N → w.cell? ⟨T, i, none⟩ = some (.bool (decide (i ∈ X)))
  tz : ∀ i, w.frozen? ⟨T, i, none⟩ = false
  lT : T < w.heap.size
  qT : q ≠ T
  rq : (Value.slice A n c).ownBlock ≠ some q
  rT : (Value.slice A n c).ownBlock ≠ some T
  lt : ∀ x ∈ X, x < N
  nd : X.Nodup
structure HR (w : World) (B q T1 T2 : Nat) (l : List St) (sa : Int) (Am : Option Addr) (cm : Nat) (b e : Bool) (X : List Nat) (n : Nat) (A : Option Addr) (c : Nat) (Y : List Nat) (m : Nat) (A2 : Option Addr) (c2 : Nat) : Prop where
  m0 : w.cell? ⟨q, 0, none⟩ = some (.slice Am l.length cm)
  m6 : w.cell? ⟨q, 6, none⟩ = some (.bool b)
  m7 : w.cell? ⟨q, 7, none⟩ = some (.bool e)
  z : ∀ o, w.frozen? ⟨q, o, none⟩ = false
  now : Nw w B q T1 l.length X n A c
  next : Nxt w B q T2 l.length Y m A2 c2
  TT : T1 ≠ T2
  oT1 : (Value.slice A2 m c2).ownBlock ≠ some T1
  oT2 : (Value.slice A n c).ownBlock ≠ some T2
  oo : (Value.slice A n c).ownBlock = none ∨ (Value.slice A n c).ownBlock ≠ (Value.slice A2 m c2).ownBlock
  Bq : B ≤ q
  BT1 : B ≤ T1
  BT2 : B ≤ T2
section
variable {w w' : World} {B q T1 T2 : Nat} {l : List St} {sa : Int} {Am : Option Addr} {cm : Nat} {b e : Bool} {X Y : List Nat} {n m : Nat} {A A2 : Option Addr} {c c2 : Nat}
/-- What leaves the row of the list alone. -/
theorem row_keep {v : Value} {k : Nat} {xs : List Value} (h : w.ownsRow B 3 1 v k xs) (ho : w'.os = w.os) (ht : w'.tape = w.tape) (hp : w'.output = w.output) (hz : w.heap.size ≤ w'.heap.size) (hb : ∀ g, v.ownBlock = some g → w'.heap[g]? = w.heap[g]?) : w'.ownsRow B 3 1 v k xs := by
  refine ⟨h.1, ?_⟩
  rcases h.2 with h' | ⟨g, cap, cur, e, hB, hh, h3, h4, h5, h6⟩
  · exact .inl h'
  · exact .inr ⟨g, cap, cur, e, hB, (hb g (by rw [e]; rfl)).trans hh, h3, h4, h5, h6⟩
theorem HR.step {Y' : List Nat} {m' : Nat} {A' : Option Addr} {c' : Nat} (h : HR w B q T1 T2 l sa Am cm b e X n A c Y m A2 c2) (hn : Nxt w' B q T2 l.length Y' m' A' c') (hv : Mv q T2 (Value.slice A2 m c2).ownBlock (Value.slice A' m' c').ownBlock w w') : HR w' B q T1 T2 l sa Am cm b e X n A c Y' m' A' c' := by
  have hk : ∀ g, (Value.slice A n c).ownBlock = some g → w'.heap[g]? = w.heap[g]? := fun g hg => by
    have hlt := (h.now.row.lt g hg).2
    refine hv.block g hlt (fun e' => h.now.rq (by rw [hg, e'])) (fun e' => h.oT2 (by rw [hg, e'])) (fun e' => ?_)
    rcases h.oo with h0 | h0
    · rw [h0] at hg; cases hg
    · exact h0 (by rw [hg]; exact e')
  have hT1 : w'.heap[T1]? = w.heap[T1]? := hv.block T1 h.now.lT (fun e' => h.now.qT e'.symm) h.TT (fun e' => h.oT1 e'.symm)
  refine ⟨(hv.cell 0 (by omega)).trans h.m0, (hv.cell 6 (by omega)).trans h.m6, (hv.cell 7 (by omega)).trans h.m7, fun o => (hv.froz o).trans (h.z o), ⟨h.now.len, (hv.cell 2 (by omega)).trans h.now.f2, (hv.cell 3 (by omega)).trans h.now.f3, row_keep h.now.row hv.os hv.tape hv.output hv.size hk, fun i hi => (World.cell?_of_block (w := w) (a := ⟨T1, i, none⟩) hT1).trans (h.now.th i hi), fun i => (World.frozen?_of_block (w := w) (a := ⟨T1, i, none⟩) hT1).trans (h.now.tz i), Nat.lt_of_lt_of_le h.now.lT hv.size, h.now.qT, h.now.rq, h.now.rT, h.now.lt, h.now.nd⟩, hn, h.TT, ?_, h.oT2, ?_, h.Bq, h.BT1, h.BT2⟩
  · rcases hv.own with e' | ⟨g, e', hg⟩
    · rw [e']; exact h.oT1
    · rw [e']; intro e2; simp only [Option.some.injEq] at e2; have := h.now.lT; omega
  · rcases hv.own with e' | ⟨g, e', hg⟩
    · rw [e']; exact h.oo
    · right
      rw [e']
      intro e2
      have := (h.now.row.lt g e2).2
      omega
theorem HR.later (h : HR w B q T1 T2 l sa Am cm b e X n A c Y m A2 c2) (hb : Below w.heap.size w w') : HR w' B q T1 T2 l sa Am cm b e X n A c Y m A2 c2 :=
  h.step (h.next.later hb) (Mv.of_below h.next.lq hb)
/-- The two marks are set. -/
theorem HR.flags (h : HR w B q T1 T2 l sa Am cm b e X n A c Y m A2 c2) (b' e' : Bool) : HR ((w.setCell ⟨q, 6, none⟩ (.bool b')).setCell ⟨q, 7, none⟩ (.bool e')) B q T1 T2 l sa Am cm b' e' X n A c Y m A2 c2 := by
  have hc : ∀ k o, k ≠ q → ((w.setCell ⟨q, 6, none⟩ (.bool b')).setCell ⟨q, 7, none⟩ (.bool e')).cell? ⟨k, o, none⟩ = w.cell? ⟨k, o, none⟩ := fun k o hk => (World.cell?_setCell_other _ _ _ _ (by simp [Ne.symm hk])).trans (World.cell?_setCell_other _ _ _ _ (by simp [Ne.symm hk]))
  have hq : ∀ o, o ≠ 6 → o ≠ 7 → ((w.setCell ⟨q, 6, none⟩ (.bool b')).setCell ⟨q, 7, none⟩ (.bool e')).cell? ⟨q, o, none⟩ = w.cell? ⟨q, o, none⟩ := fun o h6 h7 => (World.cell?_setCell_other _ _ _ _ (by simp <;> omega)).trans (World.cell?_setCell_other _ _ _ _ (by simp <;> omega))
  have hf : ∀ a, ((w.setCell ⟨q, 6, none⟩ (.bool b')).setCell ⟨q, 7, none⟩ (.bool e')).frozen? a = w.frozen? a := fun a => by rw [World.frozen?_setCell, World.frozen?_setCell]
  have hh : ∀ k, k ≠ q → ((w.setCell ⟨q, 6, none⟩ (.bool b')).setCell ⟨q, 7, none⟩ (.bool e')).heap[k]? = w.heap[k]? := fun k hk => (Below.heap_setCell _ _ _ _ hk).trans (Below.heap_setCell _ _ _ _ hk)
  have hz : ((w.setCell ⟨q, 6, none⟩ (.bool b')).setCell ⟨q, 7, none⟩ (.bool e')).heap.size = w.heap.size := by simp
  have k7 : (w.setCell ⟨q, 6, none⟩ (.bool b')).cell? ⟨q, 7, none⟩ = some (.bool e) := (World.cell?_setCell_other _ _ _ _ (by simp)).trans h.m7
  have x := h.now; have y := h.next
  refine ⟨(hq 0 (by omega) (by omega)).trans h.m0, (World.cell?_setCell_other _ _ _ _ (by simp)).trans (World.cell?_setCell_same _ _ _ h.m6), World.cell?_setCell_same _ _ _ k7, fun o => (hf _).trans (h.z o), ⟨x.len, (hq 2 (by omega) (by omega)).trans x.f2, (hq 3 (by omega) (by omega)).trans x.f3, row_keep x.row rfl rfl rfl (by omega) (fun g hg => hh g (fun e2 => x.rq (by rw [hg, e2]))), fun i hi => (hc T1 i (fun e2 => x.qT e2.symm)).trans (x.th i hi), fun i => (hf _).trans (x.tz i), by rw [hz]; exact x.lT, x.qT, x.rq, x.rT, x.lt, x.nd⟩, ⟨y.len, (hq 4 (by omega) (by omega)).trans y.f4, (hq 5 (by omega) (by omega)).trans y.f5, (hf _).trans y.z4, row_keep y.row rfl rfl rfl (by omega) (fun g hg => hh g (fun e2 => y.rq (by rw [hg, e2]))), fun i hi => (hc T2 i (fun e2 => y.qT e2.symm)).trans (y.th i hi), fun i => (hf _).trans (y.tz i), by rw [hz]; exact y.lq, by rw [hz]; exact y.lT, y.qT, y.rq, y.rT, y.lt, y.nd, by rw [hz]; exact y.hB⟩, h.TT, h.oT1, h.oT2, h.oo, h.Bq, h.BT1, h.BT2⟩
/-- The two are exchanged: whatever world has the cells so. -/
theorem HR.swap (h : HR w B q T1 T2 l sa Am cm b e X n A c Y m A2 c2) (hz : w'.heap.size = w.heap.size) (ho : w'.os = w.os) (ht : w'.tape = w.tape) (hp : w'.output = w.output) (hh : ∀ k, k ≠ q → w'.heap[k]? = w.heap[k]?) (hf : ∀ a, w'.frozen? a = w.frozen? a)
    (c0 : w'.cell? ⟨q, 0, none⟩ = w.cell? ⟨q, 0, none⟩) (c6 : w'.cell? ⟨q, 6, none⟩ = w.cell? ⟨q, 6, none⟩) (c7 : w'.cell? ⟨q, 7, none⟩ = w.cell? ⟨q, 7, none⟩)
    (d2 : w'.cell? ⟨q, 2, none⟩ = some (.slice A2 m c2)) (d3 : w'.cell? ⟨q, 3, none⟩ = some (.slice (some ⟨T2, 0, none⟩) l.length l.length)) (d4 : w'.cell? ⟨q, 4, none⟩ = some (.slice A n c)) (d5 : w'.cell? ⟨q, 5, none⟩ = some (.slice (some ⟨T1, 0, none⟩) l.length l.length)) :
    HR w' B q T2 T1 l sa Am cm b e Y m A2 c2 X n A c := by
  have x := h.now; have y := h.next
  have hc : ∀ k o, k ≠ q → w'.cell? ⟨k, o, none⟩ = w.cell? ⟨k, o, none⟩ := fun k o hk => World.cell?_of_block (w := w) (a := ⟨k, o, none⟩) (hh k hk)
  refine ⟨c0.trans h.m0, c6.trans h.m6, c7.trans h.m7, fun o => (hf _).trans (h.z o), ⟨y.len, d2, d3, row_keep y.row ho ht hp (by omega) (fun g hg => hh g (fun e2 => y.rq (by rw [hg, e2]))), fun i hi => (hc T2 i (fun e2 => y.qT e2.symm)).trans (y.th i hi), fun i => (hf _).trans (y.tz i), by rw [hz]; exact y.lT, y.qT, y.rq, y.rT, y.lt, y.nd⟩, ⟨x.len, d4, d5, (hf _).trans (h.z 4), row_keep x.row ho ht hp (by omega) (fun g hg => hh g (fun e2 => x.rq (by rw [hg, e2]))), fun i hi => (hc T1 i (fun e2 => x.qT e2.symm)).trans (x.th i hi), fun i => (hf _).trans (x.tz i), by rw [hz]; exact y.lq, by rw [hz]; exact x.lT, x.qT, x.rq, x.rT, x.lt, x.nd, by rw [hz]; exact y.hB⟩, fun e2 => h.TT e2.symm, h.oT2, h.oT1, ?_, h.Bq, h.BT2, h.BT1⟩
  cases hv : (Value.slice A2 m c2).ownBlock with
  | none => exact .inl rfl
  | some k =>
    right
    rw [← hv]
    rcases h.oo with h0 | h0
    · rw [h0, hv]; simp
    · exact fun e2 => h0 e2.symm
end
end Go.Proofs.YteekafkpeimhoaaGreat

/- Patterns read, plain: what a text reads as, or what is wrong with it. -/
set_option linter.unusedVariables false
set_option linter.unusedSimpArgs false
namespace Go.Proofs.YteekafkpeimhoaaGreat
open Go.RowKit

abbrev Bs := List UInt8
/-- A set of bytes: four words. -/
structure W4 where
  a : Int
  b : Int
  c : Int
  d : Int
def w40 : W4 := ⟨0, 0, 0, 0⟩
def W4.T (s : W4) : T := .mk 1 s.a s.b s.c s.d 0 0 []
def orI (x y : Int) : Int := bits .or .u64 x y
/-- A set with a byte more. -/
def W4.add (s : W4) (c : Nat) : W4 :=
  if c < 64 then { s with a := orI s.a (2 ^ c) } else if c < 128 then { s with b := orI s.b (2 ^ (c - 64)) } else if c < 192 then { s with c := orI s.c (2 ^ (c - 128)) } else { s with d := orI s.d (2 ^ (c - 192)) }
def W4.or (s x : W4) : W4 := ⟨orI s.a x.a, orI s.b x.b, orI s.c x.c, orI s.d x.d⟩
def notI (x : Int) : Int := 18446744073709551615 - x
def W4.not (s : W4) : W4 := ⟨notI s.a, notI s.b, notI s.c, notI s.d⟩
/-- All bytes from one on, so many. -/
def W4.span (s : W4) (from_ n : Nat) : W4 := (List.range' from_ n).foldl W4.add s
def whereW (p : Nat → Bool) : W4 := (List.range 256).foldl (fun s c => if p c then s.add c else s) w40

def takeP (s r : Bs) : Option Bs := if s.isPrefixOf r then some (r.drop s.length) else none
def isDigit (c : UInt8) : Bool := decide (48 ≤ c.toNat) && decide (c.toNat ≤ 57)
def digitsP : Nat → Int → Nat → Bs → Int × Nat × Bs
  | 0, n, w, r => (n, w, r)
  | _ + 1, n, w, [] => (n, w, [])
  | k + 1, n, w, c :: t => if isDigit c then digitsP k (10 * n + (c.toNat - 48)) (w + 1) t else (n, w, c :: t)
def numberP (r : Bs) : Except Int (Int × Bs) :=
  if (digitsP 4 0 0 r).2.1 = 0 ∨ 3 < (digitsP 4 0 0 r).2.1 ∨ 255 < (digitsP 4 0 0 r).1 then .error 105 else .ok ((digitsP 4 0 0 r).1, (digitsP 4 0 0 r).2.2)
def intervalP (r : Bs) : Except Int (Int × Int × Bs) :=
  match numberP r with
  | .error e => .error e
  | .ok (m, r1) =>
    match takeP [125] r1 with
    | some r2 => .ok (m, m, r2)
    | none =>
      match takeP [44, 125] r1 with
      | some r2 => .ok (m, -1, r2)
      | none =>
        match takeP [44] r1 with
        | none => .error 105
        | some r2 =>
          match numberP r2 with
          | .error e => .error e
          | .ok (n, r3) =>
            if n < m then .error 105 else
            match takeP [125] r3 with
            | some r4 => .ok (m, n, r4)
            | none => .error 105
/-- A byte, and what ends it: a sign and ]. -/
def singleP (sign : UInt8) (r : Bs) : Except Int (Nat × Bs) :=
  match r with
  | [] => .error 101
  | c :: t => match takeP [sign, 93] t with
    | some r1 => .ok (c.toNat, r1)
    | none => .error 101
def memberP (r : Bs) : Except Int (Nat × Bs) :=
  match takeP [91, 46] r with
  | some r1 => singleP 46 r1
  | none => match r with
    | [] => .error 101
    | c :: t => .ok (c.toNat, t)
/-- A class's set. -/
def classW (name : Bs) : Option W4 :=
  if name = [97, 108, 112, 104, 97] then some ((w40.span 65 26).span 97 26)
  else if name = [117, 112, 112, 101, 114] then some (w40.span 65 26)
  else if name = [108, 111, 119, 101, 114] then some (w40.span 97 26)
  else if name = [100, 105, 103, 105, 116] then some (w40.span 48 10)
  else if name = [97, 108, 110, 117, 109] then some (((w40.span 65 26).span 97 26).span 48 10)
  else if name = [120, 100, 105, 103, 105, 116] then some (((w40.span 48 10).span 65 6).span 97 6)
  else if name = [115, 112, 97, 99, 101] then some ((w40.span 9 5).add 32)
  else if name = [98, 108, 97, 110, 107] then some ((w40.add 9).add 32)
  else if name = [99, 110, 116, 114, 108] then some ((w40.span 0 32).add 127)
  else if name = [103, 114, 97, 112, 104] then some (w40.span 33 94)
  else if name = [112, 114, 105, 110, 116] then some (w40.span 32 95)
  else if name = [112, 117, 110, 99, 116] then some ((((w40.span 33 15).span 58 7).span 91 6).span 123 4)
  else none
/-- A text up tu :], and what stands behind. -/
def cutP : Bs → Option (Bs × Bs)
  | [] => none
  | c :: t => match takeP [58, 93] (c :: t) with
    | some r => some ([], r)
    | none => match cutP t with
      | some (a, b) => some (c :: a, b)
      | none => none
def classP (s : W4) (r : Bs) : Except Int (W4 × Bs) :=
  match cutP r with
  | none => .error 101
  | some (name, r1) => match classW name with
    | none => .error 103
    | some x => .ok (s.or x, r1)
def rangeP (s : W4) (from_ : Nat) (r : Bs) : Except Int (W4 × Bs) :=
  match takeP [45] r, takeP [45, 93] r with
  | some r1, none =>
    if (takeP [91, 58] r1).isSome || (takeP [91, 61] r1).isSome then .error 101 else
    match memberP r1 with
    | .error e => .error e
    | .ok (to_, r2) => if to_ < from_ then .error 102 else .ok (s.span from_ (to_ + 1 - from_), r2)
  | _, _ => .ok (s.add from_, r)
def itemP (s : W4) (r : Bs) : Except Int (W4 × Bs) :=
  match takeP [91, 58] r with
  | some r1 => classP s r1
  | none => match takeP [91, 61] r with
    | some r1 => match singleP 61 r1 with
      | .error e => .error e
      | .ok (c, r2) => .ok (s.add c, r2)
    | none => match memberP r with
      | .error e => .error e
      | .ok (c, r1) => rangeP s c r1
/-- Items, up tu ]. -/
def itemsP : Nat → W4 → Bs → Except Int (W4 × Bs)
  | 0, _, _ => .error 101
  | k + 1, s, r => match itemP s r with
    | .error e => .error e
    | .ok (s', r1) => match takeP [93] r1 with
      | some r2 => .ok (s', r2)
      | none => itemsP k s' r1
def bracketP (r : Bs) : Except Int (W4 × Bs) :=
  match takeP [94] r with
  | some r1 => match itemsP (r1.length + 1) w40 r1 with
    | .error e => .error e
    | .ok (s, r2) => .ok (s.not, r2)
  | none => itemsP (r.length + 1) w40 r
abbrev PT := Except Int (T × Bs)
def atomP (grp : Bs → PT) (r : Bs) : PT :=
  match r with
  | [] => .error 104
  | c :: t =>
    if c = 40 then grp t
    else if c = 94 then .ok (.mk 2 0 0 0 0 0 0 [], t)
    else if c = 36 then .ok (.mk 3 0 0 0 0 0 0 [], t)
    else if c = 91 then match bracketP t with
      | .error e => .error e
      | .ok (s, r1) => .ok (s.T, r1)
    else if c = 46 then .ok ((w40.span 0 256).T, t)
    else if c = 42 ∨ c = 43 ∨ c = 63 ∨ c = 123 then .error 104
    else if c = 92 then match t with
      | [] => .error 106
      | x :: t' => .ok ((w40.add x.toNat).T, t')
    else .ok ((w40.add c.toNat).T, t)
def repT (m n : Int) (t : T) : T := .mk 6 0 0 0 0 m n [t]
/-- How often an atom stands. -/
def sufP : Nat → T → Bs → PT
  | 0, n, r => .ok (n, r)
  | k + 1, n, r =>
    match takeP [42] r with
    | some r1 => sufP k (repT 0 (-1) n) r1
    | none => match takeP [43] r with
      | some r1 => sufP k (repT 1 (-1) n) r1
      | none => match takeP [63] r with
        | some r1 => sufP k (repT 0 1 n) r1
        | none => match takeP [123] r with
          | some r1 => match intervalP r1 with
            | .error e => .error e
            | .ok (m, x, r2) => sufP k (repT m x n) r2
          | none => .ok (n, r)
def pieceP (grp : Bs → PT) (r : Bs) : PT :=
  match atomP grp r with
  | .error e => .error e
  | .ok (n, r1) => sufP (r1.length + 1) n r1
/-- Does a row end here? -/
def endsRow : Bs → Bool
  | [] => true
  | c :: _ => c == 124 || c == 41
def piecesP (grp : Bs → PT) : Nat → List T → Bs → Except Int (List T × Bs)
  | 0, l, r => .ok (l, r)
  | k + 1, l, r => if endsRow r then .ok (l, r) else match pieceP grp r with
    | .error e => .error e
    | .ok (n, r1) => piecesP grp k (l ++ [n]) r1
def joinT (k : Int) (l : List T) : T :=
  match l with
  | [] => .mk 0 0 0 0 0 0 0 []
  | [n] => n
  | _ => .mk k 0 0 0 0 0 0 l
def rowP (grp : Bs → PT) (r : Bs) : PT :=
  match piecesP grp (r.length + 1) [] r with
  | .error e => .error e
  | .ok (l, r1) => .ok (joinT 4 l, r1)
def altsP (grp : Bs → PT) : Nat → List T → Bs → Except Int (List T × Bs)
  | 0, l, r => .ok (l, r)
  | k + 1, l, r => match takeP [124] r with
    | none => .ok (l, r)
    | some r1 => match rowP grp r1 with
      | .error e => .error e
      | .ok (n, r2) => altsP grp k (l ++ [n]) r2
def choiceP (grp : Bs → PT) (r : Bs) : PT :=
  match rowP grp r with
  | .error e => .error e
  | .ok (n, r1) => match altsP grp (r1.length + 1) [n] r1 with
    | .error e => .error e
    | .ok (l, r2) => .ok (joinT 5 l, r2)
/-- What stands in brackets, so many more within. -/
def groupP : Nat → Bs → PT
  | 0, _ => .error 3
  | d + 1, r => match choiceP (groupP d) r with
    | .error e => .error e
    | .ok (n, r1) => match takeP [41] r1 with
      | some r2 => .ok (n, r2)
      | none => .error 100
/-- Parse. -/
def parseP (s : Bs) : Except Int T :=
  if 1024 < s.length then .error 3 else
  match choiceP (groupP 64) s with
  | .error e => .error e
  | .ok (n, []) => .ok n
  | .ok (_, _ :: _) => .error 100
end Go.Proofs.YteekafkpeimhoaaGreat

/- The pattern reader's state; fail, next, take: walked. -/
set_option linter.unusedVariables false
set_option linter.unusedSimpArgs false
namespace Go.Proofs.YteekafkpeimhoaaGreat
open Go.RowKit

abbrev bs (r : Bs) : ByteArray := ⟨r.toArray⟩
theorem bs_tail (c : UInt8) (r : Bs) : (bs (c :: r)).extract 1 (r.length + 1) = bs r := by
  rw [Lib.extract_eq]; simp [bs]
theorem bs_drop (r q : Bs) : (bs r).extract q.length r.length = bs (r.drop q.length) := by
  rw [Lib.extract_eq]
  congr 2
  simp only [bs]
  exact List.take_of_length_le (by simp)
theorem bs_pref (r q : Bs) (h : q.length ≤ r.length) : (((bs r).extract 0 q.length).toList == q) = q.isPrefixOf r := by
  have h1 := Lib.hasPrefix_raw (bs r) (bs q)
  have h2 : (bs q).size = q.length := by rw [Lib.size_eq]
  have h3 : (bs r).size = r.length := by rw [Lib.size_eq]
  rw [h2, h3, decide_eq_true h, Bool.true_and] at h1
  have h4 : (bs q).toList = q := by rw [Lib.toList_data]
  rw [h4] at h1
  rw [h1]
  simp [Lib.hasPrefix, bs]
/-- What CutPrefix leaves. -/
def cutR (q r : Bs) : Bs := if q.isPrefixOf r then r.drop q.length else r
theorem pref_len {q r : Bs} (h : q.isPrefixOf r = true) : q.length ≤ r.length := (List.isPrefixOf_iff_prefix.1 h).length_le

@[go_sem] theorem bs_get0 (c : UInt8) (t : Bs) (h : 0 < (bs (c :: t)).size) : (bs (c :: t))[0]'h = c := rfl
/-- internal/bytealg.MaxLen holds some number. -/
def MaxOk (w : World) : Prop := ∃ m, w.cell? ⟨0, 0, none⟩ = some (.int .i64 m)
theorem MaxOk.lt {w : World} (h : MaxOk w) : 0 < w.heap.size := by obtain ⟨m, h⟩ := h; exact World.block_lt_of_cell? _ _ h
theorem MaxOk.of {w w' : World} (h : MaxOk w) (hb : w'.heap[0]? = w.heap[0]?) : MaxOk w' := by obtain ⟨m, h⟩ := h; exact ⟨m, (World.cell?_of_block (w := w) (a := ⟨0, 0, none⟩) hb).trans h⟩
theorem MaxOk.later {w w' : World} (h : MaxOk w) (hb : Below w.heap.size w w') : MaxOk w' := h.of (hb.block 0 h.lt)
theorem MaxOk.set {w : World} (h : MaxOk w) {p : Nat} (hp : 0 < p) (o : Nat) (v : Value) : MaxOk (w.setCell ⟨p, o, none⟩ v) := h.of (Below.heap_setCell _ _ _ _ (by show 0 ≠ p; omega))
/-- The reader's three cells. -/
structure Rdr (w : World) (p : Nat) (r : Bs) (op e : Int) : Prop where
  c0 : w.cell? ⟨p, 0, none⟩ = some (.string (bs r))
  c1 : w.cell? ⟨p, 1, none⟩ = some (.int .i64 op)
  c2 : w.cell? ⟨p, 2, none⟩ = some (.int .i64 e)
  z : ∀ o, w.frozen? ⟨p, o, none⟩ = false
  lt : p < w.heap.size
  mx : MaxOk w
  pn : 0 < p
/-- What a call may do: write in the reader's block, make memory. -/
abbrev Off (p : Nat) (w w' : World) : Prop := w.grownBy w' (some p)
theorem Off.refl (p : Nat) (w : World) : Off p w w := ⟨rfl, rfl, rfl, Nat.le_refl _, fun _ _ _ => rfl⟩
theorem Off.trans {p : Nat} {w w1 w2 : World} (h : Off p w w1) (k : Off p w1 w2) : Off p w w2 :=
  ⟨k.os.trans h.os, k.tape.trans h.tape, k.output.trans h.output, Nat.le_trans h.size k.size, fun b hb hn => (k.block b (Nat.lt_of_lt_of_le hb h.size) hn).trans (h.block b hb hn)⟩
theorem Off.below {p B : Nat} {w w' : World} (h : Off p w w') (hB : B ≤ p) (hs : B ≤ w.heap.size) : Below B w w' :=
  ⟨h.os, h.tape, h.output, h.size, fun k hk => h.block k (by omega) (by simp; omega)⟩
theorem Off.of_below {p : Nat} {w w' : World} (h : Below w.heap.size w w') : Off p w w' := ⟨h.os, h.tape, h.output, h.size, fun k hk _ => h.block k hk⟩
theorem Off.cell {p : Nat} {w w' : World} (h : Off p w w') {b o : Nat} (hb : b < w.heap.size) (hn : b ≠ p) : w'.cell? ⟨b, o, none⟩ = w.cell? ⟨b, o, none⟩ := World.cell?_of_block (w := w) (h.block b hb (by simpa using hn))
theorem Off.frozen {p : Nat} {w w' : World} (h : Off p w w') {b o : Nat} (hb : b < w.heap.size) (hn : b ≠ p) : w'.frozen? ⟨b, o, none⟩ = w.frozen? ⟨b, o, none⟩ := World.frozen?_of_block (w := w) (h.block b hb (by simpa using hn))
theorem Off.set {p : Nat} {w w' : World} (h : Off p w w') (o : Nat) (v : Value) : Off p w (w'.setCell ⟨p, o, none⟩ v) :=
  ⟨h.os, h.tape, h.output, by simpa using h.size, fun k hk hn => (Below.heap_setCell _ _ _ _ (by simpa using hn)).trans (h.block k hk hn)⟩
theorem Rdr.later {w w' : World} {p : Nat} {r : Bs} {op e : Int} (h : Rdr w p r op e) (hb : Below w.heap.size w w') : Rdr w' p r op e :=
  ⟨(hb.cell (p := ⟨p, 0, none⟩) h.lt).trans h.c0, (hb.cell (p := ⟨p, 1, none⟩) h.lt).trans h.c1, (hb.cell (p := ⟨p, 2, none⟩) h.lt).trans h.c2, fun o => (hb.frozen (p := ⟨p, o, none⟩) h.lt).trans (h.z o), Nat.lt_of_lt_of_le h.lt hb.size, h.mx.later hb, h.pn⟩
theorem Rdr.set0 {w : World} {p : Nat} {r : Bs} {op e : Int} (h : Rdr w p r op e) (r' : Bs) : Rdr (w.setCell ⟨p, 0, none⟩ (.string (bs r'))) p r' op e :=
  ⟨World.cell?_setCell_same _ _ _ h.c0, (World.cell?_setCell_other _ _ _ _ (by simp)).trans h.c1, (World.cell?_setCell_other _ _ _ _ (by simp)).trans h.c2, fun o => by rw [World.frozen?_setCell]; exact h.z o, by simpa using h.lt, h.mx.set h.pn _ _, h.pn⟩
theorem Rdr.set1 {w : World} {p : Nat} {r : Bs} {op e : Int} (h : Rdr w p r op e) (op' : Int) : Rdr (w.setCell ⟨p, 1, none⟩ (.int .i64 op')) p r op' e :=
  ⟨(World.cell?_setCell_other _ _ _ _ (by simp)).trans h.c0, World.cell?_setCell_same _ _ _ h.c1, (World.cell?_setCell_other _ _ _ _ (by simp)).trans h.c2, fun o => by rw [World.frozen?_setCell]; exact h.z o, by simpa using h.lt, h.mx.set h.pn _ _, h.pn⟩
theorem Rdr.set2 {w : World} {p : Nat} {r : Bs} {op e : Int} (h : Rdr w p r op e) (e' : Int) : Rdr (w.setCell ⟨p, 2, none⟩ (.int .i64 e')) p r op e' :=
  ⟨(World.cell?_setCell_other _ _ _ _ (by simp)).trans h.c0, (World.cell?_setCell_other _ _ _ _ (by simp)).trans h.c1, World.cell?_setCell_same _ _ _ h.c2, fun o => by rw [World.frozen?_setCell]; exact h.z o, by simpa using h.lt, h.mx.set h.pn _ _, h.pn⟩

/-- What is left tu read, or what is wrong. -/
abbrev Rs := Except Int Bs
def Rs.rest : Rs → Bs
  | .ok r => r
  | .error _ => []
def Rs.no : Rs → Int
  | .ok _ => 0
  | .error e => e
structure RS (w : World) (p : Nat) (op : Int) (s : Rs) : Prop where
  rdr : Rdr w p s.rest op s.no
  ne : ∀ e, s = .error e → e ≠ 0
theorem RS.later {w w' : World} {p : Nat} {op : Int} {s : Rs} (h : RS w p op s) (hb : Below w.heap.size w w') : RS w' p op s := ⟨h.rdr.later hb, h.ne⟩
theorem RS.lt {w : World} {p : Nat} {op : Int} {s : Rs} (h : RS w p op s) : p < w.heap.size := h.rdr.lt
def failS (s : Rs) (x : Int) : Rs := match s with
  | .ok _ => .error x
  | .error e => .error e
def nextS (s : Rs) (x : Int) : Nat × Rs := match s with
  | .ok [] => (0, .error x)
  | .ok (c :: t) => (c.toNat, .ok t)
  | .error e => (0, .error e)
def takeS (q : Bs) (s : Rs) : Bool × Rs := match s with
  | .ok r => match takeP q r with
    | some r' => (true, .ok r')
    | none => (false, .ok r)
  | .error e => (false, .error e)

set_option maxRecDepth 100000 in
set_option maxHeartbeats 400000 in
theorem fail_any (w : World) (p : Nat) (op : Int) (s : Rs) (x : Int) (hx : x ≠ 0) (h : RS w p op s) :
    Calls Tryz.prog 18 #[.pointer (some ⟨p, 0, none⟩), .int .i64 x] w fun en w' => en = .returned (.tuple #[]) ∧ RS w' p op (failS s x) ∧ Off p w w' := by
  have c0 := h.rdr.c0
  have c2 := h.rdr.c2
  have z0 := h.rdr.z 0
  have z2 := h.rdr.z 2
  cases s with
  | ok r =>
    simp only [Rs.rest, Rs.no] at c0 c2
    have H := Lib.hid h; clear h
    go_enter Tryz.func18, Tryz.ntmps18
    go_wp2_with fail
    go_end0
    exact ⟨rfl, ⟨((H.out.rdr.set2 x).set0 []), fun e he => by cases he; exact hx⟩, ((Off.refl p w).set _ _).set _ _⟩
  | error e =>
    have hne := h.ne e rfl
    simp only [Rs.rest, Rs.no] at c0 c2
    have hb : (e == 0) = false := by rw [beq_eq_false_iff_ne]; exact hne
    have H := Lib.hid h; clear h hne
    go_enter Tryz.func18, Tryz.ntmps18
    go_wp2_with fail
    go_end0
    exact ⟨rfl, H.out, Off.refl p w⟩

set_option maxRecDepth 100000 in
set_option maxHeartbeats 400000 in
theorem next_any (w : World) (p : Nat) (op : Int) (s : Rs) (x : Int) (hx : x ≠ 0) (h : RS w p op s) :
    Calls Tryz.prog 67 #[.pointer (some ⟨p, 0, none⟩), .int .i64 x] w fun en w' => en = .returned (.int .u8 ((nextS s x).1 : Nat)) ∧ RS w' p op (nextS s x).2 ∧ Off p w w' := by
  have c0 := h.rdr.c0
  have z0 := h.rdr.z 0
  have H := Lib.hid h; clear h
  rcases s with e | (_ | ⟨c, t⟩)
  · simp only [Rs.rest] at c0
    go_enter Tryz.func67, Tryz.ntmps67
    go_wp2_with fail
    refine (fail_any w p op _ x hx H.out).mono ?_
    rintro en w1 ⟨rfl, h1, hb1⟩
    go_wp2_with fail
    go_ret
    exact ⟨rfl, h1, hb1⟩
  · simp only [Rs.rest] at c0
    go_enter Tryz.func67, Tryz.ntmps67
    go_wp2_with fail
    refine (fail_any w p op _ x hx H.out).mono ?_
    rintro en w1 ⟨rfl, h1, hb1⟩
    go_wp2_with fail
    go_ret
    exact ⟨rfl, h1, hb1⟩
  · simp only [Rs.rest] at c0
    have ht := bs_tail c t
    have hc : (nextS (.ok (c :: t)) x).1 = c.toNat := rfl
    rw [hc]
    clear hc
    go_enter Tryz.func67, Tryz.ntmps67
    go_wp2_with fail
    go_ret
    exact ⟨rfl, ⟨H.out.rdr.set0 t, fun e he => by cases he⟩, (Off.refl p w).set _ _⟩

set_option maxRecDepth 100000 in
set_option maxHeartbeats 400000 in
theorem hasP_any (r q : Bs) (w : World) : Calls Tryz.prog 74 #[.string (bs r), .string (bs q)] w fun e w' => e = .returned (.bool (q.isPrefixOf r)) ∧ w' = w := by
  by_cases h : q.length ≤ r.length
  · have hp := bs_pref r q h
    generalize q.isPrefixOf r = b at *
    go_enter Tryz.func74, Tryz.ntmps74
    go_wp2_with fail
    go_ret
    exact ⟨rfl, rfl⟩
  · have hp : q.isPrefixOf r = false := by
      rw [Bool.eq_false_iff]; exact fun h' => h (pref_len h')
    rw [hp]
    clear hp
    go_enter Tryz.func74, Tryz.ntmps74
    go_wp2_with fail
    go_ret
    exact ⟨rfl, rfl⟩
set_option maxRecDepth 100000 in
theorem shasP_any (r q : Bs) (w : World) : Calls Tryz.prog 89 #[.string (bs r), .string (bs q)] w fun e w' => e = .returned (.bool (q.isPrefixOf r)) ∧ w' = w := by
  go_enter Tryz.func89, Tryz.ntmps89
  go_wp2_with fail
  refine (hasP_any r q w).mono ?_
  rintro e w1 ⟨rfl, rfl⟩
  go_wp2_with fail
  go_ret
  exact ⟨rfl, rfl⟩
set_option maxRecDepth 100000 in
set_option maxHeartbeats 400000 in
theorem cutP0_any (r q : Bs) (w : World) : Calls Tryz.prog 62 #[.string (bs r), .string (bs q)] w fun e w' => e = .returned (.tuple #[.string (bs (cutR q r)), .bool (q.isPrefixOf r)]) ∧ w' = w := by
  cases hp : q.isPrefixOf r
  · have hc : cutR q r = r := by rw [cutR, hp]; rfl
    rw [hc]
    have Hp := Lib.hid hp; clear hp hc
    go_enter Tryz.func62, Tryz.ntmps62
    go_wp2_with fail
    refine (hasP_any r q w).mono ?_
    rintro e w1 ⟨rfl, rfl⟩
    rw [Hp.out]
    go_wp2_with fail
    go_ret2
    exact ⟨rfl, rfl⟩
  · have hc : cutR q r = r.drop q.length := by rw [cutR, hp]; rfl
    have hl := pref_len hp
    have hd := bs_drop r q
    rw [← hc] at hd
    have Hp := Lib.hid hp; clear hp hc
    generalize cutR q r = r' at *
    go_enter Tryz.func62, Tryz.ntmps62
    go_wp2_with fail
    refine (hasP_any r q w).mono ?_
    rintro e w1 ⟨rfl, rfl⟩
    rw [Hp.out]
    go_wp2_with fail
    go_ret2
    exact ⟨rfl, rfl⟩
set_option maxRecDepth 100000 in
theorem cutP_any (r q : Bs) (w : World) : Calls Tryz.prog 47 #[.string (bs r), .string (bs q)] w fun e w' => e = .returned (.tuple #[.string (bs (cutR q r)), .bool (q.isPrefixOf r)]) ∧ w' = w := by
  have hc := cutP0_any r q w
  generalize cutR q r = r' at *
  generalize q.isPrefixOf r = b at *
  have Hc := Lib.hid hc; clear hc
  go_enter Tryz.func47, Tryz.ntmps47
  go_wp2_with fail
  refine Hc.out.mono ?_
  rintro e w1 ⟨rfl, rfl⟩
  go_wp2_with fail
  go_ret2
  exact ⟨rfl, rfl⟩

theorem takeS_ok (q r : Bs) : takeS q (.ok r) = (q.isPrefixOf r, .ok (cutR q r)) := by
  simp only [takeS, takeP, cutR]
  cases h : q.isPrefixOf r <;> simp [h]
set_option maxRecDepth 100000 in
set_option maxHeartbeats 400000 in
theorem take_any (w : World) (p : Nat) (op : Int) (s : Rs) (q : Bs) (hq : q ≠ []) (h : RS w p op s) :
    Calls Tryz.prog 35 #[.pointer (some ⟨p, 0, none⟩), .string (bs q)] w fun en w' => en = .returned (.bool (takeS q s).1) ∧ RS w' p op (takeS q s).2 ∧ Off p w w' := by
  have c0 := h.rdr.c0
  have z0 := h.rdr.z 0
  have hr : (takeS q s).1 = q.isPrefixOf s.rest ∧ RS (w.setCell ⟨p, 0, none⟩ (.string (bs (cutR q s.rest)))) p op (takeS q s).2 := by
    cases s with
    | ok r => rw [takeS_ok]; exact ⟨rfl, h.rdr.set0 _, fun e he => by cases he⟩
    | error e =>
      have hf : q.isPrefixOf ([] : Bs) = false := by cases q with
        | nil => exact absurd rfl hq
        | cons => rfl
      simp only [Rs.rest, takeS, hf, cutR]
      exact ⟨trivial, h.rdr.set0 [], h.ne⟩
  rw [hr.1]
  have Hr := Lib.hid hr.2
  clear hr h
  generalize (takeS q s).2 = s' at *
  generalize s.rest = r at *
  have hc := cutP_any r q w
  generalize cutR q r = r' at *
  generalize q.isPrefixOf r = b at *
  have Hc := Lib.hid hc; clear hc
  go_enter Tryz.func35, Tryz.ntmps35
  go_wp2_with fail
  refine Hc.out.mono ?_
  rintro en w1 ⟨rfl, rfl⟩
  go_wp2_with fail
  go_ret
  exact ⟨rfl, Hr.out, (Off.refl p _).set _ _⟩

/-- The same, case by case. -/
theorem take_hit {w : World} {p : Nat} {op : Int} {r r' : Bs} (q : Bs) (hq : q ≠ []) (ht : takeP q r = some r') (h : RS w p op (.ok r)) :
    Calls Tryz.prog 35 #[.pointer (some ⟨p, 0, none⟩), .string (bs q)] w fun en w' => en = .returned (.bool true) ∧ RS w' p op (.ok r') ∧ Off p w w' := by
  have := take_any w p op (.ok r) q hq h
  simpa only [takeS, ht] using this
theorem take_miss {w : World} {p : Nat} {op : Int} {r : Bs} (q : Bs) (hq : q ≠ []) (ht : takeP q r = none) (h : RS w p op (.ok r)) :
    Calls Tryz.prog 35 #[.pointer (some ⟨p, 0, none⟩), .string (bs q)] w fun en w' => en = .returned (.bool false) ∧ RS w' p op (.ok r) ∧ Off p w w' := by
  have := take_any w p op (.ok r) q hq h
  simpa only [takeS, ht] using this
theorem take_err {w : World} {p : Nat} {op : Int} {e : Int} (q : Bs) (hq : q ≠ []) (h : RS w p op (.error e)) :
    Calls Tryz.prog 35 #[.pointer (some ⟨p, 0, none⟩), .string (bs q)] w fun en w' => en = .returned (.bool false) ∧ RS w' p op (.error e) ∧ Off p w w' := take_any w p op (.error e) q hq h
theorem fail_ok {w : World} {p : Nat} {op : Int} {r : Bs} (x : Int) (hx : x ≠ 0) (h : RS w p op (.ok r)) :
    Calls Tryz.prog 18 #[.pointer (some ⟨p, 0, none⟩), .int .i64 x] w fun en w' => en = .returned (.tuple #[]) ∧ RS w' p op (.error x) ∧ Off p w w' := fail_any w p op (.ok r) x hx h
theorem fail_err {w : World} {p : Nat} {op : Int} {e : Int} (x : Int) (hx : x ≠ 0) (h : RS w p op (.error e)) :
    Calls Tryz.prog 18 #[.pointer (some ⟨p, 0, none⟩), .int .i64 x] w fun en w' => en = .returned (.tuple #[]) ∧ RS w' p op (.error e) ∧ Off p w w' := fail_any w p op (.error e) x hx h
theorem next_ok {w : World} {p : Nat} {op : Int} {c : UInt8} {t : Bs} (x : Int) (hx : x ≠ 0) (h : RS w p op (.ok (c :: t))) :
    Calls Tryz.prog 67 #[.pointer (some ⟨p, 0, none⟩), .int .i64 x] w fun en w' => en = .returned (.int .u8 c.toNat) ∧ RS w' p op (.ok t) ∧ Off p w w' := next_any w p op (.ok (c :: t)) x hx h
theorem next_end {w : World} {p : Nat} {op : Int} (x : Int) (hx : x ≠ 0) (h : RS w p op (.ok [])) :
    Calls Tryz.prog 67 #[.pointer (some ⟨p, 0, none⟩), .int .i64 x] w fun en w' => en = .returned (.int .u8 0) ∧ RS w' p op (.error x) ∧ Off p w w' := next_any w p op (.ok []) x hx h
theorem next_err {w : World} {p : Nat} {op : Int} {e : Int} (x : Int) (hx : x ≠ 0) (h : RS w p op (.error e)) :
    Calls Tryz.prog 67 #[.pointer (some ⟨p, 0, none⟩), .int .i64 x] w fun en w' => en = .returned (.int .u8 0) ∧ RS w' p op (.error e) ∧ Off p w w' := next_any w p op (.error e) x hx h
end Go.Proofs.YteekafkpeimhoaaGreat

/- The walks of pattern.size, pattern.right, pattern.Check. -/
set_option linter.unusedVariables false
set_option linter.unusedSimpArgs false
namespace Go.Proofs.YteekafkpeimhoaaGreat
open Go.RowKit

mutual
def sizeF : T → Int → Int
  | .mk _ _ _ _ _ _ _ ps, most => sizeL ps 1 most
def sizeL : List T → Int → Int → Int
  | [], s, _ => s
  | p :: ps, s, most => if s ≤ most then sizeL ps (s + sizeF p (most - s)) most else s
end
theorem sizeF_eq (t : T) (most : Int) : sizeF t most = sizeL t.ps 1 most := by cases t; rw [sizeF]; rfl
theorem sizeL_stop (ps : List T) (s most : Int) (h : ¬ s ≤ most) : sizeL ps s most = s := by
  cases ps with
  | nil => rw [sizeL]
  | cons p ps => rw [sizeL, if_neg h]
theorem sizeL_bd (ps : List T) (ih : ∀ p ∈ ps, ∀ most, 0 ≤ most → 1 ≤ sizeF p most ∧ sizeF p most ≤ most + 1) : ∀ s most, 1 ≤ s → s ≤ most + 1 → 1 ≤ sizeL ps s most ∧ sizeL ps s most ≤ most + 1 := by
  induction ps with
  | nil => intro s most hs hm; rw [sizeL]; omega
  | cons p ps ih2 =>
    intro s most hs hm
    rw [sizeL]
    split
    · have := ih p (List.mem_cons_self ..) (most - s) (by omega)
      exact ih2 (fun q hq => ih q (List.mem_cons_of_mem _ hq)) _ _ (by omega) (by omega)
    · omega
theorem sizeF_bd (t : T) : ∀ most, 0 ≤ most → 1 ≤ sizeF t most ∧ sizeF t most ≤ most + 1 := by
  induction t using T.ind with
  | h t ih =>
    intro most hm
    rw [sizeF_eq]
    exact sizeL_bd t.ps ih 1 most (by omega) (by omega)

set_option maxRecDepth 100000 in
set_option maxHeartbeats 400000 in
theorem size_any (t : T) : ∀ (most : Int) (h0 : 0 ≤ most) (h1 : most ≤ 1000000) (w : World) (ok : Nat → Prop) (A : Option Addr) (c : Nat), NodeAt w ok t A c → (∀ b, ok b → b < w.heap.size) →
    Calls Tryz.prog 48 #[nodeV t A c, .int .i64 most] w fun e w' => e = .returned (.int .i64 (sizeF t most)) ∧ Below w.heap.size w w' := by
  induction t using T.ind with
  | h t ih =>
    intro most h0 h1 w ok A c hN hok
    have hlen := hN.len
    go_enter Tryz.func48, Tryz.ntmps48
    go_wp2_with fail
    generalize hW : w.alloc _ = W0
    have hB0 : Below w.heap.size w W0 := by subst hW; exact (Below.refl _ _).alloc (Nat.le_refl _) _
    clear hW
    go_loopg [5, 11] (t.ps.length) (fun n s i wr => ∃ (j : Nat) (x : Int), s = .int .i64 x ∧ i = .int .i64 j ∧ j + n = t.ps.length ∧ 1 ≤ x ∧ x ≤ most + 1 ∧ sizeL (t.ps.drop j) x most = sizeL t.ps 1 most ∧ Below w.heap.size w wr)
    case atStart => exact ⟨0, 1, rfl, rfl, by omega, by omega, by omega, rfl, hB0⟩
    case round =>
      obtain ⟨j, x, rfl, rfl, hj, hx1, hx2, hm, hB⟩ := hrel
      have Hm := Lib.hid hm; clear hm
      have hs := hB.size
      clear hB0
      by_cases hlt : j < t.ps.length
      · obtain ⟨b, o, rfl, hb, hcell⟩ := hN.part (by omega)
        obtain ⟨A', c', h8, hNj⟩ := hcell j hlt
        have Hih := Lib.hid (ih t.ps[j] (List.getElem_mem _)); clear ih
        have hNj' := hNj.later hB hok
        obtain ⟨f0, f1, f2, f3, f4, f5, f6, f7⟩ := h8.mono (w' := wr) (fun o => hB.cell (p := ⟨b, o, none⟩) (hok b hb))
        have Hd := Lib.hid (drop_cons hlt)
        clear hcell hN hNj
        generalize t.ps[j] = p at *
        by_cases hx : x ≤ most
        · have hbd := sizeF_bd p (most - x) (by omega)
          go_wp2_with fail
          refine (Hih.out (most - x) (by omega) (by omega) _ ok A' c' (hNj'.later ((Below.refl _ _).alloc (Nat.le_refl _) _) (fun b h => by have := hok b h; omega)) (fun b h => by have := hok b h; simp; omega)).mono ?_
          rintro e w1 ⟨rfl, hb1⟩
          go_wp2_with fail
          go_roundg (gk - 1)
          case measure => omega
          case rel => exact ⟨j + 1, x + sizeF p (most - x), rfl, by go_num, by omega, by omega, by omega, by rw [← Hm.out, Hd.out, sizeL, if_pos hx], (hB.alloc hs _).trans (hb1.mono (by simp; omega))⟩
        · have hres : x = sizeF t most := by rw [sizeF_eq, ← Hm.out, sizeL_stop _ _ _ hx]
          have Hres := Lib.hid hres; clear hres
          go_wp2_with fail
          go_ret
          exact ⟨by rw [← Hres.out]; rfl, hB.alloc hs _⟩
      · have hres : x = sizeF t most := by rw [sizeF_eq, ← Hm.out, List.drop_of_length_le (by omega), sizeL]
        have Hres := Lib.hid hres; clear hres
        go_wp2_with fail
        go_ret
        exact ⟨by rw [← Hres.out]; rfl, hB⟩


mutual
def rightF : T → Bool
  | .mk k s0 s1 s2 s3 mn mx ps =>
    if (k ≠ 1 ∧ ¬ (s0 = 0 ∧ s1 = 0 ∧ s2 = 0 ∧ s3 = 0)) ∨ (k ≠ 6 ∧ (mn ≠ 0 ∨ mx ≠ 0)) then false
    else if k = 0 ∨ k = 1 ∨ k = 2 ∨ k = 3 then decide (ps.length = 0)
    else if k = 4 ∨ k = 5 then (if ps.length < 2 then false else rightL ps)
    else if k = 6 then (if ps.length ≠ 1 ∨ mn < 0 ∨ 255 < max mn mx ∨ (mx ≠ -1 ∧ mx < mn) then false else rightL ps)
    else false
def rightL : List T → Bool
  | [] => true
  | p :: ps => rightF p && rightL ps
end
theorem rightF_eq (t : T) : rightF t = if (t.k ≠ 1 ∧ ¬ (t.s0 = 0 ∧ t.s1 = 0 ∧ t.s2 = 0 ∧ t.s3 = 0)) ∨ (t.k ≠ 6 ∧ (t.mn ≠ 0 ∨ t.mx ≠ 0)) then false
    else if t.k = 0 ∨ t.k = 1 ∨ t.k = 2 ∨ t.k = 3 then decide (t.ps.length = 0)
    else if t.k = 4 ∨ t.k = 5 then (if t.ps.length < 2 then false else rightL t.ps)
    else if t.k = 6 then (if t.ps.length ≠ 1 ∨ t.mn < 0 ∨ 255 < max t.mn t.mx ∨ (t.mx ≠ -1 ∧ t.mx < t.mn) then false else rightL t.ps)
    else false := by cases t; rw [rightF]; rfl

/-- Where right looks at the parts. -/
def loops (t : T) : Prop := (t.k = 4 ∧ t.mn = 0 ∧ t.mx = 0 ∧ eq4 t.s0 t.s1 t.s2 t.s3 0 0 0 0 = true ∧ 2 ≤ t.ps.length) ∨ (t.k = 5 ∧ t.mn = 0 ∧ t.mx = 0 ∧ eq4 t.s0 t.s1 t.s2 t.s3 0 0 0 0 = true ∧ 2 ≤ t.ps.length) ∨
  (t.k = 6 ∧ 0 ≤ t.mn ∧ t.mn ≤ 255 ∧ t.mx = -1 ∧ eq4 t.s0 t.s1 t.s2 t.s3 0 0 0 0 = true ∧ t.ps.length = 1) ∨ (t.k = 6 ∧ 0 ≤ t.mn ∧ t.mn ≤ t.mx ∧ t.mx ≤ 255 ∧ eq4 t.s0 t.s1 t.s2 t.s3 0 0 0 0 = true ∧ t.ps.length = 1)
theorem rightF_loops {t : T} (h : loops t) : rightF t = rightL t.ps := by
  unfold loops at h
  simp only [eq4_iff] at h
  rw [rightF_eq]
  repeat' split
  all_goals first
    | rfl
    | (exfalso; omega)

set_option maxRecDepth 100000 in
set_option maxHeartbeats 1000000 in
theorem right_stops (t : T) (hl : ¬ loops t) (w : World) (ok : Nat → Prop) (A : Option Addr) (c : Nat) (hN : NodeAt w ok t A c) (hok : ∀ b, ok b → b < w.heap.size) :
    Calls Tryz.prog 49 #[nodeV t A c] w fun e w' => e = .returned (.bool (rightF t)) ∧ Below w.heap.size w w' := by
  have hlen := hN.len
  have Hl := Lib.hid hl; clear hl
  go_enter Tryz.func49, Tryz.ntmps49
  go_wp2_with fail
  all_goals (first
    | (go_ret; refine ⟨?_, ((Below.refl _ _).alloc (Nat.le_refl _) _).alloc (by simp) _⟩; refine congrArg (fun b => Ending.returned (.bool b)) ?_; exact Eq.symm (by
        rw [rightF_eq]
        go_tidy
        simp only [eq4_iff, bne_iff_ne, ne_eq, beq_iff_eq, beq_eq_false_iff_ne, bne_eq_false_iff_eq, Bool.not_eq_true] at *
        repeat' split
        all_goals first
          | rfl
          | (exfalso; omega)
          | (rw [Bool.eq_iff_iff, decide_eq_true_iff, beq_iff_eq]; omega)))
    | (exfalso
       refine Hl.out ?_
       unfold loops
       go_tidy
       simp only [eq4_iff, bne_iff_ne, ne_eq, beq_iff_eq, beq_eq_false_iff_ne, bne_eq_false_iff_eq, Bool.not_eq_true] at *
       omega))

set_option maxRecDepth 100000 in
set_option maxHeartbeats 1000000 in
theorem right_any (t : T) : ∀ (w : World) (ok : Nat → Prop) (A : Option Addr) (c : Nat), NodeAt w ok t A c → (∀ b, ok b → b < w.heap.size) →
    Calls Tryz.prog 49 #[nodeV t A c] w fun e w' => e = .returned (.bool (rightF t)) ∧ Below w.heap.size w w' := by
  induction t using T.ind with
  | h t ih =>
    intro w ok A c hN hok
    by_cases hl : loops t
    case neg => exact right_stops t hl w ok A c hN hok
    have hlen := hN.len
    have Hloop := Lib.hid (rightF_loops hl)
    unfold loops at hl
    rcases hl with ⟨hk, hmn, hmx, hq, hn⟩ | ⟨hk, hmn, hmx, hq, hn⟩ | ⟨hk, hmn, hmn', hmx, hq, hn⟩ | ⟨hk, hmn, hmn', hmx, hq, hn⟩
    case' inr.inr.inr =>
      have h255 : t.mn ≤ 255 := by omega
      have hm1 : (t.mx != -1) = true := by rw [bne_iff_ne]; omega
    all_goals
      go_enter Tryz.func49, Tryz.ntmps49
      go_wp2_with fail
    all_goals
      have hn' := Lib.hid hn
      clear hk hmn hmx hq hn
      generalize hW : (w.alloc _).alloc _ = W0
      have hB0 : Below w.heap.size w W0 := by subst hW; exact ((Below.refl _ _).alloc (Nat.le_refl _) _).alloc (by simp) _
      clear hW
      go_loopg [82] (t.ps.length) (fun n i wr => ∃ (j : Nat), i = .int .i64 j ∧ j + n = t.ps.length ∧ rightL (t.ps.drop j) = rightL t.ps ∧ Below w.heap.size w wr)
      case atStart => exact ⟨0, rfl, by omega, rfl, hB0⟩
      case round =>
        obtain ⟨j, rfl, hj, hm, hB⟩ := hrel
        have Hm := Lib.hid hm; clear hm
        have hs := hB.size
        clear hB0
        by_cases hlt : j < t.ps.length
        · obtain ⟨b, o, rfl, hb, hcell⟩ := hN.part (by omega)
          obtain ⟨A', c', h8, hNj⟩ := hcell j hlt
          have Hih := Lib.hid (ih t.ps[j] (List.getElem_mem _)); clear ih
          have hNj' := hNj.later hB hok
          obtain ⟨f0, f1, f2, f3, f4, f5, f6, f7⟩ := h8.mono (w' := wr) (fun o => hB.cell (p := ⟨b, o, none⟩) (hok b hb))
          have Hd := Lib.hid (drop_cons hlt)
          clear hcell hN hNj
          generalize t.ps[j] = p at *
          first
            | (have hj1 : (j : Int) < 1 := by (have := hn'.out; omega)
               go_wp2_with fail)
            | go_wp2_with fail
          refine (Hih.out _ ok A' c' (hNj'.later ((Below.refl _ _).alloc (Nat.le_refl _) _) (fun b h => by have := hok b h; omega)) (fun b h => by have := hok b h; simp; omega)).mono ?_
          rintro e w1 ⟨rfl, hb1⟩
          have hB1 : Below w.heap.size w w1 := (hB.alloc hs _).trans (hb1.mono (by simp; omega))
          cases hp : rightF p with
          | true =>
            have Hp := Lib.hid hp; clear hp
            go_wp2_with fail
            go_roundg (gk - 1)
            case measure => omega
            case rel => exact ⟨j + 1, by go_num, by omega, by rw [← Hm.out, Hd.out, rightL, Hp.out, Bool.true_and], hB1⟩
          | false =>
            have hres : rightF t = false := by rw [Hloop.out, ← Hm.out, Hd.out, rightL, hp, Bool.false_and]
            have Hres := Lib.hid hres; clear hres hp
            go_wp2_with fail
            go_ret
            exact ⟨by rw [Hres.out]; rfl, hB1⟩
        · have hres : rightF t = true := by rw [Hloop.out, ← Hm.out, List.drop_of_length_le (by omega), rightL]
          have Hres := Lib.hid hres; clear hres
          first
            | (have hj1 : ¬ (j : Int) < 1 := by (have := hn'.out; omega)
               go_wp2_with fail)
            | go_wp2_with fail
          go_ret
          exact ⟨by rw [Hres.out]; rfl, hB⟩

def checkF (t : T) : Int := if 2048 < sizeF t 2048 then 3 else if rightF t then 0 else 107

set_option maxRecDepth 100000 in
set_option maxHeartbeats 400000 in
theorem pcheck_any (t : T) (w : World) (ok : Nat → Prop) (A : Option Addr) (c : Nat) (hN : NodeAt w ok t A c) (hok : ∀ b, ok b → b < w.heap.size) :
    Calls Tryz.prog 36 #[nodeV t A c] w fun e w' => e = .returned (.int .i64 (checkF t)) ∧ Below w.heap.size w w' := by
  have hlen := hN.len
  go_enter Tryz.func36, Tryz.ntmps36
  go_wp2_with fail
  have hB0 : Below w.heap.size w (w.alloc (.cells #[.int .i64 t.k, .int .u64 t.s0, .int .u64 t.s1, .int .u64 t.s2, .int .u64 t.s3, .int .i64 t.mn, .int .i64 t.mx, .slice A t.ps.length c] 39)) := (Below.refl _ _).alloc (Nat.le_refl _) _
  refine (size_any t 2048 (by omega) (by omega) _ ok A c (hN.later hB0 hok) (fun b h => by have := hok b h; simp; omega)).mono ?_
  rintro e w1 ⟨rfl, hb1⟩
  have hB1 : Below w.heap.size w w1 := hB0.trans (hb1.mono (by simp))
  have hN1 := hN.later hB1 hok
  have hs1 := hB1.size
  obtain ⟨hc1, hf1⟩ := bcell hb1
  have g0 := hc1 w.heap.size 0 (by simp)
  have g1 := hc1 w.heap.size 1 (by simp)
  have g2 := hc1 w.heap.size 2 (by simp)
  have g3 := hc1 w.heap.size 3 (by simp)
  have g4 := hc1 w.heap.size 4 (by simp)
  have g5 := hc1 w.heap.size 5 (by simp)
  have g6 := hc1 w.heap.size 6 (by simp)
  have g7 := hc1 w.heap.size 7 (by simp)
  simp only [World.cell?_alloc_new, List.getElem?_toArray] at g0 g1 g2 g3 g4 g5 g6 g7
  clear hc1 hf1
  by_cases h : 2048 < sizeF t 2048
  · have hres : checkF t = 3 := by rw [checkF, if_pos h]
    have Hres := Lib.hid hres; clear hres
    go_wp2_with fail
    go_ret
    exact ⟨by rw [Hres.out]; rfl, hB1⟩
  · go_wp2_with fail
    refine (right_any t _ ok A c hN1 (fun b h => by have := hok b h; omega)).mono ?_
    rintro e w2 ⟨rfl, hb2⟩
    have hB2 : Below w.heap.size w w2 := hB1.trans (hb2.mono (by omega))
    cases hr : rightF t with
    | true =>
      have hres : checkF t = 0 := by rw [checkF, if_neg (by omega), if_pos hr]
      have Hres := Lib.hid hres; clear hres
      go_wp2_with fail
      go_ret
      exact ⟨by rw [Hres.out]; rfl, hB2⟩
    | false =>
      have hres : checkF t = 107 := by rw [checkF, if_neg (by omega), hr]; rfl
      have Hres := Lib.hid hres; clear hres
      go_wp2_with fail
      go_ret
      exact ⟨by rw [Hres.out]; rfl, hB2⟩
end Go.Proofs.YteekafkpeimhoaaGreat

/- The walks of nfa.count, nfa.Size. -/
set_option linter.unusedVariables false
set_option linter.unusedSimpArgs false
namespace Go.Proofs.YteekafkpeimhoaaGreat
open Go.RowKit

/-- What a node lays, its parts laying s together. -/
def countK (k mn mx s n : Int) : Int :=
  if k = 5 then s + (n - 1) else if k = 6 then (if mx < 0 then s * (mn + 1) + 1 else s * mx + mx - mn) else s
mutual
def countF : T → Int
  | .mk k _ _ _ _ mn mx ps => if k = 0 then 0 else if k = 1 ∨ k = 2 ∨ k = 3 then 1 else min 4097 (countK k mn mx (countL ps 0) ps.length)
def countL : List T → Int → Int
  | [], s => s
  | p :: ps, s => countL ps (min 4097 (s + countF p))
end
theorem countF_eq (t : T) : countF t = if t.k = 0 then 0 else if t.k = 1 ∨ t.k = 2 ∨ t.k = 3 then 1 else min 4097 (countK t.k t.mn t.mx (countL t.ps 0) t.ps.length) := by cases t; rw [countF]; rfl

theorem rightL_mem : ∀ {ps : List T}, rightL ps = true → ∀ p ∈ ps, rightF p = true
  | [], _, p, hp => by cases hp
  | q :: ps, h, p, hp => by
    rw [rightL, Bool.and_eq_true] at h
    cases hp with
    | head => exact h.1
    | tail _ hp => exact rightL_mem h.2 p hp
/-- What is right: its shape. -/
theorem right_cases {t : T} (h : rightF t = true) : (t.k = 0 ∧ t.ps.length = 0 ∧ t.mn = 0 ∧ t.mx = 0) ∨ (t.k = 1 ∧ t.ps.length = 0 ∧ t.mn = 0 ∧ t.mx = 0) ∨ (t.k = 2 ∧ t.ps.length = 0 ∧ t.mn = 0 ∧ t.mx = 0) ∨ (t.k = 3 ∧ t.ps.length = 0 ∧ t.mn = 0 ∧ t.mx = 0) ∨
    (t.k = 4 ∧ 2 ≤ t.ps.length ∧ t.mn = 0 ∧ t.mx = 0) ∨ (t.k = 5 ∧ 2 ≤ t.ps.length ∧ t.mn = 0 ∧ t.mx = 0) ∨ (t.k = 6 ∧ t.ps.length = 1 ∧ 0 ≤ t.mn ∧ t.mn ≤ 255 ∧ t.mx ≤ 255 ∧ (t.mx = -1 ∨ t.mn ≤ t.mx)) := by
  rw [rightF_eq] at h
  split at h
  · cases h
  rename_i g1
  split at h
  · rename_i g2
    rw [decide_eq_true_eq] at h
    rcases g2 with g | g | g | g
    · exact .inl ⟨g, h, by omega, by omega⟩
    · exact .inr (.inl ⟨g, h, by omega, by omega⟩)
    · exact .inr (.inr (.inl ⟨g, h, by omega, by omega⟩))
    · exact .inr (.inr (.inr (.inl ⟨g, h, by omega, by omega⟩)))
  split at h
  · rename_i g2
    split at h
    · cases h
    rcases g2 with g | g
    · exact .inr (.inr (.inr (.inr (.inl ⟨g, by omega, by omega, by omega⟩))))
    · exact .inr (.inr (.inr (.inr (.inr (.inl ⟨g, by omega, by omega, by omega⟩)))))
  split at h
  · rename_i g2
    split at h
    · cases h
    exact .inr (.inr (.inr (.inr (.inr (.inr ⟨g2, by omega, by omega, by omega, by omega, by omega⟩)))))
  · cases h
theorem right_parts {t : T} (h : rightF t = true) : ∀ p ∈ t.ps, rightF p = true := by
  rw [rightF_eq] at h
  split at h
  · cases h
  split at h
  · rw [decide_eq_true_eq] at h
    have := List.eq_nil_of_length_eq_zero h
    intro p hp
    rw [this] at hp
    cases hp
  split at h
  · split at h
    · cases h
    · exact rightL_mem h
  split at h
  · split at h
    · cases h
    · exact rightL_mem h
  · cases h

theorem countL_bd : ∀ (ps : List T) (s : Int), (∀ p ∈ ps, 0 ≤ countF p ∧ countF p ≤ 4097) → 0 ≤ s → s ≤ 4097 → 0 ≤ countL ps s ∧ countL ps s ≤ 4097
  | [], s, _, h0, h1 => by rw [countL]; omega
  | p :: ps, s, h, h0, h1 => by
    rw [countL]
    have := h p (List.mem_cons_self ..)
    exact countL_bd ps _ (fun q hq => h q (List.mem_cons_of_mem _ hq)) (by omega) (by omega)
theorem mul_bd {a b A B : Int} (a0 : 0 ≤ a) (b0 : 0 ≤ b) (hA : a ≤ A) (hB : b ≤ B) : 0 ≤ a * b ∧ a * b ≤ A * B :=
  ⟨Int.mul_nonneg a0 b0, Int.mul_le_mul hA hB b0 (by omega)⟩
theorem countK_bd {t : T} (h : rightF t = true) (s : Int) (h0 : 0 ≤ s) (h1 : s ≤ 4097) (hk : t.k ≠ 0) : 0 ≤ countK t.k t.mn t.mx s t.ps.length := by
  unfold countK
  rcases right_cases h with h | h | h | h | h | h | h
  all_goals
    repeat' split
    all_goals first | omega | skip
  · have := mul_bd (a := s) (b := t.mn + 1) (A := 4097) (B := 256) h0 (by omega) h1 (by omega); omega
  · have := mul_bd (a := s) (b := t.mx) (A := 4097) (B := 255) h0 (by omega) h1 (by omega); omega
theorem countF_bd (t : T) : rightF t = true → 0 ≤ countF t ∧ countF t ≤ 4097 := by
  induction t using T.ind with
  | h t ih =>
    intro h
    rw [countF_eq]
    have hl := countL_bd t.ps 0 (fun p hp => ih p hp (right_parts h p hp)) (by omega) (by omega)
    split
    · omega
    · split
      · omega
      · have := countK_bd h _ hl.1 hl.2 (by assumption)
        omega

set_option maxRecDepth 100000 in
set_option maxHeartbeats 1000000 in
theorem count_any (t : T) : ∀ (w : World) (ok : Nat → Prop) (A : Option Addr) (c : Nat), rightF t = true → NodeAt w ok t A c → (∀ b, ok b → b < w.heap.size) →
    Calls Tryz.prog 37 #[nodeV t A c] w fun e w' => e = .returned (.int .i64 (countF t)) ∧ Below w.heap.size w w' := by
  induction t using T.ind with
  | h t ih =>
    intro w ok A c hr hN hok
    have hlen := hN.len
    have hcs := right_cases hr
    have Hps := Lib.hid (right_parts hr)
    have Hlb := Lib.hid (fun s (h0 : 0 ≤ s) (h1 : s ≤ 4097) (j : Nat) => countL_bd (t.ps.drop j) s (fun p hp => countF_bd p (right_parts hr p (List.mem_of_mem_drop hp))) h0 h1)
    have Heq := Lib.hid (countF_eq t)
    have Hr := Lib.hid hr; clear hr
    have Hk : Hid True := trivial
    rcases hcs with ⟨hk, hn, hmn, hmx⟩ | ⟨hk, hn, hmn, hmx⟩ | ⟨hk, hn, hmn, hmx⟩ | ⟨hk, hn, hmn, hmx⟩ | ⟨hk, hn, hmn, hmx⟩ | ⟨hk, hn, hmn, hmx⟩ | ⟨hk, hn, h0, h1, h2, h3⟩
    · have Hres := Lib.hid (show countF t = 0 by rw [Heq.out, hk]; simp)
      clear hn hmn hmx
      go_enter Tryz.func37, Tryz.ntmps37
      go_wp2_with fail
      go_ret
      exact ⟨by rw [Hres.out]; rfl, (Below.refl _ _).alloc (Nat.le_refl _) _⟩
    · have Hres := Lib.hid (show countF t = 1 by rw [Heq.out, hk]; simp)
      clear hn hmn hmx
      go_enter Tryz.func37, Tryz.ntmps37
      go_wp2_with fail
      go_ret
      exact ⟨by rw [Hres.out]; rfl, (Below.refl _ _).alloc (Nat.le_refl _) _⟩
    · have Hres := Lib.hid (show countF t = 1 by rw [Heq.out, hk]; simp)
      clear hn hmn hmx
      go_enter Tryz.func37, Tryz.ntmps37
      go_wp2_with fail
      go_ret
      exact ⟨by rw [Hres.out]; rfl, (Below.refl _ _).alloc (Nat.le_refl _) _⟩
    · have Hres := Lib.hid (show countF t = 1 by rw [Heq.out, hk]; simp)
      clear hn hmn hmx
      go_enter Tryz.func37, Tryz.ntmps37
      go_wp2_with fail
      go_ret
      exact ⟨by rw [Hres.out]; rfl, (Below.refl _ _).alloc (Nat.le_refl _) _⟩
    · have Hk := Lib.hid hk
      have Hmn := Lib.hid hmn
      have Hmx := Lib.hid hmx
      go_enter Tryz.func37, Tryz.ntmps37
      go_wp2_with fail
      generalize hW : w.alloc _ = W0
      have hB0 : Below w.heap.size w W0 := by subst hW; exact (Below.refl _ _).alloc (Nat.le_refl _) _
      have g0 : W0.cell? ⟨w.heap.size, 0, none⟩ = some (.int .i64 4) := by subst hW; simp [go_sem]
      have g5 : W0.cell? ⟨w.heap.size, 5, none⟩ = some (.int .i64 0) := by subst hW; simp [go_sem]
      have g6 : W0.cell? ⟨w.heap.size, 6, none⟩ = some (.int .i64 0) := by subst hW; simp [go_sem]
      have g7 : W0.cell? ⟨w.heap.size, 7, none⟩ = some (.slice A t.ps.length c) := by subst hW; simp [go_sem]
      have hsz : w.heap.size < W0.heap.size := by subst hW; simp
      clear hW
      go_loopg [3, 17] (t.ps.length) (fun n s i wr => ∃ (j : Nat) (x : Int), s = .int .i64 x ∧ i = .int .i64 j ∧ j + n = t.ps.length ∧ 0 ≤ x ∧ x ≤ 4097 ∧ countL (t.ps.drop j) x = countL t.ps 0 ∧ Below w.heap.size w wr ∧ w.heap.size < wr.heap.size ∧
        wr.cell? ⟨w.heap.size, 0, none⟩ = some (.int .i64 4) ∧ wr.cell? ⟨w.heap.size, 5, none⟩ = some (.int .i64 0) ∧ wr.cell? ⟨w.heap.size, 6, none⟩ = some (.int .i64 0) ∧ wr.cell? ⟨w.heap.size, 7, none⟩ = some (.slice A t.ps.length c))
      case atStart => exact ⟨0, 0, rfl, rfl, by omega, by omega, by omega, rfl, hB0, hsz, g0, g5, g6, g7⟩
      case round =>
        clear hB0 hsz g0 g5 g6 g7
        obtain ⟨j, x, rfl, rfl, hj, hx1, hx2, hm, hB, hs, g0, g5, g6, g7⟩ := hrel
        have Hm := Lib.hid hm; clear hm
        by_cases hlt : j < t.ps.length
        · obtain ⟨b, o, rfl, hb, hcell⟩ := hN.part (by omega)
          obtain ⟨A', c', h8, hNj⟩ := hcell j hlt
          have Hih := Lib.hid (ih t.ps[j] (List.getElem_mem _)); clear ih
          have Hrj := Lib.hid (Hps.out t.ps[j] (List.getElem_mem _))
          have hNj' := hNj.later hB hok
          obtain ⟨f0, f1, f2, f3, f4, f5, f6, f7⟩ := h8.mono (w' := wr) (fun o => hB.cell (p := ⟨b, o, none⟩) (hok b hb))
          have Hd := Lib.hid (drop_cons hlt)
          clear hcell hN hNj
          generalize t.ps[j] = p at *
          have hbd := countF_bd p Hrj.out
          go_wp2_with fail
          refine (Hih.out _ ok A' c' Hrj.out (hNj'.later ((Below.refl _ _).alloc (Nat.le_refl _) _) (fun b h => by have := hok b h; omega)) (fun b h => by have := hok b h; simp; omega)).mono ?_
          rintro e w1 ⟨rfl, hb1⟩
          have hB1 : Below w.heap.size w w1 := (hB.alloc (by omega) _).trans (hb1.mono (by simp; omega))
          obtain ⟨hc1, hf1⟩ := bcell hb1
          have hz1 := hb1.size
          have k0 := (hc1 w.heap.size 0 (by simp; omega)).trans ((World.cell?_alloc_lt _ _ _ hs).trans g0)
          have k5 := (hc1 w.heap.size 5 (by simp; omega)).trans ((World.cell?_alloc_lt _ _ _ hs).trans g5)
          have k6 := (hc1 w.heap.size 6 (by simp; omega)).trans ((World.cell?_alloc_lt _ _ _ hs).trans g6)
          have k7 := (hc1 w.heap.size 7 (by simp; omega)).trans ((World.cell?_alloc_lt _ _ _ hs).trans g7)
          clear hc1 hf1
          go_wp2_with fail
          all_goals
            go_roundg (gk - 1)
            case measure => omega
            case rel => exact ⟨j + 1, min 4097 (x + countF p), by go_num, by go_num, by omega, by omega, by omega, by rw [← Hm.out, Hd.out, countL], hB1, by simp at hz1; omega, k0, k5, k6, k7⟩
        · have hx : x = countL t.ps 0 := by rw [← Hm.out, List.drop_of_length_le (by omega), countL]
          have Hres := Lib.hid (show countF t = min 4097 (countK 4 0 0 x t.ps.length) by rw [Heq.out, Hk.out, Hmn.out, Hmx.out, ← hx]; simp)
          clear hx
          go_wp2_with fail
          all_goals
            go_ret
            exact ⟨by rw [Hres.out]; simp only [countK]; go_num, hB⟩
    · have Hk := Lib.hid hk
      have Hmn := Lib.hid hmn
      have Hmx := Lib.hid hmx
      go_enter Tryz.func37, Tryz.ntmps37
      go_wp2_with fail
      generalize hW : w.alloc _ = W0
      have hB0 : Below w.heap.size w W0 := by subst hW; exact (Below.refl _ _).alloc (Nat.le_refl _) _
      have g0 : W0.cell? ⟨w.heap.size, 0, none⟩ = some (.int .i64 5) := by subst hW; simp [go_sem]
      have g5 : W0.cell? ⟨w.heap.size, 5, none⟩ = some (.int .i64 0) := by subst hW; simp [go_sem]
      have g6 : W0.cell? ⟨w.heap.size, 6, none⟩ = some (.int .i64 0) := by subst hW; simp [go_sem]
      have g7 : W0.cell? ⟨w.heap.size, 7, none⟩ = some (.slice A t.ps.length c) := by subst hW; simp [go_sem]
      have hsz : w.heap.size < W0.heap.size := by subst hW; simp
      clear hW
      go_loopg [3, 17] (t.ps.length) (fun n s i wr => ∃ (j : Nat) (x : Int), s = .int .i64 x ∧ i = .int .i64 j ∧ j + n = t.ps.length ∧ 0 ≤ x ∧ x ≤ 4097 ∧ countL (t.ps.drop j) x = countL t.ps 0 ∧ Below w.heap.size w wr ∧ w.heap.size < wr.heap.size ∧
        wr.cell? ⟨w.heap.size, 0, none⟩ = some (.int .i64 5) ∧ wr.cell? ⟨w.heap.size, 5, none⟩ = some (.int .i64 0) ∧ wr.cell? ⟨w.heap.size, 6, none⟩ = some (.int .i64 0) ∧ wr.cell? ⟨w.heap.size, 7, none⟩ = some (.slice A t.ps.length c))
      case atStart => exact ⟨0, 0, rfl, rfl, by omega, by omega, by omega, rfl, hB0, hsz, g0, g5, g6, g7⟩
      case round =>
        clear hB0 hsz g0 g5 g6 g7
        obtain ⟨j, x, rfl, rfl, hj, hx1, hx2, hm, hB, hs, g0, g5, g6, g7⟩ := hrel
        have Hm := Lib.hid hm; clear hm
        by_cases hlt : j < t.ps.length
        · obtain ⟨b, o, rfl, hb, hcell⟩ := hN.part (by omega)
          obtain ⟨A', c', h8, hNj⟩ := hcell j hlt
          have Hih := Lib.hid (ih t.ps[j] (List.getElem_mem _)); clear ih
          have Hrj := Lib.hid (Hps.out t.ps[j] (List.getElem_mem _))
          have hNj' := hNj.later hB hok
          obtain ⟨f0, f1, f2, f3, f4, f5, f6, f7⟩ := h8.mono (w' := wr) (fun o => hB.cell (p := ⟨b, o, none⟩) (hok b hb))
          have Hd := Lib.hid (drop_cons hlt)
          clear hcell hN hNj
          generalize t.ps[j] = p at *
          have hbd := countF_bd p Hrj.out
          go_wp2_with fail
          refine (Hih.out _ ok A' c' Hrj.out (hNj'.later ((Below.refl _ _).alloc (Nat.le_refl _) _) (fun b h => by have := hok b h; omega)) (fun b h => by have := hok b h; simp; omega)).mono ?_
          rintro e w1 ⟨rfl, hb1⟩
          have hB1 : Below w.heap.size w w1 := (hB.alloc (by omega) _).trans (hb1.mono (by simp; omega))
          obtain ⟨hc1, hf1⟩ := bcell hb1
          have hz1 := hb1.size
          have k0 := (hc1 w.heap.size 0 (by simp; omega)).trans ((World.cell?_alloc_lt _ _ _ hs).trans g0)
          have k5 := (hc1 w.heap.size 5 (by simp; omega)).trans ((World.cell?_alloc_lt _ _ _ hs).trans g5)
          have k6 := (hc1 w.heap.size 6 (by simp; omega)).trans ((World.cell?_alloc_lt _ _ _ hs).trans g6)
          have k7 := (hc1 w.heap.size 7 (by simp; omega)).trans ((World.cell?_alloc_lt _ _ _ hs).trans g7)
          clear hc1 hf1
          go_wp2_with fail
          all_goals
            go_roundg (gk - 1)
            case measure => omega
            case rel => exact ⟨j + 1, min 4097 (x + countF p), by go_num, by go_num, by omega, by omega, by omega, by rw [← Hm.out, Hd.out, countL], hB1, by simp at hz1; omega, k0, k5, k6, k7⟩
        · have hx : x = countL t.ps 0 := by rw [← Hm.out, List.drop_of_length_le (by omega), countL]
          have Hres := Lib.hid (show countF t = min 4097 (countK 5 0 0 x t.ps.length) by rw [Heq.out, Hk.out, Hmn.out, Hmx.out, ← hx]; simp)
          clear hx
          go_wp2_with fail
          all_goals
            go_ret
            exact ⟨by rw [Hres.out]; simp only [countK]; go_num, hB⟩
    · have Hk := Lib.hid hk
      have hn1 : t.ps.length ≤ 1 := by omega
      have hn2 : 1 ≤ t.ps.length := by omega
      clear hn
      go_enter Tryz.func37, Tryz.ntmps37
      go_wp2_with fail
      generalize hW : w.alloc _ = W0
      have hB0 : Below w.heap.size w W0 := by subst hW; exact (Below.refl _ _).alloc (Nat.le_refl _) _
      have g0 : W0.cell? ⟨w.heap.size, 0, none⟩ = some (.int .i64 6) := by subst hW; simp [go_sem]
      have g5 : W0.cell? ⟨w.heap.size, 5, none⟩ = some (.int .i64 t.mn) := by subst hW; simp [go_sem]
      have g6 : W0.cell? ⟨w.heap.size, 6, none⟩ = some (.int .i64 t.mx) := by subst hW; simp [go_sem]
      have g7 : W0.cell? ⟨w.heap.size, 7, none⟩ = some (.slice A t.ps.length c) := by subst hW; simp [go_sem]
      have hsz : w.heap.size < W0.heap.size := by subst hW; simp
      clear hW
      go_loopg [3, 17] (t.ps.length) (fun n s i wr => ∃ (j : Nat) (x : Int), s = .int .i64 x ∧ i = .int .i64 j ∧ j + n = t.ps.length ∧ 0 ≤ x ∧ x ≤ 4097 ∧ countL (t.ps.drop j) x = countL t.ps 0 ∧ Below w.heap.size w wr ∧ w.heap.size < wr.heap.size ∧
        wr.cell? ⟨w.heap.size, 0, none⟩ = some (.int .i64 6) ∧ wr.cell? ⟨w.heap.size, 5, none⟩ = some (.int .i64 t.mn) ∧ wr.cell? ⟨w.heap.size, 6, none⟩ = some (.int .i64 t.mx) ∧ wr.cell? ⟨w.heap.size, 7, none⟩ = some (.slice A t.ps.length c))
      case atStart => exact ⟨0, 0, rfl, rfl, by omega, by omega, by omega, rfl, hB0, hsz, g0, g5, g6, g7⟩
      case round =>
        clear hB0 hsz g0 g5 g6 g7
        obtain ⟨j, x, rfl, rfl, hj, hx1, hx2, hm, hB, hs, g0, g5, g6, g7⟩ := hrel
        have Hm := Lib.hid hm; clear hm
        by_cases hlt : j < t.ps.length
        · obtain ⟨b, o, rfl, hb, hcell⟩ := hN.part (by omega)
          obtain ⟨A', c', h8, hNj⟩ := hcell j hlt
          have Hih := Lib.hid (ih t.ps[j] (List.getElem_mem _)); clear ih
          have Hrj := Lib.hid (Hps.out t.ps[j] (List.getElem_mem _))
          have hNj' := hNj.later hB hok
          obtain ⟨f0, f1, f2, f3, f4, f5, f6, f7⟩ := h8.mono (w' := wr) (fun o => hB.cell (p := ⟨b, o, none⟩) (hok b hb))
          have Hd := Lib.hid (drop_cons hlt)
          clear hcell hN hNj
          generalize t.ps[j] = p at *
          have hbd := countF_bd p Hrj.out
          go_wp2_with fail
          refine (Hih.out _ ok A' c' Hrj.out (hNj'.later ((Below.refl _ _).alloc (Nat.le_refl _) _) (fun b h => by have := hok b h; omega)) (fun b h => by have := hok b h; simp; omega)).mono ?_
          rintro e w1 ⟨rfl, hb1⟩
          have hB1 : Below w.heap.size w w1 := (hB.alloc (by omega) _).trans (hb1.mono (by simp; omega))
          obtain ⟨hc1, hf1⟩ := bcell hb1
          have hz1 := hb1.size
          have k0 := (hc1 w.heap.size 0 (by simp; omega)).trans ((World.cell?_alloc_lt _ _ _ hs).trans g0)
          have k5 := (hc1 w.heap.size 5 (by simp; omega)).trans ((World.cell?_alloc_lt _ _ _ hs).trans g5)
          have k6 := (hc1 w.heap.size 6 (by simp; omega)).trans ((World.cell?_alloc_lt _ _ _ hs).trans g6)
          have k7 := (hc1 w.heap.size 7 (by simp; omega)).trans ((World.cell?_alloc_lt _ _ _ hs).trans g7)
          clear hc1 hf1
          go_wp2_with fail
          all_goals
            go_roundg (gk - 1)
            case measure => omega
            case rel => exact ⟨j + 1, min 4097 (x + countF p), by go_num, by go_num, by omega, by omega, by omega, by rw [← Hm.out, Hd.out, countL], hB1, by simp at hz1; omega, k0, k5, k6, k7⟩
        · have hx : x = countL t.ps 0 := by rw [← Hm.out, List.drop_of_length_le (by omega), countL]
          have Hres := Lib.hid (show countF t = min 4097 (countK 6 t.mn t.mx x t.ps.length) by rw [Heq.out, Hk.out, ← hx]; simp)
          clear hx
          by_cases hm : t.mx < 0
          · have hp := mul_bd (a := x) (b := t.mn + 1) (A := 4097) (B := 256) hx1 (by omega) hx2 (by omega)
            have hK : countK 6 t.mn t.mx x t.ps.length = x * (t.mn + 1) + 1 := by unfold countK; rw [if_neg (by omega), if_pos rfl, if_pos hm]
            have HK := Lib.hid hK; clear hK
            obtain ⟨hp1, hp2⟩ := hp
            go_wp2_with fail
            all_goals
              go_ret
              exact ⟨by rw [Hres.out, HK.out]; go_num, hB⟩
          · have hp := mul_bd (a := x) (b := t.mx) (A := 4097) (B := 255) hx1 (by omega) hx2 (by omega)
            have hK : countK 6 t.mn t.mx x t.ps.length = x * t.mx + t.mx - t.mn := by unfold countK; rw [if_neg (by omega), if_pos rfl, if_neg hm]
            have HK := Lib.hid hK; clear hK
            obtain ⟨hp1, hp2⟩ := hp
            go_wp2_with fail
            all_goals
              go_ret
              exact ⟨by rw [Hres.out, HK.out]; go_num, hB⟩

/-- nfa.Size's two results. -/
def sizeK (t : T) : Int := if checkF t ≠ 0 then 0 else if 4096 < 1 + countF t then 0 else 1 + countF t
def sizeE (t : T) : Int := if checkF t ≠ 0 then checkF t else if 4096 < 1 + countF t then 3 else 0
theorem check_right {t : T} (h : checkF t = 0) : rightF t = true ∧ sizeF t 2048 ≤ 2048 := by
  unfold checkF at h
  split at h
  · omega
  · split at h
    · exact ⟨by assumption, by omega⟩
    · omega

set_option maxRecDepth 100000 in
set_option maxHeartbeats 400000 in
theorem nsize_any (t : T) (w : World) (ok : Nat → Prop) (A : Option Addr) (c : Nat) (hN : NodeAt w ok t A c) (hok : ∀ b, ok b → b < w.heap.size) :
    Calls Tryz.prog 19 #[nodeV t A c] w fun e w' => e = .returned (.tuple #[.int .i64 (sizeK t), .int .i64 (sizeE t)]) ∧ Below w.heap.size w w' := by
  have hlen := hN.len
  go_enter Tryz.func19, Tryz.ntmps19
  go_wp2_with fail
  have hB0 : Below w.heap.size w (w.alloc (.cells #[.int .i64 t.k, .int .u64 t.s0, .int .u64 t.s1, .int .u64 t.s2, .int .u64 t.s3, .int .i64 t.mn, .int .i64 t.mx, .slice A t.ps.length c] 39)) := (Below.refl _ _).alloc (Nat.le_refl _) _
  refine (pcheck_any t _ ok A c (hN.later hB0 hok) (fun b h => by have := hok b h; simp; omega)).mono ?_
  rintro e w1 ⟨rfl, hb1⟩
  have hB1 : Below w.heap.size w w1 := hB0.trans (hb1.mono (by simp))
  have hN1 := hN.later hB1 hok
  have hs1 := hB1.size
  obtain ⟨hc1, hf1⟩ := bcell hb1
  have g0 := hc1 w.heap.size 0 (by simp)
  have g1 := hc1 w.heap.size 1 (by simp)
  have g2 := hc1 w.heap.size 2 (by simp)
  have g3 := hc1 w.heap.size 3 (by simp)
  have g4 := hc1 w.heap.size 4 (by simp)
  have g5 := hc1 w.heap.size 5 (by simp)
  have g6 := hc1 w.heap.size 6 (by simp)
  have g7 := hc1 w.heap.size 7 (by simp)
  simp only [World.cell?_alloc_new, List.getElem?_toArray] at g0 g1 g2 g3 g4 g5 g6 g7
  clear hc1 hf1
  by_cases h : checkF t = 0
  · have hr := (check_right h).1
    have hbd := countF_bd t hr
    have hb : (checkF t != 0) = false := by rw [h]; rfl
    have H := Lib.hid h; clear h
    go_wp2_with fail
    refine (count_any t _ ok A c hr hN1 (fun b h => by have := hok b h; omega)).mono ?_
    rintro e w2 ⟨rfl, hb2⟩
    have hB2 : Below w.heap.size w w2 := hB1.trans (hb2.mono (by omega))
    by_cases h2 : 4096 < 1 + countF t
    · have hk : sizeK t = 0 := by rw [sizeK, if_neg (by simp [H.out]), if_pos h2]
      have he : sizeE t = 3 := by rw [sizeE, if_neg (by simp [H.out]), if_pos h2]
      have Hk := Lib.hid hk; have He := Lib.hid he; clear hk he
      go_wp2_with fail
      go_ret2
      exact ⟨by rw [Hk.out, He.out]; rfl, hB2⟩
    · have hk : sizeK t = 1 + countF t := by rw [sizeK, if_neg (by simp [H.out]), if_neg h2]
      have he : sizeE t = 0 := by rw [sizeE, if_neg (by simp [H.out]), if_neg h2]
      have Hk := Lib.hid hk; have He := Lib.hid he; clear hk he
      go_wp2_with fail
      go_ret2
      exact ⟨by rw [Hk.out, He.out]; rfl, hB2⟩
  · have hb : (checkF t != 0) = true := by rw [bne_iff_ne]; exact h
    have hk : sizeK t = 0 := by rw [sizeK, if_pos h]
    have he : sizeE t = checkF t := by rw [sizeE, if_pos h]
    have Hk := Lib.hid hk; have He := Lib.hid he; clear hk he h
    go_wp2_with fail
    go_ret2
    exact ⟨by rw [Hk.out, He.out]; rfl, hB1⟩
end Go.Proofs.YteekafkpeimhoaaGreat

/- What laying a tree makes, as plain functions: the states behind those that lie there, and where the tree begins. -/
set_option linter.unusedVariables false
set_option linter.unusedSimpArgs false
namespace Go.Proofs.YteekafkpeimhoaaGreat
open Go.RowKit

abbrev LF := Int → List St → Int × List St
def splitS (nx ot : Int) : St := ⟨2, 0, 0, 0, 0, nx, ot⟩
def splitsF : List Int → List St → Int × List St
  | [], l => (0, l)
  | [x], l => (x, l)
  | b :: bs, l => ((splitsF bs l).2.length, (splitsF bs l).2 ++ [splitS b (splitsF bs l).1])
/-- n times: the part, and a split behind it. -/
def optF (p : LF) (tu : Int) : Nat → Int → List St → Int × List St
  | 0, t, l => (t, l)
  | n + 1, t, l => optF p tu n (p t l).2.length ((p t l).2 ++ [splitS (p t l).1 tu])
/-- n times the part, as long as it lays something. -/
def minF (p : LF) : Nat → Int → List St → Int × List St
  | 0, t, l => (t, l)
  | n + 1, t, l => if (p t l).2.length = l.length then p t l else minF p n (p t l).1 (p t l).2
def setNx (l : List St) (i : Nat) (x : Int) : List St := l.modify i fun s => { s with nx := x }
/-- A repeat without an end: the split, the part behind it. -/
def starF (p : LF) (tu : Int) (l : List St) : Int × List St :=
  (l.length, setNx (p l.length (l ++ [splitS 0 tu])).2 l.length (p l.length (l ++ [splitS 0 tu])).1)
def repF (mn mx : Int) (p : LF) (tu : Int) (l : List St) : Int × List St :=
  let a := if mx < 0 then starF p tu l else optF p tu (mx - mn).toNat tu l
  minF p mn.toNat a.1 a.2

mutual
def layF : T → LF
  | .mk k s0 s1 s2 s3 mn mx ps, tu, l =>
    if k = 1 then (l.length, l ++ [⟨1, s0, s1, s2, s3, tu, 0⟩])
    else if k = 2 then (l.length, l ++ [⟨3, 0, 0, 0, 0, tu, 0⟩])
    else if k = 3 then (l.length, l ++ [⟨4, 0, 0, 0, 0, tu, 0⟩])
    else if k = 4 then rowF ps tu l
    else if k = 5 then splitsF (begF ps tu l).1 (begF ps tu l).2
    else if k = 6 then repF mn mx (headF ps) tu l
    else (tu, l)
/-- The last part first. -/
def rowF : List T → LF
  | [], tu, l => (tu, l)
  | p :: ps, tu, l => layF p (rowF ps tu l).1 (rowF ps tu l).2
def begF : List T → Int → List St → List Int × List St
  | [], tu, l => ([], l)
  | p :: ps, tu, l => ((layF p tu l).1 :: (begF ps tu (layF p tu l).2).1, (begF ps tu (layF p tu l).2).2)
def headF : List T → LF
  | [], tu, l => (tu, l)
  | p :: _, tu, l => layF p tu l
end
theorem layF_eq (t : T) (tu : Int) (l : List St) : layF t tu l =
    if t.k = 1 then ((l.length : Int), l ++ [⟨1, t.s0, t.s1, t.s2, t.s3, tu, 0⟩])
    else if t.k = 2 then ((l.length : Int), l ++ [⟨3, 0, 0, 0, 0, tu, 0⟩])
    else if t.k = 3 then ((l.length : Int), l ++ [⟨4, 0, 0, 0, 0, tu, 0⟩])
    else if t.k = 4 then rowF t.ps tu l
    else if t.k = 5 then splitsF (begF t.ps tu l).1 (begF t.ps tu l).2
    else if t.k = 6 then repF t.mn t.mx (headF t.ps) tu l
    else (tu, l) := by cases t; rw [layF]; rfl

/-- What lays never takes away. -/
def Grows (p : LF) : Prop := ∀ t l, l.length ≤ (p t l).2.length
theorem splitsF_len : ∀ (bs : List Int) (l : List St), (splitsF bs l).2.length = l.length + (bs.length - 1)
  | [], l => by simp [splitsF]
  | [x], l => by simp [splitsF]
  | a :: b :: bs, l => by
    have := splitsF_len (b :: bs) l
    rw [splitsF]
    · simp only [List.length_append, this, List.length_cons, List.length_nil]; omega
    · simp
theorem optF_grows {p : LF} (hp : Grows p) (tu : Int) : ∀ n, Grows (optF p tu n)
  | 0, t, l => by simp [optF]
  | n + 1, t, l => by
    rw [optF]
    have h1 := hp t l
    have h2 := optF_grows hp tu n (p t l).2.length ((p t l).2 ++ [splitS (p t l).1 tu])
    simp only [List.length_append, List.length_cons, List.length_nil] at h2
    omega
theorem minF_grows {p : LF} (hp : Grows p) : ∀ n, Grows (minF p n)
  | 0, t, l => by simp [minF]
  | n + 1, t, l => by
    rw [minF]
    split
    · exact hp t l
    · have h1 := hp t l
      have h2 := minF_grows hp n (p t l).1 (p t l).2
      omega
theorem starF_grows {p : LF} (hp : Grows p) (tu : Int) (l : List St) : l.length + 1 ≤ (starF p tu l).2.length := by
  have h := hp l.length (l ++ [splitS 0 tu])
  simp only [starF, setNx, List.length_modify, List.length_append, List.length_cons, List.length_nil] at h ⊢
  omega
theorem repF_grows {p : LF} (hp : Grows p) (mn mx : Int) : Grows (repF mn mx p) := fun tu l => by
  unfold repF
  simp only
  split
  · have := starF_grows hp tu l
    have := minF_grows hp mn.toNat (starF p tu l).1 (starF p tu l).2
    omega
  · have := optF_grows hp tu (mx - mn).toNat tu l
    have := minF_grows hp mn.toNat (optF p tu (mx - mn).toNat tu l).1 (optF p tu (mx - mn).toNat tu l).2
    omega
theorem rowF_grows : ∀ ps : List T, (∀ p ∈ ps, Grows (layF p)) → Grows (rowF ps)
  | [], _, tu, l => by simp [rowF]
  | p :: ps, h, tu, l => by
    rw [rowF]
    have h1 := rowF_grows ps (fun q hq => h q (List.mem_cons_of_mem _ hq)) tu l
    have h2 := h p (List.mem_cons_self ..) (rowF ps tu l).1 (rowF ps tu l).2
    omega
theorem begF_grows : ∀ ps : List T, (∀ p ∈ ps, Grows (layF p)) → ∀ tu l, l.length ≤ (begF ps tu l).2.length
  | [], _, tu, l => by simp [begF]
  | p :: ps, h, tu, l => by
    rw [begF]
    have h1 := h p (List.mem_cons_self ..) tu l
    have h2 := begF_grows ps (fun q hq => h q (List.mem_cons_of_mem _ hq)) tu (layF p tu l).2
    simp only
    omega
theorem begF_len : ∀ (ps : List T) (tu : Int) (l : List St), (begF ps tu l).1.length = ps.length
  | [], tu, l => by simp [begF]
  | p :: ps, tu, l => by rw [begF]; simp [begF_len ps]
theorem layF_grows (t : T) : Grows (layF t) := by
  induction t using T.ind with
  | h t ih =>
    intro tu l
    rw [layF_eq]
    split
    · simp
    split
    · simp
    split
    · simp
    split
    · exact rowF_grows t.ps ih tu l
    split
    · rw [splitsF_len]
      have := begF_grows t.ps ih tu l
      omega
    split
    · refine repF_grows (fun tu l => ?_) _ _ tu l
      cases h : t.ps with
      | nil => simp [headF]
      | cons p ps => rw [headF]; exact ih p (by rw [h]; exact List.mem_cons_self ..) tu l
    · exact Nat.le_refl _
theorem headF_grows (ps : List T) : Grows (headF ps) := fun tu l => by
  cases ps with
  | nil => simp [headF]
  | cons p ps => rw [headF]; exact layF_grows p tu l
end Go.Proofs.YteekafkpeimhoaaGreat

/- The walks of nfa's layer: nothing, set, place. -/
set_option linter.unusedVariables false
set_option linter.unusedSimpArgs false
namespace Go.Proofs.YteekafkpeimhoaaGreat
open Go.RowKit

/-- What a way of laying leaves. -/
def LayPost (w : World) (L base : Nat) (v : Value) (r : Int × List St) (e : Ending) (w' : World) : Prop :=
  e = .returned (.int .i64 r.1) ∧ ∃ v', Layer w' L base v' r.2 ∧ Moves w v v' ∧ Lays L v.ownBlock w w'
/-- The blocks that are read are none of the layer's. -/
def OkL (w : World) (L : Nat) (v : Value) (ok : Nat → Prop) : Prop := ∀ b, ok b → b < w.heap.size ∧ b ≠ L ∧ some b ≠ v.ownBlock
/-- A function of the program lays a tree as layF does. -/
def LayAt (f : Nat) (t : T) : Prop := ∀ (w : World) (ok : Nat → Prop) (A : Option Addr) (c L base : Nat) (v : Value) (l : List St) (tu : Int), NodeAt w ok t A c → OkL w L v ok → Layer w L base v l → (layF t tu l).2.length ≤ 1000000 →
  Calls Tryz.prog f #[.pointer (some ⟨L, 0, none⟩), nodeV t A c, .int .i64 tu] w (LayPost w L base v (layF t tu l))

theorem OkL.later {w w' : World} {L : Nat} {v v' : Value} {ok : Nat → Prop} (h : OkL w L v ok) (hs : w.heap.size ≤ w'.heap.size) (hm : Moves w v v') : OkL w' L v' ok := fun b hb => by
  obtain ⟨h1, h2, h3⟩ := h b hb
  refine ⟨by omega, h2, fun e => ?_⟩
  rcases hm with hm | ⟨g, hg, hle⟩
  · exact h3 (e.trans hm)
  · rw [hg] at e; injection e with e; omega
theorem NodeAt.lays {w w' : World} {L : Nat} {v : Value} {ok : Nat → Prop} {t : T} {A : Option Addr} {c : Nat} (h : NodeAt w ok t A c) (ho : OkL w L v ok) (hl : Lays L v.ownBlock w w') : NodeAt w' ok t A c :=
  h.mono fun b hb => ⟨hb, fun o => hl.cell (ho b hb).1 (ho b hb).2.1 (ho b hb).2.2⟩
theorem OkL.alloc {w : World} {L : Nat} {v : Value} {ok : Nat → Prop} (h : OkL w L v ok) (o : Obj) : OkL (w.alloc o) L v ok := h.later (by simp) (Moves.refl _ _)
theorem Layer.alloc {w : World} {L base : Nat} {v : Value} {l : List St} (h : Layer w L base v l) (o : Obj) : Layer (w.alloc o) L base v l := h.later ((Below.refl _ _).alloc (Nat.le_refl _) _)
theorem Lays.alloc (L : Nat) (r : Option Nat) (w : World) (o : Obj) : Lays L r w (w.alloc o) := .of_below ((Below.refl _ _).alloc (Nat.le_refl _) _)
theorem NodeAt.alloc {w : World} {ok : Nat → Prop} {t : T} {A : Option Addr} {c : Nat} (h : NodeAt w ok t A c) (ho : ∀ b, ok b → b < w.heap.size) (o : Obj) : NodeAt (w.alloc o) ok t A c := h.later ((Below.refl _ _).alloc (Nat.le_refl _) _) ho

set_option maxRecDepth 100000 in
set_option maxHeartbeats 400000 in
theorem nothing_any (t : T) (hk : t.k = 0) : LayAt 50 t := by
  intro w ok A c L base v l tu hN ho hL hlen
  have hr : layF t tu l = (tu, l) := by rw [layF_eq]; simp [hk]
  have Hr := Lib.hid hr; clear hr hk
  go_enter Tryz.func50, Tryz.ntmps50
  go_wp2_with fail
  go_ret
  rw [Hr.out]
  exact ⟨rfl, v, hL.alloc _, Moves.refl _ _, Lays.alloc _ _ _ _⟩

set_option maxRecDepth 100000 in
set_option maxHeartbeats 400000 in
theorem set_any (t : T) (hk : t.k = 1) : LayAt 51 t := by
  intro w ok A c L base v l tu hN ho hL hlen
  have hr : layF t tu l = ((l.length : Int), l ++ [⟨1, t.s0, t.s1, t.s2, t.s3, tu, 0⟩]) := by rw [layF_eq]; simp [hk]
  rw [hr] at hlen
  have Hr := Lib.hid hr; clear hr hk
  simp only [List.length_append, List.length_cons, List.length_nil] at hlen
  go_enter Tryz.func51, Tryz.ntmps51
  go_wp2_with fail
  refine (state_any _ L base v l ⟨1, t.s0, t.s1, t.s2, t.s3, tu, 0⟩ (hL.alloc _) (by omega)).mono ?_
  rintro e w1 ⟨rfl, v1, hL1, hm1, hl1⟩
  go_wp2_with fail
  go_ret
  rw [Hr.out]
  exact ⟨rfl, v1, hL1, (Moves.refl w v).trans (by simp) hm1, (Lays.alloc _ _ _ _).trans (Moves.refl _ _) hl1⟩

set_option maxRecDepth 100000 in
set_option maxHeartbeats 400000 in
theorem place_any (t : T) (hk : t.k = 2 ∨ t.k = 3) : LayAt 52 t := by
  intro w ok A c L base v l tu hN ho hL hlen
  rcases hk with hk | hk
  · have hr : layF t tu l = ((l.length : Int), l ++ [⟨3, 0, 0, 0, 0, tu, 0⟩]) := by rw [layF_eq]; simp [hk]
    rw [hr] at hlen
    have Hr := Lib.hid hr; clear hr
    simp only [List.length_append, List.length_cons, List.length_nil] at hlen
    go_enter Tryz.func52, Tryz.ntmps52
    go_wp2_with fail
    refine (state_any _ L base v l ⟨3, 0, 0, 0, 0, tu, 0⟩ (hL.alloc _) (by omega)).mono ?_
    rintro e w1 ⟨rfl, v1, hL1, hm1, hl1⟩
    go_wp2_with fail
    go_ret
    rw [Hr.out]
    exact ⟨rfl, v1, hL1, (Moves.refl w v).trans (by simp) hm1, (Lays.alloc _ _ _ _).trans (Moves.refl _ _) hl1⟩
  · have hr : layF t tu l = ((l.length : Int), l ++ [⟨4, 0, 0, 0, 0, tu, 0⟩]) := by rw [layF_eq]; simp [hk]
    rw [hr] at hlen
    have Hr := Lib.hid hr; clear hr
    simp only [List.length_append, List.length_cons, List.length_nil] at hlen
    go_enter Tryz.func52, Tryz.ntmps52
    go_wp2_with fail
    refine (state_any _ L base v l ⟨4, 0, 0, 0, 0, tu, 0⟩ (hL.alloc _) (by omega)).mono ?_
    rintro e w1 ⟨rfl, v1, hL1, hm1, hl1⟩
    go_wp2_with fail
    go_ret
    rw [Hr.out]
    exact ⟨rfl, v1, hL1, (Moves.refl w v).trans (by simp) hm1, (Lays.alloc _ _ _ _).trans (Moves.refl _ _) hl1⟩
end Go.Proofs.YteekafkpeimhoaaGreat

/- Trees that are handed in, marks in their spare room: what it means; helper laws. -/
set_option linter.unusedVariables false
set_option linter.unusedSimpArgs false
namespace Go.Proofs.YteekafkpeimhoaaGreat
open Go.RowKit

/-- A tree reads, three marks behind each list. -/
inductive LentAt (w : World) (ok : Nat → Prop) : T → Option Addr → Nat → Prop where
  | mk (t : T) (g : Nat) (c : Nat) (As : Nat → Option Addr) (cs : Nat → Nat) :
      t.ps.length + 3 ≤ c → t.ps.length ≤ 1000000 → ok g →
      (∀ i p, t.ps[i]? = some p → At8 w g (i * 8) p (As i) (cs i)) →
      (∀ k, k < 3 → w.cell? ⟨g, (t.ps.length + k) * 8, none⟩ = some (.int .i64 (-77)) ∧ w.cell? ⟨g, (t.ps.length + k) * 8 + 7, none⟩ = some (.slice none 0 0)) →
      (∀ i p, t.ps[i]? = some p → LentAt w ok p (As i) (cs i)) →
      LentAt w ok t (some ⟨g, 0, none⟩) c
theorem LentAt.mono {w w' : World} {ok ok' : Nat → Prop} (hk : ∀ b, ok b → ok' b ∧ ∀ o, w'.cell? ⟨b, o, none⟩ = w.cell? ⟨b, o, none⟩) {t : T} {A : Option Addr} {c : Nat} (h : LentAt w ok t A c) : LentAt w' ok' t A c := by
  induction h with
  | mk t g c As cs hc hl hg ha hm hp ih =>
    exact .mk t g c As cs hc hl (hk g hg).1 (fun i p hi => (ha i p hi).mono (hk g hg).2) (fun k hk' => ⟨((hk g hg).2 _).trans (hm k hk').1, ((hk g hg).2 _).trans (hm k hk').2⟩) ih
theorem LentAt.node {w : World} {ok : Nat → Prop} {t : T} {A : Option Addr} {c : Nat} (h : LentAt w ok t A c) : NodeAt w ok t A c := by
  induction h with
  | mk t g c As cs hc hl hg ha hm hp ih =>
    exact .mk t _ c As cs (by omega) (by omega) (fun _ => ⟨g, 0, rfl, hg, fun i p hi => by rw [Nat.zero_add]; exact ha i p hi⟩) ih
def ncell (x : T × Option Addr × Nat) : List Value := [.int .i64 x.1.k, .int .u64 x.1.s0, .int .u64 x.1.s1, .int .u64 x.1.s2, .int .u64 x.1.s3, .int .i64 x.1.mn, .int .i64 x.1.mx, .slice x.2.1 x.1.ps.length x.2.2]
def ncells (l : List (T × Option Addr × Nat)) : List Value := l.flatMap ncell
theorem ncells_length (l : List (T × Option Addr × Nat)) : (ncells l).length = l.length * 8 := by
  induction l with
  | nil => rfl
  | cons s l ih =>
    show (ncell s ++ ncells l).length = _
    rw [List.length_append, ih, List.length_cons]
    simp only [ncell, List.length_cons, List.length_nil]
    omega
theorem ncells_snoc (l : List (T × Option Addr × Nat)) (s : T × Option Addr × Nat) : ncells (l ++ [s]) = ncells l ++ ncell s := by simp [ncells]
theorem ncell_one (s : T × Option Addr × Nat) : ∀ u ∈ ncell s, u.oneCell' = true := by
  intro u hu
  simp only [ncell, List.mem_cons, List.not_mem_nil, or_false] at hu
  rcases hu with rfl | rfl | rfl | rfl | rfl | rfl | rfl | rfl <;> rfl
theorem ncells_get : ∀ (l : List (T × Option Addr × Nat)) (i j : Nat) (hi : i < l.length), j < 8 → (ncells l)[i * 8 + j]? = (ncell l[i])[j]?
  | s :: l, 0, j, hi, hj => by
    show (ncell s ++ ncells l)[0 * 8 + j]? = _
    rw [Nat.zero_mul, Nat.zero_add, List.getElem?_append_left (by simp [ncell]; omega)]
    rfl
  | s :: l, i + 1, j, hi, hj => by
    show (ncell s ++ ncells l)[(i + 1) * 8 + j]? = _
    rw [List.getElem?_append_right (by simp [ncell]; omega)]
    simp only [ncell, List.length_cons, List.length_nil]
    rw [show (i + 1) * 8 + j - (0 + 1 + 1 + 1 + 1 + 1 + 1 + 1 + 1) = i * 8 + j by omega, ncells_get l i j (by simpa using hi) hj]
    rfl
theorem At8.of {w : World} {b o : Nat} {x : T × Option Addr × Nat} (h : ∀ j, j < 8 → w.cell? ⟨b, o + j, none⟩ = (ncell x)[j]?) : At8 w b o x.1 x.2.1 x.2.2 :=
  ⟨h 0 (by omega), h 1 (by omega), h 2 (by omega), h 3 (by omega), h 4 (by omega), h 5 (by omega), h 6 (by omega), h 7 (by omega)⟩
abbrev mark : T × Option Addr × Nat := (.mk (-77) 0 0 0 0 0 0 [], none, 0)
theorem Tryz.infoNode : (Tryz.prog.info? 39).map (fun i => (i.zero, i.size, i.bytes)) = some (some (.agg #[.int .i64 0, .int .u64 0, .int .u64 0, .int .u64 0, .int .u64 0, .int .i64 0, .int .i64 0, .slice none 0 0]), 8, 80) := by kernel_rfl

/-- A block of cells, nothing frozen. -/
def Blk (w : World) (b : Nat) (cs : Array Value) : Prop := w.heap[b]? = some (.cells cs 39 (0, 0))
theorem Blk.lt {w : World} {b : Nat} {cs : Array Value} (h : Blk w b cs) : b < w.heap.size := (Array.getElem?_eq_some_iff.1 h).1
theorem Blk.cell {w : World} {b : Nat} {cs : Array Value} (h : Blk w b cs) (o : Nat) : w.cell? ⟨b, o, none⟩ = cs[o]? := cell_of_row w b o cs _ (0, 0) h
theorem Blk.froz {w : World} {b : Nat} {cs : Array Value} (h : Blk w b cs) (o : Nat) : w.frozen? ⟨b, o, none⟩ = false := by
  unfold World.frozen?
  rw [show w.heap[(⟨b, o, none⟩ : Addr).block]? = _ from h]
  simp
theorem Blk.keep {w w' : World} {b : Nat} {cs : Array Value} (h : Blk w b cs) (e : w'.heap[b]? = w.heap[b]?) : Blk w' b cs := e.trans h
theorem Blk.set {w : World} {b : Nat} {cs : Array Value} (h : Blk w b cs) (o : Nat) (u : Value) : Blk (w.setCell ⟨b, o, none⟩ u) b (cs.setIfInBounds o u) := by
  unfold Blk at h ⊢
  simp only [World.setCell, Array.getElem?_modify, ↓reduceIte, h, Option.map_some]
  rfl
theorem Blk.new (w : World) (cs : Array Value) : Blk (w.alloc (.cells cs 39)) w.heap.size cs := heap_alloc_new w _
end Go.Proofs.YteekafkpeimhoaaGreat

/- The walk of vouchlaw11.many. -/
set_option linter.unusedVariables false
namespace Go.Proofs.YteekafkpeimhoaaGreat
open Go.RowKit

mutual
def manyF (top : Int) : T → Int
  | .mk _ _ _ _ _ _ _ ps => min (manyL top ps 1) (top + 1)
def manyL (top : Int) : List T → Int → Int
  | [], s => s
  | p :: ps, s => if s ≤ top then manyL top ps (s + manyF top p) else s
end
theorem manyF_eq (top : Int) (t : T) : manyF top t = min (manyL top t.ps 1) (top + 1) := by cases t; rw [manyF]; rfl

theorem manyL_ge (top : Int) (h : 0 ≤ top) (ps : List T) (ih : ∀ p ∈ ps, 1 ≤ manyF top p) : ∀ s, 1 ≤ s → 1 ≤ manyL top ps s := by
  induction ps with
  | nil => intro s hs; simpa [manyL] using hs
  | cons p ps ih2 =>
    intro s hs
    rw [manyL]
    split
    · exact ih2 (fun q hq => ih q (List.mem_cons_of_mem _ hq)) _ (by have := ih p (List.mem_cons_self ..); omega)
    · exact hs
theorem manyF_bd (top : Int) (h : 0 ≤ top) (t : T) : 1 ≤ manyF top t ∧ manyF top t ≤ top + 1 := by
  induction t using T.ind with
  | h t ih =>
    rw [manyF_eq]
    have := manyL_ge top h t.ps (fun p hp => (ih p hp).1) 1 (by omega)
    omega
theorem manyL_stop (top : Int) (ps : List T) (s : Int) (h : ¬ s ≤ top) : manyL top ps s = s := by
  cases ps with
  | nil => rw [manyL]
  | cons p ps => rw [manyL, if_neg h]

end Go.Proofs.YteekafkpeimhoaaGreat

/- vouchref10: count, may, Check: walked; the count of nodes. -/
set_option linter.unusedVariables false
set_option linter.unusedSimpArgs false
namespace Go.Proofs.YteekafkpeimhoaaGreat
open Go.RowKit

mutual
/-- How many nodes a tree has. -/
def nodesF : T → Int
  | .mk _ _ _ _ _ _ _ ps => 1 + nodesL ps
def nodesL : List T → Int
  | [] => 0
  | p :: ps => nodesF p + nodesL ps
end
theorem nodesF_eq (t : T) : nodesF t = 1 + nodesL t.ps := by cases t; rw [nodesF]; rfl
theorem nodesL_pos (ps : List T) (ih : ∀ p ∈ ps, 1 ≤ nodesF p) : 0 ≤ nodesL ps := by
  induction ps with
  | nil => rw [nodesL]; omega
  | cons p ps ih2 =>
    rw [nodesL]
    have := ih p (List.mem_cons_self ..)
    have := ih2 (fun q hq => ih q (List.mem_cons_of_mem _ hq))
    omega
theorem nodesF_pos (t : T) : 1 ≤ nodesF t := by
  induction t using T.ind with
  | h t ih => rw [nodesF_eq]; have := nodesL_pos t.ps ih; omega
theorem manyL_min (top : Int) (h0 : 0 ≤ top) (ps : List T) (ih : ∀ p ∈ ps, manyF top p = min (nodesF p) (top + 1)) : ∀ s, 1 ≤ s → min (manyL top ps s) (top + 1) = min (s + nodesL ps) (top + 1) := by
  induction ps with
  | nil => intro s hs; rw [manyL, nodesL]; omega
  | cons p ps ih2 =>
    intro s hs
    rw [manyL, nodesL]
    have h1 := nodesL_pos ps (fun q _ => nodesF_pos q)
    have h2 := nodesF_pos p
    split
    · have h3 := ih p (List.mem_cons_self ..)
      rw [ih2 (fun q hq => ih q (List.mem_cons_of_mem _ hq)) _ (by omega), h3]
      omega
    · omega
theorem manyF_min (top : Int) (h0 : 0 ≤ top) (t : T) : manyF top t = min (nodesF t) (top + 1) := by
  induction t using T.ind with
  | h t ih => rw [manyF_eq, manyL_min top h0 t.ps ih 1 (by omega), nodesF_eq]
theorem sizeL_min (ps : List T) (ih : ∀ p ∈ ps, ∀ most, 0 ≤ most → sizeF p most = min (nodesF p) (most + 1)) : ∀ s most, 1 ≤ s → 0 ≤ most → min (sizeL ps s most) (most + 1) = min (s + nodesL ps) (most + 1) := by
  induction ps with
  | nil => intro s most hs hm; rw [sizeL, nodesL]; omega
  | cons p ps ih2 =>
    intro s most hs hm
    rw [sizeL, nodesL]
    have h1 := nodesL_pos ps (fun q _ => nodesF_pos q)
    have h2 := nodesF_pos p
    split
    · have h3 := ih p (List.mem_cons_self ..) (most - s) (by omega)
      rw [ih2 (fun q hq => ih q (List.mem_cons_of_mem _ hq)) _ _ (by omega) hm, h3]
      omega
    · omega
theorem sizeF_min (t : T) : ∀ most, 0 ≤ most → sizeF t most = min (nodesF t) (most + 1) := by
  induction t using T.ind with
  | h t ih =>
    intro most hm
    have h1 := sizeF_bd t most hm
    have h2 := sizeL_min t.ps ih 1 most (by omega) hm
    rw [sizeF_eq] at h1 ⊢
    rw [nodesF_eq]
    omega
theorem count_is (t : T) : manyF 2048 t = sizeF t 2048 := by rw [manyF_min 2048 (by omega), sizeF_min t 2048 (by omega)]

set_option maxRecDepth 100000 in
set_option maxHeartbeats 400000 in
theorem rcount_any (t : T) : ∀ (w : World) (ok : Nat → Prop) (A : Option Addr) (c : Nat), NodeAt w ok t A c → (∀ b, ok b → b < w.heap.size) →
    Calls Tryz.prog 58 #[nodeV t A c] w fun e w' => e = .returned (.int .i64 (manyF 2048 t)) ∧ Below w.heap.size w w' := by
  induction t using T.ind with
  | h t ih =>
    intro w ok A c hN hok
    have hlen := hN.len
    go_enter Tryz.func58, Tryz.ntmps58
    go_wp2_with fail
    generalize hW : w.alloc _ = W0
    have hB0 : Below w.heap.size w W0 := by subst hW; exact (Below.refl _ _).alloc (Nat.le_refl _) _
    have hc7 : W0.cell? ⟨w.heap.size, 7, none⟩ = some (.slice A t.ps.length c) := by subst hW; simp [go_sem]
    have hsz : w.heap.size < W0.heap.size := by subst hW; simp
    clear hW
    go_loopg [3, 4] (t.ps.length) (fun n s i wr => ∃ (j : Nat) (x : Int), s = .int .i64 x ∧ i = .int .i64 j ∧ j + n = t.ps.length ∧ 1 ≤ x ∧ x ≤ 4100 ∧ manyL 2048 (t.ps.drop j) x = manyL 2048 t.ps 1 ∧ Below w.heap.size w wr ∧ w.heap.size < wr.heap.size ∧ wr.cell? ⟨w.heap.size, 7, none⟩ = some (.slice A t.ps.length c))
    case atStart => exact ⟨0, 1, rfl, rfl, by omega, by omega, by omega, rfl, hB0, hsz, hc7⟩
    case round =>
      obtain ⟨j, x, rfl, rfl, hj, hx1, hx2, hm, hB, hs, hc7'⟩ := hrel
      have Hm := Lib.hid hm; clear hm
      clear hc7 hB0 hsz
      by_cases hlt : j < t.ps.length
      · obtain ⟨b, o, rfl, hb, hcell⟩ := hN.part (by omega)
        obtain ⟨A', c', h8, hNj⟩ := hcell j hlt
        have Hih := Lib.hid (ih t.ps[j] (List.getElem_mem _)); clear ih
        have hbd := manyF_bd 2048 (by omega) t.ps[j]
        have hNj' := hNj.later hB hok
        obtain ⟨f0, f1, f2, f3, f4, f5, f6, f7⟩ := h8.mono (w' := wr) (fun o => hB.cell (p := ⟨b, o, none⟩) (hok b hb))
        have Hd := Lib.hid (drop_cons hlt)
        clear hcell hN hNj
        generalize t.ps[j] = p at *
        by_cases hx : x ≤ 2048
        · go_wp2_with fail
          refine (Hih.out wr ok A' c' hNj' (fun b h => by have := hok b h; omega)).mono ?_
          rintro e w1 ⟨rfl, hb1⟩
          obtain ⟨hc1, hf1⟩ := bcell hb1
          have hz1 := hb1.size
          go_wp2_with fail
          go_roundg (gk - 1)
          case measure => omega
          case rel => exact ⟨j + 1, x + manyF 2048 p, rfl, by go_num, by omega, by omega, by omega, by rw [← Hm.out, Hd.out, manyL, if_pos hx], hB.trans (hb1.mono (by omega)), by omega, (hc1 _ _ hs).trans hc7'⟩
        · have hres : min x (2049 : Int) = manyF 2048 t := by rw [manyF_eq, ← Hm.out, manyL_stop _ _ _ hx]; rfl
          have Hres := Lib.hid hres; clear hres
          go_wp2_with fail
          all_goals go_ret
          all_goals exact ⟨by rw [← Hres.out]; go_num, hB⟩
      · have hres : min x (2049 : Int) = manyF 2048 t := by rw [manyF_eq, ← Hm.out, List.drop_of_length_le (by omega), manyL]; rfl
        have Hres := Lib.hid hres; clear hres
        go_wp2_with fail
        all_goals go_ret
        all_goals exact ⟨by rw [← Hres.out]; go_num, hB⟩
set_option maxRecDepth 100000 in
set_option maxHeartbeats 1000000 in
theorem may_stops (t : T) (hl : ¬ loops t) (w : World) (ok : Nat → Prop) (A : Option Addr) (c : Nat) (hN : NodeAt w ok t A c) (hok : ∀ b, ok b → b < w.heap.size) :
    Calls Tryz.prog 59 #[nodeV t A c] w fun e w' => e = .returned (.bool (rightF t)) ∧ Below w.heap.size w w' := by
  have hlen := hN.len
  have Hl := Lib.hid hl; clear hl
  go_enter Tryz.func59, Tryz.ntmps59
  go_wp2_with fail
  all_goals (first
    | (go_ret; refine ⟨?_, ((Below.refl _ _).alloc (Nat.le_refl _) _)⟩; refine congrArg (fun b => Ending.returned (.bool b)) ?_; exact Eq.symm (by
        rw [rightF_eq]
        go_tidy
        simp only [eq4_iff, bne_iff_ne, ne_eq, beq_iff_eq, beq_eq_false_iff_ne, bne_eq_false_iff_eq, Bool.not_eq_true, Bool.not_eq_true', Bool.not_eq_false'] at *
        repeat' split
        all_goals first
          | rfl
          | (exfalso; omega)
          | (rw [Bool.eq_iff_iff, decide_eq_true_iff, beq_iff_eq]; omega)))
    | (exfalso
       refine Hl.out ?_
       unfold loops
       go_tidy
       simp only [eq4_iff, bne_iff_ne, ne_eq, beq_iff_eq, beq_eq_false_iff_ne, bne_eq_false_iff_eq, Bool.not_eq_true, Bool.not_eq_true', Bool.not_eq_false'] at *
       omega))

set_option maxRecDepth 100000 in
set_option maxHeartbeats 1000000 in
theorem may_any (t : T) : ∀ (w : World) (ok : Nat → Prop) (A : Option Addr) (c : Nat), NodeAt w ok t A c → (∀ b, ok b → b < w.heap.size) →
    Calls Tryz.prog 59 #[nodeV t A c] w fun e w' => e = .returned (.bool (rightF t)) ∧ Below w.heap.size w w' := by
  induction t using T.ind with
  | h t ih =>
    intro w ok A c hN hok
    by_cases hl : loops t
    case neg => exact may_stops t hl w ok A c hN hok
    have hlen := hN.len
    have Hloop := Lib.hid (rightF_loops hl)
    unfold loops at hl
    rcases hl with ⟨hk, hmn, hmx, hq, hn⟩ | ⟨hk, hmn, hmx, hq, hn⟩ | ⟨hk, hmn, hmn', hmx, hq, hn⟩ | ⟨hk, hmn, hmn', hmx, hq, hn⟩
    case' inr.inr.inr =>
      have h255 : t.mn ≤ 255 := by omega
      have hm1 : (t.mx != -1) = true := by rw [bne_iff_ne]; omega
    all_goals
      go_enter Tryz.func59, Tryz.ntmps59
      go_wp2_with fail
    all_goals
      have hn' := Lib.hid hn
      clear hk hmn hmx hq hn
      generalize hW : w.alloc _ = W0
      have hB0 : Below w.heap.size w W0 := by subst hW; exact ((Below.refl _ _).alloc (Nat.le_refl _) _)
      have hsz : w.heap.size < W0.heap.size := by subst hW; simp
      have hc7 : W0.cell? ⟨w.heap.size, 7, none⟩ = some (.slice A t.ps.length c) := by subst hW; simp [go_sem]; try (have := hn'.out; omega)
      clear hW
      go_loopg [5] (t.ps.length) (fun n i wr => ∃ (j : Nat), i = .int .i64 j ∧ j + n = t.ps.length ∧ rightL (t.ps.drop j) = rightL t.ps ∧ Below w.heap.size w wr ∧ w.heap.size < wr.heap.size ∧ wr.cell? ⟨w.heap.size, 7, none⟩ = some (.slice A t.ps.length c))
      case atStart => exact ⟨0, rfl, by omega, rfl, hB0, hsz, hc7⟩
      case round =>
        obtain ⟨j, rfl, hj, hm, hB, hz, hc7'⟩ := hrel
        have Hm := Lib.hid hm; clear hm
        have hs := hB.size
        clear hB0 hc7 hsz
        by_cases hlt : j < t.ps.length
        · obtain ⟨b, o, rfl, hb, hcell⟩ := hN.part (by omega)
          obtain ⟨A', c', h8, hNj⟩ := hcell j hlt
          have Hih := Lib.hid (ih t.ps[j] (List.getElem_mem _)); clear ih
          have hNj' := hNj.later hB hok
          obtain ⟨f0, f1, f2, f3, f4, f5, f6, f7⟩ := h8.mono (w' := wr) (fun o => hB.cell (p := ⟨b, o, none⟩) (hok b hb))
          have Hd := Lib.hid (drop_cons hlt)
          clear hcell hN hNj
          generalize t.ps[j] = p at *
          first
            | (have hj1 : (j : Int) < 1 := by (have := hn'.out; omega)
               go_wp2_with fail)
            | go_wp2_with fail
          refine (Hih.out _ ok A' c' hNj' (fun b h => by have := hok b h; omega)).mono ?_
          rintro e w1 ⟨rfl, hb1⟩
          have hB1 : Below w.heap.size w w1 := hB.trans (hb1.mono (by omega))
          have hz1 := hb1.size
          have hc1 := (bcell hb1).1 _ 7 hz
          cases hp : rightF p with
          | true =>
            have Hp := Lib.hid hp; clear hp
            go_wp2_with fail
            go_roundg (gk - 1)
            case measure => omega
            case rel => exact ⟨j + 1, by go_num, by omega, by rw [← Hm.out, Hd.out, rightL, Hp.out, Bool.true_and], hB1, by omega, hc1.trans hc7'⟩
          | false =>
            have hres : rightF t = false := by rw [Hloop.out, ← Hm.out, Hd.out, rightL, hp, Bool.false_and]
            have Hres := Lib.hid hres; clear hres hp
            go_wp2_with fail
            go_ret
            exact ⟨by rw [Hres.out]; rfl, hB1⟩
        · have hres : rightF t = true := by rw [Hloop.out, ← Hm.out, List.drop_of_length_le (by omega), rightL]
          have Hres := Lib.hid hres; clear hres
          first
            | (have hj1 : ¬ (j : Int) < 1 := by (have := hn'.out; omega)
               go_wp2_with fail)
            | go_wp2_with fail
          go_ret
          exact ⟨by rw [Hres.out]; rfl, hB⟩

set_option maxRecDepth 100000 in
set_option maxHeartbeats 400000 in
theorem r10check_any (t : T) (w : World) (ok : Nat → Prop) (A : Option Addr) (c : Nat) (hN : NodeAt w ok t A c) (hok : ∀ b, ok b → b < w.heap.size) :
    Calls Tryz.prog 43 #[nodeV t A c] w fun e w' => e = .returned (.int .i64 (checkF t)) ∧ Below w.heap.size w w' := by
  have hlen := hN.len
  go_enter Tryz.func43, Tryz.ntmps43
  go_wp2_with fail
  have hB0 : Below w.heap.size w (w.alloc (.cells #[.int .i64 t.k, .int .u64 t.s0, .int .u64 t.s1, .int .u64 t.s2, .int .u64 t.s3, .int .i64 t.mn, .int .i64 t.mx, .slice A t.ps.length c] 39)) := (Below.refl _ _).alloc (Nat.le_refl _) _
  refine (rcount_any t _ ok A c (hN.later hB0 hok) (fun b h => by have := hok b h; simp; omega)).mono ?_
  rw [count_is]
  rintro e w1 ⟨rfl, hb1⟩
  have hB1 : Below w.heap.size w w1 := hB0.trans (hb1.mono (by simp))
  have hN1 := hN.later hB1 hok
  have hs1 := hB1.size
  obtain ⟨hc1, hf1⟩ := bcell hb1
  have g0 := hc1 w.heap.size 0 (by simp)
  have g1 := hc1 w.heap.size 1 (by simp)
  have g2 := hc1 w.heap.size 2 (by simp)
  have g3 := hc1 w.heap.size 3 (by simp)
  have g4 := hc1 w.heap.size 4 (by simp)
  have g5 := hc1 w.heap.size 5 (by simp)
  have g6 := hc1 w.heap.size 6 (by simp)
  have g7 := hc1 w.heap.size 7 (by simp)
  simp only [World.cell?_alloc_new, List.getElem?_toArray] at g0 g1 g2 g3 g4 g5 g6 g7
  clear hc1 hf1
  by_cases h : 2048 < sizeF t 2048
  · have hres : checkF t = 3 := by rw [checkF, if_pos h]
    have Hres := Lib.hid hres; clear hres
    go_wp2_with fail
    go_ret
    exact ⟨by rw [Hres.out]; rfl, hB1⟩
  · go_wp2_with fail
    refine (may_any t _ ok A c hN1 (fun b h => by have := hok b h; omega)).mono ?_
    rintro e w2 ⟨rfl, hb2⟩
    have hB2 : Below w.heap.size w w2 := hB1.trans (hb2.mono (by omega))
    cases hr : rightF t with
    | true =>
      have hres : checkF t = 0 := by rw [checkF, if_neg (by omega), if_pos hr]
      have Hres := Lib.hid hres; clear hres
      go_wp2_with fail
      go_ret
      exact ⟨by rw [Hres.out]; rfl, hB2⟩
    | false =>
      have hres : checkF t = 107 := by rw [checkF, if_neg (by omega), hr]; rfl
      have Hres := Lib.hid hres; clear hres
      go_wp2_with fail
      go_ret
      exact ⟨by rw [Hres.out]; rfl, hB2⟩
end Go.Proofs.YteekafkpeimhoaaGreat

