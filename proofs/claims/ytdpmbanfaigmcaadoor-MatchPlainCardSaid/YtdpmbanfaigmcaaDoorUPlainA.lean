/- Merged texts, part of the proof Plain: Layer, Mach, Same, Lent, LentN, KeptN, CheckN, MatL, MatH, Run, RunA, RunE, RunH, LayS, Lay, LentT, LentW, Kept, Spoil, Rep, RefRep, Idx, Back, Row. -/
import Derived.Test.YtdpmbanfaigmcaaDoorUBackA
import Derived.Test.YtdpmbanfaigmcaaDoorUBackB
import Derived.Test.YtdpmbanfaigmcaaDoorUBackC
import Derived.WalkKit
import Derived.Deep.LoopGhost
import Derived.Lib.Hide
import Derived.Maps.AppendAt
import Derived.Deep.RegionLaw
import Derived.Deep.QuietTactic
import Derived.BigQuiet
import Derived.Laws.OwnMore
import Derived.BigRegion
import Derived.Deep.DeepCutAuto
import Derived.Lib.SliceRun
import Derived.BigFrame
import Derived.Laws.IdiomCopy
import Derived.Lib.SlBuf
import Derived.Deep.Upon
import Derived.StillTailTactics
import Derived.RangeFuncNested
import Derived.RangeFuncBound
import Derived.RangeFuncCalls
import Derived.RangeFuncLeaves
import Derived.Shelf.Abstract
import Derived.Shelf.RegionOpen
import Derived.OwnWalkIn
import Derived.TacticsInMore
import Derived.LoopNIn
import Derived.LoopIn
import Derived.BigFrameIn
/- States of machines in memory; a layer; append as one step. -/
set_option linter.unusedVariables false
set_option linter.unusedSimpArgs false
namespace Go.Proofs.YtdpmbanfaigmcaaDoor
open Go.RowKit

/-- append, as one step of a region that draws its order; the new slice is not nil. -/
theorem step_append_at {P : Program} {ops : Array Oper} {o : Oper} {a : Act} {Q : Exit → Act → World → Prop} {K : Act → World → Prop} {E : Prop} {W : World} (base : Nat)
    (hgd : o.guard = none) (s x : Operand) (t e : TypeId) (z : Value) (size bytes : Nat)
    (ho : o.op = .call { callee := .builtin .append, args := #[s, x], argTypes := #[t, t] })
    (ht : P.underlying t = some (.slice e)) (hinfo : (P.info? e).map (fun i => (i.zero, i.size, i.bytes)) = some (some z, size, bytes)) (hz : z.cells.size = size) (hs0 : 0 < size) (hb0 : 0 < bytes)
    (v : Value) (n m : Nat) (xs ys : List Value) (ad : Addr) (c : Nat) (hs : a.eval s = v) (hx : a.eval x = .slice (some ad) m c) (hm : 0 < m) (hys : ys.length = m * size)
    (hnews : ∀ j u, ys[j]? = some u → W.cell? (ad.add j) = some u) (h1 : ∀ u ∈ ys, u.oneCell' = true)
    (HO : W.ownsRow base e size v n xs) (hbase : base ≤ W.heap.size) (hl : (n + m) * bytes ≤ 140737488355328)
    (h : ∀ g cap w1, w1.ownsRow base e size (.slice (some ⟨g, 0, none⟩) (n + m) cap) (n + m) (xs ++ ys) → W.grownBy w1 v.ownBlock → (v.ownBlock = some g ∨ g = W.heap.size) →
      K (a.put o.dst (.slice (some ⟨g, 0, none⟩) (n + m) cap)) w1) :
    if Region.wanted o (yielded ops a.tmps) = true then Oper.wp P o a W K Q else E := by
  obtain ⟨i0, hi, hzz⟩ := Option.map_eq_some_iff.1 hinfo
  simp only [Prod.mk.injEq] at hzz
  obtain ⟨hz0, hz1, hz2⟩ := hzz
  have hlen : n + m ≤ 140737488355328 := Nat.le_trans (Nat.le_mul_of_pos_right _ hb0) hl
  rw [if_pos (by simp [Region.wanted, hgd])]
  obtain ⟨v1, w1, hr, hown, hg, _, hat⟩ := run_append_own_at (P := P) W base t o.type e i0 z size bytes ht hi hz0 hz1 hz2 hz hs0 v n xs HO ad m c ys hys hnews h1 (by simp only [maxLen]; omega) hl hbase
  unfold Oper.wp execOp
  simp only [ho, resolve, invoke, builtin, Sem.run_bind, Sem.run_pure, Result.andThen_ok, List.map_toArray, List.map_cons, List.map_nil, hs, hx, hr]
  rcases hown.2 with ⟨_, h0⟩ | ⟨g, cap, cur, rfl, _⟩
  · omega
  · refine h g cap w1 hown hg ?_
    rcases hat with hat | hat
    · exact .inl hat.symm
    · exact .inr (by simpa [Value.ownBlock] using hat)

/-- The same, in a region that keeps its order; behind 'at_builtin'. -/
theorem wpList_append_at {P : Program} {ops : Array Oper} {rest : List Oper} {o : Oper} {a : Act} {Q : Exit → Act → World → Prop} {W : World} (base : Nat)
    (hgd : o.guard = none) (s x : Operand) (t e : TypeId) (z : Value) (size bytes : Nat)
    (ho : o.op = .call { callee := .builtin .append, args := #[s, x], argTypes := #[t, t] })
    (ht : P.underlying t = some (.slice e)) (hinfo : (P.info? e).map (fun i => (i.zero, i.size, i.bytes)) = some (some z, size, bytes)) (hz : z.cells.size = size) (hs0 : 0 < size) (hb0 : 0 < bytes)
    (v : Value) (n m : Nat) (xs ys : List Value) (ad : Addr) (c : Nat) (hs : a.eval s = v) (hx : a.eval x = .slice (some ad) m c) (hm : 0 < m) (hys : ys.length = m * size)
    (hnews : ∀ j u, ys[j]? = some u → W.cell? (ad.add j) = some u) (h1 : ∀ u ∈ ys, u.oneCell' = true)
    (HO : W.ownsRow base e size v n xs) (hbase : base ≤ W.heap.size) (hl : (n + m) * bytes ≤ 140737488355328)
    (h : ∀ g cap w1, w1.ownsRow base e size (.slice (some ⟨g, 0, none⟩) (n + m) cap) (n + m) (xs ++ ys) → W.grownBy w1 v.ownBlock → (v.ownBlock = some g ∨ g = W.heap.size) →
      wpList P ops Q rest (a.put o.dst (.slice (some ⟨g, 0, none⟩) (n + m) cap)) w1) :
    wpList P ops Q (o :: rest) a W := by
  refine wpList_plain hgd fun K hK => ?_
  have := step_append_at (ops := ops) (o := o) (a := a) (Q := Q) (K := K) (E := True) base hgd s x t e z size bytes ho ht hinfo hz hs0 hb0 v n m xs ys ad c hs hx hm hys hnews h1 HO hbase hl (fun g cap w1 h1 h2 h3 => hK _ _ (h g cap w1 h1 h2 h3))
  rwa [if_pos (by simp [Region.wanted, hgd])] at this

/-- A state of a machine, as data. -/
structure St where
  k : Int
  s0 : Int
  s1 : Int
  s2 : Int
  s3 : Int
  nx : Int
  ot : Int
deriving Inhabited
abbrev St.V (s : St) : Value := .agg #[.int .i64 s.k, .int .u64 s.s0, .int .u64 s.s1, .int .u64 s.s2, .int .u64 s.s3, .int .i64 s.nx, .int .i64 s.ot]
def St.cells (s : St) : List Value := [.int .i64 s.k, .int .u64 s.s0, .int .u64 s.s1, .int .u64 s.s2, .int .u64 s.s3, .int .i64 s.nx, .int .i64 s.ot]
def stCells (l : List St) : List Value := l.flatMap St.cells
theorem stCells_length (l : List St) : (stCells l).length = l.length * 7 := by
  induction l with
  | nil => rfl
  | cons s l ih =>
    show (s.cells ++ stCells l).length = _
    rw [List.length_append, ih, List.length_cons]
    simp only [St.cells, List.length_cons, List.length_nil]
    omega
theorem stCells_snoc (l : List St) (s : St) : stCells (l ++ [s]) = stCells l ++ s.cells := by simp [stCells]

/-- What a layer's calls leave alone: all but the layer's own cell (block L) and its row's block. -/
structure Lays (L : Nat) (r : Option Nat) (w w' : World) : Prop where
  os : w'.os = w.os
  tape : w'.tape = w.tape
  output : w'.output = w.output
  size : w.heap.size ≤ w'.heap.size
  block : ∀ k, k < w.heap.size → k ≠ L → some k ≠ r → w'.heap[k]? = w.heap[k]?
/-- The row's block is the old one, or a new one. -/
def Moves (w : World) (v v' : Value) : Prop := v'.ownBlock = v.ownBlock ∨ ∃ b, v'.ownBlock = some b ∧ w.heap.size ≤ b
/-- A layer behind a pointer: block L holds the slice v; v owns the states l. -/
structure Layer (w : World) (L base : Nat) (v : Value) (l : List St) : Prop where
  cell : w.cell? ⟨L, 0, none⟩ = some v
  froz : w.frozen? ⟨L, 0, none⟩ = false
  own : w.ownsRow base 90 7 v l.length (stCells l)
  ne : v.ownBlock ≠ some L
  base : base ≤ w.heap.size
theorem Layer.lt {w : World} {L base : Nat} {v : Value} {l : List St} (h : Layer w L base v l) : L < w.heap.size := World.block_lt_of_cell? _ _ h.cell
theorem Lays.refl (L : Nat) (r : Option Nat) (w : World) : Lays L r w w := ⟨rfl, rfl, rfl, Nat.le_refl _, fun _ _ _ _ => rfl⟩
theorem Lays.of_below {L : Nat} {r : Option Nat} {w w' : World} (h : Below w.heap.size w w') : Lays L r w w' := ⟨h.os, h.tape, h.output, h.size, fun k hk _ _ => h.block k hk⟩
theorem Lays.trans {L : Nat} {v v1 : Value} {a b c : World} (h : Lays L v.ownBlock a b) (hm : Moves a v v1) (k : Lays L v1.ownBlock b c) : Lays L v.ownBlock a c :=
  ⟨k.os.trans h.os, k.tape.trans h.tape, k.output.trans h.output, Nat.le_trans h.size k.size, fun i hi h1 h2 => (k.block i (Nat.lt_of_lt_of_le hi h.size) h1 (fun e => by
    rcases hm with hm | ⟨b, hb, hle⟩
    · exact h2 (e.trans hm)
    · rw [hb] at e; injection e with e; omega)).trans (h.block i hi h1 h2)⟩
theorem Moves.refl (w : World) (v : Value) : Moves w v v := .inl rfl
theorem Moves.trans {a b : World} {v v1 v2 : Value} (h : Moves a v v1) (hs : a.heap.size ≤ b.heap.size) (k : Moves b v1 v2) : Moves a v v2 := by
  rcases k with k | ⟨x, hx, hle⟩
  · rcases h with h | ⟨y, hy, hle⟩
    · exact .inl (k.trans h)
    · exact .inr ⟨y, k.trans hy, hle⟩
  · exact .inr ⟨x, hx, by omega⟩
theorem Lays.cell {L : Nat} {r : Option Nat} {w w' : World} (h : Lays L r w w') {b o : Nat} (h0 : b < w.heap.size) (h1 : b ≠ L) (h2 : some b ≠ r) : w'.cell? ⟨b, o, none⟩ = w.cell? ⟨b, o, none⟩ := World.cell?_of_block (w := w) (h.block b h0 h1 h2)
theorem Lays.frozen {L : Nat} {r : Option Nat} {w w' : World} (h : Lays L r w w') {b o : Nat} (h0 : b < w.heap.size) (h1 : b ≠ L) (h2 : some b ≠ r) : w'.frozen? ⟨b, o, none⟩ = w.frozen? ⟨b, o, none⟩ := World.frozen?_of_block (w := w) (h.block b h0 h1 h2)
/-- What leaves all old blocks alone leaves a layer. -/
theorem Layer.later {w w' : World} {L base : Nat} {v : Value} {l : List St} (h : Layer w L base v l) (hb : Below w.heap.size w w') : Layer w' L base v l :=
  ⟨(hb.cell (p := ⟨L, 0, none⟩) h.lt).trans h.cell, (hb.frozen (p := ⟨L, 0, none⟩) h.lt).trans h.froz, h.own.kept (row := none) ⟨hb.os, hb.tape, hb.output, hb.size, fun k hk _ => hb.block k hk⟩ (by cases hv : v.ownBlock <;> simp), h.ne, Nat.le_trans h.base hb.size⟩
theorem St.cells_one (s : St) : ∀ u ∈ s.cells, u.oneCell' = true := by
  intro u hu
  simp only [St.cells, List.mem_cons, List.not_mem_nil, or_false] at hu
  rcases hu with rfl | rfl | rfl | rfl | rfl | rfl | rfl <;> rfl

theorem Tryd.infoState : (Tryd.prog.info? 90).map (fun i => (i.zero, i.size, i.bytes)) = some (some (.agg #[.int .i64 0, .int .u64 0, .int .u64 0, .int .u64 0, .int .u64 0, .int .i64 0, .int .i64 0]), 7, 56) := by kernel_rfl

set_option maxRecDepth 100000 in
set_option maxHeartbeats 1000000 in
theorem state_any (w : World) (L base : Nat) (v : Value) (l : List St) (s : St) (h : Layer w L base v l) (hl : l.length ≤ 1000000) :
    Calls Tryd.prog 63 #[.pointer (some ⟨L, 0, none⟩), s.V] w fun e w' => e = .returned (.int .i64 l.length) ∧ ∃ v', Layer w' L base v' (l ++ [s]) ∧ Moves w v v' ∧ Lays L v.ownBlock w w' := by
  have hL := h.lt
  have hc := h.cell
  have hf := h.froz
  obtain ⟨A, c, rfl⟩ : ∃ A c, v = .slice A l.length c := by
    rcases h.own.2 with ⟨rfl, h0⟩ | ⟨g, cap, cur, rfl, _⟩
    · exact ⟨none, 0, by rw [h0]⟩
    · exact ⟨_, cap, rfl⟩
  go_enter Tryd.func63, Tryd.ntmps63
  go_wp2_with fail
  have hown : ((w.alloc (.cells s.cells.toArray 90)).alloc (.cells s.cells.toArray 90)).drew.ownsRow base 90 7 (.slice A l.length c) l.length (stCells l) :=
    ((h.own.alloc _).alloc _).kept (row := none) ⟨rfl, rfl, rfl, Nat.le_refl _, fun _ _ _ => rfl⟩ (by cases A <;> simp [Value.ownBlock])
  have hnews : ∀ j u, s.cells[j]? = some u → ((w.alloc (.cells s.cells.toArray 90)).alloc (.cells s.cells.toArray 90)).drew.cell? ((⟨w.heap.size + 1, 0, none⟩ : Addr).add j) = some u := by
    intro j u hu
    have e : (⟨w.heap.size + 1, 0, none⟩ : Addr).add j = ⟨w.heap.size + 1, j, none⟩ := by unfold Addr.add; split <;> simp_all
    rw [e, World.cell?_drew]
    rw [show w.heap.size + 1 = (w.alloc (.cells s.cells.toArray 90)).heap.size by simp, World.cell?_alloc_new]
    simpa using hu
  have hb0 : base ≤ ((w.alloc (.cells s.cells.toArray 90)).alloc (.cells s.cells.toArray 90)).drew.heap.size := by have := h.base; simp; omega
  have hLA : (Value.slice A l.length c).ownBlock ≠ some L := h.ne
  have hcL : ((w.alloc (.cells s.cells.toArray 90)).alloc (.cells s.cells.toArray 90)).drew.cell? ⟨L, 0, none⟩ = some (.slice A l.length c) := by
    rw [World.cell?_drew, World.cell?_alloc_lt _ _ _ (by simp; omega), World.cell?_alloc_lt _ _ _ hL, hc]
  have hfL : ((w.alloc (.cells s.cells.toArray 90)).alloc (.cells s.cells.toArray 90)).drew.frozen? ⟨L, 0, none⟩ = false := by
    rw [World.frozen?_drew, World.frozen?_alloc_old _ _ _ (by simp; omega), World.frozen?_alloc_old _ _ _ (by simp; omega), hf]
  have Hown := Lib.hid hown; have Hnews := Lib.hid hnews; have HcL := Lib.hid hcL; have HfL := Lib.hid hfL; have Hb0 := Lib.hid hb0; have H := Lib.hid h; have HLA := Lib.hid hLA
  clear hown hnews hcL hfL hb0 h hLA
  go_region_law (refine step_append_at base rfl (.tmp 9) (.tmp 11) 55 90 _ 7 56 rfl Tryd.underlying55 Tryd.infoState rfl (by omega) (by omega) (.slice A l.length c) l.length 1 (stCells l) s.cells ⟨w.heap.size + 1, 0, none⟩ 1 rfl rfl (by omega) rfl Hnews.out s.cells_one Hown.out Hb0.out (by omega) (fun g cap w1 hown1 hg1 hat1 => ?_); have k0 : w1.cell? ⟨L, 0, none⟩ = some (.slice A l.length c) := (hg1.cell HcL.out (fun e => HLA.out e.symm)); have e0 : w1.frozen? ⟨L, 0, none⟩ = false := (World.frozen?_of_block (w := ((w.alloc (.cells s.cells.toArray 90)).alloc (.cells s.cells.toArray 90)).drew) (a := ⟨L, 0, none⟩) (hg1.block L (by simp; omega) (fun e => HLA.out e.symm))).trans HfL.out)
  all_goals
    have k1 := World.cell?_setCell_same w1 _ (.slice (some ⟨g, 0, none⟩) (l.length + 1) cap) k0
    have hlt : L < w1.heap.size := World.block_lt_of_cell? _ _ k0
    go_wp2_with fail
    go_ret
    have hg0 : (Value.slice A l.length c).ownBlock = some g ∨ w.heap.size ≤ g := by
      rcases hat1 with e | e
      · exact .inl e
      · exact .inr (by rw [e]; simp; omega)
    have hgL : g ≠ L := by
      intro e
      rcases hg0 with h0 | h0
      · exact HLA.out (by rw [h0, e])
      · omega
    have hz := hg1.size
    simp only [World.size_drew, World.size_alloc] at hz
    refine ⟨by go_num, _, ⟨k1, ?_, ?_, ?_, ?_⟩, ?_, ?_⟩
    · rw [World.frozen?_setCell]; exact e0
    · have := hown1.kept (w' := w1.setCell ⟨L, 0, none⟩ (.slice (some ⟨g, 0, none⟩) (l.length + 1) cap)) (row := some L) ⟨rfl, rfl, rfl, by simp, fun k hk hne => Below.heap_setCell _ _ _ _ (fun e => hne (by rw [e]))⟩ (.inr (by simp [Value.ownBlock]; exact hgL))
      rw [stCells_snoc, List.length_append]
      exact this
    · simp only [Value.ownBlock]; intro e; injection e with e; exact hgL e
    · have := H.out.base; simp only [World.size_setCell]; omega
    · rcases hg0 with h0 | h0
      · exact .inl (by rw [h0]; rfl)
      · exact .inr ⟨g, rfl, h0⟩
    · refine ⟨hg1.os, hg1.tape, hg1.output, by simp only [World.size_setCell]; omega, fun k hk h1 h2 => ?_⟩
      rw [Below.heap_setCell _ _ _ _ h1, hg1.block k (by simp; omega) h2]
      show ((w.heap.push _).push _)[k]? = _
      rw [Array.getElem?_push, Array.getElem?_push]
      simp only [Array.size_push]
      rw [if_neg (by omega), if_neg (by omega)]
end Go.Proofs.YtdpmbanfaigmcaaDoor

/- Machines in memory; two machines compared. -/
set_option linter.unusedVariables false
set_option linter.unusedSimpArgs false
namespace Go.Proofs.YtdpmbanfaigmcaaDoor
open Go.RowKit

deriving instance DecidableEq for St
def eqSt (a b : St) : Bool := a.k == b.k && eq4 a.s0 a.s1 a.s2 a.s3 b.s0 b.s1 b.s2 b.s3 && a.nx == b.nx && a.ot == b.ot
theorem eqSt_iff {a b : St} : eqSt a b = true ↔ a = b := by
  cases a; cases b
  simp [eqSt, eq4, and_assoc]
theorem eqSt_false {a b : St} (h : a ≠ b) : eqSt a b = false := by rw [Bool.eq_false_iff]; exact fun e => h (eqSt_iff.1 e)

theorem run_eqSt (w : World) (d : Nat) (a0 a1 a2 a3 a4 a5 a6 b0 b1 b2 b3 b4 b5 b6 : Int) :
    (Op.equalIn (d + 3) 90 (.agg #[.int .i64 a0, .int .u64 a1, .int .u64 a2, .int .u64 a3, .int .u64 a4, .int .i64 a5, .int .i64 a6]) (.agg #[.int .i64 b0, .int .u64 b1, .int .u64 b2, .int .u64 b3, .int .u64 b4, .int .i64 b5, .int .i64 b6])).run Tryd.prog w = .ok (a0 == b0 && eq4 a1 a2 a3 a4 b1 b2 b3 b4 && a5 == b5 && a6 == b6) w := by
  rw [Op.equalIn]
  simp only [Sem.run_bind, run_underlying Tryd.underlying90, Result.andThen_ok]
  simp [go_sem, List.range']
  by_cases h0 : a0 = b0 <;> cases h1 : eq4 a1 a2 a3 a4 b1 b2 b3 b4 <;> by_cases h2 : a5 = b5 <;> by_cases h3 : a6 = b6 <;> simp [h0, h2, h3]
@[go_sem high] theorem run_neqSt (w : World) (a0 a1 a2 a3 a4 a5 a6 b0 b1 b2 b3 b4 b5 b6 : Int) :
    (binOp .neq 90 (.agg #[.int .i64 a0, .int .u64 a1, .int .u64 a2, .int .u64 a3, .int .u64 a4, .int .i64 a5, .int .i64 a6]) (.agg #[.int .i64 b0, .int .u64 b1, .int .u64 b2, .int .u64 b3, .int .u64 b4, .int .i64 b5, .int .i64 b6])).run Tryd.prog w = .ok (.bool (!(eqSt ⟨a0, a1, a2, a3, a4, a5, a6⟩ ⟨b0, b1, b2, b3, b4, b5, b6⟩))) w := by
  rw [run_neq_struct, run_eqSt _ 9997]; rfl
/-- A state's seven cells from a place on. -/
structure St7 (w : World) (b o : Nat) (s : St) : Prop where
  f0 : w.cell? ⟨b, o, none⟩ = some (.int .i64 s.k)
  f1 : w.cell? ⟨b, o + 1, none⟩ = some (.int .u64 s.s0)
  f2 : w.cell? ⟨b, o + 2, none⟩ = some (.int .u64 s.s1)
  f3 : w.cell? ⟨b, o + 3, none⟩ = some (.int .u64 s.s2)
  f4 : w.cell? ⟨b, o + 4, none⟩ = some (.int .u64 s.s3)
  f5 : w.cell? ⟨b, o + 5, none⟩ = some (.int .i64 s.nx)
  f6 : w.cell? ⟨b, o + 6, none⟩ = some (.int .i64 s.ot)
theorem St7.mono {w w' : World} {b o : Nat} {s : St} (h : St7 w b o s) (hk : ∀ o, w'.cell? ⟨b, o, none⟩ = w.cell? ⟨b, o, none⟩) : St7 w' b o s :=
  ⟨(hk _).trans h.f0, (hk _).trans h.f1, (hk _).trans h.f2, (hk _).trans h.f3, (hk _).trans h.f4, (hk _).trans h.f5, (hk _).trans h.f6⟩
theorem addr_add' (b o j : Nat) : (⟨b, o, none⟩ : Addr).add j = ⟨b, o + j, none⟩ := by unfold Addr.add; split <;> simp_all
theorem St7.of {w : World} {b o : Nat} {s : St} (h : ∀ j, j < 7 → w.cell? ⟨b, o + j, none⟩ = s.cells[j]?) : St7 w b o s :=
  ⟨h 0 (by omega), h 1 (by omega), h 2 (by omega), h 3 (by omega), h 4 (by omega), h 5 (by omega), h 6 (by omega)⟩
/-- A list of states reads at A; each block that is read satisfies ok. -/
structure StsAt (w : World) (ok : Nat → Prop) (l : List St) (A : Option Addr) (c : Nat) : Prop where
  cap : l.length ≤ c
  len : l.length ≤ 17592186044416
  nil : A = none → c = 0
  at_ : 0 < l.length → ∃ b o, A = some ⟨b, o, none⟩ ∧ ok b ∧ ∀ i (hi : i < l.length), St7 w b (o + i * 7) l[i]
theorem StsAt.mono {w w' : World} {ok ok' : Nat → Prop} {l : List St} {A : Option Addr} {c : Nat} (h : StsAt w ok l A c) (hk : ∀ b, ok b → ok' b ∧ ∀ o, w'.cell? ⟨b, o, none⟩ = w.cell? ⟨b, o, none⟩) : StsAt w' ok' l A c :=
  ⟨h.cap, h.len, h.nil, fun hne => by
    obtain ⟨b, o, e, hb, hc⟩ := h.at_ hne
    exact ⟨b, o, e, (hk b hb).1, fun i hi => (hc i hi).mono (hk b hb).2⟩⟩
theorem StsAt.later {w w' : World} {ok : Nat → Prop} {B : Nat} {l : List St} {A : Option Addr} {c : Nat} (h : StsAt w ok l A c) (hb : Below B w w') (hok : ∀ b, ok b → b < B) : StsAt w' ok l A c :=
  h.mono fun b hk => ⟨hk, fun _ => hb.cell (p := ⟨b, _, none⟩) (hok b hk)⟩
abbrev nfaV (l : List St) (s : Int) (A : Option Addr) (c : Nat) : Value := .agg #[.slice A l.length c, .int .i64 s]

end Go.Proofs.YtdpmbanfaigmcaaDoor

/- SameNfa, KeptNfa, LentNfa: walked. -/
set_option linter.unusedVariables false
set_option linter.unusedSimpArgs false
namespace Go.Proofs.YtdpmbanfaigmcaaDoor
open Go.RowKit

theorem belowN {B : Nat} {a w : World} (h : Below B a w) (n : Nat) : Below B a (w.drewN n) := ⟨h.os, h.tape, h.output, h.size, h.block⟩
/-- Are two machines the same? -/
def sameM (a : List St) (sa : Int) (b : List St) (sb : Int) : Bool := decide (sa = sb ∧ a = b)
end Go.Proofs.YtdpmbanfaigmcaaDoor

/- LentNfa, KeptNfa: walked. -/
set_option linter.unusedVariables false
set_option linter.unusedSimpArgs false
namespace Go.Proofs.YtdpmbanfaigmcaaDoor
open Go.RowKit

/-- append of a slice that may be nil or empty. -/
theorem wpList_append_from {P : Program} {ops : Array Oper} {rest : List Oper} {o : Oper} {a : Act} {Q : Exit → Act → World → Prop} {W : World} (base : Nat)
    (hgd : o.guard = none) (s x : Operand) (t e : TypeId) (z : Value) (size bytes : Nat)
    (ho : o.op = .call { callee := .builtin .append, args := #[s, x], argTypes := #[t, t] })
    (ht : P.underlying t = some (.slice e)) (hinfo : (P.info? e).map (fun i => (i.zero, i.size, i.bytes)) = some (some z, size, bytes)) (hz : z.cells.size = size) (hs0 : 0 < size) (hb0 : 0 < bytes)
    (v : Value) (n m : Nat) (xs ys : List Value) (A : Option Addr) (c : Nat) (hs : a.eval s = v) (hx : a.eval x = .slice A m c) (hA : A = none → m = 0 ∧ c = 0) (hys : ys.length = m * size)
    (hnews : ∀ ad, A = some ad → ∀ j u, ys[j]? = some u → W.cell? (ad.add j) = some u) (h1 : ∀ u ∈ ys, u.oneCell' = true)
    (HO : W.ownsRow base e size v n xs) (hbase : base ≤ W.heap.size) (hl : (n + m) * bytes ≤ 140737488355328)
    (h : ∀ A' c' w1, w1.ownsRow base e size (.slice A' (n + m) c') (n + m) (xs ++ ys) → W.grownBy w1 v.ownBlock → ((Value.slice A' (n + m) c').ownBlock = v.ownBlock ∨ (Value.slice A' (n + m) c').ownBlock = some W.heap.size) →
      wpList P ops Q rest (a.put o.dst (.slice A' (n + m) c')) w1) :
    wpList P ops Q (o :: rest) a W := by
  refine wpList_plain hgd fun K hK => ?_
  obtain ⟨i0, hi, hzz⟩ := Option.map_eq_some_iff.1 hinfo
  simp only [Prod.mk.injEq] at hzz
  obtain ⟨hz0, hz1, hz2⟩ := hzz
  have hlen : n + m ≤ 140737488355328 := Nat.le_trans (Nat.le_mul_of_pos_right _ hb0) hl
  unfold Oper.wp execOp
  cases A with
  | none =>
    obtain ⟨rfl, rfl⟩ := hA rfl
    have hy : ys = [] := by simpa using hys
    subst hy
    have hr := run_append_owned_none (P := P) (w := W) base t o.type e i0 size ht hi v n xs HO
    simp only [ho, resolve, invoke, builtin, Sem.run_bind, Sem.run_pure, Result.andThen_ok, List.map_toArray, List.map_cons, List.map_nil, hs, hx, hr]
    have hv : ∃ A' c', v = .slice A' (n + 0) c' := by
      rcases HO.2 with ⟨rfl, rfl⟩ | ⟨g, cap, cur, rfl, _⟩
      · exact ⟨_, _, rfl⟩
      · exact ⟨_, _, rfl⟩
    obtain ⟨A', c', rfl⟩ := hv
    exact hK _ _ (h A' c' W (by simpa using HO) ⟨rfl, rfl, rfl, Nat.le_refl _, fun _ _ _ => rfl⟩ (.inl rfl))
  | some ad =>
    obtain ⟨v1, w1, hr, hown, hg, _, hat⟩ := run_append_own_at (P := P) W base t o.type e i0 z size bytes ht hi hz0 hz1 hz2 hz hs0 v n xs HO ad m c ys hys (hnews ad rfl) h1 (by simp only [maxLen]; omega) hl hbase
    simp only [ho, resolve, invoke, builtin, Sem.run_bind, Sem.run_pure, Result.andThen_ok, List.map_toArray, List.map_cons, List.map_nil, hs, hx, hr]
    have hv : ∃ A' c', v1 = .slice A' (n + m) c' := by
      rcases hown.2 with ⟨rfl, h0⟩ | ⟨g, cap, cur, rfl, _⟩
      · exact ⟨_, _, by rw [h0]⟩
      · exact ⟨_, _, rfl⟩
    obtain ⟨A', c', rfl⟩ := hv
    exact hK _ _ (h A' c' w1 hown hg hat)

theorem addr_add (b o j : Nat) : (⟨b, o, none⟩ : Addr).add j = ⟨b, o + j, none⟩ := by unfold Addr.add; split <;> simp_all
theorem stCells_one (l : List St) : ∀ u ∈ stCells l, u.oneCell' = true := by
  intro u hu
  obtain ⟨s, hs, hu⟩ := List.mem_flatMap.1 hu
  exact s.cells_one u hu
theorem stCells_get : ∀ (l : List St) (i j : Nat) (hi : i < l.length), j < 7 → (stCells l)[i * 7 + j]? = l[i].cells[j]?
  | s :: l, 0, j, hi, hj => by
    show (s.cells ++ stCells l)[0 * 7 + j]? = _
    rw [Nat.zero_mul, Nat.zero_add, List.getElem?_append_left (by simp [St.cells]; omega)]
    rfl
  | s :: l, i + 1, j, hi, hj => by
    show (s.cells ++ stCells l)[(i + 1) * 7 + j]? = _
    rw [List.getElem?_append_right (by simp [St.cells]; omega)]
    simp only [St.cells, List.length_cons, List.length_nil]
    rw [show (i + 1) * 7 + j - (0 + 1 + 1 + 1 + 1 + 1 + 1 + 1) = i * 7 + j by omega, stCells_get l i j (by simpa using hi) hj]
    rfl
/-- The cells behind a slice of states, one by one. -/
theorem St7.cells {w : World} {b o : Nat} {s : St} (h : St7 w b o s) (j : Nat) (hj : j < 7) : w.cell? ⟨b, o + j, none⟩ = s.cells[j]? := by
  have : j = 0 ∨ j = 1 ∨ j = 2 ∨ j = 3 ∨ j = 4 ∨ j = 5 ∨ j = 6 := by omega
  rcases this with rfl | rfl | rfl | rfl | rfl | rfl | rfl
  · exact h.f0
  · exact h.f1
  · exact h.f2
  · exact h.f3
  · exact h.f4
  · exact h.f5
  · exact h.f6
theorem StsAt.cells {w : World} {ok : Nat → Prop} {l : List St} {b o c : Nat} (h : StsAt w ok l (some ⟨b, o, none⟩) c) : ∀ j u, (stCells l)[j]? = some u → w.cell? ⟨b, o + j, none⟩ = some u := by
  intro j u hu
  have hj : j < l.length * 7 := by
    rw [← stCells_length]; exact (List.getElem?_eq_some_iff.1 hu).1
  obtain ⟨b', o', e, _, hc⟩ := h.at_ (by omega)
  simp only [Option.some.injEq, Addr.mk.injEq, and_true] at e
  obtain ⟨rfl, rfl⟩ := e
  have hi : j / 7 < l.length := by omega
  have := (hc (j / 7) hi).cells (j % 7) (Nat.mod_lt _ (by omega))
  rw [show o + j = o + j / 7 * 7 + j % 7 by omega, this, ← stCells_get l _ _ hi (Nat.mod_lt _ (by omega)), show j / 7 * 7 + j % 7 = j by omega, hu]
/-- An owned row of states reads. -/
theorem stsAt_own {w : World} {base : Nat} {l : List St} {A : Option Addr} {c : Nat} (h : w.ownsRow base 90 7 (.slice A l.length c) l.length (stCells l)) (hl : l.length ≤ 17592186044416) :
    StsAt w (fun b => base ≤ b ∧ b < w.heap.size) l A c := by
  have h0 := h
  rcases h.2 with ⟨e, h1⟩ | ⟨g, cap, cur, e, hb, hg, hn, _⟩
  · simp only [Value.slice.injEq] at e
    obtain ⟨rfl, _, rfl⟩ := e
    exact ⟨by omega, hl, fun _ => rfl, fun hh => by omega⟩
  · simp only [Value.slice.injEq] at e
    obtain ⟨rfl, _, rfl⟩ := e
    have hlt : g < w.heap.size := by
      rcases Nat.lt_or_ge g w.heap.size with h | h
      · exact h
      · rw [Array.getElem?_eq_none h] at hg; simp at hg
    refine ⟨hn, hl, fun e => by simp at e, fun _ => ⟨g, 0, rfl, ⟨hb, hlt⟩, fun i hi => .of fun j hj => ?_⟩⟩
    rw [← stCells_get l i j hi hj, Nat.zero_add]
    exact h0.cellAt _ (by omega)
theorem StsAt.take {w : World} {ok : Nat → Prop} {l m : List St} {A : Option Addr} {c : Nat} (h : StsAt w ok (l ++ m) A c) : StsAt w ok l A c :=
  ⟨by have := h.cap; simp at this; omega, by have := h.len; simp at this; omega, h.nil, fun hne => by
    obtain ⟨b, o, e, hb, hc⟩ := h.at_ (by simp; omega)
    exact ⟨b, o, e, hb, fun i hi => by have := hc i (by simp; omega); rwa [List.getElem_append_left hi] at this⟩⟩
end Go.Proofs.YtdpmbanfaigmcaaDoor

/- LentNfa: walked. -/
set_option linter.unusedVariables false
set_option linter.unusedSimpArgs false
namespace Go.Proofs.YtdpmbanfaigmcaaDoor
open Go.RowKit

theorem grown_cells {W w1 : World} (hg : W.grownBy w1 none) : (∀ b o, b < W.heap.size → w1.cell? ⟨b, o, none⟩ = W.cell? ⟨b, o, none⟩) ∧ (∀ b o, b < W.heap.size → w1.frozen? ⟨b, o, none⟩ = W.frozen? ⟨b, o, none⟩) ∧ W.heap.size ≤ w1.heap.size :=
  ⟨fun b o h => World.cell?_of_block (w := W) (hg.block b h (by simp)), fun b o h => World.frozen?_of_block (w := W) (hg.block b h (by simp)), hg.size⟩
abbrev s77 : St := ⟨-77, 0, 0, 0, 0, 0, 0⟩
/-- The three boxes of LentNfa: what came in, the result, the copy. -/
structure LentB (n : Nat) (sa : Int) (wr : World) (x v : Value) : Prop where
  p0 : wr.cell? ⟨n, 0, none⟩ = some x
  q0 : wr.cell? ⟨n + 1 + 1, 0, none⟩ = some v
  q1 : wr.cell? ⟨n + 1 + 1, 1, none⟩ = some (.int .i64 sa)
  qf : wr.frozen? ⟨n + 1 + 1, 0, none⟩ = false
  r0 : wr.cell? ⟨n + 1, 0, none⟩ = some (.slice none 0 0)
  r1 : wr.cell? ⟨n + 1, 1, none⟩ = some (.int .i64 0)
  rf0 : wr.frozen? ⟨n + 1, 0, none⟩ = false
  rf1 : wr.frozen? ⟨n + 1, 1, none⟩ = false
  sz : n + 2 < wr.heap.size
theorem LentB.grown {n : Nat} {sa : Int} {wr w1 : World} {x v : Value} {row : Option Nat} (h : LentB n sa wr x v) (hg : wr.grownBy w1 row) (hr : ∀ k, row = some k → n + 3 ≤ k) : LentB n sa w1 x v := by
  have hz := h.sz
  have k : ∀ b o, b < n + 3 → w1.cell? ⟨b, o, none⟩ = wr.cell? ⟨b, o, none⟩ := fun b o hb => World.cell?_of_block (w := wr) (hg.block b (by omega) (fun e => by have := hr b e.symm; omega))
  have f : ∀ b o, b < n + 3 → w1.frozen? ⟨b, o, none⟩ = wr.frozen? ⟨b, o, none⟩ := fun b o hb => World.frozen?_of_block (w := wr) (hg.block b (by omega) (fun e => by have := hr b e.symm; omega))
  have := hg.size
  exact ⟨(k _ _ (by omega)).trans h.p0, (k _ _ (by omega)).trans h.q0, (k _ _ (by omega)).trans h.q1, (f _ _ (by omega)).trans h.qf, (k _ _ (by omega)).trans h.r0, (k _ _ (by omega)).trans h.r1, (f _ _ (by omega)).trans h.rf0, (f _ _ (by omega)).trans h.rf1, by omega⟩
theorem LentB.set {n : Nat} {sa : Int} {wr : World} {x v : Value} (h : LentB n sa wr x v) (u : Value) : LentB n sa (wr.setCell ⟨n + 1 + 1, 0, none⟩ u) x u :=
  ⟨by rw [World.cell?_setCell_other (h := by simp)]; exact h.p0, World.cell?_setCell_same _ _ _ h.q0, by rw [World.cell?_setCell_other (h := by simp)]; exact h.q1, by rw [World.frozen?_setCell]; exact h.qf,
    by rw [World.cell?_setCell_other (h := by simp)]; exact h.r0, by rw [World.cell?_setCell_other (h := by simp)]; exact h.r1, by rw [World.frozen?_setCell]; exact h.rf0, by rw [World.frozen?_setCell]; exact h.rf1, by simpa using h.sz⟩
theorem lentB_new {w : World} {x y v : Value} {sa : Int} {t : TypeId} : LentB w.heap.size sa (((w.alloc (.cells #[x, y] t)).alloc (.cells #[.slice none 0 0, .int .i64 0] t)).alloc (.cells #[v, .int .i64 sa] t)) x v := by
  have e : w.heap.size + 1 + 1 = (((w.alloc (.cells #[x, y] t)).alloc (.cells #[.slice none 0 0, .int .i64 0] t))).heap.size := by simp only [World.size_alloc]
  have e1 : w.heap.size + 1 = ((w.alloc (.cells #[x, y] t))).heap.size := by simp only [World.size_alloc]
  refine ⟨?_, ?_, ?_, ?_, ?_, ?_, ?_, ?_, ?_⟩
  · rw [World.cell?_alloc_lt _ _ _ (by simp only [World.size_alloc]; omega), World.cell?_alloc_lt _ _ _ (by simp only [World.size_alloc]; omega), World.cell?_alloc_new]; rfl
  · rw [e, World.cell?_alloc_new]; rfl
  · rw [e, World.cell?_alloc_new]; rfl
  · rw [e, World.frozen?_alloc_new]
  · rw [World.cell?_alloc_lt _ _ _ (by simp only [World.size_alloc]; omega), e1, World.cell?_alloc_new]; rfl
  · rw [World.cell?_alloc_lt _ _ _ (by simp only [World.size_alloc]; omega), e1, World.cell?_alloc_new]; rfl
  · rw [World.frozen?_alloc_old _ _ _ (by simp only [World.size_alloc]; omega), e1, World.frozen?_alloc_new]
  · rw [World.frozen?_alloc_old _ _ _ (by simp only [World.size_alloc]; omega), e1, World.frozen?_alloc_new]
  · simp only [World.size_alloc]; omega
/-- The loop of LentNfa. -/
def LentI (w : World) (l : List St) (sa : Int) (A : Option Addr) (c n : Nat) (i : Value) (wr : World) : Prop :=
  ∃ (j : Nat) (A' : Option Addr) (c' : Nat), i = .int .i64 j ∧ j + n = 5 ∧ Below w.heap.size w wr ∧ LentB w.heap.size sa wr (.slice A l.length c) (.slice A' (l.length + j) c') ∧
    wr.ownsRow (w.heap.size + 3) 90 7 (.slice A' (l.length + j) c') (l.length + j) (stCells (l ++ List.replicate j s77))
theorem own_ge {w : World} {base : Nat} {e : TypeId} {size n : Nat} {v : Value} {xs : List Value} (h : w.ownsRow base e size v n xs) : ∀ k, v.ownBlock = some k → base ≤ k := by
  intro k hk
  rcases h.2 with ⟨rfl, _⟩ | ⟨g, cap, cur, rfl, hb, _⟩
  · simp [Value.ownBlock] at hk
  · simp [Value.ownBlock] at hk; omega
theorem below_grown {B : Nat} {w wr w1 : World} {row : Option Nat} (h : Below B w wr) (hs : B ≤ wr.heap.size) (hg : wr.grownBy w1 row) (hr : ∀ k, row = some k → B ≤ k) : Below B w w1 :=
  ⟨hg.os.trans h.os, hg.tape.trans h.tape, hg.output.trans h.output, Nat.le_trans h.size hg.size, fun k hk => (hg.block k (by omega) (fun e => by have := hr k e.symm; omega)).trans (h.block k hk)⟩

end Go.Proofs.YtdpmbanfaigmcaaDoor

/- KeptNfa: walked. -/
set_option linter.unusedVariables false
set_option linter.unusedSimpArgs false
namespace Go.Proofs.YtdpmbanfaigmcaaDoor
open Go.RowKit

end Go.Proofs.YtdpmbanfaigmcaaDoor

/- nfa.Check: walked. -/
set_option linter.unusedVariables false
set_option linter.unusedSimpArgs false
namespace Go.Proofs.YtdpmbanfaigmcaaDoor
open Go.RowKit

def inR (n i : Int) : Bool := decide (0 ≤ i) && decide (i < n)
/-- May a state be, among n? -/
def okSt (n : Int) (s : St) : Bool := if s.k = 5 then true else if s.k = 1 ∨ s.k = 3 ∨ s.k = 4 then inR n s.nx else if s.k = 2 then inR n s.nx && inR n s.ot else false
/-- May a machine be? -/
def mcheck (l : List St) (sa : Int) : Int := if (l.length : Int) ≤ 4096 ∧ inR l.length sa = true then (if l.all (okSt l.length) then 0 else 110) else 110

set_option maxRecDepth 100000 in
set_option maxHeartbeats 1000000 in
theorem in_any (w : World) (b : Nat) (n i : Int) (h : w.cell? ⟨b, 0, none⟩ = some (.int .i64 n)) : Calls Tryd.prog 65 #[.int .i64 i, .pointer (some ⟨b, 0, none⟩)] w fun e w' => e = .returned (.bool (inR n i)) ∧ w' = w := by
  go_enter Tryd.func65, Tryd.ntmps65
  by_cases h1 : 0 ≤ i
  · by_cases h2 : i < n
    · have hr : inR n i = true := by simp [inR, h1, h2]
      have Hr := Lib.hid hr; clear hr
      go_wp2_with fail
      go_ret
      exact ⟨by rw [Hr.out]; rfl, rfl⟩
    · have hr : inR n i = false := by simp [inR]; omega
      have Hr := Lib.hid hr; clear hr
      go_wp2_with fail
      go_ret
      exact ⟨by rw [Hr.out]; rfl, rfl⟩
  · have hr : inR n i = false := by simp [inR]; omega
    have Hr := Lib.hid hr; clear hr
    go_wp2_with fail
    go_ret
    exact ⟨by rw [Hr.out]; rfl, rfl⟩

set_option maxRecDepth 100000 in
set_option maxHeartbeats 4000000 in
theorem ncheck_any (w : World) (ok : Nat → Prop) (l : List St) (sa : Int) (A : Option Addr) (c : Nat) (ha : StsAt w ok l A c) (hok : ∀ b, ok b → b < w.heap.size) :
    Calls Tryd.prog 46 #[nfaV l sa A c] w fun e w' => e = .returned (.int .i64 (mcheck l sa)) ∧ Below w.heap.size w w' := by
  have hmf : ∀ (fn : Fn) (first cap : Array Value) (w : World), (Instr.makeFunc fn first cap).run Tryd.prog w = .ok (.func fn first cap) w := fun _ _ _ _ => rfl
  have hlen := ha.len
  by_cases hbig : 4096 < (l.length : Int)
  · have hres : mcheck l sa = 110 := by rw [mcheck, if_neg (by omega)]
    have Hres := Lib.hid hres; clear hres
    go_enter Tryd.func46, Tryd.ntmps46
    go_wp2_with fail
    go_ret
    exact ⟨by rw [Hres.out]; rfl, ((Below.refl _ _).alloc (Nat.le_refl _) _).alloc (by simp) _⟩
  go_enter Tryd.func46, Tryd.ntmps46
  go_wp2_with fail
  generalize hW : (w.alloc _).alloc _ = W0
  have hB0 : Below w.heap.size w W0 := by subst hW; exact ((Below.refl _ _).alloc (Nat.le_refl _) _).alloc (by simp) _
  have hsz : w.heap.size + 2 ≤ W0.heap.size := by subst hW; simp
  have p0 : W0.cell? ⟨w.heap.size, 0, none⟩ = some (.slice A l.length c) := by subst hW; simp [go_sem]
  have p1 : W0.cell? ⟨w.heap.size, 1, none⟩ = some (.int .i64 sa) := by subst hW; simp [go_sem]
  have q0 : W0.cell? ⟨w.heap.size + 1, 0, none⟩ = some (.int .i64 l.length) := by subst hW; simp [go_sem]
  clear hW
  refine (in_any _ (w.heap.size + 1) l.length sa q0).mono ?_
  rintro e wx ⟨rfl, rfl⟩
  cases hs : inR l.length sa with
  | false =>
    have hres : mcheck l sa = 110 := by rw [mcheck, if_neg (by simp [hs])]
    have Hres := Lib.hid hres; clear hres
    go_wp2_with fail
    go_ret
    exact ⟨by rw [Hres.out]; rfl, hB0⟩
  | true =>
    have hres : mcheck l sa = if l.all (okSt l.length) then 0 else 110 := by rw [mcheck, if_pos ⟨by omega, hs⟩]
    have Hres := Lib.hid hres; clear hres hs
    go_wp2_with fail
    go_loopg [24] (l.length) (fun n i wr => ∃ j : Nat, i = .int .i64 j ∧ j + n = l.length ∧ (l.drop j).all (okSt l.length) = l.all (okSt l.length) ∧ Below w.heap.size w wr ∧ w.heap.size + 2 ≤ wr.heap.size ∧ wr.cell? ⟨w.heap.size + 1, 0, none⟩ = some (.int .i64 l.length))
    case atStart => exact ⟨0, rfl, by omega, rfl, hB0, hsz, q0⟩
    case round =>
      obtain ⟨j, rfl, hj, hm, hB, hz, hq⟩ := hrel
      have Hm := Lib.hid hm; clear hm
      clear hsz p0 p1 q0 hB0
      by_cases hlt : j < l.length
      · obtain ⟨b, o, rfl, hb, hcell⟩ := ha.at_ (by omega)
        obtain ⟨f0, f1, f2, f3, f4, f5, f6⟩ := (hcell j hlt).mono (w' := wr) (fun o => hB.cell (p := ⟨b, o, none⟩) (hok b hb))
        have Hd := Lib.hid (drop_cons hlt)
        clear hcell
        generalize l[j] = s at *
        have hbz := hok b hb
        have fin : okSt l.length s = false → mcheck l sa = 110 := fun h => by
          rw [Hres.out, ← Hm.out, Hd.out, List.all_cons, h]; rfl
        have go : okSt l.length s = true → (l.drop (j + 1)).all (okSt l.length) = l.all (okSt l.length) := fun h => by
          rw [← Hm.out, Hd.out, List.all_cons, h, Bool.true_and]
        have Fin := Lib.hid fin; have Go := Lib.hid go; clear fin go
        obtain ⟨k, s0, s1, s2, s3, nx, ot⟩ := s
        simp only at f0 f1 f2 f3 f4 f5 f6
        have q1 : (wr.alloc (.cells #[.int .i64 k, .int .u64 s0, .int .u64 s1, .int .u64 s2, .int .u64 s3, .int .i64 nx, .int .i64 ot] 90)).cell? ⟨w.heap.size + 1, 0, none⟩ = some (.int .i64 l.length) := by
          rw [World.cell?_alloc_lt _ _ _ (by show w.heap.size + 1 < _; omega)]; exact hq
        by_cases k5 : k = 5
        · subst k5
          have hg := Lib.hid (Go.out (by simp [okSt])); clear Go Fin
          go_wp2_with fail
          go_roundg (gk - 1)
          case measure => omega
          case rel => exact ⟨j + 1, by go_num, by omega, hg.out, hB.alloc (by omega) _, by simp; omega, q1⟩
        by_cases k134 : k = 1 ∨ k = 3 ∨ k = 4
        · have hstep : ∀ r, inR l.length nx = r → okSt l.length ⟨k, s0, s1, s2, s3, nx, ot⟩ = r := fun r h => by
            simp only [okSt]; rw [if_neg k5, if_pos k134, h]
          rcases k134 with rfl | rfl | rfl
          all_goals
            go_wp2_with fail
            refine (in_any _ (w.heap.size + 1) l.length nx q1).mono ?_
            rintro e wx ⟨rfl, rfl⟩
            cases hr : inR l.length nx with
            | true =>
              have hg := Lib.hid (Go.out (hstep _ hr)); clear Go Fin hr hstep
              go_wp2_with fail
              go_roundg (gk - 1)
              case measure => omega
              case rel => exact ⟨j + 1, by go_num, by omega, hg.out, hB.alloc (by omega) _, by simp; omega, q1⟩
            | false =>
              have hg := Lib.hid (Fin.out (hstep _ hr)); clear Go Fin hr hstep
              go_wp2_with fail
              go_ret
              exact ⟨by rw [hg.out]; rfl, hB.alloc (by omega) _⟩
        by_cases k2 : k = 2
        · subst k2
          have hstep : okSt l.length ⟨2, s0, s1, s2, s3, nx, ot⟩ = (inR l.length nx && inR l.length ot) := by simp [okSt]
          clear k134 k5
          go_wp2_with fail
          refine (in_any _ (w.heap.size + 1) l.length nx q1).mono ?_
          rintro e wx ⟨rfl, rfl⟩
          cases hr : inR l.length nx with
          | true =>
            go_wp2_with fail
            refine (in_any _ (w.heap.size + 1) l.length ot q1).mono ?_
            rintro e wx ⟨rfl, rfl⟩
            cases hr2 : inR l.length ot with
            | true =>
              have hg := Lib.hid (Go.out (by rw [hstep, hr, hr2]; rfl)); clear Go Fin hr hr2 hstep
              go_wp2_with fail
              go_roundg (gk - 1)
              case measure => omega
              case rel => exact ⟨j + 1, by go_num, by omega, hg.out, hB.alloc (by omega) _, by simp; omega, q1⟩
            | false =>
              have hg := Lib.hid (Fin.out (by rw [hstep, hr, hr2]; rfl)); clear Go Fin hr hr2 hstep
              go_wp2_with fail
              go_ret
              exact ⟨by rw [hg.out]; rfl, hB.alloc (by omega) _⟩
          | false =>
            have hg := Lib.hid (Fin.out (by rw [hstep, hr]; rfl)); clear Go Fin hr hstep
            go_wp2_with fail
            go_ret
            exact ⟨by rw [hg.out]; rfl, hB.alloc (by omega) _⟩
        · have hg := Lib.hid (Fin.out (by simp [okSt, k5, k134, k2]))
          have b1 : (k == 1) = false := by simp; omega
          have b2 : (k == 2) = false := by simp; omega
          have b3 : (k == 3) = false := by simp; omega
          have b4 : (k == 4) = false := by simp; omega
          have b5 : (k == 5) = false := by simp; omega
          clear Go Fin k5 k134 k2
          go_wp2_with fail
          go_ret
          exact ⟨by rw [hg.out]; rfl, hB.alloc (by omega) _⟩
      · have hg : l.all (okSt l.length) = true := by rw [← Hm.out, List.drop_of_length_le (by omega)]; rfl
        have hg2 := Lib.hid (by rw [Hres.out, hg]; rfl : mcheck l sa = 0); clear hg
        have i1 : (l.length : Int) ≤ (j : Int) := by omega
        go_wp2_with fail
        go_ret
        exact ⟨by rw [hg2.out]; rfl, hB⟩
end Go.Proofs.YtdpmbanfaigmcaaDoor

/- The matcher, plain: which states are there; the code's way of adding states and the document's come tu the same sets. -/
set_option linter.unusedVariables false
set_option linter.unusedSimpArgs false
namespace Go.Proofs.YtdpmbanfaigmcaaDoor
open Go.RowKit

def stN (l : List St) (i : Nat) : St := l.getD i default
/-- Where a state leads without a byte. -/
def outs (b e : Bool) (s : St) : List Nat := if s.k = 2 then [s.nx.toNat, s.ot.toNat] else if (s.k = 3 ∧ b = true) ∨ (s.k = 4 ∧ e = true) then [s.nx.toNat] else []
def OutsOk (l : List St) (b e : Bool) : Prop := ∀ i, i < l.length → ∀ y ∈ outs b e (stN l i), y < l.length
inductive Rch (l : List St) (b e : Bool) (i : Nat) : Nat → Prop where
  | refl : Rch l b e i i
  | step {j k : Nat} : Rch l b e i j → k ∈ outs b e (stN l j) → Rch l b e i k
theorem Rch.closed {l : List St} {b e : Bool} {i j : Nat} (h : Rch l b e i j) {S : Nat → Prop} (hi : S i) (hc : ∀ x, S x → ∀ y ∈ outs b e (stN l x), S y) : S j := by
  induction h with
  | refl => exact hi
  | step _ hk ih => exact hc _ ih _ hk

/-- put: a state alone. -/
def putF (X : List Nat) (i : Nat) : List Nat := if i ∈ X then X else X ++ [i]
def loopF (l : List St) (b e : Bool) : Nat → Nat → List Nat → List Nat
  | 0, _, X => X
  | k + 1, fr, X => if fr < X.length then loopF l b e k (fr + 1) ((outs b e (stN l (X.getD fr 0))).foldl putF X) else X
/-- add: a state and those tu which it leads. -/
def addF (l : List St) (b e : Bool) (X : List Nat) (i : Nat) : List Nat := loopF l b e (l.length - X.length) X.length (putF X i)

theorem put_mem (X : List Nat) (i : Nat) : i ∈ putF X i := by unfold putF; split <;> simp [*]
theorem put_app (X : List Nat) (i : Nat) : ∃ Z, putF X i = X ++ Z ∧ ∀ z ∈ Z, z = i := by
  unfold putF; split
  · exact ⟨[], by simp⟩
  · exact ⟨[i], by simp⟩
theorem put_nodup {X : List Nat} (h : X.Nodup) (i : Nat) : (putF X i).Nodup := by
  unfold putF; split
  · exact h
  · rename_i hi
    rw [List.nodup_append]
    exact ⟨h, by simp, fun a ha b hb => by simp at hb; subst hb; exact fun e => hi (e ▸ ha)⟩
theorem fold_put : ∀ (ys X : List Nat), X.Nodup → (ys.foldl putF X).Nodup ∧ (∃ Z, ys.foldl putF X = X ++ Z ∧ ∀ z ∈ Z, z ∈ ys) ∧ ∀ y ∈ ys, y ∈ ys.foldl putF X
  | [], X, h => ⟨h, ⟨[], by simp, by simp⟩, by simp⟩
  | y :: ys, X, h => by
    obtain ⟨h1, ⟨Z, h2, h3⟩, h4⟩ := fold_put ys (putF X y) (put_nodup h y)
    obtain ⟨Z0, e0, hz0⟩ := put_app X y
    refine ⟨h1, ⟨Z0 ++ Z, ?_, ?_⟩, ?_⟩
    · rw [List.foldl_cons, h2, e0, List.append_assoc]
    · intro z hz
      rcases List.mem_append.1 hz with hz | hz
      · rw [hz0 z hz]; exact List.mem_cons_self ..
      · exact List.mem_cons_of_mem _ (h3 z hz)
    · intro z hz
      rcases List.mem_cons.1 hz with rfl | hz
      · rw [List.foldl_cons, h2]; exact List.mem_append_left _ (put_mem X z)
      · exact h4 z hz
theorem nodup_le {X : List Nat} {n : Nat} (h : X.Nodup) (hl : ∀ x ∈ X, x < n) : X.length ≤ n := by
  have := List.Nodup.length_le_of_subset h (l₂ := List.range n) (fun x hx => List.mem_range.2 (hl x hx))
  simpa using this

theorem loop_spec {l : List St} {b e : Bool} (ho : OutsOk l b e) : ∀ (k fr : Nat) (X : List Nat), X.Nodup → (∀ x ∈ X, x < l.length) → l.length ≤ fr + k → (∀ p x, p < fr → X[p]? = some x → ∀ y ∈ outs b e (stN l x), y ∈ X) →
    (loopF l b e k fr X).Nodup ∧ (∀ x ∈ loopF l b e k fr X, x < l.length) ∧ (∀ x ∈ loopF l b e k fr X, ∀ y ∈ outs b e (stN l x), y ∈ loopF l b e k fr X) ∧ (∃ Z, loopF l b e k fr X = X ++ Z) ∧
    ∀ S : Nat → Prop, (∀ x ∈ X, S x) → (∀ x, S x → ∀ y ∈ outs b e (stN l x), S y) → ∀ x ∈ loopF l b e k fr X, S x := by
  intro k
  induction k with
  | zero =>
    intro fr X hn hl hk hc
    rw [loopF]
    have := nodup_le hn hl
    refine ⟨hn, hl, fun x hx => ?_, ⟨[], by simp⟩, fun S h _ => h⟩
    obtain ⟨p, hp, rfl⟩ := List.getElem_of_mem hx
    exact hc p _ (by omega) (List.getElem?_eq_getElem hp)
  | succ k ih =>
    intro fr X hn hl hk hc
    rw [loopF]
    split
    · rename_i hlt
      have hget : X.getD fr 0 = X[fr] := by simp [hlt]
      rw [hget]
      have hx : X[fr] < l.length := hl _ (List.getElem_mem _)
      obtain ⟨h1, ⟨Z, h2, h3⟩, h4⟩ := fold_put (outs b e (stN l X[fr])) X hn
      have hsub : ∀ z ∈ X, z ∈ (outs b e (stN l X[fr])).foldl putF X := fun z hz => by rw [h2]; exact List.mem_append_left _ hz
      have hmem : ∀ z ∈ (outs b e (stN l X[fr])).foldl putF X, z ∈ X ∨ z ∈ outs b e (stN l X[fr]) := fun z hz => by
        rw [h2] at hz
        rcases List.mem_append.1 hz with hz | hz
        · exact .inl hz
        · exact .inr (h3 z hz)
      obtain ⟨r1, r2, r3, ⟨Z', r4⟩, r5⟩ := ih (fr + 1) _ h1 (fun x hx' => (hmem x hx').elim (hl x) (ho _ hx x)) (by omega) (fun p x hp hpx y hy => by
        by_cases hpf : p < fr
        · have hp0 : X[p]? = some x := by
            rw [h2, List.getElem?_append_left (by omega)] at hpx; exact hpx
          exact hsub y (hc p x hpf hp0 y hy)
        · have : p = fr := by omega
          subst this
          rw [h2, List.getElem?_append_left (by omega), List.getElem?_eq_getElem hlt] at hpx
          cases hpx
          exact h4 y hy)
      exact ⟨r1, r2, r3, ⟨Z ++ Z', by rw [r4, h2, List.append_assoc]⟩, fun S hS hcl => r5 S (fun x hx' => (hmem x hx').elim (hS x) (hcl _ (hS _ (List.getElem_mem hlt)) x)) hcl⟩
    · rename_i hge
      refine ⟨hn, hl, fun x hx => ?_, ⟨[], by simp⟩, fun S h _ => h⟩
      obtain ⟨p, hp, rfl⟩ := List.getElem_of_mem hx
      exact hc p _ (by omega) (List.getElem?_eq_getElem hp)

/-- A set of states as the code keeps it: each once, closed. -/
structure Good (l : List St) (b e : Bool) (X : List Nat) : Prop where
  nodup : X.Nodup
  lt : ∀ x ∈ X, x < l.length
  closed : ∀ x ∈ X, ∀ y ∈ outs b e (stN l x), y ∈ X
theorem add_spec {l : List St} {b e : Bool} (ho : OutsOk l b e) {X : List Nat} (hX : Good l b e X) {i : Nat} (hi : i < l.length) : Good l b e (addF l b e X i) ∧ ∀ j, j ∈ addF l b e X i ↔ j ∈ X ∨ Rch l b e i j := by
  have hle := nodup_le hX.nodup hX.lt
  obtain ⟨Z, hz1, hz2⟩ := put_app X i
  obtain ⟨h1, h2, h3, ⟨Z', h4⟩, h5⟩ := loop_spec ho (l.length - X.length) X.length (putF X i) (put_nodup hX.nodup i) (fun x hx => by
    rw [hz1] at hx
    rcases List.mem_append.1 hx with hx | hx
    · exact hX.lt x hx
    · rw [hz2 x hx]; exact hi) (by omega) (fun p x hp hpx y hy => by
    rw [hz1, List.getElem?_append_left hp] at hpx
    rw [hz1]
    exact List.mem_append_left _ (hX.closed x (List.mem_of_getElem? hpx) y hy))
  refine ⟨⟨h1, h2, h3⟩, fun j => ⟨fun hj => ?_, fun hj => ?_⟩⟩
  · refine h5 (fun j => j ∈ X ∨ Rch l b e i j) (fun x hx => ?_) (fun x hx y hy => ?_) j hj
    · rw [hz1] at hx
      rcases List.mem_append.1 hx with hx | hx
      · exact .inl hx
      · rw [hz2 x hx]; exact .inr .refl
    · rcases hx with hx | hx
      · exact .inl (hX.closed x hx y hy)
      · exact .inr (.step hx hy)
  · unfold addF
    rcases hj with hj | hj
    · rw [h4, hz1]; simp [hj]
    · refine hj.closed (S := fun j => j ∈ loopF l b e (l.length - X.length) X.length (putF X i)) ?_ h3
      rw [h4]; exact List.mem_append_left _ (put_mem X i)
theorem good_nil (l : List St) (b e : Bool) : Good l b e [] := ⟨List.nodup_nil, by simp, by simp⟩

/-- The document's way. -/
def withL (l : List St) (b e : Bool) : Nat → List Bool → List Nat → List Bool
  | 0, X, _ => X
  | _ + 1, X, [] => X
  | k + 1, X, x :: t => if X.getD x false = true then withL l b e k X t else withL l b e k (X.set x true) ((outs b e (stN l x)).reverse ++ t)
def withF (l : List St) (b e : Bool) (X : List Bool) (i : Nat) : List Bool := withL l b e (3 * l.length + 2) X [i]
theorem outs_len (b e : Bool) (s : St) : (outs b e s).length ≤ 2 := by
  unfold outs
  split
  · simp
  · split <;> simp
def falses (X : List Bool) : Nat := X.countP (fun x => !x)
theorem falses_le (X : List Bool) : falses X ≤ X.length := List.countP_le_length
theorem falses_set : ∀ (X : List Bool) (x : Nat), x < X.length → X.getD x false = false → falses (X.set x true) + 1 = falses X
  | c :: X, 0, h, h0 => by
    have : c = false := by simpa using h0
    subst this
    simp [falses]
  | c :: X, x + 1, h, h0 => by
    have := falses_set X x (by simpa using h) (by simpa using h0)
    simp only [falses, List.set_cons_succ, List.countP_cons] at this ⊢
    omega
theorem getD_set (X : List Bool) (x : Nat) (hx : x < X.length) (j : Nat) : (X.set x true).getD j false = true ↔ j = x ∨ X.getD j false = true := by
  rw [List.getD_eq_getElem?_getD, List.getD_eq_getElem?_getD, List.getElem?_set]
  by_cases h : x = j
  · subst h; simp [hx]
  · rw [if_neg h]
    constructor
    · exact .inr
    · rintro (rfl | h')
      · exact absurd rfl h
      · exact h'
theorem with_spec {l : List St} {b e : Bool} (ho : OutsOk l b e) : ∀ (k : Nat) (X : List Bool) (st : List Nat), X.length = l.length → (∀ x ∈ st, x < l.length) → 3 * falses X + st.length ≤ k → (∀ x, X.getD x false = true → ∀ y ∈ outs b e (stN l x), X.getD y false = true ∨ y ∈ st) →
    (withL l b e k X st).length = l.length ∧ (∀ x, X.getD x false = true → (withL l b e k X st).getD x false = true) ∧ (∀ x ∈ st, (withL l b e k X st).getD x false = true) ∧
    (∀ x, (withL l b e k X st).getD x false = true → ∀ y ∈ outs b e (stN l x), (withL l b e k X st).getD y false = true) ∧
    ∀ S : Nat → Prop, (∀ x, X.getD x false = true → S x) → (∀ x ∈ st, S x) → (∀ x, S x → ∀ y ∈ outs b e (stN l x), S y) → ∀ x, (withL l b e k X st).getD x false = true → S x := by
  intro k
  induction k with
  | zero =>
    intro X st hX hst hk hc
    have : st = [] := List.eq_nil_of_length_eq_zero (by omega)
    subst this
    rw [withL]
    exact ⟨hX, fun _ h => h, by simp, fun x h y hy => (hc x h y hy).elim id (by simp), fun S h _ _ => h⟩
  | succ k ih =>
    intro X st hX hst hk hc
    cases st with
    | nil =>
      rw [withL]
      exact ⟨hX, fun _ h => h, by simp, fun x h y hy => (hc x h y hy).elim id (by simp), fun S h _ _ => h⟩
    | cons x t =>
      rw [withL]
      have hxl := hst x (List.mem_cons_self ..)
      simp only [List.length_cons] at hk
      split
      · rename_i hx
        obtain ⟨r1, r2, r3, r4, r5⟩ := ih X t hX (fun y hy => hst y (List.mem_cons_of_mem _ hy)) (by omega) (fun z hz y hy => by
          rcases hc z hz y hy with h | h
          · exact .inl h
          · rcases List.mem_cons.1 h with rfl | h
            · exact .inl hx
            · exact .inr h)
        exact ⟨r1, r2, fun z hz => by
          rcases List.mem_cons.1 hz with rfl | hz
          · exact r2 _ hx
          · exact r3 z hz, r4, fun S h1 h2 h3 => r5 S h1 (fun z hz => h2 z (List.mem_cons_of_mem _ hz)) h3⟩
      · rename_i hx
        have hx0 : X.getD x false = false := by simpa using hx
        have hf := falses_set X x (by omega) hx0
        have hol := outs_len b e (stN l x)
        have hg := getD_set X x (by omega)
        obtain ⟨r1, r2, r3, r4, r5⟩ := ih (X.set x true) ((outs b e (stN l x)).reverse ++ t) (by simpa using hX) (fun y hy => by
          rcases List.mem_append.1 hy with h | h
          · exact ho x hxl y (List.mem_reverse.1 h)
          · exact hst y (List.mem_cons_of_mem _ h)) (by simp only [List.length_append, List.length_reverse]; omega) (fun z hz y hy => by
          rcases (hg z).1 hz with rfl | hz
          · exact .inr (List.mem_append_left _ (List.mem_reverse.2 hy))
          · rcases hc z hz y hy with h | h
            · exact .inl ((hg y).2 (.inr h))
            · rcases List.mem_cons.1 h with rfl | h
              · exact .inl ((hg y).2 (.inl rfl))
              · exact .inr (List.mem_append_right _ h))
        refine ⟨r1, fun z hz => r2 z ((hg z).2 (.inr hz)), fun z hz => ?_, r4, fun S h1 h2 h3 => r5 S (fun z hz => ?_) (fun z hz => ?_) h3⟩
        · rcases List.mem_cons.1 hz with rfl | hz
          · exact r2 z ((hg z).2 (.inl rfl))
          · exact r3 z (List.mem_append_right _ hz)
        · rcases (hg z).1 hz with rfl | hz
          · exact h2 z (List.mem_cons_self ..)
          · exact h1 z hz
        · rcases List.mem_append.1 hz with h | h
          · exact h3 x (h2 x (List.mem_cons_self ..)) z (List.mem_reverse.1 h)
          · exact h2 z (List.mem_cons_of_mem _ h)

/-- The same set, kept in two ways. -/
structure SameSet (l : List St) (X : List Nat) (Y : List Bool) : Prop where
  len : Y.length = l.length
  mem : ∀ j, j ∈ X ↔ Y.getD j false = true
theorem add_same {l : List St} {b e : Bool} (ho : OutsOk l b e) {X : List Nat} {Y : List Bool} (hX : Good l b e X) (hs : SameSet l X Y) {i : Nat} (hi : i < l.length) : Good l b e (addF l b e X i) ∧ SameSet l (addF l b e X i) (withF l b e Y i) := by
  obtain ⟨hG, hm⟩ := add_spec ho hX hi
  have hfl := falses_le Y
  have hlen := hs.len
  obtain ⟨r1, r2, r3, r4, r5⟩ := with_spec ho (3 * l.length + 2) Y [i] hs.len (by simpa using hi) (by simp; omega) (fun x hx y hy => .inl ((hs.mem y).1 (hX.closed x ((hs.mem x).2 hx) y hy)))
  refine ⟨hG, r1, fun j => ?_⟩
  rw [hm j]
  constructor
  · rintro (h | h)
    · exact r2 j ((hs.mem j).1 h)
    · exact h.closed (S := fun j => (withF l b e Y i).getD j false = true) (r3 i (by simp)) r4
  · intro h
    refine r5 (fun j => j ∈ X ∨ Rch l b e i j) (fun x hx => .inl ((hs.mem x).2 hx)) (fun x hx => ?_) (fun x hx y hy => ?_) j h
    · simp at hx; subst hx; exact .inr .refl
    · rcases hx with hx | hx
      · exact .inl (hX.closed x hx y hy)
      · exact .inr (.step hx hy)
end Go.Proofs.YtdpmbanfaigmcaaDoor

/- The matcher, plain: a machine over a subject; the document's way comes tu the same; how many steps. -/
set_option linter.unusedVariables false
set_option linter.unusedSimpArgs false
namespace Go.Proofs.YtdpmbanfaigmcaaDoor
open Go.RowKit

def wordN (s : St) (i : Nat) : Int := if i = 0 then s.s0 else if i = 1 then s.s1 else if i = 2 then s.s2 else s.s3
/-- Is a byte in a state's set? -/
def bitS (s : St) (c : Nat) : Bool := wordN s (c / 64) / 2 ^ (c % 64) % 2 == 1
def takes (s : St) (c : Nat) : Bool := s.k == 1 && bitS s c
def byteN (subj : List UInt8) (at_ : Nat) : Nat := (subj.getD (at_ - 1) 0).toNat
def eatF (l : List St) (b e : Bool) (c : Nat) (X : List Nat) (i : Nat) : List Nat := if takes (stN l i) c = true then addF l b e X (stN l i).nx.toNat else X
def stepF (l : List St) (sa : Int) (subj : List UInt8) (at_ : Nat) (now : List Nat) : List Nat :=
  now.foldl (eatF l (at_ == 0) (at_ == subj.length) (byteN subj at_)) (addF l (at_ == 0) (at_ == subj.length) [] sa.toNat)
def doneF (l : List St) (X : List Nat) : Bool := X.any fun i => (stN l i).k == 5
def overF (l : List St) (sa : Int) (subj : List UInt8) : Nat → Nat → List Nat → Int → Bool × Int
  | 0, _, _, s => (false, s)
  | k + 1, at_, now, s => if doneF l (stepF l sa subj at_ now) = true then (true, s + (stepF l sa subj at_ now).length) else overF l sa subj k (at_ + 1) (stepF l sa subj at_ now) (s + (stepF l sa subj at_ now).length)
/-- match.Has: found?, steps, error. -/
def hasF (l : List St) (sa : Int) (subj : List UInt8) : Bool × Int × Int :=
  if mcheck l sa ≠ 0 then (false, 0, mcheck l sa) else if 65536 < subj.length then (false, 0, 3) else ((overF l sa subj (subj.length + 1) 0 [] 0).1, (overF l sa subj (subj.length + 1) 0 [] 0).2, 0)

/-- The document's. -/
def eatR (l : List St) (b e : Bool) (c : Nat) (there : List Bool) (Y : List Bool) (i : Nat) : List Bool := if there.getD i false = true ∧ takes (stN l i) c = true then withF l b e Y (stN l i).nx.toNat else Y
def stepR (l : List St) (sa : Int) (subj : List UInt8) (at_ : Nat) (there : List Bool) : List Bool :=
  (List.range l.length).foldl (eatR l (at_ == 0) (at_ == subj.length) (byteN subj at_) there) (withF l (at_ == 0) (at_ == subj.length) (List.replicate l.length false) sa.toNat)
def cntR (Y : List Bool) : Int := (Y.countP id : Nat)
def doneR (l : List St) (Y : List Bool) : Bool := (List.range l.length).any fun i => Y.getD i false && (stN l i).k == 5
def overR (l : List St) (sa : Int) (subj : List UInt8) : Nat → Nat → List Bool → Int → Bool × Int
  | 0, _, _, s => (false, s)
  | k + 1, at_, now, s => if doneR l (stepR l sa subj at_ now) = true then (true, s + cntR (stepR l sa subj at_ now)) else overR l sa subj k (at_ + 1) (stepR l sa subj at_ now) (s + cntR (stepR l sa subj at_ now))

/-- A machine that may be. -/
structure MOk (l : List St) (sa : Int) : Prop where
  len : l.length ≤ 4096
  s0 : 0 ≤ sa
  s1 : sa < l.length
  ok : ∀ i, i < l.length → okSt l.length (stN l i) = true
theorem inR_iff {n i : Int} : inR n i = true ↔ 0 ≤ i ∧ i < n := by simp [inR]
theorem mok_of {l : List St} {sa : Int} (h : mcheck l sa = 0) : MOk l sa := by
  unfold mcheck at h
  split at h
  · rename_i h1
    split at h
    · rename_i h2
      have h3 := inR_iff.1 h1.2
      exact ⟨by omega, h3.1, h3.2, fun i hi => by
        have := List.all_eq_true.1 h2 (stN l i) (by unfold stN; simp [hi])
        exact this⟩
    · omega
  · omega
theorem mok_to {l : List St} {sa : Int} (h : MOk l sa) : mcheck l sa = 0 := by
  unfold mcheck
  rw [if_pos ⟨by have := h.len; omega, inR_iff.2 ⟨h.s0, h.s1⟩⟩, if_pos]
  rw [List.all_eq_true]
  intro s hs
  obtain ⟨i, hi, rfl⟩ := List.getElem_of_mem hs
  have := h.ok i hi
  unfold stN at this
  simpa [hi] using this
theorem MOk.start {l : List St} {sa : Int} (h : MOk l sa) : sa.toNat < l.length := by have := h.s0; have := h.s1; omega
theorem MOk.kinds {l : List St} {sa : Int} (h : MOk l sa) {i : Nat} (hi : i < l.length) : (stN l i).k = 5 ∨ ((stN l i).k = 1 ∨ (stN l i).k = 3 ∨ (stN l i).k = 4) ∧ 0 ≤ (stN l i).nx ∧ (stN l i).nx < l.length ∨ (stN l i).k = 2 ∧ (0 ≤ (stN l i).nx ∧ (stN l i).nx < l.length) ∧ 0 ≤ (stN l i).ot ∧ (stN l i).ot < l.length := by
  have h1 := h.ok i hi
  unfold okSt at h1
  split at h1
  · exact .inl (by assumption)
  · split at h1
    · exact .inr (.inl ⟨by assumption, inR_iff.1 h1⟩)
    · split at h1
      · rw [Bool.and_eq_true] at h1
        exact .inr (.inr ⟨by assumption, inR_iff.1 h1.1, inR_iff.1 h1.2⟩)
      · cases h1
theorem MOk.outs {l : List St} {sa : Int} (h : MOk l sa) (b e : Bool) : OutsOk l b e := by
  intro i hi y hy
  unfold Go.Proofs.YtdpmbanfaigmcaaDoor.outs at hy
  rcases h.kinds hi with hk | ⟨hk, h1, h2⟩ | ⟨hk, ⟨h1, h2⟩, h3, h4⟩
  · rw [if_neg (by omega), if_neg (by omega)] at hy; cases hy
  · rw [if_neg (by omega)] at hy
    split at hy
    · simp at hy; omega
    · cases hy
  · rw [if_pos hk] at hy
    simp at hy; omega
theorem takes_kind {s : St} {c : Nat} (h : takes s c = true) : s.k = 1 := by simp [takes] at h; exact h.1
theorem MOk.next {l : List St} {sa : Int} (h : MOk l sa) {i : Nat} (hi : i < l.length) (hk : (stN l i).k = 1) : (stN l i).nx.toNat < l.length := by
  rcases h.kinds hi with h1 | ⟨_, h1, h2⟩ | ⟨h1, _⟩ <;> omega

theorem foldF_spec {l : List St} {sa : Int} (hm : MOk l sa) (b e : Bool) (c : Nat) : ∀ (xs X : List Nat), (∀ x ∈ xs, x < l.length) → Good l b e X →
    Good l b e (xs.foldl (eatF l b e c) X) ∧ ∀ j, j ∈ xs.foldl (eatF l b e c) X ↔ j ∈ X ∨ ∃ i ∈ xs, takes (stN l i) c = true ∧ Rch l b e (stN l i).nx.toNat j
  | [], X, _, hX => ⟨hX, fun j => by simp⟩
  | x :: xs, X, hxs, hX => by
    have hx := hxs x (List.mem_cons_self ..)
    by_cases ht : takes (stN l x) c = true
    · obtain ⟨h1, h2⟩ := add_spec (hm.outs b e) hX (hm.next hx (takes_kind ht))
      obtain ⟨r1, r2⟩ := foldF_spec hm b e c xs _ (fun y hy => hxs y (List.mem_cons_of_mem _ hy)) h1
      have e1 : eatF l b e c X x = addF l b e X (stN l x).nx.toNat := if_pos ht
      rw [List.foldl_cons, e1]
      refine ⟨r1, fun j => ?_⟩
      rw [r2 j, h2 j]
      simp only [List.mem_cons, exists_eq_or_imp, ht, true_and, or_assoc]
    · obtain ⟨r1, r2⟩ := foldF_spec hm b e c xs X (fun y hy => hxs y (List.mem_cons_of_mem _ hy)) hX
      have e1 : eatF l b e c X x = X := if_neg ht
      rw [List.foldl_cons, e1]
      refine ⟨r1, fun j => ?_⟩
      rw [r2 j]
      simp only [List.mem_cons, exists_eq_or_imp, ht, false_and, false_or, Bool.false_eq_true]
theorem foldR_spec {l : List St} {sa : Int} (hm : MOk l sa) (b e : Bool) (c : Nat) (there : List Bool) : ∀ (xs X : List Nat) (Y : List Bool), (∀ x ∈ xs, x < l.length) → Good l b e X → SameSet l X Y →
    ∃ X', SameSet l X' (xs.foldl (eatR l b e c there) Y) ∧ Good l b e X' ∧ ∀ j, j ∈ X' ↔ j ∈ X ∨ ∃ i ∈ xs, there.getD i false = true ∧ takes (stN l i) c = true ∧ Rch l b e (stN l i).nx.toNat j
  | [], X, Y, _, hX, hs => ⟨X, hs, hX, fun j => by simp⟩
  | x :: xs, X, Y, hxs, hX, hs => by
    have hx := hxs x (List.mem_cons_self ..)
    by_cases ht : there.getD x false = true ∧ takes (stN l x) c = true
    · have hn := hm.next hx (takes_kind ht.2)
      obtain ⟨h1, h2⟩ := add_spec (hm.outs b e) hX hn
      obtain ⟨h3, h4⟩ := add_same (hm.outs b e) hX hs hn
      obtain ⟨X', r0, r1, r2⟩ := foldR_spec hm b e c there xs _ _ (fun y hy => hxs y (List.mem_cons_of_mem _ hy)) h1 h4
      have e1 : eatR l b e c there Y x = withF l b e Y (stN l x).nx.toNat := if_pos ht
      rw [List.foldl_cons, e1]
      refine ⟨X', r0, r1, fun j => ?_⟩
      rw [r2 j, h2 j]
      simp only [List.mem_cons, exists_eq_or_imp, ht.1, ht.2, true_and, or_assoc]
    · obtain ⟨X', r0, r1, r2⟩ := foldR_spec hm b e c there xs X Y (fun y hy => hxs y (List.mem_cons_of_mem _ hy)) hX hs
      have e1 : eatR l b e c there Y x = Y := if_neg ht
      rw [List.foldl_cons, e1]
      refine ⟨X', r0, r1, fun j => ?_⟩
      rw [r2 j]
      simp only [List.mem_cons, exists_eq_or_imp]
      constructor
      · rintro (h | h)
        · exact .inl h
        · exact .inr (.inr h)
      · rintro (h | ⟨h1, h2, _⟩ | h)
        · exact .inl h
        · exact absurd ⟨h1, h2⟩ ht
        · exact .inr h

theorem same_nil (l : List St) : SameSet l [] (List.replicate l.length false) := ⟨by simp, fun j => by
  simp only [List.not_mem_nil, false_iff, List.getD_eq_getElem?_getD, List.getElem?_replicate]
  split <;> simp⟩
theorem step_same {l : List St} {sa : Int} (hm : MOk l sa) (subj : List UInt8) (at_ : Nat) {now : List Nat} {there : List Bool} (hl : ∀ x ∈ now, x < l.length) (hs : SameSet l now there) :
    Good l (at_ == 0) (at_ == subj.length) (stepF l sa subj at_ now) ∧ SameSet l (stepF l sa subj at_ now) (stepR l sa subj at_ there) := by
  obtain ⟨g1, g2⟩ := add_same (hm.outs (at_ == 0) (at_ == subj.length)) (good_nil l _ _) (same_nil l) hm.start
  obtain ⟨h1, h2⟩ := foldF_spec hm _ _ (byteN subj at_) now _ hl g1
  obtain ⟨X', r0, r1, r2⟩ := foldR_spec hm _ _ (byteN subj at_) there (List.range l.length) _ _ (fun x hx => List.mem_range.1 hx) g1 g2
  refine ⟨h1, r0.len, fun j => ?_⟩
  unfold stepF stepR
  rw [h2 j, ← r0.mem j, r2 j]
  constructor
  · rintro (h | ⟨i, hi, h3, h4⟩)
    · exact .inl h
    · exact .inr ⟨i, List.mem_range.2 (hl i hi), (hs.mem i).1 hi, h3, h4⟩
  · rintro (h | ⟨i, hi, h3, h4, h5⟩)
    · exact .inl h
    · exact .inr ⟨i, (hs.mem i).2 h3, h4, h5⟩
theorem same_count {l : List St} {X : List Nat} {Y : List Bool} (hn : X.Nodup) (hl : ∀ x ∈ X, x < l.length) (hs : SameSet l X Y) : (X.length : Int) = cntR Y := by
  have hp : X.Perm ((List.range l.length).filter fun j => Y.getD j false) := (List.perm_ext_iff_of_nodup hn (List.nodup_range.filter _)).2 fun j => by
    rw [List.mem_filter, List.mem_range, hs.mem j]
    constructor
    · intro h
      exact ⟨hl j ((hs.mem j).2 h), h⟩
    · exact fun h => h.2
  have hy : Y = (List.range l.length).map fun j => Y.getD j false := by
    refine List.ext_getElem (by simp [hs.len]) fun i h1 h2 => ?_
    simp [h1]
  have : Y.countP id = (List.range l.length).countP (fun j => Y.getD j false) := by
    conv => lhs; rw [hy]
    rw [List.countP_map]
    rfl
  unfold cntR
  rw [this, hp.length_eq, List.countP_eq_length_filter]
theorem same_done {l : List St} {X : List Nat} {Y : List Bool} (hl : ∀ x ∈ X, x < l.length) (hs : SameSet l X Y) : doneF l X = doneR l Y := by
  rw [Bool.eq_iff_iff]
  unfold doneF doneR
  simp only [List.any_eq_true, List.mem_range, Bool.and_eq_true]
  constructor
  · rintro ⟨i, hi, h⟩
    exact ⟨i, hl i hi, (hs.mem i).1 hi, h⟩
  · rintro ⟨i, _, h1, h2⟩
    exact ⟨i, (hs.mem i).2 h1, h2⟩
theorem over_same {l : List St} {sa : Int} (hm : MOk l sa) (subj : List UInt8) : ∀ (k at_ : Nat) (now : List Nat) (there : List Bool) (s : Int), (∀ x ∈ now, x < l.length) → SameSet l now there → overF l sa subj k at_ now s = overR l sa subj k at_ there s
  | 0, _, _, _, _, _, _ => rfl
  | k + 1, at_, now, there, s, hl, hs => by
    obtain ⟨h1, h2⟩ := step_same hm subj at_ hl hs
    rw [overF, overR, same_done h1.lt h2, same_count h1.nodup h1.lt h2, over_same hm subj k (at_ + 1) _ _ _ h1.lt h2]

/-- How many steps a position takes. -/
theorem step_pos {l : List St} {sa : Int} (hm : MOk l sa) (subj : List UInt8) (at_ : Nat) {now : List Nat} (hl : ∀ x ∈ now, x < l.length) :
    (∀ x ∈ stepF l sa subj at_ now, x < l.length) ∧ 1 ≤ (stepF l sa subj at_ now).length ∧ (stepF l sa subj at_ now).length ≤ l.length := by
  obtain ⟨g1, g2⟩ := add_spec (hm.outs (at_ == 0) (at_ == subj.length)) (good_nil l _ _) hm.start
  obtain ⟨h1, h2⟩ := foldF_spec hm _ _ (byteN subj at_) now _ hl g1
  refine ⟨h1.lt, ?_, nodup_le h1.nodup h1.lt⟩
  have : sa.toNat ∈ stepF l sa subj at_ now := (h2 _).2 (.inl ((g2 _).2 (.inr .refl)))
  exact List.length_pos_of_mem this
theorem over_ge {l : List St} {sa : Int} (subj : List UInt8) : ∀ (k at_ : Nat) (now : List Nat) (s : Int), s ≤ (overF l sa subj k at_ now s).2
  | 0, _, _, s => by rw [overF]; exact Int.le_refl _
  | k + 1, at_, now, s => by
    rw [overF]
    split
    · simp only; omega
    · have := over_ge (l := l) (sa := sa) subj k (at_ + 1) (stepF l sa subj at_ now) (s + (stepF l sa subj at_ now).length)
      omega
theorem over_bd {l : List St} {sa : Int} (hm : MOk l sa) (subj : List UInt8) : ∀ (k at_ : Nat) (now : List Nat) (s : Int), (∀ x ∈ now, x < l.length) → (overF l sa subj k at_ now s).2 ≤ s + k * l.length ∧ (0 < k → s + 1 ≤ (overF l sa subj k at_ now s).2)
  | 0, _, _, s, _ => by rw [overF]; simp
  | k + 1, at_, now, s, hl => by
    obtain ⟨h1, h2, h3⟩ := step_pos hm subj at_ hl
    have e1 : (((k + 1 : Nat) : Int)) * (l.length : Int) = k * l.length + l.length := by rw [Int.natCast_add, Int.add_mul]; simp
    have e2 : 0 ≤ (k : Int) * (l.length : Int) := Int.mul_nonneg (by omega) (by omega)
    rw [overF, e1]
    split
    · simp only; omega
    · have := over_bd hm subj k (at_ + 1) _ (s + (stepF l sa subj at_ now).length) h1
      have := over_ge (l := l) (sa := sa) subj k (at_ + 1) (stepF l sa subj at_ now) (s + (stepF l sa subj at_ now).length)
      omega

/-- More behind a subject, where no state asks for its end. -/
theorem outs_any {l : List St} (h : ∀ i, i < l.length → (stN l i).k ≠ 4) (b e : Bool) (i : Nat) : outs b e (stN l i) = outs b false (stN l i) := by
  have hk : (stN l i).k ≠ 4 := by
    by_cases hi : i < l.length
    · exact h i hi
    · have : stN l i = default := by unfold stN; simp [List.getD_eq_getElem?_getD, List.getElem?_eq_none (Nat.le_of_not_lt hi)]
      rw [this]; decide
  unfold outs
  simp [hk]
theorem loop_any {l : List St} (h : ∀ i, i < l.length → (stN l i).k ≠ 4) (b e : Bool) : ∀ (k fr : Nat) (X : List Nat), loopF l b e k fr X = loopF l b false k fr X
  | 0, _, _ => rfl
  | k + 1, fr, X => by rw [loopF, loopF, outs_any h b e, loop_any h b e k]
theorem addF_any {l : List St} (h : ∀ i, i < l.length → (stN l i).k ≠ 4) (b e : Bool) (X : List Nat) (i : Nat) : addF l b e X i = addF l b false X i := loop_any h b e _ _ _
theorem fold_any {l : List St} (h : ∀ i, i < l.length → (stN l i).k ≠ 4) (b e e' : Bool) (c : Nat) (xs X : List Nat) : xs.foldl (eatF l b e c) X = xs.foldl (eatF l b e' c) X := by
  have : eatF l b e c = eatF l b e' c := by
    funext X i
    unfold eatF
    rw [addF_any h b e, addF_any h b e']
  rw [this]
theorem step_any {l : List St} {sa : Int} (h : ∀ i, i < l.length → (stN l i).k ≠ 4) (subj more : List UInt8) (at_ : Nat) (now : List Nat) (hat : at_ ≤ subj.length) (h0 : at_ = 0 → now = []) : stepF l sa (subj ++ more) at_ now = stepF l sa subj at_ now := by
  unfold stepF
  rw [addF_any h _ (at_ == (subj ++ more).length), addF_any h _ (at_ == subj.length)]
  rcases Nat.eq_zero_or_pos at_ with rfl | hp
  · rw [h0 rfl]; rfl
  · have : byteN (subj ++ more) at_ = byteN subj at_ := by
      unfold byteN
      rw [List.getD_eq_getElem?_getD, List.getD_eq_getElem?_getD, List.getElem?_append_left (by omega)]
    rw [this]
    exact fold_any h _ _ _ _ _ _
theorem over_more {l : List St} {sa : Int} (h : ∀ i, i < l.length → (stN l i).k ≠ 4) (subj more : List UInt8) : ∀ (k at_ : Nat) (now : List Nat) (s : Int), at_ + k = subj.length + 1 → (at_ = 0 → now = []) →
    (overF l sa subj k at_ now s).2 ≤ (overF l sa (subj ++ more) (k + more.length) at_ now s).2 ∧ ((overF l sa subj k at_ now s).1 = true → (overF l sa (subj ++ more) (k + more.length) at_ now s).1 = true ∧ (overF l sa (subj ++ more) (k + more.length) at_ now s).2 = (overF l sa subj k at_ now s).2)
  | 0, at_, now, s, _, _ => by
    rw [overF]
    exact ⟨over_ge _ _ _ _ _, fun h => by cases h⟩
  | k + 1, at_, now, s, hk, h0 => by
    rw [show k + 1 + more.length = k + more.length + 1 by omega, overF, overF, step_any h subj more at_ now (by omega) h0]
    split
    · exact ⟨Int.le_refl _, fun _ => ⟨rfl, rfl⟩⟩
    · exact over_more h subj more k (at_ + 1) _ _ (by omega) (by omega)
end Go.Proofs.YtdpmbanfaigmcaaDoor

/- match.runner: put, add: walked. -/
set_option linter.unusedVariables false
set_option linter.unusedSimpArgs false
namespace Go.Proofs.YtdpmbanfaigmcaaDoor
open Go.RowKit

theorem Tryd.infoInt : (Tryd.prog.info? 3).map (fun i => (i.zero, i.size, i.bytes)) = some (some (.int .i64 0), 1, 8) := by kernel_rfl
def ints (X : List Nat) : List Value := X.map fun i : Nat => Value.int .i64 (i : Int)
theorem ints_len (X : List Nat) : (ints X).length = X.length := by simp [ints]
theorem ints_snoc (X : List Nat) (i : Nat) : ints (X ++ [i]) = ints X ++ [.int .i64 (i : Int)] := by simp [ints]
/-- The next places, as they lie in memory: q: the runner's block, T: the block of what is there. -/
structure Nxt (w : World) (B q T N : Nat) (X : List Nat) (n : Nat) (A : Option Addr) (c : Nat) : Prop where
  len : X.length = n
  f4 : w.cell? ⟨q, 4, none⟩ = some (.slice A n c)
  f5 : w.cell? ⟨q, 5, none⟩ = some (.slice (some ⟨T, 0, none⟩) N N)
  z4 : w.frozen? ⟨q, 4, none⟩ = false
  row : w.ownsRow B 3 1 (.slice A n c) n (ints X)
  th : ∀ i, i < N → w.cell? ⟨T, i, none⟩ = some (.bool (decide (i ∈ X)))
  tz : ∀ i, w.frozen? ⟨T, i, none⟩ = false
  lq : q < w.heap.size
  lT : T < w.heap.size
  qT : q ≠ T
  rq : (Value.slice A n c).ownBlock ≠ some q
  rT : (Value.slice A n c).ownBlock ≠ some T
  lt : ∀ x ∈ X, x < N
  nd : X.Nodup
  hB : B ≤ w.heap.size
/-- What put and add may write. -/
structure Mv (q T : Nat) (o o' : Option Nat) (w w' : World) : Prop where
  os : w'.os = w.os
  tape : w'.tape = w.tape
  output : w'.output = w.output
  size : w.heap.size ≤ w'.heap.size
  block : ∀ k, k < w.heap.size → k ≠ q → k ≠ T → some k ≠ o → w'.heap[k]? = w.heap[k]?
  cell : ∀ i, i ≠ 4 → w'.cell? ⟨q, i, none⟩ = w.cell? ⟨q, i, none⟩
  froz : ∀ i, w'.frozen? ⟨q, i, none⟩ = w.frozen? ⟨q, i, none⟩
  own : o' = o ∨ ∃ g, o' = some g ∧ w.heap.size ≤ g
theorem Mv.refl (q T : Nat) (o : Option Nat) (w : World) : Mv q T o o w w := ⟨rfl, rfl, rfl, Nat.le_refl _, fun _ _ _ _ _ => rfl, fun _ _ => rfl, fun _ => rfl, .inl rfl⟩
theorem Mv.trans {q T : Nat} {o o1 o2 : Option Nat} {w w1 w2 : World} (h : Mv q T o o1 w w1) (k : Mv q T o1 o2 w1 w2) : Mv q T o o2 w w2 := by
  refine ⟨k.os.trans h.os, k.tape.trans h.tape, k.output.trans h.output, Nat.le_trans h.size k.size, fun b hb h1 h2 h3 => (k.block b (Nat.lt_of_lt_of_le hb h.size) h1 h2 ?_).trans (h.block b hb h1 h2 h3), fun i hi => (k.cell i hi).trans (h.cell i hi), fun i => (k.froz i).trans (h.froz i), ?_⟩
  · rcases h.own with e | ⟨g, e, hg⟩
    · rw [e]; exact h3
    · rw [e]; intro e'; simp only [Option.some.injEq] at e'; omega
  · rcases k.own with e | ⟨g, e, hg⟩
    · rw [e]; exact h.own
    · exact .inr ⟨g, e, Nat.le_trans h.size hg⟩

set_option maxRecDepth 100000 in
set_option maxHeartbeats 2000000 in
theorem put_any (w : World) (B q T N : Nat) (X : List Nat) (n : Nat) (A : Option Addr) (c : Nat) (h : Nxt w B q T N X n A c) (hN : N ≤ 5000) (i : Nat) (hi : i < N) :
    Calls Tryd.prog 66 #[.pointer (some ⟨q, 0, none⟩), .int .i64 (i : Int)] w fun en w' => en = .returned (.tuple #[]) ∧ ∃ n' A' c', Nxt w' B q T N (putF X i) n' A' c' ∧ Mv q T (Value.slice A n c).ownBlock (Value.slice A' n' c').ownBlock w w' := by
  have f4 := h.f4; have f5 := h.f5
  have tc := h.th i hi
  have tz := h.tz i
  have lT := h.lT; have lq := h.lq; have qT := h.qT
  have hn : n ≤ N := by rw [← h.len]; exact nodup_le h.nd h.lt
  by_cases hx : i ∈ X
  · have hp : putF X i = X := if_pos hx
    rw [hp]
    rw [decide_eq_true hx] at tc
    have H := Lib.hid h; clear h hp hx
    go_enter Tryd.func66, Tryd.ntmps66
    go_wp2_with fail
    go_end0
    exact ⟨rfl, n, A, c, H.out, Mv.refl _ _ _ _⟩
  · have hp : putF X i = X ++ [i] := if_neg hx
    rw [hp]
    rw [decide_eq_false hx] at tc
    have z4 := h.z4
    have H := Lib.hid h; have Hx := Lib.hid hx; clear h hp hx
    go_enter Tryd.func66, Tryd.ntmps66
    go_upto_region 2 with fail
    generalize hW : w.setCell _ _ = W1
    have W1b : ∀ k, k ≠ T → W1.heap[k]? = w.heap[k]? := fun k hk => by subst hW; exact Below.heap_setCell _ _ _ _ hk
    have W1z : W1.heap.size = w.heap.size := by subst hW; simp
    have W1t : ∀ j, j < N → W1.cell? ⟨T, j, none⟩ = some (.bool (decide (j ∈ X ++ [i]))) := fun j hj => by
      subst hW
      by_cases e : i = j
      · subst e
        rw [World.cell?_setCell_same _ _ _ (H.out.th i hi)]
        simp
      · rw [World.cell?_setCell_other _ _ _ _ (by simp [e]), H.out.th j hj]
        simp [Ne.symm e]
    have W1f : ∀ a, W1.frozen? a = w.frozen? a := fun a => by subst hW; rw [World.frozen?_setCell]
    have W1e : W1.os = w.os ∧ W1.tape = w.tape ∧ W1.output = w.output := by subst hW; exact ⟨rfl, rfl, rfl⟩
    have g4 : W1.cell? ⟨q, 4, none⟩ = some (.slice A n c) := (World.cell?_of_block (w := w) (a := ⟨q, 4, none⟩) (W1b q qT)).trans f4
    have g5 : W1.frozen? ⟨q, 4, none⟩ = false := (W1f _).trans z4
    have lq1 : q < W1.heap.size := by omega
    have hrow : W1.ownsRow B 3 1 (.slice A n c) n (ints X) := H.out.row.kept (w' := W1) (row := some T) ⟨W1e.1, W1e.2.1, W1e.2.2, by omega, fun k hk hne => W1b k (by simpa using hne)⟩ (.inr H.out.rT)
    have Hrow := Lib.hid hrow; have HW1b := Lib.hid W1b; have HW1t := Lib.hid W1t; have HW1f := Lib.hid W1f; have HW1e := Lib.hid W1e; have HW1z := Lib.hid W1z
    have hnews : ∀ ad, some (⟨W1.heap.size, 0, none⟩ : Addr) = some ad → ∀ j u, (ints [i])[j]? = some u → (W1.alloc (.cells (ints [i]).toArray 3)).cell? (ad.add j) = some u := fun ad e j u hu => by
      simp only [Option.some.injEq] at e
      subst e
      rw [addr_addX, World.cell?_alloc_new, Nat.zero_add]
      simpa using hu
    have Hnews := Lib.hid hnews
    have hBz : B ≤ W1.heap.size := by have := H.out.hB; omega
    clear hW hrow W1b W1t W1f W1e W1z hnews tc tz f4 f5 z4
    go_wp2_with (at_builtin; refine wpList_append_fromX B rfl _ _ 83 3 _ 1 8 rfl Tryd.underlying83 Tryd.infoInt rfl (by omega) (by omega) (.slice A n c) n 1 (ints X) (ints [i]) (some ⟨W1.heap.size, 0, none⟩) 1 rfl rfl (by simp) rfl Hnews.out (by simp [ints, Value.oneCell']) (Hrow.out.alloc _) (by simp; omega) (by omega) (fun A5 c5 w5 ho5 hg5 hat5 => ?_); have hqb : w5.heap[q]? = W1.heap[q]? := (hg5.block q (by simp; omega) (fun e => H.out.rq e.symm)).trans (((Below.refl W1.heap.size W1).alloc (Nat.le_refl _) _).block q lq1); have k4 : w5.cell? ⟨q, 4, none⟩ = some (.slice A n c) := (World.cell?_of_block (w := W1) (a := ⟨q, 4, none⟩) hqb).trans g4; have e4 : w5.frozen? ⟨q, 4, none⟩ = false := (World.frozen?_of_block (w := W1) (a := ⟨q, 4, none⟩) hqb).trans g5; have Hqb := Lib.hid hqb; have Ho5 := Lib.hid ho5; have Hg5 := Lib.hid hg5; have Hat5 := Lib.hid hat5; clear hqb ho5 hg5 hat5)
    go_end0
    have hz1 := HW1z.out
    have hz5 : W1.heap.size + 1 ≤ w5.heap.size := by have := Hg5.out.size; simpa using this
    have hblk : ∀ k, k < w.heap.size → k ≠ T → some k ≠ (Value.slice A n c).ownBlock → w5.heap[k]? = w.heap[k]? := fun k hk h1 h2 => ((Hg5.out.block k (by simp; omega) h2).trans (((Below.refl W1.heap.size W1).alloc (Nat.le_refl _) _).block k (by omega))).trans (HW1b.out k h1)
    have hqw : w5.heap[q]? = w.heap[q]? := Hqb.out.trans (HW1b.out q qT)
    have hTw : w5.heap[T]? = W1.heap[T]? := (Hg5.out.block T (by simp; omega) (fun e => H.out.rT e.symm)).trans (((Below.refl W1.heap.size W1).alloc (Nat.le_refl _) _).block T (by omega))
    have hown : (Value.slice A5 (n + 1) c5).ownBlock = (Value.slice A n c).ownBlock ∨ (Value.slice A5 (n + 1) c5).ownBlock = some (W1.heap.size + 1) := Hat5.out.imp (fun e => e) (fun e => by rw [e]; simp)
    have hneq : (Value.slice A5 (n + 1) c5).ownBlock ≠ some q := by
      rcases hown with e | e
      · rw [e]; exact H.out.rq
      · rw [e]; simp; omega
    have hneT : (Value.slice A5 (n + 1) c5).ownBlock ≠ some T := by
      rcases hown with e | e
      · rw [e]; exact H.out.rT
      · rw [e]; simp; omega
    have hset : ∀ k, k ≠ q → (w5.setCell ⟨q, 4, none⟩ (.slice A5 (n + 1) c5)).heap[k]? = w5.heap[k]? := fun k hk => Below.heap_setCell _ _ _ _ hk
    refine ⟨rfl, n + 1, A5, c5, ⟨by simp [H.out.len], World.cell?_setCell_same _ _ _ k4, ?_, ?_, ?_, fun j hj => ?_, fun j => ?_, by simp; omega, by simp; omega, qT, hneq, hneT, fun x hx' => ?_, ?_, by have := H.out.hB; simp; omega⟩, ⟨?_, ?_, ?_, by simp; omega, fun k hk h1 h2 h3 => (hset k h1).trans (hblk k hk h2 h3), fun j hj => ?_, fun j => ?_, ?_⟩⟩
    · exact (World.cell?_setCell_other _ _ _ _ (by simp)).trans ((World.cell?_of_block (w := w) (a := ⟨q, 5, none⟩) hqw).trans H.out.f5)
    · rw [World.frozen?_setCell]; exact e4
    · rw [ints_snoc]
      exact Ho5.out.kept (row := some q) ⟨rfl, rfl, rfl, by simp, fun k hk hne => hset k (by simpa using hne)⟩ (.inr hneq)
    · exact (World.cell?_of_block (w := W1) (a := ⟨T, j, none⟩) ((hset T (fun e => qT e.symm)).trans hTw)).trans (HW1t.out j hj)
    · rw [World.frozen?_setCell]
      exact ((World.frozen?_of_block (w := W1) (a := ⟨T, j, none⟩) hTw).trans (HW1f.out _)).trans (H.out.tz j)
    · rcases List.mem_append.1 hx' with h' | h'
      · exact H.out.lt x h'
      · simp at h'; omega
    · have := put_nodup H.out.nd i
      rwa [putF, if_neg Hx.out] at this
    · exact (Hg5.out.os).trans HW1e.out.1
    · exact (Hg5.out.tape).trans HW1e.out.2.1
    · exact (Hg5.out.output).trans HW1e.out.2.2
    · exact (World.cell?_setCell_other _ _ _ _ (by simp <;> omega)).trans (World.cell?_of_block (w := w) (a := ⟨q, j, none⟩) hqw)
    · rw [World.frozen?_setCell]; exact World.frozen?_of_block (w := w) (a := ⟨q, j, none⟩) hqw
    · rcases hown with e | e
      · exact .inl e
      · exact .inr ⟨_, e, by omega⟩
end Go.Proofs.YtdpmbanfaigmcaaDoor

/- match.runner.add: walked. -/
set_option linter.unusedVariables false
set_option linter.unusedSimpArgs false
namespace Go.Proofs.YtdpmbanfaigmcaaDoor
open Go.RowKit

theorem Nxt.later {w w' : World} {B q T N : Nat} {X : List Nat} {n : Nat} {A : Option Addr} {c : Nat} (h : Nxt w B q T N X n A c) (hb : Below w.heap.size w w') : Nxt w' B q T N X n A c :=
  ⟨h.len, (hb.cell (p := ⟨q, 4, none⟩) h.lq).trans h.f4, (hb.cell (p := ⟨q, 5, none⟩) h.lq).trans h.f5, (hb.frozen (p := ⟨q, 4, none⟩) h.lq).trans h.z4, h.row.kept (row := none) ⟨hb.os, hb.tape, hb.output, hb.size, fun k hk _ => hb.block k hk⟩ (by cases hv : (Value.slice A n c).ownBlock <;> simp), fun i hi => (hb.cell (p := ⟨T, i, none⟩) h.lT).trans (h.th i hi), fun i => (hb.frozen (p := ⟨T, i, none⟩) h.lT).trans (h.tz i), Nat.lt_of_lt_of_le h.lq hb.size, Nat.lt_of_lt_of_le h.lT hb.size, h.qT, h.rq, h.rT, h.lt, h.nd, Nat.le_trans h.hB hb.size⟩
theorem Mv.of_below {q T : Nat} {o : Option Nat} {w w' : World} (hq : q < w.heap.size) (hb : Below w.heap.size w w') : Mv q T o o w w' :=
  ⟨hb.os, hb.tape, hb.output, hb.size, fun k hk _ _ _ => hb.block k hk, fun i _ => hb.cell (p := ⟨q, i, none⟩) hq, fun i => hb.frozen (p := ⟨q, i, none⟩) hq, .inl rfl⟩
theorem Mv.below {q T : Nat} {o o' : Option Nat} {w w' : World} (h : Mv q T o o' w w') {S : Nat} (hq : S ≤ q) (hT : S ≤ T) (ho : ∀ k, o = some k → S ≤ k) (hs : S ≤ w.heap.size) : Below S w w' :=
  ⟨h.os, h.tape, h.output, h.size, fun k hk => h.block k (by omega) (by omega) (by omega) (fun e => by have := ho k e.symm; omega)⟩
theorem Nxt.own_le {w : World} {B q T N : Nat} {X : List Nat} {n : Nat} {A : Option Addr} {c : Nat} (h : Nxt w B q T N X n A c) : ∀ k, (Value.slice A n c).ownBlock = some k → B ≤ k ∧ k < w.heap.size := fun k hk => h.row.lt k hk
/-- An entry of the list of places. -/
theorem Nxt.at_ {w : World} {B q T N : Nat} {X : List Nat} {n : Nat} {A : Option Addr} {c : Nat} (h : Nxt w B q T N X n A c) {i : Nat} (hi : i < n) : ∃ g, A = some ⟨g, 0, none⟩ ∧ g < w.heap.size ∧ n ≤ c ∧ w.cell? ⟨g, i, none⟩ = some (.int .i64 ((X.getD i 0 : Nat) : Int)) := by
  have hl := h.len
  rcases h.row.2 with ⟨_, h0⟩ | ⟨g, cap, cur, e, hb, hh, hcap, _⟩
  · omega
  · simp only [Value.slice.injEq] at e
    obtain ⟨rfl, _, rfl⟩ := e
    refine ⟨g, rfl, by (rcases Nat.lt_or_ge g w.heap.size with h' | h'; exact h'; rw [Array.getElem?_eq_none h'] at hh; simp at hh), hcap, ?_⟩
    rw [h.row.cellAt i (by omega)]
    simp [ints, List.getD_eq_getElem?_getD, List.getElem?_eq_getElem (show i < X.length by omega)]

set_option maxRecDepth 100000 in
set_option maxHeartbeats 4000000 in
theorem add_par (w : World) (B q T S : Nat) (l : List St) (sa : Int) (hm : MOk l sa) (ok : Nat → Prop) (Am : Option Addr) (cm : Nat) (b e : Bool) (hS : StsAt w ok l Am cm) (hok : ∀ k, ok k → k < S) (hq : S ≤ q) (hT : S ≤ T) (hBS : S ≤ B)
    (m0 : w.cell? ⟨q, 0, none⟩ = some (.slice Am l.length cm)) (m6 : w.cell? ⟨q, 6, none⟩ = some (.bool b)) (m7 : w.cell? ⟨q, 7, none⟩ = some (.bool e))
    (X : List Nat) (n : Nat) (A : Option Addr) (c : Nat) (h : Nxt w B q T l.length X n A c) (i : Nat) (hi : i < l.length) :
    Calls Tryd.prog 47 #[.pointer (some ⟨q, 0, none⟩), .int .i64 (i : Int)] w fun en w' => en = .returned (.tuple #[]) ∧ ∃ n' A' c', Nxt w' B q T l.length (addF l b e X i) n' A' c' ∧ Mv q T (Value.slice A n c).ownBlock (Value.slice A' n' c').ownBlock w w' := by
  have hN : l.length ≤ 5000 := by have := hm.len; omega
  have hn : n ≤ l.length := by rw [← h.len]; exact nodup_le h.nd h.lt
  have hXn := h.len
  have f4 := h.f4
  have lq := h.lq
  have hBz := h.hB
  have H := Lib.hid h; have HM := Lib.hid hm; have HS := Lib.hid hS; have HOk := Lib.hid hok; have HXn := Lib.hid hXn
  have hol := h.own_le
  have Hol := Lib.hid hol
  clear h hm hS hok hXn hol
  go_enter Tryd.func47, Tryd.ntmps47
  go_wp2_with fail
  refine (put_any w B q T l.length X n A c H.out hN i hi).mono ?_
  rintro en w1 ⟨rfl, n1, A1, c1, h1, hv1⟩
  have H1 := Lib.hid h1; have Hv1 := Lib.hid hv1
  clear h1 hv1 f4
  go_wp2_with fail
  go_loopg [4] (l.length - n) (fun k v wr => ∃ (fr : Nat) (Y : List Nat) (nY : Nat) (AY : Option Addr) (cY : Nat), v = .int .i64 (fr : Int) ∧ fr + k = l.length ∧ loopF l b e k fr Y = addF l b e X i ∧ Nxt wr B q T l.length Y nY AY cY ∧ Mv q T (Value.slice A n c).ownBlock (Value.slice AY nY cY).ownBlock w wr)
  case atStart => exact ⟨n, putF X i, n1, A1, c1, rfl, by omega, by rw [addF, HXn.out], H1.out, Hv1.out⟩
  case round =>
    clear H1 Hv1
    obtain ⟨fr, Y, nY, AY, cY, rfl, hfr, hl, hY, hv⟩ := hrel
    have g4 := hY.f4
    have lqr := hY.lq
    have lTr := hY.lT
    have hnY : nY ≤ l.length := by rw [← hY.len]; exact nodup_le hY.nd hY.lt
    have hBel : Below S w wr := hv.below hq hT (fun k hk => by have := Hol.out k hk; omega) (by omega)
    have HY := Lib.hid hY; have Hl := Lib.hid hl; have Hv := Lib.hid hv
    by_cases hlt : fr < nY
    · obtain ⟨g, rfl, hg, hcY, hcell⟩ := hY.at_ hlt
      have hx : Y.getD fr 0 < l.length := hY.lt _ (by rw [List.getD_eq_getElem?_getD, List.getElem?_eq_getElem (by rw [hY.len]; exact hlt)]; exact List.getElem_mem _)
      have hsk := HM.out.kinds hx
      have hfold : loopF l b e gk fr Y = loopF l b e (gk - 1) (fr + 1) ((outs b e (stN l (Y.getD fr 0))).foldl putF Y) := by
        obtain ⟨k, rfl⟩ : ∃ k, gk = k + 1 := ⟨gk - 1, by omega⟩
        rw [loopF, if_pos (by rw [hY.len]; exact hlt)]; rfl
      rw [hfold] at hl
      have Hl := Lib.hid hl
      clear hfold hl
      obtain ⟨gm, om, rfl, hgm, hst⟩ := (HS.out.later hBel HOk.out).at_ (by omega)
      have hstx := hst (Y.getD fr 0) hx
      have hsN : l[Y.getD fr 0] = stN l (Y.getD fr 0) := by unfold stN; rw [List.getD_eq_getElem?_getD (l := l), List.getElem?_eq_getElem hx]; rfl
      rw [hsN] at hstx
      clear hst hsN
      generalize hxe : Y.getD fr 0 = x at *
      generalize stN l x = s at *
      have hgS := HOk.out gm hgm
      have k0 := (hv.cell 0 (by omega)).trans m0
      have k6 := (hv.cell 6 (by omega)).trans m6
      have k7 := (hv.cell 7 (by omega)).trans m7
      have hcS := HS.out.cap
      obtain ⟨sk, s0, s1, s2, s3, nx, ot⟩ := s
      obtain ⟨f0, f1, f2, f3, f4, f5, f6⟩ := hstx
      simp only at f0 f1 f2 f3 f4 f5 f6 hsk
      have hgw : gm < wr.heap.size := by omega
      clear hY hv hxe
      rcases hsk with rfl | ⟨hk, hn0, hn1⟩ | ⟨rfl, ⟨hn0, hn1⟩, ho0, ho1⟩
      · have ho : outs b e ⟨5, s0, s1, s2, s3, nx, ot⟩ = [] := by simp [outs]
        rw [ho] at Hl
        clear ho
        go_upto_region 4 with fail
        go_region
        all_goals go_wp2_with fail
        generalize hW : (wr.alloc _).drew = W2
        have hb2 : Below wr.heap.size wr W2 := by subst hW; exact ((Below.refl _ _).alloc (Nat.le_refl _) _).drew
        have HY2 := Lib.hid (HY.out.later hb2)
        have Hv2 := Lib.hid (Hv.out.trans (Mv.of_below lqr hb2))
        clear hW
        go_roundg (gk - 1)
        case measure => omega
        case rel => exact ⟨fr + 1, _, _, _, _, by go_num, by omega, Hl.out, HY2.out, Hv2.out⟩
      · obtain ⟨x1, rfl⟩ : ∃ x1 : Nat, nx = x1 := ⟨nx.toNat, by omega⟩
        have hx1 : x1 < l.length := by omega
        rcases hk with rfl | rfl | rfl
        · have ho : outs b e ⟨1, s0, s1, s2, s3, x1, ot⟩ = [] := by simp [outs]
          rw [ho] at Hl
          clear ho
          go_upto_region 4 with fail
          go_region
          all_goals go_wp2_with fail
          generalize hW : (wr.alloc _).drew = W2
          have hb2 : Below wr.heap.size wr W2 := by subst hW; exact ((Below.refl _ _).alloc (Nat.le_refl _) _).drew
          have HY2 := Lib.hid (HY.out.later hb2)
          have Hv2 := Lib.hid (Hv.out.trans (Mv.of_below lqr hb2))
          clear hW
          go_roundg (gk - 1)
          case measure => omega
          case rel => exact ⟨fr + 1, _, _, _, _, by go_num, by omega, Hl.out, HY2.out, Hv2.out⟩
        · cases b
          · have ho : outs false e ⟨3, s0, s1, s2, s3, x1, ot⟩ = [] := by simp [outs]
            rw [ho] at Hl
            clear ho
            go_upto_region 4 with fail
            go_region
            all_goals go_wp2_with fail
            generalize hW : (wr.alloc _).drew = W2
            have hb2 : Below wr.heap.size wr W2 := by subst hW; exact ((Below.refl _ _).alloc (Nat.le_refl _) _).drew
            have HY2 := Lib.hid (HY.out.later hb2)
            have Hv2 := Lib.hid (Hv.out.trans (Mv.of_below lqr hb2))
            clear hW
            go_roundg (gk - 1)
            case measure => omega
            case rel => exact ⟨fr + 1, _, _, _, _, by go_num, by omega, Hl.out, HY2.out, Hv2.out⟩
          · have ho : outs true e ⟨3, s0, s1, s2, s3, x1, ot⟩ = [x1] := by simp [outs]
            rw [ho] at Hl
            clear ho
            go_upto_region 4 with fail
            go_region
            all_goals go_wp2_with fail
            generalize hW : (wr.alloc _).drew = W2
            have hb2 : Below wr.heap.size wr W2 := by subst hW; exact ((Below.refl _ _).alloc (Nat.le_refl _) _).drew
            have HY2 := Lib.hid (HY.out.later hb2)
            have Hv2 := Lib.hid (Hv.out.trans (Mv.of_below lqr hb2))
            clear hW
            refine (put_any W2 B q T l.length Y nY _ cY HY2.out hN x1 hx1).mono ?_
            rintro en w3 ⟨rfl, n3, A3, c3, h3, hv3⟩
            have H3 := Lib.hid h3; have Hv3 := Lib.hid (Hv2.out.trans hv3)
            clear h3 hv3
            go_wp2_with fail
            go_roundg (gk - 1)
            case measure => omega
            case rel => exact ⟨fr + 1, _, _, _, _, by go_num, by omega, Hl.out, H3.out, Hv3.out⟩
        · cases e
          · have ho : outs b false ⟨4, s0, s1, s2, s3, x1, ot⟩ = [] := by simp [outs]
            rw [ho] at Hl
            clear ho
            go_upto_region 4 with fail
            go_region
            all_goals go_wp2_with fail
            generalize hW : (wr.alloc _).drew = W2
            have hb2 : Below wr.heap.size wr W2 := by subst hW; exact ((Below.refl _ _).alloc (Nat.le_refl _) _).drew
            have HY2 := Lib.hid (HY.out.later hb2)
            have Hv2 := Lib.hid (Hv.out.trans (Mv.of_below lqr hb2))
            clear hW
            go_roundg (gk - 1)
            case measure => omega
            case rel => exact ⟨fr + 1, _, _, _, _, by go_num, by omega, Hl.out, HY2.out, Hv2.out⟩
          · have ho : outs b true ⟨4, s0, s1, s2, s3, x1, ot⟩ = [x1] := by simp [outs]
            rw [ho] at Hl
            clear ho
            go_upto_region 4 with fail
            go_region
            all_goals go_wp2_with fail
            generalize hW : (wr.alloc _).drew = W2
            have hb2 : Below wr.heap.size wr W2 := by subst hW; exact ((Below.refl _ _).alloc (Nat.le_refl _) _).drew
            have HY2 := Lib.hid (HY.out.later hb2)
            have Hv2 := Lib.hid (Hv.out.trans (Mv.of_below lqr hb2))
            clear hW
            refine (put_any W2 B q T l.length Y nY _ cY HY2.out hN x1 hx1).mono ?_
            rintro en w3 ⟨rfl, n3, A3, c3, h3, hv3⟩
            have H3 := Lib.hid h3; have Hv3 := Lib.hid (Hv2.out.trans hv3)
            clear h3 hv3
            go_wp2_with fail
            go_roundg (gk - 1)
            case measure => omega
            case rel => exact ⟨fr + 1, _, _, _, _, by go_num, by omega, Hl.out, H3.out, Hv3.out⟩
      · obtain ⟨x1, rfl⟩ : ∃ x1 : Nat, nx = x1 := ⟨nx.toNat, by omega⟩
        obtain ⟨x2, rfl⟩ : ∃ x2 : Nat, ot = x2 := ⟨ot.toNat, by omega⟩
        have hx1 : x1 < l.length := by omega
        have hx2 : x2 < l.length := by omega
        have ho : outs b e ⟨2, s0, s1, s2, s3, x1, x2⟩ = [x1, x2] := by simp [outs]
        rw [ho] at Hl
        clear ho
        go_upto_region 4 with fail
        go_region
        all_goals go_wp2_with fail
        generalize hW : (wr.alloc _).drew = W2
        have hb2 : Below wr.heap.size wr W2 := by subst hW; exact ((Below.refl _ _).alloc (Nat.le_refl _) _).drew
        have HY2 := Lib.hid (HY.out.later hb2)
        have Hv2 := Lib.hid (Hv.out.trans (Mv.of_below lqr hb2))
        have b3 : W2.cell? ⟨wr.heap.size, 6, none⟩ = some (.int .i64 x2) := by subst hW; simp [go_sem]
        have lb : wr.heap.size < W2.heap.size := by subst hW; simp
        clear hW
        refine (put_any W2 B q T l.length Y nY _ cY HY2.out hN x1 hx1).mono ?_
        rintro en w3 ⟨rfl, n3, A3, c3, h3, hv3⟩
        have b4 := (World.cell?_of_block (w := W2) (a := ⟨wr.heap.size, 6, none⟩) (hv3.block wr.heap.size lb (by omega) (by omega) (fun e' => by have := HY.out.own_le _ e'.symm; omega))).trans b3
        have lb3 : wr.heap.size < w3.heap.size := by have := hv3.size; omega
        have H3 := Lib.hid h3; have Hv3 := Lib.hid (Hv2.out.trans hv3)
        clear h3 hv3 b3
        go_wp2_with fail
        refine (put_any w3 B q T l.length (putF Y x1) n3 A3 c3 H3.out hN x2 hx2).mono ?_
        rintro en w4 ⟨rfl, n4, A4, c4, h4, hv4⟩
        have H4 := Lib.hid h4; have Hv4 := Lib.hid (Hv3.out.trans hv4)
        clear h4 hv4 b4
        go_wp2_with fail
        go_roundg (gk - 1)
        case measure => omega
        case rel => exact ⟨fr + 1, _, _, _, _, by go_num, by omega, Hl.out, H4.out, Hv4.out⟩
    · have hfin : Y = addF l b e X i := by
        rw [← Hl.out]
        cases gk with
        | zero => rw [loopF]
        | succ k => rw [loopF, if_neg (by rw [hY.len]; exact hlt)]
      clear hY hv hl
      go_wp2_with fail
      go_end0
      exact ⟨rfl, nY, AY, cY, by rw [← hfin]; exact HY.out, Hv.out⟩
end Go.Proofs.YtdpmbanfaigmcaaDoor

/- match.places.empty: walked. -/
set_option linter.unusedVariables false
set_option linter.unusedSimpArgs false
namespace Go.Proofs.YtdpmbanfaigmcaaDoor
open Go.RowKit

theorem Tryd.zeroBool (w : World) : (zeroValue 4).run Tryd.prog w = .ok (.bool false) w := by kernel_rfl
theorem Nxt.trim {w : World} {B : Nat} {X : List Nat} {n : Nat} {A : Option Addr} {c : Nat} (h : w.ownsRow B 3 1 (.slice A n c) n (ints X)) : w.ownsRow B 3 1 (.slice A 0 c) 0 (ints []) := by
  refine ⟨rfl, ?_⟩
  rcases h.2 with ⟨e, _⟩ | ⟨g, cap, cur, e, hb, hh, hcap, hm, hs, _⟩
  · simp only [Value.slice.injEq] at e
    obtain ⟨rfl, _, rfl⟩ := e
    exact .inl ⟨rfl, rfl⟩
  · simp only [Value.slice.injEq] at e
    obtain ⟨rfl, _, rfl⟩ := e
    exact .inr ⟨g, c, cur, rfl, hb, hh, by omega, hm, hs, by simp [ints]⟩

set_option maxRecDepth 100000 in
set_option maxHeartbeats 2000000 in
theorem empty_any (w : World) (B q T N : Nat) (X : List Nat) (n : Nat) (A : Option Addr) (c : Nat) (h : Nxt w B q T N X n A c) (h0 : 0 < N) (hN : N ≤ 5000) :
    Calls Tryd.prog 48 #[.pointer (some ⟨q, 4, none⟩)] w fun en w' => en = .returned (.tuple #[]) ∧ Nxt w' B q T N [] 0 A c ∧ Mv q T (Value.slice A n c).ownBlock (Value.slice A 0 c).ownBlock w w' := by
  have f4 := h.f4; have f5 := h.f5; have z4 := h.z4
  have lT := h.lT; have lq := h.lq; have qT := h.qT
  have hcap : n ≤ c := by
    rcases h.row.2 with ⟨e, h0'⟩ | ⟨g, cap, cur, e, hb, hh, hcap, _⟩
    · omega
    · simp only [Value.slice.injEq] at e; omega
  have hcl : ∀ ty, (Builtin.clear_ #[82] ty #[.slice (some ⟨T, 0, none⟩) N N]).run Tryd.prog w = .ok (.tuple #[]) (w.setCells T 0 (List.replicate N (.bool false))) :=
    fun ty => Lib.run_clear_slice w 82 4 ty (.bool false) Tryd.underlying82 Tryd.zeroBool rfl rfl T 0 N N h0 (fun j hj => by rw [Nat.zero_add, h.th j hj]; rfl) (fun j hj => h.tz _)
  generalize hW : w.setCells T 0 (List.replicate N (.bool false)) = W1 at *
  have hz1 : w.heap.size ≤ W1.heap.size := by rw [← hW]; exact (Lib.below_setCells T (Nat.zero_le _) _ 0 (Below.refl 0 w)).size
  have hbel : Below 0 w W1 := by rw [← hW]; exact Lib.below_setCells T (Nat.zero_le _) _ 0 (Below.refl 0 w)
  have hblk : ∀ k, k < w.heap.size → k ≠ T → W1.heap[k]? = w.heap[k]? := fun k hk hn => by rw [← hW]; exact World.heap_setCells_other w T 0 _ hk hn
  have hth : ∀ i, i < N → W1.cell? ⟨T, i, none⟩ = some (.bool false) := fun i hi => by
    rw [← hW]
    have := World.cell?_setCells_in T (List.replicate N (.bool false)) 0 w (fun j hj => by rw [Nat.zero_add, h.th j (by simpa using hj)]; rfl) i (by simpa using hi)
    simpa using this
  have hfz : ∀ a, W1.frozen? a = w.frozen? a := fun a => by rw [← hW]; exact World.frozen?_setCells T _ 0 w a
  have g4 : W1.cell? ⟨q, 4, none⟩ = some (.slice A n c) := (World.cell?_of_block (w := w) (a := ⟨q, 4, none⟩) (hblk q lq qT)).trans f4
  have y4 : W1.frozen? ⟨q, 4, none⟩ = false := (hfz _).trans z4
  have H := Lib.hid h; have Hth := Lib.hid hth; have Hfz := Lib.hid hfz; have Hblk := Lib.hid hblk; have Hbel := Lib.hid hbel
  clear h hth hfz hblk hbel hW
  go_enter Tryd.func48, Tryd.ntmps48
  go_wp2_with (simp only [hcl])
  go_end0
  have hset : ∀ k, k ≠ q → (W1.setCell ⟨q, 4, none⟩ (.slice A 0 c)).heap[k]? = W1.heap[k]? := fun k hk => Below.heap_setCell _ _ _ _ hk
  have hob : (Value.slice A 0 c).ownBlock = (Value.slice A n c).ownBlock := by cases A <;> rfl
  have hrow : W1.ownsRow B 3 1 (.slice A n c) n (ints X) := H.out.row.kept (row := some T) ⟨Hbel.out.os, Hbel.out.tape, Hbel.out.output, hz1, fun k hk hne => Hblk.out k hk (by simpa using hne)⟩ (.inr H.out.rT)
  have hrow2 := hrow.kept (w' := W1.setCell ⟨q, 4, none⟩ (.slice A 0 c)) (row := some q) ⟨rfl, rfl, rfl, by simp, fun k hk hne => hset k (by simpa using hne)⟩ (.inr H.out.rq)
  refine ⟨rfl, ⟨rfl, World.cell?_setCell_same _ _ _ g4, ?_, ?_, Nxt.trim hrow2, fun i hi => ?_, fun i => ?_, by simp; omega, by simp; omega, qT, by rw [hob]; exact H.out.rq, by rw [hob]; exact H.out.rT, by simp, List.nodup_nil, by have := H.out.hB; simp; omega⟩, ⟨Hbel.out.os, Hbel.out.tape, Hbel.out.output, by simpa using hz1, fun k hk h1 h2 _ => (hset k h1).trans (Hblk.out k hk h2), fun i hi => ?_, fun i => ?_, .inl hob⟩⟩
  · exact (World.cell?_setCell_other _ _ _ _ (by simp)).trans ((World.cell?_of_block (w := w) (a := ⟨q, 5, none⟩) (Hblk.out q lq qT)).trans f5)
  · rw [World.frozen?_setCell]; exact y4
  · rw [World.cell?_setCell_other _ _ _ _ (by simp [qT]), Hth.out i hi]; simp
  · rw [World.frozen?_setCell]; exact (Hfz.out _).trans (H.out.tz i)
  · exact (World.cell?_setCell_other _ _ _ _ (by simp <;> omega)).trans (World.cell?_of_block (w := w) (a := ⟨q, i, none⟩) (Hblk.out q lq qT))
  · rw [World.frozen?_setCell]; exact Hfz.out _
end Go.Proofs.YtdpmbanfaigmcaaDoor

/- match.Has's runner, as it lies in memory. Plain. -/
set_option linter.unusedVariables false
set_option linter.unusedSimpArgs false
namespace Go.Proofs.YtdpmbanfaigmcaaDoor
open Go.RowKit

/-- The places at hand. -/
structure Nw (w : World) (B q T N : Nat) (X : List Nat) (n : Nat) (A : Option Addr) (c : Nat) : Prop where
  len : X.length = n
  f2 : w.cell? ⟨q, 2, none⟩ = some (.slice A n c)
  f3 : w.cell? ⟨q, 3, none⟩ = some (.slice (some ⟨T, 0, none⟩) N N)
  row : w.ownsRow B 3 1 (.slice A n c) n (ints X)
  th : ∀ i, i < N → w.cell? ⟨T, i, none⟩ = some (.bool (decide (i ∈ X)))
  tz : ∀ i, w.frozen? ⟨T, i, none⟩ = false
  lT : T < w.heap.size
  qT : q ≠ T
  rq : (Value.slice A n c).ownBlock ≠ some q
  rT : (Value.slice A n c).ownBlock ≠ some T
  lt : ∀ x ∈ X, x < N
  nd : X.Nodup
structure HR (w : World) (B q T1 T2 : Nat) (l : List St) (sa : Int) (Am : Option Addr) (cm : Nat) (b e : Bool) (X : List Nat) (n : Nat) (A : Option Addr) (c : Nat) (Y : List Nat) (m : Nat) (A2 : Option Addr) (c2 : Nat) : Prop where
  m0 : w.cell? ⟨q, 0, none⟩ = some (.slice Am l.length cm)
  m6 : w.cell? ⟨q, 6, none⟩ = some (.bool b)
  m7 : w.cell? ⟨q, 7, none⟩ = some (.bool e)
  z : ∀ o, w.frozen? ⟨q, o, none⟩ = false
  now : Nw w B q T1 l.length X n A c
  next : Nxt w B q T2 l.length Y m A2 c2
  TT : T1 ≠ T2
  oT1 : (Value.slice A2 m c2).ownBlock ≠ some T1
  oT2 : (Value.slice A n c).ownBlock ≠ some T2
  oo : (Value.slice A n c).ownBlock = none ∨ (Value.slice A n c).ownBlock ≠ (Value.slice A2 m c2).ownBlock
  Bq : B ≤ q
  BT1 : B ≤ T1
  BT2 : B ≤ T2
section
variable {w w' : World} {B q T1 T2 : Nat} {l : List St} {sa : Int} {Am : Option Addr} {cm : Nat} {b e : Bool} {X Y : List Nat} {n m : Nat} {A A2 : Option Addr} {c c2 : Nat}
/-- What leaves the row of the list alone. -/
theorem row_keep {v : Value} {k : Nat} {xs : List Value} (h : w.ownsRow B 3 1 v k xs) (ho : w'.os = w.os) (ht : w'.tape = w.tape) (hp : w'.output = w.output) (hz : w.heap.size ≤ w'.heap.size) (hb : ∀ g, v.ownBlock = some g → w'.heap[g]? = w.heap[g]?) : w'.ownsRow B 3 1 v k xs := by
  refine ⟨h.1, ?_⟩
  rcases h.2 with h' | ⟨g, cap, cur, e, hB, hh, h3, h4, h5, h6⟩
  · exact .inl h'
  · exact .inr ⟨g, cap, cur, e, hB, (hb g (by rw [e]; rfl)).trans hh, h3, h4, h5, h6⟩
theorem HR.step {Y' : List Nat} {m' : Nat} {A' : Option Addr} {c' : Nat} (h : HR w B q T1 T2 l sa Am cm b e X n A c Y m A2 c2) (hn : Nxt w' B q T2 l.length Y' m' A' c') (hv : Mv q T2 (Value.slice A2 m c2).ownBlock (Value.slice A' m' c').ownBlock w w') : HR w' B q T1 T2 l sa Am cm b e X n A c Y' m' A' c' := by
  have hk : ∀ g, (Value.slice A n c).ownBlock = some g → w'.heap[g]? = w.heap[g]? := fun g hg => by
    have hlt := (h.now.row.lt g hg).2
    refine hv.block g hlt (fun e' => h.now.rq (by rw [hg, e'])) (fun e' => h.oT2 (by rw [hg, e'])) (fun e' => ?_)
    rcases h.oo with h0 | h0
    · rw [h0] at hg; cases hg
    · exact h0 (by rw [hg]; exact e')
  have hT1 : w'.heap[T1]? = w.heap[T1]? := hv.block T1 h.now.lT (fun e' => h.now.qT e'.symm) h.TT (fun e' => h.oT1 e'.symm)
  refine ⟨(hv.cell 0 (by omega)).trans h.m0, (hv.cell 6 (by omega)).trans h.m6, (hv.cell 7 (by omega)).trans h.m7, fun o => (hv.froz o).trans (h.z o), ⟨h.now.len, (hv.cell 2 (by omega)).trans h.now.f2, (hv.cell 3 (by omega)).trans h.now.f3, row_keep h.now.row hv.os hv.tape hv.output hv.size hk, fun i hi => (World.cell?_of_block (w := w) (a := ⟨T1, i, none⟩) hT1).trans (h.now.th i hi), fun i => (World.frozen?_of_block (w := w) (a := ⟨T1, i, none⟩) hT1).trans (h.now.tz i), Nat.lt_of_lt_of_le h.now.lT hv.size, h.now.qT, h.now.rq, h.now.rT, h.now.lt, h.now.nd⟩, hn, h.TT, ?_, h.oT2, ?_, h.Bq, h.BT1, h.BT2⟩
  · rcases hv.own with e' | ⟨g, e', hg⟩
    · rw [e']; exact h.oT1
    · rw [e']; intro e2; simp only [Option.some.injEq] at e2; have := h.now.lT; omega
  · rcases hv.own with e' | ⟨g, e', hg⟩
    · rw [e']; exact h.oo
    · right
      rw [e']
      intro e2
      have := (h.now.row.lt g e2).2
      omega
theorem HR.later (h : HR w B q T1 T2 l sa Am cm b e X n A c Y m A2 c2) (hb : Below w.heap.size w w') : HR w' B q T1 T2 l sa Am cm b e X n A c Y m A2 c2 :=
  h.step (h.next.later hb) (Mv.of_below h.next.lq hb)
/-- The two marks are set. -/
theorem HR.flags (h : HR w B q T1 T2 l sa Am cm b e X n A c Y m A2 c2) (b' e' : Bool) : HR ((w.setCell ⟨q, 6, none⟩ (.bool b')).setCell ⟨q, 7, none⟩ (.bool e')) B q T1 T2 l sa Am cm b' e' X n A c Y m A2 c2 := by
  have hc : ∀ k o, k ≠ q → ((w.setCell ⟨q, 6, none⟩ (.bool b')).setCell ⟨q, 7, none⟩ (.bool e')).cell? ⟨k, o, none⟩ = w.cell? ⟨k, o, none⟩ := fun k o hk => (World.cell?_setCell_other _ _ _ _ (by simp [Ne.symm hk])).trans (World.cell?_setCell_other _ _ _ _ (by simp [Ne.symm hk]))
  have hq : ∀ o, o ≠ 6 → o ≠ 7 → ((w.setCell ⟨q, 6, none⟩ (.bool b')).setCell ⟨q, 7, none⟩ (.bool e')).cell? ⟨q, o, none⟩ = w.cell? ⟨q, o, none⟩ := fun o h6 h7 => (World.cell?_setCell_other _ _ _ _ (by simp <;> omega)).trans (World.cell?_setCell_other _ _ _ _ (by simp <;> omega))
  have hf : ∀ a, ((w.setCell ⟨q, 6, none⟩ (.bool b')).setCell ⟨q, 7, none⟩ (.bool e')).frozen? a = w.frozen? a := fun a => by rw [World.frozen?_setCell, World.frozen?_setCell]
  have hh : ∀ k, k ≠ q → ((w.setCell ⟨q, 6, none⟩ (.bool b')).setCell ⟨q, 7, none⟩ (.bool e')).heap[k]? = w.heap[k]? := fun k hk => (Below.heap_setCell _ _ _ _ hk).trans (Below.heap_setCell _ _ _ _ hk)
  have hz : ((w.setCell ⟨q, 6, none⟩ (.bool b')).setCell ⟨q, 7, none⟩ (.bool e')).heap.size = w.heap.size := by simp
  have k7 : (w.setCell ⟨q, 6, none⟩ (.bool b')).cell? ⟨q, 7, none⟩ = some (.bool e) := (World.cell?_setCell_other _ _ _ _ (by simp)).trans h.m7
  have x := h.now; have y := h.next
  refine ⟨(hq 0 (by omega) (by omega)).trans h.m0, (World.cell?_setCell_other _ _ _ _ (by simp)).trans (World.cell?_setCell_same _ _ _ h.m6), World.cell?_setCell_same _ _ _ k7, fun o => (hf _).trans (h.z o), ⟨x.len, (hq 2 (by omega) (by omega)).trans x.f2, (hq 3 (by omega) (by omega)).trans x.f3, row_keep x.row rfl rfl rfl (by omega) (fun g hg => hh g (fun e2 => x.rq (by rw [hg, e2]))), fun i hi => (hc T1 i (fun e2 => x.qT e2.symm)).trans (x.th i hi), fun i => (hf _).trans (x.tz i), by rw [hz]; exact x.lT, x.qT, x.rq, x.rT, x.lt, x.nd⟩, ⟨y.len, (hq 4 (by omega) (by omega)).trans y.f4, (hq 5 (by omega) (by omega)).trans y.f5, (hf _).trans y.z4, row_keep y.row rfl rfl rfl (by omega) (fun g hg => hh g (fun e2 => y.rq (by rw [hg, e2]))), fun i hi => (hc T2 i (fun e2 => y.qT e2.symm)).trans (y.th i hi), fun i => (hf _).trans (y.tz i), by rw [hz]; exact y.lq, by rw [hz]; exact y.lT, y.qT, y.rq, y.rT, y.lt, y.nd, by rw [hz]; exact y.hB⟩, h.TT, h.oT1, h.oT2, h.oo, h.Bq, h.BT1, h.BT2⟩
/-- The two are exchanged: whatever world has the cells so. -/
theorem HR.swap (h : HR w B q T1 T2 l sa Am cm b e X n A c Y m A2 c2) (hz : w'.heap.size = w.heap.size) (ho : w'.os = w.os) (ht : w'.tape = w.tape) (hp : w'.output = w.output) (hh : ∀ k, k ≠ q → w'.heap[k]? = w.heap[k]?) (hf : ∀ a, w'.frozen? a = w.frozen? a)
    (c0 : w'.cell? ⟨q, 0, none⟩ = w.cell? ⟨q, 0, none⟩) (c6 : w'.cell? ⟨q, 6, none⟩ = w.cell? ⟨q, 6, none⟩) (c7 : w'.cell? ⟨q, 7, none⟩ = w.cell? ⟨q, 7, none⟩)
    (d2 : w'.cell? ⟨q, 2, none⟩ = some (.slice A2 m c2)) (d3 : w'.cell? ⟨q, 3, none⟩ = some (.slice (some ⟨T2, 0, none⟩) l.length l.length)) (d4 : w'.cell? ⟨q, 4, none⟩ = some (.slice A n c)) (d5 : w'.cell? ⟨q, 5, none⟩ = some (.slice (some ⟨T1, 0, none⟩) l.length l.length)) :
    HR w' B q T2 T1 l sa Am cm b e Y m A2 c2 X n A c := by
  have x := h.now; have y := h.next
  have hc : ∀ k o, k ≠ q → w'.cell? ⟨k, o, none⟩ = w.cell? ⟨k, o, none⟩ := fun k o hk => World.cell?_of_block (w := w) (a := ⟨k, o, none⟩) (hh k hk)
  refine ⟨c0.trans h.m0, c6.trans h.m6, c7.trans h.m7, fun o => (hf _).trans (h.z o), ⟨y.len, d2, d3, row_keep y.row ho ht hp (by omega) (fun g hg => hh g (fun e2 => y.rq (by rw [hg, e2]))), fun i hi => (hc T2 i (fun e2 => y.qT e2.symm)).trans (y.th i hi), fun i => (hf _).trans (y.tz i), by rw [hz]; exact y.lT, y.qT, y.rq, y.rT, y.lt, y.nd⟩, ⟨x.len, d4, d5, (hf _).trans (h.z 4), row_keep x.row ho ht hp (by omega) (fun g hg => hh g (fun e2 => x.rq (by rw [hg, e2]))), fun i hi => (hc T1 i (fun e2 => x.qT e2.symm)).trans (x.th i hi), fun i => (hf _).trans (x.tz i), by rw [hz]; exact y.lq, by rw [hz]; exact x.lT, x.qT, x.rq, x.rT, x.lt, x.nd, by rw [hz]; exact y.hB⟩, fun e2 => h.TT e2.symm, h.oT2, h.oT1, ?_, h.Bq, h.BT2, h.BT1⟩
  cases hv : (Value.slice A2 m c2).ownBlock with
  | none => exact .inl rfl
  | some k =>
    right
    rw [← hv]
    rcases h.oo with h0 | h0
    · rw [h0, hv]; simp
    · exact fun e2 => h0 e2.symm
end
end Go.Proofs.YtdpmbanfaigmcaaDoor

/- What laying a tree makes, as plain functions: the states behind those that lie there, and where the tree begins. -/
set_option linter.unusedVariables false
set_option linter.unusedSimpArgs false
namespace Go.Proofs.YtdpmbanfaigmcaaDoor
open Go.RowKit

abbrev LF := Int → List St → Int × List St
def splitS (nx ot : Int) : St := ⟨2, 0, 0, 0, 0, nx, ot⟩
def splitsF : List Int → List St → Int × List St
  | [], l => (0, l)
  | [x], l => (x, l)
  | b :: bs, l => ((splitsF bs l).2.length, (splitsF bs l).2 ++ [splitS b (splitsF bs l).1])
/-- n times: the part, and a split behind it. -/
def optF (p : LF) (tu : Int) : Nat → Int → List St → Int × List St
  | 0, t, l => (t, l)
  | n + 1, t, l => optF p tu n (p t l).2.length ((p t l).2 ++ [splitS (p t l).1 tu])
/-- n times the part, as long as it lays something. -/
def minF (p : LF) : Nat → Int → List St → Int × List St
  | 0, t, l => (t, l)
  | n + 1, t, l => if (p t l).2.length = l.length then p t l else minF p n (p t l).1 (p t l).2
def setNx (l : List St) (i : Nat) (x : Int) : List St := l.modify i fun s => { s with nx := x }
/-- A repeat without an end: the split, the part behind it. -/
def starF (p : LF) (tu : Int) (l : List St) : Int × List St :=
  (l.length, setNx (p l.length (l ++ [splitS 0 tu])).2 l.length (p l.length (l ++ [splitS 0 tu])).1)
def repF (mn mx : Int) (p : LF) (tu : Int) (l : List St) : Int × List St :=
  let a := if mx < 0 then starF p tu l else optF p tu (mx - mn).toNat tu l
  minF p mn.toNat a.1 a.2

mutual
def layF : T → LF
  | .mk k s0 s1 s2 s3 mn mx ps, tu, l =>
    if k = 1 then (l.length, l ++ [⟨1, s0, s1, s2, s3, tu, 0⟩])
    else if k = 2 then (l.length, l ++ [⟨3, 0, 0, 0, 0, tu, 0⟩])
    else if k = 3 then (l.length, l ++ [⟨4, 0, 0, 0, 0, tu, 0⟩])
    else if k = 4 then rowF ps tu l
    else if k = 5 then splitsF (begF ps tu l).1 (begF ps tu l).2
    else if k = 6 then repF mn mx (headF ps) tu l
    else (tu, l)
/-- The last part first. -/
def rowF : List T → LF
  | [], tu, l => (tu, l)
  | p :: ps, tu, l => layF p (rowF ps tu l).1 (rowF ps tu l).2
def begF : List T → Int → List St → List Int × List St
  | [], tu, l => ([], l)
  | p :: ps, tu, l => ((layF p tu l).1 :: (begF ps tu (layF p tu l).2).1, (begF ps tu (layF p tu l).2).2)
def headF : List T → LF
  | [], tu, l => (tu, l)
  | p :: _, tu, l => layF p tu l
end
theorem layF_eq (t : T) (tu : Int) (l : List St) : layF t tu l =
    if t.k = 1 then ((l.length : Int), l ++ [⟨1, t.s0, t.s1, t.s2, t.s3, tu, 0⟩])
    else if t.k = 2 then ((l.length : Int), l ++ [⟨3, 0, 0, 0, 0, tu, 0⟩])
    else if t.k = 3 then ((l.length : Int), l ++ [⟨4, 0, 0, 0, 0, tu, 0⟩])
    else if t.k = 4 then rowF t.ps tu l
    else if t.k = 5 then splitsF (begF t.ps tu l).1 (begF t.ps tu l).2
    else if t.k = 6 then repF t.mn t.mx (headF t.ps) tu l
    else (tu, l) := by cases t; rw [layF]; rfl

/-- What lays never takes away. -/
def Grows (p : LF) : Prop := ∀ t l, l.length ≤ (p t l).2.length
theorem splitsF_len : ∀ (bs : List Int) (l : List St), (splitsF bs l).2.length = l.length + (bs.length - 1)
  | [], l => by simp [splitsF]
  | [x], l => by simp [splitsF]
  | a :: b :: bs, l => by
    have := splitsF_len (b :: bs) l
    rw [splitsF]
    · simp only [List.length_append, this, List.length_cons, List.length_nil]; omega
    · simp
theorem optF_grows {p : LF} (hp : Grows p) (tu : Int) : ∀ n, Grows (optF p tu n)
  | 0, t, l => by simp [optF]
  | n + 1, t, l => by
    rw [optF]
    have h1 := hp t l
    have h2 := optF_grows hp tu n (p t l).2.length ((p t l).2 ++ [splitS (p t l).1 tu])
    simp only [List.length_append, List.length_cons, List.length_nil] at h2
    omega
theorem minF_grows {p : LF} (hp : Grows p) : ∀ n, Grows (minF p n)
  | 0, t, l => by simp [minF]
  | n + 1, t, l => by
    rw [minF]
    split
    · exact hp t l
    · have h1 := hp t l
      have h2 := minF_grows hp n (p t l).1 (p t l).2
      omega
theorem starF_grows {p : LF} (hp : Grows p) (tu : Int) (l : List St) : l.length + 1 ≤ (starF p tu l).2.length := by
  have h := hp l.length (l ++ [splitS 0 tu])
  simp only [starF, setNx, List.length_modify, List.length_append, List.length_cons, List.length_nil] at h ⊢
  omega
theorem repF_grows {p : LF} (hp : Grows p) (mn mx : Int) : Grows (repF mn mx p) := fun tu l => by
  unfold repF
  simp only
  split
  · have := starF_grows hp tu l
    have := minF_grows hp mn.toNat (starF p tu l).1 (starF p tu l).2
    omega
  · have := optF_grows hp tu (mx - mn).toNat tu l
    have := minF_grows hp mn.toNat (optF p tu (mx - mn).toNat tu l).1 (optF p tu (mx - mn).toNat tu l).2
    omega
theorem rowF_grows : ∀ ps : List T, (∀ p ∈ ps, Grows (layF p)) → Grows (rowF ps)
  | [], _, tu, l => by simp [rowF]
  | p :: ps, h, tu, l => by
    rw [rowF]
    have h1 := rowF_grows ps (fun q hq => h q (List.mem_cons_of_mem _ hq)) tu l
    have h2 := h p (List.mem_cons_self ..) (rowF ps tu l).1 (rowF ps tu l).2
    omega
theorem begF_grows : ∀ ps : List T, (∀ p ∈ ps, Grows (layF p)) → ∀ tu l, l.length ≤ (begF ps tu l).2.length
  | [], _, tu, l => by simp [begF]
  | p :: ps, h, tu, l => by
    rw [begF]
    have h1 := h p (List.mem_cons_self ..) tu l
    have h2 := begF_grows ps (fun q hq => h q (List.mem_cons_of_mem _ hq)) tu (layF p tu l).2
    simp only
    omega
theorem begF_len : ∀ (ps : List T) (tu : Int) (l : List St), (begF ps tu l).1.length = ps.length
  | [], tu, l => by simp [begF]
  | p :: ps, tu, l => by rw [begF]; simp [begF_len ps]
theorem layF_grows (t : T) : Grows (layF t) := by
  induction t using T.ind with
  | h t ih =>
    intro tu l
    rw [layF_eq]
    split
    · simp
    split
    · simp
    split
    · simp
    split
    · exact rowF_grows t.ps ih tu l
    split
    · rw [splitsF_len]
      have := begF_grows t.ps ih tu l
      omega
    split
    · refine repF_grows (fun tu l => ?_) _ _ tu l
      cases h : t.ps with
      | nil => simp [headF]
      | cons p ps => rw [headF]; exact ih p (by rw [h]; exact List.mem_cons_self ..) tu l
    · exact Nat.le_refl _
theorem headF_grows (ps : List T) : Grows (headF ps) := fun tu l => by
  cases ps with
  | nil => simp [headF]
  | cons p ps => rw [headF]; exact layF_grows p tu l
end Go.Proofs.YtdpmbanfaigmcaaDoor

/- The walks of nfa's layer: nothing, set, place. -/
set_option linter.unusedVariables false
set_option linter.unusedSimpArgs false
namespace Go.Proofs.YtdpmbanfaigmcaaDoor
open Go.RowKit

/-- What a way of laying leaves. -/
def LayPost (w : World) (L base : Nat) (v : Value) (r : Int × List St) (e : Ending) (w' : World) : Prop :=
  e = .returned (.int .i64 r.1) ∧ ∃ v', Layer w' L base v' r.2 ∧ Moves w v v' ∧ Lays L v.ownBlock w w'
/-- The blocks that are read are none of the layer's. -/
def OkL (w : World) (L : Nat) (v : Value) (ok : Nat → Prop) : Prop := ∀ b, ok b → b < w.heap.size ∧ b ≠ L ∧ some b ≠ v.ownBlock
/-- A function of the program lays a tree as layF does. -/
def LayAt (f : Nat) (t : T) : Prop := ∀ (w : World) (ok : Nat → Prop) (A : Option Addr) (c L base : Nat) (v : Value) (l : List St) (tu : Int), NodeAt w ok t A c → OkL w L v ok → Layer w L base v l → (layF t tu l).2.length ≤ 1000000 →
  Calls Tryd.prog f #[.pointer (some ⟨L, 0, none⟩), nodeV t A c, .int .i64 tu] w (LayPost w L base v (layF t tu l))

theorem OkL.later {w w' : World} {L : Nat} {v v' : Value} {ok : Nat → Prop} (h : OkL w L v ok) (hs : w.heap.size ≤ w'.heap.size) (hm : Moves w v v') : OkL w' L v' ok := fun b hb => by
  obtain ⟨h1, h2, h3⟩ := h b hb
  refine ⟨by omega, h2, fun e => ?_⟩
  rcases hm with hm | ⟨g, hg, hle⟩
  · exact h3 (e.trans hm)
  · rw [hg] at e; injection e with e; omega
theorem NodeAt.lays {w w' : World} {L : Nat} {v : Value} {ok : Nat → Prop} {t : T} {A : Option Addr} {c : Nat} (h : NodeAt w ok t A c) (ho : OkL w L v ok) (hl : Lays L v.ownBlock w w') : NodeAt w' ok t A c :=
  h.mono fun b hb => ⟨hb, fun o => hl.cell (ho b hb).1 (ho b hb).2.1 (ho b hb).2.2⟩
theorem OkL.alloc {w : World} {L : Nat} {v : Value} {ok : Nat → Prop} (h : OkL w L v ok) (o : Obj) : OkL (w.alloc o) L v ok := h.later (by simp) (Moves.refl _ _)
theorem Layer.alloc {w : World} {L base : Nat} {v : Value} {l : List St} (h : Layer w L base v l) (o : Obj) : Layer (w.alloc o) L base v l := h.later ((Below.refl _ _).alloc (Nat.le_refl _) _)
theorem Lays.alloc (L : Nat) (r : Option Nat) (w : World) (o : Obj) : Lays L r w (w.alloc o) := .of_below ((Below.refl _ _).alloc (Nat.le_refl _) _)
theorem NodeAt.alloc {w : World} {ok : Nat → Prop} {t : T} {A : Option Addr} {c : Nat} (h : NodeAt w ok t A c) (ho : ∀ b, ok b → b < w.heap.size) (o : Obj) : NodeAt (w.alloc o) ok t A c := h.later ((Below.refl _ _).alloc (Nat.le_refl _) _) ho

set_option maxRecDepth 100000 in
set_option maxHeartbeats 400000 in
theorem nothing_any (t : T) (hk : t.k = 0) : LayAt 89 t := by
  intro w ok A c L base v l tu hN ho hL hlen
  have hr : layF t tu l = (tu, l) := by rw [layF_eq]; simp [hk]
  have Hr := Lib.hid hr; clear hr hk
  go_enter Tryd.func89, Tryd.ntmps89
  go_wp2_with fail
  go_ret
  rw [Hr.out]
  exact ⟨rfl, v, hL.alloc _, Moves.refl _ _, Lays.alloc _ _ _ _⟩

set_option maxRecDepth 100000 in
set_option maxHeartbeats 400000 in
theorem set_any (t : T) (hk : t.k = 1) : LayAt 90 t := by
  intro w ok A c L base v l tu hN ho hL hlen
  have hr : layF t tu l = ((l.length : Int), l ++ [⟨1, t.s0, t.s1, t.s2, t.s3, tu, 0⟩]) := by rw [layF_eq]; simp [hk]
  rw [hr] at hlen
  have Hr := Lib.hid hr; clear hr hk
  simp only [List.length_append, List.length_cons, List.length_nil] at hlen
  go_enter Tryd.func90, Tryd.ntmps90
  go_wp2_with fail
  refine (state_any _ L base v l ⟨1, t.s0, t.s1, t.s2, t.s3, tu, 0⟩ (hL.alloc _) (by omega)).mono ?_
  rintro e w1 ⟨rfl, v1, hL1, hm1, hl1⟩
  go_wp2_with fail
  go_ret
  rw [Hr.out]
  exact ⟨rfl, v1, hL1, (Moves.refl w v).trans (by simp) hm1, (Lays.alloc _ _ _ _).trans (Moves.refl _ _) hl1⟩

set_option maxRecDepth 100000 in
set_option maxHeartbeats 400000 in
theorem place_any (t : T) (hk : t.k = 2 ∨ t.k = 3) : LayAt 91 t := by
  intro w ok A c L base v l tu hN ho hL hlen
  rcases hk with hk | hk
  · have hr : layF t tu l = ((l.length : Int), l ++ [⟨3, 0, 0, 0, 0, tu, 0⟩]) := by rw [layF_eq]; simp [hk]
    rw [hr] at hlen
    have Hr := Lib.hid hr; clear hr
    simp only [List.length_append, List.length_cons, List.length_nil] at hlen
    go_enter Tryd.func91, Tryd.ntmps91
    go_wp2_with fail
    refine (state_any _ L base v l ⟨3, 0, 0, 0, 0, tu, 0⟩ (hL.alloc _) (by omega)).mono ?_
    rintro e w1 ⟨rfl, v1, hL1, hm1, hl1⟩
    go_wp2_with fail
    go_ret
    rw [Hr.out]
    exact ⟨rfl, v1, hL1, (Moves.refl w v).trans (by simp) hm1, (Lays.alloc _ _ _ _).trans (Moves.refl _ _) hl1⟩
  · have hr : layF t tu l = ((l.length : Int), l ++ [⟨4, 0, 0, 0, 0, tu, 0⟩]) := by rw [layF_eq]; simp [hk]
    rw [hr] at hlen
    have Hr := Lib.hid hr; clear hr
    simp only [List.length_append, List.length_cons, List.length_nil] at hlen
    go_enter Tryd.func91, Tryd.ntmps91
    go_wp2_with fail
    refine (state_any _ L base v l ⟨4, 0, 0, 0, 0, tu, 0⟩ (hL.alloc _) (by omega)).mono ?_
    rintro e w1 ⟨rfl, v1, hL1, hm1, hl1⟩
    go_wp2_with fail
    go_ret
    rw [Hr.out]
    exact ⟨rfl, v1, hL1, (Moves.refl w v).trans (by simp) hm1, (Lays.alloc _ _ _ _).trans (Moves.refl _ _) hl1⟩
end Go.Proofs.YtdpmbanfaigmcaaDoor

/- Trees that are handed in, marks in their spare room: what it means; helper laws. -/
set_option linter.unusedVariables false
set_option linter.unusedSimpArgs false
namespace Go.Proofs.YtdpmbanfaigmcaaDoor
open Go.RowKit

/-- A tree reads, three marks behind each list. -/
inductive LentAt (w : World) (ok : Nat → Prop) : T → Option Addr → Nat → Prop where
  | mk (t : T) (g : Nat) (c : Nat) (As : Nat → Option Addr) (cs : Nat → Nat) :
      t.ps.length + 3 ≤ c → t.ps.length ≤ 1000000 → ok g →
      (∀ i p, t.ps[i]? = some p → At8 w g (i * 8) p (As i) (cs i)) →
      (∀ k, k < 3 → w.cell? ⟨g, (t.ps.length + k) * 8, none⟩ = some (.int .i64 (-77)) ∧ w.cell? ⟨g, (t.ps.length + k) * 8 + 7, none⟩ = some (.slice none 0 0)) →
      (∀ i p, t.ps[i]? = some p → LentAt w ok p (As i) (cs i)) →
      LentAt w ok t (some ⟨g, 0, none⟩) c
theorem LentAt.mono {w w' : World} {ok ok' : Nat → Prop} (hk : ∀ b, ok b → ok' b ∧ ∀ o, w'.cell? ⟨b, o, none⟩ = w.cell? ⟨b, o, none⟩) {t : T} {A : Option Addr} {c : Nat} (h : LentAt w ok t A c) : LentAt w' ok' t A c := by
  induction h with
  | mk t g c As cs hc hl hg ha hm hp ih =>
    exact .mk t g c As cs hc hl (hk g hg).1 (fun i p hi => (ha i p hi).mono (hk g hg).2) (fun k hk' => ⟨((hk g hg).2 _).trans (hm k hk').1, ((hk g hg).2 _).trans (hm k hk').2⟩) ih
theorem LentAt.node {w : World} {ok : Nat → Prop} {t : T} {A : Option Addr} {c : Nat} (h : LentAt w ok t A c) : NodeAt w ok t A c := by
  induction h with
  | mk t g c As cs hc hl hg ha hm hp ih =>
    exact .mk t _ c As cs (by omega) (by omega) (fun _ => ⟨g, 0, rfl, hg, fun i p hi => by rw [Nat.zero_add]; exact ha i p hi⟩) ih
def ncell (x : T × Option Addr × Nat) : List Value := [.int .i64 x.1.k, .int .u64 x.1.s0, .int .u64 x.1.s1, .int .u64 x.1.s2, .int .u64 x.1.s3, .int .i64 x.1.mn, .int .i64 x.1.mx, .slice x.2.1 x.1.ps.length x.2.2]
def ncells (l : List (T × Option Addr × Nat)) : List Value := l.flatMap ncell
theorem ncells_length (l : List (T × Option Addr × Nat)) : (ncells l).length = l.length * 8 := by
  induction l with
  | nil => rfl
  | cons s l ih =>
    show (ncell s ++ ncells l).length = _
    rw [List.length_append, ih, List.length_cons]
    simp only [ncell, List.length_cons, List.length_nil]
    omega
theorem ncells_snoc (l : List (T × Option Addr × Nat)) (s : T × Option Addr × Nat) : ncells (l ++ [s]) = ncells l ++ ncell s := by simp [ncells]
theorem ncell_one (s : T × Option Addr × Nat) : ∀ u ∈ ncell s, u.oneCell' = true := by
  intro u hu
  simp only [ncell, List.mem_cons, List.not_mem_nil, or_false] at hu
  rcases hu with rfl | rfl | rfl | rfl | rfl | rfl | rfl | rfl <;> rfl
theorem ncells_get : ∀ (l : List (T × Option Addr × Nat)) (i j : Nat) (hi : i < l.length), j < 8 → (ncells l)[i * 8 + j]? = (ncell l[i])[j]?
  | s :: l, 0, j, hi, hj => by
    show (ncell s ++ ncells l)[0 * 8 + j]? = _
    rw [Nat.zero_mul, Nat.zero_add, List.getElem?_append_left (by simp [ncell]; omega)]
    rfl
  | s :: l, i + 1, j, hi, hj => by
    show (ncell s ++ ncells l)[(i + 1) * 8 + j]? = _
    rw [List.getElem?_append_right (by simp [ncell]; omega)]
    simp only [ncell, List.length_cons, List.length_nil]
    rw [show (i + 1) * 8 + j - (0 + 1 + 1 + 1 + 1 + 1 + 1 + 1 + 1) = i * 8 + j by omega, ncells_get l i j (by simpa using hi) hj]
    rfl
theorem At8.of {w : World} {b o : Nat} {x : T × Option Addr × Nat} (h : ∀ j, j < 8 → w.cell? ⟨b, o + j, none⟩ = (ncell x)[j]?) : At8 w b o x.1 x.2.1 x.2.2 :=
  ⟨h 0 (by omega), h 1 (by omega), h 2 (by omega), h 3 (by omega), h 4 (by omega), h 5 (by omega), h 6 (by omega), h 7 (by omega)⟩
abbrev mark : T × Option Addr × Nat := (.mk (-77) 0 0 0 0 0 0 [], none, 0)
theorem Tryd.infoNode : (Tryd.prog.info? 27).map (fun i => (i.zero, i.size, i.bytes)) = some (some (.agg #[.int .i64 0, .int .u64 0, .int .u64 0, .int .u64 0, .int .u64 0, .int .i64 0, .int .i64 0, .slice none 0 0]), 8, 80) := by kernel_rfl

/-- A block of cells, nothing frozen. -/
def Blk (w : World) (b : Nat) (cs : Array Value) : Prop := w.heap[b]? = some (.cells cs 27 (0, 0))
theorem Blk.lt {w : World} {b : Nat} {cs : Array Value} (h : Blk w b cs) : b < w.heap.size := (Array.getElem?_eq_some_iff.1 h).1
theorem Blk.cell {w : World} {b : Nat} {cs : Array Value} (h : Blk w b cs) (o : Nat) : w.cell? ⟨b, o, none⟩ = cs[o]? := cell_of_row w b o cs _ (0, 0) h
theorem Blk.froz {w : World} {b : Nat} {cs : Array Value} (h : Blk w b cs) (o : Nat) : w.frozen? ⟨b, o, none⟩ = false := by
  unfold World.frozen?
  rw [show w.heap[(⟨b, o, none⟩ : Addr).block]? = _ from h]
  simp
theorem Blk.keep {w w' : World} {b : Nat} {cs : Array Value} (h : Blk w b cs) (e : w'.heap[b]? = w.heap[b]?) : Blk w' b cs := e.trans h
theorem Blk.set {w : World} {b : Nat} {cs : Array Value} (h : Blk w b cs) (o : Nat) (u : Value) : Blk (w.setCell ⟨b, o, none⟩ u) b (cs.setIfInBounds o u) := by
  unfold Blk at h ⊢
  simp only [World.setCell, Array.getElem?_modify, ↓reduceIte, h, Option.map_some]
  rfl
theorem Blk.new (w : World) (cs : Array Value) : Blk (w.alloc (.cells cs 27)) w.heap.size cs := heap_alloc_new w _
end Go.Proofs.YtdpmbanfaigmcaaDoor

/- LentNode: walked. -/
set_option linter.unusedVariables false
set_option linter.unusedSimpArgs false
namespace Go.Proofs.YtdpmbanfaigmcaaDoor
open Go.RowKit

theorem nodesL_mem : ∀ (ps : List T), ∀ p ∈ ps, nodesF p ≤ nodesL ps
  | q :: ps, p, h => by
    rw [nodesL]
    have h1 := nodesF_pos q
    have h2 := nodesL_pos ps (fun q _ => nodesF_pos q)
    cases h with
    | head => omega
    | tail _ h => have := nodesL_mem ps p h; omega
theorem nodesL_len : ∀ (ps : List T), (ps.length : Int) ≤ nodesL ps
  | [] => by simp [nodesL]
  | q :: ps => by
    rw [nodesL, List.length_cons]
    have h1 := nodesF_pos q
    have := nodesL_len ps
    omega
theorem nodes_len (t : T) : t.ps.length ≤ (nodesF t).toNat := by
  have := nodesL_len t.ps
  rw [nodesF_eq]; omega
theorem nodes_part (t : T) : ∀ p ∈ t.ps, nodesF p ≤ nodesF t := fun p hp => by
  have := nodesL_mem t.ps p hp
  rw [nodesF_eq t]; omega
/-- The boxes of LentNode: what came in, the result, the copy. -/
structure LentC (n : Nat) (t : T) (A : Option Addr) (c : Nat) (wr : World) (v : Value) : Prop where
  b0 : Blk wr n #[.int .i64 t.k, .int .u64 t.s0, .int .u64 t.s1, .int .u64 t.s2, .int .u64 t.s3, .int .i64 t.mn, .int .i64 t.mx, .slice A t.ps.length c]
  b1 : Blk wr (n + 1) #[.int .i64 0, .int .u64 0, .int .u64 0, .int .u64 0, .int .u64 0, .int .i64 0, .int .i64 0, .slice none 0 0]
  b2 : Blk wr (n + 1 + 1) #[.int .i64 t.k, .int .u64 t.s0, .int .u64 t.s1, .int .u64 t.s2, .int .u64 t.s3, .int .i64 t.mn, .int .i64 t.mx, v]
theorem LentC.keep {n : Nat} {t : T} {A : Option Addr} {c : Nat} {w w' : World} {v : Value} (h : LentC n t A c w v) (e : ∀ k, k < n + 3 → w'.heap[k]? = w.heap[k]?) : LentC n t A c w' v :=
  ⟨h.b0.keep (e _ (by omega)), h.b1.keep (e _ (by omega)), h.b2.keep (e _ (by omega))⟩
theorem LentC.set {n : Nat} {t : T} {A : Option Addr} {c : Nat} {w : World} {v : Value} (h : LentC n t A c w v) (u : Value) : LentC n t A c (w.setCell ⟨n + 1 + 1, 7, none⟩ u) u :=
  ⟨h.b0.keep (Below.heap_setCell _ _ _ _ (by simp; omega)), h.b1.keep (Below.heap_setCell _ _ _ _ (by simp)), by have := h.b2.set 7 u; simpa using this⟩

/-- The children that are laid: each a lent tree over the blocks S. -/
def Kids (t : T) (wr : World) (S : Nat → Prop) (ns : List (T × Option Addr × Nat)) : Prop := ∀ (i : Nat) (x : T × Option Addr × Nat), ns[i]? = some x → t.ps[i]? = some x.1 ∧ LentAt wr S x.1 x.2.1 x.2.2
theorem Kids.mono {t : T} {w w' : World} {S S' : Nat → Prop} {ns : List (T × Option Addr × Nat)} (h : Kids t w S ns) (hk : ∀ b, S b → S' b ∧ ∀ o, w'.cell? ⟨b, o, none⟩ = w.cell? ⟨b, o, none⟩) : Kids t w' S' ns :=
  fun i x hi => ⟨(h i x hi).1, (h i x hi).2.mono hk⟩
/-- The loop over the parts. -/
def LentJ (w : World) (t : T) (A : Option Addr) (c : Nat) (n : Nat) (i : Value) (wr : World) : Prop :=
  ∃ (j : Nat) (ns : List (T × Option Addr × Nat)) (Av : Option Addr) (cv : Nat) (S : Nat → Prop), i = .int .i64 j ∧ j + n = t.ps.length ∧ ns.length = j ∧ Kids t wr S ns ∧
    (∀ b, S b → w.heap.size + 3 ≤ b ∧ b < wr.heap.size ∧ some b ≠ (Value.slice Av j cv).ownBlock) ∧ Below w.heap.size w wr ∧ LentC w.heap.size t A c wr (.slice Av j cv) ∧
    wr.ownsRow (w.heap.size + 3) 27 8 (.slice Av j cv) j (ncells ns)
/-- The loop over the marks. -/
def LentK (w : World) (t : T) (A : Option Addr) (c : Nat) (ns : List (T × Option Addr × Nat)) (n : Nat) (i : Value) (wr : World) : Prop :=
  ∃ (j : Nat) (Av : Option Addr) (cv : Nat) (S : Nat → Prop), i = .int .i64 j ∧ j + n = 3 ∧ Kids t wr S ns ∧
    (∀ b, S b → w.heap.size + 3 ≤ b ∧ b < wr.heap.size ∧ some b ≠ (Value.slice Av (t.ps.length + j) cv).ownBlock) ∧ Below w.heap.size w wr ∧ LentC w.heap.size t A c wr (.slice Av (t.ps.length + j) cv) ∧
    wr.ownsRow (w.heap.size + 3) 27 8 (.slice Av (t.ps.length + j) cv) (t.ps.length + j) (ncells (ns ++ List.replicate j mark))

theorem grown_two {w1 w3 : World} {o1 o2 : Obj} {row : Option Nat} (hg : ((w1.alloc o1).alloc o2).grownBy w3 row) : ∀ b, b < w1.heap.size → some b ≠ row → w3.heap[b]? = w1.heap[b]? := fun b hb hne =>
  (hg.block b (by simp; omega) hne).trans ((((Below.refl w1.heap.size w1).alloc (Nat.le_refl _) o1).alloc (by simp) o2).block b hb)
theorem grown_one {w1 w3 : World} {o1 : Obj} {row : Option Nat} (hg : (w1.alloc o1).grownBy w3 row) : ∀ b, b < w1.heap.size → some b ≠ row → w3.heap[b]? = w1.heap[b]? := fun b hb hne =>
  (hg.block b (by simp; omega) hne).trans (((Below.refl w1.heap.size w1).alloc (Nat.le_refl _) o1).block b hb)
theorem ncell_two (w1 : World) (x : T × Option Addr × Nat) (o1 : Obj) : ∀ ad, some (⟨w1.heap.size + 1, 0, none⟩ : Addr) = some ad → ∀ j u, (ncell x)[j]? = some u → ((w1.alloc o1).alloc (.cells (ncell x).toArray 27)).cell? (ad.add j) = some u := by
  intro ad e j u hu
  simp only [Option.some.injEq] at e
  subst e
  rw [addr_add, show w1.heap.size + 1 = (w1.alloc o1).heap.size by simp, World.cell?_alloc_new, Nat.zero_add]
  simpa using hu
theorem ncell_new (w1 : World) (x : T × Option Addr × Nat) : ∀ ad, some (⟨w1.heap.size, 0, none⟩ : Addr) = some ad → ∀ j u, (ncell x)[j]? = some u → (w1.alloc (.cells (ncell x).toArray 27)).cell? (ad.add j) = some u := by
  intro ad e j u hu
  simp only [Option.some.injEq] at e
  subst e
  rw [addr_add, World.cell?_alloc_new, Nat.zero_add]
  simpa using hu

/-- What the last two statements of LentNode write. -/
def fillW (wr : World) (n : Nat) (t : T) (v : Value) : World :=
  ((((((((wr.setCell ⟨n + 1 + 1, 7, none⟩ v).setCell ⟨n + 1, 0, none⟩ (.int .i64 t.k)).setCell ⟨n + 1, 1, none⟩ (.int .u64 t.s0)).setCell ⟨n + 1, 2, none⟩ (.int .u64 t.s1)).setCell ⟨n + 1, 3, none⟩ (.int .u64 t.s2)).setCell ⟨n + 1, 4, none⟩ (.int .u64 t.s3)).setCell ⟨n + 1, 5, none⟩ (.int .i64 t.mn)).setCell ⟨n + 1, 6, none⟩ (.int .i64 t.mx)).setCell ⟨n + 1, 7, none⟩ v
theorem fillW_blk {wr : World} {n : Nat} {t : T} {A : Option Addr} {c : Nat} {v0 v : Value} (h : LentC n t A c wr v0) : Blk (fillW wr n t v) (n + 1) #[.int .i64 t.k, .int .u64 t.s0, .int .u64 t.s1, .int .u64 t.s2, .int .u64 t.s3, .int .i64 t.mn, .int .i64 t.mx, v] := by
  have h1 := ((((((((h.b1.keep (w' := wr.setCell ⟨n + 1 + 1, 7, none⟩ v) (Below.heap_setCell _ _ _ _ (by simp))).set 0 (.int .i64 t.k)).set 1 (.int .u64 t.s0)).set 2 (.int .u64 t.s1)).set 3 (.int .u64 t.s2)).set 4 (.int .u64 t.s3)).set 5 (.int .i64 t.mn)).set 6 (.int .i64 t.mx)).set 7 v
  unfold fillW; simpa using h1
theorem fillW_size (wr : World) (n : Nat) (t : T) (v : Value) : (fillW wr n t v).heap.size = wr.heap.size := by simp [fillW]
theorem fillW_other (wr : World) (n : Nat) (t : T) (v : Value) (b : Nat) (h1 : b ≠ n + 1) (h2 : b ≠ n + 1 + 1) : (fillW wr n t v).heap[b]? = wr.heap[b]? := by
  unfold fillW
  iterate 8 rw [Below.heap_setCell _ _ _ _ h1]
  exact Below.heap_setCell _ _ _ _ h2
theorem fillW_below {w wr : World} {t : T} {v : Value} (h : Below w.heap.size w wr) : Below w.heap.size w (fillW wr w.heap.size t v) := by
  unfold fillW
  exact ((((((((h.setCell (by simp; omega) _).setCell (by simp) _).setCell (by simp) _).setCell (by simp) _).setCell (by simp) _).setCell (by simp) _).setCell (by simp) _).setCell (by simp) _).setCell (by simp) _

set_option maxRecDepth 100000 in
set_option maxHeartbeats 4000000 in
theorem lent_any (t : T) : ∀ (w : World) (ok : Nat → Prop) (A : Option Addr) (c : Nat), NodeAt w ok t A c → (∀ b, ok b → b < w.heap.size) → nodesF t ≤ 100000 →
    Calls Tryd.prog 20 #[nodeV t A c] w fun e w' => ∃ A' c', e = .returned (nodeV t A' c') ∧ LentAt w' (fun b => w.heap.size ≤ b ∧ b < w'.heap.size) t A' c' ∧ Below w.heap.size w w' := by
  induction t using T.ind with
  | h t ih =>
    intro w ok A c hN hok hno
    have hlen : t.ps.length ≤ 100000 := Nat.le_trans (nodes_len t) (by omega)
    have hcc := hN.cap
    have Hih := Lib.hid ih; clear ih
    have Hno := Lib.hid hno; clear hno
    go_enter Tryd.func20, Tryd.ntmps20
    go_wp2_with fail
    generalize hW : ((w.alloc _).alloc _).alloc _ = W0
    have hB0 : Below w.heap.size w W0 := by subst hW; exact (((Below.refl _ _).alloc (Nat.le_refl _) _).alloc (by simp) _).alloc (by simp; omega) _
    have hC0 : LentC w.heap.size t A c W0 (.slice none 0 0) := by
      subst hW
      refine ⟨?_, ?_, ?_⟩
      · exact (((Blk.new w _).keep ((Below.refl _ _).alloc (Nat.le_refl _) _ |>.block _ (by simp)))).keep ((Below.refl _ _).alloc (Nat.le_refl _) _ |>.block _ (by simp; omega))
      · have h := (Blk.new (w.alloc (.cells #[.int .i64 t.k, .int .u64 t.s0, .int .u64 t.s1, .int .u64 t.s2, .int .u64 t.s3, .int .i64 t.mn, .int .i64 t.mx, .slice A t.ps.length c] 27)) #[.int .i64 0, .int .u64 0, .int .u64 0, .int .u64 0, .int .u64 0, .int .i64 0, .int .i64 0, .slice none 0 0])
        rw [show (w.alloc (.cells #[.int .i64 t.k, .int .u64 t.s0, .int .u64 t.s1, .int .u64 t.s2, .int .u64 t.s3, .int .i64 t.mn, .int .i64 t.mx, .slice A t.ps.length c] 27)).heap.size = w.heap.size + 1 by simp] at h
        exact h.keep ((Below.refl _ _).alloc (Nat.le_refl _) _ |>.block _ (by simp))
      · have h := Blk.new ((w.alloc (.cells #[.int .i64 t.k, .int .u64 t.s0, .int .u64 t.s1, .int .u64 t.s2, .int .u64 t.s3, .int .i64 t.mn, .int .i64 t.mx, .slice A t.ps.length c] 27)).alloc (.cells #[.int .i64 0, .int .u64 0, .int .u64 0, .int .u64 0, .int .u64 0, .int .i64 0, .int .i64 0, .slice none 0 0] 27)) #[.int .i64 t.k, .int .u64 t.s0, .int .u64 t.s1, .int .u64 t.s2, .int .u64 t.s3, .int .i64 t.mn, .int .i64 t.mx, .slice none 0 0]
        rw [show ((w.alloc (.cells #[.int .i64 t.k, .int .u64 t.s0, .int .u64 t.s1, .int .u64 t.s2, .int .u64 t.s3, .int .i64 t.mn, .int .i64 t.mx, .slice A t.ps.length c] 27)).alloc (.cells #[.int .i64 0, .int .u64 0, .int .u64 0, .int .u64 0, .int .u64 0, .int .i64 0, .int .i64 0, .slice none 0 0] 27)).heap.size = w.heap.size + 1 + 1 by simp] at h
        exact h
    clear hW
    go_loopg [4] (t.ps.length) (fun n i wr => LentJ w t A c n i wr)
    case atStart => exact ⟨0, [], none, 0, fun _ => False, rfl, by omega, rfl, fun i x h => by simp at h, fun b h => h.elim, hB0, hC0, ⟨rfl, .inl ⟨rfl, rfl⟩⟩⟩
    case round =>
      clear hB0 hC0
      obtain ⟨j, ns, Av, cv, S, rfl, hj, hns, hkid, hsep, hB, hC, ho⟩ := hrel
      have k7 : wr.cell? ⟨w.heap.size, 7, none⟩ = some (.slice A t.ps.length c) := by simpa using hC.b0.cell 7
      have hz := hC.b2.lt
      have Ho := Lib.hid ho; have Hns := Lib.hid hns; clear ho hns
      by_cases hlt : j < t.ps.length
      · obtain ⟨b, o, rfl, hb, hcell⟩ := hN.part (by omega)
        obtain ⟨A', c', h8, hNj⟩ := hcell j hlt
        obtain ⟨f0, f1, f2, f3, f4, f5, f6, f7⟩ := h8.mono (w' := wr) (fun o => hB.cell (p := ⟨b, o, none⟩) (hok b hb))
        have hih := Hih.out t.ps[j] (List.getElem_mem _)
        have hpn := nodes_part t t.ps[j] (List.getElem_mem _)
        have hget : t.ps[j]? = some t.ps[j] := List.getElem?_eq_getElem hlt
        have Hget := Lib.hid hget
        clear hcell hget
        generalize t.ps[j] = p at *
        have hcall := hih wr ok A' c' (hNj.later hB hok) (fun b h => by have := hok b h; have := hB.size; omega) (by have := Hno.out; omega)
        have Hcall := Lib.hid hcall; clear hcall hih hpn
        go_wp2_with fail
        refine Hcall.out.mono ?_
        rintro e w1 ⟨A1, c1, rfl, hL1, hb1⟩
        have hz1 := hb1.size
        have hC1 : LentC w.heap.size _ _ c w1 (.slice Av j cv) := hC.keep (fun k hk => hb1.block k (by omega))
        have o7 : w1.cell? ⟨w.heap.size + 1 + 1, 7, none⟩ = some (.slice Av j cv) := by simpa using hC1.b2.cell 7
        have hzz : w.heap.size + 1 + 1 < w1.heap.size := by omega
        have hsb : ∀ k, (Value.slice Av j cv).ownBlock = some k → w.heap.size + 3 ≤ k ∧ k < wr.heap.size := fun k hk => Ho.out.lt k hk
        have ho1 : w1.ownsRow (w.heap.size + 3) 27 8 (.slice Av j cv) j (ncells ns) := Ho.out.kept (row := none) ⟨hb1.os, hb1.tape, hb1.output, hb1.size, fun k hk _ => hb1.block k hk⟩ (by cases Av <;> simp [Value.ownBlock])
        have Ho1 := Lib.hid ho1; have Hsb := Lib.hid hsb; have HB := Lib.hid hB; have Hsep := Lib.hid hsep
        have hnew := ncell_two w1 (p, A1, c1) (.cells (ncell (p, A1, c1)).toArray 27)
        have Hnew := Lib.hid hnew
        clear ho1 hsb hB hsep hnew k7 f0 f1 f2 f3 f4 f5 f6 f7
        go_wp2_with (at_builtin; refine wpList_append_from (w.heap.size + 3) rfl _ _ 25 27 _ 8 80 rfl Tryd.underlying25 Tryd.infoNode rfl (by omega) (by omega) (.slice Av j cv) j 1 (ncells ns) (ncell (p, A1, c1)) (some ⟨w1.heap.size + 1, 0, none⟩) 1 rfl rfl (by simp) rfl Hnew.out (ncell_one _) ((Ho1.out.alloc _).alloc _) (by simp; omega) (by omega) (fun A3 c3 w3 ho3 hg3 hat3 => ?_); have hk3 := grown_two hg3; have hC3 := hC1.keep (fun k hk => hk3 k (by omega) (fun e => by have := Hsb.out k e.symm; omega)); have o73 := hC3.b2.cell 7; have of73 := hC3.b2.froz 7; simp only [List.getElem?_toArray, List.getElem?_cons_succ, List.getElem?_cons_zero] at o73; have Ho3 := Lib.hid ho3; have Hk3 := Lib.hid hk3; have Hat3 := Lib.hid hat3; have Hg3 := Lib.hid hg3; clear ho3 hk3 hat3 hg3)
        go_roundg (gk - 1)
        case measure => omega
        case rel =>
          have hz3 := Hg3.out.size
          simp only [World.size_alloc] at hz3
          have hbl := below_grown (((HB.out.trans (hb1.mono (by omega))).alloc (by omega) _).alloc (by simp only [World.size_alloc]; omega) _) (by simp only [World.size_alloc]; omega) Hg3.out (fun k hk => by have := Hsb.out k hk; omega)
          refine ⟨j + 1, ns ++ [(p, A1, c1)], A3, c3, fun b => S b ∨ (wr.heap.size ≤ b ∧ b < w1.heap.size), by go_num, by omega, by simp [Hns.out], ?_, ?_, hbl.setCell (by simp; omega) _, hC3.set _, ?_⟩
          · intro i x hi
            have hcl : ∀ b, w.heap.size + 3 ≤ b → b < w1.heap.size → some b ≠ (Value.slice Av j cv).ownBlock → ∀ o, (w3.setCell ⟨w.heap.size + 1 + 1, 7, none⟩ (.slice A3 (j + 1) c3)).cell? ⟨b, o, none⟩ = w1.cell? ⟨b, o, none⟩ := fun b h1 h2 h3 o => by
              rw [World.cell?_setCell_other (h := by intro e; injection e with e; omega)]
              exact World.cell?_of_block (w := w1) (Hk3.out b h2 h3)
            rcases Nat.lt_or_ge i ns.length with h | h
            · rw [List.getElem?_append_left h] at hi
              refine ⟨(hkid i x hi).1, (hkid i x hi).2.mono fun b hb => ⟨.inl hb, fun o => ?_⟩⟩
              obtain ⟨s1, s2, s3⟩ := Hsep.out b hb
              exact (hcl b s1 (by omega) s3 o).trans (hb1.cell (p := ⟨b, o, none⟩) s2)
            · have hij : i = j := by
                have := (List.getElem?_eq_some_iff.1 hi).1
                simp [Hns.out] at this
                have := Hns.out
                omega
              subst hij
              rw [List.getElem?_append_right h, Hns.out, Nat.sub_self] at hi
              simp only [List.getElem?_cons_zero, Option.some.injEq] at hi
              subst hi
              refine ⟨Hget.out, hL1.mono fun b hb => ⟨.inr hb, fun o => hcl b (by omega) hb.2 (fun e => ?_) o⟩⟩
              have := Hsb.out b e.symm
              omega
          · intro b hb
            have h3 : w.heap.size + 3 ≤ b ∧ b < w1.heap.size ∧ some b ≠ (Value.slice Av j cv).ownBlock := by
              rcases hb with hb | hb
              · obtain ⟨s1, s2, s3⟩ := Hsep.out b hb
                exact ⟨s1, by omega, s3⟩
              · refine ⟨by omega, hb.2, fun e => ?_⟩
                have := Hsb.out b e.symm
                omega
            refine ⟨h3.1, by simp only [World.size_setCell]; omega, fun e => ?_⟩
            rcases Hat3.out with h | h
            · exact h3.2.2 (e.trans h)
            · rw [h] at e; simp at e; omega
          · rw [ncells_snoc]
            exact Ho3.out.kept (row := some (w.heap.size + 1 + 1)) ⟨rfl, rfl, rfl, by simp, fun k hk hne => Below.heap_setCell _ _ _ _ (fun e => hne (by rw [e]))⟩ (.inr (fun e => by have := own_ge Ho3.out _ e; omega))
      · obtain rfl : j = t.ps.length := by omega
        have hz := hC.b2.lt
        have hcut : List.replicate 0 mark = [] := rfl
        go_wp2_with fail
        go_loopg [6] 3 (fun n i wr => LentK w t A c ns n i wr)
        case atStart => exact ⟨0, Av, cv, S, rfl, rfl, hkid, hsep, hB, hC, by simpa using Ho.out⟩
        case round =>
          clear hkid hsep hB hC Ho k7 hz hcut
          obtain ⟨j, Av, cv, S, rfl, hj, hkid, hsep, hB, hC, ho⟩ := hrel
          have k7 : wr.cell? ⟨w.heap.size, 7, none⟩ = some (.slice A t.ps.length c) := by simpa using hC.b0.cell 7
          have o7 : wr.cell? ⟨w.heap.size + 1 + 1, 7, none⟩ = some (.slice Av (t.ps.length + j) cv) := by simpa using hC.b2.cell 7
          have hz := hC.b2.lt
          have Ho := Lib.hid ho; clear ho
          by_cases hlt : j < 3
          · have hsb : ∀ k, (Value.slice Av (t.ps.length + j) cv).ownBlock = some k → w.heap.size + 3 ≤ k ∧ k < wr.heap.size := fun k hk => Ho.out.lt k hk
            have Hsb := Lib.hid hsb; have HB := Lib.hid hB; have Hsep := Lib.hid hsep
            have hnew := ncell_new wr mark
            have Hnew := Lib.hid hnew
            clear hsb hB hsep hnew
            go_wp2_with (at_builtin; refine wpList_append_from (w.heap.size + 3) rfl _ _ 25 27 _ 8 80 rfl Tryd.underlying25 Tryd.infoNode rfl (by omega) (by omega) (.slice Av (t.ps.length + j) cv) (t.ps.length + j) 1 (ncells (ns ++ List.replicate j mark)) (ncell mark) (some ⟨wr.heap.size, 0, none⟩) 1 rfl rfl (by simp) rfl Hnew.out (ncell_one _) (Ho.out.alloc _) (by simp; omega) (by omega) (fun A3 c3 w3 ho3 hg3 hat3 => ?_); have hk3 := grown_one hg3; have hC3 := hC.keep (fun k hk => hk3 k (by omega) (fun e => by have := Hsb.out k e.symm; omega)); have o73 := hC3.b2.cell 7; have of73 := hC3.b2.froz 7; simp only [List.getElem?_toArray, List.getElem?_cons_succ, List.getElem?_cons_zero] at o73; have Ho3 := Lib.hid ho3; have Hk3 := Lib.hid hk3; have Hat3 := Lib.hid hat3; have Hg3 := Lib.hid hg3; clear ho3 hk3 hat3 hg3)
            go_roundg (gk - 1)
            case measure => omega
            case rel =>
              have hz3 := Hg3.out.size
              simp only [World.size_alloc] at hz3
              have hbl := below_grown (HB.out.alloc (by omega) _) (by simp only [World.size_alloc]; omega) Hg3.out (fun k hk => by have := Hsb.out k hk; omega)
              refine ⟨j + 1, A3, c3, S, by go_num, by omega, ?_, ?_, hbl.setCell (by simp; omega) _, hC3.set _, ?_⟩
              · refine hkid.mono fun b hb => ⟨hb, fun o => ?_⟩
                obtain ⟨s1, s2, s3⟩ := Hsep.out b hb
                rw [World.cell?_setCell_other (h := by intro e; injection e with e; omega)]
                exact World.cell?_of_block (w := wr) (Hk3.out b s2 s3)
              · intro b hb
                obtain ⟨s1, s2, s3⟩ := Hsep.out b hb
                refine ⟨s1, by simp only [World.size_setCell]; omega, fun e => ?_⟩
                rcases Hat3.out with h | h
                · exact s3 (e.trans h)
                · have e2 := e.trans h; simp at e2; omega
              · rw [List.replicate_succ', ← List.append_assoc, ncells_snoc]
                exact Ho3.out.kept (row := some (w.heap.size + 1 + 1)) ⟨rfl, rfl, rfl, by simp, fun k hk hne => Below.heap_setCell _ _ _ _ (fun e => hne (by rw [e]))⟩ (.inr (fun e => by have := own_ge Ho3.out _ e; omega))
          · obtain rfl : j = 3 := by omega
            obtain ⟨g, rfl, hg, hgl⟩ : ∃ g, Av = some ⟨g, 0, none⟩ ∧ w.heap.size + 3 ≤ g ∧ t.ps.length + 3 ≤ cv := by
              rcases Ho.out.2 with ⟨e, h0⟩ | ⟨g, cap, cur, e, hb, _, hn, _⟩
              · omega
              · simp only [Value.slice.injEq] at e; exact ⟨g, e.1, hb, by omega⟩
            have hgz := (Ho.out.lt g rfl).2
            have o0 : wr.cell? ⟨w.heap.size + 1 + 1, 0, none⟩ = some (.int .i64 t.k) := by simpa using hC.b2.cell 0
            have o1 : wr.cell? ⟨w.heap.size + 1 + 1, 1, none⟩ = some (.int .u64 t.s0) := by simpa using hC.b2.cell 1
            have o2 : wr.cell? ⟨w.heap.size + 1 + 1, 2, none⟩ = some (.int .u64 t.s1) := by simpa using hC.b2.cell 2
            have o3 : wr.cell? ⟨w.heap.size + 1 + 1, 3, none⟩ = some (.int .u64 t.s2) := by simpa using hC.b2.cell 3
            have o4 : wr.cell? ⟨w.heap.size + 1 + 1, 4, none⟩ = some (.int .u64 t.s3) := by simpa using hC.b2.cell 4
            have o5 : wr.cell? ⟨w.heap.size + 1 + 1, 5, none⟩ = some (.int .i64 t.mn) := by simpa using hC.b2.cell 5
            have o6 : wr.cell? ⟨w.heap.size + 1 + 1, 6, none⟩ = some (.int .i64 t.mx) := by simpa using hC.b2.cell 6
            have of7 := hC.b2.froz 7
            have r0 : wr.cell? ⟨w.heap.size + 1, 0, none⟩ = some (.int .i64 0) := by simpa using hC.b1.cell 0
            have r1 : wr.cell? ⟨w.heap.size + 1, 1, none⟩ = some (.int .u64 0) := by simpa using hC.b1.cell 1
            have r2 : wr.cell? ⟨w.heap.size + 1, 2, none⟩ = some (.int .u64 0) := by simpa using hC.b1.cell 2
            have r3 : wr.cell? ⟨w.heap.size + 1, 3, none⟩ = some (.int .u64 0) := by simpa using hC.b1.cell 3
            have r4 : wr.cell? ⟨w.heap.size + 1, 4, none⟩ = some (.int .u64 0) := by simpa using hC.b1.cell 4
            have r5 : wr.cell? ⟨w.heap.size + 1, 5, none⟩ = some (.int .i64 0) := by simpa using hC.b1.cell 5
            have r6 : wr.cell? ⟨w.heap.size + 1, 6, none⟩ = some (.int .i64 0) := by simpa using hC.b1.cell 6
            have r7 : wr.cell? ⟨w.heap.size + 1, 7, none⟩ = some (.slice none 0 0) := by simpa using hC.b1.cell 7
            have rf0 := hC.b1.froz 0
            have rf1 := hC.b1.froz 1
            have rf2 := hC.b1.froz 2
            have rf3 := hC.b1.froz 3
            have rf4 := hC.b1.froz 4
            have rf5 := hC.b1.froz 5
            have rf6 := hC.b1.froz 6
            have rf7 := hC.b1.froz 7
            go_wp2_with fail
            change bodyPost _ _ _ _ _ (fillW wr w.heap.size t (.slice (some ⟨g, 0, none⟩) t.ps.length cv))
            have hbk := fillW_blk (v := .slice (some ⟨g, 0, none⟩) t.ps.length cv) hC
            have y0 : (fillW wr w.heap.size t (.slice (some ⟨g, 0, none⟩) t.ps.length cv)).cell? ⟨w.heap.size + 1, 0, none⟩ = some (.int .i64 t.k) := by simpa using hbk.cell 0
            have y1 : (fillW wr w.heap.size t (.slice (some ⟨g, 0, none⟩) t.ps.length cv)).cell? ⟨w.heap.size + 1, 1, none⟩ = some (.int .u64 t.s0) := by simpa using hbk.cell 1
            have y2 : (fillW wr w.heap.size t (.slice (some ⟨g, 0, none⟩) t.ps.length cv)).cell? ⟨w.heap.size + 1, 2, none⟩ = some (.int .u64 t.s1) := by simpa using hbk.cell 2
            have y3 : (fillW wr w.heap.size t (.slice (some ⟨g, 0, none⟩) t.ps.length cv)).cell? ⟨w.heap.size + 1, 3, none⟩ = some (.int .u64 t.s2) := by simpa using hbk.cell 3
            have y4 : (fillW wr w.heap.size t (.slice (some ⟨g, 0, none⟩) t.ps.length cv)).cell? ⟨w.heap.size + 1, 4, none⟩ = some (.int .u64 t.s3) := by simpa using hbk.cell 4
            have y5 : (fillW wr w.heap.size t (.slice (some ⟨g, 0, none⟩) t.ps.length cv)).cell? ⟨w.heap.size + 1, 5, none⟩ = some (.int .i64 t.mn) := by simpa using hbk.cell 5
            have y6 : (fillW wr w.heap.size t (.slice (some ⟨g, 0, none⟩) t.ps.length cv)).cell? ⟨w.heap.size + 1, 6, none⟩ = some (.int .i64 t.mx) := by simpa using hbk.cell 6
            have y7 : (fillW wr w.heap.size t (.slice (some ⟨g, 0, none⟩) t.ps.length cv)).cell? ⟨w.heap.size + 1, 7, none⟩ = some (.slice (some ⟨g, 0, none⟩) t.ps.length cv) := by simpa using hbk.cell 7
            have hfs := fillW_size wr w.heap.size t (.slice (some ⟨g, 0, none⟩) t.ps.length cv)
            have hfo := fillW_other wr w.heap.size t (.slice (some ⟨g, 0, none⟩) t.ps.length cv)
            have hfb := fillW_below (t := t) (v := .slice (some ⟨g, 0, none⟩) t.ps.length cv) hB
            generalize fillW wr w.heap.size t (.slice (some ⟨g, 0, none⟩) t.ps.length cv) = F at *
            refine bodyPost_ret (v := nodeV t (some ⟨g, 0, none⟩) cv) (by simp [results, Tryd.results20, y0, y1, y2, y3, y4, y5, y6, y7, go_sem]) rfl ⟨_, _, rfl, ?_, hfb⟩
            have hcF : ∀ b, w.heap.size + 3 ≤ b → ∀ o, F.cell? ⟨b, o, none⟩ = wr.cell? ⟨b, o, none⟩ := fun b hb o => World.cell?_of_block (w := wr) (hfo b (by omega) (by omega))
            have hnsl : ns.length = t.ps.length := Hns.out
            have hrow : ∀ i j, i < t.ps.length + 3 → j < 8 → wr.cell? ⟨g, i * 8 + j, none⟩ = (ncells (ns ++ List.replicate 3 mark))[i * 8 + j]? := fun i j hi hj => Ho.out.cellAt _ (by omega)
            refine .mk t g cv (fun i => (ns.getD i mark).2.1) (fun i => (ns.getD i mark).2.2) hgl (by omega) ⟨by omega, by omega⟩ (fun i p hi => ?_) (fun k hk => ?_) (fun i p hi => ?_)
            · have hil : i < t.ps.length := (List.getElem?_eq_some_iff.1 hi).1
              have hx : ns[i]? = some ns[i] := List.getElem?_eq_getElem (by omega)
              have hkx := (hkid i _ hx).1
              rw [hi] at hkx
              have hpe : p = ns[i].1 := by simpa using hkx
              have : At8 F g (i * 8) ns[i].1 ns[i].2.1 ns[i].2.2 := .of fun j hj => by
                rw [hcF g hg, hrow i j (by omega) hj, ncells_get _ i j (by simp; omega) hj, List.getElem_append_left (by omega)]
              rw [hpe]
              simpa [List.getD_eq_getElem?_getD, hx] using this
            · have h1 := hrow (t.ps.length + k) 0 (by omega) (by omega)
              have h2 := hrow (t.ps.length + k) 7 (by omega) (by omega)
              rw [ncells_get _ _ _ (by simp; omega) (by omega), List.getElem_append_right (by omega), List.getElem_replicate] at h1 h2
              exact ⟨(hcF g hg _).trans h1, (hcF g hg _).trans h2⟩
            · have hil : i < t.ps.length := (List.getElem?_eq_some_iff.1 hi).1
              have hx : ns[i]? = some ns[i] := List.getElem?_eq_getElem (by omega)
              obtain ⟨hkx, hlx⟩ := hkid i _ hx
              rw [hi] at hkx
              have hpe : p = ns[i].1 := by simpa using hkx
              have := hlx.mono (w' := F) (ok' := fun b => w.heap.size ≤ b ∧ b < F.heap.size) fun b hb => by
                obtain ⟨s1, s2, s3⟩ := hsep b hb
                exact ⟨⟨by omega, by omega⟩, hcF b s1⟩
              rw [hpe]
              simpa [List.getD_eq_getElem?_getD, hx] using this
end Go.Proofs.YtdpmbanfaigmcaaDoor

/- KeptNode: walked. -/
set_option linter.unusedVariables false
set_option linter.unusedSimpArgs false
namespace Go.Proofs.YtdpmbanfaigmcaaDoor
open Go.RowKit

set_option maxRecDepth 100000 in
set_option maxHeartbeats 4000000 in
theorem kept_any (t : T) : ∀ (w : World) (ok : Nat → Prop) (A B : Option Addr) (c d : Nat), LentAt w ok t A c → NodeAt w ok t B d → (∀ b, ok b → b < w.heap.size) →
    Calls Tryd.prog 24 #[nodeV t A c, nodeV t B d] w fun e w' => e = .returned (.bool true) ∧ Below w.heap.size w w' := by
  induction t using T.ind with
  | h t ih =>
    intro w ok A B c d hL hN hok
    have hlen := hN.len
    have hN1 := hL.node
    cases hL with
    | mk _ g _ As cs hc hl hg ha hm hp =>
    have Hih := Lib.hid ih; clear ih
    have heq : eq4 t.s0 t.s1 t.s2 t.s3 t.s0 t.s1 t.s2 t.s3 = true := eq4_true ⟨rfl, rfl, rfl, rfl⟩
    go_enter Tryd.func24, Tryd.ntmps24
    go_wp2_with fail
    clear heq
    generalize hW : (w.alloc _).alloc _ = W0
    have hB0 : Below w.heap.size w W0 := by subst hW; exact ((Below.refl _ _).alloc (Nat.le_refl _) _).alloc (by simp) _
    have hsz : w.heap.size + 1 < W0.heap.size := by subst hW; simp
    have p7 : W0.cell? ⟨w.heap.size, 7, none⟩ = some (.slice (some ⟨g, 0, none⟩) t.ps.length c) := by subst hW; simp [go_sem]
    have q7 : W0.cell? ⟨w.heap.size + 1, 7, none⟩ = some (.slice B t.ps.length d) := by subst hW; simp [go_sem]
    clear hW
    go_loopg [5] (t.ps.length) (fun n i wr => ∃ j : Nat, i = .int .i64 j ∧ j + n = t.ps.length ∧ Below w.heap.size w wr ∧ w.heap.size + 1 < wr.heap.size ∧ wr.cell? ⟨w.heap.size, 7, none⟩ = some (.slice (some ⟨g, 0, none⟩) t.ps.length c) ∧ wr.cell? ⟨w.heap.size + 1, 7, none⟩ = some (.slice B t.ps.length d))
    case atStart => exact ⟨0, rfl, by omega, hB0, hsz, p7, q7⟩
    case round =>
      clear hB0 hsz p7 q7
      obtain ⟨j, rfl, hj, hB, hz, p7, q7⟩ := hrel
      by_cases hlt : j < t.ps.length
      · obtain ⟨b, o, rfl, hb, hcell⟩ := hN.part (by omega)
        obtain ⟨A', c', h8, hNj⟩ := hcell j hlt
        have hget : t.ps[j]? = some t.ps[j] := List.getElem?_eq_getElem hlt
        obtain ⟨f0, f1, f2, f3, f4, f5, f6, f7⟩ := h8.mono (w' := wr) (fun o => hB.cell (p := ⟨b, o, none⟩) (hok b hb))
        obtain ⟨g0, g1, g2, g3, g4, g5, g6, g7⟩ := (ha j _ hget).mono (w' := wr) (fun o => hB.cell (p := ⟨g, o, none⟩) (hok g hg))
        have hih := Hih.out t.ps[j] (List.getElem_mem _) wr.drew ok (As j) A' (cs j) c' ((hp j _ hget).mono fun b hb => ⟨hb, fun o => hB.drew.cell (p := ⟨b, o, none⟩) (hok b hb)⟩) (hNj.later hB.drew hok) (fun b h => by have := hok b h; have := hB.drew.size; omega)
        clear hcell hget
        generalize t.ps[j] = p at *
        generalize As j = Aj at *
        generalize cs j = cj at *
        have Hcall := Lib.hid hih; clear hih
        have i1 : (j : Int) < (t.ps.length : Int) := by omega
        have i0 : (0 : Int) ≤ (j : Int) := by omega
        go_wp2_with fail
        go_still_tail 10, (by kernel_rfl)
        change wpList _ _ _ _ _ wr.drew
        have hBd := hB.drew
        have hzd : w.heap.size + 1 < wr.drew.heap.size := by simpa using hz
        have p7d : wr.drew.cell? ⟨w.heap.size, 7, none⟩ = some (.slice (some ⟨g, 0, none⟩) t.ps.length c) := by simpa using p7
        have q7d : wr.drew.cell? ⟨w.heap.size + 1, 7, none⟩ = some (.slice (some ⟨b, o, none⟩) t.ps.length d) := by simpa using q7
        generalize wr.drew = w2 at *
        go_wp2_with fail
        refine Hcall.out.mono ?_
        rintro e w3 ⟨rfl, hb3⟩
        have hz3 := hb3.size
        go_wp2_with fail
        go_roundg (gk - 1)
        case measure => omega
        case rel => exact ⟨j + 1, by go_num, by omega, hBd.trans (hb3.mono (by omega)), by omega, (hb3.cell (p := ⟨w.heap.size, 7, none⟩) (by show w.heap.size < _; omega)).trans p7d, (hb3.cell (p := ⟨w.heap.size + 1, 7, none⟩) hzd).trans q7d⟩
      · have w3 : IntKind.i64.wrap ((t.ps.length : Int) + 3) = (t.ps.length + 3 : Nat) := by rw [IntKind.wrap_i64]; push_cast; omega
        have hmm : ∀ k, k < 3 → wr.cell? ⟨g, (t.ps.length + k) * 8, none⟩ = some (.int .i64 (-77)) ∧ wr.cell? ⟨g, (t.ps.length + k) * 8 + 7, none⟩ = some (.slice none 0 0) := fun k hk =>
          ⟨(hB.cell (p := ⟨g, _, none⟩) (hok g hg)).trans (hm k hk).1, (hB.cell (p := ⟨g, _, none⟩) (hok g hg)).trans (hm k hk).2⟩
        have Hmm := Lib.hid hmm
        clear hmm
        go_wp2_with fail
        go_loopg [7] 3 (fun k i w2 => ∃ (j : Nat), i = .int .i64 (t.ps.length + j : Nat) ∧ j + k = 3 ∧ w2 = wr)
        case atStart => exact ⟨0, by simp, rfl, rfl⟩
        case round =>
          obtain ⟨k, rfl, hk, rfl⟩ := hrel
          by_cases hlt3 : k < 3
          · obtain ⟨f0, f7⟩ := Hmm.out k hlt3
            go_wp2_with fail
            go_roundg (gk - 1)
            case measure => omega
            case rel => exact ⟨k + 1, by go_num, by omega, rfl⟩
          · go_wp2_with fail
            go_ret
            exact ⟨rfl, hB⟩
end Go.Proofs.YtdpmbanfaigmcaaDoor

/- SpoilNfa: walked. -/
set_option linter.unusedVariables false
set_option linter.unusedSimpArgs false
namespace Go.Proofs.YtdpmbanfaigmcaaDoor
open Go.RowKit

/-- Nothing old is touched but one block. -/
structure Spoils (r : Option Nat) (w w' : World) : Prop where
  os : w'.os = w.os
  tape : w'.tape = w.tape
  output : w'.output = w.output
  size : w.heap.size ≤ w'.heap.size
  block : ∀ k, k < w.heap.size → some k ≠ r → w'.heap[k]? = w.heap[k]?
theorem Spoils.grown {r row : Option Nat} {w W W' : World} (h : Spoils r w W) (hg : W.grownBy W' row) (hr : ∀ k, row = some k → r = some k ∨ w.heap.size ≤ k) : Spoils r w W' :=
  ⟨hg.os.trans h.os, hg.tape.trans h.tape, hg.output.trans h.output, Nat.le_trans h.size hg.size, fun k hk hne => (hg.block k (Nat.lt_of_lt_of_le hk h.size) (fun e => by
    rcases hr k e.symm with h1 | h1
    · exact hne h1.symm
    · omega)).trans (h.block k hk hne)⟩
theorem Spoils.set {g : Nat} {w W : World} (h : Spoils (some g) w W) (o : Nat) (u : Value) : Spoils (some g) w (W.setCell ⟨g, o, none⟩ u) :=
  h.grown ⟨rfl, rfl, rfl, by simp, fun k hk hne => Below.heap_setCell _ _ _ _ (fun e => hne (by rw [e]))⟩ (fun k hk => .inl hk)

end Go.Proofs.YtdpmbanfaigmcaaDoor

/- The walk of nfa's layer: repeat. -/
set_option linter.unusedVariables false
set_option linter.unusedSimpArgs false
namespace Go.Proofs.YtdpmbanfaigmcaaDoor
open Go.RowKit

theorem Layer.form {w : World} {L base : Nat} {v : Value} {l : List St} (h : Layer w L base v l) : ∃ A c, v = .slice A l.length c := by
  rcases h.own.2 with ⟨rfl, h0⟩ | ⟨g, cap, cur, rfl, _⟩
  · exact ⟨none, 0, by rw [h0]⟩
  · exact ⟨_, cap, rfl⟩
theorem Layer.form' {w : World} {L base : Nat} {v : Value} {l : List St} (h : Layer w L base v l) (hl : 0 < l.length) : ∃ g cap, v = .slice (some ⟨g, 0, none⟩) l.length cap ∧ g ≠ L ∧ base ≤ g ∧ g < w.heap.size := by
  rcases h.own.2 with ⟨rfl, h0⟩ | ⟨g, cap, cur, rfl, hb, hg, _⟩
  · omega
  · refine ⟨g, cap, rfl, fun e => h.ne (by simp [Value.ownBlock, e]), hb, (Array.getElem?_eq_some_iff.1 hg).1⟩
theorem stCells_at (l : List St) (i : Nat) (hi : i < l.length) : ∀ j, j < 7 → (stCells l)[i * 7 + j]? = (l[i].cells)[j]? := by
  induction l generalizing i with
  | nil => simp at hi
  | cons s l ih =>
    intro j hj
    show (s.cells ++ stCells l)[i * 7 + j]? = _
    have hs : s.cells.length = 7 := rfl
    cases i with
    | zero => rw [List.getElem?_append_left (by rw [hs]; omega)]; simp
    | succ i =>
      rw [List.getElem?_append_right (by rw [hs]; omega), hs, show (i + 1) * 7 + j - 7 = i * 7 + j by omega]
      exact ih i (by simpa using hi) j hj
theorem stCells_setNx (l : List St) (i : Nat) (x : Int) (hi : i < l.length) : (stCells l).set (i * 7 + 5) (.int .i64 x) = stCells (setNx l i x) := by
  induction l generalizing i with
  | nil => simp at hi
  | cons s l ih =>
    have hs : s.cells.length = 7 := rfl
    cases i with
    | zero => simp only [setNx, List.modify_zero_cons]; rfl
    | succ i =>
      have : setNx (s :: l) (i + 1) x = s :: setNx l i x := by simp [setNx]
      rw [this]
      show (s.cells ++ stCells l).set _ _ = s.cells ++ stCells (setNx l i x)
      rw [← ih i (by simpa using hi), List.set_append_right _ _ (by rw [hs]; omega), hs, show (i + 1) * 7 + 5 - 7 = i * 7 + 5 by omega]
/-- A state's Next is written. -/
theorem Layer.setNx {w : World} {L base g cap : Nat} {l : List St} (h : Layer w L base (.slice (some ⟨g, 0, none⟩) l.length cap) l) (i : Nat) (hi : i < l.length) (x : Int) :
    (w.cell? ⟨g, i * 7 + 5, none⟩).isSome = true ∧ w.frozen? ⟨g, i * 7 + 5, none⟩ = false ∧ Layer (w.setCell ⟨g, i * 7 + 5, none⟩ (.int .i64 x)) L base (.slice (some ⟨g, 0, none⟩) l.length cap) (setNx l i x) ∧
    Lays L (some g) w (w.setCell ⟨g, i * 7 + 5, none⟩ (.int .i64 x)) := by
  have hgL : L ≠ g := fun e => h.ne (by simp [Value.ownBlock, e])
  have h1 : w.cell? ⟨g, i * 7 + 5, none⟩ = _ := h.own.cellAt (i * 7 + 5) (by omega)
  rw [stCells_at l i hi 5 (by omega)] at h1
  have hst := h.own.stored (i * 7 + 5) (.int .i64 x)
  rw [stCells_setNx l i x hi] at hst
  refine ⟨by rw [h1]; rfl, h.own.frozenAt _, ⟨?_, ?_, ?_, h.ne, ?_⟩, ?_⟩
  · rw [World.cell?_setCell_other _ _ _ _ (by intro e; injection e with e; exact hgL e.symm)]; exact h.cell
  · rw [World.frozen?_setCell]; exact h.froz
  · have : (Go.Proofs.YtdpmbanfaigmcaaDoor.setNx l i x).length = l.length := by simp [Go.Proofs.YtdpmbanfaigmcaaDoor.setNx]
    rw [this]; exact hst.1
  · rw [World.size_setCell]; exact h.base
  · exact ⟨rfl, rfl, rfl, by rw [World.size_setCell]; exact Nat.le_refl _, fun k hk _ hne => Below.heap_setCell _ _ _ _ (fun e => hne (by rw [e]))⟩

theorem headF_at : ∀ (ps : List T) (h : 0 < ps.length), headF ps = layF ps[0]
  | p :: ps, _ => by funext tu l; rw [headF]; rfl
theorem At8.zero {w : World} {b : Nat} {t : T} {A : Option Addr} {c : Nat} (h : At8 w b 0 t A c) : w.cell? ⟨b, 0, none⟩ = some (.int .i64 t.k) := h.f0

set_option maxRecDepth 100000 in
set_option maxHeartbeats 2000000 in
theorem repeat_opt (t : T) (hk : t.k = 6) (hr : rightF t = true) (hmx : ¬ t.mx < 0) (ih : ∀ p ∈ t.ps, LayAt 64 p) : LayAt 94 t := by
  intro w ok A c L base v l tu hN ho hL hlen
  have hN' := hN
  have hps1 : 0 < t.ps.length := by rcases right_cases hr with h | h | h | h | h | h | h <;> omega
  obtain ⟨b, o, rfl, hb, hcell⟩ := hN.part hps1
  obtain ⟨Ap, cp, h8, hNp⟩ := hcell 0 hps1
  have hp0 : t.ps[0] ∈ t.ps := List.getElem_mem _
  have hih := ih t.ps[0] hp0
  have hlc := hN.len
  have hcc := hN.cap
  have hhead : headF t.ps = layF t.ps[0] := headF_at t.ps hps1
  have hrep : layF t tu l = repF t.mn t.mx (headF t.ps) tu l := by rw [layF_eq]; simp [hk]
  rw [hhead] at hrep
  have hb3 : 0 ≤ t.mn ∧ t.mn ≤ 255 ∧ t.mx ≤ 255 ∧ (t.mx = -1 ∨ t.mn ≤ t.mx) := by rcases right_cases hr with h | h | h | h | h | h | h <;> omega
  obtain ⟨hmn0, hmn1, hmx1, hmm⟩ := hb3
  generalize t.ps[0] = p at *
  obtain ⟨f0, f1, f2, f3, f4, f5, f6, f7⟩ := h8
  simp only [Nat.zero_mul, Nat.add_zero] at f0 f1 f2 f3 f4 f5 f6 f7
  have Hih := Lib.hid hih; have Hrep := Lib.hid hrep; have Hk := Lib.hid hk
  have hgp := layF_grows p
  have hlt1 : (0 : Int) < (t.ps.length : Int) := by omega
  clear hih hrep hk hcell hhead
  have hLlt := hL.lt
  have hblt := (ho b hb).1
  rw [Hrep.out] at hlen
  go_enter Tryd.func94, Tryd.ntmps94
  go_wp2_with fail
  generalize hW : (w.alloc _).alloc _ = W0
  have hz0 : w.heap.size + 2 = W0.heap.size := by subst hW; simp
  have hL0 : Layer W0 L base v l := by subst hW; exact (hL.alloc _).alloc _
  have ho0w := ho.later (w' := W0) (by omega) (Moves.refl _ _)
  have hlw : Lays L v.ownBlock w W0 := by subst hW; exact (Lays.alloc _ _ _ _).trans (Moves.refl _ v) (Lays.alloc _ _ _ _)
  have hmw : Moves w v v := Moves.refl _ _
  have hP : At8 W0 (w.heap.size + 1) 0 p Ap cp := by subst hW; constructor <;> simp [go_sem]
  have g5 : W0.cell? ⟨w.heap.size, 5, none⟩ = some (.int .i64 t.mn) := by subst hW; simp [go_sem]
  have g6 : W0.cell? ⟨w.heap.size, 6, none⟩ = some (.int .i64 t.mx) := by subst hW; simp [go_sem]
  have hNp0 := hNp.lays ho hlw
  obtain ⟨hv1, hv2⟩ : some w.heap.size ≠ v.ownBlock ∧ some (w.heap.size + 1) ≠ v.ownBlock := by
    constructor
    · intro e; have := (hL.own.lt _ e.symm).2; omega
    · intro e; have := (hL.own.lt _ e.symm).2; omega
  have hB0 : w.heap.size < W0.heap.size ∧ w.heap.size ≠ L ∧ some w.heap.size ≠ v.ownBlock := ⟨by omega, by omega, hv1⟩
  have hB1 : w.heap.size + 1 < W0.heap.size ∧ w.heap.size + 1 ≠ L ∧ some (w.heap.size + 1) ≠ v.ownBlock := ⟨by omega, by omega, hv2⟩
  clear hW
  have ho0 := ho0w
  have ho0' := ho0w
  have hmx' : 0 ≤ t.mx - t.mn := by omega
  have hopt : minF (layF p) t.mn.toNat (optF (layF p) tu (t.mx - t.mn).toNat tu l).1 (optF (layF p) tu (t.mx - t.mn).toNat tu l).2 = layF t tu l := by rw [Hrep.out, repF]; simp only [if_neg (show ¬ t.mx < 0 by omega)]
  have Hopt := Lib.hid hopt; clear hopt
  go_loopg [8, 41] ((t.mx - t.mn).toNat) (fun n tv iv wr => ∃ (i : Nat) (t' : Int) (v' : Value) (l' : List St), iv = .int .i64 i ∧ tv = .int .i64 t' ∧ i + n = (t.mx - t.mn).toNat ∧ optF (layF p) tu n t' l' = optF (layF p) tu (t.mx - t.mn).toNat tu l ∧ Layer wr L base v' l' ∧ Moves W0 v v' ∧ Lays L v.ownBlock W0 wr)
  case atStart => exact ⟨0, tu, v, l, rfl, rfl, by omega, rfl, hL0, Moves.refl _ _, Lays.refl _ _ _⟩
  case round =>
    obtain ⟨i, t', v', l', rfl, rfl, hin, heq, hLr, hmr, hlr⟩ := hrel
    have Heq := Lib.hid heq; clear heq
    have hor := ho0.later hlr.size hmr
    have hNr := hNp0.lays ho0' hlr
    have hzr := hlr.size
    obtain ⟨q0, q1, q2, q3, q4, q5, q6, q7⟩ := hP.mono (fun o => hlr.cell hB1.1 hB1.2.1 hB1.2.2)
    simp only [Nat.zero_add] at q0 q1 q2 q3 q4 q5 q6 q7
    have hfl : (optF (layF p) tu (t.mx - t.mn).toNat tu l).2.length ≤ 1000000 := by
      have := minF_grows hgp t.mn.toNat (optF (layF p) tu (t.mx - t.mn).toNat tu l).1 (optF (layF p) tu (t.mx - t.mn).toNat tu l).2
      rw [Hopt.out, Hrep.out] at this; omega
    have hlc' : l'.length ≤ 1000000 := by have := optF_grows hgp tu gk t' l'; rw [Heq.out] at this; omega
    by_cases hlt : (i : Int) < t.mx - t.mn
    · obtain ⟨n', hgk⟩ : ∃ n', gk = n' + 1 := ⟨gk - 1, by omega⟩
      have hst : (layF p t' l').2.length + 1 ≤ 1000000 := by
        have h1 := optF_grows hgp tu n' (layF p t' l').2.length ((layF p t' l').2 ++ [splitS (layF p t' l').1 tu])
        have h2 := Heq.out
        rw [hgk, optF] at h2
        rw [h2] at h1
        simp only [List.length_append, List.length_cons, List.length_nil] at h1
        omega
      have hnx : optF (layF p) tu n' (layF p t' l').2.length ((layF p t' l').2 ++ [splitS (layF p t' l').1 tu]) = optF (layF p) tu (t.mx - t.mn).toNat tu l := by rw [← Heq.out, hgk, optF]
      have Hnx := Lib.hid hnx; have Hgk := Lib.hid hgk; clear hnx hgk hfl
      go_wp2_with fail
      refine (Hih.out _ ok Ap cp L base _ l' t' hNr hor hLr (by omega)).mono ?_
      rintro e w1 ⟨rfl, v1, hL1, hm1, hl1⟩
      have hmm1 := hmr.trans hzr hm1
      have hll1 := hlr.trans hmr hl1
      go_wp2_with fail
      refine (state_any _ L base v1 _ (splitS (layF p t' l').1 tu) hL1 (by omega)).mono ?_
      rintro e w2 ⟨rfl, v2, hL2, hm2, hl2⟩
      have hmm2 := hmm1.trans hll1.size hm2
      have hll2 := hll1.trans hmm1 hl2
      go_wp2_with fail
      go_roundg n'
      case measure => have := Hgk.out; omega
      case rel => exact ⟨i + 1, (layF p t' l').2.length, _, _, by go_num, rfl, by have := Hgk.out; omega, Hnx.out, hL2, hmm2, hll2⟩
    · have hfin : optF (layF p) tu (t.mx - t.mn).toNat tu l = (t', l') := by rw [← Heq.out, show gk = 0 by omega, optF]
      have hst2 : minF (layF p) t.mn.toNat t' l' = layF t tu l := by rw [← Hopt.out, hfin]
      have Hst2 := Lib.hid hst2; clear hst2 hfin hfl
      have k5 := (hlr.cell (o := 5) hB0.1 hB0.2.1 hB0.2.2).trans g5
      go_wp2_with fail
      go_loopg [8, 55] (t.mn.toNat) (fun n tv iv wr => ∃ (i : Nat) (t' : Int) (v' : Value) (l' : List St), iv = .int .i64 i ∧ tv = .int .i64 t' ∧ i + n = t.mn.toNat ∧ minF (layF p) n t' l' = layF t tu l ∧ Layer wr L base v' l' ∧ Moves W0 v v' ∧ Lays L v.ownBlock W0 wr)
      case atStart => exact ⟨0, t', v', l', rfl, rfl, by omega, Hst2.out, hLr, hmr, hlr⟩
      case round =>
        clear hLr hmr hlr hor hNr hzr q0 q1 q2 q3 q4 q5 q6 q7 hlc' hin Heq Hst2 k5 hlt
        obtain ⟨i, t', v', l', rfl, rfl, hin, heq, hLr, hmr, hlr⟩ := hrel
        have Heq := Lib.hid heq; clear heq
        have hor := ho0.later hlr.size hmr
        have hNr := hNp0.lays ho0' hlr
        have hzr := hlr.size
        obtain ⟨q0, q1, q2, q3, q4, q5, q6, q7⟩ := hP.mono (fun o => hlr.cell hB1.1 hB1.2.1 hB1.2.2)
        simp only [Nat.zero_add] at q0 q1 q2 q3 q4 q5 q6 q7
        have hlc' : l'.length ≤ 1000000 := by have := minF_grows hgp gk t' l'; rw [Heq.out, Hrep.out] at this; omega
        by_cases hlt : (i : Int) < t.mn
        · obtain ⟨n', hgk⟩ : ∃ n', gk = n' + 1 := ⟨gk - 1, by omega⟩
          have hst : (layF p t' l').2.length ≤ 1000000 := by
            have h1 := Heq.out
            rw [hgk, minF] at h1
            have h2 := Hrep.out
            split at h1
            · rw [h1, h2]; exact hlen
            · have := minF_grows hgp n' (layF p t' l').1 (layF p t' l').2; rw [h1, h2] at this; omega
          obtain ⟨Av, cv, rfl⟩ := hLr.form
          have hcL := hLr.cell
          go_wp2_with fail
          refine (Hih.out _ ok Ap cp L base _ l' t' hNr hor hLr hst).mono ?_
          rintro e w1 ⟨rfl, v1, hL1, hm1, hl1⟩
          obtain ⟨Av1, cv1, rfl⟩ := hL1.form
          have hcL1 := hL1.cell
          have hmm1 := hmr.trans hzr hm1
          have hll1 := hlr.trans hmr hl1
          by_cases hsame : (layF p t' l').2.length = l'.length
          · have hfin : layF t tu l = layF p t' l' := by rw [← Heq.out, hgk, minF, if_pos hsame]
            have hq : (((layF p t' l').2.length : Int) == (l'.length : Int)) = true := by rw [beq_iff_eq, hsame]
            have Hfin := Lib.hid hfin; have Hsame := Lib.hid hsame; have Hgk := Lib.hid hgk; clear hfin hsame hgk
            go_wp2_with fail
            go_ret
            rw [Hfin.out]
            exact ⟨rfl, _, hL1, hmw.trans (by omega) hmm1, hlw.trans hmw hll1⟩
          · have hq : (((layF p t' l').2.length : Int) == (l'.length : Int)) = false := by rw [beq_eq_false_iff_ne]; omega
            have hnx : minF (layF p) n' (layF p t' l').1 (layF p t' l').2 = layF t tu l := by rw [← Heq.out, hgk, minF, if_neg hsame]
            have Hnx := Lib.hid hnx; have Hsame := Lib.hid hsame; have Hgk := Lib.hid hgk; clear hnx hsame hgk
            go_wp2_with fail
            go_roundg n'
            case measure => have := Hgk.out; omega
            case rel => exact ⟨i + 1, (layF p t' l').1, _, (layF p t' l').2, by go_num, rfl, by have := Hgk.out; omega, Hnx.out, hL1, hmm1, hll1⟩
        · have hfin : layF t tu l = (t', l') := by rw [← Heq.out, show gk = 0 by omega, minF]
          have Hfin := Lib.hid hfin; clear hfin
          go_wp2_with fail
          go_ret
          rw [Hfin.out]
          exact ⟨rfl, _, hLr, hmw.trans (by omega) hmr, hlw.trans hmw hlr⟩

set_option maxRecDepth 100000 in
set_option maxHeartbeats 2000000 in
theorem repeat_star (t : T) (hk : t.k = 6) (hr : rightF t = true) (hmx : t.mx < 0) (ih : ∀ p ∈ t.ps, LayAt 64 p) : LayAt 94 t := by
  intro w ok A c L base v l tu hN ho hL hlen
  have hN' := hN
  have hps1 : 0 < t.ps.length := by rcases right_cases hr with h | h | h | h | h | h | h <;> omega
  obtain ⟨b, o, rfl, hb, hcell⟩ := hN.part hps1
  obtain ⟨Ap, cp, h8, hNp⟩ := hcell 0 hps1
  have hp0 : t.ps[0] ∈ t.ps := List.getElem_mem _
  have hih := ih t.ps[0] hp0
  have hlc := hN.len
  have hcc := hN.cap
  have hhead : headF t.ps = layF t.ps[0] := headF_at t.ps hps1
  have hrep : layF t tu l = repF t.mn t.mx (headF t.ps) tu l := by rw [layF_eq]; simp [hk]
  rw [hhead] at hrep
  have hb3 : 0 ≤ t.mn ∧ t.mn ≤ 255 ∧ t.mx ≤ 255 ∧ (t.mx = -1 ∨ t.mn ≤ t.mx) := by rcases right_cases hr with h | h | h | h | h | h | h <;> omega
  obtain ⟨hmn0, hmn1, hmx1, hmm⟩ := hb3
  generalize t.ps[0] = p at *
  obtain ⟨f0, f1, f2, f3, f4, f5, f6, f7⟩ := h8
  simp only [Nat.zero_mul, Nat.add_zero] at f0 f1 f2 f3 f4 f5 f6 f7
  have Hih := Lib.hid hih; have Hrep := Lib.hid hrep; have Hk := Lib.hid hk
  have hgp := layF_grows p
  have hlt1 : (0 : Int) < (t.ps.length : Int) := by omega
  clear hih hrep hk hcell hhead
  have hLlt := hL.lt
  have hblt := (ho b hb).1
  rw [Hrep.out] at hlen
  go_enter Tryd.func94, Tryd.ntmps94
  have hrp : repF t.mn t.mx (layF p) tu l = minF (layF p) t.mn.toNat (starF (layF p) tu l).1 (starF (layF p) tu l).2 := by rw [repF]; simp only [if_pos hmx]
  have hg1 := minF_grows hgp t.mn.toNat (starF (layF p) tu l).1 (starF (layF p) tu l).2
  rw [← hrp] at hg1
  have hg2 : (starF (layF p) tu l).2.length = (layF p l.length (l ++ [splitS 0 tu])).2.length := by simp [starF, setNx]
  have hg3 := hgp l.length (l ++ [splitS 0 tu])
  simp only [List.length_append, List.length_cons, List.length_nil] at hg3
  have Hrp := Lib.hid hrp; have Hg2 := Lib.hid hg2; clear hrp
  have hlen1 : l.length ≤ 1000000 := by omega
  have hlen2 : (layF p l.length (l ++ [splitS 0 tu])).2.length ≤ 1000000 := by omega
  have Hlen := Lib.hid hlen
  clear hg1 hg2 hlen
  have hnn : ¬ (0 : Int) < t.mx - t.mn := by omega
  go_wp2_with fail
  generalize hW : (w.alloc _).alloc _ = W0
  have hz0 : w.heap.size + 2 = W0.heap.size := by subst hW; simp
  have hL0 : Layer W0 L base v l := by subst hW; exact (hL.alloc _).alloc _
  have ho0w := ho.later (w' := W0) (by omega) (Moves.refl _ _)
  have hlw : Lays L v.ownBlock w W0 := by subst hW; exact (Lays.alloc _ _ _ _).trans (Moves.refl _ v) (Lays.alloc _ _ _ _)
  have hmw : Moves w v v := Moves.refl _ _
  have hP : At8 W0 (w.heap.size + 1) 0 p Ap cp := by subst hW; constructor <;> simp [go_sem]
  have g5 : W0.cell? ⟨w.heap.size, 5, none⟩ = some (.int .i64 t.mn) := by subst hW; simp [go_sem]
  have g6 : W0.cell? ⟨w.heap.size, 6, none⟩ = some (.int .i64 t.mx) := by subst hW; simp [go_sem]
  have hNp0 := hNp.lays ho hlw
  obtain ⟨hv1, hv2⟩ : some w.heap.size ≠ v.ownBlock ∧ some (w.heap.size + 1) ≠ v.ownBlock := by
    constructor
    · intro e; have := (hL.own.lt _ e.symm).2; omega
    · intro e; have := (hL.own.lt _ e.symm).2; omega
  have hB0 : w.heap.size < W0.heap.size ∧ w.heap.size ≠ L ∧ some w.heap.size ≠ v.ownBlock := ⟨by omega, by omega, hv1⟩
  have hB1 : w.heap.size + 1 < W0.heap.size ∧ w.heap.size + 1 ≠ L ∧ some (w.heap.size + 1) ≠ v.ownBlock := ⟨by omega, by omega, hv2⟩
  clear hW
  have ho0 := ho0w
  have ho0' := ho0w
  refine (state_any _ L base v l (splitS 0 tu) hL0 (by omega)).mono ?_
  rintro e w1 ⟨rfl, v1, hL1, hm1, hl1⟩
  obtain ⟨q0, q1, q2, q3, q4, q5, q6, q7⟩ := hP.mono (fun o => hl1.cell hB1.1 hB1.2.1 hB1.2.2)
  simp only [Nat.zero_add] at q0 q1 q2 q3 q4 q5 q6 q7
  go_wp2_with fail
  refine (Hih.out _ ok Ap cp L base v1 _ (l.length : Int) (hNp0.lays ho0' hl1) (ho0.later hl1.size hm1) hL1 hlen2).mono ?_
  rintro e w2 ⟨rfl, v2, hL2, hm2, hl2⟩
  clear q0 q1 q2 q3 q4 q5 q6 q7
  have hmm2 := hm1.trans hl1.size hm2
  have hll2 := hl1.trans hm1 hl2
  have hli : l.length < (layF p l.length (l ++ [splitS 0 tu])).2.length := by omega
  obtain ⟨g, cap, rfl, hgL, hgb, hgz⟩ := hL2.form' (by omega)
  obtain ⟨hc5, hfz, hL3, hl3⟩ := hL2.setNx l.length hli (layF p l.length (l ++ [splitS 0 tu])).1
  obtain ⟨old, hc5'⟩ := Option.isSome_iff_exists.1 hc5
  have hcL2 := hL2.cell
  have hli' : (l.length : Int) < ((layF p l.length (l ++ [splitS 0 tu])).2.length : Int) := by omega
  have h5 : (w2.setCell ⟨g, l.length * 7 + 5, none⟩ (.int .i64 (layF p l.length (l ++ [splitS 0 tu])).1)).cell? ⟨w.heap.size, 5, none⟩ = some (.int .i64 t.mn) := by
    rw [hl3.cell (by have := hll2.size; omega) hB0.2.1 ?_, hll2.cell hB0.1 hB0.2.1 hB0.2.2, g5]
    intro e
    rcases hmm2 with h | ⟨x, hx, hle⟩
    · exact hB0.2.2 (e.trans h)
    · simp only [Value.ownBlock] at hx; rw [← e] at hx; injection hx with hx; omega
  have h6 : (w2.setCell ⟨g, l.length * 7 + 5, none⟩ (.int .i64 (layF p l.length (l ++ [splitS 0 tu])).1)).cell? ⟨w.heap.size, 6, none⟩ = some (.int .i64 t.mx) := by
    rw [hl3.cell (by have := hll2.size; omega) hB0.2.1 ?_, hll2.cell hB0.1 hB0.2.1 hB0.2.2, g6]
    intro e
    rcases hmm2 with h | ⟨x, hx, hle⟩
    · exact hB0.2.2 (e.trans h)
    · simp only [Value.ownBlock] at hx; rw [← e] at hx; injection hx with hx; omega
  have hll3 : Lays L v.ownBlock W0 (w2.setCell ⟨g, l.length * 7 + 5, none⟩ (.int .i64 (layF p l.length (l ++ [splitS 0 tu])).1)) := hll2.trans hmm2 hl3
  have hL3' : Layer (w2.setCell ⟨g, l.length * 7 + 5, none⟩ (.int .i64 (layF p l.length (l ++ [splitS 0 tu])).1)) L base (.slice (some ⟨g, 0, none⟩) (layF p l.length (l ++ [splitS 0 tu])).2.length cap) (starF (layF p) tu l).2 := hL3
  have HL3 := Lib.hid hL3'; have Hll3 := Lib.hid hll3; have Hmm2 := Lib.hid hmm2
  clear hL3 hL3' hll3 hc5 hl3 hll2 hmm2 hm1 hm2 hl1 hl2 hL1 hL2
  have hst2 : minF (layF p) t.mn.toNat (l.length : Int) (starF (layF p) tu l).2 = layF t tu l := by rw [Hrep.out, Hrp.out]; rfl
  have Hst2 := Lib.hid hst2; clear hst2
  go_wp2_with fail
  generalize hW3 : w2.setCell _ _ = W3 at *
  go_loopg [8, 41] 0 (fun n tv iv wr => iv = .int .i64 0 ∧ tv = .int .i64 (l.length : Int) ∧ wr = W3)
  case atStart => exact ⟨rfl, rfl, rfl⟩
  case round =>
    obtain ⟨rfl, rfl, rfl⟩ := hrel
    have hlen := Hlen.out
    clear hW3 hlen2 hli hli' hlen1 hg3 hc5' hfz hcL2
    go_wp2_with fail
    go_loopg [8, 55] (t.mn.toNat) (fun n tv iv wr => ∃ (i : Nat) (t' : Int) (v' : Value) (l' : List St), iv = .int .i64 i ∧ tv = .int .i64 t' ∧ i + n = t.mn.toNat ∧ minF (layF p) n t' l' = layF t tu l ∧ Layer wr L base v' l' ∧ Moves W0 v v' ∧ Lays L v.ownBlock W0 wr)
    case atStart => exact ⟨0, (l.length : Int), _, (starF (layF p) tu l).2, rfl, rfl, by omega, Hst2.out, HL3.out, Hmm2.out, Hll3.out⟩
    case round =>
      clear Hst2 HL3 Hll3 Hmm2
      obtain ⟨i, t', v', l', rfl, rfl, hin, heq, hLr, hmr, hlr⟩ := hrel
      have Heq := Lib.hid heq; clear heq
      have hor := ho0.later hlr.size hmr
      have hNr := hNp0.lays ho0' hlr
      have hzr := hlr.size
      obtain ⟨q0, q1, q2, q3, q4, q5, q6, q7⟩ := hP.mono (fun o => hlr.cell hB1.1 hB1.2.1 hB1.2.2)
      simp only [Nat.zero_add] at q0 q1 q2 q3 q4 q5 q6 q7
      have hlc' : l'.length ≤ 1000000 := by have := minF_grows hgp gk t' l'; rw [Heq.out, Hrep.out] at this; omega
      by_cases hlt : (i : Int) < t.mn
      · obtain ⟨n', hgk⟩ : ∃ n', gk = n' + 1 := ⟨gk - 1, by omega⟩
        have hst : (layF p t' l').2.length ≤ 1000000 := by
          have h1 := Heq.out
          rw [hgk, minF] at h1
          have h2 := Hrep.out
          split at h1
          · rw [h1, h2]; exact hlen
          · have := minF_grows hgp n' (layF p t' l').1 (layF p t' l').2; rw [h1, h2] at this; omega
        obtain ⟨Av, cv, rfl⟩ := hLr.form
        have hcL := hLr.cell
        go_wp2_with fail
        refine (Hih.out _ ok Ap cp L base _ l' t' hNr hor hLr hst).mono ?_
        rintro e w1 ⟨rfl, v1, hL1, hm1, hl1⟩
        obtain ⟨Av1, cv1, rfl⟩ := hL1.form
        have hcL1 := hL1.cell
        have hmm1 := hmr.trans hzr hm1
        have hll1 := hlr.trans hmr hl1
        by_cases hsame : (layF p t' l').2.length = l'.length
        · have hfin : layF t tu l = layF p t' l' := by rw [← Heq.out, hgk, minF, if_pos hsame]
          have hq : (((layF p t' l').2.length : Int) == (l'.length : Int)) = true := by rw [beq_iff_eq, hsame]
          have Hfin := Lib.hid hfin; have Hsame := Lib.hid hsame; have Hgk := Lib.hid hgk; clear hfin hsame hgk
          go_wp2_with fail
          go_ret
          rw [Hfin.out]
          exact ⟨rfl, _, hL1, hmw.trans (by omega) hmm1, hlw.trans hmw hll1⟩
        · have hq : (((layF p t' l').2.length : Int) == (l'.length : Int)) = false := by rw [beq_eq_false_iff_ne]; omega
          have hnx : minF (layF p) n' (layF p t' l').1 (layF p t' l').2 = layF t tu l := by rw [← Heq.out, hgk, minF, if_neg hsame]
          have Hnx := Lib.hid hnx; have Hsame := Lib.hid hsame; have Hgk := Lib.hid hgk; clear hnx hsame hgk
          go_wp2_with fail
          go_roundg n'
          case measure => have := Hgk.out; omega
          case rel => exact ⟨i + 1, (layF p t' l').1, _, (layF p t' l').2, by go_num, rfl, by have := Hgk.out; omega, Hnx.out, hL1, hmm1, hll1⟩
      · have hfin : layF t tu l = (t', l') := by rw [← Heq.out, show gk = 0 by omega, minF]
        have Hfin := Lib.hid hfin; clear hfin
        go_wp2_with fail
        go_ret
        rw [Hfin.out]
        exact ⟨rfl, _, hLr, hmw.trans (by omega) hmr, hlw.trans hmw hlr⟩

theorem repeat_any (t : T) (hk : t.k = 6) (hr : rightF t = true) (ih : ∀ p ∈ t.ps, LayAt 64 p) : LayAt 94 t := by
  by_cases hmx : t.mx < 0
  · exact repeat_star t hk hr hmx ih
  · exact repeat_opt t hk hr hmx ih
end Go.Proofs.YtdpmbanfaigmcaaDoor

/- vouchref11: the layer's state and repeat: walked. -/
set_option linter.unusedVariables false
set_option linter.unusedSimpArgs false
namespace Go.Proofs.YtdpmbanfaigmcaaDoor
open Go.RowKit

end Go.Proofs.YtdpmbanfaigmcaaDoor

/- A range over a function whose rounds are counted: no round leaves early; what comes at round k is told by k. -/
set_option linter.unusedVariables false
set_option linter.unusedSimpArgs false
namespace Go.Proofs.YtdpmbanfaigmcaaDoor
open Go.RowKit

/-- A step of a loop's book-keeping: cells, and whatever lay below B, lie as they lay. -/
structure GB (B : Nat) (W W' : World) : Prop where
  os : W'.os = W.os
  tape : W'.tape = W.tape
  output : W'.output = W.output
  size : W.heap.size ≤ W'.heap.size
  keep : ∀ (k : Nat) (o : Obj), W.heap[k]? = some o → (k < B ∨ o.isCells = true) → W'.heap[k]? = some o
theorem GB.refl (B : Nat) (W : World) : GB B W W := ⟨rfl, rfl, rfl, Nat.le_refl _, fun _ _ h _ => h⟩
theorem GB.trans {B : Nat} {X Y Z : World} (h : GB B X Y) (k : GB B Y Z) : GB B X Z :=
  ⟨k.os.trans h.os, k.tape.trans h.tape, k.output.trans h.output, Nat.le_trans h.size k.size, fun i o hi hc => k.keep i o (h.keep i o hi hc) hc⟩
theorem GB.alloc (B : Nat) (W : World) (o : Obj) : GB B W (W.alloc o) :=
  ⟨rfl, rfl, rfl, by simp, fun k o' hk _ => (Below.heap_alloc W o k (Array.getElem?_eq_some_iff.1 hk).1).trans hk⟩
theorem GB.put {B : Nat} {W : World} {l : Nat} {o : Obj} (o' : Obj) (h : W.heap[l]? = some o) (ho : o.isCells = false) (hB : B ≤ l) : GB B W (W.putObj l o') :=
  ⟨rfl, rfl, rfl, by simp, fun k o2 hk hc => by
    by_cases e : k = l
    · subst e
      rw [h] at hk
      cases hk
      rcases hc with hc | hc
      · omega
      · rw [ho] at hc; cases hc
    · exact (World.putObj_heap_other e).trans hk⟩
theorem GB.cell {B : Nat} {W W' : World} (h : GB B W W') {a : Addr} {v : Value} (hc : W.cell? a = some v) : W'.cell? a = some v ∧ W'.frozen? a = W.frozen? a := by
  obtain ⟨o, ho, hoc⟩ := cells_of_cell hc
  have := h.keep _ _ ho (.inr hoc)
  exact ⟨(World.cell?_of_block (by rw [this, ho])).trans hc, World.frozen?_of_block (by rw [this, ho])⟩

/-- What a round must leave. -/
def RoundEnd (B : Nat) (Kp : World → World → Prop) (I : Nat → World → Prop) (k : Nat) (W2 : World) (e : Exit) (W' : World) : Prop := e = .normal ∧ KeepsFrom B W2 W' ∧ Kp W2 W' ∧ I (k + 1) W'
section
variable {F : Fence} {n : Nat} {P : Program}
theorem wpIn_range_idx {g : Operand} {ps : Array Tmp} {assign body : Code} {Q : Exit → Act → World → Prop} {a : Act} {w : World}
    (hro : F.round = none) (h1 : 1 ≤ n) {gf : Nat} {lb : Array Value} (hg : a.eval g = .func (.func gf) #[] lb) (hFg : F.fn gf) (eg : ∀ args w, (callFunc gf args).run P w = .ok (.enter gf args) w)
    {enc : Nat → Array Value} {N : Nat} (hps : ∀ k, (enc k).size = ps.size)
    (I : Nat → World → Prop) (hI : ∀ k W W', I k W → GB w.heap.size W W' → I k W') (h0 : I 0 w)
    (Kp : World → World → Prop) (hKp : ∀ W W', w.heap.size ≤ W.heap.size → GB w.heap.size W W' → Kp W W') (hKt : ∀ {A B C : World}, Kp A B → Kp B C → Kp A C)
    (hseq : ∀ (l : Nat) (J : Nat → World → Prop) (W : World), GB w.heap.size w W →
      (∀ k W1, k < N → J k W1 → YieldAt F (n - 1 - 1) P l (enc k) W1 fun e W' => e = .returned (.bool true) ∧ J (k + 1) W' ∧ Kp W1 W') → J 0 W →
      CallsIn F (n - 1) P gf (#[.func (.yield l) #[] #[]] ++ lb) W fun e W' => (∃ v, e = .returned v) ∧ J N W')
    (hround : ∀ (l k : Nat) (W : World), w.heap.size ≤ l → w.heap.size ≤ W.heap.size → k < N → I k W →
      assign.wpIn (F.inRound l) (n - 1 - 1) P (Exit.then (fun a₁ W1 => KeepsFrom w.heap.size W W1 ∧ Kp W W1 ∧ ∀ W2, GB w.heap.size W1 W2 → body.wpIn (F.inRound l) (n - 1 - 1) P (fun e _ W' => RoundEnd w.heap.size Kp I k W2 e W') a₁ W2) (fun _ _ _ => False))
        { tmps := (ps.zip (enc k)).foldl (fun t (p, v) => t.setIfInBounds p v) a.tmps, defers := [] } W)
    (hdone : ∀ (D : Nat) (W : World), w.heap.size ≤ D → I N W → W.heap[D]? = some (.deferred (some [])) → Q .normal { a with defers := { target := .collected D, args := #[] } :: a.defers } W) :
    (Code.rangeFunc g ps assign body).wpIn F n P Q a w := by
  refine wpIn_rangeFunc ?_
  intro fn hfn
  rw [hro]
  obtain ⟨rec, hrec⟩ : ∃ rec : LoopState → Option Code → Loop, rec = fun st pe => { state := st, pending := pe, fn, tmps := a.tmps, params := ps, assign, body, defers := w.heap.size } := ⟨_, rfl⟩
  obtain ⟨W1, hW1⟩ : ∃ W1, (w.alloc (.deferred (some []))).alloc (.loop (rec .ready none)) = W1 := ⟨_, rfl⟩
  have hL1 : W1.heap[w.heap.size + 1]? = some (.loop (rec .ready none)) := by
    rw [← hW1]; have := World.alloc_heap_new (w.alloc (.deferred (some []))) (.loop (rec .ready none)); rwa [World.size_alloc] at this
  have hK1 : W1.heap[w.heap.size]? = some (.deferred (some [])) := by
    rw [← hW1]; exact (Below.heap_alloc _ _ _ (by simp)).trans (World.alloc_heap_new w _)
  have hG1 : GB w.heap.size w W1 := by rw [← hW1]; exact (GB.alloc _ _ _).trans (GB.alloc _ _ _)
  refine ⟨w.heap.size + 1, [{ target := .collected w.heap.size, args := #[] }], W1, { target := .fn (.func gf) lb, args := #[.func (.yield (w.heap.size + 1)) #[] #[]] }, W1, gf,
    #[.func (.yield (w.heap.size + 1)) #[] #[]] ++ lb, W1, ?_, ?_, ?_, ?_, fun _ => h1, ?_⟩
  · rw [← hW1, hrec]; exact run_enterLoop_outer _ _ _ _ _
  · simp only [resolve, hg]
    simp [go_sem]
  · intro f' hf'; simp [Target.leads] at hf'; subst hf'; exact hFg
  · simp [invoke, go_sem, eg]
  · refine (hseq (w.heap.size + 1) (fun k W => (w.heap.size ≤ W.heap.size ∧ I k W) ∧ W.heap[w.heap.size + 1]? = some (.loop (rec .ready none)) ∧ W.heap[w.heap.size]? = some (.deferred (some []))) W1 hG1 ?_ ⟨⟨hG1.size, hI _ _ _ h0 hG1⟩, hL1, hK1⟩).mono ?_
    · rintro k W hk ⟨⟨hzs, hi⟩, hl, hd⟩
      have hy := run_yield (P := P) (args := enc k) hl (by rw [hrec]; exact hps k)
      rw [hrec] at hy
      refine ⟨fn, _, assign, body, hy, roundIn_of_wpIn hfn ?_⟩
      refine wpIn_mono (hround (w.heap.size + 1) k W (by omega) hzs hk hi) ?_
      intro e a1 Wa hq
      cases e with
      | exit id => exact hq.elim
      | goto t => exact hq.elim
      | ret => exact hq.elim
      | panic ch => exact hq.elim
      | outgrown => exact hq.elim
      | normal =>
        obtain ⟨hka, hpa, hbody⟩ := hq
        have hl2 := hka.same _ _ (by omega) hl rfl
        have hd2 := hka.same _ _ (Nat.le_refl _) hd rfl
        refine ⟨_, run_beginRound hl2 (by rw [hrec]), ?_⟩
        have hg2 : GB w.heap.size Wa (Wa.putObj (w.heap.size + 1) (.loop { rec .ready none with state := .busy })) := GB.put _ hl2 rfl (by omega)
        have hl3 : (Wa.putObj (w.heap.size + 1) (.loop { rec .ready none with state := .busy })).heap[w.heap.size + 1]? = some (.loop { rec .ready none with state := .busy }) := World.putObj_heap_same (Array.getElem?_eq_some_iff.1 hl2).1
        have hd3 : (Wa.putObj (w.heap.size + 1) (.loop { rec .ready none with state := .busy })).heap[w.heap.size]? = some (.deferred (some [])) := (World.putObj_heap_other (by omega)).trans hd2
        refine wpIn_mono (hbody _ hg2) ?_
        rintro e a2 Wb ⟨rfl, hkb, hpb, hib⟩
        have hl4 := hkb.same _ _ (by omega) hl3 rfl
        have hd4 := hkb.same _ _ (Nat.le_refl _) hd3 rfl
        have hg4 : GB w.heap.size Wb (Wb.putObj (w.heap.size + 1) (.loop { rec .ready none with state := .ready, pending := none })) := GB.put _ hl4 rfl (by omega)
        have hend := run_endRound (P := P) none hl4
        have hsz : w.heap.size ≤ Wb.heap.size := by have h2 := hka.size; have h3 := hkb.size; simp only [World.putObj_size] at h3; omega
        have hza : w.heap.size ≤ Wa.heap.size := by have h2 := hka.size; omega
        refine ⟨_, _, hend, rfl, ⟨⟨by simpa using hsz, hI _ _ _ hib (by simpa using hg4)⟩, ?_, ?_⟩, ?_⟩
        · refine (World.putObj_heap_same (Array.getElem?_eq_some_iff.1 hl4).1).trans ?_
          rw [hrec]; rfl
        · exact (World.putObj_heap_other (by omega)).trans hd4
        · exact hKt (hKt (hKt hpa (hKp _ _ hza hg2)) hpb) (hKp _ _ hsz (by simpa using hg4))
    · rintro e W2 ⟨⟨v, rfl⟩, ⟨_, hi⟩, hl, hd⟩
      have hend : (Instr.endLoop (w.heap.size + 1)).run P W2 = .ok none (W2.putObj (w.heap.size + 1) (.loop { rec .ready none with state := .exhausted })) := by
        have h := run_endLoop (P := P) hl (by rw [hrec]; simp)
        rw [h, hrec]
      exact ⟨none, _, hend, hdone w.heap.size _ (Nat.le_refl _) (hI _ _ _ hi (GB.put _ hl rfl (by omega))) ((World.putObj_heap_other (by omega)).trans hd)⟩
end
end Go.Proofs.YtdpmbanfaigmcaaDoor

/- The walks of slices.Backward, at nodes and at ints. -/
set_option linter.unusedVariables false
set_option linter.unusedSimpArgs false
namespace Go.Proofs.YtdpmbanfaigmcaaDoor
open Go.RowKit Go.Shelf
attribute [local go_sem] Oper.semAt_some

/-- The cells of some blocks lie as they lay. -/
def KeepOn (S : Nat → Prop) (W W' : World) : Prop := ∀ b, S b → ∀ o, W'.cell? ⟨b, o, none⟩ = W.cell? ⟨b, o, none⟩
theorem KeepOn.trans {S : Nat → Prop} {A B C : World} (h : KeepOn S A B) (k : KeepOn S B C) : KeepOn S A C := fun b hb o => (k b hb o).trans (h b hb o)
theorem KeepOn.refl (S : Nat → Prop) (A : World) : KeepOn S A A := fun _ _ _ => rfl
theorem KeepOn.of_gb {S : Nat → Prop} {B : Nat} (hS : ∀ b, S b → b < B) {W W' : World} (hB : B ≤ W.heap.size) (h : GB B W W') : KeepOn S W W' := fun b hb o => by
  have hlt := hS b hb
  have h1 : W.heap[b]? = some W.heap[b] := Array.getElem?_eq_getElem (by omega)
  exact World.cell?_of_block (w := W) (a := ⟨b, o, none⟩) ((h.keep b _ h1 (.inl hlt)).trans h1.symm)

set_option maxRecDepth 100000 in
set_option maxHeartbeats 400000 in
theorem backN_any (w : World) (A : Option Addr) (n c : Nat) :
    Calls Tryd.prog 112 #[.slice A n c] w fun e w' => e = .returned (.func (.func 123) #[] #[.pointer (some ⟨w.heap.size, 0, none⟩)]) ∧ w' = w.alloc (.cells #[.slice A n c] 25) := by
  go_enter Tryd.func112, Tryd.ntmps112
  go_wp2_with fail
  go_ret
  exact ⟨rfl, rfl⟩

/-- What comes at round k, from behind. -/
def encN (ps : List T) (As : Nat → Option Addr) (cs : Nat → Nat) (k : Nat) : Array Value :=
  #[.int .i64 ((ps.length - 1 - k : Nat) : Int), nodeV (ps.getD (ps.length - 1 - k) default) (As (ps.length - 1 - k)) (cs (ps.length - 1 - k))]

set_option maxRecDepth 100000 in
set_option maxHeartbeats 2000000 in
theorem backN_seq (m l Bs b o c : Nat) (ps : List T) (As : Nat → Option Addr) (cs : Nat → Nat) (hlen : ps.length ≤ 17592186044416) (J : Nat → World → Prop) (W : World)
    (hc : W.cell? ⟨Bs, 0, none⟩ = some (.slice (some ⟨b, o, none⟩) ps.length c)) (he : ∀ i (hi : i < ps.length), At8 W b (o + i * 8) ps[i] (As i) (cs i))
    (hY : ∀ k W1, k < ps.length → J k W1 → YieldAt Fence.wide (m - 1) Tryd.prog l (encN ps As cs k) W1 fun e W' => e = .returned (.bool true) ∧ J (k + 1) W' ∧ KeepOn (fun x => x = b ∨ x = Bs) W1 W') (h0 : J 0 W) :
    CallsIn Fence.wide m Tryd.prog 123 #[.func (.yield l) #[] #[], .pointer (some ⟨Bs, 0, none⟩)] W fun e W' => (∃ v, e = .returned v) ∧ J ps.length W' := by
  refine callsIn_of_wp Tryd.func123 rfl trivial ?_ rfl
  simp only [Tryd.ntmps123, List.size_toArray, List.length_cons, List.length_nil, Nat.reduceAdd, Nat.reduceSub, Array.replicate_succ, Array.replicate_zero, List.push_toArray, List.append_toArray, List.nil_append, List.cons_append]
  gi_wp2
  gi_loopw [3] (fun i wr => ∃ (k : Nat) (j : Int), i = .int .i64 j ∧ j + 1 + k = ps.length ∧ -1 ≤ j ∧ J k wr ∧ KeepOn (fun x => x = b ∨ x = Bs) W wr)
    (fun i _ => (intOf i + 1).toNat)
  case atStart => exact ⟨0, (ps.length : Int) - 1, rfl, by omega, by omega, h0, KeepOn.refl _ _⟩
  case round =>
    obtain ⟨k, j, rfl, hj, hj1, hJ, hK⟩ := hrel
    have hcb := (hK Bs (.inr rfl) 0).trans hc
    by_cases hge : 0 ≤ j
    · obtain ⟨r, rfl⟩ := Int.eq_ofNat_of_zero_le hge
      have hr : r < ps.length := by omega
      obtain ⟨fn, tmps, assign, body, hy, hR⟩ := hY k wr (by omega) hJ
      have e : ps.length - 1 - k = r := by omega
      unfold encN at hy
      have hgd : ps.getD r default = ps[r] := by simp [List.getD_eq_getElem?_getD, hr]
      rw [e, hgd] at hy
      clear hgd
      obtain ⟨f0, f1, f2, f3, f4, f5, f6, f7⟩ := (he r hr).mono (w' := wr) (fun o => hK b (.inl rfl) o)
      generalize ps[r] = p at *
      clear he hY
      gi_wp2
      refine ⟨fun h => by simp [Fence.wide] at h, hR.mono ?_⟩
      rintro e W3 ⟨rfl, hJ3, hk3⟩
      gi_wp2
      go_roundw
      case rel => exact ⟨k + 1, (r : Int) - 1, rfl, by omega, by omega, hJ3, hK.trans hk3⟩
      case measure => simp [intOf]
    · obtain rfl : k = ps.length := by omega
      gi_wp2
      go_end0
      exact ⟨⟨_, rfl⟩, hJ⟩

set_option maxRecDepth 100000 in
set_option maxHeartbeats 400000 in
theorem backI_any (w : World) (A : Option Addr) (n c : Nat) :
    Calls Tryd.prog 113 #[.slice A n c] w fun e w' => e = .returned (.func (.func 124) #[] #[.pointer (some ⟨w.heap.size, 0, none⟩)]) ∧ w' = w.alloc (.cells #[.slice A n c] 83) := by
  go_enter Tryd.func113, Tryd.ntmps113
  go_wp2_with fail
  go_ret
  exact ⟨rfl, rfl⟩

/-- What comes at round k, from behind, of the first n of some ints. -/
def encI (xs : List Int) (n k : Nat) : Array Value :=
  #[.int .i64 ((n - 1 - k : Nat) : Int), .int .i64 (xs.getD (n - 1 - k) 0)]

set_option maxRecDepth 100000 in
set_option maxHeartbeats 2000000 in
theorem backI_seq (m l Bs b o c n : Nat) (xs : List Int) (hlen : n ≤ 17592186044416) (J : Nat → World → Prop) (W : World)
    (hc : W.cell? ⟨Bs, 0, none⟩ = some (.slice (some ⟨b, o, none⟩) n c)) (he : ∀ i, i < n → W.cell? ⟨b, o + i, none⟩ = some (.int .i64 (xs.getD i 0)))
    (hY : ∀ k W1, k < n → J k W1 → YieldAt Fence.wide (m - 1) Tryd.prog l (encI xs n k) W1 fun e W' => e = .returned (.bool true) ∧ J (k + 1) W' ∧ KeepOn (fun x => x = b ∨ x = Bs) W1 W') (h0 : J 0 W) :
    CallsIn Fence.wide m Tryd.prog 124 #[.func (.yield l) #[] #[], .pointer (some ⟨Bs, 0, none⟩)] W fun e W' => (∃ v, e = .returned v) ∧ J n W' := by
  refine callsIn_of_wp Tryd.func124 rfl trivial ?_ rfl
  simp only [Tryd.ntmps124, List.size_toArray, List.length_cons, List.length_nil, Nat.reduceAdd, Nat.reduceSub, Array.replicate_succ, Array.replicate_zero, List.push_toArray, List.append_toArray, List.nil_append, List.cons_append]
  gi_wp2
  gi_loopw [3] (fun i wr => ∃ (k : Nat) (j : Int), i = .int .i64 j ∧ j + 1 + k = n ∧ -1 ≤ j ∧ J k wr ∧ KeepOn (fun x => x = b ∨ x = Bs) W wr)
    (fun i _ => (intOf i + 1).toNat)
  case atStart => exact ⟨0, (n : Int) - 1, rfl, by omega, by omega, h0, KeepOn.refl _ _⟩
  case round =>
    obtain ⟨k, j, rfl, hj, hj1, hJ, hK⟩ := hrel
    have hcb := (hK Bs (.inr rfl) 0).trans hc
    by_cases hge : 0 ≤ j
    · obtain ⟨r, rfl⟩ := Int.eq_ofNat_of_zero_le hge
      have hr : r < n := by omega
      obtain ⟨fn, tmps, assign, body, hy, hR⟩ := hY k wr (by omega) hJ
      have e : n - 1 - k = r := by omega
      unfold encI at hy
      rw [e] at hy
      have f0 := (hK b (.inl rfl) (o + r)).trans (he r hr)
      generalize xs.getD r 0 = p at *
      clear he hY
      gi_wp2
      refine ⟨fun h => by simp [Fence.wide] at h, hR.mono ?_⟩
      rintro e W3 ⟨rfl, hJ3, hk3⟩
      gi_wp2
      go_roundw
      case rel => exact ⟨k + 1, (r : Int) - 1, rfl, by omega, by omega, hJ3, hK.trans hk3⟩
      case measure => simp [intOf]
    · obtain rfl : k = n := by omega
      gi_wp2
      go_end0
      exact ⟨⟨_, rfl⟩, hJ⟩
end Go.Proofs.YtdpmbanfaigmcaaDoor

/- The walk of nfa's layer: row. -/
set_option linter.unusedVariables false
set_option linter.unusedSimpArgs false
namespace Go.Proofs.YtdpmbanfaigmcaaDoor
open Go.RowKit Go.Shelf
attribute [local go_sem] Oper.semAt_some

theorem ownsRow_gb {B : Nat} {W W' : World} (h : GB B W W') {base : Nat} {e : TypeId} {size n : Nat} {v : Value} {xs : List Value} (ho : W.ownsRow base e size v n xs) : W'.ownsRow base e size v n xs := by
  refine ⟨ho.1, ?_⟩
  rcases ho.2 with h0 | ⟨g, cap, cur, rfl, hb, hg, rest⟩
  · exact .inl h0
  · exact .inr ⟨g, cap, cur, rfl, hb, h.keep _ _ hg (.inr rfl), rest⟩
theorem Layer.gb {B : Nat} {W W' : World} (h : GB B W W') {L base : Nat} {v : Value} {l : List St} (hL : Layer W L base v l) : Layer W' L base v l :=
  ⟨(h.cell hL.cell).1, (h.cell hL.cell).2.trans hL.froz, ownsRow_gb h hL.own, hL.ne, Nat.le_trans hL.base h.size⟩
theorem Lays.gb {B : Nat} {w W W' : World} (h : GB B W W') {L : Nat} {r : Option Nat} (hl : Lays L r w W) (hB : w.heap.size ≤ B) : Lays L r w W' :=
  ⟨h.os.trans hl.os, h.tape.trans hl.tape, h.output.trans hl.output, Nat.le_trans hl.size h.size, fun k hk h1 h2 => by
    have e := hl.block k hk h1 h2
    have hkW := Nat.lt_of_lt_of_le hk hl.size
    have h3 : W.heap[k]? = some W.heap[k] := Array.getElem?_eq_getElem hkW
    rw [← e, h3]
    exact h.keep k _ h3 (.inl (by omega))⟩
theorem Layer.setOther {w : World} {L base : Nat} {v : Value} {l : List St} (h : Layer w L base v l) {B o : Nat} (h1 : B ≠ L) (h2 : some B ≠ v.ownBlock) (u : Value) : Layer (w.setCell ⟨B, o, none⟩ u) L base v l := by
  refine ⟨?_, ?_, ?_, h.ne, by rw [World.size_setCell]; exact h.base⟩
  · rw [World.cell?_setCell_other _ _ _ _ (by intro e; injection e with e; exact h1 e)]; exact h.cell
  · rw [World.frozen?_setCell]; exact h.froz
  · exact h.own.kept (row := some B) ⟨rfl, rfl, rfl, by rw [World.size_setCell]; exact Nat.le_refl _, fun k hk hne => Below.heap_setCell _ _ _ _ (fun e => hne (by rw [e]))⟩ (.inr (fun e => h2 e.symm))
theorem Lays.setNew {w W : World} {L : Nat} {r : Option Nat} (h : Lays L r w W) {B o : Nat} (hB : w.heap.size ≤ B) (u : Value) : Lays L r w (W.setCell ⟨B, o, none⟩ u) :=
  ⟨h.os, h.tape, h.output, by rw [World.size_setCell]; exact h.size, fun k hk h1 h2 => (Below.heap_setCell _ _ _ _ (show k ≠ B by omega)).trans (h.block k hk h1 h2)⟩
theorem rowF_drop : ∀ (ps : List T) (j : Nat) (tu : Int) (l : List St), (rowF (ps.drop j) tu l).2.length ≤ (rowF ps tu l).2.length
  | [], j, tu, l => by simp
  | p :: ps, 0, tu, l => by simp
  | p :: ps, j + 1, tu, l => by
    have h1 := rowF_drop ps j tu l
    have h2 := layF_grows p (rowF ps tu l).1 (rowF ps tu l).2
    rw [List.drop_succ_cons, rowF]
    omega
/-- What a layer's call leaves of blocks that are no cells. -/
theorem Lays.keepsFrom {L : Nat} {w W : World} {base : Nat} {v : Value} {l : List St} (h : Lays L v.ownBlock w W) (hL : Layer w L base v l) (B : Nat) : KeepsFrom B w W :=
  ⟨h.size, fun k o _ hk ho => (h.block k (Array.getElem?_eq_some_iff.1 hk).1 (fun e => by
      obtain ⟨o', ho', hc⟩ := cells_of_cell hL.cell
      rw [e] at hk
      rw [show w.heap[L]? = some o' from ho'] at hk
      cases hk
      rw [hc] at ho; cases ho) (fun e => by
      rcases hL.own.2 with ⟨rfl, _⟩ | ⟨g, cap, cur, rfl, _, hg, _⟩
      · simp [Value.ownBlock] at e
      · simp only [Value.ownBlock] at e
        injection e with e
        rw [e, hg] at hk
        cases hk
        cases ho)).trans hk⟩

/-- Between two rounds of row: k parts are laid. -/
def RowI (t : T) (w W0 : World) (L base : Nat) (v : Value) (tu : Int) (l : List St) (k : Nat) (W : World) : Prop :=
  ∃ v', Layer W L base v' (rowF (t.ps.drop (t.ps.length - k)) tu l).2 ∧ Moves W0 v v' ∧ Lays L v.ownBlock w W ∧ W.cell? ⟨w.heap.size, 0, none⟩ = some (.pointer (some ⟨L, 0, none⟩)) ∧ W.cell? ⟨w.heap.size + 2, 0, none⟩ = some (.int .i64 (rowF (t.ps.drop (t.ps.length - k)) tu l).1) ∧ W.frozen? ⟨w.heap.size + 2, 0, none⟩ = false

set_option maxRecDepth 100000 in
set_option maxHeartbeats 2000000 in
theorem row_any (t : T) (hk : t.k = 4) (hr : rightF t = true) (ih : ∀ p ∈ t.ps, LayAt 64 p) : LayAt 92 t := by
  intro w ok A c L base v l tu hN ho hL hlen
  have hps1 : 0 < t.ps.length := by rcases right_cases hr with h | h | h | h | h | h | h <;> omega
  have hrow : layF t tu l = rowF t.ps tu l := by rw [layF_eq]; simp [hk]
  have hll := hN.len
  cases hN with
  | mk _ _ _ As cs hcap _ ha hp =>
  obtain ⟨b, o, rfl, hb, hcell⟩ := ha (fun e => by simp [e] at hps1)
  rw [hrow] at hlen
  have Hrow := Lib.hid hrow; have Hlen := Lib.hid hlen; have Hih := Lib.hid ih
  clear hrow hk hlen ih
  have hLlt := hL.lt
  have hblt := (ho b hb).1
  refine (callsIn_wide (n := 3)).1 ?_
  refine callsIn_of_wp_marks Tryd.func92 rfl trivial ?_ rfl
  simp only [Tryd.ntmps92, List.size_toArray, List.length_cons, List.length_nil, Nat.reduceAdd, Nat.reduceSub, Array.replicate_succ, Array.replicate_zero, List.push_toArray, List.append_toArray, List.nil_append, List.cons_append]
  gi_wp2
  refine ⟨trivial, (callsIn_wide.2 (backN_any _ _ _ _)).mono ?_⟩
  rintro e w' ⟨rfl, rfl⟩
  gi_wp2
  have hz4 : ((((w.alloc (.cells #[.pointer (some ⟨L, 0, none⟩)] 102)).alloc (.cells #[.int .i64 t.k, .int .u64 t.s0, .int .u64 t.s1, .int .u64 t.s2, .int .u64 t.s3, .int .i64 t.mn, .int .i64 t.mx, .slice (some ⟨b, o, none⟩) t.ps.length c] 27)).alloc (.cells #[.int .i64 tu] 3)).alloc (.cells #[.slice (some ⟨b, o, none⟩) t.ps.length c] 25)).heap.size = w.heap.size + 4 := by simp
  generalize hW : (((w.alloc _).alloc _).alloc _).alloc _ = W0 at *
  have hz4a : w.heap.size + 4 ≤ W0.heap.size := by omega
  have hz4b : W0.heap.size ≤ w.heap.size + 4 := by omega
  clear hz4
  have hb0 : Below w.heap.size w W0 := by subst hW; exact (((((Below.refl _ _).alloc (Nat.le_refl _) _).alloc (by simp) _).alloc (by simp; omega) _).alloc (by simp; omega) _)
  have c0 : W0.cell? ⟨w.heap.size, 0, none⟩ = some (.pointer (some ⟨L, 0, none⟩)) := by subst hW; simp [go_sem]
  have c2 : W0.cell? ⟨w.heap.size + 2, 0, none⟩ = some (.int .i64 tu) := by subst hW; simp [go_sem]
  have e2 : W0.frozen? ⟨w.heap.size + 2, 0, none⟩ = false := by subst hW; simp [go_sem]
  have c3 : W0.cell? ⟨w.heap.size + 3, 0, none⟩ = some (.slice (some ⟨b, o, none⟩) t.ps.length c) := by subst hW; simp [go_sem]
  clear hW
  have hL0 := hL.later hb0
  have hno : ∀ j, w.heap.size ≤ j → some j ≠ v.ownBlock := fun j hj e => by have := (hL.own.lt _ e.symm).2; omega
  have hmv : ∀ v' : Value, Moves W0 v v' → ∀ j, w.heap.size ≤ j → j < W0.heap.size → some j ≠ v'.ownBlock := fun v' hm j h1 h2 e => by
    rcases hm with hm | ⟨x, hx, hle⟩
    · exact hno j h1 (e.trans hm)
    · rw [hx] at e; injection e with e; omega
  have HR : ∀ k, k < t.ps.length → rowF (t.ps.drop (t.ps.length - (k + 1))) tu l = layF (t.ps.getD (t.ps.length - 1 - k) default) (rowF (t.ps.drop (t.ps.length - k)) tu l).1 (rowF (t.ps.drop (t.ps.length - k)) tu l).2 := fun k hk => by
    have h1 : t.ps.length - 1 - k < t.ps.length := by omega
    rw [show t.ps.length - (k + 1) = t.ps.length - 1 - k by omega, List.drop_eq_getElem_cons h1, rowF, show t.ps.length - 1 - k + 1 = t.ps.length - k by omega]
    simp [List.getD_eq_getElem?_getD, h1]
  refine wpIn_range_idx rfl (by omega) (gf := 123) (lb := #[.pointer (some ⟨w.heap.size + 3, 0, none⟩)]) rfl trivial (enters_of Tryd.func123 (by kernel_rfl) rfl) (enc := encN t.ps As cs) (N := t.ps.length) (fun k => rfl)
    (RowI t w W0 L base v tu l)
    ?hI ?h0 (KeepOn (fun x => x = b ∨ x = w.heap.size + 3)) (fun W W' h1 h2 => KeepOn.of_gb (by intro x hx; rcases hx with rfl | rfl <;> omega) h1 h2) (fun h k => h.trans k)
    ?hseq ?hround ?hdone
  case hI =>
    rintro k W W' ⟨v', h1, h2, h3, h4, h5, h6⟩ hg
    exact ⟨v', h1.gb hg, h2, h3.gb hg (by omega), (hg.cell h4).1, (hg.cell h5).1, (hg.cell h5).2.trans h6⟩
  case h0 =>
    refine ⟨v, ?_, Moves.refl _ _, Lays.of_below hb0, c0, ?_, e2⟩
    · rw [List.drop_of_length_le (by omega), rowF]; exact hL0
    · rw [List.drop_of_length_le (by omega), rowF]; exact c2
  case hseq =>
    intro l0 J W hg hY hJ
    refine backN_seq 2 l0 (w.heap.size + 3) b o c t.ps As cs hll J W (hg.cell c3).1 ?_ hY hJ
    intro i hi
    have h8 := hcell i _ (List.getElem?_eq_getElem hi)
    refine h8.mono fun o' => ?_
    have hw0 := hb0.cell (p := ⟨b, o', none⟩) hblt
    have hbz : b < W0.heap.size := by omega
    have hk1 : W0.heap[b]? = some W0.heap[b] := Array.getElem?_eq_getElem hbz
    exact (World.cell?_of_block (w := W0) (a := ⟨b, o', none⟩) ((hg.keep b _ hk1 (.inl hbz)).trans hk1.symm)).trans hw0
  case hround =>
    intro l0 k W hl0 hzW hk hIk
    obtain ⟨v', hL', hm', hlays, d0, d2, g2⟩ := hIk
    have hkl : t.ps.length - 1 - k < t.ps.length := by omega
    have hpk : t.ps[t.ps.length - 1 - k]? = some (t.ps.getD (t.ps.length - 1 - k) default) := by simp [List.getD_eq_getElem?_getD, hkl]
    have hNk := (hp _ _ hpk).lays ho hlays
    have hmem : t.ps.getD (t.ps.length - 1 - k) default ∈ t.ps := List.mem_of_getElem? hpk
    have hihk := Hih.out _ hmem
    have hlk : (layF (t.ps.getD (t.ps.length - 1 - k) default) (rowF (t.ps.drop (t.ps.length - k)) tu l).1 (rowF (t.ps.drop (t.ps.length - k)) tu l).2).2.length ≤ 1000000 := by
      rw [← HR k hk]
      exact Nat.le_trans (rowF_drop _ _ _ _) Hlen.out
    have HRk := Lib.hid (HR k hk)
    unfold encN
    generalize As (t.ps.length - 1 - k) = Ak at *
    generalize cs (t.ps.length - 1 - k) = ck at *
    generalize t.ps.getD (t.ps.length - 1 - k) default = p at *
    have Hihk := Lib.hid hihk
    clear hihk HR hp hcell hpk Hih
    gi_wp2
    have hbW : Below W.heap.size W (W.alloc (.cells #[.int .i64 p.k, .int .u64 p.s0, .int .u64 p.s1, .int .u64 p.s2, .int .u64 p.s3, .int .i64 p.mn, .int .i64 p.mx, .slice Ak p.ps.length ck] 27)) := (Below.refl _ _).alloc (Nat.le_refl _) _
    refine ⟨(KeepsOthers.alloc _ _).from _, fun x hx o' => hbW.cell (p := ⟨x, o', none⟩) (by show x < _; rcases hx with rfl | rfl <;> omega), fun W2 hg2 => ?_⟩
    have hP : At8 (W.alloc (.cells #[.int .i64 p.k, .int .u64 p.s0, .int .u64 p.s1, .int .u64 p.s2, .int .u64 p.s3, .int .i64 p.mn, .int .i64 p.mx, .slice Ak p.ps.length ck] 27)) W.heap.size 0 p Ak ck := by constructor <;> simp [go_sem]
    obtain ⟨q0, q1, q2, q3, q4, q5, q6, q7⟩ := (⟨(hg2.cell hP.f0).1, (hg2.cell hP.f1).1, (hg2.cell hP.f2).1, (hg2.cell hP.f3).1, (hg2.cell hP.f4).1, (hg2.cell hP.f5).1, (hg2.cell hP.f6).1, (hg2.cell hP.f7).1⟩ : At8 W2 W.heap.size 0 p Ak ck)
    simp only [Nat.zero_add] at q1 q2 q3 q4 q5 q6 q7
    have hmw' : Moves w v v' := by
      rcases hm' with h | ⟨y, hy, hle⟩
      · exact .inl h
      · exact .inr ⟨y, hy, by omega⟩
    have hLW := hL'.later hbW
    have hL2 := hLW.gb hg2
    have hlays2 := (hlays.trans hmw' (Lays.of_below hbW)).gb hg2 (show w.heap.size ≤ W0.heap.size by omega)
    have k0 := (hg2.cell ((hbW.cell (p := ⟨w.heap.size, 0, none⟩) (show w.heap.size < W.heap.size by omega)).trans d0)).1
    have k2 := (hg2.cell ((hbW.cell (p := ⟨w.heap.size + 2, 0, none⟩) (show w.heap.size + 2 < W.heap.size by omega)).trans d2)).1
    have j2 : W2.frozen? ⟨w.heap.size + 2, 0, none⟩ = false := (hg2.cell ((hbW.cell (p := ⟨w.heap.size + 2, 0, none⟩) (show w.heap.size + 2 < W.heap.size by omega)).trans d2)).2.trans ((hbW.frozen (p := ⟨w.heap.size + 2, 0, none⟩) (show w.heap.size + 2 < W.heap.size by omega)).trans g2)
    have hz2 : W.heap.size + 1 ≤ W2.heap.size := by have := hg2.size; simpa using this
    have hNk2 := hNk.later hbW (fun x hx => Nat.lt_of_lt_of_le (ho x hx).1 hlays.size)
    have hok2 : OkL W2 L v' ok := fun x hx => by
      obtain ⟨a1, a2, a3⟩ := ho x hx
      refine ⟨by omega, a2, fun e => ?_⟩
      rcases hm' with hm' | ⟨y, hy, hle⟩
      · exact a3 (e.trans hm')
      · rw [hy] at e; injection e with e; omega
    have hNk3 : NodeAt W2 ok p Ak ck := hNk2.mono fun x hx => ⟨hx, fun o' => by
      have hxz : x < (W.alloc (.cells #[.int .i64 p.k, .int .u64 p.s0, .int .u64 p.s1, .int .u64 p.s2, .int .u64 p.s3, .int .i64 p.mn, .int .i64 p.mx, .slice Ak p.ps.length ck] 27)).heap.size := by have := (ho x hx).1; simp; omega
      have hk1 := Array.getElem?_eq_getElem hxz
      exact World.cell?_of_block (a := ⟨x, o', none⟩) ((hg2.keep x _ hk1 (.inl (by have := (ho x hx).1; omega))).trans hk1.symm)⟩
    gi_wp2
    refine ⟨trivial, (CallsIn.inRound l0 (callsIn_wide.2 (Hihk.out W2 ok Ak ck L base v' _ _ hNk3 hok2 hL2 hlk))).mono ?_⟩
    rintro e W3 ⟨rfl, v3, hL3, hm3, hl3⟩
    have hBt : w.heap.size + 2 < W2.heap.size ∧ w.heap.size + 2 ≠ L ∧ some (w.heap.size + 2) ≠ v'.ownBlock := ⟨by omega, by omega, hmv v' hm' _ (by omega) (by omega)⟩
    have hBl : w.heap.size < W2.heap.size ∧ w.heap.size ≠ L ∧ some w.heap.size ≠ v'.ownBlock := ⟨by omega, by omega, hmv v' hm' _ (by omega) (by omega)⟩
    have r0 := (hl3.cell (o := 0) hBl.1 hBl.2.1 hBl.2.2).trans k0
    have r2 := (hl3.cell (o := 0) hBt.1 hBt.2.1 hBt.2.2).trans k2
    have i2 := (hl3.frozen (o := 0) hBt.1 hBt.2.1 hBt.2.2).trans j2
    have hm4 : Moves W0 v v3 := hm'.trans (by omega) hm3
    have hl4 := hlays2.trans hmw' hl3
    have hBt3 := hmv v3 hm4 (w.heap.size + 2) (by omega) (by omega)
    have hz3 := hl3.size
    gi_wp2
    refine ⟨rfl, ?_, ?_, v3, ?_, hm4, hl4.setNew (by omega) _, ?_, ?_, ?_⟩
    · exact (hl3.keepsFrom hL2 _).trans ((KeepsOthers.setCell _ _ _).from _)
    · intro x hx o'
      have hx1 : x ≠ w.heap.size + 2 := by rcases hx with rfl | rfl <;> omega
      rw [World.cell?_setCell_other _ _ _ _ (by intro e; injection e with e; omega)]
      refine hl3.cell (by rcases hx with rfl | rfl <;> omega) ?_ ?_
      · rcases hx with rfl | rfl
        · exact (ho _ hb).2.1
        · omega
      · rcases hx with rfl | rfl
        · exact (hok2 _ hb).2.2
        · exact hmv v' hm' _ (by omega) (by omega)
    · rw [HRk.out]; exact hL3.setOther (by omega) hBt3 _
    · rw [World.cell?_setCell_other _ _ _ _ (by intro e; injection e with e; omega)]; exact r0
    · rw [HRk.out]; exact World.cell?_setCell_same _ _ _ r2
    · rw [World.frozen?_setCell]; exact i2
  case hdone =>
    rintro D W hD ⟨v', h1, h2, h3, h4, h5, h6⟩ hK
    rw [Nat.sub_self, List.drop_zero] at h1 h5
    gi_wp2
    refine ⟨by simp, .inl ⟨_, _, rfl, run_takeDeferred hK, ?_⟩⟩
    have hg : GB W0.heap.size W (W.putObj D (.deferred none)) := GB.put _ hK rfl hD
    refine ⟨_, results_tmp rfl _ _ _, ?_⟩
    rw [Hrow.out]
    exact ⟨rfl, v', h1.gb hg, (by
      rcases h2 with h | ⟨y, hy, hle⟩
      · exact .inl h
      · exact .inr ⟨y, hy, by omega⟩), h3.gb hg (by omega)⟩
end Go.Proofs.YtdpmbanfaigmcaaDoor

