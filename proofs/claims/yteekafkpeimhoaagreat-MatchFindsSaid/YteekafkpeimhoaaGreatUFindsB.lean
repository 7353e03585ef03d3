/- Merged texts, part of the proof Finds: LentW, Kept, Spoil, Rep, RefRep, Idx, Back, Row, Choice, RefLay, RefCh, RefSize, LayAll, Len, Make, RefMake, RefCheckN, Works, MakesW, Has. -/
import Derived.Test.YteekafkpeimhoaaGreatUFindsA
import Derived.StillTailTactics
import Derived.RangeFuncNested
import Derived.RangeFuncBound
import Derived.RangeFuncCalls
import Derived.RangeFuncLeaves
import Derived.Shelf.Abstract
import Derived.Shelf.RegionOpen
import Derived.OwnWalkIn
import Derived.TacticsInMore
import Derived.LoopNIn
import Derived.LoopIn
import Derived.BigFrameIn
import Derived.Deep.RegionWith
import Derived.Deep.DeepMust
import Derived.Laws.EntriesVeiled
import Derived.Laws.MakeOwn
import Derived.Deep.OwnRows
import Derived.Deep.DeepCutAuto
import Derived.Laws.OwnMore
import Derived.WalkMore
import Derived.Deep.QuietTactic
import Derived.BigQuiet
import Derived.IntWalk
/- LentNode: walked. -/
set_option linter.unusedVariables false
set_option linter.unusedSimpArgs false
namespace Go.Proofs.YteekafkpeimhoaaGreat
open Go.RowKit

theorem nodesL_mem : ∀ (ps : List T), ∀ p ∈ ps, nodesF p ≤ nodesL ps
  | q :: ps, p, h => by
    rw [nodesL]
    have h1 := nodesF_pos q
    have h2 := nodesL_pos ps (fun q _ => nodesF_pos q)
    cases h with
    | head => omega
    | tail _ h => have := nodesL_mem ps p h; omega
theorem nodesL_len : ∀ (ps : List T), (ps.length : Int) ≤ nodesL ps
  | [] => by simp [nodesL]
  | q :: ps => by
    rw [nodesL, List.length_cons]
    have h1 := nodesF_pos q
    have := nodesL_len ps
    omega
theorem nodes_len (t : T) : t.ps.length ≤ (nodesF t).toNat := by
  have := nodesL_len t.ps
  rw [nodesF_eq]; omega
theorem nodes_part (t : T) : ∀ p ∈ t.ps, nodesF p ≤ nodesF t := fun p hp => by
  have := nodesL_mem t.ps p hp
  rw [nodesF_eq t]; omega
/-- The boxes of LentNode: what came in, the result, the copy. -/
structure LentC (n : Nat) (t : T) (A : Option Addr) (c : Nat) (wr : World) (v : Value) : Prop where
  b0 : Blk wr n #[.int .i64 t.k, .int .u64 t.s0, .int .u64 t.s1, .int .u64 t.s2, .int .u64 t.s3, .int .i64 t.mn, .int .i64 t.mx, .slice A t.ps.length c]
  b1 : Blk wr (n + 1) #[.int .i64 0, .int .u64 0, .int .u64 0, .int .u64 0, .int .u64 0, .int .i64 0, .int .i64 0, .slice none 0 0]
  b2 : Blk wr (n + 1 + 1) #[.int .i64 t.k, .int .u64 t.s0, .int .u64 t.s1, .int .u64 t.s2, .int .u64 t.s3, .int .i64 t.mn, .int .i64 t.mx, v]
theorem LentC.keep {n : Nat} {t : T} {A : Option Addr} {c : Nat} {w w' : World} {v : Value} (h : LentC n t A c w v) (e : ∀ k, k < n + 3 → w'.heap[k]? = w.heap[k]?) : LentC n t A c w' v :=
  ⟨h.b0.keep (e _ (by omega)), h.b1.keep (e _ (by omega)), h.b2.keep (e _ (by omega))⟩
theorem LentC.set {n : Nat} {t : T} {A : Option Addr} {c : Nat} {w : World} {v : Value} (h : LentC n t A c w v) (u : Value) : LentC n t A c (w.setCell ⟨n + 1 + 1, 7, none⟩ u) u :=
  ⟨h.b0.keep (Below.heap_setCell _ _ _ _ (by simp; omega)), h.b1.keep (Below.heap_setCell _ _ _ _ (by simp)), by have := h.b2.set 7 u; simpa using this⟩

/-- The children that are laid: each a lent tree over the blocks S. -/
def Kids (t : T) (wr : World) (S : Nat → Prop) (ns : List (T × Option Addr × Nat)) : Prop := ∀ (i : Nat) (x : T × Option Addr × Nat), ns[i]? = some x → t.ps[i]? = some x.1 ∧ LentAt wr S x.1 x.2.1 x.2.2
theorem Kids.mono {t : T} {w w' : World} {S S' : Nat → Prop} {ns : List (T × Option Addr × Nat)} (h : Kids t w S ns) (hk : ∀ b, S b → S' b ∧ ∀ o, w'.cell? ⟨b, o, none⟩ = w.cell? ⟨b, o, none⟩) : Kids t w' S' ns :=
  fun i x hi => ⟨(h i x hi).1, (h i x hi).2.mono hk⟩
/-- The loop over the parts. -/
def LentJ (w : World) (t : T) (A : Option Addr) (c : Nat) (n : Nat) (i : Value) (wr : World) : Prop :=
  ∃ (j : Nat) (ns : List (T × Option Addr × Nat)) (Av : Option Addr) (cv : Nat) (S : Nat → Prop), i = .int .i64 j ∧ j + n = t.ps.length ∧ ns.length = j ∧ Kids t wr S ns ∧
    (∀ b, S b → w.heap.size + 3 ≤ b ∧ b < wr.heap.size ∧ some b ≠ (Value.slice Av j cv).ownBlock) ∧ Below w.heap.size w wr ∧ LentC w.heap.size t A c wr (.slice Av j cv) ∧
    wr.ownsRow (w.heap.size + 3) 39 8 (.slice Av j cv) j (ncells ns)
/-- The loop over the marks. -/
def LentK (w : World) (t : T) (A : Option Addr) (c : Nat) (ns : List (T × Option Addr × Nat)) (n : Nat) (i : Value) (wr : World) : Prop :=
  ∃ (j : Nat) (Av : Option Addr) (cv : Nat) (S : Nat → Prop), i = .int .i64 j ∧ j + n = 3 ∧ Kids t wr S ns ∧
    (∀ b, S b → w.heap.size + 3 ≤ b ∧ b < wr.heap.size ∧ some b ≠ (Value.slice Av (t.ps.length + j) cv).ownBlock) ∧ Below w.heap.size w wr ∧ LentC w.heap.size t A c wr (.slice Av (t.ps.length + j) cv) ∧
    wr.ownsRow (w.heap.size + 3) 39 8 (.slice Av (t.ps.length + j) cv) (t.ps.length + j) (ncells (ns ++ List.replicate j mark))

theorem grown_two {w1 w3 : World} {o1 o2 : Obj} {row : Option Nat} (hg : ((w1.alloc o1).alloc o2).grownBy w3 row) : ∀ b, b < w1.heap.size → some b ≠ row → w3.heap[b]? = w1.heap[b]? := fun b hb hne =>
  (hg.block b (by simp; omega) hne).trans ((((Below.refl w1.heap.size w1).alloc (Nat.le_refl _) o1).alloc (by simp) o2).block b hb)
theorem grown_one {w1 w3 : World} {o1 : Obj} {row : Option Nat} (hg : (w1.alloc o1).grownBy w3 row) : ∀ b, b < w1.heap.size → some b ≠ row → w3.heap[b]? = w1.heap[b]? := fun b hb hne =>
  (hg.block b (by simp; omega) hne).trans (((Below.refl w1.heap.size w1).alloc (Nat.le_refl _) o1).block b hb)
theorem ncell_two (w1 : World) (x : T × Option Addr × Nat) (o1 : Obj) : ∀ ad, some (⟨w1.heap.size + 1, 0, none⟩ : Addr) = some ad → ∀ j u, (ncell x)[j]? = some u → ((w1.alloc o1).alloc (.cells (ncell x).toArray 39)).cell? (ad.add j) = some u := by
  intro ad e j u hu
  simp only [Option.some.injEq] at e
  subst e
  rw [addr_add, show w1.heap.size + 1 = (w1.alloc o1).heap.size by simp, World.cell?_alloc_new, Nat.zero_add]
  simpa using hu
theorem ncell_new (w1 : World) (x : T × Option Addr × Nat) : ∀ ad, some (⟨w1.heap.size, 0, none⟩ : Addr) = some ad → ∀ j u, (ncell x)[j]? = some u → (w1.alloc (.cells (ncell x).toArray 39)).cell? (ad.add j) = some u := by
  intro ad e j u hu
  simp only [Option.some.injEq] at e
  subst e
  rw [addr_add, World.cell?_alloc_new, Nat.zero_add]
  simpa using hu

/-- What the last two statements of LentNode write. -/
def fillW (wr : World) (n : Nat) (t : T) (v : Value) : World :=
  ((((((((wr.setCell ⟨n + 1 + 1, 7, none⟩ v).setCell ⟨n + 1, 0, none⟩ (.int .i64 t.k)).setCell ⟨n + 1, 1, none⟩ (.int .u64 t.s0)).setCell ⟨n + 1, 2, none⟩ (.int .u64 t.s1)).setCell ⟨n + 1, 3, none⟩ (.int .u64 t.s2)).setCell ⟨n + 1, 4, none⟩ (.int .u64 t.s3)).setCell ⟨n + 1, 5, none⟩ (.int .i64 t.mn)).setCell ⟨n + 1, 6, none⟩ (.int .i64 t.mx)).setCell ⟨n + 1, 7, none⟩ v
theorem fillW_blk {wr : World} {n : Nat} {t : T} {A : Option Addr} {c : Nat} {v0 v : Value} (h : LentC n t A c wr v0) : Blk (fillW wr n t v) (n + 1) #[.int .i64 t.k, .int .u64 t.s0, .int .u64 t.s1, .int .u64 t.s2, .int .u64 t.s3, .int .i64 t.mn, .int .i64 t.mx, v] := by
  have h1 := ((((((((h.b1.keep (w' := wr.setCell ⟨n + 1 + 1, 7, none⟩ v) (Below.heap_setCell _ _ _ _ (by simp))).set 0 (.int .i64 t.k)).set 1 (.int .u64 t.s0)).set 2 (.int .u64 t.s1)).set 3 (.int .u64 t.s2)).set 4 (.int .u64 t.s3)).set 5 (.int .i64 t.mn)).set 6 (.int .i64 t.mx)).set 7 v
  unfold fillW; simpa using h1
theorem fillW_size (wr : World) (n : Nat) (t : T) (v : Value) : (fillW wr n t v).heap.size = wr.heap.size := by simp [fillW]
theorem fillW_other (wr : World) (n : Nat) (t : T) (v : Value) (b : Nat) (h1 : b ≠ n + 1) (h2 : b ≠ n + 1 + 1) : (fillW wr n t v).heap[b]? = wr.heap[b]? := by
  unfold fillW
  iterate 8 rw [Below.heap_setCell _ _ _ _ h1]
  exact Below.heap_setCell _ _ _ _ h2
theorem fillW_below {w wr : World} {t : T} {v : Value} (h : Below w.heap.size w wr) : Below w.heap.size w (fillW wr w.heap.size t v) := by
  unfold fillW
  exact ((((((((h.setCell (by simp; omega) _).setCell (by simp) _).setCell (by simp) _).setCell (by simp) _).setCell (by simp) _).setCell (by simp) _).setCell (by simp) _).setCell (by simp) _).setCell (by simp) _

end Go.Proofs.YteekafkpeimhoaaGreat

/- KeptNode: walked. -/
set_option linter.unusedVariables false
set_option linter.unusedSimpArgs false
namespace Go.Proofs.YteekafkpeimhoaaGreat
open Go.RowKit

end Go.Proofs.YteekafkpeimhoaaGreat

/- SpoilNfa: walked. -/
set_option linter.unusedVariables false
set_option linter.unusedSimpArgs false
namespace Go.Proofs.YteekafkpeimhoaaGreat
open Go.RowKit

/-- Nothing old is touched but one block. -/
structure Spoils (r : Option Nat) (w w' : World) : Prop where
  os : w'.os = w.os
  tape : w'.tape = w.tape
  output : w'.output = w.output
  size : w.heap.size ≤ w'.heap.size
  block : ∀ k, k < w.heap.size → some k ≠ r → w'.heap[k]? = w.heap[k]?
theorem Spoils.grown {r row : Option Nat} {w W W' : World} (h : Spoils r w W) (hg : W.grownBy W' row) (hr : ∀ k, row = some k → r = some k ∨ w.heap.size ≤ k) : Spoils r w W' :=
  ⟨hg.os.trans h.os, hg.tape.trans h.tape, hg.output.trans h.output, Nat.le_trans h.size hg.size, fun k hk hne => (hg.block k (Nat.lt_of_lt_of_le hk h.size) (fun e => by
    rcases hr k e.symm with h1 | h1
    · exact hne h1.symm
    · omega)).trans (h.block k hk hne)⟩
theorem Spoils.set {g : Nat} {w W : World} (h : Spoils (some g) w W) (o : Nat) (u : Value) : Spoils (some g) w (W.setCell ⟨g, o, none⟩ u) :=
  h.grown ⟨rfl, rfl, rfl, by simp, fun k hk hne => Below.heap_setCell _ _ _ _ (fun e => hne (by rw [e]))⟩ (fun k hk => .inl hk)

set_option maxRecDepth 100000 in
set_option maxHeartbeats 4000000 in
theorem spoil_any (w : World) (l : List St) (sa : Int) (base : Nat) (A : Option Addr) (c : Nat) (ho : w.ownsRow base 45 7 (.slice A l.length c) l.length (stCells l)) (hbase : base ≤ w.heap.size) (hl : l.length ≤ 1000000) :
    Calls Tryz.prog 9 #[nfaV l sa A c] w fun e w' => e = .returned (.tuple #[]) ∧ Spoils (Value.slice A l.length c).ownBlock w w' := by
  go_enter Tryz.func9, Tryz.ntmps9
  go_wp2_with fail
  generalize hW : w.alloc _ = W0
  have hS0 : Spoils (Value.slice A l.length c).ownBlock w W0 := by subst hW; exact ⟨rfl, rfl, rfl, by simp, fun k hk _ => (((Below.refl w.heap.size w).alloc (Nat.le_refl _) _).block k hk)⟩
  have hz0 : w.heap.size < W0.heap.size := by subst hW; simp
  have p0 : W0.cell? ⟨w.heap.size, 0, none⟩ = some (.slice A l.length c) := by subst hW; simp [go_sem]
  have ho0 : W0.ownsRow base 45 7 (.slice A l.length c) l.length (stCells l) := by subst hW; exact ho.alloc _
  have hlt0 : ∀ k, (Value.slice A l.length c).ownBlock = some k → k < w.heap.size := fun k hk => (ho.lt k hk).2
  have Hlt0 := Lib.hid hlt0
  clear hW hlt0
  go_loopg [2] (l.length) (fun n i wr => ∃ (j : Nat) (xs : List Value), i = .int .i64 j ∧ j + n = l.length ∧ Spoils (Value.slice A l.length c).ownBlock w wr ∧ w.heap.size < wr.heap.size ∧ wr.cell? ⟨w.heap.size, 0, none⟩ = some (.slice A l.length c) ∧ wr.ownsRow base 45 7 (.slice A l.length c) l.length xs)
  case atStart => exact ⟨0, _, rfl, by omega, hS0, hz0, p0, ho0⟩
  case round =>
    clear hS0 hz0 p0 ho0
    obtain ⟨j, xs, rfl, hj, hS, hz, p0, hor⟩ := hrel
    have Hor := Lib.hid hor; clear hor
    by_cases hlt : j < l.length
    · obtain ⟨g, rfl⟩ : ∃ g, A = some ⟨g, 0, none⟩ := by
        rcases Hor.out.2 with ⟨e, h0⟩ | ⟨g, cap, cur, e, _⟩
        · omega
        · simp only [Value.slice.injEq] at e; exact ⟨g, e.1⟩
      have hxl : xs.length = l.length * 7 := Hor.out.1
      have hc : ∀ k, k < 7 → ∃ u, wr.cell? ⟨g, j * 7 + k, none⟩ = some u := fun k hk => ⟨xs[j * 7 + k]'(by omega), by rw [Hor.out.cellAt _ (by omega), List.getElem?_eq_getElem]⟩
      obtain ⟨x0, f0⟩ := hc 0 (by omega)
      obtain ⟨x1, f1⟩ := hc 1 (by omega)
      obtain ⟨x2, f2⟩ := hc 2 (by omega)
      obtain ⟨x3, f3⟩ := hc 3 (by omega)
      obtain ⟨x4, f4⟩ := hc 4 (by omega)
      obtain ⟨x5, f5⟩ := hc 5 (by omega)
      obtain ⟨x6, f6⟩ := hc 6 (by omega)
      have e0 := Hor.out.frozenAt (j * 7)
      have e1 := Hor.out.frozenAt (j * 7 + 1)
      have e2 := Hor.out.frozenAt (j * 7 + 2)
      have e3 := Hor.out.frozenAt (j * 7 + 3)
      have e4 := Hor.out.frozenAt (j * 7 + 4)
      have e5 := Hor.out.frozenAt (j * 7 + 5)
      have e6 := Hor.out.frozenAt (j * 7 + 6)
      rw [Nat.add_zero] at f0
      have hgne : g ≠ w.heap.size := fun e => by have := Hlt0.out g rfl; omega
      have Hgne := Lib.hid hgne
      clear hc hxl hgne
      go_wp2_with fail
      go_roundg (gk - 1)
      case measure => omega
      case rel =>
        refine ⟨j + 1, _, by go_num, by omega, ((((((hS.set _ _).set _ _).set _ _).set _ _).set _ _).set _ _).set _ _, by simpa using hz, ?_, (((((((Hor.out.stored _ _).1.stored _ _).1.stored _ _).1.stored _ _).1.stored _ _).1.stored _ _).1.stored _ _).1⟩
        have hgne := Hgne.out
        iterate 7 rw [World.cell?_setCell_other (h := by intro e; injection e with e; exact hgne e)]
        exact p0
    · clear Hlt0
      have hj' : (l.length : Int) ≤ (j : Int) := by omega
      go_wp2_with fail
      have hrow0 : ∀ k, (Value.slice A l.length c).ownBlock = some k → (Value.slice A l.length c).ownBlock = some k ∨ w.heap.size ≤ k := fun k hk => .inl hk
      have HS := Lib.hid hS; have Hrow0 := Lib.hid hrow0
      clear hS hrow0 p0 hj'
      go_loopg [3, 4] 8 (fun n lv i W => ∃ (k : Nat) (A2 : Option Addr) (c2 : Nat) (ys : List Value), i = .int .i64 k ∧ k + n = 8 ∧ lv = .slice A2 (l.length + k) c2 ∧ Spoils (Value.slice A l.length c).ownBlock w W ∧ w.heap.size < W.heap.size ∧ W.ownsRow base 45 7 (.slice A2 (l.length + k) c2) (l.length + k) ys ∧
        (∀ b, (Value.slice A2 (l.length + k) c2).ownBlock = some b → (Value.slice A l.length c).ownBlock = some b ∨ w.heap.size ≤ b))
      case atStart => exact ⟨0, A, c, xs, rfl, rfl, rfl, HS.out, hz, Hor.out, Hrow0.out⟩
      case round =>
        clear HS Hor Hrow0 hz
        obtain ⟨k, A2, c2, ys, rfl, hk, rfl, hS, hz, ho2, hrow⟩ := hrel
        have Ho2 := Lib.hid ho2; have HS := Lib.hid hS; have Hrow := Lib.hid hrow
        clear ho2 hS hrow
        by_cases hlt8 : k < 8
        · have hnews : ∀ ad, some (⟨wr.heap.size, 0, none⟩ : Addr) = some ad → ∀ j u, (St.cells ⟨-6, 0, 0, 0, 0, 0, 0⟩)[j]? = some u → (wr.alloc (.cells (St.cells ⟨-6, 0, 0, 0, 0, 0, 0⟩).toArray 45)).cell? (ad.add j) = some u := by
            intro ad e j u hu
            simp only [Option.some.injEq] at e
            subst e
            rw [addr_add, World.cell?_alloc_new, Nat.zero_add]
            simpa using hu
          have Hnews := Lib.hid hnews; clear hnews
          go_wp2_with (at_builtin; refine wpList_append_from base rfl _ _ 22 45 _ 7 56 rfl Tryz.underlying22 Tryz.infoState rfl (by omega) (by omega) (.slice A2 (l.length + k) c2) (l.length + k) 1 ys (St.cells ⟨-6, 0, 0, 0, 0, 0, 0⟩) (some ⟨wr.heap.size, 0, none⟩) 1 rfl rfl (by simp) rfl Hnews.out (St.cells_one _) (Ho2.out.alloc _) (by simp; omega) (by omega) (fun A3 c3 w3 ho3 hg3 hat3 => ?_); have Ho3 := Lib.hid ho3; have Hat3 := Lib.hid hat3; have Hg3 := Lib.hid hg3; clear ho3 hat3 hg3)
          go_roundg (gk - 1)
          case measure => omega
          case rel =>
            have hz3 := Hg3.out.size
            simp only [World.size_alloc] at hz3
            refine ⟨k + 1, A3, c3, _, by go_num, by omega, rfl, (HS.out.grown (World.grownBy_alloc _ _ none) (by simp)).grown Hg3.out Hrow.out, by omega, Ho3.out, fun b hb => ?_⟩
            rcases Hat3.out with h | h
            · exact Hrow.out b (h.symm.trans hb)
            · have e2 := hb.symm.trans h
              simp at e2
              exact .inr (by omega)
        · go_wp2_with fail
          go_end0
          exact ⟨rfl, HS.out⟩
end Go.Proofs.YteekafkpeimhoaaGreat

/- The walk of nfa's layer: repeat. -/
set_option linter.unusedVariables false
set_option linter.unusedSimpArgs false
namespace Go.Proofs.YteekafkpeimhoaaGreat
open Go.RowKit

theorem Layer.form {w : World} {L base : Nat} {v : Value} {l : List St} (h : Layer w L base v l) : ∃ A c, v = .slice A l.length c := by
  rcases h.own.2 with ⟨rfl, h0⟩ | ⟨g, cap, cur, rfl, _⟩
  · exact ⟨none, 0, by rw [h0]⟩
  · exact ⟨_, cap, rfl⟩
theorem Layer.form' {w : World} {L base : Nat} {v : Value} {l : List St} (h : Layer w L base v l) (hl : 0 < l.length) : ∃ g cap, v = .slice (some ⟨g, 0, none⟩) l.length cap ∧ g ≠ L ∧ base ≤ g ∧ g < w.heap.size := by
  rcases h.own.2 with ⟨rfl, h0⟩ | ⟨g, cap, cur, rfl, hb, hg, _⟩
  · omega
  · refine ⟨g, cap, rfl, fun e => h.ne (by simp [Value.ownBlock, e]), hb, (Array.getElem?_eq_some_iff.1 hg).1⟩
theorem stCells_at (l : List St) (i : Nat) (hi : i < l.length) : ∀ j, j < 7 → (stCells l)[i * 7 + j]? = (l[i].cells)[j]? := by
  induction l generalizing i with
  | nil => simp at hi
  | cons s l ih =>
    intro j hj
    show (s.cells ++ stCells l)[i * 7 + j]? = _
    have hs : s.cells.length = 7 := rfl
    cases i with
    | zero => rw [List.getElem?_append_left (by rw [hs]; omega)]; simp
    | succ i =>
      rw [List.getElem?_append_right (by rw [hs]; omega), hs, show (i + 1) * 7 + j - 7 = i * 7 + j by omega]
      exact ih i (by simpa using hi) j hj
theorem stCells_setNx (l : List St) (i : Nat) (x : Int) (hi : i < l.length) : (stCells l).set (i * 7 + 5) (.int .i64 x) = stCells (setNx l i x) := by
  induction l generalizing i with
  | nil => simp at hi
  | cons s l ih =>
    have hs : s.cells.length = 7 := rfl
    cases i with
    | zero => simp only [setNx, List.modify_zero_cons]; rfl
    | succ i =>
      have : setNx (s :: l) (i + 1) x = s :: setNx l i x := by simp [setNx]
      rw [this]
      show (s.cells ++ stCells l).set _ _ = s.cells ++ stCells (setNx l i x)
      rw [← ih i (by simpa using hi), List.set_append_right _ _ (by rw [hs]; omega), hs, show (i + 1) * 7 + 5 - 7 = i * 7 + 5 by omega]
/-- A state's Next is written. -/
theorem Layer.setNx {w : World} {L base g cap : Nat} {l : List St} (h : Layer w L base (.slice (some ⟨g, 0, none⟩) l.length cap) l) (i : Nat) (hi : i < l.length) (x : Int) :
    (w.cell? ⟨g, i * 7 + 5, none⟩).isSome = true ∧ w.frozen? ⟨g, i * 7 + 5, none⟩ = false ∧ Layer (w.setCell ⟨g, i * 7 + 5, none⟩ (.int .i64 x)) L base (.slice (some ⟨g, 0, none⟩) l.length cap) (setNx l i x) ∧
    Lays L (some g) w (w.setCell ⟨g, i * 7 + 5, none⟩ (.int .i64 x)) := by
  have hgL : L ≠ g := fun e => h.ne (by simp [Value.ownBlock, e])
  have h1 : w.cell? ⟨g, i * 7 + 5, none⟩ = _ := h.own.cellAt (i * 7 + 5) (by omega)
  rw [stCells_at l i hi 5 (by omega)] at h1
  have hst := h.own.stored (i * 7 + 5) (.int .i64 x)
  rw [stCells_setNx l i x hi] at hst
  refine ⟨by rw [h1]; rfl, h.own.frozenAt _, ⟨?_, ?_, ?_, h.ne, ?_⟩, ?_⟩
  · rw [World.cell?_setCell_other _ _ _ _ (by intro e; injection e with e; exact hgL e.symm)]; exact h.cell
  · rw [World.frozen?_setCell]; exact h.froz
  · have : (Go.Proofs.YteekafkpeimhoaaGreat.setNx l i x).length = l.length := by simp [Go.Proofs.YteekafkpeimhoaaGreat.setNx]
    rw [this]; exact hst.1
  · rw [World.size_setCell]; exact h.base
  · exact ⟨rfl, rfl, rfl, by rw [World.size_setCell]; exact Nat.le_refl _, fun k hk _ hne => Below.heap_setCell _ _ _ _ (fun e => hne (by rw [e]))⟩

theorem headF_at : ∀ (ps : List T) (h : 0 < ps.length), headF ps = layF ps[0]
  | p :: ps, _ => by funext tu l; rw [headF]; rfl
theorem At8.zero {w : World} {b : Nat} {t : T} {A : Option Addr} {c : Nat} (h : At8 w b 0 t A c) : w.cell? ⟨b, 0, none⟩ = some (.int .i64 t.k) := h.f0

set_option maxRecDepth 100000 in
set_option maxHeartbeats 2000000 in
theorem repeat_opt (t : T) (hk : t.k = 6) (hr : rightF t = true) (hmx : ¬ t.mx < 0) (ih : ∀ p ∈ t.ps, LayAt 21 p) : LayAt 55 t := by
  intro w ok A c L base v l tu hN ho hL hlen
  have hN' := hN
  have hps1 : 0 < t.ps.length := by rcases right_cases hr with h | h | h | h | h | h | h <;> omega
  obtain ⟨b, o, rfl, hb, hcell⟩ := hN.part hps1
  obtain ⟨Ap, cp, h8, hNp⟩ := hcell 0 hps1
  have hp0 : t.ps[0] ∈ t.ps := List.getElem_mem _
  have hih := ih t.ps[0] hp0
  have hlc := hN.len
  have hcc := hN.cap
  have hhead : headF t.ps = layF t.ps[0] := headF_at t.ps hps1
  have hrep : layF t tu l = repF t.mn t.mx (headF t.ps) tu l := by rw [layF_eq]; simp [hk]
  rw [hhead] at hrep
  have hb3 : 0 ≤ t.mn ∧ t.mn ≤ 255 ∧ t.mx ≤ 255 ∧ (t.mx = -1 ∨ t.mn ≤ t.mx) := by rcases right_cases hr with h | h | h | h | h | h | h <;> omega
  obtain ⟨hmn0, hmn1, hmx1, hmm⟩ := hb3
  generalize t.ps[0] = p at *
  obtain ⟨f0, f1, f2, f3, f4, f5, f6, f7⟩ := h8
  simp only [Nat.zero_mul, Nat.add_zero] at f0 f1 f2 f3 f4 f5 f6 f7
  have Hih := Lib.hid hih; have Hrep := Lib.hid hrep; have Hk := Lib.hid hk
  have hgp := layF_grows p
  have hlt1 : (0 : Int) < (t.ps.length : Int) := by omega
  clear hih hrep hk hcell hhead
  have hLlt := hL.lt
  have hblt := (ho b hb).1
  rw [Hrep.out] at hlen
  go_enter Tryz.func55, Tryz.ntmps55
  go_wp2_with fail
  generalize hW : (w.alloc _).alloc _ = W0
  have hz0 : w.heap.size + 2 = W0.heap.size := by subst hW; simp
  have hL0 : Layer W0 L base v l := by subst hW; exact (hL.alloc _).alloc _
  have ho0w := ho.later (w' := W0) (by omega) (Moves.refl _ _)
  have hlw : Lays L v.ownBlock w W0 := by subst hW; exact (Lays.alloc _ _ _ _).trans (Moves.refl _ v) (Lays.alloc _ _ _ _)
  have hmw : Moves w v v := Moves.refl _ _
  have hP : At8 W0 (w.heap.size + 1) 0 p Ap cp := by subst hW; constructor <;> simp [go_sem]
  have g5 : W0.cell? ⟨w.heap.size, 5, none⟩ = some (.int .i64 t.mn) := by subst hW; simp [go_sem]
  have g6 : W0.cell? ⟨w.heap.size, 6, none⟩ = some (.int .i64 t.mx) := by subst hW; simp [go_sem]
  have hNp0 := hNp.lays ho hlw
  obtain ⟨hv1, hv2⟩ : some w.heap.size ≠ v.ownBlock ∧ some (w.heap.size + 1) ≠ v.ownBlock := by
    constructor
    · intro e; have := (hL.own.lt _ e.symm).2; omega
    · intro e; have := (hL.own.lt _ e.symm).2; omega
  have hB0 : w.heap.size < W0.heap.size ∧ w.heap.size ≠ L ∧ some w.heap.size ≠ v.ownBlock := ⟨by omega, by omega, hv1⟩
  have hB1 : w.heap.size + 1 < W0.heap.size ∧ w.heap.size + 1 ≠ L ∧ some (w.heap.size + 1) ≠ v.ownBlock := ⟨by omega, by omega, hv2⟩
  clear hW
  have ho0 := ho0w
  have ho0' := ho0w
  have hmx' : 0 ≤ t.mx - t.mn := by omega
  have hopt : minF (layF p) t.mn.toNat (optF (layF p) tu (t.mx - t.mn).toNat tu l).1 (optF (layF p) tu (t.mx - t.mn).toNat tu l).2 = layF t tu l := by rw [Hrep.out, repF]; simp only [if_neg (show ¬ t.mx < 0 by omega)]
  have Hopt := Lib.hid hopt; clear hopt
  go_loopg [8, 41] ((t.mx - t.mn).toNat) (fun n tv iv wr => ∃ (i : Nat) (t' : Int) (v' : Value) (l' : List St), iv = .int .i64 i ∧ tv = .int .i64 t' ∧ i + n = (t.mx - t.mn).toNat ∧ optF (layF p) tu n t' l' = optF (layF p) tu (t.mx - t.mn).toNat tu l ∧ Layer wr L base v' l' ∧ Moves W0 v v' ∧ Lays L v.ownBlock W0 wr)
  case atStart => exact ⟨0, tu, v, l, rfl, rfl, by omega, rfl, hL0, Moves.refl _ _, Lays.refl _ _ _⟩
  case round =>
    obtain ⟨i, t', v', l', rfl, rfl, hin, heq, hLr, hmr, hlr⟩ := hrel
    have Heq := Lib.hid heq; clear heq
    have hor := ho0.later hlr.size hmr
    have hNr := hNp0.lays ho0' hlr
    have hzr := hlr.size
    obtain ⟨q0, q1, q2, q3, q4, q5, q6, q7⟩ := hP.mono (fun o => hlr.cell hB1.1 hB1.2.1 hB1.2.2)
    simp only [Nat.zero_add] at q0 q1 q2 q3 q4 q5 q6 q7
    have hfl : (optF (layF p) tu (t.mx - t.mn).toNat tu l).2.length ≤ 1000000 := by
      have := minF_grows hgp t.mn.toNat (optF (layF p) tu (t.mx - t.mn).toNat tu l).1 (optF (layF p) tu (t.mx - t.mn).toNat tu l).2
      rw [Hopt.out, Hrep.out] at this; omega
    have hlc' : l'.length ≤ 1000000 := by have := optF_grows hgp tu gk t' l'; rw [Heq.out] at this; omega
    by_cases hlt : (i : Int) < t.mx - t.mn
    · obtain ⟨n', hgk⟩ : ∃ n', gk = n' + 1 := ⟨gk - 1, by omega⟩
      have hst : (layF p t' l').2.length + 1 ≤ 1000000 := by
        have h1 := optF_grows hgp tu n' (layF p t' l').2.length ((layF p t' l').2 ++ [splitS (layF p t' l').1 tu])
        have h2 := Heq.out
        rw [hgk, optF] at h2
        rw [h2] at h1
        simp only [List.length_append, List.length_cons, List.length_nil] at h1
        omega
      have hnx : optF (layF p) tu n' (layF p t' l').2.length ((layF p t' l').2 ++ [splitS (layF p t' l').1 tu]) = optF (layF p) tu (t.mx - t.mn).toNat tu l := by rw [← Heq.out, hgk, optF]
      have Hnx := Lib.hid hnx; have Hgk := Lib.hid hgk; clear hnx hgk hfl
      go_wp2_with fail
      refine (Hih.out _ ok Ap cp L base _ l' t' hNr hor hLr (by omega)).mono ?_
      rintro e w1 ⟨rfl, v1, hL1, hm1, hl1⟩
      have hmm1 := hmr.trans hzr hm1
      have hll1 := hlr.trans hmr hl1
      go_wp2_with fail
      refine (state_any _ L base v1 _ (splitS (layF p t' l').1 tu) hL1 (by omega)).mono ?_
      rintro e w2 ⟨rfl, v2, hL2, hm2, hl2⟩
      have hmm2 := hmm1.trans hll1.size hm2
      have hll2 := hll1.trans hmm1 hl2
      go_wp2_with fail
      go_roundg n'
      case measure => have := Hgk.out; omega
      case rel => exact ⟨i + 1, (layF p t' l').2.length, _, _, by go_num, rfl, by have := Hgk.out; omega, Hnx.out, hL2, hmm2, hll2⟩
    · have hfin : optF (layF p) tu (t.mx - t.mn).toNat tu l = (t', l') := by rw [← Heq.out, show gk = 0 by omega, optF]
      have hst2 : minF (layF p) t.mn.toNat t' l' = layF t tu l := by rw [← Hopt.out, hfin]
      have Hst2 := Lib.hid hst2; clear hst2 hfin hfl
      have k5 := (hlr.cell (o := 5) hB0.1 hB0.2.1 hB0.2.2).trans g5
      go_wp2_with fail
      go_loopg [8, 55] (t.mn.toNat) (fun n tv iv wr => ∃ (i : Nat) (t' : Int) (v' : Value) (l' : List St), iv = .int .i64 i ∧ tv = .int .i64 t' ∧ i + n = t.mn.toNat ∧ minF (layF p) n t' l' = layF t tu l ∧ Layer wr L base v' l' ∧ Moves W0 v v' ∧ Lays L v.ownBlock W0 wr)
      case atStart => exact ⟨0, t', v', l', rfl, rfl, by omega, Hst2.out, hLr, hmr, hlr⟩
      case round =>
        clear hLr hmr hlr hor hNr hzr q0 q1 q2 q3 q4 q5 q6 q7 hlc' hin Heq Hst2 k5 hlt
        obtain ⟨i, t', v', l', rfl, rfl, hin, heq, hLr, hmr, hlr⟩ := hrel
        have Heq := Lib.hid heq; clear heq
        have hor := ho0.later hlr.size hmr
        have hNr := hNp0.lays ho0' hlr
        have hzr := hlr.size
        obtain ⟨q0, q1, q2, q3, q4, q5, q6, q7⟩ := hP.mono (fun o => hlr.cell hB1.1 hB1.2.1 hB1.2.2)
        simp only [Nat.zero_add] at q0 q1 q2 q3 q4 q5 q6 q7
        have hlc' : l'.length ≤ 1000000 := by have := minF_grows hgp gk t' l'; rw [Heq.out, Hrep.out] at this; omega
        by_cases hlt : (i : Int) < t.mn
        · obtain ⟨n', hgk⟩ : ∃ n', gk = n' + 1 := ⟨gk - 1, by omega⟩
          have hst : (layF p t' l').2.length ≤ 1000000 := by
            have h1 := Heq.out
            rw [hgk, minF] at h1
            have h2 := Hrep.out
            split at h1
            · rw [h1, h2]; exact hlen
            · have := minF_grows hgp n' (layF p t' l').1 (layF p t' l').2; rw [h1, h2] at this; omega
          obtain ⟨Av, cv, rfl⟩ := hLr.form
          have hcL := hLr.cell
          go_wp2_with fail
          refine (Hih.out _ ok Ap cp L base _ l' t' hNr hor hLr hst).mono ?_
          rintro e w1 ⟨rfl, v1, hL1, hm1, hl1⟩
          obtain ⟨Av1, cv1, rfl⟩ := hL1.form
          have hcL1 := hL1.cell
          have hmm1 := hmr.trans hzr hm1
          have hll1 := hlr.trans hmr hl1
          by_cases hsame : (layF p t' l').2.length = l'.length
          · have hfin : layF t tu l = layF p t' l' := by rw [← Heq.out, hgk, minF, if_pos hsame]
            have hq : (((layF p t' l').2.length : Int) == (l'.length : Int)) = true := by rw [beq_iff_eq, hsame]
            have Hfin := Lib.hid hfin; have Hsame := Lib.hid hsame; have Hgk := Lib.hid hgk; clear hfin hsame hgk
            go_wp2_with fail
            go_ret
            rw [Hfin.out]
            exact ⟨rfl, _, hL1, hmw.trans (by omega) hmm1, hlw.trans hmw hll1⟩
          · have hq : (((layF p t' l').2.length : Int) == (l'.length : Int)) = false := by rw [beq_eq_false_iff_ne]; omega
            have hnx : minF (layF p) n' (layF p t' l').1 (layF p t' l').2 = layF t tu l := by rw [← Heq.out, hgk, minF, if_neg hsame]
            have Hnx := Lib.hid hnx; have Hsame := Lib.hid hsame; have Hgk := Lib.hid hgk; clear hnx hsame hgk
            go_wp2_with fail
            go_roundg n'
            case measure => have := Hgk.out; omega
            case rel => exact ⟨i + 1, (layF p t' l').1, _, (layF p t' l').2, by go_num, rfl, by have := Hgk.out; omega, Hnx.out, hL1, hmm1, hll1⟩
        · have hfin : layF t tu l = (t', l') := by rw [← Heq.out, show gk = 0 by omega, minF]
          have Hfin := Lib.hid hfin; clear hfin
          go_wp2_with fail
          go_ret
          rw [Hfin.out]
          exact ⟨rfl, _, hLr, hmw.trans (by omega) hmr, hlw.trans hmw hlr⟩

set_option maxRecDepth 100000 in
set_option maxHeartbeats 2000000 in
theorem repeat_star (t : T) (hk : t.k = 6) (hr : rightF t = true) (hmx : t.mx < 0) (ih : ∀ p ∈ t.ps, LayAt 21 p) : LayAt 55 t := by
  intro w ok A c L base v l tu hN ho hL hlen
  have hN' := hN
  have hps1 : 0 < t.ps.length := by rcases right_cases hr with h | h | h | h | h | h | h <;> omega
  obtain ⟨b, o, rfl, hb, hcell⟩ := hN.part hps1
  obtain ⟨Ap, cp, h8, hNp⟩ := hcell 0 hps1
  have hp0 : t.ps[0] ∈ t.ps := List.getElem_mem _
  have hih := ih t.ps[0] hp0
  have hlc := hN.len
  have hcc := hN.cap
  have hhead : headF t.ps = layF t.ps[0] := headF_at t.ps hps1
  have hrep : layF t tu l = repF t.mn t.mx (headF t.ps) tu l := by rw [layF_eq]; simp [hk]
  rw [hhead] at hrep
  have hb3 : 0 ≤ t.mn ∧ t.mn ≤ 255 ∧ t.mx ≤ 255 ∧ (t.mx = -1 ∨ t.mn ≤ t.mx) := by rcases right_cases hr with h | h | h | h | h | h | h <;> omega
  obtain ⟨hmn0, hmn1, hmx1, hmm⟩ := hb3
  generalize t.ps[0] = p at *
  obtain ⟨f0, f1, f2, f3, f4, f5, f6, f7⟩ := h8
  simp only [Nat.zero_mul, Nat.add_zero] at f0 f1 f2 f3 f4 f5 f6 f7
  have Hih := Lib.hid hih; have Hrep := Lib.hid hrep; have Hk := Lib.hid hk
  have hgp := layF_grows p
  have hlt1 : (0 : Int) < (t.ps.length : Int) := by omega
  clear hih hrep hk hcell hhead
  have hLlt := hL.lt
  have hblt := (ho b hb).1
  rw [Hrep.out] at hlen
  go_enter Tryz.func55, Tryz.ntmps55
  have hrp : repF t.mn t.mx (layF p) tu l = minF (layF p) t.mn.toNat (starF (layF p) tu l).1 (starF (layF p) tu l).2 := by rw [repF]; simp only [if_pos hmx]
  have hg1 := minF_grows hgp t.mn.toNat (starF (layF p) tu l).1 (starF (layF p) tu l).2
  rw [← hrp] at hg1
  have hg2 : (starF (layF p) tu l).2.length = (layF p l.length (l ++ [splitS 0 tu])).2.length := by simp [starF, setNx]
  have hg3 := hgp l.length (l ++ [splitS 0 tu])
  simp only [List.length_append, List.length_cons, List.length_nil] at hg3
  have Hrp := Lib.hid hrp; have Hg2 := Lib.hid hg2; clear hrp
  have hlen1 : l.length ≤ 1000000 := by omega
  have hlen2 : (layF p l.length (l ++ [splitS 0 tu])).2.length ≤ 1000000 := by omega
  have Hlen := Lib.hid hlen
  clear hg1 hg2 hlen
  have hnn : ¬ (0 : Int) < t.mx - t.mn := by omega
  go_wp2_with fail
  generalize hW : (w.alloc _).alloc _ = W0
  have hz0 : w.heap.size + 2 = W0.heap.size := by subst hW; simp
  have hL0 : Layer W0 L base v l := by subst hW; exact (hL.alloc _).alloc _
  have ho0w := ho.later (w' := W0) (by omega) (Moves.refl _ _)
  have hlw : Lays L v.ownBlock w W0 := by subst hW; exact (Lays.alloc _ _ _ _).trans (Moves.refl _ v) (Lays.alloc _ _ _ _)
  have hmw : Moves w v v := Moves.refl _ _
  have hP : At8 W0 (w.heap.size + 1) 0 p Ap cp := by subst hW; constructor <;> simp [go_sem]
  have g5 : W0.cell? ⟨w.heap.size, 5, none⟩ = some (.int .i64 t.mn) := by subst hW; simp [go_sem]
  have g6 : W0.cell? ⟨w.heap.size, 6, none⟩ = some (.int .i64 t.mx) := by subst hW; simp [go_sem]
  have hNp0 := hNp.lays ho hlw
  obtain ⟨hv1, hv2⟩ : some w.heap.size ≠ v.ownBlock ∧ some (w.heap.size + 1) ≠ v.ownBlock := by
    constructor
    · intro e; have := (hL.own.lt _ e.symm).2; omega
    · intro e; have := (hL.own.lt _ e.symm).2; omega
  have hB0 : w.heap.size < W0.heap.size ∧ w.heap.size ≠ L ∧ some w.heap.size ≠ v.ownBlock := ⟨by omega, by omega, hv1⟩
  have hB1 : w.heap.size + 1 < W0.heap.size ∧ w.heap.size + 1 ≠ L ∧ some (w.heap.size + 1) ≠ v.ownBlock := ⟨by omega, by omega, hv2⟩
  clear hW
  have ho0 := ho0w
  have ho0' := ho0w
  refine (state_any _ L base v l (splitS 0 tu) hL0 (by omega)).mono ?_
  rintro e w1 ⟨rfl, v1, hL1, hm1, hl1⟩
  obtain ⟨q0, q1, q2, q3, q4, q5, q6, q7⟩ := hP.mono (fun o => hl1.cell hB1.1 hB1.2.1 hB1.2.2)
  simp only [Nat.zero_add] at q0 q1 q2 q3 q4 q5 q6 q7
  go_wp2_with fail
  refine (Hih.out _ ok Ap cp L base v1 _ (l.length : Int) (hNp0.lays ho0' hl1) (ho0.later hl1.size hm1) hL1 hlen2).mono ?_
  rintro e w2 ⟨rfl, v2, hL2, hm2, hl2⟩
  clear q0 q1 q2 q3 q4 q5 q6 q7
  have hmm2 := hm1.trans hl1.size hm2
  have hll2 := hl1.trans hm1 hl2
  have hli : l.length < (layF p l.length (l ++ [splitS 0 tu])).2.length := by omega
  obtain ⟨g, cap, rfl, hgL, hgb, hgz⟩ := hL2.form' (by omega)
  obtain ⟨hc5, hfz, hL3, hl3⟩ := hL2.setNx l.length hli (layF p l.length (l ++ [splitS 0 tu])).1
  obtain ⟨old, hc5'⟩ := Option.isSome_iff_exists.1 hc5
  have hcL2 := hL2.cell
  have hli' : (l.length : Int) < ((layF p l.length (l ++ [splitS 0 tu])).2.length : Int) := by omega
  have h5 : (w2.setCell ⟨g, l.length * 7 + 5, none⟩ (.int .i64 (layF p l.length (l ++ [splitS 0 tu])).1)).cell? ⟨w.heap.size, 5, none⟩ = some (.int .i64 t.mn) := by
    rw [hl3.cell (by have := hll2.size; omega) hB0.2.1 ?_, hll2.cell hB0.1 hB0.2.1 hB0.2.2, g5]
    intro e
    rcases hmm2 with h | ⟨x, hx, hle⟩
    · exact hB0.2.2 (e.trans h)
    · simp only [Value.ownBlock] at hx; rw [← e] at hx; injection hx with hx; omega
  have h6 : (w2.setCell ⟨g, l.length * 7 + 5, none⟩ (.int .i64 (layF p l.length (l ++ [splitS 0 tu])).1)).cell? ⟨w.heap.size, 6, none⟩ = some (.int .i64 t.mx) := by
    rw [hl3.cell (by have := hll2.size; omega) hB0.2.1 ?_, hll2.cell hB0.1 hB0.2.1 hB0.2.2, g6]
    intro e
    rcases hmm2 with h | ⟨x, hx, hle⟩
    · exact hB0.2.2 (e.trans h)
    · simp only [Value.ownBlock] at hx; rw [← e] at hx; injection hx with hx; omega
  have hll3 : Lays L v.ownBlock W0 (w2.setCell ⟨g, l.length * 7 + 5, none⟩ (.int .i64 (layF p l.length (l ++ [splitS 0 tu])).1)) := hll2.trans hmm2 hl3
  have hL3' : Layer (w2.setCell ⟨g, l.length * 7 + 5, none⟩ (.int .i64 (layF p l.length (l ++ [splitS 0 tu])).1)) L base (.slice (some ⟨g, 0, none⟩) (layF p l.length (l ++ [splitS 0 tu])).2.length cap) (starF (layF p) tu l).2 := hL3
  have HL3 := Lib.hid hL3'; have Hll3 := Lib.hid hll3; have Hmm2 := Lib.hid hmm2
  clear hL3 hL3' hll3 hc5 hl3 hll2 hmm2 hm1 hm2 hl1 hl2 hL1 hL2
  have hst2 : minF (layF p) t.mn.toNat (l.length : Int) (starF (layF p) tu l).2 = layF t tu l := by rw [Hrep.out, Hrp.out]; rfl
  have Hst2 := Lib.hid hst2; clear hst2
  go_wp2_with fail
  generalize hW3 : w2.setCell _ _ = W3 at *
  go_loopg [8, 41] 0 (fun n tv iv wr => iv = .int .i64 0 ∧ tv = .int .i64 (l.length : Int) ∧ wr = W3)
  case atStart => exact ⟨rfl, rfl, rfl⟩
  case round =>
    obtain ⟨rfl, rfl, rfl⟩ := hrel
    have hlen := Hlen.out
    clear hW3 hlen2 hli hli' hlen1 hg3 hc5' hfz hcL2
    go_wp2_with fail
    go_loopg [8, 55] (t.mn.toNat) (fun n tv iv wr => ∃ (i : Nat) (t' : Int) (v' : Value) (l' : List St), iv = .int .i64 i ∧ tv = .int .i64 t' ∧ i + n = t.mn.toNat ∧ minF (layF p) n t' l' = layF t tu l ∧ Layer wr L base v' l' ∧ Moves W0 v v' ∧ Lays L v.ownBlock W0 wr)
    case atStart => exact ⟨0, (l.length : Int), _, (starF (layF p) tu l).2, rfl, rfl, by omega, Hst2.out, HL3.out, Hmm2.out, Hll3.out⟩
    case round =>
      clear Hst2 HL3 Hll3 Hmm2
      obtain ⟨i, t', v', l', rfl, rfl, hin, heq, hLr, hmr, hlr⟩ := hrel
      have Heq := Lib.hid heq; clear heq
      have hor := ho0.later hlr.size hmr
      have hNr := hNp0.lays ho0' hlr
      have hzr := hlr.size
      obtain ⟨q0, q1, q2, q3, q4, q5, q6, q7⟩ := hP.mono (fun o => hlr.cell hB1.1 hB1.2.1 hB1.2.2)
      simp only [Nat.zero_add] at q0 q1 q2 q3 q4 q5 q6 q7
      have hlc' : l'.length ≤ 1000000 := by have := minF_grows hgp gk t' l'; rw [Heq.out, Hrep.out] at this; omega
      by_cases hlt : (i : Int) < t.mn
      · obtain ⟨n', hgk⟩ : ∃ n', gk = n' + 1 := ⟨gk - 1, by omega⟩
        have hst : (layF p t' l').2.length ≤ 1000000 := by
          have h1 := Heq.out
          rw [hgk, minF] at h1
          have h2 := Hrep.out
          split at h1
          · rw [h1, h2]; exact hlen
          · have := minF_grows hgp n' (layF p t' l').1 (layF p t' l').2; rw [h1, h2] at this; omega
        obtain ⟨Av, cv, rfl⟩ := hLr.form
        have hcL := hLr.cell
        go_wp2_with fail
        refine (Hih.out _ ok Ap cp L base _ l' t' hNr hor hLr hst).mono ?_
        rintro e w1 ⟨rfl, v1, hL1, hm1, hl1⟩
        obtain ⟨Av1, cv1, rfl⟩ := hL1.form
        have hcL1 := hL1.cell
        have hmm1 := hmr.trans hzr hm1
        have hll1 := hlr.trans hmr hl1
        by_cases hsame : (layF p t' l').2.length = l'.length
        · have hfin : layF t tu l = layF p t' l' := by rw [← Heq.out, hgk, minF, if_pos hsame]
          have hq : (((layF p t' l').2.length : Int) == (l'.length : Int)) = true := by rw [beq_iff_eq, hsame]
          have Hfin := Lib.hid hfin; have Hsame := Lib.hid hsame; have Hgk := Lib.hid hgk; clear hfin hsame hgk
          go_wp2_with fail
          go_ret
          rw [Hfin.out]
          exact ⟨rfl, _, hL1, hmw.trans (by omega) hmm1, hlw.trans hmw hll1⟩
        · have hq : (((layF p t' l').2.length : Int) == (l'.length : Int)) = false := by rw [beq_eq_false_iff_ne]; omega
          have hnx : minF (layF p) n' (layF p t' l').1 (layF p t' l').2 = layF t tu l := by rw [← Heq.out, hgk, minF, if_neg hsame]
          have Hnx := Lib.hid hnx; have Hsame := Lib.hid hsame; have Hgk := Lib.hid hgk; clear hnx hsame hgk
          go_wp2_with fail
          go_roundg n'
          case measure => have := Hgk.out; omega
          case rel => exact ⟨i + 1, (layF p t' l').1, _, (layF p t' l').2, by go_num, rfl, by have := Hgk.out; omega, Hnx.out, hL1, hmm1, hll1⟩
      · have hfin : layF t tu l = (t', l') := by rw [← Heq.out, show gk = 0 by omega, minF]
        have Hfin := Lib.hid hfin; clear hfin
        go_wp2_with fail
        go_ret
        rw [Hfin.out]
        exact ⟨rfl, _, hLr, hmw.trans (by omega) hmr, hlw.trans hmw hlr⟩

theorem repeat_any (t : T) (hk : t.k = 6) (hr : rightF t = true) (ih : ∀ p ∈ t.ps, LayAt 21 p) : LayAt 55 t := by
  by_cases hmx : t.mx < 0
  · exact repeat_star t hk hr hmx ih
  · exact repeat_opt t hk hr hmx ih
end Go.Proofs.YteekafkpeimhoaaGreat

/- vouchref11: the layer's state and repeat: walked. -/
set_option linter.unusedVariables false
set_option linter.unusedSimpArgs false
namespace Go.Proofs.YteekafkpeimhoaaGreat
open Go.RowKit

set_option maxRecDepth 100000 in
set_option maxHeartbeats 1000000 in
theorem rstate_any (w : World) (L base : Nat) (v : Value) (l : List St) (s : St) (h : Layer w L base v l) (hl : l.length ≤ 1000000) :
    Calls Tryz.prog 29 #[.pointer (some ⟨L, 0, none⟩), s.V] w fun e w' => e = .returned (.int .i64 l.length) ∧ ∃ v', Layer w' L base v' (l ++ [s]) ∧ Moves w v v' ∧ Lays L v.ownBlock w w' := by
  have hL := h.lt
  have hc := h.cell
  have hf := h.froz
  obtain ⟨A, c, rfl⟩ : ∃ A c, v = .slice A l.length c := by
    rcases h.own.2 with ⟨rfl, h0⟩ | ⟨g, cap, cur, rfl, _⟩
    · exact ⟨none, 0, by rw [h0]⟩
    · exact ⟨_, cap, rfl⟩
  go_enter Tryz.func29, Tryz.ntmps29
  go_wp2_with fail
  have hown : ((w.alloc (.cells s.cells.toArray 45)).alloc (.cells s.cells.toArray 45)).drew.ownsRow base 45 7 (.slice A l.length c) l.length (stCells l) :=
    ((h.own.alloc _).alloc _).kept (row := none) ⟨rfl, rfl, rfl, Nat.le_refl _, fun _ _ _ => rfl⟩ (by cases A <;> simp [Value.ownBlock])
  have hnews : ∀ j u, s.cells[j]? = some u → ((w.alloc (.cells s.cells.toArray 45)).alloc (.cells s.cells.toArray 45)).drew.cell? ((⟨w.heap.size + 1, 0, none⟩ : Addr).add j) = some u := by
    intro j u hu
    have e : (⟨w.heap.size + 1, 0, none⟩ : Addr).add j = ⟨w.heap.size + 1, j, none⟩ := by unfold Addr.add; split <;> simp_all
    rw [e, World.cell?_drew]
    rw [show w.heap.size + 1 = (w.alloc (.cells s.cells.toArray 45)).heap.size by simp, World.cell?_alloc_new]
    simpa using hu
  have hb0 : base ≤ ((w.alloc (.cells s.cells.toArray 45)).alloc (.cells s.cells.toArray 45)).drew.heap.size := by have := h.base; simp; omega
  have hLA : (Value.slice A l.length c).ownBlock ≠ some L := h.ne
  have hcL : ((w.alloc (.cells s.cells.toArray 45)).alloc (.cells s.cells.toArray 45)).drew.cell? ⟨L, 0, none⟩ = some (.slice A l.length c) := by
    rw [World.cell?_drew, World.cell?_alloc_lt _ _ _ (by simp; omega), World.cell?_alloc_lt _ _ _ hL, hc]
  have hfL : ((w.alloc (.cells s.cells.toArray 45)).alloc (.cells s.cells.toArray 45)).drew.frozen? ⟨L, 0, none⟩ = false := by
    rw [World.frozen?_drew, World.frozen?_alloc_old _ _ _ (by simp; omega), World.frozen?_alloc_old _ _ _ (by simp; omega), hf]
  have Hown := Lib.hid hown; have Hnews := Lib.hid hnews; have HcL := Lib.hid hcL; have HfL := Lib.hid hfL; have Hb0 := Lib.hid hb0; have H := Lib.hid h; have HLA := Lib.hid hLA
  clear hown hnews hcL hfL hb0 h hLA
  go_region_law (refine step_append_at base rfl (.tmp 9) (.tmp 11) 22 45 _ 7 56 rfl Tryz.underlying22 Tryz.infoState rfl (by omega) (by omega) (.slice A l.length c) l.length 1 (stCells l) s.cells ⟨w.heap.size + 1, 0, none⟩ 1 rfl rfl (by omega) rfl Hnews.out s.cells_one Hown.out Hb0.out (by omega) (fun g cap w1 hown1 hg1 hat1 => ?_); have k0 : w1.cell? ⟨L, 0, none⟩ = some (.slice A l.length c) := (hg1.cell HcL.out (fun e => HLA.out e.symm)); have e0 : w1.frozen? ⟨L, 0, none⟩ = false := (World.frozen?_of_block (w := ((w.alloc (.cells s.cells.toArray 45)).alloc (.cells s.cells.toArray 45)).drew) (a := ⟨L, 0, none⟩) (hg1.block L (by simp; omega) (fun e => HLA.out e.symm))).trans HfL.out)
  all_goals
    have k1 := World.cell?_setCell_same w1 _ (.slice (some ⟨g, 0, none⟩) (l.length + 1) cap) k0
    have hlt : L < w1.heap.size := World.block_lt_of_cell? _ _ k0
    go_wp2_with fail
    go_ret
    have hg0 : (Value.slice A l.length c).ownBlock = some g ∨ w.heap.size ≤ g := by
      rcases hat1 with e | e
      · exact .inl e
      · exact .inr (by rw [e]; simp; omega)
    have hgL : g ≠ L := by
      intro e
      rcases hg0 with h0 | h0
      · exact HLA.out (by rw [h0, e])
      · omega
    have hz := hg1.size
    simp only [World.size_drew, World.size_alloc] at hz
    refine ⟨by go_num, _, ⟨k1, ?_, ?_, ?_, ?_⟩, ?_, ?_⟩
    · rw [World.frozen?_setCell]; exact e0
    · have := hown1.kept (w' := w1.setCell ⟨L, 0, none⟩ (.slice (some ⟨g, 0, none⟩) (l.length + 1) cap)) (row := some L) ⟨rfl, rfl, rfl, by simp, fun k hk hne => Below.heap_setCell _ _ _ _ (fun e => hne (by rw [e]))⟩ (.inr (by simp [Value.ownBlock]; exact hgL))
      rw [stCells_snoc, List.length_append]
      exact this
    · simp only [Value.ownBlock]; intro e; injection e with e; exact hgL e
    · have := H.out.base; simp only [World.size_setCell]; omega
    · rcases hg0 with h0 | h0
      · exact .inl (by rw [h0]; rfl)
      · exact .inr ⟨g, rfl, h0⟩
    · refine ⟨hg1.os, hg1.tape, hg1.output, by simp only [World.size_setCell]; omega, fun k hk h1 h2 => ?_⟩
      rw [Below.heap_setCell _ _ _ _ h1, hg1.block k (by simp; omega) h2]
      show ((w.heap.push _).push _)[k]? = _
      rw [Array.getElem?_push, Array.getElem?_push]
      simp only [Array.size_push]
      rw [if_neg (by omega), if_neg (by omega)]
set_option maxRecDepth 100000 in
set_option maxHeartbeats 2000000 in
theorem rrepeat_opt (t : T) (hk : t.k = 6) (hr : rightF t = true) (hmx : ¬ t.mx < 0) (ih : ∀ p ∈ t.ps, LayAt 30 p) : LayAt 45 t := by
  intro w ok A c L base v l tu hN ho hL hlen
  have hN' := hN
  have hps1 : 0 < t.ps.length := by rcases right_cases hr with h | h | h | h | h | h | h <;> omega
  obtain ⟨b, o, rfl, hb, hcell⟩ := hN.part hps1
  obtain ⟨Ap, cp, h8, hNp⟩ := hcell 0 hps1
  have hp0 : t.ps[0] ∈ t.ps := List.getElem_mem _
  have hih := ih t.ps[0] hp0
  have hlc := hN.len
  have hcc := hN.cap
  have hhead : headF t.ps = layF t.ps[0] := headF_at t.ps hps1
  have hrep : layF t tu l = repF t.mn t.mx (headF t.ps) tu l := by rw [layF_eq]; simp [hk]
  rw [hhead] at hrep
  have hb3 : 0 ≤ t.mn ∧ t.mn ≤ 255 ∧ t.mx ≤ 255 ∧ (t.mx = -1 ∨ t.mn ≤ t.mx) := by rcases right_cases hr with h | h | h | h | h | h | h <;> omega
  obtain ⟨hmn0, hmn1, hmx1, hmm⟩ := hb3
  generalize t.ps[0] = p at *
  obtain ⟨f0, f1, f2, f3, f4, f5, f6, f7⟩ := h8
  simp only [Nat.zero_mul, Nat.add_zero] at f0 f1 f2 f3 f4 f5 f6 f7
  have Hih := Lib.hid hih; have Hrep := Lib.hid hrep; have Hk := Lib.hid hk
  have hgp := layF_grows p
  have hlt1 : (0 : Int) < (t.ps.length : Int) := by omega
  clear hih hrep hk hcell hhead
  have hLlt := hL.lt
  have hblt := (ho b hb).1
  rw [Hrep.out] at hlen
  go_enter Tryz.func45, Tryz.ntmps45
  have hq1 : (t.mx == -1) = false := by rw [beq_eq_false_iff_ne]; omega
  go_wp2_with fail
  generalize hW : (w.alloc _).alloc _ = W0
  have hz0 : w.heap.size + 2 = W0.heap.size := by subst hW; simp
  have hL0 : Layer W0 L base v l := by subst hW; exact (hL.alloc _).alloc _
  have ho0w := ho.later (w' := W0) (by omega) (Moves.refl _ _)
  have hlw : Lays L v.ownBlock w W0 := by subst hW; exact (Lays.alloc _ _ _ _).trans (Moves.refl _ v) (Lays.alloc _ _ _ _)
  have hmw : Moves w v v := Moves.refl _ _
  have hP : At8 W0 (w.heap.size + 1) 0 p Ap cp := by subst hW; constructor <;> simp [go_sem]
  have g5 : W0.cell? ⟨w.heap.size, 5, none⟩ = some (.int .i64 t.mn) := by subst hW; simp [go_sem]
  have g6 : W0.cell? ⟨w.heap.size, 6, none⟩ = some (.int .i64 t.mx) := by subst hW; simp [go_sem]
  have hNp0 := hNp.lays ho hlw
  obtain ⟨hv1, hv2⟩ : some w.heap.size ≠ v.ownBlock ∧ some (w.heap.size + 1) ≠ v.ownBlock := by
    constructor
    · intro e; have := (hL.own.lt _ e.symm).2; omega
    · intro e; have := (hL.own.lt _ e.symm).2; omega
  have hB0 : w.heap.size < W0.heap.size ∧ w.heap.size ≠ L ∧ some w.heap.size ≠ v.ownBlock := ⟨by omega, by omega, hv1⟩
  have hB1 : w.heap.size + 1 < W0.heap.size ∧ w.heap.size + 1 ≠ L ∧ some (w.heap.size + 1) ≠ v.ownBlock := ⟨by omega, by omega, hv2⟩
  clear hW
  have ho0 := ho0w
  have ho0' := ho0w
  have hmx' : 0 ≤ t.mx - t.mn := by omega
  have hopt : minF (layF p) t.mn.toNat (optF (layF p) tu (t.mx - t.mn).toNat tu l).1 (optF (layF p) tu (t.mx - t.mn).toNat tu l).2 = layF t tu l := by rw [Hrep.out, repF]; simp only [if_neg (show ¬ t.mx < 0 by omega)]
  have Hopt := Lib.hid hopt; clear hopt
  go_loopg [8, 11] ((t.mx - t.mn).toNat) (fun n tv iv wr => ∃ (i : Nat) (t' : Int) (v' : Value) (l' : List St), iv = .int .i64 (t.mn + i) ∧ tv = .int .i64 t' ∧ i + n = (t.mx - t.mn).toNat ∧ optF (layF p) tu n t' l' = optF (layF p) tu (t.mx - t.mn).toNat tu l ∧ Layer wr L base v' l' ∧ Moves W0 v v' ∧ Lays L v.ownBlock W0 wr)
  case atStart => exact ⟨0, tu, v, l, by simp, rfl, by omega, rfl, hL0, Moves.refl _ _, Lays.refl _ _ _⟩
  case round =>
    obtain ⟨i, t', v', l', rfl, rfl, hin, heq, hLr, hmr, hlr⟩ := hrel
    have Heq := Lib.hid heq; clear heq
    have hor := ho0.later hlr.size hmr
    have hNr := hNp0.lays ho0' hlr
    have hzr := hlr.size
    obtain ⟨q0, q1, q2, q3, q4, q5, q6, q7⟩ := hP.mono (fun o => hlr.cell hB1.1 hB1.2.1 hB1.2.2)
    simp only [Nat.zero_add] at q0 q1 q2 q3 q4 q5 q6 q7
    have hfl : (optF (layF p) tu (t.mx - t.mn).toNat tu l).2.length ≤ 1000000 := by
      have := minF_grows hgp t.mn.toNat (optF (layF p) tu (t.mx - t.mn).toNat tu l).1 (optF (layF p) tu (t.mx - t.mn).toNat tu l).2
      rw [Hopt.out, Hrep.out] at this; omega
    have hlc' : l'.length ≤ 1000000 := by have := optF_grows hgp tu gk t' l'; rw [Heq.out] at this; omega
    have k6 := (hlr.cell (o := 6) hB0.1 hB0.2.1 hB0.2.2).trans g6
    by_cases hlt : t.mn + (i : Int) < t.mx
    · obtain ⟨n', hgk⟩ : ∃ n', gk = n' + 1 := ⟨gk - 1, by omega⟩
      have hst : (layF p t' l').2.length + 1 ≤ 1000000 := by
        have h1 := optF_grows hgp tu n' (layF p t' l').2.length ((layF p t' l').2 ++ [splitS (layF p t' l').1 tu])
        have h2 := Heq.out
        rw [hgk, optF] at h2
        rw [h2] at h1
        simp only [List.length_append, List.length_cons, List.length_nil] at h1
        omega
      have hnx : optF (layF p) tu n' (layF p t' l').2.length ((layF p t' l').2 ++ [splitS (layF p t' l').1 tu]) = optF (layF p) tu (t.mx - t.mn).toNat tu l := by rw [← Heq.out, hgk, optF]
      have Hnx := Lib.hid hnx; have Hgk := Lib.hid hgk; clear hnx hgk hfl
      go_wp2_with fail
      refine (Hih.out _ ok Ap cp L base _ l' t' hNr hor hLr (by omega)).mono ?_
      rintro e w1 ⟨rfl, v1, hL1, hm1, hl1⟩
      have hmm1 := hmr.trans hzr hm1
      have hll1 := hlr.trans hmr hl1
      go_wp2_with fail
      refine (rstate_any _ L base v1 _ (splitS (layF p t' l').1 tu) hL1 (by omega)).mono ?_
      rintro e w2 ⟨rfl, v2, hL2, hm2, hl2⟩
      have hmm2 := hmm1.trans hll1.size hm2
      have hll2 := hll1.trans hmm1 hl2
      go_wp2_with fail
      go_roundg n'
      case measure => have := Hgk.out; omega
      case rel => exact ⟨i + 1, (layF p t' l').2.length, _, _, by go_num, rfl, by have := Hgk.out; omega, Hnx.out, hL2, hmm2, hll2⟩
    · have hfin : optF (layF p) tu (t.mx - t.mn).toNat tu l = (t', l') := by rw [← Heq.out, show gk = 0 by omega, optF]
      have hst2 : minF (layF p) t.mn.toNat t' l' = layF t tu l := by rw [← Hopt.out, hfin]
      have Hst2 := Lib.hid hst2; clear hst2 hfin hfl
      have k5 := (hlr.cell (o := 5) hB0.1 hB0.2.1 hB0.2.2).trans g5
      go_wp2_with fail
      go_loopg [8, 13] (t.mn.toNat) (fun n tv iv wr => ∃ (i : Nat) (t' : Int) (v' : Value) (l' : List St), iv = .int .i64 i ∧ tv = .int .i64 t' ∧ i + n = t.mn.toNat ∧ minF (layF p) n t' l' = layF t tu l ∧ Layer wr L base v' l' ∧ Moves W0 v v' ∧ Lays L v.ownBlock W0 wr)
      case atStart => exact ⟨0, t', v', l', rfl, rfl, by omega, Hst2.out, hLr, hmr, hlr⟩
      case round =>
        clear hLr hmr hlr hor hNr hzr q0 q1 q2 q3 q4 q5 q6 q7 hlc' hin Heq Hst2 k5 k6 hlt
        obtain ⟨i, t', v', l', rfl, rfl, hin, heq, hLr, hmr, hlr⟩ := hrel
        have Heq := Lib.hid heq; clear heq
        have hor := ho0.later hlr.size hmr
        have hNr := hNp0.lays ho0' hlr
        have hzr := hlr.size
        obtain ⟨q0, q1, q2, q3, q4, q5, q6, q7⟩ := hP.mono (fun o => hlr.cell hB1.1 hB1.2.1 hB1.2.2)
        simp only [Nat.zero_add] at q0 q1 q2 q3 q4 q5 q6 q7
        have hlc' : l'.length ≤ 1000000 := by have := minF_grows hgp gk t' l'; rw [Heq.out, Hrep.out] at this; omega
        have k5' := (hlr.cell (o := 5) hB0.1 hB0.2.1 hB0.2.2).trans g5
        by_cases hlt : (i : Int) < t.mn
        · obtain ⟨n', hgk⟩ : ∃ n', gk = n' + 1 := ⟨gk - 1, by omega⟩
          have hst : (layF p t' l').2.length ≤ 1000000 := by
            have h1 := Heq.out
            rw [hgk, minF] at h1
            have h2 := Hrep.out
            split at h1
            · rw [h1, h2]; exact hlen
            · have := minF_grows hgp n' (layF p t' l').1 (layF p t' l').2; rw [h1, h2] at this; omega
          obtain ⟨Av, cv, rfl⟩ := hLr.form
          have hcL := hLr.cell
          go_wp2_with fail
          refine (Hih.out _ ok Ap cp L base _ l' t' hNr hor hLr hst).mono ?_
          rintro e w1 ⟨rfl, v1, hL1, hm1, hl1⟩
          obtain ⟨Av1, cv1, rfl⟩ := hL1.form
          have hcL1 := hL1.cell
          have hmm1 := hmr.trans hzr hm1
          have hll1 := hlr.trans hmr hl1
          by_cases hsame : (layF p t' l').2.length = l'.length
          · have hfin : layF t tu l = layF p t' l' := by rw [← Heq.out, hgk, minF, if_pos hsame]
            have hq : (((layF p t' l').2.length : Int) == (l'.length : Int)) = true := by rw [beq_iff_eq, hsame]
            have Hfin := Lib.hid hfin; have Hsame := Lib.hid hsame; have Hgk := Lib.hid hgk; clear hfin hsame hgk
            go_wp2_with fail
            go_ret
            rw [Hfin.out]
            exact ⟨rfl, _, hL1, hmw.trans (by omega) hmm1, hlw.trans hmw hll1⟩
          · have hq : (((layF p t' l').2.length : Int) == (l'.length : Int)) = false := by rw [beq_eq_false_iff_ne]; omega
            have hnx : minF (layF p) n' (layF p t' l').1 (layF p t' l').2 = layF t tu l := by rw [← Heq.out, hgk, minF, if_neg hsame]
            have Hnx := Lib.hid hnx; have Hsame := Lib.hid hsame; have Hgk := Lib.hid hgk; clear hnx hsame hgk
            go_wp2_with fail
            go_roundg n'
            case measure => have := Hgk.out; omega
            case rel => exact ⟨i + 1, (layF p t' l').1, _, (layF p t' l').2, by go_num, rfl, by have := Hgk.out; omega, Hnx.out, hL1, hmm1, hll1⟩
        · have hfin : layF t tu l = (t', l') := by rw [← Heq.out, show gk = 0 by omega, minF]
          have Hfin := Lib.hid hfin; clear hfin
          go_wp2_with fail
          go_ret
          rw [Hfin.out]
          exact ⟨rfl, _, hLr, hmw.trans (by omega) hmr, hlw.trans hmw hlr⟩

set_option maxRecDepth 100000 in
set_option maxHeartbeats 2000000 in
theorem rrepeat_star (t : T) (hk : t.k = 6) (hr : rightF t = true) (hmx : t.mx < 0) (ih : ∀ p ∈ t.ps, LayAt 30 p) : LayAt 45 t := by
  intro w ok A c L base v l tu hN ho hL hlen
  have hN' := hN
  have hps1 : 0 < t.ps.length := by rcases right_cases hr with h | h | h | h | h | h | h <;> omega
  obtain ⟨b, o, rfl, hb, hcell⟩ := hN.part hps1
  obtain ⟨Ap, cp, h8, hNp⟩ := hcell 0 hps1
  have hp0 : t.ps[0] ∈ t.ps := List.getElem_mem _
  have hih := ih t.ps[0] hp0
  have hlc := hN.len
  have hcc := hN.cap
  have hhead : headF t.ps = layF t.ps[0] := headF_at t.ps hps1
  have hrep : layF t tu l = repF t.mn t.mx (headF t.ps) tu l := by rw [layF_eq]; simp [hk]
  rw [hhead] at hrep
  have hb3 : 0 ≤ t.mn ∧ t.mn ≤ 255 ∧ t.mx ≤ 255 ∧ (t.mx = -1 ∨ t.mn ≤ t.mx) := by rcases right_cases hr with h | h | h | h | h | h | h <;> omega
  obtain ⟨hmn0, hmn1, hmx1, hmm⟩ := hb3
  generalize t.ps[0] = p at *
  obtain ⟨f0, f1, f2, f3, f4, f5, f6, f7⟩ := h8
  simp only [Nat.zero_mul, Nat.add_zero] at f0 f1 f2 f3 f4 f5 f6 f7
  have Hih := Lib.hid hih; have Hrep := Lib.hid hrep; have Hk := Lib.hid hk
  have hgp := layF_grows p
  have hlt1 : (0 : Int) < (t.ps.length : Int) := by omega
  clear hih hrep hk hcell hhead
  have hLlt := hL.lt
  have hblt := (ho b hb).1
  rw [Hrep.out] at hlen
  go_enter Tryz.func45, Tryz.ntmps45
  have hrp : repF t.mn t.mx (layF p) tu l = minF (layF p) t.mn.toNat (starF (layF p) tu l).1 (starF (layF p) tu l).2 := by rw [repF]; simp only [if_pos hmx]
  have hg1 := minF_grows hgp t.mn.toNat (starF (layF p) tu l).1 (starF (layF p) tu l).2
  rw [← hrp] at hg1
  have hg2 : (starF (layF p) tu l).2.length = (layF p l.length (l ++ [splitS 0 tu])).2.length := by simp [starF, setNx]
  have hg3 := hgp l.length (l ++ [splitS 0 tu])
  simp only [List.length_append, List.length_cons, List.length_nil] at hg3
  have Hrp := Lib.hid hrp; have Hg2 := Lib.hid hg2; clear hrp
  have hlen1 : l.length ≤ 1000000 := by omega
  have hlen2 : (layF p l.length (l ++ [splitS 0 tu])).2.length ≤ 1000000 := by omega
  have Hlen := Lib.hid hlen
  clear hg1 hg2 hlen
  have hnn : ¬ t.mn < t.mx := by omega
  have hq1 : (t.mx == -1) = true := by rw [beq_iff_eq]; omega
  go_wp2_with fail
  generalize hW : (w.alloc _).alloc _ = W0
  have hz0 : w.heap.size + 2 = W0.heap.size := by subst hW; simp
  have hL0 : Layer W0 L base v l := by subst hW; exact (hL.alloc _).alloc _
  have ho0w := ho.later (w' := W0) (by omega) (Moves.refl _ _)
  have hlw : Lays L v.ownBlock w W0 := by subst hW; exact (Lays.alloc _ _ _ _).trans (Moves.refl _ v) (Lays.alloc _ _ _ _)
  have hmw : Moves w v v := Moves.refl _ _
  have hP : At8 W0 (w.heap.size + 1) 0 p Ap cp := by subst hW; constructor <;> simp [go_sem]
  have g5 : W0.cell? ⟨w.heap.size, 5, none⟩ = some (.int .i64 t.mn) := by subst hW; simp [go_sem]
  have g6 : W0.cell? ⟨w.heap.size, 6, none⟩ = some (.int .i64 t.mx) := by subst hW; simp [go_sem]
  have hNp0 := hNp.lays ho hlw
  obtain ⟨hv1, hv2⟩ : some w.heap.size ≠ v.ownBlock ∧ some (w.heap.size + 1) ≠ v.ownBlock := by
    constructor
    · intro e; have := (hL.own.lt _ e.symm).2; omega
    · intro e; have := (hL.own.lt _ e.symm).2; omega
  have hB0 : w.heap.size < W0.heap.size ∧ w.heap.size ≠ L ∧ some w.heap.size ≠ v.ownBlock := ⟨by omega, by omega, hv1⟩
  have hB1 : w.heap.size + 1 < W0.heap.size ∧ w.heap.size + 1 ≠ L ∧ some (w.heap.size + 1) ≠ v.ownBlock := ⟨by omega, by omega, hv2⟩
  clear hW
  have ho0 := ho0w
  have ho0' := ho0w
  refine (rstate_any _ L base v l (splitS 0 tu) hL0 (by omega)).mono ?_
  rintro e w1 ⟨rfl, v1, hL1, hm1, hl1⟩
  obtain ⟨q0, q1, q2, q3, q4, q5, q6, q7⟩ := hP.mono (fun o => hl1.cell hB1.1 hB1.2.1 hB1.2.2)
  simp only [Nat.zero_add] at q0 q1 q2 q3 q4 q5 q6 q7
  go_wp2_with fail
  refine (Hih.out _ ok Ap cp L base v1 _ (l.length : Int) (hNp0.lays ho0' hl1) (ho0.later hl1.size hm1) hL1 hlen2).mono ?_
  rintro e w2 ⟨rfl, v2, hL2, hm2, hl2⟩
  clear q0 q1 q2 q3 q4 q5 q6 q7
  have hmm2 := hm1.trans hl1.size hm2
  have hll2 := hl1.trans hm1 hl2
  have hli : l.length < (layF p l.length (l ++ [splitS 0 tu])).2.length := by omega
  obtain ⟨g, cap, rfl, hgL, hgb, hgz⟩ := hL2.form' (by omega)
  obtain ⟨hc5, hfz, hL3, hl3⟩ := hL2.setNx l.length hli (layF p l.length (l ++ [splitS 0 tu])).1
  obtain ⟨old, hc5'⟩ := Option.isSome_iff_exists.1 hc5
  have hcL2 := hL2.cell
  have hli' : (l.length : Int) < ((layF p l.length (l ++ [splitS 0 tu])).2.length : Int) := by omega
  have h5 : (w2.setCell ⟨g, l.length * 7 + 5, none⟩ (.int .i64 (layF p l.length (l ++ [splitS 0 tu])).1)).cell? ⟨w.heap.size, 5, none⟩ = some (.int .i64 t.mn) := by
    rw [hl3.cell (by have := hll2.size; omega) hB0.2.1 ?_, hll2.cell hB0.1 hB0.2.1 hB0.2.2, g5]
    intro e
    rcases hmm2 with h | ⟨x, hx, hle⟩
    · exact hB0.2.2 (e.trans h)
    · simp only [Value.ownBlock] at hx; rw [← e] at hx; injection hx with hx; omega
  have h6 : (w2.setCell ⟨g, l.length * 7 + 5, none⟩ (.int .i64 (layF p l.length (l ++ [splitS 0 tu])).1)).cell? ⟨w.heap.size, 6, none⟩ = some (.int .i64 t.mx) := by
    rw [hl3.cell (by have := hll2.size; omega) hB0.2.1 ?_, hll2.cell hB0.1 hB0.2.1 hB0.2.2, g6]
    intro e
    rcases hmm2 with h | ⟨x, hx, hle⟩
    · exact hB0.2.2 (e.trans h)
    · simp only [Value.ownBlock] at hx; rw [← e] at hx; injection hx with hx; omega
  have hll3 : Lays L v.ownBlock W0 (w2.setCell ⟨g, l.length * 7 + 5, none⟩ (.int .i64 (layF p l.length (l ++ [splitS 0 tu])).1)) := hll2.trans hmm2 hl3
  have hL3' : Layer (w2.setCell ⟨g, l.length * 7 + 5, none⟩ (.int .i64 (layF p l.length (l ++ [splitS 0 tu])).1)) L base (.slice (some ⟨g, 0, none⟩) (layF p l.length (l ++ [splitS 0 tu])).2.length cap) (starF (layF p) tu l).2 := hL3
  have HL3 := Lib.hid hL3'; have Hll3 := Lib.hid hll3; have Hmm2 := Lib.hid hmm2
  clear hL3 hL3' hll3 hc5 hl3 hll2 hmm2 hm1 hm2 hl1 hl2 hL1 hL2
  have hst2 : minF (layF p) t.mn.toNat (l.length : Int) (starF (layF p) tu l).2 = layF t tu l := by rw [Hrep.out, Hrp.out]; rfl
  have Hst2 := Lib.hid hst2; clear hst2
  go_wp2_with fail
  generalize hW3 : w2.setCell _ _ = W3 at *
  go_loopg [8, 11] 0 (fun n tv iv wr => iv = .int .i64 t.mn ∧ tv = .int .i64 (l.length : Int) ∧ wr = W3)
  case atStart => exact ⟨rfl, rfl, rfl⟩
  case round =>
    obtain ⟨rfl, rfl, rfl⟩ := hrel
    have hlen := Hlen.out
    clear hW3 hlen2 hli hli' hlen1 hg3 hc5' hfz hcL2
    go_wp2_with fail
    go_loopg [8, 13] (t.mn.toNat) (fun n tv iv wr => ∃ (i : Nat) (t' : Int) (v' : Value) (l' : List St), iv = .int .i64 i ∧ tv = .int .i64 t' ∧ i + n = t.mn.toNat ∧ minF (layF p) n t' l' = layF t tu l ∧ Layer wr L base v' l' ∧ Moves W0 v v' ∧ Lays L v.ownBlock W0 wr)
    case atStart => exact ⟨0, (l.length : Int), _, (starF (layF p) tu l).2, rfl, rfl, by omega, Hst2.out, HL3.out, Hmm2.out, Hll3.out⟩
    case round =>
      clear Hst2 HL3 Hll3 Hmm2
      obtain ⟨i, t', v', l', rfl, rfl, hin, heq, hLr, hmr, hlr⟩ := hrel
      have Heq := Lib.hid heq; clear heq
      have hor := ho0.later hlr.size hmr
      have hNr := hNp0.lays ho0' hlr
      have hzr := hlr.size
      obtain ⟨q0, q1, q2, q3, q4, q5, q6, q7⟩ := hP.mono (fun o => hlr.cell hB1.1 hB1.2.1 hB1.2.2)
      simp only [Nat.zero_add] at q0 q1 q2 q3 q4 q5 q6 q7
      have hlc' : l'.length ≤ 1000000 := by have := minF_grows hgp gk t' l'; rw [Heq.out, Hrep.out] at this; omega
      have k5' := (hlr.cell (o := 5) hB0.1 hB0.2.1 hB0.2.2).trans g5
      by_cases hlt : (i : Int) < t.mn
      · obtain ⟨n', hgk⟩ : ∃ n', gk = n' + 1 := ⟨gk - 1, by omega⟩
        have hst : (layF p t' l').2.length ≤ 1000000 := by
          have h1 := Heq.out
          rw [hgk, minF] at h1
          have h2 := Hrep.out
          split at h1
          · rw [h1, h2]; exact hlen
          · have := minF_grows hgp n' (layF p t' l').1 (layF p t' l').2; rw [h1, h2] at this; omega
        obtain ⟨Av, cv, rfl⟩ := hLr.form
        have hcL := hLr.cell
        go_wp2_with fail
        refine (Hih.out _ ok Ap cp L base _ l' t' hNr hor hLr hst).mono ?_
        rintro e w1 ⟨rfl, v1, hL1, hm1, hl1⟩
        obtain ⟨Av1, cv1, rfl⟩ := hL1.form
        have hcL1 := hL1.cell
        have hmm1 := hmr.trans hzr hm1
        have hll1 := hlr.trans hmr hl1
        by_cases hsame : (layF p t' l').2.length = l'.length
        · have hfin : layF t tu l = layF p t' l' := by rw [← Heq.out, hgk, minF, if_pos hsame]
          have hq : (((layF p t' l').2.length : Int) == (l'.length : Int)) = true := by rw [beq_iff_eq, hsame]
          have Hfin := Lib.hid hfin; have Hsame := Lib.hid hsame; have Hgk := Lib.hid hgk; clear hfin hsame hgk
          go_wp2_with fail
          go_ret
          rw [Hfin.out]
          exact ⟨rfl, _, hL1, hmw.trans (by omega) hmm1, hlw.trans hmw hll1⟩
        · have hq : (((layF p t' l').2.length : Int) == (l'.length : Int)) = false := by rw [beq_eq_false_iff_ne]; omega
          have hnx : minF (layF p) n' (layF p t' l').1 (layF p t' l').2 = layF t tu l := by rw [← Heq.out, hgk, minF, if_neg hsame]
          have Hnx := Lib.hid hnx; have Hsame := Lib.hid hsame; have Hgk := Lib.hid hgk; clear hnx hsame hgk
          go_wp2_with fail
          go_roundg n'
          case measure => have := Hgk.out; omega
          case rel => exact ⟨i + 1, (layF p t' l').1, _, (layF p t' l').2, by go_num, rfl, by have := Hgk.out; omega, Hnx.out, hL1, hmm1, hll1⟩
      · have hfin : layF t tu l = (t', l') := by rw [← Heq.out, show gk = 0 by omega, minF]
        have Hfin := Lib.hid hfin; clear hfin
        go_wp2_with fail
        go_ret
        rw [Hfin.out]
        exact ⟨rfl, _, hLr, hmw.trans (by omega) hmr, hlw.trans hmw hlr⟩

theorem rrepeat_any (t : T) (hk : t.k = 6) (hr : rightF t = true) (ih : ∀ p ∈ t.ps, LayAt 30 p) : LayAt 45 t := by
  by_cases hmx : t.mx < 0
  · exact rrepeat_star t hk hr hmx ih
  · exact rrepeat_opt t hk hr hmx ih
end Go.Proofs.YteekafkpeimhoaaGreat

/- A range over a function whose rounds are counted: no round leaves early; what comes at round k is told by k. -/
set_option linter.unusedVariables false
set_option linter.unusedSimpArgs false
namespace Go.Proofs.YteekafkpeimhoaaGreat
open Go.RowKit

/-- A step of a loop's book-keeping: cells, and whatever lay below B, lie as they lay. -/
structure GB (B : Nat) (W W' : World) : Prop where
  os : W'.os = W.os
  tape : W'.tape = W.tape
  output : W'.output = W.output
  size : W.heap.size ≤ W'.heap.size
  keep : ∀ (k : Nat) (o : Obj), W.heap[k]? = some o → (k < B ∨ o.isCells = true) → W'.heap[k]? = some o
theorem GB.refl (B : Nat) (W : World) : GB B W W := ⟨rfl, rfl, rfl, Nat.le_refl _, fun _ _ h _ => h⟩
theorem GB.trans {B : Nat} {X Y Z : World} (h : GB B X Y) (k : GB B Y Z) : GB B X Z :=
  ⟨k.os.trans h.os, k.tape.trans h.tape, k.output.trans h.output, Nat.le_trans h.size k.size, fun i o hi hc => k.keep i o (h.keep i o hi hc) hc⟩
theorem GB.alloc (B : Nat) (W : World) (o : Obj) : GB B W (W.alloc o) :=
  ⟨rfl, rfl, rfl, by simp, fun k o' hk _ => (Below.heap_alloc W o k (Array.getElem?_eq_some_iff.1 hk).1).trans hk⟩
theorem GB.put {B : Nat} {W : World} {l : Nat} {o : Obj} (o' : Obj) (h : W.heap[l]? = some o) (ho : o.isCells = false) (hB : B ≤ l) : GB B W (W.putObj l o') :=
  ⟨rfl, rfl, rfl, by simp, fun k o2 hk hc => by
    by_cases e : k = l
    · subst e
      rw [h] at hk
      cases hk
      rcases hc with hc | hc
      · omega
      · rw [ho] at hc; cases hc
    · exact (World.putObj_heap_other e).trans hk⟩
theorem GB.cell {B : Nat} {W W' : World} (h : GB B W W') {a : Addr} {v : Value} (hc : W.cell? a = some v) : W'.cell? a = some v ∧ W'.frozen? a = W.frozen? a := by
  obtain ⟨o, ho, hoc⟩ := cells_of_cell hc
  have := h.keep _ _ ho (.inr hoc)
  exact ⟨(World.cell?_of_block (by rw [this, ho])).trans hc, World.frozen?_of_block (by rw [this, ho])⟩

/-- What a round must leave. -/
def RoundEnd (B : Nat) (Kp : World → World → Prop) (I : Nat → World → Prop) (k : Nat) (W2 : World) (e : Exit) (W' : World) : Prop := e = .normal ∧ KeepsFrom B W2 W' ∧ Kp W2 W' ∧ I (k + 1) W'
section
variable {F : Fence} {n : Nat} {P : Program}
theorem wpIn_range_idx {g : Operand} {ps : Array Tmp} {assign body : Code} {Q : Exit → Act → World → Prop} {a : Act} {w : World}
    (hro : F.round = none) (h1 : 1 ≤ n) {gf : Nat} {lb : Array Value} (hg : a.eval g = .func (.func gf) #[] lb) (hFg : F.fn gf) (eg : ∀ args w, (callFunc gf args).run P w = .ok (.enter gf args) w)
    {enc : Nat → Array Value} {N : Nat} (hps : ∀ k, (enc k).size = ps.size)
    (I : Nat → World → Prop) (hI : ∀ k W W', I k W → GB w.heap.size W W' → I k W') (h0 : I 0 w)
    (Kp : World → World → Prop) (hKp : ∀ W W', w.heap.size ≤ W.heap.size → GB w.heap.size W W' → Kp W W') (hKt : ∀ {A B C : World}, Kp A B → Kp B C → Kp A C)
    (hseq : ∀ (l : Nat) (J : Nat → World → Prop) (W : World), GB w.heap.size w W →
      (∀ k W1, k < N → J k W1 → YieldAt F (n - 1 - 1) P l (enc k) W1 fun e W' => e = .returned (.bool true) ∧ J (k + 1) W' ∧ Kp W1 W') → J 0 W →
      CallsIn F (n - 1) P gf (#[.func (.yield l) #[] #[]] ++ lb) W fun e W' => (∃ v, e = .returned v) ∧ J N W')
    (hround : ∀ (l k : Nat) (W : World), w.heap.size ≤ l → w.heap.size ≤ W.heap.size → k < N → I k W →
      assign.wpIn (F.inRound l) (n - 1 - 1) P (Exit.then (fun a₁ W1 => KeepsFrom w.heap.size W W1 ∧ Kp W W1 ∧ ∀ W2, GB w.heap.size W1 W2 → body.wpIn (F.inRound l) (n - 1 - 1) P (fun e _ W' => RoundEnd w.heap.size Kp I k W2 e W') a₁ W2) (fun _ _ _ => False))
        { tmps := (ps.zip (enc k)).foldl (fun t (p, v) => t.setIfInBounds p v) a.tmps, defers := [] } W)
    (hdone : ∀ (D : Nat) (W : World), w.heap.size ≤ D → I N W → W.heap[D]? = some (.deferred (some [])) → Q .normal { a with defers := { target := .collected D, args := #[] } :: a.defers } W) :
    (Code.rangeFunc g ps assign body).wpIn F n P Q a w := by
  refine wpIn_rangeFunc ?_
  intro fn hfn
  rw [hro]
  obtain ⟨rec, hrec⟩ : ∃ rec : LoopState → Option Code → Loop, rec = fun st pe => { state := st, pending := pe, fn, tmps := a.tmps, params := ps, assign, body, defers := w.heap.size } := ⟨_, rfl⟩
  obtain ⟨W1, hW1⟩ : ∃ W1, (w.alloc (.deferred (some []))).alloc (.loop (rec .ready none)) = W1 := ⟨_, rfl⟩
  have hL1 : W1.heap[w.heap.size + 1]? = some (.loop (rec .ready none)) := by
    rw [← hW1]; have := World.alloc_heap_new (w.alloc (.deferred (some []))) (.loop (rec .ready none)); rwa [World.size_alloc] at this
  have hK1 : W1.heap[w.heap.size]? = some (.deferred (some [])) := by
    rw [← hW1]; exact (Below.heap_alloc _ _ _ (by simp)).trans (World.alloc_heap_new w _)
  have hG1 : GB w.heap.size w W1 := by rw [← hW1]; exact (GB.alloc _ _ _).trans (GB.alloc _ _ _)
  refine ⟨w.heap.size + 1, [{ target := .collected w.heap.size, args := #[] }], W1, { target := .fn (.func gf) lb, args := #[.func (.yield (w.heap.size + 1)) #[] #[]] }, W1, gf,
    #[.func (.yield (w.heap.size + 1)) #[] #[]] ++ lb, W1, ?_, ?_, ?_, ?_, fun _ => h1, ?_⟩
  · rw [← hW1, hrec]; exact run_enterLoop_outer _ _ _ _ _
  · simp only [resolve, hg]
    simp [go_sem]
  · intro f' hf'; simp [Target.leads] at hf'; subst hf'; exact hFg
  · simp [invoke, go_sem, eg]
  · refine (hseq (w.heap.size + 1) (fun k W => (w.heap.size ≤ W.heap.size ∧ I k W) ∧ W.heap[w.heap.size + 1]? = some (.loop (rec .ready none)) ∧ W.heap[w.heap.size]? = some (.deferred (some []))) W1 hG1 ?_ ⟨⟨hG1.size, hI _ _ _ h0 hG1⟩, hL1, hK1⟩).mono ?_
    · rintro k W hk ⟨⟨hzs, hi⟩, hl, hd⟩
      have hy := run_yield (P := P) (args := enc k) hl (by rw [hrec]; exact hps k)
      rw [hrec] at hy
      refine ⟨fn, _, assign, body, hy, roundIn_of_wpIn hfn ?_⟩
      refine wpIn_mono (hround (w.heap.size + 1) k W (by omega) hzs hk hi) ?_
      intro e a1 Wa hq
      cases e with
      | exit id => exact hq.elim
      | goto t => exact hq.elim
      | ret => exact hq.elim
      | panic ch => exact hq.elim
      | outgrown => exact hq.elim
      | normal =>
        obtain ⟨hka, hpa, hbody⟩ := hq
        have hl2 := hka.same _ _ (by omega) hl rfl
        have hd2 := hka.same _ _ (Nat.le_refl _) hd rfl
        refine ⟨_, run_beginRound hl2 (by rw [hrec]), ?_⟩
        have hg2 : GB w.heap.size Wa (Wa.putObj (w.heap.size + 1) (.loop { rec .ready none with state := .busy })) := GB.put _ hl2 rfl (by omega)
        have hl3 : (Wa.putObj (w.heap.size + 1) (.loop { rec .ready none with state := .busy })).heap[w.heap.size + 1]? = some (.loop { rec .ready none with state := .busy }) := World.putObj_heap_same (Array.getElem?_eq_some_iff.1 hl2).1
        have hd3 : (Wa.putObj (w.heap.size + 1) (.loop { rec .ready none with state := .busy })).heap[w.heap.size]? = some (.deferred (some [])) := (World.putObj_heap_other (by omega)).trans hd2
        refine wpIn_mono (hbody _ hg2) ?_
        rintro e a2 Wb ⟨rfl, hkb, hpb, hib⟩
        have hl4 := hkb.same _ _ (by omega) hl3 rfl
        have hd4 := hkb.same _ _ (Nat.le_refl _) hd3 rfl
        have hg4 : GB w.heap.size Wb (Wb.putObj (w.heap.size + 1) (.loop { rec .ready none with state := .ready, pending := none })) := GB.put _ hl4 rfl (by omega)
        have hend := run_endRound (P := P) none hl4
        have hsz : w.heap.size ≤ Wb.heap.size := by have h2 := hka.size; have h3 := hkb.size; simp only [World.putObj_size] at h3; omega
        have hza : w.heap.size ≤ Wa.heap.size := by have h2 := hka.size; omega
        refine ⟨_, _, hend, rfl, ⟨⟨by simpa using hsz, hI _ _ _ hib (by simpa using hg4)⟩, ?_, ?_⟩, ?_⟩
        · refine (World.putObj_heap_same (Array.getElem?_eq_some_iff.1 hl4).1).trans ?_
          rw [hrec]; rfl
        · exact (World.putObj_heap_other (by omega)).trans hd4
        · exact hKt (hKt (hKt hpa (hKp _ _ hza hg2)) hpb) (hKp _ _ hsz (by simpa using hg4))
    · rintro e W2 ⟨⟨v, rfl⟩, ⟨_, hi⟩, hl, hd⟩
      have hend : (Instr.endLoop (w.heap.size + 1)).run P W2 = .ok none (W2.putObj (w.heap.size + 1) (.loop { rec .ready none with state := .exhausted })) := by
        have h := run_endLoop (P := P) hl (by rw [hrec]; simp)
        rw [h, hrec]
      exact ⟨none, _, hend, hdone w.heap.size _ (Nat.le_refl _) (hI _ _ _ hi (GB.put _ hl rfl (by omega))) ((World.putObj_heap_other (by omega)).trans hd)⟩
end
end Go.Proofs.YteekafkpeimhoaaGreat

/- The walks of slices.Backward, at nodes and at ints. -/
set_option linter.unusedVariables false
set_option linter.unusedSimpArgs false
namespace Go.Proofs.YteekafkpeimhoaaGreat
open Go.RowKit Go.Shelf
attribute [local go_sem] Oper.semAt_some

/-- The cells of some blocks lie as they lay. -/
def KeepOn (S : Nat → Prop) (W W' : World) : Prop := ∀ b, S b → ∀ o, W'.cell? ⟨b, o, none⟩ = W.cell? ⟨b, o, none⟩
theorem KeepOn.trans {S : Nat → Prop} {A B C : World} (h : KeepOn S A B) (k : KeepOn S B C) : KeepOn S A C := fun b hb o => (k b hb o).trans (h b hb o)
theorem KeepOn.refl (S : Nat → Prop) (A : World) : KeepOn S A A := fun _ _ _ => rfl
theorem KeepOn.of_gb {S : Nat → Prop} {B : Nat} (hS : ∀ b, S b → b < B) {W W' : World} (hB : B ≤ W.heap.size) (h : GB B W W') : KeepOn S W W' := fun b hb o => by
  have hlt := hS b hb
  have h1 : W.heap[b]? = some W.heap[b] := Array.getElem?_eq_getElem (by omega)
  exact World.cell?_of_block (w := W) (a := ⟨b, o, none⟩) ((h.keep b _ h1 (.inl hlt)).trans h1.symm)

set_option maxRecDepth 100000 in
set_option maxHeartbeats 400000 in
theorem backN_any (w : World) (A : Option Addr) (n c : Nat) :
    Calls Tryz.prog 63 #[.slice A n c] w fun e w' => e = .returned (.func (.func 75) #[] #[.pointer (some ⟨w.heap.size, 0, none⟩)]) ∧ w' = w.alloc (.cells #[.slice A n c] 37) := by
  go_enter Tryz.func63, Tryz.ntmps63
  go_wp2_with fail
  go_ret
  exact ⟨rfl, rfl⟩

/-- What comes at round k, from behind. -/
def encN (ps : List T) (As : Nat → Option Addr) (cs : Nat → Nat) (k : Nat) : Array Value :=
  #[.int .i64 ((ps.length - 1 - k : Nat) : Int), nodeV (ps.getD (ps.length - 1 - k) default) (As (ps.length - 1 - k)) (cs (ps.length - 1 - k))]

set_option maxRecDepth 100000 in
set_option maxHeartbeats 2000000 in
theorem backN_seq (m l Bs b o c : Nat) (ps : List T) (As : Nat → Option Addr) (cs : Nat → Nat) (hlen : ps.length ≤ 17592186044416) (J : Nat → World → Prop) (W : World)
    (hc : W.cell? ⟨Bs, 0, none⟩ = some (.slice (some ⟨b, o, none⟩) ps.length c)) (he : ∀ i (hi : i < ps.length), At8 W b (o + i * 8) ps[i] (As i) (cs i))
    (hY : ∀ k W1, k < ps.length → J k W1 → YieldAt Fence.wide (m - 1) Tryz.prog l (encN ps As cs k) W1 fun e W' => e = .returned (.bool true) ∧ J (k + 1) W' ∧ KeepOn (fun x => x = b ∨ x = Bs) W1 W') (h0 : J 0 W) :
    CallsIn Fence.wide m Tryz.prog 75 #[.func (.yield l) #[] #[], .pointer (some ⟨Bs, 0, none⟩)] W fun e W' => (∃ v, e = .returned v) ∧ J ps.length W' := by
  refine callsIn_of_wp Tryz.func75 rfl trivial ?_ rfl
  simp only [Tryz.ntmps75, List.size_toArray, List.length_cons, List.length_nil, Nat.reduceAdd, Nat.reduceSub, Array.replicate_succ, Array.replicate_zero, List.push_toArray, List.append_toArray, List.nil_append, List.cons_append]
  gi_wp2
  gi_loopw [3] (fun i wr => ∃ (k : Nat) (j : Int), i = .int .i64 j ∧ j + 1 + k = ps.length ∧ -1 ≤ j ∧ J k wr ∧ KeepOn (fun x => x = b ∨ x = Bs) W wr)
    (fun i _ => (intOf i + 1).toNat)
  case atStart => exact ⟨0, (ps.length : Int) - 1, rfl, by omega, by omega, h0, KeepOn.refl _ _⟩
  case round =>
    obtain ⟨k, j, rfl, hj, hj1, hJ, hK⟩ := hrel
    have hcb := (hK Bs (.inr rfl) 0).trans hc
    by_cases hge : 0 ≤ j
    · obtain ⟨r, rfl⟩ := Int.eq_ofNat_of_zero_le hge
      have hr : r < ps.length := by omega
      obtain ⟨fn, tmps, assign, body, hy, hR⟩ := hY k wr (by omega) hJ
      have e : ps.length - 1 - k = r := by omega
      unfold encN at hy
      have hgd : ps.getD r default = ps[r] := by simp [List.getD_eq_getElem?_getD, hr]
      rw [e, hgd] at hy
      clear hgd
      obtain ⟨f0, f1, f2, f3, f4, f5, f6, f7⟩ := (he r hr).mono (w' := wr) (fun o => hK b (.inl rfl) o)
      generalize ps[r] = p at *
      clear he hY
      gi_wp2
      refine ⟨fun h => by simp [Fence.wide] at h, hR.mono ?_⟩
      rintro e W3 ⟨rfl, hJ3, hk3⟩
      gi_wp2
      go_roundw
      case rel => exact ⟨k + 1, (r : Int) - 1, rfl, by omega, by omega, hJ3, hK.trans hk3⟩
      case measure => simp [intOf]
    · obtain rfl : k = ps.length := by omega
      gi_wp2
      go_end0
      exact ⟨⟨_, rfl⟩, hJ⟩

set_option maxRecDepth 100000 in
set_option maxHeartbeats 400000 in
theorem backI_any (w : World) (A : Option Addr) (n c : Nat) :
    Calls Tryz.prog 64 #[.slice A n c] w fun e w' => e = .returned (.func (.func 76) #[] #[.pointer (some ⟨w.heap.size, 0, none⟩)]) ∧ w' = w.alloc (.cells #[.slice A n c] 61) := by
  go_enter Tryz.func64, Tryz.ntmps64
  go_wp2_with fail
  go_ret
  exact ⟨rfl, rfl⟩

/-- What comes at round k, from behind, of the first n of some ints. -/
def encI (xs : List Int) (n k : Nat) : Array Value :=
  #[.int .i64 ((n - 1 - k : Nat) : Int), .int .i64 (xs.getD (n - 1 - k) 0)]

set_option maxRecDepth 100000 in
set_option maxHeartbeats 2000000 in
theorem backI_seq (m l Bs b o c n : Nat) (xs : List Int) (hlen : n ≤ 17592186044416) (J : Nat → World → Prop) (W : World)
    (hc : W.cell? ⟨Bs, 0, none⟩ = some (.slice (some ⟨b, o, none⟩) n c)) (he : ∀ i, i < n → W.cell? ⟨b, o + i, none⟩ = some (.int .i64 (xs.getD i 0)))
    (hY : ∀ k W1, k < n → J k W1 → YieldAt Fence.wide (m - 1) Tryz.prog l (encI xs n k) W1 fun e W' => e = .returned (.bool true) ∧ J (k + 1) W' ∧ KeepOn (fun x => x = b ∨ x = Bs) W1 W') (h0 : J 0 W) :
    CallsIn Fence.wide m Tryz.prog 76 #[.func (.yield l) #[] #[], .pointer (some ⟨Bs, 0, none⟩)] W fun e W' => (∃ v, e = .returned v) ∧ J n W' := by
  refine callsIn_of_wp Tryz.func76 rfl trivial ?_ rfl
  simp only [Tryz.ntmps76, List.size_toArray, List.length_cons, List.length_nil, Nat.reduceAdd, Nat.reduceSub, Array.replicate_succ, Array.replicate_zero, List.push_toArray, List.append_toArray, List.nil_append, List.cons_append]
  gi_wp2
  gi_loopw [3] (fun i wr => ∃ (k : Nat) (j : Int), i = .int .i64 j ∧ j + 1 + k = n ∧ -1 ≤ j ∧ J k wr ∧ KeepOn (fun x => x = b ∨ x = Bs) W wr)
    (fun i _ => (intOf i + 1).toNat)
  case atStart => exact ⟨0, (n : Int) - 1, rfl, by omega, by omega, h0, KeepOn.refl _ _⟩
  case round =>
    obtain ⟨k, j, rfl, hj, hj1, hJ, hK⟩ := hrel
    have hcb := (hK Bs (.inr rfl) 0).trans hc
    by_cases hge : 0 ≤ j
    · obtain ⟨r, rfl⟩ := Int.eq_ofNat_of_zero_le hge
      have hr : r < n := by omega
      obtain ⟨fn, tmps, assign, body, hy, hR⟩ := hY k wr (by omega) hJ
      have e : n - 1 - k = r := by omega
      unfold encI at hy
      rw [e] at hy
      have f0 := (hK b (.inl rfl) (o + r)).trans (he r hr)
      generalize xs.getD r 0 = p at *
      clear he hY
      gi_wp2
      refine ⟨fun h => by simp [Fence.wide] at h, hR.mono ?_⟩
      rintro e W3 ⟨rfl, hJ3, hk3⟩
      gi_wp2
      go_roundw
      case rel => exact ⟨k + 1, (r : Int) - 1, rfl, by omega, by omega, hJ3, hK.trans hk3⟩
      case measure => simp [intOf]
    · obtain rfl : k = n := by omega
      gi_wp2
      go_end0
      exact ⟨⟨_, rfl⟩, hJ⟩
end Go.Proofs.YteekafkpeimhoaaGreat

/- The walk of nfa's layer: row. -/
set_option linter.unusedVariables false
set_option linter.unusedSimpArgs false
namespace Go.Proofs.YteekafkpeimhoaaGreat
open Go.RowKit Go.Shelf
attribute [local go_sem] Oper.semAt_some

theorem ownsRow_gb {B : Nat} {W W' : World} (h : GB B W W') {base : Nat} {e : TypeId} {size n : Nat} {v : Value} {xs : List Value} (ho : W.ownsRow base e size v n xs) : W'.ownsRow base e size v n xs := by
  refine ⟨ho.1, ?_⟩
  rcases ho.2 with h0 | ⟨g, cap, cur, rfl, hb, hg, rest⟩
  · exact .inl h0
  · exact .inr ⟨g, cap, cur, rfl, hb, h.keep _ _ hg (.inr rfl), rest⟩
theorem Layer.gb {B : Nat} {W W' : World} (h : GB B W W') {L base : Nat} {v : Value} {l : List St} (hL : Layer W L base v l) : Layer W' L base v l :=
  ⟨(h.cell hL.cell).1, (h.cell hL.cell).2.trans hL.froz, ownsRow_gb h hL.own, hL.ne, Nat.le_trans hL.base h.size⟩
theorem Lays.gb {B : Nat} {w W W' : World} (h : GB B W W') {L : Nat} {r : Option Nat} (hl : Lays L r w W) (hB : w.heap.size ≤ B) : Lays L r w W' :=
  ⟨h.os.trans hl.os, h.tape.trans hl.tape, h.output.trans hl.output, Nat.le_trans hl.size h.size, fun k hk h1 h2 => by
    have e := hl.block k hk h1 h2
    have hkW := Nat.lt_of_lt_of_le hk hl.size
    have h3 : W.heap[k]? = some W.heap[k] := Array.getElem?_eq_getElem hkW
    rw [← e, h3]
    exact h.keep k _ h3 (.inl (by omega))⟩
theorem Layer.setOther {w : World} {L base : Nat} {v : Value} {l : List St} (h : Layer w L base v l) {B o : Nat} (h1 : B ≠ L) (h2 : some B ≠ v.ownBlock) (u : Value) : Layer (w.setCell ⟨B, o, none⟩ u) L base v l := by
  refine ⟨?_, ?_, ?_, h.ne, by rw [World.size_setCell]; exact h.base⟩
  · rw [World.cell?_setCell_other _ _ _ _ (by intro e; injection e with e; exact h1 e)]; exact h.cell
  · rw [World.frozen?_setCell]; exact h.froz
  · exact h.own.kept (row := some B) ⟨rfl, rfl, rfl, by rw [World.size_setCell]; exact Nat.le_refl _, fun k hk hne => Below.heap_setCell _ _ _ _ (fun e => hne (by rw [e]))⟩ (.inr (fun e => h2 e.symm))
theorem Lays.setNew {w W : World} {L : Nat} {r : Option Nat} (h : Lays L r w W) {B o : Nat} (hB : w.heap.size ≤ B) (u : Value) : Lays L r w (W.setCell ⟨B, o, none⟩ u) :=
  ⟨h.os, h.tape, h.output, by rw [World.size_setCell]; exact h.size, fun k hk h1 h2 => (Below.heap_setCell _ _ _ _ (show k ≠ B by omega)).trans (h.block k hk h1 h2)⟩
theorem rowF_drop : ∀ (ps : List T) (j : Nat) (tu : Int) (l : List St), (rowF (ps.drop j) tu l).2.length ≤ (rowF ps tu l).2.length
  | [], j, tu, l => by simp
  | p :: ps, 0, tu, l => by simp
  | p :: ps, j + 1, tu, l => by
    have h1 := rowF_drop ps j tu l
    have h2 := layF_grows p (rowF ps tu l).1 (rowF ps tu l).2
    rw [List.drop_succ_cons, rowF]
    omega
/-- What a layer's call leaves of blocks that are no cells. -/
theorem Lays.keepsFrom {L : Nat} {w W : World} {base : Nat} {v : Value} {l : List St} (h : Lays L v.ownBlock w W) (hL : Layer w L base v l) (B : Nat) : KeepsFrom B w W :=
  ⟨h.size, fun k o _ hk ho => (h.block k (Array.getElem?_eq_some_iff.1 hk).1 (fun e => by
      obtain ⟨o', ho', hc⟩ := cells_of_cell hL.cell
      rw [e] at hk
      rw [show w.heap[L]? = some o' from ho'] at hk
      cases hk
      rw [hc] at ho; cases ho) (fun e => by
      rcases hL.own.2 with ⟨rfl, _⟩ | ⟨g, cap, cur, rfl, _, hg, _⟩
      · simp [Value.ownBlock] at e
      · simp only [Value.ownBlock] at e
        injection e with e
        rw [e, hg] at hk
        cases hk
        cases ho)).trans hk⟩

/-- Between two rounds of row: k parts are laid. -/
def RowI (t : T) (w W0 : World) (L base : Nat) (v : Value) (tu : Int) (l : List St) (k : Nat) (W : World) : Prop :=
  ∃ v', Layer W L base v' (rowF (t.ps.drop (t.ps.length - k)) tu l).2 ∧ Moves W0 v v' ∧ Lays L v.ownBlock w W ∧ W.cell? ⟨w.heap.size, 0, none⟩ = some (.pointer (some ⟨L, 0, none⟩)) ∧ W.cell? ⟨w.heap.size + 2, 0, none⟩ = some (.int .i64 (rowF (t.ps.drop (t.ps.length - k)) tu l).1) ∧ W.frozen? ⟨w.heap.size + 2, 0, none⟩ = false

set_option maxRecDepth 100000 in
set_option maxHeartbeats 2000000 in
theorem row_any (t : T) (hk : t.k = 4) (hr : rightF t = true) (ih : ∀ p ∈ t.ps, LayAt 21 p) : LayAt 53 t := by
  intro w ok A c L base v l tu hN ho hL hlen
  have hps1 : 0 < t.ps.length := by rcases right_cases hr with h | h | h | h | h | h | h <;> omega
  have hrow : layF t tu l = rowF t.ps tu l := by rw [layF_eq]; simp [hk]
  have hll := hN.len
  cases hN with
  | mk _ _ _ As cs hcap _ ha hp =>
  obtain ⟨b, o, rfl, hb, hcell⟩ := ha (fun e => by simp [e] at hps1)
  rw [hrow] at hlen
  have Hrow := Lib.hid hrow; have Hlen := Lib.hid hlen; have Hih := Lib.hid ih
  clear hrow hk hlen ih
  have hLlt := hL.lt
  have hblt := (ho b hb).1
  refine (callsIn_wide (n := 3)).1 ?_
  refine callsIn_of_wp_marks Tryz.func53 rfl trivial ?_ rfl
  simp only [Tryz.ntmps53, List.size_toArray, List.length_cons, List.length_nil, Nat.reduceAdd, Nat.reduceSub, Array.replicate_succ, Array.replicate_zero, List.push_toArray, List.append_toArray, List.nil_append, List.cons_append]
  gi_wp2
  refine ⟨trivial, (callsIn_wide.2 (backN_any _ _ _ _)).mono ?_⟩
  rintro e w' ⟨rfl, rfl⟩
  gi_wp2
  have hz4 : ((((w.alloc (.cells #[.pointer (some ⟨L, 0, none⟩)] 53)).alloc (.cells #[.int .i64 t.k, .int .u64 t.s0, .int .u64 t.s1, .int .u64 t.s2, .int .u64 t.s3, .int .i64 t.mn, .int .i64 t.mx, .slice (some ⟨b, o, none⟩) t.ps.length c] 39)).alloc (.cells #[.int .i64 tu] 3)).alloc (.cells #[.slice (some ⟨b, o, none⟩) t.ps.length c] 37)).heap.size = w.heap.size + 4 := by simp
  generalize hW : (((w.alloc _).alloc _).alloc _).alloc _ = W0 at *
  have hz4a : w.heap.size + 4 ≤ W0.heap.size := by omega
  have hz4b : W0.heap.size ≤ w.heap.size + 4 := by omega
  clear hz4
  have hb0 : Below w.heap.size w W0 := by subst hW; exact (((((Below.refl _ _).alloc (Nat.le_refl _) _).alloc (by simp) _).alloc (by simp; omega) _).alloc (by simp; omega) _)
  have c0 : W0.cell? ⟨w.heap.size, 0, none⟩ = some (.pointer (some ⟨L, 0, none⟩)) := by subst hW; simp [go_sem]
  have c2 : W0.cell? ⟨w.heap.size + 2, 0, none⟩ = some (.int .i64 tu) := by subst hW; simp [go_sem]
  have e2 : W0.frozen? ⟨w.heap.size + 2, 0, none⟩ = false := by subst hW; simp [go_sem]
  have c3 : W0.cell? ⟨w.heap.size + 3, 0, none⟩ = some (.slice (some ⟨b, o, none⟩) t.ps.length c) := by subst hW; simp [go_sem]
  clear hW
  have hL0 := hL.later hb0
  have hno : ∀ j, w.heap.size ≤ j → some j ≠ v.ownBlock := fun j hj e => by have := (hL.own.lt _ e.symm).2; omega
  have hmv : ∀ v' : Value, Moves W0 v v' → ∀ j, w.heap.size ≤ j → j < W0.heap.size → some j ≠ v'.ownBlock := fun v' hm j h1 h2 e => by
    rcases hm with hm | ⟨x, hx, hle⟩
    · exact hno j h1 (e.trans hm)
    · rw [hx] at e; injection e with e; omega
  have HR : ∀ k, k < t.ps.length → rowF (t.ps.drop (t.ps.length - (k + 1))) tu l = layF (t.ps.getD (t.ps.length - 1 - k) default) (rowF (t.ps.drop (t.ps.length - k)) tu l).1 (rowF (t.ps.drop (t.ps.length - k)) tu l).2 := fun k hk => by
    have h1 : t.ps.length - 1 - k < t.ps.length := by omega
    rw [show t.ps.length - (k + 1) = t.ps.length - 1 - k by omega, List.drop_eq_getElem_cons h1, rowF, show t.ps.length - 1 - k + 1 = t.ps.length - k by omega]
    simp [List.getD_eq_getElem?_getD, h1]
  refine wpIn_range_idx rfl (by omega) (gf := 75) (lb := #[.pointer (some ⟨w.heap.size + 3, 0, none⟩)]) rfl trivial (enters_of Tryz.func75 (by kernel_rfl) rfl) (enc := encN t.ps As cs) (N := t.ps.length) (fun k => rfl)
    (RowI t w W0 L base v tu l)
    ?hI ?h0 (KeepOn (fun x => x = b ∨ x = w.heap.size + 3)) (fun W W' h1 h2 => KeepOn.of_gb (by intro x hx; rcases hx with rfl | rfl <;> omega) h1 h2) (fun h k => h.trans k)
    ?hseq ?hround ?hdone
  case hI =>
    rintro k W W' ⟨v', h1, h2, h3, h4, h5, h6⟩ hg
    exact ⟨v', h1.gb hg, h2, h3.gb hg (by omega), (hg.cell h4).1, (hg.cell h5).1, (hg.cell h5).2.trans h6⟩
  case h0 =>
    refine ⟨v, ?_, Moves.refl _ _, Lays.of_below hb0, c0, ?_, e2⟩
    · rw [List.drop_of_length_le (by omega), rowF]; exact hL0
    · rw [List.drop_of_length_le (by omega), rowF]; exact c2
  case hseq =>
    intro l0 J W hg hY hJ
    refine backN_seq 2 l0 (w.heap.size + 3) b o c t.ps As cs hll J W (hg.cell c3).1 ?_ hY hJ
    intro i hi
    have h8 := hcell i _ (List.getElem?_eq_getElem hi)
    refine h8.mono fun o' => ?_
    have hw0 := hb0.cell (p := ⟨b, o', none⟩) hblt
    have hbz : b < W0.heap.size := by omega
    have hk1 : W0.heap[b]? = some W0.heap[b] := Array.getElem?_eq_getElem hbz
    exact (World.cell?_of_block (w := W0) (a := ⟨b, o', none⟩) ((hg.keep b _ hk1 (.inl hbz)).trans hk1.symm)).trans hw0
  case hround =>
    intro l0 k W hl0 hzW hk hIk
    obtain ⟨v', hL', hm', hlays, d0, d2, g2⟩ := hIk
    have hkl : t.ps.length - 1 - k < t.ps.length := by omega
    have hpk : t.ps[t.ps.length - 1 - k]? = some (t.ps.getD (t.ps.length - 1 - k) default) := by simp [List.getD_eq_getElem?_getD, hkl]
    have hNk := (hp _ _ hpk).lays ho hlays
    have hmem : t.ps.getD (t.ps.length - 1 - k) default ∈ t.ps := List.mem_of_getElem? hpk
    have hihk := Hih.out _ hmem
    have hlk : (layF (t.ps.getD (t.ps.length - 1 - k) default) (rowF (t.ps.drop (t.ps.length - k)) tu l).1 (rowF (t.ps.drop (t.ps.length - k)) tu l).2).2.length ≤ 1000000 := by
      rw [← HR k hk]
      exact Nat.le_trans (rowF_drop _ _ _ _) Hlen.out
    have HRk := Lib.hid (HR k hk)
    unfold encN
    generalize As (t.ps.length - 1 - k) = Ak at *
    generalize cs (t.ps.length - 1 - k) = ck at *
    generalize t.ps.getD (t.ps.length - 1 - k) default = p at *
    have Hihk := Lib.hid hihk
    clear hihk HR hp hcell hpk Hih
    gi_wp2
    have hbW : Below W.heap.size W (W.alloc (.cells #[.int .i64 p.k, .int .u64 p.s0, .int .u64 p.s1, .int .u64 p.s2, .int .u64 p.s3, .int .i64 p.mn, .int .i64 p.mx, .slice Ak p.ps.length ck] 39)) := (Below.refl _ _).alloc (Nat.le_refl _) _
    refine ⟨(KeepsOthers.alloc _ _).from _, fun x hx o' => hbW.cell (p := ⟨x, o', none⟩) (by show x < _; rcases hx with rfl | rfl <;> omega), fun W2 hg2 => ?_⟩
    have hP : At8 (W.alloc (.cells #[.int .i64 p.k, .int .u64 p.s0, .int .u64 p.s1, .int .u64 p.s2, .int .u64 p.s3, .int .i64 p.mn, .int .i64 p.mx, .slice Ak p.ps.length ck] 39)) W.heap.size 0 p Ak ck := by constructor <;> simp [go_sem]
    obtain ⟨q0, q1, q2, q3, q4, q5, q6, q7⟩ := (⟨(hg2.cell hP.f0).1, (hg2.cell hP.f1).1, (hg2.cell hP.f2).1, (hg2.cell hP.f3).1, (hg2.cell hP.f4).1, (hg2.cell hP.f5).1, (hg2.cell hP.f6).1, (hg2.cell hP.f7).1⟩ : At8 W2 W.heap.size 0 p Ak ck)
    simp only [Nat.zero_add] at q1 q2 q3 q4 q5 q6 q7
    have hmw' : Moves w v v' := by
      rcases hm' with h | ⟨y, hy, hle⟩
      · exact .inl h
      · exact .inr ⟨y, hy, by omega⟩
    have hLW := hL'.later hbW
    have hL2 := hLW.gb hg2
    have hlays2 := (hlays.trans hmw' (Lays.of_below hbW)).gb hg2 (show w.heap.size ≤ W0.heap.size by omega)
    have k0 := (hg2.cell ((hbW.cell (p := ⟨w.heap.size, 0, none⟩) (show w.heap.size < W.heap.size by omega)).trans d0)).1
    have k2 := (hg2.cell ((hbW.cell (p := ⟨w.heap.size + 2, 0, none⟩) (show w.heap.size + 2 < W.heap.size by omega)).trans d2)).1
    have j2 : W2.frozen? ⟨w.heap.size + 2, 0, none⟩ = false := (hg2.cell ((hbW.cell (p := ⟨w.heap.size + 2, 0, none⟩) (show w.heap.size + 2 < W.heap.size by omega)).trans d2)).2.trans ((hbW.frozen (p := ⟨w.heap.size + 2, 0, none⟩) (show w.heap.size + 2 < W.heap.size by omega)).trans g2)
    have hz2 : W.heap.size + 1 ≤ W2.heap.size := by have := hg2.size; simpa using this
    have hNk2 := hNk.later hbW (fun x hx => Nat.lt_of_lt_of_le (ho x hx).1 hlays.size)
    have hok2 : OkL W2 L v' ok := fun x hx => by
      obtain ⟨a1, a2, a3⟩ := ho x hx
      refine ⟨by omega, a2, fun e => ?_⟩
      rcases hm' with hm' | ⟨y, hy, hle⟩
      · exact a3 (e.trans hm')
      · rw [hy] at e; injection e with e; omega
    have hNk3 : NodeAt W2 ok p Ak ck := hNk2.mono fun x hx => ⟨hx, fun o' => by
      have hxz : x < (W.alloc (.cells #[.int .i64 p.k, .int .u64 p.s0, .int .u64 p.s1, .int .u64 p.s2, .int .u64 p.s3, .int .i64 p.mn, .int .i64 p.mx, .slice Ak p.ps.length ck] 39)).heap.size := by have := (ho x hx).1; simp; omega
      have hk1 := Array.getElem?_eq_getElem hxz
      exact World.cell?_of_block (a := ⟨x, o', none⟩) ((hg2.keep x _ hk1 (.inl (by have := (ho x hx).1; omega))).trans hk1.symm)⟩
    gi_wp2
    refine ⟨trivial, (CallsIn.inRound l0 (callsIn_wide.2 (Hihk.out W2 ok Ak ck L base v' _ _ hNk3 hok2 hL2 hlk))).mono ?_⟩
    rintro e W3 ⟨rfl, v3, hL3, hm3, hl3⟩
    have hBt : w.heap.size + 2 < W2.heap.size ∧ w.heap.size + 2 ≠ L ∧ some (w.heap.size + 2) ≠ v'.ownBlock := ⟨by omega, by omega, hmv v' hm' _ (by omega) (by omega)⟩
    have hBl : w.heap.size < W2.heap.size ∧ w.heap.size ≠ L ∧ some w.heap.size ≠ v'.ownBlock := ⟨by omega, by omega, hmv v' hm' _ (by omega) (by omega)⟩
    have r0 := (hl3.cell (o := 0) hBl.1 hBl.2.1 hBl.2.2).trans k0
    have r2 := (hl3.cell (o := 0) hBt.1 hBt.2.1 hBt.2.2).trans k2
    have i2 := (hl3.frozen (o := 0) hBt.1 hBt.2.1 hBt.2.2).trans j2
    have hm4 : Moves W0 v v3 := hm'.trans (by omega) hm3
    have hl4 := hlays2.trans hmw' hl3
    have hBt3 := hmv v3 hm4 (w.heap.size + 2) (by omega) (by omega)
    have hz3 := hl3.size
    gi_wp2
    refine ⟨rfl, ?_, ?_, v3, ?_, hm4, hl4.setNew (by omega) _, ?_, ?_, ?_⟩
    · exact (hl3.keepsFrom hL2 _).trans ((KeepsOthers.setCell _ _ _).from _)
    · intro x hx o'
      have hx1 : x ≠ w.heap.size + 2 := by rcases hx with rfl | rfl <;> omega
      rw [World.cell?_setCell_other _ _ _ _ (by intro e; injection e with e; omega)]
      refine hl3.cell (by rcases hx with rfl | rfl <;> omega) ?_ ?_
      · rcases hx with rfl | rfl
        · exact (ho _ hb).2.1
        · omega
      · rcases hx with rfl | rfl
        · exact (hok2 _ hb).2.2
        · exact hmv v' hm' _ (by omega) (by omega)
    · rw [HRk.out]; exact hL3.setOther (by omega) hBt3 _
    · rw [World.cell?_setCell_other _ _ _ _ (by intro e; injection e with e; omega)]; exact r0
    · rw [HRk.out]; exact World.cell?_setCell_same _ _ _ r2
    · rw [World.frozen?_setCell]; exact i2
  case hdone =>
    rintro D W hD ⟨v', h1, h2, h3, h4, h5, h6⟩ hK
    rw [Nat.sub_self, List.drop_zero] at h1 h5
    gi_wp2
    refine ⟨by simp, .inl ⟨_, _, rfl, run_takeDeferred hK, ?_⟩⟩
    have hg : GB W0.heap.size W (W.putObj D (.deferred none)) := GB.put _ hK rfl hD
    refine ⟨_, results_tmp rfl _ _ _, ?_⟩
    rw [Hrow.out]
    exact ⟨rfl, v', h1.gb hg, (by
      rcases h2 with h | ⟨y, hy, hle⟩
      · exact .inl h
      · exact .inr ⟨y, hy, by omega⟩), h3.gb hg (by omega)⟩
end Go.Proofs.YteekafkpeimhoaaGreat

/- The walk of nfa's layer: choice. -/
set_option linter.unusedVariables false
set_option linter.unusedSimpArgs false
namespace Go.Proofs.YteekafkpeimhoaaGreat
open Go.RowKit Go.Shelf
attribute [local go_sem] Oper.semAt_some


def ivl (x : Int) : Value := .int .i64 x
/-- Two rows of different elements share no block. -/
theorem own_ne {w : World} {b b' : Nat} {e e' : TypeId} {s s' n n' : Nat} {v v' : Value} {xs xs' : List Value} (h : w.ownsRow b e s v n xs) (h' : w.ownsRow b' e' s' v' n' xs') (hne : e ≠ e') {g : Nat} (h1 : v.ownBlock = some g) (h2 : v'.ownBlock = some g) : False := by
  rcases h.2 with ⟨rfl, _⟩ | ⟨x, cap, cur, rfl, _, hh, _⟩
  · simp [Value.ownBlock] at h1
  · rcases h'.2 with ⟨rfl, _⟩ | ⟨x', cap', cur', rfl, _, hh', _⟩
    · simp [Value.ownBlock] at h2
    · simp only [Value.ownBlock, Option.some.injEq] at h1 h2
      subst h1
      subst h2
      rw [hh] at hh'
      injection hh' with hh'
      injection hh' with _ ht
      exact hne ht
theorem Lays.own {L : Nat} {w w' : World} {b e s n : Nat} {v v7 : Value} {xs : List Value} {base : Nat} {l : List St} (h : Lays L v.ownBlock w w') (hL : Layer w L base v l) (ho : w.ownsRow b e s v7 n xs) (he : e ≠ 45) (hb : L < b) : w'.ownsRow b e s v7 n xs := by
  refine ⟨ho.1, ?_⟩
  rcases ho.2 with h0 | ⟨g, cap, cur, rfl, hbg, hg, rest⟩
  · exact .inl h0
  · refine .inr ⟨g, cap, cur, rfl, hbg, ?_, rest⟩
    rw [h.block g (Array.getElem?_eq_some_iff.1 hg).1 (by omega) (fun e' => own_ne ho hL.own he (by rfl) e'.symm)]
    exact hg
theorem Layer.grown {w w' : World} {L base : Nat} {v v7 : Value} {l : List St} (h : Layer w L base v l) {b e s n : Nat} {xs : List Value} (ho : w.ownsRow b e s v7 n xs) (he : e ≠ 45) (hb : L < b) (hg : w.grownBy w' v7.ownBlock) : Layer w' L base v l := by
  have h1 : some L ≠ v7.ownBlock := fun e' => by have := (ho.lt L e'.symm).1; omega
  have hL := h.lt
  refine ⟨hg.cell h.cell h1, (World.frozen?_of_block (w := w) (a := ⟨L, 0, none⟩) (hg.block L hL h1)).trans h.froz, h.own.kept hg ?_, h.ne, Nat.le_trans h.base hg.size⟩
  cases hv : v.ownBlock with
  | none => exact .inl rfl
  | some g => exact .inr fun e' => own_ne ho h.own he e'.symm hv
theorem Lays.grownNew {w W W1 : World} {L : Nat} {r row : Option Nat} (h : Lays L r w W) (hg : W.grownBy W1 row) (hr : ∀ g, row = some g → w.heap.size ≤ g) : Lays L r w W1 :=
  ⟨hg.os.trans h.os, hg.tape.trans h.tape, hg.output.trans h.output, Nat.le_trans h.size hg.size, fun k hk h1 h2 => (hg.block k (Nat.lt_of_lt_of_le hk h.size) (fun e => by have := hr k e.symm; omega)).trans (h.block k hk h1 h2)⟩
theorem Moves.older {w W : World} {v v' : Value} (h : Moves W v v') (hz : w.heap.size ≤ W.heap.size) : Moves w v v' := by
  rcases h with h | ⟨y, hy, hle⟩
  · exact .inl h
  · exact .inr ⟨y, hy, by omega⟩
theorem ownBlock_ge {w : World} {b e s n : Nat} {v : Value} {xs : List Value} (ho : w.ownsRow b e s v n xs) {g : Nat} (h : v.ownBlock = some g) : b ≤ g ∧ g < w.heap.size := ho.lt g h
theorem splits_step (bs : List Int) (l : List St) (k : Nat) (hk : k + 1 < bs.length) :
    splitsF (bs.drop (bs.length - 1 - (k + 1))) l = (((splitsF (bs.drop (bs.length - 1 - k)) l).2.length : Int), (splitsF (bs.drop (bs.length - 1 - k)) l).2 ++ [splitS (bs.getD (bs.length - 1 - 1 - k) 0) (splitsF (bs.drop (bs.length - 1 - k)) l).1]) := by
  have h1 : bs.length - 1 - (k + 1) < bs.length := by omega
  rw [List.drop_eq_getElem_cons h1, show bs.length - 1 - (k + 1) + 1 = bs.length - 1 - k by omega]
  have h2 : 0 < (bs.drop (bs.length - 1 - k)).length := by rw [List.length_drop]; omega
  cases hd : bs.drop (bs.length - 1 - k) with
  | nil => rw [hd] at h2; simp at h2
  | cons y ys =>
    rw [splitsF]
    · have : bs.getD (bs.length - 1 - 1 - k) 0 = bs[bs.length - 1 - (k + 1)] := by
        rw [show bs.length - 1 - 1 - k = bs.length - 1 - (k + 1) by omega]
        simp [List.getD_eq_getElem?_getD, h1]
      rw [this]
    · simp
theorem splits_zero (bs : List Int) (l : List St) (h : 0 < bs.length) : splitsF (bs.drop (bs.length - 1 - 0)) l = (bs.getD (bs.length - 1) 0, l) := by
  have h1 : bs.length - 1 < bs.length := by omega
  rw [Nat.sub_zero, List.drop_eq_getElem_cons h1, List.drop_of_length_le (by omega), splitsF]
  simp [List.getD_eq_getElem?_getD, h1]
theorem splits_drop_len (bs : List Int) (l : List St) (j : Nat) : (splitsF (bs.drop j) l).2.length ≤ (splitsF bs l).2.length := by
  rw [splitsF_len, splitsF_len, List.length_drop]; omega

/-- Between two rounds of choice's second loop. -/
def ChI (bs : List Int) (w W0 : World) (L base Bx : Nat) (v vb : Value) (l : List St) (k : Nat) (W : World) : Prop :=
  ∃ v', Layer W L base v' (splitsF (bs.drop (bs.length - 1 - k)) l).2 ∧ Moves W0 vb v' ∧ Lays L v.ownBlock w W ∧ W.cell? ⟨w.heap.size, 0, none⟩ = some (.pointer (some ⟨L, 0, none⟩)) ∧ W.cell? ⟨Bx, 0, none⟩ = some (.int .i64 (splitsF (bs.drop (bs.length - 1 - k)) l).1) ∧ W.frozen? ⟨Bx, 0, none⟩ = false

set_option maxRecDepth 100000 in
set_option maxHeartbeats 2000000 in
theorem choice_any (t : T) (hk : t.k = 5) (hr : rightF t = true) (ih : ∀ p ∈ t.ps, LayAt 21 p) : LayAt 54 t := by
  intro w ok A c L base v l tu hN ho hL hlen
  have hps1 : 2 ≤ t.ps.length := by rcases right_cases hr with h | h | h | h | h | h | h <;> omega
  have hch : layF t tu l = splitsF (begF t.ps tu l).1 (begF t.ps tu l).2 := by rw [layF_eq]; simp [hk]
  have hll := hN.len
  cases hN with
  | mk _ _ _ As cs hcap _ ha hp =>
  obtain ⟨b, o, rfl, hb, hcell⟩ := ha (fun e => by simp [e] at hps1)
  rw [hch] at hlen
  have hl2 : (begF t.ps tu l).2.length ≤ 1000000 := by rw [splitsF_len] at hlen; omega
  have Hch := Lib.hid hch; have Hlen := Lib.hid hlen; have Hih := Lib.hid ih; have Hp := Lib.hid hp; have Hcell := Lib.hid hcell
  have Hbl := Lib.hid (begF_len t.ps tu l)
  clear hch hk hlen ih hp hcell ha
  have hLlt := hL.lt
  have hblt := (ho b hb).1
  refine (callsIn_wide (n := 3)).1 ?_
  refine callsIn_of_wp_marks Tryz.func54 rfl trivial ?_ rfl
  refine wpIn_wide.2 ?_
  simp only [Tryz.ntmps54, List.size_toArray, List.length_cons, List.length_nil, Nat.reduceAdd, Nat.reduceSub, Array.replicate_succ, Array.replicate_zero, List.push_toArray, List.append_toArray, List.nil_append, List.cons_append]
  go_wp2_with fail
  generalize hW : (w.alloc _).alloc _ = W0
  have hb0 : Below w.heap.size w W0 := by subst hW; exact ((Below.refl _ _).alloc (Nat.le_refl _) _).alloc (by simp) _
  have hz0 : w.heap.size + 2 ≤ W0.heap.size := by subst hW; simp
  have c0 : W0.cell? ⟨w.heap.size, 0, none⟩ = some (.pointer (some ⟨L, 0, none⟩)) := by subst hW; simp [go_sem]
  clear hW
  have hL0 := hL.later hb0
  go_loopg [7, 17] (t.ps.length) (fun n sv iv wr => ∃ (j : Nat) (bs : List Int) (v' : Value) (l' : List St), iv = .int .i64 j ∧ j + n = t.ps.length ∧ bs.length = j ∧ bs ++ (begF (t.ps.drop j) tu l').1 = (begF t.ps tu l).1 ∧ (begF (t.ps.drop j) tu l').2 = (begF t.ps tu l).2 ∧
    Layer wr L base v' l' ∧ Moves W0 v v' ∧ Lays L v.ownBlock W0 wr ∧ wr.ownsRow W0.heap.size 3 1 sv bs.length (bs.map ivl))
  case atStart => exact ⟨0, [], v, l, rfl, by omega, rfl, rfl, rfl, hL0, Moves.refl _ _, Lays.refl _ _ _, World.ownsRow_nil _ _ _ _⟩
  case round =>
    obtain ⟨j, bs, v', l', rfl, hj, hbs, hq1, hq2, hLr, hmr, hlr, hor⟩ := hrel
    have hlw : Lays L v.ownBlock w wr := (Lays.of_below hb0).trans (Moves.refl w v) hlr
    have hmw := hmr.older (show w.heap.size ≤ W0.heap.size by omega)
    have hzr := hlr.size
    have hno : ∀ (v'' : Value) (W : World), Moves W v v'' → ∀ j, w.heap.size ≤ j → j < W.heap.size → some j ≠ v''.ownBlock := fun v'' W hm j h1 h2 e => by
      rcases hm with hm | ⟨x, hx, hle⟩
      · have := (hL.own.lt _ (e.trans hm).symm).2; omega
      · rw [hx] at e; injection e with e; omega
    have k0 := (hlr.cell (o := 0) (show w.heap.size < W0.heap.size by omega) (by omega) (by intro e; have := (hL.own.lt _ e.symm).2; omega)).trans c0
    have hzz : w.heap.size < wr.heap.size := by omega
    have Hq1 := Lib.hid hq1; have Hq2 := Lib.hid hq2; have Hbs := Lib.hid hbs
    clear hq1 hq2 hbs c0
    by_cases hlt : j < t.ps.length
    · have hpj := List.getElem?_eq_getElem hlt
      have hNj := (Hp.out j _ hpj).lays ho hlw
      obtain ⟨f0, f1, f2, f3, f4, f5, f6, f7⟩ := (Hcell.out j _ hpj).mono (w' := wr) (fun o' => hlw.cell hblt (ho b hb).2.1 (ho b hb).2.2)
      have hihj := Hih.out _ (List.getElem_mem hlt)
      have hbstep : begF (t.ps.drop j) tu l' = ((layF t.ps[j] tu l').1 :: (begF (t.ps.drop (j + 1)) tu (layF t.ps[j] tu l').2).1, (begF (t.ps.drop (j + 1)) tu (layF t.ps[j] tu l').2).2) := by rw [drop_cons hlt, begF]
      have hst : (layF t.ps[j] tu l').2.length ≤ 1000000 := by
        have h1 := begF_grows (t.ps.drop (j + 1)) (fun p _ => layF_grows p) tu (layF t.ps[j] tu l').2
        have h2 := Hq2.out
        rw [hbstep] at h2
        simp only at h2
        rw [h2] at h1
        omega
      have Hbstep := Lib.hid hbstep; clear hbstep hpj
      generalize t.ps[j] = p at *
      generalize As j = Aj at *
      generalize cs j = cj at *
      have Hihj := Lib.hid hihj; clear hihj
      have hokr : OkL wr L v' ok := ho.later hlw.size hmw
      obtain ⟨A7, c7, rfl⟩ : ∃ A7 c7, u7 = .slice A7 bs.length c7 := by
        rcases hor.2 with ⟨rfl, h0⟩ | ⟨g, cap, cur, rfl, _⟩
        · exact ⟨none, 0, by rw [h0]⟩
        · exact ⟨_, cap, rfl⟩
      go_wp2_with fail
      refine (Hihj.out _ ok Aj cj L base v' l' tu (hNj.alloc (fun x hx => (hokr x hx).1) _) (hokr.alloc _) (hLr.alloc _) hst).mono ?_
      rintro e w1 ⟨rfl, v1, hL1, hm1, hl1⟩
      have hor1 := hl1.own (hLr.alloc _) (hor.alloc _) (by decide) (by omega)
      have hz1 := hl1.size
      simp only [World.size_alloc] at hz1
      have hm1' : Moves W0 v v1 := hmr.trans (by simp; omega) hm1
      have hl1' : Lays L v.ownBlock W0 w1 := (hlr.trans hmr (Lays.alloc _ _ _ _)).trans hmr hl1
      have hbl7 : bs.length + 1 ≤ 17592186044416 := by have := Hbs.out; omega
      go_wp2_with (at_builtin; refine wpList_append_at W0.heap.size rfl (.tmp 21) (.tmp 26) 61 3 _ 1 8 rfl Tryz.underlying61 Tryz.infoInt rfl (by omega) (by omega) (.slice A7 bs.length c7) bs.length 1 (bs.map ivl) [.int .i64 (layF p tu l').1] ⟨w1.heap.size, 0, none⟩ 1 rfl rfl (by omega) rfl (cell_one_new _ _ _) (by intro u hu; simp at hu; subst hu; rfl) (hor1.alloc _) (by simp; omega) (by omega) (fun g cap w2 ho2 hg2 hat2 => ?_))
      have hL2 : Layer w2 L base v1 (layF p tu l').2 := (hL1.alloc _).grown (hor1.alloc _) (by decide) (by omega) hg2
      have hl2' : Lays L v.ownBlock W0 w2 := (hl1'.trans hm1' (Lays.alloc _ _ _ _)).grownNew hg2 (fun g hg => (hor1.lt g hg).1)
      go_wp2_with fail
      go_roundg (gk - 1)
      case measure => omega
      case rel =>
        refine ⟨j + 1, bs ++ [(layF p tu l').1], v1, (layF p tu l').2, by go_num, by omega, by rw [List.length_append, Hbs.out]; rfl, ?_, ?_, hL2, hm1', hl2', ?_⟩
        · have := Hq1.out
          rw [Hbstep.out] at this
          simpa using this
        · have := Hq2.out
          rw [Hbstep.out] at this
          exact this
        · rw [List.length_append, List.map_append]; exact ho2
    · have hgk : t.ps.drop j = [] := List.drop_of_length_le (by omega)
      have hq1 := Hq1.out
      have hq2 := Hq2.out
      rw [hgk, begF, List.append_nil] at hq1
      rw [hgk, begF] at hq2
      simp only at hq1 hq2
      subst hq2
      have hbl : bs.length = t.ps.length := by have := Hbs.out; omega
      obtain ⟨m, hm⟩ : ∃ m, bs.length = m + 1 := ⟨bs.length - 1, by omega⟩
      have hor' := hor
      rw [hm] at hor'
      obtain ⟨g, cap, rfl, hgcap⟩ : ∃ g cap, u7 = .slice (some ⟨g, 0, none⟩) (m + 1) cap ∧ m + 1 ≤ cap := by
        rcases hor'.2 with ⟨rfl, h0⟩ | ⟨g, cap, cur, rfl, _, _, hh, _⟩
        · omega
        · exact ⟨g, cap, rfl, hh⟩
      have hgz := hor'.lt g rfl
      have hcells : ∀ i, i < m + 1 → wr.cell? ⟨g, i, none⟩ = some (.int .i64 (bs.getD i 0)) := fun i hi => by
        have h1 := hor'.cells (g := g) rfl i (ivl (bs.getD i 0)) (by rw [List.getElem?_map, List.getElem?_eq_getElem (by omega)]; simp [List.getD_eq_getElem?_getD, show i < bs.length by omega])
        rwa [show (⟨g, 0, none⟩ : Addr).add i = ⟨g, i, none⟩ by unfold Addr.add; split <;> simp_all] at h1
      have hlast := hcells m (by omega)
      obtain ⟨xl, hxl⟩ : ∃ xl, bs.getD m 0 = xl := ⟨_, rfl⟩
      rw [hxl] at hlast
      have Hxl := Lib.hid hxl; clear hxl
      have Hm := Lib.hid hm; have Hq := Lib.hid hq1; have Hcells := Lib.hid hcells; have Hbl2 := Lib.hid hbl
      have hmz : m + 1 ≤ 17592186044416 := by omega
      have hm1 : 1 ≤ m := by omega
      have hgne : some g ≠ v'.ownBlock := fun e => own_ne hor' hLr.own (by decide) rfl e.symm
      clear hm hq1 hcells hbl hor hor' Hq1 Hq2 Hbs Hih Hp Hcell Hbl hgk
      go_wp2_with fail
      refine (backI_any _ _ _ _).mono ?_
      rintro e w' ⟨rfl, rfl⟩
      go_wp2_with fail
      have hz4 : ((wr.alloc (.cells #[.int .i64 xl] 3)).alloc (.cells #[.slice (some ⟨g, 0, none⟩) m cap] 61)).heap.size = wr.heap.size + 2 := by simp
      generalize hW : (wr.alloc _).alloc _ = W3 at *
      have hz4a : wr.heap.size + 2 ≤ W3.heap.size := by omega
      have hz4b : W3.heap.size ≤ wr.heap.size + 2 := by omega
      clear hz4
      have hbr : Below wr.heap.size wr W3 := by subst hW; exact ((Below.refl _ _).alloc (Nat.le_refl _) _).alloc (by simp) _
      have cx : W3.cell? ⟨wr.heap.size, 0, none⟩ = some (.int .i64 xl) := by subst hW; simp [go_sem]
      have ex : W3.frozen? ⟨wr.heap.size, 0, none⟩ = false := by subst hW; simp [go_sem]
      have cb : W3.cell? ⟨wr.heap.size + 1, 0, none⟩ = some (.slice (some ⟨g, 0, none⟩) m cap) := by subst hW; simp [go_sem]
      clear hW
      have hL3 := hLr.later hbr
      have k3 := (hbr.cell (p := ⟨w.heap.size, 0, none⟩) hzz).trans k0
      have hl3 : Lays L v.ownBlock w W3 := hlw.trans hmw (Lays.of_below hbr)
      have hmg : ∀ (v'' : Value), Moves W3 v' v'' → ∀ i, w.heap.size ≤ i → i < W3.heap.size → some i ≠ v'.ownBlock → some i ≠ v''.ownBlock := fun v'' hm i h1 h2 h3 e => by
        rcases hm with hm | ⟨x, hx, hle⟩
        · exact h3 (e.trans hm)
        · rw [hx] at e; injection e with e; omega
      have hxne : some wr.heap.size ≠ v'.ownBlock := fun e => by have := (hLr.own.lt _ e.symm).2; omega
      have hbne : some (wr.heap.size + 1) ≠ v'.ownBlock := fun e => by have := (hLr.own.lt _ e.symm).2; omega
      have hlne : some w.heap.size ≠ v'.ownBlock := hno v' W0 hmr _ (by omega) (by omega)
      refine (wpIn_wide (n := 3)).1 ?_
      refine wpIn_range_idx rfl (by omega) (gf := 76) (lb := #[.pointer (some ⟨wr.heap.size + 1, 0, none⟩)]) rfl trivial (enters_of Tryz.func76 (by kernel_rfl) rfl) (enc := encI bs m) (N := m) (fun k => rfl)
        (ChI bs w W3 L base wr.heap.size v v' (begF t.ps tu l).2)
        ?hI ?h0 (KeepOn (fun x => x = g ∨ x = wr.heap.size + 1)) (fun W W' h1 h2 => KeepOn.of_gb (by intro x hx; rcases hx with rfl | rfl <;> omega) h1 h2) (fun h k => h.trans k)
        ?hseq ?hround ?hdone
      case hI =>
        rintro k W W' ⟨v1, h1, h2, h3, h4, h5, h6⟩ hg
        exact ⟨v1, h1.gb hg, h2, h3.gb hg (by omega), (hg.cell h4).1, (hg.cell h5).1, (hg.cell h5).2.trans h6⟩
      case h0 =>
        have hsz := splits_zero bs (begF t.ps tu l).2 (by have := Hm.out; omega)
        have hm' : bs.length - 1 = m := by have := Hm.out; omega
        rw [hm', Hxl.out] at hsz
        unfold ChI
        rw [hm', hsz]
        exact ⟨v', hL3, Moves.refl _ _, hl3, k3, cx, ex⟩
      case hseq =>
        intro l0 J W hg hY hJ
        refine backI_seq 2 l0 (wr.heap.size + 1) g 0 cap m bs (by omega) J W (hg.cell cb).1 ?_ hY hJ
        intro i hi
        rw [Nat.zero_add]
        exact (hg.cell ((hbr.cell (p := ⟨g, i, none⟩) hgz.2).trans (Hcells.out i (by omega)))).1
      case hround =>
        intro l0 k W hl0 hzW hk hIk
        obtain ⟨v1, hL1, hm1', hlays, d0, dx, gx⟩ := hIk
        have hm' : bs.length - 1 = m := by have := Hm.out; omega
        have hstep := splits_step bs (begF t.ps tu l).2 k (by omega)
        rw [hm'] at hstep hL1 dx
        have hlk : (splitsF (bs.drop (m - k)) (begF t.ps tu l).2).2.length ≤ 1000000 := by
          have h1 := splits_drop_len bs (begF t.ps tu l).2 (m - k)
          have h2 := Hlen.out
          rw [← Hq.out] at h2
          omega
        have Hstep := Lib.hid hstep; have Hm' := Lib.hid hm'; clear hstep hm'
        unfold encI
        generalize bs.getD (m - 1 - k) 0 = bk at *
        generalize hs1 : splitsF (bs.drop (m - k)) (begF t.ps tu l).2 = sk at *
        have Hs1 := Lib.hid hs1; clear hs1
        gi_wp2
        refine ⟨KeepsFrom.refl _ _, KeepOn.refl _ _, fun W2 hg2 => ?_⟩
        have hL2 := hL1.gb hg2
        have hlays2 := hlays.gb hg2 (show w.heap.size ≤ W3.heap.size by omega)
        have q0 := (hg2.cell d0).1
        have qx := (hg2.cell dx).1
        have jx := (hg2.cell dx).2.trans gx
        have hz2 := hg2.size
        have hmw1 : Moves w v v1 := hmw.trans (by omega) (hm1'.older (by omega) : Moves wr v' v1)
        gi_wp2
        refine ⟨trivial, (CallsIn.inRound l0 (callsIn_wide.2 (state_any W2 L base v1 sk.2 (splitS bk sk.1) hL2 hlk))).mono ?_⟩
        rintro e W4 ⟨rfl, v4, hL4, hm4, hl4⟩
        have hBx : wr.heap.size < W2.heap.size ∧ wr.heap.size ≠ L ∧ some wr.heap.size ≠ v1.ownBlock := ⟨by omega, by omega, hmg v1 hm1' _ (by omega) (by omega) hxne⟩
        have hBl : w.heap.size < W2.heap.size ∧ w.heap.size ≠ L ∧ some w.heap.size ≠ v1.ownBlock := ⟨by omega, by omega, hmg v1 hm1' _ (by omega) (by omega) hlne⟩
        have r0 := (hl4.cell (o := 0) hBl.1 hBl.2.1 hBl.2.2).trans q0
        have rx := (hl4.cell (o := 0) hBx.1 hBx.2.1 hBx.2.2).trans qx
        have ix := (hl4.frozen (o := 0) hBx.1 hBx.2.1 hBx.2.2).trans jx
        have hm5 : Moves W3 v' v4 := hm1'.trans (by omega) hm4
        have hl5 := hlays2.trans hmw1 hl4
        have hBx4 := hmg v4 hm5 wr.heap.size (by omega) (by omega) hxne
        have hz4 := hl4.size
        gi_wp2
        have hm2 := Hm'.out
        refine ⟨rfl, ?_, ?_, v4, ?_, hm5, hl5.setNew (by omega) _, ?_, ?_, ?_⟩
        · exact (hl4.keepsFrom hL2 _).trans ((KeepsOthers.setCell _ _ _).from _)
        · intro x hx o'
          have hx1 : x ≠ wr.heap.size := by rcases hx with rfl | rfl <;> omega
          rw [World.cell?_setCell_other _ _ _ _ (by intro e; injection e with e; omega)]
          refine hl4.cell (by rcases hx with rfl | rfl <;> omega) ?_ ?_
          · rcases hx with rfl | rfl <;> omega
          · rcases hx with rfl | rfl
            · exact hmg v1 hm1' _ (by omega) (by omega) hgne
            · exact hmg v1 hm1' _ (by omega) (by omega) hbne
        · rw [hm2, Hstep.out]; exact hL4.setOther (by omega) hBx4 _
        · rw [World.cell?_setCell_other _ _ _ _ (by intro e; injection e with e; omega)]; exact r0
        · rw [hm2, Hstep.out]; exact World.cell?_setCell_same _ _ _ rx
        · rw [World.frozen?_setCell]; exact ix
      case hdone =>
        rintro D W hD ⟨v1, h1, h2, h3, h4, h5, h6⟩ hK
        rw [show bs.length - 1 - m = 0 by have := Hm.out; omega, List.drop_zero, Hq.out, ← Hch.out] at h1 h5
        go_wp2_with fail
        refine ⟨by simp, .inl ⟨_, _, rfl, run_takeDeferred hK, ?_⟩⟩
        have hg : GB W3.heap.size W (W.putObj D (.deferred none)) := GB.put _ hK rfl hD
        refine ⟨_, results_tmp rfl _ _ _, ?_⟩
        exact ⟨rfl, v1, h1.gb hg, hmw.trans (by omega) (h2.older (by omega) : Moves wr v' v1), h3.gb hg (by omega)⟩
end Go.Proofs.YteekafkpeimhoaaGreat

/- vouchref11: the layer's lay: walked. -/
set_option linter.unusedVariables false
set_option linter.unusedSimpArgs false
namespace Go.Proofs.YteekafkpeimhoaaGreat
open Go.RowKit

theorem own_hno {L base : Nat} {v : Value} {l : List St} {w : World} (hL : Layer w L base v l) : ∀ j, w.heap.size ≤ j → some j ≠ v.ownBlock := fun j hj e => by have := (hL.own.lt _ e.symm).2; omega

set_option maxRecDepth 100000 in
set_option maxHeartbeats 400000 in
theorem rlay_0 (t : T) (hk : t.k = 0) : LayAt 30 t := by
  intro w ok A c L base v l tu hN ho hL hlen
  have hr : layF t tu l = (tu, l) := by rw [layF_eq]; simp [hk]
  have Hr := Lib.hid hr; clear hr
  go_enter Tryz.func30, Tryz.ntmps30
  go_wp2_with fail
  go_ret
  rw [Hr.out]
  exact ⟨rfl, v, hL.alloc _, Moves.refl _ _, Lays.alloc _ _ _ _⟩

set_option maxRecDepth 100000 in
set_option maxHeartbeats 400000 in
theorem rlay_1 (t : T) (hk : t.k = 1) : LayAt 30 t := by
  intro w ok A c L base v l tu hN ho hL hlen
  have hr : layF t tu l = ((l.length : Int), l ++ [⟨1, t.s0, t.s1, t.s2, t.s3, tu, 0⟩]) := by rw [layF_eq]; simp [hk]
  rw [hr] at hlen
  have Hr := Lib.hid hr; clear hr
  simp only [List.length_append, List.length_cons, List.length_nil] at hlen
  go_enter Tryz.func30, Tryz.ntmps30
  go_wp2_with fail
  refine (rstate_any _ L base v l ⟨1, t.s0, t.s1, t.s2, t.s3, tu, 0⟩ (hL.alloc _) (by omega)).mono ?_
  rintro e w1 ⟨rfl, v1, hL1, hm1, hl1⟩
  go_wp2_with fail
  go_ret
  rw [Hr.out]
  exact ⟨rfl, v1, hL1, (Moves.refl w v).trans (by simp) hm1, (Lays.alloc _ _ _ _).trans (Moves.refl _ _) hl1⟩

set_option maxRecDepth 100000 in
set_option maxHeartbeats 400000 in
theorem rlay_23 (t : T) (hk : t.k = 2 ∨ t.k = 3) : LayAt 30 t := by
  intro w ok A c L base v l tu hN ho hL hlen
  rcases hk with hk | hk
  · have hr : layF t tu l = ((l.length : Int), l ++ [⟨3, 0, 0, 0, 0, tu, 0⟩]) := by rw [layF_eq]; simp [hk]
    rw [hr] at hlen
    have Hr := Lib.hid hr; clear hr
    simp only [List.length_append, List.length_cons, List.length_nil] at hlen
    go_enter Tryz.func30, Tryz.ntmps30
    go_wp2_with fail
    refine (rstate_any _ L base v l ⟨3, 0, 0, 0, 0, tu, 0⟩ (hL.alloc _) (by omega)).mono ?_
    rintro e w1 ⟨rfl, v1, hL1, hm1, hl1⟩
    go_wp2_with fail
    go_ret
    rw [Hr.out]
    exact ⟨rfl, v1, hL1, (Moves.refl w v).trans (by simp) hm1, (Lays.alloc _ _ _ _).trans (Moves.refl _ _) hl1⟩
  · have hr : layF t tu l = ((l.length : Int), l ++ [⟨4, 0, 0, 0, 0, tu, 0⟩]) := by rw [layF_eq]; simp [hk]
    rw [hr] at hlen
    have Hr := Lib.hid hr; clear hr
    simp only [List.length_append, List.length_cons, List.length_nil] at hlen
    go_enter Tryz.func30, Tryz.ntmps30
    go_wp2_with fail
    refine (rstate_any _ L base v l ⟨4, 0, 0, 0, 0, tu, 0⟩ (hL.alloc _) (by omega)).mono ?_
    rintro e w1 ⟨rfl, v1, hL1, hm1, hl1⟩
    go_wp2_with fail
    go_ret
    rw [Hr.out]
    exact ⟨rfl, v1, hL1, (Moves.refl w v).trans (by simp) hm1, (Lays.alloc _ _ _ _).trans (Moves.refl _ _) hl1⟩

set_option maxRecDepth 100000 in
set_option maxHeartbeats 400000 in
theorem rlay_6 (t : T) (hk : t.k = 6) (h : LayAt 45 t) : LayAt 30 t := by
  intro w ok A c L base v l tu hN ho hL hlen
  have Hlen := Lib.hid hlen; have H := Lib.hid h; clear hlen h
  have Hk := Lib.hid hk
  have e : nodeV t A c = .agg #[.int .i64 6, .int .u64 t.s0, .int .u64 t.s1, .int .u64 t.s2, .int .u64 t.s3, .int .i64 t.mn, .int .i64 t.mx, .slice A t.ps.length c] := by simp [nodeV, hk]
  have hcall := H.out (w.alloc (.cells #[.int .i64 6, .int .u64 t.s0, .int .u64 t.s1, .int .u64 t.s2, .int .u64 t.s3, .int .i64 t.mn, .int .i64 t.mx, .slice A t.ps.length c] 39)) ok A c L base v l tu (hN.alloc (fun b hb => (ho b hb).1) _) (ho.alloc _) (hL.alloc _) Hlen.out
  rw [e] at hcall
  rw [e]
  have Hcall := Lib.hid hcall; clear hcall hk e
  go_enter Tryz.func30, Tryz.ntmps30
  go_wp2_with fail
  refine Hcall.out.mono ?_
  rintro e w1 ⟨rfl, v1, hL1, hm1, hl1⟩
  go_wp2_with fail
  go_ret
  exact ⟨rfl, v1, hL1, (Moves.refl w v).trans (by simp) hm1, (Lays.alloc _ _ _ _).trans (Moves.refl _ _) hl1⟩

/-- The loop over a row, the last part first. -/
def RRowI (t : T) (W0 : World) (L base : Nat) (v : Value) (tu : Int) (l : List St) (n : Nat) (tv iv : Value) (wr : World) : Prop :=
  ∃ (x : Int) (v' : Value), iv = .int .i64 x ∧ x = (n : Int) - 1 ∧ n ≤ t.ps.length ∧ tv = .int .i64 (rowF (t.ps.drop n) tu l).1 ∧ Layer wr L base v' (rowF (t.ps.drop n) tu l).2 ∧ Moves W0 v v' ∧ Lays L v.ownBlock W0 wr

set_option maxRecDepth 100000 in
set_option maxHeartbeats 2000000 in
theorem rlay_4 (t : T) (hk : t.k = 4) (ih : ∀ p ∈ t.ps, LayAt 30 p) : LayAt 30 t := by
  intro w ok A c L base v l tu hN ho hL hlen
  have hrow : layF t tu l = rowF t.ps tu l := by rw [layF_eq]; simp [hk]
  have hll := hN.len
  have hcc := hN.cap
  rw [hrow] at hlen
  have Hrow := Lib.hid hrow; have Hlen := Lib.hid hlen; have Hih := Lib.hid ih
  clear hrow hlen ih
  have hLlt := hL.lt
  go_enter Tryz.func30, Tryz.ntmps30
  go_wp2_with fail
  clear hk
  generalize hW : w.alloc _ = W0
  have hb0 : Below w.heap.size w W0 := by subst hW; exact ((Below.refl _ _).alloc (Nat.le_refl _) _)
  have hz0 : w.heap.size < W0.heap.size := by subst hW; simp
  have c7 : W0.cell? ⟨w.heap.size, 7, none⟩ = some (.slice A t.ps.length c) := by subst hW; simp [go_sem]
  clear hW
  have hL0 := hL.later hb0
  have hno := own_hno hL
  have hlw0 : Lays L v.ownBlock w W0 := Lays.of_below hb0
  have ho0 : OkL W0 L v ok := ho.later hb0.size (Moves.refl _ _)
  have hN0 := hN.later hb0 (fun b hb => (ho b hb).1)
  go_loopg [2, 7] (t.ps.length) (fun n tv iv wr => RRowI t W0 L base v tu l n tv iv wr)
  case atStart => exact ⟨_, v, rfl, rfl, Nat.le_refl _, by rw [List.drop_of_length_le (Nat.le_refl _), rowF], by rw [List.drop_of_length_le (Nat.le_refl _), rowF]; exact hL0, Moves.refl _ _, Lays.refl _ _ _⟩
  case round =>
    obtain ⟨x, v', rfl, hx, hn, rfl, hLr, hmr, hlr⟩ := hrel
    have hor := ho0.later hlr.size hmr
    have hNr := hN0.lays ho0 hlr
    have hzr := hlr.size
    have k7 := (hlr.cell (o := 7) hz0 (by omega) (hno _ (Nat.le_refl _))).trans c7
    by_cases hlt : 0 < gk
    · obtain ⟨i, rfl⟩ : ∃ i, gk = i + 1 := ⟨gk - 1, by omega⟩
      obtain rfl : x = (i : Int) := by omega
      clear hx
      have hi : i < t.ps.length := by omega
      obtain ⟨b, o, rfl, hb, hcell⟩ := hNr.part (by omega)
      obtain ⟨A', c', h8, hNj⟩ := hcell i hi
      obtain ⟨f0, f1, f2, f3, f4, f5, f6, f7⟩ := h8
      have hstep : rowF (t.ps.drop i) tu l = layF t.ps[i] (rowF (t.ps.drop (i + 1)) tu l).1 (rowF (t.ps.drop (i + 1)) tu l).2 := by rw [drop_cons hi, rowF]
      have hst : (rowF (t.ps.drop i) tu l).2.length ≤ 1000000 := Nat.le_trans (rowF_drop _ _ _ _) Hlen.out
      have hihj := Hih.out _ (List.getElem_mem hi)
      generalize t.ps[i] = p at *
      have Hihj := Lib.hid hihj; have Hstep := Lib.hid hstep; clear hihj hstep hcell
      go_wp2_with fail
      refine (Hihj.out _ ok A' c' L base v' _ _ hNj hor hLr (by rw [← Hstep.out]; exact hst)).mono ?_
      rintro e w1 ⟨rfl, v1, hL1, hm1, hl1⟩
      rw [← Hstep.out] at hL1 ⊢
      go_wp2_with fail
      go_roundg i
      case measure => omega
      case rel => exact ⟨_, v1, rfl, by omega, by omega, rfl, hL1, hmr.trans hzr hm1, hlr.trans hmr hl1⟩
    · obtain rfl : gk = 0 := by omega
      obtain rfl : x = -1 := by omega
      clear hx hlt
      rw [List.drop_zero, ← Hrow.out] at hLr ⊢
      go_wp2_with fail
      go_ret
      exact ⟨rfl, v', hLr, (Moves.refl w v).trans hb0.size hmr, hlw0.trans (Moves.refl _ _) hlr⟩
end Go.Proofs.YteekafkpeimhoaaGreat

/- vouchref11: the layer's lay at a choice; lay as a whole: walked. -/
set_option linter.unusedVariables false
set_option linter.unusedSimpArgs false
namespace Go.Proofs.YteekafkpeimhoaaGreat
open Go.RowKit

/-- The loop that lays the parts. -/
def RChI (t : T) (W0 : World) (L base : Nat) (v : Value) (tu : Int) (l : List St) (n : Nat) (sv iv : Value) (wr : World) : Prop :=
  ∃ (j : Nat) (bs : List Int) (v' : Value) (l' : List St), iv = .int .i64 j ∧ j + n = t.ps.length ∧ bs.length = j ∧ bs ++ (begF (t.ps.drop j) tu l').1 = (begF t.ps tu l).1 ∧ (begF (t.ps.drop j) tu l').2 = (begF t.ps tu l).2 ∧
    Layer wr L base v' l' ∧ Moves W0 v v' ∧ Lays L v.ownBlock W0 wr ∧ wr.ownsRow W0.heap.size 3 1 sv bs.length (bs.map ivl)
/-- The loop that lays the splits. -/
def RChJ (bs : List Int) (W0 : World) (L base : Nat) (v : Value) (l : List St) (m n : Nat) (tv iv : Value) (wr : World) : Prop :=
  ∃ (k : Nat) (x : Int) (v' : Value), iv = .int .i64 x ∧ x = (m : Int) - 1 - k ∧ k + n = m ∧ tv = .int .i64 (splitsF (bs.drop (m - k)) l).1 ∧ Layer wr L base v' (splitsF (bs.drop (m - k)) l).2 ∧ Moves W0 v v' ∧ Lays L v.ownBlock W0 wr

set_option maxRecDepth 100000 in
set_option maxHeartbeats 4000000 in
theorem rlay_5 (t : T) (hk : t.k = 5) (hr : rightF t = true) (ih : ∀ p ∈ t.ps, LayAt 30 p) : LayAt 30 t := by
  intro w ok A c L base v l tu hN ho hL hlen
  have hps1 : 2 ≤ t.ps.length := by rcases right_cases hr with h | h | h | h | h | h | h <;> omega
  have hch : layF t tu l = splitsF (begF t.ps tu l).1 (begF t.ps tu l).2 := by rw [layF_eq]; simp [hk]
  have hll := hN.len
  have hcc := hN.cap
  rw [hch] at hlen
  have hl2 : (begF t.ps tu l).2.length ≤ 1000000 := by rw [splitsF_len] at hlen; omega
  have Hch := Lib.hid hch; have Hlen := Lib.hid hlen; have Hih := Lib.hid ih
  have Hbl := Lib.hid (begF_len t.ps tu l)
  clear hch hlen ih hr
  have hLlt := hL.lt
  go_enter Tryz.func30, Tryz.ntmps30
  go_wp2_with fail
  clear hk
  generalize hW : w.alloc _ = W0
  have hb0 : Below w.heap.size w W0 := by subst hW; exact ((Below.refl _ _).alloc (Nat.le_refl _) _)
  have hz0 : w.heap.size < W0.heap.size := by subst hW; simp
  have c7 : W0.cell? ⟨w.heap.size, 7, none⟩ = some (.slice A t.ps.length c) := by subst hW; simp [go_sem]
  clear hW
  have hL0 := hL.later hb0
  have hno := own_hno hL
  have hlw0 : Lays L v.ownBlock w W0 := Lays.of_below hb0
  have ho0 : OkL W0 L v ok := ho.later hb0.size (Moves.refl _ _)
  have hN0 := hN.later hb0 (fun b hb => (ho b hb).1)
  clear hN ho hb0 hL
  go_loopg [8, 9] (t.ps.length) (fun n sv iv wr => RChI t W0 L base v tu l n sv iv wr)
  case atStart => exact ⟨0, [], v, l, rfl, by omega, rfl, rfl, rfl, hL0, Moves.refl _ _, Lays.refl _ _ _, World.ownsRow_nil _ _ _ _⟩
  case round =>
    clear hL0
    obtain ⟨j, bs, v', l', rfl, hj, hbs, hq1, hq2, hLr, hmr, hlr, hor⟩ := hrel
    have hok := ho0.later hlr.size hmr
    have hNr := hN0.lays ho0 hlr
    have hzr := hlr.size
    have k7 := (hlr.cell (o := 7) hz0 (by omega) (hno _ (Nat.le_refl _))).trans c7
    have Hq1 := Lib.hid hq1; have Hq2 := Lib.hid hq2; have Hbs := Lib.hid hbs
    clear hq1 hq2 hbs
    by_cases hlt : j < t.ps.length
    · obtain ⟨b, o, rfl, hb, hcell⟩ := hNr.part (by omega)
      obtain ⟨A', c', h8, hNj⟩ := hcell j hlt
      obtain ⟨f0, f1, f2, f3, f4, f5, f6, f7⟩ := h8
      have hihj := Hih.out _ (List.getElem_mem hlt)
      have hbstep : begF (t.ps.drop j) tu l' = ((layF t.ps[j] tu l').1 :: (begF (t.ps.drop (j + 1)) tu (layF t.ps[j] tu l').2).1, (begF (t.ps.drop (j + 1)) tu (layF t.ps[j] tu l').2).2) := by rw [drop_cons hlt, begF]
      have hst : (layF t.ps[j] tu l').2.length ≤ 1000000 := by
        have h1 := begF_grows (t.ps.drop (j + 1)) (fun p _ => layF_grows p) tu (layF t.ps[j] tu l').2
        have h2 := Hq2.out
        rw [hbstep] at h2
        simp only at h2
        rw [h2] at h1
        omega
      have Hbstep := Lib.hid hbstep; clear hbstep hcell
      generalize t.ps[j] = p at *
      have Hihj := Lib.hid hihj; clear hihj
      obtain ⟨A7, c7', rfl⟩ : ∃ A7 c7, u8 = .slice A7 bs.length c7 := by
        rcases hor.2 with ⟨rfl, h0⟩ | ⟨g, cap, cur, rfl, _⟩
        · exact ⟨none, 0, by rw [h0]⟩
        · exact ⟨_, cap, rfl⟩
      have Hor := Lib.hid hor; clear hor
      go_wp2_with fail
      refine (Hihj.out _ ok A' c' L base v' l' tu hNj hok hLr hst).mono ?_
      rintro e w1 ⟨rfl, v1, hL1, hm1, hl1⟩
      have hor1 := hl1.own hLr Hor.out (by decide) (by omega)
      have hz1 := hl1.size
      have hm1' : Moves W0 v v1 := hmr.trans hzr hm1
      have hl1' : Lays L v.ownBlock W0 w1 := hlr.trans hmr hl1
      have hbl7 : bs.length + 1 ≤ 17592186044416 := by have := Hbs.out; omega
      have Hor1 := Lib.hid hor1; clear hor1
      go_wp2_with (at_builtin; refine wpList_append_at W0.heap.size rfl _ _ 61 3 _ 1 8 rfl Tryz.underlying61 Tryz.infoInt rfl (by omega) (by omega) (.slice A7 bs.length c7') bs.length 1 (bs.map ivl) [.int .i64 (layF p tu l').1] ⟨w1.heap.size, 0, none⟩ 1 rfl rfl (by omega) rfl (cell_one_new _ _ _) (by intro u hu; simp at hu; subst hu; rfl) (Hor1.out.alloc _) (by simp; omega) (by omega) (fun g cap w2 ho2 hg2 hat2 => ?_))
      have hL2 : Layer w2 L base v1 (layF p tu l').2 := (hL1.alloc _).grown (Hor1.out.alloc _) (by decide) (by omega) hg2
      have hl2' : Lays L v.ownBlock W0 w2 := (hl1'.trans hm1' (Lays.alloc _ _ _ _)).grownNew hg2 (fun g hg => (Hor1.out.lt g hg).1)
      go_wp2_with fail
      go_roundg (gk - 1)
      case measure => omega
      case rel =>
        refine ⟨j + 1, bs ++ [(layF p tu l').1], v1, (layF p tu l').2, by go_num, by omega, by rw [List.length_append, Hbs.out]; rfl, ?_, ?_, hL2, hm1', hl2', ?_⟩
        · have := Hq1.out
          rw [Hbstep.out] at this
          simpa using this
        · have := Hq2.out
          rw [Hbstep.out] at this
          exact this
        · rw [List.length_append, List.map_append]; exact ho2
    · have hgk : t.ps.drop j = [] := List.drop_of_length_le (by omega)
      have hq1 := Hq1.out
      have hq2 := Hq2.out
      rw [hgk, begF, List.append_nil] at hq1
      rw [hgk, begF] at hq2
      simp only at hq1 hq2
      subst hq2
      have hbl : bs.length = t.ps.length := by have := Hbs.out; omega
      obtain ⟨m, hm⟩ : ∃ m, bs.length = m + 1 := ⟨bs.length - 1, by omega⟩
      have hor' := hor
      rw [hm] at hor'
      obtain ⟨g, cap, rfl, hgcap⟩ : ∃ g cap, u8 = .slice (some ⟨g, 0, none⟩) (m + 1) cap ∧ m + 1 ≤ cap := by
        rcases hor'.2 with ⟨rfl, h0⟩ | ⟨g, cap, cur, rfl, _, _, hh, _⟩
        · omega
        · exact ⟨g, cap, rfl, hh⟩
      have hgz := hor'.lt g rfl
      have hcells : ∀ i, i < m + 1 → wr.cell? ⟨g, i, none⟩ = some (.int .i64 (bs.getD i 0)) := fun i hi => by
        have h1 := hor'.cells (g := g) rfl i (ivl (bs.getD i 0)) (by rw [List.getElem?_map, List.getElem?_eq_getElem (by omega)]; simp [List.getD_eq_getElem?_getD, show i < bs.length by omega])
        rwa [show (⟨g, 0, none⟩ : Addr).add i = ⟨g, i, none⟩ by unfold Addr.add; split <;> simp_all] at h1
      have hlast := hcells m (by omega)
      obtain ⟨xl, hxl⟩ : ∃ xl, bs.getD m 0 = xl := ⟨_, rfl⟩
      rw [hxl] at hlast
      have Hxl := Lib.hid hxl; clear hxl
      have Hm := Lib.hid hm; have Hq := Lib.hid hq1; have Hcells := Lib.hid hcells
      have hmz : m + 1 ≤ 17592186044416 := by omega
      have hm1 : 1 ≤ m := by omega
      have hgne : some g ≠ v'.ownBlock := fun e => own_ne hor' hLr.own (by decide) rfl e.symm
      have Hgne := Lib.hid hgne
      have hgL : L < g := by have := hgz.1; omega
      have hgz2 := hgz.2
      clear hm hq1 hcells hbl hor hor' Hq1 Hq2 Hbs Hih Hbl hgk hgne hgz
      go_wp2_with fail
      go_loopg [2, 11] m (fun n tv iv W => RChJ bs wr L base v' (begF t.ps tu l).2 m n tv iv W)
      case atStart =>
        have hsz := splits_zero bs (begF t.ps tu l).2 (by have := Hm.out; omega)
        have hm' : bs.length - 1 = m := by have := Hm.out; omega
        rw [hm', Hxl.out] at hsz
        refine ⟨0, _, v', rfl, by push_cast; omega, by omega, ?_, ?_, Moves.refl _ _, Lays.refl _ _ _⟩
        · rw [hsz]
        · rw [hsz]; exact hLr
      case round =>
        obtain ⟨k, x, v4, rfl, hx, hkm, rfl, hL4, hm4, hl4⟩ := hrel
        have hm' : bs.length - 1 = m := by have := Hm.out; omega
        have hz4 := hl4.size
        by_cases hkl : k < m
        · obtain ⟨i, hi⟩ : ∃ i, m = k + 1 + i := ⟨m - 1 - k, by omega⟩
          obtain rfl : x = (i : Int) := by omega
          have hstep := splits_step bs (begF t.ps tu l).2 k (by have := Hm.out; omega)
          rw [hm', show m - 1 - k = i by omega] at hstep
          have hst : (splitsF (bs.drop (m - k)) (begF t.ps tu l).2).2.length ≤ 1000000 := by
            have h1 := splits_drop_len bs (begF t.ps tu l).2 (m - k)
            have h2 := Hlen.out
            rw [← Hq.out] at h2
            omega
          have hci := (hl4.cell (o := i) hgz2 (by omega) Hgne.out).trans (Hcells.out i (by omega))
          have him : i < m + 1 := by omega
          have Hstep := Lib.hid hstep; have Hi := Lib.hid hi
          clear hstep hx hi hm'
          generalize bs.getD i 0 = bi at *
          generalize splitsF (bs.drop (m - k)) (begF t.ps tu l).2 = sk at *
          go_wp2_with fail
          refine (rstate_any _ L base v4 sk.2 (splitS bi sk.1) hL4 (by omega)).mono ?_
          rintro e w5 ⟨rfl, v5, hL5, hm5, hl5⟩
          go_wp2_with fail
          go_roundg (gk - 1)
          case measure => omega
          case rel =>
            have hi := Hi.out
            refine ⟨k + 1, (i : Int) - 1, v5, by go_num, by omega, by omega, ?_, ?_, hm4.trans hz4 hm5, hl4.trans hm4 hl5⟩
            · rw [Hstep.out]
            · rw [Hstep.out]; exact hL5
        · obtain rfl : k = m := by omega
          obtain rfl : x = -1 := by omega
          rw [Nat.sub_self, List.drop_zero, Hq.out, ← Hch.out] at hL4
          have hfin : (splitsF (bs.drop (k - k)) (begF t.ps tu l).2).1 = (layF t tu l).1 := by rw [Nat.sub_self, List.drop_zero, Hq.out, ← Hch.out]
          have Hfin := Lib.hid hfin
          clear hx hkl hfin hm'
          go_wp2_with fail
          go_ret
          refine ⟨by rw [← Hfin.out]; rfl, v4, hL4, ?_, ?_⟩
          · exact (Moves.refl w v).trans (by omega) (hmr.trans hzr hm4)
          · exact hlw0.trans (Moves.refl _ _) (hlr.trans hmr hl4)

theorem rlay_any (t : T) : rightF t = true → LayAt 30 t := by
  induction t using T.ind with
  | h t ih =>
    intro hr
    have ih' : ∀ p ∈ t.ps, LayAt 30 p := fun p hp => ih p hp (right_parts hr p hp)
    rcases right_cases hr with h | h | h | h | h | h | h
    · exact rlay_0 t h.1
    · exact rlay_1 t h.1
    · exact rlay_23 t (.inl h.1)
    · exact rlay_23 t (.inr h.1)
    · exact rlay_4 t h.1 ih'
    · exact rlay_5 t h.1 hr ih'
    · exact rlay_6 t h.1 (rrepeat_any t h.1 hr ih')
end Go.Proofs.YteekafkpeimhoaaGreat

/- vouchref11: states, Size: walked. -/
set_option linter.unusedVariables false
set_option linter.unusedSimpArgs false
namespace Go.Proofs.YteekafkpeimhoaaGreat
open Go.RowKit

set_option maxRecDepth 100000 in
set_option maxHeartbeats 1000000 in
theorem rstates_any (t : T) : ∀ (w : World) (ok : Nat → Prop) (A : Option Addr) (c : Nat), rightF t = true → NodeAt w ok t A c → (∀ b, ok b → b < w.heap.size) →
    Calls Tryz.prog 44 #[nodeV t A c] w fun e w' => e = .returned (.int .i64 (countF t)) ∧ Below w.heap.size w w' := by
  induction t using T.ind with
  | h t ih =>
    intro w ok A c hr hN hok
    have hlen := hN.len
    have hcs := right_cases hr
    have Hps := Lib.hid (right_parts hr)
    have Hlb := Lib.hid (fun s (h0 : 0 ≤ s) (h1 : s ≤ 4097) (j : Nat) => countL_bd (t.ps.drop j) s (fun p hp => countF_bd p (right_parts hr p (List.mem_of_mem_drop hp))) h0 h1)
    have Heq := Lib.hid (countF_eq t)
    have Hr := Lib.hid hr; clear hr
    have Hk : Hid True := trivial
    rcases hcs with ⟨hk, hn, hmn, hmx⟩ | ⟨hk, hn, hmn, hmx⟩ | ⟨hk, hn, hmn, hmx⟩ | ⟨hk, hn, hmn, hmx⟩ | ⟨hk, hn, hmn, hmx⟩ | ⟨hk, hn, hmn, hmx⟩ | ⟨hk, hn, h0, h1, h2, h3⟩
    · have Hres := Lib.hid (show countF t = 0 by rw [Heq.out, hk]; simp)
      clear hn hmn hmx
      go_enter Tryz.func44, Tryz.ntmps44
      go_wp2_with fail
      go_ret
      exact ⟨by rw [Hres.out]; rfl, (Below.refl _ _).alloc (Nat.le_refl _) _⟩
    · have Hres := Lib.hid (show countF t = 1 by rw [Heq.out, hk]; simp)
      clear hn hmn hmx
      go_enter Tryz.func44, Tryz.ntmps44
      go_wp2_with fail
      go_ret
      exact ⟨by rw [Hres.out]; rfl, (Below.refl _ _).alloc (Nat.le_refl _) _⟩
    · have Hres := Lib.hid (show countF t = 1 by rw [Heq.out, hk]; simp)
      clear hn hmn hmx
      go_enter Tryz.func44, Tryz.ntmps44
      go_wp2_with fail
      go_ret
      exact ⟨by rw [Hres.out]; rfl, (Below.refl _ _).alloc (Nat.le_refl _) _⟩
    · have Hres := Lib.hid (show countF t = 1 by rw [Heq.out, hk]; simp)
      clear hn hmn hmx
      go_enter Tryz.func44, Tryz.ntmps44
      go_wp2_with fail
      go_ret
      exact ⟨by rw [Hres.out]; rfl, (Below.refl _ _).alloc (Nat.le_refl _) _⟩
    · have Hk := Lib.hid hk
      have Hmn := Lib.hid hmn
      have Hmx := Lib.hid hmx
      go_enter Tryz.func44, Tryz.ntmps44
      go_wp2_with fail
      generalize hW : w.alloc _ = W0
      have hB0 : Below w.heap.size w W0 := by subst hW; exact (Below.refl _ _).alloc (Nat.le_refl _) _
      have g0 : W0.cell? ⟨w.heap.size, 0, none⟩ = some (.int .i64 4) := by subst hW; simp [go_sem]
      have g5 : W0.cell? ⟨w.heap.size, 5, none⟩ = some (.int .i64 0) := by subst hW; simp [go_sem]
      have g6 : W0.cell? ⟨w.heap.size, 6, none⟩ = some (.int .i64 0) := by subst hW; simp [go_sem]
      have g7 : W0.cell? ⟨w.heap.size, 7, none⟩ = some (.slice A t.ps.length c) := by subst hW; simp [go_sem]
      have hsz : w.heap.size < W0.heap.size := by subst hW; simp
      clear hW
      go_loopg [3, 4] (t.ps.length) (fun n s i wr => ∃ (j : Nat) (x : Int), s = .int .i64 x ∧ i = .int .i64 j ∧ j + n = t.ps.length ∧ 0 ≤ x ∧ x ≤ 4097 ∧ countL (t.ps.drop j) x = countL t.ps 0 ∧ Below w.heap.size w wr ∧ w.heap.size < wr.heap.size ∧
        wr.cell? ⟨w.heap.size, 0, none⟩ = some (.int .i64 4) ∧ wr.cell? ⟨w.heap.size, 5, none⟩ = some (.int .i64 0) ∧ wr.cell? ⟨w.heap.size, 6, none⟩ = some (.int .i64 0) ∧ wr.cell? ⟨w.heap.size, 7, none⟩ = some (.slice A t.ps.length c))
      case atStart => exact ⟨0, 0, rfl, rfl, by omega, by omega, by omega, rfl, hB0, hsz, g0, g5, g6, g7⟩
      case round =>
        clear hB0 hsz g0 g5 g6 g7
        obtain ⟨j, x, rfl, rfl, hj, hx1, hx2, hm, hB, hs, g0, g5, g6, g7⟩ := hrel
        have Hm := Lib.hid hm; clear hm
        by_cases hlt : j < t.ps.length
        · obtain ⟨b, o, rfl, hb, hcell⟩ := hN.part (by omega)
          obtain ⟨A', c', h8, hNj⟩ := hcell j hlt
          have Hih := Lib.hid (ih t.ps[j] (List.getElem_mem _)); clear ih
          have Hrj := Lib.hid (Hps.out t.ps[j] (List.getElem_mem _))
          have hNj' := hNj.later hB hok
          obtain ⟨f0, f1, f2, f3, f4, f5, f6, f7⟩ := h8.mono (w' := wr) (fun o => hB.cell (p := ⟨b, o, none⟩) (hok b hb))
          have Hd := Lib.hid (drop_cons hlt)
          clear hcell hN hNj
          generalize t.ps[j] = p at *
          have hbd := countF_bd p Hrj.out
          go_wp2_with fail
          refine (Hih.out _ ok A' c' Hrj.out hNj' (fun b h => by have := hok b h; omega)).mono ?_
          rintro e w1 ⟨rfl, hb1⟩
          have hB1 : Below w.heap.size w w1 := hB.trans (hb1.mono (by omega))
          obtain ⟨hc1, hf1⟩ := bcell hb1
          have hz1 := hb1.size
          have k0 := (hc1 w.heap.size 0 hs).trans g0
          have k5 := (hc1 w.heap.size 5 hs).trans g5
          have k6 := (hc1 w.heap.size 6 hs).trans g6
          have k7 := (hc1 w.heap.size 7 hs).trans g7
          clear hc1 hf1
          go_wp2_with fail
          all_goals
            go_roundg (gk - 1)
            case measure => omega
            case rel => exact ⟨j + 1, min 4097 (x + countF p), by go_num, by go_num, by omega, by omega, by omega, by rw [← Hm.out, Hd.out, countL], hB1, by omega, k0, k5, k6, k7⟩
        · have hx : x = countL t.ps 0 := by rw [← Hm.out, List.drop_of_length_le (by omega), countL]
          have Hres := Lib.hid (show countF t = min 4097 (countK 4 0 0 x t.ps.length) by rw [Heq.out, Hk.out, Hmn.out, Hmx.out, ← hx]; simp)
          clear hx
          go_wp2_with fail
          all_goals
            go_ret
            exact ⟨by rw [Hres.out]; simp only [countK]; go_num, hB⟩
    · have Hk := Lib.hid hk
      have Hmn := Lib.hid hmn
      have Hmx := Lib.hid hmx
      go_enter Tryz.func44, Tryz.ntmps44
      go_wp2_with fail
      generalize hW : w.alloc _ = W0
      have hB0 : Below w.heap.size w W0 := by subst hW; exact (Below.refl _ _).alloc (Nat.le_refl _) _
      have g0 : W0.cell? ⟨w.heap.size, 0, none⟩ = some (.int .i64 5) := by subst hW; simp [go_sem]
      have g5 : W0.cell? ⟨w.heap.size, 5, none⟩ = some (.int .i64 0) := by subst hW; simp [go_sem]
      have g6 : W0.cell? ⟨w.heap.size, 6, none⟩ = some (.int .i64 0) := by subst hW; simp [go_sem]
      have g7 : W0.cell? ⟨w.heap.size, 7, none⟩ = some (.slice A t.ps.length c) := by subst hW; simp [go_sem]
      have hsz : w.heap.size < W0.heap.size := by subst hW; simp
      clear hW
      go_loopg [3, 4] (t.ps.length) (fun n s i wr => ∃ (j : Nat) (x : Int), s = .int .i64 x ∧ i = .int .i64 j ∧ j + n = t.ps.length ∧ 0 ≤ x ∧ x ≤ 4097 ∧ countL (t.ps.drop j) x = countL t.ps 0 ∧ Below w.heap.size w wr ∧ w.heap.size < wr.heap.size ∧
        wr.cell? ⟨w.heap.size, 0, none⟩ = some (.int .i64 5) ∧ wr.cell? ⟨w.heap.size, 5, none⟩ = some (.int .i64 0) ∧ wr.cell? ⟨w.heap.size, 6, none⟩ = some (.int .i64 0) ∧ wr.cell? ⟨w.heap.size, 7, none⟩ = some (.slice A t.ps.length c))
      case atStart => exact ⟨0, 0, rfl, rfl, by omega, by omega, by omega, rfl, hB0, hsz, g0, g5, g6, g7⟩
      case round =>
        clear hB0 hsz g0 g5 g6 g7
        obtain ⟨j, x, rfl, rfl, hj, hx1, hx2, hm, hB, hs, g0, g5, g6, g7⟩ := hrel
        have Hm := Lib.hid hm; clear hm
        by_cases hlt : j < t.ps.length
        · obtain ⟨b, o, rfl, hb, hcell⟩ := hN.part (by omega)
          obtain ⟨A', c', h8, hNj⟩ := hcell j hlt
          have Hih := Lib.hid (ih t.ps[j] (List.getElem_mem _)); clear ih
          have Hrj := Lib.hid (Hps.out t.ps[j] (List.getElem_mem _))
          have hNj' := hNj.later hB hok
          obtain ⟨f0, f1, f2, f3, f4, f5, f6, f7⟩ := h8.mono (w' := wr) (fun o => hB.cell (p := ⟨b, o, none⟩) (hok b hb))
          have Hd := Lib.hid (drop_cons hlt)
          clear hcell hN hNj
          generalize t.ps[j] = p at *
          have hbd := countF_bd p Hrj.out
          go_wp2_with fail
          refine (Hih.out _ ok A' c' Hrj.out hNj' (fun b h => by have := hok b h; omega)).mono ?_
          rintro e w1 ⟨rfl, hb1⟩
          have hB1 : Below w.heap.size w w1 := hB.trans (hb1.mono (by omega))
          obtain ⟨hc1, hf1⟩ := bcell hb1
          have hz1 := hb1.size
          have k0 := (hc1 w.heap.size 0 hs).trans g0
          have k5 := (hc1 w.heap.size 5 hs).trans g5
          have k6 := (hc1 w.heap.size 6 hs).trans g6
          have k7 := (hc1 w.heap.size 7 hs).trans g7
          clear hc1 hf1
          go_wp2_with fail
          all_goals
            go_roundg (gk - 1)
            case measure => omega
            case rel => exact ⟨j + 1, min 4097 (x + countF p), by go_num, by go_num, by omega, by omega, by omega, by rw [← Hm.out, Hd.out, countL], hB1, by omega, k0, k5, k6, k7⟩
        · have hx : x = countL t.ps 0 := by rw [← Hm.out, List.drop_of_length_le (by omega), countL]
          have Hres := Lib.hid (show countF t = min 4097 (countK 5 0 0 x t.ps.length) by rw [Heq.out, Hk.out, Hmn.out, Hmx.out, ← hx]; simp)
          clear hx
          go_wp2_with fail
          all_goals
            go_ret
            exact ⟨by rw [Hres.out]; simp only [countK]; go_num, hB⟩
    · have Hk := Lib.hid hk
      have hn1 : t.ps.length ≤ 1 := by omega
      have hn2 : 1 ≤ t.ps.length := by omega
      clear hn
      go_enter Tryz.func44, Tryz.ntmps44
      go_wp2_with fail
      generalize hW : w.alloc _ = W0
      have hB0 : Below w.heap.size w W0 := by subst hW; exact (Below.refl _ _).alloc (Nat.le_refl _) _
      have g0 : W0.cell? ⟨w.heap.size, 0, none⟩ = some (.int .i64 6) := by subst hW; simp [go_sem]
      have g5 : W0.cell? ⟨w.heap.size, 5, none⟩ = some (.int .i64 t.mn) := by subst hW; simp [go_sem]
      have g6 : W0.cell? ⟨w.heap.size, 6, none⟩ = some (.int .i64 t.mx) := by subst hW; simp [go_sem]
      have g7 : W0.cell? ⟨w.heap.size, 7, none⟩ = some (.slice A t.ps.length c) := by subst hW; simp [go_sem]
      have hsz : w.heap.size < W0.heap.size := by subst hW; simp
      clear hW
      go_loopg [3, 4] (t.ps.length) (fun n s i wr => ∃ (j : Nat) (x : Int), s = .int .i64 x ∧ i = .int .i64 j ∧ j + n = t.ps.length ∧ 0 ≤ x ∧ x ≤ 4097 ∧ countL (t.ps.drop j) x = countL t.ps 0 ∧ Below w.heap.size w wr ∧ w.heap.size < wr.heap.size ∧
        wr.cell? ⟨w.heap.size, 0, none⟩ = some (.int .i64 6) ∧ wr.cell? ⟨w.heap.size, 5, none⟩ = some (.int .i64 t.mn) ∧ wr.cell? ⟨w.heap.size, 6, none⟩ = some (.int .i64 t.mx) ∧ wr.cell? ⟨w.heap.size, 7, none⟩ = some (.slice A t.ps.length c))
      case atStart => exact ⟨0, 0, rfl, rfl, by omega, by omega, by omega, rfl, hB0, hsz, g0, g5, g6, g7⟩
      case round =>
        clear hB0 hsz g0 g5 g6 g7
        obtain ⟨j, x, rfl, rfl, hj, hx1, hx2, hm, hB, hs, g0, g5, g6, g7⟩ := hrel
        have Hm := Lib.hid hm; clear hm
        by_cases hlt : j < t.ps.length
        · obtain ⟨b, o, rfl, hb, hcell⟩ := hN.part (by omega)
          obtain ⟨A', c', h8, hNj⟩ := hcell j hlt
          have Hih := Lib.hid (ih t.ps[j] (List.getElem_mem _)); clear ih
          have Hrj := Lib.hid (Hps.out t.ps[j] (List.getElem_mem _))
          have hNj' := hNj.later hB hok
          obtain ⟨f0, f1, f2, f3, f4, f5, f6, f7⟩ := h8.mono (w' := wr) (fun o => hB.cell (p := ⟨b, o, none⟩) (hok b hb))
          have Hd := Lib.hid (drop_cons hlt)
          clear hcell hN hNj
          generalize t.ps[j] = p at *
          have hbd := countF_bd p Hrj.out
          go_wp2_with fail
          refine (Hih.out _ ok A' c' Hrj.out hNj' (fun b h => by have := hok b h; omega)).mono ?_
          rintro e w1 ⟨rfl, hb1⟩
          have hB1 : Below w.heap.size w w1 := hB.trans (hb1.mono (by omega))
          obtain ⟨hc1, hf1⟩ := bcell hb1
          have hz1 := hb1.size
          have k0 := (hc1 w.heap.size 0 hs).trans g0
          have k5 := (hc1 w.heap.size 5 hs).trans g5
          have k6 := (hc1 w.heap.size 6 hs).trans g6
          have k7 := (hc1 w.heap.size 7 hs).trans g7
          clear hc1 hf1
          go_wp2_with fail
          all_goals
            go_roundg (gk - 1)
            case measure => omega
            case rel => exact ⟨j + 1, min 4097 (x + countF p), by go_num, by go_num, by omega, by omega, by omega, by rw [← Hm.out, Hd.out, countL], hB1, by omega, k0, k5, k6, k7⟩
        · have hx : x = countL t.ps 0 := by rw [← Hm.out, List.drop_of_length_le (by omega), countL]
          have Hres := Lib.hid (show countF t = min 4097 (countK 6 t.mn t.mx x t.ps.length) by rw [Heq.out, Hk.out, ← hx]; simp)
          clear hx
          by_cases hm : t.mx < 0
          · have hb1 : (t.mx == -1) = true := by rw [beq_iff_eq]; omega
            have hp := mul_bd (a := x) (b := t.mn + 1) (A := 4097) (B := 256) hx1 (by omega) hx2 (by omega)
            have hK : countK 6 t.mn t.mx x t.ps.length = x * (t.mn + 1) + 1 := by unfold countK; rw [if_neg (by omega), if_pos rfl, if_pos hm]
            have HK := Lib.hid hK; clear hK
            obtain ⟨hp1, hp2⟩ := hp
            go_wp2_with fail
            all_goals
              go_ret
              exact ⟨by rw [Hres.out, HK.out]; go_num, hB⟩
          · have hb1 : (t.mx == -1) = false := by rw [beq_eq_false_iff_ne]; omega
            have hp := mul_bd (a := x) (b := t.mx) (A := 4097) (B := 255) hx1 (by omega) hx2 (by omega)
            have hK : countK 6 t.mn t.mx x t.ps.length = x * t.mx + t.mx - t.mn := by unfold countK; rw [if_neg (by omega), if_pos rfl, if_neg hm]
            have HK := Lib.hid hK; clear hK
            obtain ⟨hp1, hp2⟩ := hp
            go_wp2_with fail
            all_goals
              go_ret
              exact ⟨by rw [Hres.out, HK.out]; go_num, hB⟩

set_option maxRecDepth 100000 in
set_option maxHeartbeats 400000 in
theorem rsize_any (t : T) (w : World) (ok : Nat → Prop) (A : Option Addr) (c : Nat) (hN : NodeAt w ok t A c) (hok : ∀ b, ok b → b < w.heap.size) :
    Calls Tryz.prog 28 #[nodeV t A c] w fun e w' => e = .returned (.tuple #[.int .i64 (sizeK t), .int .i64 (sizeE t)]) ∧ Below w.heap.size w w' := by
  have hlen := hN.len
  go_enter Tryz.func28, Tryz.ntmps28
  go_wp2_with fail
  have hB0 : Below w.heap.size w (w.alloc (.cells #[.int .i64 t.k, .int .u64 t.s0, .int .u64 t.s1, .int .u64 t.s2, .int .u64 t.s3, .int .i64 t.mn, .int .i64 t.mx, .slice A t.ps.length c] 39)) := (Below.refl _ _).alloc (Nat.le_refl _) _
  refine (r10check_any t _ ok A c (hN.later hB0 hok) (fun b h => by have := hok b h; simp; omega)).mono ?_
  rintro e w1 ⟨rfl, hb1⟩
  have hB1 : Below w.heap.size w w1 := hB0.trans (hb1.mono (by simp))
  have hN1 := hN.later hB1 hok
  have hs1 := hB1.size
  obtain ⟨hc1, hf1⟩ := bcell hb1
  have g0 := hc1 w.heap.size 0 (by simp)
  have g1 := hc1 w.heap.size 1 (by simp)
  have g2 := hc1 w.heap.size 2 (by simp)
  have g3 := hc1 w.heap.size 3 (by simp)
  have g4 := hc1 w.heap.size 4 (by simp)
  have g5 := hc1 w.heap.size 5 (by simp)
  have g6 := hc1 w.heap.size 6 (by simp)
  have g7 := hc1 w.heap.size 7 (by simp)
  simp only [World.cell?_alloc_new, List.getElem?_toArray] at g0 g1 g2 g3 g4 g5 g6 g7
  clear hc1 hf1
  by_cases h : checkF t = 0
  · have hr := (check_right h).1
    have hbd := countF_bd t hr
    have hb : (checkF t != 0) = false := by rw [h]; rfl
    have H := Lib.hid h; clear h
    go_wp2_with fail
    refine (rstates_any t _ ok A c hr hN1 (fun b h => by have := hok b h; omega)).mono ?_
    rintro e w2 ⟨rfl, hb2⟩
    have hB2 : Below w.heap.size w w2 := hB1.trans (hb2.mono (by omega))
    by_cases h2 : 4096 < 1 + countF t
    · have hk : sizeK t = 0 := by rw [sizeK, if_neg (by simp [H.out]), if_pos h2]
      have he : sizeE t = 3 := by rw [sizeE, if_neg (by simp [H.out]), if_pos h2]
      have Hk := Lib.hid hk; have He := Lib.hid he; clear hk he
      go_wp2_with fail
      go_ret2
      exact ⟨by rw [Hk.out, He.out]; go_num, hB2⟩
    · have hk : sizeK t = 1 + countF t := by rw [sizeK, if_neg (by simp [H.out]), if_neg h2]
      have he : sizeE t = 0 := by rw [sizeE, if_neg (by simp [H.out]), if_neg h2]
      have Hk := Lib.hid hk; have He := Lib.hid he; clear hk he
      go_wp2_with fail
      go_ret2
      exact ⟨by rw [Hk.out, He.out]; go_num, hB2⟩
  · have hb : (checkF t != 0) = true := by rw [bne_iff_ne]; exact h
    have hk : sizeK t = 0 := by rw [sizeK, if_pos h]
    have he : sizeE t = checkF t := by rw [sizeE, if_pos h]
    have Hk := Lib.hid hk; have He := Lib.hid he; clear hk he h
    go_wp2_with fail
    go_ret2
    exact ⟨by rw [Hk.out, He.out]; rfl, hB1⟩
end Go.Proofs.YteekafkpeimhoaaGreat

/- The walks of nfa.kinds and of nfa's layer: lay. -/
set_option linter.unusedVariables false
set_option linter.unusedSimpArgs false
namespace Go.Proofs.YteekafkpeimhoaaGreat
open Go.RowKit Go.Shelf

abbrev fv (f : Nat) : Value := .func (.func f) #[] #[]
abbrev kindsV : Value := .agg #[fv 50, fv 51, fv 52, fv 52, fv 53, fv 54, fv 55]

set_option maxRecDepth 100000 in
set_option maxHeartbeats 1000000 in
theorem kinds_any (w : World) : Calls Tryz.prog 38 #[] w fun e w' => e = .returned kindsV ∧ Below w.heap.size w w' := by
  go_enter Tryz.func38, Tryz.ntmps38
  go_wp2_with fail
  exact bodyPost_ret (v := kindsV) (by simp [results, Tryz.results38, go_sem]) rfl ⟨rfl, (Below.refl _ _).alloc (Nat.le_refl _) _⟩

set_option maxRecDepth 100000 in
set_option maxHeartbeats 1000000 in
theorem lay_by (f : Nat) (henter : ∀ args w, (callFunc f args).run Tryz.prog w = .ok (.enter f args) w) (t : T)
    (hix : ∀ w : World, (Instr.index 79 kindsV (.int .i64 t.k)).run Tryz.prog w = .ok (fv f) w) (h : LayAt f t) : LayAt 21 t := by
  intro w ok A c L base v l tu hN ho hL hlen
  have H := Lib.hid h; clear h
  have Hlen := Lib.hid hlen; clear hlen
  go_enter Tryz.func21, Tryz.ntmps21
  go_wp2_with fail
  go_region_with (first
    | (go_at_call 38; refine (kinds_any _).mono ?_; rintro e w1 ⟨rfl, hb1⟩; obtain ⟨hc1, hf1⟩ := bcell hb1; have hB1 : Below w.heap.size w w1 := (((Below.refl _ _).alloc (Nat.le_refl _) _).drew).trans (hb1.mono (by simp)))
    | (refine (H.out w1 ok A c L base v l tu (hN.later hB1 (fun b hb => (ho b hb).1)) (ho.later hB1.size (Moves.refl _ _)) (hL.later hB1) Hlen.out).mono ?_; rintro e w2 ⟨rfl, v2, hL2, hm2, hl2⟩))
  all_goals
    go_wp2_with fail
    go_ret
    exact ⟨rfl, v2, hL2, (Moves.refl w v).trans hB1.size hm2, (Lays.of_below hB1).trans (Moves.refl _ _) hl2⟩

theorem index0 : ∀ w : World, (Instr.index 79 kindsV (.int .i64 0)).run Tryz.prog w = .ok (fv 50) w := fun _ => by kernel_rfl
theorem lay_0 (t : T) (hk : t.k = 0) (h : LayAt 50 t) : LayAt 21 t :=
  lay_by 50 (enters_of Tryz.func50 (by kernel_rfl) rfl) t (by rw [hk]; exact index0) h
theorem index1 : ∀ w : World, (Instr.index 79 kindsV (.int .i64 1)).run Tryz.prog w = .ok (fv 51) w := fun _ => by kernel_rfl
theorem lay_1 (t : T) (hk : t.k = 1) (h : LayAt 51 t) : LayAt 21 t :=
  lay_by 51 (enters_of Tryz.func51 (by kernel_rfl) rfl) t (by rw [hk]; exact index1) h
theorem index2 : ∀ w : World, (Instr.index 79 kindsV (.int .i64 2)).run Tryz.prog w = .ok (fv 52) w := fun _ => by kernel_rfl
theorem lay_2 (t : T) (hk : t.k = 2) (h : LayAt 52 t) : LayAt 21 t :=
  lay_by 52 (enters_of Tryz.func52 (by kernel_rfl) rfl) t (by rw [hk]; exact index2) h
theorem index3 : ∀ w : World, (Instr.index 79 kindsV (.int .i64 3)).run Tryz.prog w = .ok (fv 52) w := fun _ => by kernel_rfl
theorem lay_3 (t : T) (hk : t.k = 3) (h : LayAt 52 t) : LayAt 21 t :=
  lay_by 52 (enters_of Tryz.func52 (by kernel_rfl) rfl) t (by rw [hk]; exact index3) h
theorem index4 : ∀ w : World, (Instr.index 79 kindsV (.int .i64 4)).run Tryz.prog w = .ok (fv 53) w := fun _ => by kernel_rfl
theorem lay_4 (t : T) (hk : t.k = 4) (h : LayAt 53 t) : LayAt 21 t :=
  lay_by 53 (enters_of Tryz.func53 (by kernel_rfl) rfl) t (by rw [hk]; exact index4) h
theorem index5 : ∀ w : World, (Instr.index 79 kindsV (.int .i64 5)).run Tryz.prog w = .ok (fv 54) w := fun _ => by kernel_rfl
theorem lay_5 (t : T) (hk : t.k = 5) (h : LayAt 54 t) : LayAt 21 t :=
  lay_by 54 (enters_of Tryz.func54 (by kernel_rfl) rfl) t (by rw [hk]; exact index5) h
theorem index6 : ∀ w : World, (Instr.index 79 kindsV (.int .i64 6)).run Tryz.prog w = .ok (fv 55) w := fun _ => by kernel_rfl
theorem lay_6 (t : T) (hk : t.k = 6) (h : LayAt 55 t) : LayAt 21 t :=
  lay_by 55 (enters_of Tryz.func55 (by kernel_rfl) rfl) t (by rw [hk]; exact index6) h
/-- nfa's layer lays a tree as layF does. -/
theorem lay_any (t : T) : rightF t = true → LayAt 21 t := by
  induction t using T.ind with
  | h t ih =>
    intro hr
    have ih' : ∀ p ∈ t.ps, LayAt 21 p := fun p hp => ih p hp (right_parts hr p hp)
    rcases right_cases hr with h | h | h | h | h | h | h
    · exact lay_0 t h.1 (nothing_any t h.1)
    · exact lay_1 t h.1 (set_any t h.1)
    · exact lay_2 t h.1 (place_any t (.inl h.1))
    · exact lay_3 t h.1 (place_any t (.inr h.1))
    · exact lay_4 t h.1 (row_any t h.1 hr ih')
    · exact lay_5 t h.1 (choice_any t h.1 hr ih')
    · exact lay_6 t h.1 (repeat_any t h.1 hr ih')
end Go.Proofs.YteekafkpeimhoaaGreat

/- How many states a tree lays: plain. -/
set_option linter.unusedVariables false
set_option linter.unusedSimpArgs false
namespace Go.Proofs.YteekafkpeimhoaaGreat
open Go.RowKit

/-- A way of laying that lays n states, whatever lies there. -/
def LaysN (p : LF) (n : Nat) : Prop := ∀ tu l, (p tu l).2.length = l.length + n
theorem optF_len {p : LF} {n : Nat} (hp : LaysN p n) (tu : Int) : ∀ m t l, (optF p tu m t l).2.length = l.length + m * (n + 1)
  | 0, t, l => by simp [optF]
  | m + 1, t, l => by
    rw [optF, optF_len hp tu m, List.length_append, hp, Nat.succ_mul]
    simp only [List.length_cons, List.length_nil]
    omega
theorem minF_len {p : LF} {n : Nat} (hp : LaysN p n) : ∀ m t l, (minF p m t l).2.length = l.length + m * n
  | 0, t, l => by simp [minF]
  | m + 1, t, l => by
    rw [minF]
    split
    · rename_i h
      rw [hp] at h
      have : n = 0 := by omega
      subst this
      rw [hp]; simp
    · rw [minF_len hp m, hp, Nat.succ_mul]
      omega
theorem starF_len {p : LF} {n : Nat} (hp : LaysN p n) (tu : Int) (l : List St) : (starF p tu l).2.length = l.length + (n + 1) := by
  simp only [starF, setNx, List.length_modify, hp _ _, List.length_append, List.length_cons, List.length_nil]
  omega
theorem countL_sum : ∀ (ps : List T) (s : Int), (∀ p ∈ ps, 0 ≤ countF p) → 0 ≤ s → countL ps s ≤ 4096 → s ≤ countL ps s ∧ (∀ p ∈ ps, countF p ≤ 4096) ∧ countL ps s = s + (ps.map countF).sum
  | [], s, _, h0, h => by rw [countL] at *; simp
  | p :: ps, s, hp, h0, h => by
    rw [countL] at h ⊢
    have h1 := hp p (List.mem_cons_self ..)
    obtain ⟨a, b, c⟩ := countL_sum ps _ (fun q hq => hp q (List.mem_cons_of_mem _ hq)) (by omega) h
    refine ⟨by omega, ?_, ?_⟩
    · intro q hq
      cases hq with
      | head => omega
      | tail _ hq => exact b q hq
    · rw [c, List.map_cons, List.sum_cons]; omega
theorem rowF_len : ∀ (ps : List T), (∀ p ∈ ps, 0 ≤ countF p) → (∀ p ∈ ps, LaysN (layF p) (countF p).toNat) → ∀ tu l, ((rowF ps tu l).2.length : Int) = l.length + (ps.map countF).sum
  | [], _, _, tu, l => by simp [rowF]
  | p :: ps, h0, h, tu, l => by
    have ih := rowF_len ps (fun q hq => h0 q (List.mem_cons_of_mem _ hq)) (fun q hq => h q (List.mem_cons_of_mem _ hq)) tu l
    have h1 := h p (List.mem_cons_self ..) (rowF ps tu l).1 (rowF ps tu l).2
    have h2 := h0 p (List.mem_cons_self ..)
    rw [rowF, List.map_cons, List.sum_cons]
    omega
theorem begF_len2 : ∀ (ps : List T), (∀ p ∈ ps, 0 ≤ countF p) → (∀ p ∈ ps, LaysN (layF p) (countF p).toNat) → ∀ tu l, ((begF ps tu l).2.length : Int) = l.length + (ps.map countF).sum
  | [], _, _, tu, l => by simp [begF]
  | p :: ps, h0, h, tu, l => by
    have h1 := h p (List.mem_cons_self ..) tu l
    have ih := begF_len2 ps (fun q hq => h0 q (List.mem_cons_of_mem _ hq)) (fun q hq => h q (List.mem_cons_of_mem _ hq)) tu (layF p tu l).2
    have h2 := h0 p (List.mem_cons_self ..)
    rw [begF, List.map_cons, List.sum_cons]
    simp only
    omega
theorem headF_eq : ∀ (ps : List T) (h : ps.length = 1), ∃ p, ps = [p] ∧ headF ps = layF p
  | [p], _ => ⟨p, rfl, by funext tu l; rw [headF]⟩

theorem lay_len (t : T) : rightF t = true → countF t ≤ 4096 → LaysN (layF t) (countF t).toNat := by
  induction t using T.ind with
  | h t ih =>
    intro hr hc tu l
    have h0 : ∀ p ∈ t.ps, 0 ≤ countF p := fun p hp => (countF_bd p (right_parts hr p hp)).1
    have hlb := countL_bd t.ps 0 (fun p hp => countF_bd p (right_parts hr p hp)) (by omega) (by omega)
    rw [countF_eq] at hc ⊢
    rw [layF_eq]
    rcases right_cases hr with ⟨hk, h⟩ | ⟨hk, h⟩ | ⟨hk, h⟩ | ⟨hk, h⟩ | ⟨hk, h⟩ | ⟨hk, h⟩ | ⟨hk, h⟩
    · simp [hk]
    · simp [hk]
    · simp [hk]
    · simp [hk]
    · simp only [hk] at hc ⊢
      simp only [countK] at hc ⊢
      simp at hc ⊢
      obtain ⟨_, h2, h3⟩ := countL_sum t.ps 0 h0 (by omega) (by omega)
      have := rowF_len t.ps h0 (fun p hp => ih p hp (right_parts hr p hp) (h2 p hp)) tu l
      omega
    · simp only [hk] at hc ⊢
      simp only [countK] at hc ⊢
      simp at hc ⊢
      obtain ⟨_, h2, h3⟩ := countL_sum t.ps 0 h0 (by omega) (by omega)
      have := begF_len2 t.ps h0 (fun p hp => ih p hp (right_parts hr p hp) (h2 p hp)) tu l
      rw [splitsF_len, begF_len]
      omega
    · obtain ⟨p, hp, hh⟩ := headF_eq t.ps h.1
      have hcl : countL t.ps 0 = min 4097 (countF p) := by rw [hp]; simp [countL]
      have hp0 := countF_bd p (right_parts hr p (by rw [hp]; exact List.mem_cons_self ..))
      simp only [hk] at hc ⊢
      simp only [countK] at hc ⊢
      rw [hh]
      rw [hcl] at hc ⊢
      simp only [show min 4097 (countF p) = countF p by omega] at hc ⊢
      simp only [if_true, if_false, show ¬ ((6 : Int) = 0) by omega, show ¬ ((6 : Int) = 1) by omega, show ¬ ((6 : Int) = 2) by omega, show ¬ ((6 : Int) = 3) by omega, show ¬ ((6 : Int) = 4) by omega, show ¬ ((6 : Int) = 5) by omega, or_self] at hc ⊢
      unfold repF
      simp only
      by_cases hmx : t.mx < 0
      · simp only [if_pos hmx] at hc ⊢
        have hb := mul_bd (a := countF p) (b := t.mn + 1) (A := 4097) (B := 256) hp0.1 (by omega) hp0.2 (by omega)
        have hle : countF p ≤ countF p * (t.mn + 1) := by
          have := Int.mul_le_mul_of_nonneg_left (show (1 : Int) ≤ t.mn + 1 by omega) hp0.1
          omega
        have hl := ih p (by rw [hp]; exact List.mem_cons_self ..) (right_parts hr p (by rw [hp]; exact List.mem_cons_self ..)) (by omega)
        rw [minF_len hl, starF_len hl]
        obtain ⟨a, ha⟩ := Int.eq_ofNat_of_zero_le hp0.1
        obtain ⟨m, hm⟩ := Int.eq_ofNat_of_zero_le (show 0 ≤ t.mn by omega)
        rw [ha, hm] at hc ⊢
        simp only [Int.toNat_natCast]
        have e : ((a : Int) * ((m : Int) + 1) + 1) = ((a * (m + 1) + 1 : Nat) : Int) := by push_cast; rfl
        rw [e] at hc ⊢
        rw [show min (4097 : Int) ((a * (m + 1) + 1 : Nat) : Int) = ((a * (m + 1) + 1 : Nat) : Int) by omega, Int.toNat_natCast, Nat.mul_succ, Nat.mul_comm m a]
        omega
      · simp only [if_neg hmx] at hc ⊢
        by_cases hz : t.mx = 0
        · have hz2 : t.mn = 0 := by omega
          simp [hz, hz2, optF, minF]; try omega
        · have hb := mul_bd (a := countF p) (b := t.mx) (A := 4097) (B := 255) hp0.1 (by omega) hp0.2 (by omega)
          have hle : countF p ≤ countF p * t.mx := by
            have := Int.mul_le_mul_of_nonneg_left (show (1 : Int) ≤ t.mx by omega) hp0.1
            omega
          have hl := ih p (by rw [hp]; exact List.mem_cons_self ..) (right_parts hr p (by rw [hp]; exact List.mem_cons_self ..)) (by omega)
          rw [minF_len hl, optF_len hl]
          obtain ⟨a, ha⟩ := Int.eq_ofNat_of_zero_le hp0.1
          obtain ⟨m, hm⟩ := Int.eq_ofNat_of_zero_le (show 0 ≤ t.mn by omega)
          obtain ⟨d, hd⟩ := Int.eq_ofNat_of_zero_le (show 0 ≤ t.mx - t.mn by omega)
          have hx : t.mx = (m : Int) + d := by omega
          rw [hd]
          clear hb hle hd
          rw [hx] at hc ⊢
          rw [ha, hm] at hc ⊢
          simp only [Int.toNat_natCast]
          have e : ((a : Int) * ((m : Int) + (d : Int)) + ((m : Int) + (d : Int)) - (m : Int)) = ((a * (m + d) + d : Nat) : Int) := by push_cast; omega
          rw [e] at hc ⊢
          rw [show min (4097 : Int) ((a * (m + d) + d : Nat) : Int) = ((a * (m + d) + d : Nat) : Int) by omega, Int.toNat_natCast, Nat.mul_add, Nat.mul_succ, Nat.mul_comm m a, Nat.mul_comm d a]
          simp only [Nat.mul_add, Nat.mul_succ, Nat.mul_comm m a, Nat.mul_comm d a] at hc ⊢
          omega
end Go.Proofs.YteekafkpeimhoaaGreat

/- The walk of nfa.Make. -/
set_option linter.unusedVariables false
set_option linter.unusedSimpArgs false
namespace Go.Proofs.YteekafkpeimhoaaGreat
open Go.RowKit

/-- make([]T, 0, c), c a variable, any element: for the walk. -/
theorem wpList_make_own {P : Program} {w : World} {ops : Array Oper} {rest : List Oper} {o : Oper} {a : Act} {Q : Exit → Act → World → Prop} (base : Nat)
    (hg : o.guard = none) (l c : Operand) (t : TypeId) (hop : o.op = Op.makeSlice t l c)
    (e : TypeId) (z : Value) (size bytes : Nat) (ht : P.underlying t = some (.slice e)) (hinfo : (P.info? e).map (fun i => (i.zero, i.size, i.bytes)) = some (some z, size, bytes))
    (kl kc : IntKind) (n : Nat) (hl : a.eval l = .int kl 0) (hc : a.eval c = .int kc (n : Int)) (hbytes : bytes * n ≤ 281474976710656) (h63 : n ≤ maxLen) (hbase : base ≤ w.heap.size)
    (hK : ∀ w1, w1.ownsRow base e size (.slice (some ⟨w.heap.size, 0, none⟩) 0 n) 0 [] → Below w.heap.size w w1 → w.heap.size < w1.heap.size → wpList P ops Q rest (a.put o.dst (.slice (some ⟨w.heap.size, 0, none⟩) 0 n)) w1) :
    wpList P ops Q (o :: rest) a w := by
  obtain ⟨i, hi, hzz⟩ := Option.map_eq_some_iff.1 hinfo
  simp only [Prod.mk.injEq] at hzz
  obtain ⟨hz0, hz1, hz2⟩ := hzz
  refine wpList_plain hg fun K hK' => ?_
  have hb' : (i.bytes : Int) * (n : Int) ≤ 281474976710656 := by
    have h : ((i.bytes * n : Nat) : Int) ≤ 281474976710656 := by rw [hz2]; omega
    rwa [Int.natCast_mul] at h
  have h63' : (n : Int) ≤ 9223372036854775807 := by have h := h63; simp [maxLen] at h; omega
  have hrun := run_make (P := P) w t e i z ht hi hz0 kl kc 0 n (Int.le_refl _) (by omega) hb' h63'
  simp only [Int.toNat_zero, Int.toNat_natCast] at hrun
  have hk := hK _ (by subst hz1; exact World.ownsRow_made w (madeCells z.cells (n * i.size)) n hbase h63 (size_madeCells _ _)) ((Below.refl _ _).alloc (Nat.le_refl _) _) (by simp)
  unfold Oper.wp
  simp [execOp, hop, hl, hc, hrun, Result.andThen]
  exact hK' _ _ hk

/-- What nfa.Make makes: the states, and the start. -/
def makeL (t : T) : List St := if sizeE t = 0 then (layF t 0 [⟨5, 0, 0, 0, 0, 0, 0⟩]).2 else []
def makeS (t : T) : Int := if sizeE t = 0 then (layF t 0 [⟨5, 0, 0, 0, 0, 0, 0⟩]).1 else 0
theorem sizeE_zero {t : T} (h : sizeE t = 0) : rightF t = true ∧ countF t ≤ 4095 ∧ sizeK t = 1 + countF t := by
  unfold sizeE at h
  unfold sizeK
  by_cases h1 : checkF t = 0
  · simp only [h1, ne_eq, not_true_eq_false, if_false] at h ⊢
    have := (check_right h1).1
    split at h
    · omega
    · rename_i hh
      rw [if_neg hh]
      exact ⟨this, by omega, rfl⟩
  · simp [h1] at h
theorem makeL_len {t : T} (h : sizeE t = 0) : ((makeL t).length : Int) = sizeK t := by
  obtain ⟨h1, h2, h3⟩ := sizeE_zero h
  rw [makeL, if_pos h, lay_len t h1 (by omega), h3]
  have := (countF_bd t h1).1
  simp only [List.length_cons, List.length_nil]
  omega
theorem sizeK_bd (t : T) : 0 ≤ sizeK t ∧ sizeK t ≤ 4096 := by
  unfold sizeK
  by_cases h1 : checkF t = 0
  · have := (countF_bd t (check_right h1).1).1
    simp only [h1, ne_eq, not_true_eq_false, if_false]
    split <;> omega
  · simp [h1]
theorem makeL_le (t : T) : (makeL t).length ≤ 4096 := by
  by_cases h : sizeE t = 0
  · have := makeL_len h
    have := sizeK_bd t
    omega
  · simp [makeL, h]

set_option maxRecDepth 100000 in
set_option maxHeartbeats 2000000 in
theorem make_any (t : T) (w : World) (ok : Nat → Prop) (A : Option Addr) (c : Nat) (hN : NodeAt w ok t A c) (hok : ∀ b, ok b → b < w.heap.size) :
    Calls Tryz.prog 12 #[nodeV t A c] w fun e w' => ∃ v, e = .returned (.tuple #[.agg #[v, .int .i64 (makeS t)], .int .i64 (sizeE t)]) ∧
      w'.ownsRow w.heap.size 45 7 v (makeL t).length (stCells (makeL t)) ∧ Below w.heap.size w w' := by
  have hlen := hN.len
  go_enter Tryz.func12, Tryz.ntmps12
  go_wp2_with fail
  generalize hW : (w.alloc _).alloc _ = W0
  have hB0 : Below w.heap.size w W0 := by subst hW; exact ((Below.refl _ _).alloc (Nat.le_refl _) _).alloc (by simp) _
  have hsz : W0.heap.size = w.heap.size + 2 := by subst hW; simp
  have p0 : W0.cell? ⟨w.heap.size, 0, none⟩ = some (.int .i64 t.k) := by subst hW; simp [go_sem]
  have p1 : W0.cell? ⟨w.heap.size, 1, none⟩ = some (.int .u64 t.s0) := by subst hW; simp [go_sem]
  have p2 : W0.cell? ⟨w.heap.size, 2, none⟩ = some (.int .u64 t.s1) := by subst hW; simp [go_sem]
  have p3 : W0.cell? ⟨w.heap.size, 3, none⟩ = some (.int .u64 t.s2) := by subst hW; simp [go_sem]
  have p4 : W0.cell? ⟨w.heap.size, 4, none⟩ = some (.int .u64 t.s3) := by subst hW; simp [go_sem]
  have p5 : W0.cell? ⟨w.heap.size, 5, none⟩ = some (.int .i64 t.mn) := by subst hW; simp [go_sem]
  have p6 : W0.cell? ⟨w.heap.size, 6, none⟩ = some (.int .i64 t.mx) := by subst hW; simp [go_sem]
  have p7 : W0.cell? ⟨w.heap.size, 7, none⟩ = some (.slice A t.ps.length c) := by subst hW; simp [go_sem]
  have q0 : W0.cell? ⟨w.heap.size + 1, 0, none⟩ = some (.slice none 0 0) := by subst hW; simp [go_sem]
  have q1 : W0.cell? ⟨w.heap.size + 1, 1, none⟩ = some (.int .i64 0) := by subst hW; simp [go_sem]
  have qf0 : W0.frozen? ⟨w.heap.size + 1, 0, none⟩ = false := by subst hW; simp [go_sem]
  have qf1 : W0.frozen? ⟨w.heap.size + 1, 1, none⟩ = false := by subst hW; simp [go_sem]
  clear hW
  refine (nsize_any t W0 ok A c (hN.later hB0 hok) (fun b h => by have := hok b h; omega)).mono ?_
  rintro e w1 ⟨rfl, hb1⟩
  have hB1 : Below w.heap.size w w1 := hB0.trans (hb1.mono (by omega))
  have hN1 := hN.later hB1 hok
  have hs1 := hb1.size
  obtain ⟨hc1, hf1⟩ := bcell hb1
  rw [← hc1 _ _ (by omega)] at p0 p1 p2 p3 p4 p5 p6 p7 q0 q1
  rw [← hf1 _ _ (by omega)] at qf0 qf1
  clear hc1 hf1
  have h12 : w.heap.size + 2 ≤ w1.heap.size := by omega
  clear hsz
  by_cases h : sizeE t = 0
  · have hkk := makeL_len h
    have hll := makeL_le t
    have hlo : makeL t = (layF t 0 [⟨5, 0, 0, 0, 0, 0, 0⟩]).2 := by rw [makeL, if_pos h]
    have hso : makeS t = (layF t 0 [⟨5, 0, 0, 0, 0, 0, 0⟩]).1 := by rw [makeS, if_pos h]
    have hr := (sizeE_zero h).1
    have hb : (sizeE t != 0) = false := by rw [h]; rfl
    obtain ⟨k, hk⟩ : ∃ k : Nat, sizeK t = k := ⟨_, hkk.symm⟩
    have hk4 : k ≤ 4096 := by omega
    have H := Lib.hid h; have Hlo := Lib.hid hlo; have Hso := Lib.hid hso; have Hr := Lib.hid hr; clear h hlo hso hr hkk
    rw [hk]
    clear hk
    go_wp2_with (refine wpList_make_own w.heap.size rfl _ _ 22 rfl 45 _ 7 56 Tryz.underlying22 Tryz.infoState .i64 .i64 k rfl rfl (by omega) (by simp [maxLen]; omega) (by omega) (fun w2 ho2 hb2 hs2 => ?_))
    generalize hW2 : w2.alloc _ = W2
    have hl0 : Layer W2 w2.heap.size w.heap.size (.slice (some ⟨w1.heap.size, 0, none⟩) 0 k) [] := by
      subst hW2
      exact ⟨by simp [go_sem], by simp [go_sem], ho2.alloc _, by simp [Value.ownBlock]; omega, by simp; omega⟩
    have hBW : Below w1.heap.size w1 W2 := by subst hW2; exact hb2.alloc (by omega) _
    have hBW' : Below w.heap.size w W2 := hB1.trans (hBW.mono (by omega))
    clear hW2
    have hok2 : OkL W2 w2.heap.size (.slice (some ⟨w1.heap.size, 0, none⟩) 0 k) ok := fun b hb => by
      have := hok b hb
      have := hBW'.size
      refine ⟨by omega, by omega, ?_⟩
      simp [Value.ownBlock]; omega
    refine (state_any W2 w2.heap.size w.heap.size _ [] ⟨5, 0, 0, 0, 0, 0, 0⟩ hl0 (by simp)).mono ?_
    rintro e w3 ⟨rfl, v3, hL3, hm3, hl3⟩
    simp only [List.nil_append] at hL3
    have hs3 := hl3.size
    have hsW := hBW.size
    obtain ⟨hcW, hfW⟩ := bcell hBW
    have hc3 : ∀ b o, b < w1.heap.size → w3.cell? ⟨b, o, none⟩ = w1.cell? ⟨b, o, none⟩ := fun b o hb =>
      (hl3.cell (by omega) (by omega) (by simp [Value.ownBlock]; omega)).trans (hcW b o hb)
    have hf3 : ∀ b o, b < w1.heap.size → w3.frozen? ⟨b, o, none⟩ = w1.frozen? ⟨b, o, none⟩ := fun b o hb =>
      (hl3.frozen (by omega) (by omega) (by simp [Value.ownBlock]; omega)).trans (hfW b o hb)
    rw [← hc3 _ _ (by omega)] at p0 p1 p2 p3 p4 p5 p6 p7 q0 q1
    rw [← hf3 _ _ (by omega)] at qf0 qf1
    clear hcW hfW
    go_wp2_with fail
    refine (lay_any t Hr.out w3 ok A c w2.heap.size w.heap.size v3 _ 0 ((hN.later hBW' hok).lays hok2 hl3) (hok2.later hl3.size hm3) hL3 (by rw [← Hlo.out]; omega)).mono ?_
    rintro e w4 ⟨rfl, v4, hL4, hm4, hl4⟩
    have hs4 := hl4.size
    have hm34 := hm3.trans hl3.size hm4
    have hl34 := hl3.trans hm3 hl4
    have hc4 : ∀ b o, b < w1.heap.size → w4.cell? ⟨b, o, none⟩ = w1.cell? ⟨b, o, none⟩ := fun b o hb =>
      (hl34.cell (by omega) (by omega) (by simp [Value.ownBlock]; omega)).trans ((bcell hBW).1 b o hb)
    have hf4 : ∀ b o, b < w1.heap.size → w4.frozen? ⟨b, o, none⟩ = w1.frozen? ⟨b, o, none⟩ := fun b o hb =>
      (hl34.frozen (by omega) (by omega) (by simp [Value.ownBlock]; omega)).trans ((bcell hBW).2 b o hb)
    rw [hc3 _ _ (by omega), ← hc4 _ _ (by omega)] at p0 p1 p2 p3 p4 p5 p6 p7 q0 q1
    rw [hf3 _ _ (by omega), ← hf4 _ _ (by omega)] at qf0 qf1
    clear hc3 hf3
    rw [← Hlo.out, ← Hso.out] at *
    have hcL := hL4.cell
    have ho4 := Lib.hid hL4.own
    have hB4 : Below w.heap.size w w4 := ⟨hl34.os.trans hBW'.os, hl34.tape.trans hBW'.tape, hl34.output.trans hBW'.output, Nat.le_trans hBW'.size hl34.size, fun j hj => (hl34.block j (by omega) (by omega) (by simp [Value.ownBlock]; omega)).trans (hBW'.block j hj)⟩
    have hvb : v4.ownBlock ≠ some (w.heap.size + 1) := by
      rcases hm34 with e | ⟨b, e, hle⟩
      · rw [e]; simp [Value.ownBlock]; omega
      · rw [e]; simp; omega
    have Hvb := Lib.hid hvb; clear hvb
    clear hc4 hf4 hL4
    obtain ⟨A4, n4, c4, rfl⟩ : ∃ A n c, v4 = .slice A n c := by
      rcases ho4.out.2 with ⟨e, _⟩ | ⟨g, cap, cur, e, _⟩
      · exact ⟨_, _, _, e⟩
      · exact ⟨_, _, _, e⟩
    go_wp2_with fail
    have r1 := World.cell?_setCell_same (w4.setCell ⟨w.heap.size + 1, 0, none⟩ (Value.slice A4 n4 c4)) ⟨w.heap.size + 1, 1, none⟩ (.int .i64 (makeS t)) (by rw [World.cell?_setCell_other (h := by simp)]; exact q1)
    have r0 : ((w4.setCell ⟨w.heap.size + 1, 0, none⟩ (Value.slice A4 n4 c4)).setCell ⟨w.heap.size + 1, 1, none⟩ (.int .i64 (makeS t))).cell? ⟨w.heap.size + 1, 0, none⟩ = some (.slice A4 n4 c4) := by
      rw [World.cell?_setCell_other (h := by simp)]
      exact World.cell?_setCell_same w4 _ _ q0
    refine bodyPost_ret (v := .tuple #[.agg #[.slice A4 n4 c4, .int .i64 (makeS t)], .int .i64 0]) (by simp [results, Tryz.results12, r0, r1, go_sem]) rfl ⟨_, by rw [H.out], ?_, ?_⟩
    · refine ho4.out.kept (row := some (w.heap.size + 1)) ⟨rfl, rfl, rfl, by simp, fun j hj hne => ?_⟩ (.inr (fun e => Hvb.out e))
      rw [Below.heap_setCell _ _ _ _ (fun e => hne (by rw [e])), Below.heap_setCell _ _ _ _ (fun e => hne (by rw [e]))]
    · exact (hB4.setCell (by simp) _).setCell (by simp) _
  · have hlo : makeL t = [] := by rw [makeL, if_neg h]
    have hso : makeS t = 0 := by rw [makeS, if_neg h]
    have hb : (sizeE t != 0) = true := by rw [bne_iff_ne]; exact h
    clear h
    go_wp2_with fail
    have r1 := World.cell?_setCell_same (w1.setCell ⟨w.heap.size + 1, 0, none⟩ (Value.slice none 0 0)) ⟨w.heap.size + 1, 1, none⟩ (.int .i64 0) (by rw [World.cell?_setCell_other (h := by simp)]; exact q1)
    have r0 : ((w1.setCell ⟨w.heap.size + 1, 0, none⟩ (Value.slice none 0 0)).setCell ⟨w.heap.size + 1, 1, none⟩ (.int .i64 0)).cell? ⟨w.heap.size + 1, 0, none⟩ = some (.slice none 0 0) := by
      rw [World.cell?_setCell_other (h := by simp)]
      exact World.cell?_setCell_same w1 _ _ q0
    refine bodyPost_ret (v := .tuple #[.agg #[.slice none 0 0, .int .i64 0], .int .i64 (sizeE t)]) (by simp [results, Tryz.results12, r0, r1, go_sem]) rfl ⟨.slice none 0 0, by rw [hso], ?_, ?_⟩
    · rw [hlo]; exact ⟨rfl, .inl ⟨rfl, rfl⟩⟩
    · exact (hB1.setCell (by simp) _).setCell (by simp) _
end Go.Proofs.YteekafkpeimhoaaGreat

/- vouchref11.Make: walked. -/
set_option linter.unusedVariables false
set_option linter.unusedSimpArgs false
namespace Go.Proofs.YteekafkpeimhoaaGreat
open Go.RowKit

set_option maxRecDepth 100000 in
set_option maxHeartbeats 2000000 in
theorem rmake_any (t : T) (w : World) (ok : Nat → Prop) (A : Option Addr) (c : Nat) (hN : NodeAt w ok t A c) (hok : ∀ b, ok b → b < w.heap.size) :
    Calls Tryz.prog 15 #[nodeV t A c] w fun e w' => ∃ v, e = .returned (.tuple #[.agg #[v, .int .i64 (makeS t)], .int .i64 (sizeE t)]) ∧
      w'.ownsRow w.heap.size 45 7 v (makeL t).length (stCells (makeL t)) ∧ Below w.heap.size w w' := by
  have hlen := hN.len
  go_enter Tryz.func15, Tryz.ntmps15
  go_wp2_with fail
  generalize hW : (w.alloc _).alloc _ = W0
  have hB0 : Below w.heap.size w W0 := by subst hW; exact ((Below.refl _ _).alloc (Nat.le_refl _) _).alloc (by simp) _
  have hsz : W0.heap.size = w.heap.size + 2 := by subst hW; simp
  have p0 : W0.cell? ⟨w.heap.size, 0, none⟩ = some (.int .i64 t.k) := by subst hW; simp [go_sem]
  have p1 : W0.cell? ⟨w.heap.size, 1, none⟩ = some (.int .u64 t.s0) := by subst hW; simp [go_sem]
  have p2 : W0.cell? ⟨w.heap.size, 2, none⟩ = some (.int .u64 t.s1) := by subst hW; simp [go_sem]
  have p3 : W0.cell? ⟨w.heap.size, 3, none⟩ = some (.int .u64 t.s2) := by subst hW; simp [go_sem]
  have p4 : W0.cell? ⟨w.heap.size, 4, none⟩ = some (.int .u64 t.s3) := by subst hW; simp [go_sem]
  have p5 : W0.cell? ⟨w.heap.size, 5, none⟩ = some (.int .i64 t.mn) := by subst hW; simp [go_sem]
  have p6 : W0.cell? ⟨w.heap.size, 6, none⟩ = some (.int .i64 t.mx) := by subst hW; simp [go_sem]
  have p7 : W0.cell? ⟨w.heap.size, 7, none⟩ = some (.slice A t.ps.length c) := by subst hW; simp [go_sem]
  have q0 : W0.cell? ⟨w.heap.size + 1, 0, none⟩ = some (.slice none 0 0) := by subst hW; simp [go_sem]
  have q1 : W0.cell? ⟨w.heap.size + 1, 1, none⟩ = some (.int .i64 0) := by subst hW; simp [go_sem]
  have qf0 : W0.frozen? ⟨w.heap.size + 1, 0, none⟩ = false := by subst hW; simp [go_sem]
  have qf1 : W0.frozen? ⟨w.heap.size + 1, 1, none⟩ = false := by subst hW; simp [go_sem]
  clear hW
  refine (rsize_any t W0 ok A c (hN.later hB0 hok) (fun b h => by have := hok b h; omega)).mono ?_
  rintro e w1 ⟨rfl, hb1⟩
  have hB1 : Below w.heap.size w w1 := hB0.trans (hb1.mono (by omega))
  have hN1 := hN.later hB1 hok
  have hs1 := hb1.size
  obtain ⟨hc1, hf1⟩ := bcell hb1
  rw [← hc1 _ _ (by omega)] at p0 p1 p2 p3 p4 p5 p6 p7 q0 q1
  rw [← hf1 _ _ (by omega)] at qf0 qf1
  clear hc1 hf1
  have h12 : w.heap.size + 2 ≤ w1.heap.size := by omega
  clear hsz
  by_cases h : sizeE t = 0
  · have hkk := makeL_len h
    have hll := makeL_le t
    have hlo : makeL t = (layF t 0 [⟨5, 0, 0, 0, 0, 0, 0⟩]).2 := by rw [makeL, if_pos h]
    have hso : makeS t = (layF t 0 [⟨5, 0, 0, 0, 0, 0, 0⟩]).1 := by rw [makeS, if_pos h]
    have hr := (sizeE_zero h).1
    have hb : (sizeE t != 0) = false := by rw [h]; rfl
    obtain ⟨k, hk⟩ : ∃ k : Nat, sizeK t = k := ⟨_, hkk.symm⟩
    have hk4 : k ≤ 4096 := by omega
    have H := Lib.hid h; have Hlo := Lib.hid hlo; have Hso := Lib.hid hso; have Hr := Lib.hid hr; clear h hlo hso hr hkk
    rw [hk]
    clear hk
    go_wp2_with fail
    generalize hW2 : w1.alloc _ = W2
    have hl0 : Layer W2 w1.heap.size w.heap.size (.slice none 0 0) [] := by
      subst hW2
      exact ⟨by simp [go_sem], by simp [go_sem], ⟨rfl, .inl ⟨rfl, rfl⟩⟩, by simp [Value.ownBlock], by simp; omega⟩
    have hBW : Below w1.heap.size w1 W2 := by subst hW2; exact (Below.refl _ _).alloc (Nat.le_refl _) _
    have hBW' : Below w.heap.size w W2 := hB1.trans (hBW.mono (by omega))
    clear hW2
    have hok2 : OkL W2 w1.heap.size (.slice none 0 0) ok := fun b hb => by
      have := hok b hb
      have := hBW'.size
      refine ⟨by omega, by omega, ?_⟩
      simp [Value.ownBlock]
    refine (rstate_any W2 w1.heap.size w.heap.size _ [] ⟨5, 0, 0, 0, 0, 0, 0⟩ hl0 (by simp)).mono ?_
    rintro e w3 ⟨rfl, v3, hL3, hm3, hl3⟩
    simp only [List.nil_append] at hL3
    have hs3 := hl3.size
    have hsW := hBW.size
    obtain ⟨hcW, hfW⟩ := bcell hBW
    have hc3 : ∀ b o, b < w1.heap.size → w3.cell? ⟨b, o, none⟩ = w1.cell? ⟨b, o, none⟩ := fun b o hb =>
      (hl3.cell (by omega) (by omega) (by simp [Value.ownBlock])).trans (hcW b o hb)
    have hf3 : ∀ b o, b < w1.heap.size → w3.frozen? ⟨b, o, none⟩ = w1.frozen? ⟨b, o, none⟩ := fun b o hb =>
      (hl3.frozen (by omega) (by omega) (by simp [Value.ownBlock])).trans (hfW b o hb)
    rw [← hc3 _ _ (by omega)] at p0 p1 p2 p3 p4 p5 p6 p7 q0 q1
    rw [← hf3 _ _ (by omega)] at qf0 qf1
    clear hcW hfW
    go_wp2_with fail
    refine (rlay_any t Hr.out w3 ok A c w1.heap.size w.heap.size v3 _ 0 ((hN.later hBW' hok).lays hok2 hl3) (hok2.later hl3.size hm3) hL3 (by rw [← Hlo.out]; omega)).mono ?_
    rintro e w4 ⟨rfl, v4, hL4, hm4, hl4⟩
    have hs4 := hl4.size
    have hm34 := hm3.trans hl3.size hm4
    have hl34 := hl3.trans hm3 hl4
    have hc4 : ∀ b o, b < w1.heap.size → w4.cell? ⟨b, o, none⟩ = w1.cell? ⟨b, o, none⟩ := fun b o hb =>
      (hl34.cell (by omega) (by omega) (by simp [Value.ownBlock])).trans ((bcell hBW).1 b o hb)
    have hf4 : ∀ b o, b < w1.heap.size → w4.frozen? ⟨b, o, none⟩ = w1.frozen? ⟨b, o, none⟩ := fun b o hb =>
      (hl34.frozen (by omega) (by omega) (by simp [Value.ownBlock])).trans ((bcell hBW).2 b o hb)
    rw [hc3 _ _ (by omega), ← hc4 _ _ (by omega)] at p0 p1 p2 p3 p4 p5 p6 p7 q0 q1
    rw [hf3 _ _ (by omega), ← hf4 _ _ (by omega)] at qf0 qf1
    clear hc3 hf3
    rw [← Hlo.out, ← Hso.out] at *
    have hcL := hL4.cell
    have ho4 := Lib.hid hL4.own
    have hB4 : Below w.heap.size w w4 := ⟨hl34.os.trans hBW'.os, hl34.tape.trans hBW'.tape, hl34.output.trans hBW'.output, Nat.le_trans hBW'.size hl34.size, fun j hj => (hl34.block j (by omega) (by omega) (by simp [Value.ownBlock])).trans (hBW'.block j hj)⟩
    have hvb : v4.ownBlock ≠ some (w.heap.size + 1) := by
      rcases hm34 with e | ⟨b, e, hle⟩
      · rw [e]; simp [Value.ownBlock]
      · rw [e]; simp; omega
    have Hvb := Lib.hid hvb; clear hvb
    clear hc4 hf4 hL4
    obtain ⟨A4, n4, c4, rfl⟩ : ∃ A n c, v4 = .slice A n c := by
      rcases ho4.out.2 with ⟨e, _⟩ | ⟨g, cap, cur, e, _⟩
      · exact ⟨_, _, _, e⟩
      · exact ⟨_, _, _, e⟩
    go_wp2_with fail
    have r1 := World.cell?_setCell_same (w4.setCell ⟨w.heap.size + 1, 0, none⟩ (Value.slice A4 n4 c4)) ⟨w.heap.size + 1, 1, none⟩ (.int .i64 (makeS t)) (by rw [World.cell?_setCell_other (h := by simp)]; exact q1)
    have r0 : ((w4.setCell ⟨w.heap.size + 1, 0, none⟩ (Value.slice A4 n4 c4)).setCell ⟨w.heap.size + 1, 1, none⟩ (.int .i64 (makeS t))).cell? ⟨w.heap.size + 1, 0, none⟩ = some (.slice A4 n4 c4) := by
      rw [World.cell?_setCell_other (h := by simp)]
      exact World.cell?_setCell_same w4 _ _ q0
    refine bodyPost_ret (v := .tuple #[.agg #[.slice A4 n4 c4, .int .i64 (makeS t)], .int .i64 0]) (by simp [results, Tryz.results15, r0, r1, go_sem]) rfl ⟨_, by rw [H.out], ?_, ?_⟩
    · refine ho4.out.kept (row := some (w.heap.size + 1)) ⟨rfl, rfl, rfl, by simp, fun j hj hne => ?_⟩ (.inr (fun e => Hvb.out e))
      rw [Below.heap_setCell _ _ _ _ (fun e => hne (by rw [e])), Below.heap_setCell _ _ _ _ (fun e => hne (by rw [e]))]
    · exact (hB4.setCell (by simp) _).setCell (by simp) _
  · have hlo : makeL t = [] := by rw [makeL, if_neg h]
    have hso : makeS t = 0 := by rw [makeS, if_neg h]
    have hb : (sizeE t != 0) = true := by rw [bne_iff_ne]; exact h
    clear h
    go_wp2_with fail
    have r1 := World.cell?_setCell_same (w1.setCell ⟨w.heap.size + 1, 0, none⟩ (Value.slice none 0 0)) ⟨w.heap.size + 1, 1, none⟩ (.int .i64 0) (by rw [World.cell?_setCell_other (h := by simp)]; exact q1)
    have r0 : ((w1.setCell ⟨w.heap.size + 1, 0, none⟩ (Value.slice none 0 0)).setCell ⟨w.heap.size + 1, 1, none⟩ (.int .i64 0)).cell? ⟨w.heap.size + 1, 0, none⟩ = some (.slice none 0 0) := by
      rw [World.cell?_setCell_other (h := by simp)]
      exact World.cell?_setCell_same w1 _ _ q0
    refine bodyPost_ret (v := .tuple #[.agg #[.slice none 0 0, .int .i64 0], .int .i64 (sizeE t)]) (by simp [results, Tryz.results15, r0, r1, go_sem]) rfl ⟨.slice none 0 0, by rw [hso], ?_, ?_⟩
    · rw [hlo]; exact ⟨rfl, .inl ⟨rfl, rfl⟩⟩
    · exact (hB1.setCell (by simp) _).setCell (by simp) _
end Go.Proofs.YteekafkpeimhoaaGreat

/- vouchref11.Check: walked. -/
set_option linter.unusedVariables false
set_option linter.unusedSimpArgs false
namespace Go.Proofs.YteekafkpeimhoaaGreat
open Go.RowKit

theorem inR_true {n i : Int} (h : 0 ≤ i) (h2 : i < n) : inR n i = true := by simp [inR, h, h2]
theorem inR_false {n i : Int} (h : i < 0 ∨ n ≤ i) : inR n i = false := by simp [inR]; omega
set_option maxRecDepth 100000 in
set_option maxHeartbeats 4000000 in
theorem rcheck_any (w : World) (ok : Nat → Prop) (l : List St) (sa : Int) (A : Option Addr) (c : Nat) (ha : StsAt w ok l A c) (hok : ∀ b, ok b → b < w.heap.size) :
    Calls Tryz.prog 31 #[nfaV l sa A c] w fun e w' => e = .returned (.int .i64 (mcheck l sa)) ∧ Below w.heap.size w w' := by
  have hlen := ha.len
  by_cases hbad : ((l.length : Int) < 1 ∨ 4096 < (l.length : Int)) ∨ sa < 0 ∨ (l.length : Int) ≤ sa
  · have hres : mcheck l sa = 110 := by
      rw [mcheck, if_neg]
      rintro ⟨h1, h2⟩
      simp [inR] at h2
      omega
    have Hres := Lib.hid hres; clear hres
    have fin : Below w.heap.size w (w.alloc (.cells #[.slice A l.length c, .int .i64 sa] 24)) := (Below.refl _ _).alloc (Nat.le_refl _) _
    go_enter Tryz.func31, Tryz.ntmps31
    by_cases h1 : (l.length : Int) < 1
    · clear hbad
      go_wp2_with fail
      go_ret
      exact ⟨by rw [Hres.out]; rfl, fin⟩
    by_cases h2 : 4096 < (l.length : Int)
    · clear hbad
      go_wp2_with fail
      go_ret
      exact ⟨by rw [Hres.out]; rfl, fin⟩
    by_cases h3 : sa < 0
    · clear hbad
      go_wp2_with fail
      go_ret
      exact ⟨by rw [Hres.out]; rfl, fin⟩
    · have h4 : (l.length : Int) ≤ sa := by omega
      clear hbad
      go_wp2_with fail
      go_ret
      exact ⟨by rw [Hres.out]; rfl, fin⟩
  have h1 : 1 ≤ (l.length : Int) := by omega
  have h2 : (l.length : Int) ≤ 4096 := by omega
  have h3 : 0 ≤ sa := by omega
  have h4 : sa < (l.length : Int) := by omega
  clear hbad
  have hres : mcheck l sa = if l.all (okSt l.length) then 0 else 110 := by rw [mcheck, if_pos ⟨by omega, inR_true h3 h4⟩]
  have Hres := Lib.hid hres; clear hres
  go_enter Tryz.func31, Tryz.ntmps31
  go_wp2_with fail
  generalize hW : w.alloc _ = W0
  have hB0 : Below w.heap.size w W0 := by subst hW; exact ((Below.refl _ _).alloc (Nat.le_refl _) _)
  have hsz : w.heap.size < W0.heap.size := by subst hW; simp
  have p0 : W0.cell? ⟨w.heap.size, 0, none⟩ = some (.slice A l.length c) := by subst hW; simp [go_sem]
  clear hW h1 h3 h4
  go_loopg [4] (l.length) (fun n i wr => ∃ j : Nat, i = .int .i64 j ∧ j + n = l.length ∧ (l.drop j).all (okSt l.length) = l.all (okSt l.length) ∧ Below w.heap.size w wr ∧ w.heap.size < wr.heap.size ∧ wr.cell? ⟨w.heap.size, 0, none⟩ = some (.slice A l.length c))
  case atStart => exact ⟨0, rfl, by omega, rfl, hB0, hsz, p0⟩
  case round =>
    obtain ⟨j, rfl, hj, hm, hB, hz, hq⟩ := hrel
    have Hm := Lib.hid hm; clear hm
    clear hsz p0 hB0
    by_cases hlt : j < l.length
    · obtain ⟨b, o, rfl, hb, hcell⟩ := ha.at_ (by omega)
      obtain ⟨f0, f1, f2, f3, f4, f5, f6⟩ := (hcell j hlt).mono (w' := wr) (fun o => hB.cell (p := ⟨b, o, none⟩) (hok b hb))
      have Hd := Lib.hid (drop_cons hlt)
      clear hcell
      generalize l[j] = s at *
      have hbz := hok b hb
      have fin : okSt l.length s = false → mcheck l sa = 110 := fun h => by
        rw [Hres.out, ← Hm.out, Hd.out, List.all_cons, h]; rfl
      have go : okSt l.length s = true → (l.drop (j + 1)).all (okSt l.length) = l.all (okSt l.length) := fun h => by
        rw [← Hm.out, Hd.out, List.all_cons, h, Bool.true_and]
      have Fin := Lib.hid fin; have Go := Lib.hid go; clear fin go
      obtain ⟨k, s0, s1, s2, s3, nx, ot⟩ := s
      simp only at f0 f1 f2 f3 f4 f5 f6
      have q1 : (wr.alloc (.cells #[.int .i64 k, .int .u64 s0, .int .u64 s1, .int .u64 s2, .int .u64 s3, .int .i64 nx, .int .i64 ot] 45)).cell? ⟨w.heap.size, 0, none⟩ = some (.slice (some ⟨b, o, none⟩) l.length c) := by
        rw [World.cell?_alloc_lt _ _ _ hz]; exact hq
      have hB1 := hB.alloc (by omega : w.heap.size ≤ wr.heap.size) (.cells #[.int .i64 k, .int .u64 s0, .int .u64 s1, .int .u64 s2, .int .u64 s3, .int .i64 nx, .int .i64 ot] 45)
      by_cases c1 : k < 1
      · have hg := Lib.hid (Fin.out (by simp only [okSt]; rw [if_neg (by omega), if_neg (by omega), if_neg (by omega)])); clear Go Fin
        go_wp2_with fail
        go_ret
        exact ⟨by rw [hg.out]; rfl, hB1⟩
      by_cases c2 : 5 < k
      · have hg := Lib.hid (Fin.out (by simp only [okSt]; rw [if_neg (by omega), if_neg (by omega), if_neg (by omega)])); clear Go Fin
        go_wp2_with fail
        go_ret
        exact ⟨by rw [hg.out]; rfl, hB1⟩
      by_cases c3 : k = 5
      · subst c3
        have hg := Lib.hid (Go.out (by simp [okSt])); clear Go Fin
        go_wp2_with fail
        go_roundg (gk - 1)
        case measure => omega
        case rel => exact ⟨j + 1, by go_num, by omega, hg.out, hB1, by simp; omega, q1⟩
      have b5 : (k != 5) = true := by simp; omega
      by_cases c4 : nx < 0
      · have hg := Lib.hid (Fin.out (by
          simp only [okSt, inR_false (.inl c4 : nx < 0 ∨ (l.length : Int) ≤ nx), Bool.false_and]; rw [if_neg c3]; split
          · rfl
          · split <;> rfl)); clear Go Fin c3
        go_wp2_with fail
        go_ret
        exact ⟨by rw [hg.out]; rfl, hB1⟩
      by_cases c5 : (l.length : Int) ≤ nx
      · have hg := Lib.hid (Fin.out (by
          simp only [okSt, inR_false (.inr c5 : nx < 0 ∨ (l.length : Int) ≤ nx), Bool.false_and]; rw [if_neg c3]; split
          · rfl
          · split <;> rfl)); clear Go Fin c3
        go_wp2_with fail
        go_ret
        exact ⟨by rw [hg.out]; rfl, hB1⟩
      have hnx : inR l.length nx = true := inR_true (by omega) (by omega)
      by_cases c6 : k = 2
      · subst c6
        have hstep : okSt l.length ⟨2, s0, s1, s2, s3, nx, ot⟩ = inR l.length ot := by simp [okSt, hnx]
        clear c3 hnx
        by_cases c7 : ot < 0
        · have hg := Lib.hid (Fin.out (by rw [hstep, inR_false (.inl c7)])); clear Go Fin hstep
          go_wp2_with fail
          go_ret
          exact ⟨by rw [hg.out]; rfl, hB1⟩
        by_cases c8 : (l.length : Int) ≤ ot
        · have hg := Lib.hid (Fin.out (by rw [hstep, inR_false (.inr c8)])); clear Go Fin hstep
          go_wp2_with fail
          go_ret
          exact ⟨by rw [hg.out]; rfl, hB1⟩
        · have hg := Lib.hid (Go.out (by rw [hstep, inR_true (by omega) (by omega)])); clear Go Fin hstep
          go_wp2_with fail
          go_roundg (gk - 1)
          case measure => omega
          case rel => exact ⟨j + 1, by go_num, by omega, hg.out, hB1, by simp; omega, q1⟩
      · have b2 : (k == 2) = false := by simp; omega
        have hg := Lib.hid (Go.out (by simp only [okSt, hnx]; rw [if_neg c3, if_pos (by omega)])); clear Go Fin c3 c6 hnx
        go_wp2_with fail
        go_roundg (gk - 1)
        case measure => omega
        case rel => exact ⟨j + 1, by go_num, by omega, hg.out, hB1, by simp; omega, q1⟩
    · have hg : l.all (okSt l.length) = true := by rw [← Hm.out, List.drop_of_length_le (by omega)]; rfl
      have hg2 := Lib.hid (by rw [Hres.out, hg]; rfl : mcheck l sa = 0); clear hg
      have i1 : (l.length : Int) ≤ (j : Int) := by omega
      go_wp2_with fail
      go_ret
      exact ⟨by rw [hg2.out]; rfl, hB⟩
end Go.Proofs.YteekafkpeimhoaaGreat

/- works: walked. -/
set_option linter.unusedVariables false
set_option linter.unusedSimpArgs false
namespace Go.Proofs.YteekafkpeimhoaaGreat
open Go.RowKit

def tA : T := .mk 1 0 2 0 0 0 0 []
def tW : T := .mk 6 0 0 0 0 1 2 [tA]
def t9 : T := .mk 9 0 0 0 0 0 0 []
def wantW : List St := [⟨5, 0, 0, 0, 0, 0, 0⟩, ⟨1, 0, 2, 0, 0, 0, 0⟩, ⟨2, 0, 0, 0, 0, 1, 0⟩, ⟨1, 0, 2, 0, 0, 2, 0⟩]
theorem tW_E : sizeE tW = 0 := by rfl
theorem tW_L : makeL tW = wantW := by rfl
theorem tW_S : makeS tW = 3 := by rfl
theorem t9_E : sizeE t9 = 107 := by rfl

theorem nodeAt_leaf (w : World) (ok : Nat → Prop) (t : T) (h : t.ps = []) : NodeAt w ok t none 0 :=
  .mk t none 0 (fun _ => none) (fun _ => 0) (by simp [h]) (by simp [h]) (fun e => absurd h e) (fun i p hi => by simp [h] at hi)
theorem sameM_self (l : List St) (s : Int) : sameM l s l s = true := by simp [sameM]
theorem mcheck_W : mcheck wantW 3 = 0 := by rfl
theorem mcheck_nil : mcheck [] 0 = 110 := by rfl

end Go.Proofs.YteekafkpeimhoaaGreat

/- The law NfaMakes: walked. (Printed by wip/genmakes.py.) -/
set_option linter.unusedVariables false
set_option linter.unusedSimpArgs false
namespace Go.Proofs.YteekafkpeimhoaaGreat
open Go.RowKit

theorem At8.later {w w' : World} {B b o : Nat} {t : T} {A : Option Addr} {c : Nat} (h : At8 w b o t A c) (hb : Below B w w') (hlt : b < B) : At8 w' b o t A c :=
  h.mono fun o => hb.cell (p := ⟨b, o, none⟩) hlt
/-- A machine's two cells. -/
structure At2 (w : World) (b : Nat) (v : Value) (s : Int) : Prop where
  f0 : w.cell? ⟨b, 0, none⟩ = some v
  f1 : w.cell? ⟨b, 1, none⟩ = some (.int .i64 s)
theorem At2.later {w w' : World} {B b : Nat} {v : Value} {s : Int} (h : At2 w b v s) (hb : Below B w w') (hlt : b < B) : At2 w' b v s :=
  ⟨(hb.cell (p := ⟨b, 0, none⟩) hlt).trans h.f0, (hb.cell (p := ⟨b, 1, none⟩) hlt).trans h.f1⟩
theorem own_later {w w' : World} {base n : Nat} {v : Value} {xs : List Value} (h : w.ownsRow base 45 7 v n xs) (hb : Below w.heap.size w w') : w'.ownsRow base 45 7 v n xs :=
  h.kept (row := none) ⟨hb.os, hb.tape, hb.output, hb.size, fun k hk _ => hb.block k hk⟩ (by cases hv : v.ownBlock <;> simp)
theorem own_form {w : World} {base n : Nat} {v : Value} {xs : List Value} (h : w.ownsRow base 45 7 v n xs) : ∃ A c, v = .slice A n c := by
  rcases h.2 with ⟨rfl, h0⟩ | ⟨g, cap, cur, rfl, _⟩
  · exact ⟨none, 0, by rw [h0]⟩
  · exact ⟨_, cap, rfl⟩

theorem sts_all {w : World} {base : Nat} {l : List St} {A : Option Addr} {c : Nat} (h : w.ownsRow base 45 7 (.slice A l.length c) l.length (stCells l)) (hl : l.length ≤ 4096) : StsAt w (fun b => b < w.heap.size) l A c :=
  (stsAt_own h (by omega)).mono fun b hb => ⟨hb.2, fun _ => rfl⟩
theorem Spoils.cell {r : Option Nat} {w w' : World} (h : Spoils r w w') {b o : Nat} (h0 : b < w.heap.size) (h1 : some b ≠ r) : w'.cell? ⟨b, o, none⟩ = w.cell? ⟨b, o, none⟩ := World.cell?_of_block (w := w) (h.block b h0 h1)
theorem Spoils.own {r : Option Nat} {w w' : World} (h : Spoils r w w') {base n : Nat} {v : Value} {xs : List Value} (ho : w.ownsRow base 45 7 v n xs) (hne : ∀ k, v.ownBlock = some k → some k ≠ r) : w'.ownsRow base 45 7 v n xs :=
  ho.kept (row := r) ⟨h.os, h.tape, h.output, h.size, h.block⟩ (by
    cases hv : v.ownBlock with
    | none => exact .inl rfl
    | some k => exact .inr (hne k hv))

end Go.Proofs.YteekafkpeimhoaaGreat

/- match.Has: walked. -/
set_option linter.unusedVariables false
set_option linter.unusedSimpArgs false
namespace Go.Proofs.YteekafkpeimhoaaGreat
open Go.RowKit

theorem Tryz.infoBool : (Tryz.prog.info? 4).map (fun i => (i.zero, i.size, i.bytes)) = some (some (.bool false), 1, 1) := by kernel_rfl

theorem hr_start (w1 : World) (l : List St) (sa : Int) (A : Option Addr) (c i j : Nat) (hij : (i = w1.heap.size ∧ j = w1.heap.size + 1) ∨ (i = w1.heap.size + 1 ∧ j = w1.heap.size)) :
    (fun W => HR W w1.heap.size (w1.heap.size + 2) i j l sa A c false false [] 0 none 0 [] 0 none 0 ∧ Below w1.heap.size w1 W) ((((w1.alloc (.cells (madeCells #[.bool false] l.length) 4)).alloc (.cells (madeCells #[.bool false] l.length) 4)).alloc (.cells #[.slice A l.length c, .int .i64 sa, .slice none 0 0, .slice (some ⟨i, 0, none⟩) l.length l.length, .slice none 0 0, .slice (some ⟨j, 0, none⟩) l.length l.length, .bool false, .bool false] 65)).drew) := by
  have hM : ∀ i, i < l.length → (madeCells #[.bool false] l.length)[i]? = some (.bool false) := fun i hi => by
    rw [← Array.getElem?_toList, toList_madeCells_one]
    simp [hi]
  generalize madeCells #[.bool false] l.length = M at *
  generalize hW : World.drew _ = W
  have hb : Below w1.heap.size w1 W := by
    subst hW
    exact ((((Below.refl w1.heap.size w1).alloc (Nat.le_refl _) _).alloc (by simp) _).alloc (by simp; omega) _).drew
  have hz : W.heap.size = w1.heap.size + 3 := by subst hW; simp
  generalize hR : (#[.slice A l.length c, .int .i64 sa, .slice none 0 0, .slice (some ⟨i, 0, none⟩) l.length l.length, .slice none 0 0, .slice (some ⟨j, 0, none⟩) l.length l.length, .bool false, .bool false] : Array Value) = R at *
  have k0 : W.heap[w1.heap.size]? = some (.cells M 4) := by
    subst hW
    show (((w1.heap.push _).push _).push _)[_]? = _
    simp [Array.getElem?_push] <;> omega
  have k1 : W.heap[w1.heap.size + 1]? = some (.cells M 4) := by
    subst hW
    show (((w1.heap.push _).push _).push _)[_]? = _
    rw [Array.getElem?_push, if_neg (by simp), Array.getElem?_push, if_pos (by simp)]
  have k2 : W.heap[w1.heap.size + 2]? = some (.cells R 65) := by
    subst hW
    show (((w1.heap.push _).push _).push _)[_]? = _
    rw [Array.getElem?_push, if_pos (by simp)]
  have hcT : ∀ k o, k = w1.heap.size ∨ k = w1.heap.size + 1 → o < l.length → W.cell? ⟨k, o, none⟩ = some (.bool false) := fun k o hk ho => by
    rcases hk with rfl | rfl
    · unfold World.cell?; simp only [k0]; exact hM o ho
    · unfold World.cell?; simp only [k1]; exact hM o ho
  have hfT : ∀ k o, k = w1.heap.size ∨ k = w1.heap.size + 1 ∨ k = w1.heap.size + 2 → W.frozen? ⟨k, o, none⟩ = false := fun k o hk => by
    rcases hk with rfl | rfl | rfl
    · unfold World.frozen?; simp [k0]
    · unfold World.frozen?; simp [k1]
    · unfold World.frozen?; simp [k2]
  have hq : ∀ o, W.cell? ⟨w1.heap.size + 2, o, none⟩ = R[o]? := fun o => by
    unfold World.cell?; simp [k2]
  have hi : i = w1.heap.size ∨ i = w1.heap.size + 1 := by omega
  have hj : j = w1.heap.size ∨ j = w1.heap.size + 1 := by omega
  subst hR
  have hrow : W.ownsRow w1.heap.size 3 1 (.slice none 0 0) 0 (ints []) := ⟨rfl, .inl ⟨rfl, rfl⟩⟩
  exact ⟨⟨hq 0, hq 6, hq 7, fun o => hfT _ o (by omega), ⟨rfl, hq 2, hq 3, hrow, fun o ho => (hcT i o hi ho).trans (by simp), fun o => hfT i o (by omega), by omega, by omega, by simp [Value.ownBlock], by simp [Value.ownBlock], by simp, List.nodup_nil⟩, ⟨rfl, hq 4, hq 5, hfT _ 4 (by omega), hrow, fun o ho => (hcT j o hj ho).trans (by simp), fun o => hfT j o (by omega), by omega, by omega, by omega, by simp [Value.ownBlock], by simp [Value.ownBlock], by simp, List.nodup_nil, by omega⟩, by omega, by simp [Value.ownBlock], by simp [Value.ownBlock], .inl rfl, by omega, by omega, by omega⟩, hb⟩
theorem hr_swapped {w : World} {B q T1 T2 : Nat} {l : List St} {sa : Int} {Am : Option Addr} {cm : Nat} {b e : Bool} {X Y : List Nat} {n m : Nat} {A A2 : Option Addr} {c c2 : Nat} (h : HR w B q T1 T2 l sa Am cm b e X n A c Y m A2 c2) :
    (fun W => HR W B q T2 T1 l sa Am cm b e Y m A2 c2 X n A c ∧ ∀ S, S ≤ q → Below S w W) ((((w.setCell ⟨q, 2, none⟩ (.slice A2 m c2)).setCell ⟨q, 3, none⟩ (.slice (some ⟨T2, 0, none⟩) l.length l.length)).setCell ⟨q, 4, none⟩ (.slice A n c)).setCell ⟨q, 5, none⟩ (.slice (some ⟨T1, 0, none⟩) l.length l.length)).drew := by
  generalize hW1 : w.setCell ⟨q, 2, none⟩ (.slice A2 m c2) = W1
  generalize hW2 : W1.setCell ⟨q, 3, none⟩ (.slice (some ⟨T2, 0, none⟩) l.length l.length) = W2
  generalize hW3 : W2.setCell ⟨q, 4, none⟩ (.slice A n c) = W3
  have c1 : ∀ o, o ≠ 2 → W1.cell? ⟨q, o, none⟩ = w.cell? ⟨q, o, none⟩ := fun o ho => by subst hW1; exact World.cell?_setCell_other _ _ _ _ (by simp <;> omega)
  have c2' : ∀ o, o ≠ 3 → W2.cell? ⟨q, o, none⟩ = W1.cell? ⟨q, o, none⟩ := fun o ho => by subst hW2; exact World.cell?_setCell_other _ _ _ _ (by simp <;> omega)
  have c3 : ∀ o, o ≠ 4 → W3.cell? ⟨q, o, none⟩ = W2.cell? ⟨q, o, none⟩ := fun o ho => by subst hW3; exact World.cell?_setCell_other _ _ _ _ (by simp <;> omega)
  have c4 : ∀ o, o ≠ 5 → (W3.setCell ⟨q, 5, none⟩ (.slice (some ⟨T1, 0, none⟩) l.length l.length)).drew.cell? ⟨q, o, none⟩ = W3.cell? ⟨q, o, none⟩ := fun o ho => by
    rw [World.cell?_drew]; exact World.cell?_setCell_other _ _ _ _ (by simp <;> omega)
  have d1 : W1.cell? ⟨q, 2, none⟩ = some (.slice A2 m c2) := by subst hW1; exact World.cell?_setCell_same _ _ _ h.now.f2
  have d2 : W2.cell? ⟨q, 3, none⟩ = some (.slice (some ⟨T2, 0, none⟩) l.length l.length) := by subst hW2; exact World.cell?_setCell_same _ _ _ ((c1 3 (by omega)).trans h.now.f3)
  have d3 : W3.cell? ⟨q, 4, none⟩ = some (.slice A n c) := by subst hW3; exact World.cell?_setCell_same _ _ _ ((c2' 4 (by omega)).trans ((c1 4 (by omega)).trans h.next.f4))
  have d4 : (W3.setCell ⟨q, 5, none⟩ (.slice (some ⟨T1, 0, none⟩) l.length l.length)).drew.cell? ⟨q, 5, none⟩ = some (.slice (some ⟨T1, 0, none⟩) l.length l.length) := by
    rw [World.cell?_drew]; exact World.cell?_setCell_same _ _ _ ((c3 5 (by omega)).trans ((c2' 5 (by omega)).trans ((c1 5 (by omega)).trans h.next.f5)))
  have hall : ∀ o, o ≠ 2 → o ≠ 3 → o ≠ 4 → o ≠ 5 → (W3.setCell ⟨q, 5, none⟩ (.slice (some ⟨T1, 0, none⟩) l.length l.length)).drew.cell? ⟨q, o, none⟩ = w.cell? ⟨q, o, none⟩ := fun o h2 h3 h4 h5 => (c4 o h5).trans ((c3 o h4).trans ((c2' o h3).trans (c1 o h2)))
  have hk : ∀ k, k ≠ q → (W3.setCell ⟨q, 5, none⟩ (.slice (some ⟨T1, 0, none⟩) l.length l.length)).drew.heap[k]? = w.heap[k]? := fun k hk => by
    subst hW3 hW2 hW1
    exact (Below.heap_setCell _ _ _ _ hk).trans ((Below.heap_setCell _ _ _ _ hk).trans ((Below.heap_setCell _ _ _ _ hk).trans (Below.heap_setCell _ _ _ _ hk)))
  have hz : (W3.setCell ⟨q, 5, none⟩ (.slice (some ⟨T1, 0, none⟩) l.length l.length)).drew.heap.size = w.heap.size := by subst hW3 hW2 hW1; simp
  have hos : (W3.setCell ⟨q, 5, none⟩ (.slice (some ⟨T1, 0, none⟩) l.length l.length)).drew.os = w.os ∧ (W3.setCell ⟨q, 5, none⟩ (.slice (some ⟨T1, 0, none⟩) l.length l.length)).drew.tape = w.tape ∧ (W3.setCell ⟨q, 5, none⟩ (.slice (some ⟨T1, 0, none⟩) l.length l.length)).drew.output = w.output := by subst hW3 hW2 hW1; exact ⟨rfl, rfl, rfl⟩
  have hf : ∀ a, (W3.setCell ⟨q, 5, none⟩ (.slice (some ⟨T1, 0, none⟩) l.length l.length)).drew.frozen? a = w.frozen? a := fun a => by
    subst hW3 hW2 hW1
    rw [World.frozen?_drew, World.frozen?_setCell, World.frozen?_setCell, World.frozen?_setCell, World.frozen?_setCell]
  exact ⟨h.swap hz hos.1 hos.2.1 hos.2.2 hk hf (hall 0 (by omega) (by omega) (by omega) (by omega)) (hall 6 (by omega) (by omega) (by omega) (by omega)) (hall 7 (by omega) (by omega) (by omega) (by omega)) ((c4 2 (by omega)).trans ((c3 2 (by omega)).trans ((c2' 2 (by omega)).trans d1))) ((c4 3 (by omega)).trans ((c3 3 (by omega)).trans d2)) ((c4 4 (by omega)).trans d3) d4, fun S hS => ⟨hos.1, hos.2.1, hos.2.2, by omega, fun k hk' => hk k (by omega)⟩⟩

theorem Nw.at_ {w : World} {B q T N : Nat} {X : List Nat} {n : Nat} {A : Option Addr} {c : Nat} (h : Nw w B q T N X n A c) {i : Nat} (hi : i < n) : ∃ g, A = some ⟨g, 0, none⟩ ∧ g < w.heap.size ∧ n ≤ c ∧ w.cell? ⟨g, i, none⟩ = some (.int .i64 ((X.getD i 0 : Nat) : Int)) := by
  have hl := h.len
  rcases h.row.2 with ⟨_, h0⟩ | ⟨g, cap, cur, e, hb, hh, hcap, _⟩
  · omega
  · simp only [Value.slice.injEq] at e
    obtain ⟨rfl, _, rfl⟩ := e
    refine ⟨g, rfl, by (rcases Nat.lt_or_ge g w.heap.size with h' | h'; exact h'; rw [Array.getElem?_eq_none h'] at hh; simp at hh), hcap, ?_⟩
    rw [h.row.cellAt i (by omega)]
    simp [ints, List.getD_eq_getElem?_getD, List.getElem?_eq_getElem (show i < X.length by omega)]

theorem below_drewN (w : World) (n : Nat) : Below w.heap.size w (w.drewN n) := ⟨rfl, rfl, rfl, Nat.le_refl _, fun _ _ => rfl⟩
theorem bits_and1 (v : Int) : bits .and .u64 v 1 = v % 2 := by
  have h1 : bits .and .u64 v 1 = IntKind.u64.wrap ((((v % 2 ^ 64).toNat &&& 1 : Nat)) : Int) := by
    show IntKind.u64.wrap (((BitVec.ofInt 64 v &&& BitVec.ofInt 64 1).toNat : Nat) : Int) = _
    rw [BitVec.toNat_and, BitVec.toNat_ofInt, BitVec.toNat_ofInt]
    rfl
  rw [h1, Nat.and_one_is_mod]
  have : IntKind.u64.wrap (((v % 2 ^ 64).toNat % 2 : Nat) : Int) = (((v % 2 ^ 64).toNat % 2 : Nat) : Int) % 2 ^ 64 := by
    simp [IntKind.wrap, IntKind.bits, IntKind.signed]
  rw [this]
  omega
theorem idx_get (subj : Bs) (a : Nat) (h0 : a ≠ 0) (h : a ≤ subj.length) (hh : a - 1 < (bs subj).size) : ((bs subj)[a - 1]'hh).toNat = byteN subj a := by
  have : ∀ i (hi : i < (bs subj).size), (bs subj)[i]'hi = subj.getD i 0 := fun i hi => by
    have : i < subj.length := by simpa [bs, ByteArray.size] using hi
    simp only [List.getD_eq_getElem?_getD, List.getElem?_eq_getElem this, Option.getD_some]
    rfl
  rw [this]; rfl
theorem bit_word (c : Nat) (hc : c < 256) (sk s0 s1 s2 s3 nx ot : Int) : ∃ i r : Nat, i < 4 ∧ r < 64 ∧ IntKind.u8.wrap ((c : Int) / 64) = (i : Int) ∧ (c : Int).tmod 64 = (r : Int) ∧ bitS ⟨sk, s0, s1, s2, s3, nx, ot⟩ c = ((wordN ⟨sk, s0, s1, s2, s3, nx, ot⟩ i / 2 ^ r) % 2 == 1) := by
  refine ⟨c / 64, c % 64, by omega, by omega, ?_, ?_, rfl⟩
  · rw [IntKind.wrap_u8]; omega
  · rw [Int.tmod_eq_emod_of_nonneg (by omega)]; omega
set_option maxRecDepth 100000 in
set_option maxHeartbeats 8000000 in
theorem has_any (w : World) (ok : Nat → Prop) (l : List St) (sa : Int) (A : Option Addr) (c : Nat) (hA : StsAt w ok l A c) (hok : ∀ b, ok b → b < w.heap.size) (subj : Bs) :
    Calls Tryz.prog 13 #[nfaV l sa A c, .string (bs subj)] w fun en w' => en = .returned (.tuple #[.bool (hasF l sa subj).1, .int .i64 (hasF l sa subj).2.1, .int .i64 (hasF l sa subj).2.2]) ∧ Below w.heap.size w w' := by
  have HA := Lib.hid hA; have Hok := Lib.hid hok; clear hA hok
  go_enter Tryz.func13, Tryz.ntmps13
  go_wp2_with fail
  generalize hW : w.alloc _ = W0
  have hB0 : Below w.heap.size w W0 := by subst hW; exact (Below.refl _ _).alloc (Nat.le_refl _) _
  have hz0 : w.heap.size < W0.heap.size := by subst hW; simp
  have P0 : At2 W0 w.heap.size (.slice A l.length c) sa := by subst hW; constructor <;> simp [go_sem]
  clear hW
  obtain ⟨p0, p1⟩ := id P0
  go_step3
  go_wp2_with fail
  clear p0 p1
  refine (ncheck_any W0 ok l sa A c (HA.out.later hB0 Hok.out) (fun b h => by have := Hok.out b h; omega)).mono ?_
  rintro en w1 ⟨rfl, hb1⟩
  have hz1 := hb1.size
  have hB1 := hB0.trans (hb1.mono (by omega))
  have P1 := P0.later hb1 hz0
  clear P0 hB0
  by_cases hck : mcheck l sa = 0
  case' neg =>
    have hres : hasF l sa subj = (false, 0, mcheck l sa) := if_pos hck
    have Hres := Lib.hid hres
    have hb : (mcheck l sa != 0) = true := by rw [bne_iff_ne]; exact hck
    clear hres hck
    go_wp2_with fail
    try rw [Exit.noGoto_ret]
    exact bodyPost_ret (v := .tuple #[.bool false, .int .i64 0, .int .i64 (mcheck l sa)]) (by simp [results, Tryz.results13, go_sem]) rfl ⟨by rw [Hres.out], hB1⟩
  have hb : (mcheck l sa != 0) = false := by rw [hck]; rfl
  by_cases hlong : 65536 < subj.length
  · have hres : hasF l sa subj = (false, 0, 3) := by rw [hasF, if_neg (by simpa using hck), if_pos hlong]
    have Hres := Lib.hid hres
    clear hres hck
    go_wp2_with fail
    try rw [Exit.noGoto_ret]
    exact bodyPost_ret (v := .tuple #[.bool false, .int .i64 0, .int .i64 3]) (by simp [results, Tryz.results13, go_sem]) rfl ⟨by rw [Hres.out], hB1⟩
  have hres : hasF l sa subj = ((overF l sa subj (subj.length + 1) 0 [] 0).1, (overF l sa subj (subj.length + 1) 0 [] 0).2, 0) := by rw [hasF, if_neg (by simpa using hck), if_neg hlong]
  have Hres := Lib.hid hres
  have hm := mok_of hck
  have HM := Lib.hid hm
  have hl1 := hm.len
  have hl0 : 0 < l.length := by have := hm.start; omega
  clear hres hck hm
  have hmk := run_make_row' (P := Tryz.prog) 60 4 (.bool false) 1 Tryz.underlying60 Tryz.infoBool rfl .i64 .i64 l.length (by omega) (by omega)
  obtain ⟨p0, p1⟩ := id P1
  have hz01 : w.heap.size < w1.heap.size := by omega
  have hb0 := hB1.size
  go_upto_region 6 with fail
  go_cut [8] (fun v wx => ∃ (q T1 T2 : Nat), v = .pointer (some ⟨q, 0, none⟩) ∧ HR wx w1.heap.size q T1 T2 l sa A c false false [] 0 none 0 [] 0 none 0 ∧ Below w1.heap.size w1 wx)
  case first =>
    go_region
    all_goals go_wp2_with fail
    all_goals go_meet
    all_goals first
      | exact ⟨_, _, _, rfl, hr_start w1 l sa A c w1.heap.size (w1.heap.size + 1) (.inl ⟨rfl, rfl⟩)⟩
      | exact ⟨_, _, _, rfl, hr_start w1 l sa A c (w1.heap.size + 1) w1.heap.size (.inr ⟨rfl, rfl⟩)⟩
  case rest =>
    obtain ⟨q, T1, T2, rfl, hH, hBc⟩ := hcut
    clear hmk p0 p1
    have HH := Lib.hid hH; clear hH
    have hzc := hBc.size
    go_wp2_with fail
    try go_step3
    go_wp2_with fail
    obtain ⟨st, rfl⟩ : ∃ st : Nat, sa = st := ⟨sa.toNat, by have := HM.out.s0; omega⟩
    have hst := HM.out.s1
    go_loopg [9, 10, 11] (subj.length + 1) (fun k v9 v10 v11 wr => ∃ (a s T1 T2 : Nat) (X : List Nat) (n : Nat) (A1 : Option Addr) (c1 : Nat) (A2 : Option Addr) (c2 : Nat) (b e : Bool), v9 = .int .i64 (s : Int) ∧ v10 = .bool false ∧ v11 = .int .i64 (a : Int) ∧ a + k = subj.length + 1 ∧ s ≤ a * 5000 ∧ overF l st subj (subj.length + 1 - a) a X s = overF l st subj (subj.length + 1) 0 [] 0 ∧ HR wr w1.heap.size q T1 T2 l st A c b e X n A1 c1 [] 0 A2 c2 ∧ (a = 0 → X = []) ∧ Below w1.heap.size w1 wr)
    case atStart => exact ⟨0, 0, T1, T2, [], 0, none, 0, none, 0, false, false, rfl, rfl, rfl, by omega, by omega, rfl, HH.out, fun _ => rfl, hBc⟩
    case round =>
      clear HH hBc hzc
      obtain ⟨a, s, T1, T2, X, n, A1, c1, A2, c2, b, e, rfl, rfl, rfl, hak, hs, hov, hH, h0, hBr⟩ := hrel
      have hzr := hBr.size
      obtain ⟨p0, p1⟩ := P1.later hBr hz01
      have Hov := Lib.hid hov; have H0 := Lib.hid h0
      clear hov h0
      by_cases hle : a ≤ subj.length
      case' pos =>
        have e3 := hH.m6; have e4 := hH.m7; have z3 := hH.z 6; have z4 := hH.z 7
        have lq := hH.next.lq
        have HH := Lib.hid hH
        clear hH
        go_upto_region 12 with fail
        have hfl := HH.out.flags ((a : Int) == 0) ((a : Int) == (subj.length : Int))
        have hbe : Below w1.heap.size wr ((wr.setCell ⟨q, 6, none⟩ (.bool ((a : Int) == 0))).setCell ⟨q, 7, none⟩ (.bool ((a : Int) == (subj.length : Int)))) := by
          have hq1 : w1.heap.size ≤ q := HH.out.Bq
          exact ⟨rfl, rfl, rfl, by simp, fun k hk => (Below.heap_setCell _ _ _ _ (by show k ≠ q; omega)).trans (Below.heap_setCell _ _ _ _ (by show k ≠ q; omega))⟩
        rw [show ((a : Int) == 0) = (a == 0) from by rw [Bool.eq_iff_iff]; simp, show ((a : Int) == (subj.length : Int)) = (a == subj.length) from by rw [Bool.eq_iff_iff]; simp <;> omega] at hfl hbe
        rw [show ((a : Int) == 0) = (a == 0) from by rw [Bool.eq_iff_iff]; simp, show ((a : Int) == (subj.length : Int)) = (a == subj.length) from by rw [Bool.eq_iff_iff]; simp <;> omega]
        have hstep : stepF l st subj a X = X.foldl (eatF l (a == 0) (a == subj.length) (byteN subj a)) (addF l (a == 0) (a == subj.length) [] st) := by rw [stepF, Int.toNat_natCast]
        have Hstep := Lib.hid hstep
        clear hstep
        generalize hW : (wr.setCell _ _).setCell _ _ = W2 at *
        generalize (a == 0) = b1 at *
        generalize (a == subj.length) = e1 at *
        have hB2 := hBr.trans hbe
        have hz2 := hB2.size
        clear hW HH e3 e4 z3 z4 hBr hbe p0 p1 hzr lq
        obtain ⟨p0, p1⟩ := P1.later hB2 hz01
        have HH := Lib.hid hfl
        clear hfl
        go_wp2_with fail
        refine (add_par W2 w1.heap.size q T2 w1.heap.size l st HM.out ok A c b1 e1 (HA.out.later (hB1.trans (hB2.mono hb0)) Hok.out) (fun k hk => by have := Hok.out k hk; omega) HH.out.Bq HH.out.BT2 (Nat.le_refl _) HH.out.m0 HH.out.m6 HH.out.m7 [] 0 A2 c2 HH.out.next st (by omega)).mono ?_
        rintro en w3 ⟨rfl, n3, A3, c3, h3, hv3⟩
        have hH3 := HH.out.step h3 hv3
        have hB3 := hB2.trans (hv3.below HH.out.Bq HH.out.BT2 (fun k hk => (HH.out.next.own_le k hk).1) hz2)
        have hz3 := hB3.size
        have f2 := hH3.now.f2
        have hnl : n ≤ l.length := by rw [← hH3.now.len]; exact nodup_le hH3.now.nd hH3.now.lt
        have HH := Lib.hid hH3
        clear hH3 h3 hv3 p0 p1 hz2
        clear hB2
        obtain ⟨p0, p1⟩ := P1.later hB3 hz01
        go_wp2_with fail
        go_loopg [66] n (fun k v w4 => ∃ (j : Nat) (Y : List Nat) (m : Nat) (A3 : Option Addr) (c3 : Nat), v = .int .i64 (j : Int) ∧ j + k = n ∧ (X.drop j).foldl (eatF l b1 e1 (byteN subj a)) Y = stepF l st subj a X ∧ HR w4 w1.heap.size q T1 T2 l st A c b1 e1 X n A1 c1 Y m A3 c3 ∧ Below w1.heap.size w1 w4)
        case atStart => exact ⟨0, _, _, _, _, rfl, by omega, by rw [Hstep.out]; rfl, HH.out, hB3⟩
        case round =>
          clear HH hB3 hz3 p0 p1
          obtain ⟨j, Y, m, A3, c3, rfl, hjn, hfo, hH, hB4⟩ := hrel
          have Hfo := Lib.hid hfo
          clear hfo
          obtain ⟨p0, p1⟩ := P1.later hB4 hz01
          have hz4 := hB4.size
          by_cases hlt : j < n
          case' pos =>
            obtain ⟨g, rfl, hg, hnc, hcell⟩ := hH.now.at_ hlt
            have hx : X.getD j 0 < l.length := hH.now.lt _ (by rw [List.getD_eq_getElem?_getD, List.getElem?_eq_getElem (by rw [hH.now.len]; exact hlt)]; exact List.getElem_mem _)
            have hXl := hH.now.len
            have hdrop : X.drop j = X.getD j 0 :: X.drop (j + 1) := by
              rw [List.drop_eq_getElem_cons (by omega), List.getD_eq_getElem?_getD, List.getElem?_eq_getElem (by omega)]; rfl
            have ha0 : a ≠ 0 := fun e => by rw [H0.out e] at hXl; simp at hXl; omega
            obtain ⟨gm, om, rfl, hgm, hst7⟩ := (HA.out.later (hB1.trans (hB4.mono hb0)) Hok.out).at_ hl0
            have hgl := Hok.out gm hgm
            have hstx := hst7 (X.getD j 0) hx
            have hsN : l[X.getD j 0] = stN l (X.getD j 0) := by unfold stN; rw [List.getD_eq_getElem?_getD (l := l), List.getElem?_eq_getElem hx]; rfl
            rw [hsN] at hstx
            have hcap := HA.out.cap
            have hfo := Hfo.out
            rw [hdrop, List.foldl_cons] at hfo
            have hnx := fun hk => HM.out.next hx hk
            have hnx2 : (stN l (X.getD j 0)).k = 1 → (stN l (X.getD j 0)).nx = ((stN l (X.getD j 0)).nx.toNat : Int) := fun hk => by rcases HM.out.kinds hx with h | ⟨_, h, _⟩ | ⟨h, _⟩ <;> omega
            have HH := Lib.hid hH; have Hfo := Lib.hid hfo
            clear hH hfo hst7 hsN hdrop hXl
            unfold eatF at Hfo
            generalize hxe : X.getD j 0 = x at *
            generalize stN l x = sx at *
            obtain ⟨sk, s0, s1, s2, s3, nx, ot⟩ := sx
            obtain ⟨f0, f1, f2, f3, f4, f5, f6⟩ := hstx
            simp only at f0 f1 f2 f3 f4 f5 f6 hnx hnx2
            have hgw : gm < wr.heap.size := by omega
            clear hxe
            have Hnx := Lib.hid hnx; have Hnx2 := Lib.hid hnx2
            clear hnx hnx2
            go_upto_region 17 with fail
            generalize hW : wr.alloc _ = W5
            have hb5 : Below wr.heap.size wr W5 := by subst hW; exact (Below.refl _ _).alloc (Nat.le_refl _) _
            have b0 : W5.cell? ⟨wr.heap.size, 0, none⟩ = some (.int .i64 sk) := by subst hW; simp [go_sem]
            have b1' : W5.cell? ⟨wr.heap.size, 1, none⟩ = some (.int .u64 s0) := by subst hW; simp [go_sem]
            have b2 : W5.cell? ⟨wr.heap.size, 2, none⟩ = some (.int .u64 s1) := by subst hW; simp [go_sem]
            have b3 : W5.cell? ⟨wr.heap.size, 3, none⟩ = some (.int .u64 s2) := by subst hW; simp [go_sem]
            have b4 : W5.cell? ⟨wr.heap.size, 4, none⟩ = some (.int .u64 s3) := by subst hW; simp [go_sem]
            have b5 : W5.cell? ⟨wr.heap.size, 5, none⟩ = some (.int .i64 nx) := by subst hW; simp [go_sem]
            have lb : wr.heap.size < W5.heap.size := by subst hW; simp
            have hH5 := HH.out.later hb5
            have hB5 := hB4.trans (hb5.mono hz4)
            clear hW hb5 f0 f1 f2 f3 f4 f5 f6 p0 p1 HH hB4
            obtain ⟨p0, p1⟩ := P1.later hB5 hz01
            have HH := Lib.hid hH5
            clear hH5
            by_cases hk : sk = 1
            case' neg =>
              have ht : takes ⟨sk, s0, s1, s2, s3, nx, ot⟩ (byteN subj a) = false := by
                have : (sk == 1) = false := by simpa using hk
                unfold takes; rw [show (⟨sk, s0, s1, s2, s3, nx, ot⟩ : St).k = sk from rfl, this]; rfl
              have hfo : (X.drop (j + 1)).foldl (eatF l b1 e1 (byteN subj a)) Y = stepF l st subj a X := by
                have := Hfo.out
                rwa [if_neg (by rw [ht]; simp)] at this
              clear Hfo
              have Hfo := Lib.hid hfo
              clear hfo ht
              have hkb : (sk == 1) = false := by simpa using hk
              clear hk
              go_quiet (fail)
              go_wp2_with fail
              go_roundg (gk - 1)
              case measure => omega
              case rel => exact ⟨j + 1, _, _, _, _, by go_num, by omega, Hfo.out, HH.out.later (below_drewN _ _), hB5.trans ((below_drewN _ _).mono (by omega))⟩
            case' pos =>
              subst hk
              have hidx : ∀ hh, ((bs subj)[a - 1]'hh).toNat = byteN subj a := idx_get subj a ha0 hle
              have ha5 : (1 : Int) ≤ (a : Int) := by omega
              have hcl : byteN subj a < 256 := by unfold byteN; exact UInt8.toNat_lt _
              obtain ⟨wi, wr', hi4, hr64, hqu, hre, hbw⟩ := bit_word (byteN subj a) hcl 1 s0 s1 s2 s3 nx ot
              have htk : takes ⟨1, s0, s1, s2, s3, nx, ot⟩ (byteN subj a) = bitS ⟨1, s0, s1, s2, s3, nx, ot⟩ (byteN subj a) := rfl
              have hfo := Hfo.out
              rw [htk, hbw] at hfo
              clear Hfo
              have Hfo := Lib.hid hfo
              clear hfo htk hbw
              generalize hword : wordN ⟨1, s0, s1, s2, s3, nx, ot⟩ wi = wd at *
              have bw : W5.cell? ⟨wr.heap.size, 1 + wi, none⟩ = some (.int .u64 wd) := by
                subst hword
                rcases (by omega : wi = 0 ∨ wi = 1 ∨ wi = 2 ∨ wi = 3) with rfl | rfl | rfl | rfl
                · exact b1'
                · exact b2
                · exact b3
                · exact b4
              clear hword b1' b2 b3 b4
              have hand := bits_and1 (wd / 2 ^ wr')
              have ha1 : 0 ≤ (a : Int) - 1 := by omega
              have ha2 : (a : Int) - 1 < (subj.length : Int) := by omega
              have ha3 : (bs subj).size = subj.length := by simp [bs, ByteArray.size]
              have hwr : IntKind.i64.wrap ((a : Int) - 1) = (a : Int) - 1 := IntWalk.i64_in _ (by omega)
              by_cases hbit : wd / 2 ^ wr' % 2 = 1
              case' neg =>
                have hbb : (wd / 2 ^ wr' % 2 == 1) = false := by simpa using hbit
                have hfo : (X.drop (j + 1)).foldl (eatF l b1 e1 (byteN subj a)) Y = stepF l st subj a X := by
                  have := Hfo.out
                  rwa [if_neg (by rw [hbb]; simp)] at this
                clear Hfo
                have Hfo := Lib.hid hfo
                clear hfo
                go_quiet (fail)
                go_wp2_with fail
                go_roundg (gk - 1)
                case measure => omega
                case rel => exact ⟨j + 1, _, _, _, _, by go_num, by omega, Hfo.out, HH.out.later (below_drewN _ _), hB5.trans ((below_drewN _ _).mono (by omega))⟩
              case' pos =>
                have hbb : (wd / 2 ^ wr' % 2 == 1) = true := by simpa using hbit
                have hfo : (X.drop (j + 1)).foldl (eatF l b1 e1 (byteN subj a)) (addF l b1 e1 Y nx.toNat) = stepF l st subj a X := by
                  have := Hfo.out
                  rwa [if_pos (by rw [hbb])] at this
                clear Hfo
                have Hfo := Lib.hid hfo
                clear hfo
                have hn1 := Hnx.out rfl
                go_quiet (fail)
                obtain ⟨xn, rfl⟩ : ∃ xn : Nat, nx = xn := ⟨nx.toNat, Hnx2.out rfl⟩
                have Hb5 := Lib.hid b5
                clear hbit hbb hand hwr ha1 ha2 ha3 ha5 hidx hqu hre bw
                go_wp2_with fail
                refine (add_par (W5.drewN nq) w1.heap.size q T2 w1.heap.size l st HM.out ok (some ⟨gm, om, none⟩) c b1 e1 (HA.out.later (hB1.trans ((hB5.trans ((below_drewN _ _).mono (by omega))).mono hb0)) Hok.out) (fun k hk => by have := Hok.out k hk; omega) HH.out.Bq HH.out.BT2 (Nat.le_refl _) HH.out.m0 HH.out.m6 HH.out.m7 Y m A3 c3 (HH.out.later (below_drewN _ _)).next xn (by simpa using hn1)).mono ?_
                rintro en w6 ⟨rfl, n6, A6, c6, h6, hv6⟩
                have hH6 := (HH.out.later (below_drewN W5 nq)).step h6 hv6
                have hB6 := (hB5.trans ((below_drewN W5 nq).mono (by omega))).trans (hv6.below HH.out.Bq HH.out.BT2 (fun k hk => (HH.out.next.own_le k hk).1) (by show _ ≤ W5.heap.size; omega))
                have HH := Lib.hid hH6
                clear hH6 h6 hv6
                go_wp2_with fail
                go_roundg (gk - 1)
                case measure => omega
                case rel => exact ⟨j + 1, _, _, _, _, by go_num, by omega, by simpa using Hfo.out, HH.out, hB6⟩
          case' neg =>
            have hYs : Y = stepF l st subj a X := by
              rw [← Hfo.out, List.drop_eq_nil_of_le (by rw [hH.now.len]; omega)]; rfl
            have hml : m ≤ l.length := by rw [← hH.next.len]; exact nodup_le hH.next.nd hH.next.lt
            have hYm := hH.next.len
            have f4 := hH.next.f4
            have hover : overF l st subj (subj.length + 1 - a) a X s = if doneF l Y = true then (true, (s : Int) + m) else overF l st subj (subj.length - a) (a + 1) Y ((s : Int) + m) := by
              rw [show subj.length + 1 - a = (subj.length - a) + 1 by omega, overF, ← hYs, hYm]
            have hov := Hov.out
            rw [hover] at hov
            have HH := Lib.hid hH; have Hov := Lib.hid hov; have HYs := Lib.hid hYs
            have hs2 : s + m ≤ (a + 1) * 5000 := by omega
            have HYm := Lib.hid hYm
            clear hH hov hYs hover hYm Hstep Hfo
            go_wp2_with fail
            generalize hwr : wr = wv at *
            go_loopg [10, 115] m (fun k v10 v wq => ∃ i : Nat, v10 = .bool false ∧ v = .int .i64 (i : Int) ∧ i + k = m ∧ wq = wv ∧ ∀ p, p < i → (stN l (Y.getD p 0)).k ≠ 5)
            case atStart => exact ⟨0, rfl, rfl, by omega, rfl, fun _ h => by omega⟩
            case round =>
              obtain ⟨i, rfl, rfl, him, rfl, hno⟩ := hrel
              have Hno := Lib.hid hno
              clear hno
              by_cases hlt2 : i < m
              case' pos =>
                obtain ⟨g, rfl, hg, hnc, hcell⟩ := HH.out.next.at_ hlt2
                have hx : Y.getD i 0 < l.length := HH.out.next.lt _ (by rw [List.getD_eq_getElem?_getD, List.getElem?_eq_getElem (by rw [HH.out.next.len]; exact hlt2)]; exact List.getElem_mem _)
                obtain ⟨gm, om, rfl, hgm, hst7⟩ := (HA.out.later (hB1.trans (hB4.mono hb0)) Hok.out).at_ hl0
                have hgl := Hok.out gm hgm
                have hstx := hst7 (Y.getD i 0) hx
                have hsN : l[Y.getD i 0] = stN l (Y.getD i 0) := by unfold stN; rw [List.getD_eq_getElem?_getD (l := l), List.getElem?_eq_getElem hx]; rfl
                rw [hsN] at hstx
                have hcap := HA.out.cap
                have f0 := hstx.f0
                clear hst7 hsN hstx
                generalize hxe : Y.getD i 0 = x at *
                have Hxe := Lib.hid hxe
                clear hxe
                by_cases hk5 : (stN l x).k = 5
                case' pos =>
                  have hdone : doneF l Y = true := by
                    unfold doneF
                    rw [List.any_eq_true]
                    have hil : i < Y.length := by rw [HH.out.next.len]; exact hlt2
                    refine ⟨Y[i], List.getElem_mem _, ?_⟩
                    rw [← Hxe.out, List.getD_eq_getElem?_getD, List.getElem?_eq_getElem hil] at hk5
                    simpa using hk5
                  have hov := Hov.out
                  rw [if_pos hdone] at hov
                  have Hov := Lib.hid hov
                  rw [hk5] at f0
                  clear hov hdone hk5
                  go_wp2_with fail
                  rw [Exit.noGoto_ret]
                  exact bodyPost_ret (v := .tuple #[.bool true, .int .i64 ((s : Int) + m), .int .i64 0]) (by simp [results, Tryz.results13, go_sem]) rfl ⟨by rw [Hres.out, ← Hov.out], hB1.trans (hB4.mono hb0)⟩
                case' neg =>
                  have hk5b : ((stN l x).k == 5) = false := by simpa using hk5
                  have Hk5 := Lib.hid hk5
                  clear hk5
                  go_wp2_with fail
                  go_roundg (gk - 1)
                  case measure => omega
                  case rel => exact ⟨i + 1, rfl, by go_num, by omega, rfl, fun p hp => by (by_cases e9 : p = i; (subst e9; rw [Hxe.out]; exact Hk5.out); exact Hno.out p (by omega))⟩
              case' neg =>
                have hdone : doneF l Y = false := by
                  unfold doneF
                  rw [List.any_eq_false]
                  intro y hy
                  obtain ⟨p, hp, rfl⟩ := List.getElem_of_mem hy
                  have := Hno.out p (by rw [← HYm.out] at hlt2; omega)
                  rw [List.getD_eq_getElem?_getD, List.getElem?_eq_getElem hp] at this
                  simpa using this
                have hov := Hov.out
                rw [if_neg (by rw [hdone]; simp)] at hov
                clear Hov
                have Hov := Lib.hid hov
                clear hov hdone
                have f2 := HH.out.now.f2; have f3 := HH.out.now.f3; have f4 := HH.out.next.f4; have f5 := HH.out.next.f5
                have z2 := HH.out.z 2; have z3 := HH.out.z 3; have z4 := HH.out.z 4; have z5 := HH.out.z 5
                have lq := HH.out.next.lq
                go_upto_region 27 with fail
                go_cut [8] (fun v wx => v = .pointer (some ⟨q, 0, none⟩) ∧ HR wx w1.heap.size q T2 T1 l st A c b1 e1 Y m A3 c3 X n A1 c1 ∧ Below w1.heap.size w1 wx)
                case first =>
                  go_region
                  all_goals go_wp2_with fail
                  all_goals go_meet
                  all_goals exact ⟨rfl, (hr_swapped HH.out).1, hB4.trans ((hr_swapped HH.out).2 _ HH.out.Bq)⟩
                case rest =>
                  obtain ⟨rfl, hH, hBc⟩ := hcut
                  clear f2 f3 f4 f5 z2 z3 z4 z5 lq
                  have HH := Lib.hid hH
                  clear hH
                  have hzc := hBc.size
                  go_wp2_with fail
                  refine (empty_any wc w1.heap.size q T1 l.length X n A1 c1 HH.out.next hl0 (by omega)).mono ?_
                  rintro en w7 ⟨rfl, h7, hv7⟩
                  have hH7 := HH.out.step h7 hv7
                  have hB7 := hBc.trans (hv7.below HH.out.Bq HH.out.BT2 (fun k hk => (HH.out.next.own_le k hk).1) hzc)
                  clear HH
                  have HH := Lib.hid hH7
                  clear hH7 h7 hv7
                  go_wp2_with fail
                  go_roundg (subj.length - a)
                  case measure => omega
                  case rel => exact ⟨a + 1, s + m, T2, T1, Y, m, A3, c3, A1, c1, b1, e1, by go_num, rfl, by go_num, by omega, hs2, by rw [show subj.length + 1 - (a + 1) = subj.length - a by omega]; exact Hov.out, HH.out, fun h => by omega, hB7⟩
      case' neg =>
        have hae : a = subj.length + 1 := by omega
        have hov := Hov.out
        rw [show subj.length + 1 - a = 0 by omega, overF] at hov
        have Hov := Lib.hid hov
        clear hov hH hae
        go_wp2_with fail
        rw [Exit.noGoto_ret]
        exact bodyPost_ret (v := .tuple #[.bool false, .int .i64 (s : Int), .int .i64 0]) (by simp [results, Tryz.results13, go_sem]) rfl ⟨by rw [Hres.out, ← Hov.out], hB1.trans (hBr.mono hb0)⟩
end Go.Proofs.YteekafkpeimhoaaGreat

