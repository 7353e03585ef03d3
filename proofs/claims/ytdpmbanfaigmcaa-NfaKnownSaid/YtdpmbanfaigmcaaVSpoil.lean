/- SpoilNfa: walked. -/
import Derived.Test.YtdpmbanfaigmcaaVLentN
set_option linter.unusedVariables false
set_option linter.unusedSimpArgs false
namespace Go.Proofs.Ytdpmbanfaigmcaa
open Go.RowKit

/-- Nothing old is touched but one block. -/
structure Spoils (r : Option Nat) (w w' : World) : Prop where
  os : w'.os = w.os
  tape : w'.tape = w.tape
  output : w'.output = w.output
  size : w.heap.size ≤ w'.heap.size
  block : ∀ k, k < w.heap.size → some k ≠ r → w'.heap[k]? = w.heap[k]?
theorem Spoils.grown {r row : Option Nat} {w W W' : World} (h : Spoils r w W) (hg : W.grownBy W' row) (hr : ∀ k, row = some k → r = some k ∨ w.heap.size ≤ k) : Spoils r w W' :=
  ⟨hg.os.trans h.os, hg.tape.trans h.tape, hg.output.trans h.output, Nat.le_trans h.size hg.size, fun k hk hne => (hg.block k (Nat.lt_of_lt_of_le hk h.size) (fun e => by
    rcases hr k e.symm with h1 | h1
    · exact hne h1.symm
    · omega)).trans (h.block k hk hne)⟩
theorem Spoils.set {g : Nat} {w W : World} (h : Spoils (some g) w W) (o : Nat) (u : Value) : Spoils (some g) w (W.setCell ⟨g, o, none⟩ u) :=
  h.grown ⟨rfl, rfl, rfl, by simp, fun k hk hne => Below.heap_setCell _ _ _ _ (fun e => hne (by rw [e]))⟩ (fun k hk => .inl hk)

set_option maxRecDepth 100000 in
set_option maxHeartbeats 4000000 in
theorem spoil_any (w : World) (l : List St) (sa : Int) (base : Nat) (A : Option Addr) (c : Nat) (ho : w.ownsRow base 47 7 (.slice A l.length c) l.length (stCells l)) (hbase : base ≤ w.heap.size) (hl : l.length ≤ 1000000) :
    Calls Try.prog 20 #[nfaV l sa A c] w fun e w' => e = .returned (.tuple #[]) ∧ Spoils (Value.slice A l.length c).ownBlock w w' := by
  go_enter Try.func20, Try.ntmps20
  go_wp2_with fail
  generalize hW : w.alloc _ = W0
  have hS0 : Spoils (Value.slice A l.length c).ownBlock w W0 := by subst hW; exact ⟨rfl, rfl, rfl, by simp, fun k hk _ => (((Below.refl w.heap.size w).alloc (Nat.le_refl _) _).block k hk)⟩
  have hz0 : w.heap.size < W0.heap.size := by subst hW; simp
  have p0 : W0.cell? ⟨w.heap.size, 0, none⟩ = some (.slice A l.length c) := by subst hW; simp [go_sem]
  have ho0 : W0.ownsRow base 47 7 (.slice A l.length c) l.length (stCells l) := by subst hW; exact ho.alloc _
  have hlt0 : ∀ k, (Value.slice A l.length c).ownBlock = some k → k < w.heap.size := fun k hk => (ho.lt k hk).2
  have Hlt0 := Lib.hid hlt0
  clear hW hlt0
  go_loopg [2] (l.length) (fun n i wr => ∃ (j : Nat) (xs : List Value), i = .int .i64 j ∧ j + n = l.length ∧ Spoils (Value.slice A l.length c).ownBlock w wr ∧ w.heap.size < wr.heap.size ∧ wr.cell? ⟨w.heap.size, 0, none⟩ = some (.slice A l.length c) ∧ wr.ownsRow base 47 7 (.slice A l.length c) l.length xs)
  case atStart => exact ⟨0, _, rfl, by omega, hS0, hz0, p0, ho0⟩
  case round =>
    clear hS0 hz0 p0 ho0
    obtain ⟨j, xs, rfl, hj, hS, hz, p0, hor⟩ := hrel
    have Hor := Lib.hid hor; clear hor
    by_cases hlt : j < l.length
    · obtain ⟨g, rfl⟩ : ∃ g, A = some ⟨g, 0, none⟩ := by
        rcases Hor.out.2 with ⟨e, h0⟩ | ⟨g, cap, cur, e, _⟩
        · omega
        · simp only [Value.slice.injEq] at e; exact ⟨g, e.1⟩
      have hxl : xs.length = l.length * 7 := Hor.out.1
      have hc : ∀ k, k < 7 → ∃ u, wr.cell? ⟨g, j * 7 + k, none⟩ = some u := fun k hk => ⟨xs[j * 7 + k]'(by omega), by rw [Hor.out.cellAt _ (by omega), List.getElem?_eq_getElem]⟩
      obtain ⟨x0, f0⟩ := hc 0 (by omega)
      obtain ⟨x1, f1⟩ := hc 1 (by omega)
      obtain ⟨x2, f2⟩ := hc 2 (by omega)
      obtain ⟨x3, f3⟩ := hc 3 (by omega)
      obtain ⟨x4, f4⟩ := hc 4 (by omega)
      obtain ⟨x5, f5⟩ := hc 5 (by omega)
      obtain ⟨x6, f6⟩ := hc 6 (by omega)
      have e0 := Hor.out.frozenAt (j * 7)
      have e1 := Hor.out.frozenAt (j * 7 + 1)
      have e2 := Hor.out.frozenAt (j * 7 + 2)
      have e3 := Hor.out.frozenAt (j * 7 + 3)
      have e4 := Hor.out.frozenAt (j * 7 + 4)
      have e5 := Hor.out.frozenAt (j * 7 + 5)
      have e6 := Hor.out.frozenAt (j * 7 + 6)
      rw [Nat.add_zero] at f0
      have hgne : g ≠ w.heap.size := fun e => by have := Hlt0.out g rfl; omega
      have Hgne := Lib.hid hgne
      clear hc hxl hgne
      go_wp2_with fail
      go_roundg (gk - 1)
      case measure => omega
      case rel =>
        refine ⟨j + 1, _, by go_num, by omega, ((((((hS.set _ _).set _ _).set _ _).set _ _).set _ _).set _ _).set _ _, by simpa using hz, ?_, (((((((Hor.out.stored _ _).1.stored _ _).1.stored _ _).1.stored _ _).1.stored _ _).1.stored _ _).1.stored _ _).1⟩
        have hgne := Hgne.out
        iterate 7 rw [World.cell?_setCell_other (h := by intro e; injection e with e; exact hgne e)]
        exact p0
    · clear Hlt0
      have hj' : (l.length : Int) ≤ (j : Int) := by omega
      go_wp2_with fail
      have hrow0 : ∀ k, (Value.slice A l.length c).ownBlock = some k → (Value.slice A l.length c).ownBlock = some k ∨ w.heap.size ≤ k := fun k hk => .inl hk
      have HS := Lib.hid hS; have Hrow0 := Lib.hid hrow0
      clear hS hrow0 p0 hj'
      go_loopg [3, 4] 8 (fun n lv i W => ∃ (k : Nat) (A2 : Option Addr) (c2 : Nat) (ys : List Value), i = .int .i64 k ∧ k + n = 8 ∧ lv = .slice A2 (l.length + k) c2 ∧ Spoils (Value.slice A l.length c).ownBlock w W ∧ w.heap.size < W.heap.size ∧ W.ownsRow base 47 7 (.slice A2 (l.length + k) c2) (l.length + k) ys ∧
        (∀ b, (Value.slice A2 (l.length + k) c2).ownBlock = some b → (Value.slice A l.length c).ownBlock = some b ∨ w.heap.size ≤ b))
      case atStart => exact ⟨0, A, c, xs, rfl, rfl, rfl, HS.out, hz, Hor.out, Hrow0.out⟩
      case round =>
        clear HS Hor Hrow0 hz
        obtain ⟨k, A2, c2, ys, rfl, hk, rfl, hS, hz, ho2, hrow⟩ := hrel
        have Ho2 := Lib.hid ho2; have HS := Lib.hid hS; have Hrow := Lib.hid hrow
        clear ho2 hS hrow
        by_cases hlt8 : k < 8
        · have hnews : ∀ ad, some (⟨wr.heap.size, 0, none⟩ : Addr) = some ad → ∀ j u, (St.cells ⟨-6, 0, 0, 0, 0, 0, 0⟩)[j]? = some u → (wr.alloc (.cells (St.cells ⟨-6, 0, 0, 0, 0, 0, 0⟩).toArray 47)).cell? (ad.add j) = some u := by
            intro ad e j u hu
            simp only [Option.some.injEq] at e
            subst e
            rw [addr_add, World.cell?_alloc_new, Nat.zero_add]
            simpa using hu
          have Hnews := Lib.hid hnews; clear hnews
          go_wp2_with (at_builtin; refine wpList_append_from base rfl _ _ 33 47 _ 7 56 rfl Try.underlying33 Try.infoState rfl (by omega) (by omega) (.slice A2 (l.length + k) c2) (l.length + k) 1 ys (St.cells ⟨-6, 0, 0, 0, 0, 0, 0⟩) (some ⟨wr.heap.size, 0, none⟩) 1 rfl rfl (by simp) rfl Hnews.out (St.cells_one _) (Ho2.out.alloc _) (by simp; omega) (by omega) (fun A3 c3 w3 ho3 hg3 hat3 => ?_); have Ho3 := Lib.hid ho3; have Hat3 := Lib.hid hat3; have Hg3 := Lib.hid hg3; clear ho3 hat3 hg3)
          go_roundg (gk - 1)
          case measure => omega
          case rel =>
            have hz3 := Hg3.out.size
            simp only [World.size_alloc] at hz3
            refine ⟨k + 1, A3, c3, _, by go_num, by omega, rfl, (HS.out.grown (World.grownBy_alloc _ _ none) (by simp)).grown Hg3.out Hrow.out, by omega, Ho3.out, fun b hb => ?_⟩
            rcases Hat3.out with h | h
            · exact Hrow.out b (h.symm.trans hb)
            · have e2 := hb.symm.trans h
              simp at e2
              exact .inr (by omega)
        · go_wp2_with fail
          go_end0
          exact ⟨rfl, HS.out⟩
end Go.Proofs.Ytdpmbanfaigmcaa
