/- A range over a function whose rounds are counted: no round leaves early; what comes at round k is told by k. -/
import Derived.Test.YtdpmbanfaigmcaaVRep
import Derived.RangeFuncNested
import Derived.RangeFuncBound
import Derived.RangeFuncCalls
import Derived.RangeFuncLeaves
import Derived.Shelf.Abstract
import Derived.Shelf.RegionOpen
import Derived.OwnWalkIn
import Derived.TacticsInMore
import Derived.LoopNIn
import Derived.LoopIn
set_option linter.unusedVariables false
set_option linter.unusedSimpArgs false
namespace Go.Proofs.Ytdpmbanfaigmcaa
open Go.RowKit

/-- A step of a loop's book-keeping: cells, and whatever lay below B, lie as they lay. -/
structure GB (B : Nat) (W W' : World) : Prop where
  os : W'.os = W.os
  tape : W'.tape = W.tape
  output : W'.output = W.output
  size : W.heap.size ≤ W'.heap.size
  keep : ∀ (k : Nat) (o : Obj), W.heap[k]? = some o → (k < B ∨ o.isCells = true) → W'.heap[k]? = some o
theorem GB.refl (B : Nat) (W : World) : GB B W W := ⟨rfl, rfl, rfl, Nat.le_refl _, fun _ _ h _ => h⟩
theorem GB.trans {B : Nat} {X Y Z : World} (h : GB B X Y) (k : GB B Y Z) : GB B X Z :=
  ⟨k.os.trans h.os, k.tape.trans h.tape, k.output.trans h.output, Nat.le_trans h.size k.size, fun i o hi hc => k.keep i o (h.keep i o hi hc) hc⟩
theorem GB.alloc (B : Nat) (W : World) (o : Obj) : GB B W (W.alloc o) :=
  ⟨rfl, rfl, rfl, by simp, fun k o' hk _ => (Below.heap_alloc W o k (Array.getElem?_eq_some_iff.1 hk).1).trans hk⟩
theorem GB.put {B : Nat} {W : World} {l : Nat} {o : Obj} (o' : Obj) (h : W.heap[l]? = some o) (ho : o.isCells = false) (hB : B ≤ l) : GB B W (W.putObj l o') :=
  ⟨rfl, rfl, rfl, by simp, fun k o2 hk hc => by
    by_cases e : k = l
    · subst e
      rw [h] at hk
      cases hk
      rcases hc with hc | hc
      · omega
      · rw [ho] at hc; cases hc
    · exact (World.putObj_heap_other e).trans hk⟩
theorem GB.cell {B : Nat} {W W' : World} (h : GB B W W') {a : Addr} {v : Value} (hc : W.cell? a = some v) : W'.cell? a = some v ∧ W'.frozen? a = W.frozen? a := by
  obtain ⟨o, ho, hoc⟩ := cells_of_cell hc
  have := h.keep _ _ ho (.inr hoc)
  exact ⟨(World.cell?_of_block (by rw [this, ho])).trans hc, World.frozen?_of_block (by rw [this, ho])⟩

/-- What a round must leave. -/
def RoundEnd (B : Nat) (Kp : World → World → Prop) (I : Nat → World → Prop) (k : Nat) (W2 : World) (e : Exit) (W' : World) : Prop := e = .normal ∧ KeepsFrom B W2 W' ∧ Kp W2 W' ∧ I (k + 1) W'
section
variable {F : Fence} {n : Nat} {P : Program}
theorem wpIn_range_idx {g : Operand} {ps : Array Tmp} {assign body : Code} {Q : Exit → Act → World → Prop} {a : Act} {w : World}
    (hro : F.round = none) (h1 : 1 ≤ n) {gf : Nat} {lb : Array Value} (hg : a.eval g = .func (.func gf) #[] lb) (hFg : F.fn gf) (eg : ∀ args w, (callFunc gf args).run P w = .ok (.enter gf args) w)
    {enc : Nat → Array Value} {N : Nat} (hps : ∀ k, (enc k).size = ps.size)
    (I : Nat → World → Prop) (hI : ∀ k W W', I k W → GB w.heap.size W W' → I k W') (h0 : I 0 w)
    (Kp : World → World → Prop) (hKp : ∀ W W', w.heap.size ≤ W.heap.size → GB w.heap.size W W' → Kp W W') (hKt : ∀ {A B C : World}, Kp A B → Kp B C → Kp A C)
    (hseq : ∀ (l : Nat) (J : Nat → World → Prop) (W : World), GB w.heap.size w W →
      (∀ k W1, k < N → J k W1 → YieldAt F (n - 1 - 1) P l (enc k) W1 fun e W' => e = .returned (.bool true) ∧ J (k + 1) W' ∧ Kp W1 W') → J 0 W →
      CallsIn F (n - 1) P gf (#[.func (.yield l) #[] #[]] ++ lb) W fun e W' => (∃ v, e = .returned v) ∧ J N W')
    (hround : ∀ (l k : Nat) (W : World), w.heap.size ≤ l → w.heap.size ≤ W.heap.size → k < N → I k W →
      assign.wpIn (F.inRound l) (n - 1 - 1) P (Exit.then (fun a₁ W1 => KeepsFrom w.heap.size W W1 ∧ Kp W W1 ∧ ∀ W2, GB w.heap.size W1 W2 → body.wpIn (F.inRound l) (n - 1 - 1) P (fun e _ W' => RoundEnd w.heap.size Kp I k W2 e W') a₁ W2) (fun _ _ _ => False))
        { tmps := (ps.zip (enc k)).foldl (fun t (p, v) => t.setIfInBounds p v) a.tmps, defers := [] } W)
    (hdone : ∀ (D : Nat) (W : World), w.heap.size ≤ D → I N W → W.heap[D]? = some (.deferred (some [])) → Q .normal { a with defers := { target := .collected D, args := #[] } :: a.defers } W) :
    (Code.rangeFunc g ps assign body).wpIn F n P Q a w := by
  refine wpIn_rangeFunc ?_
  intro fn hfn
  rw [hro]
  obtain ⟨rec, hrec⟩ : ∃ rec : LoopState → Option Code → Loop, rec = fun st pe => { state := st, pending := pe, fn, tmps := a.tmps, params := ps, assign, body, defers := w.heap.size } := ⟨_, rfl⟩
  obtain ⟨W1, hW1⟩ : ∃ W1, (w.alloc (.deferred (some []))).alloc (.loop (rec .ready none)) = W1 := ⟨_, rfl⟩
  have hL1 : W1.heap[w.heap.size + 1]? = some (.loop (rec .ready none)) := by
    rw [← hW1]; have := World.alloc_heap_new (w.alloc (.deferred (some []))) (.loop (rec .ready none)); rwa [World.size_alloc] at this
  have hK1 : W1.heap[w.heap.size]? = some (.deferred (some [])) := by
    rw [← hW1]; exact (Below.heap_alloc _ _ _ (by simp)).trans (World.alloc_heap_new w _)
  have hG1 : GB w.heap.size w W1 := by rw [← hW1]; exact (GB.alloc _ _ _).trans (GB.alloc _ _ _)
  refine ⟨w.heap.size + 1, [{ target := .collected w.heap.size, args := #[] }], W1, { target := .fn (.func gf) lb, args := #[.func (.yield (w.heap.size + 1)) #[] #[]] }, W1, gf,
    #[.func (.yield (w.heap.size + 1)) #[] #[]] ++ lb, W1, ?_, ?_, ?_, ?_, fun _ => h1, ?_⟩
  · rw [← hW1, hrec]; exact run_enterLoop_outer _ _ _ _ _
  · simp only [resolve, hg]
    simp [go_sem]
  · intro f' hf'; simp [Target.leads] at hf'; subst hf'; exact hFg
  · simp [invoke, go_sem, eg]
  · refine (hseq (w.heap.size + 1) (fun k W => (w.heap.size ≤ W.heap.size ∧ I k W) ∧ W.heap[w.heap.size + 1]? = some (.loop (rec .ready none)) ∧ W.heap[w.heap.size]? = some (.deferred (some []))) W1 hG1 ?_ ⟨⟨hG1.size, hI _ _ _ h0 hG1⟩, hL1, hK1⟩).mono ?_
    · rintro k W hk ⟨⟨hzs, hi⟩, hl, hd⟩
      have hy := run_yield (P := P) (args := enc k) hl (by rw [hrec]; exact hps k)
      rw [hrec] at hy
      refine ⟨fn, _, assign, body, hy, roundIn_of_wpIn hfn ?_⟩
      refine wpIn_mono (hround (w.heap.size + 1) k W (by omega) hzs hk hi) ?_
      intro e a1 Wa hq
      cases e with
      | exit id => exact hq.elim
      | goto t => exact hq.elim
      | ret => exact hq.elim
      | panic ch => exact hq.elim
      | outgrown => exact hq.elim
      | normal =>
        obtain ⟨hka, hpa, hbody⟩ := hq
        have hl2 := hka.same _ _ (by omega) hl rfl
        have hd2 := hka.same _ _ (Nat.le_refl _) hd rfl
        refine ⟨_, run_beginRound hl2 (by rw [hrec]), ?_⟩
        have hg2 : GB w.heap.size Wa (Wa.putObj (w.heap.size + 1) (.loop { rec .ready none with state := .busy })) := GB.put _ hl2 rfl (by omega)
        have hl3 : (Wa.putObj (w.heap.size + 1) (.loop { rec .ready none with state := .busy })).heap[w.heap.size + 1]? = some (.loop { rec .ready none with state := .busy }) := World.putObj_heap_same (Array.getElem?_eq_some_iff.1 hl2).1
        have hd3 : (Wa.putObj (w.heap.size + 1) (.loop { rec .ready none with state := .busy })).heap[w.heap.size]? = some (.deferred (some [])) := (World.putObj_heap_other (by omega)).trans hd2
        refine wpIn_mono (hbody _ hg2) ?_
        rintro e a2 Wb ⟨rfl, hkb, hpb, hib⟩
        have hl4 := hkb.same _ _ (by omega) hl3 rfl
        have hd4 := hkb.same _ _ (Nat.le_refl _) hd3 rfl
        have hg4 : GB w.heap.size Wb (Wb.putObj (w.heap.size + 1) (.loop { rec .ready none with state := .ready, pending := none })) := GB.put _ hl4 rfl (by omega)
        have hend := run_endRound (P := P) none hl4
        have hsz : w.heap.size ≤ Wb.heap.size := by have h2 := hka.size; have h3 := hkb.size; simp only [World.putObj_size] at h3; omega
        have hza : w.heap.size ≤ Wa.heap.size := by have h2 := hka.size; omega
        refine ⟨_, _, hend, rfl, ⟨⟨by simpa using hsz, hI _ _ _ hib (by simpa using hg4)⟩, ?_, ?_⟩, ?_⟩
        · refine (World.putObj_heap_same (Array.getElem?_eq_some_iff.1 hl4).1).trans ?_
          rw [hrec]; rfl
        · exact (World.putObj_heap_other (by omega)).trans hd4
        · exact hKt (hKt (hKt hpa (hKp _ _ hza hg2)) hpb) (hKp _ _ hsz (by simpa using hg4))
    · rintro e W2 ⟨⟨v, rfl⟩, ⟨_, hi⟩, hl, hd⟩
      have hend : (Instr.endLoop (w.heap.size + 1)).run P W2 = .ok none (W2.putObj (w.heap.size + 1) (.loop { rec .ready none with state := .exhausted })) := by
        have h := run_endLoop (P := P) hl (by rw [hrec]; simp)
        rw [h, hrec]
      exact ⟨none, _, hend, hdone w.heap.size _ (Nat.le_refl _) (hI _ _ _ hi (GB.put _ hl rfl (by omega))) ((World.putObj_heap_other (by omega)).trans hd)⟩
end
end Go.Proofs.Ytdpmbanfaigmcaa
