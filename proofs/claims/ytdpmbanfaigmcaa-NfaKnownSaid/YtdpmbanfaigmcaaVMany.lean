/- The walk of vouchlaw11.many. -/
import Derived.Test.YtdpmbanfaigmcaaVT
import Derived.Test.YtdpmbanfaigmcaaRows
import Derived.WalkKit
import Derived.Deep.LoopGhost
import Derived.Lib.Hide
set_option linter.unusedVariables false
namespace Go.Proofs.Ytdpmbanfaigmcaa
open Go.RowKit

mutual
def manyF (top : Int) : T → Int
  | .mk _ _ _ _ _ _ _ ps => min (manyL top ps 1) (top + 1)
def manyL (top : Int) : List T → Int → Int
  | [], s => s
  | p :: ps, s => if s ≤ top then manyL top ps (s + manyF top p) else s
end
theorem manyF_eq (top : Int) (t : T) : manyF top t = min (manyL top t.ps 1) (top + 1) := by cases t; rw [manyF]; rfl

theorem manyL_ge (top : Int) (h : 0 ≤ top) (ps : List T) (ih : ∀ p ∈ ps, 1 ≤ manyF top p) : ∀ s, 1 ≤ s → 1 ≤ manyL top ps s := by
  induction ps with
  | nil => intro s hs; simpa [manyL] using hs
  | cons p ps ih2 =>
    intro s hs
    rw [manyL]
    split
    · exact ih2 (fun q hq => ih q (List.mem_cons_of_mem _ hq)) _ (by have := ih p (List.mem_cons_self ..); omega)
    · exact hs
theorem manyF_bd (top : Int) (h : 0 ≤ top) (t : T) : 1 ≤ manyF top t ∧ manyF top t ≤ top + 1 := by
  induction t using T.ind with
  | h t ih =>
    rw [manyF_eq]
    have := manyL_ge top h t.ps (fun p hp => (ih p hp).1) 1 (by omega)
    omega
theorem manyL_stop (top : Int) (ps : List T) (s : Int) (h : ¬ s ≤ top) : manyL top ps s = s := by
  cases ps with
  | nil => rw [manyL]
  | cons p ps => rw [manyL, if_neg h]

set_option maxRecDepth 100000 in
set_option maxHeartbeats 400000 in
theorem many_any (top : Int) (h0 : 0 ≤ top) (h1 : top ≤ 1000000) (t : T) : ∀ (w : World) (ok : Nat → Prop) (A : Option Addr) (c : Nat), NodeAt w ok t A c → (∀ b, ok b → b < w.heap.size) →
    Calls Try.prog 12 #[nodeV t A c, .int .i64 top] w fun e w' => e = .returned (.int .i64 (manyF top t)) ∧ Below w.heap.size w w' := by
  induction t using T.ind with
  | h t ih =>
    intro w ok A c hN hok
    have hlen := hN.len
    go_enter Try.func12, Try.ntmps12
    go_wp2_with fail
    generalize hW : w.alloc _ = W0
    have hB0 : Below w.heap.size w W0 := by subst hW; exact (Below.refl _ _).alloc (Nat.le_refl _) _
    have hc7 : W0.cell? ⟨w.heap.size, 7, none⟩ = some (.slice A t.ps.length c) := by subst hW; simp [go_sem]
    have hsz : w.heap.size < W0.heap.size := by subst hW; simp
    clear hW
    go_loopg [5, 6] (t.ps.length) (fun n s i wr => ∃ (j : Nat) (x : Int), s = .int .i64 x ∧ i = .int .i64 j ∧ j + n = t.ps.length ∧ 1 ≤ x ∧ x ≤ 2 * top + 2 ∧ manyL top (t.ps.drop j) x = manyL top t.ps 1 ∧ Below w.heap.size w wr ∧ w.heap.size < wr.heap.size ∧ wr.cell? ⟨w.heap.size, 7, none⟩ = some (.slice A t.ps.length c))
    case atStart => exact ⟨0, 1, rfl, rfl, by omega, by omega, by omega, rfl, hB0, hsz, hc7⟩
    case round =>
      obtain ⟨j, x, rfl, rfl, hj, hx1, hx2, hm, hB, hs, hc7'⟩ := hrel
      have Hm := Lib.hid hm; clear hm
      clear hc7 hB0 hsz
      by_cases hlt : j < t.ps.length
      · obtain ⟨b, o, rfl, hb, hcell⟩ := hN.part (by omega)
        obtain ⟨A', c', h8, hNj⟩ := hcell j hlt
        have Hih := Lib.hid (ih t.ps[j] (List.getElem_mem _)); clear ih
        have hbd := manyF_bd top h0 t.ps[j]
        have hNj' := hNj.later hB hok
        obtain ⟨f0, f1, f2, f3, f4, f5, f6, f7⟩ := h8.mono (w' := wr) (fun o => hB.cell (p := ⟨b, o, none⟩) (hok b hb))
        have Hd := Lib.hid (drop_cons hlt)
        clear hcell hN hNj
        generalize t.ps[j] = p at *
        by_cases hx : x ≤ top
        · go_wp2_with fail
          refine (Hih.out wr ok A' c' hNj' (fun b h => by have := hok b h; omega)).mono ?_
          rintro e w1 ⟨rfl, hb1⟩
          obtain ⟨hc1, hf1⟩ := bcell hb1
          have hz1 := hb1.size
          go_wp2_with fail
          go_roundg (gk - 1)
          case measure => omega
          case rel => exact ⟨j + 1, x + manyF top p, rfl, by go_num, by omega, by omega, by omega, by rw [← Hm.out, Hd.out, manyL, if_pos hx], hB.trans (hb1.mono (by omega)), by omega, (hc1 _ _ hs).trans hc7'⟩
        · have hres : min x (top + 1) = manyF top t := by rw [manyF_eq, ← Hm.out, manyL_stop _ _ _ hx]
          have Hres := Lib.hid hres; clear hres
          go_wp2_with fail
          all_goals go_ret
          all_goals exact ⟨by rw [← Hres.out]; go_num, hB⟩
      · have hres : min x (top + 1) = manyF top t := by rw [manyF_eq, ← Hm.out, List.drop_of_length_le (by omega), manyL]
        have Hres := Lib.hid hres; clear hres
        go_wp2_with fail
        all_goals go_ret
        all_goals exact ⟨by rw [← Hres.out]; go_num, hB⟩
end Go.Proofs.Ytdpmbanfaigmcaa
