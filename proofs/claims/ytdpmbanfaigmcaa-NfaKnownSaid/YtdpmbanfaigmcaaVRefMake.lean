/- vouchref11.Make: walked. -/
import Derived.Test.YtdpmbanfaigmcaaVRefCh
import Derived.Test.YtdpmbanfaigmcaaVRefSize
import Derived.Test.YtdpmbanfaigmcaaVMake
set_option linter.unusedVariables false
set_option linter.unusedSimpArgs false
namespace Go.Proofs.Ytdpmbanfaigmcaa
open Go.RowKit

set_option maxRecDepth 100000 in
set_option maxHeartbeats 2000000 in
theorem rmake_any (t : T) (w : World) (ok : Nat → Prop) (A : Option Addr) (c : Nat) (hN : NodeAt w ok t A c) (hok : ∀ b, ok b → b < w.heap.size) :
    Calls Try.prog 17 #[nodeV t A c] w fun e w' => ∃ v, e = .returned (.tuple #[.agg #[v, .int .i64 (makeS t)], .int .i64 (sizeE t)]) ∧
      w'.ownsRow w.heap.size 47 7 v (makeL t).length (stCells (makeL t)) ∧ Below w.heap.size w w' := by
  have hlen := hN.len
  go_enter Try.func17, Try.ntmps17
  go_wp2_with fail
  generalize hW : (w.alloc _).alloc _ = W0
  have hB0 : Below w.heap.size w W0 := by subst hW; exact ((Below.refl _ _).alloc (Nat.le_refl _) _).alloc (by simp) _
  have hsz : W0.heap.size = w.heap.size + 2 := by subst hW; simp
  have p0 : W0.cell? ⟨w.heap.size, 0, none⟩ = some (.int .i64 t.k) := by subst hW; simp [go_sem]
  have p1 : W0.cell? ⟨w.heap.size, 1, none⟩ = some (.int .u64 t.s0) := by subst hW; simp [go_sem]
  have p2 : W0.cell? ⟨w.heap.size, 2, none⟩ = some (.int .u64 t.s1) := by subst hW; simp [go_sem]
  have p3 : W0.cell? ⟨w.heap.size, 3, none⟩ = some (.int .u64 t.s2) := by subst hW; simp [go_sem]
  have p4 : W0.cell? ⟨w.heap.size, 4, none⟩ = some (.int .u64 t.s3) := by subst hW; simp [go_sem]
  have p5 : W0.cell? ⟨w.heap.size, 5, none⟩ = some (.int .i64 t.mn) := by subst hW; simp [go_sem]
  have p6 : W0.cell? ⟨w.heap.size, 6, none⟩ = some (.int .i64 t.mx) := by subst hW; simp [go_sem]
  have p7 : W0.cell? ⟨w.heap.size, 7, none⟩ = some (.slice A t.ps.length c) := by subst hW; simp [go_sem]
  have q0 : W0.cell? ⟨w.heap.size + 1, 0, none⟩ = some (.slice none 0 0) := by subst hW; simp [go_sem]
  have q1 : W0.cell? ⟨w.heap.size + 1, 1, none⟩ = some (.int .i64 0) := by subst hW; simp [go_sem]
  have qf0 : W0.frozen? ⟨w.heap.size + 1, 0, none⟩ = false := by subst hW; simp [go_sem]
  have qf1 : W0.frozen? ⟨w.heap.size + 1, 1, none⟩ = false := by subst hW; simp [go_sem]
  clear hW
  refine (rsize_any t W0 ok A c (hN.later hB0 hok) (fun b h => by have := hok b h; omega)).mono ?_
  rintro e w1 ⟨rfl, hb1⟩
  have hB1 : Below w.heap.size w w1 := hB0.trans (hb1.mono (by omega))
  have hN1 := hN.later hB1 hok
  have hs1 := hb1.size
  obtain ⟨hc1, hf1⟩ := bcell hb1
  rw [← hc1 _ _ (by omega)] at p0 p1 p2 p3 p4 p5 p6 p7 q0 q1
  rw [← hf1 _ _ (by omega)] at qf0 qf1
  clear hc1 hf1
  have h12 : w.heap.size + 2 ≤ w1.heap.size := by omega
  clear hsz
  by_cases h : sizeE t = 0
  · have hkk := makeL_len h
    have hll := makeL_le t
    have hlo : makeL t = (layF t 0 [⟨5, 0, 0, 0, 0, 0, 0⟩]).2 := by rw [makeL, if_pos h]
    have hso : makeS t = (layF t 0 [⟨5, 0, 0, 0, 0, 0, 0⟩]).1 := by rw [makeS, if_pos h]
    have hr := (sizeE_zero h).1
    have hb : (sizeE t != 0) = false := by rw [h]; rfl
    obtain ⟨k, hk⟩ : ∃ k : Nat, sizeK t = k := ⟨_, hkk.symm⟩
    have hk4 : k ≤ 4096 := by omega
    have H := Lib.hid h; have Hlo := Lib.hid hlo; have Hso := Lib.hid hso; have Hr := Lib.hid hr; clear h hlo hso hr hkk
    rw [hk]
    clear hk
    go_wp2_with fail
    generalize hW2 : w1.alloc _ = W2
    have hl0 : Layer W2 w1.heap.size w.heap.size (.slice none 0 0) [] := by
      subst hW2
      exact ⟨by simp [go_sem], by simp [go_sem], ⟨rfl, .inl ⟨rfl, rfl⟩⟩, by simp [Value.ownBlock], by simp; omega⟩
    have hBW : Below w1.heap.size w1 W2 := by subst hW2; exact (Below.refl _ _).alloc (Nat.le_refl _) _
    have hBW' : Below w.heap.size w W2 := hB1.trans (hBW.mono (by omega))
    clear hW2
    have hok2 : OkL W2 w1.heap.size (.slice none 0 0) ok := fun b hb => by
      have := hok b hb
      have := hBW'.size
      refine ⟨by omega, by omega, ?_⟩
      simp [Value.ownBlock]
    refine (rstate_any W2 w1.heap.size w.heap.size _ [] ⟨5, 0, 0, 0, 0, 0, 0⟩ hl0 (by simp)).mono ?_
    rintro e w3 ⟨rfl, v3, hL3, hm3, hl3⟩
    simp only [List.nil_append] at hL3
    have hs3 := hl3.size
    have hsW := hBW.size
    obtain ⟨hcW, hfW⟩ := bcell hBW
    have hc3 : ∀ b o, b < w1.heap.size → w3.cell? ⟨b, o, none⟩ = w1.cell? ⟨b, o, none⟩ := fun b o hb =>
      (hl3.cell (by omega) (by omega) (by simp [Value.ownBlock])).trans (hcW b o hb)
    have hf3 : ∀ b o, b < w1.heap.size → w3.frozen? ⟨b, o, none⟩ = w1.frozen? ⟨b, o, none⟩ := fun b o hb =>
      (hl3.frozen (by omega) (by omega) (by simp [Value.ownBlock])).trans (hfW b o hb)
    rw [← hc3 _ _ (by omega)] at p0 p1 p2 p3 p4 p5 p6 p7 q0 q1
    rw [← hf3 _ _ (by omega)] at qf0 qf1
    clear hcW hfW
    go_wp2_with fail
    refine (rlay_any t Hr.out w3 ok A c w1.heap.size w.heap.size v3 _ 0 ((hN.later hBW' hok).lays hok2 hl3) (hok2.later hl3.size hm3) hL3 (by rw [← Hlo.out]; omega)).mono ?_
    rintro e w4 ⟨rfl, v4, hL4, hm4, hl4⟩
    have hs4 := hl4.size
    have hm34 := hm3.trans hl3.size hm4
    have hl34 := hl3.trans hm3 hl4
    have hc4 : ∀ b o, b < w1.heap.size → w4.cell? ⟨b, o, none⟩ = w1.cell? ⟨b, o, none⟩ := fun b o hb =>
      (hl34.cell (by omega) (by omega) (by simp [Value.ownBlock])).trans ((bcell hBW).1 b o hb)
    have hf4 : ∀ b o, b < w1.heap.size → w4.frozen? ⟨b, o, none⟩ = w1.frozen? ⟨b, o, none⟩ := fun b o hb =>
      (hl34.frozen (by omega) (by omega) (by simp [Value.ownBlock])).trans ((bcell hBW).2 b o hb)
    rw [hc3 _ _ (by omega), ← hc4 _ _ (by omega)] at p0 p1 p2 p3 p4 p5 p6 p7 q0 q1
    rw [hf3 _ _ (by omega), ← hf4 _ _ (by omega)] at qf0 qf1
    clear hc3 hf3
    rw [← Hlo.out, ← Hso.out] at *
    have hcL := hL4.cell
    have ho4 := Lib.hid hL4.own
    have hB4 : Below w.heap.size w w4 := ⟨hl34.os.trans hBW'.os, hl34.tape.trans hBW'.tape, hl34.output.trans hBW'.output, Nat.le_trans hBW'.size hl34.size, fun j hj => (hl34.block j (by omega) (by omega) (by simp [Value.ownBlock])).trans (hBW'.block j hj)⟩
    have hvb : v4.ownBlock ≠ some (w.heap.size + 1) := by
      rcases hm34 with e | ⟨b, e, hle⟩
      · rw [e]; simp [Value.ownBlock]
      · rw [e]; simp; omega
    have Hvb := Lib.hid hvb; clear hvb
    clear hc4 hf4 hL4
    obtain ⟨A4, n4, c4, rfl⟩ : ∃ A n c, v4 = .slice A n c := by
      rcases ho4.out.2 with ⟨e, _⟩ | ⟨g, cap, cur, e, _⟩
      · exact ⟨_, _, _, e⟩
      · exact ⟨_, _, _, e⟩
    go_wp2_with fail
    have r1 := World.cell?_setCell_same (w4.setCell ⟨w.heap.size + 1, 0, none⟩ (Value.slice A4 n4 c4)) ⟨w.heap.size + 1, 1, none⟩ (.int .i64 (makeS t)) (by rw [World.cell?_setCell_other (h := by simp)]; exact q1)
    have r0 : ((w4.setCell ⟨w.heap.size + 1, 0, none⟩ (Value.slice A4 n4 c4)).setCell ⟨w.heap.size + 1, 1, none⟩ (.int .i64 (makeS t))).cell? ⟨w.heap.size + 1, 0, none⟩ = some (.slice A4 n4 c4) := by
      rw [World.cell?_setCell_other (h := by simp)]
      exact World.cell?_setCell_same w4 _ _ q0
    refine bodyPost_ret (v := .tuple #[.agg #[.slice A4 n4 c4, .int .i64 (makeS t)], .int .i64 0]) (by simp [results, Try.results17, r0, r1, go_sem]) rfl ⟨_, by rw [H.out], ?_, ?_⟩
    · refine ho4.out.kept (row := some (w.heap.size + 1)) ⟨rfl, rfl, rfl, by simp, fun j hj hne => ?_⟩ (.inr (fun e => Hvb.out e))
      rw [Below.heap_setCell _ _ _ _ (fun e => hne (by rw [e])), Below.heap_setCell _ _ _ _ (fun e => hne (by rw [e]))]
    · exact (hB4.setCell (by simp) _).setCell (by simp) _
  · have hlo : makeL t = [] := by rw [makeL, if_neg h]
    have hso : makeS t = 0 := by rw [makeS, if_neg h]
    have hb : (sizeE t != 0) = true := by rw [bne_iff_ne]; exact h
    clear h
    go_wp2_with fail
    have r1 := World.cell?_setCell_same (w1.setCell ⟨w.heap.size + 1, 0, none⟩ (Value.slice none 0 0)) ⟨w.heap.size + 1, 1, none⟩ (.int .i64 0) (by rw [World.cell?_setCell_other (h := by simp)]; exact q1)
    have r0 : ((w1.setCell ⟨w.heap.size + 1, 0, none⟩ (Value.slice none 0 0)).setCell ⟨w.heap.size + 1, 1, none⟩ (.int .i64 0)).cell? ⟨w.heap.size + 1, 0, none⟩ = some (.slice none 0 0) := by
      rw [World.cell?_setCell_other (h := by simp)]
      exact World.cell?_setCell_same w1 _ _ q0
    refine bodyPost_ret (v := .tuple #[.agg #[.slice none 0 0, .int .i64 0], .int .i64 (sizeE t)]) (by simp [results, Try.results17, r0, r1, go_sem]) rfl ⟨.slice none 0 0, by rw [hso], ?_, ?_⟩
    · rw [hlo]; exact ⟨rfl, .inl ⟨rfl, rfl⟩⟩
    · exact (hB1.setCell (by simp) _).setCell (by simp) _
end Go.Proofs.Ytdpmbanfaigmcaa
