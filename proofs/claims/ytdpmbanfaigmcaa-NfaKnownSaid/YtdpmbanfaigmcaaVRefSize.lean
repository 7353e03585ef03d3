/- vouchref11: states, Size: walked. -/
import Derived.Test.YtdpmbanfaigmcaaVRef10
set_option linter.unusedVariables false
set_option linter.unusedSimpArgs false
namespace Go.Proofs.Ytdpmbanfaigmcaa
open Go.RowKit

set_option maxRecDepth 100000 in
set_option maxHeartbeats 1000000 in
theorem rstates_any (t : T) : ∀ (w : World) (ok : Nat → Prop) (A : Option Addr) (c : Nat), rightF t = true → NodeAt w ok t A c → (∀ b, ok b → b < w.heap.size) →
    Calls Try.prog 43 #[nodeV t A c] w fun e w' => e = .returned (.int .i64 (countF t)) ∧ Below w.heap.size w w' := by
  induction t using T.ind with
  | h t ih =>
    intro w ok A c hr hN hok
    have hlen := hN.len
    have hcs := right_cases hr
    have Hps := Lib.hid (right_parts hr)
    have Hlb := Lib.hid (fun s (h0 : 0 ≤ s) (h1 : s ≤ 4097) (j : Nat) => countL_bd (t.ps.drop j) s (fun p hp => countF_bd p (right_parts hr p (List.mem_of_mem_drop hp))) h0 h1)
    have Heq := Lib.hid (countF_eq t)
    have Hr := Lib.hid hr; clear hr
    have Hk : Hid True := trivial
    rcases hcs with ⟨hk, hn, hmn, hmx⟩ | ⟨hk, hn, hmn, hmx⟩ | ⟨hk, hn, hmn, hmx⟩ | ⟨hk, hn, hmn, hmx⟩ | ⟨hk, hn, hmn, hmx⟩ | ⟨hk, hn, hmn, hmx⟩ | ⟨hk, hn, h0, h1, h2, h3⟩
    · have Hres := Lib.hid (show countF t = 0 by rw [Heq.out, hk]; simp)
      clear hn hmn hmx
      go_enter Try.func43, Try.ntmps43
      go_wp2_with fail
      go_ret
      exact ⟨by rw [Hres.out]; rfl, (Below.refl _ _).alloc (Nat.le_refl _) _⟩
    · have Hres := Lib.hid (show countF t = 1 by rw [Heq.out, hk]; simp)
      clear hn hmn hmx
      go_enter Try.func43, Try.ntmps43
      go_wp2_with fail
      go_ret
      exact ⟨by rw [Hres.out]; rfl, (Below.refl _ _).alloc (Nat.le_refl _) _⟩
    · have Hres := Lib.hid (show countF t = 1 by rw [Heq.out, hk]; simp)
      clear hn hmn hmx
      go_enter Try.func43, Try.ntmps43
      go_wp2_with fail
      go_ret
      exact ⟨by rw [Hres.out]; rfl, (Below.refl _ _).alloc (Nat.le_refl _) _⟩
    · have Hres := Lib.hid (show countF t = 1 by rw [Heq.out, hk]; simp)
      clear hn hmn hmx
      go_enter Try.func43, Try.ntmps43
      go_wp2_with fail
      go_ret
      exact ⟨by rw [Hres.out]; rfl, (Below.refl _ _).alloc (Nat.le_refl _) _⟩
    · have Hk := Lib.hid hk
      have Hmn := Lib.hid hmn
      have Hmx := Lib.hid hmx
      go_enter Try.func43, Try.ntmps43
      go_wp2_with fail
      generalize hW : w.alloc _ = W0
      have hB0 : Below w.heap.size w W0 := by subst hW; exact (Below.refl _ _).alloc (Nat.le_refl _) _
      have g0 : W0.cell? ⟨w.heap.size, 0, none⟩ = some (.int .i64 4) := by subst hW; simp [go_sem]
      have g5 : W0.cell? ⟨w.heap.size, 5, none⟩ = some (.int .i64 0) := by subst hW; simp [go_sem]
      have g6 : W0.cell? ⟨w.heap.size, 6, none⟩ = some (.int .i64 0) := by subst hW; simp [go_sem]
      have g7 : W0.cell? ⟨w.heap.size, 7, none⟩ = some (.slice A t.ps.length c) := by subst hW; simp [go_sem]
      have hsz : w.heap.size < W0.heap.size := by subst hW; simp
      clear hW
      go_loopg [3, 4] (t.ps.length) (fun n s i wr => ∃ (j : Nat) (x : Int), s = .int .i64 x ∧ i = .int .i64 j ∧ j + n = t.ps.length ∧ 0 ≤ x ∧ x ≤ 4097 ∧ countL (t.ps.drop j) x = countL t.ps 0 ∧ Below w.heap.size w wr ∧ w.heap.size < wr.heap.size ∧
        wr.cell? ⟨w.heap.size, 0, none⟩ = some (.int .i64 4) ∧ wr.cell? ⟨w.heap.size, 5, none⟩ = some (.int .i64 0) ∧ wr.cell? ⟨w.heap.size, 6, none⟩ = some (.int .i64 0) ∧ wr.cell? ⟨w.heap.size, 7, none⟩ = some (.slice A t.ps.length c))
      case atStart => exact ⟨0, 0, rfl, rfl, by omega, by omega, by omega, rfl, hB0, hsz, g0, g5, g6, g7⟩
      case round =>
        clear hB0 hsz g0 g5 g6 g7
        obtain ⟨j, x, rfl, rfl, hj, hx1, hx2, hm, hB, hs, g0, g5, g6, g7⟩ := hrel
        have Hm := Lib.hid hm; clear hm
        by_cases hlt : j < t.ps.length
        · obtain ⟨b, o, rfl, hb, hcell⟩ := hN.part (by omega)
          obtain ⟨A', c', h8, hNj⟩ := hcell j hlt
          have Hih := Lib.hid (ih t.ps[j] (List.getElem_mem _)); clear ih
          have Hrj := Lib.hid (Hps.out t.ps[j] (List.getElem_mem _))
          have hNj' := hNj.later hB hok
          obtain ⟨f0, f1, f2, f3, f4, f5, f6, f7⟩ := h8.mono (w' := wr) (fun o => hB.cell (p := ⟨b, o, none⟩) (hok b hb))
          have Hd := Lib.hid (drop_cons hlt)
          clear hcell hN hNj
          generalize t.ps[j] = p at *
          have hbd := countF_bd p Hrj.out
          go_wp2_with fail
          refine (Hih.out _ ok A' c' Hrj.out hNj' (fun b h => by have := hok b h; omega)).mono ?_
          rintro e w1 ⟨rfl, hb1⟩
          have hB1 : Below w.heap.size w w1 := hB.trans (hb1.mono (by omega))
          obtain ⟨hc1, hf1⟩ := bcell hb1
          have hz1 := hb1.size
          have k0 := (hc1 w.heap.size 0 hs).trans g0
          have k5 := (hc1 w.heap.size 5 hs).trans g5
          have k6 := (hc1 w.heap.size 6 hs).trans g6
          have k7 := (hc1 w.heap.size 7 hs).trans g7
          clear hc1 hf1
          go_wp2_with fail
          all_goals
            go_roundg (gk - 1)
            case measure => omega
            case rel => exact ⟨j + 1, min 4097 (x + countF p), by go_num, by go_num, by omega, by omega, by omega, by rw [← Hm.out, Hd.out, countL], hB1, by omega, k0, k5, k6, k7⟩
        · have hx : x = countL t.ps 0 := by rw [← Hm.out, List.drop_of_length_le (by omega), countL]
          have Hres := Lib.hid (show countF t = min 4097 (countK 4 0 0 x t.ps.length) by rw [Heq.out, Hk.out, Hmn.out, Hmx.out, ← hx]; simp)
          clear hx
          go_wp2_with fail
          all_goals
            go_ret
            exact ⟨by rw [Hres.out]; simp only [countK]; go_num, hB⟩
    · have Hk := Lib.hid hk
      have Hmn := Lib.hid hmn
      have Hmx := Lib.hid hmx
      go_enter Try.func43, Try.ntmps43
      go_wp2_with fail
      generalize hW : w.alloc _ = W0
      have hB0 : Below w.heap.size w W0 := by subst hW; exact (Below.refl _ _).alloc (Nat.le_refl _) _
      have g0 : W0.cell? ⟨w.heap.size, 0, none⟩ = some (.int .i64 5) := by subst hW; simp [go_sem]
      have g5 : W0.cell? ⟨w.heap.size, 5, none⟩ = some (.int .i64 0) := by subst hW; simp [go_sem]
      have g6 : W0.cell? ⟨w.heap.size, 6, none⟩ = some (.int .i64 0) := by subst hW; simp [go_sem]
      have g7 : W0.cell? ⟨w.heap.size, 7, none⟩ = some (.slice A t.ps.length c) := by subst hW; simp [go_sem]
      have hsz : w.heap.size < W0.heap.size := by subst hW; simp
      clear hW
      go_loopg [3, 4] (t.ps.length) (fun n s i wr => ∃ (j : Nat) (x : Int), s = .int .i64 x ∧ i = .int .i64 j ∧ j + n = t.ps.length ∧ 0 ≤ x ∧ x ≤ 4097 ∧ countL (t.ps.drop j) x = countL t.ps 0 ∧ Below w.heap.size w wr ∧ w.heap.size < wr.heap.size ∧
        wr.cell? ⟨w.heap.size, 0, none⟩ = some (.int .i64 5) ∧ wr.cell? ⟨w.heap.size, 5, none⟩ = some (.int .i64 0) ∧ wr.cell? ⟨w.heap.size, 6, none⟩ = some (.int .i64 0) ∧ wr.cell? ⟨w.heap.size, 7, none⟩ = some (.slice A t.ps.length c))
      case atStart => exact ⟨0, 0, rfl, rfl, by omega, by omega, by omega, rfl, hB0, hsz, g0, g5, g6, g7⟩
      case round =>
        clear hB0 hsz g0 g5 g6 g7
        obtain ⟨j, x, rfl, rfl, hj, hx1, hx2, hm, hB, hs, g0, g5, g6, g7⟩ := hrel
        have Hm := Lib.hid hm; clear hm
        by_cases hlt : j < t.ps.length
        · obtain ⟨b, o, rfl, hb, hcell⟩ := hN.part (by omega)
          obtain ⟨A', c', h8, hNj⟩ := hcell j hlt
          have Hih := Lib.hid (ih t.ps[j] (List.getElem_mem _)); clear ih
          have Hrj := Lib.hid (Hps.out t.ps[j] (List.getElem_mem _))
          have hNj' := hNj.later hB hok
          obtain ⟨f0, f1, f2, f3, f4, f5, f6, f7⟩ := h8.mono (w' := wr) (fun o => hB.cell (p := ⟨b, o, none⟩) (hok b hb))
          have Hd := Lib.hid (drop_cons hlt)
          clear hcell hN hNj
          generalize t.ps[j] = p at *
          have hbd := countF_bd p Hrj.out
          go_wp2_with fail
          refine (Hih.out _ ok A' c' Hrj.out hNj' (fun b h => by have := hok b h; omega)).mono ?_
          rintro e w1 ⟨rfl, hb1⟩
          have hB1 : Below w.heap.size w w1 := hB.trans (hb1.mono (by omega))
          obtain ⟨hc1, hf1⟩ := bcell hb1
          have hz1 := hb1.size
          have k0 := (hc1 w.heap.size 0 hs).trans g0
          have k5 := (hc1 w.heap.size 5 hs).trans g5
          have k6 := (hc1 w.heap.size 6 hs).trans g6
          have k7 := (hc1 w.heap.size 7 hs).trans g7
          clear hc1 hf1
          go_wp2_with fail
          all_goals
            go_roundg (gk - 1)
            case measure => omega
            case rel => exact ⟨j + 1, min 4097 (x + countF p), by go_num, by go_num, by omega, by omega, by omega, by rw [← Hm.out, Hd.out, countL], hB1, by omega, k0, k5, k6, k7⟩
        · have hx : x = countL t.ps 0 := by rw [← Hm.out, List.drop_of_length_le (by omega), countL]
          have Hres := Lib.hid (show countF t = min 4097 (countK 5 0 0 x t.ps.length) by rw [Heq.out, Hk.out, Hmn.out, Hmx.out, ← hx]; simp)
          clear hx
          go_wp2_with fail
          all_goals
            go_ret
            exact ⟨by rw [Hres.out]; simp only [countK]; go_num, hB⟩
    · have Hk := Lib.hid hk
      have hn1 : t.ps.length ≤ 1 := by omega
      have hn2 : 1 ≤ t.ps.length := by omega
      clear hn
      go_enter Try.func43, Try.ntmps43
      go_wp2_with fail
      generalize hW : w.alloc _ = W0
      have hB0 : Below w.heap.size w W0 := by subst hW; exact (Below.refl _ _).alloc (Nat.le_refl _) _
      have g0 : W0.cell? ⟨w.heap.size, 0, none⟩ = some (.int .i64 6) := by subst hW; simp [go_sem]
      have g5 : W0.cell? ⟨w.heap.size, 5, none⟩ = some (.int .i64 t.mn) := by subst hW; simp [go_sem]
      have g6 : W0.cell? ⟨w.heap.size, 6, none⟩ = some (.int .i64 t.mx) := by subst hW; simp [go_sem]
      have g7 : W0.cell? ⟨w.heap.size, 7, none⟩ = some (.slice A t.ps.length c) := by subst hW; simp [go_sem]
      have hsz : w.heap.size < W0.heap.size := by subst hW; simp
      clear hW
      go_loopg [3, 4] (t.ps.length) (fun n s i wr => ∃ (j : Nat) (x : Int), s = .int .i64 x ∧ i = .int .i64 j ∧ j + n = t.ps.length ∧ 0 ≤ x ∧ x ≤ 4097 ∧ countL (t.ps.drop j) x = countL t.ps 0 ∧ Below w.heap.size w wr ∧ w.heap.size < wr.heap.size ∧
        wr.cell? ⟨w.heap.size, 0, none⟩ = some (.int .i64 6) ∧ wr.cell? ⟨w.heap.size, 5, none⟩ = some (.int .i64 t.mn) ∧ wr.cell? ⟨w.heap.size, 6, none⟩ = some (.int .i64 t.mx) ∧ wr.cell? ⟨w.heap.size, 7, none⟩ = some (.slice A t.ps.length c))
      case atStart => exact ⟨0, 0, rfl, rfl, by omega, by omega, by omega, rfl, hB0, hsz, g0, g5, g6, g7⟩
      case round =>
        clear hB0 hsz g0 g5 g6 g7
        obtain ⟨j, x, rfl, rfl, hj, hx1, hx2, hm, hB, hs, g0, g5, g6, g7⟩ := hrel
        have Hm := Lib.hid hm; clear hm
        by_cases hlt : j < t.ps.length
        · obtain ⟨b, o, rfl, hb, hcell⟩ := hN.part (by omega)
          obtain ⟨A', c', h8, hNj⟩ := hcell j hlt
          have Hih := Lib.hid (ih t.ps[j] (List.getElem_mem _)); clear ih
          have Hrj := Lib.hid (Hps.out t.ps[j] (List.getElem_mem _))
          have hNj' := hNj.later hB hok
          obtain ⟨f0, f1, f2, f3, f4, f5, f6, f7⟩ := h8.mono (w' := wr) (fun o => hB.cell (p := ⟨b, o, none⟩) (hok b hb))
          have Hd := Lib.hid (drop_cons hlt)
          clear hcell hN hNj
          generalize t.ps[j] = p at *
          have hbd := countF_bd p Hrj.out
          go_wp2_with fail
          refine (Hih.out _ ok A' c' Hrj.out hNj' (fun b h => by have := hok b h; omega)).mono ?_
          rintro e w1 ⟨rfl, hb1⟩
          have hB1 : Below w.heap.size w w1 := hB.trans (hb1.mono (by omega))
          obtain ⟨hc1, hf1⟩ := bcell hb1
          have hz1 := hb1.size
          have k0 := (hc1 w.heap.size 0 hs).trans g0
          have k5 := (hc1 w.heap.size 5 hs).trans g5
          have k6 := (hc1 w.heap.size 6 hs).trans g6
          have k7 := (hc1 w.heap.size 7 hs).trans g7
          clear hc1 hf1
          go_wp2_with fail
          all_goals
            go_roundg (gk - 1)
            case measure => omega
            case rel => exact ⟨j + 1, min 4097 (x + countF p), by go_num, by go_num, by omega, by omega, by omega, by rw [← Hm.out, Hd.out, countL], hB1, by omega, k0, k5, k6, k7⟩
        · have hx : x = countL t.ps 0 := by rw [← Hm.out, List.drop_of_length_le (by omega), countL]
          have Hres := Lib.hid (show countF t = min 4097 (countK 6 t.mn t.mx x t.ps.length) by rw [Heq.out, Hk.out, ← hx]; simp)
          clear hx
          by_cases hm : t.mx < 0
          · have hb1 : (t.mx == -1) = true := by rw [beq_iff_eq]; omega
            have hp := mul_bd (a := x) (b := t.mn + 1) (A := 4097) (B := 256) hx1 (by omega) hx2 (by omega)
            have hK : countK 6 t.mn t.mx x t.ps.length = x * (t.mn + 1) + 1 := by unfold countK; rw [if_neg (by omega), if_pos rfl, if_pos hm]
            have HK := Lib.hid hK; clear hK
            obtain ⟨hp1, hp2⟩ := hp
            go_wp2_with fail
            all_goals
              go_ret
              exact ⟨by rw [Hres.out, HK.out]; go_num, hB⟩
          · have hb1 : (t.mx == -1) = false := by rw [beq_eq_false_iff_ne]; omega
            have hp := mul_bd (a := x) (b := t.mx) (A := 4097) (B := 255) hx1 (by omega) hx2 (by omega)
            have hK : countK 6 t.mn t.mx x t.ps.length = x * t.mx + t.mx - t.mn := by unfold countK; rw [if_neg (by omega), if_pos rfl, if_neg hm]
            have HK := Lib.hid hK; clear hK
            obtain ⟨hp1, hp2⟩ := hp
            go_wp2_with fail
            all_goals
              go_ret
              exact ⟨by rw [Hres.out, HK.out]; go_num, hB⟩

set_option maxRecDepth 100000 in
set_option maxHeartbeats 400000 in
theorem rsize_any (t : T) (w : World) (ok : Nat → Prop) (A : Option Addr) (c : Nat) (hN : NodeAt w ok t A c) (hok : ∀ b, ok b → b < w.heap.size) :
    Calls Try.prog 16 #[nodeV t A c] w fun e w' => e = .returned (.tuple #[.int .i64 (sizeK t), .int .i64 (sizeE t)]) ∧ Below w.heap.size w w' := by
  have hlen := hN.len
  go_enter Try.func16, Try.ntmps16
  go_wp2_with fail
  have hB0 : Below w.heap.size w (w.alloc (.cells #[.int .i64 t.k, .int .u64 t.s0, .int .u64 t.s1, .int .u64 t.s2, .int .u64 t.s3, .int .i64 t.mn, .int .i64 t.mx, .slice A t.ps.length c] 27)) := (Below.refl _ _).alloc (Nat.le_refl _) _
  refine (r10check_any t _ ok A c (hN.later hB0 hok) (fun b h => by have := hok b h; simp; omega)).mono ?_
  rintro e w1 ⟨rfl, hb1⟩
  have hB1 : Below w.heap.size w w1 := hB0.trans (hb1.mono (by simp))
  have hN1 := hN.later hB1 hok
  have hs1 := hB1.size
  obtain ⟨hc1, hf1⟩ := bcell hb1
  have g0 := hc1 w.heap.size 0 (by simp)
  have g1 := hc1 w.heap.size 1 (by simp)
  have g2 := hc1 w.heap.size 2 (by simp)
  have g3 := hc1 w.heap.size 3 (by simp)
  have g4 := hc1 w.heap.size 4 (by simp)
  have g5 := hc1 w.heap.size 5 (by simp)
  have g6 := hc1 w.heap.size 6 (by simp)
  have g7 := hc1 w.heap.size 7 (by simp)
  simp only [World.cell?_alloc_new, List.getElem?_toArray] at g0 g1 g2 g3 g4 g5 g6 g7
  clear hc1 hf1
  by_cases h : checkF t = 0
  · have hr := (check_right h).1
    have hbd := countF_bd t hr
    have hb : (checkF t != 0) = false := by rw [h]; rfl
    have H := Lib.hid h; clear h
    go_wp2_with fail
    refine (rstates_any t _ ok A c hr hN1 (fun b h => by have := hok b h; omega)).mono ?_
    rintro e w2 ⟨rfl, hb2⟩
    have hB2 : Below w.heap.size w w2 := hB1.trans (hb2.mono (by omega))
    by_cases h2 : 4096 < 1 + countF t
    · have hk : sizeK t = 0 := by rw [sizeK, if_neg (by simp [H.out]), if_pos h2]
      have he : sizeE t = 3 := by rw [sizeE, if_neg (by simp [H.out]), if_pos h2]
      have Hk := Lib.hid hk; have He := Lib.hid he; clear hk he
      go_wp2_with fail
      go_ret2
      exact ⟨by rw [Hk.out, He.out]; go_num, hB2⟩
    · have hk : sizeK t = 1 + countF t := by rw [sizeK, if_neg (by simp [H.out]), if_neg h2]
      have he : sizeE t = 0 := by rw [sizeE, if_neg (by simp [H.out]), if_neg h2]
      have Hk := Lib.hid hk; have He := Lib.hid he; clear hk he
      go_wp2_with fail
      go_ret2
      exact ⟨by rw [Hk.out, He.out]; go_num, hB2⟩
  · have hb : (checkF t != 0) = true := by rw [bne_iff_ne]; exact h
    have hk : sizeK t = 0 := by rw [sizeK, if_pos h]
    have he : sizeE t = checkF t := by rw [sizeE, if_pos h]
    have Hk := Lib.hid hk; have He := Lib.hid he; clear hk he h
    go_wp2_with fail
    go_ret2
    exact ⟨by rw [Hk.out, He.out]; rfl, hB1⟩
end Go.Proofs.Ytdpmbanfaigmcaa
