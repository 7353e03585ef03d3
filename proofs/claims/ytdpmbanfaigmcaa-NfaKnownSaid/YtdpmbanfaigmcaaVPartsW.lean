/- The law NfaParts: walked. (Printed by wip/genparts.py.) -/
import Derived.Test.YtdpmbanfaigmcaaVPartsL
import Derived.Test.YtdpmbanfaigmcaaVMakesW
set_option linter.unusedVariables false
set_option linter.unusedSimpArgs false
namespace Go.Proofs.Ytdpmbanfaigmcaa
open Go.RowKit

set_option maxRecDepth 100000 in
set_option maxHeartbeats 400000 in
theorem pick_any (i n : Int) (hi0 : -9223372036854775808 ≤ i) (hi1 : i ≤ 9223372036854775807) (h0 : 0 < n) (h1 : n ≤ 1000000) (w : World) :
    Calls Try.prog 27 #[.int .i64 i, .int .i64 n] w fun e w' => (∃ k : Int, e = .returned (.int .i64 k) ∧ 0 ≤ k ∧ k < n) ∧ Below w.heap.size w w' := by
  have hk1 : i.tmod n < n := Int.tmod_lt_of_pos i h0
  have hk2 : -n < i.tmod n := Int.lt_tmod_of_pos i h0
  generalize hk : i.tmod n = k at *
  go_enter Try.func27, Try.ntmps27
  by_cases hneg : k < 0
  · go_wp2_with fail
    go_ret
    exact ⟨⟨_, rfl, by omega, by omega⟩, Below.refl _ _⟩
  · go_wp2_with fail
    go_ret
    exact ⟨⟨_, rfl, by omega, by omega⟩, Below.refl _ _⟩

set_option maxRecDepth 100000 in
set_option maxHeartbeats 400000 in
theorem fits_any (n e want : Int) (w : World) :
    Calls Try.prog 28 #[.int .i64 n, .int .i64 e, .int .i64 want] w fun e' w' => e' = .returned (.bool (fitsF n e want)) ∧ Below w.heap.size w w' := by
  by_cases h : 4096 < want
  · have hr : fitsF n e want = (e == 3 && n == 0) := if_pos h
    rw [hr]
    clear hr
    go_enter Try.func28, Try.ntmps28
    go_wp2_with fail
    all_goals
      go_ret
      exact ⟨by simp [*], Below.refl _ _⟩
  · have hr : fitsF n e want = (e == 0 && n == want) := if_neg h
    rw [hr]
    clear hr
    go_enter Try.func28, Try.ntmps28
    go_wp2_with fail
    all_goals
      go_ret
      exact ⟨by simp [*], Below.refl _ _⟩

set_option maxRecDepth 100000 in
set_option maxHeartbeats 8000000 in
theorem parts_law (t u : T) (p q : Int) (w : World) (ok : Nat → Prop) (A A' : Option Addr) (c c' : Nat) (hN : NodeAt w ok t A c) (hM : NodeAt w ok u A' c') (hok : ∀ b, ok b → b < w.heap.size)
    (hp0 : -9223372036854775808 ≤ p) (hp1 : p ≤ 9223372036854775807) (hq0 : -9223372036854775808 ≤ q) (hq1 : q ≤ 9223372036854775807) :
    Calls Try.prog 6 #[nodeV t A c, nodeV u A' c', .int .i64 p, .int .i64 q] w fun e w' => e = .returned (.bool true) ∧ Below w.heap.size w w' := by
  have hmt := manyF_min 1000 (by omega) t
  have hmu := manyF_min 1000 (by omega) u
  have hbt := manyF_bd 1000 (by omega) t
  have hbu := manyF_bd 1000 (by omega) u
  have Hmt := Lib.hid hmt; have Hmu := Lib.hid hmu; clear hmt hmu
  have HN := Lib.hid hN; have HM := Lib.hid hM; have Hok := Lib.hid hok; clear hN hM hok
  go_enter Try.func6, Try.ntmps6
  go_wp2_with fail
  generalize hW : (w.alloc _).alloc _ = W0
  have hB0 : Below w.heap.size w W0 := by subst hW; exact ((Below.refl _ _).alloc (Nat.le_refl _) _).alloc (by simp) _
  have hz0 : w.heap.size + 1 < W0.heap.size := by subst hW; simp
  have P0 : At8 W0 w.heap.size 0 t A c := by subst hW; constructor <;> simp [go_sem]
  have Q0 : At8 W0 (w.heap.size + 1) 0 u A' c' := by subst hW; constructor <;> simp [go_sem]
  clear hW
  have HOK : ∀ B : Nat, w.heap.size < B → Hid (∀ b, ok b → b < B) := fun B hB => Lib.hid fun b h => by have := Hok.out b h; omega
  refine (many_any 1000 (by omega) (by omega) t W0 ok A c (HN.out.later hB0 Hok.out) (fun b h => by have := Hok.out b h; omega)).mono ?_
  rintro e w1 ⟨rfl, hb1⟩
  have hz1 := hb1.size
  have hB1 := hB0.trans (hb1.mono (by omega))
  have P1 := P0.later hb1 (by omega)
  have Q1 := Q0.later hb1 (by omega)
  clear P0 Q0
  obtain ⟨p0, p1, p2, p3, p4, p5, p6, p7⟩ := id P1
  simp only [Nat.zero_add] at p1 p2 p3 p4 p5 p6 p7
  obtain ⟨q0, q1, q2, q3, q4, q5, q6, q7⟩ := id Q1
  simp only [Nat.zero_add] at q1 q2 q3 q4 q5 q6 q7
  by_cases hbig : 1000 < manyF 1000 t
  · go_wp2_with fail
    go_ret
    exact ⟨rfl, hB1⟩
  go_wp2_with fail
  clear p0 p1 p2 p3 p4 p5 p6 p7 q0 q1 q2 q3 q4 q5 q6 q7
  refine (many_any 1000 (by omega) (by omega) u w1 ok A' c' (HM.out.later hB1 Hok.out) (HOK _ (by omega)).out).mono ?_
  rintro e w2 ⟨rfl, hb2⟩
  have hz2 := hb2.size
  have hB2 := hB1.trans (hb2.mono (by omega))
  have P2 := P1.later hb2 (by omega)
  have Q2 := Q1.later hb2 (by omega)
  clear P1 Q1
  obtain ⟨p0, p1, p2, p3, p4, p5, p6, p7⟩ := id P2
  simp only [Nat.zero_add] at p1 p2 p3 p4 p5 p6 p7
  obtain ⟨q0, q1, q2, q3, q4, q5, q6, q7⟩ := id Q2
  simp only [Nat.zero_add] at q1 q2 q3 q4 q5 q6 q7
  by_cases hbig2 : 1000 < manyF 1000 u
  · go_wp2_with fail
    go_ret
    exact ⟨rfl, hB2⟩
  have hnt : nodesF t ≤ 1000 := by have := Hmt.out; omega
  have hnu : nodesF u ≤ 1000 := by have := Hmu.out; omega
  have Hnt := Lib.hid hnt; have Hnu := Lib.hid hnu; clear hnt hnu Hmt Hmu
  go_wp2_with fail
  clear hbig hbig2 hbt hbu p0 p1 p2 p3 p4 p5 p6 p7 q0 q1 q2 q3 q4 q5 q6 q7
  refine (nsize_any t w2 ok A c (HN.out.later hB2 Hok.out) (HOK _ (by omega)).out).mono ?_
  rintro e w3 ⟨rfl, hb3⟩
  have hz3 := hb3.size
  have hB3 := hB2.trans (hb3.mono (by omega))
  have P3 := P2.later hb3 (by omega)
  have Q3 := Q2.later hb3 (by omega)
  clear P2 Q2
  obtain ⟨p0, p1, p2, p3, p4, p5, p6, p7⟩ := id P3
  simp only [Nat.zero_add] at p1 p2 p3 p4 p5 p6 p7
  obtain ⟨q0, q1, q2, q3, q4, q5, q6, q7⟩ := id Q3
  simp only [Nat.zero_add] at q1 q2 q3 q4 q5 q6 q7
  go_wp2_with fail
  clear p0 p1 p2 p3 p4 p5 p6 p7 q0 q1 q2 q3 q4 q5 q6 q7
  refine (nsize_any u w3 ok A' c' (HM.out.later hB3 Hok.out) (HOK _ (by omega)).out).mono ?_
  rintro e w4 ⟨rfl, hb4⟩
  have hz4 := hb4.size
  have hB4 := hB3.trans (hb4.mono (by omega))
  have P4 := P3.later hb4 (by omega)
  have Q4 := Q3.later hb4 (by omega)
  clear P3 Q3
  by_cases et : sizeE t = 0
  case' neg =>
    have hb : (sizeE t != 0) = true := by rw [bne_iff_ne]; exact et
    clear et
    go_wp2_with fail
    refine (works_any w4).mono ?_
    rintro e w5 ⟨rfl, hb5⟩
    go_wp2_with fail
    go_ret
    exact ⟨rfl, hB4.trans (hb5.mono (by omega))⟩
  have hb : (sizeE t != 0) = false := by rw [et]; rfl
  by_cases eu : sizeE u = 0
  case' neg =>
    have hb' : (sizeE u != 0) = true := by rw [bne_iff_ne]; exact eu
    clear et eu
    go_wp2_with fail
    refine (works_any w4).mono ?_
    rintro e w5 ⟨rfl, hb5⟩
    go_wp2_with fail
    go_ret
    exact ⟨rfl, hB4.trans (hb5.mono (by omega))⟩
  have hb' : (sizeE u != 0) = false := by rw [eu]; rfl
  have Hf := Lib.hid (fun (m n : Int) (h0 : 0 ≤ m) (h1 : m ≤ 5) (h2 : m ≤ n) (h3 : n ≤ 10) => parts_fits et eu Hnt.out Hnu.out h0 h1 h2 h3)
  have hkt : 1 ≤ sizeK t := by have := sizeE_zero et; have := countF_bd t this.1; omega
  have hku : 1 ≤ sizeK u := by have := sizeE_zero eu; have := countF_bd u this.1; omega
  have hkt2 := (sizeK_bd t).2
  have hku2 := (sizeK_bd u).2
  clear et eu
  generalize sizeK t = x at *
  generalize sizeK u = y at *
  go_wp2_with fail
  refine (pick_any p 6 hp0 hp1 (by omega) (by omega) w4).mono ?_
  rintro e w5 ⟨⟨m, rfl, hm0, hm1⟩, hb5⟩
  have hz5 := hb5.size
  have hB5 := hB4.trans (hb5.mono (by omega))
  have P5 := P4.later hb5 (by omega)
  have Q5 := Q4.later hb5 (by omega)
  clear P4 Q4 hb hb'
  go_wp2_with fail
  refine (pick_any q 6 hq0 hq1 (by omega) (by omega) w5).mono ?_
  rintro e w6 ⟨⟨n, rfl, hn0, hn1⟩, hb6⟩
  have hz6 := hb6.size
  have hB6 := hB5.trans (hb6.mono (by omega))
  have P6 := P5.later hb6 (by omega)
  have Q6 := Q5.later hb6 (by omega)
  have Hff := Lib.hid (Hf.out m (m + n) (by omega) (by omega) (by omega) (by omega))
  clear P5 Q5 Hf
  obtain ⟨p0, p1, p2, p3, p4, p5, p6, p7⟩ := id P6
  simp only [Nat.zero_add] at p1 p2 p3 p4 p5 p6 p7
  obtain ⟨q0, q1, q2, q3, q4, q5, q6, q7⟩ := id Q6
  simp only [Nat.zero_add] at q1 q2 q3 q4 q5 q6 q7
  go_wp2_with fail
  clear p0 p1 p2 p3 p4 p5 p6 p7 q0 q1 q2 q3 q4 q5 q6 q7
  generalize hW : w6.alloc _ = W6
  have hb6' : Below w6.heap.size w6 W6 := by subst hW; exact (Below.refl _ _).alloc (Nat.le_refl _) _
  have hz6' : w6.heap.size < W6.heap.size := by subst hW; simp
  have A6 : At8 W6 w6.heap.size (0 * 8) t A c := by subst hW; constructor <;> simp [go_sem]
  have B6 : At8 W6 w6.heap.size (1 * 8) u A' c' := by subst hW; constructor <;> simp [go_sem]
  clear hW
  have hC6 := hB6.trans (hb6'.mono (by omega))
  have hT6 : NodeAt W6 (fun b => b < W6.heap.size) (rowT [t, u]) (some ⟨w6.heap.size, 0, none⟩) 2 := node_lit (rowT [t, u]) [(t, A, c), (u, A', c')] rfl (by simp) hz6' (get2 A6 B6) (get2 (HN.out.wide hC6 Hok.out (fun b h => by omega)) (HM.out.wide hC6 Hok.out (fun b h => by omega)))
  refine (nsize_any (rowT [t, u]) W6 _ _ 2 hT6 (fun b h => h)).mono ?_
  rintro e w7 ⟨rfl, hb7⟩
  have hz7 := hb7.size
  have hB7 := hC6.trans (hb7.mono (by omega))
  have P7 := (P6.later hb6' (by omega)).later hb7 (by omega)
  have Q7 := (Q6.later hb6' (by omega)).later hb7 (by omega)
  clear P6 Q6 A6 B6 hT6 hB6 hC6
  obtain ⟨p0, p1, p2, p3, p4, p5, p6, p7⟩ := id P7
  simp only [Nat.zero_add] at p1 p2 p3 p4 p5 p6 p7
  obtain ⟨q0, q1, q2, q3, q4, q5, q6, q7⟩ := id Q7
  simp only [Nat.zero_add] at q1 q2 q3 q4 q5 q6 q7
  go_wp2_with fail
  clear p0 p1 p2 p3 p4 p5 p6 p7 q0 q1 q2 q3 q4 q5 q6 q7
  generalize hW : w7.alloc _ = W7
  have hb7' : Below w7.heap.size w7 W7 := by subst hW; exact (Below.refl _ _).alloc (Nat.le_refl _) _
  have hz7' : w7.heap.size < W7.heap.size := by subst hW; simp
  have A7 : At8 W7 w7.heap.size (0 * 8) t A c := by subst hW; constructor <;> simp [go_sem]
  have B7 : At8 W7 w7.heap.size (1 * 8) u A' c' := by subst hW; constructor <;> simp [go_sem]
  clear hW
  have hC7 := hB7.trans (hb7'.mono (by omega))
  have hT7 : NodeAt W7 (fun b => b < W7.heap.size) (orT [t, u]) (some ⟨w7.heap.size, 0, none⟩) 2 := node_lit (orT [t, u]) [(t, A, c), (u, A', c')] rfl (by simp) hz7' (get2 A7 B7) (get2 (HN.out.wide hC7 Hok.out (fun b h => by omega)) (HM.out.wide hC7 Hok.out (fun b h => by omega)))
  refine (nsize_any (orT [t, u]) W7 _ _ 2 hT7 (fun b h => h)).mono ?_
  rintro e w8 ⟨rfl, hb8⟩
  have hz8 := hb8.size
  have hB8 := hC7.trans (hb8.mono (by omega))
  have P8 := (P7.later hb7' (by omega)).later hb8 (by omega)
  have Q8 := (Q7.later hb7' (by omega)).later hb8 (by omega)
  clear P7 Q7 A7 B7 hT7 hB7 hC7
  obtain ⟨p0, p1, p2, p3, p4, p5, p6, p7⟩ := id P8
  simp only [Nat.zero_add] at p1 p2 p3 p4 p5 p6 p7
  go_wp2_with fail
  clear p0 p1 p2 p3 p4 p5 p6 p7
  generalize hW : w8.alloc _ = W8
  have hb8' : Below w8.heap.size w8 W8 := by subst hW; exact (Below.refl _ _).alloc (Nat.le_refl _) _
  have hz8' : w8.heap.size < W8.heap.size := by subst hW; simp
  have A8 : At8 W8 w8.heap.size (0 * 8) t A c := by subst hW; constructor <;> simp [go_sem]
  clear hW
  have hC8 := hB8.trans (hb8'.mono (by omega))
  have hT8 : NodeAt W8 (fun b => b < W8.heap.size) (repT m (m + n) t) (some ⟨w8.heap.size, 0, none⟩) 1 := node_lit (repT m (m + n) t) [(t, A, c)] rfl (by simp) hz8' (get1 A8) (get1 (HN.out.wide hC8 Hok.out (fun b h => by omega)))
  refine (nsize_any (repT m (m + n) t) W8 _ _ 1 hT8 (fun b h => h)).mono ?_
  rintro e w9 ⟨rfl, hb9⟩
  have hz9 := hb9.size
  have hB9 := hC8.trans (hb9.mono (by omega))
  have P9 := (P8.later hb8' (by omega)).later hb9 (by omega)
  have Q9 := (Q8.later hb8' (by omega)).later hb9 (by omega)
  clear P8 Q8 A8  hT8 hB8 hC8
  obtain ⟨p0, p1, p2, p3, p4, p5, p6, p7⟩ := id P9
  simp only [Nat.zero_add] at p1 p2 p3 p4 p5 p6 p7
  go_wp2_with fail
  clear p0 p1 p2 p3 p4 p5 p6 p7
  generalize hW : w9.alloc _ = W9
  have hb9' : Below w9.heap.size w9 W9 := by subst hW; exact (Below.refl _ _).alloc (Nat.le_refl _) _
  have hz9' : w9.heap.size < W9.heap.size := by subst hW; simp
  have A9 : At8 W9 w9.heap.size (0 * 8) t A c := by subst hW; constructor <;> simp [go_sem]
  clear hW
  have hC9 := hB9.trans (hb9'.mono (by omega))
  have hT9 : NodeAt W9 (fun b => b < W9.heap.size) (repT m (-1) t) (some ⟨w9.heap.size, 0, none⟩) 1 := node_lit (repT m (-1) t) [(t, A, c)] rfl (by simp) hz9' (get1 A9) (get1 (HN.out.wide hC9 Hok.out (fun b h => by omega)))
  refine (nsize_any (repT m (-1) t) W9 _ _ 1 hT9 (fun b h => h)).mono ?_
  rintro e w10 ⟨rfl, hb10⟩
  have hz10 := hb10.size
  have hB10 := hC9.trans (hb10.mono (by omega))
  have P10 := (P9.later hb9' (by omega)).later hb10 (by omega)
  have Q10 := (Q9.later hb9' (by omega)).later hb10 (by omega)
  clear P9 Q9 A9  hT9 hB9 hC9
  clear P10 Q10
  have hx1 : 0 ≤ x - 1 := by omega
  have hx2 : x - 1 ≤ 4095 := by omega
  obtain ⟨ha1, ha2⟩ := mul_bd (a := x - 1) (b := m + n) (A := 4095) (B := 10) hx1 (by omega) hx2 (by omega)
  obtain ⟨ha3, ha4⟩ := mul_bd (a := x - 1) (b := m + 1) (A := 4095) (B := 6) hx1 (by omega) hx2 (by omega)
  go_wp2_with fail
  refine (fits_any _ _ _ w10).mono ?_
  rintro e w11 ⟨rfl, hb11⟩
  rw [Hff.out.1]
  have hz11 := hb11.size
  go_wp2_with fail
  refine (fits_any _ _ _ w11).mono ?_
  rintro e w12 ⟨rfl, hb12⟩
  rw [Hff.out.2.1]
  have hz12 := hb12.size
  go_wp2_with fail
  refine (fits_any _ _ _ w12).mono ?_
  rintro e w13 ⟨rfl, hb13⟩
  rw [Hff.out.2.2.1]
  have hz13 := hb13.size
  go_wp2_with fail
  refine (fits_any _ _ _ w13).mono ?_
  rintro e w14 ⟨rfl, hb14⟩
  rw [Hff.out.2.2.2]
  have hz14 := hb14.size
  have hB14 := (((hB10.trans (hb11.mono (by omega))).trans (hb12.mono (by omega))).trans (hb13.mono (by omega))).trans (hb14.mono (by omega))
  go_wp2_with fail
  refine (works_any w14).mono ?_
  rintro e w15 ⟨rfl, hb15⟩
  go_wp2_with fail
  go_ret
  exact ⟨rfl, hB14.trans (hb15.mono (by omega))⟩
end Go.Proofs.Ytdpmbanfaigmcaa
