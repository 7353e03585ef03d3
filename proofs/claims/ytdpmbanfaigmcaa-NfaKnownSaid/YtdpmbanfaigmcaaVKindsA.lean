/- vouchlaw11.kinds: its list of nodes: walked. (Printed by wip/genkinds.py.) -/
import Derived.Test.YtdpmbanfaigmcaaVKnownA
import Derived.Test.YtdpmbanfaigmcaaVMayW
import Derived.Deep.DeepCutAuto
import Derived.Deep.CutRange
import Derived.BigRegion
import Derived.StillTailTactics
import Derived.Deep.RegionHeld3
set_option linter.unusedVariables false
set_option linter.unusedSimpArgs false
namespace Go.Proofs.Ytdpmbanfaigmcaa
open Go.RowKit

def zeroT : T := .mk 0 0 0 0 0 0 0 []
def kT (k : Int) : T := .mk k 0 0 0 0 0 0 []
/-- A list of nodes in a block of its own. -/
structure Lst (w wx : World) (L : List Nd) (n g : Nat) : Prop where
  len : L.length = n
  lt : g < wx.heap.size
  at8 : ∀ (i : Nat) (x : Nd), L[i]? = some x → At8 wx g (i * 8) x.1 x.2.1 x.2.2
  own : Owns wx L
  bel : Below w.heap.size w wx
theorem Lst.later {w wx w' : World} {L : List Nd} {n g : Nat} (h : Lst w wx L n g) (hb : Below wx.heap.size wx w') : Lst w w' L n g :=
  ⟨h.len, Nat.lt_of_lt_of_le h.lt hb.size, fun i x hi => (h.at8 i x hi).later hb h.lt, h.own.later hb, h.bel.trans (hb.mono h.bel.size)⟩
theorem Lst.lit {w w0 W : World} {n : Nat} (L : List Nd) (hW : W = w0.alloc (.cells (ncells L).toArray 27)) (hn : L.length = n) (H : Owns w0 L) (hB : Below w.heap.size w w0) : Lst w W L n w0.heap.size := by
  have hb : Below w0.heap.size w0 W := by subst hW; exact (Below.refl _ _).alloc (Nat.le_refl _) _
  exact ⟨hn, by subst hW; simp, at8_lit L hW, H.later hb, hB.trans (hb.mono hB.size)⟩

theorem two_owns {w : World} {x y : Nd} (hx : Own w x) (hy : Own w y) : Owns w [x, y] := fun z hz => by
  simp only [List.mem_cons, List.not_mem_nil, or_false] at hz
  rcases hz with rfl | rfl
  · exact hx
  · exact hy
theorem three_owns {w : World} {x y z : Nd} (hx : Own w x) (hy : Own w y) (hz : Own w z) : Owns w [x, y, z] := fun u hu => by
  simp only [List.mem_cons, List.not_mem_nil, or_false] at hu
  rcases hu with rfl | rfl | rfl
  · exact hx
  · exact hy
  · exact hz
theorem four_owns {w : World} {x y z u : Nd} (hx : Own w x) (hy : Own w y) (hz : Own w z) (hu : Own w u) : Owns w [x, y, z, u] := fun v hv => by
  simp only [List.mem_cons, List.not_mem_nil, or_false] at hv
  rcases hv with rfl | rfl | rfl | rfl
  · exact hx
  · exact hy
  · exact hz
  · exact hu
theorem below_held {W w' : World} (h : Below W.heap.size W w') : Below W.heap.size W w' ∧ ∀ b o, b < W.heap.size → w'.cell? ⟨b, o, none⟩ = W.cell? ⟨b, o, none⟩ := ⟨h, (bcell h).1⟩
theorem At8.one {w W : World} (x : Nd) (hW : W = w.alloc (.cells (ncell x).toArray 27)) : At8 W w.heap.size 0 x.1 x.2.1 x.2.2 := by
  have := at8_lit [x] (show W = w.alloc (.cells (ncells [x]).toArray _) by rw [hW]; simp [ncells]) 0 x rfl
  simpa using this
/-- A node over a new block, in a new box: either may be made first. -/
theorem laid_a {w W : World} (L : List Nd) (hL : Owns w L) (hl : L.length ≤ 17592186044416) (R : T) (hps : R.ps = L.map (·.1))
    (hW : W = ((w.alloc (.cells (ncells L).toArray 27)).alloc (.cells (ncell (R, some ⟨w.heap.size, 0, none⟩, L.length)).toArray 27)).drew) :
    At8 W (w.heap.size + 1) 0 R (some ⟨w.heap.size, 0, none⟩) L.length ∧ Own W (R, some ⟨w.heap.size, 0, none⟩, L.length) ∧ w.heap.size + 1 < W.heap.size ∧ Below w.heap.size w W := by
  obtain ⟨w1, h1⟩ : ∃ w1, w1 = w.alloc (.cells (ncells L).toArray 27) := ⟨_, rfl⟩
  rw [← h1] at hW
  have hz : w1.heap.size = w.heap.size + 1 := by rw [h1]; simp
  have ho := own_lit L h1 hl hL R hps
  obtain ⟨w2, h2⟩ : ∃ w2, w2 = w1.alloc (.cells (ncell (R, some ⟨w.heap.size, 0, none⟩, L.length)).toArray 27) := ⟨_, rfl⟩
  rw [← h2] at hW
  have h8 := At8.one _ h2
  have hz2 : w2.heap.size = w.heap.size + 2 := by rw [h2]; simp [hz]
  have b1 : Below w.heap.size w w1 := by rw [h1]; exact (Below.refl _ _).alloc (Nat.le_refl _) _
  have b2 : Below w1.heap.size w1 w2 := by rw [h2]; exact (Below.refl _ _).alloc (Nat.le_refl _) _
  have b3 : Below w2.heap.size w2 W := by rw [hW]; exact (Below.refl _ _).drew
  rw [hz] at h8
  have hzW := b3.size
  exact ⟨h8.later b3 (by omega), (ho.later b2).later b3, by omega, (b1.trans (b2.mono (by omega))).trans (b3.mono (by omega))⟩
theorem laid_b {w W : World} (L : List Nd) (hL : Owns w L) (hl : L.length ≤ 17592186044416) (R : T) (hps : R.ps = L.map (·.1))
    (hW : W = ((w.alloc (.cells (ncell (R, some ⟨w.heap.size + 1, 0, none⟩, L.length)).toArray 27)).alloc (.cells (ncells L).toArray 27)).drew) :
    At8 W w.heap.size 0 R (some ⟨w.heap.size + 1, 0, none⟩) L.length ∧ Own W (R, some ⟨w.heap.size + 1, 0, none⟩, L.length) ∧ w.heap.size < W.heap.size ∧ Below w.heap.size w W := by
  obtain ⟨w1, h1⟩ : ∃ w1, w1 = w.alloc (.cells (ncell (R, some ⟨w.heap.size + 1, 0, none⟩, L.length)).toArray 27) := ⟨_, rfl⟩
  rw [← h1] at hW
  have hz : w1.heap.size = w.heap.size + 1 := by rw [h1]; simp
  have h8 := At8.one _ h1
  have b1 : Below w.heap.size w w1 := by rw [h1]; exact (Below.refl _ _).alloc (Nat.le_refl _) _
  obtain ⟨w2, h2⟩ : ∃ w2, w2 = w1.alloc (.cells (ncells L).toArray 27) := ⟨_, rfl⟩
  rw [← h2] at hW
  have ho := own_lit L h2 hl (hL.later b1) R hps
  rw [hz] at ho
  have b2 : Below w1.heap.size w1 w2 := by rw [h2]; exact (Below.refl _ _).alloc (Nat.le_refl _) _
  have b3 : Below w2.heap.size w2 W := by rw [hW]; exact (Below.refl _ _).drew
  have hz2 : w2.heap.size = w.heap.size + 2 := by rw [h2]; simp [hz]
  have hzW := b3.size
  exact ⟨(h8.later b2 (by omega)).later b3 (by omega), ho.later b3, by omega, (b1.trans (b2.mono (by omega))).trans (b3.mono (by omega))⟩

set_option maxRecDepth 100000 in
set_option maxHeartbeats 8000000 in
theorem lkinds_any (w : World) : Calls Try.prog 29 #[] w fun e w' => e = .returned (.bool true) ∧ Below w.heap.size w w' := by
  go_enter Try.func29, Try.ntmps29
  go_upto_region 1 with fail
  go_cut [1] from 8 (fun v wx => ∃ (L : List Nd) (g : Nat), v = .slice (some ⟨g, 0, none⟩) 19 19 ∧ Lst w wx L 19 g)
  case first =>
    have H0 : Hid (Owns w []) := Lib.hid (fun x h => by simp at h)
    have hB0 := Below.refl w.heap.size w
    go_wp2_with fail
    refine (kset_any 97 (by omega) (by omega) w).mono ?_
    rintro e w1 ⟨⟨⟨t1, A1, c1⟩, rfl, hx1⟩, hb1⟩
    have H1 := Lib.hid (H0.out.cons hb1 hx1)
    have hB1 := hb1
    clear H0 hB0 hb1 hx1
    go_wp2_with fail
    refine (kset_any 97 (by omega) (by omega) w1).mono ?_
    rintro e w2 ⟨⟨⟨t2, A2, c2⟩, rfl, hx2⟩, hb2⟩
    have H2 := Lib.hid (H1.out.cons hb2 hx2)
    have hB2 := hB1.trans (hb2.mono hB1.size)
    clear H1 hB1 hb2 hx2
    go_wp2_with fail
    refine (kset_any 98 (by omega) (by omega) w2).mono ?_
    rintro e w3 ⟨⟨⟨t3, A3, c3⟩, rfl, hx3⟩, hb3⟩
    have H3 := Lib.hid (H2.out.cons hb3 hx3)
    have hB3 := hB2.trans (hb3.mono hB2.size)
    clear H2 hB2 hb3 hx3
    go_wp2_with fail
    refine (kset_any 99 (by omega) (by omega) w3).mono ?_
    rintro e w4 ⟨⟨⟨t4, A4, c4⟩, rfl, hx4⟩, hb4⟩
    have H4 := Lib.hid (H3.out.cons hb4 hx4)
    have hB4 := hB3.trans (hb4.mono hB3.size)
    clear H3 hB3 hb4 hx4
    go_wp2_with fail
    generalize hW : w4.alloc _ = w5
    have hW2 : w5 = w4.alloc (.cells (ncells [(t2, A2, c2), (t3, A3, c3), (t4, A4, c4)]).toArray 27) := by rw [← hW]; rfl
    have hb5 : Below w4.heap.size w4 w5 := by rw [hW2]; exact (Below.refl _ _).alloc (Nat.le_refl _) _
    have hx5 := own_lit [(t2, A2, c2), (t3, A3, c3), (t4, A4, c4)] hW2 (by simp) (fun y hy => by simp only [List.mem_cons, List.not_mem_nil, or_false] at hy; rcases hy with rfl | rfl | rfl <;> first | exact own_leaf _ _ rfl | exact H4.out _ (by simp)) (.mk 4 0 0 0 0 0 0 [t2, t3, t4]) rfl
    have H5 := Lib.hid (H4.out.cons hb5 hx5)
    have hB5 := hB4.trans (hb5.mono hB4.size)
    clear H4 hB4 hb5 hx5 hW hW2
    refine (kset_any 97 (by omega) (by omega) w5).mono ?_
    rintro e w6 ⟨⟨⟨t6, A6, c6⟩, rfl, hx6⟩, hb6⟩
    have H6 := Lib.hid (H5.out.cons hb6 hx6)
    have hB6 := hB5.trans (hb6.mono hB5.size)
    clear H5 hB5 hb6 hx6
    go_wp2_with fail
    refine (kset_any 98 (by omega) (by omega) w6).mono ?_
    rintro e w7 ⟨⟨⟨t7, A7, c7⟩, rfl, hx7⟩, hb7⟩
    have H7 := Lib.hid (H6.out.cons hb7 hx7)
    have hB7 := hB6.trans (hb7.mono hB6.size)
    clear H6 hB6 hb7 hx7
    go_wp2_with fail
    generalize hW : w7.alloc _ = w8
    have hW2 : w8 = w7.alloc (.cells (ncells [(t6, A6, c6), (t7, A7, c7), (zeroT, none, 0)]).toArray 27) := by rw [← hW]; rfl
    have hb8 : Below w7.heap.size w7 w8 := by rw [hW2]; exact (Below.refl _ _).alloc (Nat.le_refl _) _
    have hx8 := own_lit [(t6, A6, c6), (t7, A7, c7), (zeroT, none, 0)] hW2 (by simp) (fun y hy => by simp only [List.mem_cons, List.not_mem_nil, or_false] at hy; rcases hy with rfl | rfl | rfl <;> first | exact own_leaf _ _ rfl | exact H7.out _ (by simp)) (.mk 5 0 0 0 0 0 0 [t6, t7, zeroT]) rfl
    have H8 := Lib.hid (H7.out.cons hb8 hx8)
    have hB8 := hB7.trans (hb8.mono hB7.size)
    clear H7 hB7 hb8 hx8 hW hW2
    refine (kset_any 97 (by omega) (by omega) w8).mono ?_
    rintro e w9 ⟨⟨⟨t9, A9, c9⟩, rfl, hx9⟩, hb9⟩
    have H9 := Lib.hid (H8.out.cons hb9 hx9)
    have hB9 := hB8.trans (hb9.mono hB8.size)
    clear H8 hB8 hb9 hx9
    go_wp2_with fail
    refine (krep_any (0) (-1) t9 A9 c9 w9 (H9.out (t9, A9, c9) (by simp))).mono ?_
    rintro e w10 ⟨⟨⟨t10, A10, c10⟩, rfl, hx10⟩, hb10⟩
    have H10 := Lib.hid (H9.out.cons hb10 hx10)
    have hB10 := hB9.trans (hb10.mono hB9.size)
    clear H9 hB9 hb10 hx10
    go_wp2_with fail
    refine (kset_any 97 (by omega) (by omega) w10).mono ?_
    rintro e w11 ⟨⟨⟨t11, A11, c11⟩, rfl, hx11⟩, hb11⟩
    have H11 := Lib.hid (H10.out.cons hb11 hx11)
    have hB11 := hB10.trans (hb11.mono hB10.size)
    clear H10 hB10 hb11 hx11
    go_wp2_with fail
    refine (krep_any (1) (-1) t11 A11 c11 w11 (H11.out (t11, A11, c11) (by simp))).mono ?_
    rintro e w12 ⟨⟨⟨t12, A12, c12⟩, rfl, hx12⟩, hb12⟩
    have H12 := Lib.hid (H11.out.cons hb12 hx12)
    have hB12 := hB11.trans (hb12.mono hB11.size)
    clear H11 hB11 hb12 hx12
    go_wp2_with fail
    refine (kset_any 98 (by omega) (by omega) w12).mono ?_
    rintro e w13 ⟨⟨⟨t13, A13, c13⟩, rfl, hx13⟩, hb13⟩
    have H13 := Lib.hid (H12.out.cons hb13 hx13)
    have hB13 := hB12.trans (hb13.mono hB12.size)
    clear H12 hB12 hb13 hx13
    go_wp2_with fail
    refine (krep_any (2) (-1) t13 A13 c13 w13 (H13.out (t13, A13, c13) (by simp))).mono ?_
    rintro e w14 ⟨⟨⟨t14, A14, c14⟩, rfl, hx14⟩, hb14⟩
    have H14 := Lib.hid (H13.out.cons hb14 hx14)
    have hB14 := hB13.trans (hb14.mono hB13.size)
    clear H13 hB13 hb14 hx14
    go_wp2_with fail
    refine (kset_any 97 (by omega) (by omega) w14).mono ?_
    rintro e w15 ⟨⟨⟨t15, A15, c15⟩, rfl, hx15⟩, hb15⟩
    have H15 := Lib.hid (H14.out.cons hb15 hx15)
    have hB15 := hB14.trans (hb15.mono hB14.size)
    clear H14 hB14 hb15 hx15
    go_wp2_with fail
    refine (krep_any (0) (1) t15 A15 c15 w15 (H15.out (t15, A15, c15) (by simp))).mono ?_
    rintro e w16 ⟨⟨⟨t16, A16, c16⟩, rfl, hx16⟩, hb16⟩
    have H16 := Lib.hid (H15.out.cons hb16 hx16)
    have hB16 := hB15.trans (hb16.mono hB15.size)
    clear H15 hB15 hb16 hx16
    go_wp2_with fail
    refine (kset_any 97 (by omega) (by omega) w16).mono ?_
    rintro e w17 ⟨⟨⟨t17, A17, c17⟩, rfl, hx17⟩, hb17⟩
    have H17 := Lib.hid (H16.out.cons hb17 hx17)
    have hB17 := hB16.trans (hb17.mono hB16.size)
    clear H16 hB16 hb17 hx17
    go_wp2_with fail
    refine (krep_any (1) (2) t17 A17 c17 w17 (H17.out (t17, A17, c17) (by simp))).mono ?_
    rintro e w18 ⟨⟨⟨t18, A18, c18⟩, rfl, hx18⟩, hb18⟩
    have H18 := Lib.hid (H17.out.cons hb18 hx18)
    have hB18 := hB17.trans (hb18.mono hB17.size)
    clear H17 hB17 hb18 hx18
    go_wp2_with fail
    refine (kset_any 97 (by omega) (by omega) w18).mono ?_
    rintro e w19 ⟨⟨⟨t19, A19, c19⟩, rfl, hx19⟩, hb19⟩
    have H19 := Lib.hid (H18.out.cons hb19 hx19)
    have hB19 := hB18.trans (hb19.mono hB18.size)
    clear H18 hB18 hb19 hx19
    go_wp2_with fail
    refine (krep_any (0) (0) t19 A19 c19 w19 (H19.out (t19, A19, c19) (by simp))).mono ?_
    rintro e w20 ⟨⟨⟨t20, A20, c20⟩, rfl, hx20⟩, hb20⟩
    have H20 := Lib.hid (H19.out.cons hb20 hx20)
    have hB20 := hB19.trans (hb20.mono hB19.size)
    clear H19 hB19 hb20 hx20
    go_wp2_with fail
    refine (kset_any 97 (by omega) (by omega) w20).mono ?_
    rintro e w21 ⟨⟨⟨t21, A21, c21⟩, rfl, hx21⟩, hb21⟩
    have H21 := Lib.hid (H20.out.cons hb21 hx21)
    have hB21 := hB20.trans (hb21.mono hB20.size)
    clear H20 hB20 hb21 hx21
    go_wp2_with fail
    refine (krep_any (3) (3) t21 A21 c21 w21 (H21.out (t21, A21, c21) (by simp))).mono ?_
    rintro e w22 ⟨⟨⟨t22, A22, c22⟩, rfl, hx22⟩, hb22⟩
    have H22 := Lib.hid (H21.out.cons hb22 hx22)
    have hB22 := hB21.trans (hb22.mono hB21.size)
    clear H21 hB21 hb22 hx22
    go_wp2_with fail
    refine (kset_any 97 (by omega) (by omega) w22).mono ?_
    rintro e w23 ⟨⟨⟨t23, A23, c23⟩, rfl, hx23⟩, hb23⟩
    have H23 := Lib.hid (H22.out.cons hb23 hx23)
    have hB23 := hB22.trans (hb23.mono hB22.size)
    clear H22 hB22 hb23 hx23
    go_wp2_with fail
    refine (krep_any (2) (5) t23 A23 c23 w23 (H23.out (t23, A23, c23) (by simp))).mono ?_
    rintro e w24 ⟨⟨⟨t24, A24, c24⟩, rfl, hx24⟩, hb24⟩
    have H24 := Lib.hid (H23.out.cons hb24 hx24)
    have hB24 := hB23.trans (hb24.mono hB23.size)
    clear H23 hB23 hb24 hx24
    go_wp2_with fail
    refine (krep_any (5) (5) zeroT none 0 w24 (own_leaf _ _ rfl)).mono ?_
    rintro e w25 ⟨⟨⟨t25, A25, c25⟩, rfl, hx25⟩, hb25⟩
    have H25 := Lib.hid (H24.out.cons hb25 hx25)
    have hB25 := hB24.trans (hb25.mono hB24.size)
    clear H24 hB24 hb25 hx25
    go_wp2_with fail
    refine (krep_any (0) (2) zeroT none 0 w25 (own_leaf _ _ rfl)).mono ?_
    rintro e w26 ⟨⟨⟨t26, A26, c26⟩, rfl, hx26⟩, hb26⟩
    have H26 := Lib.hid (H25.out.cons hb26 hx26)
    have hB26 := hB25.trans (hb26.mono hB25.size)
    clear H25 hB25 hb26 hx26
    go_wp2_with fail
    refine (krep_any (2) (-1) zeroT none 0 w26 (own_leaf _ _ rfl)).mono ?_
    rintro e w27 ⟨⟨⟨t27, A27, c27⟩, rfl, hx27⟩, hb27⟩
    have H27 := Lib.hid (H26.out.cons hb27 hx27)
    have hB27 := hB26.trans (hb27.mono hB26.size)
    clear H26 hB26 hb27 hx27
    go_wp2_with fail
    generalize hW : w27.alloc _ = W
    have hl := Lst.lit (w := w) (n := 19) [(zeroT, none, 0), (t1, A1, c1), (kT 2, none, 0), (kT 3, none, 0), (.mk 4 0 0 0 0 0 0 [t2, t3, t4], some ⟨w4.heap.size, 0, none⟩, 3), (.mk 5 0 0 0 0 0 0 [t6, t7, zeroT], some ⟨w7.heap.size, 0, none⟩, 3), (t10, A10, c10), (t12, A12, c12), (t14, A14, c14), (t16, A16, c16), (t18, A18, c18), (t20, A20, c20), (t22, A22, c22), (t24, A24, c24), (t25, A25, c25), (t26, A26, c26), (t27, A27, c27), (kT 7, none, 0), (kT 4, none, 0)] (show W = w27.alloc (.cells (ncells _).toArray 27) by rw [← hW]; rfl) rfl (fun y hy => by
      simp only [List.mem_cons, List.not_mem_nil, or_false] at hy
      rcases hy with rfl | rfl | rfl | rfl | rfl | rfl | rfl | rfl | rfl | rfl | rfl | rfl | rfl | rfl | rfl | rfl | rfl | rfl | rfl <;> first | exact own_leaf _ _ rfl | exact H27.out _ (by simp)) hB27
    go_meet
    case rel => exact ⟨_, _, rfl, hl⟩
  case rest =>
    obtain ⟨L, g, rfl, hL⟩ := hcut
    have hBc := hL.bel
    have hzg := hL.lt
    have HL := Lib.hid hL; clear hL
    go_wp2_with fail
    go_loopg [2] 19 (fun n i wr => ∃ j : Nat, i = .int .i64 j ∧ j + n = 19 ∧ Below wc.heap.size wc wr)
    case atStart => exact ⟨0, rfl, rfl, Below.refl _ _⟩
    case round =>
      obtain ⟨j, rfl, hj, hB⟩ := hrel
      have HLr := Lib.hid (HL.out.later hB)
      by_cases hlt : j < 19
      · obtain ⟨⟨t, A, c⟩, hx⟩ : ∃ x, L[j]? = some x := ⟨_, List.getElem?_eq_getElem (by rw [HL.out.len]; exact hlt)⟩
        have h8 := HLr.out.at8 j _ hx
        have hown := HLr.out.own _ (List.mem_of_getElem? hx)
        have hzr := hB.size
        have Hx := Lib.hid hx; have HO := Lib.hid hown; clear hx hown
        obtain ⟨f0, f1, f2, f3, f4, f5, f6, f7⟩ := id h8
        simp only [Nat.zero_add] at f0 f1 f2 f3 f4 f5 f6 f7
        go_wp2_with fail
        refine (makes_any t wr _ A c HO.out (fun b h => h)).mono ?_
        rintro e w1 ⟨rfl, hb1⟩
        have hz1 := hb1.size
        clear f0 f1 f2 f3 f4 f5 f6 f7
        obtain ⟨f0, f1, f2, f3, f4, f5, f6, f7⟩ := h8.later hb1 (by omega)
        have HO1 := Lib.hid (HO.out.later hb1)
        have hB1 := hB.trans (hb1.mono (by omega))
        go_wp2_with fail
        refine (may_law t w1 _ A c HO1.out (fun b h => h)).mono ?_
        rintro e w2 ⟨rfl, hb2⟩
        clear f0 f1 f2 f3 f4 f5 f6 f7 h8 HO HLr
        have hz2 := hb2.size
        have hB2 := hB1.trans (hb2.mono (by omega))
        have HL2 := Lib.hid (HL.out.later hB2)
        clear hB hB1 hb1 hb2
        go_wp2_with fail
        go_loopg [3] 19 (fun n i wr => ∃ k : Nat, i = .int .i64 k ∧ k + n = 19 ∧ Below w2.heap.size w2 wr)
        case atStart => exact ⟨0, rfl, rfl, Below.refl _ _⟩
        case round =>
          obtain ⟨k, rfl, hk, hB3⟩ := hrel
          have HLk := Lib.hid (HL2.out.later hB3)
          by_cases hlk : k < 19
          · obtain ⟨⟨t2, A2, c2⟩, hx2⟩ : ∃ x, L[k]? = some x := ⟨_, List.getElem?_eq_getElem (by rw [HL.out.len]; exact hlk)⟩
            have h8 := HLk.out.at8 j _ Hx.out
            have h8' := HLk.out.at8 k _ hx2
            have hown := HLk.out.own _ (List.mem_of_getElem? Hx.out)
            have hown2 := HLk.out.own _ (List.mem_of_getElem? hx2)
            have HO := Lib.hid hown; have HO2 := Lib.hid hown2; have Hx2 := Lib.hid hx2; clear hown hown2 hx2
            have hzk := hB3.size
            have hgr : g < wr.heap.size := HLk.out.lt
            obtain ⟨f0, f1, f2, f3, f4, f5, f6, f7⟩ := id h8
            obtain ⟨g0, g1, g2, g3, g4, g5, g6_1, g7⟩ := id h8'
            simp only [Nat.zero_add] at f0 f1 f2 f3 f4 f5 f6 f7 g0 g1 g2 g3 g4 g5 g6_1 g7
            go_upto_region 10 with fail
            go_cut [4] (fun v wx => ∃ (b : Nat) (R : T) (AR : Option Addr) (cR : Nat), v = .pointer (some ⟨b, 0, none⟩) ∧ At8 wx b 0 R AR cR ∧ Own wx (R, AR, cR) ∧ b < wx.heap.size ∧ Below wr.heap.size wr wx)
            case first =>
              go_region
              all_goals go_wp2_with fail
              all_goals go_meet
              all_goals first
                | exact ⟨_, .mk 4 0 0 0 0 0 0 [t, t2], _, _, rfl, laid_a [(t, A, c), (t2, A2, c2)] (two_owns HO.out HO2.out) (by simp) _ rfl rfl⟩
                | exact ⟨_, .mk 4 0 0 0 0 0 0 [t, t2], _, _, rfl, laid_b [(t, A, c), (t2, A2, c2)] (two_owns HO.out HO2.out) (by simp) _ rfl rfl⟩
            case rest =>
              obtain ⟨b4, R, AR, cR, rfl, hR8, hRo, hb4, hB4⟩ := hcut
              clear f0 f1 f2 f3 f4 f5 f6 f7 g0 g1 g2 g3 g4 g5 g6_1 g7
              have HRo := Lib.hid hRo
              have h84 := h8.later hB4 hgr
              have h84' := h8'.later hB4 hgr
              have HO4 := Lib.hid (HO.out.later hB4); have HO42 := Lib.hid (HO2.out.later hB4)
              have hz4 := hB4.size
              have hgr4 : g < wc.heap.size := by omega
              clear h8 h8' HO HO2 hRo
              obtain ⟨f0, f1, f2, f3, f4, f5, f6, f7⟩ := id h84
              obtain ⟨g0, g1, g2, g3, g4, g5, g6_1, g7⟩ := id h84'
              simp only [Nat.zero_add] at f0 f1 f2 f3 f4 f5 f6 f7 g0 g1 g2 g3 g4 g5 g6_1 g7
              go_upto_region 11 with fail
              go_cut [5] (fun v wx => ∃ (b : Nat) (R : T) (AR : Option Addr) (cR : Nat), v = .pointer (some ⟨b, 0, none⟩) ∧ At8 wx b 0 R AR cR ∧ Own wx (R, AR, cR) ∧ b < wx.heap.size ∧ Below wc.heap.size wc wx)
              case first =>
                go_region
                all_goals go_wp2_with fail
                all_goals go_meet
                all_goals first
                  | exact ⟨_, .mk 5 0 0 0 0 0 0 [t2, t, t2], _, _, rfl, laid_a [(t2, A2, c2), (t, A, c), (t2, A2, c2)] (three_owns HO42.out HO4.out HO42.out) (by simp) _ rfl rfl⟩
                  | exact ⟨_, .mk 5 0 0 0 0 0 0 [t2, t, t2], _, _, rfl, laid_b [(t2, A2, c2), (t, A, c), (t2, A2, c2)] (three_owns HO42.out HO4.out HO42.out) (by simp) _ rfl rfl⟩
              case rest =>
                obtain ⟨b5, R5, AR5, cR5, rfl, hR58, hRo5, hb5, hB5⟩ := hcut
                clear f0 f1 f2 f3 f4 f5 f6 f7 g0 g1 g2 g3 g4 g5 g6_1 g7
                have hz5 := hB5.size
                have hR48 := hR8.later hB5 hb4
                have h85 := h84.later hB5 hgr4
                have h85' := h84'.later hB5 hgr4
                have hgr5 : g < wc.heap.size := by omega
                have hb45 : b4 < wc.heap.size := by omega
                have HO5 := Lib.hid (HO4.out.later hB5); have HO52 := Lib.hid (HO42.out.later hB5)
                have Hacc := Lib.hid (Owns.later (four_owns HO5.out HO52.out (HRo.out.later hB5) hRo5) ((Below.refl _ _).drew))
                have HLc := Lib.hid ((HLk.out.later hB4).later hB5)
                have hBk := (hB3.trans (hB4.mono (by omega))).trans (hB5.mono (by omega))
                clear h84 h84' hR8 HO4 HO42 HRo hRo5 hB4 hB3 HLk hgr4 hb4 hz4 hgr
                obtain ⟨f0, f1, f2, f3, f4, f5, f6, f7⟩ := id h85
                obtain ⟨g0, g1, g2, g3, g4, g5, g6_1, g7⟩ := id h85'
                obtain ⟨p0, p1, p2, p3, p4, p5, p6, p7⟩ := id hR48
                obtain ⟨q0, q1, q2, q3, q4, q5, q6, q7⟩ := id hR58
                simp only [Nat.zero_add] at f0 f1 f2 f3 f4 f5 f6 f7 g0 g1 g2 g3 g4 g5 g6_1 g7 p1 p2 p3 p4 p5 p6 p7 q1 q2 q3 q4 q5 q6 q7
                go_upto_region 12 with fail
                go_cut [128, 129, 130] (fun v n i wx => ∃ (g6 : Nat) (L6 : List Nd), v = .slice (some ⟨g6, 0, none⟩) 6 6 ∧ n = .int .i64 6 ∧ i = .int .i64 0 ∧ Lst wc wx L6 6 g6)
                case first =>
                  generalize wc = W0 at *
                  have hBd := (Below.refl W0.heap.size W0).drew
                  go_region_held3 (fun w' => Below W0.heap.size W0 w' ∧ ∀ b o, b < W0.heap.size → w'.cell? ⟨b, o, none⟩ = W0.cell? ⟨b, o, none⟩) (first | exact below_held (by assumption) | exact below_held (Below.alloc (by assumption) (Below.size (by assumption)) _) | go_keep) ((go_at_call 48; (try go_split_ands); refine (krep_any _ _ _ _ _ _ (Hacc.out (_, _, _) (by simp))).mono ?_; rintro e w' ⟨⟨⟨t9, A9, c9⟩, rfl, hx9⟩, hb⟩; have Hacc := Lib.hid (Hacc.out.cons hb hx9); have hBd := hBd.trans (hb.mono hBd.size); clear hx9))
                  all_goals go_wp2_with fail
                  all_goals go_meet
                  exact ⟨_, _, rfl, rfl, rfl, Lst.lit [(R, AR, cR), (R5, AR5, cR5), (_, _, _), (_, _, _), (_, _, _), (_, _, _)] rfl rfl (fun y hy => by
                    simp only [List.mem_cons, List.not_mem_nil, or_false] at hy
                    rcases hy with rfl | rfl | rfl | rfl | rfl | rfl <;> exact Hacc.out _ (by simp)) hBd⟩
                case rest =>
                  obtain ⟨g6, L6, rfl, rfl, rfl, hL6⟩ := hcut
                  have hbel6 := hL6.bel
                  have hz6 := hbel6.size
                  have HL6 := Lib.hid hL6
                  have HLd := Lib.hid (HLc.out.later hbel6)
                  have hBm := hBk.trans (hbel6.mono (by have := hBk.size; omega))
                  clear f0 f1 f2 f3 f4 f5 f6 f7 g0 g1 g2 g3 g4 g5 g6_1 g7 p0 p1 p2 p3 p4 p5 p6 p7 q0 q1 q2 q3 q4 q5 q6 q7 hL6 h85 h85' hR48 hR58 HLc hBk hbel6 Hacc HO5 HO52
                  go_wp2_with fail
                  go_loopg [130] 6 (fun n i wr => ∃ m : Nat, i = .int .i64 m ∧ m + n = 6 ∧ Below wc.heap.size wc wr)
                  case atStart => exact ⟨0, rfl, rfl, Below.refl _ _⟩
                  case round =>
                    obtain ⟨m, rfl, hm, hB6⟩ := hrel
                    have HLm := Lib.hid (HL6.out.later hB6)
                    have hzm := hB6.size
                    by_cases hlm : m < 6
                    · obtain ⟨⟨t6, A6, c6⟩, hx6⟩ : ∃ x, L6[m]? = some x := ⟨_, List.getElem?_eq_getElem (by rw [HL6.out.len]; exact hlm)⟩
                      have h86 := HLm.out.at8 m _ hx6
                      have hown6 := HLm.out.own _ (List.mem_of_getElem? hx6)
                      have hgm : g6 < wr.heap.size := HLm.out.lt
                      have HO6 := Lib.hid hown6; clear hown6 hx6
                      obtain ⟨f0, f1, f2, f3, f4, f5, f6, f7⟩ := id h86
                      simp only [Nat.zero_add] at f0 f1 f2 f3 f4 f5 f6 f7
                      go_wp2_with fail
                      generalize hW : wr.alloc _ = W6
                      have hb6 : Below wr.heap.size wr W6 := by subst hW; exact (Below.refl _ _).alloc (Nat.le_refl _) _
                      have P6 : At8 W6 wr.heap.size 0 t6 A6 c6 := by subst hW; constructor <;> simp [go_sem]
                      have hzz6 : wr.heap.size < W6.heap.size := by subst hW; simp
                      clear hW f0 f1 f2 f3 f4 f5 f6 f7 h86
                      refine (makes_any t6 W6 _ A6 c6 (HO6.out.later hb6) (fun b h => h)).mono ?_
                      rintro e w7 ⟨rfl, hb7⟩
                      have hz7 := hb7.size
                      have P7 := P6.later hb7 hzz6
                      obtain ⟨f0, f1, f2, f3, f4, f5, f6, f7⟩ := id P7
                      simp only [Nat.zero_add] at f0 f1 f2 f3 f4 f5 f6 f7
                      go_wp2_with fail
                      refine (may_law t6 w7 _ A6 c6 ((HO6.out.later hb6).later hb7) (fun b h => h)).mono ?_
                      rintro e w8 ⟨rfl, hb8⟩
                      go_wp2_with fail
                      go_roundg (5 - m)
                      case measure => omega
                      case rel => exact ⟨m + 1, by go_num, by omega, ((hB6.trans (hb6.mono (by omega))).trans (hb7.mono (by omega))).trans (hb8.mono (by omega))⟩
                    · have HLe := Lib.hid (HLd.out.later hB6)
                      have h89 := HLe.out.at8 j _ Hx.out
                      have h89' := HLe.out.at8 k _ Hx2.out
                      have hgr : g < wr.heap.size := HLe.out.lt
                      have hown := HLe.out.own _ (List.mem_of_getElem? Hx.out)
                      have hown2 := HLe.out.own _ (List.mem_of_getElem? Hx2.out)
                      have hd := (Below.refl wr.heap.size wr).drew
                      have HO8 := Lib.hid (hown.later hd); have HO9 := Lib.hid (hown2.later hd); clear hown hown2
                      have hBn := (hBm.trans (hB6.mono (by have := hBm.size; omega)))
                      have hBd := hBn.drew
                      obtain ⟨f0, f1, f2, f3, f4, f5, f6, f7⟩ := id h89
                      obtain ⟨g0, g1, g2, g3, g4, g5, g6_1, g7⟩ := id h89'
                      simp only [Nat.zero_add] at f0 f1 f2 f3 f4 f5 f6 f7 g0 g1 g2 g3 g4 g5 g6_1 g7
                      go_upto_region 18 with fail
                      go_still_tail 10, (by kernel_rfl)
                      change wpList _ _ _ _ _ wr.drew
                      generalize wr.drew = w9 at *
                      clear f0 f1 f2 f3 f4 f5 f6 f7 g0 g1 g2 g3 g4 g5 g6_1 g7
                      go_wp2_with fail
                      refine (parts_law t t2 j k w9 _ A A2 c c2 HO8.out HO9.out (fun b h => h) (by omega) (by omega) (by omega) (by omega)).mono ?_
                      rintro e w10 ⟨rfl, hb10⟩
                      have hz9 := hBd.size
                      go_wp2_with fail
                      go_roundg (18 - k)
                      case measure => omega
                      case rel => exact ⟨k + 1, by go_num, by omega, hBd.trans (hb10.mono hz9)⟩
          · go_wp2_with fail
            go_roundg (18 - j)
            case measure => omega
            case rel => exact ⟨j + 1, by go_num, by omega, hB2.trans (hB3.mono (by omega))⟩
      · go_wp2_with fail
        refine (works_any wr).mono ?_
        rintro e w6 ⟨rfl, hb6⟩
        go_wp2_with fail
        go_ret
        exact ⟨rfl, (hBc.trans (hB.mono hBc.size)).trans (hb6.mono (by have := hB.size; have := hBc.size; omega))⟩
end Go.Proofs.Ytdpmbanfaigmcaa
