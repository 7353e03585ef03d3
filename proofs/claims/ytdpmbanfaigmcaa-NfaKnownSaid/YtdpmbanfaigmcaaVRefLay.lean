/- vouchref11: the layer's lay: walked. -/
import Derived.Test.YtdpmbanfaigmcaaVRefRep
import Derived.Test.YtdpmbanfaigmcaaVChoice
set_option linter.unusedVariables false
set_option linter.unusedSimpArgs false
namespace Go.Proofs.Ytdpmbanfaigmcaa
open Go.RowKit

theorem own_hno {L base : Nat} {v : Value} {l : List St} {w : World} (hL : Layer w L base v l) : ∀ j, w.heap.size ≤ j → some j ≠ v.ownBlock := fun j hj e => by have := (hL.own.lt _ e.symm).2; omega

set_option maxRecDepth 100000 in
set_option maxHeartbeats 400000 in
theorem rlay_0 (t : T) (hk : t.k = 0) : LayAt 45 t := by
  intro w ok A c L base v l to hN ho hL hlen
  have hr : layF t to l = (to, l) := by rw [layF_eq]; simp [hk]
  have Hr := Lib.hid hr; clear hr
  go_enter Try.func45, Try.ntmps45
  go_wp2_with fail
  go_ret
  rw [Hr.out]
  exact ⟨rfl, v, hL.alloc _, Moves.refl _ _, Lays.alloc _ _ _ _⟩

set_option maxRecDepth 100000 in
set_option maxHeartbeats 400000 in
theorem rlay_1 (t : T) (hk : t.k = 1) : LayAt 45 t := by
  intro w ok A c L base v l to hN ho hL hlen
  have hr : layF t to l = ((l.length : Int), l ++ [⟨1, t.s0, t.s1, t.s2, t.s3, to, 0⟩]) := by rw [layF_eq]; simp [hk]
  rw [hr] at hlen
  have Hr := Lib.hid hr; clear hr
  simp only [List.length_append, List.length_cons, List.length_nil] at hlen
  go_enter Try.func45, Try.ntmps45
  go_wp2_with fail
  refine (rstate_any _ L base v l ⟨1, t.s0, t.s1, t.s2, t.s3, to, 0⟩ (hL.alloc _) (by omega)).mono ?_
  rintro e w1 ⟨rfl, v1, hL1, hm1, hl1⟩
  go_wp2_with fail
  go_ret
  rw [Hr.out]
  exact ⟨rfl, v1, hL1, (Moves.refl w v).trans (by simp) hm1, (Lays.alloc _ _ _ _).trans (Moves.refl _ _) hl1⟩

set_option maxRecDepth 100000 in
set_option maxHeartbeats 400000 in
theorem rlay_23 (t : T) (hk : t.k = 2 ∨ t.k = 3) : LayAt 45 t := by
  intro w ok A c L base v l to hN ho hL hlen
  rcases hk with hk | hk
  · have hr : layF t to l = ((l.length : Int), l ++ [⟨3, 0, 0, 0, 0, to, 0⟩]) := by rw [layF_eq]; simp [hk]
    rw [hr] at hlen
    have Hr := Lib.hid hr; clear hr
    simp only [List.length_append, List.length_cons, List.length_nil] at hlen
    go_enter Try.func45, Try.ntmps45
    go_wp2_with fail
    refine (rstate_any _ L base v l ⟨3, 0, 0, 0, 0, to, 0⟩ (hL.alloc _) (by omega)).mono ?_
    rintro e w1 ⟨rfl, v1, hL1, hm1, hl1⟩
    go_wp2_with fail
    go_ret
    rw [Hr.out]
    exact ⟨rfl, v1, hL1, (Moves.refl w v).trans (by simp) hm1, (Lays.alloc _ _ _ _).trans (Moves.refl _ _) hl1⟩
  · have hr : layF t to l = ((l.length : Int), l ++ [⟨4, 0, 0, 0, 0, to, 0⟩]) := by rw [layF_eq]; simp [hk]
    rw [hr] at hlen
    have Hr := Lib.hid hr; clear hr
    simp only [List.length_append, List.length_cons, List.length_nil] at hlen
    go_enter Try.func45, Try.ntmps45
    go_wp2_with fail
    refine (rstate_any _ L base v l ⟨4, 0, 0, 0, 0, to, 0⟩ (hL.alloc _) (by omega)).mono ?_
    rintro e w1 ⟨rfl, v1, hL1, hm1, hl1⟩
    go_wp2_with fail
    go_ret
    rw [Hr.out]
    exact ⟨rfl, v1, hL1, (Moves.refl w v).trans (by simp) hm1, (Lays.alloc _ _ _ _).trans (Moves.refl _ _) hl1⟩

set_option maxRecDepth 100000 in
set_option maxHeartbeats 400000 in
theorem rlay_6 (t : T) (hk : t.k = 6) (h : LayAt 62 t) : LayAt 45 t := by
  intro w ok A c L base v l to hN ho hL hlen
  have Hlen := Lib.hid hlen; have H := Lib.hid h; clear hlen h
  have Hk := Lib.hid hk
  have e : nodeV t A c = .agg #[.int .i64 6, .int .u64 t.s0, .int .u64 t.s1, .int .u64 t.s2, .int .u64 t.s3, .int .i64 t.mn, .int .i64 t.mx, .slice A t.ps.length c] := by simp [nodeV, hk]
  have hcall := H.out (w.alloc (.cells #[.int .i64 6, .int .u64 t.s0, .int .u64 t.s1, .int .u64 t.s2, .int .u64 t.s3, .int .i64 t.mn, .int .i64 t.mx, .slice A t.ps.length c] 27)) ok A c L base v l to (hN.alloc (fun b hb => (ho b hb).1) _) (ho.alloc _) (hL.alloc _) Hlen.out
  rw [e] at hcall
  rw [e]
  have Hcall := Lib.hid hcall; clear hcall hk e
  go_enter Try.func45, Try.ntmps45
  go_wp2_with fail
  refine Hcall.out.mono ?_
  rintro e w1 ⟨rfl, v1, hL1, hm1, hl1⟩
  go_wp2_with fail
  go_ret
  exact ⟨rfl, v1, hL1, (Moves.refl w v).trans (by simp) hm1, (Lays.alloc _ _ _ _).trans (Moves.refl _ _) hl1⟩

/-- The loop over a row, the last part first. -/
def RRowI (t : T) (W0 : World) (L base : Nat) (v : Value) (to : Int) (l : List St) (n : Nat) (tv iv : Value) (wr : World) : Prop :=
  ∃ (x : Int) (v' : Value), iv = .int .i64 x ∧ x = (n : Int) - 1 ∧ n ≤ t.ps.length ∧ tv = .int .i64 (rowF (t.ps.drop n) to l).1 ∧ Layer wr L base v' (rowF (t.ps.drop n) to l).2 ∧ Moves W0 v v' ∧ Lays L v.ownBlock W0 wr

set_option maxRecDepth 100000 in
set_option maxHeartbeats 2000000 in
theorem rlay_4 (t : T) (hk : t.k = 4) (ih : ∀ p ∈ t.ps, LayAt 45 p) : LayAt 45 t := by
  intro w ok A c L base v l to hN ho hL hlen
  have hrow : layF t to l = rowF t.ps to l := by rw [layF_eq]; simp [hk]
  have hll := hN.len
  have hcc := hN.cap
  rw [hrow] at hlen
  have Hrow := Lib.hid hrow; have Hlen := Lib.hid hlen; have Hih := Lib.hid ih
  clear hrow hlen ih
  have hLlt := hL.lt
  go_enter Try.func45, Try.ntmps45
  go_wp2_with fail
  clear hk
  generalize hW : w.alloc _ = W0
  have hb0 : Below w.heap.size w W0 := by subst hW; exact ((Below.refl _ _).alloc (Nat.le_refl _) _)
  have hz0 : w.heap.size < W0.heap.size := by subst hW; simp
  have c7 : W0.cell? ⟨w.heap.size, 7, none⟩ = some (.slice A t.ps.length c) := by subst hW; simp [go_sem]
  clear hW
  have hL0 := hL.later hb0
  have hno := own_hno hL
  have hlw0 : Lays L v.ownBlock w W0 := Lays.of_below hb0
  have ho0 : OkL W0 L v ok := ho.later hb0.size (Moves.refl _ _)
  have hN0 := hN.later hb0 (fun b hb => (ho b hb).1)
  go_loopg [2, 7] (t.ps.length) (fun n tv iv wr => RRowI t W0 L base v to l n tv iv wr)
  case atStart => exact ⟨_, v, rfl, rfl, Nat.le_refl _, by rw [List.drop_of_length_le (Nat.le_refl _), rowF], by rw [List.drop_of_length_le (Nat.le_refl _), rowF]; exact hL0, Moves.refl _ _, Lays.refl _ _ _⟩
  case round =>
    obtain ⟨x, v', rfl, hx, hn, rfl, hLr, hmr, hlr⟩ := hrel
    have hor := ho0.later hlr.size hmr
    have hNr := hN0.lays ho0 hlr
    have hzr := hlr.size
    have k7 := (hlr.cell (o := 7) hz0 (by omega) (hno _ (Nat.le_refl _))).trans c7
    by_cases hlt : 0 < gk
    · obtain ⟨i, rfl⟩ : ∃ i, gk = i + 1 := ⟨gk - 1, by omega⟩
      obtain rfl : x = (i : Int) := by omega
      clear hx
      have hi : i < t.ps.length := by omega
      obtain ⟨b, o, rfl, hb, hcell⟩ := hNr.part (by omega)
      obtain ⟨A', c', h8, hNj⟩ := hcell i hi
      obtain ⟨f0, f1, f2, f3, f4, f5, f6, f7⟩ := h8
      have hstep : rowF (t.ps.drop i) to l = layF t.ps[i] (rowF (t.ps.drop (i + 1)) to l).1 (rowF (t.ps.drop (i + 1)) to l).2 := by rw [drop_cons hi, rowF]
      have hst : (rowF (t.ps.drop i) to l).2.length ≤ 1000000 := Nat.le_trans (rowF_drop _ _ _ _) Hlen.out
      have hihj := Hih.out _ (List.getElem_mem hi)
      generalize t.ps[i] = p at *
      have Hihj := Lib.hid hihj; have Hstep := Lib.hid hstep; clear hihj hstep hcell
      go_wp2_with fail
      refine (Hihj.out _ ok A' c' L base v' _ _ hNj hor hLr (by rw [← Hstep.out]; exact hst)).mono ?_
      rintro e w1 ⟨rfl, v1, hL1, hm1, hl1⟩
      rw [← Hstep.out] at hL1 ⊢
      go_wp2_with fail
      go_roundg i
      case measure => omega
      case rel => exact ⟨_, v1, rfl, by omega, by omega, rfl, hL1, hmr.trans hzr hm1, hlr.trans hmr hl1⟩
    · obtain rfl : gk = 0 := by omega
      obtain rfl : x = -1 := by omega
      clear hx hlt
      rw [List.drop_zero, ← Hrow.out] at hLr ⊢
      go_wp2_with fail
      go_ret
      exact ⟨rfl, v', hLr, (Moves.refl w v).trans hb0.size hmr, hlw0.trans (Moves.refl _ _) hlr⟩
end Go.Proofs.Ytdpmbanfaigmcaa
