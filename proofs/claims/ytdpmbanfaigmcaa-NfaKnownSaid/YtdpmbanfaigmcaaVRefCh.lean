/- vouchref11: the layer's lay at a choice; lay as a whole: walked. -/
import Derived.Test.YtdpmbanfaigmcaaVRefLay
import Derived.Test.YtdpmbanfaigmcaaVLent
set_option linter.unusedVariables false
set_option linter.unusedSimpArgs false
namespace Go.Proofs.Ytdpmbanfaigmcaa
open Go.RowKit

/-- The loop that lays the parts. -/
def RChI (t : T) (W0 : World) (L base : Nat) (v : Value) (to : Int) (l : List St) (n : Nat) (sv iv : Value) (wr : World) : Prop :=
  ∃ (j : Nat) (bs : List Int) (v' : Value) (l' : List St), iv = .int .i64 j ∧ j + n = t.ps.length ∧ bs.length = j ∧ bs ++ (begF (t.ps.drop j) to l').1 = (begF t.ps to l).1 ∧ (begF (t.ps.drop j) to l').2 = (begF t.ps to l).2 ∧
    Layer wr L base v' l' ∧ Moves W0 v v' ∧ Lays L v.ownBlock W0 wr ∧ wr.ownsRow W0.heap.size 3 1 sv bs.length (bs.map ivl)
/-- The loop that lays the splits. -/
def RChJ (bs : List Int) (W0 : World) (L base : Nat) (v : Value) (l : List St) (m n : Nat) (tv iv : Value) (wr : World) : Prop :=
  ∃ (k : Nat) (x : Int) (v' : Value), iv = .int .i64 x ∧ x = (m : Int) - 1 - k ∧ k + n = m ∧ tv = .int .i64 (splitsF (bs.drop (m - k)) l).1 ∧ Layer wr L base v' (splitsF (bs.drop (m - k)) l).2 ∧ Moves W0 v v' ∧ Lays L v.ownBlock W0 wr

set_option maxRecDepth 100000 in
set_option maxHeartbeats 4000000 in
theorem rlay_5 (t : T) (hk : t.k = 5) (hr : rightF t = true) (ih : ∀ p ∈ t.ps, LayAt 45 p) : LayAt 45 t := by
  intro w ok A c L base v l to hN ho hL hlen
  have hps1 : 2 ≤ t.ps.length := by rcases right_cases hr with h | h | h | h | h | h | h <;> omega
  have hch : layF t to l = splitsF (begF t.ps to l).1 (begF t.ps to l).2 := by rw [layF_eq]; simp [hk]
  have hll := hN.len
  have hcc := hN.cap
  rw [hch] at hlen
  have hl2 : (begF t.ps to l).2.length ≤ 1000000 := by rw [splitsF_len] at hlen; omega
  have Hch := Lib.hid hch; have Hlen := Lib.hid hlen; have Hih := Lib.hid ih
  have Hbl := Lib.hid (begF_len t.ps to l)
  clear hch hlen ih hr
  have hLlt := hL.lt
  go_enter Try.func45, Try.ntmps45
  go_wp2_with fail
  clear hk
  generalize hW : w.alloc _ = W0
  have hb0 : Below w.heap.size w W0 := by subst hW; exact ((Below.refl _ _).alloc (Nat.le_refl _) _)
  have hz0 : w.heap.size < W0.heap.size := by subst hW; simp
  have c7 : W0.cell? ⟨w.heap.size, 7, none⟩ = some (.slice A t.ps.length c) := by subst hW; simp [go_sem]
  clear hW
  have hL0 := hL.later hb0
  have hno := own_hno hL
  have hlw0 : Lays L v.ownBlock w W0 := Lays.of_below hb0
  have ho0 : OkL W0 L v ok := ho.later hb0.size (Moves.refl _ _)
  have hN0 := hN.later hb0 (fun b hb => (ho b hb).1)
  clear hN ho hb0 hL
  go_loopg [8, 9] (t.ps.length) (fun n sv iv wr => RChI t W0 L base v to l n sv iv wr)
  case atStart => exact ⟨0, [], v, l, rfl, by omega, rfl, rfl, rfl, hL0, Moves.refl _ _, Lays.refl _ _ _, World.ownsRow_nil _ _ _ _⟩
  case round =>
    clear hL0
    obtain ⟨j, bs, v', l', rfl, hj, hbs, hq1, hq2, hLr, hmr, hlr, hor⟩ := hrel
    have hok := ho0.later hlr.size hmr
    have hNr := hN0.lays ho0 hlr
    have hzr := hlr.size
    have k7 := (hlr.cell (o := 7) hz0 (by omega) (hno _ (Nat.le_refl _))).trans c7
    have Hq1 := Lib.hid hq1; have Hq2 := Lib.hid hq2; have Hbs := Lib.hid hbs
    clear hq1 hq2 hbs
    by_cases hlt : j < t.ps.length
    · obtain ⟨b, o, rfl, hb, hcell⟩ := hNr.part (by omega)
      obtain ⟨A', c', h8, hNj⟩ := hcell j hlt
      obtain ⟨f0, f1, f2, f3, f4, f5, f6, f7⟩ := h8
      have hihj := Hih.out _ (List.getElem_mem hlt)
      have hbstep : begF (t.ps.drop j) to l' = ((layF t.ps[j] to l').1 :: (begF (t.ps.drop (j + 1)) to (layF t.ps[j] to l').2).1, (begF (t.ps.drop (j + 1)) to (layF t.ps[j] to l').2).2) := by rw [drop_cons hlt, begF]
      have hst : (layF t.ps[j] to l').2.length ≤ 1000000 := by
        have h1 := begF_grows (t.ps.drop (j + 1)) (fun p _ => layF_grows p) to (layF t.ps[j] to l').2
        have h2 := Hq2.out
        rw [hbstep] at h2
        simp only at h2
        rw [h2] at h1
        omega
      have Hbstep := Lib.hid hbstep; clear hbstep hcell
      generalize t.ps[j] = p at *
      have Hihj := Lib.hid hihj; clear hihj
      obtain ⟨A7, c7', rfl⟩ : ∃ A7 c7, u8 = .slice A7 bs.length c7 := by
        rcases hor.2 with ⟨rfl, h0⟩ | ⟨g, cap, cur, rfl, _⟩
        · exact ⟨none, 0, by rw [h0]⟩
        · exact ⟨_, cap, rfl⟩
      have Hor := Lib.hid hor; clear hor
      go_wp2_with fail
      refine (Hihj.out _ ok A' c' L base v' l' to hNj hok hLr hst).mono ?_
      rintro e w1 ⟨rfl, v1, hL1, hm1, hl1⟩
      have hor1 := hl1.own hLr Hor.out (by decide) (by omega)
      have hz1 := hl1.size
      have hm1' : Moves W0 v v1 := hmr.trans hzr hm1
      have hl1' : Lays L v.ownBlock W0 w1 := hlr.trans hmr hl1
      have hbl7 : bs.length + 1 ≤ 17592186044416 := by have := Hbs.out; omega
      have Hor1 := Lib.hid hor1; clear hor1
      go_wp2_with (at_builtin; refine wpList_append_at W0.heap.size rfl _ _ 71 3 _ 1 8 rfl Try.underlying71 Try.infoInt rfl (by omega) (by omega) (.slice A7 bs.length c7') bs.length 1 (bs.map ivl) [.int .i64 (layF p to l').1] ⟨w1.heap.size, 0, none⟩ 1 rfl rfl (by omega) rfl (cell_one_new _ _ _) (by intro u hu; simp at hu; subst hu; rfl) (Hor1.out.alloc _) (by simp; omega) (by omega) (fun g cap w2 ho2 hg2 hat2 => ?_))
      have hL2 : Layer w2 L base v1 (layF p to l').2 := (hL1.alloc _).grown (Hor1.out.alloc _) (by decide) (by omega) hg2
      have hl2' : Lays L v.ownBlock W0 w2 := (hl1'.trans hm1' (Lays.alloc _ _ _ _)).grownNew hg2 (fun g hg => (Hor1.out.lt g hg).1)
      go_wp2_with fail
      go_roundg (gk - 1)
      case measure => omega
      case rel =>
        refine ⟨j + 1, bs ++ [(layF p to l').1], v1, (layF p to l').2, by go_num, by omega, by rw [List.length_append, Hbs.out]; rfl, ?_, ?_, hL2, hm1', hl2', ?_⟩
        · have := Hq1.out
          rw [Hbstep.out] at this
          simpa using this
        · have := Hq2.out
          rw [Hbstep.out] at this
          exact this
        · rw [List.length_append, List.map_append]; exact ho2
    · have hgk : t.ps.drop j = [] := List.drop_of_length_le (by omega)
      have hq1 := Hq1.out
      have hq2 := Hq2.out
      rw [hgk, begF, List.append_nil] at hq1
      rw [hgk, begF] at hq2
      simp only at hq1 hq2
      subst hq2
      have hbl : bs.length = t.ps.length := by have := Hbs.out; omega
      obtain ⟨m, hm⟩ : ∃ m, bs.length = m + 1 := ⟨bs.length - 1, by omega⟩
      have hor' := hor
      rw [hm] at hor'
      obtain ⟨g, cap, rfl, hgcap⟩ : ∃ g cap, u8 = .slice (some ⟨g, 0, none⟩) (m + 1) cap ∧ m + 1 ≤ cap := by
        rcases hor'.2 with ⟨rfl, h0⟩ | ⟨g, cap, cur, rfl, _, _, hh, _⟩
        · omega
        · exact ⟨g, cap, rfl, hh⟩
      have hgz := hor'.lt g rfl
      have hcells : ∀ i, i < m + 1 → wr.cell? ⟨g, i, none⟩ = some (.int .i64 (bs.getD i 0)) := fun i hi => by
        have h1 := hor'.cells (g := g) rfl i (ivl (bs.getD i 0)) (by rw [List.getElem?_map, List.getElem?_eq_getElem (by omega)]; simp [List.getD_eq_getElem?_getD, show i < bs.length by omega])
        rwa [show (⟨g, 0, none⟩ : Addr).add i = ⟨g, i, none⟩ by unfold Addr.add; split <;> simp_all] at h1
      have hlast := hcells m (by omega)
      obtain ⟨xl, hxl⟩ : ∃ xl, bs.getD m 0 = xl := ⟨_, rfl⟩
      rw [hxl] at hlast
      have Hxl := Lib.hid hxl; clear hxl
      have Hm := Lib.hid hm; have Hq := Lib.hid hq1; have Hcells := Lib.hid hcells
      have hmz : m + 1 ≤ 17592186044416 := by omega
      have hm1 : 1 ≤ m := by omega
      have hgne : some g ≠ v'.ownBlock := fun e => own_ne hor' hLr.own (by decide) rfl e.symm
      have Hgne := Lib.hid hgne
      have hgL : L < g := by have := hgz.1; omega
      have hgz2 := hgz.2
      clear hm hq1 hcells hbl hor hor' Hq1 Hq2 Hbs Hih Hbl hgk hgne hgz
      go_wp2_with fail
      go_loopg [2, 11] m (fun n tv iv W => RChJ bs wr L base v' (begF t.ps to l).2 m n tv iv W)
      case atStart =>
        have hsz := splits_zero bs (begF t.ps to l).2 (by have := Hm.out; omega)
        have hm' : bs.length - 1 = m := by have := Hm.out; omega
        rw [hm', Hxl.out] at hsz
        refine ⟨0, _, v', rfl, by push_cast; omega, by omega, ?_, ?_, Moves.refl _ _, Lays.refl _ _ _⟩
        · rw [hsz]
        · rw [hsz]; exact hLr
      case round =>
        obtain ⟨k, x, v4, rfl, hx, hkm, rfl, hL4, hm4, hl4⟩ := hrel
        have hm' : bs.length - 1 = m := by have := Hm.out; omega
        have hz4 := hl4.size
        by_cases hkl : k < m
        · obtain ⟨i, hi⟩ : ∃ i, m = k + 1 + i := ⟨m - 1 - k, by omega⟩
          obtain rfl : x = (i : Int) := by omega
          have hstep := splits_step bs (begF t.ps to l).2 k (by have := Hm.out; omega)
          rw [hm', show m - 1 - k = i by omega] at hstep
          have hst : (splitsF (bs.drop (m - k)) (begF t.ps to l).2).2.length ≤ 1000000 := by
            have h1 := splits_drop_len bs (begF t.ps to l).2 (m - k)
            have h2 := Hlen.out
            rw [← Hq.out] at h2
            omega
          have hci := (hl4.cell (o := i) hgz2 (by omega) Hgne.out).trans (Hcells.out i (by omega))
          have him : i < m + 1 := by omega
          have Hstep := Lib.hid hstep; have Hi := Lib.hid hi
          clear hstep hx hi hm'
          generalize bs.getD i 0 = bi at *
          generalize splitsF (bs.drop (m - k)) (begF t.ps to l).2 = sk at *
          go_wp2_with fail
          refine (rstate_any _ L base v4 sk.2 (splitS bi sk.1) hL4 (by omega)).mono ?_
          rintro e w5 ⟨rfl, v5, hL5, hm5, hl5⟩
          go_wp2_with fail
          go_roundg (gk - 1)
          case measure => omega
          case rel =>
            have hi := Hi.out
            refine ⟨k + 1, (i : Int) - 1, v5, by go_num, by omega, by omega, ?_, ?_, hm4.trans hz4 hm5, hl4.trans hm4 hl5⟩
            · rw [Hstep.out]
            · rw [Hstep.out]; exact hL5
        · obtain rfl : k = m := by omega
          obtain rfl : x = -1 := by omega
          rw [Nat.sub_self, List.drop_zero, Hq.out, ← Hch.out] at hL4
          have hfin : (splitsF (bs.drop (k - k)) (begF t.ps to l).2).1 = (layF t to l).1 := by rw [Nat.sub_self, List.drop_zero, Hq.out, ← Hch.out]
          have Hfin := Lib.hid hfin
          clear hx hkl hfin hm'
          go_wp2_with fail
          go_ret
          refine ⟨by rw [← Hfin.out]; rfl, v4, hL4, ?_, ?_⟩
          · exact (Moves.refl w v).trans (by omega) (hmr.trans hzr hm4)
          · exact hlw0.trans (Moves.refl _ _) (hlr.trans hmr hl4)

theorem rlay_any (t : T) : rightF t = true → LayAt 45 t := by
  induction t using T.ind with
  | h t ih =>
    intro hr
    have ih' : ∀ p ∈ t.ps, LayAt 45 p := fun p hp => ih p hp (right_parts hr p hp)
    rcases right_cases hr with h | h | h | h | h | h | h
    · exact rlay_0 t h.1
    · exact rlay_1 t h.1
    · exact rlay_23 t (.inl h.1)
    · exact rlay_23 t (.inr h.1)
    · exact rlay_4 t h.1 ih'
    · exact rlay_5 t h.1 hr ih'
    · exact rlay_6 t h.1 (rrepeat_any t h.1 hr ih')
end Go.Proofs.Ytdpmbanfaigmcaa
