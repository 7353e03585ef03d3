/- Merged texts, part of the proof KnownM: RefCh, RefSize, LayAll, Len, Make, RefMake, RefCheckN, Works, MakesW, Has, ParN, ParI, ParA, ParC, ParP, ParQ, ParS, ParW, ParX, ParY, ParZ, Own. -/
import Derived.Test.YthlakbjnmbddaaaGreatDoorUKnownMA
import Derived.Test.YthlakbjnmbddaaaGreatDoorUKnownMB
import Derived.Deep.RegionWith
import Derived.Deep.DeepMust
import Derived.Laws.EntriesVeiled
import Derived.Shelf.Abstract
import Derived.Laws.MakeOwn
import Derived.Deep.OwnRows
import Derived.Deep.DeepCutAuto
import Derived.Laws.OwnMore
import Derived.WalkMore
import Derived.Deep.QuietTactic
import Derived.BigQuiet
import Derived.IntWalk
import Derived.BigRegion
set_option linter.unusedVariables false
set_option linter.unusedSimpArgs false
set_option maxRecDepth 100000
set_option maxHeartbeats 8000000
namespace Go.Proofs.YthlakbjnmbddaaaGreatDoor
open Lib (hid)
open Go.RowKit
def zG (t : T) (W0 : World) (L base : Nat) (v : Value) (tu : Int) (l : List St) (n : Nat) (sv iv : Value) (wr : World) : Prop :=
 ∃ (j : Nat) (bs : List Int) (v' : Value) (l' : List St), iv = .int .i64 j ∧ j + n = t.ps.length ∧ bs.length = j ∧ bs ++ (cF (t.ps.drop j) tu l').1 = (cF t.ps tu l).1 ∧ (cF (t.ps.drop j) tu l').2 = (cF t.ps tu l).2 ∧
  Layer wr L base v' l' ∧ aP W0 v v' ∧ Lays L v.ownBlock W0 wr ∧ wr.ownsRow W0.heap.size 3 1 sv bs.length (bs.map ivl)
def zF (bs : List Int) (W0 : World) (L base : Nat) (v : Value) (l : List St) (m n : Nat) (tv iv : Value) (wr : World) : Prop :=
 ∃ (k : Nat) (x : Int) (v' : Value), iv = .int .i64 x ∧ x = (m : Int) - 1 - k ∧ k + n = m ∧ tv = .int .i64 (aF (bs.drop (m - k)) l).1 ∧ Layer wr L base v' (aF (bs.drop (m - k)) l).2 ∧ aP W0 v v' ∧ Lays L v.ownBlock W0 wr
theorem yo (t : T) (hk : t.k = 5) (hr : aC t = true) (ih : ∀ p ∈ t.ps, bQ 77 p) : bQ 77 t := by
 intro w ok A c L base v l tu hN ho hL hlen
 have hps1 : 2 ≤ t.ps.length := by rcases aJ hr with h | h | h | h | h | h | h <;> omega
 have hch : ax t tu l = aF (cF t.ps tu l).1 (cF t.ps tu l).2 := by rw [cd]; simp [hk]
 have hll := hN.len
 have hcc := hN.cap
 rw [hch] at hlen
 have hl2 : (cF t.ps tu l).2.length ≤ 1000000 := by rw [cL] at hlen; omega
 have Hch := hid hch; have Hlen := hid hlen; have Hih := hid ih
 have Hbl := hid (eM t.ps tu l)
 clear hch hlen ih hr
 have hLlt := hL.lt
 go_enter Tryz.func77, Tryz.ntmps77
 go_wp2_with fail
 clear hk
 generalize hW : w.alloc _ = W0
 have hb0 : Below w.heap.size w W0 := by subst hW; exact nal
 have hz0 : w.heap.size < W0.heap.size := by subst hW; simp
 have c7 : W0.cell? ⟨w.heap.size, 7, none⟩ = some (.slice A t.ps.length c) := by subst hW; simp [go_sem]
 clear hW
 have hL0 := hL.later hb0
 have hno := sn hL
 have hlw0 : Lays L v.ownBlock w W0 := Lays.of_below hb0
 have ho0 : OkL W0 L v ok := ho.later hb0.size (aP.refl _ _)
 have hN0 := hN.later hb0 (fun b hb => (ho b hb).1)
 clear hN ho hb0 hL
 go_loopg [8, 9] (t.ps.length) (fun n sv iv wr => zG t W0 L base v tu l n sv iv wr)
 case atStart => exact ⟨0, [], v, l, rfl, by omega, rfl, rfl, rfl, hL0, aP.refl _ _, Lays.refl _ _ _, World.ownsRow_nil _ _ _ _⟩
 case round =>
  clear hL0
  obtain ⟨j, bs, v', l', rfl, hj, hbs, hq1, hq2, hLr, hmr, hlr, hor⟩ := hrel
  have hok := ho0.later hlr.size hmr
  have hNr := hN0.lays ho0 hlr
  have hzr := hlr.size
  have k7 := (hlr.cell (o := 7) hz0 (by omega) (hno _ (Nat.le_refl _))).trans c7
  have Hq1 := hid hq1; have Hq2 := hid hq2; have Hbs := hid hbs
  clear hq1 hq2 hbs
  by_cases hlt : j < t.ps.length
  · obtain ⟨b, o, rfl, hb, hcell⟩ := hNr.part (by omega)
    obtain ⟨A', c', h8, hNj⟩ := hcell j hlt
    obtain ⟨f0, f1, f2, f3, f4, f5, f6, f7⟩ := h8
    have hihj := Hih.out _ (List.getElem_mem hlt)
    have hbstep : cF (t.ps.drop j) tu l' = ((ax t.ps[j] tu l').1 :: (cF (t.ps.drop (j + 1)) tu (ax t.ps[j] tu l').2).1, (cF (t.ps.drop (j + 1)) tu (ax t.ps[j] tu l').2).2) := by rw [bI hlt, cF]
    have hst : (ax t.ps[j] tu l').2.length ≤ 1000000 := by
     have h1 := fR (t.ps.drop (j + 1)) (fun p _ => dB p) tu (ax t.ps[j] tu l').2
     have h2 := Hq2.out
     rw [hbstep] at h2
     simp only at h2
     rw [h2] at h1
     omega
    have Hbstep := hid hbstep; clear hbstep hcell
    generalize t.ps[j] = p at *
    have Hihj := hid hihj; clear hihj
    obtain ⟨A7, c7', rfl⟩ : ∃ A7 c7, u8 = .slice A7 bs.length c7 := by
     rcases hor.2 with ⟨rfl, h0⟩ | ⟨g, cap, cur, rfl, _⟩
     · exact ⟨none, 0, by rw [h0]⟩
     · exact ⟨_, cap, rfl⟩
    have Hor := hid hor; clear hor
    go_wp2_with fail
    refine (Hihj.out _ ok A' c' L base v' l' tu hNj hok hLr hst).mono ?_
    rintro e w1 ⟨rfl, v1, hL1, hm1, hl1⟩
    have hor1 := hl1.own hLr Hor.out (by decide) (by omega)
    have hz1 := hl1.size
    have hm1' : aP W0 v v1 := hmr.trans hzr hm1
    have hl1' : Lays L v.ownBlock W0 w1 := hlr.trans hmr hl1
    have hbl7 : bs.length + 1 ≤ 17592186044416 := by have := Hbs.out; omega
    have Hor1 := hid hor1; clear hor1
    go_wp2_with (at_builtin; refine eT W0.heap.size rfl _ _ 45 3 _ 1 8 rfl Tryz.underlying45 Tryz.infoInt rfl (by omega) (by omega) (.slice A7 bs.length c7') bs.length 1 (bs.map ivl) [.int .i64 (ax p tu l').1] ⟨w1.heap.size, 0, none⟩ 1 rfl rfl (by omega) rfl (cell_one_new _ _ _) (by intro u hu; simp at hu; subst hu; rfl) (Hor1.out.alloc _) (by simp; omega) (by omega) (fun g cap w2 ho2 hg2 hat2 => ?_))
    have hL2 : Layer w2 L base v1 (ax p tu l').2 := (hL1.alloc _).grown (Hor1.out.alloc _) (by decide) (by omega) hg2
    have hl2' : Lays L v.ownBlock W0 w2 := (hl1'.trans hm1' (Lays.alloc _ _ _ _)).grownNew hg2 (fun g hg => (Hor1.out.lt g hg).1)
    go_wp2_with fail
    go_roundg (gk - 1)
    case measure => omega
    case rel =>
     refine ⟨j + 1, bs ++ [(ax p tu l').1], v1, (ax p tu l').2, by go_num, by omega, by rw [List.length_append, Hbs.out]; rfl, ?_, ?_, hL2, hm1', hl2', ?_⟩
     · have := Hq1.out
       rw [Hbstep.out] at this
       simpa using this
     · have := Hq2.out
       rw [Hbstep.out] at this
       exact this
     · rw [List.length_append, List.map_append]; exact ho2
  · have hgk : t.ps.drop j = [] := List.drop_of_length_le (by omega)
    have hq1 := Hq1.out
    have hq2 := Hq2.out
    rw [hgk, cF, List.append_nil] at hq1
    rw [hgk, cF] at hq2
    simp only at hq1 hq2
    subst hq2
    have hbl : bs.length = t.ps.length := by have := Hbs.out; omega
    obtain ⟨m, hm⟩ : ∃ m, bs.length = m + 1 := ⟨bs.length - 1, by omega⟩
    have hor' := hor
    rw [hm] at hor'
    obtain ⟨g, cap, rfl, hgcap⟩ : ∃ g cap, u8 = .slice (some ⟨g, 0, none⟩) (m + 1) cap ∧ m + 1 ≤ cap := by
     rcases hor'.2 with ⟨rfl, h0⟩ | ⟨g, cap, cur, rfl, _, _, hh, _⟩
     · omega
     · exact ⟨g, cap, rfl, hh⟩
    have hgz := hor'.lt g rfl
    have hcells : ∀ i, i < m + 1 → wr.cell? ⟨g, i, none⟩ = some (.int .i64 (bs.getD i 0)) := fun i hi => by
     have h1 := hor'.cells (g := g) rfl i (ivl (bs.getD i 0)) (by rw [List.getElem?_map, List.getElem?_eq_getElem (by omega)]; simp [List.getD_eq_getElem?_getD, show i < bs.length by omega])
     rwa [show (⟨g, 0, none⟩ : Addr).add i = ⟨g, i, none⟩ by unfold Addr.add; split <;> simp_all] at h1
    have hlast := hcells m (by omega)
    obtain ⟨xl, hxl⟩ : ∃ xl, bs.getD m 0 = xl := ⟨_, rfl⟩
    rw [hxl] at hlast
    have Hxl := hid hxl; clear hxl
    have Hm := hid hm; have Hq := hid hq1; have Hcells := hid hcells
    have hmz : m + 1 ≤ 17592186044416 := by omega
    have hm1 : 1 ≤ m := by omega
    have hgne : some g ≠ v'.ownBlock := fun e => ma hor' hLr.own (by decide) rfl e.symm
    have Hgne := hid hgne
    have hgL : L < g := by have := hgz.1; omega
    have hgz2 := hgz.2
    clear hm hq1 hcells hbl hor hor' Hq1 Hq2 Hbs Hih Hbl hgk hgne hgz
    go_wp2_with fail
    go_loopg [2, 11] m (fun n tv iv W => zF bs wr L base v' (cF t.ps tu l).2 m n tv iv W)
    case atStart =>
     have hsz := jS bs (cF t.ps tu l).2 (by have := Hm.out; omega)
     have hm' : bs.length - 1 = m := by have := Hm.out; omega
     rw [hm', Hxl.out] at hsz
     refine ⟨0, _, v', rfl, by push_cast; omega, by omega, ?_, ?_, aP.refl _ _, Lays.refl _ _ _⟩
     · rw [hsz]
     · rw [hsz]; exact hLr
    case round =>
     obtain ⟨k, x, v4, rfl, hx, hkm, rfl, hL4, hm4, hl4⟩ := hrel
     have hm' : bs.length - 1 = m := by have := Hm.out; omega
     have hz4 := hl4.size
     by_cases hkl : k < m
     · obtain ⟨i, hi⟩ : ∃ i, m = k + 1 + i := ⟨m - 1 - k, by omega⟩
       obtain rfl : x = (i : Int) := by omega
       have hstep := jT bs (cF t.ps tu l).2 k (by have := Hm.out; omega)
       rw [hm', show m - 1 - k = i by omega] at hstep
       have hst : (aF (bs.drop (m - k)) (cF t.ps tu l).2).2.length ≤ 1000000 := by
        have h1 := fz bs (cF t.ps tu l).2 (m - k)
        have h2 := Hlen.out
        rw [← Hq.out] at h2
        omega
       have hci := (hl4.cell (o := i) hgz2 (by omega) Hgne.out).trans (Hcells.out i (by omega))
       have him : i < m + 1 := by omega
       have Hstep := hid hstep; have Hi := hid hi
       clear hstep hx hi hm'
       generalize bs.getD i 0 = bi at *
       generalize aF (bs.drop (m - k)) (cF t.ps tu l).2 = sk at *
       go_wp2_with fail
       refine (dy _ L base v4 sk.2 (aL bi sk.1) hL4 (by omega)).mono ?_
       rintro e w5 ⟨rfl, v5, hL5, hm5, hl5⟩
       go_wp2_with fail
       go_roundg (gk - 1)
       case measure => omega
       case rel =>
        have hi := Hi.out
        refine ⟨k + 1, (i : Int) - 1, v5, by go_num, by omega, by omega, ?_, ?_, hm4.trans hz4 hm5, hl4.trans hm4 hl5⟩
        · rw [Hstep.out]
        · rw [Hstep.out]; exact hL5
     · obtain rfl : k = m := by omega
       obtain rfl : x = -1 := by omega
       rw [Nat.sub_self, List.drop_zero, Hq.out, ← Hch.out] at hL4
       have hfin : (aF (bs.drop (k - k)) (cF t.ps tu l).2).1 = (ax t tu l).1 := by rw [Nat.sub_self, List.drop_zero, Hq.out, ← Hch.out]
       have Hfin := hid hfin
       clear hx hkl hfin hm'
       go_wp2_with fail
       go_ret
       refine ⟨by rw [← Hfin.out]; rfl, v4, hL4, ?_, ?_⟩
       · exact (aP.refl w v).trans (by omega) (hmr.trans hzr hm4)
       · exact hlw0.trans (aP.refl _ _) (hlr.trans hmr hl4)
theorem ve (t : T) : aC t = true → bQ 77 t := by
 induction t using T.ind with
 | h t ih =>
  intro hr
  have ih' : ∀ p ∈ t.ps, bQ 77 p := fun p hp => ih p hp (aO hr p hp)
  rcases aJ hr with h | h | h | h | h | h | h
  · exact yr t h.1
  · exact yq t h.1
  · exact si t (.inl h.1)
  · exact si t (.inr h.1)
  · exact yp t h.1 ih'
  · exact yo t h.1 hr ih'
  · exact yn t h.1 (oG t h.1 hr ih')
theorem oE (t : T) : ∀ (w : World) (ok : Nat → Prop) (A : Option Addr) (c : Nat), aC t = true → NodeAt w ok t A c → (∀ b, ok b → b < w.heap.size) →
 Calls Tryz.prog 92 #[aB t A c] w fun e w' => e = .returned (.int .i64 (aG t)) ∧ Below w.heap.size w w' := by
 induction t using T.ind with
 | h t ih =>
  intro w ok A c hr hN hok
  have hlen := hN.len
  have hcs := aJ hr
  have Hps := hid (aO hr)
  have Hlb := hid (fun s (h0 : 0 ≤ s) (h1 : s ≤ 4097) (j : Nat) => fq (t.ps.drop j) s (fun p hp => bR p (aO hr p (List.mem_of_mem_drop hp))) h0 h1)
  have Heq := hid (ft t)
  have Hr := hid hr; clear hr
  have Hk : Hid True := trivial
  rcases hcs with ⟨hk, hn, hmn, hmx⟩ | ⟨hk, hn, hmn, hmx⟩ | ⟨hk, hn, hmn, hmx⟩ | ⟨hk, hn, hmn, hmx⟩ | ⟨hk, hn, hmn, hmx⟩ | ⟨hk, hn, hmn, hmx⟩ | ⟨hk, hn, h0, h1, h2, h3⟩
  · have Hres := hid (show aG t = 0 by rw [Heq.out, hk]; simp)
    clear hn hmn hmx
    go_enter Tryz.func92, Tryz.ntmps92
    go_wp2_with fail
    go_ret
    exact ⟨by rw [Hres.out]; rfl, nal⟩
  · have Hres := hid (show aG t = 1 by rw [Heq.out, hk]; simp)
    clear hn hmn hmx
    go_enter Tryz.func92, Tryz.ntmps92
    go_wp2_with fail
    go_ret
    exact ⟨by rw [Hres.out]; rfl, nal⟩
  · have Hres := hid (show aG t = 1 by rw [Heq.out, hk]; simp)
    clear hn hmn hmx
    go_enter Tryz.func92, Tryz.ntmps92
    go_wp2_with fail
    go_ret
    exact ⟨by rw [Hres.out]; rfl, nal⟩
  · have Hres := hid (show aG t = 1 by rw [Heq.out, hk]; simp)
    clear hn hmn hmx
    go_enter Tryz.func92, Tryz.ntmps92
    go_wp2_with fail
    go_ret
    exact ⟨by rw [Hres.out]; rfl, nal⟩
  · have Hk := hid hk
    have Hmn := hid hmn
    have Hmx := hid hmx
    go_enter Tryz.func92, Tryz.ntmps92
    go_wp2_with fail
    generalize hW : w.alloc _ = W0
    have hB0 : Below w.heap.size w W0 := by subst hW; exact nal
    have g0 : W0.cell? ⟨w.heap.size, 0, none⟩ = some (.int .i64 4) := by subst hW; simp [go_sem]
    have g5 : W0.cell? ⟨w.heap.size, 5, none⟩ = some (.int .i64 0) := by subst hW; simp [go_sem]
    have g6 : W0.cell? ⟨w.heap.size, 6, none⟩ = some (.int .i64 0) := by subst hW; simp [go_sem]
    have g7 : W0.cell? ⟨w.heap.size, 7, none⟩ = some (.slice A t.ps.length c) := by subst hW; simp [go_sem]
    have hsz : w.heap.size < W0.heap.size := by subst hW; simp
    clear hW
    go_loopg [3, 4] (t.ps.length) (fun n s i wr => ∃ (j : Nat) (x : Int), s = .int .i64 x ∧ i = .int .i64 j ∧ j + n = t.ps.length ∧ 0 ≤ x ∧ x ≤ 4097 ∧ aZ (t.ps.drop j) x = aZ t.ps 0 ∧ Below w.heap.size w wr ∧ w.heap.size < wr.heap.size ∧
     wr.cell? ⟨w.heap.size, 0, none⟩ = some (.int .i64 4) ∧ wr.cell? ⟨w.heap.size, 5, none⟩ = some (.int .i64 0) ∧ wr.cell? ⟨w.heap.size, 6, none⟩ = some (.int .i64 0) ∧ wr.cell? ⟨w.heap.size, 7, none⟩ = some (.slice A t.ps.length c))
    case atStart => exact ⟨0, 0, rfl, rfl, by omega, by omega, by omega, rfl, hB0, hsz, g0, g5, g6, g7⟩
    case round =>
     clear hB0 hsz g0 g5 g6 g7
     obtain ⟨j, x, rfl, rfl, hj, hx1, hx2, hm, hB, hs, g0, g5, g6, g7⟩ := hrel
     have Hm := hid hm; clear hm
     by_cases hlt : j < t.ps.length
     · obtain ⟨b, o, rfl, hb, hcell⟩ := hN.part (by omega)
       obtain ⟨A', c', h8, hNj⟩ := hcell j hlt
       have Hih := hid (ih t.ps[j] (List.getElem_mem _)); clear ih
       have Hrj := hid (Hps.out t.ps[j] (List.getElem_mem _))
       have hNj' := hNj.later hB hok
       obtain ⟨f0, f1, f2, f3, f4, f5, f6, f7⟩ := h8.mono (w' := wr) (fun o => hB.cell (p := ⟨b, o, none⟩) (hok b hb))
       have Hd := hid (bI hlt)
       clear hcell hN hNj
       generalize t.ps[j] = p at *
       have hbd := bR p Hrj.out
       go_wp2_with fail
       refine (Hih.out _ ok A' c' Hrj.out hNj' (fun b h => by have := hok b h; omega)).mono ?_
       rintro e w1 ⟨rfl, hb1⟩
       have hB1 : Below w.heap.size w w1 := hB.trans (hb1.mono (by omega))
       obtain ⟨hc1, hf1⟩ := ed hb1
       have hz1 := hb1.size
       have k0 := (hc1 w.heap.size 0 hs).trans g0
       have k5 := (hc1 w.heap.size 5 hs).trans g5
       have k6 := (hc1 w.heap.size 6 hs).trans g6
       have k7 := (hc1 w.heap.size 7 hs).trans g7
       clear hc1 hf1
       go_wp2_with fail
       all_goals
        go_roundg (gk - 1)
        case measure => omega
        case rel => exact ⟨j + 1, min 4097 (x + aG p), by go_num, by go_num, by omega, by omega, by omega, by rw [← Hm.out, Hd.out, aZ], hB1, by omega, k0, k5, k6, k7⟩
     · have hx : x = aZ t.ps 0 := by rw [← Hm.out, List.drop_of_length_le (by omega), aZ]
       have Hres := hid (show aG t = min 4097 (cq 4 0 0 x t.ps.length) by rw [Heq.out, Hk.out, Hmn.out, Hmx.out, ← hx]; simp)
       clear hx
       go_wp2_with fail
       all_goals
        go_ret
        exact ⟨by rw [Hres.out]; simp only [cq]; go_num, hB⟩
  · have Hk := hid hk
    have Hmn := hid hmn
    have Hmx := hid hmx
    go_enter Tryz.func92, Tryz.ntmps92
    go_wp2_with fail
    generalize hW : w.alloc _ = W0
    have hB0 : Below w.heap.size w W0 := by subst hW; exact nal
    have g0 : W0.cell? ⟨w.heap.size, 0, none⟩ = some (.int .i64 5) := by subst hW; simp [go_sem]
    have g5 : W0.cell? ⟨w.heap.size, 5, none⟩ = some (.int .i64 0) := by subst hW; simp [go_sem]
    have g6 : W0.cell? ⟨w.heap.size, 6, none⟩ = some (.int .i64 0) := by subst hW; simp [go_sem]
    have g7 : W0.cell? ⟨w.heap.size, 7, none⟩ = some (.slice A t.ps.length c) := by subst hW; simp [go_sem]
    have hsz : w.heap.size < W0.heap.size := by subst hW; simp
    clear hW
    go_loopg [3, 4] (t.ps.length) (fun n s i wr => ∃ (j : Nat) (x : Int), s = .int .i64 x ∧ i = .int .i64 j ∧ j + n = t.ps.length ∧ 0 ≤ x ∧ x ≤ 4097 ∧ aZ (t.ps.drop j) x = aZ t.ps 0 ∧ Below w.heap.size w wr ∧ w.heap.size < wr.heap.size ∧
     wr.cell? ⟨w.heap.size, 0, none⟩ = some (.int .i64 5) ∧ wr.cell? ⟨w.heap.size, 5, none⟩ = some (.int .i64 0) ∧ wr.cell? ⟨w.heap.size, 6, none⟩ = some (.int .i64 0) ∧ wr.cell? ⟨w.heap.size, 7, none⟩ = some (.slice A t.ps.length c))
    case atStart => exact ⟨0, 0, rfl, rfl, by omega, by omega, by omega, rfl, hB0, hsz, g0, g5, g6, g7⟩
    case round =>
     clear hB0 hsz g0 g5 g6 g7
     obtain ⟨j, x, rfl, rfl, hj, hx1, hx2, hm, hB, hs, g0, g5, g6, g7⟩ := hrel
     have Hm := hid hm; clear hm
     by_cases hlt : j < t.ps.length
     · obtain ⟨b, o, rfl, hb, hcell⟩ := hN.part (by omega)
       obtain ⟨A', c', h8, hNj⟩ := hcell j hlt
       have Hih := hid (ih t.ps[j] (List.getElem_mem _)); clear ih
       have Hrj := hid (Hps.out t.ps[j] (List.getElem_mem _))
       have hNj' := hNj.later hB hok
       obtain ⟨f0, f1, f2, f3, f4, f5, f6, f7⟩ := h8.mono (w' := wr) (fun o => hB.cell (p := ⟨b, o, none⟩) (hok b hb))
       have Hd := hid (bI hlt)
       clear hcell hN hNj
       generalize t.ps[j] = p at *
       have hbd := bR p Hrj.out
       go_wp2_with fail
       refine (Hih.out _ ok A' c' Hrj.out hNj' (fun b h => by have := hok b h; omega)).mono ?_
       rintro e w1 ⟨rfl, hb1⟩
       have hB1 : Below w.heap.size w w1 := hB.trans (hb1.mono (by omega))
       obtain ⟨hc1, hf1⟩ := ed hb1
       have hz1 := hb1.size
       have k0 := (hc1 w.heap.size 0 hs).trans g0
       have k5 := (hc1 w.heap.size 5 hs).trans g5
       have k6 := (hc1 w.heap.size 6 hs).trans g6
       have k7 := (hc1 w.heap.size 7 hs).trans g7
       clear hc1 hf1
       go_wp2_with fail
       all_goals
        go_roundg (gk - 1)
        case measure => omega
        case rel => exact ⟨j + 1, min 4097 (x + aG p), by go_num, by go_num, by omega, by omega, by omega, by rw [← Hm.out, Hd.out, aZ], hB1, by omega, k0, k5, k6, k7⟩
     · have hx : x = aZ t.ps 0 := by rw [← Hm.out, List.drop_of_length_le (by omega), aZ]
       have Hres := hid (show aG t = min 4097 (cq 5 0 0 x t.ps.length) by rw [Heq.out, Hk.out, Hmn.out, Hmx.out, ← hx]; simp)
       clear hx
       go_wp2_with fail
       all_goals
        go_ret
        exact ⟨by rw [Hres.out]; simp only [cq]; go_num, hB⟩
  · have Hk := hid hk
    have hn1 : t.ps.length ≤ 1 := by omega
    have hn2 : 1 ≤ t.ps.length := by omega
    clear hn
    go_enter Tryz.func92, Tryz.ntmps92
    go_wp2_with fail
    generalize hW : w.alloc _ = W0
    have hB0 : Below w.heap.size w W0 := by subst hW; exact nal
    have g0 : W0.cell? ⟨w.heap.size, 0, none⟩ = some (.int .i64 6) := by subst hW; simp [go_sem]
    have g5 : W0.cell? ⟨w.heap.size, 5, none⟩ = some (.int .i64 t.mn) := by subst hW; simp [go_sem]
    have g6 : W0.cell? ⟨w.heap.size, 6, none⟩ = some (.int .i64 t.mx) := by subst hW; simp [go_sem]
    have g7 : W0.cell? ⟨w.heap.size, 7, none⟩ = some (.slice A t.ps.length c) := by subst hW; simp [go_sem]
    have hsz : w.heap.size < W0.heap.size := by subst hW; simp
    clear hW
    go_loopg [3, 4] (t.ps.length) (fun n s i wr => ∃ (j : Nat) (x : Int), s = .int .i64 x ∧ i = .int .i64 j ∧ j + n = t.ps.length ∧ 0 ≤ x ∧ x ≤ 4097 ∧ aZ (t.ps.drop j) x = aZ t.ps 0 ∧ Below w.heap.size w wr ∧ w.heap.size < wr.heap.size ∧
     wr.cell? ⟨w.heap.size, 0, none⟩ = some (.int .i64 6) ∧ wr.cell? ⟨w.heap.size, 5, none⟩ = some (.int .i64 t.mn) ∧ wr.cell? ⟨w.heap.size, 6, none⟩ = some (.int .i64 t.mx) ∧ wr.cell? ⟨w.heap.size, 7, none⟩ = some (.slice A t.ps.length c))
    case atStart => exact ⟨0, 0, rfl, rfl, by omega, by omega, by omega, rfl, hB0, hsz, g0, g5, g6, g7⟩
    case round =>
     clear hB0 hsz g0 g5 g6 g7
     obtain ⟨j, x, rfl, rfl, hj, hx1, hx2, hm, hB, hs, g0, g5, g6, g7⟩ := hrel
     have Hm := hid hm; clear hm
     by_cases hlt : j < t.ps.length
     · obtain ⟨b, o, rfl, hb, hcell⟩ := hN.part (by omega)
       obtain ⟨A', c', h8, hNj⟩ := hcell j hlt
       have Hih := hid (ih t.ps[j] (List.getElem_mem _)); clear ih
       have Hrj := hid (Hps.out t.ps[j] (List.getElem_mem _))
       have hNj' := hNj.later hB hok
       obtain ⟨f0, f1, f2, f3, f4, f5, f6, f7⟩ := h8.mono (w' := wr) (fun o => hB.cell (p := ⟨b, o, none⟩) (hok b hb))
       have Hd := hid (bI hlt)
       clear hcell hN hNj
       generalize t.ps[j] = p at *
       have hbd := bR p Hrj.out
       go_wp2_with fail
       refine (Hih.out _ ok A' c' Hrj.out hNj' (fun b h => by have := hok b h; omega)).mono ?_
       rintro e w1 ⟨rfl, hb1⟩
       have hB1 : Below w.heap.size w w1 := hB.trans (hb1.mono (by omega))
       obtain ⟨hc1, hf1⟩ := ed hb1
       have hz1 := hb1.size
       have k0 := (hc1 w.heap.size 0 hs).trans g0
       have k5 := (hc1 w.heap.size 5 hs).trans g5
       have k6 := (hc1 w.heap.size 6 hs).trans g6
       have k7 := (hc1 w.heap.size 7 hs).trans g7
       clear hc1 hf1
       go_wp2_with fail
       all_goals
        go_roundg (gk - 1)
        case measure => omega
        case rel => exact ⟨j + 1, min 4097 (x + aG p), by go_num, by go_num, by omega, by omega, by omega, by rw [← Hm.out, Hd.out, aZ], hB1, by omega, k0, k5, k6, k7⟩
     · have hx : x = aZ t.ps 0 := by rw [← Hm.out, List.drop_of_length_le (by omega), aZ]
       have Hres := hid (show aG t = min 4097 (cq 6 t.mn t.mx x t.ps.length) by rw [Heq.out, Hk.out, ← hx]; simp)
       clear hx
       by_cases hm : t.mx < 0
       · have hb1 : (t.mx == -1) = true := by rw [beq_iff_eq]; omega
         have hp := iD (a := x) (b := t.mn + 1) (A := 4097) (B := 256) hx1 (by omega) hx2 (by omega)
         have hK : cq 6 t.mn t.mx x t.ps.length = x * (t.mn + 1) + 1 := by unfold cq; rw [if_neg (by omega), if_pos rfl, if_pos hm]
         have HK := hid hK; clear hK
         obtain ⟨hp1, hp2⟩ := hp
         go_wp2_with fail
         all_goals
          go_ret
          exact ⟨by rw [Hres.out, HK.out]; go_num, hB⟩
       · have hb1 : (t.mx == -1) = false := by rw [beq_eq_false_iff_ne]; omega
         have hp := iD (a := x) (b := t.mx) (A := 4097) (B := 255) hx1 (by omega) hx2 (by omega)
         have hK : cq 6 t.mn t.mx x t.ps.length = x * t.mx + t.mx - t.mn := by unfold cq; rw [if_neg (by omega), if_pos rfl, if_neg hm]
         have HK := hid hK; clear hK
         obtain ⟨hp1, hp2⟩ := hp
         go_wp2_with fail
         all_goals
          go_ret
          exact ⟨by rw [Hres.out, HK.out]; go_num, hB⟩
theorem tm (t : T) (w : World) (ok : Nat → Prop) (A : Option Addr) (c : Nat) (hN : NodeAt w ok t A c) (hok : ∀ b, ok b → b < w.heap.size) :
 Calls Tryz.prog 75 #[aB t A c] w fun e w' => e = .returned (.tuple #[.int .i64 (eb t), .int .i64 (bP t)]) ∧ Below w.heap.size w w' := by
 have hlen := hN.len
 go_enter Tryz.func75, Tryz.ntmps75
 go_wp2_with fail
 have hB0 : Below w.heap.size w (w.alloc (.cells #[.int .i64 t.k, .int .u64 t.s0, .int .u64 t.s1, .int .u64 t.s2, .int .u64 t.s3, .int .i64 t.mn, .int .i64 t.mx, .slice A t.ps.length c] 48)) := nal
 refine (nP t _ ok A c (hN.later hB0 hok) (fun b h => by have := hok b h; simp; omega)).mono ?_
 rintro e w1 ⟨rfl, hb1⟩
 have hB1 : Below w.heap.size w w1 := hB0.trans (hb1.mono (by simp))
 have hN1 := hN.later hB1 hok
 have hs1 := hB1.size
 obtain ⟨hc1, hf1⟩ := ed hb1
 have g0 := hc1 w.heap.size 0 (by simp)
 have g1 := hc1 w.heap.size 1 (by simp)
 have g2 := hc1 w.heap.size 2 (by simp)
 have g3 := hc1 w.heap.size 3 (by simp)
 have g4 := hc1 w.heap.size 4 (by simp)
 have g5 := hc1 w.heap.size 5 (by simp)
 have g6 := hc1 w.heap.size 6 (by simp)
 have g7 := hc1 w.heap.size 7 (by simp)
 simp only [World.cell?_alloc_new, List.getElem?_toArray] at g0 g1 g2 g3 g4 g5 g6 g7
 clear hc1 hf1
 by_cases h : br t = 0
 · have hr := (dW h).1
   have hbd := bR t hr
   have hb : (br t != 0) = false := by rw [h]; rfl
   have H := hid h; clear h
   go_wp2_with fail
   refine (oE t _ ok A c hr hN1 (fun b h => by have := hok b h; omega)).mono ?_
   rintro e w2 ⟨rfl, hb2⟩
   have hB2 : Below w.heap.size w w2 := hB1.trans (hb2.mono (by omega))
   by_cases h2 : 4096 < 1 + aG t
   · have hk : eb t = 0 := by rw [eb, if_neg (by simp [H.out]), if_pos h2]
     have he : bP t = 3 := by rw [bP, if_neg (by simp [H.out]), if_pos h2]
     have Hk := hid hk; have He := hid he; clear hk he
     go_wp2_with fail
     go_ret2
     exact ⟨by rw [Hk.out, He.out]; go_num, hB2⟩
   · have hk : eb t = 1 + aG t := by rw [eb, if_neg (by simp [H.out]), if_neg h2]
     have he : bP t = 0 := by rw [bP, if_neg (by simp [H.out]), if_neg h2]
     have Hk := hid hk; have He := hid he; clear hk he
     go_wp2_with fail
     go_ret2
     exact ⟨by rw [Hk.out, He.out]; go_num, hB2⟩
 · have hb : (br t != 0) = true := by rw [bne_iff_ne]; exact h
   have hk : eb t = 0 := by rw [eb, if_pos h]
   have he : bP t = br t := by rw [bP, if_pos h]
   have Hk := hid hk; have He := hid he; clear hk he h
   go_wp2_with fail
   go_ret2
   exact ⟨by rw [Hk.out, He.out]; rfl, hB1⟩
end Go.Proofs.YthlakbjnmbddaaaGreatDoor
namespace Go.Proofs.YthlakbjnmbddaaaGreatDoor
open Lib (hid)
open Go.RowKit Go.Shelf
abbrev fv (f : Nat) : Value := .func (.func f) #[] #[]
abbrev fV : Value := .agg #[fv 107, fv 108, fv 109, fv 109, fv 110, fv 111, fv 112]
theorem tY (w : World) : Calls Tryz.prog 91 #[] w fun e w' => e = .returned fV ∧ Below w.heap.size w w' := by
 go_enter Tryz.func91, Tryz.ntmps91
 go_wp2_with fail
 exact bodyPost_ret (v := fV) (by simp [results, Tryz.results91, go_sem]) rfl ⟨rfl, nal⟩
theorem jd (f : Nat) (henter : ∀ args w, (callFunc f args).run Tryz.prog w = .ok (.enter f args) w) (t : T)
 (hix : ∀ w : World, (Instr.index 116 fV (.int .i64 t.k)).run Tryz.prog w = .ok (fv f) w) (h : bQ f t) : bQ 74 t := by
 intro w ok A c L base v l tu hN ho hL hlen
 have H := hid h; clear h
 have Hlen := hid hlen; clear hlen
 go_enter Tryz.func74, Tryz.ntmps74
 go_wp2_with fail
 go_region_with (first
  | (go_at_call 91; refine (tY _).mono ?_; rintro e w1 ⟨rfl, hb1⟩; obtain ⟨hc1, hf1⟩ := ed hb1; have hB1 : Below w.heap.size w w1 := (nal.drew).trans (hb1.mono (by simp)))
  | (refine (H.out w1 ok A c L base v l tu (hN.later hB1 (fun b hb => (ho b hb).1)) (ho.later hB1.size (aP.refl _ _)) (hL.later hB1) Hlen.out).mono ?_; rintro e w2 ⟨rfl, v2, hL2, hm2, hl2⟩))
 all_goals
  go_wp2_with fail
  go_ret
  exact ⟨rfl, v2, hL2, (aP.refl w v).trans hB1.size hm2, (Lays.of_below hB1).trans (aP.refl _ _) hl2⟩
theorem yD : ∀ w : World, (Instr.index 116 fV (.int .i64 0)).run Tryz.prog w = .ok (fv 107) w := fun _ => by kernel_rfl
theorem zc (t : T) (hk : t.k = 0) (h : bQ 107 t) : bQ 74 t :=
 jd 107 (enters_of Tryz.func107 (by kernel_rfl) rfl) t (by rw [hk]; exact yD) h
theorem yC : ∀ w : World, (Instr.index 116 fV (.int .i64 1)).run Tryz.prog w = .ok (fv 108) w := fun _ => by kernel_rfl
theorem zb (t : T) (hk : t.k = 1) (h : bQ 108 t) : bQ 74 t :=
 jd 108 (enters_of Tryz.func108 (by kernel_rfl) rfl) t (by rw [hk]; exact yC) h
theorem yB : ∀ w : World, (Instr.index 116 fV (.int .i64 2)).run Tryz.prog w = .ok (fv 109) w := fun _ => by kernel_rfl
theorem za (t : T) (hk : t.k = 2) (h : bQ 109 t) : bQ 74 t :=
 jd 109 (enters_of Tryz.func109 (by kernel_rfl) rfl) t (by rw [hk]; exact yB) h
theorem yA : ∀ w : World, (Instr.index 116 fV (.int .i64 3)).run Tryz.prog w = .ok (fv 109) w := fun _ => by kernel_rfl
theorem yZ (t : T) (hk : t.k = 3) (h : bQ 109 t) : bQ 74 t :=
 jd 109 (enters_of Tryz.func109 (by kernel_rfl) rfl) t (by rw [hk]; exact yA) h
theorem yz : ∀ w : World, (Instr.index 116 fV (.int .i64 4)).run Tryz.prog w = .ok (fv 110) w := fun _ => by kernel_rfl
theorem yY (t : T) (hk : t.k = 4) (h : bQ 110 t) : bQ 74 t :=
 jd 110 (enters_of Tryz.func110 (by kernel_rfl) rfl) t (by rw [hk]; exact yz) h
theorem yy : ∀ w : World, (Instr.index 116 fV (.int .i64 5)).run Tryz.prog w = .ok (fv 111) w := fun _ => by kernel_rfl
theorem yX (t : T) (hk : t.k = 5) (h : bQ 111 t) : bQ 74 t :=
 jd 111 (enters_of Tryz.func111 (by kernel_rfl) rfl) t (by rw [hk]; exact yy) h
theorem yx : ∀ w : World, (Instr.index 116 fV (.int .i64 6)).run Tryz.prog w = .ok (fv 112) w := fun _ => by kernel_rfl
theorem yW (t : T) (hk : t.k = 6) (h : bQ 112 t) : bQ 74 t :=
 jd 112 (enters_of Tryz.func112 (by kernel_rfl) rfl) t (by rw [hk]; exact yx) h
theorem xA (t : T) : aC t = true → bQ 74 t := by
 induction t using T.ind with
 | h t ih =>
  intro hr
  have ih' : ∀ p ∈ t.ps, bQ 74 p := fun p hp => ih p hp (aO hr p hp)
  rcases aJ hr with h | h | h | h | h | h | h
  · exact zc t h.1 (oN t h.1)
  · exact zb t h.1 (wY t h.1)
  · exact za t h.1 (nt t (.inl h.1))
  · exact yZ t h.1 (nt t (.inr h.1))
  · exact yY t h.1 (xk t h.1 hr ih')
  · exact yX t h.1 (rH t h.1 hr ih')
  · exact yW t h.1 (qO t h.1 hr ih')
end Go.Proofs.YthlakbjnmbddaaaGreatDoor
namespace Go.Proofs.YthlakbjnmbddaaaGreatDoor
open Lib (hid)
open Go.RowKit
def qA (p : LF) (n : Nat) : Prop := ∀ tu l, (p tu l).2.length = l.length + n
theorem pT {p : LF} {n : Nat} (hp : qA p n) (tu : Int) : ∀ m t l, (da p tu m t l).2.length = l.length + m * (n + 1)
 | 0, t, l => by simp [da]
 | m + 1, t, l => by
  rw [da, pT hp tu m, List.length_append, hp, Nat.succ_mul]
  simp only [List.length_cons, List.length_nil]
  omega
theorem mo {p : LF} {n : Nat} (hp : qA p n) : ∀ m t l, (dE p m t l).2.length = l.length + m * n
 | 0, t, l => by simp [dE]
 | m + 1, t, l => by
  rw [dE]
  split
  · rename_i h
    rw [hp] at h
    have : n = 0 := by omega
    subst this
    rw [hp]; simp
  · rw [mo hp m, hp, Nat.succ_mul]
    omega
theorem te {p : LF} {n : Nat} (hp : qA p n) (tu : Int) (l : List St) : (bT p tu l).2.length = l.length + (n + 1) := by
 simp only [bT, setNx, List.length_modify, hp _ _, List.length_append, List.length_cons, List.length_nil]
 omega
theorem iu : ∀ (ps : List T) (s : Int), (∀ p ∈ ps, 0 ≤ aG p) → 0 ≤ s → aZ ps s ≤ 4096 → s ≤ aZ ps s ∧ (∀ p ∈ ps, aG p ≤ 4096) ∧ aZ ps s = s + (ps.map aG).sum
 | [], s, _, h0, h => by rw [aZ] at *; simp
 | p :: ps, s, hp, h0, h => by
  rw [aZ] at h ⊢
  have h1 := hp p (List.mem_cons_self ..)
  obtain ⟨a, b, c⟩ := iu ps _ (fun q hq => hp q (List.mem_cons_of_mem _ hq)) (by omega) h
  refine ⟨by omega, ?_, ?_⟩
  · intro q hq
    cases hq with
    | head => omega
    | tail _ hq => exact b q hq
  · rw [c, List.map_cons, List.sum_cons]; omega
theorem pN : ∀ (ps : List T), (∀ p ∈ ps, 0 ≤ aG p) → (∀ p ∈ ps, qA (ax p) (aG p).toNat) → ∀ tu l, ((dJ ps tu l).2.length : Int) = l.length + (ps.map aG).sum
 | [], _, _, tu, l => by simp [dJ]
 | p :: ps, h0, h, tu, l => by
  have ih := pN ps (fun q hq => h0 q (List.mem_cons_of_mem _ hq)) (fun q hq => h q (List.mem_cons_of_mem _ hq)) tu l
  have h1 := h p (List.mem_cons_self ..) (dJ ps tu l).1 (dJ ps tu l).2
  have h2 := h0 p (List.mem_cons_self ..)
  rw [dJ, List.map_cons, List.sum_cons]
  omega
theorem nI : ∀ (ps : List T), (∀ p ∈ ps, 0 ≤ aG p) → (∀ p ∈ ps, qA (ax p) (aG p).toNat) → ∀ tu l, ((cF ps tu l).2.length : Int) = l.length + (ps.map aG).sum
 | [], _, _, tu, l => by simp [cF]
 | p :: ps, h0, h, tu, l => by
  have h1 := h p (List.mem_cons_self ..) tu l
  have ih := nI ps (fun q hq => h0 q (List.mem_cons_of_mem _ hq)) (fun q hq => h q (List.mem_cons_of_mem _ hq)) tu (ax p tu l).2
  have h2 := h0 p (List.mem_cons_self ..)
  rw [cF, List.map_cons, List.sum_cons]
  simp only
  omega
theorem qd : ∀ (ps : List T) (h : ps.length = 1), ∃ p, ps = [p] ∧ ec ps = ax p
 | [p], _ => ⟨p, rfl, by funext tu l; rw [ec]⟩
theorem xz (t : T) : aC t = true → aG t ≤ 4096 → qA (ax t) (aG t).toNat := by
 induction t using T.ind with
 | h t ih =>
  intro hr hc tu l
  have h0 : ∀ p ∈ t.ps, 0 ≤ aG p := fun p hp => (bR p (aO hr p hp)).1
  have hlb := fq t.ps 0 (fun p hp => bR p (aO hr p hp)) (by omega) (by omega)
  rw [ft] at hc ⊢
  rw [cd]
  rcases aJ hr with ⟨hk, h⟩ | ⟨hk, h⟩ | ⟨hk, h⟩ | ⟨hk, h⟩ | ⟨hk, h⟩ | ⟨hk, h⟩ | ⟨hk, h⟩
  · simp [hk]
  · simp [hk]
  · simp [hk]
  · simp [hk]
  · simp only [hk] at hc ⊢
    simp only [cq] at hc ⊢
    simp at hc ⊢
    obtain ⟨_, h2, h3⟩ := iu t.ps 0 h0 (by omega) (by omega)
    have := pN t.ps h0 (fun p hp => ih p hp (aO hr p hp) (h2 p hp)) tu l
    omega
  · simp only [hk] at hc ⊢
    simp only [cq] at hc ⊢
    simp at hc ⊢
    obtain ⟨_, h2, h3⟩ := iu t.ps 0 h0 (by omega) (by omega)
    have := nI t.ps h0 (fun p hp => ih p hp (aO hr p hp) (h2 p hp)) tu l
    rw [cL, eM]
    omega
  · obtain ⟨p, hp, hh⟩ := qd t.ps h.1
    have hcl : aZ t.ps 0 = min 4097 (aG p) := by rw [hp]; simp [aZ]
    have hp0 := bR p (aO hr p (by rw [hp]; exact List.mem_cons_self ..))
    simp only [hk] at hc ⊢
    simp only [cq] at hc ⊢
    rw [hh]
    rw [hcl] at hc ⊢
    simp only [show min 4097 (aG p) = aG p by omega] at hc ⊢
    simp only [if_true, if_false, show ¬ ((6 : Int) = 0) by omega, show ¬ ((6 : Int) = 1) by omega, show ¬ ((6 : Int) = 2) by omega, show ¬ ((6 : Int) = 3) by omega, show ¬ ((6 : Int) = 4) by omega, show ¬ ((6 : Int) = 5) by omega, or_self] at hc ⊢
    unfold iN
    simp only
    by_cases hmx : t.mx < 0
    · simp only [if_pos hmx] at hc ⊢
      have hb := iD (a := aG p) (b := t.mn + 1) (A := 4097) (B := 256) hp0.1 (by omega) hp0.2 (by omega)
      have hle : aG p ≤ aG p * (t.mn + 1) := by
       have := Int.mul_le_mul_of_nonneg_left (show (1 : Int) ≤ t.mn + 1 by omega) hp0.1
       omega
      have hl := ih p (by rw [hp]; exact List.mem_cons_self ..) (aO hr p (by rw [hp]; exact List.mem_cons_self ..)) (by omega)
      rw [mo hl, te hl]
      obtain ⟨a, ha⟩ := Int.eq_ofNat_of_zero_le hp0.1
      obtain ⟨m, hm⟩ := Int.eq_ofNat_of_zero_le (show 0 ≤ t.mn by omega)
      rw [ha, hm] at hc ⊢
      simp only [Int.toNat_natCast]
      have e : ((a : Int) * ((m : Int) + 1) + 1) = ((a * (m + 1) + 1 : Nat) : Int) := by push_cast; rfl
      rw [e] at hc ⊢
      rw [show min (4097 : Int) ((a * (m + 1) + 1 : Nat) : Int) = ((a * (m + 1) + 1 : Nat) : Int) by omega, Int.toNat_natCast, Nat.mul_succ, Nat.mul_comm m a]
      omega
    · simp only [if_neg hmx] at hc ⊢
      by_cases hz : t.mx = 0
      · have hz2 : t.mn = 0 := by omega
        simp [hz, hz2, da, dE]; try omega
      · have hb := iD (a := aG p) (b := t.mx) (A := 4097) (B := 255) hp0.1 (by omega) hp0.2 (by omega)
        have hle : aG p ≤ aG p * t.mx := by
         have := Int.mul_le_mul_of_nonneg_left (show (1 : Int) ≤ t.mx by omega) hp0.1
         omega
        have hl := ih p (by rw [hp]; exact List.mem_cons_self ..) (aO hr p (by rw [hp]; exact List.mem_cons_self ..)) (by omega)
        rw [mo hl, pT hl]
        obtain ⟨a, ha⟩ := Int.eq_ofNat_of_zero_le hp0.1
        obtain ⟨m, hm⟩ := Int.eq_ofNat_of_zero_le (show 0 ≤ t.mn by omega)
        obtain ⟨d, hd⟩ := Int.eq_ofNat_of_zero_le (show 0 ≤ t.mx - t.mn by omega)
        have hx : t.mx = (m : Int) + d := by omega
        rw [hd]
        clear hb hle hd
        rw [hx] at hc ⊢
        rw [ha, hm] at hc ⊢
        simp only [Int.toNat_natCast]
        have e : ((a : Int) * ((m : Int) + (d : Int)) + ((m : Int) + (d : Int)) - (m : Int)) = ((a * (m + d) + d : Nat) : Int) := by push_cast; omega
        rw [e] at hc ⊢
        rw [show min (4097 : Int) ((a * (m + d) + d : Nat) : Int) = ((a * (m + d) + d : Nat) : Int) by omega, Int.toNat_natCast, Nat.mul_add, Nat.mul_succ, Nat.mul_comm m a, Nat.mul_comm d a]
        simp only [Nat.mul_add, Nat.mul_succ, Nat.mul_comm m a, Nat.mul_comm d a] at hc ⊢
        omega
theorem ki {P : Program} {w : World} {ops : Array Oper} {rest : List Oper} {o : Oper} {a : Act} {Q : Exit → Act → World → Prop} (base : Nat)
 (hg : o.guard = none) (l c : Operand) (t : TypeId) (hop : o.op = Op.makeSlice t l c)
 (e : TypeId) (z : Value) (size bytes : Nat) (ht : P.underlying t = some (.slice e)) (hinfo : (P.info? e).map (fun i => (i.zero, i.size, i.bytes)) = some (some z, size, bytes))
 (kl kc : IntKind) (n : Nat) (hl : a.eval l = .int kl 0) (hc : a.eval c = .int kc (n : Int)) (hbytes : bytes * n ≤ 281474976710656) (h63 : n ≤ maxLen) (hbase : base ≤ w.heap.size)
 (hK : ∀ w1, w1.ownsRow base e size (.slice (some ⟨w.heap.size, 0, none⟩) 0 n) 0 [] → Below w.heap.size w w1 → w.heap.size < w1.heap.size → wpList P ops Q rest (a.put o.dst (.slice (some ⟨w.heap.size, 0, none⟩) 0 n)) w1) :
 wpList P ops Q (o :: rest) a w := by
 obtain ⟨i, hi, hzz⟩ := Option.map_eq_some_iff.1 hinfo
 simp only [Prod.mk.injEq] at hzz
 obtain ⟨hz0, hz1, hz2⟩ := hzz
 refine wpList_plain hg fun K hK' => ?_
 have hb' : (i.bytes : Int) * (n : Int) ≤ 281474976710656 := by
  have h : ((i.bytes * n : Nat) : Int) ≤ 281474976710656 := by rw [hz2]; omega
  rwa [Int.natCast_mul] at h
 have h63' : (n : Int) ≤ 9223372036854775807 := by have h := h63; simp [maxLen] at h; omega
 have hrun := run_make (P := P) w t e i z ht hi hz0 kl kc 0 n (Int.le_refl _) (by omega) hb' h63'
 simp only [Int.toNat_zero, Int.toNat_natCast] at hrun
 have hk := hK _ (by subst hz1; exact World.ownsRow_made w (madeCells z.cells (n * i.size)) n hbase h63 (size_madeCells _ _)) nal (by simp)
 unfold Oper.wp
 simp [execOp, hop, hl, hc, hrun, Result.andThen]
 exact hK' _ _ hk
def bJ (t : T) : List St := if bP t = 0 then (ax t 0 [⟨5, 0, 0, 0, 0, 0, 0⟩]).2 else []
def cQ (t : T) : Int := if bP t = 0 then (ax t 0 [⟨5, 0, 0, 0, 0, 0, 0⟩]).1 else 0
theorem dw {t : T} (h : bP t = 0) : aC t = true ∧ aG t ≤ 4095 ∧ eb t = 1 + aG t := by
 unfold bP at h
 unfold eb
 by_cases h1 : br t = 0
 · simp only [h1, ne_eq, not_true_eq_false, if_false] at h ⊢
   have := (dW h1).1
   split at h
   · omega
   · rename_i hh
     rw [if_neg hh]
     exact ⟨this, by omega, rfl⟩
 · simp [h1] at h
theorem jD {t : T} (h : bP t = 0) : ((bJ t).length : Int) = eb t := by
 obtain ⟨h1, h2, h3⟩ := dw h
 rw [bJ, if_pos h, xz t h1 (by omega), h3]
 have := (bR t h1).1
 simp only [List.length_cons, List.length_nil]
 omega
theorem uY (t : T) : 0 ≤ eb t ∧ eb t ≤ 4096 := by
 unfold eb
 by_cases h1 : br t = 0
 · have := (bR t (dW h1).1).1
   simp only [h1, ne_eq, not_true_eq_false, if_false]
   split <;> omega
 · simp [h1]
theorem iU (t : T) : (bJ t).length ≤ 4096 := by
 by_cases h : bP t = 0
 · have := jD h
   have := uY t
   omega
 · simp [bJ, h]
theorem vH (t : T) (w : World) (ok : Nat → Prop) (A : Option Addr) (c : Nat) (hN : NodeAt w ok t A c) (hok : ∀ b, ok b → b < w.heap.size) :
 Calls Tryz.prog 52 #[aB t A c] w fun e w' => ∃ v, e = .returned (.tuple #[.agg #[v, .int .i64 (cQ t)], .int .i64 (bP t)]) ∧
  w'.ownsRow w.heap.size 30 7 v (bJ t).length (aR (bJ t)) ∧ Below w.heap.size w w' := by
 have hlen := hN.len
 go_enter Tryz.func52, Tryz.ntmps52
 go_wp2_with fail
 generalize hW : (w.alloc _).alloc _ = W0
 have hB0 : Below w.heap.size w W0 := by subst hW; exact nal.alloc (by simp) _
 have hsz : W0.heap.size = w.heap.size + 2 := by subst hW; simp
 have p0 : W0.cell? ⟨w.heap.size, 0, none⟩ = some (.int .i64 t.k) := by subst hW; simp [go_sem]
 have p1 : W0.cell? ⟨w.heap.size, 1, none⟩ = some (.int .u64 t.s0) := by subst hW; simp [go_sem]
 have p2 : W0.cell? ⟨w.heap.size, 2, none⟩ = some (.int .u64 t.s1) := by subst hW; simp [go_sem]
 have p3 : W0.cell? ⟨w.heap.size, 3, none⟩ = some (.int .u64 t.s2) := by subst hW; simp [go_sem]
 have p4 : W0.cell? ⟨w.heap.size, 4, none⟩ = some (.int .u64 t.s3) := by subst hW; simp [go_sem]
 have p5 : W0.cell? ⟨w.heap.size, 5, none⟩ = some (.int .i64 t.mn) := by subst hW; simp [go_sem]
 have p6 : W0.cell? ⟨w.heap.size, 6, none⟩ = some (.int .i64 t.mx) := by subst hW; simp [go_sem]
 have p7 : W0.cell? ⟨w.heap.size, 7, none⟩ = some (.slice A t.ps.length c) := by subst hW; simp [go_sem]
 have q0 : W0.cell? ⟨w.heap.size + 1, 0, none⟩ = some (.slice none 0 0) := by subst hW; simp [go_sem]
 have q1 : W0.cell? ⟨w.heap.size + 1, 1, none⟩ = some (.int .i64 0) := by subst hW; simp [go_sem]
 have qf0 : W0.frozen? ⟨w.heap.size + 1, 0, none⟩ = false := by subst hW; simp [go_sem]
 have qf1 : W0.frozen? ⟨w.heap.size + 1, 1, none⟩ = false := by subst hW; simp [go_sem]
 clear hW
 refine (tL t W0 ok A c (hN.later hB0 hok) (fun b h => by have := hok b h; omega)).mono ?_
 rintro e w1 ⟨rfl, hb1⟩
 have hB1 : Below w.heap.size w w1 := hB0.trans (hb1.mono (by omega))
 have hN1 := hN.later hB1 hok
 have hs1 := hb1.size
 obtain ⟨hc1, hf1⟩ := ed hb1
 rw [← hc1 _ _ (by omega)] at p0 p1 p2 p3 p4 p5 p6 p7 q0 q1
 rw [← hf1 _ _ (by omega)] at qf0 qf1
 clear hc1 hf1
 have h12 : w.heap.size + 2 ≤ w1.heap.size := by omega
 clear hsz
 by_cases h : bP t = 0
 · have hkk := jD h
   have hll := iU t
   have hlo : bJ t = (ax t 0 [⟨5, 0, 0, 0, 0, 0, 0⟩]).2 := by rw [bJ, if_pos h]
   have hso : cQ t = (ax t 0 [⟨5, 0, 0, 0, 0, 0, 0⟩]).1 := by rw [cQ, if_pos h]
   have hr := (dw h).1
   have hb : (bP t != 0) = false := by rw [h]; rfl
   obtain ⟨k, hk⟩ : ∃ k : Nat, eb t = k := ⟨_, hkk.symm⟩
   have hk4 : k ≤ 4096 := by omega
   have H := hid h; have Hlo := hid hlo; have Hso := hid hso; have Hr := hid hr; clear h hlo hso hr hkk
   rw [hk]
   clear hk
   go_wp2_with (refine ki w.heap.size rfl _ _ 31 rfl 30 _ 7 56 Tryz.underlying31 Tryz.infoState .i64 .i64 k rfl rfl (by omega) (by simp [maxLen]; omega) (by omega) (fun w2 ho2 hb2 hs2 => ?_))
   generalize hW2 : w2.alloc _ = W2
   have hl0 : Layer W2 w2.heap.size w.heap.size (.slice (some ⟨w1.heap.size, 0, none⟩) 0 k) [] := by
    subst hW2
    exact ⟨by simp [go_sem], by simp [go_sem], ho2.alloc _, by simp [Value.ownBlock]; omega, by simp; omega⟩
   have hBW : Below w1.heap.size w1 W2 := by subst hW2; exact hb2.alloc (by omega) _
   have hBW' : Below w.heap.size w W2 := hB1.trans (hBW.mono (by omega))
   clear hW2
   have hok2 : OkL W2 w2.heap.size (.slice (some ⟨w1.heap.size, 0, none⟩) 0 k) ok := fun b hb => by
    have := hok b hb
    have := hBW'.size
    refine ⟨by omega, by omega, ?_⟩
    simp [Value.ownBlock]; omega
   refine (dU W2 w2.heap.size w.heap.size _ [] ⟨5, 0, 0, 0, 0, 0, 0⟩ hl0 (by simp)).mono ?_
   rintro e w3 ⟨rfl, v3, hL3, hm3, hl3⟩
   simp only [List.nil_append] at hL3
   have hs3 := hl3.size
   have hsW := hBW.size
   obtain ⟨hcW, hfW⟩ := ed hBW
   have hc3 : ∀ b o, b < w1.heap.size → w3.cell? ⟨b, o, none⟩ = w1.cell? ⟨b, o, none⟩ := fun b o hb =>
    (hl3.cell (by omega) (by omega) (by simp [Value.ownBlock]; omega)).trans (hcW b o hb)
   have hf3 : ∀ b o, b < w1.heap.size → w3.frozen? ⟨b, o, none⟩ = w1.frozen? ⟨b, o, none⟩ := fun b o hb =>
    (hl3.frozen (by omega) (by omega) (by simp [Value.ownBlock]; omega)).trans (hfW b o hb)
   rw [← hc3 _ _ (by omega)] at p0 p1 p2 p3 p4 p5 p6 p7 q0 q1
   rw [← hf3 _ _ (by omega)] at qf0 qf1
   clear hcW hfW
   go_wp2_with fail
   refine (xA t Hr.out w3 ok A c w2.heap.size w.heap.size v3 _ 0 ((hN.later hBW' hok).lays hok2 hl3) (hok2.later hl3.size hm3) hL3 (by rw [← Hlo.out]; omega)).mono ?_
   rintro e w4 ⟨rfl, v4, hL4, hm4, hl4⟩
   have hs4 := hl4.size
   have hm34 := hm3.trans hl3.size hm4
   have hl34 := hl3.trans hm3 hl4
   have hc4 : ∀ b o, b < w1.heap.size → w4.cell? ⟨b, o, none⟩ = w1.cell? ⟨b, o, none⟩ := fun b o hb =>
    (hl34.cell (by omega) (by omega) (by simp [Value.ownBlock]; omega)).trans ((ed hBW).1 b o hb)
   have hf4 : ∀ b o, b < w1.heap.size → w4.frozen? ⟨b, o, none⟩ = w1.frozen? ⟨b, o, none⟩ := fun b o hb =>
    (hl34.frozen (by omega) (by omega) (by simp [Value.ownBlock]; omega)).trans ((ed hBW).2 b o hb)
   rw [hc3 _ _ (by omega), ← hc4 _ _ (by omega)] at p0 p1 p2 p3 p4 p5 p6 p7 q0 q1
   rw [hf3 _ _ (by omega), ← hf4 _ _ (by omega)] at qf0 qf1
   clear hc3 hf3
   rw [← Hlo.out, ← Hso.out] at *
   have hcL := hL4.cell
   have ho4 := hid hL4.own
   have hB4 : Below w.heap.size w w4 := ⟨hl34.os.trans hBW'.os, hl34.tape.trans hBW'.tape, hl34.output.trans hBW'.output, Nat.le_trans hBW'.size hl34.size, fun j hj => (hl34.block j (by omega) (by omega) (by simp [Value.ownBlock]; omega)).trans (hBW'.block j hj)⟩
   have hvb : v4.ownBlock ≠ some (w.heap.size + 1) := by
    rcases hm34 with e | ⟨b, e, hle⟩
    · rw [e]; simp [Value.ownBlock]; omega
    · rw [e]; simp; omega
   have Hvb := hid hvb; clear hvb
   clear hc4 hf4 hL4
   obtain ⟨A4, n4, c4, rfl⟩ : ∃ A n c, v4 = .slice A n c := by
    rcases ho4.out.2 with ⟨e, _⟩ | ⟨g, cap, cur, e, _⟩
    · exact ⟨_, _, _, e⟩
    · exact ⟨_, _, _, e⟩
   go_wp2_with fail
   have r1 := World.cell?_setCell_same (w4.setCell ⟨w.heap.size + 1, 0, none⟩ (Value.slice A4 n4 c4)) ⟨w.heap.size + 1, 1, none⟩ (.int .i64 (cQ t)) (by rw [World.cell?_setCell_other (h := by simp)]; exact q1)
   have r0 : ((w4.setCell ⟨w.heap.size + 1, 0, none⟩ (Value.slice A4 n4 c4)).setCell ⟨w.heap.size + 1, 1, none⟩ (.int .i64 (cQ t))).cell? ⟨w.heap.size + 1, 0, none⟩ = some (.slice A4 n4 c4) := by
    rw [World.cell?_setCell_other (h := by simp)]
    exact World.cell?_setCell_same w4 _ _ q0
   refine bodyPost_ret (v := .tuple #[.agg #[.slice A4 n4 c4, .int .i64 (cQ t)], .int .i64 0]) (by simp [results, Tryz.results52, r0, r1, go_sem]) rfl ⟨_, by rw [H.out], ?_, ?_⟩
   · refine ho4.out.kept (row := some (w.heap.size + 1)) ⟨rfl, rfl, rfl, by simp, fun j hj hne => ?_⟩ (.inr (fun e => Hvb.out e))
     rw [Below.heap_setCell _ _ _ _ (fun e => hne (by rw [e])), Below.heap_setCell _ _ _ _ (fun e => hne (by rw [e]))]
   · exact (hB4.setCell (by simp) _).setCell (by simp) _
 · have hlo : bJ t = [] := by rw [bJ, if_neg h]
   have hso : cQ t = 0 := by rw [cQ, if_neg h]
   have hb : (bP t != 0) = true := by rw [bne_iff_ne]; exact h
   clear h
   go_wp2_with fail
   have r1 := World.cell?_setCell_same (w1.setCell ⟨w.heap.size + 1, 0, none⟩ (Value.slice none 0 0)) ⟨w.heap.size + 1, 1, none⟩ (.int .i64 0) (by rw [World.cell?_setCell_other (h := by simp)]; exact q1)
   have r0 : ((w1.setCell ⟨w.heap.size + 1, 0, none⟩ (Value.slice none 0 0)).setCell ⟨w.heap.size + 1, 1, none⟩ (.int .i64 0)).cell? ⟨w.heap.size + 1, 0, none⟩ = some (.slice none 0 0) := by
    rw [World.cell?_setCell_other (h := by simp)]
    exact World.cell?_setCell_same w1 _ _ q0
   refine bodyPost_ret (v := .tuple #[.agg #[.slice none 0 0, .int .i64 0], .int .i64 (bP t)]) (by simp [results, Tryz.results52, r0, r1, go_sem]) rfl ⟨.slice none 0 0, by rw [hso], ?_, ?_⟩
   · rw [hlo]; exact ⟨rfl, .inl ⟨rfl, rfl⟩⟩
   · exact (hB1.setCell (by simp) _).setCell (by simp) _
theorem tn (t : T) (w : World) (ok : Nat → Prop) (A : Option Addr) (c : Nat) (hN : NodeAt w ok t A c) (hok : ∀ b, ok b → b < w.heap.size) :
 Calls Tryz.prog 53 #[aB t A c] w fun e w' => ∃ v, e = .returned (.tuple #[.agg #[v, .int .i64 (cQ t)], .int .i64 (bP t)]) ∧
  w'.ownsRow w.heap.size 30 7 v (bJ t).length (aR (bJ t)) ∧ Below w.heap.size w w' := by
 have hlen := hN.len
 go_enter Tryz.func53, Tryz.ntmps53
 go_wp2_with fail
 generalize hW : (w.alloc _).alloc _ = W0
 have hB0 : Below w.heap.size w W0 := by subst hW; exact nal.alloc (by simp) _
 have hsz : W0.heap.size = w.heap.size + 2 := by subst hW; simp
 have p0 : W0.cell? ⟨w.heap.size, 0, none⟩ = some (.int .i64 t.k) := by subst hW; simp [go_sem]
 have p1 : W0.cell? ⟨w.heap.size, 1, none⟩ = some (.int .u64 t.s0) := by subst hW; simp [go_sem]
 have p2 : W0.cell? ⟨w.heap.size, 2, none⟩ = some (.int .u64 t.s1) := by subst hW; simp [go_sem]
 have p3 : W0.cell? ⟨w.heap.size, 3, none⟩ = some (.int .u64 t.s2) := by subst hW; simp [go_sem]
 have p4 : W0.cell? ⟨w.heap.size, 4, none⟩ = some (.int .u64 t.s3) := by subst hW; simp [go_sem]
 have p5 : W0.cell? ⟨w.heap.size, 5, none⟩ = some (.int .i64 t.mn) := by subst hW; simp [go_sem]
 have p6 : W0.cell? ⟨w.heap.size, 6, none⟩ = some (.int .i64 t.mx) := by subst hW; simp [go_sem]
 have p7 : W0.cell? ⟨w.heap.size, 7, none⟩ = some (.slice A t.ps.length c) := by subst hW; simp [go_sem]
 have q0 : W0.cell? ⟨w.heap.size + 1, 0, none⟩ = some (.slice none 0 0) := by subst hW; simp [go_sem]
 have q1 : W0.cell? ⟨w.heap.size + 1, 1, none⟩ = some (.int .i64 0) := by subst hW; simp [go_sem]
 have qf0 : W0.frozen? ⟨w.heap.size + 1, 0, none⟩ = false := by subst hW; simp [go_sem]
 have qf1 : W0.frozen? ⟨w.heap.size + 1, 1, none⟩ = false := by subst hW; simp [go_sem]
 clear hW
 refine (tm t W0 ok A c (hN.later hB0 hok) (fun b h => by have := hok b h; omega)).mono ?_
 rintro e w1 ⟨rfl, hb1⟩
 have hB1 : Below w.heap.size w w1 := hB0.trans (hb1.mono (by omega))
 have hN1 := hN.later hB1 hok
 have hs1 := hb1.size
 obtain ⟨hc1, hf1⟩ := ed hb1
 rw [← hc1 _ _ (by omega)] at p0 p1 p2 p3 p4 p5 p6 p7 q0 q1
 rw [← hf1 _ _ (by omega)] at qf0 qf1
 clear hc1 hf1
 have h12 : w.heap.size + 2 ≤ w1.heap.size := by omega
 clear hsz
 by_cases h : bP t = 0
 · have hkk := jD h
   have hll := iU t
   have hlo : bJ t = (ax t 0 [⟨5, 0, 0, 0, 0, 0, 0⟩]).2 := by rw [bJ, if_pos h]
   have hso : cQ t = (ax t 0 [⟨5, 0, 0, 0, 0, 0, 0⟩]).1 := by rw [cQ, if_pos h]
   have hr := (dw h).1
   have hb : (bP t != 0) = false := by rw [h]; rfl
   obtain ⟨k, hk⟩ : ∃ k : Nat, eb t = k := ⟨_, hkk.symm⟩
   have hk4 : k ≤ 4096 := by omega
   have H := hid h; have Hlo := hid hlo; have Hso := hid hso; have Hr := hid hr; clear h hlo hso hr hkk
   rw [hk]
   clear hk
   go_wp2_with fail
   generalize hW2 : w1.alloc _ = W2
   have hl0 : Layer W2 w1.heap.size w.heap.size (.slice none 0 0) [] := by
    subst hW2
    exact ⟨by simp [go_sem], by simp [go_sem], ⟨rfl, .inl ⟨rfl, rfl⟩⟩, by simp [Value.ownBlock], by simp; omega⟩
   have hBW : Below w1.heap.size w1 W2 := by subst hW2; exact nal
   have hBW' : Below w.heap.size w W2 := hB1.trans (hBW.mono (by omega))
   clear hW2
   have hok2 : OkL W2 w1.heap.size (.slice none 0 0) ok := fun b hb => by
    have := hok b hb
    have := hBW'.size
    refine ⟨by omega, by omega, ?_⟩
    simp [Value.ownBlock]
   refine (dy W2 w1.heap.size w.heap.size _ [] ⟨5, 0, 0, 0, 0, 0, 0⟩ hl0 (by simp)).mono ?_
   rintro e w3 ⟨rfl, v3, hL3, hm3, hl3⟩
   simp only [List.nil_append] at hL3
   have hs3 := hl3.size
   have hsW := hBW.size
   obtain ⟨hcW, hfW⟩ := ed hBW
   have hc3 : ∀ b o, b < w1.heap.size → w3.cell? ⟨b, o, none⟩ = w1.cell? ⟨b, o, none⟩ := fun b o hb =>
    (hl3.cell (by omega) (by omega) (by simp [Value.ownBlock])).trans (hcW b o hb)
   have hf3 : ∀ b o, b < w1.heap.size → w3.frozen? ⟨b, o, none⟩ = w1.frozen? ⟨b, o, none⟩ := fun b o hb =>
    (hl3.frozen (by omega) (by omega) (by simp [Value.ownBlock])).trans (hfW b o hb)
   rw [← hc3 _ _ (by omega)] at p0 p1 p2 p3 p4 p5 p6 p7 q0 q1
   rw [← hf3 _ _ (by omega)] at qf0 qf1
   clear hcW hfW
   go_wp2_with fail
   refine (ve t Hr.out w3 ok A c w1.heap.size w.heap.size v3 _ 0 ((hN.later hBW' hok).lays hok2 hl3) (hok2.later hl3.size hm3) hL3 (by rw [← Hlo.out]; omega)).mono ?_
   rintro e w4 ⟨rfl, v4, hL4, hm4, hl4⟩
   have hs4 := hl4.size
   have hm34 := hm3.trans hl3.size hm4
   have hl34 := hl3.trans hm3 hl4
   have hc4 : ∀ b o, b < w1.heap.size → w4.cell? ⟨b, o, none⟩ = w1.cell? ⟨b, o, none⟩ := fun b o hb =>
    (hl34.cell (by omega) (by omega) (by simp [Value.ownBlock])).trans ((ed hBW).1 b o hb)
   have hf4 : ∀ b o, b < w1.heap.size → w4.frozen? ⟨b, o, none⟩ = w1.frozen? ⟨b, o, none⟩ := fun b o hb =>
    (hl34.frozen (by omega) (by omega) (by simp [Value.ownBlock])).trans ((ed hBW).2 b o hb)
   rw [hc3 _ _ (by omega), ← hc4 _ _ (by omega)] at p0 p1 p2 p3 p4 p5 p6 p7 q0 q1
   rw [hf3 _ _ (by omega), ← hf4 _ _ (by omega)] at qf0 qf1
   clear hc3 hf3
   rw [← Hlo.out, ← Hso.out] at *
   have hcL := hL4.cell
   have ho4 := hid hL4.own
   have hB4 : Below w.heap.size w w4 := ⟨hl34.os.trans hBW'.os, hl34.tape.trans hBW'.tape, hl34.output.trans hBW'.output, Nat.le_trans hBW'.size hl34.size, fun j hj => (hl34.block j (by omega) (by omega) (by simp [Value.ownBlock])).trans (hBW'.block j hj)⟩
   have hvb : v4.ownBlock ≠ some (w.heap.size + 1) := by
    rcases hm34 with e | ⟨b, e, hle⟩
    · rw [e]; simp [Value.ownBlock]
    · rw [e]; simp; omega
   have Hvb := hid hvb; clear hvb
   clear hc4 hf4 hL4
   obtain ⟨A4, n4, c4, rfl⟩ : ∃ A n c, v4 = .slice A n c := by
    rcases ho4.out.2 with ⟨e, _⟩ | ⟨g, cap, cur, e, _⟩
    · exact ⟨_, _, _, e⟩
    · exact ⟨_, _, _, e⟩
   go_wp2_with fail
   have r1 := World.cell?_setCell_same (w4.setCell ⟨w.heap.size + 1, 0, none⟩ (Value.slice A4 n4 c4)) ⟨w.heap.size + 1, 1, none⟩ (.int .i64 (cQ t)) (by rw [World.cell?_setCell_other (h := by simp)]; exact q1)
   have r0 : ((w4.setCell ⟨w.heap.size + 1, 0, none⟩ (Value.slice A4 n4 c4)).setCell ⟨w.heap.size + 1, 1, none⟩ (.int .i64 (cQ t))).cell? ⟨w.heap.size + 1, 0, none⟩ = some (.slice A4 n4 c4) := by
    rw [World.cell?_setCell_other (h := by simp)]
    exact World.cell?_setCell_same w4 _ _ q0
   refine bodyPost_ret (v := .tuple #[.agg #[.slice A4 n4 c4, .int .i64 (cQ t)], .int .i64 0]) (by simp [results, Tryz.results53, r0, r1, go_sem]) rfl ⟨_, by rw [H.out], ?_, ?_⟩
   · refine ho4.out.kept (row := some (w.heap.size + 1)) ⟨rfl, rfl, rfl, by simp, fun j hj hne => ?_⟩ (.inr (fun e => Hvb.out e))
     rw [Below.heap_setCell _ _ _ _ (fun e => hne (by rw [e])), Below.heap_setCell _ _ _ _ (fun e => hne (by rw [e]))]
   · exact (hB4.setCell (by simp) _).setCell (by simp) _
 · have hlo : bJ t = [] := by rw [bJ, if_neg h]
   have hso : cQ t = 0 := by rw [cQ, if_neg h]
   have hb : (bP t != 0) = true := by rw [bne_iff_ne]; exact h
   clear h
   go_wp2_with fail
   have r1 := World.cell?_setCell_same (w1.setCell ⟨w.heap.size + 1, 0, none⟩ (Value.slice none 0 0)) ⟨w.heap.size + 1, 1, none⟩ (.int .i64 0) (by rw [World.cell?_setCell_other (h := by simp)]; exact q1)
   have r0 : ((w1.setCell ⟨w.heap.size + 1, 0, none⟩ (Value.slice none 0 0)).setCell ⟨w.heap.size + 1, 1, none⟩ (.int .i64 0)).cell? ⟨w.heap.size + 1, 0, none⟩ = some (.slice none 0 0) := by
    rw [World.cell?_setCell_other (h := by simp)]
    exact World.cell?_setCell_same w1 _ _ q0
   refine bodyPost_ret (v := .tuple #[.agg #[.slice none 0 0, .int .i64 0], .int .i64 (bP t)]) (by simp [results, Tryz.results53, r0, r1, go_sem]) rfl ⟨.slice none 0 0, by rw [hso], ?_, ?_⟩
   · rw [hlo]; exact ⟨rfl, .inl ⟨rfl, rfl⟩⟩
   · exact (hB1.setCell (by simp) _).setCell (by simp) _
theorem ms {n i : Int} (h : 0 ≤ i) (h2 : i < n) : inR n i = true := by simp [inR, h, h2]
theorem gT {n i : Int} (h : i < 0 ∨ n ≤ i) : inR n i = false := by simp [inR]; omega
theorem qR (w : World) (ok : Nat → Prop) (l : List St) (sa : Int) (A : Option Addr) (c : Nat) (ha : StsAt w ok l A c) (hok : ∀ b, ok b → b < w.heap.size) :
 Calls Tryz.prog 57 #[iI l sa A c] w fun e w' => e = .returned (.int .i64 (bB l sa)) ∧ Below w.heap.size w w' := by
 have hlen := ha.len
 by_cases hbad : ((l.length : Int) < 1 ∨ 4096 < (l.length : Int)) ∨ sa < 0 ∨ (l.length : Int) ≤ sa
 · have hres : bB l sa = 110 := by
    rw [bB, if_neg]
    rintro ⟨h1, h2⟩
    simp [inR] at h2
    omega
   have Hres := hid hres; clear hres
   have fin : Below w.heap.size w (w.alloc (.cells #[.slice A l.length c, .int .i64 sa] 33)) := nal
   go_enter Tryz.func57, Tryz.ntmps57
   by_cases h1 : (l.length : Int) < 1
   · clear hbad
     go_wp2_with fail
     go_ret
     exact ⟨by rw [Hres.out]; rfl, fin⟩
   by_cases h2 : 4096 < (l.length : Int)
   · clear hbad
     go_wp2_with fail
     go_ret
     exact ⟨by rw [Hres.out]; rfl, fin⟩
   by_cases h3 : sa < 0
   · clear hbad
     go_wp2_with fail
     go_ret
     exact ⟨by rw [Hres.out]; rfl, fin⟩
   · have h4 : (l.length : Int) ≤ sa := by omega
     clear hbad
     go_wp2_with fail
     go_ret
     exact ⟨by rw [Hres.out]; rfl, fin⟩
 have h1 : 1 ≤ (l.length : Int) := by omega
 have h2 : (l.length : Int) ≤ 4096 := by omega
 have h3 : 0 ≤ sa := by omega
 have h4 : sa < (l.length : Int) := by omega
 clear hbad
 have hres : bB l sa = if l.all (fA l.length) then 0 else 110 := by rw [bB, if_pos ⟨by omega, ms h3 h4⟩]
 have Hres := hid hres; clear hres
 go_enter Tryz.func57, Tryz.ntmps57
 go_wp2_with fail
 generalize hW : w.alloc _ = W0
 have hB0 : Below w.heap.size w W0 := by subst hW; exact nal
 have hsz : w.heap.size < W0.heap.size := by subst hW; simp
 have p0 : W0.cell? ⟨w.heap.size, 0, none⟩ = some (.slice A l.length c) := by subst hW; simp [go_sem]
 clear hW h1 h3 h4
 go_loopg [4] (l.length) (fun n i wr => ∃ j : Nat, i = .int .i64 j ∧ j + n = l.length ∧ (l.drop j).all (fA l.length) = l.all (fA l.length) ∧ Below w.heap.size w wr ∧ w.heap.size < wr.heap.size ∧ wr.cell? ⟨w.heap.size, 0, none⟩ = some (.slice A l.length c))
 case atStart => exact ⟨0, rfl, by omega, rfl, hB0, hsz, p0⟩
 case round =>
  obtain ⟨j, rfl, hj, hm, hB, hz, hq⟩ := hrel
  have Hm := hid hm; clear hm
  clear hsz p0 hB0
  by_cases hlt : j < l.length
  · obtain ⟨b, o, rfl, hb, hcell⟩ := ha.at_ (by omega)
    obtain ⟨f0, f1, f2, f3, f4, f5, f6⟩ := (hcell j hlt).mono (w' := wr) (fun o => hB.cell (p := ⟨b, o, none⟩) (hok b hb))
    have Hd := hid (bI hlt)
    clear hcell
    generalize l[j] = s at *
    have hbz := hok b hb
    have fin : fA l.length s = false → bB l sa = 110 := fun h => by
     rw [Hres.out, ← Hm.out, Hd.out, List.all_cons, h]; rfl
    have go : fA l.length s = true → (l.drop (j + 1)).all (fA l.length) = l.all (fA l.length) := fun h => by
     rw [← Hm.out, Hd.out, List.all_cons, h, Bool.true_and]
    have Fin := hid fin; have Go := hid go; clear fin go
    obtain ⟨k, s0, s1, s2, s3, nx, ot⟩ := s
    simp only at f0 f1 f2 f3 f4 f5 f6
    have q1 : (wr.alloc (.cells #[.int .i64 k, .int .u64 s0, .int .u64 s1, .int .u64 s2, .int .u64 s3, .int .i64 nx, .int .i64 ot] 30)).cell? ⟨w.heap.size, 0, none⟩ = some (.slice (some ⟨b, o, none⟩) l.length c) := by
     rw [World.cell?_alloc_lt _ _ _ hz]; exact hq
    have hB1 := hB.alloc (by omega : w.heap.size ≤ wr.heap.size) (.cells #[.int .i64 k, .int .u64 s0, .int .u64 s1, .int .u64 s2, .int .u64 s3, .int .i64 nx, .int .i64 ot] 30)
    by_cases c1 : k < 1
    · have hg := hid (Fin.out (by simp only [fA]; rw [if_neg (by omega), if_neg (by omega), if_neg (by omega)])); clear Go Fin
      go_wp2_with fail
      go_ret
      exact ⟨by rw [hg.out]; rfl, hB1⟩
    by_cases c2 : 5 < k
    · have hg := hid (Fin.out (by simp only [fA]; rw [if_neg (by omega), if_neg (by omega), if_neg (by omega)])); clear Go Fin
      go_wp2_with fail
      go_ret
      exact ⟨by rw [hg.out]; rfl, hB1⟩
    by_cases c3 : k = 5
    · subst c3
      have hg := hid (Go.out (by simp [fA])); clear Go Fin
      go_wp2_with fail
      go_roundg (gk - 1)
      case measure => omega
      case rel => exact ⟨j + 1, by go_num, by omega, hg.out, hB1, by simp; omega, q1⟩
    have b5 : (k != 5) = true := by simp; omega
    by_cases c4 : nx < 0
    · have hg := hid (Fin.out (by
       simp only [fA, gT (.inl c4 : nx < 0 ∨ (l.length : Int) ≤ nx), Bool.false_and]; rw [if_neg c3]; split
       · rfl
       · split <;> rfl)); clear Go Fin c3
      go_wp2_with fail
      go_ret
      exact ⟨by rw [hg.out]; rfl, hB1⟩
    by_cases c5 : (l.length : Int) ≤ nx
    · have hg := hid (Fin.out (by
       simp only [fA, gT (.inr c5 : nx < 0 ∨ (l.length : Int) ≤ nx), Bool.false_and]; rw [if_neg c3]; split
       · rfl
       · split <;> rfl)); clear Go Fin c3
      go_wp2_with fail
      go_ret
      exact ⟨by rw [hg.out]; rfl, hB1⟩
    have hnx : inR l.length nx = true := ms (by omega) (by omega)
    by_cases c6 : k = 2
    · subst c6
      have hstep : fA l.length ⟨2, s0, s1, s2, s3, nx, ot⟩ = inR l.length ot := by simp [fA, hnx]
      clear c3 hnx
      by_cases c7 : ot < 0
      · have hg := hid (Fin.out (by rw [hstep, gT (.inl c7)])); clear Go Fin hstep
        go_wp2_with fail
        go_ret
        exact ⟨by rw [hg.out]; rfl, hB1⟩
      by_cases c8 : (l.length : Int) ≤ ot
      · have hg := hid (Fin.out (by rw [hstep, gT (.inr c8)])); clear Go Fin hstep
        go_wp2_with fail
        go_ret
        exact ⟨by rw [hg.out]; rfl, hB1⟩
      · have hg := hid (Go.out (by rw [hstep, ms (by omega) (by omega)])); clear Go Fin hstep
        go_wp2_with fail
        go_roundg (gk - 1)
        case measure => omega
        case rel => exact ⟨j + 1, by go_num, by omega, hg.out, hB1, by simp; omega, q1⟩
    · have b2 : (k == 2) = false := by simp; omega
      have hg := hid (Go.out (by simp only [fA, hnx]; rw [if_neg c3, if_pos (by omega)])); clear Go Fin c3 c6 hnx
      go_wp2_with fail
      go_roundg (gk - 1)
      case measure => omega
      case rel => exact ⟨j + 1, by go_num, by omega, hg.out, hB1, by simp; omega, q1⟩
  · have hg : l.all (fA l.length) = true := by rw [← Hm.out, List.drop_of_length_le (by omega)]; rfl
    have hg2 := hid (by rw [Hres.out, hg]; rfl : bB l sa = 0); clear hg
    have i1 : (l.length : Int) ≤ (j : Int) := by omega
    go_wp2_with fail
    go_ret
    exact ⟨by rw [hg2.out]; rfl, hB⟩
def t9 : T := .mk 9 0 0 0 0 0 0 []
theorem kN (l : List St) (s : Int) : fZ l s l s = true := by simp [fZ]
structure At2 (w : World) (b : Nat) (v : Value) (s : Int) : Prop where
 f0 : w.cell? ⟨b, 0, none⟩ = some v
 f1 : w.cell? ⟨b, 1, none⟩ = some (.int .i64 s)
theorem At2.later {w w' : World} {B b : Nat} {v : Value} {s : Int} (h : At2 w b v s) (hb : Below B w w') (hlt : b < B) : At2 w' b v s :=
 ⟨(hb.cell (p := ⟨b, 0, none⟩) hlt).trans h.f0, (hb.cell (p := ⟨b, 1, none⟩) hlt).trans h.f1⟩
theorem gN {w w' : World} {base n : Nat} {v : Value} {xs : List Value} (h : w.ownsRow base 30 7 v n xs) (hb : Below w.heap.size w w') : w'.ownsRow base 30 7 v n xs :=
 h.kept (row := none) ⟨hb.os, hb.tape, hb.output, hb.size, fun k hk _ => hb.block k hk⟩ (by cases hv : v.ownBlock <;> simp)
theorem pR {w : World} {base n : Nat} {v : Value} {xs : List Value} (h : w.ownsRow base 30 7 v n xs) : ∃ A c, v = .slice A n c := by
 rcases h.2 with ⟨rfl, h0⟩ | ⟨g, cap, cur, rfl, _⟩
 · exact ⟨none, 0, by rw [h0]⟩
 · exact ⟨_, cap, rfl⟩
theorem lQ {w : World} {base : Nat} {l : List St} {A : Option Addr} {c : Nat} (h : w.ownsRow base 30 7 (.slice A l.length c) l.length (aR l)) (hl : l.length ≤ 4096) : StsAt w (fun b => b < w.heap.size) l A c :=
 (mY h (by omega)).mono fun b hb => ⟨hb.2, fun _ => rfl⟩
theorem Spoils.cell {r : Option Nat} {w w' : World} (h : Spoils r w w') {b o : Nat} (h0 : b < w.heap.size) (h1 : some b ≠ r) : w'.cell? ⟨b, o, none⟩ = w.cell? ⟨b, o, none⟩ := World.cell?_of_block (w := w) (h.block b h0 h1)
theorem Spoils.own {r : Option Nat} {w w' : World} (h : Spoils r w w') {base n : Nat} {v : Value} {xs : List Value} (ho : w.ownsRow base 30 7 v n xs) (hne : ∀ k, v.ownBlock = some k → some k ≠ r) : w'.ownsRow base 30 7 v n xs :=
 ho.kept (row := r) ⟨h.os, h.tape, h.output, h.size, h.block⟩ (by
  cases hv : v.ownBlock with
  | none => exact .inl rfl
  | some k => exact .inr (hne k hv))
theorem Tryz.infoBool : (Tryz.prog.info? 4).map (fun i => (i.zero, i.size, i.bytes)) = some (some (.bool false), 1, 1) := by kernel_rfl
theorem qc (w1 : World) (l : List St) (sa : Int) (A : Option Addr) (c i j : Nat) (hij : (i = w1.heap.size ∧ j = w1.heap.size + 1) ∨ (i = w1.heap.size + 1 ∧ j = w1.heap.size)) :
 (fun W => HR W w1.heap.size (w1.heap.size + 2) i j l sa A c false false [] 0 none 0 [] 0 none 0 ∧ Below w1.heap.size w1 W) ((((w1.alloc (.cells (madeCells #[.bool false] l.length) 4)).alloc (.cells (madeCells #[.bool false] l.length) 4)).alloc (.cells #[.slice A l.length c, .int .i64 sa, .slice none 0 0, .slice (some ⟨i, 0, none⟩) l.length l.length, .slice none 0 0, .slice (some ⟨j, 0, none⟩) l.length l.length, .bool false, .bool false] 63)).drew) := by
 have hM : ∀ i, i < l.length → (madeCells #[.bool false] l.length)[i]? = some (.bool false) := fun i hi => by
  rw [← Array.getElem?_toList, toList_madeCells_one]
  simp [hi]
 generalize madeCells #[.bool false] l.length = M at *
 generalize hW : World.drew _ = W
 have hb : Below w1.heap.size w1 W := by
  subst hW
  exact ((((Below.refl w1.heap.size w1).alloc (Nat.le_refl _) _).alloc (by simp) _).alloc (by simp; omega) _).drew
 have hz : W.heap.size = w1.heap.size + 3 := by subst hW; simp
 generalize hR : (#[.slice A l.length c, .int .i64 sa, .slice none 0 0, .slice (some ⟨i, 0, none⟩) l.length l.length, .slice none 0 0, .slice (some ⟨j, 0, none⟩) l.length l.length, .bool false, .bool false] : Array Value) = R at *
 have k0 : W.heap[w1.heap.size]? = some (.cells M 4) := by
  subst hW
  show (((w1.heap.push _).push _).push _)[_]? = _
  simp [Array.getElem?_push] <;> omega
 have k1 : W.heap[w1.heap.size + 1]? = some (.cells M 4) := by
  subst hW
  show (((w1.heap.push _).push _).push _)[_]? = _
  rw [Array.getElem?_push, if_neg (by simp), Array.getElem?_push, if_pos (by simp)]
 have k2 : W.heap[w1.heap.size + 2]? = some (.cells R 63) := by
  subst hW
  show (((w1.heap.push _).push _).push _)[_]? = _
  rw [Array.getElem?_push, if_pos (by simp)]
 have hcT : ∀ k o, k = w1.heap.size ∨ k = w1.heap.size + 1 → o < l.length → W.cell? ⟨k, o, none⟩ = some (.bool false) := fun k o hk ho => by
  rcases hk with rfl | rfl
  · unfold World.cell?; simp only [k0]; exact hM o ho
  · unfold World.cell?; simp only [k1]; exact hM o ho
 have hfT : ∀ k o, k = w1.heap.size ∨ k = w1.heap.size + 1 ∨ k = w1.heap.size + 2 → W.frozen? ⟨k, o, none⟩ = false := fun k o hk => by
  rcases hk with rfl | rfl | rfl
  · unfold World.frozen?; simp [k0]
  · unfold World.frozen?; simp [k1]
  · unfold World.frozen?; simp [k2]
 have hq : ∀ o, W.cell? ⟨w1.heap.size + 2, o, none⟩ = R[o]? := fun o => by
  unfold World.cell?; simp [k2]
 have hi : i = w1.heap.size ∨ i = w1.heap.size + 1 := by omega
 have hj : j = w1.heap.size ∨ j = w1.heap.size + 1 := by omega
 subst hR
 have hrow : W.ownsRow w1.heap.size 3 1 (.slice none 0 0) 0 (fB []) := ⟨rfl, .inl ⟨rfl, rfl⟩⟩
 exact ⟨⟨hq 0, hq 6, hq 7, fun o => hfT _ o (by omega), ⟨rfl, hq 2, hq 3, hrow, fun o ho => (hcT i o hi ho).trans (by simp), fun o => hfT i o (by omega), by omega, by omega, by simp [Value.ownBlock], by simp [Value.ownBlock], by simp, List.nodup_nil⟩, ⟨rfl, hq 4, hq 5, hfT _ 4 (by omega), hrow, fun o ho => (hcT j o hj ho).trans (by simp), fun o => hfT j o (by omega), by omega, by omega, by omega, by simp [Value.ownBlock], by simp [Value.ownBlock], by simp, List.nodup_nil, by omega⟩, by omega, by simp [Value.ownBlock], by simp [Value.ownBlock], .inl rfl, by omega, by omega, by omega⟩, hb⟩
theorem ly {w : World} {B q T1 T2 : Nat} {l : List St} {sa : Int} {Am : Option Addr} {cm : Nat} {b e : Bool} {X Y : List Nat} {n m : Nat} {A A2 : Option Addr} {c c2 : Nat} (h : HR w B q T1 T2 l sa Am cm b e X n A c Y m A2 c2) :
 (fun W => HR W B q T2 T1 l sa Am cm b e Y m A2 c2 X n A c ∧ ∀ S, S ≤ q → Below S w W) ((((w.setCell ⟨q, 2, none⟩ (.slice A2 m c2)).setCell ⟨q, 3, none⟩ (.slice (some ⟨T2, 0, none⟩) l.length l.length)).setCell ⟨q, 4, none⟩ (.slice A n c)).setCell ⟨q, 5, none⟩ (.slice (some ⟨T1, 0, none⟩) l.length l.length)).drew := by
 generalize hW1 : w.setCell ⟨q, 2, none⟩ (.slice A2 m c2) = W1
 generalize hW2 : W1.setCell ⟨q, 3, none⟩ (.slice (some ⟨T2, 0, none⟩) l.length l.length) = W2
 generalize hW3 : W2.setCell ⟨q, 4, none⟩ (.slice A n c) = W3
 have c1 : ∀ o, o ≠ 2 → W1.cell? ⟨q, o, none⟩ = w.cell? ⟨q, o, none⟩ := fun o ho => by subst hW1; exact World.cell?_setCell_other _ _ _ _ (by simp <;> omega)
 have c2' : ∀ o, o ≠ 3 → W2.cell? ⟨q, o, none⟩ = W1.cell? ⟨q, o, none⟩ := fun o ho => by subst hW2; exact World.cell?_setCell_other _ _ _ _ (by simp <;> omega)
 have c3 : ∀ o, o ≠ 4 → W3.cell? ⟨q, o, none⟩ = W2.cell? ⟨q, o, none⟩ := fun o ho => by subst hW3; exact World.cell?_setCell_other _ _ _ _ (by simp <;> omega)
 have c4 : ∀ o, o ≠ 5 → (W3.setCell ⟨q, 5, none⟩ (.slice (some ⟨T1, 0, none⟩) l.length l.length)).drew.cell? ⟨q, o, none⟩ = W3.cell? ⟨q, o, none⟩ := fun o ho => by
  rw [World.cell?_drew]; exact World.cell?_setCell_other _ _ _ _ (by simp <;> omega)
 have d1 : W1.cell? ⟨q, 2, none⟩ = some (.slice A2 m c2) := by subst hW1; exact World.cell?_setCell_same _ _ _ h.now.f2
 have d2 : W2.cell? ⟨q, 3, none⟩ = some (.slice (some ⟨T2, 0, none⟩) l.length l.length) := by subst hW2; exact World.cell?_setCell_same _ _ _ ((c1 3 (by omega)).trans h.now.f3)
 have d3 : W3.cell? ⟨q, 4, none⟩ = some (.slice A n c) := by subst hW3; exact World.cell?_setCell_same _ _ _ ((c2' 4 (by omega)).trans ((c1 4 (by omega)).trans h.next.f4))
 have d4 : (W3.setCell ⟨q, 5, none⟩ (.slice (some ⟨T1, 0, none⟩) l.length l.length)).drew.cell? ⟨q, 5, none⟩ = some (.slice (some ⟨T1, 0, none⟩) l.length l.length) := by
  rw [World.cell?_drew]; exact World.cell?_setCell_same _ _ _ ((c3 5 (by omega)).trans ((c2' 5 (by omega)).trans ((c1 5 (by omega)).trans h.next.f5)))
 have hall : ∀ o, o ≠ 2 → o ≠ 3 → o ≠ 4 → o ≠ 5 → (W3.setCell ⟨q, 5, none⟩ (.slice (some ⟨T1, 0, none⟩) l.length l.length)).drew.cell? ⟨q, o, none⟩ = w.cell? ⟨q, o, none⟩ := fun o h2 h3 h4 h5 => (c4 o h5).trans ((c3 o h4).trans ((c2' o h3).trans (c1 o h2)))
 have hk : ∀ k, k ≠ q → (W3.setCell ⟨q, 5, none⟩ (.slice (some ⟨T1, 0, none⟩) l.length l.length)).drew.heap[k]? = w.heap[k]? := fun k hk => by
  subst hW3 hW2 hW1
  exact (Below.heap_setCell _ _ _ _ hk).trans ((Below.heap_setCell _ _ _ _ hk).trans ((Below.heap_setCell _ _ _ _ hk).trans (Below.heap_setCell _ _ _ _ hk)))
 have hz : (W3.setCell ⟨q, 5, none⟩ (.slice (some ⟨T1, 0, none⟩) l.length l.length)).drew.heap.size = w.heap.size := by subst hW3 hW2 hW1; simp
 have hos : (W3.setCell ⟨q, 5, none⟩ (.slice (some ⟨T1, 0, none⟩) l.length l.length)).drew.os = w.os ∧ (W3.setCell ⟨q, 5, none⟩ (.slice (some ⟨T1, 0, none⟩) l.length l.length)).drew.tape = w.tape ∧ (W3.setCell ⟨q, 5, none⟩ (.slice (some ⟨T1, 0, none⟩) l.length l.length)).drew.output = w.output := by subst hW3 hW2 hW1; exact ⟨rfl, rfl, rfl⟩
 have hf : ∀ a, (W3.setCell ⟨q, 5, none⟩ (.slice (some ⟨T1, 0, none⟩) l.length l.length)).drew.frozen? a = w.frozen? a := fun a => by
  subst hW3 hW2 hW1
  rw [World.frozen?_drew, World.frozen?_setCell, World.frozen?_setCell, World.frozen?_setCell, World.frozen?_setCell]
 exact ⟨h.swap hz hos.1 hos.2.1 hos.2.2 hk hf (hall 0 (by omega) (by omega) (by omega) (by omega)) (hall 6 (by omega) (by omega) (by omega) (by omega)) (hall 7 (by omega) (by omega) (by omega) (by omega)) ((c4 2 (by omega)).trans ((c3 2 (by omega)).trans ((c2' 2 (by omega)).trans d1))) ((c4 3 (by omega)).trans ((c3 3 (by omega)).trans d2)) ((c4 4 (by omega)).trans d3) d4, fun S hS => ⟨hos.1, hos.2.1, hos.2.2, by omega, fun k hk' => hk k (by omega)⟩⟩
theorem Nw.at_ {w : World} {B q T N : Nat} {X : List Nat} {n : Nat} {A : Option Addr} {c : Nat} (h : Nw w B q T N X n A c) {i : Nat} (hi : i < n) : ∃ g, A = some ⟨g, 0, none⟩ ∧ g < w.heap.size ∧ n ≤ c ∧ w.cell? ⟨g, i, none⟩ = some (.int .i64 ((X.getD i 0 : Nat) : Int)) := by
 have hl := h.len
 rcases h.row.2 with ⟨_, h0⟩ | ⟨g, cap, cur, e, hb, hh, hcap, _⟩
 · omega
 · simp only [Value.slice.injEq] at e
   obtain ⟨rfl, _, rfl⟩ := e
   refine ⟨g, rfl, by (rcases Nat.lt_or_ge g w.heap.size with h' | h'; exact h'; rw [Array.getElem?_eq_none h'] at hh; simp at hh), hcap, ?_⟩
   rw [h.row.cellAt i (by omega)]
   simp [fB, List.getD_eq_getElem?_getD, List.getElem?_eq_getElem (show i < X.length by omega)]
theorem bb (w : World) (n : Nat) : Below w.heap.size w (w.drewN n) := ⟨rfl, rfl, rfl, Nat.le_refl _, fun _ _ => rfl⟩
theorem uA (v : Int) : bits .and .u64 v 1 = v % 2 := by
 have h1 : bits .and .u64 v 1 = IntKind.u64.wrap ((((v % 2 ^ 64).toNat &&& 1 : Nat)) : Int) := by
  show IntKind.u64.wrap (((BitVec.ofInt 64 v &&& BitVec.ofInt 64 1).toNat : Nat) : Int) = _
  rw [BitVec.toNat_and, BitVec.toNat_ofInt, BitVec.toNat_ofInt]
  rfl
 rw [h1, Nat.and_one_is_mod]
 have : IntKind.u64.wrap (((v % 2 ^ 64).toNat % 2 : Nat) : Int) = (((v % 2 ^ 64).toNat % 2 : Nat) : Int) % 2 ^ 64 := by
  simp [IntKind.wrap, IntKind.bits, IntKind.signed]
 rw [this]
 omega
theorem sB (subj : Bs) (a : Nat) (h0 : a ≠ 0) (h : a ≤ subj.length) (hh : a - 1 < (bs subj).size) : ((bs subj)[a - 1]'hh).toNat = bM subj a := by
 have : ∀ i (hi : i < (bs subj).size), (bs subj)[i]'hi = subj.getD i 0 := fun i hi => by
  have : i < subj.length := by simpa [bs, ByteArray.size] using hi
  simp only [List.getD_eq_getElem?_getD, List.getElem?_eq_getElem this, Option.getD_some]
  rfl
 rw [this]; rfl
theorem qo (c : Nat) (hc : c < 256) (sk s0 s1 s2 s3 nx ot : Int) : ∃ i r : Nat, i < 4 ∧ r < 64 ∧ IntKind.u8.wrap ((c : Int) / 64) = (i : Int) ∧ (c : Int).tmod 64 = (r : Int) ∧ qw ⟨sk, s0, s1, s2, s3, nx, ot⟩ c = ((iJ ⟨sk, s0, s1, s2, s3, nx, ot⟩ i / 2 ^ r) % 2 == 1) := by
 refine ⟨c / 64, c % 64, by omega, by omega, ?_, ?_, rfl⟩
 · rw [IntKind.wrap_u8]; omega
 · rw [Int.tmod_eq_emod_of_nonneg (by omega)]; omega
theorem ic (w : World) (ok : Nat → Prop) (l : List St) (sa : Int) (A : Option Addr) (c : Nat) (hA : StsAt w ok l A c) (hok : ∀ b, ok b → b < w.heap.size) (subj : Bs) :
 Calls Tryz.prog 20 #[iI l sa A c, .string (bs subj)] w fun en w' => en = .returned (.tuple #[.bool (dK l sa subj).1, .int .i64 (dK l sa subj).2.1, .int .i64 (dK l sa subj).2.2]) ∧ Below w.heap.size w w' := by
 have HA := hid hA; have Hok := hid hok; clear hA hok
 go_enter Tryz.func20, Tryz.ntmps20
 go_wp2_with fail
 generalize hW : w.alloc _ = W0
 have hB0 : Below w.heap.size w W0 := by subst hW; exact nal
 have hz0 : w.heap.size < W0.heap.size := by subst hW; simp
 have P0 : At2 W0 w.heap.size (.slice A l.length c) sa := by subst hW; constructor <;> simp [go_sem]
 clear hW
 obtain ⟨p0, p1⟩ := id P0
 go_step3
 go_wp2_with fail
 clear p0 p1
 refine (ld W0 ok l sa A c (HA.out.later hB0 Hok.out) (fun b h => by have := Hok.out b h; omega)).mono ?_
 rintro en w1 ⟨rfl, hb1⟩
 have hz1 := hb1.size
 have hB1 := hB0.trans (hb1.mono (by omega))
 have P1 := P0.later hb1 hz0
 clear P0 hB0
 by_cases hck : bB l sa = 0
 case' neg =>
  have hres : dK l sa subj = (false, 0, bB l sa) := if_pos hck
  have Hres := hid hres
  have hb : (bB l sa != 0) = true := by rw [bne_iff_ne]; exact hck
  clear hres hck
  go_wp2_with fail
  try rw [Exit.noGoto_ret]
  exact bodyPost_ret (v := .tuple #[.bool false, .int .i64 0, .int .i64 (bB l sa)]) (by simp [results, Tryz.results20, go_sem]) rfl ⟨by rw [Hres.out], hB1⟩
 have hb : (bB l sa != 0) = false := by rw [hck]; rfl
 by_cases hlong : 65536 < subj.length
 · have hres : dK l sa subj = (false, 0, 3) := by rw [dK, if_neg (by simpa using hck), if_pos hlong]
   have Hres := hid hres
   clear hres hck
   go_wp2_with fail
   try rw [Exit.noGoto_ret]
   exact bodyPost_ret (v := .tuple #[.bool false, .int .i64 0, .int .i64 3]) (by simp [results, Tryz.results20, go_sem]) rfl ⟨by rw [Hres.out], hB1⟩
 have hres : dK l sa subj = ((bF l sa subj (subj.length + 1) 0 [] 0).1, (bF l sa subj (subj.length + 1) 0 [] 0).2, 0) := by rw [dK, if_neg (by simpa using hck), if_neg hlong]
 have Hres := hid hres
 have hm := pr hck
 have HM := hid hm
 have hl1 := hm.len
 have hl0 : 0 < l.length := by have := hm.start; omega
 clear hres hck hm
 have hmk := run_make_row' (P := Tryz.prog) 59 4 (.bool false) 1 Tryz.underlying59 Tryz.infoBool rfl .i64 .i64 l.length (by omega) (by omega)
 obtain ⟨p0, p1⟩ := id P1
 have hz01 : w.heap.size < w1.heap.size := by omega
 have hb0 := hB1.size
 go_upto_region 6 with fail
 go_cut [8] (fun v wx => ∃ (q T1 T2 : Nat), v = .pointer (some ⟨q, 0, none⟩) ∧ HR wx w1.heap.size q T1 T2 l sa A c false false [] 0 none 0 [] 0 none 0 ∧ Below w1.heap.size w1 wx)
 case first =>
  go_region
  all_goals go_wp2_with fail
  all_goals go_meet
  all_goals first
   | exact ⟨_, _, _, rfl, qc w1 l sa A c w1.heap.size (w1.heap.size + 1) (.inl ⟨rfl, rfl⟩)⟩
   | exact ⟨_, _, _, rfl, qc w1 l sa A c (w1.heap.size + 1) w1.heap.size (.inr ⟨rfl, rfl⟩)⟩
 case rest =>
  obtain ⟨q, T1, T2, rfl, hH, hBc⟩ := hcut
  clear hmk p0 p1
  have HH := hid hH; clear hH
  have hzc := hBc.size
  go_wp2_with fail
  try go_step3
  go_wp2_with fail
  obtain ⟨st, rfl⟩ : ∃ st : Nat, sa = st := ⟨sa.toNat, by have := HM.out.s0; omega⟩
  have hst := HM.out.s1
  go_loopg [9, 10, 11] (subj.length + 1) (fun k v9 v10 v11 wr => ∃ (a s T1 T2 : Nat) (X : List Nat) (n : Nat) (A1 : Option Addr) (c1 : Nat) (A2 : Option Addr) (c2 : Nat) (b e : Bool), v9 = .int .i64 (s : Int) ∧ v10 = .bool false ∧ v11 = .int .i64 (a : Int) ∧ a + k = subj.length + 1 ∧ s ≤ a * 5000 ∧ bF l st subj (subj.length + 1 - a) a X s = bF l st subj (subj.length + 1) 0 [] 0 ∧ HR wr w1.heap.size q T1 T2 l st A c b e X n A1 c1 [] 0 A2 c2 ∧ (a = 0 → X = []) ∧ Below w1.heap.size w1 wr)
  case atStart => exact ⟨0, 0, T1, T2, [], 0, none, 0, none, 0, false, false, rfl, rfl, rfl, by omega, by omega, rfl, HH.out, fun _ => rfl, hBc⟩
  case round =>
   clear HH hBc hzc
   obtain ⟨a, s, T1, T2, X, n, A1, c1, A2, c2, b, e, rfl, rfl, rfl, hak, hs, hov, hH, h0, hBr⟩ := hrel
   have hzr := hBr.size
   obtain ⟨p0, p1⟩ := P1.later hBr hz01
   have Hov := hid hov; have H0 := hid h0
   clear hov h0
   by_cases hle : a ≤ subj.length
   case' pos =>
    have e3 := hH.m6; have e4 := hH.m7; have z3 := hH.z 6; have z4 := hH.z 7
    have lq := hH.next.lq
    have HH := hid hH
    clear hH
    go_upto_region 12 with fail
    have hfl := HH.out.flags ((a : Int) == 0) ((a : Int) == (subj.length : Int))
    have hbe : Below w1.heap.size wr ((wr.setCell ⟨q, 6, none⟩ (.bool ((a : Int) == 0))).setCell ⟨q, 7, none⟩ (.bool ((a : Int) == (subj.length : Int)))) := by
     have hq1 : w1.heap.size ≤ q := HH.out.Bq
     exact ⟨rfl, rfl, rfl, by simp, fun k hk => (Below.heap_setCell _ _ _ _ (by show k ≠ q; omega)).trans (Below.heap_setCell _ _ _ _ (by show k ≠ q; omega))⟩
    rw [show ((a : Int) == 0) = (a == 0) from by rw [Bool.eq_iff_iff]; simp, show ((a : Int) == (subj.length : Int)) = (a == subj.length) from by rw [Bool.eq_iff_iff]; simp <;> omega] at hfl hbe
    rw [show ((a : Int) == 0) = (a == 0) from by rw [Bool.eq_iff_iff]; simp, show ((a : Int) == (subj.length : Int)) = (a == subj.length) from by rw [Bool.eq_iff_iff]; simp <;> omega]
    have hstep : cA l st subj a X = X.foldl (kz l (a == 0) (a == subj.length) (bM subj a)) (kB l (a == 0) (a == subj.length) [] st) := by rw [cA, Int.toNat_natCast]
    have Hstep := hid hstep
    clear hstep
    generalize hW : (wr.setCell _ _).setCell _ _ = W2 at *
    generalize (a == 0) = b1 at *
    generalize (a == subj.length) = e1 at *
    have hB2 := hBr.trans hbe
    have hz2 := hB2.size
    clear hW HH e3 e4 z3 z4 hBr hbe p0 p1 hzr lq
    obtain ⟨p0, p1⟩ := P1.later hB2 hz01
    have HH := hid hfl
    clear hfl
    go_wp2_with fail
    refine (sG W2 w1.heap.size q T2 w1.heap.size l st HM.out ok A c b1 e1 (HA.out.later (hB1.trans (hB2.mono hb0)) Hok.out) (fun k hk => by have := Hok.out k hk; omega) HH.out.Bq HH.out.BT2 (Nat.le_refl _) HH.out.m0 HH.out.m6 HH.out.m7 [] 0 A2 c2 HH.out.next st (by omega)).mono ?_
    rintro en w3 ⟨rfl, n3, A3, c3, h3, hv3⟩
    have hH3 := HH.out.step h3 hv3
    have hB3 := hB2.trans (hv3.below HH.out.Bq HH.out.BT2 (fun k hk => (HH.out.next.own_le k hk).1) hz2)
    have hz3 := hB3.size
    have f2 := hH3.now.f2
    have hnl : n ≤ l.length := by rw [← hH3.now.len]; exact ei hH3.now.nd hH3.now.lt
    have HH := hid hH3
    clear hH3 h3 hv3 p0 p1 hz2
    clear hB2
    obtain ⟨p0, p1⟩ := P1.later hB3 hz01
    go_wp2_with fail
    go_loopg [66] n (fun k v w4 => ∃ (j : Nat) (Y : List Nat) (m : Nat) (A3 : Option Addr) (c3 : Nat), v = .int .i64 (j : Int) ∧ j + k = n ∧ (X.drop j).foldl (kz l b1 e1 (bM subj a)) Y = cA l st subj a X ∧ HR w4 w1.heap.size q T1 T2 l st A c b1 e1 X n A1 c1 Y m A3 c3 ∧ Below w1.heap.size w1 w4)
    case atStart => exact ⟨0, _, _, _, _, rfl, by omega, by rw [Hstep.out]; rfl, HH.out, hB3⟩
    case round =>
     clear HH hB3 hz3 p0 p1
     obtain ⟨j, Y, m, A3, c3, rfl, hjn, hfo, hH, hB4⟩ := hrel
     have Hfo := hid hfo
     clear hfo
     obtain ⟨p0, p1⟩ := P1.later hB4 hz01
     have hz4 := hB4.size
     by_cases hlt : j < n
     case' pos =>
      obtain ⟨g, rfl, hg, hnc, hcell⟩ := hH.now.at_ hlt
      have hx : X.getD j 0 < l.length := hH.now.lt _ (by rw [List.getD_eq_getElem?_getD, List.getElem?_eq_getElem (by rw [hH.now.len]; exact hlt)]; exact List.getElem_mem _)
      have hXl := hH.now.len
      have hdrop : X.drop j = X.getD j 0 :: X.drop (j + 1) := by
       rw [List.drop_eq_getElem_cons (by omega), List.getD_eq_getElem?_getD, List.getElem?_eq_getElem (by omega)]; rfl
      have ha0 : a ≠ 0 := fun e => by rw [H0.out e] at hXl; simp at hXl; omega
      obtain ⟨gm, om, rfl, hgm, hst7⟩ := (HA.out.later (hB1.trans (hB4.mono hb0)) Hok.out).at_ hl0
      have hgl := Hok.out gm hgm
      have hstx := hst7 (X.getD j 0) hx
      have hsN : l[X.getD j 0] = stN l (X.getD j 0) := by unfold stN; rw [List.getD_eq_getElem?_getD (l := l), List.getElem?_eq_getElem hx]; rfl
      rw [hsN] at hstx
      have hcap := HA.out.cap
      have hfo := Hfo.out
      rw [hdrop, List.foldl_cons] at hfo
      have hnx := fun hk => HM.out.next hx hk
      have hnx2 : (stN l (X.getD j 0)).k = 1 → (stN l (X.getD j 0)).nx = ((stN l (X.getD j 0)).nx.toNat : Int) := fun hk => by rcases HM.out.kinds hx with h | ⟨_, h, _⟩ | ⟨h, _⟩ <;> omega
      have HH := hid hH; have Hfo := hid hfo
      clear hH hfo hst7 hsN hdrop hXl
      unfold kz at Hfo
      generalize hxe : X.getD j 0 = x at *
      generalize stN l x = sx at *
      obtain ⟨sk, s0, s1, s2, s3, nx, ot⟩ := sx
      obtain ⟨f0, f1, f2, f3, f4, f5, f6⟩ := hstx
      simp only at f0 f1 f2 f3 f4 f5 f6 hnx hnx2
      have hgw : gm < wr.heap.size := by omega
      clear hxe
      have Hnx := hid hnx; have Hnx2 := hid hnx2
      clear hnx hnx2
      go_upto_region 17 with fail
      generalize hW : wr.alloc _ = W5
      have hb5 : Below wr.heap.size wr W5 := by subst hW; exact nal
      have b0 : W5.cell? ⟨wr.heap.size, 0, none⟩ = some (.int .i64 sk) := by subst hW; simp [go_sem]
      have b1' : W5.cell? ⟨wr.heap.size, 1, none⟩ = some (.int .u64 s0) := by subst hW; simp [go_sem]
      have b2 : W5.cell? ⟨wr.heap.size, 2, none⟩ = some (.int .u64 s1) := by subst hW; simp [go_sem]
      have b3 : W5.cell? ⟨wr.heap.size, 3, none⟩ = some (.int .u64 s2) := by subst hW; simp [go_sem]
      have b4 : W5.cell? ⟨wr.heap.size, 4, none⟩ = some (.int .u64 s3) := by subst hW; simp [go_sem]
      have b5 : W5.cell? ⟨wr.heap.size, 5, none⟩ = some (.int .i64 nx) := by subst hW; simp [go_sem]
      have lb : wr.heap.size < W5.heap.size := by subst hW; simp
      have hH5 := HH.out.later hb5
      have hB5 := hB4.trans (hb5.mono hz4)
      clear hW hb5 f0 f1 f2 f3 f4 f5 f6 p0 p1 HH hB4
      obtain ⟨p0, p1⟩ := P1.later hB5 hz01
      have HH := hid hH5
      clear hH5
      by_cases hk : sk = 1
      case' neg =>
       have ht : dZ ⟨sk, s0, s1, s2, s3, nx, ot⟩ (bM subj a) = false := by
        have : (sk == 1) = false := by simpa using hk
        unfold dZ; rw [show (⟨sk, s0, s1, s2, s3, nx, ot⟩ : St).k = sk from rfl, this]; rfl
       have hfo : (X.drop (j + 1)).foldl (kz l b1 e1 (bM subj a)) Y = cA l st subj a X := by
        have := Hfo.out
        rwa [if_neg (by rw [ht]; simp)] at this
       clear Hfo
       have Hfo := hid hfo
       clear hfo ht
       have hkb : (sk == 1) = false := by simpa using hk
       clear hk
       go_quiet (fail)
       go_wp2_with fail
       go_roundg (gk - 1)
       case measure => omega
       case rel => exact ⟨j + 1, _, _, _, _, by go_num, by omega, Hfo.out, HH.out.later (bb _ _), hB5.trans ((bb _ _).mono (by omega))⟩
      case' pos =>
       subst hk
       have hidx : ∀ hh, ((bs subj)[a - 1]'hh).toNat = bM subj a := sB subj a ha0 hle
       have ha5 : (1 : Int) ≤ (a : Int) := by omega
       have hcl : bM subj a < 256 := by unfold bM; exact UInt8.toNat_lt _
       obtain ⟨wi, wr', hi4, hr64, hqu, hre, hbw⟩ := qo (bM subj a) hcl 1 s0 s1 s2 s3 nx ot
       have htk : dZ ⟨1, s0, s1, s2, s3, nx, ot⟩ (bM subj a) = qw ⟨1, s0, s1, s2, s3, nx, ot⟩ (bM subj a) := rfl
       have hfo := Hfo.out
       rw [htk, hbw] at hfo
       clear Hfo
       have Hfo := hid hfo
       clear hfo htk hbw
       generalize hword : iJ ⟨1, s0, s1, s2, s3, nx, ot⟩ wi = wd at *
       have bw : W5.cell? ⟨wr.heap.size, 1 + wi, none⟩ = some (.int .u64 wd) := by
        subst hword
        rcases (by omega : wi = 0 ∨ wi = 1 ∨ wi = 2 ∨ wi = 3) with rfl | rfl | rfl | rfl
        · exact b1'
        · exact b2
        · exact b3
        · exact b4
       clear hword b1' b2 b3 b4
       have hand := uA (wd / 2 ^ wr')
       have ha1 : 0 ≤ (a : Int) - 1 := by omega
       have ha2 : (a : Int) - 1 < (subj.length : Int) := by omega
       have ha3 : (bs subj).size = subj.length := by simp [bs, ByteArray.size]
       have hwr : IntKind.i64.wrap ((a : Int) - 1) = (a : Int) - 1 := IntWalk.i64_in _ (by omega)
       by_cases hbit : wd / 2 ^ wr' % 2 = 1
       case' neg =>
        have hbb : (wd / 2 ^ wr' % 2 == 1) = false := by simpa using hbit
        have hfo : (X.drop (j + 1)).foldl (kz l b1 e1 (bM subj a)) Y = cA l st subj a X := by
         have := Hfo.out
         rwa [if_neg (by rw [hbb]; simp)] at this
        clear Hfo
        have Hfo := hid hfo
        clear hfo
        go_quiet (fail)
        go_wp2_with fail
        go_roundg (gk - 1)
        case measure => omega
        case rel => exact ⟨j + 1, _, _, _, _, by go_num, by omega, Hfo.out, HH.out.later (bb _ _), hB5.trans ((bb _ _).mono (by omega))⟩
       case' pos =>
        have hbb : (wd / 2 ^ wr' % 2 == 1) = true := by simpa using hbit
        have hfo : (X.drop (j + 1)).foldl (kz l b1 e1 (bM subj a)) (kB l b1 e1 Y nx.toNat) = cA l st subj a X := by
         have := Hfo.out
         rwa [if_pos (by rw [hbb])] at this
        clear Hfo
        have Hfo := hid hfo
        clear hfo
        have hn1 := Hnx.out rfl
        go_quiet (fail)
        obtain ⟨xn, rfl⟩ : ∃ xn : Nat, nx = xn := ⟨nx.toNat, Hnx2.out rfl⟩
        have Hb5 := hid b5
        clear hbit hbb hand hwr ha1 ha2 ha3 ha5 hidx hqu hre bw
        go_wp2_with fail
        refine (sG (W5.drewN nq) w1.heap.size q T2 w1.heap.size l st HM.out ok (some ⟨gm, om, none⟩) c b1 e1 (HA.out.later (hB1.trans ((hB5.trans ((bb _ _).mono (by omega))).mono hb0)) Hok.out) (fun k hk => by have := Hok.out k hk; omega) HH.out.Bq HH.out.BT2 (Nat.le_refl _) HH.out.m0 HH.out.m6 HH.out.m7 Y m A3 c3 (HH.out.later (bb _ _)).next xn (by simpa using hn1)).mono ?_
        rintro en w6 ⟨rfl, n6, A6, c6, h6, hv6⟩
        have hH6 := (HH.out.later (bb W5 nq)).step h6 hv6
        have hB6 := (hB5.trans ((bb W5 nq).mono (by omega))).trans (hv6.below HH.out.Bq HH.out.BT2 (fun k hk => (HH.out.next.own_le k hk).1) (by show _ ≤ W5.heap.size; omega))
        have HH := hid hH6
        clear hH6 h6 hv6
        go_wp2_with fail
        go_roundg (gk - 1)
        case measure => omega
        case rel => exact ⟨j + 1, _, _, _, _, by go_num, by omega, by simpa using Hfo.out, HH.out, hB6⟩
     case' neg =>
      have hYs : Y = cA l st subj a X := by
       rw [← Hfo.out, List.drop_eq_nil_of_le (by rw [hH.now.len]; omega)]; rfl
      have hml : m ≤ l.length := by rw [← hH.next.len]; exact ei hH.next.nd hH.next.lt
      have hYm := hH.next.len
      have f4 := hH.next.f4
      have hover : bF l st subj (subj.length + 1 - a) a X s = if gj l Y = true then (true, (s : Int) + m) else bF l st subj (subj.length - a) (a + 1) Y ((s : Int) + m) := by
       rw [show subj.length + 1 - a = (subj.length - a) + 1 by omega, bF, ← hYs, hYm]
      have hov := Hov.out
      rw [hover] at hov
      have HH := hid hH; have Hov := hid hov; have HYs := hid hYs
      have hs2 : s + m ≤ (a + 1) * 5000 := by omega
      have HYm := hid hYm
      clear hH hov hYs hover hYm Hstep Hfo
      go_wp2_with fail
      generalize hwr : wr = wv at *
      go_loopg [10, 115] m (fun k v10 v wq => ∃ i : Nat, v10 = .bool false ∧ v = .int .i64 (i : Int) ∧ i + k = m ∧ wq = wv ∧ ∀ p, p < i → (stN l (Y.getD p 0)).k ≠ 5)
      case atStart => exact ⟨0, rfl, rfl, by omega, rfl, fun _ h => by omega⟩
      case round =>
       obtain ⟨i, rfl, rfl, him, rfl, hno⟩ := hrel
       have Hno := hid hno
       clear hno
       by_cases hlt2 : i < m
       case' pos =>
        obtain ⟨g, rfl, hg, hnc, hcell⟩ := HH.out.next.at_ hlt2
        have hx : Y.getD i 0 < l.length := HH.out.next.lt _ (by rw [List.getD_eq_getElem?_getD, List.getElem?_eq_getElem (by rw [HH.out.next.len]; exact hlt2)]; exact List.getElem_mem _)
        obtain ⟨gm, om, rfl, hgm, hst7⟩ := (HA.out.later (hB1.trans (hB4.mono hb0)) Hok.out).at_ hl0
        have hgl := Hok.out gm hgm
        have hstx := hst7 (Y.getD i 0) hx
        have hsN : l[Y.getD i 0] = stN l (Y.getD i 0) := by unfold stN; rw [List.getD_eq_getElem?_getD (l := l), List.getElem?_eq_getElem hx]; rfl
        rw [hsN] at hstx
        have hcap := HA.out.cap
        have f0 := hstx.f0
        clear hst7 hsN hstx
        generalize hxe : Y.getD i 0 = x at *
        have Hxe := hid hxe
        clear hxe
        by_cases hk5 : (stN l x).k = 5
        case' pos =>
         have hdone : gj l Y = true := by
          unfold gj
          rw [List.any_eq_true]
          have hil : i < Y.length := by rw [HH.out.next.len]; exact hlt2
          refine ⟨Y[i], List.getElem_mem _, ?_⟩
          rw [← Hxe.out, List.getD_eq_getElem?_getD, List.getElem?_eq_getElem hil] at hk5
          simpa using hk5
         have hov := Hov.out
         rw [if_pos hdone] at hov
         have Hov := hid hov
         rw [hk5] at f0
         clear hov hdone hk5
         go_wp2_with fail
         rw [Exit.noGoto_ret]
         exact bodyPost_ret (v := .tuple #[.bool true, .int .i64 ((s : Int) + m), .int .i64 0]) (by simp [results, Tryz.results20, go_sem]) rfl ⟨by rw [Hres.out, ← Hov.out], hB1.trans (hB4.mono hb0)⟩
        case' neg =>
         have hk5b : ((stN l x).k == 5) = false := by simpa using hk5
         have Hk5 := hid hk5
         clear hk5
         go_wp2_with fail
         go_roundg (gk - 1)
         case measure => omega
         case rel => exact ⟨i + 1, rfl, by go_num, by omega, rfl, fun p hp => by (by_cases e9 : p = i; (subst e9; rw [Hxe.out]; exact Hk5.out); exact Hno.out p (by omega))⟩
       case' neg =>
        have hdone : gj l Y = false := by
         unfold gj
         rw [List.any_eq_false]
         intro y hy
         obtain ⟨p, hp, rfl⟩ := List.getElem_of_mem hy
         have := Hno.out p (by rw [← HYm.out] at hlt2; omega)
         rw [List.getD_eq_getElem?_getD, List.getElem?_eq_getElem hp] at this
         simpa using this
        have hov := Hov.out
        rw [if_neg (by rw [hdone]; simp)] at hov
        clear Hov
        have Hov := hid hov
        clear hov hdone
        have f2 := HH.out.now.f2; have f3 := HH.out.now.f3; have f4 := HH.out.next.f4; have f5 := HH.out.next.f5
        have z2 := HH.out.z 2; have z3 := HH.out.z 3; have z4 := HH.out.z 4; have z5 := HH.out.z 5
        have lq := HH.out.next.lq
        go_upto_region 27 with fail
        go_cut [8] (fun v wx => v = .pointer (some ⟨q, 0, none⟩) ∧ HR wx w1.heap.size q T2 T1 l st A c b1 e1 Y m A3 c3 X n A1 c1 ∧ Below w1.heap.size w1 wx)
        case first =>
         go_region
         all_goals go_wp2_with fail
         all_goals go_meet
         all_goals exact ⟨rfl, (ly HH.out).1, hB4.trans ((ly HH.out).2 _ HH.out.Bq)⟩
        case rest =>
         obtain ⟨rfl, hH, hBc⟩ := hcut
         clear f2 f3 f4 f5 z2 z3 z4 z5 lq
         have HH := hid hH
         clear hH
         have hzc := hBc.size
         go_wp2_with fail
         refine (uj wc w1.heap.size q T1 l.length X n A1 c1 HH.out.next hl0 (by omega)).mono ?_
         rintro en w7 ⟨rfl, h7, hv7⟩
         have hH7 := HH.out.step h7 hv7
         have hB7 := hBc.trans (hv7.below HH.out.Bq HH.out.BT2 (fun k hk => (HH.out.next.own_le k hk).1) hzc)
         clear HH
         have HH := hid hH7
         clear hH7 h7 hv7
         go_wp2_with fail
         go_roundg (subj.length - a)
         case measure => omega
         case rel => exact ⟨a + 1, s + m, T2, T1, Y, m, A3, c3, A1, c1, b1, e1, by go_num, rfl, by go_num, by omega, hs2, by rw [show subj.length + 1 - (a + 1) = subj.length - a by omega]; exact Hov.out, HH.out, fun h => by omega, hB7⟩
   case' neg =>
    have hae : a = subj.length + 1 := by omega
    have hov := Hov.out
    rw [show subj.length + 1 - a = 0 by omega, bF] at hov
    have Hov := hid hov
    clear hov hH hae
    go_wp2_with fail
    rw [Exit.noGoto_ret]
    exact bodyPost_ret (v := .tuple #[.bool false, .int .i64 (s : Int), .int .i64 0]) (by simp [results, Tryz.results20, go_sem]) rfl ⟨by rw [Hres.out, ← Hov.out], hB1.trans (hBr.mono hb0)⟩
def Out {α : Type} (f : Bs → Except Int (α × Bs)) (s : Rs) (v : α → Prop) (s' : Rs) : Prop :=
 match s with
 | .error e => s' = .error e
 | .ok r => match f r with
  | .error e => s' = .error e
  | .ok (x, r') => v x ∧ s' = .ok r'
theorem Out.err {α : Type} {f : Bs → Except Int (α × Bs)} {e : Int} {v : α → Prop} : Out f (.error e) v (.error e) := rfl
theorem Out.bad {α : Type} {f : Bs → Except Int (α × Bs)} {r : Bs} {e : Int} {v : α → Prop} (h : f r = .error e) : Out f (.ok r) v (.error e) := by simp only [Out, h]
theorem Out.good {α : Type} {f : Bs → Except Int (α × Bs)} {r r' : Bs} {x : α} {v : α → Prop} (h : f r = .ok (x, r')) (hv : v x) : Out f (.ok r) v (.ok r') := by simp only [Out, h]; exact ⟨hv, trivial⟩
def zI (p : Nat) (op : Int) (s : Rs) (w : World) (en : Ending) (w' : World) : Prop :=
 ∃ (n : Int) (s' : Rs), en = .returned (.int .i64 n) ∧ -9223372036854775808 ≤ n ∧ n ≤ 9223372036854775807 ∧ RS w' p op s' ∧ Off p w w' ∧ Out aw s (fun m => n = m ∧ 0 ≤ n ∧ n ≤ 255) s'
def eY (w : Nat) : Int := if w = 0 then 0 else if w = 1 then 9 else if w = 2 then 99 else if w = 3 then 999 else 9999
theorem jN : ∀ (k : Nat) (n : Int) (w : Nat) (r : Bs), k + w ≤ 4 → 0 ≤ n → n ≤ eY w → 0 ≤ (aD k n w r).1 ∧ (aD k n w r).1 ≤ 9999 ∧ (aD k n w r).2.1 ≤ 4
 | 0, n, w, r, h, h0, h1 => by
  rw [aD]; simp only
  unfold eY at h1
  refine ⟨h0, ?_, by omega⟩
  split at h1; omega; split at h1; omega; split at h1; omega; split at h1; omega; omega
 | k + 1, n, w, [], h, h0, h1 => by
  rw [aD]; simp only
  unfold eY at h1
  refine ⟨h0, ?_, by omega⟩
  split at h1; omega; split at h1; omega; split at h1; omega; split at h1; omega; omega
 | k + 1, n, w, c :: t, h, h0, h1 => by
  rw [aD]
  split
  · rename_i hc
    simp only [cS, Bool.and_eq_true, decide_eq_true_eq] at hc
    refine jN k _ (w + 1) t (by omega) (by omega) ?_
    unfold eY at h1 ⊢
    rcases (show w = 0 ∨ w = 1 ∨ w = 2 ∨ w = 3 by omega) with rfl | rfl | rfl | rfl <;> simp at h1 ⊢ <;> omega
  · simp only
    unfold eY at h1
    refine ⟨h0, ?_, by omega⟩
    split at h1; omega; split at h1; omega; split at h1; omega; split at h1; omega; omega
theorem lc (w : World) (p : Nat) (op : Int) (s : Rs) (h : RS w p op s) :
 Calls Tryz.prog 133 #[.pointer (some ⟨p, 0, none⟩)] w fun en w' => zI p op s w en w' := by
 rcases s with e | r
 · have c0 := h.rdr.c0
   simp only [Rs.rest] at c0
   have H := hid h; clear h
   go_enter Tryz.func133, Tryz.ntmps133
   go_wp2_with fail
   go_loopg [3, 4] 1 (fun n a b wr => a = .int .i64 0 ∧ b = .int .i64 0 ∧ wr = w)
   case atStart => exact ⟨rfl, rfl, rfl⟩
   case round =>
    obtain ⟨rfl, rfl, rfl⟩ := hrel
    go_wp2_with fail
    refine (ci _ p op _ 105 (by omega) H.out).mono ?_
    rintro en w1 ⟨rfl, h1, hb1⟩
    go_wp2_with fail
    go_ret
    exact ⟨0, _, rfl, by omega, by omega, h1, hb1, Out.err⟩
 · have H := hid h; clear h
   have hbd := jN 4 0 0 r (by omega) (by omega) (by simp [eY])
   have Hbd := hid hbd; clear hbd
   go_enter Tryz.func133, Tryz.ntmps133
   go_wp2_with fail
   go_loopg [3, 4] 4 (fun k a b wr => ∃ (n : Int) (wd : Nat) (r' : Bs), a = .int .i64 n ∧ b = .int .i64 wd ∧ k + wd = 4 ∧ 0 ≤ n ∧ n ≤ eY wd ∧ aD k n wd r' = aD 4 0 0 r ∧ RS wr p op (.ok r') ∧ Off p w wr)
   case atStart => exact ⟨0, 0, r, rfl, rfl, rfl, by omega, by simp [eY], rfl, H.out, Off.refl p w⟩
   case round =>
    obtain ⟨n, wd, r', rfl, rfl, hk, hn0, hn1, hd, hR, hO⟩ := hrel
    have hn2 : n ≤ 9999 := by
     unfold eY at hn1
     split at hn1; omega; split at hn1; omega; split at hn1; omega; split at hn1; omega; omega
    have c0 := hR.rdr.c0
    simp only [Rs.rest] at c0
    have HR := hid hR; have Hd := hid hd; have Hn1 := hid hn1; clear hR hd hn1
    have done : gk = 0 ∨ r' = [] ∨ (∃ c t, r' = c :: t ∧ cS c = false) → aD 4 0 0 r = (n, wd, r') := fun hh => by
     rw [← Hd.out]
     rcases hh with rfl | rfl | ⟨c, t, rfl, hc⟩
     · rw [aD]
     · cases gk <;> rw [aD]
     · cases gk with
       | zero => rw [aD]
       | succ k => rw [aD, hc]; rfl
    have Done := hid done; clear done
    rcases r' with _ | ⟨c, t⟩
    · have Done := hid (Done.out (.inr (.inl rfl)))
      have hnum : aw r = if wd = 0 ∨ 3 < wd ∨ 255 < n then .error 105 else .ok (n, []) := by
       unfold aw; rw [Done.out]
      have Hnum := hid hnum; clear hnum
      clear Done Hd Hn1
      by_cases b1 : wd = 0
      · subst b1
        have Hnum := hid (show aw r = .error 105 by rw [Hnum.out, if_pos (.inl rfl)])
        go_wp2_with fail
        all_goals
         refine (ci _ p op _ 105 (by omega) HR.out).mono ?_
         rintro en w1 ⟨rfl, h1, hb1⟩
         go_wp2_with fail
         go_ret
         exact ⟨n, _, rfl, by omega, by omega, h1, hO.trans hb1, Out.bad Hnum.out⟩
      by_cases b2 : 3 < wd
      · have Hnum := hid (show aw r = .error 105 by rw [Hnum.out, if_pos (.inr (.inl b2))])
        go_wp2_with fail
        all_goals
         refine (ci _ p op _ 105 (by omega) HR.out).mono ?_
         rintro en w1 ⟨rfl, h1, hb1⟩
         go_wp2_with fail
         go_ret
         exact ⟨n, _, rfl, by omega, by omega, h1, hO.trans hb1, Out.bad Hnum.out⟩
      by_cases b3 : 255 < n
      · have Hnum := hid (show aw r = .error 105 by rw [Hnum.out, if_pos (.inr (.inr b3))])
        go_wp2_with fail
        all_goals
         refine (ci _ p op _ 105 (by omega) HR.out).mono ?_
         rintro en w1 ⟨rfl, h1, hb1⟩
         go_wp2_with fail
         go_ret
         exact ⟨n, _, rfl, by omega, by omega, h1, hO.trans hb1, Out.bad Hnum.out⟩
      · have Hnum := hid (show aw r = .ok (n, []) by rw [Hnum.out, if_neg (by omega)])
        have hb1 : ((wd : Int) == 0) = false := by rw [beq_eq_false_iff_ne]; omega
        have hb2 : decide (3 < (wd : Int)) = false := by rw [decide_eq_false_iff_not]; omega
        clear b1 b2
        go_wp2_with fail
        all_goals
         go_ret
         exact ⟨n, _, rfl, by omega, by omega, HR.out, hO, Out.good Hnum.out ⟨rfl, hn0, by omega⟩⟩
    · have hc2 : c.toNat < 256 := c.toNat_lt
      by_cases d1 : 48 ≤ c.toNat
      case' neg =>
       have Done := hid (Done.out (.inr (.inr ⟨c, t, rfl, by simp [cS]; omega⟩)))
       have hnum : aw r = if wd = 0 ∨ 3 < wd ∨ 255 < n then .error 105 else .ok (n, c :: t) := by
        unfold aw; rw [Done.out]
       have Hnum := hid hnum; clear hnum
       clear Done Hd Hn1
       by_cases b1 : wd = 0
       · subst b1
         have Hnum := hid (show aw r = .error 105 by rw [Hnum.out, if_pos (.inl rfl)])
         go_wp2_with fail
         all_goals
          refine (ci _ p op _ 105 (by omega) HR.out).mono ?_
          rintro en w1 ⟨rfl, h1, hb1⟩
          go_wp2_with fail
          go_ret
          exact ⟨n, _, rfl, by omega, by omega, h1, hO.trans hb1, Out.bad Hnum.out⟩
       by_cases b2 : 3 < wd
       · have Hnum := hid (show aw r = .error 105 by rw [Hnum.out, if_pos (.inr (.inl b2))])
         go_wp2_with fail
         all_goals
          refine (ci _ p op _ 105 (by omega) HR.out).mono ?_
          rintro en w1 ⟨rfl, h1, hb1⟩
          go_wp2_with fail
          go_ret
          exact ⟨n, _, rfl, by omega, by omega, h1, hO.trans hb1, Out.bad Hnum.out⟩
       by_cases b3 : 255 < n
       · have Hnum := hid (show aw r = .error 105 by rw [Hnum.out, if_pos (.inr (.inr b3))])
         go_wp2_with fail
         all_goals
          refine (ci _ p op _ 105 (by omega) HR.out).mono ?_
          rintro en w1 ⟨rfl, h1, hb1⟩
          go_wp2_with fail
          go_ret
          exact ⟨n, _, rfl, by omega, by omega, h1, hO.trans hb1, Out.bad Hnum.out⟩
       · have Hnum := hid (show aw r = .ok (n, c :: t) by rw [Hnum.out, if_neg (by omega)])
         have hb1 : ((wd : Int) == 0) = false := by rw [beq_eq_false_iff_ne]; omega
         have hb2 : decide (3 < (wd : Int)) = false := by rw [decide_eq_false_iff_not]; omega
         clear b1 b2
         go_wp2_with fail
         all_goals
          go_ret
          exact ⟨n, _, rfl, by omega, by omega, HR.out, hO, Out.good Hnum.out ⟨rfl, hn0, by omega⟩⟩
      by_cases d2 : c.toNat ≤ 57
      case' neg =>
       have Done := hid (Done.out (.inr (.inr ⟨c, t, rfl, by simp [cS]; omega⟩)))
       have hnum : aw r = if wd = 0 ∨ 3 < wd ∨ 255 < n then .error 105 else .ok (n, c :: t) := by
        unfold aw; rw [Done.out]
       have Hnum := hid hnum; clear hnum
       clear Done Hd Hn1
       by_cases b1 : wd = 0
       · subst b1
         have Hnum := hid (show aw r = .error 105 by rw [Hnum.out, if_pos (.inl rfl)])
         go_wp2_with fail
         all_goals
          refine (ci _ p op _ 105 (by omega) HR.out).mono ?_
          rintro en w1 ⟨rfl, h1, hb1⟩
          go_wp2_with fail
          go_ret
          exact ⟨n, _, rfl, by omega, by omega, h1, hO.trans hb1, Out.bad Hnum.out⟩
       by_cases b2 : 3 < wd
       · have Hnum := hid (show aw r = .error 105 by rw [Hnum.out, if_pos (.inr (.inl b2))])
         go_wp2_with fail
         all_goals
          refine (ci _ p op _ 105 (by omega) HR.out).mono ?_
          rintro en w1 ⟨rfl, h1, hb1⟩
          go_wp2_with fail
          go_ret
          exact ⟨n, _, rfl, by omega, by omega, h1, hO.trans hb1, Out.bad Hnum.out⟩
       by_cases b3 : 255 < n
       · have Hnum := hid (show aw r = .error 105 by rw [Hnum.out, if_pos (.inr (.inr b3))])
         go_wp2_with fail
         all_goals
          refine (ci _ p op _ 105 (by omega) HR.out).mono ?_
          rintro en w1 ⟨rfl, h1, hb1⟩
          go_wp2_with fail
          go_ret
          exact ⟨n, _, rfl, by omega, by omega, h1, hO.trans hb1, Out.bad Hnum.out⟩
       · have Hnum := hid (show aw r = .ok (n, c :: t) by rw [Hnum.out, if_neg (by omega)])
         have hb1 : ((wd : Int) == 0) = false := by rw [beq_eq_false_iff_ne]; omega
         have hb2 : decide (3 < (wd : Int)) = false := by rw [decide_eq_false_iff_not]; omega
         clear b1 b2
         go_wp2_with fail
         all_goals
          go_ret
          exact ⟨n, _, rfl, by omega, by omega, HR.out, hO, Out.good Hnum.out ⟨rfl, hn0, by omega⟩⟩
      by_cases d3 : gk = 0
      · have Done := hid (Done.out (.inl d3))
        have hw4 : 3 < wd := by omega
        have hnum : aw r = .error 105 := by
         unfold aw; rw [Done.out, if_pos (.inr (.inl hw4))]
        have Hnum := hid hnum; clear hnum
        have hb2 : decide ((wd : Int) < 4) = false := by rw [decide_eq_false_iff_not]; omega
        clear Done Hd Hn1 d3
        go_wp2_with fail
        all_goals
         refine (ci _ p op _ 105 (by omega) HR.out).mono ?_
         rintro en w1 ⟨rfl, h1, hb1⟩
         go_wp2_with fail
         go_ret
         exact ⟨n, _, rfl, by omega, by omega, h1, hO.trans hb1, Out.bad Hnum.out⟩
      · have hw4 : wd < 4 := by omega
        have hn3 : n ≤ 999 := by
         have := Hn1.out
         unfold eY at this
         rcases (show wd = 0 ∨ wd = 1 ∨ wd = 2 ∨ wd = 3 by omega) with rfl | rfl | rfl | rfl <;> simp at this <;> omega
        have hs1 : IntKind.u8.wrap ((c.toNat : Int) - 48) = (c.toNat : Int) - 48 := by simp [IntKind.wrap, IntKind.signed, IntKind.bits]; omega
        go_wp2_with fail
        refine (iS wr p op _ 105 (by omega) HR.out).mono ?_
        rintro en w1 ⟨rfl, h1, hb1⟩
        have H1 := hid h1
        clear h1
        have hcn : (uP (.ok (c :: t)) 105).1 = c.toNat := rfl
        rw [hcn]
        clear hcn
        go_wp2_with fail
        go_roundg (gk - 1)
        case measure => omega
        case rel =>
         refine ⟨10 * n + (c.toNat - 48), wd + 1, t, by go_num, by go_num, by omega, by omega, ?_, ?_, H1.out, hO.trans hb1⟩
         · have := Hn1.out
           unfold eY at this ⊢
           rcases (show wd = 0 ∨ wd = 1 ∨ wd = 2 ∨ wd = 3 by omega) with rfl | rfl | rfl | rfl <;> simp at this ⊢ <;> omega
         · rw [← Hd.out]
           obtain ⟨k, rfl⟩ : ∃ k, gk = k + 1 := ⟨gk - 1, by omega⟩
           rw [aD, if_pos (by simp [cS, d1, d2])]
           rfl
def oe (p : Nat) (op : Int) (s : Rs) (w : World) (en : Ending) (w' : World) : Prop :=
 ∃ (m n : Int) (s' : Rs), en = .returned (.tuple #[.int .i64 m, .int .i64 n]) ∧ RS w' p op s' ∧ Off p w w' ∧
  match s with
  | .error e => s' = .error e
  | .ok r => match aj r with
   | .error e => s' = .error e
   | .ok (a, b, r') => m = a ∧ n = b ∧ s' = .ok r'
theorem oe.bad {p : Nat} {op : Int} {r : Bs} {w w' : World} {e : Int} (m n : Int) (hi : aj r = .error e) (h : RS w' p op (.error e)) (hO : Off p w w') : oe p op (.ok r) w (.returned (.tuple #[.int .i64 m, .int .i64 n])) w' := by
 refine ⟨m, n, _, rfl, h, hO, ?_⟩
 simp only [hi]
theorem oe.good {p : Nat} {op : Int} {r r' : Bs} {w w' : World} {m n : Int} (hi : aj r = .ok (m, n, r')) (h : RS w' p op (.ok r')) (hO : Off p w w') : oe p op (.ok r) w (.returned (.tuple #[.int .i64 m, .int .i64 n])) w' := by
 refine ⟨m, n, _, rfl, h, hO, ?_⟩
 simp only [hi]
 exact ⟨trivial, trivial, trivial⟩
theorem nT (w : World) (p : Nat) (op : Int) (s : Rs) (h : RS w p op s) :
 Calls Tryz.prog 118 #[.pointer (some ⟨p, 0, none⟩)] w fun en w' => oe p op s w en w' := by
 have H := hid h; clear h
 go_enter Tryz.func118, Tryz.ntmps118
 go_wp2_with fail
 refine (lc w p op s H.out).mono ?_
 rintro en w1 ⟨m, s1, rfl, hm0, hm1, h1, hO1, ho1⟩
 rcases s1 with e | r1
 · -- an error
   have hfin : ∀ w', RS w' p op (.error e) → Off p w w' → oe p op s w (.returned (.tuple #[.int .i64 0, .int .i64 0])) w' := fun w' h hO => by
    rcases s with e' | r
    · have : (Except.error e : Rs) = .error e' := ho1
      cases this
      exact ⟨0, 0, _, rfl, h, hO, rfl⟩
    · refine oe.bad 0 0 ?_ h hO
      cases hn : aw r with
      | error e' =>
       simp only [Out, hn] at ho1
       cases ho1
       simp only [aj, hn]
      | ok y => simp only [Out, hn] at ho1; cases ho1.2
   have Hfin := hid hfin; clear hfin ho1
   go_wp2_with fail
   refine (dm [125] (by simp) h1).mono ?_
   rintro en w2 ⟨rfl, h2, hO2⟩
   go_wp2_with fail
   refine (dm [44, 125] (by simp) h2).mono ?_
   rintro en w3 ⟨rfl, h3, hO3⟩
   go_wp2_with fail
   refine (dm [44] (by simp) h3).mono ?_
   rintro en w4 ⟨rfl, h4, hO4⟩
   go_wp2_with fail
   refine (gE 105 (by omega) h4).mono ?_
   rintro en w5 ⟨rfl, h5, hO5⟩
   go_wp2_with fail
   go_ret2
   exact Hfin.out _ h5 ((((hO1.trans hO2).trans hO3).trans hO4).trans hO5)
 · rcases s with e' | r
   · cases (show (Except.ok r1 : Rs) = .error e' from ho1)
   obtain ⟨hn, hmn⟩ : aw r = .ok (m, r1) ∧ 0 ≤ m := by
    cases hn : aw r with
    | error e' => simp only [Out, hn] at ho1; cases ho1
    | ok y =>
     obtain ⟨a, b⟩ := y
     simp only [Out, hn] at ho1
     obtain ⟨⟨rfl, h0, _⟩, h2⟩ := ho1
     cases h2
     exact ⟨rfl, h0⟩
   clear ho1
   have Hn := hid hn; clear hn
   rcases ht : aq [125] r1 with _ | r2
   case' some =>
    have hi : aj r = .ok (m, m, r2) := by simp only [aj, Hn.out, ht]
    have Hi := hid hi; have Ht := hid ht; clear hi ht
    go_wp2_with fail
    refine (cg [125] (by simp) Ht.out h1).mono ?_
    rintro en w2 ⟨rfl, h2, hO2⟩
    go_wp2_with fail
    go_ret2
    exact oe.good Hi.out h2 (hO1.trans hO2)
   rcases ht2 : aq [44, 125] r1 with _ | r2
   case' some =>
    have hi : aj r = .ok (m, -1, r2) := by simp only [aj, Hn.out, ht, ht2]
    have Hi := hid hi; have Ht := hid ht; have Ht2 := hid ht2; clear hi ht ht2
    go_wp2_with fail
    refine (aX [125] (by simp) Ht.out h1).mono ?_
    rintro en w2 ⟨rfl, h2, hO2⟩
    go_wp2_with fail
    refine (cg [44, 125] (by simp) Ht2.out h2).mono ?_
    rintro en w3 ⟨rfl, h3, hO3⟩
    go_wp2_with fail
    go_ret2
    exact oe.good Hi.out h3 ((hO1.trans hO2).trans hO3)
   have Ht := hid ht; have Ht2 := hid ht2; clear ht ht2
   go_wp2_with fail
   refine (aX [125] (by simp) Ht.out h1).mono ?_
   rintro en w2 ⟨rfl, h2, hO2⟩
   go_wp2_with fail
   refine (aX [44, 125] (by simp) Ht2.out h2).mono ?_
   rintro en w3 ⟨rfl, h3, hO3⟩
   have hO13 := (hO1.trans hO2).trans hO3
   clear h1 h2 hO1 hO2 hO3
   rcases ht3 : aq [44] r1 with _ | r2
   · have hi : aj r = .error 105 := by simp only [aj, Hn.out, Ht.out, Ht2.out, ht3]
     have Hi := hid hi; have Ht3 := hid ht3; clear hi ht3
     go_wp2_with fail
     refine (aX [44] (by simp) Ht3.out h3).mono ?_
     rintro en w4 ⟨rfl, h4, hO4⟩
     go_wp2_with fail
     refine (dd 105 (by omega) h4).mono ?_
     rintro en w5 ⟨rfl, h5, hO5⟩
     go_wp2_with fail
     go_ret2
     exact oe.bad 0 0 Hi.out h5 ((hO13.trans hO4).trans hO5)
   have Ht3 := hid ht3; clear ht3
   go_wp2_with fail
   refine (cg [44] (by simp) Ht3.out h3).mono ?_
   rintro en w4 ⟨rfl, h4, hO4⟩
   go_wp2_with fail
   refine (lc w4 p op (.ok r2) h4).mono ?_
   rintro en w5 ⟨n, s5, rfl, hn0, hn1, h5, hO5, ho5⟩
   have hO15 := (hO13.trans hO4).trans hO5
   clear h3 h4 hO13 hO4 hO5
   rcases s5 with e5 | r3
   · have hi : aj r = .error e5 := by
      cases hn : aw r2 with
      | error e' =>
       simp only [Out, hn] at ho5
       cases ho5
       simp only [aj, Hn.out, Ht.out, Ht2.out, Ht3.out, hn]
      | ok y => simp only [Out, hn] at ho5; cases ho5.2
     have Hi := hid hi; clear hi ho5
     by_cases hnm : m ≤ n
     · go_wp2_with fail
       refine (dm [125] (by simp) h5).mono ?_
       rintro en w6 ⟨rfl, h6, hO6⟩
       go_wp2_with fail
       refine (gE 105 (by omega) h6).mono ?_
       rintro en w7 ⟨rfl, h7, hO7⟩
       go_wp2_with fail
       go_ret2
       exact oe.bad 0 0 Hi.out h7 ((hO15.trans hO6).trans hO7)
     · go_wp2_with fail
       refine (gE 105 (by omega) h5).mono ?_
       rintro en w7 ⟨rfl, h7, hO7⟩
       go_wp2_with fail
       go_ret2
       exact oe.bad 0 0 Hi.out h7 (hO15.trans hO7)
   · have hnn : aw r2 = .ok (n, r3) := by
      cases hn : aw r2 with
      | error e' => simp only [Out, hn] at ho5; cases ho5
      | ok y =>
       obtain ⟨a, b⟩ := y
       simp only [Out, hn] at ho5
       obtain ⟨⟨rfl, _, _⟩, h2⟩ := ho5
       cases h2
       rfl
     have Hnn := hid hnn; clear hnn ho5
     by_cases hnm : m ≤ n
     · rcases ht4 : aq [125] r3 with _ | r4
       · have hi : aj r = .error 105 := by simp only [aj, Hn.out, Ht.out, Ht2.out, Ht3.out, Hnn.out, ht4]; rw [if_neg (by omega)]
         have Hi := hid hi; have Ht4 := hid ht4; clear hi ht4
         go_wp2_with fail
         refine (aX [125] (by simp) Ht4.out h5).mono ?_
         rintro en w6 ⟨rfl, h6, hO6⟩
         go_wp2_with fail
         refine (dd 105 (by omega) h6).mono ?_
         rintro en w7 ⟨rfl, h7, hO7⟩
         go_wp2_with fail
         go_ret2
         exact oe.bad 0 0 Hi.out h7 ((hO15.trans hO6).trans hO7)
       · have hi : aj r = .ok (m, n, r4) := by simp only [aj, Hn.out, Ht.out, Ht2.out, Ht3.out, Hnn.out, ht4]; rw [if_neg (by omega)]
         have Hi := hid hi; have Ht4 := hid ht4; clear hi ht4
         go_wp2_with fail
         refine (cg [125] (by simp) Ht4.out h5).mono ?_
         rintro en w6 ⟨rfl, h6, hO6⟩
         go_wp2_with fail
         go_ret2
         exact oe.good Hi.out h6 (hO15.trans hO6)
     · have hi : aj r = .error 105 := by simp only [aj, Hn.out, Ht.out, Ht2.out, Ht3.out, Hnn.out]; rw [if_pos (by omega)]
       have Hi := hid hi; clear hi
       go_wp2_with fail
       refine (dd 105 (by omega) h5).mono ?_
       rintro en w7 ⟨rfl, h7, hO7⟩
       go_wp2_with fail
       go_ret2
       exact oe.bad 0 0 Hi.out h7 (hO15.trans hO7)
abbrev W4.V (s : W4) : Value := .agg #[.int .u64 s.a, .int .u64 s.b, .int .u64 s.c, .int .u64 s.d]
def W4.word (s : W4) (i : Nat) : Int := if i = 0 then s.a else if i = 1 then s.b else if i = 2 then s.c else s.d
structure At4 (w : World) (b o : Nat) (s : W4) : Prop where
 f0 : w.cell? ⟨b, o, none⟩ = some (.int .u64 s.a)
 f1 : w.cell? ⟨b, o + 1, none⟩ = some (.int .u64 s.b)
 f2 : w.cell? ⟨b, o + 2, none⟩ = some (.int .u64 s.c)
 f3 : w.cell? ⟨b, o + 3, none⟩ = some (.int .u64 s.d)
def addW (w : World) (b o : Nat) (s : W4) (c : Nat) : World := w.setCell ⟨b, o + c / 64, none⟩ (.int .u64 (orI (s.word (c / 64)) (2 ^ (c % 64))))
theorem mb (k : Nat) (h : k < 64) : IntKind.u64.wrap (2 ^ k) = 2 ^ k := by
 have h0 : 2 ^ k < 2 ^ 64 := Nat.pow_lt_pow_right (by omega) h
 have h3 : ((2 ^ k : Nat) : Int) = (2 : Int) ^ k := by rw [Int.natCast_pow]; rfl
 have h1 : (2 : Int) ^ k < 18446744073709551616 := by
  rw [← h3]
  exact Int.ofNat_lt.2 (show 2 ^ k < 18446744073709551616 from h0)
 have h2 : (0 : Int) ≤ 2 ^ k := by rw [← h3]; exact Int.natCast_nonneg _
 simp only [IntKind.wrap, IntKind.signed, IntKind.bits]
 generalize (2 : Int) ^ k = x at *
 simp
 omega
theorem du (w : World) (b o : Nat) (s : W4) (c : Nat) (hc : c < 256) (h : At4 w b o s) (hz : ∀ k, w.frozen? ⟨b, k, none⟩ = false) :
 Calls Tryz.prog 132 #[.pointer (some ⟨b, o, none⟩), .int .u8 c] w fun en w' => en = .returned (.tuple #[]) ∧ w' = (addW w b o s c).drew := by
 obtain ⟨f0, f1, f2, f3⟩ := h
 have hq : (c : Int).tdiv 64 = ((c / 64 : Nat) : Int) := by rw [Int.tdiv_eq_ediv_of_nonneg (by omega)]; omega
 have hr : (c : Int).tmod 64 = ((c % 64 : Nat) : Int) := by rw [Int.tmod_eq_emod_of_nonneg (by omega)]; omega
 have hw := mb (c % 64) (by omega)
 unfold addW
 have hk4 : c % 64 < 64 := by omega
 rcases (show c / 64 = 0 ∨ c / 64 = 1 ∨ c / 64 = 2 ∨ c / 64 = 3 by omega) with e | e | e | e
 all_goals
  rw [e] at hq ⊢
  have z := hz (o + c / 64)
  rw [e] at z
  clear hz e
  try simp only [Nat.add_zero] at z ⊢
  generalize hk : c % 64 = k at *
  clear hk
  go_enter Tryz.func132, Tryz.ntmps132
  go_region
  all_goals go_wp2_with fail
  all_goals go_end0
  all_goals exact ⟨rfl, rfl⟩
def BrC : Prop := ∀ (w : World) (p : Nat) (op : Int) (r : Bs), RS w p op (.ok r) → r.length ≤ 1024 → Calls Tryz.prog 129 #[.pointer (some ⟨p, 0, none⟩)] w fun en w' => ∃ (S : W4) (s' : Rs), en = .returned S.V ∧ RS w' p op s' ∧ Off p w w' ∧ Out bf (.ok r) (fun x => S = x) s'
def oa : Prop := ∀ (w : World), Calls Tryz.prog 130 #[.func (.func 131) #[] #[]] w fun en w' => en = .returned (w40.span 0 256).V ∧ Below w.heap.size w w'
theorem gH {w : World} {b : Nat} {s : W4} (h : bj w b (ar (s.T, none, 0)).toArray) (c : Nat) (hc : c < 256) : bj (addW w b 1 s c) b (ar ((s.add c).T, none, 0)).toArray := by
 have h1 := h.set (1 + c / 64) (.int .u64 (orI (s.word (c / 64)) (2 ^ (c % 64))))
 unfold addW
 have e : (ar (s.T, none, 0)).toArray.setIfInBounds (1 + c / 64) (.int .u64 (orI (s.word (c / 64)) (2 ^ (c % 64)))) = (ar ((s.add c).T, none, 0)).toArray := by
  rcases (show c < 64 ∨ (64 ≤ c ∧ c < 128) ∨ (128 ≤ c ∧ c < 192) ∨ (192 ≤ c ∧ c < 256) by omega) with h | h | h | h
  · rw [show c / 64 = 0 by omega, show c % 64 = c by omega]
    simp [ar, W4.T, W4.add, W4.word, T.k, T.s0, T.s1, T.s2, T.s3, T.mn, T.mx, T.ps, h]
  · rw [show c / 64 = 1 by omega, show c % 64 = c - 64 by omega]
    simp [ar, W4.T, W4.add, W4.word, T.k, T.s0, T.s1, T.s2, T.s3, T.mn, T.mx, T.ps, show ¬ c < 64 by omega, h.2]
  · rw [show c / 64 = 2 by omega, show c % 64 = c - 128 by omega]
    simp [ar, W4.T, W4.add, W4.word, T.k, T.s0, T.s1, T.s2, T.s3, T.mn, T.mx, T.ps, show ¬ c < 64 by omega, show ¬ c < 128 by omega, h.2]
  · rw [show c / 64 = 3 by omega, show c % 64 = c - 192 by omega]
    simp [ar, W4.T, W4.add, W4.word, T.k, T.s0, T.s1, T.s2, T.s3, T.mn, T.mx, T.ps, show ¬ c < 64 by omega, show ¬ c < 128 by omega, show ¬ c < 192 by omega]
 rw [e] at h1
 exact h1
theorem bj.at4 {w : World} {b : Nat} {s : W4} (h : bj w b (ar (s.T, none, 0)).toArray) : At4 w b 1 s := by
 obtain ⟨⟨_, f1, f2, f3, f4, _⟩, _⟩ := h.cells8
 exact ⟨f1, f2, f3, f4⟩
theorem Off.blk {p : Nat} {w w' : World} (h : Off p w w') {b : Nat} {cs : Array Value} (hb : bj w b cs) (hn : b ≠ p) : bj w' b cs := hb.keep (h.block b hb.lt (by simpa using hn))
theorem RS.kept {w w' : World} {p : Nat} {op : Int} {s : Rs} (h : RS w p op s) (hz : w.heap.size ≤ w'.heap.size) (hb : w'.heap[p]? = w.heap[p]?) (hb0 : w'.heap[0]? = w.heap[0]?) : RS w' p op s :=
 ⟨⟨(World.cell?_of_block (w := w) hb).trans h.rdr.c0, (World.cell?_of_block (w := w) hb).trans h.rdr.c1, (World.cell?_of_block (w := w) hb).trans h.rdr.c2, fun o => (World.frozen?_of_block (w := w) (a := ⟨p, o, none⟩) hb).trans (h.rdr.z o), Nat.lt_of_lt_of_le h.lt hz, h.rdr.mx.of hb0, h.rdr.pn⟩, h.ne⟩
def rK (w : World) (b : Nat) (S : W4) : World := (((w.setCell ⟨b, 1, none⟩ (.int .u64 S.a)).setCell ⟨b, 2, none⟩ (.int .u64 S.b)).setCell ⟨b, 3, none⟩ (.int .u64 S.c)).setCell ⟨b, 4, none⟩ (.int .u64 S.d)
theorem pD {w : World} {b : Nat} {s : W4} (h : bj w b (ar (s.T, none, 0)).toArray) (S : W4) : bj (rK w b S) b (ar (S.T, none, 0)).toArray := by
 have h1 := (((h.set 1 (.int .u64 S.a)).set 2 (.int .u64 S.b)).set 3 (.int .u64 S.c)).set 4 (.int .u64 S.d)
 unfold rK; simpa [ar, W4.T, T.k, T.s0, T.s1, T.s2, T.s3, T.mn, T.mx, T.ps] using h1
theorem eI (w : World) (b : Nat) (S : W4) (k : Nat) (hk : k ≠ b) : (rK w b S).heap[k]? = w.heap[k]? := by
 unfold rK
 iterate 3 rw [Below.heap_setCell _ _ _ _ hk]
 exact Below.heap_setCell _ _ _ _ hk
theorem nc (w : World) (b : Nat) (S : W4) : (rK w b S).heap.size = w.heap.size := by simp [rK]
theorem cu (w : World) (b o : Nat) (s : W4) (c k : Nat) (hk : k ≠ b) : (addW w b o s c).heap[k]? = w.heap[k]? := Below.heap_setCell _ _ _ _ hk
theorem gW (w : World) (b o : Nat) (s : W4) (c : Nat) : (addW w b o s c).heap.size = w.heap.size := by simp [addW]
theorem Off.far {p : Nat} {w w1 w2 : World} (h : Off p w w1) {b : Nat} (hb : w.heap.size ≤ b) (ho : w2.os = w1.os) (ht : w2.tape = w1.tape) (hp : w2.output = w1.output) (hz : w2.heap.size = w1.heap.size) (hk : ∀ k, k ≠ b → w2.heap[k]? = w1.heap[k]?) : Off p w w2 :=
 ⟨ho.trans h.os, ht.trans h.tape, hp.trans h.output, by rw [hz]; exact h.size, fun k hk1 hn => (hk k (by omega)).trans (h.block k hk1 hn)⟩
theorem Off.boxW {p : Nat} {w w1 : World} (h : Off p w w1) {b : Nat} (hb : w.heap.size ≤ b) (x : Nx) : Off p w (aa w1 b x) := (fun hbel => h.far hb (Below.os hbel) (Below.tape hbel) (Below.output hbel) (ai _ _ _) (fun k hk => af _ _ _ _ hk)) (bO (Below.refl 0 w1) (Nat.zero_le b) x)
theorem Off.putW {p : Nat} {w w1 : World} (h : Off p w w1) {b : Nat} (hb : w.heap.size ≤ b) (o : Nat) (s : W4) (c : Nat) : Off p w (addW w1 b o s c).drew := h.far hb rfl rfl rfl (gW _ _ _ _ _) (fun k hk => cu _ _ _ _ _ _ hk)
theorem RS.boxW {w : World} {p : Nat} {op : Int} {s : Rs} (h : RS w p op s) {b : Nat} (hb : p < b) (x : Nx) : RS (aa w b x) p op s := h.kept (by rw [ai]; exact Nat.le_refl _) (af _ _ _ _ (by omega)) (af _ _ _ _ (by omega))
theorem RS.putW {w : World} {p : Nat} {op : Int} {s : Rs} (h : RS w p op s) {b : Nat} (hb : p < b) (o : Nat) (t : W4) (c : Nat) : RS (addW w b o t c).drew p op s := h.kept (by show w.heap.size ≤ (addW w b o t c).heap.size; rw [gW]; exact Nat.le_refl _) (cu _ _ _ _ _ _ (by omega)) (cu _ _ _ _ _ _ (by omega))
theorem Off.fillW {p : Nat} {w w1 : World} (h : Off p w w1) {b : Nat} (hb : w.heap.size ≤ b) (S : W4) : Off p w (rK w1 b S) := (fun hbel => h.far hb (Below.os hbel) (Below.tape hbel) (Below.output hbel) (nc _ _ _) (fun k hk => eI _ _ _ _ hk)) (((((Below.refl 0 w1).setCell (Nat.zero_le _) (p := ⟨b, 1, none⟩) (.int .u64 S.a)).setCell (Nat.zero_le _) (p := ⟨b, 2, none⟩) (.int .u64 S.b)).setCell (Nat.zero_le _) (p := ⟨b, 3, none⟩) (.int .u64 S.c)).setCell (Nat.zero_le _) (p := ⟨b, 4, none⟩) (.int .u64 S.d))
theorem RS.fillW {w : World} {p : Nat} {op : Int} {s : Rs} (h : RS w p op s) {b : Nat} (hb : p < b) (S : W4) : RS (rK w b S) p op s := h.kept (by rw [nc]; exact Nat.le_refl _) (eI _ _ _ _ (by omega)) (eI _ _ _ _ (by omega))
theorem em {c : UInt8} {k : Nat} (hk : k < 256) (h : c ≠ UInt8.ofNat k) : ((c.toNat : Int) == (k : Int)) = false := by
 rw [beq_eq_false_iff_ne]
 intro e
 apply h
 have e' : c.toNat = k := by omega
 rw [← e']
 simp
theorem am {q r r' : Bs} (h : aq q r = some r') : r'.length + q.length = r.length := by
 unfold aq at h
 split at h
 · rename_i hp
   cases h
   have := gA hp
   simp; omega
 · cases h
theorem lF : ∀ (k : Nat) (n : Int) (w : Nat) (r : Bs), (aD k n w r).2.2.length ≤ r.length
 | 0, n, w, r => by rw [aD]; exact Nat.le_refl _
 | k + 1, n, w, [] => by rw [aD]; exact Nat.le_refl _
 | k + 1, n, w, c :: t => by
  rw [aD]
  split
  · have := lF k (10 * n + (c.toNat - 48)) (w + 1) t
    simp only [List.length_cons]; omega
  · exact Nat.le_refl _
theorem kY {r r' : Bs} {n : Int} (h : aw r = .ok (n, r')) : r'.length ≤ r.length := by
 unfold aw at h
 split at h
 · cases h
 · cases h; exact lF 4 0 0 r
theorem df {r r' : Bs} {m n : Int} (h : aj r = .ok (m, n, r')) : r'.length ≤ r.length := by
 unfold aj at h
 split at h
 · cases h
 rename_i m1 r1 hn
 have l1 := kY hn
 split at h
 · rename_i r2 ht; cases h; have := am ht; simp at this; omega
 split at h
 · rename_i r2 ht; cases h; have := am ht; simp at this; omega
 split at h
 · cases h
 rename_i r2 ht
 have l2 := am ht
 split at h
 · cases h
 rename_i n1 r3 hn2
 have l3 := kY hn2
 split at h
 · cases h
 split at h
 · rename_i r4 ht4; cases h; have := am ht4; simp at this l2; omega
 · cases h
structure PieceR (p : Nat) (op : Int) (w wr : World) (bn : Nat) (t : T) (A : Option Addr) (c : Nat) (mm mx : Int) (s : Rs) (W : World) : Prop where
 R : bj W w.heap.size (ar (.mk 0 0 0 0 0 0 0 [], none, 0)).toArray
 N : bj W bn (ar (t, A, c)).toArray
 X : bj W (wr.heap.size + 1) (ar (cO mm mx t, some ⟨wr.heap.size, 0, none⟩, 1)).toArray
 node : ∀ m n, NodeAt W (fun b => w.heap.size < b ∧ b < wr.heap.size + 1 ∧ b ≠ bn) (cO m n t) (some ⟨wr.heap.size, 0, none⟩) 1
 x : NodeAt W (fun b => w.heap.size < b ∧ b < wr.heap.size ∧ b ≠ bn) t A c
 S : RS W p op s
 O : Off p w W
theorem kI {g : UInt8} {r r' : Bs} {c : Nat} (h : be g r = .ok (c, r')) : r'.length ≤ r.length := by
 unfold be at h
 split at h
 · cases h
 · split at h
   · rename_i ht; cases h; have := am ht; simp at this ⊢; omega
   · cases h
theorem lf {r r' : Bs} {c : Nat} (h : aS r = .ok (c, r')) : r'.length ≤ r.length := by
 unfold aS at h
 split at h
 · rename_i ht; have := am ht; have := kI h; simp at *; omega
 · split at h
   · cases h
   · cases h; simp
theorem qk : ∀ {r a b : Bs}, fX r = some (a, b) → b.length ≤ r.length
 | [], a, b, h => by rw [fX] at h; cases h
 | c :: t, a, b, h => by
  rw [fX] at h
  split at h
  · rename_i ht; cases h; have := am ht; simp at *; omega
  · split at h
    · rename_i a' b' hc; cases h; have := qk hc; simp at *; omega
    · cases h
theorem nF {s s' : W4} {r r' : Bs} (h : cr s r = .ok (s', r')) : r'.length ≤ r.length := by
 unfold cr at h
 split at h
 · cases h
 · rename_i hc
   split at h
   · cases h
   · cases h; exact qk hc
theorem ts {s s' : W4} {f : Nat} {r r' : Bs} (h : co s f r = .ok (s', r')) : r'.length ≤ r.length := by
 unfold co at h
 split at h
 · rename_i ht _
   split at h
   · cases h
   · split at h
     · cases h
     · rename_i hm
       split at h
       · cases h
       · cases h; have := am ht; have := lf hm; simp at *; omega
 · cases h; exact Nat.le_refl _
theorem vN {s s' : W4} {r r' : Bs} (h : bD s r = .ok (s', r')) : r'.length ≤ r.length := by
 unfold bD at h
 split at h
 · rename_i ht; have := am ht; have := nF h; simp at *; omega
 · split at h
   · rename_i ht
     split at h
     · cases h
     · rename_i hs; cases h; have := am ht; have := kI hs; simp at *; omega
   · split at h
     · cases h
     · rename_i hm; have := lf hm; have := ts h; omega
theorem jG : ∀ {k : Nat} {s s' : W4} {r r' : Bs}, aU k s r = .ok (s', r') → r'.length ≤ r.length
 | 0, s, s', r, r', h => by rw [aU] at h; cases h
 | k + 1, s, s', r, r', h => by
  rw [aU] at h
  split at h
  · cases h
  · rename_i hi
    have := vN hi
    split at h
    · rename_i ht; cases h; have := am ht; simp at *; omega
    · have := jG h; omega
theorem pm {s' : W4} {r r' : Bs} (h : bf r = .ok (s', r')) : r'.length ≤ r.length := by
 unfold bf at h
 split at h
 · rename_i ht
   split at h
   · cases h
   · rename_i hi; cases h; have := am ht; have := jG hi; simp at *; omega
 · exact jG h
def dR (grp : Bs → PT) : Prop := ∀ r n r', grp r = .ok (n, r') → r'.length ≤ r.length
theorem ws {grp : Bs → PT} (hg : dR grp) {r r' : Bs} {n : T} (h : aN grp r = .ok (n, r')) : r'.length < r.length := by
 unfold aN at h
 split at h
 · cases h
 · rename_i c t
   simp only [List.length_cons]
   split at h
   · have := hg _ _ _ h; omega
   split at h
   · cases h; omega
   split at h
   · cases h; omega
   split at h
   · split at h
     · cases h
     · rename_i hb; cases h; have := pm hb; omega
   split at h
   · cases h; omega
   split at h
   · cases h
   split at h
   · split at h
     · cases h
     · cases h; simp; omega
   · cases h; omega
theorem jh : ∀ (k : Nat) {n n' : T} {r r' : Bs}, cG k n r = .ok (n', r') → r'.length ≤ r.length
 | 0, n, n', r, r', h => by rw [cG] at h; cases h; exact Nat.le_refl _
 | k + 1, n, n', r, r', h => by
  rw [cG] at h
  split at h
  · rename_i ht; have := am ht; have := jh k h; omega
  split at h
  · rename_i ht; have := am ht; have := jh k h; omega
  split at h
  · rename_i ht; have := am ht; have := jh k h; omega
  split at h
  · rename_i ht
    split at h
    · cases h
    · rename_i hi; have := am ht; have := df hi; have := jh k h; omega
  · cases h; exact Nat.le_refl _
theorem gM {grp : Bs → PT} (hg : dR grp) {r r' : Bs} {n : T} (h : aT grp r = .ok (n, r')) : r'.length < r.length := by
 unfold aT at h
 split at h
 · cases h
 · rename_i ha; have := ws hg ha; have := jh _ h; omega
theorem kU {grp : Bs → PT} (hg : dR grp) : ∀ (k : Nat) {l l' : List T} {r r' : Bs}, aI grp k l r = .ok (l', r') → r'.length ≤ r.length
 | 0, l, l', r, r', h => by rw [aI] at h; cases h; exact Nat.le_refl _
 | k + 1, l, l', r, r', h => by
  rw [aI] at h
  split at h
  · cases h; exact Nat.le_refl _
  · split at h
    · cases h
    · rename_i hp; have := gM hg hp; have := kU hg k h; omega
theorem ga {grp : Bs → PT} (hg : dR grp) {r r' : Bs} {n : T} (h : dL grp r = .ok (n, r')) : r'.length ≤ r.length := by
 unfold dL at h
 split at h
 · cases h
 · rename_i hp; cases h; exact kU hg _ hp
theorem qs {grp : Bs → PT} (hg : dR grp) : ∀ (k : Nat) {l l' : List T} {r r' : Bs}, bX grp k l r = .ok (l', r') → r'.length ≤ r.length
 | 0, l, l', r, r', h => by rw [bX] at h; cases h; exact Nat.le_refl _
 | k + 1, l, l', r, r', h => by
  rw [bX] at h
  split at h
  · cases h; exact Nat.le_refl _
  · rename_i ht
    split at h
    · cases h
    · rename_i hp; have := am ht; have := ga hg hp; have := qs hg k h; omega
theorem rG {grp : Bs → PT} (hg : dR grp) {r r' : Bs} {n : T} (h : av grp r = .ok (n, r')) : r'.length ≤ r.length := by
 unfold av at h
 split at h
 · cases h
 · rename_i hr
   split at h
   · cases h
   · rename_i ha; cases h; have := ga hg hr; have := qs hg _ ha; omega
theorem dG : ∀ d, dR (aE d)
 | 0 => fun r n r' h => by rw [aE] at h; cases h
 | d + 1 => fun r n r' h => by
  rw [aE] at h
  split at h
  · cases h
  · rename_i hc
    split at h
    · rename_i ht; cases h; have := rG (dG d) hc; have := am ht; omega
    · cases h
structure LstR (p : Nat) (op : Int) (w : World) (n : Nat) (ns : List Nx) (Av : Option Addr) (cv : Nat) (s : Rs) (wr : World) : Prop where
 len : ns.length = n
 R : bj wr w.heap.size (ar (.mk 0 0 0 0 0 0 0 [], none, 0)).toArray
 own : wr.ownsRow (w.heap.size + 1) 48 8 (.slice Av n cv) n (bq ns)
 nodes : ∀ x ∈ ns, NodeAt wr (fun b => w.heap.size < b ∧ b < wr.heap.size ∧ some b ≠ (Value.slice Av n cv).ownBlock) x.1 x.2.1 x.2.2
 S : RS wr p op s
 O : Off p w wr
theorem bo {q r r' : Bs} (h : aq q r = some r') : r' <:+ r := by
 unfold aq at h
 split at h
 · cases h; exact List.drop_suffix _ _
 · cases h
theorem lE : ∀ (k : Nat) (n : Int) (w : Nat) (r : Bs), (aD k n w r).2.2 <:+ r
 | 0, n, w, r => by rw [aD]; exact List.suffix_refl _
 | k + 1, n, w, [] => by rw [aD]; exact List.suffix_refl _
 | k + 1, n, w, c :: t => by
  rw [aD]
  split
  · exact (lE k _ _ t).trans (List.suffix_cons c t)
  · exact List.suffix_refl _
theorem kX {r r' : Bs} {n : Int} (h : aw r = .ok (n, r')) : r' <:+ r := by
 unfold aw at h
 split at h
 · cases h
 · cases h; exact lE 4 0 0 r
theorem nR {r r' : Bs} {m n : Int} (h : aj r = .ok (m, n, r')) : r' <:+ r := by
 unfold aj at h
 split at h
 · cases h
 rename_i m1 r1 hn
 have l1 := kX hn
 split at h
 · rename_i r2 ht; cases h; exact (bo ht).trans l1
 split at h
 · rename_i r2 ht; cases h; exact (bo ht).trans l1
 split at h
 · cases h
 rename_i r2 ht
 have l2 := bo ht
 split at h
 · cases h
 rename_i n1 r3 hn2
 have l3 := kX hn2
 split at h
 · cases h
 split at h
 · rename_i r4 ht4; cases h; exact (((bo ht4).trans l3).trans l2).trans l1
 · cases h
theorem kH {g : UInt8} {r r' : Bs} {c : Nat} (h : be g r = .ok (c, r')) : r' <:+ r := by
 unfold be at h
 split at h
 · cases h
 · split at h
   · rename_i ht; cases h; exact (bo ht).trans (List.suffix_cons _ _)
   · cases h
theorem io {r r' : Bs} {c : Nat} (h : aS r = .ok (c, r')) : r' <:+ r := by
 unfold aS at h
 split at h
 · rename_i ht; exact (kH h).trans (bo ht)
 · split at h
   · cases h
   · cases h; exact List.suffix_cons _ _
theorem qj : ∀ {r a b : Bs}, fX r = some (a, b) → b <:+ r
 | [], a, b, h => by rw [fX] at h; cases h
 | c :: t, a, b, h => by
  rw [fX] at h
  split at h
  · rename_i ht; cases h; exact bo ht
  · split at h
    · rename_i a' b' hc; cases h; exact (qj hc).trans (List.suffix_cons _ _)
    · cases h
theorem us {s s' : W4} {r r' : Bs} (h : cr s r = .ok (s', r')) : r' <:+ r := by
 unfold cr at h
 split at h
 · cases h
 · rename_i hc
   split at h
   · cases h
   · cases h; exact qj hc
theorem tr {s s' : W4} {f : Nat} {r r' : Bs} (h : co s f r = .ok (s', r')) : r' <:+ r := by
 unfold co at h
 split at h
 · rename_i ht _
   split at h
   · cases h
   · split at h
     · cases h
     · rename_i hm
       split at h
       · cases h
       · cases h; exact (io hm).trans (bo ht)
 · cases h; exact List.suffix_refl _
theorem vM {s s' : W4} {r r' : Bs} (h : bD s r = .ok (s', r')) : r' <:+ r := by
 unfold bD at h
 split at h
 · rename_i ht; exact (us h).trans (bo ht)
 · split at h
   · rename_i ht
     split at h
     · cases h
     · rename_i hs; cases h; exact (kH hs).trans (bo ht)
   · split at h
     · cases h
     · rename_i hm; exact (tr h).trans (io hm)
theorem jF : ∀ {k : Nat} {s s' : W4} {r r' : Bs}, aU k s r = .ok (s', r') → r' <:+ r
 | 0, s, s', r, r', h => by rw [aU] at h; cases h
 | k + 1, s, s', r, r', h => by
  rw [aU] at h
  split at h
  · cases h
  · rename_i hi
    have := vM hi
    split at h
    · rename_i ht; cases h; exact (bo ht).trans this
    · exact (jF h).trans this
theorem pl {s' : W4} {r r' : Bs} (h : bf r = .ok (s', r')) : r' <:+ r := by
 unfold bf at h
 split at h
 · rename_i ht
   split at h
   · cases h
   · rename_i hi; cases h; exact (jF hi).trans (bo ht)
 · exact jF h
def gq (grp : Bs → PT) : Prop := ∀ r n r', grp r = .ok (n, r') → r' <:+ r
theorem wn {grp : Bs → PT} (hg : gq grp) {r r' : Bs} {n : T} (h : aN grp r = .ok (n, r')) : r' <:+ r := by
 unfold aN at h
 split at h
 · cases h
 · rename_i c t
   have sc := List.suffix_cons c t
   split at h
   · exact (hg _ _ _ h).trans sc
   split at h
   · cases h; exact sc
   split at h
   · cases h; exact sc
   split at h
   · split at h
     · cases h
     · rename_i hb; cases h; exact (pl hb).trans sc
   split at h
   · cases h; exact sc
   split at h
   · cases h
   split at h
   · split at h
     · cases h
     · cases h; exact (List.suffix_cons _ _).trans sc
   · cases h; exact sc
theorem jg : ∀ (k : Nat) {n n' : T} {r r' : Bs}, cG k n r = .ok (n', r') → r' <:+ r
 | 0, n, n', r, r', h => by rw [cG] at h; cases h; exact List.suffix_refl _
 | k + 1, n, n', r, r', h => by
  rw [cG] at h
  split at h
  · rename_i ht; exact (jg k h).trans (bo ht)
  split at h
  · rename_i ht; exact (jg k h).trans (bo ht)
  split at h
  · rename_i ht; exact (jg k h).trans (bo ht)
  split at h
  · rename_i ht
    split at h
    · cases h
    · rename_i hi; exact ((jg k h).trans (nR hi)).trans (bo ht)
  · cases h; exact List.suffix_refl _
theorem nu {grp : Bs → PT} (hg : gq grp) {r r' : Bs} {n : T} (h : aT grp r = .ok (n, r')) : r' <:+ r := by
 unfold aT at h
 split at h
 · cases h
 · rename_i ha; exact (jg _ h).trans (wn hg ha)
theorem kT {grp : Bs → PT} (hg : gq grp) : ∀ (k : Nat) {l l' : List T} {r r' : Bs}, aI grp k l r = .ok (l', r') → r' <:+ r
 | 0, l, l', r, r', h => by rw [aI] at h; cases h; exact List.suffix_refl _
 | k + 1, l, l', r, r', h => by
  rw [aI] at h
  split at h
  · cases h; exact List.suffix_refl _
  · split at h
    · cases h
    · rename_i hp; exact (kT hg k h).trans (nu hg hp)
theorem lS {grp : Bs → PT} (hg : gq grp) {r r' : Bs} {n : T} (h : dL grp r = .ok (n, r')) : r' <:+ r := by
 unfold dL at h
 split at h
 · cases h
 · rename_i hp; cases h; exact kT hg _ hp
theorem qr {grp : Bs → PT} (hg : gq grp) : ∀ (k : Nat) {l l' : List T} {r r' : Bs}, bX grp k l r = .ok (l', r') → r' <:+ r
 | 0, l, l', r, r', h => by rw [bX] at h; cases h; exact List.suffix_refl _
 | k + 1, l, l', r, r', h => by
  rw [bX] at h
  split at h
  · cases h; exact List.suffix_refl _
  · rename_i ht
    split at h
    · cases h
    · rename_i hp; exact ((qr hg k h).trans (lS hg hp)).trans (bo ht)
theorem rE {grp : Bs → PT} (hg : gq grp) {r r' : Bs} {n : T} (h : av grp r = .ok (n, r')) : r' <:+ r := by
 unfold av at h
 split at h
 · cases h
 · rename_i hr
   split at h
   · cases h
   · rename_i ha; cases h; exact (qr hg _ ha).trans (lS hg hr)
theorem jJ : ∀ d, gq (aE d)
 | 0 => fun r n r' h => by rw [aE] at h; cases h
 | d + 1 => fun r n r' h => by
  rw [aE] at h
  split at h
  · cases h
  · rename_i hc
    split at h
    · rename_i ht; cases h; exact (bo ht).trans (rE (jJ d) hc)
    · cases h
theorem wC {c : UInt8} {k : Nat} (hk : k < 256) (h : c ≠ UInt8.ofNat k) : ((c.toNat : Int) != (k : Int)) = true := by
 have := em hk h
 simp only [bne, this, Bool.not_false]
theorem lC {c : UInt8} {t : Bs} (h1 : c ≠ 124) (h2 : c ≠ 41) : ce (c :: t) = false := by simp [ce, h1, h2]
abbrev ay : T := .mk 0 0 0 0 0 0 0 []
def zy (s : Bs) (w : World) (en : Ending) (w' : World) : Prop :=
 Below w.heap.size w w' ∧ ((∃ t A c, aY s = .ok t ∧ en = .returned (.tuple #[aB t A c, .int .i64 0]) ∧ NodeAt w' (fun b => w.heap.size ≤ b ∧ b < w'.heap.size) t A c) ∨ ∃ e, aY s = .error e ∧ e ≠ 0 ∧ en = .returned (.tuple #[aB ay none 0, .int .i64 e]))
def SL (w : World) (ok : Nat → Prop) : Nat → Option Addr → Nat → Nat → Prop
 | 0, A, len, c => A = none ∧ len = 0 ∧ c = 0
 | n + 1, A, len, c => (A = none ∧ len = 0 ∧ c = 0) ∨ ∃ (g : Nat) (cur : Array Value), A = some ⟨g, 0, none⟩ ∧ ok g ∧ w.heap[g]? = some (.cells cur 48 (0, 0)) ∧ cur.size = c * 8 ∧ (len ≤ c ∧ len ≤ 1000000) ∧ c ≤ maxLen ∧
  ∀ i, i < len → ∃ x : Nx, (∀ j, j < 8 → cur[i * 8 + j]? = (ar x)[j]?) ∧ SL w ok n x.2.1 x.1.ps.length x.2.2
theorem SL.up {w : World} {ok : Nat → Prop} : ∀ {n : Nat} {A : Option Addr} {len c : Nat}, SL w ok n A len c → SL w ok (n + 1) A len c
 | 0, A, len, c, h => .inl h
 | n + 1, A, len, c, h => by
  rcases h with h | ⟨g, cur, h1, h2, h3, h4, h5, h6, h7⟩
  · exact .inl h
  · refine .inr ⟨g, cur, h1, h2, h3, h4, h5, h6, fun i hi => ?_⟩
    obtain ⟨x, hx, hs⟩ := h7 i hi
    exact ⟨x, hx, SL.up hs⟩
theorem SL.le {w : World} {ok : Nat → Prop} {n m : Nat} {A : Option Addr} {len c : Nat} (h : SL w ok n A len c) (hm : n ≤ m) : SL w ok m A len c := by
 induction hm with
 | refl => exact h
 | step _ ih => exact ih.up
theorem SL.mono {w w' : World} {ok ok' : Nat → Prop} (hk : ∀ b, ok b → ok' b ∧ w'.heap[b]? = w.heap[b]?) : ∀ {n : Nat} {A : Option Addr} {len c : Nat}, SL w ok n A len c → SL w' ok' n A len c
 | 0, A, len, c, h => h
 | n + 1, A, len, c, h => by
  rcases h with h | ⟨g, cur, h1, h2, h3, h4, h5, h6, h7⟩
  · exact .inl h
  · refine .inr ⟨g, cur, h1, (hk g h2).1, (hk g h2).2.trans h3, h4, h5, h6, fun i hi => ?_⟩
    obtain ⟨x, hx, hs⟩ := h7 i hi
    exact ⟨x, hx, SL.mono hk hs⟩
structure RowAt (w : World) (ok : Nat → Prop) (t : T) (A : Option Addr) (c : Nat) : Prop where
 node : NodeAt w ok t A c
 sl : ∃ n, SL w ok n A t.ps.length c
theorem RowAt.mono {w w' : World} {ok ok' : Nat → Prop} {t : T} {A : Option Addr} {c : Nat} (h : RowAt w ok t A c) (hk : ∀ b, ok b → ok' b ∧ w'.heap[b]? = w.heap[b]?) : RowAt w' ok' t A c := by
 refine ⟨h.node.mono fun b hb => ⟨(hk b hb).1, fun o => World.cell?_of_block (w := w) (a := ⟨b, o, none⟩) (hk b hb).2⟩, ?_⟩
 obtain ⟨n, hn⟩ := h.sl
 exact ⟨n, hn.mono hk⟩
theorem cB (w : World) (ok : Nat → Prop) (t : T) (h : t.ps = []) : RowAt w ok t none 0 :=
 ⟨aA w ok t h, 0, by rw [h]; exact ⟨rfl, rfl, rfl⟩⟩
theorem wD {w : World} {ok : Nat → Prop} : ∀ (L : List Nx), (∀ x ∈ L, RowAt w ok x.1 x.2.1 x.2.2) → ∃ n, ∀ x ∈ L, SL w ok n x.2.1 x.1.ps.length x.2.2
 | [], _ => ⟨0, fun x hx => by simp at hx⟩
 | y :: L, h => by
  obtain ⟨n, hn⟩ := wD L (fun x hx => h x (List.mem_cons_of_mem _ hx))
  obtain ⟨m, hm⟩ := (h y (List.mem_cons_self ..)).sl
  refine ⟨max n m, fun x hx => ?_⟩
  rcases List.mem_cons.1 hx with rfl | hx
  · exact hm.le (Nat.le_max_right _ _)
  · exact (hn x hx).le (Nat.le_max_left _ _)
theorem ni {W : World} {ok : Nat → Prop} {g c : Nat} {cur : Array Value} (R : T) (L : List Nx) (hps : R.ps = L.map (·.1)) (hlc : L.length ≤ c) (hc : c ≤ maxLen) (hlen : L.length ≤ 1000000) (hg : ok g)
 (hb : W.heap[g]? = some (.cells cur 48 (0, 0))) (hs : cur.size = c * 8) (hx : ∀ j, j < L.length * 8 → cur[j]? = (bq L)[j]?) (hN : ∀ x ∈ L, RowAt W ok x.1 x.2.1 x.2.2) : RowAt W ok R (some ⟨g, 0, none⟩) c := by
 have hcell : ∀ o, W.cell? ⟨g, o, none⟩ = cur[o]? := fun o => cell_of_row W g o cur _ (0, 0) hb
 have hj8 : ∀ (i j : Nat) (hi : i < L.length), j < 8 → cur[i * 8 + j]? = (ar L[i])[j]? := fun i j hi hj => by
  rw [hx (i * 8 + j) (by omega), dv L i j hi hj]
 refine ⟨(gP R L hps (Nat.le_trans hlen (by decide)) hg (fun i x hi => .ofX fun j hj => ?_) (fun i x hi => (hN x (List.mem_of_getElem? hi)).node)).widerX (by rw [hps, List.length_map]; exact hlc), ?_⟩
 · have hl := (List.getElem?_eq_some_iff.1 hi).1
   have he : L[i] = x := (List.getElem?_eq_some_iff.1 hi).2
   rw [hcell, hj8 i j hl hj, he]
 · obtain ⟨n, hn⟩ := wD L hN
   refine ⟨n + 1, .inr ⟨g, cur, rfl, hg, hb, hs, by rw [hps, List.length_map]; exact ⟨hlc, hlen⟩, hc, fun i hi => ?_⟩⟩
   rw [hps, List.length_map] at hi
   exact ⟨L[i], fun j hj => hj8 i j hi hj, hn _ (List.getElem_mem hi)⟩
theorem xj {W : World} {ok : Nat → Prop} {g : Nat} (R : T) (L : List Nx) (hps : R.ps = L.map (·.1)) (hlen : L.length ≤ 1000000) (hg : ok g) (hb : W.heap[g]? = some (.cells (bq L).toArray 48 (0, 0))) (hN : ∀ x ∈ L, RowAt W ok x.1 x.2.1 x.2.2) : RowAt W ok R (some ⟨g, 0, none⟩) L.length :=
 ni R L hps (Nat.le_refl _) (by unfold maxLen; omega) hlen hg hb (by simp [mE]) (fun j hj => by simp) hN
theorem xi {W : World} {ok : Nat → Prop} {base n : Nat} {A : Option Addr} {c : Nat} (R : T) (ns : List Nx) (hps : R.ps = ns.map (·.1)) (hlen : ns.length = n) (hn : 0 < n) (hn2 : n ≤ 1000000) (h : W.ownsRow base 48 8 (.slice A n c) n (bq ns)) (hok : ∀ g, base ≤ g → g < W.heap.size → ok g) (hN : ∀ x ∈ ns, RowAt W ok x.1 x.2.1 x.2.2) : RowAt W ok R A c := by
 rcases h.2 with ⟨_, h0⟩ | ⟨g, cap, cur, e, hb, hh, hcap, hcm, hcs, htk⟩
 · omega
 · simp only [Value.slice.injEq] at e
   obtain ⟨rfl, _, rfl⟩ := e
   have hlt : g < W.heap.size := (Array.getElem?_eq_some_iff.1 hh).1
   refine ni R ns hps (by omega) hcm (by omega) (hok g hb hlt) hh hcs (fun j hj => ?_) hN
   rw [← htk, List.getElem?_take, if_pos (by omega)]
   simp
theorem Off.blockN {p : Nat} {w w' : World} (h : w.grownBy w' (some p)) {b : Nat} (hb : b < w.heap.size) (hn : b ≠ p) : w'.heap[b]? = w.heap[b]? := h.block b hb (by simpa using hn)
end Go.Proofs.YthlakbjnmbddaaaGreatDoor
