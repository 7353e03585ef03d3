/- Merged texts, part of the proof KnownP: Kl, Kv, Ku, Kw, ParC, Where, Ws, Wm, Wset, Wn, Wl, Many, Sem, Right, Count, Ref10, WnA, Wno, NodeA, NodeR. -/
import Derived.Test.YthlakbjnmbddaaaGreatDoorUKnownPA
import Derived.Deep.DeepCutAuto
import Derived.Laws.IdiomStrings
import Derived.BigRegion
import Derived.Test.YthlakbjnmbddaaaGreatDoorRows
import Derived.WalkKit
import Derived.Deep.LoopGhost
import Derived.Lib.Hide
/- vouchlaw10.limits: walked. -/
set_option linter.unusedVariables false
set_option linter.unusedSimpArgs false
namespace Go.Proofs.YthlakbjnmbddaaaGreatDoor
open Go.RowKit

theorem kjoin (a b : Bs) (n m : Nat) (ha : a.length ≤ n) (hb : b.length ≤ m) : ∃ t : Bs, bs a ++ bs b = bs t ∧ t.length ≤ n + m ∧ (bs t).size = t.length :=
  ⟨a ++ b, kcat a b, by rw [List.length_append]; omega, ksize _⟩
theorem xnews (w : World) (lf : Int) : ∀ ad, some (⟨w.heap.size, 0, none⟩ : Addr) = some ad → ∀ j u, (xcell (lfX lf))[j]? = some u → (w.alloc (.cells (xcell (lfX lf)).toArray 48)).cell? (ad.add j) = some u := by
  intro ad e j u hu
  simp only [Option.some.injEq] at e
  subst e
  rw [addr_addX, World.cell?_alloc_new, Nat.zero_add]
  simpa using hu
set_option maxRecDepth 100000 in
set_option maxHeartbeats 32000000 in
theorem klimits_any (hR : KS 21) (hO : KS 22) (hT : KN 27) (hBk : KN 28) (hK : K0 24) : K0 11 := by
  intro w hE
  have HR := Lib.hid hR; have HO := Lib.hid hO; have HT := Lib.hid hT; have HBk := Lib.hid hBk; have HK := Lib.hid hK; have HE := Lib.hid hE
  clear hR hO hT hBk hK hE
  go_enter Tryz.func11, Tryz.ntmps11
  go_wp2_with fail
  refine (ktimes_any w [97] (by simp) 1024 (by omega)).mono ?_
  rintro e w1 ⟨⟨s1, rfl, hs1⟩, hw⟩
  replace hw := hw.symm
  subst hw
  have z1 : (bs s1).size = s1.length := ksize _
  go_wp2_with fail
  refine (ktimes_any w [97] (by simp) 1025 (by omega)).mono ?_
  rintro e w1 ⟨⟨s2, rfl, hs2⟩, hw⟩
  replace hw := hw.symm
  subst hw
  have z2 : (bs s2).size = s2.length := ksize _
  go_wp2_with fail
  refine (ktimes_any w [124] (by simp) 1024 (by omega)).mono ?_
  rintro e w1 ⟨⟨s3, rfl, hs3⟩, hw⟩
  replace hw := hw.symm
  subst hw
  have z3 : (bs s3).size = s3.length := ksize _
  go_wp2_with fail
  refine (ktimes_any w [42] (by simp) 1025 (by omega)).mono ?_
  rintro e w1 ⟨⟨s4, rfl, hs4⟩, hw⟩
  replace hw := hw.symm
  subst hw
  have z4 : (bs s4).size = s4.length := ksize _
  go_wp2_with fail
  refine (ktimes_any w [40] (by simp) 64 (by omega)).mono ?_
  rintro e w1 ⟨⟨s5, rfl, hs5⟩, hw⟩
  replace hw := hw.symm
  subst hw
  have z5 : (bs s5).size = s5.length := ksize _
  go_wp2_with fail
  refine (ktimes_any w [41] (by simp) 64 (by omega)).mono ?_
  rintro e w1 ⟨⟨s6, rfl, hs6⟩, hw⟩
  replace hw := hw.symm
  subst hw
  have z6 : (bs s6).size = s6.length := ksize _
  obtain ⟨t5, kt5, ht5, zt5⟩ := kjoin s5 s6 10000 10000 hs5 hs6
  go_wp2_with fail
  refine (ktimes_any w [40] (by simp) 65 (by omega)).mono ?_
  rintro e w1 ⟨⟨s7, rfl, hs7⟩, hw⟩
  replace hw := hw.symm
  subst hw
  have z7 : (bs s7).size = s7.length := ksize _
  go_wp2_with fail
  refine (ktimes_any w [41] (by simp) 65 (by omega)).mono ?_
  rintro e w1 ⟨⟨s8, rfl, hs8⟩, hw⟩
  replace hw := hw.symm
  subst hw
  have z8 : (bs s8).size = s8.length := ksize _
  obtain ⟨t7, kt7, ht7, zt7⟩ := kjoin s7 s8 10000 10000 hs7 hs8
  go_wp2_with fail
  refine (ktimes_any w [40] (by simp) 65 (by omega)).mono ?_
  rintro e w1 ⟨⟨s9, rfl, hs9⟩, hw⟩
  replace hw := hw.symm
  subst hw
  have z9 : (bs s9).size = s9.length := ksize _
  go_wp2_with fail
  refine (ktimes_any w [40] (by simp) 64 (by omega)).mono ?_
  rintro e w1 ⟨⟨s10, rfl, hs10⟩, hw⟩
  replace hw := hw.symm
  subst hw
  have z10 : (bs s10).size = s10.length := ksize _
  go_wp2_with fail
  refine (ktimes_any w [40, 41] (by simp) 200 (by omega)).mono ?_
  rintro e w1 ⟨⟨s11, rfl, hs11⟩, hw⟩
  replace hw := hw.symm
  subst hw
  have z11 : (bs s11).size = s11.length := ksize _
  go_wp2_with fail
  refine (ktimes_any w [40] (by simp) 64 (by omega)).mono ?_
  rintro e w1 ⟨⟨s12, rfl, hs12⟩, hw⟩
  replace hw := hw.symm
  subst hw
  have z12 : (bs s12).size = s12.length := ksize _
  obtain ⟨t11, kt11, ht11, zt11⟩ := kjoin s11 s12 10000 10000 hs11 hs12
  obtain ⟨t12, kt12, ht12, zt12⟩ := kjoin t11 [97] 20000 1 ht11 (by simp)
  go_wp2_with fail
  refine (ktimes_any w [41] (by simp) 64 (by omega)).mono ?_
  rintro e w1 ⟨⟨s13, rfl, hs13⟩, hw⟩
  replace hw := hw.symm
  subst hw
  have z13 : (bs s13).size = s13.length := ksize _
  obtain ⟨t13, kt13, ht13, zt13⟩ := kjoin t12 s13 20001 10000 ht12 hs13
  go_wp2_with fail
  refine (ktimes_any w [42] (by simp) 1023 (by omega)).mono ?_
  rintro e w1 ⟨⟨s14, rfl, hs14⟩, hw⟩
  replace hw := hw.symm
  subst hw
  have z14 : (bs s14).size = s14.length := ksize _
  obtain ⟨t14, kt14, ht14, zt14⟩ := kjoin [97] s14 1 10000 (by simp) hs14
  go_wp2_with fail
  refine (ktimes_any w [97, 42] (by simp) 512 (by omega)).mono ?_
  rintro e w1 ⟨⟨s15, rfl, hs15⟩, hw⟩
  replace hw := hw.symm
  subst hw
  have z15 : (bs s15).size = s15.length := ksize _
  go_wp2_with fail
  refine (ktimes_any w [46] (by simp) 1024 (by omega)).mono ?_
  rintro e w1 ⟨⟨s16, rfl, hs16⟩, hw⟩
  replace hw := hw.symm
  subst hw
  have z16 : (bs s16).size = s16.length := ksize _
  go_wp2_with fail
  refine (ktimes_any w [91, 97, 93] (by simp) 341 (by omega)).mono ?_
  rintro e w1 ⟨⟨s17, rfl, hs17⟩, hw⟩
  replace hw := hw.symm
  subst hw
  have z17 : (bs s17).size = s17.length := ksize _
  obtain ⟨t17, kt17, ht17, zt17⟩ := kjoin s17 [98] 10000 1 hs17 (by simp)
  go_wp2_with fail
  refine (ktimes_any w [92, 46] (by simp) 512 (by omega)).mono ?_
  rintro e w1 ⟨⟨s18, rfl, hs18⟩, hw⟩
  replace hw := hw.symm
  subst hw
  have z18 : (bs s18).size = s18.length := ksize _
  go_wp2_with fail
  refine (ktimes_any w [40, 97, 41] (by simp) 341 (by omega)).mono ?_
  rintro e w1 ⟨⟨s19, rfl, hs19⟩, hw⟩
  replace hw := hw.symm
  subst hw
  have z19 : (bs s19).size = s19.length := ksize _
  go_upto_region 2 with fail
  generalize hW : World.alloc _ _ = W0
  obtain ⟨hS, hB⟩ := Strs.lit [s1, s2, s3, s4, t5, t7, s9, s10, t13, t14, s15, s16, t17, s18, s19] hW (by
    intro z hz
    simp only [List.mem_cons, List.not_mem_nil, or_false] at hz
    rcases hz with rfl | rfl | rfl | rfl | rfl | rfl | rfl | rfl | rfl | rfl | rfl | rfl | rfl | rfl | rfl <;> omega)
  have HS := Lib.hid hS; have HB0 := Lib.hid hB
  clear hW hS hB
  clear hs1 z1 hs2 z2 hs3 z3 hs4 z4 hs5 z5 hs6 z6 hs7 z7 hs8 z8 hs9 z9 hs10 z10 hs11 z11 hs12 z12 hs13 z13 hs14 z14 hs15 z15 hs16 z16 hs17 z17 hs18 z18 hs19 z19 kt5 ht5 zt5 kt7 ht7 zt7 kt11 ht11 zt11 kt12 ht12 zt12 kt13 ht13 zt13 kt14 ht14 zt14 kt17 ht17 zt17
  simp only [List.length_cons, List.length_nil, Nat.zero_add] at HS
  go_wp2_with fail
  go_loopg [45] 15 (fun n i wr => ∃ m : Nat, i = .int .i64 m ∧ m + n = 15 ∧ Below w.heap.size w wr ∧ Strs wr w.heap.size 15)
  case atStart => exact ⟨0, rfl, rfl, HB0.out, HS.out⟩
  case round =>
    clear HB0 HS
    obtain ⟨m, rfl, hm, hB, hS⟩ := hrel
    have HB := Lib.hid hB; have HS := Lib.hid hS; have Hm := Lib.hid hm
    clear hB hS hm
    by_cases hlm : m < 15
    · obtain ⟨s, hs, hc⟩ := HS.out.2 m hlm
      have hz := HS.out.1
      have hlmi : (m : Int) < 15 := by omega
      go_wp2_with fail
      refine (HR.out wr (HE.out.step HB.out) s (by omega)).mono ?_
      rintro e w1 ⟨rfl, hb1⟩
      have HB2 := Lib.hid (HB.out.trans (hb1.mono HB.out.size)); have HS2 := Lib.hid (HS.out.later hb1)
      clear hb1 HB HS hc hz
      go_wp2_with fail
      refine (HO.out w1 (HE.out.step HB2.out) s (by omega)).mono ?_
      rintro e w2 ⟨rfl, hb2⟩
      have HB3 := Lib.hid (HB2.out.trans (hb2.mono HB2.out.size)); have HS3 := Lib.hid (HS2.out.later hb2)
      clear hb2 HB2 HS2
      go_wp2_with fail
      have hm := Hm.out
      go_roundg (gk - 1)
      case measure => omega
      case rel => exact ⟨m + 1, by go_num, by omega, HB3.out, HS3.out⟩
    · have hm' : (15 : Int) ≤ (m : Int) := by omega
      clear HS Hm hlm
      go_upto_region 8 with fail
      generalize hW : World.alloc _ _ = W1
      obtain ⟨hI, hb⟩ := Ints.lit [2046, 2047, 2048, 2049] hW (by decide)
      have HI := Lib.hid hI; have HB1 := Lib.hid (HB.out.trans (hb.mono HB.out.size))
      simp only [List.length_cons, List.length_nil, Nat.zero_add] at HI
      clear hW hI hb HB
      generalize wr.heap.size = g at *
      go_wp2_with fail
      go_loopg [60] 4 (fun n i wr => ∃ q : Nat, i = .int .i64 q ∧ q + n = 4 ∧ Below w.heap.size w wr ∧ Ints wr g 4)
      case atStart => exact ⟨0, rfl, rfl, HB1.out, HI.out⟩
      case round =>
        clear HB1 HI
        obtain ⟨q, rfl, hq, hB, hI⟩ := hrel
        have HB := Lib.hid hB; have HI := Lib.hid hI; have Hq := Lib.hid hq
        clear hB hI hq
        by_cases hlq : q < 4
        · have hlqi : (q : Int) < 4 := by omega
          obtain ⟨v, hv, hc⟩ := HI.out.2 q hlq
          have hgz := HI.out.1
          obtain ⟨G, hG⟩ : ∃ G, G = gk := ⟨_, rfl⟩
          subst hG
          go_upto_region 11 with fail
          generalize hW : World.alloc _ _ = W2
          have hb2 : Below wr.heap.size wr W2 := by subst hW; exact (Below.refl _ _).alloc (Nat.le_refl _) _
          have hR2 : KRow W2 wr.heap.size wr.heap.size 4 0 [] none 0 := by subst hW; exact KRow.new wr (Nat.le_refl _) 4 0
          have hwR : w.heap.size ≤ wr.heap.size := HB.out.size
          have HB2 := Lib.hid (HB.out.trans (hb2.mono HB.out.size)); have HI2 := Lib.hid (HI.out.later hb2); have HR2 := Lib.hid hR2
          have hgR := hgz
          clear hW hb2 hR2 HB HI hc hgz
          generalize wr.heap.size = R at *
          go_upto_region 12 with fail
          generalize hW : World.alloc _ _ = W3
          have hb3 : Below W2.heap.size W2 W3 := by subst hW; exact (Below.refl _ _).alloc (Nat.le_refl _) _
          have hD3 : KTow W3 W2.heap.size (fun b => b = R ∨ some b = (Value.slice none 0 0).ownBlock) (lfX 0) := by subst hW; exact KTow.new W2 0 _
          have HB3 := Lib.hid (HB2.out.trans (hb3.mono HB2.out.size)); have HI3 := Lib.hid (HI2.out.later hb3); have HR3 := Lib.hid (HR2.out.later hb3); have HD3 := Lib.hid hD3
          have hDR : R ≠ W2.heap.size := by have := HR2.out.blk.lt; omega
          have hDw : R ≤ W2.heap.size := by have := HR2.out.blk.lt; omega
          clear hW hb3 hD3 HB2 HI2 HR2
          generalize W2.heap.size = D at *
          go_wp2_with fail
          go_loopg [7] v (fun n i wr => ∃ (m : Nat) (ns : List Nx) (A : Option Addr) (c : Nat) (x : Nx), i = .int .i64 m ∧ m + n = v ∧ ns.length = m ∧ KRow wr R R 4 0 ns A c ∧ KTow wr D (fun b => b = R ∨ some b = (Value.slice A ns.length c).ownBlock) x ∧ (Value.slice A ns.length c).ownBlock ≠ some D ∧ Below w.heap.size w wr ∧ Ints wr g 4)
          case atStart => exact ⟨0, [], none, 0, lfX 0, rfl, by omega, rfl, HR3.out, HD3.out, by simp [Value.ownBlock], HB3.out, HI3.out⟩
          case round =>
            clear HB3 HI3 HR3 HD3
            obtain ⟨m, ns, A, c, x, rfl, hm, hns, hR, hD, hAD, hB, hI⟩ := hrel
            have HB := Lib.hid hB; have HI := Lib.hid hI; have Hm := Lib.hid hm; have HRw := Lib.hid hR; have HTw := Lib.hid hD; have HAD := Lib.hid hAD; have Hns := Lib.hid hns
            clear hB hI hm hR hD hAD hns
            by_cases hlm : m < v
            · have hlmi : (m : Int) < (v : Int) := by omega
              have f7 := HRw.out.blk.cell 7
              have hRl := HRw.out.blk.lt
              have hnl : ns.length ≤ 3000 := by have := Hns.out; have := Hm.out; omega
              simp only [List.getElem?_toArray, List.getElem?_cons_succ, List.getElem?_cons_zero] at f7
              go_upto_region 16 with (at_builtin; refine wpList_append_fromX R rfl _ _ 46 48 _ 8 80 rfl Tryz.underlying46 Tryz.infoNodeX rfl (by omega) (by omega) (.slice A ns.length c) ns.length 1 (xcells ns) (xcell (lfX 0)) (some ⟨wr.heap.size, 0, none⟩) 1 rfl rfl (by simp) rfl (xnews wr 0) (xcell_one _) (HRw.out.own.alloc _) (by simp; omega) (by omega) (fun A5 c5 w5 ho5 hg5 hat5 => ?_); have hal := (Below.refl wr.heap.size wr).alloc (Nat.le_refl _) (.cells (xcell (lfX 0)).toArray 48); have HP5 := Lib.hid (HRw.out.push hal ho5 hg5 hat5); have hbk : BlkX w5 R _ := HRw.out.blk.keep ((hg5.block _ (Nat.lt_of_lt_of_le HRw.out.blk.lt hal.size) (fun e => HRw.out.ne e.symm)).trans (hal.block _ HRw.out.blk.lt)); have q7 := hbk.cell 7; have y7 := hbk.froz 7; have hl5 := hbk.lt; clear ho5 hg5 hat5 hal hbk)
              obtain ⟨hR6, hfr, hat, hB6⟩ := HP5.out
              generalize w5.setCell ⟨R, 7, none⟩ (.slice A5 (ns.length + 1) c5) = W6 at *
              have hDl := HTw.out.blk.lt
              have hD6 : KTow W6 D (fun b => b = R ∨ some b = (Value.slice A5 (ns ++ [lfX 0]).length c5).ownBlock) x := HTw.out.frame hB6.size (hfr D hDl (fun e => hDR e.symm) (fun e => HAD.out e.symm)) (fun b h1 h2 h3 => ⟨fun h => by
                rcases h with h | h
                · exact h3 (.inl h)
                · rcases hat with e | ⟨g', e, e2⟩
                  · exact h3 (.inr (h.trans e))
                  · have := h.trans e; simp only [Option.some.injEq] at this; omega, hfr b h1 (fun h => h3 (.inl h)) (fun h => h3 (.inr h))⟩)
              have hAD6 : (Value.slice A5 (ns ++ [lfX 0]).length c5).ownBlock ≠ some D := by
                rcases hat with e | ⟨g', e, e2⟩
                · rw [e]; exact HAD.out
                · rw [e]; intro h; simp only [Option.some.injEq] at h; omega
              have hl6 : (ns ++ [lfX 0]).length = m + 1 := by rw [List.length_append]; have := Hns.out; simp; omega
              have HB6 := Lib.hid (HB.out.trans (hB6.mono hwR)); have HI6 := Lib.hid (HI.out.keep hgR hB6); have HR6 := Lib.hid hR6; have HD6 := Lib.hid hD6; have HAD6 := Lib.hid hAD6; have Hl6 := Lib.hid hl6
              have hb6 := hB6.size
              clear f7 HP5 hR6 hfr hat hB6 hD6 hAD6 hl6 q7 y7 hl5 hDl hRl hnl HB HI HRw HTw HAD Hns
              generalize ns ++ [lfX 0] = ns6 at *
              obtain ⟨⟨f0, f1, f2, f3, f4, f5, f6, f7⟩, hz⟩ := HD6.out.blk.cells8
              have z0 := hz 0; have z1 := hz 1; have z2 := hz 2; have z3 := hz 3; have z4 := hz 4; have z5 := hz 5; have z6 := hz 6; have z7 := hz 7
              have hDl := HD6.out.blk.lt
              have hRl6 := HR6.out.blk.lt
              clear hz
              obtain ⟨x, xA, xc⟩ := x
              simp only at f0 f1 f2 f3 f4 f5 f6 f7
              go_wp2_with fail
              change Handed _ _ _ ((writeX W6 D (.mk 6 0 0 0 0 0 1 [x], some ⟨W6.heap.size, 0, none⟩, 1)).alloc (.cells (xcells [(x, xA, xc)]).toArray 48))
              have hno : ¬ (W6.heap.size = R ∨ some W6.heap.size = (Value.slice A5 ns6.length c5).ownBlock) := fun h => by
                rcases h with h | h
                · omega
                · have := (HR6.out.own.lt _ h.symm).2; omega
              have hD8 := HD6.out.wrap2 [(x, xA, xc)] hno (by simp) (fun y hy => .inl (by simpa using hy)) (.mk 6 0 0 0 0 0 1 [x]) rfl wok0
              have hR8 : KRow ((writeX W6 D (.mk 6 0 0 0 0 0 1 [x], some ⟨W6.heap.size, 0, none⟩, 1)).alloc (.cells (xcells [(x, xA, xc)]).toArray 48)) R R 4 0 ns6 A5 c5 := (HR6.out.frame (writeX_other _ _ _ _ hDR) (fun g' hg' => writeX_other _ _ _ _ (fun e => HAD6.out (by rw [hg', e])))).later ((Below.refl _ _).alloc (Nat.le_refl _) _)
              have hB8 : Below R W6 ((writeX W6 D (.mk 6 0 0 0 0 0 1 [x], some ⟨W6.heap.size, 0, none⟩, 1)).alloc (.cells (xcells [(x, xA, xc)]).toArray 48)) := (writeX_below (Below.refl R W6) hDw _).alloc (by rw [writeX_size]; omega) _
              have hm := Hm.out
              have HD8 := Lib.hid hD8; have HR8 := Lib.hid hR8; have HB8 := Lib.hid hB8
              clear hD8 hR8 hB8 hno f0 f1 f2 f3 f4 f5 f6 f7 z0 z1 z2 z3 z4 z5 z6 z7
              simp only [List.length_cons, List.length_nil, Nat.zero_add] at HD8
              generalize (World.alloc (writeX _ _ _) _) = W8 at *
              go_roundg (gk - 1)
              case measure => omega
              case rel => exact ⟨m + 1, ns6, A5, c5, _, by go_num, by omega, Hl6.out, HR8.out, HD8.out, HAD6.out, HB6.out.trans (HB8.out.mono hwR), HI6.out.keep hgR HB8.out⟩
            · have hle : (v : Int) ≤ (m : Int) := by omega
              have hnl : ns.length ≤ 17592186044416 := by have := Hns.out; have := Hm.out; omega
              obtain ⟨f0, f1, f2, f3, f4, f5, f6, f7⟩ := HRw.out.cells
              have hRl := HRw.out.blk.lt
              have Hc1 := Lib.hid (HRw.out.law HT.out (HE.out.step HB.out) (Below.refl _ _) hnl)
              go_wp2_with fail
              refine Hc1.out.mono ?_
              rintro e w1 ⟨rfl, hb1⟩
              have HB1 := Lib.hid (HB.out.trans (hb1.mono HB.out.size)); have HI1 := Lib.hid (HI.out.later hb1); have HT1 := Lib.hid (HTw.out.later hb1)
              clear hb1 f0 f1 f2 f3 f4 f5 f6 f7 HB HI HTw HRw Hc1
              obtain ⟨⟨f0, f1, f2, f3, f4, f5, f6, f7⟩, _⟩ := HT1.out.blk.cells8
              have hDl := HT1.out.blk.lt
              go_wp2_with fail
              refine (HT.out w1 (HE.out.step HB1.out) x HT1.out.own HT1.out.words).mono ?_
              rintro e w2 ⟨rfl, hb2⟩
              have HB2 := Lib.hid (HB1.out.trans (hb2.mono HB1.out.size)); have HI2 := Lib.hid (HI1.out.later hb2)
              clear hb2 f0 f1 f2 f3 f4 f5 f6 f7 HB1 HI1 HT1
              go_wp2_with fail
              have hq := Hq.out
              go_roundg (G - 1)
              case measure => omega
              case rel => exact ⟨q + 1, by go_num, by omega, HB2.out, HI2.out⟩
        · have hq' : (4 : Int) ≤ (q : Int) := by omega
          clear HI Hq hlq
          go_upto_region 21 with fail
          generalize hW : World.alloc _ _ = W1
          obtain ⟨hI, hb⟩ := Ints.lit [62, 63, 64, 65, 66] hW (by decide)
          have HI := Lib.hid hI; have HB1 := Lib.hid (HB.out.trans (hb.mono HB.out.size))
          simp only [List.length_cons, List.length_nil, Nat.zero_add] at HI
          clear hW hI hb HB
          generalize wr.heap.size = g at *
          go_wp2_with fail
          go_loopg [91] 5 (fun n i wr => ∃ q : Nat, i = .int .i64 q ∧ q + n = 5 ∧ Below w.heap.size w wr ∧ Ints wr g 5)
          case atStart => exact ⟨0, rfl, rfl, HB1.out, HI.out⟩
          case round =>
            clear HB1 HI
            obtain ⟨q, rfl, hq, hB, hI⟩ := hrel
            have HB := Lib.hid hB; have HI := Lib.hid hI; have Hq := Lib.hid hq
            clear hB hI hq
            by_cases hlq : q < 5
            · have hlqi : (q : Int) < 5 := by omega
              obtain ⟨v, hv, hc⟩ := HI.out.2 q hlq
              have hgz := HI.out.1
              obtain ⟨G, hG⟩ : ∃ G, G = gk := ⟨_, rfl⟩
              subst hG
              go_upto_region 24 with fail
              generalize hW : World.alloc _ _ = W2
              have hb2 : Below wr.heap.size wr W2 := by subst hW; exact (Below.refl _ _).alloc (Nat.le_refl _) _
              have hD2 : KTow W2 wr.heap.size (fun _ => False) (lfX 0) := by subst hW; exact KTow.new wr 0 _
              have hwD : w.heap.size ≤ wr.heap.size := HB.out.size
              have hgD := hgz
              have HB2 := Lib.hid (HB.out.trans (hb2.mono HB.out.size)); have HI2 := Lib.hid (HI.out.later hb2); have HD2 := Lib.hid hD2
              clear hW hb2 hD2 HB HI hc hgz
              generalize wr.heap.size = D at *
              go_wp2_with fail
              go_loopg [11] v (fun n i wr => ∃ (m : Nat) (x : Nx), i = .int .i64 m ∧ m + n = v ∧ KTow wr D (fun _ => False) x ∧ Below w.heap.size w wr ∧ Ints wr g 5)
              case atStart => exact ⟨0, lfX 0, rfl, by omega, HD2.out, HB2.out, HI2.out⟩
              case round =>
                clear HB2 HI2 HD2
                obtain ⟨m, x, rfl, hm, hD, hB, hI⟩ := hrel
                have HB := Lib.hid hB; have HI := Lib.hid hI; have Hm := Lib.hid hm; have HTw := Lib.hid hD
                clear hB hI hm hD
                by_cases hlm : m < v
                · have hlmi : (m : Int) < (v : Int) := by omega
                  obtain ⟨⟨f0, f1, f2, f3, f4, f5, f6, f7⟩, hz⟩ := HTw.out.blk.cells8
                  have z0 := hz 0; have z1 := hz 1; have z2 := hz 2; have z3 := hz 3; have z4 := hz 4; have z5 := hz 5; have z6 := hz 6; have z7 := hz 7
                  have hDl := HTw.out.blk.lt
                  clear hz
                  obtain ⟨x, xA, xc⟩ := x
                  simp only at f0 f1 f2 f3 f4 f5 f6 f7
                  go_wp2_with fail
                  change Handed _ _ _ ((writeX wr D (.mk 4 0 0 0 0 0 0 [lfT 2, x], some ⟨wr.heap.size, 0, none⟩, 2)).alloc (.cells (xcells [lfX 2, (x, xA, xc)]).toArray 48))
                  have hD8 := HTw.out.wrap2 [lfX 2, (x, xA, xc)] (fun h => h) (by simp) (fun y hy => by
                    simp only [List.mem_cons, List.not_mem_nil, or_false] at hy
                    rcases hy with rfl | rfl
                    · exact .inr ⟨2, rfl⟩
                    · exact .inl rfl) (.mk 4 0 0 0 0 0 0 [lfT 2, x]) rfl wok0
                  have hB8 : Below D wr ((writeX wr D (.mk 4 0 0 0 0 0 0 [lfT 2, x], some ⟨wr.heap.size, 0, none⟩, 2)).alloc (.cells (xcells [lfX 2, (x, xA, xc)]).toArray 48)) := (writeX_below (Below.refl D wr) (Nat.le_refl _) _).alloc (by rw [writeX_size]; omega) _
                  have hm := Hm.out
                  have HD8 := Lib.hid hD8; have HB8 := Lib.hid hB8
                  clear hD8 hB8 f0 f1 f2 f3 f4 f5 f6 f7 z0 z1 z2 z3 z4 z5 z6 z7
                  simp only [List.length_cons, List.length_nil, Nat.zero_add] at HD8
                  generalize (World.alloc (writeX _ _ _) _) = W8 at *
                  go_roundg (gk - 1)
                  case measure => omega
                  case rel => exact ⟨m + 1, _, by go_num, by omega, HD8.out, HB.out.trans (HB8.out.mono hwD), HI.out.keep hgD HB8.out⟩
                · have hle : (v : Int) ≤ (m : Int) := by omega
                  obtain ⟨⟨f0, f1, f2, f3, f4, f5, f6, f7⟩, _⟩ := HTw.out.blk.cells8
                  have hDl := HTw.out.blk.lt
                  go_wp2_with fail
                  refine (HT.out wr (HE.out.step HB.out) x HTw.out.own HTw.out.words).mono ?_
                  rintro e w1 ⟨rfl, hb1⟩
                  have HB1 := Lib.hid (HB.out.trans (hb1.mono HB.out.size)); have HI1 := Lib.hid (HI.out.later hb1); have HT1 := Lib.hid (HTw.out.later hb1)
                  clear hb1 f0 f1 f2 f3 f4 f5 f6 f7 HB HI HTw
                  obtain ⟨⟨f0, f1, f2, f3, f4, f5, f6, f7⟩, _⟩ := HT1.out.blk.cells8
                  have hDl := HT1.out.blk.lt
                  go_wp2_with fail
                  refine (HBk.out w1 (HE.out.step HB1.out) x HT1.out.own HT1.out.words).mono ?_
                  rintro e w2 ⟨rfl, hb2⟩
                  have HB2 := Lib.hid (HB1.out.trans (hb2.mono HB1.out.size)); have HI2 := Lib.hid (HI1.out.later hb2)
                  clear hb2 f0 f1 f2 f3 f4 f5 f6 f7 HB1 HI1 HT1
                  go_wp2_with fail
                  have hq := Hq.out
                  go_roundg (G - 1)
                  case measure => omega
                  case rel => exact ⟨q + 1, by go_num, by omega, HB2.out, HI2.out⟩
            · have hq' : (5 : Int) ≤ (q : Int) := by omega
              clear HI Hq hlq
              go_upto_region 32 with fail
              generalize hW : World.alloc _ _ = W1
              obtain ⟨hI, hb⟩ := Ints.lit [1022, 1023, 1024, 1025] hW (by decide)
              have HI := Lib.hid hI; have HB1 := Lib.hid (HB.out.trans (hb.mono HB.out.size))
              simp only [List.length_cons, List.length_nil, Nat.zero_add] at HI
              clear hW hI hb HB
              generalize wr.heap.size = g at *
              go_wp2_with fail
              go_loopg [116] 4 (fun n i wr => ∃ q : Nat, i = .int .i64 q ∧ q + n = 4 ∧ Below w.heap.size w wr ∧ Ints wr g 4)
              case atStart => exact ⟨0, rfl, rfl, HB1.out, HI.out⟩
              case round =>
                clear HB1 HI
                obtain ⟨q, rfl, hq, hB, hI⟩ := hrel
                have HB := Lib.hid hB; have HI := Lib.hid hI; have Hq := Lib.hid hq
                clear hB hI hq
                by_cases hlq : q < 4
                · have hlqi : (q : Int) < 4 := by omega
                  obtain ⟨v, hv, hc⟩ := HI.out.2 q hlq
                  have hgz := HI.out.1
                  obtain ⟨G, hG⟩ : ∃ G, G = gk := ⟨_, rfl⟩
                  subst hG
                  go_upto_region 35 with fail
                  generalize hW : World.alloc _ _ = W2
                  have hb2 : Below wr.heap.size wr W2 := by subst hW; exact (Below.refl _ _).alloc (Nat.le_refl _) _
                  have hR2 : KRow W2 wr.heap.size wr.heap.size 4 3 [] none 0 := by subst hW; exact KRow.new wr (Nat.le_refl _) 4 3
                  have hwR : w.heap.size ≤ wr.heap.size := HB.out.size
                  have hgR := hgz
                  have HB2 := Lib.hid (HB.out.trans (hb2.mono HB.out.size)); have HI2 := Lib.hid (HI.out.later hb2); have HR2 := Lib.hid hR2
                  clear hW hb2 hR2 HB HI hc hgz
                  generalize wr.heap.size = R at *
                  go_upto_region 36 with fail
                  generalize hW : World.alloc _ _ = W3
                  have hb3 : Below W2.heap.size W2 W3 := by subst hW; exact (Below.refl _ _).alloc (Nat.le_refl _) _
                  have hRlt : R < W2.heap.size := HR2.out.blk.lt
                  have hQ3 : KRow W3 R W2.heap.size 5 0 [] none 0 := by subst hW; exact KRow.new W2 (by omega) 5 0
                  have HB3 := Lib.hid (HB2.out.trans (hb3.mono HB2.out.size)); have HI3 := Lib.hid (HI2.out.later hb3); have HR3 := Lib.hid (HR2.out.later hb3); have HQ3 := Lib.hid hQ3
                  clear hW hb3 hQ3 HB2 HI2 HR2
                  generalize W2.heap.size = Q at *
                  go_wp2_with fail
                  go_loopg [16] v (fun n i wr => ∃ (m : Nat) (ns : List Nx) (A : Option Addr) (c : Nat) (nsq : List Nx) (Aq : Option Addr) (cq : Nat), i = .int .i64 m ∧ m + n = v ∧ ns.length = m ∧ nsq.length = m ∧ KRow wr R R 4 3 ns A c ∧ KRow wr R Q 5 0 nsq Aq cq ∧ (Value.slice A ns.length c).ownBlock ≠ some Q ∧ (Value.slice Aq nsq.length cq).ownBlock ≠ some R ∧ (∀ b, (Value.slice A ns.length c).ownBlock = some b → (Value.slice Aq nsq.length cq).ownBlock ≠ some b) ∧ Below w.heap.size w wr ∧ Ints wr g 4)
                  case atStart => exact ⟨0, [], none, 0, [], none, 0, rfl, by omega, rfl, rfl, HR3.out, HQ3.out, by simp [Value.ownBlock], by simp [Value.ownBlock], by simp [Value.ownBlock], HB3.out, HI3.out⟩
                  case round =>
                    clear HB3 HI3 HR3 HQ3
                    obtain ⟨m, ns, A, c, nsq, Aq, cq, rfl, hm, hns, hnq, hR, hQ, hAQ, hqR, hAq, hB, hI⟩ := hrel
                    have HB := Lib.hid hB; have HI := Lib.hid hI; have Hm := Lib.hid hm; have HRw := Lib.hid hR; have HQw := Lib.hid hQ; have HAQ := Lib.hid hAQ; have HqR := Lib.hid hqR; have HAq := Lib.hid hAq; have Hns := Lib.hid hns; have Hnq := Lib.hid hnq
                    clear hB hI hm hR hQ hAQ hqR hAq hns hnq
                    by_cases hlm : m < v
                    · have hlmi : (m : Int) < (v : Int) := by omega
                      have f7 := HRw.out.blk.cell 7
                      have hRl := HRw.out.blk.lt
                      have hnl : ns.length ≤ 3000 := by have := Hns.out; have := Hm.out; omega
                      simp only [List.getElem?_toArray, List.getElem?_cons_succ, List.getElem?_cons_zero] at f7
                      go_upto_region 40 with (at_builtin; refine wpList_append_fromX R rfl _ _ 46 48 _ 8 80 rfl Tryz.underlying46 Tryz.infoNodeX rfl (by omega) (by omega) (.slice A ns.length c) ns.length 1 (xcells ns) (xcell (lfX 3)) (some ⟨wr.heap.size, 0, none⟩) 1 rfl rfl (by simp) rfl (xnews wr 3) (xcell_one _) (HRw.out.own.alloc _) (by simp; omega) (by omega) (fun A5 c5 w5 ho5 hg5 hat5 => ?_); have hal := (Below.refl wr.heap.size wr).alloc (Nat.le_refl _) (.cells (xcell (lfX 3)).toArray 48); have HP5 := Lib.hid (HRw.out.push hal ho5 hg5 hat5); have hbk : BlkX w5 R _ := HRw.out.blk.keep ((hg5.block _ (Nat.lt_of_lt_of_le HRw.out.blk.lt hal.size) (fun e => HRw.out.ne e.symm)).trans (hal.block _ HRw.out.blk.lt)); have q7 := hbk.cell 7; have y7 := hbk.froz 7; have hl5 := hbk.lt; clear ho5 hg5 hat5 hal hbk)
                      obtain ⟨hR6, hfr, hat, hB6⟩ := HP5.out
                      generalize w5.setCell ⟨R, 7, none⟩ (.slice A5 (ns.length + 1) c5) = W6 at *
                      have hQl := HQw.out.blk.lt
                      have hQ6 : KRow W6 R Q 5 0 nsq Aq cq := HQw.out.frame (hfr Q hQl (by omega) (fun e => HAQ.out e.symm)) (fun b hb => hfr b (HQw.out.own.lt b hb).2 (fun e => HqR.out (by rw [hb, e])) (fun e => HAq.out b e.symm hb))
                      have hAQ6 : (Value.slice A5 (ns ++ [lfX 3]).length c5).ownBlock ≠ some Q := by
                        rcases hat with e | ⟨g', e, e2⟩
                        · rw [e]; exact HAQ.out
                        · rw [e]; intro h; simp only [Option.some.injEq] at h; omega
                      have hAq6 : ∀ b, (Value.slice A5 (ns ++ [lfX 3]).length c5).ownBlock = some b → (Value.slice Aq nsq.length cq).ownBlock ≠ some b := fun b hb => by
                        rcases hat with e | ⟨g', e, e2⟩
                        · exact HAq.out b (e.symm.trans hb)
                        · intro h
                          have h1 := (HQw.out.own.lt b h).2
                          have h2 := hb.symm.trans e
                          simp only [Option.some.injEq] at h2
                          omega
                      have hl6 : (ns ++ [lfX 3]).length = m + 1 := by rw [List.length_append]; have := Hns.out; simp; omega
                      have HB6 := Lib.hid (HB.out.trans (hB6.mono hwR)); have HI6 := Lib.hid (HI.out.keep hgR hB6); have HR6 := Lib.hid hR6; have HQ6 := Lib.hid hQ6; have HAQ6 := Lib.hid hAQ6; have HAq6 := Lib.hid hAq6; have Hl6 := Lib.hid hl6
                      have hb6 := hB6.size
                      clear f7 HP5 hR6 hfr hat hB6 hQ6 hAQ6 hAq6 hl6 q7 y7 hl5 hQl hRl hnl HB HI HRw HQw HAQ HAq Hns
                      generalize ns ++ [lfX 3] = ns6 at *
                      have f7 := HQ6.out.blk.cell 7
                      have hQl := HQ6.out.blk.lt
                      have hnl : nsq.length ≤ 3000 := by have := Hnq.out; have := Hm.out; omega
                      simp only [List.getElem?_toArray, List.getElem?_cons_succ, List.getElem?_cons_zero] at f7
                      go_wp2_with (at_builtin; refine wpList_append_fromX R rfl _ _ 46 48 _ 8 80 rfl Tryz.underlying46 Tryz.infoNodeX rfl (by omega) (by omega) (.slice Aq nsq.length cq) nsq.length 1 (xcells nsq) (xcell (lfX 0)) (some ⟨W6.heap.size, 0, none⟩) 1 rfl rfl (by simp) rfl (xnews W6 0) (xcell_one _) (HQ6.out.own.alloc _) (by simp; omega) (by omega) (fun A5q c5q w5q ho5 hg5 hat5 => ?_); have hal := (Below.refl W6.heap.size W6).alloc (Nat.le_refl _) (.cells (xcell (lfX 0)).toArray 48); have HP5q := Lib.hid (HQ6.out.push hal ho5 hg5 hat5); have hbk : BlkX w5q Q _ := HQ6.out.blk.keep ((hg5.block _ (Nat.lt_of_lt_of_le HQ6.out.blk.lt hal.size) (fun e => HQ6.out.ne e.symm)).trans (hal.block _ HQ6.out.blk.lt)); have q7q := hbk.cell 7; have y7q := hbk.froz 7; have hl5q := hbk.lt; clear ho5 hg5 hat5 hal hbk)
                      obtain ⟨hQ8, hfr, hat, hB8⟩ := HP5q.out
                      generalize w5q.setCell ⟨Q, 7, none⟩ (.slice A5q (nsq.length + 1) c5q) = W8 at *
                      have hRl := HR6.out.blk.lt
                      have hR8 : KRow W8 R R 4 3 ns6 A5 c5 := HR6.out.frame (hfr R hRl (by omega) (fun e => HqR.out e.symm)) (fun b hb => hfr b (HR6.out.own.lt b hb).2 (fun e => HAQ6.out (by rw [hb, e])) (fun e => HAq6.out b hb e.symm))
                      have hqR8 : (Value.slice A5q (nsq ++ [lfX 0]).length c5q).ownBlock ≠ some R := by
                        rcases hat with e | ⟨g', e, e2⟩
                        · rw [e]; exact HqR.out
                        · rw [e]; intro h; simp only [Option.some.injEq] at h; omega
                      have hAq8 : ∀ b, (Value.slice A5 ns6.length c5).ownBlock = some b → (Value.slice A5q (nsq ++ [lfX 0]).length c5q).ownBlock ≠ some b := fun b hb => by
                        rcases hat with e | ⟨g', e, e2⟩
                        · rw [e]; exact HAq6.out b hb
                        · intro h
                          have h1 := (HR6.out.own.lt b hb).2
                          have h2 := h.symm.trans e
                          simp only [Option.some.injEq] at h2
                          omega
                      have hl8 : (nsq ++ [lfX 0]).length = m + 1 := by rw [List.length_append]; have := Hnq.out; simp; omega
                      have HB8 := Lib.hid hB8; have HQ8 := Lib.hid hQ8; have HR8 := Lib.hid hR8; have HqR8 := Lib.hid hqR8; have HAq8 := Lib.hid hAq8; have Hl8 := Lib.hid hl8
                      have hm := Hm.out
                      clear f7 HP5q hQ8 hfr hat hB8 hR8 hqR8 hAq8 hl8 q7q y7q hl5q hQl hRl hnl
                      go_roundg (gk - 1)
                      case measure => omega
                      case rel => exact ⟨m + 1, ns6, A5, c5, nsq ++ [lfX 0], A5q, c5q, by go_num, by omega, Hl6.out, Hl8.out, HR8.out, HQ8.out, HAQ6.out, HqR8.out, HAq8.out, HB6.out.trans (HB8.out.mono hwR), HI6.out.keep hgR HB8.out⟩
                    · have hle : (v : Int) ≤ (m : Int) := by omega
                      have hnl : ns.length ≤ 17592186044416 := by have := Hns.out; have := Hm.out; omega
                      have hnlq : nsq.length ≤ 17592186044416 := by have := Hnq.out; have := Hm.out; omega
                      obtain ⟨f0, f1, f2, f3, f4, f5, f6, f7⟩ := HRw.out.cells
                      have hRl := HRw.out.blk.lt
                      have Hc1 := Lib.hid (HRw.out.law HT.out (HE.out.step HB.out) (Below.refl _ _) hnl)
                      go_wp2_with fail
                      refine Hc1.out.mono ?_
                      rintro e w1 ⟨rfl, hb1⟩
                      have HB1 := Lib.hid (HB.out.trans (hb1.mono HB.out.size)); have HI1 := Lib.hid (HI.out.later hb1); have HQ1 := Lib.hid (HQw.out.later hb1)
                      clear hb1 f0 f1 f2 f3 f4 f5 f6 f7 HB HI HQw HRw Hc1 hRl
                      obtain ⟨f0, f1, f2, f3, f4, f5, f6, f7⟩ := HQ1.out.cells
                      have hQl := HQ1.out.blk.lt
                      have Hc1 := Lib.hid (HQ1.out.law HT.out (HE.out.step HB1.out) (Below.refl _ _) hnlq)
                      go_wp2_with fail
                      refine Hc1.out.mono ?_
                      rintro e w2 ⟨rfl, hb2⟩
                      have HB2 := Lib.hid (HB1.out.trans (hb2.mono HB1.out.size)); have HI2 := Lib.hid (HI1.out.later hb2); have HQ2 := Lib.hid (HQ1.out.later hb2)
                      clear hb2 f0 f1 f2 f3 f4 f5 f6 f7 HB1 HI1 HQ1 Hc1 hQl
                      obtain ⟨f0, f1, f2, f3, f4, f5, f6, f7⟩ := HQ2.out.cells
                      have hQl := HQ2.out.blk.lt
                      have Hc1 := Lib.hid (HQ2.out.law HBk.out (HE.out.step HB2.out) (Below.refl _ _) hnlq)
                      go_wp2_with fail
                      refine Hc1.out.mono ?_
                      rintro e w3 ⟨rfl, hb3⟩
                      have HB3 := Lib.hid (HB2.out.trans (hb3.mono HB2.out.size)); have HI3 := Lib.hid (HI2.out.later hb3)
                      clear hb3 f0 f1 f2 f3 f4 f5 f6 f7 HB2 HI2 HQ2 Hc1 hQl
                      go_wp2_with fail
                      have hq := Hq.out
                      go_roundg (G - 1)
                      case measure => omega
                      case rel => exact ⟨q + 1, by go_num, by omega, HB3.out, HI3.out⟩
                · have hq' : (4 : Int) ≤ (q : Int) := by omega
                  clear HI Hq hlq
                  go_wp2_with fail
                  refine (HK.out wr (HE.out.step HB.out)).mono ?_
                  rintro e w1 ⟨rfl, hb1⟩
                  go_wp2_with fail
                  go_ret
                  exact ⟨rfl, HB.out.trans (hb1.mono HB.out.size)⟩
end Go.Proofs.YthlakbjnmbddaaaGreatDoor

/- A list of trees that grows. Plain. -/
set_option linter.unusedVariables false
set_option linter.unusedSimpArgs false
namespace Go.Proofs.YthlakbjnmbddaaaGreatDoor
open Go.RowKit

/-- Numbers at a block, less than nothing too. -/
def IntsZ (w : World) (g n : Nat) : Prop := g < w.heap.size ∧ ∀ i, i < n → ∃ v : Int, w.cell? ⟨g, i, none⟩ = some (.int .i64 v)
theorem IntsZ.later {w w' : World} {g n : Nat} (h : IntsZ w g n) (hb : Below w.heap.size w w') : IntsZ w' g n :=
  ⟨Nat.lt_of_lt_of_le h.1 hb.size, fun i hi => by obtain ⟨s, h2⟩ := h.2 i hi; exact ⟨s, (hb.cell (p := ⟨g, i, none⟩) h.1).trans h2⟩⟩
theorem IntsZ.lit {w W : World} (L : List Int) {e : TypeId} (hW : w.alloc (.cells (L.map fun z => Value.int .i64 z).toArray e) = W) : IntsZ W w.heap.size L.length ∧ Below w.heap.size w W := by
  subst hW
  exact ⟨⟨by simp, fun i hi => ⟨L[i], by rw [World.cell?_alloc_new, List.getElem?_toArray, List.getElem?_map, List.getElem?_eq_getElem hi]; rfl⟩⟩, (Below.refl _ _).alloc (Nat.le_refl _) _⟩
/-- A list of trees in a row of its own. -/
structure KList (w : World) (B : Nat) (ns : List Nx) (A : Option Addr) (c : Nat) : Prop where
  own : w.ownsRow B 48 8 (.slice A ns.length c) ns.length (xcells ns)
  node : ∀ x ∈ ns, NodeAt w (fun b => b < w.heap.size ∧ some b ≠ (Value.slice A ns.length c).ownBlock) x.1 x.2.1 x.2.2
  words : ∀ x ∈ ns, Words x.1
theorem KList.later {w w' : World} {B : Nat} {ns : List Nx} {A : Option Addr} {c : Nat} (h : KList w B ns A c) (hb : Below w.heap.size w w') : KList w' B ns A c :=
  ⟨h.own.kept (row := none) ⟨hb.os, hb.tape, hb.output, hb.size, fun k hk _ => hb.block k hk⟩ (by cases hv : (Value.slice A ns.length c).ownBlock <;> simp),
    fun x hx => (h.node x hx).mono fun b hk => ⟨⟨Nat.lt_of_lt_of_le hk.1 hb.size, hk.2⟩, fun o => hb.cell (p := ⟨b, o, none⟩) hk.1⟩, h.words⟩
/-- One tree more: it reads blocks that are not the row's. -/
theorem KList.push {w w1 w5 : World} {B : Nat} {ns : List Nx} {A A5 : Option Addr} {c c5 : Nat} {y : Nx} (h : KList w B ns A c) (h1 : Below w.heap.size w w1) (hB : B ≤ w.heap.size)
    (hy : NodeAt w1 (fun b => b < w1.heap.size ∧ some b ≠ (Value.slice A ns.length c).ownBlock) y.1 y.2.1 y.2.2) (hyw : Words y.1)
    (ho : w5.ownsRow B 48 8 (.slice A5 (ns.length + 1) c5) (ns.length + 1) (xcells ns ++ xcell y)) (hg : w1.grownBy w5 (Value.slice A ns.length c).ownBlock)
    (hat : (Value.slice A5 (ns.length + 1) c5).ownBlock = (Value.slice A ns.length c).ownBlock ∨ (Value.slice A5 (ns.length + 1) c5).ownBlock = some w1.heap.size) :
    KList w5 B (ns ++ [y]) A5 c5 ∧ Below B w w5 ∧ (∀ b, b < w.heap.size → some b ≠ (Value.slice A ns.length c).ownBlock → w5.heap[b]? = w.heap[b]?) ∧ ((Value.slice A5 (ns ++ [y]).length c5).ownBlock = (Value.slice A ns.length c).ownBlock ∨ ∃ g, (Value.slice A5 (ns ++ [y]).length c5).ownBlock = some g ∧ w.heap.size ≤ g) := by
  have hk : ∀ b, (b < w1.heap.size ∧ some b ≠ (Value.slice A ns.length c).ownBlock) → (b < w5.heap.size ∧ some b ≠ (Value.slice A5 (ns ++ [y]).length c5).ownBlock) ∧ ∀ o, w5.cell? ⟨b, o, none⟩ = w1.cell? ⟨b, o, none⟩ := fun b hb => by
    refine ⟨⟨Nat.lt_of_lt_of_le hb.1 hg.size, ?_⟩, fun o => World.cell?_of_block (w := w1) (a := ⟨b, o, none⟩) (hg.block b hb.1 hb.2)⟩
    rw [List.length_append]
    rcases hat with e | e
    · exact fun e2 => hb.2 (e2.trans e)
    · intro e2
      have := e2.trans e
      simp only [Option.some.injEq] at this
      omega
  refine ⟨⟨?_, fun x hx => ?_, fun x hx => ?_⟩, (h1.mono hB).grown hg (Nat.le_trans hB h1.size) (fun k hk => (h.own.lt k hk).1), fun b hb hne => (hg.block b (Nat.lt_of_lt_of_le hb h1.size) hne).trans (h1.block b hb), ?_⟩
  · rw [List.length_append, show xcells (ns ++ [y]) = xcells ns ++ xcell y by simp [xcells]]
    exact ho
  · rcases List.mem_append.1 hx with hx | hx
    · exact ((h.later h1).node x hx).mono hk
    · have : x = y := by simpa using hx
      subst this
      exact hy.mono hk
  · rcases List.mem_append.1 hx with hx | hx
    · exact h.words x hx
    · have : x = y := by simpa using hx
      subst this
      exact hyw
  · rw [List.length_append]
    rcases hat with e | e
    · exact .inl e
    · exact .inr ⟨_, e, h1.size⟩
theorem knews2 (w : World) (o : Obj) (y : Nx) : ∀ ad, some (⟨w.heap.size + 1, 0, none⟩ : Addr) = some ad → ∀ j u, (xcell y)[j]? = some u → ((w.alloc o).alloc (.cells (xcell y).toArray 48)).cell? (ad.add j) = some u := by
  intro ad e j u hu
  simp only [Option.some.injEq] at e
  subst e
  rw [addr_addX, show w.heap.size + 1 = (w.alloc o).heap.size by simp, World.cell?_alloc_new, Nat.zero_add]
  simpa using hu
theorem IntsZ.kept {w w' : World} {g n : Nat} (h : IntsZ w g n) (hs : w.heap.size ≤ w'.heap.size) (e : w'.heap[g]? = w.heap[g]?) : IntsZ w' g n :=
  ⟨Nat.lt_of_lt_of_le h.1 hs, fun i hi => by obtain ⟨s, h2⟩ := h.2 i hi; exact ⟨s, (World.cell?_of_block (w := w) (a := ⟨g, i, none⟩) e).trans h2⟩⟩
/-- Trees lie at a block. -/
def Nds (w : World) (g n : Nat) : Prop := g < w.heap.size ∧ ∀ i, i < n → ∃ x : Nx, At8 w g (i * 8) x.1 x.2.1 x.2.2 ∧ OwnX w x ∧ Words x.1
theorem Nds.later {w w' : World} {g n : Nat} (h : Nds w g n) (hb : Below w.heap.size w w') : Nds w' g n :=
  ⟨Nat.lt_of_lt_of_le h.1 hb.size, fun i hi => by obtain ⟨x, h1, h2, h3⟩ := h.2 i hi; exact ⟨x, h1.laterX hb h.1, h2.later hb, h3⟩⟩
theorem KList.nds {w : World} {B : Nat} {ns : List Nx} {A : Option Addr} {c : Nat} (h : KList w B ns A c) (h0 : 0 < ns.length) : ∃ g, A = some ⟨g, 0, none⟩ ∧ Nds w g ns.length ∧ ns.length ≤ c := by
  rcases h.own.2 with ⟨e, h1⟩ | ⟨g, cap, cur, e, hb, hh, hcap, _⟩
  · omega
  · simp only [Value.slice.injEq] at e
    obtain ⟨rfl, _, rfl⟩ := e
    refine ⟨g, rfl, ⟨(Array.getElem?_eq_some_iff.1 hh).1, fun i hi => ⟨ns[i], .ofX fun j hj => ?_, ?_, h.words _ (List.getElem_mem hi)⟩⟩, hcap⟩
    · rw [h.own.cellAt (i * 8 + j) (by omega), xcells_get ns i j hi hj]
    · exact (h.node _ (List.getElem_mem hi)).mono fun b hb => ⟨hb.1, fun _ => rfl⟩
theorem klist_lit {w W : World} {B : Nat} (L : List Nx) (hW : W = w.alloc (.cells (xcells L).toArray 48)) (hB : B ≤ w.heap.size) (hl : L.length ≤ 1000) (hN : ∀ x ∈ L, OwnX w x) (hw : ∀ x ∈ L, Words x.1) : KList W B L (some ⟨w.heap.size, 0, none⟩) L.length := by
  have hb : Below w.heap.size w W := by subst hW; exact (Below.refl _ _).alloc (Nat.le_refl _) _
  refine ⟨⟨xcells_length L, .inr ⟨w.heap.size, L.length, (xcells L).toArray, rfl, hB, by subst hW; exact heap_alloc_new w _, Nat.le_refl _, by unfold maxLen; omega, by simp [xcells_length], ?_⟩⟩, fun x hx => ?_, hw⟩
  · rw [List.take_of_length_le]
    simp [xcells_length]
  · exact NodeAt.mono (fun b (hk : b < w.heap.size) => ⟨⟨Nat.lt_of_lt_of_le hk hb.size, by simp [Value.ownBlock]; omega⟩, fun o => hb.cell (p := ⟨b, o, none⟩) hk⟩) (hN x hx)
end Go.Proofs.YthlakbjnmbddaaaGreatDoor

/- The twenty trees of vouchlaw10.trees. Plain. -/
set_option linter.unusedVariables false
set_option linter.unusedSimpArgs false
namespace Go.Proofs.YthlakbjnmbddaaaGreatDoor
open Go.RowKit

abbrev kaT : T := .mk 1 0 2 0 0 0 0 []
abbrev kaX : Nx := (kaT, none, 0)
abbrev kC (L : List Nx) : Obj := .cells (xcells L).toArray 48
abbrev kW9 (w : World) : World := ((((((((w.alloc (kC [kaX])).alloc (kC [kaX])).alloc (kC [kaX, kaX])).alloc (kC [kaX, lfX 9])).alloc (kC [kaX])).alloc (kC [kaX, lfX 0])).alloc (kC [kaX, kaX])).alloc (kC [kaX, kaX])).alloc (kC [kaX])
abbrev kL20 (n : Nat) : List Nx := [lfX 0, kaX, lfX 2, lfX 3, lfX (-1), lfX 7, (.mk 0 1 0 0 0 0 0 [], none, 0), (.mk 1 0 0 0 0 1 0 [], none, 0), (.mk 2 0 0 0 0 0 (-1) [], none, 0), (.mk 0 0 0 0 0 0 0 [kaT], some ⟨n, 0, none⟩, 1), lfX 4, (.mk 4 0 0 0 0 0 0 [kaT], some ⟨n + 1, 0, none⟩, 1), (.mk 4 0 0 0 0 0 0 [kaT, kaT], some ⟨n + 2, 0, none⟩, 2), (.mk 4 0 0 0 0 0 0 [kaT, lfT 9], some ⟨n + 3, 0, none⟩, 2), (.mk 5 0 0 0 0 0 0 [kaT], some ⟨n + 4, 0, none⟩, 1), (.mk 5 0 0 0 0 0 0 [kaT, lfT 0], some ⟨n + 5, 0, none⟩, 2), (.mk 5 0 0 0 0 1 0 [kaT, kaT], some ⟨n + 6, 0, none⟩, 2), lfX 6, (.mk 6 0 0 0 0 0 0 [kaT, kaT], some ⟨n + 7, 0, none⟩, 2), (.mk 6 0 0 0 1 0 0 [kaT], some ⟨n + 8, 0, none⟩, 1)]
theorem ka_words : Words kaT := .mk _ ⟨⟨by decide, by decide⟩, ⟨by decide, by decide⟩, ⟨by decide, by decide⟩, ⟨by decide, by decide⟩⟩ (fun p hp => by cases hp)
theorem kown (w : World) (k : Nat) (hk : w.heap.size = k) (L : List Nx) (hL : L.length ≤ 10) (hl : ∀ x ∈ L, x.1.ps = [] ∧ x.2 = (none, 0)) (R : T) (hps : R.ps = L.map (·.1)) : OwnX (w.alloc (kC L)) (R, some ⟨k, 0, none⟩, L.length) := by
  subst hk
  exact own_litX (w := w) L rfl (by omega) (fun x hx => by
    obtain ⟨h1, h2⟩ := hl x hx
    show NodeAt _ _ x.1 x.2.1 x.2.2
    rw [h2]
    exact nodeAt_leafX _ _ _ h1) R hps
theorem kal (w : World) (o : Obj) : Below w.heap.size w (w.alloc o) := (Below.refl _ _).alloc (Nat.le_refl _) _
theorem klf1 : ∀ x ∈ [kaX], x.1.ps = [] ∧ x.2 = (none, 0) := fun x hx => by
  simp only [List.mem_singleton] at hx
  subst hx
  exact ⟨rfl, rfl⟩
theorem klf2 (t : T) (ht : t.ps = []) : ∀ x ∈ [kaX, (t, none, 0)], x.1.ps = [] ∧ x.2 = (none, 0) := fun x hx => by
  simp only [List.mem_cons, List.not_mem_nil, or_false] at hx
  rcases hx with rfl | rfl
  · exact ⟨rfl, rfl⟩
  · exact ⟨ht, rfl⟩
theorem kwords1 (k s3 mn mx : Int) (h3 : In64 s3) : Words (.mk k 0 0 0 s3 mn mx [kaT]) := .mk _ (show Wok ⟨0, 0, 0, s3⟩ from ⟨wok0.a, wok0.b, wok0.c, h3⟩) (fun p hp => by
  have : p = kaT := by simpa [T.ps] using hp
  subst this
  exact ka_words)
theorem kwords2 (k mn mx : Int) (t : T) (ht : Words t) : Words (.mk k 0 0 0 0 mn mx [kaT, t]) := .mk _ wok0 (fun p hp => by
  have : p = kaT ∨ p = t := by simpa [T.ps] using hp
  rcases this with rfl | rfl
  · exact ka_words
  · exact ht)
theorem klist20 (w : World) (B n : Nat) (hn : w.heap.size = n) (hB : B ≤ n) : KList ((kW9 w).alloc (kC (kL20 n))) B (kL20 n) (some ⟨n + 9, 0, none⟩) 20 := by
  obtain ⟨V1, h1⟩ : ∃ V1, V1 = w.alloc (kC [kaX]) := ⟨_, rfl⟩
  obtain ⟨V2, h2⟩ : ∃ V2, V2 = V1.alloc (kC [kaX]) := ⟨_, rfl⟩
  obtain ⟨V3, h3⟩ : ∃ V3, V3 = V2.alloc (kC [kaX, kaX]) := ⟨_, rfl⟩
  obtain ⟨V4, h4⟩ : ∃ V4, V4 = V3.alloc (kC [kaX, lfX 9]) := ⟨_, rfl⟩
  obtain ⟨V5, h5⟩ : ∃ V5, V5 = V4.alloc (kC [kaX]) := ⟨_, rfl⟩
  obtain ⟨V6, h6⟩ : ∃ V6, V6 = V5.alloc (kC [kaX, lfX 0]) := ⟨_, rfl⟩
  obtain ⟨V7, h7⟩ : ∃ V7, V7 = V6.alloc (kC [kaX, kaX]) := ⟨_, rfl⟩
  obtain ⟨V8, h8⟩ : ∃ V8, V8 = V7.alloc (kC [kaX, kaX]) := ⟨_, rfl⟩
  obtain ⟨V9, h9⟩ : ∃ V9, V9 = V8.alloc (kC [kaX]) := ⟨_, rfl⟩
  have e : kW9 w = V9 := by rw [h9, h8, h7, h6, h5, h4, h3, h2, h1]
  have z1 : V1.heap.size = n + 1 := by rw [h1]; simp [hn]
  have z2 : V2.heap.size = n + 2 := by rw [h2]; simp [z1]
  have z3 : V3.heap.size = n + 3 := by rw [h3]; simp [z2]
  have z4 : V4.heap.size = n + 4 := by rw [h4]; simp [z3]
  have z5 : V5.heap.size = n + 5 := by rw [h5]; simp [z4]
  have z6 : V6.heap.size = n + 6 := by rw [h6]; simp [z5]
  have z7 : V7.heap.size = n + 7 := by rw [h7]; simp [z6]
  have z8 : V8.heap.size = n + 8 := by rw [h8]; simp [z7]
  have z9 : V9.heap.size = n + 9 := by rw [h9]; simp [z8]
  have b2 : Below V1.heap.size V1 V2 := by rw [h2]; exact kal _ _
  have b3 : Below V2.heap.size V2 V3 := by rw [h3]; exact kal _ _
  have b4 : Below V3.heap.size V3 V4 := by rw [h4]; exact kal _ _
  have b5 : Below V4.heap.size V4 V5 := by rw [h5]; exact kal _ _
  have b6 : Below V5.heap.size V5 V6 := by rw [h6]; exact kal _ _
  have b7 : Below V6.heap.size V6 V7 := by rw [h7]; exact kal _ _
  have b8 : Below V7.heap.size V7 V8 := by rw [h8]; exact kal _ _
  have b9 : Below V8.heap.size V8 V9 := by rw [h9]; exact kal _ _
  have o1 : OwnX V9 (.mk 0 0 0 0 0 0 0 [kaT], some ⟨n, 0, none⟩, 1) := (((((((((h1 ▸ kown w n hn [kaX] (by simp) klf1 (.mk 0 0 0 0 0 0 0 [kaT]) rfl : OwnX V1 _).later b2).later b3).later b4).later b5).later b6).later b7).later b8).later b9)
  have o2 : OwnX V9 (.mk 4 0 0 0 0 0 0 [kaT], some ⟨n + 1, 0, none⟩, 1) := ((((((((h2 ▸ kown V1 (n + 1) z1 [kaX] (by simp) klf1 (.mk 4 0 0 0 0 0 0 [kaT]) rfl : OwnX V2 _).later b3).later b4).later b5).later b6).later b7).later b8).later b9)
  have o3 : OwnX V9 (.mk 4 0 0 0 0 0 0 [kaT, kaT], some ⟨n + 2, 0, none⟩, 2) := (((((((h3 ▸ kown V2 (n + 2) z2 [kaX, kaX] (by simp) (klf2 _ rfl) (.mk 4 0 0 0 0 0 0 [kaT, kaT]) rfl : OwnX V3 _).later b4).later b5).later b6).later b7).later b8).later b9)
  have o4 : OwnX V9 (.mk 4 0 0 0 0 0 0 [kaT, lfT 9], some ⟨n + 3, 0, none⟩, 2) := ((((((h4 ▸ kown V3 (n + 3) z3 [kaX, lfX 9] (by simp) (klf2 _ rfl) (.mk 4 0 0 0 0 0 0 [kaT, lfT 9]) rfl : OwnX V4 _).later b5).later b6).later b7).later b8).later b9)
  have o5 : OwnX V9 (.mk 5 0 0 0 0 0 0 [kaT], some ⟨n + 4, 0, none⟩, 1) := (((((h5 ▸ kown V4 (n + 4) z4 [kaX] (by simp) klf1 (.mk 5 0 0 0 0 0 0 [kaT]) rfl : OwnX V5 _).later b6).later b7).later b8).later b9)
  have o6 : OwnX V9 (.mk 5 0 0 0 0 0 0 [kaT, lfT 0], some ⟨n + 5, 0, none⟩, 2) := ((((h6 ▸ kown V5 (n + 5) z5 [kaX, lfX 0] (by simp) (klf2 _ rfl) (.mk 5 0 0 0 0 0 0 [kaT, lfT 0]) rfl : OwnX V6 _).later b7).later b8).later b9)
  have o7 : OwnX V9 (.mk 5 0 0 0 0 1 0 [kaT, kaT], some ⟨n + 6, 0, none⟩, 2) := (((h7 ▸ kown V6 (n + 6) z6 [kaX, kaX] (by simp) (klf2 _ rfl) (.mk 5 0 0 0 0 1 0 [kaT, kaT]) rfl : OwnX V7 _).later b8).later b9)
  have o8 : OwnX V9 (.mk 6 0 0 0 0 0 0 [kaT, kaT], some ⟨n + 7, 0, none⟩, 2) := ((h8 ▸ kown V7 (n + 7) z7 [kaX, kaX] (by simp) (klf2 _ rfl) (.mk 6 0 0 0 0 0 0 [kaT, kaT]) rfl : OwnX V8 _).later b9)
  have o9 : OwnX V9 (.mk 6 0 0 0 1 0 0 [kaT], some ⟨n + 8, 0, none⟩, 1) := (h9 ▸ kown V8 (n + 8) z8 [kaX] (by simp) klf1 (.mk 6 0 0 0 1 0 0 [kaT]) rfl : OwnX V9 _)
  rw [e]
  have hl : ∀ t : T, t.ps = [] → OwnX V9 (t, none, 0) := fun t ht => nodeAt_leafX _ _ _ ht
  have hk := klist_lit (w := V9) (B := B) (kL20 n) rfl (by omega) (by simp) (fun x hx => by
    simp only [List.mem_cons, List.not_mem_nil, or_false] at hx
    rcases hx with rfl | rfl | rfl | rfl | rfl | rfl | rfl | rfl | rfl | rfl | rfl | rfl | rfl | rfl | rfl | rfl | rfl | rfl | rfl | rfl
    all_goals first | exact hl _ rfl | assumption) (fun x hx => by
    simp only [List.mem_cons, List.not_mem_nil, or_false] at hx
    rcases hx with rfl | rfl | rfl | rfl | rfl | rfl | rfl | rfl | rfl | rfl | rfl | rfl | rfl | rfl | rfl | rfl | rfl | rfl | rfl | rfl
    all_goals first | exact lf_words _ | exact ka_words | exact kwords1 _ _ _ _ ⟨by decide, by decide⟩ | exact kwords2 _ _ _ _ ka_words | exact kwords2 _ _ _ _ (lf_words _) | exact .mk _ ⟨⟨by decide, by decide⟩, ⟨by decide, by decide⟩, ⟨by decide, by decide⟩, ⟨by decide, by decide⟩⟩ (fun p hp => by cases hp))
  rw [z9] at hk
  exact hk
theorem kW9_below (w : World) : Below w.heap.size w (kW9 w) := by
  unfold kW9
  exact ((((((((kal w _).alloc (by simp) _).alloc (by simp; omega) _).alloc (by simp; omega) _).alloc (by simp; omega) _).alloc (by simp; omega) _).alloc (by simp; omega) _).alloc (by simp; omega) _).alloc (by simp; omega) _
theorem ky_node (w : World) (own : Option Nat) (hown : ∀ k, own = some k → k < w.heap.size) (t : T) (ht : t.ps = [kaT]) (o : Obj) : NodeAt ((w.alloc (kC [kaX])).alloc o) (fun b => b < ((w.alloc (kC [kaX])).alloc o).heap.size ∧ some b ≠ own) t (some ⟨w.heap.size, 0, none⟩) 1 := by
  have hb : Below (w.alloc (kC [kaX])).heap.size (w.alloc (kC [kaX])) ((w.alloc (kC [kaX])).alloc o) := kal _ _
  have h8 := at8_litX (w := w) (W := w.alloc (kC [kaX])) [kaX] rfl
  exact node_litX (W := (w.alloc (kC [kaX])).alloc o) (ok := fun b => b < ((w.alloc (kC [kaX])).alloc o).heap.size ∧ some b ≠ own) (g := w.heap.size) t [kaX] ht (by simp) ⟨by simp; omega, fun e => by have := hown _ e.symm; omega⟩ (fun i x hi => (h8 i x hi).laterX hb (by simp)) (fun i x hi => by
    have : x = kaX := by have := List.mem_of_getElem? hi; simpa using this
    subst this
    exact nodeAt_leafX _ _ _ rfl)
theorem ky_words (m v : Int) : Words (.mk 6 0 0 0 0 m v [kaT]) := .mk _ wok0 (fun p hp => by
  have : p = kaT := by simpa [T.ps] using hp
  subst this
  exact ka_words)
/-- A node over a new block, in a new box: either may be made first. -/
theorem klaid_a {w W : World} (L : List Nx) (hL : ∀ y ∈ L, OwnX w y ∧ Words y.1) (hl : L.length ≤ 1000) (R : T) (hps : R.ps = L.map (·.1)) (hw : Wok R.w4)
    (hW : W = ((w.alloc (kC L)).alloc (.cells (xcell (R, some ⟨w.heap.size, 0, none⟩, L.length)).toArray 48)).drew) :
    KTow W (w.heap.size + 1) (fun _ => False) (R, some ⟨w.heap.size, 0, none⟩, L.length) ∧ Below w.heap.size w W ∧ w.heap.size ≤ w.heap.size + 1 := by
  obtain ⟨w1, h1⟩ : ∃ w1, w1 = w.alloc (kC L) := ⟨_, rfl⟩
  rw [← h1] at hW
  have z1 : w1.heap.size = w.heap.size + 1 := by rw [h1]; simp
  obtain ⟨w2, h2⟩ : ∃ w2, w2 = w1.alloc (.cells (xcell (R, some ⟨w.heap.size, 0, none⟩, L.length)).toArray 48) := ⟨_, rfl⟩
  rw [← h2] at hW
  have b1 : Below w.heap.size w w1 := by rw [h1]; exact kal _ _
  have b2 : Below w1.heap.size w1 w2 := by rw [h2]; exact kal _ _
  have b3 : Below w2.heap.size w2 W := by rw [hW]; exact (Below.refl _ _).drew
  have z2 : w2.heap.size = w.heap.size + 2 := by rw [h2]; simp [z1]
  have o1 := own_litX (w := w) L h1 (by omega) (fun x hx => (hL x hx).1) R hps
  have hb : BlkX w2 (w.heap.size + 1) (xcell (R, some ⟨w.heap.size, 0, none⟩, L.length)).toArray := by
    rw [h2, ← z1]; exact BlkX.new w1 _
  refine ⟨⟨hb.keep (b3.block _ (by omega)), (NodeAt.mono (fun b (hk : b < w1.heap.size) => ⟨⟨by have := b3.size; omega, by omega, fun h => h⟩, fun o => ((b2.mono (Nat.le_refl _)).trans (b3.mono (by omega))).cell (p := ⟨b, o, none⟩) hk⟩) o1), .mk _ hw (fun p hp => ?_)⟩, (b1.trans (b2.mono (by omega))).trans (b3.mono (by omega)), by omega⟩
  rw [hps] at hp
  obtain ⟨y, hy, rfl⟩ := List.mem_map.1 hp
  exact (hL y hy).2
theorem klaid_b {w W : World} (L : List Nx) (hL : ∀ y ∈ L, OwnX w y ∧ Words y.1) (hl : L.length ≤ 1000) (R : T) (hps : R.ps = L.map (·.1)) (hw : Wok R.w4)
    (hW : W = ((w.alloc (.cells (xcell (R, some ⟨w.heap.size + 1, 0, none⟩, L.length)).toArray 48)).alloc (kC L)).drew) :
    KTow W w.heap.size (fun _ => False) (R, some ⟨w.heap.size + 1, 0, none⟩, L.length) ∧ Below w.heap.size w W ∧ w.heap.size ≤ w.heap.size := by
  obtain ⟨w1, h1⟩ : ∃ w1, w1 = w.alloc (.cells (xcell (R, some ⟨w.heap.size + 1, 0, none⟩, L.length)).toArray 48) := ⟨_, rfl⟩
  rw [← h1] at hW
  have z1 : w1.heap.size = w.heap.size + 1 := by rw [h1]; simp
  obtain ⟨w2, h2⟩ : ∃ w2, w2 = w1.alloc (kC L) := ⟨_, rfl⟩
  rw [← h2] at hW
  have b1 : Below w.heap.size w w1 := by rw [h1]; exact kal _ _
  have b2 : Below w1.heap.size w1 w2 := by rw [h2]; exact kal _ _
  have b3 : Below w2.heap.size w2 W := by rw [hW]; exact (Below.refl _ _).drew
  have z2 : w2.heap.size = w.heap.size + 2 := by rw [h2]; simp [z1]
  have hb : BlkX w1 w.heap.size (xcell (R, some ⟨w.heap.size + 1, 0, none⟩, L.length)).toArray := by rw [h1]; exact BlkX.new w _
  have h8 := at8_litX L h2
  rw [z1] at h8
  have hbw2 : Below w.heap.size w w2 := b1.trans (b2.mono (by omega))
  have hN := node_litX (W := w2) (ok := fun b => b < w2.heap.size ∧ b ≠ w.heap.size) (g := w.heap.size + 1) R L hps (by omega) ⟨by omega, by omega⟩ h8 (fun i y hi => NodeAt.mono (fun b (hk : b < w.heap.size) => ⟨⟨by omega, by omega⟩, fun o => hbw2.cell (p := ⟨b, o, none⟩) hk⟩) (hL y (List.mem_of_getElem? hi)).1)
  refine ⟨⟨(hb.keep (b2.block _ (by omega))).keep (b3.block _ (by omega)), hN.mono fun b hk => ⟨⟨by have := b3.size; omega, hk.2, fun h => h⟩, fun o => b3.cell (p := ⟨b, o, none⟩) hk.1⟩, .mk _ hw (fun p hp => ?_)⟩, hbw2.trans (b3.mono (by omega)), Nat.le_refl _⟩
  rw [hps] at hp
  obtain ⟨y, hy, rfl⟩ := List.mem_map.1 hp
  exact (hL y hy).2
theorem ktwo {w : World} {x y : Nx} (hx : OwnX w x ∧ Words x.1) (hy : OwnX w y ∧ Words y.1) : ∀ z ∈ [x, y], OwnX w z ∧ Words z.1 := fun z hz => by
  simp only [List.mem_cons, List.not_mem_nil, or_false] at hz
  rcases hz with rfl | rfl
  · exact hx
  · exact hy
theorem kback2 {f : Nat} (hf : KN f) {w0 u : World} (he : KEnv w0) (hb : Below w0.heap.size w0 u) {x y : Nx} (hx : OwnX u x ∧ Words x.1) (hy : OwnX u y ∧ Words y.1) (k : Int) :
    Calls Tryz.prog f #[.agg #[.int .i64 k, .int .u64 0, .int .u64 0, .int .u64 0, .int .u64 0, .int .i64 0, .int .i64 0, .slice (some ⟨u.heap.size, 0, none⟩) 2 2]] (u.alloc (kC [x, y])) fun e w' => KTrue (u.alloc (kC [x, y])) e w' :=
  hf _ (he.step (hb.alloc hb.size _)) (.mk k 0 0 0 0 0 0 [x.1, y.1], some ⟨u.heap.size, 0, none⟩, 2)
    (own_litX (w := u) [x, y] rfl (by simp) (fun z hz => (ktwo hx hy z hz).1) (.mk k 0 0 0 0 0 0 [x.1, y.1]) rfl)
    (.mk _ wok0 (fun p hp => by
      have : p = x.1 ∨ p = y.1 := by simpa [T.ps] using hp
      rcases this with rfl | rfl
      · exact hx.2
      · exact hy.2))
end Go.Proofs.YthlakbjnmbddaaaGreatDoor

/- vouchlaw10.trees: walked. -/
set_option linter.unusedVariables false
set_option linter.unusedSimpArgs false
namespace Go.Proofs.YthlakbjnmbddaaaGreatDoor
open Go.RowKit

set_option maxRecDepth 100000 in
set_option maxHeartbeats 32000000 in
theorem ktrees_any (hT : KN 27) (hBk : KN 28) (hK : K0 24) : K0 12 := by
  intro w hE
  have HT := Lib.hid hT; have HBk := Lib.hid hBk; have HK := Lib.hid hK; have HE := Lib.hid hE
  clear hT hBk hK hE
  go_enter Tryz.func12, Tryz.ntmps12
  go_upto_region 2 with fail
  generalize hW : World.alloc _ _ = W1
  have hb1 : Below w.heap.size w W1 := by subst hW; exact (Below.refl _ _).alloc (Nat.le_refl _) _
  have hbx : BlkX W1 w.heap.size #[.int .i64 1, .int .u64 0, .int .u64 2, .int .u64 0, .int .u64 0, .int .i64 0, .int .i64 0, .slice none 0 0] := by subst hW; exact BlkX.new w _
  have HB1 := Lib.hid hb1; have Hbx := Lib.hid hbx
  have f0 := hbx.cell 0; have f1 := hbx.cell 1; have f2 := hbx.cell 2; have f3 := hbx.cell 3; have f4 := hbx.cell 4; have f5 := hbx.cell 5; have f6 := hbx.cell 6; have f7 := hbx.cell 7
  have hl := hbx.lt
  simp only [List.getElem?_toArray, List.getElem?_cons_succ, List.getElem?_cons_zero] at f0 f1 f2 f3 f4 f5 f6 f7
  clear hW hb1 hbx
  generalize hba : w.heap.size = ba at *
  have hl1 : ba < W1.heap.size + 1 := by omega
  have hm1 : ba < W1.heap.size + 1 := by omega
  have hl2 : ba < W1.heap.size + 2 := by omega
  have hm2 : ba < W1.heap.size + 1 + 1 := by omega
  have hl3 : ba < W1.heap.size + 3 := by omega
  have hm3 : ba < W1.heap.size + 1 + 1 + 1 := by omega
  have hl4 : ba < W1.heap.size + 4 := by omega
  have hm4 : ba < W1.heap.size + 1 + 1 + 1 + 1 := by omega
  have hl5 : ba < W1.heap.size + 5 := by omega
  have hm5 : ba < W1.heap.size + 1 + 1 + 1 + 1 + 1 := by omega
  have hl6 : ba < W1.heap.size + 6 := by omega
  have hm6 : ba < W1.heap.size + 1 + 1 + 1 + 1 + 1 + 1 := by omega
  have hl7 : ba < W1.heap.size + 7 := by omega
  have hm7 : ba < W1.heap.size + 1 + 1 + 1 + 1 + 1 + 1 + 1 := by omega
  have hl8 : ba < W1.heap.size + 8 := by omega
  have hm8 : ba < W1.heap.size + 1 + 1 + 1 + 1 + 1 + 1 + 1 + 1 := by omega
  have hl9 : ba < W1.heap.size + 9 := by omega
  have hm9 : ba < W1.heap.size + 1 + 1 + 1 + 1 + 1 + 1 + 1 + 1 + 1 := by omega
  have hl10 : ba < W1.heap.size + 10 := by omega
  have hm10 : ba < W1.heap.size + 1 + 1 + 1 + 1 + 1 + 1 + 1 + 1 + 1 + 1 := by omega
  go_upto_region 3 with fail
  generalize hW : World.alloc _ _ = W2
  replace hW : (kW9 W1).alloc (kC (kL20 W1.heap.size)) = W2 := hW
  have hK2 := klist20 W1 (ba + 1) W1.heap.size rfl (by omega)
  have hb2 : Below W1.heap.size W1 W2 := by rw [← hW]; exact (kW9_below W1).alloc (kW9_below W1).size _
  rw [hW] at hK2
  have HB2 := Lib.hid (HB1.out.trans (hb2.mono (by omega))); have Hbx2 := Lib.hid (Hbx.out.keep (hb2.block ba hl))
  have hlen := (show (kL20 W1.heap.size).length = 20 from rfl)
  have hg9 : W1.heap.size + 9 = W1.heap.size + 1 + 1 + 1 + 1 + 1 + 1 + 1 + 1 + 1 := rfl
  rw [hg9] at hK2
  have hz2 : W1.heap.size ≤ W2.heap.size := hb2.size
  clear hW hb2 HB1 Hbx f0 f1 f2 f3 f4 f5 f6 f7 hg9 hl1 hm1 hl2 hm2 hl3 hm3 hl4 hm4 hl5 hm5 hl6 hm6 hl7 hm7 hl8 hm8 hl9 hm9 hl10 hm10
  generalize W1.heap.size + 1 + 1 + 1 + 1 + 1 + 1 + 1 + 1 + 1 = g0 at *
  generalize kL20 W1.heap.size = ns0 at *
  have hK2' : KList W2 (ba + 1) ns0 (some ⟨g0, 0, none⟩) 20 := hK2
  have hl2 : ba < W2.heap.size := by omega
  clear hK2 hl hz2
  have HK2 := Lib.hid hK2'
  clear hK2'
  go_upto_region 4 with fail
  generalize hW : World.alloc _ _ = W3
  obtain ⟨hI, hb3⟩ := IntsZ.lit [-1, 0, 1, 2, 254, 255, 256] hW
  have hK3 := HK2.out.later hb3
  have hne3 : (Value.slice (some ⟨g0, 0, none⟩) ns0.length 20).ownBlock ≠ some W2.heap.size := fun e => by have := (HK2.out.own.lt _ e).2; omega
  have HB3 := Lib.hid (HB2.out.trans (hb3.mono (by omega))); have Hbx3 := Lib.hid (Hbx2.out.keep (hb3.block ba hl2)); have HI3 := Lib.hid hI; have HK3 := Lib.hid hK3; have Hne3 := Lib.hid hne3; have Hlen := Lib.hid hlen
  simp only [List.length_cons, List.length_nil, Nat.zero_add] at HI3
  have hbg : ba < W2.heap.size := hl2
  clear hW hI hb3 hK3 hne3 HB2 Hbx2 HK2 hl2 hlen
  generalize W2.heap.size = g7 at *
  go_wp2_with fail
  go_loopg [2, 61] 7 (fun n l i wr => ∃ (q : Nat) (ns : List Nx) (A : Option Addr) (c : Nat), l = .slice A ns.length c ∧ i = .int .i64 q ∧ q + n = 7 ∧ ns.length = 20 + 8 * q ∧ KList wr (ba + 1) ns A c ∧ (Value.slice A ns.length c).ownBlock ≠ some g7 ∧ Below w.heap.size w wr ∧ BlkX wr ba #[.int .i64 1, .int .u64 0, .int .u64 2, .int .u64 0, .int .u64 0, .int .i64 0, .int .i64 0, .slice none 0 0] ∧ IntsZ wr g7 7)
  case atStart => exact ⟨0, ns0, some ⟨g0, 0, none⟩, 20, by rw [Hlen.out], rfl, rfl, Hlen.out, HK3.out, Hne3.out, by rw [hba]; exact HB3.out, Hbx3.out, HI3.out⟩
  case round =>
    clear HB3 Hbx3 HI3 HK3 Hne3 Hlen
    obtain ⟨q, ns, A, c, rfl, rfl, hq, hns, hK, hne, hB, hbx, hI⟩ := hrel
    have HB := Lib.hid hB; have HI := Lib.hid hI; have Hq := Lib.hid hq; have HKl := Lib.hid hK; have Hne := Lib.hid hne; have Hbx := Lib.hid hbx; have Hns := Lib.hid hns
    clear hB hI hq hK hne hbx hns
    by_cases hlq : q < 7
    · have hlqi : (q : Int) < 7 := by omega
      obtain ⟨m, hc⟩ := HI.out.2 q hlq
      have hgz := HI.out.1
      go_upto_region 7 with fail
      generalize hW : World.alloc _ _ = W4
      obtain ⟨hI8, hb4⟩ := IntsZ.lit [-2, -1, 0, 1, 2, 254, 255, 256] hW
      have hne8 : (Value.slice A ns.length c).ownBlock ≠ some wr.heap.size := fun e => by have := (HKl.out.own.lt _ e).2; omega
      have hbl := Hbx.out.lt
      have HB4 := Lib.hid (HB.out.trans (hb4.mono HB.out.size)); have Hbx4 := Lib.hid (Hbx.out.keep (hb4.block ba hbl)); have HI4 := Lib.hid (HI.out.later hb4); have HI8 := Lib.hid hI8; have HK4 := Lib.hid (HKl.out.later hb4); have Hne8 := Lib.hid hne8
      simp only [List.length_cons, List.length_nil, Nat.zero_add] at HI8
      have hg78 : g7 < wr.heap.size := hgz
      clear hW hI8 hb4 hne8 HB Hbx HI HKl hc hgz hbl
      generalize wr.heap.size = g8 at *
      obtain ⟨G, hG⟩ : ∃ G, G = gk := ⟨_, rfl⟩
      subst hG
      go_loopg [2, 67] 8 (fun n l i wr => ∃ (r : Nat) (ns : List Nx) (A : Option Addr) (c : Nat), l = .slice A ns.length c ∧ i = .int .i64 r ∧ r + n = 8 ∧ ns.length = 20 + 8 * q + r ∧ KList wr (ba + 1) ns A c ∧ (Value.slice A ns.length c).ownBlock ≠ some g7 ∧ (Value.slice A ns.length c).ownBlock ≠ some g8 ∧ Below w.heap.size w wr ∧ BlkX wr ba #[.int .i64 1, .int .u64 0, .int .u64 2, .int .u64 0, .int .u64 0, .int .i64 0, .int .i64 0, .slice none 0 0] ∧ IntsZ wr g7 7 ∧ IntsZ wr g8 8)
      case atStart => exact ⟨0, ns, A, c, rfl, rfl, rfl, by rw [Hns.out]; rfl, HK4.out, Hne.out, Hne8.out, HB4.out, Hbx4.out, HI4.out, HI8.out⟩
      case round =>
        clear HB4 Hbx4 HI4 HI8 HK4 Hne8 Hne Hns
        obtain ⟨r, ns, A, c, rfl, rfl, hr, hns, hK, hne, hne8, hB, hbx, hI, hI8⟩ := hrel
        have HB := Lib.hid hB; have HI := Lib.hid hI; have HI8 := Lib.hid hI8; have Hr := Lib.hid hr; have HKl := Lib.hid hK; have Hne := Lib.hid hne; have Hne8 := Lib.hid hne8; have Hbx := Lib.hid hbx; have Hns := Lib.hid hns
        clear hB hI hI8 hr hK hne hne8 hbx hns
        by_cases hlr : r < 8
        · have hlri : (r : Int) < 8 := by omega
          obtain ⟨v, hc⟩ := HI8.out.2 r hlr
          have hgz := HI8.out.1
          have f0 := Hbx.out.cell 0; have f1 := Hbx.out.cell 1; have f2 := Hbx.out.cell 2; have f3 := Hbx.out.cell 3; have f4 := Hbx.out.cell 4; have f5 := Hbx.out.cell 5; have f6 := Hbx.out.cell 6; have f7 := Hbx.out.cell 7
          have hbl := Hbx.out.lt
          simp only [List.getElem?_toArray, List.getElem?_cons_succ, List.getElem?_cons_zero] at f0 f1 f2 f3 f4 f5 f6 f7
          have hnl : ns.length ≤ 1000 := by have := Hns.out; omega
          have hy := ky_node wr (Value.slice A ns.length c).ownBlock (fun k hk => (HKl.out.own.lt k hk).2) (.mk 6 0 0 0 0 m v [kaT]) rfl (.cells (xcell (.mk 6 0 0 0 0 m v [kaT], some ⟨wr.heap.size, 0, none⟩, 1)).toArray 48)
          have hal : Below wr.heap.size wr ((wr.alloc (kC [kaX])).alloc (.cells (xcell (.mk 6 0 0 0 0 m v [kaT], some ⟨wr.heap.size, 0, none⟩, 1)).toArray 48)) := ((Below.refl _ _).alloc (Nat.le_refl _) _).alloc (by simp) _
          have Hy := Lib.hid hy; have Hal := Lib.hid hal
          clear hy hal
          go_wp2_with (at_builtin; refine wpList_append_fromX (ba + 1) rfl _ _ 46 48 _ 8 80 rfl Tryz.underlying46 Tryz.infoNodeX rfl (by omega) (by omega) (.slice A ns.length c) ns.length 1 (xcells ns) (xcell (.mk 6 0 0 0 0 m v [kaT], some ⟨wr.heap.size, 0, none⟩, 1)) (some ⟨wr.heap.size + 1, 0, none⟩) 1 rfl rfl (by simp) rfl (knews2 wr _ _) (xcell_one _) ((HKl.out.own.alloc _).alloc _) (by simp; omega) (by omega) (fun A5 c5 w5 ho5 hg5 hat5 => ?_); have HP5 := Lib.hid (HKl.out.push Hal.out (by omega) Hy.out (ky_words m v) ho5 hg5 hat5); clear ho5 hg5 hat5)
          obtain ⟨hK5, hB5, hfr, hat⟩ := HP5.out
          have hr := Hr.out
          have hl5 : (ns ++ [((T.mk 6 0 0 0 0 m v [kaT], some ⟨wr.heap.size, 0, none⟩, 1) : Nx)]).length = ns.length + 1 := by rw [List.length_append]; rfl
          have alt : ∀ g, g < wr.heap.size → (Value.slice A ns.length c).ownBlock ≠ some g → (Value.slice A5 (ns ++ [((T.mk 6 0 0 0 0 m v [kaT], some ⟨wr.heap.size, 0, none⟩, 1) : Nx)]).length c5).ownBlock ≠ some g := fun g hg hn e => by
            rcases hat with e2 | ⟨g', e2, e3⟩
            · exact hn (e2.symm.trans e)
            · have := e.symm.trans e2
              simp only [Option.some.injEq] at this
              omega
          have n7 := alt g7 HI.out.1 Hne.out
          have n8 := alt g8 HI8.out.1 Hne8.out
          have i7 := HI.out.kept hB5.size (hfr g7 HI.out.1 (fun e => Hne.out e.symm))
          have i8 := HI8.out.kept hB5.size (hfr g8 HI8.out.1 (fun e => Hne8.out e.symm))
          have hbx5 := Hbx.out.keep (hB5.block ba (by omega))
          have HF := Lib.hid (And.intro hK5 (And.intro n7 (And.intro n8 (And.intro i7 (And.intro i8 (And.intro hbx5 (And.intro (HB.out.trans (hB5.mono (by omega))) hl5)))))))
          clear hK5 hB5 hfr hat HP5 alt n7 n8 i7 i8 hbx5 hl5 Hy Hal f0 f1 f2 f3 f4 f5 f6 f7
          generalize ns ++ [((T.mk 6 0 0 0 0 m v [kaT], some ⟨wr.heap.size, 0, none⟩, 1) : Nx)] = ns5 at *
          go_roundg (gk - 1)
          case measure => omega
          case rel => exact ⟨r + 1, ns5, A5, c5, by rw [HF.out.2.2.2.2.2.2.2], by go_num, by omega, by rw [HF.out.2.2.2.2.2.2.2, Hns.out]; omega, HF.out.1, HF.out.2.1, HF.out.2.2.1, HF.out.2.2.2.2.2.2.1, HF.out.2.2.2.2.2.1, HF.out.2.2.2.1, HF.out.2.2.2.2.1⟩
        · have hr' : (8 : Int) ≤ (r : Int) := by omega
          have hr8 : r = 8 := by have := Hr.out; omega
          clear HI8 Hne8
          go_wp2_with fail
          have hq := Hq.out
          go_roundg (G - 1)
          case measure => omega
          case rel => exact ⟨q + 1, ns, A, c, rfl, by go_num, by omega, by rw [Hns.out]; omega, HKl.out, Hne.out, HB.out, Hbx.out, HI.out⟩
    · have hq7 : q = 7 := by have := Hq.out; omega
      have hq' : (7 : Int) ≤ (q : Int) := by omega
      obtain ⟨g, rfl, hnd, hcap⟩ := HKl.out.nds (by have := Hns.out; omega)
      have hn76 : ns.length = 76 := by have := Hns.out; omega
      rw [hn76] at hnd hcap
      have HNd := Lib.hid hnd
      clear HKl Hne Hbx HI Hq Hns hnd hlq
      rw [hn76]
      clear hn76
      clear hq7
      go_wp2_with fail
      clear hq'
      go_loopg [7] 76 (fun n i wr => ∃ q : Nat, i = .int .i64 q ∧ q + n = 76 ∧ Below w.heap.size w wr ∧ Nds wr g 76)
      case atStart => exact ⟨0, rfl, rfl, HB.out, HNd.out⟩
      case round =>
        clear HB HNd
        obtain ⟨q, rfl, hq, hB, hN⟩ := hrel
        have HB := Lib.hid hB; have HNd := Lib.hid hN; have Hq := Lib.hid hq
        clear hB hN hq
        by_cases hlq : q < 76
        · have hlqi : (q : Int) < 76 := by omega
          obtain ⟨x, hx8, hxo, hxw⟩ := HNd.out.2 q hlq
          have hgl := HNd.out.1
          obtain ⟨f0, f1, f2, f3, f4, f5, f6, f7⟩ := hx8
          obtain ⟨G, hG⟩ : ∃ G, G = gk := ⟨_, rfl⟩
          subst hG
          go_wp2_with fail
          refine (HT.out wr (HE.out.step HB.out) x hxo hxw).mono ?_
          rintro e w1 ⟨rfl, hb1⟩
          have HB1 := Lib.hid (HB.out.trans (hb1.mono HB.out.size)); have HN1 := Lib.hid (HNd.out.later hb1)
          clear hb1 f0 f1 f2 f3 f4 f5 f6 f7 hxo hxw HB HNd hgl
          obtain ⟨x, hx8, hxo, hxw⟩ := HN1.out.2 q hlq
          have hgl := HN1.out.1
          obtain ⟨f0, f1, f2, f3, f4, f5, f6, f7⟩ := hx8
          go_wp2_with fail
          refine (HBk.out w1 (HE.out.step HB1.out) x hxo hxw).mono ?_
          rintro e w2 ⟨rfl, hb2⟩
          have HB2 := Lib.hid (HB1.out.trans (hb2.mono HB1.out.size)); have HN2 := Lib.hid (HN1.out.later hb2)
          clear hb2 f0 f1 f2 f3 f4 f5 f6 f7 hxo hxw HB1 HN1 hgl
          go_wp2_with fail
          go_loopg [8] 24 (fun n i wr => ∃ k : Nat, i = .int .i64 k ∧ k + n = 24 ∧ Below w.heap.size w wr ∧ Nds wr g 76)
          case atStart => exact ⟨0, rfl, rfl, HB2.out, HN2.out⟩
          case round =>
            clear HB2 HN2
            obtain ⟨k, rfl, hk, hB, hN⟩ := hrel
            have HB := Lib.hid hB; have HNd := Lib.hid hN; have Hk := Lib.hid hk
            clear hB hN hk
            by_cases hlk : k < 24
            · have hlki : (k : Int) < 24 := by omega
              obtain ⟨G2, hG2⟩ : ∃ G, G = gk := ⟨_, rfl⟩
              subst hG2
              go_wp2_with fail
              go_loopg [9] 3 (fun n i wr => ∃ r : Nat, i = .int .i64 (4 + (r : Int)) ∧ r + n = 3 ∧ Below w.heap.size w wr ∧ Nds wr g 76)
              case atStart => exact ⟨0, by simp, rfl, HB.out, HNd.out⟩
              case round =>
                clear HB HNd
                obtain ⟨r, rfl, hr, hB, hN⟩ := hrel
                have HB := Lib.hid hB; have HNd := Lib.hid hN; have Hr := Lib.hid hr
                clear hB hN hr
                by_cases hlr : r < 3
                · have hlri : (4 : Int) + (r : Int) ≤ 6 := by omega
                  obtain ⟨⟨tx, Ax, cx⟩, hx8, hxo, hxw⟩ := HNd.out.2 q hlq
                  obtain ⟨⟨ty, Ay, cy⟩, hy8, hyo, hyw⟩ := HNd.out.2 k (by omega)
                  have Hxo := Lib.hid (And.intro hxo hxw); have Hyo := Lib.hid (And.intro hyo hyw)
                  have hgl := HNd.out.1
                  have Hx8 := Lib.hid hx8; have Hy8 := Lib.hid hy8
                  obtain ⟨f0, f1, f2, f3, f4, f5, f6, f7⟩ := hx8
                  obtain ⟨g0, g1, g2, g3, g4, g5, g6, g7⟩ := hy8
                  clear hxo hxw hyo hyw
                  have hk76 : (k : Int) < 76 := by omega
                  simp only at f0 f1 f2 f3 f4 f5 f6 f7 g0 g1 g2 g3 g4 g5 g6 g7
                  go_upto_region 23 with fail
                  go_cut [10] (fun v wx => ∃ (b : Nat) (z : Nx), v = .pointer (some ⟨b, 0, none⟩) ∧ KTow wx b (fun _ => False) z ∧ Below wr.heap.size wr wx ∧ wr.heap.size ≤ b)
                  case first =>
                    go_region
                    all_goals go_wp2_with fail
                    all_goals go_meet
                    all_goals first
                      | exact ⟨_, _, rfl, klaid_a [(tx, Ax, cx), (ty, Ay, cy)] (ktwo Hxo.out Hyo.out) (by simp) (.mk (4 + (r : Int)) 0 0 0 0 0 0 [tx, ty]) rfl wok0 rfl⟩
                      | exact ⟨_, _, rfl, klaid_b [(tx, Ax, cx), (ty, Ay, cy)] (ktwo Hxo.out Hyo.out) (by simp) (.mk (4 + (r : Int)) 0 0 0 0 0 0 [tx, ty]) rfl wok0 rfl⟩
                  case rest =>
                    obtain ⟨b, z, rfl, hz, hBc, hbw⟩ := hcut
                    clear f0 f1 f2 f3 f4 f5 f6 f7 g0 g1 g2 g3 g4 g5 g6 g7
                    have HBc := Lib.hid hBc; have Hz := Lib.hid hz
                    clear hBc hz
                    by_cases h6 : r = 2
                    · have h6' : ((4 : Int) + (r : Int) == 6) = true := by rw [beq_iff_eq]; omega
                      have hq3 : (k : Int).tmod 3 = ((k % 3 : Nat) : Int) := by rw [Int.tmod_eq_emod_of_nonneg (by omega)]; omega
                      have hk3 : k % 3 < 3 := by omega
                      generalize k % 3 = k3 at *
                      clear h6
                      have hx8c := Hx8.out.laterX HBc.out hgl
                      have hglc := Nat.lt_of_lt_of_le hgl HBc.out.size
                      obtain ⟨g0, g1, g2, g3, g4, g5, g6, g7⟩ := hx8c
                      obtain ⟨⟨f0, f1, f2, f3, f4, f5, f6, f7⟩, hzz⟩ := Hz.out.blk.cells8
                      have z0 := hzz 0; have z1 := hzz 1; have z2 := hzz 2; have z3 := hzz 3; have z4 := hzz 4; have z5 := hzz 5; have z6 := hzz 6; have z7 := hzz 7
                      have hbl := Hz.out.blk.lt
                      clear hzz
                      obtain ⟨z, zA, zc⟩ := z
                      simp only at f0 f1 f2 f3 f4 f5 f6 f7 g0 g1 g2 g3 g4 g5 g6 g7
                      go_upto_region 26 with fail
                      generalize hW : World.alloc _ _ = W6
                      replace hW : (writeX wc b (.mk (4 + (r : Int)) 0 0 0 0 (k3 : Int) ((k3 : Int) + 1) [tx], some ⟨wc.heap.size, 0, none⟩, 1)).alloc (.cells (xcells [(tx, Ax, cx)]).toArray 48) = W6 := hW
                      have hD8 := Hz.out.put [(tx, Ax, cx)] (fun h => h) (by simp) (fun y hy => by
                        have : y = (tx, Ax, cx) := by simpa using hy
                        subst this
                        exact ⟨NodeAt.mono (fun b' (hb' : b' < wr.heap.size) => ⟨⟨Nat.lt_of_lt_of_le hb' HBc.out.size, by omega, fun h => h⟩, fun o => HBc.out.cell (p := ⟨b', o, none⟩) hb'⟩) Hxo.out.1, Hxo.out.2⟩) (.mk (4 + (r : Int)) 0 0 0 0 (k3 : Int) ((k3 : Int) + 1) [tx]) rfl wok0
                      have hB8 : Below wr.heap.size wr W6 := by rw [← hW]; exact (writeX_below HBc.out hbw _).alloc (by rw [writeX_size]; exact HBc.out.size) _
                      simp only [List.length_cons, List.length_nil, Nat.zero_add] at hD8
                      rw [hW] at hD8
                      clear hW f0 f1 f2 f3 f4 f5 f6 f7 g0 g1 g2 g3 g4 g5 g6 g7 z0 z1 z2 z3 z4 z5 z6 z7 hglc hbl Hz HBc hq3 hk3
                      have Hz := Lib.hid hD8; have HBc := Lib.hid hB8
                      clear hD8 hB8
                      generalize (T.mk (4 + (r : Int)) 0 0 0 0 (k3 : Int) ((k3 : Int) + 1) [tx]) = z at *
                      generalize (some ⟨wc.heap.size, 0, none⟩ : Option Addr) = zA at *
                      have Hz5 := Hz
                      obtain ⟨⟨f0, f1, f2, f3, f4, f5, f6, f7⟩, _⟩ := Hz5.out.blk.cells8
                      have hy8 := Hy8.out.laterX HBc.out hgl
                      have hgl2 := Nat.lt_of_lt_of_le hgl HBc.out.size
                      have hbl := Hz5.out.blk.lt
                      obtain ⟨g0, g1, g2, g3, g4, g5, g6, g7⟩ := hy8
                      simp only at f0 f1 f2 f3 f4 f5 f6 f7 g0 g1 g2 g3 g4 g5 g6 g7
                      have HD := Lib.hid ((Below.refl W6.heap.size W6).drew)
                      have HBw := Lib.hid ((HB.out.trans (HBc.out.mono HB.out.size)).drew)
                      have Hzo := Lib.hid (And.intro (Hz5.out.own.later HD.out) Hz5.out.words)
                      have Hyo5 := Lib.hid (And.intro (Hyo.out.1.later HBc.out) Hyo.out.2)
                      go_wp2_with fail
                      go_region_with (first
                        | (go_at_call 27; refine (HT.out _ (HE.out.step HBw.out) (z, zA, 1) Hzo.out.1 Hzo.out.2).mono ?_; rintro e w5 ⟨rfl, hb5⟩; have HB5 := Lib.hid (HBw.out.trans (hb5.mono HBw.out.size)); have HZ5 := Lib.hid (And.intro (Hzo.out.1.later hb5) Hzo.out.2); have HY5 := Lib.hid (And.intro ((Hyo5.out.1.later HD.out).later hb5) Hyo5.out.2); have HN5 := Lib.hid (HNd.out.later (HBc.out.trans ((HD.out.trans hb5).mono HBc.out.size))); have hbk5 := (Hz5.out.later (HD.out.trans hb5)).blk; have hy85 := (Hy8.out.laterX HBc.out hgl).laterX (HD.out.trans hb5) hgl2; have hgl5 := Nat.lt_of_lt_of_le hgl2 (HD.out.trans hb5).size; clear f0 f1 f2 f3 f4 f5 f6 f7 g0 g1 g2 g3 g4 g5 g6 g7; obtain ⟨⟨f0, f1, f2, f3, f4, f5, f6, f7⟩, _⟩ := hbk5.cells8; obtain ⟨g0, g1, g2, g3, g4, g5, g6, g7⟩ := hy85; simp only at f0 f1 f2 f3 f4 f5 f6 f7 g0 g1 g2 g3 g4 g5 g6 g7; have hbl5 := hbk5.lt; clear hb5 hbk5)
                        | (go_at_call 28; refine (kback2 HBk.out HE.out HB5.out HZ5.out HY5.out 5).mono ?_; rintro e w6 ⟨rfl, hb6⟩; have hal5 := kal w5 (kC [(z, zA, 1), (ty, Ay, cy)]); have HB6 := Lib.hid (HB5.out.trans ((hal5.trans (hb6.mono hal5.size)).mono HB5.out.size)); have HN6 := Lib.hid (HN5.out.later (hal5.trans (hb6.mono hal5.size))); clear hb6 hal5))
                      all_goals
                        go_wp2_with fail
                        have hr := Hr.out
                        go_roundg (gk - 1)
                        case measure => omega
                        case rel => exact ⟨r + 1, by go_num, by omega, HB6.out, HN6.out⟩
                    · have h6' : ((4 : Int) + (r : Int) == 6) = false := by rw [beq_eq_false_iff_ne]; omega
                      clear h6
                      obtain ⟨z, zA, zc⟩ := z
                      have Hz5 := Hz
                      obtain ⟨⟨f0, f1, f2, f3, f4, f5, f6, f7⟩, _⟩ := Hz5.out.blk.cells8
                      have hy8 := Hy8.out.laterX HBc.out hgl
                      have hgl2 := Nat.lt_of_lt_of_le hgl HBc.out.size
                      have hbl := Hz5.out.blk.lt
                      obtain ⟨g0, g1, g2, g3, g4, g5, g6, g7⟩ := hy8
                      simp only at f0 f1 f2 f3 f4 f5 f6 f7 g0 g1 g2 g3 g4 g5 g6 g7
                      have HD := Lib.hid ((Below.refl wc.heap.size wc).drew)
                      have HBw := Lib.hid ((HB.out.trans (HBc.out.mono HB.out.size)).drew)
                      have Hzo := Lib.hid (And.intro (Hz5.out.own.later HD.out) Hz5.out.words)
                      have Hyo5 := Lib.hid (And.intro (Hyo.out.1.later HBc.out) Hyo.out.2)
                      go_wp2_with fail
                      go_region_with (first
                        | (go_at_call 27; refine (HT.out _ (HE.out.step HBw.out) (z, zA, zc) Hzo.out.1 Hzo.out.2).mono ?_; rintro e w5 ⟨rfl, hb5⟩; have HB5 := Lib.hid (HBw.out.trans (hb5.mono HBw.out.size)); have HZ5 := Lib.hid (And.intro (Hzo.out.1.later hb5) Hzo.out.2); have HY5 := Lib.hid (And.intro ((Hyo5.out.1.later HD.out).later hb5) Hyo5.out.2); have HN5 := Lib.hid (HNd.out.later (HBc.out.trans ((HD.out.trans hb5).mono HBc.out.size))); have hbk5 := (Hz5.out.later (HD.out.trans hb5)).blk; have hy85 := (Hy8.out.laterX HBc.out hgl).laterX (HD.out.trans hb5) hgl2; have hgl5 := Nat.lt_of_lt_of_le hgl2 (HD.out.trans hb5).size; clear f0 f1 f2 f3 f4 f5 f6 f7 g0 g1 g2 g3 g4 g5 g6 g7; obtain ⟨⟨f0, f1, f2, f3, f4, f5, f6, f7⟩, _⟩ := hbk5.cells8; obtain ⟨g0, g1, g2, g3, g4, g5, g6, g7⟩ := hy85; simp only at f0 f1 f2 f3 f4 f5 f6 f7 g0 g1 g2 g3 g4 g5 g6 g7; have hbl5 := hbk5.lt; clear hb5 hbk5)
                        | (go_at_call 28; refine (kback2 HBk.out HE.out HB5.out HZ5.out HY5.out 5).mono ?_; rintro e w6 ⟨rfl, hb6⟩; have hal5 := kal w5 (kC [(z, zA, zc), (ty, Ay, cy)]); have HB6 := Lib.hid (HB5.out.trans ((hal5.trans (hb6.mono hal5.size)).mono HB5.out.size)); have HN6 := Lib.hid (HN5.out.later (hal5.trans (hb6.mono hal5.size))); clear hb6 hal5))
                      all_goals
                        go_wp2_with fail
                        have hr := Hr.out
                        go_roundg (gk - 1)
                        case measure => omega
                        case rel => exact ⟨r + 1, by go_num, by omega, HB6.out, HN6.out⟩
                · have hr' : (6 : Int) < (4 : Int) + (r : Int) := by omega
                  go_wp2_with fail
                  have hk := Hk.out
                  go_roundg (G2 - 1)
                  case measure => omega
                  case rel => exact ⟨k + 1, by go_num, by omega, HB.out, HNd.out⟩
            · have hk' : (24 : Int) ≤ (k : Int) := by omega
              go_wp2_with fail
              have hq := Hq.out
              go_roundg (G - 1)
              case measure => omega
              case rel => exact ⟨q + 1, by go_num, by omega, HB.out, HNd.out⟩
        · have hq' : (76 : Int) ≤ (q : Int) := by omega
          go_wp2_with fail
          refine (HK.out wr (HE.out.step HB.out)).mono ?_
          rintro e w1 ⟨rfl, hb1⟩
          go_wp2_with fail
          go_ret
          exact ⟨rfl, HB.out.trans (hb1.mono HB.out.size)⟩
end Go.Proofs.YthlakbjnmbddaaaGreatDoor

/- The pattern reader's atom: walked. -/
set_option linter.unusedVariables false
set_option linter.unusedSimpArgs false
namespace Go.Proofs.YthlakbjnmbddaaaGreatDoor
open Go.RowKit

/-- What bracket does. -/
def BrC : Prop := ∀ (w : World) (p : Nat) (op : Int) (r : Bs), RS w p op (.ok r) → r.length ≤ 1024 → Calls Tryz.prog 129 #[.pointer (some ⟨p, 0, none⟩)] w fun en w' => ∃ (S : W4) (s' : Rs), en = .returned S.V ∧ RS w' p op s' ∧ Off p w w' ∧ Out bracketP (.ok r) (fun x => S = x) s'
/-- What where does with the test that is always true. -/
def DotC : Prop := ∀ (w : World), Calls Tryz.prog 130 #[.func (.func 131) #[] #[]] w fun en w' => en = .returned (w40.span 0 256).V ∧ Below w.heap.size w w'
theorem addW_blk {w : World} {b : Nat} {s : W4} (h : BlkX w b (xcell (s.T, none, 0)).toArray) (c : Nat) (hc : c < 256) : BlkX (addW w b 1 s c) b (xcell ((s.add c).T, none, 0)).toArray := by
  have h1 := h.set (1 + c / 64) (.int .u64 (orI (s.word (c / 64)) (2 ^ (c % 64))))
  unfold addW
  have e : (xcell (s.T, none, 0)).toArray.setIfInBounds (1 + c / 64) (.int .u64 (orI (s.word (c / 64)) (2 ^ (c % 64)))) = (xcell ((s.add c).T, none, 0)).toArray := by
    rcases (show c < 64 ∨ (64 ≤ c ∧ c < 128) ∨ (128 ≤ c ∧ c < 192) ∨ (192 ≤ c ∧ c < 256) by omega) with h | h | h | h
    · rw [show c / 64 = 0 by omega, show c % 64 = c by omega]
      simp [xcell, W4.T, W4.add, W4.word, T.k, T.s0, T.s1, T.s2, T.s3, T.mn, T.mx, T.ps, h]
    · rw [show c / 64 = 1 by omega, show c % 64 = c - 64 by omega]
      simp [xcell, W4.T, W4.add, W4.word, T.k, T.s0, T.s1, T.s2, T.s3, T.mn, T.mx, T.ps, show ¬ c < 64 by omega, h.2]
    · rw [show c / 64 = 2 by omega, show c % 64 = c - 128 by omega]
      simp [xcell, W4.T, W4.add, W4.word, T.k, T.s0, T.s1, T.s2, T.s3, T.mn, T.mx, T.ps, show ¬ c < 64 by omega, show ¬ c < 128 by omega, h.2]
    · rw [show c / 64 = 3 by omega, show c % 64 = c - 192 by omega]
      simp [xcell, W4.T, W4.add, W4.word, T.k, T.s0, T.s1, T.s2, T.s3, T.mn, T.mx, T.ps, show ¬ c < 64 by omega, show ¬ c < 128 by omega, show ¬ c < 192 by omega]
  rw [e] at h1
  exact h1
theorem BlkX.at4 {w : World} {b : Nat} {s : W4} (h : BlkX w b (xcell (s.T, none, 0)).toArray) : At4 w b 1 s := by
  obtain ⟨⟨_, f1, f2, f3, f4, _⟩, _⟩ := h.cells8
  exact ⟨f1, f2, f3, f4⟩
theorem Off.blk {p : Nat} {w w' : World} (h : Off p w w') {b : Nat} {cs : Array Value} (hb : BlkX w b cs) (hn : b ≠ p) : BlkX w' b cs := hb.keep (h.block b hb.lt (by simpa using hn))
/-- The reader's state where other blocks are written. -/
theorem RS.kept {w w' : World} {p : Nat} {op : Int} {s : Rs} (h : RS w p op s) (hz : w.heap.size ≤ w'.heap.size) (hb : w'.heap[p]? = w.heap[p]?) (hb0 : w'.heap[0]? = w.heap[0]?) : RS w' p op s :=
  ⟨⟨(World.cell?_of_block (w := w) hb).trans h.rdr.c0, (World.cell?_of_block (w := w) hb).trans h.rdr.c1, (World.cell?_of_block (w := w) hb).trans h.rdr.c2, fun o => (World.frozen?_of_block (w := w) (a := ⟨p, o, none⟩) hb).trans (h.rdr.z o), Nat.lt_of_lt_of_le h.lt hz, h.rdr.mx.of hb0, h.rdr.pn⟩, h.ne⟩

/-- The four cells of a set written. -/
def setW (w : World) (b : Nat) (S : W4) : World := (((w.setCell ⟨b, 1, none⟩ (.int .u64 S.a)).setCell ⟨b, 2, none⟩ (.int .u64 S.b)).setCell ⟨b, 3, none⟩ (.int .u64 S.c)).setCell ⟨b, 4, none⟩ (.int .u64 S.d)
theorem setW_blk {w : World} {b : Nat} {s : W4} (h : BlkX w b (xcell (s.T, none, 0)).toArray) (S : W4) : BlkX (setW w b S) b (xcell (S.T, none, 0)).toArray := by
  have h1 := (((h.set 1 (.int .u64 S.a)).set 2 (.int .u64 S.b)).set 3 (.int .u64 S.c)).set 4 (.int .u64 S.d)
  unfold setW; simpa [xcell, W4.T, T.k, T.s0, T.s1, T.s2, T.s3, T.mn, T.mx, T.ps] using h1
theorem setW_other (w : World) (b : Nat) (S : W4) (k : Nat) (hk : k ≠ b) : (setW w b S).heap[k]? = w.heap[k]? := by
  unfold setW
  iterate 3 rw [Below.heap_setCell _ _ _ _ hk]
  exact Below.heap_setCell _ _ _ _ hk
theorem setW_size (w : World) (b : Nat) (S : W4) : (setW w b S).heap.size = w.heap.size := by simp [setW]
theorem addW_other (w : World) (b o : Nat) (s : W4) (c k : Nat) (hk : k ≠ b) : (addW w b o s c).heap[k]? = w.heap[k]? := Below.heap_setCell _ _ _ _ hk
theorem addW_size (w : World) (b o : Nat) (s : W4) (c : Nat) : (addW w b o s c).heap.size = w.heap.size := by simp [addW]
theorem Off.far {p : Nat} {w w1 w2 : World} (h : Off p w w1) {b : Nat} (hb : w.heap.size ≤ b) (ho : w2.os = w1.os) (ht : w2.tape = w1.tape) (hp : w2.output = w1.output) (hz : w2.heap.size = w1.heap.size) (hk : ∀ k, k ≠ b → w2.heap[k]? = w1.heap[k]?) : Off p w w2 :=
  ⟨ho.trans h.os, ht.trans h.tape, hp.trans h.output, by rw [hz]; exact h.size, fun k hk1 hn => (hk k (by omega)).trans (h.block k hk1 hn)⟩
theorem Off.boxW {p : Nat} {w w1 : World} (h : Off p w w1) {b : Nat} (hb : w.heap.size ≤ b) (x : Nx) : Off p w (writeX w1 b x) := (fun hbel => h.far hb (Below.os hbel) (Below.tape hbel) (Below.output hbel) (writeX_size _ _ _) (fun k hk => writeX_other _ _ _ _ hk)) (writeX_below (Below.refl 0 w1) (Nat.zero_le b) x)
theorem Off.putW {p : Nat} {w w1 : World} (h : Off p w w1) {b : Nat} (hb : w.heap.size ≤ b) (o : Nat) (s : W4) (c : Nat) : Off p w (addW w1 b o s c).drew := h.far hb rfl rfl rfl (addW_size _ _ _ _ _) (fun k hk => addW_other _ _ _ _ _ _ hk)
theorem RS.boxW {w : World} {p : Nat} {op : Int} {s : Rs} (h : RS w p op s) {b : Nat} (hb : p < b) (x : Nx) : RS (writeX w b x) p op s := h.kept (by rw [writeX_size]; exact Nat.le_refl _) (writeX_other _ _ _ _ (by omega)) (writeX_other _ _ _ _ (by omega))
theorem RS.putW {w : World} {p : Nat} {op : Int} {s : Rs} (h : RS w p op s) {b : Nat} (hb : p < b) (o : Nat) (t : W4) (c : Nat) : RS (addW w b o t c).drew p op s := h.kept (by show w.heap.size ≤ (addW w b o t c).heap.size; rw [addW_size]; exact Nat.le_refl _) (addW_other _ _ _ _ _ _ (by omega)) (addW_other _ _ _ _ _ _ (by omega))
theorem Off.fillW {p : Nat} {w w1 : World} (h : Off p w w1) {b : Nat} (hb : w.heap.size ≤ b) (S : W4) : Off p w (setW w1 b S) := (fun hbel => h.far hb (Below.os hbel) (Below.tape hbel) (Below.output hbel) (setW_size _ _ _) (fun k hk => setW_other _ _ _ _ hk)) (((((Below.refl 0 w1).setCell (Nat.zero_le _) (p := ⟨b, 1, none⟩) (.int .u64 S.a)).setCell (Nat.zero_le _) (p := ⟨b, 2, none⟩) (.int .u64 S.b)).setCell (Nat.zero_le _) (p := ⟨b, 3, none⟩) (.int .u64 S.c)).setCell (Nat.zero_le _) (p := ⟨b, 4, none⟩) (.int .u64 S.d))
theorem RS.fillW {w : World} {p : Nat} {op : Int} {s : Rs} (h : RS w p op s) {b : Nat} (hb : p < b) (S : W4) : RS (setW w b S) p op s := h.kept (by rw [setW_size]; exact Nat.le_refl _) (setW_other _ _ _ _ (by omega)) (setW_other _ _ _ _ (by omega))
theorem u8_ne {c : UInt8} {k : Nat} (hk : k < 256) (h : c ≠ UInt8.ofNat k) : ((c.toNat : Int) == (k : Int)) = false := by
  rw [beq_eq_false_iff_ne]
  intro e
  apply h
  have e' : c.toNat = k := by omega
  rw [← e']
  simp

end Go.Proofs.YthlakbjnmbddaaaGreatDoor

/- Tests on bytes, handed round as functions; where: walked. -/
set_option linter.unusedVariables false
set_option linter.unusedSimpArgs false
namespace Go.Proofs.YthlakbjnmbddaaaGreatDoor
open Go.RowKit

/-- Blocks of cells stay as they are; maps may change. -/
structure CExt (w w' : World) : Prop where
  size : w.heap.size ≤ w'.heap.size
  cells : ∀ (k : Nat) (cs : Array Value) (t : TypeId) (z : Nat × Nat), w.heap[k]? = some (.cells cs t z) → w'.heap[k]? = some (.cells cs t z)
theorem CExt.refl (w : World) : CExt w w := ⟨Nat.le_refl _, fun _ _ _ _ h => h⟩
theorem CExt.trans {w w1 w2 : World} (h : CExt w w1) (k : CExt w1 w2) : CExt w w2 := ⟨Nat.le_trans h.size k.size, fun b cs t z e => k.cells b cs t z (h.cells b cs t z e)⟩
theorem CExt.of_below {w w' : World} (h : Below w.heap.size w w') : CExt w w' :=
  ⟨h.size, fun k cs t z e => (h.block k (Array.getElem?_eq_some_iff.1 e).1).trans e⟩
/-- A function on bytes that tests so. -/
def FnOf (w : World) (v : Value) (f : Nat → Bool) : Prop :=
  ∃ (fn : FuncId) (caps : Array Value), v = .func (.func fn) #[] caps ∧ (∀ args w, (callFunc fn args).run Tryz.prog w = .ok (.enter fn args) w) ∧ ∀ w', CExt w w' → ∀ c < 256, Calls Tryz.prog fn (#[.int .u8 (c : Nat)] ++ caps) w' fun en w'' => en = .returned (.bool (f c)) ∧ Below w'.heap.size w' w''
theorem FnOf.later {w w' : World} {v : Value} {f : Nat → Bool} (h : FnOf w v f) (k : CExt w w') : FnOf w' v f := by
  obtain ⟨fn, caps, rfl, hc, h⟩ := h
  exact ⟨fn, caps, rfl, hc, fun w2 k2 => h w2 (k.trans k2)⟩
theorem whereW_def (f : Nat → Bool) : whereW f = (List.range 256).foldl (fun s c => if f c then s.add c else s) w40 := rfl
theorem foldl_from (f : Nat → Bool) (j : Nat) (hj : j < 256) (s : W4) : (List.range' j (256 - j)).foldl (fun s c => if f c then s.add c else s) s = (List.range' (j + 1) (256 - (j + 1))).foldl (fun s c => if f c then s.add c else s) (if f j then s.add j else s) := by
  rw [show 256 - j = (256 - (j + 1)) + 1 by omega, List.range'_succ, List.foldl_cons]

theorem At4.addW {w : World} {b o : Nat} {s : W4} (h : At4 w b o s) (c : Nat) (hc : c < 256) : At4 (addW w b o s c) b o (s.add c) := by
  obtain ⟨f0, f1, f2, f3⟩ := h
  unfold Go.Proofs.YthlakbjnmbddaaaGreatDoor.addW
  rcases (show c < 64 ∨ (64 ≤ c ∧ c < 128) ∨ (128 ≤ c ∧ c < 192) ∨ (192 ≤ c ∧ c < 256) by omega) with h | h | h | h
  · rw [show c / 64 = 0 by omega, show c % 64 = c by omega]
    have e : s.add c = { s with a := orI s.a (2 ^ c) } := by simp [W4.add, h]
    rw [e]
    exact ⟨World.cell?_setCell_same _ _ _ f0, (World.cell?_setCell_other _ _ _ _ (by simp)).trans f1, (World.cell?_setCell_other _ _ _ _ (by simp)).trans f2, (World.cell?_setCell_other _ _ _ _ (by simp)).trans f3⟩
  · rw [show c / 64 = 1 by omega, show c % 64 = c - 64 by omega]
    have e : s.add c = { s with b := orI s.b (2 ^ (c - 64)) } := by simp [W4.add, show ¬ c < 64 by omega, h.2]
    rw [e]
    exact ⟨(World.cell?_setCell_other _ _ _ _ (by simp)).trans f0, World.cell?_setCell_same _ _ _ f1, (World.cell?_setCell_other _ _ _ _ (by simp)).trans f2, (World.cell?_setCell_other _ _ _ _ (by simp)).trans f3⟩
  · rw [show c / 64 = 2 by omega, show c % 64 = c - 128 by omega]
    have e : s.add c = { s with c := orI s.c (2 ^ (c - 128)) } := by simp [W4.add, show ¬ c < 64 by omega, show ¬ c < 128 by omega, h.2]
    rw [e]
    exact ⟨(World.cell?_setCell_other _ _ _ _ (by simp)).trans f0, (World.cell?_setCell_other _ _ _ _ (by simp)).trans f1, World.cell?_setCell_same _ _ _ f2, (World.cell?_setCell_other _ _ _ _ (by simp)).trans f3⟩
  · rw [show c / 64 = 3 by omega, show c % 64 = c - 192 by omega]
    have e : s.add c = { s with d := orI s.d (2 ^ (c - 192)) } := by simp [W4.add, show ¬ c < 64 by omega, show ¬ c < 128 by omega, show ¬ c < 192 by omega]
    rw [e]
    exact ⟨(World.cell?_setCell_other _ _ _ _ (by simp)).trans f0, (World.cell?_setCell_other _ _ _ _ (by simp)).trans f1, (World.cell?_setCell_other _ _ _ _ (by simp)).trans f2, World.cell?_setCell_same _ _ _ f3⟩
theorem At4.keep {w w' : World} {b o : Nat} {s : W4} (h : At4 w b o s) (hb : w'.heap[b]? = w.heap[b]?) : At4 w' b o s := by
  obtain ⟨f0, f1, f2, f3⟩ := h
  exact ⟨(World.cell?_of_block (w := w) hb).trans f0, (World.cell?_of_block (w := w) hb).trans f1, (World.cell?_of_block (w := w) hb).trans f2, (World.cell?_of_block (w := w) hb).trans f3⟩
/-- Four cells written. -/
def setV (w : World) (b : Nat) (S : W4) : World := (((w.setCell ⟨b, 0, none⟩ (.int .u64 S.a)).setCell ⟨b, 1, none⟩ (.int .u64 S.b)).setCell ⟨b, 2, none⟩ (.int .u64 S.c)).setCell ⟨b, 3, none⟩ (.int .u64 S.d)
theorem At4.setV {w : World} {b : Nat} {s : W4} (h : At4 w b 0 s) (S : W4) : At4 (setV w b S) b 0 S := by
  obtain ⟨f0, f1, f2, f3⟩ := h
  simp only [Nat.zero_add] at f1 f2 f3
  unfold Go.Proofs.YthlakbjnmbddaaaGreatDoor.setV
  constructor
  · rw [World.cell?_setCell_other _ _ _ _ (by simp), World.cell?_setCell_other _ _ _ _ (by simp), World.cell?_setCell_other _ _ _ _ (by simp)]
    exact World.cell?_setCell_same _ _ _ f0
  · rw [World.cell?_setCell_other _ _ _ _ (by simp), World.cell?_setCell_other _ _ _ _ (by simp)]
    exact World.cell?_setCell_same _ _ _ ((World.cell?_setCell_other _ _ _ _ (by simp)).trans f1)
  · rw [World.cell?_setCell_other _ _ _ _ (by simp)]
    exact World.cell?_setCell_same _ _ _ ((World.cell?_setCell_other _ _ _ _ (by simp)).trans ((World.cell?_setCell_other _ _ _ _ (by simp)).trans f2))
  · exact World.cell?_setCell_same _ _ _ ((World.cell?_setCell_other _ _ _ _ (by simp)).trans ((World.cell?_setCell_other _ _ _ _ (by simp)).trans ((World.cell?_setCell_other _ _ _ _ (by simp)).trans f3)))
theorem _root_.Go.RowKit.Below.setV {w w1 : World} {B : Nat} (h : Below B w w1) {b : Nat} (hb : B ≤ b) (S : W4) : Below B w (Go.Proofs.YthlakbjnmbddaaaGreatDoor.setV w1 b S) :=
  (((h.setCell hb (p := ⟨b, 0, none⟩) _).setCell hb (p := ⟨b, 1, none⟩) _).setCell hb (p := ⟨b, 2, none⟩) _).setCell hb (p := ⟨b, 3, none⟩) _
theorem At4.later {w w' : World} {b o B : Nat} {s : W4} (h : At4 w b o s) (hb : Below B w w') (hl : b < B) : At4 w' b o s := h.keep (hb.block b hl)
theorem _root_.Go.RowKit.Below.addW {w w1 : World} {B : Nat} (h : Below B w w1) {b : Nat} (hb : B ≤ b) (o : Nat) (s : W4) (c : Nat) : Below B w (Go.Proofs.YthlakbjnmbddaaaGreatDoor.addW w1 b o s c).drew :=
  ⟨h.os, h.tape, h.output, by show w.heap.size ≤ (Go.Proofs.YthlakbjnmbddaaaGreatDoor.addW w1 b o s c).heap.size; rw [addW_size]; exact h.size, fun k hk => (addW_other _ _ _ _ _ _ (by omega)).trans (h.block k hk)⟩
theorem _root_.Go.RowKit.Below.step {w w1 w2 : World} (h : Below w.heap.size w w1) (k : Below w1.heap.size w1 w2) : Below w.heap.size w w2 :=
  ⟨k.os.trans h.os, k.tape.trans h.tape, k.output.trans h.output, Nat.le_trans h.size k.size, fun b hb => (k.block b (Nat.lt_of_lt_of_le hb h.size)).trans (h.block b hb)⟩

set_option maxRecDepth 100000 in
set_option maxHeartbeats 4000000 in
theorem where_any (w : World) (v : Value) (f : Nat → Bool) (hf : FnOf w v f) :
    Calls Tryz.prog 130 #[v] w fun en w' => en = .returned (whereW f).V ∧ Below w.heap.size w w' := by
  obtain ⟨fn, caps, rfl, hcf, hf⟩ := hf
  have Hf := Lib.hid hf; clear hf
  go_enter Tryz.func130, Tryz.ntmps130
  go_wp2_with fail
  generalize hW : (w.alloc _).alloc _ = W0
  have hB0 : Below w.heap.size w W0 := by subst hW; exact ((Below.refl _ _).alloc (Nat.le_refl _) _).alloc (by simp) _
  have hsz : w.heap.size + 2 ≤ W0.heap.size := by subst hW; simp
  have r0 : At4 W0 w.heap.size 0 w40 := by subst hW; constructor <;> simp [go_sem, w40]
  have n0 : At4 W0 (w.heap.size + 1) 0 w40 := by subst hW; constructor <;> simp [go_sem, w40]
  have z0 : ∀ o, W0.frozen? ⟨w.heap.size, o, none⟩ = false := by subst hW; intro o; simp [go_sem]
  have z1 : ∀ o, W0.frozen? ⟨w.heap.size + 1, o, none⟩ = false := by subst hW; intro o; simp [go_sem]
  clear hW
  go_loopg [5] 256 (fun k i wr => ∃ (j : Nat) (S : W4), i = .int .i64 j ∧ j + k = 256 ∧ (List.range' j (256 - j)).foldl (fun s c => if f c then s.add c else s) S = whereW f ∧ Below w.heap.size w wr ∧ w.heap.size + 2 ≤ wr.heap.size ∧ At4 wr (w.heap.size + 1) 0 S ∧ At4 wr w.heap.size 0 w40 ∧ (∀ o, wr.frozen? ⟨w.heap.size, o, none⟩ = false) ∧ (∀ o, wr.frozen? ⟨w.heap.size + 1, o, none⟩ = false))
  case atStart => exact ⟨0, w40, rfl, rfl, by rw [whereW_def, List.range_eq_range'], hB0, hsz, n0, r0, z0, z1⟩
  case round =>
    obtain ⟨j, S, rfl, hj, hm, hB, hz, hn, hr, y0, y1⟩ := hrel
    clear hB0 hsz n0 r0 z0 z1
    have Hm := Lib.hid hm; clear hm
    have HN := Lib.hid hn; have HR := Lib.hid hr; have HB := Lib.hid hB; have HY0 := Lib.hid y0; have HY1 := Lib.hid y1
    clear hn hr hB y0 y1
    by_cases hlt : j < 256
    · have hmod : IntKind.u8.wrap (j : Int) = (j : Int) := by simp [IntKind.wrap, IntKind.signed, IntKind.bits]; omega
      go_wp2_with fail
      refine (Hf.out wr (CExt.of_below HB.out) j hlt).mono ?_
      rintro en w1 ⟨rfl, hb1⟩
      have hB1 := HB.out.step hb1
      have hz1 : w.heap.size + 2 ≤ w1.heap.size := Nat.le_trans hz hb1.size
      have n1 := HN.out.later hb1 (by omega)
      have r1 := HR.out.later hb1 (by omega)
      have y0 : ∀ o, w1.frozen? ⟨w.heap.size, o, none⟩ = false := fun o => (hb1.frozen (p := ⟨w.heap.size, o, none⟩) (by show w.heap.size < _; omega)).trans (HY0.out o)
      have y1 : ∀ o, w1.frozen? ⟨w.heap.size + 1, o, none⟩ = false := fun o => (hb1.frozen (p := ⟨w.heap.size + 1, o, none⟩) (by show w.heap.size + 1 < _; omega)).trans (HY1.out o)
      have Hm := Lib.hid ((foldl_from f j hlt S).symm.trans Hm.out)
      clear HN HR HB HY0 HY1 hcf
      have HN := Lib.hid n1; have HR := Lib.hid r1; have HB := Lib.hid hB1; have HY0 := Lib.hid y0; have HY1 := Lib.hid y1
      clear n1 r1 hB1 y0 y1
      cases hfj : f j with
      | false =>
        rw [hfj] at Hm
        clear hfj Hf
        go_wp2_with fail
        go_roundg (gk - 1)
        case measure => omega
        case rel => exact ⟨j + 1, S, by go_num, by omega, Hm.out, HB.out, hz1, HN.out, HR.out, HY0.out, HY1.out⟩
      | true =>
        rw [hfj] at Hm
        clear hfj Hf
        go_wp2_with fail
        refine (add_any w1 (w.heap.size + 1) 0 S j hlt HN.out HY1.out).mono ?_
        rintro en w2 ⟨rfl, rfl⟩
        go_wp2_with fail
        go_roundg (gk - 1)
        case measure => omega
        case rel => exact ⟨j + 1, S.add j, by go_num, by omega, Hm.out, HB.out.addW (by omega) _ _ _, by show _ ≤ (addW w1 _ _ _ _).heap.size; rw [addW_size]; exact hz1, (HN.out.addW j hlt).keep rfl, HR.out.keep (addW_other _ _ _ _ _ _ (by omega)), fun o => (World.frozen?_of_block (w := w1) (addW_other _ _ _ _ _ _ (by show w.heap.size ≠ _; omega))).trans (HY0.out o), fun o => by show (addW w1 _ _ _ _).frozen? _ = _; rw [addW, World.frozen?_setCell]; exact HY1.out o⟩
    · have hS : S = whereW f := by rw [← Hm.out, show 256 - j = 0 by omega]; rfl
      obtain ⟨f0, f1, f2, f3⟩ := HN.out
      obtain ⟨g0, g1, g2, g3⟩ := HR.out
      have y0 := HY0.out 0; have y1 := HY0.out 1; have y2 := HY0.out 2; have y3 := HY0.out 3
      clear HN HR HY0 HY1 Hm Hf
      simp only [Nat.zero_add] at f1 f2 f3 g1 g2 g3
      go_wp2_with fail
      change bodyPost _ _ _ _ _ (setV wr w.heap.size (whereW f))
      have hB := HB.out.setV (b := w.heap.size) (Nat.le_refl _) (whereW f)
      obtain ⟨q0, q1, q2, q3⟩ := At4.setV ⟨g0, g1, g2, g3⟩ (whereW f)
      simp only [Nat.zero_add] at q1 q2 q3
      clear f0 f1 f2 f3 g0 g1 g2 g3 y0 y1 y2 y3
      generalize setV wr w.heap.size (whereW f) = W at *
      exact bodyPost_ret (v := (whereW f).V) (by simp [results, Tryz.results130, go_sem, q0, q1, q2, q3]) rfl ⟨rfl, hB⟩
end Go.Proofs.YthlakbjnmbddaaaGreatDoor

/- A writer of patterns: a set's bytes: walked. -/
set_option linter.unusedVariables false
set_option linter.unusedSimpArgs false
namespace Go.Proofs.YthlakbjnmbddaaaGreatDoor
open Go.RowKit

set_option maxRecDepth 100000 in
set_option maxHeartbeats 1000000 in
theorem phas_any (w : World) (S : W4) (hw : Wok S) (c : Nat) (hc : c < 256) :
    Calls Tryz.prog 114 #[S.V, .int .u8 (c : Int)] w fun en w' => en = .returned (.bool (S.has c)) ∧ Below w.heap.size w w' := by
  have hq : (c : Int).tdiv 64 = ((c / 64 : Nat) : Int) := by rw [Int.tdiv_eq_ediv_of_nonneg (by omega)]; omega
  have hr : (c : Int).tmod 64 = ((c % 64 : Nat) : Int) := by rw [Int.tmod_eq_emod_of_nonneg (by omega)]; omega
  have h64 : c % 64 < 64 := by omega
  have hi4 : c / 64 < 4 := by omega
  have hat := hw.at c
  have hhas := has_div hw c
  have hword : S.word (c / 64) = S.at c := by
    unfold W4.word W4.at
    rcases (show c < 64 ∨ (64 ≤ c ∧ c < 128) ∨ (128 ≤ c ∧ c < 192) ∨ (192 ≤ c ∧ c < 256) by omega) with h | h | h | h
    · rw [if_pos (by omega), if_pos h]
    · rw [if_neg (by omega), if_pos (by omega), if_neg (by omega), if_pos h.2]
    · rw [if_neg (by omega), if_neg (by omega), if_pos (by omega), if_neg (by omega), if_neg (by omega), if_pos h.2]
    · rw [if_neg (by omega), if_neg (by omega), if_neg (by omega), if_neg (by omega), if_neg (by omega), if_neg (by omega)]
  go_enter Tryz.func114, Tryz.ntmps114
  go_upto_region 1 with fail
  generalize hW : w.alloc _ = W0
  have hB0 : Below w.heap.size w W0 := by subst hW; exact (Below.refl _ _).alloc (Nat.le_refl _) _
  have b0 : W0.cell? ⟨w.heap.size, c / 64, none⟩ = some (.int .u64 (S.at c)) := by
    rw [← hword]
    subst hW
    rcases (by omega : c / 64 = 0 ∨ c / 64 = 1 ∨ c / 64 = 2 ∨ c / 64 = 3) with h | h | h | h <;> rw [h] <;> simp [go_sem, W4.word]
  clear hW hword
  generalize S.at c = wd at *
  generalize c / 64 = wi at *
  generalize c % 64 = k at *
  have Hhas := Lib.hid hhas
  clear hhas
  have hand : bits .and .u64 (wd / 2 ^ k) 1 = wd / 2 ^ k % 2 := by
    have hp : (0 : Int) < 2 ^ k := Int.pow_pos (by omega)
    have h0 : 0 ≤ wd / 2 ^ k := Int.ediv_nonneg hat.1 (Int.le_of_lt hp)
    have h1 : wd / 2 ^ k ≤ wd := Int.ediv_le_self _ hat.1
    have h2 := hat.2
    generalize wd / 2 ^ k = x at *
    rw [u64_and x 1 h0 (by omega) (by decide) (by decide)]
    show ((x.toNat &&& 1 : Nat) : Int) = _
    rw [Nat.and_one_is_mod]
    omega
  have Hand := Lib.hid hand
  clear hand
  go_wp2_with fail
  exact bodyPost_ret (v := .bool (bits .and .u64 (wd / 2 ^ k) 1 == 1)) (by simp [results, Tryz.results114, go_sem]) rfl ⟨by rw [Hand.out, Hhas.out], hB0⟩

/-- A row of bytes that is owned. -/
def Row8 (B : Nat) (w : World) (v : Value) (l : List Nat) : Prop := w.ownsRow B 5 1 v l.length (l.map fun x => Value.int .u8 (x : Nat))
theorem Row8.form {B : Nat} {w : World} {v : Value} {l : List Nat} (h : Row8 B w v l) : ∃ A c, v = .slice A l.length c := by
  rcases h.2 with ⟨hv, h0⟩ | ⟨g, cap, cur, hv, _⟩
  · exact ⟨none, 0, by rw [hv, h0]⟩
  · exact ⟨_, _, hv⟩
set_option maxRecDepth 100000 in
set_option maxHeartbeats 4000000 in
theorem bytes_any (w : World) (S : W4) (hw : Wok S) :
    Calls Tryz.prog 95 #[S.V] w fun en w' => ∃ v, en = .returned v ∧ Row8 w.heap.size w' v (bytesW S) ∧ Below w.heap.size w w' := by
  obtain ⟨i0, hi, hi0, hi1, hi2⟩ := info_parts infoU8
  go_enter Tryz.func95, Tryz.ntmps95
  go_wp2_with fail
  generalize hW : w.alloc _ = W0
  have hB0 : Below w.heap.size w W0 := by subst hW; exact (Below.refl _ _).alloc (Nat.le_refl _) _
  have hS0 : At4 W0 w.heap.size 0 S := by subst hW; constructor <;> simp [go_sem]
  have hz0' : w.heap.size < W0.heap.size := by subst hW; simp
  clear hW
  go_loopg [3, 5] 256 (fun k a i wr => ∃ (j : Nat) (acc : List Nat) (A : Option Addr) (cp : Nat), i = .int .i64 j ∧ a = .slice A acc.length cp ∧ j + k = 256 ∧ acc.length ≤ j ∧ acc ++ (List.range' j (256 - j)).filter S.has = bytesW S ∧ Row8 (w.heap.size + 1) wr (.slice A acc.length cp) acc ∧ At4 wr w.heap.size 0 S ∧ w.heap.size < wr.heap.size ∧ Below w.heap.size w wr)
  case atStart => exact ⟨0, [], none, 0, rfl, rfl, rfl, Nat.le_refl _, by rw [bytesW, List.range_eq_range']; rfl, ⟨rfl, .inl ⟨rfl, rfl⟩⟩, hS0, hz0', hB0⟩
  case round =>
    obtain ⟨j, acc, A, cp, rfl, rfl, hj, hal, hacc, hrow, hS, hz, hB⟩ := hrel
    have Hacc := Lib.hid hacc; have Hrow := Lib.hid hrow; have HS := Lib.hid hS; have HB := Lib.hid hB
    clear hacc hrow hS hB hS0 hB0 hz0'
    by_cases hlt : j < 256
    · have hmod : IntKind.u8.wrap (j : Int) = (j : Int) := by simp [IntKind.wrap, IntKind.signed, IntKind.bits]; omega
      obtain ⟨f0, f1, f2, f3⟩ := HS.out
      simp only [Nat.zero_add] at f1 f2 f3
      have hstep : (List.range' j (256 - j)).filter S.has = (if S.has j then [j] else []) ++ (List.range' (j + 1) (256 - (j + 1))).filter S.has := by
        rw [show 256 - j = (256 - (j + 1)) + 1 by omega, List.range'_succ, List.filter_cons]
        split <;> simp
      have Hst := Lib.hid hstep
      clear hstep
      go_wp2_with fail
      refine (phas_any wr S hw j hlt).mono ?_
      rintro en w1 ⟨rfl, hb1⟩
      have hS1 := HS.out.later hb1 hz
      have hr1 : Row8 (w.heap.size + 1) w1 (.slice A acc.length cp) acc := Hrow.out.kept (row := none) ⟨hb1.os, hb1.tape, hb1.output, hb1.size, fun k hk _ => hb1.block k hk⟩ (by cases h : (Value.slice A acc.length cp).ownBlock <;> simp)
      have hB1 := HB.out.step hb1
      have hz1 := Nat.lt_of_lt_of_le hz hb1.size
      have HS1 := Lib.hid hS1; have Hr1 := Lib.hid hr1; have HB1 := Lib.hid hB1
      clear f0 f1 f2 f3 HS Hrow HB hS1 hr1 hB1 hb1
      cases hh : S.has j with
      | false =>
        have Hacc := Lib.hid (show acc ++ (List.range' (j + 1) (256 - (j + 1))).filter S.has = bytesW S by rw [← Hacc.out, Hst.out, hh]; rfl)
        clear hh Hst
        go_wp2_with fail
        go_roundg (gk - 1)
        case measure => omega
        case rel => exact ⟨j + 1, acc, A, cp, by go_num, rfl, by omega, by omega, Hacc.out, Hr1.out, HS1.out, hz1, HB1.out⟩
      | true =>
        have Hacc := Lib.hid (show (acc ++ [j]) ++ (List.range' (j + 1) (256 - (j + 1))).filter S.has = bytesW S by rw [← Hacc.out, Hst.out, hh]; simp)
        clear hh Hst
        go_upto_region 7 with (at_builtin; refine wpList_append_own _ rfl _ _ 42 rfl (w.heap.size + 1) 5 i0 (.int .u8 0) 1 1 Tryz.underlying42 hi hi0 hi1 hi2 rfl (by decide) _ _ _ rfl (Hr1.out.alloc _) ⟨w1.heap.size, 0, none⟩ 1 1 [.int .u8 (j : Nat)] rfl rfl ?c1 ?c2 ?c3 ?c4 ?c5 ?_)
        case c1 =>
          intro i u hj
          match i, hj with
          | 0, hj => simp at hj; subst hj; simp [Addr.add]
        case c2 => intro u hu; simp at hu; subst hu; rfl
        case c3 => unfold maxLen; omega
        case c4 => omega
        case c5 => simp; omega
        intro v' w2 hown' hgrow _
        have hx : Row8 (w.heap.size + 1) w2 v' (acc ++ [j]) := by
          show w2.ownsRow _ _ _ _ _ _
          simpa using hown'
        obtain ⟨A', cp', rfl⟩ := hx.form
        have hne : ∀ g, (Value.slice A acc.length cp).ownBlock = some g → w.heap.size + 1 ≤ g := fun g hg => (Hr1.out.lt g hg).1
        have hblk : w2.heap[w.heap.size]? = w1.heap[w.heap.size]? := (hgrow.block w.heap.size (by simp; omega) (fun e => by have := hne _ e.symm; omega)).trans (((Below.refl w1.heap.size w1).alloc (Nat.le_refl _) (.cells #[.int .u8 (j : Nat)] 5)).block _ hz1)
        have hS2 : At4 w2 w.heap.size 0 S := HS1.out.keep hblk
        have hB2 : Below w.heap.size w w2 := (HB1.out.alloc (by omega) _).grown hgrow (by simp; omega) (fun k hk => by have := hne k hk; omega)
        have hz2 : w.heap.size < w2.heap.size := by have := hgrow.size; simp at this; omega
        have Hx := Lib.hid hx; have HS2 := Lib.hid hS2; have HB2 := Lib.hid hB2
        clear hx hS2 hB2 hown' hgrow hblk hne HS1 Hr1 HB1
        go_wp2_with fail
        go_roundg (gk - 1)
        case measure => omega
        case rel => exact ⟨j + 1, acc ++ [j], A', cp', by go_num, rfl, by omega, by simp; omega, Hacc.out, Hx.out, HS2.out, hz2, HB2.out⟩
    · have hb : acc = bytesW S := by rw [← Hacc.out, show 256 - j = 0 by omega]; simp
      subst hb
      clear Hacc HS
      go_wp2_with fail
      go_ret
      exact ⟨_, rfl, ⟨Hrow.out.1, Hrow.out.2.imp id (fun ⟨g, cap, cur, h1, h2, h3⟩ => ⟨g, cap, cur, h1, by omega, h3⟩)⟩, HB.out⟩
end Go.Proofs.YthlakbjnmbddaaaGreatDoor

/- A writer of patterns: members, sets: walked. -/
set_option linter.unusedVariables false
set_option linter.unusedSimpArgs false
namespace Go.Proofs.YthlakbjnmbddaaaGreatDoor
open Go.RowKit

theorem idx_mem : ∀ k < 256, decide (0 ≤ Lib.indexByte [93, 91, 94, 45] (UInt8.ofNat k)) = decide (k = 93 ∨ k = 91 ∨ k = 94 ∨ k = 45) := by decide +kernel
theorem idx_spec : ∀ k < 256, decide (0 ≤ Lib.indexByte [92, 94, 46, 91, 36, 40, 41, 124, 42, 43, 63, 123] (UInt8.ofNat k)) = specB k := by decide +kernel
theorem sindex_any (l : Bs) (c : Nat) (hc : c < 256) (w : World) : Calls Tryz.prog 97 #[.string (bs l), .int .u8 (c : Nat)] w fun e w' => e = .returned (.int .i64 (Lib.indexByte l (UInt8.ofNat c))) ∧ w' = w := by
  refine (Tryz.strings_IndexByte (bs l) c w).mono ?_
  rintro e w' ⟨rfl, rfl⟩
  refine ⟨?_, rfl⟩
  have e1 : (bs l).data.toList = l := by simp [bs]
  rw [e1]
  rfl
set_option maxRecDepth 100000 in
set_option maxHeartbeats 4000000 in
theorem wmember_any (B p : Nat) (l : Bs) (o d : Int) (w : World) (h : WAt B p l o d w) (hl : l.length ≤ 1000000) (hB : B ≤ w.heap.size) (c : Nat) (hc : c < 256) :
    Calls Tryz.prog 98 #[.pointer (some ⟨p, 0, none⟩), .int .u8 (c : Nat)] w fun e w' => e = .returned (.tuple #[]) ∧ WAt B p (l ++ memT c) o d w' ∧ Below B w w' ∧ Fr p w w' := by
  have H := Lib.hid h
  clear h
  have hi := idx_mem c hc
  have Ci := Lib.hid (sindex_any [93, 91, 94, 45] c hc)
  generalize Lib.indexByte [93, 91, 94, 45] (UInt8.ofNat c) = ix at *
  by_cases hm : c = 93 ∨ c = 91 ∨ c = 94 ∨ c = 45
  · have h0 : 0 ≤ ix := by rw [decide_eq_true hm] at hi; exact of_decide_eq_true hi
    have Hm := Lib.hid (show memT c = [91, 46, UInt8.ofNat c, 46, 93] by unfold memT; rw [if_pos hm])
    clear hi hm
    go_enter Tryz.func98, Tryz.ntmps98
    go_wp2_with fail
    refine (Ci.out w).mono ?_
    rintro e w1 ⟨rfl, rfl⟩
    go_wp2_with fail
    have hconv : (convert 42 9 (.slice (some ⟨w1.heap.size, 0, none⟩) 1 1)).run Tryz.prog (w1.alloc (.cells #[.int .u8 (c : Nat)] 5)).drew = .ok (.string (bs [UInt8.ofNat c])) (w1.alloc (.cells #[.int .u8 (c : Nat)] 5)).drew := by
      refine run_convert_bytes_back _ _ _ 5 ⟨w1.heap.size, 0, none⟩ 1 [UInt8.ofNat c] Tryz.underlying42 Tryz.underlying5 Tryz.underlying9 ?_
      intro j hj
      have : j = 0 := by simpa using hj
      subst this
      have hb8 : (UInt8.ofNat c).toNat = c := b8 hc
      simp only [List.getElem_cons_zero, hb8]
      exact World.cell?_alloc_new w1 #[.int .u8 (c : Nat)] 5 0
    have sz1 : (bs [UInt8.ofNat c]).size = 1 := by simp [bs, ByteArray.size]
    have c1 : bs [91, 46] ++ bs [UInt8.ofNat c] = bs [91, 46, UInt8.ofNat c] := bs_cat _ _
    have c2 : bs [91, 46, UInt8.ofNat c] ++ bs [46, 93] = bs [91, 46, UInt8.ofNat c, 46, 93] := bs_cat _ _
    have hW : Below w1.heap.size w1 (w1.alloc (.cells #[.int .u8 (c : Nat)] 5)).drew := ((Below.refl _ _).alloc (Nat.le_refl _) _).drew
    have HWt := Lib.hid (H.out.later hW)
    have HWb := Lib.hid (hW.mono hB)
    have HWf := Lib.hid (Fr.of_below H.out.lt hW)
    clear hW
    go_region_with (go_at_call 96; refine (wstr_any B p l o d _ HWt.out hl (Nat.le_trans hB HWb.out.size) [91, 46, UInt8.ofNat c, 46, 93] (by simp) (by simp)).mono ?_; rintro e w9 ⟨⟨k9, rfl⟩, h9, hb9, hf9⟩)
    all_goals
      go_wp2_with fail
      exact bodyPost_ret (v := .tuple #[]) (by simp [results, Tryz.results98, go_sem]) rfl ⟨rfl, by rw [Hm.out]; exact h9, HWb.out.trans hb9, HWf.out.trans hf9⟩
  · have h0 : ix < 0 := by rw [decide_eq_false hm] at hi; have := of_decide_eq_false hi; omega
    have Hm := Lib.hid (show memT c = [UInt8.ofNat c] by unfold memT; rw [if_neg hm])
    clear hi hm
    have hb8 : (UInt8.ofNat c).toNat = c := b8 hc
    have cw := wbyte_any B p l o d w H.out hl hB (UInt8.ofNat c)
    rw [hb8] at cw
    have Cw := Lib.hid cw
    clear cw hb8
    go_enter Tryz.func98, Tryz.ntmps98
    go_wp2_with fail
    refine (Ci.out w).mono ?_
    rintro e w1 ⟨rfl, rfl⟩
    go_wp2_with fail
    refine Cw.out.mono ?_
    rintro e w2 ⟨rfl, h2, hb2, hf2⟩
    go_wp2_with fail
    go_end0
    exact ⟨rfl, by rw [Hm.out]; exact h2, hb2, hf2⟩
end Go.Proofs.YthlakbjnmbddaaaGreatDoor

/- A writer of patterns: sets: walked. -/
set_option linter.unusedVariables false
set_option linter.unusedSimpArgs false
namespace Go.Proofs.YthlakbjnmbddaaaGreatDoor
open Go.RowKit

theorem runN_at : ∀ (c : Nat) (t : List Nat) (m : Nat), m ≤ runN c t → (c :: t)[m]? = some (c + m)
  | c, t, 0, _ => rfl
  | c, [], m + 1, h => by simp [runN] at h
  | c, d :: t, m + 1, h => by
    rw [runN] at h
    split at h
    · rename_i hd
      subst hd
      have := runN_at (c + 1) t m (by omega)
      rw [List.getElem?_cons_succ, this]
      congr 1; omega
    · omega
theorem runN_end : ∀ (c : Nat) (t : List Nat), runN c t < t.length → ∃ x, (c :: t)[1 + runN c t]? = some x ∧ x ≠ c + (1 + runN c t)
  | c, [], h => by simp [runN] at h
  | c, d :: t, h => by
    rw [runN] at h ⊢
    split
    · rename_i hd
      subst hd
      rw [if_pos rfl] at h
      obtain ⟨x, h1, h2⟩ := runN_end (c + 1) t (by simp at h; omega)
      refine ⟨x, ?_, by omega⟩
      rw [show 1 + (1 + runN (c + 1) t) = (1 + runN (c + 1) t) + 1 by omega, List.getElem?_cons_succ]
      exact h1
    · rename_i hd
      exact ⟨d, rfl, by omega⟩
theorem runsT_step (f c : Nat) (t : List Nat) : runsT (f + 1) (c :: t) = memT c ++ ((if 1 < runN c t then [45] else []) ++ ((if 0 < runN c t then memT (c + runN c t) else []) ++ runsT f (t.drop (runN c t)))) := by rw [runsT]
theorem memT_len (c : Nat) : (memT c).length ≤ 5 := by unfold memT; split <;> simp
set_option maxRecDepth 100000 in
set_option maxHeartbeats 8000000 in
theorem wset_any (B p : Nat) (l : Bs) (o d : Int) (w : World) (h : WAt B p l o d w) (hl : l.length ≤ 2000) (hB : B ≤ w.heap.size) (S : W4) (hS : Wok S) :
    Calls Tryz.prog 79 #[.pointer (some ⟨p, 0, none⟩), S.V] w fun e w' => e = .returned (.tuple #[]) ∧ WAt B p (l ++ setT S) o d w' ∧ Below B w w' ∧ Fr p w w' := by
  have H := Lib.hid h
  have hp := h.lt
  clear h
  go_enter Tryz.func79, Tryz.ntmps79
  go_wp2_with fail
  generalize hW : w.alloc _ = W0
  have hB0 : Below w.heap.size w W0 := by subst hW; exact (Below.refl _ _).alloc (Nat.le_refl _) _
  clear hW
  refine (bytes_any W0 S hS).mono ?_
  rintro en w1 ⟨v, rfl, hrow, hb1⟩
  obtain ⟨A, cp, rfl⟩ := hrow.form
  have hB1 := hB0.step hb1
  have H1 := Lib.hid (H.out.later hB1)
  have HB1 := Lib.hid (hB1.mono hB)
  have HG1 := Lib.hid (Fr.of_below hp hB1)
  have hz01 : w.heap.size ≤ W0.heap.size := hB0.size
  have hblt := bytesW_lt S
  have hL256 := bytesW_le S
  have Hrow := Lib.hid hrow; have Hblt := Lib.hid hblt
  have hset : setT S = if (bytesW S).length = 256 then [46]
      else if (bytesW S).length = 0 then [91, 94, 0, 45, 255, 93]
      else if (bytesW S).length = 1 then (if specB ((bytesW S).headD 0) then [92, UInt8.ofNat ((bytesW S).headD 0)] else [UInt8.ofNat ((bytesW S).headD 0)])
      else [91] ++ (runsT (bytesW S).length (bytesW S) ++ [93]) := rfl
  have Hset := Lib.hid hset
  have hB1w := hB1
  clear hrow hblt hset hB0 hB1 hb1
  generalize bytesW S = L at *
  have hcells : ∀ (h0 : L ≠ []), ∃ g, A = some ⟨g, 0, none⟩ ∧ Foreign w1 p g ∧ L.length ≤ cp ∧ ∀ i c, L[i]? = some c → w1.cell? ⟨g, i, none⟩ = some (.int .u8 (c : Nat)) := fun h0 => by
    rcases Hrow.out.2 with ⟨_, hz⟩ | ⟨g, cap, cur, hv, hbg, hg, hnc, hcm, hcs, htake⟩
    · exact absurd (List.eq_nil_of_length_eq_zero hz) h0
    · cases hv
      refine ⟨g, rfl, ⟨(Array.getElem?_eq_some_iff.1 hg).1, by omega, fun v hv e => ?_⟩, hnc, fun i c hi => ?_⟩
      · obtain ⟨_, a, v', hb, _, hown, _⟩ := H.out
        have hc := hb.cells.2.1
        have hc' := (hB1w.cell (p := ⟨p, 1, none⟩) hp).trans hc
        rw [hv] at hc'
        cases hc'
        have := (hown.lt g e).2
        omega
      · have := World.ownsRow.cells Hrow.out (g := g) rfl i (.int .u8 (c : Nat)) (by simp [hi])
        rcases i with _ | i
        · simpa [Addr.add] using this
        · simpa [Addr.add] using this
  have Hcells := Lib.hid hcells
  clear hcells Hrow H hB1w
  by_cases h256 : L.length = 256
  · have Hs := Lib.hid (show setT S = [46] by rw [Hset.out, if_pos h256])
    clear Hset
    go_wp2_with fail
    refine (wbyte_any B p l o d w1 H1.out (by omega) (Nat.le_trans hB HB1.out.size) 46).mono ?_
    rintro e w2 ⟨rfl, h2, hb2, hf2⟩
    go_wp2_with fail
    exact bodyPost_ret (v := .tuple #[]) (by simp [results, Tryz.results79, go_sem]) rfl ⟨rfl, by rw [Hs.out]; exact h2, HB1.out.trans hb2, HG1.out.trans hf2⟩
  by_cases hl0 : L.length = 0
  · have Hs := Lib.hid (show setT S = [91, 94, 0, 45, 255, 93] by rw [Hset.out, if_neg h256, if_pos hl0])
    clear Hset
    rw [hl0]
    go_wp2_with fail
    refine (wstr_any B p l o d w1 H1.out (by omega) (Nat.le_trans hB HB1.out.size) [91, 94, 0, 45, 255, 93] (by simp) (by simp)).mono ?_
    rintro e w2 ⟨⟨k, rfl⟩, h2, hb2, hf2⟩
    go_wp2_with fail
    exact bodyPost_ret (v := .tuple #[]) (by simp [results, Tryz.results79, go_sem]) rfl ⟨rfl, by rw [Hs.out]; exact h2, HB1.out.trans hb2, HG1.out.trans hf2⟩
  have hne : L ≠ [] := fun e => hl0 (by rw [e]; rfl)
  obtain ⟨g, rfl, hF, hcp, hce⟩ := Hcells.out hne
  by_cases hl1 : L.length = 1
  · obtain ⟨c, rfl⟩ : ∃ c, L = [c] := List.length_eq_one_iff.1 hl1
    have hc := Hblt.out c (by simp)
    have f0 := hce 0 c rfl
    have hspec := idx_spec c hc
    have Ci := Lib.hid (sindex_any [92, 94, 46, 91, 36, 40, 41, 124, 42, 43, 63, 123] c hc)
    have hb8 : (UInt8.ofNat c).toNat = c := b8 hc
    generalize Lib.indexByte [92, 94, 46, 91, 36, 40, 41, 124, 42, 43, 63, 123] (UInt8.ofNat c) = ix at *
    simp only [List.length_cons, List.length_nil, Nat.zero_add] at hcp ⊢
    cases hsp : specB c with
    | true =>
      have hx : 0 ≤ ix := by rw [hsp] at hspec; exact of_decide_eq_true hspec
      have Hs := Lib.hid (show setT S = [92, UInt8.ofNat c] by rw [Hset.out]; simp [hsp])
      clear Hset hspec hsp hce Hcells
      go_wp2_with fail
      refine (Ci.out w1).mono ?_
      rintro e w1' ⟨rfl, rfl⟩
      go_wp2_with fail
      refine (wbyte_any B p l o d w1' H1.out (by omega) (Nat.le_trans hB HB1.out.size) 92).mono ?_
      rintro e w2 ⟨rfl, h2, hb2, hf2⟩
      have f0' : w2.cell? ⟨g, 0, none⟩ = some (.int .u8 (c : Nat)) := (World.cell?_of_block (w := w1') (a := ⟨g, 0, none⟩) (hf2 g hF).1).trans f0
      have H2 := Lib.hid h2; have HP2 := h2.lt; have HG2 := Lib.hid (HG1.out.trans hf2); have HB2 := Lib.hid (HB1.out.trans hb2)
      have cw := wbyte_any B p (l ++ [92]) o d w2.drew (h2.later (Below.refl _ _).drew) (by simp; omega) (Nat.le_trans hB HB2.out.size) (UInt8.ofNat c)
      rw [hb8] at cw
      have Cw := Lib.hid cw
      clear h2 hb2 hf2 f0 cw
      go_wp2_with fail
      go_region_with (go_at_call 78; refine Cw.out.mono ?_; rintro e w3 ⟨rfl, h3, hb3, hf3⟩)
      all_goals
        go_wp2_with fail
        exact bodyPost_ret (v := .tuple #[]) (by simp [results, Tryz.results79, go_sem]) rfl ⟨rfl, by rw [Hs.out]; simpa using h3, (HB2.out.drew).trans hb3, (HG2.out.trans (Fr.of_below HP2 (Below.refl _ _).drew)).trans hf3⟩
    | false =>
      have hx : ix < 0 := by rw [hsp] at hspec; have := of_decide_eq_false hspec; omega
      have Hs := Lib.hid (show setT S = [UInt8.ofNat c] by rw [Hset.out]; simp [hsp])
      clear Hset hspec hsp hce Hcells
      have cw := wbyte_any B p l o d w1.drew (H1.out.later (Below.refl _ _).drew) (by omega) (Nat.le_trans hB HB1.out.size) (UInt8.ofNat c)
      rw [hb8] at cw
      have Cw := Lib.hid cw
      clear cw
      go_wp2_with fail
      refine (Ci.out w1).mono ?_
      rintro e w1' ⟨rfl, rfl⟩
      go_wp2_with fail
      go_region_with (go_at_call 78; refine Cw.out.mono ?_; rintro e w3 ⟨rfl, h3, hb3, hf3⟩)
      all_goals
        go_wp2_with fail
        exact bodyPost_ret (v := .tuple #[]) (by simp [results, Tryz.results79, go_sem]) rfl ⟨rfl, by rw [Hs.out]; exact h3, (HB1.out.drew).trans hb3, (HG1.out.trans (Fr.of_below H1.out.lt (Below.refl _ _).drew)).trans hf3⟩
  · have Hs := Lib.hid (show setT S = [91] ++ (runsT L.length L ++ [93]) by rw [Hset.out, if_neg h256, if_neg hl0, if_neg hl1])
    have hle : L.length ≤ 256 := hL256
    clear Hset
    have hn0 : (L.length : Int) ≠ 0 := by omega
    go_wp2_with fail
    refine (wbyte_any B p l o d w1 H1.out (by omega) (Nat.le_trans hB HB1.out.size) 91).mono ?_
    rintro e w2 ⟨rfl, h2, hb2, hf2⟩
    have hce2 : ∀ i c, L[i]? = some c → w2.cell? ⟨g, i, none⟩ = some (.int .u8 (c : Nat)) := fun i c hi => (World.cell?_of_block (w := w1) (a := ⟨g, i, none⟩) (hf2 g hF).1).trans (hce i c hi)
    have HF2 := Lib.hid (hf2 g hF).2
    have H2 := Lib.hid h2; have HP2 := h2.lt; have HG2 := Lib.hid (HG1.out.trans hf2); have HB2 := Lib.hid (HB1.out.trans hb2); have Hce2 := Lib.hid hce2
    clear h2 hb2 hf2 hce2 hce hF Hcells H1 HB1
    go_wp2_with fail
    go_loopg [4, 5] (L.length) (fun k a n wr => ∃ (q f : Nat) (X : Bs) (A' : Option Addr) (cp' : Nat), a = .slice A' (L.length - q) cp' ∧ q + k = L.length ∧ (q < L.length → A' = some ⟨g, q, none⟩ ∧ L.length - q ≤ cp') ∧ L.length - q ≤ f ∧ X.length ≤ 11 * q ∧ X ++ runsT f (L.drop q) = runsT L.length L ∧ WAt B p (l ++ [91] ++ X) o d wr ∧ (∀ i c, L[i]? = some c → wr.cell? ⟨g, i, none⟩ = some (.int .u8 (c : Nat))) ∧ Foreign wr p g ∧ Below B w wr ∧ Fr p w wr)
    case atStart => exact ⟨0, L.length, [], some ⟨g, 0, none⟩, cp, rfl, by omega, fun _ => ⟨rfl, hcp⟩, Nat.le_refl _, by simp, rfl, by simpa using H2.out, Hce2.out, HF2.out, HB2.out, HG2.out⟩
    case round =>
      obtain ⟨q, f, X, A', cp', rfl, hq, hA, hf, hX, hrun, hW, hce, hF, hBr, hGr⟩ := hrel
      have HWr := Lib.hid hW; have HCe := Lib.hid hce; have HF := Lib.hid hF; have HB := Lib.hid hBr; have HG := Lib.hid hGr; have Hrun := Lib.hid hrun
      clear hW hce hF hBr hrun H2 HB2 Hce2 HF2
      by_cases hql : q < L.length
      · obtain ⟨rfl, hc'⟩ := hA hql
        obtain ⟨f', rfl⟩ : ∃ f', f = f' + 1 := ⟨f - 1, by omega⟩
        have hpos : (0 : Int) < ((L.length - q : Nat) : Int) := by omega
        obtain ⟨c, t, hdrop⟩ : ∃ c t, L.drop q = c :: t := by
          rw [List.drop_eq_getElem_cons hql]; exact ⟨_, _, rfl⟩
        have hget : ∀ m x, (c :: t)[m]? = some x → L[q + m]? = some x := fun m x hx => by rw [← hdrop, List.getElem?_drop] at hx; exact hx
        have htl : t.length = L.length - q - 1 := by have := congrArg List.length hdrop; simp at this; omega
        have hcx := hget 0 c rfl
        have Hget := Lib.hid hget; have Hdrop := Lib.hid hdrop
        have c0 := HCe.out (q + 0) c hcx
        simp only [Nat.add_zero] at c0
        have hc256 := Hblt.out c (List.mem_of_getElem? hcx)
        have hrN := runN_le c t
        clear hget hdrop hcx
        go_wp2_with fail
        go_loopg [5] (runN c t) (fun k n wr' => ∃ m : Nat, n = .int .i64 m ∧ m + k = 1 + runN c t ∧ 1 ≤ m ∧ WAt B p (l ++ [91] ++ X) o d wr' ∧ (∀ i c, L[i]? = some c → wr'.cell? ⟨g, i, none⟩ = some (.int .u8 (c : Nat))) ∧ Foreign wr' p g ∧ Below B w wr' ∧ Fr p w wr')
        case atStart => exact ⟨1, rfl, by omega, Nat.le_refl _, HWr.out, HCe.out, HF.out, HB.out, HG.out⟩
        case round =>
          obtain ⟨m, rfl, hmk, hm1, hW3, hce3, hF3, hB3, hG3⟩ := hrel
          have HW3 := Lib.hid hW3; have HC3 := Lib.hid hce3; have HF3 := Lib.hid hF3; have HB3 := Lib.hid hB3
          have c0 := hce3 (q + 0) c (Hget.out 0 c rfl)
          simp only [Nat.add_zero] at c0
          have hbd : Below wr.heap.size wr wr.drew := (Below.refl _ _).drew
          have HW4 := Lib.hid (hW3.later hbd)
          have HC4 := Lib.hid (fun i c hi => ((hbd.cell (p := ⟨g, i, none⟩) hF3.1).trans (hce3 i c hi) : wr.drew.cell? ⟨g, i, none⟩ = some (.int .u8 (c : Nat))))
          have HF4 := Lib.hid (Fr.of_below hW3.lt hbd g hF3).2
          have HB4 := Lib.hid hB3.drew
          have HG4 := Lib.hid (hG3.trans (Fr.of_below hW3.lt hbd))
          clear hW3 hce3 hF3 hB3 hbd HWr HCe HF HB
          by_cases hmr : m ≤ runN c t
          · have hcm := HC3.out (q + m) (c + m) (Hget.out m (c + m) (runN_at c t m hmr))
            have hml : m < L.length - q := by omega
            clear HW3 HC3 HF3 HB3
            go_wp2_with fail
            go_region
            all_goals
              go_wp2_with fail
              go_roundg (gk - 1)
              case measure => omega
              case rel => exact ⟨m + 1, by go_num, by omega, by omega, HW4.out, HC4.out, HF4.out, HB4.out, HG4.out⟩
          · have hmr1 : m = 1 + runN c t := by omega
            subst hmr1
            have hstop : (1 + runN c t ≤ L.length - q ∧ L.length - q ≤ 1 + runN c t) ∨ ∃ x, 1 + runN c t < L.length - q ∧ L[q + (1 + runN c t)]? = some x ∧ x ≠ c + (1 + runN c t) := by
              by_cases he : runN c t < t.length
              · obtain ⟨x, hx1, hx2⟩ := runN_end c t he
                exact .inr ⟨x, by omega, Hget.out _ x hx1, hx2⟩
              · exact .inl (by omega)
            have hdq : L.drop (q + (1 + runN c t)) = t.drop (runN c t) := by
              rw [← List.drop_drop, Hdrop.out, Nat.add_comm 1, List.drop_succ_cons]
            have hrs := Hrun.out
            rw [Hdrop.out, runsT_step, ← hdq] at hrs
            have Hrs := Lib.hid hrs
            have Hrun1 := Lib.hid (fun m hm => runN_at c t m hm)
            clear hrs hdq Hrun hmk
            generalize runN c t = r at *
            have hbz1 : 1 + r ≤ L.length - q := by rcases hstop with h | ⟨x, h, _⟩ <;> omega
            generalize hmq : 1 + r = m1 at *
            have Hm1 := Lib.hid hmq
            rcases hstop with ⟨hst1, hst2⟩ | ⟨x, hst, hxc, hxn⟩
            · clear HW3 HC3 HF3 HB3 hmq
              have hnb : decide ((m1 : Int) < ((L.length - q : Nat) : Int)) = false := by rw [decide_eq_false_iff_not]; omega
              generalize hnn : ((m1 : Nat) : Int) = nn at *
              have Hnn := Lib.hid hnn
              clear hnn hst1 hbz1
              go_wp2_with fail
              go_region
              have hmm := Hm1.out
              have hnn := Hnn.out
              subst hnn
              subst hmm
              clear Hm1 Hnn hnb
              have hll : (l ++ [91] ++ X).length ≤ 10000 := by simp; omega
              have lm := memT_len c
              go_wp2_with fail
              refine (wmember_any B p (l ++ [91] ++ X) o d _ HW4.out (by simp; omega) (Nat.le_trans hB HB4.out.size) c hc256).mono ?_
              rintro e w5 ⟨rfl, h5, hb5, hf5⟩
              have HC5 := Lib.hid (fun i c hi => ((World.cell?_of_block (a := ⟨g, i, none⟩) (hf5 g HF4.out).1).trans (HC4.out i c hi) : w5.cell? ⟨g, i, none⟩ = some (.int .u8 (c : Nat))))
              have HF5 := Lib.hid (hf5 g HF4.out).2
              have HB5 := Lib.hid (HB4.out.trans hb5)
              have HG5 := Lib.hid (HG4.out.trans hf5)
              have HW5 := Lib.hid h5
              clear h5 hb5 hf5 HC4 HF4 HB4 HW4
              clear c0
              rcases (show r = 0 ∨ r = 1 ∨ 2 ≤ r by omega) with hr0 | hr0 | hr0
              · subst hr0
                have Hrs := Lib.hid (show X ++ (memT c ++ runsT f' (L.drop (q + (1 + 0)))) = runsT L.length L by have := Hrs.out; simpa using this)
                have HC9 := HC5
                clear HC5
                have HF9 := HF5
                clear HF5
                have HB9 := HB5
                have HG9 := HG5
                clear HB5
                have HW9 := HW5
                clear HW5
                go_wp2_with fail
                all_goals
                  go_roundg (L.length - (q + (1 + 0)))
                  case measure => omega
                  case rel => exact ⟨q + (1 + 0), f', X ++ memT c, _, _, (by rw [Value.slice.injEq]; exact ⟨rfl, by omega, rfl⟩), by omega, (fun h => by first | exact ⟨rfl, by omega⟩ | (exfalso; omega)), by omega, by simp; omega, by rw [← Hrs.out]; simp, by simpa using HW9.out, HC9.out, HF9.out, HB9.out, HG9.out⟩
              · subst hr0
                have Hrs := Lib.hid (show X ++ (memT c ++ (memT (c + 1) ++ runsT f' (L.drop (q + (1 + 1))))) = runsT L.length L by have := Hrs.out; simpa using this)
                have c1 := HC5.out (q + 1) (c + 1) (Hget.out 1 (c + 1) (Hrun1.out 1 (by omega)))
                have lm1 := memT_len (c + 1)
                have hc1 := Hblt.out (c + 1) (List.mem_of_getElem? (Hget.out 1 (c + 1) (Hrun1.out 1 (by omega))))
                go_wp2_with fail
                refine (wmember_any B p (l ++ [91] ++ X ++ memT c) o d _ HW5.out (by simp; omega) (Nat.le_trans hB HB5.out.size) (c + 1) hc1).mono ?_
                rintro e w6 ⟨rfl, h6, hb6, hf6⟩
                have HC6 := Lib.hid (fun i c hi => ((World.cell?_of_block (a := ⟨g, i, none⟩) (hf6 g HF5.out).1).trans (HC5.out i c hi) : w6.cell? ⟨g, i, none⟩ = some (.int .u8 (c : Nat))))
                have HF6 := Lib.hid (hf6 g HF5.out).2
                have HB6 := Lib.hid (HB5.out.trans hb6)
                have HG6 := Lib.hid (HG5.out.trans hf6)
                have HW6 := Lib.hid h6
                clear h6 hb6 hf6 HC5 HF5 HB5 HW5
                clear c1
                have HC9 := HC6
                clear HC6
                have HF9 := HF6
                clear HF6
                have HB9 := HB6
                have HG9 := HG6
                clear HB6
                have HW9 := HW6
                clear HW6
                go_wp2_with fail
                all_goals
                  go_roundg (L.length - (q + (1 + 1)))
                  case measure => omega
                  case rel => exact ⟨q + (1 + 1), f', X ++ (memT c ++ memT (c + 1)), _, _, (by rw [Value.slice.injEq]; exact ⟨rfl, by omega, rfl⟩), by omega, (fun h => by first | exact ⟨rfl, by omega⟩ | (exfalso; omega)), by omega, by simp; omega, by rw [← Hrs.out]; simp, by simpa using HW9.out, HC9.out, HF9.out, HB9.out, HG9.out⟩
              · have Hrs := Lib.hid (show X ++ (memT c ++ ([45] ++ (memT (c + r) ++ runsT f' (L.drop (q + (1 + r)))))) = runsT L.length L by have := Hrs.out; rw [if_pos (by omega), if_pos (by omega)] at this; exact this)
                have lm1 := memT_len (c + r)
                have hcr := Hget.out r (c + r) (Hrun1.out r (by omega))
                have hc1 := Hblt.out (c + r) (List.mem_of_getElem? hcr)
                have Hcr := Lib.hid hcr
                clear hcr
                go_wp2_with fail
                refine (wbyte_any B p (l ++ [91] ++ X ++ memT c) o d _ HW5.out (by simp; omega) (Nat.le_trans hB HB5.out.size) 45).mono ?_
                rintro e w6 ⟨rfl, h6, hb6, hf6⟩
                have HC6 := Lib.hid (fun i c hi => ((World.cell?_of_block (a := ⟨g, i, none⟩) (hf6 g HF5.out).1).trans (HC5.out i c hi) : w6.cell? ⟨g, i, none⟩ = some (.int .u8 (c : Nat))))
                have HF6 := Lib.hid (hf6 g HF5.out).2
                have HB6 := Lib.hid (HB5.out.trans hb6)
                have HG6 := Lib.hid (HG5.out.trans hf6)
                have HW6 := Lib.hid h6
                clear h6 hb6 hf6 HC5 HF5 HB5 HW5
                have c1 := HC6.out (q + r) (c + r) Hcr.out
                have hrr : ((1 + r : Nat) : Int) - 1 = (r : Int) := by omega
                go_wp2_with fail
                refine (wmember_any B p (l ++ [91] ++ X ++ memT c ++ [45]) o d _ HW6.out (by simp; omega) (Nat.le_trans hB HB6.out.size) (c + r) hc1).mono ?_
                rintro e w7 ⟨rfl, h7, hb7, hf7⟩
                have HC7 := Lib.hid (fun i c hi => ((World.cell?_of_block (a := ⟨g, i, none⟩) (hf7 g HF6.out).1).trans (HC6.out i c hi) : w7.cell? ⟨g, i, none⟩ = some (.int .u8 (c : Nat))))
                have HF7 := Lib.hid (hf7 g HF6.out).2
                have HB7 := Lib.hid (HB6.out.trans hb7)
                have HG7 := Lib.hid (HG6.out.trans hf7)
                have HW7 := Lib.hid h7
                clear h7 hb7 hf7 HC6 HF6 HB6 HW6
                clear c1 hrr
                have HC9 := HC7
                clear HC7
                have HF9 := HF7
                clear HF7
                have HB9 := HB7
                have HG9 := HG7
                clear HB7
                have HW9 := HW7
                clear HW7
                go_wp2_with fail
                all_goals
                  go_roundg (L.length - (q + (1 + r)))
                  case measure => omega
                  case rel => exact ⟨q + (1 + r), f', X ++ (memT c ++ ([45] ++ memT (c + r))), _, _, (by rw [Value.slice.injEq]; exact ⟨rfl, by omega, rfl⟩), by omega, (fun h => by first | exact ⟨rfl, by omega⟩ | (exfalso; omega)), by omega, by simp; omega, by rw [← Hrs.out]; simp, by simpa using HW9.out, HC9.out, HF9.out, HB9.out, HG9.out⟩
            · have hcm := HC3.out (q + m1) x hxc
              have hx256 := Hblt.out x (List.mem_of_getElem? hxc)
              have hnb : ((x : Int) == (c : Int) + (m1 : Int)) = false := by rw [beq_eq_false_iff_ne]; omega
              have Hst := Lib.hid hst
              clear HW3 HC3 HF3 HB3 hxc hxn hmq hbz1
              go_wp2_with fail
              go_region
              have hmm := Hm1.out
              subst hmm
              clear Hm1 hnb hcm
              have hll : (l ++ [91] ++ X).length ≤ 10000 := by simp; omega
              have lm := memT_len c
              go_wp2_with fail
              refine (wmember_any B p (l ++ [91] ++ X) o d _ HW4.out (by simp; omega) (Nat.le_trans hB HB4.out.size) c hc256).mono ?_
              rintro e w5 ⟨rfl, h5, hb5, hf5⟩
              have HC5 := Lib.hid (fun i c hi => ((World.cell?_of_block (a := ⟨g, i, none⟩) (hf5 g HF4.out).1).trans (HC4.out i c hi) : w5.cell? ⟨g, i, none⟩ = some (.int .u8 (c : Nat))))
              have HF5 := Lib.hid (hf5 g HF4.out).2
              have HB5 := Lib.hid (HB4.out.trans hb5)
              have HG5 := Lib.hid (HG4.out.trans hf5)
              have HW5 := Lib.hid h5
              clear h5 hb5 hf5 HC4 HF4 HB4 HW4
              clear c0
              rcases (show r = 0 ∨ r = 1 ∨ 2 ≤ r by omega) with hr0 | hr0 | hr0
              · subst hr0
                have Hrs := Lib.hid (show X ++ (memT c ++ runsT f' (L.drop (q + (1 + 0)))) = runsT L.length L by have := Hrs.out; simpa using this)
                have HC9 := HC5
                clear HC5
                have HF9 := HF5
                clear HF5
                have HB9 := HB5
                have HG9 := HG5
                clear HB5
                have HW9 := HW5
                clear HW5
                go_wp2_with fail
                all_goals
                  go_roundg (L.length - (q + (1 + 0)))
                  case measure => omega
                  case rel => exact ⟨q + (1 + 0), f', X ++ memT c, _, _, (by rw [Value.slice.injEq]; exact ⟨rfl, by omega, rfl⟩), by omega, (fun h => by first | exact ⟨rfl, by omega⟩ | (exfalso; omega)), by omega, by simp; omega, by rw [← Hrs.out]; simp, by simpa using HW9.out, HC9.out, HF9.out, HB9.out, HG9.out⟩
              · subst hr0
                have Hrs := Lib.hid (show X ++ (memT c ++ (memT (c + 1) ++ runsT f' (L.drop (q + (1 + 1))))) = runsT L.length L by have := Hrs.out; simpa using this)
                have c1 := HC5.out (q + 1) (c + 1) (Hget.out 1 (c + 1) (Hrun1.out 1 (by omega)))
                have lm1 := memT_len (c + 1)
                have hc1 := Hblt.out (c + 1) (List.mem_of_getElem? (Hget.out 1 (c + 1) (Hrun1.out 1 (by omega))))
                go_wp2_with fail
                refine (wmember_any B p (l ++ [91] ++ X ++ memT c) o d _ HW5.out (by simp; omega) (Nat.le_trans hB HB5.out.size) (c + 1) hc1).mono ?_
                rintro e w6 ⟨rfl, h6, hb6, hf6⟩
                have HC6 := Lib.hid (fun i c hi => ((World.cell?_of_block (a := ⟨g, i, none⟩) (hf6 g HF5.out).1).trans (HC5.out i c hi) : w6.cell? ⟨g, i, none⟩ = some (.int .u8 (c : Nat))))
                have HF6 := Lib.hid (hf6 g HF5.out).2
                have HB6 := Lib.hid (HB5.out.trans hb6)
                have HG6 := Lib.hid (HG5.out.trans hf6)
                have HW6 := Lib.hid h6
                clear h6 hb6 hf6 HC5 HF5 HB5 HW5
                clear c1
                have HC9 := HC6
                clear HC6
                have HF9 := HF6
                clear HF6
                have HB9 := HB6
                have HG9 := HG6
                clear HB6
                have HW9 := HW6
                clear HW6
                go_wp2_with fail
                all_goals
                  go_roundg (L.length - (q + (1 + 1)))
                  case measure => omega
                  case rel => exact ⟨q + (1 + 1), f', X ++ (memT c ++ memT (c + 1)), _, _, (by rw [Value.slice.injEq]; exact ⟨rfl, by omega, rfl⟩), by omega, (fun h => by first | exact ⟨rfl, by omega⟩ | (exfalso; omega)), by omega, by simp; omega, by rw [← Hrs.out]; simp, by simpa using HW9.out, HC9.out, HF9.out, HB9.out, HG9.out⟩
              · have Hrs := Lib.hid (show X ++ (memT c ++ ([45] ++ (memT (c + r) ++ runsT f' (L.drop (q + (1 + r)))))) = runsT L.length L by have := Hrs.out; rw [if_pos (by omega), if_pos (by omega)] at this; exact this)
                have lm1 := memT_len (c + r)
                have hcr := Hget.out r (c + r) (Hrun1.out r (by omega))
                have hc1 := Hblt.out (c + r) (List.mem_of_getElem? hcr)
                have Hcr := Lib.hid hcr
                clear hcr
                go_wp2_with fail
                refine (wbyte_any B p (l ++ [91] ++ X ++ memT c) o d _ HW5.out (by simp; omega) (Nat.le_trans hB HB5.out.size) 45).mono ?_
                rintro e w6 ⟨rfl, h6, hb6, hf6⟩
                have HC6 := Lib.hid (fun i c hi => ((World.cell?_of_block (a := ⟨g, i, none⟩) (hf6 g HF5.out).1).trans (HC5.out i c hi) : w6.cell? ⟨g, i, none⟩ = some (.int .u8 (c : Nat))))
                have HF6 := Lib.hid (hf6 g HF5.out).2
                have HB6 := Lib.hid (HB5.out.trans hb6)
                have HG6 := Lib.hid (HG5.out.trans hf6)
                have HW6 := Lib.hid h6
                clear h6 hb6 hf6 HC5 HF5 HB5 HW5
                have c1 := HC6.out (q + r) (c + r) Hcr.out
                have hrr : ((1 + r : Nat) : Int) - 1 = (r : Int) := by omega
                go_wp2_with fail
                refine (wmember_any B p (l ++ [91] ++ X ++ memT c ++ [45]) o d _ HW6.out (by simp; omega) (Nat.le_trans hB HB6.out.size) (c + r) hc1).mono ?_
                rintro e w7 ⟨rfl, h7, hb7, hf7⟩
                have HC7 := Lib.hid (fun i c hi => ((World.cell?_of_block (a := ⟨g, i, none⟩) (hf7 g HF6.out).1).trans (HC6.out i c hi) : w7.cell? ⟨g, i, none⟩ = some (.int .u8 (c : Nat))))
                have HF7 := Lib.hid (hf7 g HF6.out).2
                have HB7 := Lib.hid (HB6.out.trans hb7)
                have HG7 := Lib.hid (HG6.out.trans hf7)
                have HW7 := Lib.hid h7
                clear h7 hb7 hf7 HC6 HF6 HB6 HW6
                clear c1 hrr
                have HC9 := HC7
                clear HC7
                have HF9 := HF7
                clear HF7
                have HB9 := HB7
                have HG9 := HG7
                clear HB7
                have HW9 := HW7
                clear HW7
                go_wp2_with fail
                all_goals
                  go_roundg (L.length - (q + (1 + r)))
                  case measure => omega
                  case rel => exact ⟨q + (1 + r), f', X ++ (memT c ++ ([45] ++ memT (c + r))), _, _, (by rw [Value.slice.injEq]; exact ⟨rfl, by omega, rfl⟩), by omega, (fun h => by first | exact ⟨rfl, by omega⟩ | (exfalso; omega)), by omega, by simp; omega, by rw [← Hrs.out]; simp, by simpa using HW9.out, HC9.out, HF9.out, HB9.out, HG9.out⟩
      · have hq0 : L.length - q = 0 := by omega
        have hXe : X = runsT L.length L := by rw [← Hrun.out, List.drop_eq_nil_of_le (by omega)]; cases f <;> simp [runsT]
        have HXe := Lib.hid hXe
        clear hXe hA
        rw [hq0]
        go_wp2_with fail
        refine (wbyte_any B p (l ++ [91] ++ X) o d wr HWr.out (by simp; omega) (Nat.le_trans hB HB.out.size) 93).mono ?_
        rintro e w9 ⟨rfl, h9, hb9, hf9⟩
        go_wp2_with fail
        go_end0
        exact ⟨rfl, by rw [Hs.out, ← HXe.out]; simpa using h9, HB.out.trans hb9, HG.out.trans hf9⟩
end Go.Proofs.YthlakbjnmbddaaaGreatDoor

/- A writer of patterns: what a tree's writing leaves, beyond the limit too. Plain. -/
set_option linter.unusedVariables false
set_option linter.unusedSimpArgs false
namespace Go.Proofs.YthlakbjnmbddaaaGreatDoor
open Go.RowKit

/-- What stands behind the writing of a text x, its brackets k deep: the text, or more than the limit. -/
def Wrote (b x : Bs) (o d : Int) (k : Nat) (b' : Bs) (d' : Int) : Prop :=
  if b.length + x.length ≤ 1024 then b' = b ++ x ∧ d' = max d (o + k) else 1024 < b'.length
theorem Wrote.trans {b x y b1 b2 : Bs} {o d d1 d2 : Int} {k m : Nat} (h : Wrote b x o d k b1 d1) (g : Wrote b1 y o d1 m b2 d2) : Wrote b (x ++ y) o d (max k m) b2 d2 := by
  unfold Wrote at *
  by_cases h1 : b.length + x.length ≤ 1024
  · rw [if_pos h1] at h
    obtain ⟨rfl, rfl⟩ := h
    rw [List.length_append] at g
    by_cases h2 : b.length + x.length + y.length ≤ 1024
    · rw [if_pos h2] at g
      obtain ⟨rfl, rfl⟩ := g
      rw [if_pos (by simp; omega)]
      exact ⟨by simp, by omega⟩
    · rw [if_neg h2] at g
      rw [if_neg (by simp; omega)]
      exact g
  · rw [if_neg h1] at h
    rw [if_neg (by simp; omega)]
    rw [if_neg (by omega)] at g
    exact g
theorem Wrote.refl {b : Bs} {o d : Int} (h : o ≤ d) : Wrote b [] o d 0 b d := by
  unfold Wrote
  split
  · exact ⟨by simp, by omega⟩
  · rename_i h1; simp at h1; exact h1
end Go.Proofs.YthlakbjnmbddaaaGreatDoor

/- A writer of patterns: does a text fall apart beside others: walked. -/
set_option linter.unusedVariables false
set_option linter.unusedSimpArgs false
namespace Go.Proofs.YthlakbjnmbddaaaGreatDoor
open Go.RowKit

set_option maxRecDepth 100000 in
set_option maxHeartbeats 1000000 in
theorem loose_any (w : World) (t : T) (A : Option Addr) (c : Nat) :
    Calls Tryz.prog 81 #[nodeV t A c] w fun e w' => e = .returned (.bool (looseT t)) ∧ Below w.heap.size w w' := by
  obtain ⟨k, s0, s1, s2, s3, mn, mx, ps⟩ := t
  by_cases k0 : k = 0
  · subst k0
    go_enter Tryz.func81, Tryz.ntmps81
    go_wp2_with fail
    go_ret
    exact ⟨rfl, (Below.refl _ _).alloc (Nat.le_refl _) _⟩
  by_cases k4 : k = 4
  · subst k4
    go_enter Tryz.func81, Tryz.ntmps81
    go_wp2_with fail
    go_ret
    exact ⟨rfl, (Below.refl _ _).alloc (Nat.le_refl _) _⟩
  by_cases k5 : k = 5
  · subst k5
    go_enter Tryz.func81, Tryz.ntmps81
    go_wp2_with fail
    go_ret
    exact ⟨rfl, (Below.refl _ _).alloc (Nat.le_refl _) _⟩
  · go_enter Tryz.func81, Tryz.ntmps81
    go_wp2_with fail
    go_ret
    exact ⟨rfl, (Below.refl _ _).alloc (Nat.le_refl _) _⟩
end Go.Proofs.YthlakbjnmbddaaaGreatDoor

/- The walk of vouchlaw11.many. -/
set_option linter.unusedVariables false
namespace Go.Proofs.YthlakbjnmbddaaaGreatDoor
open Go.RowKit

mutual
def manyF (top : Int) : T → Int
  | .mk _ _ _ _ _ _ _ ps => min (manyL top ps 1) (top + 1)
def manyL (top : Int) : List T → Int → Int
  | [], s => s
  | p :: ps, s => if s ≤ top then manyL top ps (s + manyF top p) else s
end
theorem manyF_eq (top : Int) (t : T) : manyF top t = min (manyL top t.ps 1) (top + 1) := by cases t; rw [manyF]; rfl

theorem manyL_ge (top : Int) (h : 0 ≤ top) (ps : List T) (ih : ∀ p ∈ ps, 1 ≤ manyF top p) : ∀ s, 1 ≤ s → 1 ≤ manyL top ps s := by
  induction ps with
  | nil => intro s hs; simpa [manyL] using hs
  | cons p ps ih2 =>
    intro s hs
    rw [manyL]
    split
    · exact ih2 (fun q hq => ih q (List.mem_cons_of_mem _ hq)) _ (by have := ih p (List.mem_cons_self ..); omega)
    · exact hs
theorem manyF_bd (top : Int) (h : 0 ≤ top) (t : T) : 1 ≤ manyF top t ∧ manyF top t ≤ top + 1 := by
  induction t using T.ind with
  | h t ih =>
    rw [manyF_eq]
    have := manyL_ge top h t.ps (fun p hp => (ih p hp).1) 1 (by omega)
    omega
theorem manyL_stop (top : Int) (ps : List T) (s : Int) (h : ¬ s ≤ top) : manyL top ps s = s := by
  cases ps with
  | nil => rw [manyL]
  | cons p ps => rw [manyL, if_neg h]

set_option maxRecDepth 100000 in
set_option maxHeartbeats 400000 in
theorem many_any (top : Int) (h0 : 0 ≤ top) (h1 : top ≤ 1000000) (t : T) : ∀ (w : World) (ok : Nat → Prop) (A : Option Addr) (c : Nat), NodeAt w ok t A c → (∀ b, ok b → b < w.heap.size) →
    Calls Tryz.prog 47 #[nodeV t A c, .int .i64 top] w fun e w' => e = .returned (.int .i64 (manyF top t)) ∧ Below w.heap.size w w' := by
  induction t using T.ind with
  | h t ih =>
    intro w ok A c hN hok
    have hlen := hN.len
    go_enter Tryz.func47, Tryz.ntmps47
    go_wp2_with fail
    generalize hW : w.alloc _ = W0
    have hB0 : Below w.heap.size w W0 := by subst hW; exact (Below.refl _ _).alloc (Nat.le_refl _) _
    have hc7 : W0.cell? ⟨w.heap.size, 7, none⟩ = some (.slice A t.ps.length c) := by subst hW; simp [go_sem]
    have hsz : w.heap.size < W0.heap.size := by subst hW; simp
    clear hW
    go_loopg [5, 6] (t.ps.length) (fun n s i wr => ∃ (j : Nat) (x : Int), s = .int .i64 x ∧ i = .int .i64 j ∧ j + n = t.ps.length ∧ 1 ≤ x ∧ x ≤ 2 * top + 2 ∧ manyL top (t.ps.drop j) x = manyL top t.ps 1 ∧ Below w.heap.size w wr ∧ w.heap.size < wr.heap.size ∧ wr.cell? ⟨w.heap.size, 7, none⟩ = some (.slice A t.ps.length c))
    case atStart => exact ⟨0, 1, rfl, rfl, by omega, by omega, by omega, rfl, hB0, hsz, hc7⟩
    case round =>
      obtain ⟨j, x, rfl, rfl, hj, hx1, hx2, hm, hB, hs, hc7'⟩ := hrel
      have Hm := Lib.hid hm; clear hm
      clear hc7 hB0 hsz
      by_cases hlt : j < t.ps.length
      · obtain ⟨b, o, rfl, hb, hcell⟩ := hN.part (by omega)
        obtain ⟨A', c', h8, hNj⟩ := hcell j hlt
        have Hih := Lib.hid (ih t.ps[j] (List.getElem_mem _)); clear ih
        have hbd := manyF_bd top h0 t.ps[j]
        have hNj' := hNj.later hB hok
        obtain ⟨f0, f1, f2, f3, f4, f5, f6, f7⟩ := h8.mono (w' := wr) (fun o => hB.cell (p := ⟨b, o, none⟩) (hok b hb))
        have Hd := Lib.hid (drop_cons hlt)
        clear hcell hN hNj
        generalize t.ps[j] = p at *
        by_cases hx : x ≤ top
        · go_wp2_with fail
          refine (Hih.out wr ok A' c' hNj' (fun b h => by have := hok b h; omega)).mono ?_
          rintro e w1 ⟨rfl, hb1⟩
          obtain ⟨hc1, hf1⟩ := bcell hb1
          have hz1 := hb1.size
          go_wp2_with fail
          go_roundg (gk - 1)
          case measure => omega
          case rel => exact ⟨j + 1, x + manyF top p, rfl, by go_num, by omega, by omega, by omega, by rw [← Hm.out, Hd.out, manyL, if_pos hx], hB.trans (hb1.mono (by omega)), by omega, (hc1 _ _ hs).trans hc7'⟩
        · have hres : min x (top + 1) = manyF top t := by rw [manyF_eq, ← Hm.out, manyL_stop _ _ _ hx]
          have Hres := Lib.hid hres; clear hres
          go_wp2_with fail
          all_goals go_ret
          all_goals exact ⟨by rw [← Hres.out]; go_num, hB⟩
      · have hres : min x (top + 1) = manyF top t := by rw [manyF_eq, ← Hm.out, List.drop_of_length_le (by omega), manyL]
        have Hres := Lib.hid hres; clear hres
        go_wp2_with fail
        all_goals go_ret
        all_goals exact ⟨by rw [← Hres.out]; go_num, hB⟩
end Go.Proofs.YthlakbjnmbddaaaGreatDoor

/- Runs of operations that the kit's walk does not carry out by itself: sets (arrays of four words) compared, and states of machines. -/
set_option linter.unusedVariables false
set_option linter.unusedSimpArgs false
namespace Go.Proofs.YthlakbjnmbddaaaGreatDoor
open Go.RowKit

/-- Are two sets the same? -/
def eq4 (a0 a1 a2 a3 b0 b1 b2 b3 : Int) : Bool := a0 == b0 && a1 == b1 && a2 == b2 && a3 == b3
theorem eq4_true {a0 a1 a2 a3 b0 b1 b2 b3 : Int} (h : a0 = b0 ∧ a1 = b1 ∧ a2 = b2 ∧ a3 = b3) : eq4 a0 a1 a2 a3 b0 b1 b2 b3 = true := by
  obtain ⟨rfl, rfl, rfl, rfl⟩ := h; simp [eq4]
theorem eq4_iff {a0 a1 a2 a3 b0 b1 b2 b3 : Int} : eq4 a0 a1 a2 a3 b0 b1 b2 b3 = true ↔ (a0 = b0 ∧ a1 = b1 ∧ a2 = b2 ∧ a3 = b3) := by
  simp [eq4, and_assoc]

@[go_sem] theorem run_eq4 (w : World) (d : Nat) (a0 a1 a2 a3 b0 b1 b2 b3 : Int) :
    (Op.equalIn (d + 2) 28 (.agg #[.int .u64 a0, .int .u64 a1, .int .u64 a2, .int .u64 a3]) (.agg #[.int .u64 b0, .int .u64 b1, .int .u64 b2, .int .u64 b3])).run Tryz.prog w = .ok (eq4 a0 a1 a2 a3 b0 b1 b2 b3) w := by
  rw [Op.equalIn]
  simp only [Sem.run_bind, run_underlying Tryz.underlying28, Result.andThen_ok]
  simp [go_sem, List.range']
  unfold eq4
  by_cases h0 : a0 = b0 <;> by_cases h1 : a1 = b1 <;> by_cases h2 : a2 = b2 <;> by_cases h3 : a3 = b3 <;> simp [h0, h1, h2, h3]
end Go.Proofs.YthlakbjnmbddaaaGreatDoor

/- The walks of pattern.size, pattern.right, pattern.Check. -/
set_option linter.unusedVariables false
set_option linter.unusedSimpArgs false
namespace Go.Proofs.YthlakbjnmbddaaaGreatDoor
open Go.RowKit

mutual
def sizeF : T → Int → Int
  | .mk _ _ _ _ _ _ _ ps, most => sizeL ps 1 most
def sizeL : List T → Int → Int → Int
  | [], s, _ => s
  | p :: ps, s, most => if s ≤ most then sizeL ps (s + sizeF p (most - s)) most else s
end
theorem sizeF_eq (t : T) (most : Int) : sizeF t most = sizeL t.ps 1 most := by cases t; rw [sizeF]; rfl
theorem sizeL_stop (ps : List T) (s most : Int) (h : ¬ s ≤ most) : sizeL ps s most = s := by
  cases ps with
  | nil => rw [sizeL]
  | cons p ps => rw [sizeL, if_neg h]
theorem sizeL_bd (ps : List T) (ih : ∀ p ∈ ps, ∀ most, 0 ≤ most → 1 ≤ sizeF p most ∧ sizeF p most ≤ most + 1) : ∀ s most, 1 ≤ s → s ≤ most + 1 → 1 ≤ sizeL ps s most ∧ sizeL ps s most ≤ most + 1 := by
  induction ps with
  | nil => intro s most hs hm; rw [sizeL]; omega
  | cons p ps ih2 =>
    intro s most hs hm
    rw [sizeL]
    split
    · have := ih p (List.mem_cons_self ..) (most - s) (by omega)
      exact ih2 (fun q hq => ih q (List.mem_cons_of_mem _ hq)) _ _ (by omega) (by omega)
    · omega
theorem sizeF_bd (t : T) : ∀ most, 0 ≤ most → 1 ≤ sizeF t most ∧ sizeF t most ≤ most + 1 := by
  induction t using T.ind with
  | h t ih =>
    intro most hm
    rw [sizeF_eq]
    exact sizeL_bd t.ps ih 1 most (by omega) (by omega)

set_option maxRecDepth 100000 in
set_option maxHeartbeats 400000 in
theorem size_any (t : T) : ∀ (most : Int) (h0 : 0 ≤ most) (h1 : most ≤ 1000000) (w : World) (ok : Nat → Prop) (A : Option Addr) (c : Nat), NodeAt w ok t A c → (∀ b, ok b → b < w.heap.size) →
    Calls Tryz.prog 67 #[nodeV t A c, .int .i64 most] w fun e w' => e = .returned (.int .i64 (sizeF t most)) ∧ Below w.heap.size w w' := by
  induction t using T.ind with
  | h t ih =>
    intro most h0 h1 w ok A c hN hok
    have hlen := hN.len
    go_enter Tryz.func67, Tryz.ntmps67
    go_wp2_with fail
    generalize hW : w.alloc _ = W0
    have hB0 : Below w.heap.size w W0 := by subst hW; exact (Below.refl _ _).alloc (Nat.le_refl _) _
    clear hW
    go_loopg [5, 11] (t.ps.length) (fun n s i wr => ∃ (j : Nat) (x : Int), s = .int .i64 x ∧ i = .int .i64 j ∧ j + n = t.ps.length ∧ 1 ≤ x ∧ x ≤ most + 1 ∧ sizeL (t.ps.drop j) x most = sizeL t.ps 1 most ∧ Below w.heap.size w wr)
    case atStart => exact ⟨0, 1, rfl, rfl, by omega, by omega, by omega, rfl, hB0⟩
    case round =>
      obtain ⟨j, x, rfl, rfl, hj, hx1, hx2, hm, hB⟩ := hrel
      have Hm := Lib.hid hm; clear hm
      have hs := hB.size
      clear hB0
      by_cases hlt : j < t.ps.length
      · obtain ⟨b, o, rfl, hb, hcell⟩ := hN.part (by omega)
        obtain ⟨A', c', h8, hNj⟩ := hcell j hlt
        have Hih := Lib.hid (ih t.ps[j] (List.getElem_mem _)); clear ih
        have hNj' := hNj.later hB hok
        obtain ⟨f0, f1, f2, f3, f4, f5, f6, f7⟩ := h8.mono (w' := wr) (fun o => hB.cell (p := ⟨b, o, none⟩) (hok b hb))
        have Hd := Lib.hid (drop_cons hlt)
        clear hcell hN hNj
        generalize t.ps[j] = p at *
        by_cases hx : x ≤ most
        · have hbd := sizeF_bd p (most - x) (by omega)
          go_wp2_with fail
          refine (Hih.out (most - x) (by omega) (by omega) _ ok A' c' (hNj'.later ((Below.refl _ _).alloc (Nat.le_refl _) _) (fun b h => by have := hok b h; omega)) (fun b h => by have := hok b h; simp; omega)).mono ?_
          rintro e w1 ⟨rfl, hb1⟩
          go_wp2_with fail
          go_roundg (gk - 1)
          case measure => omega
          case rel => exact ⟨j + 1, x + sizeF p (most - x), rfl, by go_num, by omega, by omega, by omega, by rw [← Hm.out, Hd.out, sizeL, if_pos hx], (hB.alloc hs _).trans (hb1.mono (by simp; omega))⟩
        · have hres : x = sizeF t most := by rw [sizeF_eq, ← Hm.out, sizeL_stop _ _ _ hx]
          have Hres := Lib.hid hres; clear hres
          go_wp2_with fail
          go_ret
          exact ⟨by rw [← Hres.out]; rfl, hB.alloc hs _⟩
      · have hres : x = sizeF t most := by rw [sizeF_eq, ← Hm.out, List.drop_of_length_le (by omega), sizeL]
        have Hres := Lib.hid hres; clear hres
        go_wp2_with fail
        go_ret
        exact ⟨by rw [← Hres.out]; rfl, hB⟩


mutual
def rightF : T → Bool
  | .mk k s0 s1 s2 s3 mn mx ps =>
    if (k ≠ 1 ∧ ¬ (s0 = 0 ∧ s1 = 0 ∧ s2 = 0 ∧ s3 = 0)) ∨ (k ≠ 6 ∧ (mn ≠ 0 ∨ mx ≠ 0)) then false
    else if k = 0 ∨ k = 1 ∨ k = 2 ∨ k = 3 then decide (ps.length = 0)
    else if k = 4 ∨ k = 5 then (if ps.length < 2 then false else rightL ps)
    else if k = 6 then (if ps.length ≠ 1 ∨ mn < 0 ∨ 255 < max mn mx ∨ (mx ≠ -1 ∧ mx < mn) then false else rightL ps)
    else false
def rightL : List T → Bool
  | [] => true
  | p :: ps => rightF p && rightL ps
end
theorem rightF_eq (t : T) : rightF t = if (t.k ≠ 1 ∧ ¬ (t.s0 = 0 ∧ t.s1 = 0 ∧ t.s2 = 0 ∧ t.s3 = 0)) ∨ (t.k ≠ 6 ∧ (t.mn ≠ 0 ∨ t.mx ≠ 0)) then false
    else if t.k = 0 ∨ t.k = 1 ∨ t.k = 2 ∨ t.k = 3 then decide (t.ps.length = 0)
    else if t.k = 4 ∨ t.k = 5 then (if t.ps.length < 2 then false else rightL t.ps)
    else if t.k = 6 then (if t.ps.length ≠ 1 ∨ t.mn < 0 ∨ 255 < max t.mn t.mx ∨ (t.mx ≠ -1 ∧ t.mx < t.mn) then false else rightL t.ps)
    else false := by cases t; rw [rightF]; rfl

/-- Where right looks at the parts. -/
def loops (t : T) : Prop := (t.k = 4 ∧ t.mn = 0 ∧ t.mx = 0 ∧ eq4 t.s0 t.s1 t.s2 t.s3 0 0 0 0 = true ∧ 2 ≤ t.ps.length) ∨ (t.k = 5 ∧ t.mn = 0 ∧ t.mx = 0 ∧ eq4 t.s0 t.s1 t.s2 t.s3 0 0 0 0 = true ∧ 2 ≤ t.ps.length) ∨
  (t.k = 6 ∧ 0 ≤ t.mn ∧ t.mn ≤ 255 ∧ t.mx = -1 ∧ eq4 t.s0 t.s1 t.s2 t.s3 0 0 0 0 = true ∧ t.ps.length = 1) ∨ (t.k = 6 ∧ 0 ≤ t.mn ∧ t.mn ≤ t.mx ∧ t.mx ≤ 255 ∧ eq4 t.s0 t.s1 t.s2 t.s3 0 0 0 0 = true ∧ t.ps.length = 1)
theorem rightF_loops {t : T} (h : loops t) : rightF t = rightL t.ps := by
  unfold loops at h
  simp only [eq4_iff] at h
  rw [rightF_eq]
  repeat' split
  all_goals first
    | rfl
    | (exfalso; omega)

set_option maxRecDepth 100000 in
set_option maxHeartbeats 1000000 in
theorem right_stops (t : T) (hl : ¬ loops t) (w : World) (ok : Nat → Prop) (A : Option Addr) (c : Nat) (hN : NodeAt w ok t A c) (hok : ∀ b, ok b → b < w.heap.size) :
    Calls Tryz.prog 68 #[nodeV t A c] w fun e w' => e = .returned (.bool (rightF t)) ∧ Below w.heap.size w w' := by
  have hlen := hN.len
  have Hl := Lib.hid hl; clear hl
  go_enter Tryz.func68, Tryz.ntmps68
  go_wp2_with fail
  all_goals (first
    | (go_ret; refine ⟨?_, ((Below.refl _ _).alloc (Nat.le_refl _) _).alloc (by simp) _⟩; refine congrArg (fun b => Ending.returned (.bool b)) ?_; exact Eq.symm (by
        rw [rightF_eq]
        go_tidy
        simp only [eq4_iff, bne_iff_ne, ne_eq, beq_iff_eq, beq_eq_false_iff_ne, bne_eq_false_iff_eq, Bool.not_eq_true] at *
        repeat' split
        all_goals first
          | rfl
          | (exfalso; omega)
          | (rw [Bool.eq_iff_iff, decide_eq_true_iff, beq_iff_eq]; omega)))
    | (exfalso
       refine Hl.out ?_
       unfold loops
       go_tidy
       simp only [eq4_iff, bne_iff_ne, ne_eq, beq_iff_eq, beq_eq_false_iff_ne, bne_eq_false_iff_eq, Bool.not_eq_true] at *
       omega))

set_option maxRecDepth 100000 in
set_option maxHeartbeats 1000000 in
theorem right_any (t : T) : ∀ (w : World) (ok : Nat → Prop) (A : Option Addr) (c : Nat), NodeAt w ok t A c → (∀ b, ok b → b < w.heap.size) →
    Calls Tryz.prog 68 #[nodeV t A c] w fun e w' => e = .returned (.bool (rightF t)) ∧ Below w.heap.size w w' := by
  induction t using T.ind with
  | h t ih =>
    intro w ok A c hN hok
    by_cases hl : loops t
    case neg => exact right_stops t hl w ok A c hN hok
    have hlen := hN.len
    have Hloop := Lib.hid (rightF_loops hl)
    unfold loops at hl
    rcases hl with ⟨hk, hmn, hmx, hq, hn⟩ | ⟨hk, hmn, hmx, hq, hn⟩ | ⟨hk, hmn, hmn', hmx, hq, hn⟩ | ⟨hk, hmn, hmn', hmx, hq, hn⟩
    case' inr.inr.inr =>
      have h255 : t.mn ≤ 255 := by omega
      have hm1 : (t.mx != -1) = true := by rw [bne_iff_ne]; omega
    all_goals
      go_enter Tryz.func68, Tryz.ntmps68
      go_wp2_with fail
    all_goals
      have hn' := Lib.hid hn
      clear hk hmn hmx hq hn
      generalize hW : (w.alloc _).alloc _ = W0
      have hB0 : Below w.heap.size w W0 := by subst hW; exact ((Below.refl _ _).alloc (Nat.le_refl _) _).alloc (by simp) _
      clear hW
      go_loopg [82] (t.ps.length) (fun n i wr => ∃ (j : Nat), i = .int .i64 j ∧ j + n = t.ps.length ∧ rightL (t.ps.drop j) = rightL t.ps ∧ Below w.heap.size w wr)
      case atStart => exact ⟨0, rfl, by omega, rfl, hB0⟩
      case round =>
        obtain ⟨j, rfl, hj, hm, hB⟩ := hrel
        have Hm := Lib.hid hm; clear hm
        have hs := hB.size
        clear hB0
        by_cases hlt : j < t.ps.length
        · obtain ⟨b, o, rfl, hb, hcell⟩ := hN.part (by omega)
          obtain ⟨A', c', h8, hNj⟩ := hcell j hlt
          have Hih := Lib.hid (ih t.ps[j] (List.getElem_mem _)); clear ih
          have hNj' := hNj.later hB hok
          obtain ⟨f0, f1, f2, f3, f4, f5, f6, f7⟩ := h8.mono (w' := wr) (fun o => hB.cell (p := ⟨b, o, none⟩) (hok b hb))
          have Hd := Lib.hid (drop_cons hlt)
          clear hcell hN hNj
          generalize t.ps[j] = p at *
          first
            | (have hj1 : (j : Int) < 1 := by (have := hn'.out; omega)
               go_wp2_with fail)
            | go_wp2_with fail
          refine (Hih.out _ ok A' c' (hNj'.later ((Below.refl _ _).alloc (Nat.le_refl _) _) (fun b h => by have := hok b h; omega)) (fun b h => by have := hok b h; simp; omega)).mono ?_
          rintro e w1 ⟨rfl, hb1⟩
          have hB1 : Below w.heap.size w w1 := (hB.alloc hs _).trans (hb1.mono (by simp; omega))
          cases hp : rightF p with
          | true =>
            have Hp := Lib.hid hp; clear hp
            go_wp2_with fail
            go_roundg (gk - 1)
            case measure => omega
            case rel => exact ⟨j + 1, by go_num, by omega, by rw [← Hm.out, Hd.out, rightL, Hp.out, Bool.true_and], hB1⟩
          | false =>
            have hres : rightF t = false := by rw [Hloop.out, ← Hm.out, Hd.out, rightL, hp, Bool.false_and]
            have Hres := Lib.hid hres; clear hres hp
            go_wp2_with fail
            go_ret
            exact ⟨by rw [Hres.out]; rfl, hB1⟩
        · have hres : rightF t = true := by rw [Hloop.out, ← Hm.out, List.drop_of_length_le (by omega), rightL]
          have Hres := Lib.hid hres; clear hres
          first
            | (have hj1 : ¬ (j : Int) < 1 := by (have := hn'.out; omega)
               go_wp2_with fail)
            | go_wp2_with fail
          go_ret
          exact ⟨by rw [Hres.out]; rfl, hB⟩

def checkF (t : T) : Int := if 2048 < sizeF t 2048 then 3 else if rightF t then 0 else 107

set_option maxRecDepth 100000 in
set_option maxHeartbeats 400000 in
theorem pcheck_any (t : T) (w : World) (ok : Nat → Prop) (A : Option Addr) (c : Nat) (hN : NodeAt w ok t A c) (hok : ∀ b, ok b → b < w.heap.size) :
    Calls Tryz.prog 46 #[nodeV t A c] w fun e w' => e = .returned (.int .i64 (checkF t)) ∧ Below w.heap.size w w' := by
  have hlen := hN.len
  go_enter Tryz.func46, Tryz.ntmps46
  go_wp2_with fail
  have hB0 : Below w.heap.size w (w.alloc (.cells #[.int .i64 t.k, .int .u64 t.s0, .int .u64 t.s1, .int .u64 t.s2, .int .u64 t.s3, .int .i64 t.mn, .int .i64 t.mx, .slice A t.ps.length c] 48)) := (Below.refl _ _).alloc (Nat.le_refl _) _
  refine (size_any t 2048 (by omega) (by omega) _ ok A c (hN.later hB0 hok) (fun b h => by have := hok b h; simp; omega)).mono ?_
  rintro e w1 ⟨rfl, hb1⟩
  have hB1 : Below w.heap.size w w1 := hB0.trans (hb1.mono (by simp))
  have hN1 := hN.later hB1 hok
  have hs1 := hB1.size
  obtain ⟨hc1, hf1⟩ := bcell hb1
  have g0 := hc1 w.heap.size 0 (by simp)
  have g1 := hc1 w.heap.size 1 (by simp)
  have g2 := hc1 w.heap.size 2 (by simp)
  have g3 := hc1 w.heap.size 3 (by simp)
  have g4 := hc1 w.heap.size 4 (by simp)
  have g5 := hc1 w.heap.size 5 (by simp)
  have g6 := hc1 w.heap.size 6 (by simp)
  have g7 := hc1 w.heap.size 7 (by simp)
  simp only [World.cell?_alloc_new, List.getElem?_toArray] at g0 g1 g2 g3 g4 g5 g6 g7
  clear hc1 hf1
  by_cases h : 2048 < sizeF t 2048
  · have hres : checkF t = 3 := by rw [checkF, if_pos h]
    have Hres := Lib.hid hres; clear hres
    go_wp2_with fail
    go_ret
    exact ⟨by rw [Hres.out]; rfl, hB1⟩
  · go_wp2_with fail
    refine (right_any t _ ok A c hN1 (fun b h => by have := hok b h; omega)).mono ?_
    rintro e w2 ⟨rfl, hb2⟩
    have hB2 : Below w.heap.size w w2 := hB1.trans (hb2.mono (by omega))
    cases hr : rightF t with
    | true =>
      have hres : checkF t = 0 := by rw [checkF, if_neg (by omega), if_pos hr]
      have Hres := Lib.hid hres; clear hres
      go_wp2_with fail
      go_ret
      exact ⟨by rw [Hres.out]; rfl, hB2⟩
    | false =>
      have hres : checkF t = 107 := by rw [checkF, if_neg (by omega), hr]; rfl
      have Hres := Lib.hid hres; clear hres
      go_wp2_with fail
      go_ret
      exact ⟨by rw [Hres.out]; rfl, hB2⟩
end Go.Proofs.YthlakbjnmbddaaaGreatDoor

/- The walks of nfa.count, nfa.Size. -/
set_option linter.unusedVariables false
set_option linter.unusedSimpArgs false
namespace Go.Proofs.YthlakbjnmbddaaaGreatDoor
open Go.RowKit

/-- What a node lays, its parts laying s together. -/
def countK (k mn mx s n : Int) : Int :=
  if k = 5 then s + (n - 1) else if k = 6 then (if mx < 0 then s * (mn + 1) + 1 else s * mx + mx - mn) else s
mutual
def countF : T → Int
  | .mk k _ _ _ _ mn mx ps => if k = 0 then 0 else if k = 1 ∨ k = 2 ∨ k = 3 then 1 else min 4097 (countK k mn mx (countL ps 0) ps.length)
def countL : List T → Int → Int
  | [], s => s
  | p :: ps, s => countL ps (min 4097 (s + countF p))
end
theorem rightL_mem : ∀ {ps : List T}, rightL ps = true → ∀ p ∈ ps, rightF p = true
  | [], _, p, hp => by cases hp
  | q :: ps, h, p, hp => by
    rw [rightL, Bool.and_eq_true] at h
    cases hp with
    | head => exact h.1
    | tail _ hp => exact rightL_mem h.2 p hp
/-- What is right: its shape. -/
theorem right_cases {t : T} (h : rightF t = true) : (t.k = 0 ∧ t.ps.length = 0 ∧ t.mn = 0 ∧ t.mx = 0) ∨ (t.k = 1 ∧ t.ps.length = 0 ∧ t.mn = 0 ∧ t.mx = 0) ∨ (t.k = 2 ∧ t.ps.length = 0 ∧ t.mn = 0 ∧ t.mx = 0) ∨ (t.k = 3 ∧ t.ps.length = 0 ∧ t.mn = 0 ∧ t.mx = 0) ∨
    (t.k = 4 ∧ 2 ≤ t.ps.length ∧ t.mn = 0 ∧ t.mx = 0) ∨ (t.k = 5 ∧ 2 ≤ t.ps.length ∧ t.mn = 0 ∧ t.mx = 0) ∨ (t.k = 6 ∧ t.ps.length = 1 ∧ 0 ≤ t.mn ∧ t.mn ≤ 255 ∧ t.mx ≤ 255 ∧ (t.mx = -1 ∨ t.mn ≤ t.mx)) := by
  rw [rightF_eq] at h
  split at h
  · cases h
  rename_i g1
  split at h
  · rename_i g2
    rw [decide_eq_true_eq] at h
    rcases g2 with g | g | g | g
    · exact .inl ⟨g, h, by omega, by omega⟩
    · exact .inr (.inl ⟨g, h, by omega, by omega⟩)
    · exact .inr (.inr (.inl ⟨g, h, by omega, by omega⟩))
    · exact .inr (.inr (.inr (.inl ⟨g, h, by omega, by omega⟩)))
  split at h
  · rename_i g2
    split at h
    · cases h
    rcases g2 with g | g
    · exact .inr (.inr (.inr (.inr (.inl ⟨g, by omega, by omega, by omega⟩))))
    · exact .inr (.inr (.inr (.inr (.inr (.inl ⟨g, by omega, by omega, by omega⟩)))))
  split at h
  · rename_i g2
    split at h
    · cases h
    exact .inr (.inr (.inr (.inr (.inr (.inr ⟨g2, by omega, by omega, by omega, by omega, by omega⟩)))))
  · cases h
theorem right_parts {t : T} (h : rightF t = true) : ∀ p ∈ t.ps, rightF p = true := by
  rw [rightF_eq] at h
  split at h
  · cases h
  split at h
  · rw [decide_eq_true_eq] at h
    have := List.eq_nil_of_length_eq_zero h
    intro p hp
    rw [this] at hp
    cases hp
  split at h
  · split at h
    · cases h
    · exact rightL_mem h
  split at h
  · split at h
    · cases h
    · exact rightL_mem h
  · cases h

theorem check_right {t : T} (h : checkF t = 0) : rightF t = true ∧ sizeF t 2048 ≤ 2048 := by
  unfold checkF at h
  split at h
  · omega
  · split at h
    · exact ⟨by assumption, by omega⟩
    · omega

end Go.Proofs.YthlakbjnmbddaaaGreatDoor

/- vouchref10: count, may, Check: walked; the count of nodes. -/
set_option linter.unusedVariables false
set_option linter.unusedSimpArgs false
namespace Go.Proofs.YthlakbjnmbddaaaGreatDoor
open Go.RowKit

mutual
/-- How many nodes a tree has. -/
def nodesF : T → Int
  | .mk _ _ _ _ _ _ _ ps => 1 + nodesL ps
def nodesL : List T → Int
  | [] => 0
  | p :: ps => nodesF p + nodesL ps
end
theorem nodesF_eq (t : T) : nodesF t = 1 + nodesL t.ps := by cases t; rw [nodesF]; rfl
theorem nodesL_pos (ps : List T) (ih : ∀ p ∈ ps, 1 ≤ nodesF p) : 0 ≤ nodesL ps := by
  induction ps with
  | nil => rw [nodesL]; omega
  | cons p ps ih2 =>
    rw [nodesL]
    have := ih p (List.mem_cons_self ..)
    have := ih2 (fun q hq => ih q (List.mem_cons_of_mem _ hq))
    omega
theorem nodesF_pos (t : T) : 1 ≤ nodesF t := by
  induction t using T.ind with
  | h t ih => rw [nodesF_eq]; have := nodesL_pos t.ps ih; omega
theorem manyL_min (top : Int) (h0 : 0 ≤ top) (ps : List T) (ih : ∀ p ∈ ps, manyF top p = min (nodesF p) (top + 1)) : ∀ s, 1 ≤ s → min (manyL top ps s) (top + 1) = min (s + nodesL ps) (top + 1) := by
  induction ps with
  | nil => intro s hs; rw [manyL, nodesL]; omega
  | cons p ps ih2 =>
    intro s hs
    rw [manyL, nodesL]
    have h1 := nodesL_pos ps (fun q _ => nodesF_pos q)
    have h2 := nodesF_pos p
    split
    · have h3 := ih p (List.mem_cons_self ..)
      rw [ih2 (fun q hq => ih q (List.mem_cons_of_mem _ hq)) _ (by omega), h3]
      omega
    · omega
theorem manyF_min (top : Int) (h0 : 0 ≤ top) (t : T) : manyF top t = min (nodesF t) (top + 1) := by
  induction t using T.ind with
  | h t ih => rw [manyF_eq, manyL_min top h0 t.ps ih 1 (by omega), nodesF_eq]
theorem sizeL_min (ps : List T) (ih : ∀ p ∈ ps, ∀ most, 0 ≤ most → sizeF p most = min (nodesF p) (most + 1)) : ∀ s most, 1 ≤ s → 0 ≤ most → min (sizeL ps s most) (most + 1) = min (s + nodesL ps) (most + 1) := by
  induction ps with
  | nil => intro s most hs hm; rw [sizeL, nodesL]; omega
  | cons p ps ih2 =>
    intro s most hs hm
    rw [sizeL, nodesL]
    have h1 := nodesL_pos ps (fun q _ => nodesF_pos q)
    have h2 := nodesF_pos p
    split
    · have h3 := ih p (List.mem_cons_self ..) (most - s) (by omega)
      rw [ih2 (fun q hq => ih q (List.mem_cons_of_mem _ hq)) _ _ (by omega) hm, h3]
      omega
    · omega
theorem sizeF_min (t : T) : ∀ most, 0 ≤ most → sizeF t most = min (nodesF t) (most + 1) := by
  induction t using T.ind with
  | h t ih =>
    intro most hm
    have h1 := sizeF_bd t most hm
    have h2 := sizeL_min t.ps ih 1 most (by omega) hm
    rw [sizeF_eq] at h1 ⊢
    rw [nodesF_eq]
    omega
theorem count_is (t : T) : manyF 2048 t = sizeF t 2048 := by rw [manyF_min 2048 (by omega), sizeF_min t 2048 (by omega)]

set_option maxRecDepth 100000 in
set_option maxHeartbeats 400000 in
theorem rcount_any (t : T) : ∀ (w : World) (ok : Nat → Prop) (A : Option Addr) (c : Nat), NodeAt w ok t A c → (∀ b, ok b → b < w.heap.size) →
    Calls Tryz.prog 70 #[nodeV t A c] w fun e w' => e = .returned (.int .i64 (manyF 2048 t)) ∧ Below w.heap.size w w' := by
  induction t using T.ind with
  | h t ih =>
    intro w ok A c hN hok
    have hlen := hN.len
    go_enter Tryz.func70, Tryz.ntmps70
    go_wp2_with fail
    generalize hW : w.alloc _ = W0
    have hB0 : Below w.heap.size w W0 := by subst hW; exact (Below.refl _ _).alloc (Nat.le_refl _) _
    have hc7 : W0.cell? ⟨w.heap.size, 7, none⟩ = some (.slice A t.ps.length c) := by subst hW; simp [go_sem]
    have hsz : w.heap.size < W0.heap.size := by subst hW; simp
    clear hW
    go_loopg [3, 4] (t.ps.length) (fun n s i wr => ∃ (j : Nat) (x : Int), s = .int .i64 x ∧ i = .int .i64 j ∧ j + n = t.ps.length ∧ 1 ≤ x ∧ x ≤ 4100 ∧ manyL 2048 (t.ps.drop j) x = manyL 2048 t.ps 1 ∧ Below w.heap.size w wr ∧ w.heap.size < wr.heap.size ∧ wr.cell? ⟨w.heap.size, 7, none⟩ = some (.slice A t.ps.length c))
    case atStart => exact ⟨0, 1, rfl, rfl, by omega, by omega, by omega, rfl, hB0, hsz, hc7⟩
    case round =>
      obtain ⟨j, x, rfl, rfl, hj, hx1, hx2, hm, hB, hs, hc7'⟩ := hrel
      have Hm := Lib.hid hm; clear hm
      clear hc7 hB0 hsz
      by_cases hlt : j < t.ps.length
      · obtain ⟨b, o, rfl, hb, hcell⟩ := hN.part (by omega)
        obtain ⟨A', c', h8, hNj⟩ := hcell j hlt
        have Hih := Lib.hid (ih t.ps[j] (List.getElem_mem _)); clear ih
        have hbd := manyF_bd 2048 (by omega) t.ps[j]
        have hNj' := hNj.later hB hok
        obtain ⟨f0, f1, f2, f3, f4, f5, f6, f7⟩ := h8.mono (w' := wr) (fun o => hB.cell (p := ⟨b, o, none⟩) (hok b hb))
        have Hd := Lib.hid (drop_cons hlt)
        clear hcell hN hNj
        generalize t.ps[j] = p at *
        by_cases hx : x ≤ 2048
        · go_wp2_with fail
          refine (Hih.out wr ok A' c' hNj' (fun b h => by have := hok b h; omega)).mono ?_
          rintro e w1 ⟨rfl, hb1⟩
          obtain ⟨hc1, hf1⟩ := bcell hb1
          have hz1 := hb1.size
          go_wp2_with fail
          go_roundg (gk - 1)
          case measure => omega
          case rel => exact ⟨j + 1, x + manyF 2048 p, rfl, by go_num, by omega, by omega, by omega, by rw [← Hm.out, Hd.out, manyL, if_pos hx], hB.trans (hb1.mono (by omega)), by omega, (hc1 _ _ hs).trans hc7'⟩
        · have hres : min x (2049 : Int) = manyF 2048 t := by rw [manyF_eq, ← Hm.out, manyL_stop _ _ _ hx]; rfl
          have Hres := Lib.hid hres; clear hres
          go_wp2_with fail
          all_goals go_ret
          all_goals exact ⟨by rw [← Hres.out]; go_num, hB⟩
      · have hres : min x (2049 : Int) = manyF 2048 t := by rw [manyF_eq, ← Hm.out, List.drop_of_length_le (by omega), manyL]; rfl
        have Hres := Lib.hid hres; clear hres
        go_wp2_with fail
        all_goals go_ret
        all_goals exact ⟨by rw [← Hres.out]; go_num, hB⟩
set_option maxRecDepth 100000 in
set_option maxHeartbeats 1000000 in
theorem may_stops (t : T) (hl : ¬ loops t) (w : World) (ok : Nat → Prop) (A : Option Addr) (c : Nat) (hN : NodeAt w ok t A c) (hok : ∀ b, ok b → b < w.heap.size) :
    Calls Tryz.prog 71 #[nodeV t A c] w fun e w' => e = .returned (.bool (rightF t)) ∧ Below w.heap.size w w' := by
  have hlen := hN.len
  have Hl := Lib.hid hl; clear hl
  go_enter Tryz.func71, Tryz.ntmps71
  go_wp2_with fail
  all_goals (first
    | (go_ret; refine ⟨?_, ((Below.refl _ _).alloc (Nat.le_refl _) _)⟩; refine congrArg (fun b => Ending.returned (.bool b)) ?_; exact Eq.symm (by
        rw [rightF_eq]
        go_tidy
        simp only [eq4_iff, bne_iff_ne, ne_eq, beq_iff_eq, beq_eq_false_iff_ne, bne_eq_false_iff_eq, Bool.not_eq_true, Bool.not_eq_true', Bool.not_eq_false'] at *
        repeat' split
        all_goals first
          | rfl
          | (exfalso; omega)
          | (rw [Bool.eq_iff_iff, decide_eq_true_iff, beq_iff_eq]; omega)))
    | (exfalso
       refine Hl.out ?_
       unfold loops
       go_tidy
       simp only [eq4_iff, bne_iff_ne, ne_eq, beq_iff_eq, beq_eq_false_iff_ne, bne_eq_false_iff_eq, Bool.not_eq_true, Bool.not_eq_true', Bool.not_eq_false'] at *
       omega))

set_option maxRecDepth 100000 in
set_option maxHeartbeats 1000000 in
theorem may_any (t : T) : ∀ (w : World) (ok : Nat → Prop) (A : Option Addr) (c : Nat), NodeAt w ok t A c → (∀ b, ok b → b < w.heap.size) →
    Calls Tryz.prog 71 #[nodeV t A c] w fun e w' => e = .returned (.bool (rightF t)) ∧ Below w.heap.size w w' := by
  induction t using T.ind with
  | h t ih =>
    intro w ok A c hN hok
    by_cases hl : loops t
    case neg => exact may_stops t hl w ok A c hN hok
    have hlen := hN.len
    have Hloop := Lib.hid (rightF_loops hl)
    unfold loops at hl
    rcases hl with ⟨hk, hmn, hmx, hq, hn⟩ | ⟨hk, hmn, hmx, hq, hn⟩ | ⟨hk, hmn, hmn', hmx, hq, hn⟩ | ⟨hk, hmn, hmn', hmx, hq, hn⟩
    case' inr.inr.inr =>
      have h255 : t.mn ≤ 255 := by omega
      have hm1 : (t.mx != -1) = true := by rw [bne_iff_ne]; omega
    all_goals
      go_enter Tryz.func71, Tryz.ntmps71
      go_wp2_with fail
    all_goals
      have hn' := Lib.hid hn
      clear hk hmn hmx hq hn
      generalize hW : w.alloc _ = W0
      have hB0 : Below w.heap.size w W0 := by subst hW; exact ((Below.refl _ _).alloc (Nat.le_refl _) _)
      have hsz : w.heap.size < W0.heap.size := by subst hW; simp
      have hc7 : W0.cell? ⟨w.heap.size, 7, none⟩ = some (.slice A t.ps.length c) := by subst hW; simp [go_sem]; try (have := hn'.out; omega)
      clear hW
      go_loopg [5] (t.ps.length) (fun n i wr => ∃ (j : Nat), i = .int .i64 j ∧ j + n = t.ps.length ∧ rightL (t.ps.drop j) = rightL t.ps ∧ Below w.heap.size w wr ∧ w.heap.size < wr.heap.size ∧ wr.cell? ⟨w.heap.size, 7, none⟩ = some (.slice A t.ps.length c))
      case atStart => exact ⟨0, rfl, by omega, rfl, hB0, hsz, hc7⟩
      case round =>
        obtain ⟨j, rfl, hj, hm, hB, hz, hc7'⟩ := hrel
        have Hm := Lib.hid hm; clear hm
        have hs := hB.size
        clear hB0 hc7 hsz
        by_cases hlt : j < t.ps.length
        · obtain ⟨b, o, rfl, hb, hcell⟩ := hN.part (by omega)
          obtain ⟨A', c', h8, hNj⟩ := hcell j hlt
          have Hih := Lib.hid (ih t.ps[j] (List.getElem_mem _)); clear ih
          have hNj' := hNj.later hB hok
          obtain ⟨f0, f1, f2, f3, f4, f5, f6, f7⟩ := h8.mono (w' := wr) (fun o => hB.cell (p := ⟨b, o, none⟩) (hok b hb))
          have Hd := Lib.hid (drop_cons hlt)
          clear hcell hN hNj
          generalize t.ps[j] = p at *
          first
            | (have hj1 : (j : Int) < 1 := by (have := hn'.out; omega)
               go_wp2_with fail)
            | go_wp2_with fail
          refine (Hih.out _ ok A' c' hNj' (fun b h => by have := hok b h; omega)).mono ?_
          rintro e w1 ⟨rfl, hb1⟩
          have hB1 : Below w.heap.size w w1 := hB.trans (hb1.mono (by omega))
          have hz1 := hb1.size
          have hc1 := (bcell hb1).1 _ 7 hz
          cases hp : rightF p with
          | true =>
            have Hp := Lib.hid hp; clear hp
            go_wp2_with fail
            go_roundg (gk - 1)
            case measure => omega
            case rel => exact ⟨j + 1, by go_num, by omega, by rw [← Hm.out, Hd.out, rightL, Hp.out, Bool.true_and], hB1, by omega, hc1.trans hc7'⟩
          | false =>
            have hres : rightF t = false := by rw [Hloop.out, ← Hm.out, Hd.out, rightL, hp, Bool.false_and]
            have Hres := Lib.hid hres; clear hres hp
            go_wp2_with fail
            go_ret
            exact ⟨by rw [Hres.out]; rfl, hB1⟩
        · have hres : rightF t = true := by rw [Hloop.out, ← Hm.out, List.drop_of_length_le (by omega), rightL]
          have Hres := Lib.hid hres; clear hres
          first
            | (have hj1 : ¬ (j : Int) < 1 := by (have := hn'.out; omega)
               go_wp2_with fail)
            | go_wp2_with fail
          go_ret
          exact ⟨by rw [Hres.out]; rfl, hB⟩

set_option maxRecDepth 100000 in
set_option maxHeartbeats 400000 in
theorem r10check_any (t : T) (w : World) (ok : Nat → Prop) (A : Option Addr) (c : Nat) (hN : NodeAt w ok t A c) (hok : ∀ b, ok b → b < w.heap.size) :
    Calls Tryz.prog 50 #[nodeV t A c] w fun e w' => e = .returned (.int .i64 (checkF t)) ∧ Below w.heap.size w w' := by
  have hlen := hN.len
  go_enter Tryz.func50, Tryz.ntmps50
  go_wp2_with fail
  have hB0 : Below w.heap.size w (w.alloc (.cells #[.int .i64 t.k, .int .u64 t.s0, .int .u64 t.s1, .int .u64 t.s2, .int .u64 t.s3, .int .i64 t.mn, .int .i64 t.mx, .slice A t.ps.length c] 48)) := (Below.refl _ _).alloc (Nat.le_refl _) _
  refine (rcount_any t _ ok A c (hN.later hB0 hok) (fun b h => by have := hok b h; simp; omega)).mono ?_
  rw [count_is]
  rintro e w1 ⟨rfl, hb1⟩
  have hB1 : Below w.heap.size w w1 := hB0.trans (hb1.mono (by simp))
  have hN1 := hN.later hB1 hok
  have hs1 := hB1.size
  obtain ⟨hc1, hf1⟩ := bcell hb1
  have g0 := hc1 w.heap.size 0 (by simp)
  have g1 := hc1 w.heap.size 1 (by simp)
  have g2 := hc1 w.heap.size 2 (by simp)
  have g3 := hc1 w.heap.size 3 (by simp)
  have g4 := hc1 w.heap.size 4 (by simp)
  have g5 := hc1 w.heap.size 5 (by simp)
  have g6 := hc1 w.heap.size 6 (by simp)
  have g7 := hc1 w.heap.size 7 (by simp)
  simp only [World.cell?_alloc_new, List.getElem?_toArray] at g0 g1 g2 g3 g4 g5 g6 g7
  clear hc1 hf1
  by_cases h : 2048 < sizeF t 2048
  · have hres : checkF t = 3 := by rw [checkF, if_pos h]
    have Hres := Lib.hid hres; clear hres
    go_wp2_with fail
    go_ret
    exact ⟨by rw [Hres.out]; rfl, hB1⟩
  · go_wp2_with fail
    refine (may_any t _ ok A c hN1 (fun b h => by have := hok b h; omega)).mono ?_
    rintro e w2 ⟨rfl, hb2⟩
    have hB2 : Below w.heap.size w w2 := hB1.trans (hb2.mono (by omega))
    cases hr : rightF t with
    | true =>
      have hres : checkF t = 0 := by rw [checkF, if_neg (by omega), if_pos hr]
      have Hres := Lib.hid hres; clear hres
      go_wp2_with fail
      go_ret
      exact ⟨by rw [Hres.out]; rfl, hB2⟩
    | false =>
      have hres : checkF t = 107 := by rw [checkF, if_neg (by omega), hr]; rfl
      have Hres := Lib.hid hres; clear hres
      go_wp2_with fail
      go_ret
      exact ⟨by rw [Hres.out]; rfl, hB2⟩
end Go.Proofs.YthlakbjnmbddaaaGreatDoor

/- A writer of patterns: how long what is written is; plain. And the writer's cells. -/
set_option linter.unusedVariables false
set_option linter.unusedSimpArgs false
namespace Go.Proofs.YthlakbjnmbddaaaGreatDoor
open Go.RowKit

theorem Wrote.le {b x : Bs} {o d : Int} {k : Nat} {b' : Bs} {d' : Int} (h : Wrote b x o d k b' d') (hl : b'.length ≤ 1024) : o ≤ d' := by
  unfold Wrote at h
  split at h
  · obtain ⟨_, h⟩ := h; omega
  · omega
theorem Wrote.late {b x : Bs} {o d : Int} {k : Nat} (h : 1024 < b.length) : Wrote b x o d k b d := by
  unfold Wrote
  rw [if_neg (by omega)]
  exact h
theorem Wrote.one {b x : Bs} {o d : Int} (h : b.length ≤ 1024 → o ≤ d) : Wrote b x o d 0 (b ++ x) d := by
  unfold Wrote
  split
  · exact ⟨rfl, by omega⟩
  · simp; omega
theorem Wrote.wrap {b x : Bs} {o d : Int} {k : Nat} {b' : Bs} {d' : Int} (h : Wrote (b ++ [40]) x (o + 1) (max d (o + 1)) k b' d') : Wrote b (parT true x) o d (k + 1) (b' ++ [41]) d' := by
  unfold Wrote at h ⊢
  simp only [List.length_append, List.length_cons, List.length_nil, parT, if_true] at h ⊢
  by_cases h1 : b.length + x.length + 2 ≤ 1024
  · rw [if_pos (by omega)] at h
    obtain ⟨rfl, rfl⟩ := h
    rw [if_pos (by omega)]
    exact ⟨by simp, by omega⟩
  · rw [if_neg (by omega)]
    split at h
    · obtain ⟨rfl, _⟩ := h
      simp only [List.length_append, List.length_cons, List.length_nil]; omega
    · omega
theorem runsT_len : ∀ (k : Nat) (l : List Nat), (runsT k l).length ≤ 11 * l.length
  | 0, l => by rw [runsT]; simp
  | k + 1, [] => by rw [runsT]; simp
  | k + 1, c :: t => by
    rw [runsT_step]
    have h1 := memT_len c
    have h2 := memT_len (c + runN c t)
    have h3 := runsT_len k (t.drop (runN c t))
    have h4 := runN_le c t
    simp only [List.length_append, List.length_drop, List.length_cons] at h3 ⊢
    split <;> split <;> simp only [List.length_cons, List.length_nil] <;> omega
theorem setT_len (s : W4) : (setT s).length ≤ 2900 := by
  unfold setT
  have h1 := runsT_len (bytesW s).length (bytesW s)
  have h2 := bytesW_le s
  split
  · simp
  split
  · simp
  split
  · split <;> simp
  · simp only [List.length_append, List.length_cons, List.length_nil]; omega
theorem timesT_top (m n : Int) : (timesT m n).length ≤ 9 := by
  unfold timesT
  have h1 := decT_len3 m.toNat
  have h2 := decT_len3 n.toNat
  repeat' split
  all_goals simp only [List.length_append, List.length_cons, List.length_nil] <;> omega
theorem WAt.cells {B p : Nat} {l : Bs} {o d : Int} {w : World} (h : WAt B p l o d w) : w.cell? ⟨p, 2, none⟩ = some (.int .i64 o) ∧ w.cell? ⟨p, 3, none⟩ = some (.int .i64 d) ∧ w.frozen? ⟨p, 2, none⟩ = false ∧ w.frozen? ⟨p, 3, none⟩ = false := by
  obtain ⟨_, a, v, hb, _⟩ := h
  exact ⟨hb.cells.2.2.1, hb.cells.2.2.2, hb.froz 2, hb.froz 3⟩
theorem WAt.put2 {B p : Nat} {l : Bs} {o d : Int} {w : World} (h : WAt B p l o d w) (o' : Int) : WAt B p l o' d (w.setCell ⟨p, 2, none⟩ (.int .i64 o')) := by
  obtain ⟨h1, a, v, h2, h3, h4, h5⟩ := h
  exact ⟨h1, a, v, h2.put2 _, h3, h4.kept (row := some p) ⟨rfl, rfl, rfl, by simp, fun k _ hk => Below.heap_setCell _ _ _ _ (fun e => hk (by rw [e]))⟩ (Or.inr (own_ne h4 h2)), h5⟩
theorem WAt.put3 {B p : Nat} {l : Bs} {o d : Int} {w : World} (h : WAt B p l o d w) (d' : Int) : WAt B p l o d' (w.setCell ⟨p, 3, none⟩ (.int .i64 d')) := by
  obtain ⟨h1, a, v, h2, h3, h4, h5⟩ := h
  exact ⟨h1, a, v, h2.put3 _, h3, h4.kept (row := some p) ⟨rfl, rfl, rfl, by simp, fun k _ hk => Below.heap_setCell _ _ _ _ (fun e => hk (by rw [e]))⟩ (Or.inr (own_ne h4 h2)), h5⟩
theorem WAt.drew {B p : Nat} {l : Bs} {o d : Int} {w : World} (h : WAt B p l o d w) : WAt B p l o d w.drew := h.later (Below.refl _ _).drew
theorem put_below {B p : Nat} {l : Bs} {o d : Int} {w : World} (h : WAt B p l o d w) (i : Nat) (v : Value) : Below B w (w.setCell ⟨p, i, none⟩ v) := (Below.refl _ _).setCell (p := ⟨p, i, none⟩) h.1 _

theorem foreign_new {B p : Nat} {l : Bs} {o d : Int} {w W : World} (h : WAt B p l o d w) (hb : Below w.heap.size w W) {k : Nat} (hk : w.heap.size ≤ k) (hz : k < W.heap.size) : Foreign W p k := by
  have hp := h.lt
  obtain ⟨_, a, v, h2, _, h4, _⟩ := h
  refine ⟨hz, by omega, fun u hu e => ?_⟩
  rw [hb.cell (p := ⟨p, 1, none⟩) hp, h2.cells.2.1] at hu
  cases hu
  have := (h4.lt k e).2
  omega
theorem Foreign.put {w : World} {p k : Nat} (h : Foreign w p k) (i : Nat) (hi : i ≠ 1) (v : Value) : Foreign (w.setCell ⟨p, i, none⟩ v) p k := by
  refine ⟨by simpa using h.1, h.2.1, fun u hu => h.2.2 u ?_⟩
  rw [World.cell?_setCell_other _ _ _ _ (by simp [Ne.symm hi])] at hu
  exact hu
theorem Foreign.drew {w : World} {p k : Nat} (h : Foreign w p k) : Foreign w.drew p k := h

theorem Fr.put {p : Nat} (w : World) (i : Nat) (hi : i ≠ 1) (v : Value) : Fr p w (w.setCell ⟨p, i, none⟩ v) := fun k hk => ⟨Below.heap_setCell _ _ _ _ hk.2.1, hk.put i hi v⟩
theorem WAt.drewF {B p : Nat} {l : Bs} {o d : Int} {w : World} (h : WAt B p l o d w) : Fr p w w.drew := Fr.of_below h.lt (Below.refl _ _).drew

/-- What a writing step of a text x leaves, its brackets k deep, at most m bytes beyond the limit. -/
def GW (B p : Nat) (l : Bs) (o d : Int) (x : Bs) (k : Nat) (m : Int) (w : World) (e : Ending) (w' : World) : Prop :=
  ∃ (l' : Bs) (d' : Int), e = .returned (.tuple #[]) ∧ WAt B p l' o d' w' ∧ Wrote l x o d k l' d' ∧ (l'.length : Int) ≤ max (l.length : Int) 4000 + m ∧ Below B w w' ∧ Fr p w w'
/-- What node does with a tree. -/
def NodeC (t : T) : Prop := ∀ (B p : Nat) (l : Bs) (o d : Int) (w : World) (ok : Nat → Prop) (A : Option Addr) (c : Nat), NodeAt w ok t A c → (∀ b, ok b → b < B) → WAt B p l o d w → B ≤ w.heap.size → TabIn B w → rightF t = true → Words t →
  0 ≤ o → (l.length ≤ 1024 → o ≤ d) → o + nodesF t ≤ 100000 → max (l.length : Int) 4000 + 16 * nodesF t ≤ 500000 →
  Calls Tryz.prog 54 #[.pointer (some ⟨p, 0, none⟩), nodeV t A c] w fun e w' => GW B p l o d (prT t) (deepT t) (16 * nodesF t - 4) w e w'
end Go.Proofs.YthlakbjnmbddaaaGreatDoor

/- A writer of patterns: part, given node: walked. -/
set_option linter.unusedVariables false
set_option linter.unusedSimpArgs false
namespace Go.Proofs.YthlakbjnmbddaaaGreatDoor
open Go.RowKit

set_option maxRecDepth 100000 in
set_option maxHeartbeats 4000000 in
theorem part_any (t : T) (hC : NodeC t) (so : Bool) (B p : Nat) (l : Bs) (o d : Int) (w : World) (ok : Nat → Prop) (A : Option Addr) (c : Nat) (hN : NodeAt w ok t A c) (hok : ∀ b, ok b → b < B) (h : WAt B p l o d w) (hB : B ≤ w.heap.size) (ht : TabIn B w) (hr : rightF t = true) (hw : Words t)
    (h0 : 0 ≤ o) (hod : l.length ≤ 1024 → o ≤ d) (hon : o + 1 + nodesF t ≤ 100000) (hl : max (l.length : Int) 4000 + 16 * nodesF t + 4 ≤ 500000) :
    Calls Tryz.prog 80 #[.pointer (some ⟨p, 0, none⟩), nodeV t A c, .bool so] w fun e w' => GW B p l o d (parT so (prT t)) (deepT t + (if so then 1 else 0)) (16 * nodesF t - 2) w e w' := by
  have hpos := nodesF_pos t
  have HN := Lib.hid hN; have Hok := Lib.hid hok; have H := Lib.hid h; have HT := Lib.hid ht; have HC := Lib.hid hC; have Hr := Lib.hid hr; have Hw := Lib.hid hw; have Hod := Lib.hid hod; have Hl := Lib.hid hl; have Hon := Lib.hid hon; have Hpos := Lib.hid hpos
  clear hN hok h ht hC hr hw hod hl hon hpos
  go_enter Tryz.func80, Tryz.ntmps80
  go_upto_region 1 with fail
  generalize hW : w.alloc _ = W0
  have hB0 : Below w.heap.size w W0 := by subst hW; exact (Below.refl _ _).alloc (Nat.le_refl _) _
  have h8 : At8 W0 w.heap.size 0 t A c := by subst hW; constructor <;> simp [go_sem]
  have hz : w.heap.size < W0.heap.size := by subst hW; simp
  clear hW
  obtain ⟨f0, f1, f2, f3, f4, f5, f6, f7⟩ := h8
  have HA := Lib.hid (H.out.later hB0)
  have HB := Lib.hid (hB0.mono hB)
  have hpw := H.out.lt
  have hBz : B ≤ W0.heap.size := by omega
  have HF0 := Lib.hid (foreign_new H.out hB0 (Nat.le_refl _) hz)
  have HG := Lib.hid (Fr.of_below H.out.lt hB0)
  clear hB0 H
  cases so with
  | false =>
    go_wp2_with fail
    refine (HC.out B p l o d W0 ok A c (HN.out.later HB.out Hok.out) Hok.out HA.out hBz (HT.out.later HB.out) Hr.out Hw.out h0 Hod.out (by have := Hon.out; omega) (by have := Hl.out; omega)).mono ?_
    rintro e w1 ⟨l', d', rfl, hA, hwr, hl', hb, hf⟩
    have HG1 := Lib.hid (HG.out.trans hf)
    have HA1 := Lib.hid hA; have Hwr := Lib.hid hwr; have Hl1 := Lib.hid hl'; have HB1 := Lib.hid (HB.out.trans hb)
    clear hA hwr hl' hb f0 f1 f2 f3 f4 f5 f6 f7
    go_wp2_with fail
    exact bodyPost_ret (v := .tuple #[]) (by simp [results, Tryz.results80, go_sem]) rfl ⟨l', d', rfl, HA1.out, by simpa [parT] using Hwr.out, by have := Hl1.out; omega, HB1.out, HG1.out⟩
  | true =>
    obtain ⟨c2, c3, y2, y3⟩ := HA.out.cells
    have ho : o + 1 ≤ 100000 := by have := Hon.out; have := Hpos.out; omega
    have hpn : p ≠ w.heap.size := by omega
    go_upto_region 4 with fail
    generalize hW1 : W0.setCell ⟨p, 2, none⟩ _ = W1
    have hA1 : WAt B p l (o + 1) d W1 := by subst hW1; exact HA.out.put2 _
    have hb1 : Below B W0 W1 := by subst hW1; exact put_below HA.out _ _
    have HG1 := Lib.hid (show Fr p w W1 by subst hW1; exact HG.out.trans (Fr.put _ 2 (by omega) _))
    have HF1 := Lib.hid (show Foreign W1 p w.heap.size by subst hW1; exact HF0.out.put 2 (by omega) _)
    have hk1 : ∀ i, W1.cell? ⟨w.heap.size, i, none⟩ = W0.cell? ⟨w.heap.size, i, none⟩ := fun i => by subst hW1; exact World.cell?_setCell_other _ _ _ _ (by simp [hpn, Ne.symm hpn])
    clear hW1
    obtain ⟨d2, d3, x2, x3⟩ := hA1.cells
    have HA1 := Lib.hid hA1; have HB1 := Lib.hid (HB.out.trans hb1); have HK1 := Lib.hid hk1
    have h8 : At8 W0 w.heap.size 0 t A c := ⟨f0, f1, f2, f3, f4, f5, f6, f7⟩
    have H8 := Lib.hid h8
    clear c2 c3 y2 y3 hA1 hb1 hk1 h8 f0 f1 f2 f3 f4 f5 f6 f7
    go_region
    have hA2 : WAt B p l (o + 1) (max d (o + 1)) (W1.setCell ⟨p, 3, none⟩ (.int .i64 (max d (o + 1)))).drew := (HA1.out.put3 _).drew
    have hb2 : Below B W1 (W1.setCell ⟨p, 3, none⟩ (.int .i64 (max d (o + 1)))).drew := (put_below HA1.out _ _).drew
    have hk2 : ∀ i, (W1.setCell ⟨p, 3, none⟩ (.int .i64 (max d (o + 1)))).drew.cell? ⟨w.heap.size, i, none⟩ = W1.cell? ⟨w.heap.size, i, none⟩ := fun i => World.cell?_setCell_other W1 _ _ _ (by simp [hpn, Ne.symm hpn])
    have HG2 : Fr p w (W1.setCell ⟨p, 3, none⟩ (.int .i64 (max d (o + 1)))).drew := (HG1.out.trans (Fr.put _ 3 (by omega) _)).trans (HA1.out.put3 _).drewF
    have hF2 : Foreign (W1.setCell ⟨p, 3, none⟩ (.int .i64 (max d (o + 1)))).drew p w.heap.size := (HF1.out.put 3 (by omega) _).drew
    have hz2 : (W1.setCell ⟨p, 3, none⟩ (.int .i64 (max d (o + 1)))).drew.heap.size = W1.heap.size := by simp
    generalize (W1.setCell ⟨p, 3, none⟩ (.int .i64 (max d (o + 1)))).drew = W2 at *
    have hl0 : l.length ≤ 500000 := by have := Hl.out; have := Hpos.out; omega
    have HG2 := Lib.hid HG2; have HF2 := Lib.hid hF2; have HA2 := Lib.hid hA2; have HB2 := Lib.hid (HB1.out.trans hb2); have HK2 := Lib.hid (fun i => (hk2 i).trans (HK1.out i)); have HZ2 := Lib.hid hz2
    clear hA2 hb2 hk2 hz2 hF2 d2 d3 x2 x3 HA1
    go_wp2_with fail
    refine (wbyte_any B p l (o + 1) (max d (o + 1)) W2 HA2.out (by omega) (Nat.le_trans hB HB2.out.size) 40).mono ?_
    rintro e w3 ⟨rfl, hA3, hb3, hf3⟩
    have hF := HF2.out
    have h8 : At8 w3 w.heap.size 0 t A c := H8.out.mono (fun i => (World.cell?_of_block (w := W2) (a := ⟨w.heap.size, i, none⟩) (hf3 _ hF).1).trans (HK2.out i))
    have HG3 := Lib.hid (HG2.out.trans hf3); have HA3 := Lib.hid hA3; have HB3 := Lib.hid (HB2.out.trans hb3)
    clear hA3 hb3 hf3 hF
    obtain ⟨f0, f1, f2, f3, f4, f5, f6, f7⟩ := h8
    go_wp2_with fail
    refine (HC.out B p (l ++ [40]) (o + 1) (max d (o + 1)) w3 ok A c (HN.out.later HB3.out Hok.out) Hok.out HA3.out (Nat.le_trans hB HB3.out.size) (HT.out.later HB3.out) Hr.out Hw.out (by omega) (fun _ => by omega) (by have := Hon.out; omega) (by have := Hl.out; simp; omega)).mono ?_
    rintro e w4 ⟨l', d', rfl, hA4, hwr, hl4, hb4, hf4⟩
    have HG4 := Lib.hid (HG3.out.trans hf4)
    have HA4 := Lib.hid hA4; have HB4 := Lib.hid (HB3.out.trans hb4); have Hwr := Lib.hid hwr.wrap
    have hl4' : l'.length ≤ 500000 := by have := Hl.out; simp at hl4; omega
    have Hl4 := Lib.hid hl4
    clear hA4 hb4 hwr hl4 f0 f1 f2 f3 f4 f5 f6 f7
    go_wp2_with fail
    refine (wbyte_any B p l' (o + 1) d' w4 HA4.out (by omega) (Nat.le_trans hB HB4.out.size) 41).mono ?_
    rintro e w5 ⟨rfl, hA5, hb5, hf5⟩
    have HG5 := Lib.hid (HG4.out.trans hf5)
    obtain ⟨c2, c3, y2, y3⟩ := hA5.cells
    have HA5 := Lib.hid hA5; have HB5 := Lib.hid (HB4.out.trans hb5)
    clear hA5 hb5
    go_wp2_with fail
    go_end0
    refine ⟨l' ++ [41], d', rfl, ?_, Hwr.out, by have := Hl4.out; simp at this ⊢; omega, HB5.out.trans (put_below HA5.out _ _), HG5.out.trans (Fr.put _ 2 (by omega) _)⟩
    have := HA5.out.put2 o
    first
      | exact this
      | simpa using this
end Go.Proofs.YthlakbjnmbddaaaGreatDoor

/- A writer of patterns: node, what needs no part: walked. -/
set_option linter.unusedVariables false
set_option linter.unusedSimpArgs false
namespace Go.Proofs.YthlakbjnmbddaaaGreatDoor
open Go.RowKit

set_option maxRecDepth 100000 in
set_option maxHeartbeats 2000000 in
theorem node_late (t : T) (B p : Nat) (l : Bs) (o d : Int) (w : World) (A : Option Addr) (c : Nat) (h : WAt B p l o d w) (hB : B ≤ w.heap.size) (hl : 1024 < l.length) (x : Bs) (k : Nat) (m : Int) (hm : 0 ≤ m) :
    Calls Tryz.prog 54 #[.pointer (some ⟨p, 0, none⟩), nodeV t A c] w fun e w' => GW B p l o d x k m w e w' := by
  have H := Lib.hid h; clear h
  go_enter Tryz.func54, Tryz.ntmps54
  go_upto_region 1 with fail
  generalize hW : w.alloc _ = W0
  have hB0 : Below w.heap.size w W0 := by subst hW; exact (Below.refl _ _).alloc (Nat.le_refl _) _
  clear hW
  have HA := Lib.hid (H.out.later hB0)
  have HB := Lib.hid (hB0.mono hB)
  have HG := Lib.hid (Fr.of_below H.out.lt hB0)
  clear hB0 H
  go_wp2_with fail
  refine (blen_any B p l o d W0 HA.out).mono ?_
  rintro e w1 ⟨rfl, rfl⟩
  go_wp2_with fail
  exact bodyPost_ret (v := .tuple #[]) (by simp [results, Tryz.results54, go_sem]) rfl ⟨l, d, rfl, HA.out, Wrote.late hl, by omega, HB.out, HG.out⟩
set_option maxRecDepth 100000 in
set_option maxHeartbeats 4000000 in
theorem node_leaf (t : T) (hk : t.k = 0 ∨ t.k = 1 ∨ t.k = 2 ∨ t.k = 3) : NodeC t := by
  intro B p l o d w ok A c hN hok h hB ht hr hw h0 hod hon hl
  have hpos := nodesF_pos t
  by_cases hlt : 1024 < l.length
  · exact node_late t B p l o d w A c h hB hlt _ _ _ (by omega)
  have H := Lib.hid h; have Hw := Lib.hid hw.w
  have hod' := hod (by omega)
  have Hpr := Lib.hid (prT_eq t)
  have Hdp := Lib.hid (deepT_eq t)
  clear hN hok h ht hr hw hod hon hl
  go_enter Tryz.func54, Tryz.ntmps54
  go_upto_region 1 with fail
  generalize hW : w.alloc _ = W0
  have hB0 : Below w.heap.size w W0 := by subst hW; exact (Below.refl _ _).alloc (Nat.le_refl _) _
  have h8 : At8 W0 w.heap.size 0 t A c := by subst hW; constructor <;> simp [go_sem]
  have hz : w.heap.size < W0.heap.size := by subst hW; simp
  clear hW
  obtain ⟨f0, f1, f2, f3, f4, f5, f6, f7⟩ := h8
  have HA := Lib.hid (H.out.later hB0)
  have HB := Lib.hid (hB0.mono hB)
  have HG := Lib.hid (Fr.of_below H.out.lt hB0)
  clear hB0 H f5 f6 f7
  have Hpos := Lib.hid hpos; clear hpos
  go_wp2_with fail
  refine (blen_any B p l o d W0 HA.out).mono ?_
  rintro e w1 ⟨rfl, rfl⟩
  rcases hk with hk | hk | hk | hk
  · have hp := Lib.hid (show prT t = [] by rw [Hpr.out, hk]; simp)
    have hdp := Lib.hid (show deepT t = 0 by rw [Hdp.out, hk]; simp)
    clear Hpr Hdp
    go_wp2_with fail
    go_end0
    exact ⟨l, d, rfl, HA.out, by rw [hp.out, hdp.out]; exact Wrote.refl hod', by have := Hpos.out; omega, HB.out, HG.out⟩
  · have hp := Lib.hid (show prT t = setT t.w4 by rw [Hpr.out, if_pos hk])
    have hdp := Lib.hid (show deepT t = 0 by rw [Hdp.out, hk]; simp)
    clear Hpr Hdp
    have hs := setT_len t.w4
    go_wp2_with fail
    refine (wset_any B p l o d w1 HA.out (by omega) (Nat.le_trans hB HB.out.size) t.w4 Hw.out).mono ?_
    rintro e w2 ⟨rfl, hA2, hb2, hf2⟩
    have HA2 := Lib.hid hA2; have HB2 := Lib.hid (HB.out.trans hb2); have HG2 := Lib.hid (HG.out.trans hf2)
    clear hA2 hb2
    go_wp2_with fail
    go_end0
    exact ⟨_, d, rfl, HA2.out, by rw [hp.out, hdp.out]; exact Wrote.one (fun _ => hod'), by have := Hpos.out; simp; omega, HB2.out, HG2.out⟩
  · have hp := Lib.hid (show prT t = [94] by rw [Hpr.out, hk]; simp)
    have hdp := Lib.hid (show deepT t = 0 by rw [Hdp.out, hk]; simp)
    clear Hpr Hdp
    go_wp2_with fail
    refine (wbyte_any B p l o d w1 HA.out (by omega) (Nat.le_trans hB HB.out.size) 94).mono ?_
    rintro e w2 ⟨rfl, hA2, hb2, hf2⟩
    have HA2 := Lib.hid hA2; have HB2 := Lib.hid (HB.out.trans hb2); have HG2 := Lib.hid (HG.out.trans hf2)
    clear hA2 hb2
    go_wp2_with fail
    go_end0
    exact ⟨_, d, rfl, HA2.out, by rw [hp.out, hdp.out]; exact Wrote.one (fun _ => hod'), by have := Hpos.out; simp; omega, HB2.out, HG2.out⟩
  · have hp := Lib.hid (show prT t = [36] by rw [Hpr.out, hk]; simp)
    have hdp := Lib.hid (show deepT t = 0 by rw [Hdp.out, hk]; simp)
    clear Hpr Hdp
    go_wp2_with fail
    refine (wbyte_any B p l o d w1 HA.out (by omega) (Nat.le_trans hB HB.out.size) 36).mono ?_
    rintro e w2 ⟨rfl, hA2, hb2, hf2⟩
    have HA2 := Lib.hid hA2; have HB2 := Lib.hid (HB.out.trans hb2); have HG2 := Lib.hid (HG.out.trans hf2)
    clear hA2 hb2
    go_wp2_with fail
    go_end0
    exact ⟨_, d, rfl, HA2.out, by rw [hp.out, hdp.out]; exact Wrote.one (fun _ => hod'), by have := Hpos.out; simp; omega, HB2.out, HG2.out⟩
end Go.Proofs.YthlakbjnmbddaaaGreatDoor

/- A writer of patterns: node, rows: walked. -/
set_option linter.unusedVariables false
set_option linter.unusedSimpArgs false
namespace Go.Proofs.YthlakbjnmbddaaaGreatDoor
open Go.RowKit

theorem prRow_cons (p : T) (ps : List T) : prRow (p :: ps) = parT (looseT p) (prT p) ++ prRow ps := by rw [prRow]
theorem deepRow_cons (p : T) (ps : List T) : deepRow (p :: ps) = max (deepT p + (if looseT p then 1 else 0)) (deepRow ps) := by rw [deepRow]
set_option maxRecDepth 100000 in
set_option maxHeartbeats 4000000 in
theorem node_row (t : T) (hk : t.k = 4) (ih : ∀ p ∈ t.ps, NodeC p) : NodeC t := by
  intro B p l o d w ok A c hN hok h hB ht hr hw h0 hod hon hl
  have hpos := nodesF_pos t
  by_cases hlt : 1024 < l.length
  · exact node_late t B p l o d w A c h hB hlt _ _ _ (by omega)
  have hlen := hN.len
  have hod' := hod (by omega)
  have hpr : prT t = prRow t.ps := by rw [prT_eq, hk]; simp
  have hdp : deepT t = deepRow t.ps := by rw [deepT_eq, hk]; simp
  have hnn : nodesF t = 1 + nodesL t.ps := nodesF_eq t
  rw [hpr, hdp]
  have H := Lib.hid h; have HT := Lib.hid ht; have HN := Lib.hid hN; have Hok := Lib.hid hok
  have Hps := Lib.hid (right_parts hr)
  have Hwp := Lib.hid hw.p
  have Hl := Lib.hid (show max (l.length : Int) 4000 + 16 * (1 + nodesL t.ps) ≤ 500000 by omega)
  have Hon := Lib.hid (show o + (1 + nodesL t.ps) ≤ 100000 by omega)
  have Hnn := Lib.hid hnn
  have Hih := Lib.hid ih
  clear hN hok h ht hr hw hod hon hl hpr hdp hnn ih hpos
  go_enter Tryz.func54, Tryz.ntmps54
  go_upto_region 1 with fail
  generalize hW : w.alloc _ = W0
  have hB0 : Below w.heap.size w W0 := by subst hW; exact (Below.refl _ _).alloc (Nat.le_refl _) _
  have h8 : At8 W0 w.heap.size 0 t A c := by subst hW; constructor <;> simp [go_sem, hk]
  clear hW
  obtain ⟨f0, f1, f2, f3, f4, f5, f6, f7⟩ := h8
  have HA := Lib.hid (H.out.later hB0)
  have HB := Lib.hid (hB0.mono hB)
  have HG := Lib.hid (Fr.of_below H.out.lt hB0)
  have hbz : w.heap.size ≤ W0.heap.size := hB0.size
  clear hB0 H f1 f2 f3 f4 f5 f6
  go_wp2_with fail
  refine (blen_any B p l o d W0 HA.out).mono ?_
  rintro e w1 ⟨rfl, rfl⟩
  go_wp2_with fail
  go_loopg [38] (t.ps.length) (fun k i wr => ∃ (j : Nat) (l' X : Bs) (d' : Int) (K : Nat) (S : Int), i = .int .i64 j ∧ j + k = t.ps.length ∧ WAt B p l' o d' wr ∧ Wrote l X o d K l' d' ∧ X ++ prRow (t.ps.drop j) = prRow t.ps ∧ max K (deepRow (t.ps.drop j)) = deepRow t.ps ∧ S + nodesL (t.ps.drop j) = nodesL t.ps ∧ 0 ≤ S ∧ (l'.length : Int) ≤ max (l.length : Int) 4000 + 16 * S ∧ Below B w wr ∧ Fr p w wr)
  case atStart => exact ⟨0, l, [], d, 0, 0, rfl, by omega, HA.out, Wrote.refl hod', rfl, by simp, by simp, by omega, by omega, HB.out, HG.out⟩
  case round =>
    obtain ⟨j, l', X, d', K, S, rfl, hj, hA, hwr, hX, hK, hS, hS0, hll, hBr, hGr⟩ := hrel
    have HGr := Lib.hid hGr
    have HAr := Lib.hid hA; have Hwr := Lib.hid hwr; have HX := Lib.hid hX; have HK := Lib.hid hK; have HS := Lib.hid hS; have Hll := Lib.hid hll; have HBr := Lib.hid hBr
    clear hA hwr hX hK hS hll hBr HA HB f0 f7
    by_cases hjl : j < t.ps.length
    · obtain ⟨b, ob, rfl, hb, hcell⟩ := HN.out.part (by omega)
      obtain ⟨A', c', h8, hNj⟩ := hcell j hjl
      have hmem := List.getElem_mem hjl
      have HCj := Lib.hid (Hih.out _ hmem)
      have Hrj := Lib.hid (Hps.out _ hmem)
      have Hwj := Lib.hid (Hwp.out _ hmem)
      have HNj := Lib.hid (hNj.later HBr.out Hok.out)
      obtain ⟨f0, f1, f2, f3, f4, f5, f6, f7⟩ := h8.mono (w' := wr) (fun o => HBr.out.cell (p := ⟨b, o, none⟩) (Hok.out b hb))
      have Hd := Lib.hid (drop_cons hjl)
      have hbw : b < wr.heap.size := by have := Hok.out b hb; have := HBr.out.size; omega
      clear hcell hNj h8 hmem
      generalize t.ps[j] = q at *
      have hq := nodesF_pos q
      have hrest := nodesL_pos (t.ps.drop (j + 1)) (fun q _ => nodesF_pos q)
      have hSq : S + nodesF q + nodesL (t.ps.drop (j + 1)) = nodesL t.ps := by rw [← HS.out, Hd.out, nodesL]; omega
      have HSq := Lib.hid hSq; have Hrest := Lib.hid hrest; have Hq := Lib.hid hq
      clear hSq hrest hq
      go_upto_region 13 with fail
      generalize hW : wr.alloc _ = W1
      have hb1 : Below wr.heap.size wr W1 := by subst hW; exact (Below.refl _ _).alloc (Nat.le_refl _) _
      have h8 : At8 W1 wr.heap.size 0 q A' c' := by subst hW; constructor <;> simp [go_sem]
      clear hW
      obtain ⟨g0, g1, g2, g3, g4, g5, g6, g7⟩ := h8
      have HA1 := Lib.hid ((HAr.out.later hb1).drew)
      have HB1 := Lib.hid ((HBr.out.trans (hb1.mono (Nat.le_trans hB HBr.out.size))).drew)
      have HN1 := Lib.hid (HNj.out.later (B := wr.heap.size) hb1.drew (fun b' h => by have := Hok.out b' h; have := HBr.out.size; omega))
      have HG1 := Lib.hid (HGr.out.trans (Fr.of_below HAr.out.lt hb1.drew))
      have hbz1 : wr.heap.size < W1.heap.size := World.block_lt_of_cell? _ _ g0
      clear hb1 f0 f1 f2 f3 f4 f5 f6 f7 HAr HBr HNj
      have h8 : At8 W1.drew wr.heap.size 0 q A' c' := ⟨g0, g1, g2, g3, g4, g5, g6, g7⟩
      have H8 := Lib.hid h8
      clear h8
      have hbz2 : wr.heap.size < W1.drew.heap.size := hbz1
      go_region_with (first
        | (go_at_call 81
           refine (loose_any _ q A' c').mono ?_
           rintro e w2 ⟨rfl, hb2⟩
           have HA2 := Lib.hid (HA1.out.later hb2)
           have HB2 := Lib.hid (HB1.out.trans (hb2.mono (Nat.le_trans hB HB1.out.size)))
           have HG2 := Lib.hid (HG1.out.trans (Fr.of_below HA1.out.lt hb2))
           have HN2 := Lib.hid (HN1.out.later hb2 (fun b' h => by have := Hok.out b' h; have := HB1.out.size; omega))
           obtain ⟨m0, m1, m2, m3, m4, m5, m6, m7⟩ := H8.out.mono (w' := w2) (fun o => hb2.cell (p := ⟨wr.heap.size, o, none⟩) hbz2)
           clear hb2)
        | (go_at_call 80
           refine (part_any q HCj.out (looseT q) B p l' o d' w2 ok A' c' HN2.out Hok.out HA2.out (Nat.le_trans hB HB2.out.size) (HT.out.later HB2.out) Hrj.out Hwj.out h0 (fun hh => Hwr.out.le hh) (by have := Hon.out; have := HSq.out; have := Hrest.out; omega) (by have := Hl.out; have := HSq.out; have := Hrest.out; have := Hll.out; omega)).mono ?_
           rintro e w3 ⟨l2, d2, rfl, hA3, hwr3, hl3, hb3, hf3⟩))
      all_goals
        have HG3 := Lib.hid (HG2.out.trans hf3)
        have HA3 := Lib.hid hA3; have Hwr3 := Lib.hid (Hwr.out.trans hwr3); have HB3 := Lib.hid (HB2.out.trans hb3); have Hl3 := Lib.hid hl3
        clear hA3 hwr3 hb3 hl3 HA2 HB2 HN2 HA1 HB1 HN1 H8 m0 m1 m2 m3 m4 m5 m6 m7 g0 g1 g2 g3 g4 g5 g6 g7
        go_wp2_with fail
        go_roundg (gk - 1)
        case measure => omega
        case rel => exact ⟨j + 1, l2, X ++ parT (looseT q) (prT q), d2, max K (deepT q + (if looseT q then 1 else 0)), S + nodesF q, by go_num, by omega, HA3.out, Hwr3.out, by rw [← HX.out, Hd.out, prRow_cons, List.append_assoc], by rw [← HK.out, Hd.out, deepRow_cons]; omega, HSq.out, by have := Hq.out; omega, by have := Hl3.out; have := Hll.out; have := Hq.out; omega, HB3.out, HG3.out⟩
    · have hj0 : j = t.ps.length := by omega
      have hdr : t.ps.drop j = [] := List.drop_of_length_le (by omega)
      have hXe : X = prRow t.ps := by rw [← HX.out, hdr]; simp [prRow]
      have hKe : K = deepRow t.ps := by rw [← HK.out, hdr]; simp [deepRow]
      have hSe : S = nodesL t.ps := by rw [← HS.out, hdr, nodesL]; omega
      have HXe := Lib.hid hXe; have HKe := Lib.hid hKe; have HSe := Lib.hid hSe
      clear hdr hXe hKe hSe HX HK HS
      go_wp2_with fail
      go_end0
      exact ⟨l', d', rfl, HAr.out, by rw [← HXe.out, ← HKe.out]; exact Hwr.out, by have := Hll.out; have := HSe.out; have := Hnn.out; omega, HBr.out, HGr.out⟩
end Go.Proofs.YthlakbjnmbddaaaGreatDoor

