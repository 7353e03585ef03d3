/- Merged texts, part of the proof KnownP: NodeC, NodeP, Node, PrW, ParP, ParQ, ParS, ParW, ParX, ParY, ParZ, Own, RPa, RPb, RPc, RPd, RPe, Fns. -/
import Derived.Test.YthlakbjnmbddaaaGreatDoorUKnownPA
import Derived.Test.YthlakbjnmbddaaaGreatDoorUKnownPB
/- A writer of patterns: node, choices: walked. -/
set_option linter.unusedVariables false
set_option linter.unusedSimpArgs false
namespace Go.Proofs.YthlakbjnmbddaaaGreatDoor
open Go.RowKit

/-- What is left tu write of a choice. -/
def altR (ps : List T) (j : Nat) : Bs := if j = 0 then prAlt ps else prBar (ps.drop j)
theorem deepAlt_cons (p : T) (ps : List T) : deepAlt (p :: ps) = max (deepT p + (if p.k == 5 then 1 else 0)) (deepAlt ps) := by rw [deepAlt]
theorem altR_cons {ps : List T} {j : Nat} {q : T} (h : j < ps.length) (hd : ps.drop j = q :: ps.drop (j + 1)) : altR ps j = (if j = 0 then [] else [124]) ++ (parT (q.k == 5) (prT q) ++ altR ps (j + 1)) := by
  unfold altR
  rw [if_neg (show ¬ j + 1 = 0 by omega)]
  by_cases hj : j = 0
  · subst hj
    rw [if_pos rfl, if_pos rfl]
    rw [List.drop_zero] at hd
    rw [hd]
    simp [prAlt]
  · rw [if_neg hj, if_neg hj, hd, prBar]
set_option maxRecDepth 100000 in
set_option maxHeartbeats 4000000 in
theorem node_alt (t : T) (hk : t.k = 5) (ih : ∀ p ∈ t.ps, NodeC p) : NodeC t := by
  intro B p l o d w ok A c hN hok h hB ht hr hw h0 hod hon hl
  have hpos := nodesF_pos t
  by_cases hlt : 1024 < l.length
  · exact node_late t B p l o d w A c h hB hlt _ _ _ (by omega)
  have hlen := hN.len
  have hod' := hod (by omega)
  have hpr : prT t = prAlt t.ps := by rw [prT_eq, hk]; simp
  have hdp : deepT t = deepAlt t.ps := by rw [deepT_eq, hk]; simp
  have hnn : nodesF t = 1 + nodesL t.ps := nodesF_eq t
  rw [hpr, hdp]
  have H := Lib.hid h; have HT := Lib.hid ht; have HN := Lib.hid hN; have Hok := Lib.hid hok
  have Hps := Lib.hid (right_parts hr)
  have Hwp := Lib.hid hw.p
  have Hl := Lib.hid (show max (l.length : Int) 4000 + 16 * (1 + nodesL t.ps) ≤ 500000 by omega)
  have Hon := Lib.hid (show o + (1 + nodesL t.ps) ≤ 100000 by omega)
  have Hnn := Lib.hid hnn
  have Hih := Lib.hid ih
  have Hl2 : 2 ≤ t.ps.length := by rcases right_cases hr with h | h | h | h | h | h | h <;> omega
  clear hN hok h ht hr hw hod hon hl hpr hdp hnn ih hpos
  go_enter Tryz.func54, Tryz.ntmps54
  go_upto_region 1 with fail
  generalize hW : w.alloc _ = W0
  have hB0 : Below w.heap.size w W0 := by subst hW; exact (Below.refl _ _).alloc (Nat.le_refl _) _
  have h8 : At8 W0 w.heap.size 0 t A c := by subst hW; constructor <;> simp [go_sem, hk]
  clear hW
  obtain ⟨f0, f1, f2, f3, f4, f5, f6, f7⟩ := h8
  have HA := Lib.hid (H.out.later hB0)
  have HB := Lib.hid (hB0.mono hB)
  have HG := Lib.hid (Fr.of_below H.out.lt hB0)
  have hbz : w.heap.size ≤ W0.heap.size := hB0.size
  clear hB0 H f1 f2 f3 f4 f5 f6
  go_wp2_with fail
  refine (blen_any B p l o d W0 HA.out).mono ?_
  rintro e w1 ⟨rfl, rfl⟩
  go_wp2_with fail
  go_loopg [53] (t.ps.length) (fun k i wr => ∃ (j : Nat) (l' X : Bs) (d' : Int) (K : Nat) (S : Int), i = .int .i64 j ∧ j + k = t.ps.length ∧ WAt B p l' o d' wr ∧ Wrote l X o d K l' d' ∧ X ++ altR t.ps j = prAlt t.ps ∧ max K (deepAlt (t.ps.drop j)) = deepAlt t.ps ∧ S + nodesL (t.ps.drop j) = nodesL t.ps ∧ 0 ≤ S ∧ (l'.length : Int) ≤ max (l.length : Int) 4000 + 16 * S ∧ Below B w wr ∧ Fr p w wr)
  case atStart => exact ⟨0, l, [], d, 0, 0, rfl, by omega, HA.out, Wrote.refl hod', rfl, by simp, by simp, by omega, by omega, HB.out, HG.out⟩
  case round =>
    obtain ⟨j, l', X, d', K, S, rfl, hj, hA, hwr, hX, hK, hS, hS0, hll, hBr, hGr⟩ := hrel
    have HGr := Lib.hid hGr
    have HAr := Lib.hid hA; have Hwr := Lib.hid hwr; have HX := Lib.hid hX; have HK := Lib.hid hK; have HS := Lib.hid hS; have Hll := Lib.hid hll; have HBr := Lib.hid hBr
    clear hA hwr hX hK hS hll hBr HA HB f0 f7
    by_cases hjl : j < t.ps.length
    · obtain ⟨b, ob, rfl, hb, hcell⟩ := HN.out.part (by omega)
      obtain ⟨A', c', h8, hNj⟩ := hcell j hjl
      have hmem := List.getElem_mem hjl
      have HCj := Lib.hid (Hih.out _ hmem)
      have Hrj := Lib.hid (Hps.out _ hmem)
      have Hwj := Lib.hid (Hwp.out _ hmem)
      have HNj := Lib.hid (hNj.later HBr.out Hok.out)
      have hcellW : ∀ W, Below B w W → NodeAt W ok t.ps[j] A' c' := fun W hW => hNj.later hW Hok.out
      obtain ⟨f0, f1, f2, f3, f4, f5, f6, f7⟩ := h8.mono (w' := wr) (fun o => HBr.out.cell (p := ⟨b, o, none⟩) (Hok.out b hb))
      have Hd := Lib.hid (drop_cons hjl)
      have hbw : b < wr.heap.size := by have := Hok.out b hb; have := HBr.out.size; omega
      have hlen2 : 2 ≤ t.ps.length := Hl2
      clear hcell hNj h8 hmem
      generalize t.ps[j] = q at *
      have hq := nodesF_pos q
      have hrest := nodesL_pos (t.ps.drop (j + 1)) (fun q _ => nodesF_pos q)
      have hSq : S + nodesF q + nodesL (t.ps.drop (j + 1)) = nodesL t.ps := by rw [← HS.out, Hd.out, nodesL]; omega
      have HSq := Lib.hid hSq; have Hrest := Lib.hid hrest; have Hq := Lib.hid hq
      clear hSq hrest hq
      go_upto_region 19 with fail
      generalize hW : wr.alloc _ = W1
      have hb1 : Below wr.heap.size wr W1 := by subst hW; exact (Below.refl _ _).alloc (Nat.le_refl _) _
      have h8 : At8 W1 wr.heap.size 0 q A' c' := by subst hW; constructor <;> simp [go_sem]
      clear hW
      have HA1 := Lib.hid (HAr.out.later hb1)
      have HB1 := Lib.hid (HBr.out.trans (hb1.mono (Nat.le_trans hB HBr.out.size)))
      have HN1 := Lib.hid (HNj.out.later (B := wr.heap.size) hb1 (fun b' h => by have := Hok.out b' h; have := HBr.out.size; omega))
      have HG1 := Lib.hid (HGr.out.trans (Fr.of_below HAr.out.lt hb1))
      have hbz1 : wr.heap.size < W1.heap.size := World.block_lt_of_cell? _ _ h8.f0
      have HF1 := Lib.hid (foreign_new HAr.out hb1 (Nat.le_refl _) hbz1)
      have HRest := Lib.hid (altR_cons hjl Hd.out)
      have H8 := Lib.hid h8
      clear hb1 f0 f1 f2 f3 f4 f5 f6 f7 HAr HBr HNj h8
      have hll0 : l'.length ≤ 500000 := by have := Hq.out; have := Hl.out; have := HSq.out; have := Hrest.out; have := Hll.out; omega
      have part : ∀ (W : World) (m : Bs) (Y : Bs), WAt B p m o d' W → Below B w W → Fr p w W → Wrote l Y o d K m d' → (m.length : Int) ≤ max (l.length : Int) 4000 + 16 * S + 1 → ∀ so, Calls Tryz.prog 80 #[.pointer (some ⟨p, 0, none⟩), nodeV q A' c', .bool so] W fun e w' => ∃ l2 d2, e = .returned (.tuple #[]) ∧ WAt B p l2 o d2 w' ∧ Wrote l (Y ++ parT so (prT q)) o d (max K (deepT q + (if so then 1 else 0))) l2 d2 ∧ (l2.length : Int) ≤ max (l.length : Int) 4000 + 16 * (S + nodesF q) ∧ Below B w w' ∧ Fr p w w' := fun W m Y hA hBW hGW hwm hmm so => by
        have hNW := HN1.out
        refine (part_any q HCj.out so B p m o d' W ok A' c' (hcellW W hBW) Hok.out hA (Nat.le_trans hB hBW.size) (HT.out.later hBW) Hrj.out Hwj.out h0 (fun hh => hwm.le hh) (by have := Hon.out; have := HSq.out; have := Hrest.out; omega) (by have := Hl.out; have := HSq.out; have := Hrest.out; omega)).mono ?_
        rintro e w3 ⟨l2, d2, rfl, hA3, hwr3, hl3, hb3, hf3⟩
        exact ⟨l2, d2, rfl, hA3, hwm.trans hwr3, by have := Hq.out; omega, hBW.trans hb3, hGW.trans hf3⟩
      have Part := Lib.hid part
      clear part
      by_cases hj0 : j = 0
      · subst hj0
        obtain ⟨g0, g1, g2, g3, g4, g5, g6, g7⟩ := H8.out
        go_wp2_with fail
        refine (Part.out W1 l' X HA1.out HB1.out HG1.out Hwr.out (by have := Hll.out; omega) (q.k == 5)).mono ?_
        rintro e w3 ⟨l2, d2, rfl, hA3, hwr3, hl3, hb3, hf3⟩
        have HG3 := Lib.hid hf3
        have HA3 := Lib.hid hA3; have Hwr3 := Lib.hid hwr3; have HB3 := Lib.hid hb3; have Hl3 := Lib.hid hl3
        clear hA3 hwr3 hb3 hl3 HA1 HB1 HN1 H8 g0 g1 g2 g3 g4 g5 g6 g7 Part HF1
        go_wp2_with fail
        go_roundg (gk - 1)
        case measure => omega
        case rel => exact ⟨0 + 1, l2, X ++ parT (q.k == 5) (prT q), d2, max K (deepT q + (if q.k == 5 then 1 else 0)), S + nodesF q, by go_num, by omega, HA3.out, Hwr3.out, by rw [← HX.out, HRest.out]; simp, by rw [← HK.out, Hd.out, deepAlt_cons]; omega, HSq.out, by have := Hq.out; omega, Hl3.out, HB3.out, HG3.out⟩
      · have hjp : (0 : Int) < (j : Int) := by omega
        go_wp2_with fail
        refine (wbyte_any B p l' o d' W1 HA1.out (by omega) (Nat.le_trans hB HB1.out.size) 124).mono ?_
        rintro e w2 ⟨rfl, hA2, hb2, hf2⟩
        have h8 : At8 w2 wr.heap.size 0 q A' c' := H8.out.mono (fun i => World.cell?_of_block (w := W1) (a := ⟨wr.heap.size, i, none⟩) (hf2 _ HF1.out).1)
        have HG2 := Lib.hid (HG1.out.trans hf2); have HA2 := Lib.hid hA2; have HB2 := Lib.hid (HB1.out.trans hb2)
        have Hwr2 := Lib.hid (Hwr.out.trans (Wrote.one (x := [124]) (fun hh => Hwr.out.le hh)))
        clear hA2 hb2 hf2 HA1 HB1
        obtain ⟨g0, g1, g2, g3, g4, g5, g6, g7⟩ := h8
        go_wp2_with fail
        refine (Part.out w2 (l' ++ [124]) (X ++ [124]) HA2.out HB2.out HG2.out (by have := Hwr2.out; simpa using this) (by have := Hll.out; simp; omega) (q.k == 5)).mono ?_
        rintro e w3 ⟨l2, d2, rfl, hA3, hwr3, hl3, hb3, hf3⟩
        have HG3 := Lib.hid hf3
        have HA3 := Lib.hid hA3; have Hwr3 := Lib.hid hwr3; have HB3 := Lib.hid hb3; have Hl3 := Lib.hid hl3
        clear hA3 hwr3 hb3 hl3 HA2 HB2 HN1 H8 g0 g1 g2 g3 g4 g5 g6 g7 Part HF1
        go_wp2_with fail
        go_roundg (gk - 1)
        case measure => omega
        case rel => exact ⟨j + 1, l2, X ++ [124] ++ parT (q.k == 5) (prT q), d2, max K (deepT q + (if q.k == 5 then 1 else 0)), S + nodesF q, by go_num, by omega, HA3.out, Hwr3.out, by rw [← HX.out, HRest.out, if_neg hj0]; simp, by rw [← HK.out, Hd.out, deepAlt_cons]; omega, HSq.out, by have := Hq.out; omega, Hl3.out, HB3.out, HG3.out⟩
    · have hj0 : j = t.ps.length := by omega
      have hdr : t.ps.drop j = [] := List.drop_of_length_le (by omega)
      have hXe : X = prAlt t.ps := by rw [← HX.out, altR, if_neg (by omega), hdr]; simp [prBar]
      have hKe : K = deepAlt t.ps := by rw [← HK.out, hdr]; simp [deepAlt]
      have hSe : S = nodesL t.ps := by rw [← HS.out, hdr, nodesL]; omega
      have HXe := Lib.hid hXe; have HKe := Lib.hid hKe; have HSe := Lib.hid hSe
      clear hdr hXe hKe hSe HX HK HS
      go_wp2_with fail
      go_end0
      exact ⟨l', d', rfl, HAr.out, by rw [← HXe.out, ← HKe.out]; exact Hwr.out, by have := Hll.out; have := HSe.out; have := Hnn.out; omega, HBr.out, HGr.out⟩
end Go.Proofs.YthlakbjnmbddaaaGreatDoor

/- A writer of patterns: node, repeats: walked. -/
set_option linter.unusedVariables false
set_option linter.unusedSimpArgs false
namespace Go.Proofs.YthlakbjnmbddaaaGreatDoor
open Go.RowKit

theorem one_part {l : List T} (h : l.length = 1) (h0 : 0 < l.length) : l = [l[0]] := by
  match l, h with
  | [q], _ => rfl
theorem prHead_one (q : T) : prHead [q] = parT (looseT q) (prT q) := by rw [prHead]
theorem deepHead_one (q : T) : deepHead [q] = deepT q + (if looseT q then 1 else 0) := by rw [deepHead]
theorem nodesL_one (q : T) : nodesL [q] = nodesF q := by rw [nodesL, nodesL]; omega
set_option maxRecDepth 100000 in
set_option maxHeartbeats 4000000 in
theorem node_rep (t : T) (hk : t.k = 6) (ih : ∀ p ∈ t.ps, NodeC p) : NodeC t := by
  intro B p l o d w ok A c hN hok h hB ht hr hw h0 hod hon hl
  have hpos := nodesF_pos t
  by_cases hlt : 1024 < l.length
  · exact node_late t B p l o d w A c h hB hlt _ _ _ (by omega)
  have hlen := hN.len
  have hod' := hod (by omega)
  have hpr : prT t = prHead t.ps ++ timesT t.mn t.mx := by rw [prT_eq, hk]; simp
  have hdp : deepT t = deepHead t.ps := by rw [deepT_eq, hk]; simp
  have hcs : t.ps.length = 1 ∧ 0 ≤ t.mn ∧ t.mn ≤ 255 ∧ t.mx ≤ 255 ∧ -1 ≤ t.mx := by rcases right_cases hr with h | h | h | h | h | h | h <;> omega
  obtain ⟨hl1, m0, m1, m2, m3⟩ := hcs
  have Hl1 := Lib.hid hl1
  have hl0 : 0 < t.ps.length := by omega
  clear hl1
  have hnn : nodesF t = 1 + nodesL t.ps := nodesF_eq t
  rw [hpr, hdp]
  have H := Lib.hid h; have HT := Lib.hid ht; have HN := Lib.hid hN; have Hok := Lib.hid hok
  have Hps := Lib.hid (right_parts hr)
  have Hwp := Lib.hid hw.p
  have Hl := Lib.hid (show max (l.length : Int) 4000 + 16 * (1 + nodesL t.ps) ≤ 500000 by omega)
  have Hon := Lib.hid (show o + (1 + nodesL t.ps) ≤ 100000 by omega)
  have Hnn := Lib.hid hnn
  have Hih := Lib.hid ih
  clear hN hok h ht hr hw hod hon hl hpr hdp hnn ih hpos
  go_enter Tryz.func54, Tryz.ntmps54
  go_upto_region 1 with fail
  generalize hW : w.alloc _ = W0
  have hB0 : Below w.heap.size w W0 := by subst hW; exact (Below.refl _ _).alloc (Nat.le_refl _) _
  have h8 : At8 W0 w.heap.size 0 t A c := by subst hW; constructor <;> simp [go_sem, hk]
  clear hW
  obtain ⟨f0, f1, f2, f3, f4, f5, f6, f7⟩ := h8
  have HA := Lib.hid (H.out.later hB0)
  have HB := Lib.hid (hB0.mono hB)
  have HG := Lib.hid (Fr.of_below H.out.lt hB0)
  have HFo := Lib.hid (foreign_new H.out hB0 (Nat.le_refl _) (by have := World.block_lt_of_cell? _ _ f0; exact this))
  have hbz : w.heap.size ≤ W0.heap.size := hB0.size
  clear hB0 H f1 f2 f3 f4
  go_wp2_with fail
  refine (blen_any B p l o d W0 HA.out).mono ?_
  rintro e w1 ⟨rfl, rfl⟩
  obtain ⟨b, ob, rfl, hb, hcell⟩ := HN.out.part (by omega)
  obtain ⟨A', c', h8, hNj⟩ := hcell 0 (by omega)
  have hmem := List.getElem_mem (show 0 < t.ps.length by omega)
  have HCj := Lib.hid (Hih.out _ hmem)
  have Hrj := Lib.hid (Hps.out _ hmem)
  have Hwj := Lib.hid (Hwp.out _ hmem)
  have HNj := Lib.hid (hNj.later HB.out Hok.out)
  obtain ⟨e0, e1, e2, e3, e4, e5, e6, e7⟩ := h8.mono (w' := w1) (fun o => HB.out.cell (p := ⟨b, o, none⟩) (Hok.out b hb))
  simp only [Nat.zero_mul, Nat.add_zero] at e0 e1 e2 e3 e4 e5 e6 e7
  have hps : t.ps = [t.ps[0]] := one_part Hl1.out hl0
  have hprh : prHead t.ps = parT (looseT t.ps[0]) (prT t.ps[0]) := (congrArg prHead hps).trans (prHead_one _)
  have hdh : deepHead t.ps = deepT t.ps[0] + (if looseT t.ps[0] then 1 else 0) := (congrArg deepHead hps).trans (deepHead_one _)
  have hnl : nodesL t.ps = nodesF t.ps[0] := (congrArg nodesL hps).trans (nodesL_one _)
  have Hprh := Lib.hid hprh; have Hdh := Lib.hid hdh; have Hnl := Lib.hid hnl
  clear hcell hNj h8 hmem hps hprh hdh hnl
  generalize t.ps[0] = q at *
  have hq := nodesF_pos q
  have Hq := Lib.hid hq; clear hq
  have hw1z : w.heap.size < w1.heap.size := World.block_lt_of_cell? _ _ f0
  have ht1 := timesT_top t.mn t.mx
  have hbw : b < w1.heap.size := by have := Hok.out b hb; have := HB.out.size; omega
  go_upto_region 24 with fail
  have HA1 := Lib.hid HA.out.drew
  have HB1 := Lib.hid HB.out.drew
  have HG1 := Lib.hid (HG.out.trans HA.out.drewF)
  have HF1 := Lib.hid (HA.out.drewF _ HFo.out).2
  have HN1 := Lib.hid (HNj.out.later (B := w1.heap.size) (Below.refl _ _).drew (fun b' h => by have := Hok.out b' h; have := HB.out.size; omega))
  have x7 : w1.drew.cell? ⟨w.heap.size, 7, none⟩ = some (.slice (some ⟨b, ob, none⟩) t.ps.length c) := f7
  go_region_with (first
    | (go_at_call 81
       refine (loose_any _ q A' c').mono ?_
       rintro e w2 ⟨rfl, hb2⟩
       have HA2 := Lib.hid (HA1.out.later hb2)
       have HB2 := Lib.hid (HB1.out.trans (hb2.mono (Nat.le_trans hB HB1.out.size)))
       have HG2 := Lib.hid (HG1.out.trans (Fr.of_below HA1.out.lt hb2))
       have HF2 := Lib.hid (Fr.of_below HA1.out.lt hb2 _ HF1.out).2
       have HN2 := Lib.hid (HN1.out.later hb2 (fun b' h => by have := Hok.out b' h; have := HB1.out.size; omega))
       have m7 : w2.cell? ⟨w.heap.size, 7, none⟩ = some (.slice (some ⟨b, ob, none⟩) t.ps.length c) := (hb2.cell (p := ⟨w.heap.size, 7, none⟩) hw1z).trans f7
       have n0 := (hb2.cell (p := ⟨b, ob, none⟩) hbw).trans e0
       have n1 := (hb2.cell (p := ⟨b, ob + 1, none⟩) hbw).trans e1
       have n2 := (hb2.cell (p := ⟨b, ob + 2, none⟩) hbw).trans e2
       have n3 := (hb2.cell (p := ⟨b, ob + 3, none⟩) hbw).trans e3
       have n4 := (hb2.cell (p := ⟨b, ob + 4, none⟩) hbw).trans e4
       have n5 := (hb2.cell (p := ⟨b, ob + 5, none⟩) hbw).trans e5
       have n6 := (hb2.cell (p := ⟨b, ob + 6, none⟩) hbw).trans e6
       have n7 := (hb2.cell (p := ⟨b, ob + 7, none⟩) hbw).trans e7
       have g5 := (hb2.cell (p := ⟨w.heap.size, 5, none⟩) hw1z).trans f5
       have g6 := (hb2.cell (p := ⟨w.heap.size, 6, none⟩) hw1z).trans f6
       have hz2 : w1.drew.heap.size ≤ w2.heap.size := hb2.size
       clear hb2)
    | (go_at_call 80
       refine (part_any q HCj.out (looseT q) B p l o d w2 ok A' c' HN2.out Hok.out HA2.out (Nat.le_trans hB HB2.out.size) (HT.out.later HB2.out) Hrj.out Hwj.out h0 (fun hh => hod') (by have := Hon.out; have := Hnl.out; omega) (by have := Hl.out; have := Hnl.out; omega)).mono ?_
       rintro e w3 ⟨l2, d2, rfl, hA3, hwr3, hl3, hb3, hf3⟩))
  all_goals
    have y5 : w3.cell? ⟨w.heap.size, 5, none⟩ = some (.int .i64 t.mn) := (World.cell?_of_block (w := w2) (a := ⟨w.heap.size, 5, none⟩) (hf3 _ HF2.out).1).trans g5
    have y6 : w3.cell? ⟨w.heap.size, 6, none⟩ = some (.int .i64 t.mx) := (World.cell?_of_block (w := w2) (a := ⟨w.heap.size, 6, none⟩) (hf3 _ HF2.out).1).trans g6
    have HG3 := Lib.hid (HG2.out.trans hf3); have HB3 := Lib.hid (HB2.out.trans hb3); have HA3 := Lib.hid hA3; have Hwr3 := Lib.hid hwr3; have Hl3 := Lib.hid hl3
    have hll2 : l2.length ≤ 500000 := by have := Hl.out; have := Hnl.out; have := Hq.out; omega
    clear hf3 hb3 hA3 hwr3 hl3 g5 g6 m7 n0 n1 n2 n3 n4 n5 n6 n7 HN2 HA2 HB2 HG2 HF2
    go_wp2_with fail
    refine (wtimes_any B p l2 o d2 w3 HA3.out (by omega) (Nat.le_trans hB HB3.out.size) (HT.out.later HB3.out) t.mn t.mx m0 m1 m3 m2).mono ?_
    rintro e w4 ⟨rfl, hA4, hb4, hf4⟩
    have HA4 := Lib.hid hA4; have HB4 := Lib.hid (HB3.out.trans hb4); have HG4 := Lib.hid (HG3.out.trans hf4)
    clear hA4 hb4 hf4
    go_wp2_with fail
    go_end0
    exact ⟨_, d2, rfl, HA4.out, by rw [Hprh.out, Hdh.out]; simpa using Hwr3.out.trans (Wrote.one (x := timesT t.mn t.mx) (fun hh => Hwr3.out.le hh)), by have := Hl3.out; have := Hnn.out; have := Hnl.out; simp; omega, HB4.out, HG4.out⟩
end Go.Proofs.YthlakbjnmbddaaaGreatDoor

/- A writer of patterns: node: walked. -/
set_option linter.unusedVariables false
set_option linter.unusedSimpArgs false
namespace Go.Proofs.YthlakbjnmbddaaaGreatDoor
open Go.RowKit

/-- node writes a tree's text. -/
theorem node_any (t : T) : NodeC t := by
  induction t using T.ind with
  | h t ih =>
    intro B p l o d w ok A c hN hok h hB ht hr hw h0 hod hon hl
    have go : ∀ {t : T}, NodeC t → NodeC t := fun h => h
    rcases right_cases hr with ⟨hk, _⟩ | ⟨hk, _⟩ | ⟨hk, _⟩ | ⟨hk, _⟩ | ⟨hk, _⟩ | ⟨hk, _⟩ | ⟨hk, _⟩
    · exact node_leaf t (.inl hk) B p l o d w ok A c hN hok h hB ht hr hw h0 hod hon hl
    · exact node_leaf t (.inr (.inl hk)) B p l o d w ok A c hN hok h hB ht hr hw h0 hod hon hl
    · exact node_leaf t (.inr (.inr (.inl hk))) B p l o d w ok A c hN hok h hB ht hr hw h0 hod hon hl
    · exact node_leaf t (.inr (.inr (.inr hk))) B p l o d w ok A c hN hok h hB ht hr hw h0 hod hon hl
    · exact node_row t hk ih B p l o d w ok A c hN hok h hB ht hr hw h0 hod hon hl
    · exact node_alt t hk ih B p l o d w ok A c hN hok h hB ht hr hw h0 hod hon hl
    · exact node_rep t hk ih B p l o d w ok A c hN hok h hB ht hr hw h0 hod hon hl
end Go.Proofs.YthlakbjnmbddaaaGreatDoor

/- pattern.Print: walked. -/
set_option linter.unusedVariables false
set_option linter.unusedSimpArgs false
namespace Go.Proofs.YthlakbjnmbddaaaGreatDoor
open Go.RowKit

/-- Print. -/
def printP (t : T) : Bs × Int := if checkF t ≠ 0 then ([], checkF t) else if (prT t).length ≤ 1024 ∧ deepT t ≤ 64 then (prT t, 0) else ([], 3)
theorem check_nodes {t : T} (h : checkF t = 0) : rightF t = true ∧ nodesF t ≤ 2048 := by
  have := check_right h
  rw [sizeF_min t 2048 (by omega)] at this
  exact ⟨this.1, by omega⟩
theorem writer_new (w : World) : WAt w.heap.size w.heap.size [] 0 0 (w.alloc (.cells #[.pointer none, .slice none 0 0, .int .i64 0, .int .i64 0] 78)) :=
  ⟨Nat.le_refl _, none, .slice none 0 0, heap_alloc_new w _, .inl rfl, ⟨rfl, .inl ⟨rfl, rfl⟩⟩, fun _ => rfl⟩
set_option maxRecDepth 100000 in
set_option maxHeartbeats 2000000 in
theorem print_any (t : T) (w : World) (ok : Nat → Prop) (A : Option Addr) (c : Nat) (hN : NodeAt w ok t A c) (hok : ∀ b, ok b → b < w.heap.size) (hw : checkF t = 0 → Words t) (ht : TabIn w.heap.size w) :
    Calls Tryz.prog 34 #[nodeV t A c] w fun e w' => e = .returned (.tuple #[.string (bs (printP t).1), .int .i64 (printP t).2]) ∧ Below w.heap.size w w' := by
  have HW := Lib.hid hw; have HT := Lib.hid ht; have HN := Lib.hid hN; have Hok := Lib.hid hok
  clear hw ht hN hok
  by_cases h0 : checkF t = 0
  · have Hw := Lib.hid (HW.out h0)
    have Hc := Lib.hid h0
    obtain ⟨hr, hn⟩ := check_nodes h0
    have Hr := Lib.hid hr; have Hn := Lib.hid hn
    have Hpc := Lib.hid (pcheck_any t)
    have hp0 : printP t = if (prT t).length ≤ 1024 ∧ deepT t ≤ 64 then (prT t, 0) else ([], 3) := by unfold printP; rw [if_neg (by omega)]
    have Hp := Lib.hid hp0
    clear h0 hr hn HW hp0
    go_enter Tryz.func34, Tryz.ntmps34
    go_upto_region 1 with fail
    generalize hW : w.alloc _ = Wa
    have hBa : Below w.heap.size w Wa := by subst hW; exact (Below.refl _ _).alloc (Nat.le_refl _) _
    have h8 : At8 Wa w.heap.size 0 t A c := by subst hW; constructor <;> simp [go_sem]
    clear hW
    have HBa := Lib.hid hBa
    have HNa := Lib.hid (HN.out.later hBa Hok.out)
    have hok2 : ∀ b, ok b → b < Wa.heap.size := fun b h => by have := Hok.out b h; have := HBa.out.size; omega
    have Hok2 := Lib.hid hok2
    have hza : w.heap.size < Wa.heap.size := World.block_lt_of_cell? _ _ h8.f0
    clear hBa hok2
    have H8 := Lib.hid h8
    obtain ⟨f0, f1, f2, f3, f4, f5, f6, f7⟩ := h8
    go_wp2_with fail
    refine (Hpc.out _ ok A c HNa.out Hok2.out).mono ?_
    rintro e w1 ⟨rfl, hb1⟩
    have h9 : At8 w1 w.heap.size 0 t A c := H8.out.mono (fun o => hb1.cell (p := ⟨w.heap.size, o, none⟩) hza)
    have H9 := Lib.hid h9
    have hb1 := HBa.out.step hb1
    clear f0 f1 f2 f3 f4 f5 f6 f7 h9
    rw [Hc.out]
    have HB1 := Lib.hid hb1
    clear hb1
    go_upto_region 5 with fail
    generalize hW : w1.alloc _ = W0
    have h8 : At8 W0 w.heap.size 0 t A c := by subst hW; exact H9.out.mono (fun o => ((Below.refl w1.heap.size w1).alloc (Nat.le_refl _) _).cell (p := ⟨w.heap.size, o, none⟩) (by have := World.block_lt_of_cell? _ _ H9.out.f0; exact this))
    obtain ⟨f0, f1, f2, f3, f4, f5, f6, f7⟩ := h8
    have hA0 : WAt w1.heap.size w1.heap.size [] 0 0 W0 := by subst hW; exact writer_new w1
    have hB0 : Below w1.heap.size w1 W0 := by subst hW; exact (Below.refl _ _).alloc (Nat.le_refl _) _
    have hz0 : w.heap.size ≤ w1.heap.size := HB1.out.size
    have hA1 : WAt w.heap.size w1.heap.size [] 0 0 W0 := ⟨hz0, by obtain ⟨_, a, v, h2, h3, h4, h5⟩ := hA0; exact ⟨a, v, h2, h3, by have := h5 rfl; subst this; exact ⟨rfl, .inl ⟨rfl, rfl⟩⟩, h5⟩⟩
    have HA := Lib.hid hA1
    have HB := Lib.hid (HB1.out.step hB0)
    clear hW hA0 hB0 hA1
    go_wp2_with fail
    refine (node_any t w.heap.size w1.heap.size [] 0 0 W0 ok A c (HN.out.later HB.out Hok.out) Hok.out HA.out HB.out.size (HT.out.later HB.out) Hr.out Hw.out (by omega) (fun _ => by omega) (by have := Hn.out; omega) (by have := Hn.out; simp; omega)).mono ?_
    rintro e w2 ⟨l', d', rfl, hA2, hwr, -, hb2, -⟩
    have HB2 := Lib.hid (HB.out.trans hb2)
    obtain ⟨c2, c3, _, _⟩ := hA2.cells
    have HA2 := Lib.hid hA2
    unfold Wrote at hwr
    rw [List.length_nil, Nat.zero_add] at hwr
    clear HA HB hb2 hA2 f0 f1 f2 f3 f4 f5 f6 f7
    by_cases hl : (prT t).length ≤ 1024
    · rw [if_pos hl] at hwr
      obtain ⟨rfl, rfl⟩ := hwr
      rw [List.nil_append] at HA2
      have hd : max (0 : Int) (0 + (deepT t : Int)) = (deepT t : Int) := by omega
      rw [hd] at HA2 c3
      clear hd
      by_cases hd : deepT t ≤ 64
      · rw [if_pos ⟨hl, hd⟩] at Hp
        generalize prT t = x at *
        generalize deepT t = k at *
        go_wp2_with fail
        refine (blen_any w.heap.size w1.heap.size x 0 k w2 HA2.out).mono ?_
        rintro e w3 ⟨rfl, rfl⟩
        go_wp2_with fail
        refine (bstring_any w.heap.size w1.heap.size x 0 k w3 HA2.out).mono ?_
        rintro e w4 ⟨rfl, hb4⟩
        go_wp2_with fail
        go_ret2
        exact ⟨by rw [Hp.out]; rfl, HB2.out.trans hb4⟩
      · rw [if_neg (fun h => hd h.2)] at Hp
        generalize prT t = x at *
        generalize deepT t = k at *
        go_wp2_with fail
        refine (blen_any w.heap.size w1.heap.size x 0 k w2 HA2.out).mono ?_
        rintro e w3 ⟨rfl, rfl⟩
        go_wp2_with fail
        go_ret2
        exact ⟨by rw [Hp.out]; rfl, HB2.out⟩
    · rw [if_neg hl] at hwr
      rw [if_neg (fun h => hl h.1)] at Hp
      clear hl
      go_wp2_with fail
      refine (blen_any w.heap.size w1.heap.size l' 0 d' w2 HA2.out).mono ?_
      rintro e w3 ⟨rfl, rfl⟩
      go_wp2_with fail
      go_ret2
      exact ⟨by rw [Hp.out]; rfl, HB2.out⟩
  · have Hp := Lib.hid (show printP t = ([], checkF t) by unfold printP; rw [if_pos h0])
    have Hpc := Lib.hid (pcheck_any t)
    clear HW
    generalize checkF t = e0 at *
    rw [Hp.out]
    clear Hp
    go_enter Tryz.func34, Tryz.ntmps34
    go_upto_region 1 with fail
    generalize hW : w.alloc _ = Wa
    have hBa : Below w.heap.size w Wa := by subst hW; exact (Below.refl _ _).alloc (Nat.le_refl _) _
    have h8 : At8 Wa w.heap.size 0 t A c := by subst hW; constructor <;> simp [go_sem]
    clear hW
    have HBa := Lib.hid hBa
    have HNa := Lib.hid (HN.out.later hBa Hok.out)
    have hok2 : ∀ b, ok b → b < Wa.heap.size := fun b h => by have := Hok.out b h; have := HBa.out.size; omega
    have Hok2 := Lib.hid hok2
    have hza : w.heap.size < Wa.heap.size := World.block_lt_of_cell? _ _ h8.f0
    clear hBa hok2
    have H8 := Lib.hid h8
    obtain ⟨f0, f1, f2, f3, f4, f5, f6, f7⟩ := h8
    go_wp2_with fail
    refine (Hpc.out _ ok A c HNa.out Hok2.out).mono ?_
    rintro e w1 ⟨rfl, hb1⟩
    have hb1 := HBa.out.step hb1
    go_wp2_with fail
    go_ret2
    exact ⟨rfl, hb1⟩
end Go.Proofs.YthlakbjnmbddaaaGreatDoor

/- The pattern reader's piece: walked. (Printed by wip/genpiece.py.) -/
set_option linter.unusedVariables false
set_option linter.unusedSimpArgs false
namespace Go.Proofs.YthlakbjnmbddaaaGreatDoor
open Go.RowKit

theorem takeP_len {q r r' : Bs} (h : takeP q r = some r') : r'.length + q.length = r.length := by
  unfold takeP at h
  split at h
  · rename_i hp
    cases h
    have := pref_len hp
    simp; omega
  · cases h
theorem digits_len : ∀ (k : Nat) (n : Int) (w : Nat) (r : Bs), (digitsP k n w r).2.2.length ≤ r.length
  | 0, n, w, r => by rw [digitsP]; exact Nat.le_refl _
  | k + 1, n, w, [] => by rw [digitsP]; exact Nat.le_refl _
  | k + 1, n, w, c :: t => by
    rw [digitsP]
    split
    · have := digits_len k (10 * n + (c.toNat - 48)) (w + 1) t
      simp only [List.length_cons]; omega
    · exact Nat.le_refl _
theorem number_len {r r' : Bs} {n : Int} (h : numberP r = .ok (n, r')) : r'.length ≤ r.length := by
  unfold numberP at h
  split at h
  · cases h
  · cases h; exact digits_len 4 0 0 r
theorem interval_len {r r' : Bs} {m n : Int} (h : intervalP r = .ok (m, n, r')) : r'.length ≤ r.length := by
  unfold intervalP at h
  split at h
  · cases h
  rename_i m1 r1 hn
  have l1 := number_len hn
  split at h
  · rename_i r2 ht; cases h; have := takeP_len ht; simp at this; omega
  split at h
  · rename_i r2 ht; cases h; have := takeP_len ht; simp at this; omega
  split at h
  · cases h
  rename_i r2 ht
  have l2 := takeP_len ht
  split at h
  · cases h
  rename_i n1 r3 hn2
  have l3 := number_len hn2
  split at h
  · cases h
  split at h
  · rename_i r4 ht4; cases h; have := takeP_len ht4; simp at this l2; omega
  · cases h
/-- Within a round of piece: the new node's box, what it may become. -/
structure PieceR (p : Nat) (op : Int) (w wr : World) (bn : Nat) (t : T) (A : Option Addr) (c : Nat) (mm mx : Int) (s : Rs) (W : World) : Prop where
  R : BlkX W w.heap.size (xcell (.mk 0 0 0 0 0 0 0 [], none, 0)).toArray
  N : BlkX W bn (xcell (t, A, c)).toArray
  X : BlkX W (wr.heap.size + 1) (xcell (repT mm mx t, some ⟨wr.heap.size, 0, none⟩, 1)).toArray
  node : ∀ m n, NodeAt W (fun b => w.heap.size < b ∧ b < wr.heap.size + 1 ∧ b ≠ bn) (repT m n t) (some ⟨wr.heap.size, 0, none⟩) 1
  x : NodeAt W (fun b => w.heap.size < b ∧ b < wr.heap.size ∧ b ≠ bn) t A c
  S : RS W p op s
  O : Off p w W
end Go.Proofs.YthlakbjnmbddaaaGreatDoor

/- Lists of nodes that grow, beside the pattern reader; what reading leaves is no longer than what it met. -/
set_option linter.unusedVariables false
set_option linter.unusedSimpArgs false
namespace Go.Proofs.YthlakbjnmbddaaaGreatDoor
open Go.RowKit

theorem single_len {g : UInt8} {r r' : Bs} {c : Nat} (h : singleP g r = .ok (c, r')) : r'.length ≤ r.length := by
  unfold singleP at h
  split at h
  · cases h
  · split at h
    · rename_i ht; cases h; have := takeP_len ht; simp at this ⊢; omega
    · cases h
theorem member_len {r r' : Bs} {c : Nat} (h : memberP r = .ok (c, r')) : r'.length ≤ r.length := by
  unfold memberP at h
  split at h
  · rename_i ht; have := takeP_len ht; have := single_len h; simp at *; omega
  · split at h
    · cases h
    · cases h; simp
theorem cutP_len : ∀ {r a b : Bs}, cutP r = some (a, b) → b.length ≤ r.length
  | [], a, b, h => by rw [cutP] at h; cases h
  | c :: t, a, b, h => by
    rw [cutP] at h
    split at h
    · rename_i ht; cases h; have := takeP_len ht; simp at *; omega
    · split at h
      · rename_i a' b' hc; cases h; have := cutP_len hc; simp at *; omega
      · cases h
theorem class_len {s s' : W4} {r r' : Bs} (h : classP s r = .ok (s', r')) : r'.length ≤ r.length := by
  unfold classP at h
  split at h
  · cases h
  · rename_i hc
    split at h
    · cases h
    · cases h; exact cutP_len hc
theorem range_len {s s' : W4} {f : Nat} {r r' : Bs} (h : rangeP s f r = .ok (s', r')) : r'.length ≤ r.length := by
  unfold rangeP at h
  split at h
  · rename_i ht _
    split at h
    · cases h
    · split at h
      · cases h
      · rename_i hm
        split at h
        · cases h
        · cases h; have := takeP_len ht; have := member_len hm; simp at *; omega
  · cases h; exact Nat.le_refl _
theorem item_len {s s' : W4} {r r' : Bs} (h : itemP s r = .ok (s', r')) : r'.length ≤ r.length := by
  unfold itemP at h
  split at h
  · rename_i ht; have := takeP_len ht; have := class_len h; simp at *; omega
  · split at h
    · rename_i ht
      split at h
      · cases h
      · rename_i hs; cases h; have := takeP_len ht; have := single_len hs; simp at *; omega
    · split at h
      · cases h
      · rename_i hm; have := member_len hm; have := range_len h; omega
theorem items_len : ∀ {k : Nat} {s s' : W4} {r r' : Bs}, itemsP k s r = .ok (s', r') → r'.length ≤ r.length
  | 0, s, s', r, r', h => by rw [itemsP] at h; cases h
  | k + 1, s, s', r, r', h => by
    rw [itemsP] at h
    split at h
    · cases h
    · rename_i hi
      have := item_len hi
      split at h
      · rename_i ht; cases h; have := takeP_len ht; simp at *; omega
      · have := items_len h; omega
theorem bracket_len {s' : W4} {r r' : Bs} (h : bracketP r = .ok (s', r')) : r'.length ≤ r.length := by
  unfold bracketP at h
  split at h
  · rename_i ht
    split at h
    · cases h
    · rename_i hi; cases h; have := takeP_len ht; have := items_len hi; simp at *; omega
  · exact items_len h
/-- A reader of groups that leaves no more than it met. -/
def GrpLen (grp : Bs → PT) : Prop := ∀ r n r', grp r = .ok (n, r') → r'.length ≤ r.length
theorem atom_len {grp : Bs → PT} (hg : GrpLen grp) {r r' : Bs} {n : T} (h : atomP grp r = .ok (n, r')) : r'.length < r.length := by
  unfold atomP at h
  split at h
  · cases h
  · rename_i c t
    simp only [List.length_cons]
    split at h
    · have := hg _ _ _ h; omega
    split at h
    · cases h; omega
    split at h
    · cases h; omega
    split at h
    · split at h
      · cases h
      · rename_i hb; cases h; have := bracket_len hb; omega
    split at h
    · cases h; omega
    split at h
    · cases h
    split at h
    · split at h
      · cases h
      · cases h; simp; omega
    · cases h; omega
theorem suf_len : ∀ (k : Nat) {n n' : T} {r r' : Bs}, sufP k n r = .ok (n', r') → r'.length ≤ r.length
  | 0, n, n', r, r', h => by rw [sufP] at h; cases h; exact Nat.le_refl _
  | k + 1, n, n', r, r', h => by
    rw [sufP] at h
    split at h
    · rename_i ht; have := takeP_len ht; have := suf_len k h; omega
    split at h
    · rename_i ht; have := takeP_len ht; have := suf_len k h; omega
    split at h
    · rename_i ht; have := takeP_len ht; have := suf_len k h; omega
    split at h
    · rename_i ht
      split at h
      · cases h
      · rename_i hi; have := takeP_len ht; have := interval_len hi; have := suf_len k h; omega
    · cases h; exact Nat.le_refl _
theorem piece_len {grp : Bs → PT} (hg : GrpLen grp) {r r' : Bs} {n : T} (h : pieceP grp r = .ok (n, r')) : r'.length < r.length := by
  unfold pieceP at h
  split at h
  · cases h
  · rename_i ha; have := atom_len hg ha; have := suf_len _ h; omega
theorem pieces_len {grp : Bs → PT} (hg : GrpLen grp) : ∀ (k : Nat) {l l' : List T} {r r' : Bs}, piecesP grp k l r = .ok (l', r') → r'.length ≤ r.length
  | 0, l, l', r, r', h => by rw [piecesP] at h; cases h; exact Nat.le_refl _
  | k + 1, l, l', r, r', h => by
    rw [piecesP] at h
    split at h
    · cases h; exact Nat.le_refl _
    · split at h
      · cases h
      · rename_i hp; have := piece_len hg hp; have := pieces_len hg k h; omega
theorem row_len {grp : Bs → PT} (hg : GrpLen grp) {r r' : Bs} {n : T} (h : rowP grp r = .ok (n, r')) : r'.length ≤ r.length := by
  unfold rowP at h
  split at h
  · cases h
  · rename_i hp; cases h; exact pieces_len hg _ hp
theorem alts_len {grp : Bs → PT} (hg : GrpLen grp) : ∀ (k : Nat) {l l' : List T} {r r' : Bs}, altsP grp k l r = .ok (l', r') → r'.length ≤ r.length
  | 0, l, l', r, r', h => by rw [altsP] at h; cases h; exact Nat.le_refl _
  | k + 1, l, l', r, r', h => by
    rw [altsP] at h
    split at h
    · cases h; exact Nat.le_refl _
    · rename_i ht
      split at h
      · cases h
      · rename_i hp; have := takeP_len ht; have := row_len hg hp; have := alts_len hg k h; omega
theorem choice_len {grp : Bs → PT} (hg : GrpLen grp) {r r' : Bs} {n : T} (h : choiceP grp r = .ok (n, r')) : r'.length ≤ r.length := by
  unfold choiceP at h
  split at h
  · cases h
  · rename_i hr
    split at h
    · cases h
    · rename_i ha; cases h; have := row_len hg hr; have := alts_len hg _ ha; omega
theorem group_len : ∀ d, GrpLen (groupP d)
  | 0 => fun r n r' h => by rw [groupP] at h; cases h
  | d + 1 => fun r n r' h => by
    rw [groupP] at h
    split at h
    · cases h
    · rename_i hc
      split at h
      · rename_i ht; cases h; have := choice_len (group_len d) hc; have := takeP_len ht; omega
      · cases h

/-- A list of nodes that a call lays, in its own row; beside the result's box and the reader. -/
structure LstR (p : Nat) (op : Int) (w : World) (n : Nat) (ns : List Nx) (Av : Option Addr) (cv : Nat) (s : Rs) (wr : World) : Prop where
  len : ns.length = n
  R : BlkX wr w.heap.size (xcell (.mk 0 0 0 0 0 0 0 [], none, 0)).toArray
  own : wr.ownsRow (w.heap.size + 1) 48 8 (.slice Av n cv) n (xcells ns)
  nodes : ∀ x ∈ ns, NodeAt wr (fun b => w.heap.size < b ∧ b < wr.heap.size ∧ some b ≠ (Value.slice Av n cv).ownBlock) x.1 x.2.1 x.2.2
  S : RS wr p op s
  O : Off p w wr
end Go.Proofs.YthlakbjnmbddaaaGreatDoor

/- What reading leaves is an end of what it met. Plain. -/
set_option linter.unusedVariables false
set_option linter.unusedSimpArgs false
namespace Go.Proofs.YthlakbjnmbddaaaGreatDoor
open Go.RowKit

theorem takeP_suf {q r r' : Bs} (h : takeP q r = some r') : r' <:+ r := by
  unfold takeP at h
  split at h
  · cases h; exact List.drop_suffix _ _
  · cases h
theorem digits_suf : ∀ (k : Nat) (n : Int) (w : Nat) (r : Bs), (digitsP k n w r).2.2 <:+ r
  | 0, n, w, r => by rw [digitsP]; exact List.suffix_refl _
  | k + 1, n, w, [] => by rw [digitsP]; exact List.suffix_refl _
  | k + 1, n, w, c :: t => by
    rw [digitsP]
    split
    · exact (digits_suf k _ _ t).trans (List.suffix_cons c t)
    · exact List.suffix_refl _
theorem number_suf {r r' : Bs} {n : Int} (h : numberP r = .ok (n, r')) : r' <:+ r := by
  unfold numberP at h
  split at h
  · cases h
  · cases h; exact digits_suf 4 0 0 r
theorem interval_suf {r r' : Bs} {m n : Int} (h : intervalP r = .ok (m, n, r')) : r' <:+ r := by
  unfold intervalP at h
  split at h
  · cases h
  rename_i m1 r1 hn
  have l1 := number_suf hn
  split at h
  · rename_i r2 ht; cases h; exact (takeP_suf ht).trans l1
  split at h
  · rename_i r2 ht; cases h; exact (takeP_suf ht).trans l1
  split at h
  · cases h
  rename_i r2 ht
  have l2 := takeP_suf ht
  split at h
  · cases h
  rename_i n1 r3 hn2
  have l3 := number_suf hn2
  split at h
  · cases h
  split at h
  · rename_i r4 ht4; cases h; exact (((takeP_suf ht4).trans l3).trans l2).trans l1
  · cases h
theorem single_suf {g : UInt8} {r r' : Bs} {c : Nat} (h : singleP g r = .ok (c, r')) : r' <:+ r := by
  unfold singleP at h
  split at h
  · cases h
  · split at h
    · rename_i ht; cases h; exact (takeP_suf ht).trans (List.suffix_cons _ _)
    · cases h
theorem member_suf {r r' : Bs} {c : Nat} (h : memberP r = .ok (c, r')) : r' <:+ r := by
  unfold memberP at h
  split at h
  · rename_i ht; exact (single_suf h).trans (takeP_suf ht)
  · split at h
    · cases h
    · cases h; exact List.suffix_cons _ _
theorem cutP_suf : ∀ {r a b : Bs}, cutP r = some (a, b) → b <:+ r
  | [], a, b, h => by rw [cutP] at h; cases h
  | c :: t, a, b, h => by
    rw [cutP] at h
    split at h
    · rename_i ht; cases h; exact takeP_suf ht
    · split at h
      · rename_i a' b' hc; cases h; exact (cutP_suf hc).trans (List.suffix_cons _ _)
      · cases h
theorem class_suf {s s' : W4} {r r' : Bs} (h : classP s r = .ok (s', r')) : r' <:+ r := by
  unfold classP at h
  split at h
  · cases h
  · rename_i hc
    split at h
    · cases h
    · cases h; exact cutP_suf hc
theorem range_suf {s s' : W4} {f : Nat} {r r' : Bs} (h : rangeP s f r = .ok (s', r')) : r' <:+ r := by
  unfold rangeP at h
  split at h
  · rename_i ht _
    split at h
    · cases h
    · split at h
      · cases h
      · rename_i hm
        split at h
        · cases h
        · cases h; exact (member_suf hm).trans (takeP_suf ht)
  · cases h; exact List.suffix_refl _
theorem item_suf {s s' : W4} {r r' : Bs} (h : itemP s r = .ok (s', r')) : r' <:+ r := by
  unfold itemP at h
  split at h
  · rename_i ht; exact (class_suf h).trans (takeP_suf ht)
  · split at h
    · rename_i ht
      split at h
      · cases h
      · rename_i hs; cases h; exact (single_suf hs).trans (takeP_suf ht)
    · split at h
      · cases h
      · rename_i hm; exact (range_suf h).trans (member_suf hm)
theorem items_suf : ∀ {k : Nat} {s s' : W4} {r r' : Bs}, itemsP k s r = .ok (s', r') → r' <:+ r
  | 0, s, s', r, r', h => by rw [itemsP] at h; cases h
  | k + 1, s, s', r, r', h => by
    rw [itemsP] at h
    split at h
    · cases h
    · rename_i hi
      have := item_suf hi
      split at h
      · rename_i ht; cases h; exact (takeP_suf ht).trans this
      · exact (items_suf h).trans this
theorem bracket_suf {s' : W4} {r r' : Bs} (h : bracketP r = .ok (s', r')) : r' <:+ r := by
  unfold bracketP at h
  split at h
  · rename_i ht
    split at h
    · cases h
    · rename_i hi; cases h; exact (items_suf hi).trans (takeP_suf ht)
  · exact items_suf h
def GrpSuf (grp : Bs → PT) : Prop := ∀ r n r', grp r = .ok (n, r') → r' <:+ r
theorem atom_suf {grp : Bs → PT} (hg : GrpSuf grp) {r r' : Bs} {n : T} (h : atomP grp r = .ok (n, r')) : r' <:+ r := by
  unfold atomP at h
  split at h
  · cases h
  · rename_i c t
    have sc := List.suffix_cons c t
    split at h
    · exact (hg _ _ _ h).trans sc
    split at h
    · cases h; exact sc
    split at h
    · cases h; exact sc
    split at h
    · split at h
      · cases h
      · rename_i hb; cases h; exact (bracket_suf hb).trans sc
    split at h
    · cases h; exact sc
    split at h
    · cases h
    split at h
    · split at h
      · cases h
      · cases h; exact (List.suffix_cons _ _).trans sc
    · cases h; exact sc
theorem suf_suf : ∀ (k : Nat) {n n' : T} {r r' : Bs}, sufP k n r = .ok (n', r') → r' <:+ r
  | 0, n, n', r, r', h => by rw [sufP] at h; cases h; exact List.suffix_refl _
  | k + 1, n, n', r, r', h => by
    rw [sufP] at h
    split at h
    · rename_i ht; exact (suf_suf k h).trans (takeP_suf ht)
    split at h
    · rename_i ht; exact (suf_suf k h).trans (takeP_suf ht)
    split at h
    · rename_i ht; exact (suf_suf k h).trans (takeP_suf ht)
    split at h
    · rename_i ht
      split at h
      · cases h
      · rename_i hi; exact ((suf_suf k h).trans (interval_suf hi)).trans (takeP_suf ht)
    · cases h; exact List.suffix_refl _
theorem piece_suf {grp : Bs → PT} (hg : GrpSuf grp) {r r' : Bs} {n : T} (h : pieceP grp r = .ok (n, r')) : r' <:+ r := by
  unfold pieceP at h
  split at h
  · cases h
  · rename_i ha; exact (suf_suf _ h).trans (atom_suf hg ha)
theorem pieces_suf {grp : Bs → PT} (hg : GrpSuf grp) : ∀ (k : Nat) {l l' : List T} {r r' : Bs}, piecesP grp k l r = .ok (l', r') → r' <:+ r
  | 0, l, l', r, r', h => by rw [piecesP] at h; cases h; exact List.suffix_refl _
  | k + 1, l, l', r, r', h => by
    rw [piecesP] at h
    split at h
    · cases h; exact List.suffix_refl _
    · split at h
      · cases h
      · rename_i hp; exact (pieces_suf hg k h).trans (piece_suf hg hp)
theorem row_suf {grp : Bs → PT} (hg : GrpSuf grp) {r r' : Bs} {n : T} (h : rowP grp r = .ok (n, r')) : r' <:+ r := by
  unfold rowP at h
  split at h
  · cases h
  · rename_i hp; cases h; exact pieces_suf hg _ hp
theorem alts_suf {grp : Bs → PT} (hg : GrpSuf grp) : ∀ (k : Nat) {l l' : List T} {r r' : Bs}, altsP grp k l r = .ok (l', r') → r' <:+ r
  | 0, l, l', r, r', h => by rw [altsP] at h; cases h; exact List.suffix_refl _
  | k + 1, l, l', r, r', h => by
    rw [altsP] at h
    split at h
    · cases h; exact List.suffix_refl _
    · rename_i ht
      split at h
      · cases h
      · rename_i hp; exact ((alts_suf hg k h).trans (row_suf hg hp)).trans (takeP_suf ht)
theorem choice_suf {grp : Bs → PT} (hg : GrpSuf grp) {r r' : Bs} {n : T} (h : choiceP grp r = .ok (n, r')) : r' <:+ r := by
  unfold choiceP at h
  split at h
  · cases h
  · rename_i hr
    split at h
    · cases h
    · rename_i ha; cases h; exact (alts_suf hg _ ha).trans (row_suf hg hr)
theorem group_suf : ∀ d, GrpSuf (groupP d)
  | 0 => fun r n r' h => by rw [groupP] at h; cases h
  | d + 1 => fun r n r' h => by
    rw [groupP] at h
    split at h
    · cases h
    · rename_i hc
      split at h
      · rename_i ht; cases h; exact (takeP_suf ht).trans (choice_suf (group_suf d) hc)
      · cases h
end Go.Proofs.YthlakbjnmbddaaaGreatDoor

/- The pattern reader's row: walked. -/
set_option linter.unusedVariables false
set_option linter.unusedSimpArgs false
namespace Go.Proofs.YthlakbjnmbddaaaGreatDoor
open Go.RowKit

theorem u8_neq {c : UInt8} {k : Nat} (hk : k < 256) (h : c ≠ UInt8.ofNat k) : ((c.toNat : Int) != (k : Int)) = true := by
  have := u8_ne hk h
  simp only [bne, this, Bool.not_false]
theorem ends_false {c : UInt8} {t : Bs} (h1 : c ≠ 124) (h2 : c ≠ 41) : endsRow (c :: t) = false := by simp [endsRow, h1, h2]

end Go.Proofs.YthlakbjnmbddaaaGreatDoor

/- The pattern reader's choice: walked. (Printed by wip/genchoice.py.) -/
set_option linter.unusedVariables false
set_option linter.unusedSimpArgs false
namespace Go.Proofs.YthlakbjnmbddaaaGreatDoor
open Go.RowKit

end Go.Proofs.YthlakbjnmbddaaaGreatDoor

/- The pattern reader's group, Parse: walked. -/
set_option linter.unusedVariables false
set_option linter.unusedSimpArgs false
namespace Go.Proofs.YthlakbjnmbddaaaGreatDoor
open Go.RowKit

end Go.Proofs.YthlakbjnmbddaaaGreatDoor

/- pattern.Parse: walked. -/
set_option linter.unusedVariables false
set_option linter.unusedSimpArgs false
namespace Go.Proofs.YthlakbjnmbddaaaGreatDoor
open Go.RowKit

abbrev none0 : T := .mk 0 0 0 0 0 0 0 []
/-- What Parse hands back. -/
def GPar (s : Bs) (w : World) (en : Ending) (w' : World) : Prop :=
  Below w.heap.size w w' ∧ ((∃ t A c, parseP s = .ok t ∧ en = .returned (.tuple #[nodeV t A c, .int .i64 0]) ∧ NodeAt w' (fun b => w.heap.size ≤ b ∧ b < w'.heap.size) t A c) ∨ ∃ e, parseP s = .error e ∧ e ≠ 0 ∧ en = .returned (.tuple #[nodeV none0 none 0, .int .i64 e]))

end Go.Proofs.YthlakbjnmbddaaaGreatDoor

/- Trees whose parts lie in rows of their own (blocks of nodes, nothing frozen, as long as their capacity). Plain. -/
set_option linter.unusedVariables false
set_option linter.unusedSimpArgs false
namespace Go.Proofs.YthlakbjnmbddaaaGreatDoor
open Go.RowKit

/-- A slice of nodes, so deep: its block is a row of nodes, as long as its capacity, nothing frozen. -/
def SL (w : World) (ok : Nat → Prop) : Nat → Option Addr → Nat → Nat → Prop
  | 0, A, len, c => A = none ∧ len = 0 ∧ c = 0
  | n + 1, A, len, c => (A = none ∧ len = 0 ∧ c = 0) ∨ ∃ (g : Nat) (cur : Array Value), A = some ⟨g, 0, none⟩ ∧ ok g ∧ w.heap[g]? = some (.cells cur 48 (0, 0)) ∧ cur.size = c * 8 ∧ (len ≤ c ∧ len ≤ 1000000) ∧ c ≤ maxLen ∧
      ∀ i, i < len → ∃ x : Nx, (∀ j, j < 8 → cur[i * 8 + j]? = (xcell x)[j]?) ∧ SL w ok n x.2.1 x.1.ps.length x.2.2
theorem sl_none (w : World) (ok : Nat → Prop) : ∀ n, SL w ok n none 0 0
  | 0 => ⟨rfl, rfl, rfl⟩
  | n + 1 => .inl ⟨rfl, rfl, rfl⟩
theorem SL.up {w : World} {ok : Nat → Prop} : ∀ {n : Nat} {A : Option Addr} {len c : Nat}, SL w ok n A len c → SL w ok (n + 1) A len c
  | 0, A, len, c, h => .inl h
  | n + 1, A, len, c, h => by
    rcases h with h | ⟨g, cur, h1, h2, h3, h4, h5, h6, h7⟩
    · exact .inl h
    · refine .inr ⟨g, cur, h1, h2, h3, h4, h5, h6, fun i hi => ?_⟩
      obtain ⟨x, hx, hs⟩ := h7 i hi
      exact ⟨x, hx, SL.up hs⟩
theorem SL.le {w : World} {ok : Nat → Prop} {n m : Nat} {A : Option Addr} {len c : Nat} (h : SL w ok n A len c) (hm : n ≤ m) : SL w ok m A len c := by
  induction hm with
  | refl => exact h
  | step _ ih => exact ih.up
theorem SL.mono {w w' : World} {ok ok' : Nat → Prop} (hk : ∀ b, ok b → ok' b ∧ w'.heap[b]? = w.heap[b]?) : ∀ {n : Nat} {A : Option Addr} {len c : Nat}, SL w ok n A len c → SL w' ok' n A len c
  | 0, A, len, c, h => h
  | n + 1, A, len, c, h => by
    rcases h with h | ⟨g, cur, h1, h2, h3, h4, h5, h6, h7⟩
    · exact .inl h
    · refine .inr ⟨g, cur, h1, (hk g h2).1, (hk g h2).2.trans h3, h4, h5, h6, fun i hi => ?_⟩
      obtain ⟨x, hx, hs⟩ := h7 i hi
      exact ⟨x, hx, SL.mono hk hs⟩
/-- A node reads, and its parts lie in rows of their own. -/
structure RowAt (w : World) (ok : Nat → Prop) (t : T) (A : Option Addr) (c : Nat) : Prop where
  node : NodeAt w ok t A c
  sl : ∃ n, SL w ok n A t.ps.length c
theorem RowAt.mono {w w' : World} {ok ok' : Nat → Prop} {t : T} {A : Option Addr} {c : Nat} (h : RowAt w ok t A c) (hk : ∀ b, ok b → ok' b ∧ w'.heap[b]? = w.heap[b]?) : RowAt w' ok' t A c := by
  refine ⟨h.node.mono fun b hb => ⟨(hk b hb).1, fun o => World.cell?_of_block (w := w) (a := ⟨b, o, none⟩) (hk b hb).2⟩, ?_⟩
  obtain ⟨n, hn⟩ := h.sl
  exact ⟨n, hn.mono hk⟩
theorem row_leaf (w : World) (ok : Nat → Prop) (t : T) (h : t.ps = []) : RowAt w ok t none 0 :=
  ⟨nodeAt_leafX w ok t h, 0, by rw [h]; exact ⟨rfl, rfl, rfl⟩⟩
theorem sl_all {w : World} {ok : Nat → Prop} : ∀ (L : List Nx), (∀ x ∈ L, RowAt w ok x.1 x.2.1 x.2.2) → ∃ n, ∀ x ∈ L, SL w ok n x.2.1 x.1.ps.length x.2.2
  | [], _ => ⟨0, fun x hx => by simp at hx⟩
  | y :: L, h => by
    obtain ⟨n, hn⟩ := sl_all L (fun x hx => h x (List.mem_cons_of_mem _ hx))
    obtain ⟨m, hm⟩ := (h y (List.mem_cons_self ..)).sl
    refine ⟨max n m, fun x hx => ?_⟩
    rcases List.mem_cons.1 hx with rfl | hx
    · exact hm.le (Nat.le_max_right _ _)
    · exact (hn x hx).le (Nat.le_max_left _ _)
/-- A block that holds these nodes at its beginning. -/
theorem row_block {W : World} {ok : Nat → Prop} {g c : Nat} {cur : Array Value} (R : T) (L : List Nx) (hps : R.ps = L.map (·.1)) (hlc : L.length ≤ c) (hc : c ≤ maxLen) (hlen : L.length ≤ 1000000) (hg : ok g)
    (hb : W.heap[g]? = some (.cells cur 48 (0, 0))) (hs : cur.size = c * 8) (hx : ∀ j, j < L.length * 8 → cur[j]? = (xcells L)[j]?) (hN : ∀ x ∈ L, RowAt W ok x.1 x.2.1 x.2.2) : RowAt W ok R (some ⟨g, 0, none⟩) c := by
  have hcell : ∀ o, W.cell? ⟨g, o, none⟩ = cur[o]? := fun o => cell_of_row W g o cur _ (0, 0) hb
  have hj8 : ∀ (i j : Nat) (hi : i < L.length), j < 8 → cur[i * 8 + j]? = (xcell L[i])[j]? := fun i j hi hj => by
    rw [hx (i * 8 + j) (by omega), xcells_get L i j hi hj]
  refine ⟨(node_litX R L hps (Nat.le_trans hlen (by decide)) hg (fun i x hi => .ofX fun j hj => ?_) (fun i x hi => (hN x (List.mem_of_getElem? hi)).node)).widerX (by rw [hps, List.length_map]; exact hlc), ?_⟩
  · have hl := (List.getElem?_eq_some_iff.1 hi).1
    have he : L[i] = x := (List.getElem?_eq_some_iff.1 hi).2
    rw [hcell, hj8 i j hl hj, he]
  · obtain ⟨n, hn⟩ := sl_all L hN
    refine ⟨n + 1, .inr ⟨g, cur, rfl, hg, hb, hs, by rw [hps, List.length_map]; exact ⟨hlc, hlen⟩, hc, fun i hi => ?_⟩⟩
    rw [hps, List.length_map] at hi
    exact ⟨L[i], fun j hj => hj8 i j hi hj, hn _ (List.getElem_mem hi)⟩
theorem row_lit {W : World} {ok : Nat → Prop} {g : Nat} (R : T) (L : List Nx) (hps : R.ps = L.map (·.1)) (hlen : L.length ≤ 1000000) (hg : ok g) (hb : W.heap[g]? = some (.cells (xcells L).toArray 48 (0, 0))) (hN : ∀ x ∈ L, RowAt W ok x.1 x.2.1 x.2.2) : RowAt W ok R (some ⟨g, 0, none⟩) L.length :=
  row_block R L hps (Nat.le_refl _) (by unfold maxLen; omega) hlen hg hb (by simp [xcells_length]) (fun j hj => by simp) hN
theorem row_own {W : World} {ok : Nat → Prop} {base n : Nat} {A : Option Addr} {c : Nat} (R : T) (ns : List Nx) (hps : R.ps = ns.map (·.1)) (hlen : ns.length = n) (hn : 0 < n) (hn2 : n ≤ 1000000) (h : W.ownsRow base 48 8 (.slice A n c) n (xcells ns)) (hok : ∀ g, base ≤ g → g < W.heap.size → ok g) (hN : ∀ x ∈ ns, RowAt W ok x.1 x.2.1 x.2.2) : RowAt W ok R A c := by
  rcases h.2 with ⟨_, h0⟩ | ⟨g, cap, cur, e, hb, hh, hcap, hcm, hcs, htk⟩
  · omega
  · simp only [Value.slice.injEq] at e
    obtain ⟨rfl, _, rfl⟩ := e
    have hlt : g < W.heap.size := (Array.getElem?_eq_some_iff.1 hh).1
    refine row_block R ns hps (by omega) hcm (by omega) (hok g hb hlt) hh hcs (fun j hj => ?_) hN
    rw [← htk, List.getElem?_take, if_pos (by omega)]
    simp
theorem Off.blockN {p : Nat} {w w' : World} (h : w.grownBy w' (some p)) {b : Nat} (hb : b < w.heap.size) (hn : b ≠ p) : w'.heap[b]? = w.heap[b]? := h.block b hb (by simpa using hn)
end Go.Proofs.YthlakbjnmbddaaaGreatDoor

/- The pattern reader's atom again, with rows. -/
set_option linter.unusedVariables false
set_option linter.unusedSimpArgs false
namespace Go.Proofs.YthlakbjnmbddaaaGreatDoor
open Go.RowKit

/-- What a reading step hands back that makes a node. -/
def GNode2 (p : Nat) (op : Int) (f : Bs → PT) (s : Rs) (w : World) (en : Ending) (w' : World) : Prop :=
  ∃ (x : Nx) (s' : Rs), en = .returned (nodeV x.1 x.2.1 x.2.2) ∧ RowAt w' (fun b => w.heap.size ≤ b ∧ b < w'.heap.size) x.1 x.2.1 x.2.2 ∧ RS w' p op s' ∧ Off p w w' ∧ Out f s (fun t => x.1 = t) s'
set_option maxRecDepth 100000 in
set_option maxHeartbeats 4000000 in
theorem atom_any2 (w : World) (p : Nat) (op : Int) (s : Rs) (h : RS w p op s) (hs : s.rest.length ≤ 1024) (grp : Bs → PT) (hB : ∀ r, s = .ok r → 91 ∈ r → BrC) (hD : ∀ r, s = .ok r → 46 ∈ r → DotC)
    (hG : ∀ (w : World) (s : Rs), RS w p op s → s.rest.length ≤ 1024 → (∀ r, s = .ok r → 91 ∈ r → BrC) → (∀ r, s = .ok r → 46 ∈ r → DotC) → Calls Tryz.prog 128 #[.pointer (some ⟨p, 0, none⟩)] w fun en w' => GNode2 p op grp s w en w') :
    Calls Tryz.prog 117 #[.pointer (some ⟨p, 0, none⟩)] w fun en w' => GNode2 p op (atomP grp) s w en w' := by
  have hlt := h.lt
  have HB := Lib.hid hB; have HD := Lib.hid hD; have HG := Lib.hid hG; have HL := Lib.hid hs; clear hB hD hG hs
  have H := Lib.hid h; clear h
  go_enter Tryz.func117, Tryz.ntmps117
  go_wp2_with fail
  generalize hW : (w.alloc _).alloc _ = W0
  have hB0 : Below w.heap.size w W0 := by subst hW; exact ((Below.refl _ _).alloc (Nat.le_refl _) _).alloc (by simp) _
  have R0 : BlkX W0 w.heap.size (xcell (.mk 0 0 0 0 0 0 0 [], none, 0)).toArray := by
    subst hW
    exact (BlkX.new w _).keep (((Below.refl _ _).alloc (Nat.le_refl _) _).block _ (by simp))
  have N0 : BlkX W0 (w.heap.size + 1) (xcell (w40.T, none, 0)).toArray := by
    have hz : (w.alloc (.cells (xcell (.mk 0 0 0 0 0 0 0 [], none, 0)).toArray 48)).heap.size = w.heap.size + 1 := by simp
    have := BlkX.new (w.alloc (.cells (xcell (.mk 0 0 0 0 0 0 0 [], none, 0)).toArray 48)) (xcell (w40.T, none, 0)).toArray
    rw [hz] at this
    subst hW
    exact this
  clear hW
  have HR0 := Lib.hid (H.out.later hB0)
  rcases s with e | (_ | ⟨c, t⟩)
  · refine (next_err 104 (by omega) HR0.out).mono ?_
    rintro en w1 ⟨rfl, h1, hO1⟩
    have R1 := hO1.blk R0 (by omega)
    have N1 := hO1.blk N0 (by omega)
    have hO1 : Off p w w1 := (Off.of_below hB0).trans hO1
    clear R0 N0
    go_wp2_with fail
    refine (add_any w1 (w.heap.size + 1) 1 w40 0 (by omega) N1.at4 N1.froz).mono ?_
    rintro en w2 ⟨rfl, rfl⟩
    have R2 : BlkX (addW w1 (w.heap.size + 1) 1 w40 0).drew w.heap.size (xcell (.mk 0 0 0 0 0 0 0 [], none, 0)).toArray := R1.keep (addW_other _ _ _ _ _ _ (by omega))
    have N2 : BlkX (addW w1 (w.heap.size + 1) 1 w40 0).drew (w.heap.size + 1) (xcell ((w40.add 0).T, none, 0)).toArray := addW_blk N1 0 (by omega)
    have h2 := h1.putW (b := w.heap.size + 1) (by omega) 1 w40 0
    have hO2 := Off.putW hO1 (b := w.heap.size + 1) (by omega) 1 w40 0
    obtain ⟨x, hx⟩ : ∃ x : Nx, x = ((w40.add 0).T, none, 0) := ⟨_, rfl⟩
    rw [← hx] at N2
    have Hx := Lib.hid hx
    clear hx R1 N1 h1 hO1
    generalize (addW w1 (w.heap.size + 1) 1 w40 0).drew = W2 at *
    obtain ⟨⟨f0, f1, f2, f3, f4, f5, f6, f7⟩, _⟩ := N2.cells8
    obtain ⟨⟨r0, r1, r2, r3, r4, r5, r6, r7⟩, hz⟩ := R2.cells8
    have z0 := hz 0; have z1 := hz 1; have z2 := hz 2; have z3 := hz 3; have z4 := hz 4; have z5 := hz 5; have z6 := hz 6; have z7 := hz 7
    have lr := R2.lt
    have ln := N2.lt
    clear hz
    have HR2 := Lib.hid R2; have H2 := Lib.hid h2; have HO2 := Lib.hid hO2
    clear R2 N2 h2 hO2
    go_wp2_with fail
    change bodyPost _ _ _ _ _ (writeX W2 w.heap.size x)
    have hfin := writeX_blk HR2.out x
    obtain ⟨⟨y0, y1, y2, y3, y4, y5, y6, y7⟩, _⟩ := hfin.cells8
    have hRS := H2.out.boxW (b := w.heap.size) (by omega) x
    have hOff := Off.boxW HO2.out (Nat.le_refl _) x
    have hNod : RowAt (writeX W2 w.heap.size x) (fun b => w.heap.size ≤ b ∧ b < (writeX W2 w.heap.size x).heap.size) x.1 x.2.1 x.2.2 := by rw [Hx.out]; exact row_leaf _ _ _ rfl
    generalize writeX W2 w.heap.size x = W3 at *
    refine bodyPost_ret (v := nodeV x.1 x.2.1 x.2.2) (by simp [results, Tryz.results117, y0, y1, y2, y3, y4, y5, y6, y7, go_sem]) rfl ⟨x, _, rfl, hNod, hRS, hOff, ?_⟩
    exact Out.err
  · refine (next_end 104 (by omega) HR0.out).mono ?_
    rintro en w1 ⟨rfl, h1, hO1⟩
    have R1 := hO1.blk R0 (by omega)
    have N1 := hO1.blk N0 (by omega)
    have hO1 : Off p w w1 := (Off.of_below hB0).trans hO1
    clear R0 N0
    go_wp2_with fail
    refine (add_any w1 (w.heap.size + 1) 1 w40 0 (by omega) N1.at4 N1.froz).mono ?_
    rintro en w2 ⟨rfl, rfl⟩
    have R2 : BlkX (addW w1 (w.heap.size + 1) 1 w40 0).drew w.heap.size (xcell (.mk 0 0 0 0 0 0 0 [], none, 0)).toArray := R1.keep (addW_other _ _ _ _ _ _ (by omega))
    have N2 : BlkX (addW w1 (w.heap.size + 1) 1 w40 0).drew (w.heap.size + 1) (xcell ((w40.add 0).T, none, 0)).toArray := addW_blk N1 0 (by omega)
    have h2 := h1.putW (b := w.heap.size + 1) (by omega) 1 w40 0
    have hO2 := Off.putW hO1 (b := w.heap.size + 1) (by omega) 1 w40 0
    obtain ⟨x, hx⟩ : ∃ x : Nx, x = ((w40.add 0).T, none, 0) := ⟨_, rfl⟩
    rw [← hx] at N2
    have Hx := Lib.hid hx
    clear hx R1 N1 h1 hO1
    generalize (addW w1 (w.heap.size + 1) 1 w40 0).drew = W2 at *
    obtain ⟨⟨f0, f1, f2, f3, f4, f5, f6, f7⟩, _⟩ := N2.cells8
    obtain ⟨⟨r0, r1, r2, r3, r4, r5, r6, r7⟩, hz⟩ := R2.cells8
    have z0 := hz 0; have z1 := hz 1; have z2 := hz 2; have z3 := hz 3; have z4 := hz 4; have z5 := hz 5; have z6 := hz 6; have z7 := hz 7
    have lr := R2.lt
    have ln := N2.lt
    clear hz
    have HR2 := Lib.hid R2; have H2 := Lib.hid h2; have HO2 := Lib.hid hO2
    clear R2 N2 h2 hO2
    go_wp2_with fail
    change bodyPost _ _ _ _ _ (writeX W2 w.heap.size x)
    have hfin := writeX_blk HR2.out x
    obtain ⟨⟨y0, y1, y2, y3, y4, y5, y6, y7⟩, _⟩ := hfin.cells8
    have hRS := H2.out.boxW (b := w.heap.size) (by omega) x
    have hOff := Off.boxW HO2.out (Nat.le_refl _) x
    have hNod : RowAt (writeX W2 w.heap.size x) (fun b => w.heap.size ≤ b ∧ b < (writeX W2 w.heap.size x).heap.size) x.1 x.2.1 x.2.2 := by rw [Hx.out]; exact row_leaf _ _ _ rfl
    generalize writeX W2 w.heap.size x = W3 at *
    refine bodyPost_ret (v := nodeV x.1 x.2.1 x.2.2) (by simp [results, Tryz.results117, y0, y1, y2, y3, y4, y5, y6, y7, go_sem]) rfl ⟨x, _, rfl, hNod, hRS, hOff, ?_⟩
    exact Out.bad rfl
  · refine (next_ok 104 (by omega) HR0.out).mono ?_
    rintro en w1 ⟨rfl, h1, hO1⟩
    have R1 := hO1.blk R0 (by omega)
    have N1 := hO1.blk N0 (by omega)
    have hO1 : Off p w w1 := (Off.of_below hB0).trans hO1
    clear R0 N0
    by_cases c40 : c = 40
    · subst c40
      have hz1 := hO1.size
      obtain ⟨⟨r0, r1, r2, r3, r4, r5, r6, r7⟩, hz⟩ := R1.cells8
      clear r0 r1 r2 r3 r4 r5 r6 r7 hz
      go_wp2_with fail
      refine (HG.out w1 (.ok t) h1 (by have := HL.out; simp only [Rs.rest, List.length_cons] at this ⊢; omega) (fun r e hr => HB.out _ rfl (List.mem_cons_of_mem _ (by cases e; exact hr))) (fun r e hr => HD.out _ rfl (List.mem_cons_of_mem _ (by cases e; exact hr)))).mono ?_
      rintro en W2 ⟨x, s', rfl, hx, h2, hO2, ho⟩
      have R2 := hO2.blk R1 (by omega)
      have lr1 := R1.lt
      have hO2 := hO1.trans hO2
      obtain ⟨⟨r0, r1, r2, r3, r4, r5, r6, r7⟩, hz⟩ := R2.cells8
      have z0 := hz 0; have z1 := hz 1; have z2 := hz 2; have z3 := hz 3; have z4 := hz 4; have z5 := hz 5; have z6 := hz 6; have z7 := hz 7
      have lr := R2.lt
      clear hz
      have HR2 := Lib.hid R2; have H2 := Lib.hid h2; have HO2 := Lib.hid hO2; have Hx := Lib.hid hx; have Ho := Lib.hid ho
      clear R2 h2 hO2 R1 N1 h1 hO1 hx ho
      go_wp2_with fail
      change bodyPost _ _ _ _ _ (writeX W2 w.heap.size x)
      have hfin := writeX_blk HR2.out x
      obtain ⟨⟨y0, y1, y2, y3, y4, y5, y6, y7⟩, _⟩ := hfin.cells8
      have hRS := H2.out.boxW (b := w.heap.size) (by omega) x
      have hOff := Off.boxW HO2.out (Nat.le_refl _) x
      have hNod : RowAt (writeX W2 w.heap.size x) (fun b => w.heap.size ≤ b ∧ b < (writeX W2 w.heap.size x).heap.size) x.1 x.2.1 x.2.2 := Hx.out.mono fun k (hk : w1.heap.size ≤ k ∧ k < W2.heap.size) => ⟨⟨by omega, by rw [writeX_size]; exact hk.2⟩, (writeX_other _ _ _ _ (show k ≠ w.heap.size by omega))⟩
      generalize writeX W2 w.heap.size x = W3 at *
      refine bodyPost_ret (v := nodeV x.1 x.2.1 x.2.2) (by simp [results, Tryz.results117, y0, y1, y2, y3, y4, y5, y6, y7, go_sem]) rfl ⟨x, _, rfl, hNod, hRS, hOff, ?_⟩
      have e : atomP grp (40 :: t) = grp t := by simp [atomP]
      simp only [Out, e]
      exact Ho.out
    have n40 := u8_ne (k := 40) (by omega) c40
    by_cases c94 : c = 94
    · subst c94
      obtain ⟨⟨r0, r1, r2, r3, r4, r5, r6, r7⟩, hz⟩ := R1.cells8
      have z0 := hz 0; have z1 := hz 1; have z2 := hz 2; have z3 := hz 3; have z4 := hz 4; have z5 := hz 5; have z6 := hz 6; have z7 := hz 7
      have lr := R1.lt
      clear hz
      have HR2 := Lib.hid R1; have H2 := Lib.hid h1; have HO2 := Lib.hid hO1
      clear R1 N1 h1 hO1
      go_wp2_with fail
      change bodyPost _ _ _ _ _ (writeX w1 w.heap.size (.mk 2 0 0 0 0 0 0 [], none, 0))
      have hfin := writeX_blk HR2.out (.mk 2 0 0 0 0 0 0 [], none, 0)
      obtain ⟨⟨y0, y1, y2, y3, y4, y5, y6, y7⟩, _⟩ := hfin.cells8
      have hRS := H2.out.boxW (b := w.heap.size) (by omega) (.mk 2 0 0 0 0 0 0 [], none, 0)
      have hOff := Off.boxW HO2.out (Nat.le_refl _) (.mk 2 0 0 0 0 0 0 [], none, 0)
      generalize writeX w1 w.heap.size (.mk 2 0 0 0 0 0 0 [], none, 0) = W3 at *
      exact bodyPost_ret (v := nodeV (.mk 2 0 0 0 0 0 0 []) none 0) (by simp [results, Tryz.results117, y0, y1, y2, y3, y4, y5, y6, y7, go_sem]) rfl ⟨(.mk 2 0 0 0 0 0 0 [], none, 0), _, rfl, row_leaf _ _ _ rfl, hRS, hOff, Out.good (by simp [atomP]) rfl⟩
    have n94 := u8_ne (k := 94) (by omega) c94
    by_cases c36 : c = 36
    · subst c36
      obtain ⟨⟨r0, r1, r2, r3, r4, r5, r6, r7⟩, hz⟩ := R1.cells8
      have z0 := hz 0; have z1 := hz 1; have z2 := hz 2; have z3 := hz 3; have z4 := hz 4; have z5 := hz 5; have z6 := hz 6; have z7 := hz 7
      have lr := R1.lt
      clear hz
      have HR2 := Lib.hid R1; have H2 := Lib.hid h1; have HO2 := Lib.hid hO1
      clear R1 N1 h1 hO1
      go_wp2_with fail
      change bodyPost _ _ _ _ _ (writeX w1 w.heap.size (.mk 3 0 0 0 0 0 0 [], none, 0))
      have hfin := writeX_blk HR2.out (.mk 3 0 0 0 0 0 0 [], none, 0)
      obtain ⟨⟨y0, y1, y2, y3, y4, y5, y6, y7⟩, _⟩ := hfin.cells8
      have hRS := H2.out.boxW (b := w.heap.size) (by omega) (.mk 3 0 0 0 0 0 0 [], none, 0)
      have hOff := Off.boxW HO2.out (Nat.le_refl _) (.mk 3 0 0 0 0 0 0 [], none, 0)
      generalize writeX w1 w.heap.size (.mk 3 0 0 0 0 0 0 [], none, 0) = W3 at *
      exact bodyPost_ret (v := nodeV (.mk 3 0 0 0 0 0 0 []) none 0) (by simp [results, Tryz.results117, y0, y1, y2, y3, y4, y5, y6, y7, go_sem]) rfl ⟨(.mk 3 0 0 0 0 0 0 [], none, 0), _, rfl, row_leaf _ _ _ rfl, hRS, hOff, Out.good (by simp [atomP]) rfl⟩
    have n36 := u8_ne (k := 36) (by omega) c36
    by_cases c91 : c = 91
    · subst c91
      go_wp2_with fail
      refine (HB.out _ rfl (by simp) w1 p op t h1 (by have := HL.out; simp only [Rs.rest, List.length_cons] at this; omega)).mono ?_
      rintro en w2 ⟨S, s', rfl, h2, hO2, ho⟩
      have Ho := Lib.hid ho; clear ho
      have R2 := hO2.blk R1 (by omega)
      have N2 := hO2.blk N1 (by omega)
      have hO2 := hO1.trans hO2
      have HS := Lib.hid N2
      obtain ⟨⟨_, g1, g2, g3, g4, _⟩, gz⟩ := N2.cells8
      have gz1 := gz 1; have gz2 := gz 2; have gz3 := gz 3; have gz4 := gz 4
      have ln := N2.lt
      obtain ⟨⟨r0, r1, r2, r3, r4, r5, r6, r7⟩, hz⟩ := R2.cells8
      obtain ⟨⟨f0, _, _, _, _, f5, f6, f7⟩, _⟩ := N2.cells8
      have z0 := hz 0; have z1 := hz 1; have z2 := hz 2; have z3 := hz 3; have z4 := hz 4; have z5 := hz 5; have z6 := hz 6; have z7 := hz 7
      have lr := R2.lt
      clear hz gz
      have HR2 := Lib.hid R2; have H2 := Lib.hid h2; have HO2 := Lib.hid hO2
      clear R2 N2 h2 hO2 R1 N1 h1 hO1
      go_upto_region 22 with fail
      change Code.wp _ _ _ _ (setW w2 (w.heap.size + 1) S)
      have R2 := HR2.out.keep (setW_other w2 (w.heap.size + 1) S w.heap.size (by omega))
      have N2 := setW_blk HS.out S
      have h2 := H2.out.fillW (b := w.heap.size + 1) (by omega) S
      have hO2 := Off.fillW HO2.out (b := w.heap.size + 1) (by omega) S
      clear r0 r1 r2 r3 r4 r5 r6 r7 f0 f5 f6 f7 g1 g2 g3 g4 gz1 gz2 gz3 gz4 z0 z1 z2 z3 z4 z5 z6 z7 lr ln HR2 H2 HO2 HS
      obtain ⟨x, hx⟩ : ∃ x : Nx, x = (S.T, none, 0) := ⟨_, rfl⟩
      rw [← hx] at N2
      have Hx := Lib.hid hx
      clear hx
      generalize setW w2 (w.heap.size + 1) S = W2 at *
      obtain ⟨⟨f0, f1, f2, f3, f4, f5, f6, f7⟩, _⟩ := N2.cells8
      obtain ⟨⟨r0, r1, r2, r3, r4, r5, r6, r7⟩, hz⟩ := R2.cells8
      have z0 := hz 0; have z1 := hz 1; have z2 := hz 2; have z3 := hz 3; have z4 := hz 4; have z5 := hz 5; have z6 := hz 6; have z7 := hz 7
      have lr := R2.lt
      have ln := N2.lt
      clear hz
      have HR2 := Lib.hid R2; have H2 := Lib.hid h2; have HO2 := Lib.hid hO2
      clear R2 N2 h2 hO2
      go_wp2_with fail
      change bodyPost _ _ _ _ _ (writeX W2 w.heap.size x)
      have hfin := writeX_blk HR2.out x
      obtain ⟨⟨y0, y1, y2, y3, y4, y5, y6, y7⟩, _⟩ := hfin.cells8
      have hRS := H2.out.boxW (b := w.heap.size) (by omega) x
      have hOff := Off.boxW HO2.out (Nat.le_refl _) x
      have hNod : RowAt (writeX W2 w.heap.size x) (fun b => w.heap.size ≤ b ∧ b < (writeX W2 w.heap.size x).heap.size) x.1 x.2.1 x.2.2 := by rw [Hx.out]; exact row_leaf _ _ _ rfl
      generalize writeX W2 w.heap.size x = W3 at *
      refine bodyPost_ret (v := nodeV x.1 x.2.1 x.2.2) (by simp [results, Tryz.results117, y0, y1, y2, y3, y4, y5, y6, y7, go_sem]) rfl ⟨x, _, rfl, hNod, hRS, hOff, ?_⟩
      have e : atomP grp (91 :: t) = (match bracketP t with | .error e => .error e | .ok (s, r1) => .ok (s.T, r1)) := by simp [atomP] <;> rfl
      have hho := Ho.out
      simp only [Out, e] at hho ⊢
      cases hb : bracketP t with
      | error e' => simp only [hb] at hho ⊢; exact hho
      | ok y => obtain ⟨S', r'⟩ := y; simp only [hb] at hho ⊢; obtain ⟨rfl, h'⟩ := hho; exact ⟨by rw [Hx.out], h'⟩
    have n91 := u8_ne (k := 91) (by omega) c91
    by_cases c46 : c = 46
    · subst c46
      go_wp2_with fail
      refine (HD.out _ rfl (by simp) w1).mono ?_
      rintro en w2 ⟨rfl, hb2⟩
      have h2 := h1.later hb2
      have hO2 : Off p w1 w2 := Off.of_below hb2
      generalize hS : w40.span 0 256 = S
      have HSe := Lib.hid hS; clear hS
      have R2 := hO2.blk R1 (by omega)
      have N2 := hO2.blk N1 (by omega)
      have hO2 := hO1.trans hO2
      have HS := Lib.hid N2
      obtain ⟨⟨_, g1, g2, g3, g4, _⟩, gz⟩ := N2.cells8
      have gz1 := gz 1; have gz2 := gz 2; have gz3 := gz 3; have gz4 := gz 4
      have ln := N2.lt
      obtain ⟨⟨r0, r1, r2, r3, r4, r5, r6, r7⟩, hz⟩ := R2.cells8
      obtain ⟨⟨f0, _, _, _, _, f5, f6, f7⟩, _⟩ := N2.cells8
      have z0 := hz 0; have z1 := hz 1; have z2 := hz 2; have z3 := hz 3; have z4 := hz 4; have z5 := hz 5; have z6 := hz 6; have z7 := hz 7
      have lr := R2.lt
      clear hz gz
      have HR2 := Lib.hid R2; have H2 := Lib.hid h2; have HO2 := Lib.hid hO2
      clear R2 N2 h2 hO2 R1 N1 h1 hO1
      go_upto_region 22 with fail
      change Code.wp _ _ _ _ (setW w2 (w.heap.size + 1) S)
      have R2 := HR2.out.keep (setW_other w2 (w.heap.size + 1) S w.heap.size (by omega))
      have N2 := setW_blk HS.out S
      have h2 := H2.out.fillW (b := w.heap.size + 1) (by omega) S
      have hO2 := Off.fillW HO2.out (b := w.heap.size + 1) (by omega) S
      clear r0 r1 r2 r3 r4 r5 r6 r7 f0 f5 f6 f7 g1 g2 g3 g4 gz1 gz2 gz3 gz4 z0 z1 z2 z3 z4 z5 z6 z7 lr ln HR2 H2 HO2 HS
      obtain ⟨x, hx⟩ : ∃ x : Nx, x = (S.T, none, 0) := ⟨_, rfl⟩
      rw [← hx] at N2
      have Hx := Lib.hid hx
      clear hx
      generalize setW w2 (w.heap.size + 1) S = W2 at *
      obtain ⟨⟨f0, f1, f2, f3, f4, f5, f6, f7⟩, _⟩ := N2.cells8
      obtain ⟨⟨r0, r1, r2, r3, r4, r5, r6, r7⟩, hz⟩ := R2.cells8
      have z0 := hz 0; have z1 := hz 1; have z2 := hz 2; have z3 := hz 3; have z4 := hz 4; have z5 := hz 5; have z6 := hz 6; have z7 := hz 7
      have lr := R2.lt
      have ln := N2.lt
      clear hz
      have HR2 := Lib.hid R2; have H2 := Lib.hid h2; have HO2 := Lib.hid hO2
      clear R2 N2 h2 hO2
      go_wp2_with fail
      change bodyPost _ _ _ _ _ (writeX W2 w.heap.size x)
      have hfin := writeX_blk HR2.out x
      obtain ⟨⟨y0, y1, y2, y3, y4, y5, y6, y7⟩, _⟩ := hfin.cells8
      have hRS := H2.out.boxW (b := w.heap.size) (by omega) x
      have hOff := Off.boxW HO2.out (Nat.le_refl _) x
      have hNod : RowAt (writeX W2 w.heap.size x) (fun b => w.heap.size ≤ b ∧ b < (writeX W2 w.heap.size x).heap.size) x.1 x.2.1 x.2.2 := by rw [Hx.out]; exact row_leaf _ _ _ rfl
      generalize writeX W2 w.heap.size x = W3 at *
      refine bodyPost_ret (v := nodeV x.1 x.2.1 x.2.2) (by simp [results, Tryz.results117, y0, y1, y2, y3, y4, y5, y6, y7, go_sem]) rfl ⟨x, _, rfl, hNod, hRS, hOff, ?_⟩
      exact Out.good (x := (w40.span 0 256).T) (by simp [atomP]) (by rw [Hx.out, HSe.out])
    have n46 := u8_ne (k := 46) (by omega) c46
    by_cases c42 : c = 42
    · subst c42
      go_wp2_with fail
      refine (fail_ok 104 (by omega) h1).mono ?_
      rintro en W2 ⟨rfl, h2, hO2⟩
      have R2 := hO2.blk R1 (by omega)
      have N2 := hO2.blk N1 (by omega)
      have hO2 := hO1.trans hO2
      obtain ⟨x, hx⟩ : ∃ x : Nx, x = (w40.T, none, 0) := ⟨_, rfl⟩
      rw [← hx] at N2
      have Hx := Lib.hid hx
      clear hx R1 N1 h1 hO1
      obtain ⟨⟨f0, f1, f2, f3, f4, f5, f6, f7⟩, _⟩ := N2.cells8
      obtain ⟨⟨r0, r1, r2, r3, r4, r5, r6, r7⟩, hz⟩ := R2.cells8
      have z0 := hz 0; have z1 := hz 1; have z2 := hz 2; have z3 := hz 3; have z4 := hz 4; have z5 := hz 5; have z6 := hz 6; have z7 := hz 7
      have lr := R2.lt
      have ln := N2.lt
      clear hz
      have HR2 := Lib.hid R2; have H2 := Lib.hid h2; have HO2 := Lib.hid hO2
      clear R2 N2 h2 hO2
      go_wp2_with fail
      change bodyPost _ _ _ _ _ (writeX W2 w.heap.size x)
      have hfin := writeX_blk HR2.out x
      obtain ⟨⟨y0, y1, y2, y3, y4, y5, y6, y7⟩, _⟩ := hfin.cells8
      have hRS := H2.out.boxW (b := w.heap.size) (by omega) x
      have hOff := Off.boxW HO2.out (Nat.le_refl _) x
      have hNod : RowAt (writeX W2 w.heap.size x) (fun b => w.heap.size ≤ b ∧ b < (writeX W2 w.heap.size x).heap.size) x.1 x.2.1 x.2.2 := by rw [Hx.out]; exact row_leaf _ _ _ rfl
      generalize writeX W2 w.heap.size x = W3 at *
      refine bodyPost_ret (v := nodeV x.1 x.2.1 x.2.2) (by simp [results, Tryz.results117, y0, y1, y2, y3, y4, y5, y6, y7, go_sem]) rfl ⟨x, _, rfl, hNod, hRS, hOff, ?_⟩
      exact Out.bad (by simp [atomP])
    have n42 := u8_ne (k := 42) (by omega) c42
    by_cases c43 : c = 43
    · subst c43
      go_wp2_with fail
      refine (fail_ok 104 (by omega) h1).mono ?_
      rintro en W2 ⟨rfl, h2, hO2⟩
      have R2 := hO2.blk R1 (by omega)
      have N2 := hO2.blk N1 (by omega)
      have hO2 := hO1.trans hO2
      obtain ⟨x, hx⟩ : ∃ x : Nx, x = (w40.T, none, 0) := ⟨_, rfl⟩
      rw [← hx] at N2
      have Hx := Lib.hid hx
      clear hx R1 N1 h1 hO1
      obtain ⟨⟨f0, f1, f2, f3, f4, f5, f6, f7⟩, _⟩ := N2.cells8
      obtain ⟨⟨r0, r1, r2, r3, r4, r5, r6, r7⟩, hz⟩ := R2.cells8
      have z0 := hz 0; have z1 := hz 1; have z2 := hz 2; have z3 := hz 3; have z4 := hz 4; have z5 := hz 5; have z6 := hz 6; have z7 := hz 7
      have lr := R2.lt
      have ln := N2.lt
      clear hz
      have HR2 := Lib.hid R2; have H2 := Lib.hid h2; have HO2 := Lib.hid hO2
      clear R2 N2 h2 hO2
      go_wp2_with fail
      change bodyPost _ _ _ _ _ (writeX W2 w.heap.size x)
      have hfin := writeX_blk HR2.out x
      obtain ⟨⟨y0, y1, y2, y3, y4, y5, y6, y7⟩, _⟩ := hfin.cells8
      have hRS := H2.out.boxW (b := w.heap.size) (by omega) x
      have hOff := Off.boxW HO2.out (Nat.le_refl _) x
      have hNod : RowAt (writeX W2 w.heap.size x) (fun b => w.heap.size ≤ b ∧ b < (writeX W2 w.heap.size x).heap.size) x.1 x.2.1 x.2.2 := by rw [Hx.out]; exact row_leaf _ _ _ rfl
      generalize writeX W2 w.heap.size x = W3 at *
      refine bodyPost_ret (v := nodeV x.1 x.2.1 x.2.2) (by simp [results, Tryz.results117, y0, y1, y2, y3, y4, y5, y6, y7, go_sem]) rfl ⟨x, _, rfl, hNod, hRS, hOff, ?_⟩
      exact Out.bad (by simp [atomP])
    have n43 := u8_ne (k := 43) (by omega) c43
    by_cases c63 : c = 63
    · subst c63
      go_wp2_with fail
      refine (fail_ok 104 (by omega) h1).mono ?_
      rintro en W2 ⟨rfl, h2, hO2⟩
      have R2 := hO2.blk R1 (by omega)
      have N2 := hO2.blk N1 (by omega)
      have hO2 := hO1.trans hO2
      obtain ⟨x, hx⟩ : ∃ x : Nx, x = (w40.T, none, 0) := ⟨_, rfl⟩
      rw [← hx] at N2
      have Hx := Lib.hid hx
      clear hx R1 N1 h1 hO1
      obtain ⟨⟨f0, f1, f2, f3, f4, f5, f6, f7⟩, _⟩ := N2.cells8
      obtain ⟨⟨r0, r1, r2, r3, r4, r5, r6, r7⟩, hz⟩ := R2.cells8
      have z0 := hz 0; have z1 := hz 1; have z2 := hz 2; have z3 := hz 3; have z4 := hz 4; have z5 := hz 5; have z6 := hz 6; have z7 := hz 7
      have lr := R2.lt
      have ln := N2.lt
      clear hz
      have HR2 := Lib.hid R2; have H2 := Lib.hid h2; have HO2 := Lib.hid hO2
      clear R2 N2 h2 hO2
      go_wp2_with fail
      change bodyPost _ _ _ _ _ (writeX W2 w.heap.size x)
      have hfin := writeX_blk HR2.out x
      obtain ⟨⟨y0, y1, y2, y3, y4, y5, y6, y7⟩, _⟩ := hfin.cells8
      have hRS := H2.out.boxW (b := w.heap.size) (by omega) x
      have hOff := Off.boxW HO2.out (Nat.le_refl _) x
      have hNod : RowAt (writeX W2 w.heap.size x) (fun b => w.heap.size ≤ b ∧ b < (writeX W2 w.heap.size x).heap.size) x.1 x.2.1 x.2.2 := by rw [Hx.out]; exact row_leaf _ _ _ rfl
      generalize writeX W2 w.heap.size x = W3 at *
      refine bodyPost_ret (v := nodeV x.1 x.2.1 x.2.2) (by simp [results, Tryz.results117, y0, y1, y2, y3, y4, y5, y6, y7, go_sem]) rfl ⟨x, _, rfl, hNod, hRS, hOff, ?_⟩
      exact Out.bad (by simp [atomP])
    have n63 := u8_ne (k := 63) (by omega) c63
    by_cases c123 : c = 123
    · subst c123
      go_wp2_with fail
      refine (fail_ok 104 (by omega) h1).mono ?_
      rintro en W2 ⟨rfl, h2, hO2⟩
      have R2 := hO2.blk R1 (by omega)
      have N2 := hO2.blk N1 (by omega)
      have hO2 := hO1.trans hO2
      obtain ⟨x, hx⟩ : ∃ x : Nx, x = (w40.T, none, 0) := ⟨_, rfl⟩
      rw [← hx] at N2
      have Hx := Lib.hid hx
      clear hx R1 N1 h1 hO1
      obtain ⟨⟨f0, f1, f2, f3, f4, f5, f6, f7⟩, _⟩ := N2.cells8
      obtain ⟨⟨r0, r1, r2, r3, r4, r5, r6, r7⟩, hz⟩ := R2.cells8
      have z0 := hz 0; have z1 := hz 1; have z2 := hz 2; have z3 := hz 3; have z4 := hz 4; have z5 := hz 5; have z6 := hz 6; have z7 := hz 7
      have lr := R2.lt
      have ln := N2.lt
      clear hz
      have HR2 := Lib.hid R2; have H2 := Lib.hid h2; have HO2 := Lib.hid hO2
      clear R2 N2 h2 hO2
      go_wp2_with fail
      change bodyPost _ _ _ _ _ (writeX W2 w.heap.size x)
      have hfin := writeX_blk HR2.out x
      obtain ⟨⟨y0, y1, y2, y3, y4, y5, y6, y7⟩, _⟩ := hfin.cells8
      have hRS := H2.out.boxW (b := w.heap.size) (by omega) x
      have hOff := Off.boxW HO2.out (Nat.le_refl _) x
      have hNod : RowAt (writeX W2 w.heap.size x) (fun b => w.heap.size ≤ b ∧ b < (writeX W2 w.heap.size x).heap.size) x.1 x.2.1 x.2.2 := by rw [Hx.out]; exact row_leaf _ _ _ rfl
      generalize writeX W2 w.heap.size x = W3 at *
      refine bodyPost_ret (v := nodeV x.1 x.2.1 x.2.2) (by simp [results, Tryz.results117, y0, y1, y2, y3, y4, y5, y6, y7, go_sem]) rfl ⟨x, _, rfl, hNod, hRS, hOff, ?_⟩
      exact Out.bad (by simp [atomP])
    have n123 := u8_ne (k := 123) (by omega) c123
    by_cases c92 : c = 92
    · subst c92
      rcases t with _ | ⟨y, t'⟩
      · go_wp2_with fail
        refine (next_end 106 (by omega) h1).mono ?_
        rintro en w3 ⟨rfl, h3, hO3⟩
        have R1 := hO3.blk R1 (by omega)
        have N1 := hO3.blk N1 (by omega)
        have hO1 := hO1.trans hO3
        have h1 := h3
        clear h3 hO3
        go_wp2_with fail
        refine (add_any w3 (w.heap.size + 1) 1 w40 0 (by omega) N1.at4 N1.froz).mono ?_
        rintro en w2 ⟨rfl, rfl⟩
        have R2 : BlkX (addW w3 (w.heap.size + 1) 1 w40 0).drew w.heap.size (xcell (.mk 0 0 0 0 0 0 0 [], none, 0)).toArray := R1.keep (addW_other _ _ _ _ _ _ (by omega))
        have N2 : BlkX (addW w3 (w.heap.size + 1) 1 w40 0).drew (w.heap.size + 1) (xcell ((w40.add 0).T, none, 0)).toArray := addW_blk N1 0 (by omega)
        have h2 := h1.putW (b := w.heap.size + 1) (by omega) 1 w40 0
        have hO2 := Off.putW hO1 (b := w.heap.size + 1) (by omega) 1 w40 0
        obtain ⟨x, hx⟩ : ∃ x : Nx, x = ((w40.add 0).T, none, 0) := ⟨_, rfl⟩
        rw [← hx] at N2
        have Hx := Lib.hid hx
        clear hx R1 N1 h1 hO1
        generalize (addW w3 (w.heap.size + 1) 1 w40 0).drew = W2 at *
        obtain ⟨⟨f0, f1, f2, f3, f4, f5, f6, f7⟩, _⟩ := N2.cells8
        obtain ⟨⟨r0, r1, r2, r3, r4, r5, r6, r7⟩, hz⟩ := R2.cells8
        have z0 := hz 0; have z1 := hz 1; have z2 := hz 2; have z3 := hz 3; have z4 := hz 4; have z5 := hz 5; have z6 := hz 6; have z7 := hz 7
        have lr := R2.lt
        have ln := N2.lt
        clear hz
        have HR2 := Lib.hid R2; have H2 := Lib.hid h2; have HO2 := Lib.hid hO2
        clear R2 N2 h2 hO2
        go_wp2_with fail
        change bodyPost _ _ _ _ _ (writeX W2 w.heap.size x)
        have hfin := writeX_blk HR2.out x
        obtain ⟨⟨y0, y1, y2, y3, y4, y5, y6, y7⟩, _⟩ := hfin.cells8
        have hRS := H2.out.boxW (b := w.heap.size) (by omega) x
        have hOff := Off.boxW HO2.out (Nat.le_refl _) x
        have hNod : RowAt (writeX W2 w.heap.size x) (fun b => w.heap.size ≤ b ∧ b < (writeX W2 w.heap.size x).heap.size) x.1 x.2.1 x.2.2 := by rw [Hx.out]; exact row_leaf _ _ _ rfl
        generalize writeX W2 w.heap.size x = W3 at *
        refine bodyPost_ret (v := nodeV x.1 x.2.1 x.2.2) (by simp [results, Tryz.results117, y0, y1, y2, y3, y4, y5, y6, y7, go_sem]) rfl ⟨x, _, rfl, hNod, hRS, hOff, ?_⟩
        exact Out.bad (by simp [atomP])
      · have hy := y.toNat_lt
        go_wp2_with fail
        refine (next_ok 106 (by omega) h1).mono ?_
        rintro en w3 ⟨rfl, h3, hO3⟩
        have R1 := hO3.blk R1 (by omega)
        have N1 := hO3.blk N1 (by omega)
        have hO1 := hO1.trans hO3
        have h1 := h3
        clear h3 hO3
        go_wp2_with fail
        refine (add_any w3 (w.heap.size + 1) 1 w40 y.toNat (by omega) N1.at4 N1.froz).mono ?_
        rintro en w2 ⟨rfl, rfl⟩
        have R2 : BlkX (addW w3 (w.heap.size + 1) 1 w40 y.toNat).drew w.heap.size (xcell (.mk 0 0 0 0 0 0 0 [], none, 0)).toArray := R1.keep (addW_other _ _ _ _ _ _ (by omega))
        have N2 : BlkX (addW w3 (w.heap.size + 1) 1 w40 y.toNat).drew (w.heap.size + 1) (xcell ((w40.add y.toNat).T, none, 0)).toArray := addW_blk N1 y.toNat (by omega)
        have h2 := h1.putW (b := w.heap.size + 1) (by omega) 1 w40 y.toNat
        have hO2 := Off.putW hO1 (b := w.heap.size + 1) (by omega) 1 w40 y.toNat
        obtain ⟨x, hx⟩ : ∃ x : Nx, x = ((w40.add y.toNat).T, none, 0) := ⟨_, rfl⟩
        rw [← hx] at N2
        have Hx := Lib.hid hx
        clear hx R1 N1 h1 hO1
        generalize (addW w3 (w.heap.size + 1) 1 w40 y.toNat).drew = W2 at *
        obtain ⟨⟨f0, f1, f2, f3, f4, f5, f6, f7⟩, _⟩ := N2.cells8
        obtain ⟨⟨r0, r1, r2, r3, r4, r5, r6, r7⟩, hz⟩ := R2.cells8
        have z0 := hz 0; have z1 := hz 1; have z2 := hz 2; have z3 := hz 3; have z4 := hz 4; have z5 := hz 5; have z6 := hz 6; have z7 := hz 7
        have lr := R2.lt
        have ln := N2.lt
        clear hz
        have HR2 := Lib.hid R2; have H2 := Lib.hid h2; have HO2 := Lib.hid hO2
        clear R2 N2 h2 hO2
        go_wp2_with fail
        change bodyPost _ _ _ _ _ (writeX W2 w.heap.size x)
        have hfin := writeX_blk HR2.out x
        obtain ⟨⟨y0, y1, y2, y3, y4, y5, y6, y7⟩, _⟩ := hfin.cells8
        have hRS := H2.out.boxW (b := w.heap.size) (by omega) x
        have hOff := Off.boxW HO2.out (Nat.le_refl _) x
        have hNod : RowAt (writeX W2 w.heap.size x) (fun b => w.heap.size ≤ b ∧ b < (writeX W2 w.heap.size x).heap.size) x.1 x.2.1 x.2.2 := by rw [Hx.out]; exact row_leaf _ _ _ rfl
        generalize writeX W2 w.heap.size x = W3 at *
        refine bodyPost_ret (v := nodeV x.1 x.2.1 x.2.2) (by simp [results, Tryz.results117, y0, y1, y2, y3, y4, y5, y6, y7, go_sem]) rfl ⟨x, _, rfl, hNod, hRS, hOff, ?_⟩
        exact Out.good (x := (w40.add y.toNat).T) (by simp [atomP]) (by rw [Hx.out])
    have n92 := u8_ne (k := 92) (by omega) c92
    have hy := c.toNat_lt
    have hres : atomP grp (c :: t) = .ok ((w40.add c.toNat).T, t) := by simp [atomP, c40, c94, c36, c91, c46, c42, c43, c63, c123, c92]
    have Hres := Lib.hid hres; clear hres c40 c94 c36 c91 c46 c42 c43 c63 c123 c92
    go_wp2_with fail
    refine (add_any w1 (w.heap.size + 1) 1 w40 c.toNat (by omega) N1.at4 N1.froz).mono ?_
    rintro en w2 ⟨rfl, rfl⟩
    have R2 : BlkX (addW w1 (w.heap.size + 1) 1 w40 c.toNat).drew w.heap.size (xcell (.mk 0 0 0 0 0 0 0 [], none, 0)).toArray := R1.keep (addW_other _ _ _ _ _ _ (by omega))
    have N2 : BlkX (addW w1 (w.heap.size + 1) 1 w40 c.toNat).drew (w.heap.size + 1) (xcell ((w40.add c.toNat).T, none, 0)).toArray := addW_blk N1 c.toNat (by omega)
    have h2 := h1.putW (b := w.heap.size + 1) (by omega) 1 w40 c.toNat
    have hO2 := Off.putW hO1 (b := w.heap.size + 1) (by omega) 1 w40 c.toNat
    obtain ⟨x, hx⟩ : ∃ x : Nx, x = ((w40.add c.toNat).T, none, 0) := ⟨_, rfl⟩
    rw [← hx] at N2
    have Hx := Lib.hid hx
    clear hx R1 N1 h1 hO1
    generalize (addW w1 (w.heap.size + 1) 1 w40 c.toNat).drew = W2 at *
    obtain ⟨⟨f0, f1, f2, f3, f4, f5, f6, f7⟩, _⟩ := N2.cells8
    obtain ⟨⟨r0, r1, r2, r3, r4, r5, r6, r7⟩, hz⟩ := R2.cells8
    have z0 := hz 0; have z1 := hz 1; have z2 := hz 2; have z3 := hz 3; have z4 := hz 4; have z5 := hz 5; have z6 := hz 6; have z7 := hz 7
    have lr := R2.lt
    have ln := N2.lt
    clear hz
    have HR2 := Lib.hid R2; have H2 := Lib.hid h2; have HO2 := Lib.hid hO2
    clear R2 N2 h2 hO2
    go_wp2_with fail
    change bodyPost _ _ _ _ _ (writeX W2 w.heap.size x)
    have hfin := writeX_blk HR2.out x
    obtain ⟨⟨y0, y1, y2, y3, y4, y5, y6, y7⟩, _⟩ := hfin.cells8
    have hRS := H2.out.boxW (b := w.heap.size) (by omega) x
    have hOff := Off.boxW HO2.out (Nat.le_refl _) x
    have hNod : RowAt (writeX W2 w.heap.size x) (fun b => w.heap.size ≤ b ∧ b < (writeX W2 w.heap.size x).heap.size) x.1 x.2.1 x.2.2 := by rw [Hx.out]; exact row_leaf _ _ _ rfl
    generalize writeX W2 w.heap.size x = W3 at *
    refine bodyPost_ret (v := nodeV x.1 x.2.1 x.2.2) (by simp [results, Tryz.results117, y0, y1, y2, y3, y4, y5, y6, y7, go_sem]) rfl ⟨x, _, rfl, hNod, hRS, hOff, ?_⟩
    exact Out.good (x := (w40.add c.toNat).T) Hres.out (by rw [Hx.out])

end Go.Proofs.YthlakbjnmbddaaaGreatDoor

/- The pattern reader's piece again, with rows. -/
set_option linter.unusedVariables false
set_option linter.unusedSimpArgs false
namespace Go.Proofs.YthlakbjnmbddaaaGreatDoor
open Go.RowKit

/-- Where the loop of piece stands. -/
def PieceI2 (p : Nat) (op : Int) (grp : Bs → PT) (s : Rs) (w : World) (bn : Nat) (wr : World) (n : Nat) : Prop :=
  ∃ (x : Nx) (s' : Rs), n = s'.rest.length + 1 ∧ BlkX wr w.heap.size (xcell (.mk 0 0 0 0 0 0 0 [], none, 0)).toArray ∧ BlkX wr bn (xcell x).toArray ∧ RowAt wr (fun b => w.heap.size < b ∧ b < wr.heap.size ∧ b ≠ bn) x.1 x.2.1 x.2.2 ∧ RS wr p op s' ∧ Off p w wr ∧
    ((∃ e, s' = .error e ∧ (s = .error e ∨ ∃ r, s = .ok r ∧ pieceP grp r = .error e)) ∨ ∃ r r' k, s = .ok r ∧ s' = .ok r' ∧ r'.length < k ∧ pieceP grp r = sufP k x.1 r')

/-- Within a round of piece: the new node's box, what it may become. -/
structure PieceR2 (p : Nat) (op : Int) (w wr : World) (bn : Nat) (t : T) (A : Option Addr) (c : Nat) (mm mx : Int) (s : Rs) (W : World) : Prop where
  R : BlkX W w.heap.size (xcell (.mk 0 0 0 0 0 0 0 [], none, 0)).toArray
  N : BlkX W bn (xcell (t, A, c)).toArray
  X : BlkX W (wr.heap.size + 1) (xcell (repT mm mx t, some ⟨wr.heap.size, 0, none⟩, 1)).toArray
  node : ∀ m n, RowAt W (fun b => w.heap.size < b ∧ b < wr.heap.size + 1 ∧ b ≠ bn) (repT m n t) (some ⟨wr.heap.size, 0, none⟩) 1
  x : RowAt W (fun b => w.heap.size < b ∧ b < wr.heap.size ∧ b ≠ bn) t A c
  S : RS W p op s
  O : Off p w W
theorem PieceR2.off {p : Nat} {op : Int} {w wr : World} {bn : Nat} {t : T} {A : Option Addr} {c : Nat} {mm mx : Int} {s : Rs} {W : World} (h : PieceR2 p op w wr bn t A c mm mx s W) {s' : Rs} {W' : World} (hp : p < w.heap.size) (hbn : w.heap.size < bn) (hwr : bn < wr.heap.size) (hO : Off p W W') (hS : RS W' p op s') : PieceR2 p op w wr bn t A c mm mx s' W' := by
  have lx := h.X.lt
  exact ⟨Off.blk hO h.R (by omega), Off.blk hO h.N (by omega), Off.blk hO h.X (by omega), fun m n => (h.node m n).mono fun b (hb : w.heap.size < b ∧ b < wr.heap.size + 1 ∧ b ≠ bn) => ⟨hb, Off.blockN hO (by omega) (by omega)⟩, h.x.mono fun b (hb : w.heap.size < b ∧ b < wr.heap.size ∧ b ≠ bn) => ⟨hb, Off.blockN hO (by omega) (by omega)⟩, hS, Off.trans h.O hO⟩
theorem PieceR2.put {p : Nat} {op : Int} {w wr : World} {bn : Nat} {t : T} {A : Option Addr} {c : Nat} {mm mx : Int} {s : Rs} {W : World} (h : PieceR2 p op w wr bn t A c mm mx s W) {m' n' : Int} {W' : World} (hp : p < w.heap.size) (hbn : w.heap.size < bn) (hwr : bn < wr.heap.size)
    (hX : BlkX W' (wr.heap.size + 1) (xcell (repT m' n' t, some ⟨wr.heap.size, 0, none⟩, 1)).toArray) (hz : W'.heap.size = W.heap.size) (hb : Below 0 W W') (hk : ∀ k, k ≠ wr.heap.size + 1 → W'.heap[k]? = W.heap[k]?) : PieceR2 p op w wr bn t A c m' n' s W' := by
  have lx := h.X.lt
  have hc : ∀ b o, b ≠ wr.heap.size + 1 → W'.cell? ⟨b, o, none⟩ = W.cell? ⟨b, o, none⟩ := fun b o hb => World.cell?_of_block (w := W) (a := ⟨b, o, none⟩) (hk b hb)
  exact ⟨h.R.keep (hk _ (by omega)), h.N.keep (hk _ (by omega)), hX, fun m n => (h.node m n).mono fun b (hb : w.heap.size < b ∧ b < wr.heap.size + 1 ∧ b ≠ bn) => ⟨hb, hk b (by omega)⟩, h.x.mono fun b (hb : w.heap.size < b ∧ b < wr.heap.size ∧ b ≠ bn) => ⟨hb, hk b (by omega)⟩, h.S.kept (by omega) (hk _ (by omega)) (hk _ (by omega)), Off.far h.O (b := wr.heap.size + 1) (by omega) hb.os hb.tape hb.output hz hk⟩
theorem PieceR2.set5 {p : Nat} {op : Int} {w wr : World} {bn : Nat} {t : T} {A : Option Addr} {c : Nat} {mm mx : Int} {s : Rs} {W : World} (h : PieceR2 p op w wr bn t A c mm mx s W) (hp : p < w.heap.size) (hbn : w.heap.size < bn) (hwr : bn < wr.heap.size) (m' : Int) : PieceR2 p op w wr bn t A c m' mx s (W.setCell ⟨wr.heap.size + 1, 5, none⟩ (.int .i64 m')) := by
  refine h.put hp hbn hwr ?_ (by simp) ((Below.refl 0 W).setCell (Nat.zero_le _) _) (fun k hk => Below.heap_setCell _ _ _ _ hk)
  have h1 := h.X.set 5 (.int .i64 m')
  simpa [xcell, repT, T.k, T.s0, T.s1, T.s2, T.s3, T.mn, T.mx, T.ps] using h1
theorem PieceR2.set6 {p : Nat} {op : Int} {w wr : World} {bn : Nat} {t : T} {A : Option Addr} {c : Nat} {mm mx : Int} {s : Rs} {W : World} (h : PieceR2 p op w wr bn t A c mm mx s W) (hp : p < w.heap.size) (hbn : w.heap.size < bn) (hwr : bn < wr.heap.size) (m' : Int) : PieceR2 p op w wr bn t A c mm m' s (W.setCell ⟨wr.heap.size + 1, 6, none⟩ (.int .i64 m')) := by
  refine h.put hp hbn hwr ?_ (by simp) ((Below.refl 0 W).setCell (Nat.zero_le _) _) (fun k hk => Below.heap_setCell _ _ _ _ hk)
  have h1 := h.X.set 6 (.int .i64 m')
  simpa [xcell, repT, T.k, T.s0, T.s1, T.s2, T.s3, T.mn, T.mx, T.ps] using h1
/-- The round's end: the new node is the node. -/
theorem PieceR2.done {p : Nat} {op : Int} {w wr : World} {bn : Nat} {t : T} {A : Option Addr} {c : Nat} {mm mx : Int} {s : Rs} {W : World} (h : PieceR2 p op w wr bn t A c mm mx s W) (hp : p < w.heap.size) (hbn : w.heap.size < bn) (hwr : bn < wr.heap.size) :
    (fun W' => BlkX W' w.heap.size (xcell (.mk 0 0 0 0 0 0 0 [], none, 0)).toArray ∧ BlkX W' bn (xcell (repT mm mx t, some ⟨wr.heap.size, 0, none⟩, 1)).toArray ∧ RowAt W' (fun b => w.heap.size < b ∧ b < W'.heap.size ∧ b ≠ bn) (repT mm mx t) (some ⟨wr.heap.size, 0, none⟩) 1 ∧ RS W' p op s ∧ Off p w W') (writeX W bn (repT mm mx t, some ⟨wr.heap.size, 0, none⟩, 1)) := by
  have lx := h.X.lt
  refine ⟨h.R.keep (writeX_other _ _ _ _ (by omega)), writeX_blk h.N _, (h.node mm mx).mono fun b (hb : w.heap.size < b ∧ b < wr.heap.size + 1 ∧ b ≠ bn) => ⟨⟨hb.1, by rw [writeX_size]; omega, hb.2.2⟩, (writeX_other _ _ _ _ hb.2.2)⟩, h.S.boxW (by omega) _, Off.boxW h.O (by omega) _⟩

set_option maxRecDepth 100000 in
set_option maxHeartbeats 4000000 in
theorem piece_any2 (w : World) (p : Nat) (op : Int) (s : Rs) (h : RS w p op s) (hs : s.rest.length ≤ 1024) (grp : Bs → PT) (hB : ∀ r, s = .ok r → 91 ∈ r → BrC) (hD : ∀ r, s = .ok r → 46 ∈ r → DotC)
    (hG : ∀ (w : World) (s : Rs), RS w p op s → s.rest.length ≤ 1024 → (∀ r, s = .ok r → 91 ∈ r → BrC) → (∀ r, s = .ok r → 46 ∈ r → DotC) → Calls Tryz.prog 128 #[.pointer (some ⟨p, 0, none⟩)] w fun en w' => GNode2 p op grp s w en w') :
    Calls Tryz.prog 100 #[.pointer (some ⟨p, 0, none⟩)] w fun en w' => GNode2 p op (pieceP grp) s w en w' := by
  have hlt := h.lt
  have hat : ∀ (w : World), RS w p op s → Calls Tryz.prog 117 #[.pointer (some ⟨p, 0, none⟩)] w fun en w' => GNode2 p op (atomP grp) s w en w' := fun w h => atom_any2 w p op s h hs grp hB hD hG
  have HA := Lib.hid hat; clear hat hB hD hG hs
  have H := Lib.hid h; clear h
  go_enter Tryz.func100, Tryz.ntmps100
  go_wp2_with fail
  generalize hW : w.alloc _ = W0
  have hB0 : Below w.heap.size w W0 := by subst hW; exact (Below.refl _ _).alloc (Nat.le_refl _) _
  have R0 : BlkX W0 w.heap.size (xcell (.mk 0 0 0 0 0 0 0 [], none, 0)).toArray := by subst hW; exact BlkX.new w _
  have hz0 : W0.heap.size = w.heap.size + 1 := by subst hW; simp
  clear hW
  refine (HA.out W0 (H.out.later hB0)).mono ?_
  rintro en w1 ⟨⟨t1, A1, c1⟩, s1, rfl, hx1, h1, hO1, ho1⟩
  have R1 := hO1.blk R0 (by omega)
  have hz1 := hO1.size
  have Hx1 := Lib.hid hx1; have Ho1 := Lib.hid ho1; have Hz0 := Lib.hid hz0
  have hz0' : w.heap.size < W0.heap.size := by omega
  clear hx1 ho1 hz0
  go_wp2_with fail
  generalize hW : w1.alloc _ = W1
  have hb1 : Below w1.heap.size w1 W1 := by subst hW; exact (Below.refl _ _).alloc (Nat.le_refl _) _
  have N1 : BlkX W1 w1.heap.size (xcell (t1, A1, c1)).toArray := by subst hW; exact BlkX.new w1 _
  have hz2 : w1.heap.size < W1.heap.size := by subst hW; simp
  have hI : PieceI2 p op grp s w w1.heap.size W1 (s1.rest.length + 1) := by
    refine ⟨(t1, A1, c1), s1, rfl, R1.keep (hb1.block _ R1.lt), N1, Hx1.out.mono fun b (hb : W0.heap.size ≤ b ∧ b < w1.heap.size) => ⟨⟨by omega, by omega, by omega⟩, hb1.block _ hb.2⟩, h1.later hb1, ((Off.of_below hB0).trans hO1).trans (Off.of_below hb1), ?_⟩
    have ho := Ho1.out
    rcases s with e | r
    · cases (show s1 = .error e from ho)
      exact .inl ⟨e, rfl, .inl rfl⟩
    · cases ha : atomP grp r with
      | error e =>
        simp only [Out, ha] at ho
        exact .inl ⟨e, ho, .inr ⟨r, rfl, by simp only [pieceP, ha]⟩⟩
      | ok y =>
        obtain ⟨n, r1⟩ := y
        simp only [Out, ha] at ho
        obtain ⟨rfl, rfl⟩ := ho
        exact .inr ⟨r, r1, r1.length + 1, rfl, rfl, by omega, by simp only [pieceP, ha]⟩
  have HI := Lib.hid hI
  generalize hbn : w1.heap.size = bn at *
  have hbw : w.heap.size < bn := by omega
  clear hW hI N1 R1 h1 hO1 hb1 Hx1 Ho1 Hz0 hz0' hz1 hbn hB0 R0
  go_loopg [] (s1.rest.length + 1) (fun n wr => PieceI2 p op grp s w bn wr n)
  case atStart => exact HI.out
  case round =>
    clear HI
    obtain ⟨⟨t, A, c⟩, s', hn, hR, hN, hX, hS, hO, hcase⟩ := hrel
    have Hn := Lib.hid hn; have HX := Lib.hid hX; have HC := Lib.hid hcase; have HN := Lib.hid hN; have HR := Lib.hid hR; have HS := Lib.hid hS; have HO := Lib.hid hO
    have ltn := hN.lt
    have lts := hS.lt
    obtain ⟨⟨f0, f1, f2, f3, f4, f5, f6, f7⟩, _⟩ := hN.cells8
    clear hn hX hcase hN hR hS hO
    go_wp2_with fail
    generalize hW : (wr.alloc _).alloc _ = W2
    have hP : PieceR2 p op w wr bn t A c 0 (-1) s' W2 := by
      obtain ⟨wa, ha⟩ : ∃ wa, wa = wr.alloc (.cells (xcells [(t, A, c)]).toArray 48) := ⟨_, rfl⟩
      have hza : wa.heap.size = wr.heap.size + 1 := by rw [ha]; simp
      have hba : Below wr.heap.size wr wa := by rw [ha]; exact (Below.refl _ _).alloc (Nat.le_refl _) _
      have h8 := at8_litX [(t, A, c)] ha 0 _ rfl
      have hW' : W2 = wa.alloc (.cells (xcell (repT 0 (-1) t, some ⟨wr.heap.size, 0, none⟩, 1)).toArray 48) := by rw [← hW, ha]; rfl
      have hbb : Below wa.heap.size wa W2 := by rw [hW']; exact (Below.refl _ _).alloc (Nat.le_refl _) _
      have hX := BlkX.new wa (xcell (repT 0 (-1) t, some ⟨wr.heap.size, 0, none⟩, 1)).toArray
      rw [← hW', hza] at hX
      have hbel : Below wr.heap.size wr W2 := hba.trans (hbb.mono hba.size)
      have hx : RowAt W2 (fun b => w.heap.size < b ∧ b < wr.heap.size ∧ b ≠ bn) t A c := HX.out.mono fun b hb => ⟨hb, hbel.block _ hb.2.1⟩
      refine ⟨HR.out.keep (hbel.block _ HR.out.lt), HN.out.keep (hbel.block _ HN.out.lt), hX, fun m n => ?_, hx, HS.out.later hbel, Off.trans HO.out (Off.of_below hbel)⟩
      have hblk : W2.heap[wr.heap.size]? = some (.cells (xcells [(t, A, c)]).toArray 48 (0, 0)) := (hbb.block _ (by omega)).trans (by rw [ha]; exact heap_alloc_new wr _)
      exact row_lit (repT m n t) [(t, A, c)] rfl (by simp) ⟨by omega, by omega, by omega⟩ hblk (fun y hy => by simp only [List.mem_singleton] at hy; subst hy; exact hx.mono fun b hb => ⟨⟨hb.1, by omega, hb.2.2⟩, rfl⟩)
    clear hW f0 f1 f2 f3 f4 f5 f6 f7 HR HN HX HS HO
    rcases s' with e | r'
    · go_wp2_with fail
      refine (take_err [42] (by simp) hP.S).mono ?_
      rintro en W3 ⟨rfl, h2, hO2⟩
      have hP := hP.off hlt hbw ltn hO2 h2
      clear h2 hO2
      go_wp2_with fail
      refine (take_err [43] (by simp) hP.S).mono ?_
      rintro en W4 ⟨rfl, h2, hO2⟩
      have hP := hP.off hlt hbw ltn hO2 h2
      clear h2 hO2
      go_wp2_with fail
      refine (take_err [63] (by simp) hP.S).mono ?_
      rintro en W5 ⟨rfl, h2, hO2⟩
      have hP := hP.off hlt hbw ltn hO2 h2
      clear h2 hO2
      go_wp2_with fail
      refine (take_err [123] (by simp) hP.S).mono ?_
      rintro en W6 ⟨rfl, h2, hO2⟩
      have hP := hP.off hlt hbw ltn hO2 h2
      clear h2 hO2
      obtain ⟨⟨n0, n1, n2, n3, n4, n5, n6, n7⟩, _⟩ := hP.N.cells8
      have ln := hP.N.lt
      obtain ⟨⟨r0, r1_, r2_, r3, r4, r5, r6, r7⟩, hz⟩ := hP.R.cells8
      have z0 := hz 0; have z1 := hz 1; have z2 := hz 2; have z3 := hz 3; have z4 := hz 4; have z5 := hz 5; have z6 := hz 6; have z7 := hz 7
      have lr := hP.R.lt
      clear hz
      have HP := Lib.hid hP; clear hP
      go_wp2_with fail
      change bodyPost _ _ _ _ _ (writeX W6 w.heap.size (t, A, c))
      have hfin := writeX_blk HP.out.R (t, A, c)
      obtain ⟨⟨y0, y1, y2, y3, y4, y5, y6, y7⟩, _⟩ := hfin.cells8
      have hRS := HP.out.S.boxW (b := w.heap.size) (by omega) (t, A, c)
      have hOff := Off.boxW HP.out.O (Nat.le_refl _) (t, A, c)
      have hlw := HP.out.X.lt
      have hNod : RowAt (writeX W6 w.heap.size (t, A, c)) (fun b => w.heap.size ≤ b ∧ b < (writeX W6 w.heap.size (t, A, c)).heap.size) t A c := HP.out.x.mono fun k (hk : w.heap.size < k ∧ k < wr.heap.size ∧ k ≠ bn) => ⟨⟨by omega, by rw [writeX_size]; omega⟩, (writeX_other _ _ _ _ (show k ≠ w.heap.size by omega))⟩
      generalize writeX W6 w.heap.size (t, A, c) = W3 at *
      refine bodyPost_ret (v := nodeV t A c) (by simp [results, Tryz.results100, y0, y1, y2, y3, y4, y5, y6, y7, go_sem]) rfl ⟨(t, A, c), _, rfl, hNod, hRS, hOff, ?_⟩
      rcases HC.out with ⟨e', he, hs⟩ | ⟨r, r', k, _, he, _⟩
      · cases he
        rcases hs with rfl | ⟨r, rfl, hp⟩
        · exact Out.err
        · exact Out.bad hp
      · cases he
    · have hcs : ∃ r k, s = .ok r ∧ r'.length < k + 1 ∧ pieceP grp r = sufP (k + 1) t r' := by
        rcases HC.out with ⟨e', he, hs⟩ | ⟨r, r2, k, hs, he, hk, hpp⟩
        · cases he
        · cases he
          obtain ⟨k', rfl⟩ : ∃ k', k = k' + 1 := ⟨k - 1, by omega⟩
          exact ⟨r, k', hs, hk, hpp⟩
      obtain ⟨r, k, hsr, hk, hpp⟩ := hcs
      have Hpp := Lib.hid hpp; have Hsr := Lib.hid hsr; clear hpp hsr HC
      rcases ht : takeP [42] r' with _ | r2
      case' some =>
        have hsu : sufP (k + 1) t r' = sufP k (repT (0) (-1) t) r2 := by rw [sufP]; simp only [ht]
        have hl := takeP_len ht
        simp only [List.length_cons, List.length_nil] at hl
        have Hsu := Lib.hid hsu; have Ht := Lib.hid ht; clear hsu ht
        go_wp2_with fail
        refine (take_hit [42] (by simp) Ht.out hP.S).mono ?_
        rintro en W3 ⟨rfl, h2, hO2⟩
        have hP := hP.off hlt hbw ltn hO2 h2
        clear h2 hO2
        obtain ⟨⟨n0, n1, n2, n3, n4, n5, n6, n7⟩, hz⟩ := hP.N.cells8
        have zn0 := hz 0; have zn1 := hz 1; have zn2 := hz 2; have zn3 := hz 3; have zn4 := hz 4; have zn5 := hz 5; have zn6 := hz 6; have zn7 := hz 7
        have ln := hP.N.lt
        clear hz
        obtain ⟨⟨x0, x1, x2, x3, x4, x5, x6, x7⟩, hz⟩ := hP.X.cells8
        have zx5 := hz 5; have zx6 := hz 6
        have lx := hP.X.lt
        clear hz
        have HP := Lib.hid hP; clear hP
        go_wp2_with fail
        go_roundg (r2.length + 1)
        case measure => have := Hn.out; simp only [Rs.rest] at this; omega
        case rel =>
          obtain ⟨d1, d2, d3, d4, d5⟩ := HP.out.done hlt hbw ltn
          exact ⟨(repT (0) (-1) t, some ⟨wr.heap.size, 0, none⟩, 1), .ok r2, rfl, d1, d2, d3, d4, d5, (.inr ⟨r, r2, k, Hsr.out, rfl, by omega, by rw [Hpp.out, Hsu.out]⟩)⟩
      have Ht42 := Lib.hid ht; clear ht
      rcases ht : takeP [43] r' with _ | r2
      case' some =>
        have hsu : sufP (k + 1) t r' = sufP k (repT (1) (-1) t) r2 := by rw [sufP]; simp only [Ht42.out, ht]
        have hl := takeP_len ht
        simp only [List.length_cons, List.length_nil] at hl
        have Hsu := Lib.hid hsu; have Ht := Lib.hid ht; clear hsu ht
        go_wp2_with fail
        refine (take_miss [42] (by simp) Ht42.out hP.S).mono ?_
        rintro en W3 ⟨rfl, h2, hO2⟩
        have hP := hP.off hlt hbw ltn hO2 h2
        clear h2 hO2
        go_wp2_with fail
        refine (take_hit [43] (by simp) Ht.out hP.S).mono ?_
        rintro en W4 ⟨rfl, h2, hO2⟩
        have hP := hP.off hlt hbw ltn hO2 h2
        clear h2 hO2
        obtain ⟨⟨n0, n1, n2, n3, n4, n5, n6, n7⟩, hz⟩ := hP.N.cells8
        have zn0 := hz 0; have zn1 := hz 1; have zn2 := hz 2; have zn3 := hz 3; have zn4 := hz 4; have zn5 := hz 5; have zn6 := hz 6; have zn7 := hz 7
        have ln := hP.N.lt
        clear hz
        obtain ⟨⟨x0, x1, x2, x3, x4, x5, x6, x7⟩, hz⟩ := hP.X.cells8
        have zx5 := hz 5; have zx6 := hz 6
        have lx := hP.X.lt
        clear hz
        have HP := Lib.hid (hP.set5 hlt hbw ltn 1); clear hP
        go_wp2_with fail
        go_roundg (r2.length + 1)
        case measure => have := Hn.out; simp only [Rs.rest] at this; omega
        case rel =>
          obtain ⟨d1, d2, d3, d4, d5⟩ := HP.out.done hlt hbw ltn
          exact ⟨(repT (1) (-1) t, some ⟨wr.heap.size, 0, none⟩, 1), .ok r2, rfl, d1, d2, d3, d4, d5, (.inr ⟨r, r2, k, Hsr.out, rfl, by omega, by rw [Hpp.out, Hsu.out]⟩)⟩
      have Ht43 := Lib.hid ht; clear ht
      rcases ht : takeP [63] r' with _ | r2
      case' some =>
        have hsu : sufP (k + 1) t r' = sufP k (repT (0) (1) t) r2 := by rw [sufP]; simp only [Ht42.out, Ht43.out, ht]
        have hl := takeP_len ht
        simp only [List.length_cons, List.length_nil] at hl
        have Hsu := Lib.hid hsu; have Ht := Lib.hid ht; clear hsu ht
        go_wp2_with fail
        refine (take_miss [42] (by simp) Ht42.out hP.S).mono ?_
        rintro en W3 ⟨rfl, h2, hO2⟩
        have hP := hP.off hlt hbw ltn hO2 h2
        clear h2 hO2
        go_wp2_with fail
        refine (take_miss [43] (by simp) Ht43.out hP.S).mono ?_
        rintro en W4 ⟨rfl, h2, hO2⟩
        have hP := hP.off hlt hbw ltn hO2 h2
        clear h2 hO2
        go_wp2_with fail
        refine (take_hit [63] (by simp) Ht.out hP.S).mono ?_
        rintro en W5 ⟨rfl, h2, hO2⟩
        have hP := hP.off hlt hbw ltn hO2 h2
        clear h2 hO2
        obtain ⟨⟨n0, n1, n2, n3, n4, n5, n6, n7⟩, hz⟩ := hP.N.cells8
        have zn0 := hz 0; have zn1 := hz 1; have zn2 := hz 2; have zn3 := hz 3; have zn4 := hz 4; have zn5 := hz 5; have zn6 := hz 6; have zn7 := hz 7
        have ln := hP.N.lt
        clear hz
        obtain ⟨⟨x0, x1, x2, x3, x4, x5, x6, x7⟩, hz⟩ := hP.X.cells8
        have zx5 := hz 5; have zx6 := hz 6
        have lx := hP.X.lt
        clear hz
        have HP := Lib.hid (hP.set6 hlt hbw ltn 1); clear hP
        go_wp2_with fail
        go_roundg (r2.length + 1)
        case measure => have := Hn.out; simp only [Rs.rest] at this; omega
        case rel =>
          obtain ⟨d1, d2, d3, d4, d5⟩ := HP.out.done hlt hbw ltn
          exact ⟨(repT (0) (1) t, some ⟨wr.heap.size, 0, none⟩, 1), .ok r2, rfl, d1, d2, d3, d4, d5, (.inr ⟨r, r2, k, Hsr.out, rfl, by omega, by rw [Hpp.out, Hsu.out]⟩)⟩
      have Ht63 := Lib.hid ht; clear ht
      rcases ht : takeP [123] r' with _ | r1
      case' none =>
        have hsu : sufP (k + 1) t r' = .ok (t, r') := by rw [sufP]; simp only [Ht42.out, Ht43.out, Ht63.out, ht]
        have Hsu := Lib.hid hsu; have Ht := Lib.hid ht; clear hsu ht
        go_wp2_with fail
        refine (take_miss [42] (by simp) Ht42.out hP.S).mono ?_
        rintro en W3 ⟨rfl, h2, hO2⟩
        have hP := hP.off hlt hbw ltn hO2 h2
        clear h2 hO2
        go_wp2_with fail
        refine (take_miss [43] (by simp) Ht43.out hP.S).mono ?_
        rintro en W4 ⟨rfl, h2, hO2⟩
        have hP := hP.off hlt hbw ltn hO2 h2
        clear h2 hO2
        go_wp2_with fail
        refine (take_miss [63] (by simp) Ht63.out hP.S).mono ?_
        rintro en W5 ⟨rfl, h2, hO2⟩
        have hP := hP.off hlt hbw ltn hO2 h2
        clear h2 hO2
        go_wp2_with fail
        refine (take_miss [123] (by simp) Ht.out hP.S).mono ?_
        rintro en W6 ⟨rfl, h2, hO2⟩
        have hP := hP.off hlt hbw ltn hO2 h2
        clear h2 hO2
        obtain ⟨⟨n0, n1, n2, n3, n4, n5, n6, n7⟩, _⟩ := hP.N.cells8
        have ln := hP.N.lt
        obtain ⟨⟨r0, r1_, r2_, r3, r4, r5, r6, r7⟩, hz⟩ := hP.R.cells8
        have z0 := hz 0; have z1 := hz 1; have z2 := hz 2; have z3 := hz 3; have z4 := hz 4; have z5 := hz 5; have z6 := hz 6; have z7 := hz 7
        have lr := hP.R.lt
        clear hz
        have HP := Lib.hid hP; clear hP
        go_wp2_with fail
        change bodyPost _ _ _ _ _ (writeX W6 w.heap.size (t, A, c))
        have hfin := writeX_blk HP.out.R (t, A, c)
        obtain ⟨⟨y0, y1, y2, y3, y4, y5, y6, y7⟩, _⟩ := hfin.cells8
        have hRS := HP.out.S.boxW (b := w.heap.size) (by omega) (t, A, c)
        have hOff := Off.boxW HP.out.O (Nat.le_refl _) (t, A, c)
        have hlw := HP.out.X.lt
        have hNod : RowAt (writeX W6 w.heap.size (t, A, c)) (fun b => w.heap.size ≤ b ∧ b < (writeX W6 w.heap.size (t, A, c)).heap.size) t A c := HP.out.x.mono fun k (hk : w.heap.size < k ∧ k < wr.heap.size ∧ k ≠ bn) => ⟨⟨by omega, by rw [writeX_size]; omega⟩, (writeX_other _ _ _ _ (show k ≠ w.heap.size by omega))⟩
        generalize writeX W6 w.heap.size (t, A, c) = W3 at *
        refine bodyPost_ret (v := nodeV t A c) (by simp [results, Tryz.results100, y0, y1, y2, y3, y4, y5, y6, y7, go_sem]) rfl ⟨(t, A, c), _, rfl, hNod, hRS, hOff, ?_⟩
        rw [Hsr.out]
        exact Out.good (by rw [Hpp.out, Hsu.out]) rfl
      have hl := takeP_len ht
      simp only [List.length_cons, List.length_nil] at hl
      have Ht := Lib.hid ht; clear ht
      go_wp2_with fail
      refine (take_miss [42] (by simp) Ht42.out hP.S).mono ?_
      rintro en W3 ⟨rfl, h2, hO2⟩
      have hP := hP.off hlt hbw ltn hO2 h2
      clear h2 hO2
      go_wp2_with fail
      refine (take_miss [43] (by simp) Ht43.out hP.S).mono ?_
      rintro en W4 ⟨rfl, h2, hO2⟩
      have hP := hP.off hlt hbw ltn hO2 h2
      clear h2 hO2
      go_wp2_with fail
      refine (take_miss [63] (by simp) Ht63.out hP.S).mono ?_
      rintro en W5 ⟨rfl, h2, hO2⟩
      have hP := hP.off hlt hbw ltn hO2 h2
      clear h2 hO2
      go_wp2_with fail
      refine (take_hit [123] (by simp) Ht.out hP.S).mono ?_
      rintro en W6 ⟨rfl, h2, hO2⟩
      have hP := hP.off hlt hbw ltn hO2 h2
      clear h2 hO2
      go_wp2_with fail
      refine (interval_any _ p op _ hP.S).mono ?_
      rintro en W7 ⟨m, x, s7, rfl, h7, hO7, ho7⟩
      have hP := hP.off hlt hbw ltn hO7 h7
      clear h7 hO7
      have hcase : s7.rest.length < r'.length ∧ ((∃ e, s7 = .error e ∧ (s = .error e ∨ ∃ r, s = .ok r ∧ pieceP grp r = .error e)) ∨ ∃ r r' k, s = .ok r ∧ s7 = .ok r' ∧ r'.length < k ∧ pieceP grp r = sufP k (repT m x t) r') := by
        cases hi : intervalP r1 with
        | error e =>
          simp only [hi] at ho7
          subst ho7
          exact ⟨by simp only [Rs.rest, List.length_nil]; omega, .inl ⟨e, rfl, .inr ⟨r, Hsr.out, by rw [Hpp.out, sufP]; simp only [Ht42.out, Ht43.out, Ht63.out, Ht.out, hi]⟩⟩⟩
        | ok y =>
          obtain ⟨a, b, r2⟩ := y
          simp only [hi] at ho7
          obtain ⟨rfl, rfl, rfl⟩ := ho7
          have := interval_len hi
          exact ⟨by simp only [Rs.rest]; omega, .inr ⟨r, r2, k, Hsr.out, rfl, by omega, by rw [Hpp.out, sufP]; simp only [Ht42.out, Ht43.out, Ht63.out, Ht.out, hi]⟩⟩
      have HCA := Lib.hid hcase
      clear hcase ho7
      obtain ⟨⟨n0, n1, n2, n3, n4, n5, n6, n7⟩, hz⟩ := hP.N.cells8
      have zn0 := hz 0; have zn1 := hz 1; have zn2 := hz 2; have zn3 := hz 3; have zn4 := hz 4; have zn5 := hz 5; have zn6 := hz 6; have zn7 := hz 7
      have ln := hP.N.lt
      clear hz
      obtain ⟨⟨x0, x1, x2, x3, x4, x5, x6, x7⟩, hz⟩ := hP.X.cells8
      have zx5 := hz 5; have zx6 := hz 6
      have lx := hP.X.lt
      clear hz
      have HP := Lib.hid ((hP.set5 hlt hbw ltn m).set6 hlt hbw ltn x); clear hP
      go_wp2_with fail
      go_roundg (s7.rest.length + 1)
      case measure => have := Hn.out; have := HCA.out.1; simp only [Rs.rest] at *; omega
      case rel =>
        obtain ⟨d1, d2, d3, d4, d5⟩ := HP.out.done hlt hbw ltn
        exact ⟨(repT m x t, some ⟨wr.heap.size, 0, none⟩, 1), s7, rfl, d1, d2, d3, d4, d5, HCA.out.2⟩

end Go.Proofs.YthlakbjnmbddaaaGreatDoor

/- The pattern reader's row again, with rows. -/
set_option linter.unusedVariables false
set_option linter.unusedSimpArgs false
namespace Go.Proofs.YthlakbjnmbddaaaGreatDoor
open Go.RowKit

/-- A list of nodes that a call lays, in its own row; beside the result's box and the reader. -/
structure LstR2 (p : Nat) (op : Int) (w : World) (n : Nat) (ns : List Nx) (Av : Option Addr) (cv : Nat) (s : Rs) (wr : World) : Prop where
  len : ns.length = n
  R : BlkX wr w.heap.size (xcell (.mk 0 0 0 0 0 0 0 [], none, 0)).toArray
  own : wr.ownsRow (w.heap.size + 1) 48 8 (.slice Av n cv) n (xcells ns)
  nodes : ∀ x ∈ ns, RowAt wr (fun b => w.heap.size < b ∧ b < wr.heap.size ∧ some b ≠ (Value.slice Av n cv).ownBlock) x.1 x.2.1 x.2.2
  S : RS wr p op s
  O : Off p w wr
theorem LstR2.off {p : Nat} {op : Int} {w : World} {n : Nat} {ns : List Nx} {Av : Option Addr} {cv : Nat} {s s' : Rs} {wr w1 : World} (h : LstR2 p op w n ns Av cv s wr) (hp : p < w.heap.size) (hO : Off p wr w1) (hS : RS w1 p op s') : LstR2 p op w n ns Av cv s' w1 := by
  have hz := hO.size
  refine ⟨h.len, Off.blk hO h.R (by omega), h.own.kept hO ?_, fun x hx => (h.nodes x hx).mono fun b (hb : w.heap.size < b ∧ b < wr.heap.size ∧ some b ≠ (Value.slice Av n cv).ownBlock) => ⟨⟨hb.1, by omega, hb.2.2⟩, Off.blockN hO hb.2.1 (by omega)⟩, hS, Off.trans h.O hO⟩
  cases hv : (Value.slice Av n cv).ownBlock with
  | none => exact .inl rfl
  | some k => have := h.own.lt k hv; exact .inr (by simp; omega)
theorem LstR2.push {p : Nat} {op : Int} {w : World} {n : Nat} {ns : List Nx} {Av A' : Option Addr} {cv c' : Nat} {s : Rs} {W w0 w2 : World} (h : LstR2 p op w n ns Av cv s W) (hp : p < w.heap.size) {B : Nat} (hB : w.heap.size < B) (hrow : ∀ k, (Value.slice Av n cv).ownBlock = some k → k < B) (x : Nx) (hx : RowAt W (fun b => B ≤ b ∧ b < W.heap.size) x.1 x.2.1 x.2.2)
    (h0 : Below W.heap.size W w0) (h1 : w2.ownsRow (w.heap.size + 1) 48 8 (.slice A' (n + 1) c') (n + 1) (xcells ns ++ xcell x)) (h2 : w0.grownBy w2 (Value.slice Av n cv).ownBlock) (h3 : (Value.slice A' (n + 1) c').ownBlock = (Value.slice Av n cv).ownBlock ∨ (Value.slice A' (n + 1) c').ownBlock = some w0.heap.size) :
    LstR2 p op w (n + 1) (ns ++ [x]) A' c' s w2 := by
  have hz0 := h0.size
  have hz2 := h2.size
  have hblk : ∀ b, b < W.heap.size → some b ≠ (Value.slice Av n cv).ownBlock → w2.heap[b]? = W.heap[b]? := fun b hb hne => (h2.block b (by omega) hne).trans (h0.block b hb)
  have hrow1 : ∀ k, (Value.slice Av n cv).ownBlock = some k → w.heap.size + 1 ≤ k := fun k hk => (h.own.lt k hk).1
  have hne : ∀ b, b < w.heap.size + 1 → some b ≠ (Value.slice Av n cv).ownBlock := fun b hb e => by have := hrow1 b e.symm; omega
  have hpW := h.S.lt
  refine ⟨by simp [h.len], h.R.keep (hblk _ h.R.lt (hne _ (by omega))), by rw [xcells_snoc]; exact h1, fun y hy => ?_, h.S.kept (by omega) (hblk p hpW (hne _ (by omega))) (hblk 0 (by omega) (hne _ (by omega))), ?_⟩
  · have key : ∀ b, w.heap.size < b → b < W.heap.size → some b ≠ (Value.slice Av n cv).ownBlock → (w.heap.size < b ∧ b < w2.heap.size ∧ some b ≠ (Value.slice A' (n + 1) c').ownBlock) ∧ w2.heap[b]? = W.heap[b]? := fun b hb1 hb2 hb3 => by
      refine ⟨⟨hb1, by omega, ?_⟩, (hblk b hb2 hb3)⟩
      rcases h3 with e | e
      · rw [e]; exact hb3
      · rw [e]; intro e'; simp only [Option.some.injEq] at e'; omega
    rcases List.mem_append.1 hy with hy | hy
    · exact (h.nodes y hy).mono fun b (hb : w.heap.size < b ∧ b < W.heap.size ∧ some b ≠ (Value.slice Av n cv).ownBlock) => key b hb.1 hb.2.1 hb.2.2
    · simp only [List.mem_singleton] at hy
      subst hy
      exact hx.mono fun b (hb : B ≤ b ∧ b < W.heap.size) => key b (by omega) hb.2 (fun e => by have := hrow b e.symm; omega)
  · have hO := h.O
    have hzW := hO.size
    exact ⟨(h2.os.trans h0.os).trans hO.os, (h2.tape.trans h0.tape).trans hO.tape, (h2.output.trans h0.output).trans hO.output, by omega, fun k hk hkp => (hblk k (by omega) (hne k (by omega))).trans (hO.block k hk hkp)⟩
/-- The list's own node. -/
theorem LstR2.node {p : Nat} {op : Int} {w : World} {n : Nat} {ns : List Nx} {Av : Option Addr} {cv : Nat} {s : Rs} {wr : World} (h : LstR2 p op w n ns Av cv s wr) (hn : 0 < n) (hn2 : n ≤ 1000000) (R : T) (hR : R.ps = ns.map (·.1)) : RowAt wr (fun b => w.heap.size < b ∧ b < wr.heap.size) R Av cv := row_own R ns hR h.len hn hn2 h.own (fun g h1 h2 => ⟨by omega, h2⟩) (fun x hx => (h.nodes x hx).mono fun b (hb : w.heap.size < b ∧ b < wr.heap.size ∧ some b ≠ _) => ⟨⟨hb.1, hb.2.1⟩, rfl⟩)
/-- The first node of a list, in memory. -/
theorem LstR2.first {p : Nat} {op : Int} {w : World} {n : Nat} {ns : List Nx} {Av : Option Addr} {cv : Nat} {s : Rs} {wr : World} (h : LstR2 p op w n ns Av cv s wr) (hn : 0 < n) : ∃ g x, Av = some ⟨g, 0, none⟩ ∧ ns[0]? = some x ∧ At8 wr g 0 x.1 x.2.1 x.2.2 ∧ g < wr.heap.size ∧ n ≤ cv ∧ RowAt wr (fun b => w.heap.size < b ∧ b < wr.heap.size) x.1 x.2.1 x.2.2 := by
  obtain ⟨g, hA, hg0, hg, hc⟩ : ∃ g, Av = some ⟨g, 0, none⟩ ∧ w.heap.size + 1 ≤ g ∧ g < wr.heap.size ∧ n ≤ cv := by
    rcases h.own.2 with ⟨_, h0⟩ | ⟨g, cap, cur, e, hb, hh, hcap, _⟩
    · omega
    · simp only [Value.slice.injEq] at e
      exact ⟨g, e.1, hb, by (rcases Nat.lt_or_ge g wr.heap.size with h' | h'; exact h'; rw [Array.getElem?_eq_none h'] at hh; simp at hh), by omega⟩
  subst hA
  have hl : 0 < ns.length := by rw [h.len]; exact hn
  refine ⟨g, ns[0], rfl, List.getElem?_eq_getElem hl, .ofX fun j hj => ?_, hg, hc, (h.nodes _ (List.getElem_mem hl)).mono fun b (hb : w.heap.size < b ∧ b < wr.heap.size ∧ some b ≠ _) => ⟨⟨hb.1, hb.2.1⟩, rfl⟩⟩
  have := h.own.cellAt j (by have := h.len; omega)
  rw [Nat.zero_add, this]
  have e := xcells_get ns 0 j hl hj
  simpa using e

/-- Where the loop of row stands. -/
def RowL2 (p : Nat) (op : Int) (grp : Bs → PT) (s : Rs) (w : World) (v : Value) (wr : World) (m : Nat) : Prop :=
  ∃ (n : Nat) (ns : List Nx) (Av : Option Addr) (cv : Nat) (s' : Rs), v = .slice Av n cv ∧ m = s'.rest.length + 1 ∧ n + s'.rest.length ≤ 1024 ∧ LstR2 p op w n ns Av cv s' wr ∧
    ((∃ e, s' = .error e ∧ (s = .error e ∨ ∃ r, s = .ok r ∧ rowP grp r = .error e)) ∨ ∃ r r' k, s = .ok r ∧ s' = .ok r' ∧ r' <:+ r ∧ r'.length < k ∧ piecesP grp (r.length + 1) [] r = piecesP grp k (ns.map fun x : Nx => x.1) r')
set_option maxRecDepth 100000 in
set_option maxHeartbeats 4000000 in
theorem prow_any2 (w : World) (p : Nat) (op : Int) (s : Rs) (h : RS w p op s) (hs : s.rest.length ≤ 1024) (grp : Bs → PT) (hgl : GrpLen grp) (hgs : GrpSuf grp) (hB : ∀ r, s = .ok r → 91 ∈ r → BrC) (hD : ∀ r, s = .ok r → 46 ∈ r → DotC)
    (hG : ∀ (w : World) (s : Rs), RS w p op s → s.rest.length ≤ 1024 → (∀ r, s = .ok r → 91 ∈ r → BrC) → (∀ r, s = .ok r → 46 ∈ r → DotC) → Calls Tryz.prog 128 #[.pointer (some ⟨p, 0, none⟩)] w fun en w' => GNode2 p op grp s w en w') :
    Calls Tryz.prog 83 #[.pointer (some ⟨p, 0, none⟩)] w fun en w' => GNode2 p op (rowP grp) s w en w' := by
  have hlt := h.lt
  have hpc : ∀ (w : World) (s : Rs), RS w p op s → s.rest.length ≤ 1024 → (∀ r, s = .ok r → 91 ∈ r → BrC) → (∀ r, s = .ok r → 46 ∈ r → DotC) → Calls Tryz.prog 100 #[.pointer (some ⟨p, 0, none⟩)] w fun en w' => GNode2 p op (pieceP grp) s w en w' := fun w s h hs hB hD => piece_any2 w p op s h hs grp hB hD hG
  have HP := Lib.hid hpc; have HB := Lib.hid hB; have HD := Lib.hid hD; have HGl := Lib.hid hgl; have HGs := Lib.hid hgs
  clear hpc hB hD hG hgl hgs
  have H := Lib.hid h; clear h
  go_enter Tryz.func83, Tryz.ntmps83
  go_wp2_with fail
  generalize hW : w.alloc _ = W0
  have hB0 : Below w.heap.size w W0 := by subst hW; exact (Below.refl _ _).alloc (Nat.le_refl _) _
  have R0 : BlkX W0 w.heap.size (xcell (.mk 0 0 0 0 0 0 0 [], none, 0)).toArray := by subst hW; exact BlkX.new w _
  clear hW
  have hI : RowL2 p op grp s w (.slice none 0 0) W0 (s.rest.length + 1) := by
    refine ⟨0, [], none, 0, s, rfl, rfl, by omega, ⟨rfl, R0, ⟨rfl, .inl ⟨rfl, rfl⟩⟩, fun x hx => by simp at hx, H.out.later hB0, Off.of_below hB0⟩, ?_⟩
    rcases s with e | r
    · exact .inl ⟨e, rfl, .inl rfl⟩
    · exact .inr ⟨r, r, r.length + 1, rfl, rfl, List.suffix_refl _, by omega, rfl⟩
  have HI := Lib.hid hI; clear hI hB0 R0
  go_loopg [3] (s.rest.length + 1) (fun m v wr => RowL2 p op grp s w v wr m)
  case atStart => exact HI.out
  case round =>
    clear HI
    obtain ⟨n, ns, Av, cv, s', rfl, hm, hnl, hL, hcase⟩ := hrel
    have c0 := hL.S.rdr.c0
    have lts := hL.S.lt
    have HL := Lib.hid hL; have HC := Lib.hid hcase; have Hm := Lib.hid hm
    clear hL hcase hm
    by_cases hgo : ∃ c t, s' = .ok (c :: t) ∧ c ≠ 124 ∧ c ≠ 41
    · obtain ⟨c, t, rfl, hc1, hc2⟩ := hgo
      simp only [Rs.rest] at c0 hnl
      have n1 : ((c.toNat : Int) != 124) = true := u8_neq (k := 124) (by omega) hc1
      have n2 : ((c.toNat : Int) != 41) = true := u8_neq (k := 41) (by omega) hc2
      obtain ⟨r, k, hsr, hsf, hk, hpp⟩ : ∃ r k, s = .ok r ∧ (c :: t) <:+ r ∧ (c :: t).length < k + 1 ∧ piecesP grp (r.length + 1) [] r = piecesP grp (k + 1) (ns.map fun x : Nx => x.1) (c :: t) := by
        rcases HC.out with ⟨e', he, _⟩ | ⟨r, r2, k, hs, he, hsf, hk, hpp⟩
        · cases he
        · cases he
          obtain ⟨k', rfl⟩ : ∃ k', k = k' + 1 := ⟨k - 1, by omega⟩
          exact ⟨r, k', hs, hsf, hk, hpp⟩
      have Hpp := Lib.hid hpp; have Hsr := Lib.hid hsr; have Hsf := Lib.hid hsf
      clear hpp hsr hsf HC
      have hres : piecesP grp (k + 1) (ns.map fun x : Nx => x.1) (c :: t) = match pieceP grp (c :: t) with | .error e => .error e | .ok (n, r1) => piecesP grp k ((ns.map fun x : Nx => x.1) ++ [n]) r1 := by
        rw [piecesP, ends_false hc1 hc2]; rfl
      have Hres := Lib.hid hres; clear hres hc1 hc2
      go_wp2_with fail
      refine (HP.out wr (.ok (c :: t)) HL.out.S (by simp only [Rs.rest]; omega) (fun r' e hr => HB.out r Hsr.out (by cases e; exact Hsf.out.mem hr)) (fun r' e hr => HD.out r Hsr.out (by cases e; exact Hsf.out.mem hr))).mono ?_
      rintro en w1 ⟨⟨t1, A1, c1⟩, s1, rfl, hx1, h1, hO1, ho1⟩
      have HL1 := Lib.hid (HL.out.off hlt hO1 h1)
      have Hx1 := Lib.hid hx1; have Ho1 := Lib.hid ho1; have HO1 := Lib.hid hO1
      have hz1 := hO1.size
      have hwr : w.heap.size < wr.heap.size := HL.out.R.lt
      clear hx1 ho1 hO1 h1 c0
      have hnews : ∀ ad, some (⟨w1.heap.size, 0, none⟩ : Addr) = some ad → ∀ j u, (xcell (t1, A1, c1))[j]? = some u → (w1.alloc (.cells (xcell (t1, A1, c1)).toArray 48)).cell? (ad.add j) = some u := fun ad e j u hu => by
        simp only [Option.some.injEq] at e
        subst e
        rw [addr_addX, World.cell?_alloc_new, Nat.zero_add]
        simpa using hu
      have Hnews := Lib.hid hnews; clear hnews
      go_wp2_with (at_builtin; refine wpList_append_fromX (w.heap.size + 1) rfl _ _ 46 48 _ 8 80 rfl Tryz.underlying46 Tryz.infoNodeX rfl (by omega) (by omega) (.slice Av n cv) n 1 (xcells ns) (xcell (t1, A1, c1)) (some ⟨w1.heap.size, 0, none⟩) 1 rfl rfl (by simp) rfl Hnews.out (xcell_one _) (HL1.out.own.alloc _) (by simp; omega) (by omega) (fun A5 c5 w5 ho5 hg5 hat5 => ?_); have HL5 := Lib.hid (HL1.out.push hlt hwr (fun k hk => (HL.out.own.lt k hk).2) (t1, A1, c1) Hx1.out ((Below.refl _ _).alloc (Nat.le_refl _) _) ho5 hg5 hat5); clear ho5 hg5 hat5)
      have hcs : s1.rest.length ≤ t.length ∧ ((∃ e, s1 = .error e ∧ (s = .error e ∨ ∃ r, s = .ok r ∧ rowP grp r = .error e)) ∨ ∃ r r' k, s = .ok r ∧ s1 = .ok r' ∧ r' <:+ r ∧ r'.length < k ∧ piecesP grp (r.length + 1) [] r = piecesP grp k ((ns ++ [(t1, A1, c1)]).map fun x : Nx => x.1) r') := by
        have hoo := Ho1.out
        cases hpc : pieceP grp (c :: t) with
        | error e =>
          simp only [Out, hpc] at hoo
          subst hoo
          exact ⟨by simp [Rs.rest], .inl ⟨e, rfl, .inr ⟨r, Hsr.out, by unfold rowP; rw [Hpp.out, Hres.out, hpc]⟩⟩⟩
        | ok y =>
          obtain ⟨n', r'⟩ := y
          simp only [Out, hpc] at hoo
          obtain ⟨rfl, rfl⟩ := hoo
          have hl := piece_len HGl.out hpc
          simp only [List.length_cons] at hl hk
          exact ⟨by simp only [Rs.rest]; omega, .inr ⟨r, r', k, Hsr.out, rfl, (piece_suf HGs.out hpc).trans Hsf.out, by omega, by rw [Hpp.out, Hres.out, hpc]; simp⟩⟩
      obtain ⟨hl1, hcs⟩ := hcs
      have HCS := Lib.hid hcs; clear hcs
      go_roundg (s1.rest.length + 1)
      case measure => have := Hm.out; simp only [Rs.rest, List.length_cons] at this; omega
      case rel => exact ⟨n + 1, _, A5, c5, s1, rfl, rfl, by simp only [List.length_cons] at hnl; omega, HL5.out, HCS.out⟩
    · have hfin : Out (rowP grp) s (fun t => joinT 4 (ns.map fun x : Nx => x.1) = t) s' := by
        rcases HC.out with ⟨e, rfl, rfl | ⟨r, rfl, hr⟩⟩ | ⟨r, r', k, rfl, rfl, _, hk, hpp⟩
        · exact Out.err
        · exact Out.bad hr
        · have he : endsRow r' = true := by
            rcases r' with _ | ⟨c, t⟩
            · rfl
            · by_cases h1 : c = 124
              · subst h1; rfl
              · by_cases h2 : c = 41
                · subst h2; rfl
                · exact absurd ⟨c, t, rfl, h1, h2⟩ hgo
          obtain ⟨k', rfl⟩ : ∃ k', k = k' + 1 := ⟨k - 1, by omega⟩
          refine Out.good (x := joinT 4 (ns.map fun x : Nx => x.1)) ?_ rfl
          unfold rowP
          rw [hpp, piecesP, if_pos he]
      have Hfin := Lib.hid hfin
      have hsh : s'.rest = [] ∨ (∃ t, s'.rest = 124 :: t) ∨ ∃ t, s'.rest = 41 :: t := by
        rcases s' with e | (_ | ⟨c, t⟩)
        · exact .inl rfl
        · exact .inl rfl
        · by_cases h1 : c = 124
          · subst h1; exact .inr (.inl ⟨t, rfl⟩)
          · by_cases h2 : c = 41
            · subst h2; exact .inr (.inr ⟨t, rfl⟩)
            · exact absurd ⟨c, t, rfl, h1, h2⟩ hgo
      clear hfin hgo HC Hm
      have hn3 : n = 0 ∨ n = 1 ∨ 2 ≤ n := by omega
      rcases hn3 with rfl | rfl | hn2
      · have hns : ns = [] := List.eq_nil_of_length_eq_zero HL.out.len
        subst hns
        obtain ⟨⟨r0, r1, r2, r3, r4, r5, r6, r7⟩, hz⟩ := HL.out.R.cells8
        have z0 := hz 0; have z1 := hz 1; have z2 := hz 2; have z3 := hz 3; have z4 := hz 4; have z5 := hz 5; have z6 := hz 6; have z7 := hz 7
        have lr := HL.out.R.lt
        clear hz
        rcases hsh with hr | ⟨t, hr⟩ | ⟨t, hr⟩
        all_goals
          rw [hr] at c0
          have Hr := Lib.hid hr; clear hr
          go_wp2_with fail
          change bodyPost _ _ _ _ _ (writeX wr w.heap.size (.mk 0 0 0 0 0 0 0 [], none, 0))
          have hfn := writeX_blk HL.out.R (.mk 0 0 0 0 0 0 0 [], none, 0)
          obtain ⟨⟨y0, y1, y2, y3, y4, y5, y6, y7⟩, _⟩ := hfn.cells8
          have hRS := HL.out.S.boxW (b := w.heap.size) (by omega) (.mk 0 0 0 0 0 0 0 [], none, 0)
          have hOff := Off.boxW HL.out.O (Nat.le_refl _) (.mk 0 0 0 0 0 0 0 [], none, 0)
          have hNod : RowAt (writeX wr w.heap.size (.mk 0 0 0 0 0 0 0 [], none, 0)) (fun b => w.heap.size ≤ b ∧ b < (writeX wr w.heap.size (.mk 0 0 0 0 0 0 0 [], none, 0)).heap.size) ((T.mk 0 0 0 0 0 0 0 [], none, 0) : Nx).1 ((T.mk 0 0 0 0 0 0 0 [], none, 0) : Nx).2.1 ((T.mk 0 0 0 0 0 0 0 [], none, 0) : Nx).2.2 := row_leaf _ _ _ rfl
          generalize writeX wr w.heap.size (.mk 0 0 0 0 0 0 0 [], none, 0) = W3 at *
          exact bodyPost_ret (v := nodeV ((T.mk 0 0 0 0 0 0 0 [], none, 0) : Nx).1 ((T.mk 0 0 0 0 0 0 0 [], none, 0) : Nx).2.1 ((T.mk 0 0 0 0 0 0 0 [], none, 0) : Nx).2.2) (by simp [results, Tryz.results83, y0, y1, y2, y3, y4, y5, y6, y7, go_sem]) rfl ⟨(.mk 0 0 0 0 0 0 0 [], none, 0), _, rfl, hNod, hRS, hOff, Hfin.out⟩
      · obtain ⟨g, ⟨t1, A1, c1⟩, rfl, hx, h8, hg, hcv, hnd⟩ := HL.out.first (by omega)
        have hj : joinT 4 (ns.map fun x : Nx => x.1) = t1 := by
          have hl := HL.out.len
          match ns, hl, hx with
          | [y], _, hx => simp at hx; subst hx; rfl
        have Hj := Lib.hid hj; have Hnd := Lib.hid hnd
        obtain ⟨f0, f1, f2, f3, f4, f5, f6, f7⟩ := h8
        simp only [Nat.zero_add] at f1 f2 f3 f4 f5 f6 f7
        clear hj hnd hx
        obtain ⟨⟨r0, r1, r2, r3, r4, r5, r6, r7⟩, hz⟩ := HL.out.R.cells8
        have z0 := hz 0; have z1 := hz 1; have z2 := hz 2; have z3 := hz 3; have z4 := hz 4; have z5 := hz 5; have z6 := hz 6; have z7 := hz 7
        have lr := HL.out.R.lt
        clear hz
        rcases hsh with hr | ⟨t, hr⟩ | ⟨t, hr⟩
        all_goals
          rw [hr] at c0
          have Hr := Lib.hid hr; clear hr
          go_wp2_with fail
          change bodyPost _ _ _ _ _ (writeX wr w.heap.size (t1, A1, c1))
          have hfn := writeX_blk HL.out.R (t1, A1, c1)
          obtain ⟨⟨y0, y1, y2, y3, y4, y5, y6, y7⟩, _⟩ := hfn.cells8
          have hRS := HL.out.S.boxW (b := w.heap.size) (by omega) (t1, A1, c1)
          have hOff := Off.boxW HL.out.O (Nat.le_refl _) (t1, A1, c1)
          have hNod : RowAt (writeX wr w.heap.size (t1, A1, c1)) (fun b => w.heap.size ≤ b ∧ b < (writeX wr w.heap.size (t1, A1, c1)).heap.size) (t1, A1, c1).1 (t1, A1, c1).2.1 (t1, A1, c1).2.2 := Hnd.out.mono fun k (hk : w.heap.size < k ∧ k < wr.heap.size) => ⟨⟨by omega, by rw [writeX_size]; exact hk.2⟩, (writeX_other _ _ _ _ (show k ≠ w.heap.size by omega))⟩
          generalize writeX wr w.heap.size (t1, A1, c1) = W3 at *
          exact bodyPost_ret (v := nodeV (t1, A1, c1).1 (t1, A1, c1).2.1 (t1, A1, c1).2.2) (by simp [results, Tryz.results83, y0, y1, y2, y3, y4, y5, y6, y7, go_sem]) rfl ⟨(t1, A1, c1), _, rfl, hNod, hRS, hOff, by have := Hfin.out; rw [Hj.out] at this; exact this⟩
      · obtain rfl : n = (ns.map fun x : Nx => x.1).length := by simp [HL.out.len]
        have hnd := HL.out.node (by omega) (by omega) (.mk 4 0 0 0 0 0 0 (ns.map fun x : Nx => x.1)) rfl
        have hj : joinT 4 (ns.map fun x : Nx => x.1) = .mk 4 0 0 0 0 0 0 (ns.map fun x : Nx => x.1) := by
          generalize ns.map (fun x : Nx => x.1) = l at hn2
          match l, hn2 with
          | a :: b :: l, _ => rfl
        have hb0 : (((ns.map fun x : Nx => x.1).length : Int) == 0) = false := by rw [beq_eq_false_iff_ne]; omega
        have hb1 : (((ns.map fun x : Nx => x.1).length : Int) == 1) = false := by rw [beq_eq_false_iff_ne]; omega
        have Hj := Lib.hid hj; have Hnd := Lib.hid hnd
        clear hj hnd
        generalize hl : (ns.map fun x : Nx => x.1) = l at *
        obtain ⟨⟨r0, r1, r2, r3, r4, r5, r6, r7⟩, hz⟩ := HL.out.R.cells8
        have z0 := hz 0; have z1 := hz 1; have z2 := hz 2; have z3 := hz 3; have z4 := hz 4; have z5 := hz 5; have z6 := hz 6; have z7 := hz 7
        have lr := HL.out.R.lt
        clear hz
        rcases hsh with hr | ⟨t, hr⟩ | ⟨t, hr⟩
        all_goals
          rw [hr] at c0
          have Hr := Lib.hid hr; clear hr
          go_wp2_with fail
          change bodyPost _ _ _ _ _ (writeX wr w.heap.size (.mk 4 0 0 0 0 0 0 l, Av, cv))
          have hfn := writeX_blk HL.out.R (.mk 4 0 0 0 0 0 0 l, Av, cv)
          obtain ⟨⟨y0, y1, y2, y3, y4, y5, y6, y7⟩, _⟩ := hfn.cells8
          have hRS := HL.out.S.boxW (b := w.heap.size) (by omega) (.mk 4 0 0 0 0 0 0 l, Av, cv)
          have hOff := Off.boxW HL.out.O (Nat.le_refl _) (.mk 4 0 0 0 0 0 0 l, Av, cv)
          have hNod : RowAt (writeX wr w.heap.size (.mk 4 0 0 0 0 0 0 l, Av, cv)) (fun b => w.heap.size ≤ b ∧ b < (writeX wr w.heap.size (.mk 4 0 0 0 0 0 0 l, Av, cv)).heap.size) ((T.mk 4 0 0 0 0 0 0 l, Av, cv) : Nx).1 ((T.mk 4 0 0 0 0 0 0 l, Av, cv) : Nx).2.1 ((T.mk 4 0 0 0 0 0 0 l, Av, cv) : Nx).2.2 := Hnd.out.mono fun k (hk : w.heap.size < k ∧ k < wr.heap.size) => ⟨⟨by omega, by rw [writeX_size]; exact hk.2⟩, (writeX_other _ _ _ _ (show k ≠ w.heap.size by omega))⟩
          generalize writeX wr w.heap.size (.mk 4 0 0 0 0 0 0 l, Av, cv) = W3 at *
          exact bodyPost_ret (v := nodeV ((T.mk 4 0 0 0 0 0 0 l, Av, cv) : Nx).1 ((T.mk 4 0 0 0 0 0 0 l, Av, cv) : Nx).2.1 ((T.mk 4 0 0 0 0 0 0 l, Av, cv) : Nx).2.2) (by simp [results, Tryz.results83, y0, y1, y2, y3, y4, y5, y6, y7, go_sem]) rfl ⟨(.mk 4 0 0 0 0 0 0 l, Av, cv), _, rfl, hNod, hRS, hOff, by have := Hfin.out; rw [Hj.out] at this; exact this⟩

end Go.Proofs.YthlakbjnmbddaaaGreatDoor

/- The pattern reader's choice again, with rows. -/
set_option linter.unusedVariables false
set_option linter.unusedSimpArgs false
namespace Go.Proofs.YthlakbjnmbddaaaGreatDoor
open Go.RowKit

/-- Where the loop of choice stands. -/
def ChoL2 (p : Nat) (op : Int) (grp : Bs → PT) (s : Rs) (w : World) (v : Value) (wr : World) (m : Nat) : Prop :=
  ∃ (n : Nat) (ns : List Nx) (Av : Option Addr) (cv : Nat) (s' : Rs), v = .slice Av n cv ∧ 1 ≤ n ∧ m = s'.rest.length + 1 ∧ n + s'.rest.length ≤ 1025 ∧ LstR2 p op w n ns Av cv s' wr ∧
    ((∃ e, s' = .error e ∧ (s = .error e ∨ ∃ r, s = .ok r ∧ choiceP grp r = .error e)) ∨ ∃ r r' k, s = .ok r ∧ s' = .ok r' ∧ r' <:+ r ∧ r'.length < k ∧ choiceP grp r = match altsP grp k (ns.map fun x : Nx => x.1) r' with | .error e => .error e | .ok (l, r2) => .ok (joinT 5 l, r2))

set_option maxRecDepth 100000 in
set_option maxHeartbeats 4000000 in
theorem choice_par2 (w : World) (p : Nat) (op : Int) (s : Rs) (h : RS w p op s) (hs : s.rest.length ≤ 1024) (grp : Bs → PT) (hgl : GrpLen grp) (hgs : GrpSuf grp) (hB : ∀ r, s = .ok r → 91 ∈ r → BrC) (hD : ∀ r, s = .ok r → 46 ∈ r → DotC)
    (hG : ∀ (w : World) (s : Rs), RS w p op s → s.rest.length ≤ 1024 → (∀ r, s = .ok r → 91 ∈ r → BrC) → (∀ r, s = .ok r → 46 ∈ r → DotC) → Calls Tryz.prog 128 #[.pointer (some ⟨p, 0, none⟩)] w fun en w' => GNode2 p op grp s w en w') :
    Calls Tryz.prog 62 #[.pointer (some ⟨p, 0, none⟩)] w fun en w' => GNode2 p op (choiceP grp) s w en w' := by
  have hlt := h.lt
  have hpc : ∀ (w : World) (s : Rs), RS w p op s → s.rest.length ≤ 1024 → (∀ r, s = .ok r → 91 ∈ r → BrC) → (∀ r, s = .ok r → 46 ∈ r → DotC) → Calls Tryz.prog 83 #[.pointer (some ⟨p, 0, none⟩)] w fun en w' => GNode2 p op (rowP grp) s w en w' := fun w s h hs hB hD => prow_any2 w p op s h hs grp hgl hgs hB hD hG
  have HP := Lib.hid hpc; have HB := Lib.hid hB; have HD := Lib.hid hD; have HGl := Lib.hid hgl; have HGs := Lib.hid hgs
  clear hpc hB hD hG hgl hgs
  have H := Lib.hid h; clear h
  go_enter Tryz.func62, Tryz.ntmps62
  go_wp2_with fail
  generalize hW : w.alloc _ = W0
  have hB0 : Below w.heap.size w W0 := by subst hW; exact (Below.refl _ _).alloc (Nat.le_refl _) _
  have R0 : BlkX W0 w.heap.size (xcell (.mk 0 0 0 0 0 0 0 [], none, 0)).toArray := by subst hW; exact BlkX.new w _
  have hz0 : w.heap.size + 1 ≤ W0.heap.size := by subst hW; simp
  clear hW
  refine (HP.out W0 s (H.out.later hB0) hs HB.out HD.out).mono ?_
  rintro en w1 ⟨⟨t1, A1, c1⟩, s1, rfl, hx1, h1, hO1, ho1⟩
  have R1 := Off.blk hO1 R0 (by omega)
  have hz1 := hO1.size
  have Hx1 := Lib.hid hx1; have Ho1 := Lib.hid ho1
  clear hx1 ho1
  go_wp2_with fail
  generalize hW : w1.alloc _ = W1
  have hb1 : Below w1.heap.size w1 W1 := by subst hW; exact (Below.refl _ _).alloc (Nat.le_refl _) _
  have hI : ChoL2 p op grp s w (.slice (some ⟨w1.heap.size, 0, none⟩) 1 1) W1 (s1.rest.length + 1) := by
    have hoo := Ho1.out
    have hl1 : s1.rest.length ≤ 1024 ∧ ((∃ e, s1 = .error e ∧ (s = .error e ∨ ∃ r, s = .ok r ∧ choiceP grp r = .error e)) ∨ ∃ r r' k, s = .ok r ∧ s1 = .ok r' ∧ r' <:+ r ∧ r'.length < k ∧ choiceP grp r = match altsP grp k ([(t1, A1, c1)].map fun x : Nx => x.1) r' with | .error e => .error e | .ok (l, r2) => .ok (joinT 5 l, r2)) := by
      rcases s with e | r
      · cases (show s1 = .error e from hoo)
        exact ⟨by simp [Rs.rest], .inl ⟨e, rfl, .inl rfl⟩⟩
      · cases hr : rowP grp r with
        | error e =>
          simp only [Out, hr] at hoo
          subst hoo
          exact ⟨by simp [Rs.rest], .inl ⟨e, rfl, .inr ⟨r, rfl, by unfold choiceP; rw [hr]⟩⟩⟩
        | ok y =>
          obtain ⟨n', r'⟩ := y
          simp only [Out, hr] at hoo
          obtain ⟨rfl, rfl⟩ := hoo
          have hl := row_len HGl.out hr
          simp only [Rs.rest] at hs ⊢
          exact ⟨by omega, .inr ⟨r, r', r'.length + 1, rfl, rfl, row_suf HGs.out hr, by omega, by unfold choiceP; rw [hr]; rfl⟩⟩
    refine ⟨1, [(t1, A1, c1)], _, 1, s1, rfl, by omega, rfl, by have := hl1.1; omega, ⟨rfl, R1.keep (hb1.block _ R1.lt), ?_, fun x hx => ?_, h1.later hb1, Off.trans (Off.trans (Off.of_below hB0) hO1) (Off.of_below hb1)⟩, hl1.2⟩
    · have h := World.ownsRow_lit (base := w.heap.size + 1) (e := 48) (size := 8) w1 (xcells [(t1, A1, c1)]).toArray 1 (by omega) (by simp [maxLen]) (by rfl)
      subst hW
      exact h
    · simp only [List.mem_singleton] at hx
      subst hx
      exact Hx1.out.mono fun b (hb : W0.heap.size ≤ b ∧ b < w1.heap.size) => ⟨⟨by omega, by have := hb1.size; omega, by simp [Value.ownBlock]; omega⟩, hb1.block _ hb.2⟩
  have HI := Lib.hid hI
  have hwb : w.heap.size < w1.heap.size := by omega
  generalize w1.heap.size = bl at *
  clear hI hB0 R0 R1 hW hb1 h1 hO1 hz1 hz0 Hx1 Ho1
  go_loopg [3] (s1.rest.length + 1) (fun m v wr => ChoL2 p op grp s w v wr m)
  case atStart => exact HI.out
  case round =>
    clear HI
    obtain ⟨n, ns, Av, cv, s', rfl, hn1, hm, hnl, hL, hcase⟩ := hrel
    have lts := hL.S.lt
    have HL := Lib.hid hL; have HC := Lib.hid hcase; have Hm := Lib.hid hm
    clear hL hcase hm
    rcases s' with e | r'
    · go_wp2_with fail
      refine (take_err [124] (by simp) HL.out.S).mono ?_
      rintro en W2 ⟨rfl, h2, hO2⟩
      have HL := Lib.hid (HL.out.off hlt hO2 h2)
      clear h2 hO2
      have hfin : Out (choiceP grp) s (fun t => joinT 5 (ns.map fun x : Nx => x.1) = t) (.error e) := by
        rcases HC.out with ⟨e', he, hs⟩ | ⟨r, r', k, _, he, _⟩
        · cases he
          rcases hs with rfl | ⟨r, rfl, hr⟩
          · exact Out.err
          · exact Out.bad hr
        · cases he
      have Hfin := Lib.hid hfin
      clear hfin
      have hn3 : n = 1 ∨ 2 ≤ n := by omega
      rcases hn3 with rfl | hn2
      · obtain ⟨g, ⟨t1, A1, c1⟩, rfl, hx, h8, hg, hcv, hnd⟩ := HL.out.first (by omega)
        have hj : joinT 5 (ns.map fun x : Nx => x.1) = t1 := by
          have hl := HL.out.len
          match ns, hl, hx with
          | [y], _, hx => simp at hx; subst hx; rfl
        have Hj := Lib.hid hj; have Hnd := Lib.hid hnd
        obtain ⟨f0, f1, f2, f3, f4, f5, f6, f7⟩ := h8
        simp only [Nat.zero_add] at f1 f2 f3 f4 f5 f6 f7
        clear hj hnd hx
        obtain ⟨⟨r0, r1, r2, r3, r4, r5, r6, r7⟩, hz⟩ := HL.out.R.cells8
        have z0 := hz 0; have z1 := hz 1; have z2 := hz 2; have z3 := hz 3; have z4 := hz 4; have z5 := hz 5; have z6 := hz 6; have z7 := hz 7
        have lr := HL.out.R.lt
        clear hz
        go_wp2_with fail
        change bodyPost _ _ _ _ _ (writeX W2 w.heap.size (t1, A1, c1))
        have hfn := writeX_blk HL.out.R (t1, A1, c1)
        obtain ⟨⟨y0, y1, y2, y3, y4, y5, y6, y7⟩, _⟩ := hfn.cells8
        have hRS := HL.out.S.boxW (b := w.heap.size) (by omega) (t1, A1, c1)
        have hOff := Off.boxW HL.out.O (Nat.le_refl _) (t1, A1, c1)
        have hNod : RowAt (writeX W2 w.heap.size (t1, A1, c1)) (fun b => w.heap.size ≤ b ∧ b < (writeX W2 w.heap.size (t1, A1, c1)).heap.size) (t1, A1, c1).1 (t1, A1, c1).2.1 (t1, A1, c1).2.2 := Hnd.out.mono fun k (hk : w.heap.size < k ∧ k < W2.heap.size) => ⟨⟨by omega, by rw [writeX_size]; exact hk.2⟩, (writeX_other _ _ _ _ (show k ≠ w.heap.size by omega))⟩
        generalize writeX W2 w.heap.size (t1, A1, c1) = W3 at *
        exact bodyPost_ret (v := nodeV (t1, A1, c1).1 (t1, A1, c1).2.1 (t1, A1, c1).2.2) (by simp [results, Tryz.results62, y0, y1, y2, y3, y4, y5, y6, y7, go_sem]) rfl ⟨(t1, A1, c1), _, rfl, hNod, hRS, hOff, by have := Hfin.out; rw [Hj.out] at this; exact this⟩
      · obtain rfl : n = (ns.map fun x : Nx => x.1).length := by simp [HL.out.len]
        have hnd := HL.out.node (by omega) (by omega) (.mk 5 0 0 0 0 0 0 (ns.map fun x : Nx => x.1)) rfl
        have hj : joinT 5 (ns.map fun x : Nx => x.1) = .mk 5 0 0 0 0 0 0 (ns.map fun x : Nx => x.1) := by
          generalize ns.map (fun x : Nx => x.1) = l at hn2
          match l, hn2 with
          | a :: b :: l, _ => rfl
        have hb1 : (((ns.map fun x : Nx => x.1).length : Int) == 1) = false := by rw [beq_eq_false_iff_ne]; omega
        have Hj := Lib.hid hj; have Hnd := Lib.hid hnd
        clear hj hnd
        generalize hl : (ns.map fun x : Nx => x.1) = l at *
        obtain ⟨⟨r0, r1, r2, r3, r4, r5, r6, r7⟩, hz⟩ := HL.out.R.cells8
        have z0 := hz 0; have z1 := hz 1; have z2 := hz 2; have z3 := hz 3; have z4 := hz 4; have z5 := hz 5; have z6 := hz 6; have z7 := hz 7
        have lr := HL.out.R.lt
        clear hz
        go_wp2_with fail
        change bodyPost _ _ _ _ _ (writeX W2 w.heap.size (T.mk 5 0 0 0 0 0 0 l, Av, cv))
        have hfn := writeX_blk HL.out.R (T.mk 5 0 0 0 0 0 0 l, Av, cv)
        obtain ⟨⟨y0, y1, y2, y3, y4, y5, y6, y7⟩, _⟩ := hfn.cells8
        have hRS := HL.out.S.boxW (b := w.heap.size) (by omega) (T.mk 5 0 0 0 0 0 0 l, Av, cv)
        have hOff := Off.boxW HL.out.O (Nat.le_refl _) (T.mk 5 0 0 0 0 0 0 l, Av, cv)
        have hNod : RowAt (writeX W2 w.heap.size (T.mk 5 0 0 0 0 0 0 l, Av, cv)) (fun b => w.heap.size ≤ b ∧ b < (writeX W2 w.heap.size (T.mk 5 0 0 0 0 0 0 l, Av, cv)).heap.size) ((T.mk 5 0 0 0 0 0 0 l, Av, cv) : Nx).1 ((T.mk 5 0 0 0 0 0 0 l, Av, cv) : Nx).2.1 ((T.mk 5 0 0 0 0 0 0 l, Av, cv) : Nx).2.2 := Hnd.out.mono fun k (hk : w.heap.size < k ∧ k < W2.heap.size) => ⟨⟨by omega, by rw [writeX_size]; exact hk.2⟩, (writeX_other _ _ _ _ (show k ≠ w.heap.size by omega))⟩
        generalize writeX W2 w.heap.size (T.mk 5 0 0 0 0 0 0 l, Av, cv) = W3 at *
        exact bodyPost_ret (v := nodeV ((T.mk 5 0 0 0 0 0 0 l, Av, cv) : Nx).1 ((T.mk 5 0 0 0 0 0 0 l, Av, cv) : Nx).2.1 ((T.mk 5 0 0 0 0 0 0 l, Av, cv) : Nx).2.2) (by simp [results, Tryz.results62, y0, y1, y2, y3, y4, y5, y6, y7, go_sem]) rfl ⟨(T.mk 5 0 0 0 0 0 0 l, Av, cv), _, rfl, hNod, hRS, hOff, by have := Hfin.out; rw [Hj.out] at this; exact this⟩
    · obtain ⟨r, k, hsr, hsf, hk, hpp⟩ : ∃ r k, s = .ok r ∧ r' <:+ r ∧ r'.length < k + 1 ∧ choiceP grp r = match altsP grp (k + 1) (ns.map fun x : Nx => x.1) r' with | .error e => .error e | .ok (l, r2) => .ok (joinT 5 l, r2) := by
        rcases HC.out with ⟨e', he, _⟩ | ⟨r, r2, k, hs, he, hsf, hk, hpp⟩
        · cases he
        · cases he
          obtain ⟨k', rfl⟩ : ∃ k', k = k' + 1 := ⟨k - 1, by omega⟩
          exact ⟨r, k', hs, hsf, hk, hpp⟩
      have Hpp := Lib.hid hpp; have Hsr := Lib.hid hsr; have Hsf := Lib.hid hsf
      clear hpp hsr hsf HC
      rcases ht : takeP [124] r' with _ | r2
      · have hfin : Out (choiceP grp) s (fun t => joinT 5 (ns.map fun x : Nx => x.1) = t) (.ok r') := by
          rw [Hsr.out]
          refine Out.good (x := joinT 5 (ns.map fun x : Nx => x.1)) ?_ rfl
          rw [Hpp.out, altsP, ht]
        have Ht := Lib.hid ht; clear ht
        go_wp2_with fail
        refine (take_miss [124] (by simp) Ht.out HL.out.S).mono ?_
        rintro en W2 ⟨rfl, h2, hO2⟩
        have HL := Lib.hid (HL.out.off hlt hO2 h2)
        clear h2 hO2
        have Hfin := Lib.hid hfin
        clear hfin
        have hn3 : n = 1 ∨ 2 ≤ n := by omega
        rcases hn3 with rfl | hn2
        · obtain ⟨g, ⟨t1, A1, c1⟩, rfl, hx, h8, hg, hcv, hnd⟩ := HL.out.first (by omega)
          have hj : joinT 5 (ns.map fun x : Nx => x.1) = t1 := by
            have hl := HL.out.len
            match ns, hl, hx with
            | [y], _, hx => simp at hx; subst hx; rfl
          have Hj := Lib.hid hj; have Hnd := Lib.hid hnd
          obtain ⟨f0, f1, f2, f3, f4, f5, f6, f7⟩ := h8
          simp only [Nat.zero_add] at f1 f2 f3 f4 f5 f6 f7
          clear hj hnd hx
          obtain ⟨⟨r0, r1, r2, r3, r4, r5, r6, r7⟩, hz⟩ := HL.out.R.cells8
          have z0 := hz 0; have z1 := hz 1; have z2 := hz 2; have z3 := hz 3; have z4 := hz 4; have z5 := hz 5; have z6 := hz 6; have z7 := hz 7
          have lr := HL.out.R.lt
          clear hz
          go_wp2_with fail
          change bodyPost _ _ _ _ _ (writeX W2 w.heap.size (t1, A1, c1))
          have hfn := writeX_blk HL.out.R (t1, A1, c1)
          obtain ⟨⟨y0, y1, y2, y3, y4, y5, y6, y7⟩, _⟩ := hfn.cells8
          have hRS := HL.out.S.boxW (b := w.heap.size) (by omega) (t1, A1, c1)
          have hOff := Off.boxW HL.out.O (Nat.le_refl _) (t1, A1, c1)
          have hNod : RowAt (writeX W2 w.heap.size (t1, A1, c1)) (fun b => w.heap.size ≤ b ∧ b < (writeX W2 w.heap.size (t1, A1, c1)).heap.size) (t1, A1, c1).1 (t1, A1, c1).2.1 (t1, A1, c1).2.2 := Hnd.out.mono fun k (hk : w.heap.size < k ∧ k < W2.heap.size) => ⟨⟨by omega, by rw [writeX_size]; exact hk.2⟩, (writeX_other _ _ _ _ (show k ≠ w.heap.size by omega))⟩
          generalize writeX W2 w.heap.size (t1, A1, c1) = W3 at *
          exact bodyPost_ret (v := nodeV (t1, A1, c1).1 (t1, A1, c1).2.1 (t1, A1, c1).2.2) (by simp [results, Tryz.results62, y0, y1, y2, y3, y4, y5, y6, y7, go_sem]) rfl ⟨(t1, A1, c1), _, rfl, hNod, hRS, hOff, by have := Hfin.out; rw [Hj.out] at this; exact this⟩
        · obtain rfl : n = (ns.map fun x : Nx => x.1).length := by simp [HL.out.len]
          have hnd := HL.out.node (by omega) (by omega) (.mk 5 0 0 0 0 0 0 (ns.map fun x : Nx => x.1)) rfl
          have hj : joinT 5 (ns.map fun x : Nx => x.1) = .mk 5 0 0 0 0 0 0 (ns.map fun x : Nx => x.1) := by
            generalize ns.map (fun x : Nx => x.1) = l at hn2
            match l, hn2 with
            | a :: b :: l, _ => rfl
          have hb1 : (((ns.map fun x : Nx => x.1).length : Int) == 1) = false := by rw [beq_eq_false_iff_ne]; omega
          have Hj := Lib.hid hj; have Hnd := Lib.hid hnd
          clear hj hnd
          generalize hl : (ns.map fun x : Nx => x.1) = l at *
          obtain ⟨⟨r0, r1, r2, r3, r4, r5, r6, r7⟩, hz⟩ := HL.out.R.cells8
          have z0 := hz 0; have z1 := hz 1; have z2 := hz 2; have z3 := hz 3; have z4 := hz 4; have z5 := hz 5; have z6 := hz 6; have z7 := hz 7
          have lr := HL.out.R.lt
          clear hz
          go_wp2_with fail
          change bodyPost _ _ _ _ _ (writeX W2 w.heap.size (T.mk 5 0 0 0 0 0 0 l, Av, cv))
          have hfn := writeX_blk HL.out.R (T.mk 5 0 0 0 0 0 0 l, Av, cv)
          obtain ⟨⟨y0, y1, y2, y3, y4, y5, y6, y7⟩, _⟩ := hfn.cells8
          have hRS := HL.out.S.boxW (b := w.heap.size) (by omega) (T.mk 5 0 0 0 0 0 0 l, Av, cv)
          have hOff := Off.boxW HL.out.O (Nat.le_refl _) (T.mk 5 0 0 0 0 0 0 l, Av, cv)
          have hNod : RowAt (writeX W2 w.heap.size (T.mk 5 0 0 0 0 0 0 l, Av, cv)) (fun b => w.heap.size ≤ b ∧ b < (writeX W2 w.heap.size (T.mk 5 0 0 0 0 0 0 l, Av, cv)).heap.size) ((T.mk 5 0 0 0 0 0 0 l, Av, cv) : Nx).1 ((T.mk 5 0 0 0 0 0 0 l, Av, cv) : Nx).2.1 ((T.mk 5 0 0 0 0 0 0 l, Av, cv) : Nx).2.2 := Hnd.out.mono fun k (hk : w.heap.size < k ∧ k < W2.heap.size) => ⟨⟨by omega, by rw [writeX_size]; exact hk.2⟩, (writeX_other _ _ _ _ (show k ≠ w.heap.size by omega))⟩
          generalize writeX W2 w.heap.size (T.mk 5 0 0 0 0 0 0 l, Av, cv) = W3 at *
          exact bodyPost_ret (v := nodeV ((T.mk 5 0 0 0 0 0 0 l, Av, cv) : Nx).1 ((T.mk 5 0 0 0 0 0 0 l, Av, cv) : Nx).2.1 ((T.mk 5 0 0 0 0 0 0 l, Av, cv) : Nx).2.2) (by simp [results, Tryz.results62, y0, y1, y2, y3, y4, y5, y6, y7, go_sem]) rfl ⟨(T.mk 5 0 0 0 0 0 0 l, Av, cv), _, rfl, hNod, hRS, hOff, by have := Hfin.out; rw [Hj.out] at this; exact this⟩
      · have hres : altsP grp (k + 1) (ns.map fun x : Nx => x.1) r' = match rowP grp r2 with | .error e => .error e | .ok (n, r1) => altsP grp k ((ns.map fun x : Nx => x.1) ++ [n]) r1 := by
          rw [altsP, ht]; rfl
        have hl := takeP_len ht
        have hsf2 := (takeP_suf ht).trans Hsf.out
        simp only [List.length_cons, List.length_nil] at hl
        simp only [Rs.rest] at hnl
        have Hres := Lib.hid hres; have Ht := Lib.hid ht; have Hsf2 := Lib.hid hsf2; clear hres ht hsf2
        go_wp2_with fail
        refine (take_hit [124] (by simp) Ht.out HL.out.S).mono ?_
        rintro en W2 ⟨rfl, h2, hO2⟩
        have HL := Lib.hid (HL.out.off hlt hO2 h2)
        have H2 := Lib.hid h2
        clear h2 hO2
        go_wp2_with fail
        refine (HP.out W2 (.ok r2) H2.out (by simp only [Rs.rest]; omega) (fun r' e hr => HB.out r Hsr.out (by cases e; exact Hsf2.out.mem hr)) (fun r' e hr => HD.out r Hsr.out (by cases e; exact Hsf2.out.mem hr))).mono ?_
        rintro en w3 ⟨⟨t3, A3, c3⟩, s3, rfl, hx3, h3, hO3, ho3⟩
        have HL3 := Lib.hid (HL.out.off hlt hO3 h3)
        have Hx3 := Lib.hid hx3; have Ho3 := Lib.hid ho3
        have hz3 := hO3.size
        have hwr : w.heap.size < W2.heap.size := HL.out.R.lt
        clear hx3 ho3 hO3 h3
        have hnews : ∀ ad, some (⟨w3.heap.size, 0, none⟩ : Addr) = some ad → ∀ j u, (xcell (t3, A3, c3))[j]? = some u → (w3.alloc (.cells (xcell (t3, A3, c3)).toArray 48)).cell? (ad.add j) = some u := fun ad e j u hu => by
          simp only [Option.some.injEq] at e
          subst e
          rw [addr_addX, World.cell?_alloc_new, Nat.zero_add]
          simpa using hu
        have Hnews := Lib.hid hnews; clear hnews
        go_wp2_with (at_builtin; refine wpList_append_fromX (w.heap.size + 1) rfl _ _ 46 48 _ 8 80 rfl Tryz.underlying46 Tryz.infoNodeX rfl (by omega) (by omega) (.slice Av n cv) n 1 (xcells ns) (xcell (t3, A3, c3)) (some ⟨w3.heap.size, 0, none⟩) 1 rfl rfl (by simp) rfl Hnews.out (xcell_one _) (HL3.out.own.alloc _) (by simp; omega) (by omega) (fun A5 c5 w5 ho5 hg5 hat5 => ?_); have HL5 := Lib.hid (HL3.out.push hlt hwr (fun k hk => (HL.out.own.lt k hk).2) (t3, A3, c3) Hx3.out ((Below.refl _ _).alloc (Nat.le_refl _) _) ho5 hg5 hat5); clear ho5 hg5 hat5)
        have hcs : s3.rest.length ≤ r2.length ∧ ((∃ e, s3 = .error e ∧ (s = .error e ∨ ∃ r, s = .ok r ∧ choiceP grp r = .error e)) ∨ ∃ r r' k, s = .ok r ∧ s3 = .ok r' ∧ r' <:+ r ∧ r'.length < k ∧ choiceP grp r = match altsP grp k ((ns ++ [(t3, A3, c3)]).map fun x : Nx => x.1) r' with | .error e => .error e | .ok (l, r2) => .ok (joinT 5 l, r2)) := by
          have hoo := Ho3.out
          cases hpc : rowP grp r2 with
          | error e =>
            simp only [Out, hpc] at hoo
            subst hoo
            exact ⟨by simp [Rs.rest], .inl ⟨e, rfl, .inr ⟨r, Hsr.out, by rw [Hpp.out, Hres.out, hpc]⟩⟩⟩
          | ok y =>
            obtain ⟨n', r3⟩ := y
            simp only [Out, hpc] at hoo
            obtain ⟨rfl, rfl⟩ := hoo
            have hl3 := row_len HGl.out hpc
            exact ⟨by simp only [Rs.rest]; omega, .inr ⟨r, r3, k, Hsr.out, rfl, (row_suf HGs.out hpc).trans Hsf2.out, by omega, by rw [Hpp.out, Hres.out, hpc]; simp⟩⟩
        obtain ⟨hl1, hcs⟩ := hcs
        have HCS := Lib.hid hcs; clear hcs
        go_roundg (s3.rest.length + 1)
        case measure => have := Hm.out; simp only [Rs.rest] at this; omega
        case rel => exact ⟨n + 1, _, A5, c5, s3, rfl, by omega, rfl, by omega, HL5.out, HCS.out⟩

end Go.Proofs.YthlakbjnmbddaaaGreatDoor

/- The pattern reader's group, pattern.Parse again, with rows. -/
set_option linter.unusedVariables false
set_option linter.unusedSimpArgs false
namespace Go.Proofs.YthlakbjnmbddaaaGreatDoor
open Go.RowKit

set_option maxRecDepth 100000 in
set_option maxHeartbeats 4000000 in
theorem group_any2 : ∀ (d : Nat) (p : Nat) (op : Int) (hop : op + d = 64) (h0 : 0 ≤ op) (w : World) (s : Rs), RS w p op s → s.rest.length ≤ 1024 → (∀ r, s = .ok r → 91 ∈ r → BrC) → (∀ r, s = .ok r → 46 ∈ r → DotC) →
    Calls Tryz.prog 128 #[.pointer (some ⟨p, 0, none⟩)] w fun en w' => GNode2 p op (groupP d) s w en w' := by
  intro d
  induction d with
  | zero =>
    intro p op hop h0 w s h hs hB hD
    obtain rfl : op = 64 := by omega
    clear hB hD hs h0 hop
    have hlt := h.lt
    have c1 := h.rdr.c1
    have H := Lib.hid h; clear h
    go_enter Tryz.func128, Tryz.ntmps128
    go_wp2_with fail
    generalize hW : w.alloc _ = W0
    have hB0 : Below w.heap.size w W0 := by subst hW; exact (Below.refl _ _).alloc (Nat.le_refl _) _
    have R0 : BlkX W0 w.heap.size (xcell (.mk 0 0 0 0 0 0 0 [], none, 0)).toArray := by subst hW; exact BlkX.new w _
    clear hW
    refine (fail_any W0 p 64 s 3 (by omega) (H.out.later hB0)).mono ?_
    rintro en w1 ⟨rfl, h1, hO1⟩
    have R1 := Off.blk hO1 R0 (by omega)
    have hO := Off.trans (Off.of_below hB0) hO1
    have hout : Out (groupP 0) s (fun t => ((T.mk 0 0 0 0 0 0 0 [], none, 0) : Nx).1 = t) (failS s 3) := by
      rcases s with e | r
      · exact Out.err
      · exact Out.bad rfl
    have Hout := Lib.hid hout; have H1 := Lib.hid h1; have HO := Lib.hid hO; have HR := Lib.hid R1
    obtain ⟨⟨r0, r1, r2, r3, r4, r5, r6, r7⟩, hz⟩ := R1.cells8
    have z0 := hz 0; have z1 := hz 1; have z2 := hz 2; have z3 := hz 3; have z4 := hz 4; have z5 := hz 5; have z6 := hz 6; have z7 := hz 7
    have lr := R1.lt
    clear hz hout h1 hO R1 hO1 R0
    go_wp2_with fail
    change bodyPost _ _ _ _ _ (writeX w1 w.heap.size (T.mk 0 0 0 0 0 0 0 [], none, 0))
    have hfn := writeX_blk HR.out (T.mk 0 0 0 0 0 0 0 [], none, 0)
    obtain ⟨⟨y0, y1, y2, y3, y4, y5, y6, y7⟩, _⟩ := hfn.cells8
    have hRS := H1.out.boxW (b := w.heap.size) (by omega) (T.mk 0 0 0 0 0 0 0 [], none, 0)
    have hOff := Off.boxW HO.out (Nat.le_refl _) (T.mk 0 0 0 0 0 0 0 [], none, 0)
    generalize writeX w1 w.heap.size (T.mk 0 0 0 0 0 0 0 [], none, 0) = W3 at *
    exact bodyPost_ret (v := nodeV (T.mk 0 0 0 0 0 0 0 []) none 0) (by simp [results, Tryz.results128, y0, y1, y2, y3, y4, y5, y6, y7, go_sem]) rfl ⟨(T.mk 0 0 0 0 0 0 0 [], none, 0), _, rfl, row_leaf _ _ _ rfl, hRS, hOff, Hout.out⟩
  | succ d ih =>
    intro p op hop h0 w s h hs hB hD
    have hlt := h.lt
    have c1 := h.rdr.c1
    have z1 := h.rdr.z 1
    have hch : ∀ (w : World), RS w p (op + 1) s → Calls Tryz.prog 62 #[.pointer (some ⟨p, 0, none⟩)] w fun en w' => GNode2 p (op + 1) (choiceP (groupP d)) s w en w' := fun w h =>
      choice_par2 w p (op + 1) s h hs (groupP d) (group_len d) (group_suf d) hB hD (fun w s h hs hB hD => ih p (op + 1) (by omega) (by omega) w s h hs hB hD)
    have HCH := Lib.hid hch
    have H := Lib.hid h; clear h hch ih hB hD
    have hopb : (op == 64) = false := by rw [beq_eq_false_iff_ne]; omega
    have hop2 : op ≤ 63 := by omega
    clear hop hs
    go_enter Tryz.func128, Tryz.ntmps128
    go_wp2_with fail
    generalize hW : World.setCell _ _ _ = W0
    have hz0 : W0.heap.size = w.heap.size := by subst hW; simp
    have h0S : RS W0 p (op + 1) s := by subst hW; exact ⟨H.out.rdr.set1 (op + 1), H.out.ne⟩
    have hO0 : Off p w W0 := by subst hW; exact Off.set (Off.refl p w) _ _
    clear hW
    generalize hW : W0.alloc _ = W1
    have hB1 : Below W0.heap.size W0 W1 := by subst hW; exact (Below.refl _ _).alloc (Nat.le_refl _) _
    have R1 : BlkX W1 w.heap.size (xcell (T.mk 0 0 0 0 0 0 0 [], none, 0)).toArray := by
      have := BlkX.new W0 (xcell (T.mk 0 0 0 0 0 0 0 [], none, 0)).toArray
      rw [hz0] at this
      subst hW
      exact this
    have hzW : w.heap.size < W1.heap.size := R1.lt
    have hO1 := Off.trans hO0 (Off.of_below hB1)
    have h1S := h0S.later hB1
    clear hW hB1 hO0 h0S hz0
    refine (HCH.out W1 h1S).mono ?_
    rintro en w2 ⟨⟨t, A, c⟩, s2, rfl, hx2, h2, hO2, ho2⟩
    have R2 := Off.blk hO2 R1 (by omega)
    have hO2 := Off.trans hO1 hO2
    have hz2 : w.heap.size < w2.heap.size := R2.lt
    have Hx2 := Lib.hid hx2; have Ho2 := Lib.hid ho2
    clear hx2 ho2 R1 hO1 h1S
    have d1 := h2.rdr.c1
    have dz := h2.rdr.z 1
    have dl := h2.lt
    go_upto_region 7 with fail
    generalize hW : (World.setCell w2 _ _).alloc _ = W3
    have hzs : (w2.setCell ⟨p, 1, none⟩ (.int .i64 op)).heap.size = w2.heap.size := by simp
    have hBs : Below w2.heap.size (w2.setCell ⟨p, 1, none⟩ (.int .i64 op)) W3 := by rw [← hW, ← hzs]; exact (Below.refl _ _).alloc (Nat.le_refl _) _
    have N3 : BlkX W3 w2.heap.size (xcell (t, A, c)).toArray := by
      have := BlkX.new (w2.setCell ⟨p, 1, none⟩ (.int .i64 op)) (xcell (t, A, c)).toArray
      rw [hzs] at this
      rw [← hW]
      exact this
    have h3 : RS W3 p op s2 := RS.later (w := w2.setCell ⟨p, 1, none⟩ (.int .i64 op)) ⟨h2.rdr.set1 op, h2.ne⟩ (by rw [hzs]; exact hBs)
    have R3 : BlkX W3 w.heap.size (xcell (T.mk 0 0 0 0 0 0 0 [], none, 0)).toArray := (R2.keep (Below.heap_setCell _ _ _ _ (show w.heap.size ≠ p by omega))).keep (hBs.block _ hz2)
    have hO3 : Off p w W3 := Off.trans (Off.set hO2 _ _) (Off.of_below (by rw [hzs]; exact hBs))
    have hW1 : w.heap.size < W1.heap.size := hzW
    have Hx3 := Lib.hid (Hx2.out.mono (w' := W3) (ok' := fun b => w.heap.size < b ∧ b < w2.heap.size) fun b (hb : W1.heap.size ≤ b ∧ b < w2.heap.size) => ⟨⟨by omega, hb.2⟩, (hBs.block _ hb.2).trans (Below.heap_setCell _ _ _ _ (show b ≠ p by omega))⟩)
    generalize hbn : w2.heap.size = bn at *
    have lbn := N3.lt
    clear hW hBs hzs R2 h2 hO2 Hx2 d1 dz dl hbn
    rcases s2 with e | r2
    · have hout : Out (groupP (d + 1)) s (fun u => ((t, A, c) : Nx).1 = u) (.error e) := by
        have hoo := Ho2.out
        rcases s with e' | r
        · cases (show (Except.error e : Rs) = .error e' from hoo); exact Out.err
        · cases hc : choiceP (groupP d) r with
          | error e' => simp only [Out, hc] at hoo; cases hoo; exact Out.bad (by rw [groupP, hc])
          | ok y => obtain ⟨n, r'⟩ := y; simp only [Out, hc] at hoo; cases hoo.2
      have Hout := Lib.hid hout; clear hout
      go_wp2_with fail
      refine (take_err [41] (by simp) h3).mono ?_
      rintro en W4 ⟨rfl, h4, hO4⟩
      go_wp2_with fail
      refine (fail_err 100 (by omega) h4).mono ?_
      rintro en W5 ⟨rfl, h5, hO5⟩
      have hO5' := Off.trans hO4 hO5
      clear hO4 hO5 h4 h3
      have R5 := Off.blk hO5' R3 (by omega)
      have N5 := Off.blk hO5' N3 (by omega)
      have hO5 := Off.trans hO3 hO5'
      have Hx5 := Lib.hid (Hx3.out.mono (w' := W5) (ok' := fun b => w.heap.size < b ∧ b < bn) fun b (hb : w.heap.size < b ∧ b < bn) => ⟨hb, Off.blockN hO5' (by omega) (by omega)⟩)
      obtain ⟨⟨f0, f1, f2, f3, f4, f5, f6, f7⟩, _⟩ := N5.cells8
      obtain ⟨⟨r0, r1, r2, r3, r4, r5, r6, r7⟩, hz⟩ := R5.cells8
      have z0 := hz 0; have zz1 := hz 1; have z2 := hz 2; have z3 := hz 3; have z4 := hz 4; have z5 := hz 5; have z6 := hz 6; have z7 := hz 7
      have lr := R5.lt
      have ln := N5.lt
      have HR := Lib.hid R5; have H5 := Lib.hid h5; have HO := Lib.hid hO5
      clear hz R5 N5 h5 hO5 hO5' R3 N3 hO3
      go_wp2_with fail
      change bodyPost _ _ _ _ _ (writeX W5 w.heap.size (t, A, c))
      have hfn := writeX_blk HR.out (t, A, c)
      obtain ⟨⟨y0, y1, y2, y3, y4, y5, y6, y7⟩, _⟩ := hfn.cells8
      have hRS := H5.out.boxW (b := w.heap.size) (by omega) (t, A, c)
      have hOff := Off.boxW HO.out (Nat.le_refl _) (t, A, c)
      have hNod : RowAt (writeX W5 w.heap.size (t, A, c)) (fun b => w.heap.size ≤ b ∧ b < (writeX W5 w.heap.size (t, A, c)).heap.size) t A c := Hx5.out.mono fun k (hk : w.heap.size < k ∧ k < bn) => ⟨⟨by omega, by rw [writeX_size]; omega⟩, (writeX_other _ _ _ _ (show k ≠ w.heap.size by omega))⟩
      generalize writeX W5 w.heap.size (t, A, c) = W6 at *
      exact bodyPost_ret (v := nodeV t A c) (by simp [results, Tryz.results128, y0, y1, y2, y3, y4, y5, y6, y7, go_sem]) rfl ⟨(t, A, c), _, rfl, hNod, hRS, hOff, Hout.out⟩
    · obtain ⟨r, hsr, hcc⟩ : ∃ r, s = .ok r ∧ choiceP (groupP d) r = .ok (t, r2) := by
        have hoo := Ho2.out
        rcases s with e' | r
        · cases (show (Except.ok r2 : Rs) = .error e' from hoo)
        · cases hc : choiceP (groupP d) r with
          | error e' => simp only [Out, hc] at hoo; cases hoo
          | ok y =>
            obtain ⟨n, r'⟩ := y
            simp only [Out, hc] at hoo
            obtain ⟨rfl, h'⟩ := hoo
            cases h'
            exact ⟨r, rfl, hc⟩
      have Hsr := Lib.hid hsr; have Hcc := Lib.hid hcc; clear hsr hcc
      rcases ht : takeP [41] r2 with _ | r3
      · have hout : Out (groupP (d + 1)) s (fun u => ((t, A, c) : Nx).1 = u) (.error 100) := by
          rw [Hsr.out]; exact Out.bad (by rw [groupP, Hcc.out]; simp only [ht])
        have Hout := Lib.hid hout; have Ht := Lib.hid ht; clear hout ht
        go_wp2_with fail
        refine (take_miss [41] (by simp) Ht.out h3).mono ?_
        rintro en W4 ⟨rfl, h4, hO4⟩
        go_wp2_with fail
        refine (fail_ok 100 (by omega) h4).mono ?_
        rintro en W5 ⟨rfl, h5, hO5⟩
        have hO5' := Off.trans hO4 hO5
        clear hO4 hO5 h4 h3
        have R5 := Off.blk hO5' R3 (by omega)
        have N5 := Off.blk hO5' N3 (by omega)
        have hO5 := Off.trans hO3 hO5'
        have Hx5 := Lib.hid (Hx3.out.mono (w' := W5) (ok' := fun b => w.heap.size < b ∧ b < bn) fun b (hb : w.heap.size < b ∧ b < bn) => ⟨hb, Off.blockN hO5' (by omega) (by omega)⟩)
        obtain ⟨⟨f0, f1, f2, f3, f4, f5, f6, f7⟩, _⟩ := N5.cells8
        obtain ⟨⟨r0, r1, r2, r3, r4, r5, r6, r7⟩, hz⟩ := R5.cells8
        have z0 := hz 0; have zz1 := hz 1; have z2 := hz 2; have z3 := hz 3; have z4 := hz 4; have z5 := hz 5; have z6 := hz 6; have z7 := hz 7
        have lr := R5.lt
        have ln := N5.lt
        have HR := Lib.hid R5; have H5 := Lib.hid h5; have HO := Lib.hid hO5
        clear hz R5 N5 h5 hO5 hO5' R3 N3 hO3
        go_wp2_with fail
        change bodyPost _ _ _ _ _ (writeX W5 w.heap.size (t, A, c))
        have hfn := writeX_blk HR.out (t, A, c)
        obtain ⟨⟨y0, y1, y2, y3, y4, y5, y6, y7⟩, _⟩ := hfn.cells8
        have hRS := H5.out.boxW (b := w.heap.size) (by omega) (t, A, c)
        have hOff := Off.boxW HO.out (Nat.le_refl _) (t, A, c)
        have hNod : RowAt (writeX W5 w.heap.size (t, A, c)) (fun b => w.heap.size ≤ b ∧ b < (writeX W5 w.heap.size (t, A, c)).heap.size) t A c := Hx5.out.mono fun k (hk : w.heap.size < k ∧ k < bn) => ⟨⟨by omega, by rw [writeX_size]; omega⟩, (writeX_other _ _ _ _ (show k ≠ w.heap.size by omega))⟩
        generalize writeX W5 w.heap.size (t, A, c) = W6 at *
        exact bodyPost_ret (v := nodeV t A c) (by simp [results, Tryz.results128, y0, y1, y2, y3, y4, y5, y6, y7, go_sem]) rfl ⟨(t, A, c), _, rfl, hNod, hRS, hOff, Hout.out⟩
      · have hout : Out (groupP (d + 1)) s (fun u => ((t, A, c) : Nx).1 = u) (.ok r3) := by
          rw [Hsr.out]; exact Out.good (x := t) (by rw [groupP, Hcc.out]; simp only [ht]) rfl
        have Hout := Lib.hid hout; have Ht := Lib.hid ht; clear hout ht
        go_wp2_with fail
        refine (take_hit [41] (by simp) Ht.out h3).mono ?_
        rintro en W5 ⟨rfl, h5, hO5'⟩
        clear h3
        have R5 := Off.blk hO5' R3 (by omega)
        have N5 := Off.blk hO5' N3 (by omega)
        have hO5 := Off.trans hO3 hO5'
        have Hx5 := Lib.hid (Hx3.out.mono (w' := W5) (ok' := fun b => w.heap.size < b ∧ b < bn) fun b (hb : w.heap.size < b ∧ b < bn) => ⟨hb, Off.blockN hO5' (by omega) (by omega)⟩)
        obtain ⟨⟨f0, f1, f2, f3, f4, f5, f6, f7⟩, _⟩ := N5.cells8
        obtain ⟨⟨r0, r1, r2, r3, r4, r5, r6, r7⟩, hz⟩ := R5.cells8
        have z0 := hz 0; have zz1 := hz 1; have z2 := hz 2; have z3 := hz 3; have z4 := hz 4; have z5 := hz 5; have z6 := hz 6; have z7 := hz 7
        have lr := R5.lt
        have ln := N5.lt
        have HR := Lib.hid R5; have H5 := Lib.hid h5; have HO := Lib.hid hO5
        clear hz R5 N5 h5 hO5 hO5' R3 N3 hO3
        go_wp2_with fail
        change bodyPost _ _ _ _ _ (writeX W5 w.heap.size (t, A, c))
        have hfn := writeX_blk HR.out (t, A, c)
        obtain ⟨⟨y0, y1, y2, y3, y4, y5, y6, y7⟩, _⟩ := hfn.cells8
        have hRS := H5.out.boxW (b := w.heap.size) (by omega) (t, A, c)
        have hOff := Off.boxW HO.out (Nat.le_refl _) (t, A, c)
        have hNod : RowAt (writeX W5 w.heap.size (t, A, c)) (fun b => w.heap.size ≤ b ∧ b < (writeX W5 w.heap.size (t, A, c)).heap.size) t A c := Hx5.out.mono fun k (hk : w.heap.size < k ∧ k < bn) => ⟨⟨by omega, by rw [writeX_size]; omega⟩, (writeX_other _ _ _ _ (show k ≠ w.heap.size by omega))⟩
        generalize writeX W5 w.heap.size (t, A, c) = W6 at *
        exact bodyPost_ret (v := nodeV t A c) (by simp [results, Tryz.results128, y0, y1, y2, y3, y4, y5, y6, y7, go_sem]) rfl ⟨(t, A, c), _, rfl, hNod, hRS, hOff, Hout.out⟩


/-- What Parse hands back. -/
def GPar2 (s : Bs) (w : World) (en : Ending) (w' : World) : Prop :=
  Below w.heap.size w w' ∧ ((∃ t A c, parseP s = .ok t ∧ en = .returned (.tuple #[nodeV t A c, .int .i64 0]) ∧ RowAt w' (fun b => w.heap.size ≤ b ∧ b < w'.heap.size) t A c) ∨ ∃ e, parseP s = .error e ∧ e ≠ 0 ∧ en = .returned (.tuple #[nodeV none0 none 0, .int .i64 e]))

set_option maxRecDepth 100000 in
set_option maxHeartbeats 4000000 in
theorem parse_par2 (s : Bs) (w : World) (hM : MaxOk w) (hB : 91 ∈ s → BrC) (hD : 46 ∈ s → DotC) :
    Calls Tryz.prog 42 #[.string (bs s)] w fun en w' => GPar2 s w en w' := by
  by_cases hlen : 1024 < s.length
  · have hp : parseP s = .error 3 := by rw [parseP, if_pos hlen]
    have Hp := Lib.hid hp; clear hp hB hD
    go_enter Tryz.func42, Tryz.ntmps42
    go_wp2_with fail
    exact bodyPost_ret (v := .tuple #[nodeV none0 none 0, .int .i64 3]) (by simp [results, Tryz.results42, go_sem, T.k, T.s0, T.s1, T.s2, T.s3, T.mn, T.mx, T.ps]) rfl ⟨(Below.refl _ _).alloc (Nat.le_refl _) _, .inr ⟨3, Hp.out, by omega, rfl⟩⟩
  · have hch : ∀ (w : World) (p : Nat), RS w p 0 (.ok s) → Calls Tryz.prog 62 #[.pointer (some ⟨p, 0, none⟩)] w fun en w' => GNode2 p 0 (choiceP (groupP 64)) (.ok s) w en w' := fun w p h =>
      choice_par2 w p 0 (.ok s) h (by simp only [Rs.rest]; omega) (groupP 64) (group_len 64) (group_suf 64) (fun r e hr => hB (by cases e; exact hr)) (fun r e hr => hD (by cases e; exact hr)) (fun w s h hs hB hD => group_any2 64 p 0 (by omega) (by omega) w s h hs hB hD)
    have HCH := Lib.hid hch; clear hch hB hD
    go_enter Tryz.func42, Tryz.ntmps42
    go_wp2_with fail
    generalize hW : (w.alloc _).alloc _ = W1
    have hB1 : Below w.heap.size w W1 := by subst hW; exact ((Below.refl _ _).alloc (Nat.le_refl _) _).alloc (by simp) _
    have R1 : BlkX W1 w.heap.size (xcell (none0, none, 0)).toArray := by
      subst hW
      exact (BlkX.new w _).keep (((Below.refl _ _).alloc (Nat.le_refl _) _).block _ (by simp))
    have h1 : RS W1 (w.heap.size + 1) 0 (.ok s) := by
      have hM1 := hM.later hB1
      subst hW
      refine ⟨⟨?_, ?_, ?_, fun o => ?_, by simp, hM1, by omega⟩, fun e he => by cases he⟩
      · simp [go_sem, Rs.rest]
      · simp [go_sem]
      · simp [go_sem, Rs.no]
      · simp [go_sem]
    have hz1 : W1.heap.size = w.heap.size + 2 := by subst hW; simp
    clear hW
    refine (HCH.out W1 (w.heap.size + 1) h1).mono ?_
    rintro en w2 ⟨⟨t, A, c⟩, s2, rfl, hx2, h2, hO2, ho2⟩
    have R2 := Off.blk hO2 R1 (by omega)
    have hz2 := hO2.size
    have hBw2 : Below w.heap.size w w2 := hB1.trans (Off.below hO2 (by omega) (by omega))
    have Hx2 := Lib.hid hx2; have Ho2 := Lib.hid ho2
    have hzz : w.heap.size + 2 ≤ W1.heap.size := by omega
    clear hx2 ho2 R1 h1 hO2 hz1 hB1
    go_upto_region 5 with fail
    generalize hW : w2.alloc _ = W3
    have hB3 : Below w2.heap.size w2 W3 := by subst hW; exact (Below.refl _ _).alloc (Nat.le_refl _) _
    have N3 : BlkX W3 w2.heap.size (xcell (t, A, c)).toArray := by subst hW; exact BlkX.new w2 _
    have R3 := R2.keep (hB3.block _ R2.lt)
    have h3 := h2.later hB3
    have hBw3 := hBw2.trans (hB3.mono (by omega))
    have Hx3 := Lib.hid (Hx2.out.mono (w' := W3) (ok' := fun b => w.heap.size + 2 ≤ b ∧ b < w2.heap.size) fun b (hb : W1.heap.size ≤ b ∧ b < w2.heap.size) => ⟨⟨by omega, hb.2⟩, hB3.block _ hb.2⟩)
    generalize hbn : w2.heap.size = bn at *
    have lbn := N3.lt
    have lp3 := h3.lt
    clear hW hB3 R2 h2 hBw2 Hx2 hbn
    have c0 := h3.rdr.c0
    have c2 := h3.rdr.c2
    rcases s2 with e | r2
    · have hne := h3.ne e rfl
      have hp : parseP s = .error e := by
        have hoo := Ho2.out
        rw [parseP, if_neg hlen]
        cases hc : choiceP (groupP 64) s with
        | error e' => simp only [Out, hc] at hoo; cases hoo; rfl
        | ok y => obtain ⟨n, r'⟩ := y; simp only [Out, hc] at hoo; cases hoo.2
      have Hp := Lib.hid hp; clear hp
      have hb : (e != 0) = true := by rw [bne_iff_ne]; exact hne
      have Hne := Lib.hid hne; clear hne
      simp only [Rs.rest, Rs.no] at c0 c2
      obtain ⟨⟨r0, r1, r2_, r3, r4, r5, r6, r7⟩, hz⟩ := R3.cells8
      have z0 := hz 0; have zz1 := hz 1; have z2 := hz 2; have z3 := hz 3; have z4 := hz 4; have z5 := hz 5; have z6 := hz 6; have z7 := hz 7
      have lr := R3.lt
      clear hz
      go_wp2_with fail
      go_region
      all_goals go_wp2_with fail
      change bodyPost _ _ _ _ _ (writeX W3 w.heap.size (none0, none, 0)).drew
      have hfn := writeX_blk R3 (none0, none, 0)
      obtain ⟨⟨y0, y1, y2, y3, y4, y5, y6, y7⟩, _⟩ := hfn.cells8
      have hbel := (writeX_below hBw3 (Nat.le_refl w.heap.size) (none0, none, 0)).drew
      generalize writeX W3 w.heap.size (none0, none, 0) = W5 at *
      exact bodyPost_ret (v := .tuple #[nodeV none0 none 0, .int .i64 e]) (by simp [results, Tryz.results42, y0, y1, y2, y3, y4, y5, y6, y7, go_sem]) rfl ⟨hbel, .inr ⟨_, Hp.out, Hne.out, rfl⟩⟩
    · have hcc : choiceP (groupP 64) s = .ok (t, r2) := by
        have hoo := Ho2.out
        cases hc : choiceP (groupP 64) s with
        | error e' => simp only [Out, hc] at hoo; cases hoo
        | ok y =>
          obtain ⟨n, r'⟩ := y
          simp only [Out, hc] at hoo
          obtain ⟨rfl, h'⟩ := hoo
          cases h'
          rfl
      have Hcc := Lib.hid hcc; clear hcc Ho2
      simp only [Rs.rest, Rs.no] at c0 c2
      rcases r2 with _ | ⟨c1, t1⟩
      · have hp : parseP s = .ok t := by rw [parseP, if_neg hlen, Hcc.out]
        have Hp := Lib.hid hp; clear hp
        obtain ⟨⟨f0, f1, f2, f3, f4, f5, f6, f7⟩, _⟩ := N3.cells8
        obtain ⟨⟨r0, r1, r2_, r3, r4, r5, r6, r7⟩, hz⟩ := R3.cells8
        have z0 := hz 0; have zz1 := hz 1; have z2 := hz 2; have z3 := hz 3; have z4 := hz 4; have z5 := hz 5; have z6 := hz 6; have z7 := hz 7
        have lr := R3.lt
        clear hz
        have HR := Lib.hid R3
        clear R3 N3 h3
        go_wp2_with fail
        change bodyPost _ _ _ _ _ (writeX W3 w.heap.size (t, A, c))
        have hfn := writeX_blk HR.out (t, A, c)
        obtain ⟨⟨y0, y1, y2, y3, y4, y5, y6, y7⟩, _⟩ := hfn.cells8
        have hbel := writeX_below hBw3 (Nat.le_refl w.heap.size) (t, A, c)
        have hNod : RowAt (writeX W3 w.heap.size (t, A, c)) (fun b => w.heap.size ≤ b ∧ b < (writeX W3 w.heap.size (t, A, c)).heap.size) t A c := Hx3.out.mono fun k (hk : w.heap.size + 2 ≤ k ∧ k < bn) => ⟨⟨by omega, by rw [writeX_size]; omega⟩, (writeX_other _ _ _ _ (show k ≠ w.heap.size by omega))⟩
        generalize writeX W3 w.heap.size (t, A, c) = W5 at *
        exact bodyPost_ret (v := .tuple #[nodeV t A c, .int .i64 0]) (by simp [results, Tryz.results42, y0, y1, y2, y3, y4, y5, y6, y7, go_sem]) rfl ⟨hbel, .inl ⟨t, A, c, Hp.out, rfl, hNod⟩⟩
      · have hp : parseP s = .error 100 := by rw [parseP, if_neg hlen, Hcc.out]
        have Hp := Lib.hid hp; clear hp
        have H3 := Lib.hid h3
        go_wp2_with fail
        refine (fail_ok 100 (by omega) H3.out).mono ?_
        rintro en W4 ⟨rfl, h4, hO4⟩
        have R4 := Off.blk hO4 R3 (by omega)
        have hz3 : w.heap.size ≤ W3.heap.size := by omega
        have hBw4 := hBw3.trans (Off.below hO4 (B := w.heap.size) (by omega) hz3)
        have d2 := h4.rdr.c2
        have lp4 := h4.lt
        simp only [Rs.no] at d2
        clear c0 c2 R3 N3 h3 h4 hO4 H3
        obtain ⟨⟨r0, r1, r2_, r3, r4, r5, r6, r7⟩, hz⟩ := R4.cells8
        have z0 := hz 0; have zz1 := hz 1; have z2 := hz 2; have z3 := hz 3; have z4 := hz 4; have z5 := hz 5; have z6 := hz 6; have z7 := hz 7
        have lr := R4.lt
        clear hz
        go_wp2_with fail
        go_region
        all_goals go_wp2_with fail
        change bodyPost _ _ _ _ _ (writeX W4 w.heap.size (none0, none, 0)).drew
        have hfn := writeX_blk R4 (none0, none, 0)
        obtain ⟨⟨y0, y1, y2, y3, y4, y5, y6, y7⟩, _⟩ := hfn.cells8
        have hbel := (writeX_below hBw4 (Nat.le_refl w.heap.size) (none0, none, 0)).drew
        generalize writeX W4 w.heap.size (none0, none, 0) = W5 at *
        exact bodyPost_ret (v := .tuple #[nodeV none0 none 0, .int .i64 100]) (by simp [results, Tryz.results42, y0, y1, y2, y3, y4, y5, y6, y7, go_sem]) rfl ⟨hbel, .inr ⟨_, Hp.out, (by omega), rfl⟩⟩


theorem parse_par (s : Bs) (w : World) (hM : MaxOk w) (hB : 91 ∈ s → BrC) (hD : 46 ∈ s → DotC) :
    Calls Tryz.prog 42 #[.string (bs s)] w fun en w' => GPar s w en w' :=
  (parse_par2 s w hM hB hD).mono fun en w' ⟨hb, h⟩ => ⟨hb, h.imp (fun ⟨t, A, c, h1, h2, h3⟩ => ⟨t, A, c, h1, h2, h3.node⟩) id⟩
end Go.Proofs.YthlakbjnmbddaaaGreatDoor

/- Tests on bytes: between, either, and what is always true: walked. -/
set_option linter.unusedVariables false
set_option linter.unusedSimpArgs false
namespace Go.Proofs.YthlakbjnmbddaaaGreatDoor
open Go.RowKit

/-- A block of cells, whatever its type. -/
def CellsAt (w : World) (b : Nat) (cs : Array Value) : Prop := ∃ t z, w.heap[b]? = some (.cells cs t z)
theorem CellsAt.later {w w' : World} {b : Nat} {cs : Array Value} (h : CellsAt w b cs) (k : CExt w w') : CellsAt w' b cs := by
  obtain ⟨t, z, h⟩ := h
  exact ⟨t, z, k.cells _ _ _ _ h⟩
theorem CellsAt.cell {w : World} {b : Nat} {cs : Array Value} (h : CellsAt w b cs) (o : Nat) : w.cell? ⟨b, o, none⟩ = cs[o]? := by
  obtain ⟨t, z, h⟩ := h
  exact cell_of_row w b o cs t z h
theorem CellsAt.new (w : World) (cs : Array Value) (t : TypeId) : CellsAt (w.alloc (.cells cs t)) w.heap.size cs := ⟨t, (0, 0), heap_alloc_new w _⟩
theorem CellsAt.keep {w w' : World} {b : Nat} {cs : Array Value} (h : CellsAt w b cs) (k : Below w.heap.size w w') : CellsAt w' b cs := h.later (.of_below k)

set_option maxRecDepth 100000 in
set_option maxHeartbeats 2000000 in
theorem fn_true (w : World) : FnOf w (.func (.func 131) #[] #[]) fun _ => true := by
  refine ⟨_, _, rfl, fun args w => by rfl, fun w' hw c hc => ?_⟩
  simp only [Array.append_empty]
  go_enter Tryz.func131, Tryz.ntmps131
  go_wp2_with fail
  go_ret
  exact ⟨rfl, Below.refl _ _⟩

def betF (lo hi c : Nat) : Bool := decide (lo ≤ c) && decide (c ≤ hi)
set_option maxRecDepth 100000 in
set_option maxHeartbeats 2000000 in
theorem bet_fn (w : World) (a b lo hi : Nat) (ha : CellsAt w a #[.int .u8 lo]) (hb : CellsAt w b #[.int .u8 hi]) : FnOf w (.func (.func 172) #[] #[.pointer (some ⟨a, 0, none⟩), .pointer (some ⟨b, 0, none⟩)]) (betF lo hi) := by
  refine ⟨_, _, rfl, fun args w => by rfl, fun w' hw c hc => ?_⟩
  have f0 := (ha.later hw).cell 0
  have f1 := (hb.later hw).cell 0
  simp only [List.getElem?_toArray, List.getElem?_cons_zero] at f0 f1
  clear ha hb hw
  show Calls _ _ #[.int .u8 (c : Nat), .pointer (some ⟨a, 0, none⟩), .pointer (some ⟨b, 0, none⟩)] _ _
  by_cases h1 : lo ≤ c
  · by_cases h2 : c ≤ hi
    · have hr := Lib.hid (show betF lo hi c = true by simp [betF, h1, h2])
      go_enter Tryz.func172, Tryz.ntmps172
      go_wp2_with fail
      go_ret
      exact ⟨by rw [hr.out]; rfl, Below.refl _ _⟩
    · have hr := Lib.hid (show betF lo hi c = false by simp [betF, h2])
      go_enter Tryz.func172, Tryz.ntmps172
      go_wp2_with fail
      go_ret
      exact ⟨by rw [hr.out]; rfl, Below.refl _ _⟩
  · have hr := Lib.hid (show betF lo hi c = false by simp [betF, h1])
    go_enter Tryz.func172, Tryz.ntmps172
    go_wp2_with fail
    go_ret
    exact ⟨by rw [hr.out]; rfl, Below.refl _ _⟩
/-- What a maker of tests hands back. -/
def GFn (w : World) (f : Nat → Bool) (en : Ending) (w' : World) : Prop := ∃ v, en = .returned v ∧ FnOf w' v f ∧ Below w.heap.size w w'
set_option maxRecDepth 100000 in
set_option maxHeartbeats 2000000 in
theorem between_any (w : World) (lo hi : Nat) : Calls Tryz.prog 168 #[.int .u8 lo, .int .u8 hi] w fun en w' => GFn w (betF lo hi) en w' := by
  have hmf : ∀ (fn : Fn) (first cap : Array Value) (w : World), (Instr.makeFunc fn first cap).run Tryz.prog w = .ok (.func fn first cap) w := fun _ _ _ _ => rfl
  go_enter Tryz.func168, Tryz.ntmps168
  go_wp2_with fail
  go_ret
  refine ⟨_, rfl, ?_, ((Below.refl _ _).alloc (Nat.le_refl _) _).alloc (by simp) _⟩
  have hb : Below (w.alloc (.cells #[.int .u8 (lo : Nat)] 5)).heap.size (w.alloc (.cells #[.int .u8 (lo : Nat)] 5)) ((w.alloc (.cells #[.int .u8 (lo : Nat)] 5)).alloc (.cells #[.int .u8 (hi : Nat)] 5)) := (Below.refl _ _).alloc (Nat.le_refl _) _
  refine bet_fn _ w.heap.size (w.heap.size + 1) lo hi ((CellsAt.new w _ _).keep hb) ?_
  have := CellsAt.new (w.alloc (.cells #[.int .u8 (lo : Nat)] 5)) #[.int .u8 (hi : Nat)] 5
  rw [show (w.alloc (.cells #[.int .u8 (lo : Nat)] 5)).heap.size = w.heap.size + 1 by simp] at this
  exact this

def anyF (fs : List (Nat → Bool)) (c : Nat) : Bool := fs.any fun f => f c
set_option maxRecDepth 100000 in
set_option maxHeartbeats 2000000 in
theorem either_fn (w : World) (a b : Nat) (vs : List Value) (fs : List (Nat → Bool)) (ha : CellsAt w a #[.slice (some ⟨b, 0, none⟩) vs.length vs.length]) (hb : CellsAt w b vs.toArray) (hl : vs.length ≤ 100) (hlen : fs.length = vs.length)
    (hf : ∀ (i : Nat) (v : Value) (f : Nat → Bool), vs[i]? = some v → fs[i]? = some f → FnOf w v f) : FnOf w (.func (.func 173) #[] #[.pointer (some ⟨a, 0, none⟩)]) (anyF fs) := by
  refine ⟨_, _, rfl, fun args w => by rfl, fun w0 hw c hc => ?_⟩
  show Calls _ _ #[.int .u8 (c : Nat), .pointer (some ⟨a, 0, none⟩)] _ _
  have HA := Lib.hid (ha.later hw); have HB := Lib.hid (hb.later hw)
  have HF := Lib.hid (fun i v f h1 h2 => (hf i v f h1 h2).later hw)
  clear ha hb hf
  have f0 := HA.out.cell 0
  simp only [List.getElem?_toArray, List.getElem?_cons_zero] at f0
  go_enter Tryz.func173, Tryz.ntmps173
  go_wp2_with fail
  go_loopg [8] vs.length (fun k i wr => ∃ j : Nat, i = .int .i64 j ∧ j + k = vs.length ∧ (fs.drop j).any (fun f => f c) = anyF fs c ∧ Below w0.heap.size w0 wr)
  case atStart => exact ⟨0, rfl, by omega, rfl, Below.refl _ _⟩
  case round =>
    obtain ⟨j, rfl, hj, hm, hB⟩ := hrel
    have Hm := Lib.hid hm; have HBl := Lib.hid hB; clear hm hB f0
    by_cases hlt : j < vs.length
    · obtain ⟨v, hv⟩ : ∃ v, vs[j]? = some v := ⟨_, List.getElem?_eq_getElem hlt⟩
      obtain ⟨f, hf⟩ : ∃ f, fs[j]? = some f := ⟨_, List.getElem?_eq_getElem (by omega)⟩
      have hd : fs.drop j = f :: fs.drop (j + 1) := by
        have := (List.getElem?_eq_some_iff.1 hf)
        obtain ⟨h1, h2⟩ := this
        rw [← h2]; exact List.drop_eq_getElem_cons h1
      have hcell : wr.cell? ⟨b, j, none⟩ = some v := by rw [(HB.out.keep HBl.out).cell j, List.getElem?_toArray, hv]
      obtain ⟨fn, caps, rfl, hcf, hcall⟩ := (HF.out j v f hv hf).later (.of_below HBl.out)
      have Hcall := Lib.hid hcall; clear hcall
      have Hd := Lib.hid hd; clear hd hv hf
      clear hlen
      go_wp2_with fail
      refine (Hcall.out wr (CExt.refl wr) c hc).mono ?_
      rintro en w1 ⟨rfl, hb1⟩
      have hB1 := HBl.out.step hb1
      cases hfc : f c with
      | false =>
        have Hm := Lib.hid (show (fs.drop (j + 1)).any (fun f => f c) = anyF fs c by rw [← Hm.out, Hd.out, List.any_cons, hfc, Bool.false_or])
        clear hfc Hcall Hd
        go_wp2_with fail
        go_roundg (gk - 1)
        case measure => omega
        case rel => exact ⟨j + 1, by go_num, by omega, Hm.out, hB1⟩
      | true =>
        have Hm := Lib.hid (show anyF fs c = true by rw [← Hm.out, Hd.out, List.any_cons, hfc, Bool.true_or])
        clear hfc Hcall Hd
        go_wp2_with fail
        go_ret
        exact ⟨by rw [Hm.out]; rfl, hB1⟩
    · have Hm := Lib.hid (show anyF fs c = false by rw [← Hm.out, List.drop_eq_nil_of_le (by omega)]; rfl)
      go_wp2_with fail
      go_ret
      exact ⟨by rw [Hm.out]; rfl, HBl.out⟩
set_option maxRecDepth 100000 in
set_option maxHeartbeats 2000000 in
theorem either_any (w : World) (b : Nat) (vs : List Value) (fs : List (Nat → Bool)) (hb : CellsAt w b vs.toArray) (hl : vs.length ≤ 100) (hlen : fs.length = vs.length)
    (hf : ∀ (i : Nat) (v : Value) (f : Nat → Bool), vs[i]? = some v → fs[i]? = some f → FnOf w v f) : Calls Tryz.prog 169 #[.slice (some ⟨b, 0, none⟩) vs.length vs.length] w fun en w' => GFn w (anyF fs) en w' := by
  have hmf : ∀ (fn : Fn) (first cap : Array Value) (w : World), (Instr.makeFunc fn first cap).run Tryz.prog w = .ok (.func fn first cap) w := fun _ _ _ _ => rfl
  have HB := Lib.hid hb; have HF := Lib.hid hf; clear hb hf
  go_enter Tryz.func169, Tryz.ntmps169
  go_wp2_with fail
  go_ret
  generalize hW : w.alloc _ = W
  have hbel : Below w.heap.size w W := by subst hW; exact (Below.refl _ _).alloc (Nat.le_refl _) _
  exact ⟨_, rfl, either_fn _ w.heap.size b vs fs (by subst hW; exact CellsAt.new w _ _) (HB.out.keep hbel) hl hlen (fun i v f h1 h2 => (HF.out i v f h1 h2).later (.of_below hbel)), hbel⟩
/-- What is in one set, not in another. -/
def butF (f g : Nat → Bool) (c : Nat) : Bool := f c && !g c
set_option maxRecDepth 100000 in
set_option maxHeartbeats 2000000 in
theorem but_fn (w : World) (a b : Nat) (u v : Value) (f g : Nat → Bool) (ha : CellsAt w a #[u]) (hb : CellsAt w b #[v]) (hu : FnOf w u f) (hv : FnOf w v g) : FnOf w (.func (.func 170) #[] #[.pointer (some ⟨a, 0, none⟩), .pointer (some ⟨b, 0, none⟩)]) (butF f g) := by
  refine ⟨_, _, rfl, fun args w => by rfl, fun w' hw c hc => ?_⟩
  have HA := Lib.hid (ha.later hw); have HB := Lib.hid (hb.later hw)
  obtain ⟨fn, caps, rfl, hcf, hu⟩ := hu.later hw
  obtain ⟨fn', caps', rfl, hcf', hv⟩ := hv.later hw
  have Hu := Lib.hid hu; have Hv := Lib.hid hv
  clear hu hv ha hb hw
  have f0 := HA.out.cell 0
  simp only [List.getElem?_toArray, List.getElem?_cons_zero] at f0
  show Calls _ _ #[.int .u8 (c : Nat), .pointer (some ⟨a, 0, none⟩), .pointer (some ⟨b, 0, none⟩)] _ _
  go_enter Tryz.func170, Tryz.ntmps170
  go_wp2_with fail
  refine (Hu.out w' (CExt.refl w') c hc).mono ?_
  rintro en w1 ⟨rfl, hb1⟩
  have f1 := (HB.out.keep hb1).cell 0
  simp only [List.getElem?_toArray, List.getElem?_cons_zero] at f1
  clear f0
  cases hf : f c with
  | false =>
    have Hr := Lib.hid (show butF f g c = false by simp [butF, hf])
    clear hf Hu Hv
    go_wp2_with fail
    go_ret
    exact ⟨by rw [Hr.out]; rfl, hb1⟩
  | true =>
    have Hr := Lib.hid (show butF f g c = !g c by simp [butF, hf])
    clear hf Hu
    go_wp2_with fail
    refine (Hv.out w1 (CExt.of_below hb1) c hc).mono ?_
    rintro en w2 ⟨rfl, hb2⟩
    clear Hv
    go_wp2_with fail
    go_ret
    exact ⟨by rw [Hr.out]; rfl, hb1.step hb2⟩
theorem whereW_true : whereW (fun _ => true) = w40.span 0 256 := by
  unfold whereW W4.span
  rw [List.range_eq_range']
  rfl
theorem dotC : DotC := fun w => (where_any w _ _ (fn_true w)).mono fun en w' h => by rw [whereW_true] at h; exact h
end Go.Proofs.YthlakbjnmbddaaaGreatDoor

