/- Merged texts, part of the proof KnownM: RPa, RPb, RPc, RPd, RPe, Comp, Work12, Ml, Where, Fns, AnyI, Clss, BrA, BrB, BrW, Item, Brack. -/
import Derived.Test.YthlakbjnmbddaaaGreatDoorUKnownMA
import Derived.Test.YthlakbjnmbddaaaGreatDoorUKnownMB
import Derived.Test.YthlakbjnmbddaaaGreatDoorUKnownMC
import Derived.RegionTactic
import Derived.MapKept
import Derived.Laws.EntriesVeiled
import Derived.Laws.Bits64
set_option linter.unusedVariables false
set_option linter.unusedSimpArgs false
set_option maxRecDepth 100000
set_option maxHeartbeats 8000000
namespace Go.Proofs.YthlakbjnmbddaaaGreatDoor
open Lib (hid)
open Go.RowKit
def ee (p : Nat) (op : Int) (f : Bs → PT) (s : Rs) (w : World) (en : Ending) (w' : World) : Prop :=
 ∃ (x : Nx) (s' : Rs), en = .returned (aB x.1 x.2.1 x.2.2) ∧ RowAt w' (fun b => w.heap.size ≤ b ∧ b < w'.heap.size) x.1 x.2.1 x.2.2 ∧ RS w' p op s' ∧ Off p w w' ∧ Out f s (fun t => x.1 = t) s'
theorem uH (w : World) (p : Nat) (op : Int) (s : Rs) (h : RS w p op s) (hs : s.rest.length ≤ 1024) (grp : Bs → PT) (hB : ∀ r, s = .ok r → 91 ∈ r → BrC) (hD : ∀ r, s = .ok r → 46 ∈ r → oa)
 (hG : ∀ (w : World) (s : Rs), RS w p op s → s.rest.length ≤ 1024 → (∀ r, s = .ok r → 91 ∈ r → BrC) → (∀ r, s = .ok r → 46 ∈ r → oa) → Calls Tryz.prog 128 #[.pointer (some ⟨p, 0, none⟩)] w fun en w' => ee p op grp s w en w') :
 Calls Tryz.prog 117 #[.pointer (some ⟨p, 0, none⟩)] w fun en w' => ee p op (aN grp) s w en w' := by
 have hlt := h.lt
 have HB := hid hB; have HD := hid hD; have HG := hid hG; have HL := hid hs; clear hB hD hG hs
 have H := hid h; clear h
 go_enter Tryz.func117, Tryz.ntmps117
 go_wp2_with fail
 generalize hW : (w.alloc _).alloc _ = W0
 have hB0 : Below w.heap.size w W0 := by subst hW; exact nal.alloc (by simp) _
 have R0 : bj W0 w.heap.size (ar (.mk 0 0 0 0 0 0 0 [], none, 0)).toArray := by
  subst hW
  exact (bj.new w _).keep (nal.block _ (by simp))
 have N0 : bj W0 (w.heap.size + 1) (ar (w40.T, none, 0)).toArray := by
  have hz : (w.alloc (.cells (ar (.mk 0 0 0 0 0 0 0 [], none, 0)).toArray 48)).heap.size = w.heap.size + 1 := by simp
  have := bj.new (w.alloc (.cells (ar (.mk 0 0 0 0 0 0 0 [], none, 0)).toArray 48)) (ar (w40.T, none, 0)).toArray
  rw [hz] at this
  subst hW
  exact this
 clear hW
 have HR0 := hid (H.out.later hB0)
 rcases s with e | (_ | ⟨c, t⟩)
 · refine (vy 104 (by omega) HR0.out).mono ?_
   rintro en w1 ⟨rfl, h1, hO1⟩
   have R1 := hO1.blk R0 (by omega)
   have N1 := hO1.blk N0 (by omega)
   have hO1 : Off p w w1 := (Off.of_below hB0).trans hO1
   clear R0 N0
   go_wp2_with fail
   refine (du w1 (w.heap.size + 1) 1 w40 0 (by omega) N1.at4 N1.froz).mono ?_
   rintro en w2 ⟨rfl, rfl⟩
   have R2 : bj (addW w1 (w.heap.size + 1) 1 w40 0).drew w.heap.size (ar (.mk 0 0 0 0 0 0 0 [], none, 0)).toArray := R1.keep (cu _ _ _ _ _ _ (by omega))
   have N2 : bj (addW w1 (w.heap.size + 1) 1 w40 0).drew (w.heap.size + 1) (ar ((w40.add 0).T, none, 0)).toArray := gH N1 0 (by omega)
   have h2 := h1.putW (b := w.heap.size + 1) (by omega) 1 w40 0
   have hO2 := Off.putW hO1 (b := w.heap.size + 1) (by omega) 1 w40 0
   obtain ⟨x, hx⟩ : ∃ x : Nx, x = ((w40.add 0).T, none, 0) := ⟨_, rfl⟩
   rw [← hx] at N2
   have Hx := hid hx
   clear hx R1 N1 h1 hO1
   generalize (addW w1 (w.heap.size + 1) 1 w40 0).drew = W2 at *
   obtain ⟨⟨f0, f1, f2, f3, f4, f5, f6, f7⟩, _⟩ := N2.cells8
   obtain ⟨⟨r0, r1, r2, r3, r4, r5, r6, r7⟩, hz⟩ := R2.cells8
   obtain ⟨z0, z1, z2, z3, z4, z5, z6, z7⟩ := cM hz
   have lr := R2.lt
   have ln := N2.lt
   clear hz
   have HR2 := hid R2; have H2 := hid h2; have HO2 := hid hO2
   clear R2 N2 h2 hO2
   go_wp2_with fail
   change bodyPost _ _ _ _ _ (aa W2 w.heap.size x)
   have hfin := ac HR2.out x
   obtain ⟨⟨y0, y1, y2, y3, y4, y5, y6, y7⟩, _⟩ := hfin.cells8
   have hRS := H2.out.boxW (b := w.heap.size) (by omega) x
   have hOff := Off.boxW HO2.out (Nat.le_refl _) x
   have hNod : RowAt (aa W2 w.heap.size x) (fun b => w.heap.size ≤ b ∧ b < (aa W2 w.heap.size x).heap.size) x.1 x.2.1 x.2.2 := by rw [Hx.out]; exact cB _ _ _ rfl
   generalize aa W2 w.heap.size x = W3 at *
   refine bodyPost_ret (v := aB x.1 x.2.1 x.2.2) (by simp [results, Tryz.results117, y0, y1, y2, y3, y4, y5, y6, y7, go_sem]) rfl ⟨x, _, rfl, hNod, hRS, hOff, ?_⟩
   exact Out.err
 · refine (iR 104 (by omega) HR0.out).mono ?_
   rintro en w1 ⟨rfl, h1, hO1⟩
   have R1 := hO1.blk R0 (by omega)
   have N1 := hO1.blk N0 (by omega)
   have hO1 : Off p w w1 := (Off.of_below hB0).trans hO1
   clear R0 N0
   go_wp2_with fail
   refine (du w1 (w.heap.size + 1) 1 w40 0 (by omega) N1.at4 N1.froz).mono ?_
   rintro en w2 ⟨rfl, rfl⟩
   have R2 : bj (addW w1 (w.heap.size + 1) 1 w40 0).drew w.heap.size (ar (.mk 0 0 0 0 0 0 0 [], none, 0)).toArray := R1.keep (cu _ _ _ _ _ _ (by omega))
   have N2 : bj (addW w1 (w.heap.size + 1) 1 w40 0).drew (w.heap.size + 1) (ar ((w40.add 0).T, none, 0)).toArray := gH N1 0 (by omega)
   have h2 := h1.putW (b := w.heap.size + 1) (by omega) 1 w40 0
   have hO2 := Off.putW hO1 (b := w.heap.size + 1) (by omega) 1 w40 0
   obtain ⟨x, hx⟩ : ∃ x : Nx, x = ((w40.add 0).T, none, 0) := ⟨_, rfl⟩
   rw [← hx] at N2
   have Hx := hid hx
   clear hx R1 N1 h1 hO1
   generalize (addW w1 (w.heap.size + 1) 1 w40 0).drew = W2 at *
   obtain ⟨⟨f0, f1, f2, f3, f4, f5, f6, f7⟩, _⟩ := N2.cells8
   obtain ⟨⟨r0, r1, r2, r3, r4, r5, r6, r7⟩, hz⟩ := R2.cells8
   obtain ⟨z0, z1, z2, z3, z4, z5, z6, z7⟩ := cM hz
   have lr := R2.lt
   have ln := N2.lt
   clear hz
   have HR2 := hid R2; have H2 := hid h2; have HO2 := hid hO2
   clear R2 N2 h2 hO2
   go_wp2_with fail
   change bodyPost _ _ _ _ _ (aa W2 w.heap.size x)
   have hfin := ac HR2.out x
   obtain ⟨⟨y0, y1, y2, y3, y4, y5, y6, y7⟩, _⟩ := hfin.cells8
   have hRS := H2.out.boxW (b := w.heap.size) (by omega) x
   have hOff := Off.boxW HO2.out (Nat.le_refl _) x
   have hNod : RowAt (aa W2 w.heap.size x) (fun b => w.heap.size ≤ b ∧ b < (aa W2 w.heap.size x).heap.size) x.1 x.2.1 x.2.2 := by rw [Hx.out]; exact cB _ _ _ rfl
   generalize aa W2 w.heap.size x = W3 at *
   refine bodyPost_ret (v := aB x.1 x.2.1 x.2.2) (by simp [results, Tryz.results117, y0, y1, y2, y3, y4, y5, y6, y7, go_sem]) rfl ⟨x, _, rfl, hNod, hRS, hOff, ?_⟩
   exact Out.bad rfl
 · refine (jm 104 (by omega) HR0.out).mono ?_
   rintro en w1 ⟨rfl, h1, hO1⟩
   have R1 := hO1.blk R0 (by omega)
   have N1 := hO1.blk N0 (by omega)
   have hO1 : Off p w w1 := (Off.of_below hB0).trans hO1
   clear R0 N0
   by_cases c40 : c = 40
   · subst c40
     have hz1 := hO1.size
     obtain ⟨⟨r0, r1, r2, r3, r4, r5, r6, r7⟩, hz⟩ := R1.cells8
     clear r0 r1 r2 r3 r4 r5 r6 r7 hz
     go_wp2_with fail
     refine (HG.out w1 (.ok t) h1 (by have := HL.out; simp only [Rs.rest, List.length_cons] at this ⊢; omega) (fun r e hr => HB.out _ rfl (List.mem_cons_of_mem _ (by cases e; exact hr))) (fun r e hr => HD.out _ rfl (List.mem_cons_of_mem _ (by cases e; exact hr)))).mono ?_
     rintro en W2 ⟨x, s', rfl, hx, h2, hO2, ho⟩
     have R2 := hO2.blk R1 (by omega)
     have lr1 := R1.lt
     have hO2 := hO1.trans hO2
     obtain ⟨⟨r0, r1, r2, r3, r4, r5, r6, r7⟩, hz⟩ := R2.cells8
     obtain ⟨z0, z1, z2, z3, z4, z5, z6, z7⟩ := cM hz
     have lr := R2.lt
     clear hz
     have HR2 := hid R2; have H2 := hid h2; have HO2 := hid hO2; have Hx := hid hx; have Ho := hid ho
     clear R2 h2 hO2 R1 N1 h1 hO1 hx ho
     go_wp2_with fail
     change bodyPost _ _ _ _ _ (aa W2 w.heap.size x)
     have hfin := ac HR2.out x
     obtain ⟨⟨y0, y1, y2, y3, y4, y5, y6, y7⟩, _⟩ := hfin.cells8
     have hRS := H2.out.boxW (b := w.heap.size) (by omega) x
     have hOff := Off.boxW HO2.out (Nat.le_refl _) x
     have hNod : RowAt (aa W2 w.heap.size x) (fun b => w.heap.size ≤ b ∧ b < (aa W2 w.heap.size x).heap.size) x.1 x.2.1 x.2.2 := Hx.out.mono fun k (hk : w1.heap.size ≤ k ∧ k < W2.heap.size) => ⟨⟨by omega, by rw [ai]; exact hk.2⟩, (af _ _ _ _ (show k ≠ w.heap.size by omega))⟩
     generalize aa W2 w.heap.size x = W3 at *
     refine bodyPost_ret (v := aB x.1 x.2.1 x.2.2) (by simp [results, Tryz.results117, y0, y1, y2, y3, y4, y5, y6, y7, go_sem]) rfl ⟨x, _, rfl, hNod, hRS, hOff, ?_⟩
     have e : aN grp (40 :: t) = grp t := by simp [aN]
     simp only [Out, e]
     exact Ho.out
   have n40 := em (k := 40) (by omega) c40
   by_cases c94 : c = 94
   · subst c94
     obtain ⟨⟨r0, r1, r2, r3, r4, r5, r6, r7⟩, hz⟩ := R1.cells8
     obtain ⟨z0, z1, z2, z3, z4, z5, z6, z7⟩ := cM hz
     have lr := R1.lt
     clear hz
     have HR2 := hid R1; have H2 := hid h1; have HO2 := hid hO1
     clear R1 N1 h1 hO1
     go_wp2_with fail
     change bodyPost _ _ _ _ _ (aa w1 w.heap.size (.mk 2 0 0 0 0 0 0 [], none, 0))
     have hfin := ac HR2.out (.mk 2 0 0 0 0 0 0 [], none, 0)
     obtain ⟨⟨y0, y1, y2, y3, y4, y5, y6, y7⟩, _⟩ := hfin.cells8
     have hRS := H2.out.boxW (b := w.heap.size) (by omega) (.mk 2 0 0 0 0 0 0 [], none, 0)
     have hOff := Off.boxW HO2.out (Nat.le_refl _) (.mk 2 0 0 0 0 0 0 [], none, 0)
     generalize aa w1 w.heap.size (.mk 2 0 0 0 0 0 0 [], none, 0) = W3 at *
     exact bodyPost_ret (v := aB (.mk 2 0 0 0 0 0 0 []) none 0) (by simp [results, Tryz.results117, y0, y1, y2, y3, y4, y5, y6, y7, go_sem]) rfl ⟨(.mk 2 0 0 0 0 0 0 [], none, 0), _, rfl, cB _ _ _ rfl, hRS, hOff, Out.good (by simp [aN]) rfl⟩
   have n94 := em (k := 94) (by omega) c94
   by_cases c36 : c = 36
   · subst c36
     obtain ⟨⟨r0, r1, r2, r3, r4, r5, r6, r7⟩, hz⟩ := R1.cells8
     obtain ⟨z0, z1, z2, z3, z4, z5, z6, z7⟩ := cM hz
     have lr := R1.lt
     clear hz
     have HR2 := hid R1; have H2 := hid h1; have HO2 := hid hO1
     clear R1 N1 h1 hO1
     go_wp2_with fail
     change bodyPost _ _ _ _ _ (aa w1 w.heap.size (.mk 3 0 0 0 0 0 0 [], none, 0))
     have hfin := ac HR2.out (.mk 3 0 0 0 0 0 0 [], none, 0)
     obtain ⟨⟨y0, y1, y2, y3, y4, y5, y6, y7⟩, _⟩ := hfin.cells8
     have hRS := H2.out.boxW (b := w.heap.size) (by omega) (.mk 3 0 0 0 0 0 0 [], none, 0)
     have hOff := Off.boxW HO2.out (Nat.le_refl _) (.mk 3 0 0 0 0 0 0 [], none, 0)
     generalize aa w1 w.heap.size (.mk 3 0 0 0 0 0 0 [], none, 0) = W3 at *
     exact bodyPost_ret (v := aB (.mk 3 0 0 0 0 0 0 []) none 0) (by simp [results, Tryz.results117, y0, y1, y2, y3, y4, y5, y6, y7, go_sem]) rfl ⟨(.mk 3 0 0 0 0 0 0 [], none, 0), _, rfl, cB _ _ _ rfl, hRS, hOff, Out.good (by simp [aN]) rfl⟩
   have n36 := em (k := 36) (by omega) c36
   by_cases c91 : c = 91
   · subst c91
     go_wp2_with fail
     refine (HB.out _ rfl (by simp) w1 p op t h1 (by have := HL.out; simp only [Rs.rest, List.length_cons] at this; omega)).mono ?_
     rintro en w2 ⟨S, s', rfl, h2, hO2, ho⟩
     have Ho := hid ho; clear ho
     have R2 := hO2.blk R1 (by omega)
     have N2 := hO2.blk N1 (by omega)
     have hO2 := hO1.trans hO2
     have HS := hid N2
     obtain ⟨⟨_, g1, g2, g3, g4, _⟩, gz⟩ := N2.cells8
     have gz1 := gz 1; have gz2 := gz 2; have gz3 := gz 3; have gz4 := gz 4
     have ln := N2.lt
     obtain ⟨⟨r0, r1, r2, r3, r4, r5, r6, r7⟩, hz⟩ := R2.cells8
     obtain ⟨⟨f0, _, _, _, _, f5, f6, f7⟩, _⟩ := N2.cells8
     obtain ⟨z0, z1, z2, z3, z4, z5, z6, z7⟩ := cM hz
     have lr := R2.lt
     clear hz gz
     have HR2 := hid R2; have H2 := hid h2; have HO2 := hid hO2
     clear R2 N2 h2 hO2 R1 N1 h1 hO1
     go_upto_region 22 with fail
     change Code.wp _ _ _ _ (rK w2 (w.heap.size + 1) S)
     have R2 := HR2.out.keep (eI w2 (w.heap.size + 1) S w.heap.size (by omega))
     have N2 := pD HS.out S
     have h2 := H2.out.fillW (b := w.heap.size + 1) (by omega) S
     have hO2 := Off.fillW HO2.out (b := w.heap.size + 1) (by omega) S
     clear r0 r1 r2 r3 r4 r5 r6 r7 f0 f5 f6 f7 g1 g2 g3 g4 gz1 gz2 gz3 gz4 z0 z1 z2 z3 z4 z5 z6 z7 lr ln HR2 H2 HO2 HS
     obtain ⟨x, hx⟩ : ∃ x : Nx, x = (S.T, none, 0) := ⟨_, rfl⟩
     rw [← hx] at N2
     have Hx := hid hx
     clear hx
     generalize rK w2 (w.heap.size + 1) S = W2 at *
     obtain ⟨⟨f0, f1, f2, f3, f4, f5, f6, f7⟩, _⟩ := N2.cells8
     obtain ⟨⟨r0, r1, r2, r3, r4, r5, r6, r7⟩, hz⟩ := R2.cells8
     obtain ⟨z0, z1, z2, z3, z4, z5, z6, z7⟩ := cM hz
     have lr := R2.lt
     have ln := N2.lt
     clear hz
     have HR2 := hid R2; have H2 := hid h2; have HO2 := hid hO2
     clear R2 N2 h2 hO2
     go_wp2_with fail
     change bodyPost _ _ _ _ _ (aa W2 w.heap.size x)
     have hfin := ac HR2.out x
     obtain ⟨⟨y0, y1, y2, y3, y4, y5, y6, y7⟩, _⟩ := hfin.cells8
     have hRS := H2.out.boxW (b := w.heap.size) (by omega) x
     have hOff := Off.boxW HO2.out (Nat.le_refl _) x
     have hNod : RowAt (aa W2 w.heap.size x) (fun b => w.heap.size ≤ b ∧ b < (aa W2 w.heap.size x).heap.size) x.1 x.2.1 x.2.2 := by rw [Hx.out]; exact cB _ _ _ rfl
     generalize aa W2 w.heap.size x = W3 at *
     refine bodyPost_ret (v := aB x.1 x.2.1 x.2.2) (by simp [results, Tryz.results117, y0, y1, y2, y3, y4, y5, y6, y7, go_sem]) rfl ⟨x, _, rfl, hNod, hRS, hOff, ?_⟩
     have e : aN grp (91 :: t) = (match bf t with | .error e => .error e | .ok (s, r1) => .ok (s.T, r1)) := by simp [aN] <;> rfl
     have hho := Ho.out
     simp only [Out, e] at hho ⊢
     cases hb : bf t with
     | error e' => simp only [hb] at hho ⊢; exact hho
     | ok y => obtain ⟨S', r'⟩ := y; simp only [hb] at hho ⊢; obtain ⟨rfl, h'⟩ := hho; exact ⟨by rw [Hx.out], h'⟩
   have n91 := em (k := 91) (by omega) c91
   by_cases c46 : c = 46
   · subst c46
     go_wp2_with fail
     refine (HD.out _ rfl (by simp) w1).mono ?_
     rintro en w2 ⟨rfl, hb2⟩
     have h2 := h1.later hb2
     have hO2 : Off p w1 w2 := Off.of_below hb2
     generalize hS : w40.span 0 256 = S
     have HSe := hid hS; clear hS
     have R2 := hO2.blk R1 (by omega)
     have N2 := hO2.blk N1 (by omega)
     have hO2 := hO1.trans hO2
     have HS := hid N2
     obtain ⟨⟨_, g1, g2, g3, g4, _⟩, gz⟩ := N2.cells8
     have gz1 := gz 1; have gz2 := gz 2; have gz3 := gz 3; have gz4 := gz 4
     have ln := N2.lt
     obtain ⟨⟨r0, r1, r2, r3, r4, r5, r6, r7⟩, hz⟩ := R2.cells8
     obtain ⟨⟨f0, _, _, _, _, f5, f6, f7⟩, _⟩ := N2.cells8
     obtain ⟨z0, z1, z2, z3, z4, z5, z6, z7⟩ := cM hz
     have lr := R2.lt
     clear hz gz
     have HR2 := hid R2; have H2 := hid h2; have HO2 := hid hO2
     clear R2 N2 h2 hO2 R1 N1 h1 hO1
     go_upto_region 22 with fail
     change Code.wp _ _ _ _ (rK w2 (w.heap.size + 1) S)
     have R2 := HR2.out.keep (eI w2 (w.heap.size + 1) S w.heap.size (by omega))
     have N2 := pD HS.out S
     have h2 := H2.out.fillW (b := w.heap.size + 1) (by omega) S
     have hO2 := Off.fillW HO2.out (b := w.heap.size + 1) (by omega) S
     clear r0 r1 r2 r3 r4 r5 r6 r7 f0 f5 f6 f7 g1 g2 g3 g4 gz1 gz2 gz3 gz4 z0 z1 z2 z3 z4 z5 z6 z7 lr ln HR2 H2 HO2 HS
     obtain ⟨x, hx⟩ : ∃ x : Nx, x = (S.T, none, 0) := ⟨_, rfl⟩
     rw [← hx] at N2
     have Hx := hid hx
     clear hx
     generalize rK w2 (w.heap.size + 1) S = W2 at *
     obtain ⟨⟨f0, f1, f2, f3, f4, f5, f6, f7⟩, _⟩ := N2.cells8
     obtain ⟨⟨r0, r1, r2, r3, r4, r5, r6, r7⟩, hz⟩ := R2.cells8
     obtain ⟨z0, z1, z2, z3, z4, z5, z6, z7⟩ := cM hz
     have lr := R2.lt
     have ln := N2.lt
     clear hz
     have HR2 := hid R2; have H2 := hid h2; have HO2 := hid hO2
     clear R2 N2 h2 hO2
     go_wp2_with fail
     change bodyPost _ _ _ _ _ (aa W2 w.heap.size x)
     have hfin := ac HR2.out x
     obtain ⟨⟨y0, y1, y2, y3, y4, y5, y6, y7⟩, _⟩ := hfin.cells8
     have hRS := H2.out.boxW (b := w.heap.size) (by omega) x
     have hOff := Off.boxW HO2.out (Nat.le_refl _) x
     have hNod : RowAt (aa W2 w.heap.size x) (fun b => w.heap.size ≤ b ∧ b < (aa W2 w.heap.size x).heap.size) x.1 x.2.1 x.2.2 := by rw [Hx.out]; exact cB _ _ _ rfl
     generalize aa W2 w.heap.size x = W3 at *
     refine bodyPost_ret (v := aB x.1 x.2.1 x.2.2) (by simp [results, Tryz.results117, y0, y1, y2, y3, y4, y5, y6, y7, go_sem]) rfl ⟨x, _, rfl, hNod, hRS, hOff, ?_⟩
     exact Out.good (x := (w40.span 0 256).T) (by simp [aN]) (by rw [Hx.out, HSe.out])
   have n46 := em (k := 46) (by omega) c46
   by_cases c42 : c = 42
   · subst c42
     go_wp2_with fail
     refine (dd 104 (by omega) h1).mono ?_
     rintro en W2 ⟨rfl, h2, hO2⟩
     have R2 := hO2.blk R1 (by omega)
     have N2 := hO2.blk N1 (by omega)
     have hO2 := hO1.trans hO2
     obtain ⟨x, hx⟩ : ∃ x : Nx, x = (w40.T, none, 0) := ⟨_, rfl⟩
     rw [← hx] at N2
     have Hx := hid hx
     clear hx R1 N1 h1 hO1
     obtain ⟨⟨f0, f1, f2, f3, f4, f5, f6, f7⟩, _⟩ := N2.cells8
     obtain ⟨⟨r0, r1, r2, r3, r4, r5, r6, r7⟩, hz⟩ := R2.cells8
     obtain ⟨z0, z1, z2, z3, z4, z5, z6, z7⟩ := cM hz
     have lr := R2.lt
     have ln := N2.lt
     clear hz
     have HR2 := hid R2; have H2 := hid h2; have HO2 := hid hO2
     clear R2 N2 h2 hO2
     go_wp2_with fail
     change bodyPost _ _ _ _ _ (aa W2 w.heap.size x)
     have hfin := ac HR2.out x
     obtain ⟨⟨y0, y1, y2, y3, y4, y5, y6, y7⟩, _⟩ := hfin.cells8
     have hRS := H2.out.boxW (b := w.heap.size) (by omega) x
     have hOff := Off.boxW HO2.out (Nat.le_refl _) x
     have hNod : RowAt (aa W2 w.heap.size x) (fun b => w.heap.size ≤ b ∧ b < (aa W2 w.heap.size x).heap.size) x.1 x.2.1 x.2.2 := by rw [Hx.out]; exact cB _ _ _ rfl
     generalize aa W2 w.heap.size x = W3 at *
     refine bodyPost_ret (v := aB x.1 x.2.1 x.2.2) (by simp [results, Tryz.results117, y0, y1, y2, y3, y4, y5, y6, y7, go_sem]) rfl ⟨x, _, rfl, hNod, hRS, hOff, ?_⟩
     exact Out.bad (by simp [aN])
   have n42 := em (k := 42) (by omega) c42
   by_cases c43 : c = 43
   · subst c43
     go_wp2_with fail
     refine (dd 104 (by omega) h1).mono ?_
     rintro en W2 ⟨rfl, h2, hO2⟩
     have R2 := hO2.blk R1 (by omega)
     have N2 := hO2.blk N1 (by omega)
     have hO2 := hO1.trans hO2
     obtain ⟨x, hx⟩ : ∃ x : Nx, x = (w40.T, none, 0) := ⟨_, rfl⟩
     rw [← hx] at N2
     have Hx := hid hx
     clear hx R1 N1 h1 hO1
     obtain ⟨⟨f0, f1, f2, f3, f4, f5, f6, f7⟩, _⟩ := N2.cells8
     obtain ⟨⟨r0, r1, r2, r3, r4, r5, r6, r7⟩, hz⟩ := R2.cells8
     obtain ⟨z0, z1, z2, z3, z4, z5, z6, z7⟩ := cM hz
     have lr := R2.lt
     have ln := N2.lt
     clear hz
     have HR2 := hid R2; have H2 := hid h2; have HO2 := hid hO2
     clear R2 N2 h2 hO2
     go_wp2_with fail
     change bodyPost _ _ _ _ _ (aa W2 w.heap.size x)
     have hfin := ac HR2.out x
     obtain ⟨⟨y0, y1, y2, y3, y4, y5, y6, y7⟩, _⟩ := hfin.cells8
     have hRS := H2.out.boxW (b := w.heap.size) (by omega) x
     have hOff := Off.boxW HO2.out (Nat.le_refl _) x
     have hNod : RowAt (aa W2 w.heap.size x) (fun b => w.heap.size ≤ b ∧ b < (aa W2 w.heap.size x).heap.size) x.1 x.2.1 x.2.2 := by rw [Hx.out]; exact cB _ _ _ rfl
     generalize aa W2 w.heap.size x = W3 at *
     refine bodyPost_ret (v := aB x.1 x.2.1 x.2.2) (by simp [results, Tryz.results117, y0, y1, y2, y3, y4, y5, y6, y7, go_sem]) rfl ⟨x, _, rfl, hNod, hRS, hOff, ?_⟩
     exact Out.bad (by simp [aN])
   have n43 := em (k := 43) (by omega) c43
   by_cases c63 : c = 63
   · subst c63
     go_wp2_with fail
     refine (dd 104 (by omega) h1).mono ?_
     rintro en W2 ⟨rfl, h2, hO2⟩
     have R2 := hO2.blk R1 (by omega)
     have N2 := hO2.blk N1 (by omega)
     have hO2 := hO1.trans hO2
     obtain ⟨x, hx⟩ : ∃ x : Nx, x = (w40.T, none, 0) := ⟨_, rfl⟩
     rw [← hx] at N2
     have Hx := hid hx
     clear hx R1 N1 h1 hO1
     obtain ⟨⟨f0, f1, f2, f3, f4, f5, f6, f7⟩, _⟩ := N2.cells8
     obtain ⟨⟨r0, r1, r2, r3, r4, r5, r6, r7⟩, hz⟩ := R2.cells8
     obtain ⟨z0, z1, z2, z3, z4, z5, z6, z7⟩ := cM hz
     have lr := R2.lt
     have ln := N2.lt
     clear hz
     have HR2 := hid R2; have H2 := hid h2; have HO2 := hid hO2
     clear R2 N2 h2 hO2
     go_wp2_with fail
     change bodyPost _ _ _ _ _ (aa W2 w.heap.size x)
     have hfin := ac HR2.out x
     obtain ⟨⟨y0, y1, y2, y3, y4, y5, y6, y7⟩, _⟩ := hfin.cells8
     have hRS := H2.out.boxW (b := w.heap.size) (by omega) x
     have hOff := Off.boxW HO2.out (Nat.le_refl _) x
     have hNod : RowAt (aa W2 w.heap.size x) (fun b => w.heap.size ≤ b ∧ b < (aa W2 w.heap.size x).heap.size) x.1 x.2.1 x.2.2 := by rw [Hx.out]; exact cB _ _ _ rfl
     generalize aa W2 w.heap.size x = W3 at *
     refine bodyPost_ret (v := aB x.1 x.2.1 x.2.2) (by simp [results, Tryz.results117, y0, y1, y2, y3, y4, y5, y6, y7, go_sem]) rfl ⟨x, _, rfl, hNod, hRS, hOff, ?_⟩
     exact Out.bad (by simp [aN])
   have n63 := em (k := 63) (by omega) c63
   by_cases c123 : c = 123
   · subst c123
     go_wp2_with fail
     refine (dd 104 (by omega) h1).mono ?_
     rintro en W2 ⟨rfl, h2, hO2⟩
     have R2 := hO2.blk R1 (by omega)
     have N2 := hO2.blk N1 (by omega)
     have hO2 := hO1.trans hO2
     obtain ⟨x, hx⟩ : ∃ x : Nx, x = (w40.T, none, 0) := ⟨_, rfl⟩
     rw [← hx] at N2
     have Hx := hid hx
     clear hx R1 N1 h1 hO1
     obtain ⟨⟨f0, f1, f2, f3, f4, f5, f6, f7⟩, _⟩ := N2.cells8
     obtain ⟨⟨r0, r1, r2, r3, r4, r5, r6, r7⟩, hz⟩ := R2.cells8
     obtain ⟨z0, z1, z2, z3, z4, z5, z6, z7⟩ := cM hz
     have lr := R2.lt
     have ln := N2.lt
     clear hz
     have HR2 := hid R2; have H2 := hid h2; have HO2 := hid hO2
     clear R2 N2 h2 hO2
     go_wp2_with fail
     change bodyPost _ _ _ _ _ (aa W2 w.heap.size x)
     have hfin := ac HR2.out x
     obtain ⟨⟨y0, y1, y2, y3, y4, y5, y6, y7⟩, _⟩ := hfin.cells8
     have hRS := H2.out.boxW (b := w.heap.size) (by omega) x
     have hOff := Off.boxW HO2.out (Nat.le_refl _) x
     have hNod : RowAt (aa W2 w.heap.size x) (fun b => w.heap.size ≤ b ∧ b < (aa W2 w.heap.size x).heap.size) x.1 x.2.1 x.2.2 := by rw [Hx.out]; exact cB _ _ _ rfl
     generalize aa W2 w.heap.size x = W3 at *
     refine bodyPost_ret (v := aB x.1 x.2.1 x.2.2) (by simp [results, Tryz.results117, y0, y1, y2, y3, y4, y5, y6, y7, go_sem]) rfl ⟨x, _, rfl, hNod, hRS, hOff, ?_⟩
     exact Out.bad (by simp [aN])
   have n123 := em (k := 123) (by omega) c123
   by_cases c92 : c = 92
   · subst c92
     rcases t with _ | ⟨y, t'⟩
     · go_wp2_with fail
       refine (iR 106 (by omega) h1).mono ?_
       rintro en w3 ⟨rfl, h3, hO3⟩
       have R1 := hO3.blk R1 (by omega)
       have N1 := hO3.blk N1 (by omega)
       have hO1 := hO1.trans hO3
       have h1 := h3
       clear h3 hO3
       go_wp2_with fail
       refine (du w3 (w.heap.size + 1) 1 w40 0 (by omega) N1.at4 N1.froz).mono ?_
       rintro en w2 ⟨rfl, rfl⟩
       have R2 : bj (addW w3 (w.heap.size + 1) 1 w40 0).drew w.heap.size (ar (.mk 0 0 0 0 0 0 0 [], none, 0)).toArray := R1.keep (cu _ _ _ _ _ _ (by omega))
       have N2 : bj (addW w3 (w.heap.size + 1) 1 w40 0).drew (w.heap.size + 1) (ar ((w40.add 0).T, none, 0)).toArray := gH N1 0 (by omega)
       have h2 := h1.putW (b := w.heap.size + 1) (by omega) 1 w40 0
       have hO2 := Off.putW hO1 (b := w.heap.size + 1) (by omega) 1 w40 0
       obtain ⟨x, hx⟩ : ∃ x : Nx, x = ((w40.add 0).T, none, 0) := ⟨_, rfl⟩
       rw [← hx] at N2
       have Hx := hid hx
       clear hx R1 N1 h1 hO1
       generalize (addW w3 (w.heap.size + 1) 1 w40 0).drew = W2 at *
       obtain ⟨⟨f0, f1, f2, f3, f4, f5, f6, f7⟩, _⟩ := N2.cells8
       obtain ⟨⟨r0, r1, r2, r3, r4, r5, r6, r7⟩, hz⟩ := R2.cells8
       obtain ⟨z0, z1, z2, z3, z4, z5, z6, z7⟩ := cM hz
       have lr := R2.lt
       have ln := N2.lt
       clear hz
       have HR2 := hid R2; have H2 := hid h2; have HO2 := hid hO2
       clear R2 N2 h2 hO2
       go_wp2_with fail
       change bodyPost _ _ _ _ _ (aa W2 w.heap.size x)
       have hfin := ac HR2.out x
       obtain ⟨⟨y0, y1, y2, y3, y4, y5, y6, y7⟩, _⟩ := hfin.cells8
       have hRS := H2.out.boxW (b := w.heap.size) (by omega) x
       have hOff := Off.boxW HO2.out (Nat.le_refl _) x
       have hNod : RowAt (aa W2 w.heap.size x) (fun b => w.heap.size ≤ b ∧ b < (aa W2 w.heap.size x).heap.size) x.1 x.2.1 x.2.2 := by rw [Hx.out]; exact cB _ _ _ rfl
       generalize aa W2 w.heap.size x = W3 at *
       refine bodyPost_ret (v := aB x.1 x.2.1 x.2.2) (by simp [results, Tryz.results117, y0, y1, y2, y3, y4, y5, y6, y7, go_sem]) rfl ⟨x, _, rfl, hNod, hRS, hOff, ?_⟩
       exact Out.bad (by simp [aN])
     · have hy := y.toNat_lt
       go_wp2_with fail
       refine (jm 106 (by omega) h1).mono ?_
       rintro en w3 ⟨rfl, h3, hO3⟩
       have R1 := hO3.blk R1 (by omega)
       have N1 := hO3.blk N1 (by omega)
       have hO1 := hO1.trans hO3
       have h1 := h3
       clear h3 hO3
       go_wp2_with fail
       refine (du w3 (w.heap.size + 1) 1 w40 y.toNat (by omega) N1.at4 N1.froz).mono ?_
       rintro en w2 ⟨rfl, rfl⟩
       have R2 : bj (addW w3 (w.heap.size + 1) 1 w40 y.toNat).drew w.heap.size (ar (.mk 0 0 0 0 0 0 0 [], none, 0)).toArray := R1.keep (cu _ _ _ _ _ _ (by omega))
       have N2 : bj (addW w3 (w.heap.size + 1) 1 w40 y.toNat).drew (w.heap.size + 1) (ar ((w40.add y.toNat).T, none, 0)).toArray := gH N1 y.toNat (by omega)
       have h2 := h1.putW (b := w.heap.size + 1) (by omega) 1 w40 y.toNat
       have hO2 := Off.putW hO1 (b := w.heap.size + 1) (by omega) 1 w40 y.toNat
       obtain ⟨x, hx⟩ : ∃ x : Nx, x = ((w40.add y.toNat).T, none, 0) := ⟨_, rfl⟩
       rw [← hx] at N2
       have Hx := hid hx
       clear hx R1 N1 h1 hO1
       generalize (addW w3 (w.heap.size + 1) 1 w40 y.toNat).drew = W2 at *
       obtain ⟨⟨f0, f1, f2, f3, f4, f5, f6, f7⟩, _⟩ := N2.cells8
       obtain ⟨⟨r0, r1, r2, r3, r4, r5, r6, r7⟩, hz⟩ := R2.cells8
       obtain ⟨z0, z1, z2, z3, z4, z5, z6, z7⟩ := cM hz
       have lr := R2.lt
       have ln := N2.lt
       clear hz
       have HR2 := hid R2; have H2 := hid h2; have HO2 := hid hO2
       clear R2 N2 h2 hO2
       go_wp2_with fail
       change bodyPost _ _ _ _ _ (aa W2 w.heap.size x)
       have hfin := ac HR2.out x
       obtain ⟨⟨y0, y1, y2, y3, y4, y5, y6, y7⟩, _⟩ := hfin.cells8
       have hRS := H2.out.boxW (b := w.heap.size) (by omega) x
       have hOff := Off.boxW HO2.out (Nat.le_refl _) x
       have hNod : RowAt (aa W2 w.heap.size x) (fun b => w.heap.size ≤ b ∧ b < (aa W2 w.heap.size x).heap.size) x.1 x.2.1 x.2.2 := by rw [Hx.out]; exact cB _ _ _ rfl
       generalize aa W2 w.heap.size x = W3 at *
       refine bodyPost_ret (v := aB x.1 x.2.1 x.2.2) (by simp [results, Tryz.results117, y0, y1, y2, y3, y4, y5, y6, y7, go_sem]) rfl ⟨x, _, rfl, hNod, hRS, hOff, ?_⟩
       exact Out.good (x := (w40.add y.toNat).T) (by simp [aN]) (by rw [Hx.out])
   have n92 := em (k := 92) (by omega) c92
   have hy := c.toNat_lt
   have hres : aN grp (c :: t) = .ok ((w40.add c.toNat).T, t) := by simp [aN, c40, c94, c36, c91, c46, c42, c43, c63, c123, c92]
   have Hres := hid hres; clear hres c40 c94 c36 c91 c46 c42 c43 c63 c123 c92
   go_wp2_with fail
   refine (du w1 (w.heap.size + 1) 1 w40 c.toNat (by omega) N1.at4 N1.froz).mono ?_
   rintro en w2 ⟨rfl, rfl⟩
   have R2 : bj (addW w1 (w.heap.size + 1) 1 w40 c.toNat).drew w.heap.size (ar (.mk 0 0 0 0 0 0 0 [], none, 0)).toArray := R1.keep (cu _ _ _ _ _ _ (by omega))
   have N2 : bj (addW w1 (w.heap.size + 1) 1 w40 c.toNat).drew (w.heap.size + 1) (ar ((w40.add c.toNat).T, none, 0)).toArray := gH N1 c.toNat (by omega)
   have h2 := h1.putW (b := w.heap.size + 1) (by omega) 1 w40 c.toNat
   have hO2 := Off.putW hO1 (b := w.heap.size + 1) (by omega) 1 w40 c.toNat
   obtain ⟨x, hx⟩ : ∃ x : Nx, x = ((w40.add c.toNat).T, none, 0) := ⟨_, rfl⟩
   rw [← hx] at N2
   have Hx := hid hx
   clear hx R1 N1 h1 hO1
   generalize (addW w1 (w.heap.size + 1) 1 w40 c.toNat).drew = W2 at *
   obtain ⟨⟨f0, f1, f2, f3, f4, f5, f6, f7⟩, _⟩ := N2.cells8
   obtain ⟨⟨r0, r1, r2, r3, r4, r5, r6, r7⟩, hz⟩ := R2.cells8
   obtain ⟨z0, z1, z2, z3, z4, z5, z6, z7⟩ := cM hz
   have lr := R2.lt
   have ln := N2.lt
   clear hz
   have HR2 := hid R2; have H2 := hid h2; have HO2 := hid hO2
   clear R2 N2 h2 hO2
   go_wp2_with fail
   change bodyPost _ _ _ _ _ (aa W2 w.heap.size x)
   have hfin := ac HR2.out x
   obtain ⟨⟨y0, y1, y2, y3, y4, y5, y6, y7⟩, _⟩ := hfin.cells8
   have hRS := H2.out.boxW (b := w.heap.size) (by omega) x
   have hOff := Off.boxW HO2.out (Nat.le_refl _) x
   have hNod : RowAt (aa W2 w.heap.size x) (fun b => w.heap.size ≤ b ∧ b < (aa W2 w.heap.size x).heap.size) x.1 x.2.1 x.2.2 := by rw [Hx.out]; exact cB _ _ _ rfl
   generalize aa W2 w.heap.size x = W3 at *
   refine bodyPost_ret (v := aB x.1 x.2.1 x.2.2) (by simp [results, Tryz.results117, y0, y1, y2, y3, y4, y5, y6, y7, go_sem]) rfl ⟨x, _, rfl, hNod, hRS, hOff, ?_⟩
   exact Out.good (x := (w40.add c.toNat).T) Hres.out (by rw [Hx.out])
def sJ (p : Nat) (op : Int) (grp : Bs → PT) (s : Rs) (w : World) (bn : Nat) (wr : World) (n : Nat) : Prop :=
 ∃ (x : Nx) (s' : Rs), n = s'.rest.length + 1 ∧ bj wr w.heap.size (ar (.mk 0 0 0 0 0 0 0 [], none, 0)).toArray ∧ bj wr bn (ar x).toArray ∧ RowAt wr (fun b => w.heap.size < b ∧ b < wr.heap.size ∧ b ≠ bn) x.1 x.2.1 x.2.2 ∧ RS wr p op s' ∧ Off p w wr ∧
  ((∃ e, s' = .error e ∧ (s = .error e ∨ ∃ r, s = .ok r ∧ aT grp r = .error e)) ∨ ∃ r r' k, s = .ok r ∧ s' = .ok r' ∧ r'.length < k ∧ aT grp r = cG k x.1 r')
structure PieceR2 (p : Nat) (op : Int) (w wr : World) (bn : Nat) (t : T) (A : Option Addr) (c : Nat) (mm mx : Int) (s : Rs) (W : World) : Prop where
 R : bj W w.heap.size (ar (.mk 0 0 0 0 0 0 0 [], none, 0)).toArray
 N : bj W bn (ar (t, A, c)).toArray
 X : bj W (wr.heap.size + 1) (ar (cO mm mx t, some ⟨wr.heap.size, 0, none⟩, 1)).toArray
 node : ∀ m n, RowAt W (fun b => w.heap.size < b ∧ b < wr.heap.size + 1 ∧ b ≠ bn) (cO m n t) (some ⟨wr.heap.size, 0, none⟩) 1
 x : RowAt W (fun b => w.heap.size < b ∧ b < wr.heap.size ∧ b ≠ bn) t A c
 S : RS W p op s
 O : Off p w W
theorem PieceR2.off {p : Nat} {op : Int} {w wr : World} {bn : Nat} {t : T} {A : Option Addr} {c : Nat} {mm mx : Int} {s : Rs} {W : World} (h : PieceR2 p op w wr bn t A c mm mx s W) {s' : Rs} {W' : World} (hp : p < w.heap.size) (hbn : w.heap.size < bn) (hwr : bn < wr.heap.size) (hO : Off p W W') (hS : RS W' p op s') : PieceR2 p op w wr bn t A c mm mx s' W' := by
 have lx := h.X.lt
 exact ⟨Off.blk hO h.R (by omega), Off.blk hO h.N (by omega), Off.blk hO h.X (by omega), fun m n => (h.node m n).mono fun b (hb : w.heap.size < b ∧ b < wr.heap.size + 1 ∧ b ≠ bn) => ⟨hb, Off.blockN hO (by omega) (by omega)⟩, h.x.mono fun b (hb : w.heap.size < b ∧ b < wr.heap.size ∧ b ≠ bn) => ⟨hb, Off.blockN hO (by omega) (by omega)⟩, hS, Off.trans h.O hO⟩
theorem PieceR2.put {p : Nat} {op : Int} {w wr : World} {bn : Nat} {t : T} {A : Option Addr} {c : Nat} {mm mx : Int} {s : Rs} {W : World} (h : PieceR2 p op w wr bn t A c mm mx s W) {m' n' : Int} {W' : World} (hp : p < w.heap.size) (hbn : w.heap.size < bn) (hwr : bn < wr.heap.size)
 (hX : bj W' (wr.heap.size + 1) (ar (cO m' n' t, some ⟨wr.heap.size, 0, none⟩, 1)).toArray) (hz : W'.heap.size = W.heap.size) (hb : Below 0 W W') (hk : ∀ k, k ≠ wr.heap.size + 1 → W'.heap[k]? = W.heap[k]?) : PieceR2 p op w wr bn t A c m' n' s W' := by
 have lx := h.X.lt
 have hc : ∀ b o, b ≠ wr.heap.size + 1 → W'.cell? ⟨b, o, none⟩ = W.cell? ⟨b, o, none⟩ := fun b o hb => World.cell?_of_block (w := W) (a := ⟨b, o, none⟩) (hk b hb)
 exact ⟨h.R.keep (hk _ (by omega)), h.N.keep (hk _ (by omega)), hX, fun m n => (h.node m n).mono fun b (hb : w.heap.size < b ∧ b < wr.heap.size + 1 ∧ b ≠ bn) => ⟨hb, hk b (by omega)⟩, h.x.mono fun b (hb : w.heap.size < b ∧ b < wr.heap.size ∧ b ≠ bn) => ⟨hb, hk b (by omega)⟩, h.S.kept (by omega) (hk _ (by omega)) (hk _ (by omega)), Off.far h.O (b := wr.heap.size + 1) (by omega) hb.os hb.tape hb.output hz hk⟩
theorem PieceR2.set5 {p : Nat} {op : Int} {w wr : World} {bn : Nat} {t : T} {A : Option Addr} {c : Nat} {mm mx : Int} {s : Rs} {W : World} (h : PieceR2 p op w wr bn t A c mm mx s W) (hp : p < w.heap.size) (hbn : w.heap.size < bn) (hwr : bn < wr.heap.size) (m' : Int) : PieceR2 p op w wr bn t A c m' mx s (W.setCell ⟨wr.heap.size + 1, 5, none⟩ (.int .i64 m')) := by
 refine h.put hp hbn hwr ?_ (by simp) ((Below.refl 0 W).setCell (Nat.zero_le _) _) (fun k hk => Below.heap_setCell _ _ _ _ hk)
 have h1 := h.X.set 5 (.int .i64 m')
 simpa [ar, cO, T.k, T.s0, T.s1, T.s2, T.s3, T.mn, T.mx, T.ps] using h1
theorem PieceR2.set6 {p : Nat} {op : Int} {w wr : World} {bn : Nat} {t : T} {A : Option Addr} {c : Nat} {mm mx : Int} {s : Rs} {W : World} (h : PieceR2 p op w wr bn t A c mm mx s W) (hp : p < w.heap.size) (hbn : w.heap.size < bn) (hwr : bn < wr.heap.size) (m' : Int) : PieceR2 p op w wr bn t A c mm m' s (W.setCell ⟨wr.heap.size + 1, 6, none⟩ (.int .i64 m')) := by
 refine h.put hp hbn hwr ?_ (by simp) ((Below.refl 0 W).setCell (Nat.zero_le _) _) (fun k hk => Below.heap_setCell _ _ _ _ hk)
 have h1 := h.X.set 6 (.int .i64 m')
 simpa [ar, cO, T.k, T.s0, T.s1, T.s2, T.s3, T.mn, T.mx, T.ps] using h1
theorem PieceR2.done {p : Nat} {op : Int} {w wr : World} {bn : Nat} {t : T} {A : Option Addr} {c : Nat} {mm mx : Int} {s : Rs} {W : World} (h : PieceR2 p op w wr bn t A c mm mx s W) (hp : p < w.heap.size) (hbn : w.heap.size < bn) (hwr : bn < wr.heap.size) :
 (fun W' => bj W' w.heap.size (ar (.mk 0 0 0 0 0 0 0 [], none, 0)).toArray ∧ bj W' bn (ar (cO mm mx t, some ⟨wr.heap.size, 0, none⟩, 1)).toArray ∧ RowAt W' (fun b => w.heap.size < b ∧ b < W'.heap.size ∧ b ≠ bn) (cO mm mx t) (some ⟨wr.heap.size, 0, none⟩) 1 ∧ RS W' p op s ∧ Off p w W') (aa W bn (cO mm mx t, some ⟨wr.heap.size, 0, none⟩, 1)) := by
 have lx := h.X.lt
 refine ⟨h.R.keep (af _ _ _ _ (by omega)), ac h.N _, (h.node mm mx).mono fun b (hb : w.heap.size < b ∧ b < wr.heap.size + 1 ∧ b ≠ bn) => ⟨⟨hb.1, by rw [ai]; omega, hb.2.2⟩, (af _ _ _ _ hb.2.2)⟩, h.S.boxW (by omega) _, Off.boxW h.O (by omega) _⟩
theorem rd (w : World) (p : Nat) (op : Int) (s : Rs) (h : RS w p op s) (hs : s.rest.length ≤ 1024) (grp : Bs → PT) (hB : ∀ r, s = .ok r → 91 ∈ r → BrC) (hD : ∀ r, s = .ok r → 46 ∈ r → oa)
 (hG : ∀ (w : World) (s : Rs), RS w p op s → s.rest.length ≤ 1024 → (∀ r, s = .ok r → 91 ∈ r → BrC) → (∀ r, s = .ok r → 46 ∈ r → oa) → Calls Tryz.prog 128 #[.pointer (some ⟨p, 0, none⟩)] w fun en w' => ee p op grp s w en w') :
 Calls Tryz.prog 100 #[.pointer (some ⟨p, 0, none⟩)] w fun en w' => ee p op (aT grp) s w en w' := by
 have hlt := h.lt
 have hat : ∀ (w : World), RS w p op s → Calls Tryz.prog 117 #[.pointer (some ⟨p, 0, none⟩)] w fun en w' => ee p op (aN grp) s w en w' := fun w h => uH w p op s h hs grp hB hD hG
 have HA := hid hat; clear hat hB hD hG hs
 have H := hid h; clear h
 go_enter Tryz.func100, Tryz.ntmps100
 go_wp2_with fail
 generalize hW : w.alloc _ = W0
 have hB0 : Below w.heap.size w W0 := by subst hW; exact nal
 have R0 : bj W0 w.heap.size (ar (.mk 0 0 0 0 0 0 0 [], none, 0)).toArray := by subst hW; exact bj.new w _
 have hz0 : W0.heap.size = w.heap.size + 1 := by subst hW; simp
 clear hW
 refine (HA.out W0 (H.out.later hB0)).mono ?_
 rintro en w1 ⟨⟨t1, A1, c1⟩, s1, rfl, hx1, h1, hO1, ho1⟩
 have R1 := hO1.blk R0 (by omega)
 have hz1 := hO1.size
 have Hx1 := hid hx1; have Ho1 := hid ho1; have Hz0 := hid hz0
 have hz0' : w.heap.size < W0.heap.size := by omega
 clear hx1 ho1 hz0
 go_wp2_with fail
 generalize hW : w1.alloc _ = W1
 have hb1 : Below w1.heap.size w1 W1 := by subst hW; exact nal
 have N1 : bj W1 w1.heap.size (ar (t1, A1, c1)).toArray := by subst hW; exact bj.new w1 _
 have hz2 : w1.heap.size < W1.heap.size := by subst hW; simp
 have hI : sJ p op grp s w w1.heap.size W1 (s1.rest.length + 1) := by
  refine ⟨(t1, A1, c1), s1, rfl, R1.keep (hb1.block _ R1.lt), N1, Hx1.out.mono fun b (hb : W0.heap.size ≤ b ∧ b < w1.heap.size) => ⟨⟨by omega, by omega, by omega⟩, hb1.block _ hb.2⟩, h1.later hb1, ((Off.of_below hB0).trans hO1).trans (Off.of_below hb1), ?_⟩
  have ho := Ho1.out
  rcases s with e | r
  · cases (show s1 = .error e from ho)
    exact .inl ⟨e, rfl, .inl rfl⟩
  · cases ha : aN grp r with
    | error e =>
     simp only [Out, ha] at ho
     exact .inl ⟨e, ho, .inr ⟨r, rfl, by simp only [aT, ha]⟩⟩
    | ok y =>
     obtain ⟨n, r1⟩ := y
     simp only [Out, ha] at ho
     obtain ⟨rfl, rfl⟩ := ho
     exact .inr ⟨r, r1, r1.length + 1, rfl, rfl, by omega, by simp only [aT, ha]⟩
 have HI := hid hI
 generalize hbn : w1.heap.size = bn at *
 have hbw : w.heap.size < bn := by omega
 clear hW hI N1 R1 h1 hO1 hb1 Hx1 Ho1 Hz0 hz0' hz1 hbn hB0 R0
 go_loopg [] (s1.rest.length + 1) (fun n wr => sJ p op grp s w bn wr n)
 case atStart => exact HI.out
 case round =>
  clear HI
  obtain ⟨⟨t, A, c⟩, s', hn, hR, hN, hX, hS, hO, hcase⟩ := hrel
  have Hn := hid hn; have HX := hid hX; have HC := hid hcase; have HN := hid hN; have HR := hid hR; have HS := hid hS; have HO := hid hO
  have ltn := hN.lt
  have lts := hS.lt
  obtain ⟨⟨f0, f1, f2, f3, f4, f5, f6, f7⟩, _⟩ := hN.cells8
  clear hn hX hcase hN hR hS hO
  go_wp2_with fail
  generalize hW : (wr.alloc _).alloc _ = W2
  have hP : PieceR2 p op w wr bn t A c 0 (-1) s' W2 := by
   obtain ⟨wa, ha⟩ : ∃ wa, wa = wr.alloc (.cells (bq [(t, A, c)]).toArray 48) := ⟨_, rfl⟩
   have hza : wa.heap.size = wr.heap.size + 1 := by rw [ha]; simp
   have hba : Below wr.heap.size wr wa := by rw [ha]; exact nal
   have h8 := wu [(t, A, c)] ha 0 _ rfl
   have hW' : W2 = wa.alloc (.cells (ar (cO 0 (-1) t, some ⟨wr.heap.size, 0, none⟩, 1)).toArray 48) := by rw [← hW, ha]; rfl
   have hbb : Below wa.heap.size wa W2 := by rw [hW']; exact nal
   have hX := bj.new wa (ar (cO 0 (-1) t, some ⟨wr.heap.size, 0, none⟩, 1)).toArray
   rw [← hW', hza] at hX
   have hbel : Below wr.heap.size wr W2 := hba.trans (hbb.mono hba.size)
   have hx : RowAt W2 (fun b => w.heap.size < b ∧ b < wr.heap.size ∧ b ≠ bn) t A c := HX.out.mono fun b hb => ⟨hb, hbel.block _ hb.2.1⟩
   refine ⟨HR.out.keep (hbel.block _ HR.out.lt), HN.out.keep (hbel.block _ HN.out.lt), hX, fun m n => ?_, hx, HS.out.later hbel, Off.trans HO.out (Off.of_below hbel)⟩
   have hblk : W2.heap[wr.heap.size]? = some (.cells (bq [(t, A, c)]).toArray 48 (0, 0)) := (hbb.block _ (by omega)).trans (by rw [ha]; exact heap_alloc_new wr _)
   exact xj (cO m n t) [(t, A, c)] rfl (by simp) ⟨by omega, by omega, by omega⟩ hblk (fun y hy => by simp only [List.mem_singleton] at hy; subst hy; exact hx.mono fun b hb => ⟨⟨hb.1, by omega, hb.2.2⟩, rfl⟩)
  clear hW f0 f1 f2 f3 f4 f5 f6 f7 HR HN HX HS HO
  rcases s' with e | r'
  · go_wp2_with fail
    refine (dm [42] (by simp) hP.S).mono ?_
    rintro en W3 ⟨rfl, h2, hO2⟩
    have hP := hP.off hlt hbw ltn hO2 h2
    clear h2 hO2
    go_wp2_with fail
    refine (dm [43] (by simp) hP.S).mono ?_
    rintro en W4 ⟨rfl, h2, hO2⟩
    have hP := hP.off hlt hbw ltn hO2 h2
    clear h2 hO2
    go_wp2_with fail
    refine (dm [63] (by simp) hP.S).mono ?_
    rintro en W5 ⟨rfl, h2, hO2⟩
    have hP := hP.off hlt hbw ltn hO2 h2
    clear h2 hO2
    go_wp2_with fail
    refine (dm [123] (by simp) hP.S).mono ?_
    rintro en W6 ⟨rfl, h2, hO2⟩
    have hP := hP.off hlt hbw ltn hO2 h2
    clear h2 hO2
    obtain ⟨⟨n0, n1, n2, n3, n4, n5, n6, n7⟩, _⟩ := hP.N.cells8
    have ln := hP.N.lt
    obtain ⟨⟨r0, r1_, r2_, r3, r4, r5, r6, r7⟩, hz⟩ := hP.R.cells8
    obtain ⟨z0, z1, z2, z3, z4, z5, z6, z7⟩ := cM hz
    have lr := hP.R.lt
    clear hz
    have HP := hid hP; clear hP
    go_wp2_with fail
    change bodyPost _ _ _ _ _ (aa W6 w.heap.size (t, A, c))
    have hfin := ac HP.out.R (t, A, c)
    obtain ⟨⟨y0, y1, y2, y3, y4, y5, y6, y7⟩, _⟩ := hfin.cells8
    have hRS := HP.out.S.boxW (b := w.heap.size) (by omega) (t, A, c)
    have hOff := Off.boxW HP.out.O (Nat.le_refl _) (t, A, c)
    have hlw := HP.out.X.lt
    have hNod : RowAt (aa W6 w.heap.size (t, A, c)) (fun b => w.heap.size ≤ b ∧ b < (aa W6 w.heap.size (t, A, c)).heap.size) t A c := HP.out.x.mono fun k (hk : w.heap.size < k ∧ k < wr.heap.size ∧ k ≠ bn) => ⟨⟨by omega, by rw [ai]; omega⟩, (af _ _ _ _ (show k ≠ w.heap.size by omega))⟩
    generalize aa W6 w.heap.size (t, A, c) = W3 at *
    refine bodyPost_ret (v := aB t A c) (by simp [results, Tryz.results100, y0, y1, y2, y3, y4, y5, y6, y7, go_sem]) rfl ⟨(t, A, c), _, rfl, hNod, hRS, hOff, ?_⟩
    rcases HC.out with ⟨e', he, hs⟩ | ⟨r, r', k, _, he, _⟩
    · cases he
      rcases hs with rfl | ⟨r, rfl, hp⟩
      · exact Out.err
      · exact Out.bad hp
    · cases he
  · have hcs : ∃ r k, s = .ok r ∧ r'.length < k + 1 ∧ aT grp r = cG (k + 1) t r' := by
     rcases HC.out with ⟨e', he, hs⟩ | ⟨r, r2, k, hs, he, hk, hpp⟩
     · cases he
     · cases he
       obtain ⟨k', rfl⟩ : ∃ k', k = k' + 1 := ⟨k - 1, by omega⟩
       exact ⟨r, k', hs, hk, hpp⟩
    obtain ⟨r, k, hsr, hk, hpp⟩ := hcs
    have Hpp := hid hpp; have Hsr := hid hsr; clear hpp hsr HC
    rcases ht : aq [42] r' with _ | r2
    case' some =>
     have hsu : cG (k + 1) t r' = cG k (cO (0) (-1) t) r2 := by rw [cG]; simp only [ht]
     have hl := am ht
     simp only [List.length_cons, List.length_nil] at hl
     have Hsu := hid hsu; have Ht := hid ht; clear hsu ht
     go_wp2_with fail
     refine (cg [42] (by simp) Ht.out hP.S).mono ?_
     rintro en W3 ⟨rfl, h2, hO2⟩
     have hP := hP.off hlt hbw ltn hO2 h2
     clear h2 hO2
     obtain ⟨⟨n0, n1, n2, n3, n4, n5, n6, n7⟩, hz⟩ := hP.N.cells8
     have zn0 := hz 0; have zn1 := hz 1; have zn2 := hz 2; have zn3 := hz 3; have zn4 := hz 4; have zn5 := hz 5; have zn6 := hz 6; have zn7 := hz 7
     have ln := hP.N.lt
     clear hz
     obtain ⟨⟨x0, x1, x2, x3, x4, x5, x6, x7⟩, hz⟩ := hP.X.cells8
     have zx5 := hz 5; have zx6 := hz 6
     have lx := hP.X.lt
     clear hz
     have HP := hid hP; clear hP
     go_wp2_with fail
     go_roundg (r2.length + 1)
     case measure => have := Hn.out; simp only [Rs.rest] at this; omega
     case rel =>
      obtain ⟨d1, d2, d3, d4, d5⟩ := HP.out.done hlt hbw ltn
      exact ⟨(cO (0) (-1) t, some ⟨wr.heap.size, 0, none⟩, 1), .ok r2, rfl, d1, d2, d3, d4, d5, (.inr ⟨r, r2, k, Hsr.out, rfl, by omega, by rw [Hpp.out, Hsu.out]⟩)⟩
    have Ht42 := hid ht; clear ht
    rcases ht : aq [43] r' with _ | r2
    case' some =>
     have hsu : cG (k + 1) t r' = cG k (cO (1) (-1) t) r2 := by rw [cG]; simp only [Ht42.out, ht]
     have hl := am ht
     simp only [List.length_cons, List.length_nil] at hl
     have Hsu := hid hsu; have Ht := hid ht; clear hsu ht
     go_wp2_with fail
     refine (aX [42] (by simp) Ht42.out hP.S).mono ?_
     rintro en W3 ⟨rfl, h2, hO2⟩
     have hP := hP.off hlt hbw ltn hO2 h2
     clear h2 hO2
     go_wp2_with fail
     refine (cg [43] (by simp) Ht.out hP.S).mono ?_
     rintro en W4 ⟨rfl, h2, hO2⟩
     have hP := hP.off hlt hbw ltn hO2 h2
     clear h2 hO2
     obtain ⟨⟨n0, n1, n2, n3, n4, n5, n6, n7⟩, hz⟩ := hP.N.cells8
     have zn0 := hz 0; have zn1 := hz 1; have zn2 := hz 2; have zn3 := hz 3; have zn4 := hz 4; have zn5 := hz 5; have zn6 := hz 6; have zn7 := hz 7
     have ln := hP.N.lt
     clear hz
     obtain ⟨⟨x0, x1, x2, x3, x4, x5, x6, x7⟩, hz⟩ := hP.X.cells8
     have zx5 := hz 5; have zx6 := hz 6
     have lx := hP.X.lt
     clear hz
     have HP := hid (hP.set5 hlt hbw ltn 1); clear hP
     go_wp2_with fail
     go_roundg (r2.length + 1)
     case measure => have := Hn.out; simp only [Rs.rest] at this; omega
     case rel =>
      obtain ⟨d1, d2, d3, d4, d5⟩ := HP.out.done hlt hbw ltn
      exact ⟨(cO (1) (-1) t, some ⟨wr.heap.size, 0, none⟩, 1), .ok r2, rfl, d1, d2, d3, d4, d5, (.inr ⟨r, r2, k, Hsr.out, rfl, by omega, by rw [Hpp.out, Hsu.out]⟩)⟩
    have Ht43 := hid ht; clear ht
    rcases ht : aq [63] r' with _ | r2
    case' some =>
     have hsu : cG (k + 1) t r' = cG k (cO (0) (1) t) r2 := by rw [cG]; simp only [Ht42.out, Ht43.out, ht]
     have hl := am ht
     simp only [List.length_cons, List.length_nil] at hl
     have Hsu := hid hsu; have Ht := hid ht; clear hsu ht
     go_wp2_with fail
     refine (aX [42] (by simp) Ht42.out hP.S).mono ?_
     rintro en W3 ⟨rfl, h2, hO2⟩
     have hP := hP.off hlt hbw ltn hO2 h2
     clear h2 hO2
     go_wp2_with fail
     refine (aX [43] (by simp) Ht43.out hP.S).mono ?_
     rintro en W4 ⟨rfl, h2, hO2⟩
     have hP := hP.off hlt hbw ltn hO2 h2
     clear h2 hO2
     go_wp2_with fail
     refine (cg [63] (by simp) Ht.out hP.S).mono ?_
     rintro en W5 ⟨rfl, h2, hO2⟩
     have hP := hP.off hlt hbw ltn hO2 h2
     clear h2 hO2
     obtain ⟨⟨n0, n1, n2, n3, n4, n5, n6, n7⟩, hz⟩ := hP.N.cells8
     have zn0 := hz 0; have zn1 := hz 1; have zn2 := hz 2; have zn3 := hz 3; have zn4 := hz 4; have zn5 := hz 5; have zn6 := hz 6; have zn7 := hz 7
     have ln := hP.N.lt
     clear hz
     obtain ⟨⟨x0, x1, x2, x3, x4, x5, x6, x7⟩, hz⟩ := hP.X.cells8
     have zx5 := hz 5; have zx6 := hz 6
     have lx := hP.X.lt
     clear hz
     have HP := hid (hP.set6 hlt hbw ltn 1); clear hP
     go_wp2_with fail
     go_roundg (r2.length + 1)
     case measure => have := Hn.out; simp only [Rs.rest] at this; omega
     case rel =>
      obtain ⟨d1, d2, d3, d4, d5⟩ := HP.out.done hlt hbw ltn
      exact ⟨(cO (0) (1) t, some ⟨wr.heap.size, 0, none⟩, 1), .ok r2, rfl, d1, d2, d3, d4, d5, (.inr ⟨r, r2, k, Hsr.out, rfl, by omega, by rw [Hpp.out, Hsu.out]⟩)⟩
    have Ht63 := hid ht; clear ht
    rcases ht : aq [123] r' with _ | r1
    case' none =>
     have hsu : cG (k + 1) t r' = .ok (t, r') := by rw [cG]; simp only [Ht42.out, Ht43.out, Ht63.out, ht]
     have Hsu := hid hsu; have Ht := hid ht; clear hsu ht
     go_wp2_with fail
     refine (aX [42] (by simp) Ht42.out hP.S).mono ?_
     rintro en W3 ⟨rfl, h2, hO2⟩
     have hP := hP.off hlt hbw ltn hO2 h2
     clear h2 hO2
     go_wp2_with fail
     refine (aX [43] (by simp) Ht43.out hP.S).mono ?_
     rintro en W4 ⟨rfl, h2, hO2⟩
     have hP := hP.off hlt hbw ltn hO2 h2
     clear h2 hO2
     go_wp2_with fail
     refine (aX [63] (by simp) Ht63.out hP.S).mono ?_
     rintro en W5 ⟨rfl, h2, hO2⟩
     have hP := hP.off hlt hbw ltn hO2 h2
     clear h2 hO2
     go_wp2_with fail
     refine (aX [123] (by simp) Ht.out hP.S).mono ?_
     rintro en W6 ⟨rfl, h2, hO2⟩
     have hP := hP.off hlt hbw ltn hO2 h2
     clear h2 hO2
     obtain ⟨⟨n0, n1, n2, n3, n4, n5, n6, n7⟩, _⟩ := hP.N.cells8
     have ln := hP.N.lt
     obtain ⟨⟨r0, r1_, r2_, r3, r4, r5, r6, r7⟩, hz⟩ := hP.R.cells8
     obtain ⟨z0, z1, z2, z3, z4, z5, z6, z7⟩ := cM hz
     have lr := hP.R.lt
     clear hz
     have HP := hid hP; clear hP
     go_wp2_with fail
     change bodyPost _ _ _ _ _ (aa W6 w.heap.size (t, A, c))
     have hfin := ac HP.out.R (t, A, c)
     obtain ⟨⟨y0, y1, y2, y3, y4, y5, y6, y7⟩, _⟩ := hfin.cells8
     have hRS := HP.out.S.boxW (b := w.heap.size) (by omega) (t, A, c)
     have hOff := Off.boxW HP.out.O (Nat.le_refl _) (t, A, c)
     have hlw := HP.out.X.lt
     have hNod : RowAt (aa W6 w.heap.size (t, A, c)) (fun b => w.heap.size ≤ b ∧ b < (aa W6 w.heap.size (t, A, c)).heap.size) t A c := HP.out.x.mono fun k (hk : w.heap.size < k ∧ k < wr.heap.size ∧ k ≠ bn) => ⟨⟨by omega, by rw [ai]; omega⟩, (af _ _ _ _ (show k ≠ w.heap.size by omega))⟩
     generalize aa W6 w.heap.size (t, A, c) = W3 at *
     refine bodyPost_ret (v := aB t A c) (by simp [results, Tryz.results100, y0, y1, y2, y3, y4, y5, y6, y7, go_sem]) rfl ⟨(t, A, c), _, rfl, hNod, hRS, hOff, ?_⟩
     rw [Hsr.out]
     exact Out.good (by rw [Hpp.out, Hsu.out]) rfl
    have hl := am ht
    simp only [List.length_cons, List.length_nil] at hl
    have Ht := hid ht; clear ht
    go_wp2_with fail
    refine (aX [42] (by simp) Ht42.out hP.S).mono ?_
    rintro en W3 ⟨rfl, h2, hO2⟩
    have hP := hP.off hlt hbw ltn hO2 h2
    clear h2 hO2
    go_wp2_with fail
    refine (aX [43] (by simp) Ht43.out hP.S).mono ?_
    rintro en W4 ⟨rfl, h2, hO2⟩
    have hP := hP.off hlt hbw ltn hO2 h2
    clear h2 hO2
    go_wp2_with fail
    refine (aX [63] (by simp) Ht63.out hP.S).mono ?_
    rintro en W5 ⟨rfl, h2, hO2⟩
    have hP := hP.off hlt hbw ltn hO2 h2
    clear h2 hO2
    go_wp2_with fail
    refine (cg [123] (by simp) Ht.out hP.S).mono ?_
    rintro en W6 ⟨rfl, h2, hO2⟩
    have hP := hP.off hlt hbw ltn hO2 h2
    clear h2 hO2
    go_wp2_with fail
    refine (nT _ p op _ hP.S).mono ?_
    rintro en W7 ⟨m, x, s7, rfl, h7, hO7, ho7⟩
    have hP := hP.off hlt hbw ltn hO7 h7
    clear h7 hO7
    have hcase : s7.rest.length < r'.length ∧ ((∃ e, s7 = .error e ∧ (s = .error e ∨ ∃ r, s = .ok r ∧ aT grp r = .error e)) ∨ ∃ r r' k, s = .ok r ∧ s7 = .ok r' ∧ r'.length < k ∧ aT grp r = cG k (cO m x t) r') := by
     cases hi : aj r1 with
     | error e =>
      simp only [hi] at ho7
      subst ho7
      exact ⟨by simp only [Rs.rest, List.length_nil]; omega, .inl ⟨e, rfl, .inr ⟨r, Hsr.out, by rw [Hpp.out, cG]; simp only [Ht42.out, Ht43.out, Ht63.out, Ht.out, hi]⟩⟩⟩
     | ok y =>
      obtain ⟨a, b, r2⟩ := y
      simp only [hi] at ho7
      obtain ⟨rfl, rfl, rfl⟩ := ho7
      have := df hi
      exact ⟨by simp only [Rs.rest]; omega, .inr ⟨r, r2, k, Hsr.out, rfl, by omega, by rw [Hpp.out, cG]; simp only [Ht42.out, Ht43.out, Ht63.out, Ht.out, hi]⟩⟩
    have HCA := hid hcase
    clear hcase ho7
    obtain ⟨⟨n0, n1, n2, n3, n4, n5, n6, n7⟩, hz⟩ := hP.N.cells8
    have zn0 := hz 0; have zn1 := hz 1; have zn2 := hz 2; have zn3 := hz 3; have zn4 := hz 4; have zn5 := hz 5; have zn6 := hz 6; have zn7 := hz 7
    have ln := hP.N.lt
    clear hz
    obtain ⟨⟨x0, x1, x2, x3, x4, x5, x6, x7⟩, hz⟩ := hP.X.cells8
    have zx5 := hz 5; have zx6 := hz 6
    have lx := hP.X.lt
    clear hz
    have HP := hid ((hP.set5 hlt hbw ltn m).set6 hlt hbw ltn x); clear hP
    go_wp2_with fail
    go_roundg (s7.rest.length + 1)
    case measure => have := Hn.out; have := HCA.out.1; simp only [Rs.rest] at *; omega
    case rel =>
     obtain ⟨d1, d2, d3, d4, d5⟩ := HP.out.done hlt hbw ltn
     exact ⟨(cO m x t, some ⟨wr.heap.size, 0, none⟩, 1), s7, rfl, d1, d2, d3, d4, d5, HCA.out.2⟩
structure LstR2 (p : Nat) (op : Int) (w : World) (n : Nat) (ns : List Nx) (Av : Option Addr) (cv : Nat) (s : Rs) (wr : World) : Prop where
 len : ns.length = n
 R : bj wr w.heap.size (ar (.mk 0 0 0 0 0 0 0 [], none, 0)).toArray
 own : wr.ownsRow (w.heap.size + 1) 48 8 (.slice Av n cv) n (bq ns)
 nodes : ∀ x ∈ ns, RowAt wr (fun b => w.heap.size < b ∧ b < wr.heap.size ∧ some b ≠ (Value.slice Av n cv).ownBlock) x.1 x.2.1 x.2.2
 S : RS wr p op s
 O : Off p w wr
theorem LstR2.off {p : Nat} {op : Int} {w : World} {n : Nat} {ns : List Nx} {Av : Option Addr} {cv : Nat} {s s' : Rs} {wr w1 : World} (h : LstR2 p op w n ns Av cv s wr) (hp : p < w.heap.size) (hO : Off p wr w1) (hS : RS w1 p op s') : LstR2 p op w n ns Av cv s' w1 := by
 have hz := hO.size
 refine ⟨h.len, Off.blk hO h.R (by omega), h.own.kept hO ?_, fun x hx => (h.nodes x hx).mono fun b (hb : w.heap.size < b ∧ b < wr.heap.size ∧ some b ≠ (Value.slice Av n cv).ownBlock) => ⟨⟨hb.1, by omega, hb.2.2⟩, Off.blockN hO hb.2.1 (by omega)⟩, hS, Off.trans h.O hO⟩
 cases hv : (Value.slice Av n cv).ownBlock with
 | none => exact .inl rfl
 | some k => have := h.own.lt k hv; exact .inr (by simp; omega)
theorem LstR2.push {p : Nat} {op : Int} {w : World} {n : Nat} {ns : List Nx} {Av A' : Option Addr} {cv c' : Nat} {s : Rs} {W w0 w2 : World} (h : LstR2 p op w n ns Av cv s W) (hp : p < w.heap.size) {B : Nat} (hB : w.heap.size < B) (hrow : ∀ k, (Value.slice Av n cv).ownBlock = some k → k < B) (x : Nx) (hx : RowAt W (fun b => B ≤ b ∧ b < W.heap.size) x.1 x.2.1 x.2.2)
 (h0 : Below W.heap.size W w0) (h1 : w2.ownsRow (w.heap.size + 1) 48 8 (.slice A' (n + 1) c') (n + 1) (bq ns ++ ar x)) (h2 : w0.grownBy w2 (Value.slice Av n cv).ownBlock) (h3 : (Value.slice A' (n + 1) c').ownBlock = (Value.slice Av n cv).ownBlock ∨ (Value.slice A' (n + 1) c').ownBlock = some w0.heap.size) :
 LstR2 p op w (n + 1) (ns ++ [x]) A' c' s w2 := by
 have hz0 := h0.size
 have hz2 := h2.size
 have hblk : ∀ b, b < W.heap.size → some b ≠ (Value.slice Av n cv).ownBlock → w2.heap[b]? = W.heap[b]? := fun b hb hne => (h2.block b (by omega) hne).trans (h0.block b hb)
 have hrow1 : ∀ k, (Value.slice Av n cv).ownBlock = some k → w.heap.size + 1 ≤ k := fun k hk => (h.own.lt k hk).1
 have hne : ∀ b, b < w.heap.size + 1 → some b ≠ (Value.slice Av n cv).ownBlock := fun b hb e => by have := hrow1 b e.symm; omega
 have hpW := h.S.lt
 refine ⟨by simp [h.len], h.R.keep (hblk _ h.R.lt (hne _ (by omega))), by rw [jQ]; exact h1, fun y hy => ?_, h.S.kept (by omega) (hblk p hpW (hne _ (by omega))) (hblk 0 (by omega) (hne _ (by omega))), ?_⟩
 · have key : ∀ b, w.heap.size < b → b < W.heap.size → some b ≠ (Value.slice Av n cv).ownBlock → (w.heap.size < b ∧ b < w2.heap.size ∧ some b ≠ (Value.slice A' (n + 1) c').ownBlock) ∧ w2.heap[b]? = W.heap[b]? := fun b hb1 hb2 hb3 => by
    refine ⟨⟨hb1, by omega, ?_⟩, (hblk b hb2 hb3)⟩
    rcases h3 with e | e
    · rw [e]; exact hb3
    · rw [e]; intro e'; simp only [Option.some.injEq] at e'; omega
   rcases List.mem_append.1 hy with hy | hy
   · exact (h.nodes y hy).mono fun b (hb : w.heap.size < b ∧ b < W.heap.size ∧ some b ≠ (Value.slice Av n cv).ownBlock) => key b hb.1 hb.2.1 hb.2.2
   · simp only [List.mem_singleton] at hy
     subst hy
     exact hx.mono fun b (hb : B ≤ b ∧ b < W.heap.size) => key b (by omega) hb.2 (fun e => by have := hrow b e.symm; omega)
 · have hO := h.O
   have hzW := hO.size
   exact ⟨(h2.os.trans h0.os).trans hO.os, (h2.tape.trans h0.tape).trans hO.tape, (h2.output.trans h0.output).trans hO.output, by omega, fun k hk hkp => (hblk k (by omega) (hne k (by omega))).trans (hO.block k hk hkp)⟩
theorem LstR2.node {p : Nat} {op : Int} {w : World} {n : Nat} {ns : List Nx} {Av : Option Addr} {cv : Nat} {s : Rs} {wr : World} (h : LstR2 p op w n ns Av cv s wr) (hn : 0 < n) (hn2 : n ≤ 1000000) (R : T) (hR : R.ps = ns.map (·.1)) : RowAt wr (fun b => w.heap.size < b ∧ b < wr.heap.size) R Av cv := xi R ns hR h.len hn hn2 h.own (fun g h1 h2 => ⟨by omega, h2⟩) (fun x hx => (h.nodes x hx).mono fun b (hb : w.heap.size < b ∧ b < wr.heap.size ∧ some b ≠ _) => ⟨⟨hb.1, hb.2.1⟩, rfl⟩)
theorem LstR2.first {p : Nat} {op : Int} {w : World} {n : Nat} {ns : List Nx} {Av : Option Addr} {cv : Nat} {s : Rs} {wr : World} (h : LstR2 p op w n ns Av cv s wr) (hn : 0 < n) : ∃ g x, Av = some ⟨g, 0, none⟩ ∧ ns[0]? = some x ∧ At8 wr g 0 x.1 x.2.1 x.2.2 ∧ g < wr.heap.size ∧ n ≤ cv ∧ RowAt wr (fun b => w.heap.size < b ∧ b < wr.heap.size) x.1 x.2.1 x.2.2 := by
 obtain ⟨g, hA, hg0, hg, hc⟩ : ∃ g, Av = some ⟨g, 0, none⟩ ∧ w.heap.size + 1 ≤ g ∧ g < wr.heap.size ∧ n ≤ cv := by
  rcases h.own.2 with ⟨_, h0⟩ | ⟨g, cap, cur, e, hb, hh, hcap, _⟩
  · omega
  · simp only [Value.slice.injEq] at e
    exact ⟨g, e.1, hb, by (rcases Nat.lt_or_ge g wr.heap.size with h' | h'; exact h'; rw [Array.getElem?_eq_none h'] at hh; simp at hh), by omega⟩
 subst hA
 have hl : 0 < ns.length := by rw [h.len]; exact hn
 refine ⟨g, ns[0], rfl, List.getElem?_eq_getElem hl, .ofX fun j hj => ?_, hg, hc, (h.nodes _ (List.getElem_mem hl)).mono fun b (hb : w.heap.size < b ∧ b < wr.heap.size ∧ some b ≠ _) => ⟨⟨hb.1, hb.2.1⟩, rfl⟩⟩
 have := h.own.cellAt j (by have := h.len; omega)
 rw [Nat.zero_add, this]
 have e := dv ns 0 j hl hj
 simpa using e
def ye (p : Nat) (op : Int) (grp : Bs → PT) (s : Rs) (w : World) (v : Value) (wr : World) (m : Nat) : Prop :=
 ∃ (n : Nat) (ns : List Nx) (Av : Option Addr) (cv : Nat) (s' : Rs), v = .slice Av n cv ∧ m = s'.rest.length + 1 ∧ n + s'.rest.length ≤ 1024 ∧ LstR2 p op w n ns Av cv s' wr ∧
  ((∃ e, s' = .error e ∧ (s = .error e ∨ ∃ r, s = .ok r ∧ dL grp r = .error e)) ∨ ∃ r r' k, s = .ok r ∧ s' = .ok r' ∧ r' <:+ r ∧ r'.length < k ∧ aI grp (r.length + 1) [] r = aI grp k (ns.map fun x : Nx => x.1) r')
theorem tC (w : World) (p : Nat) (op : Int) (s : Rs) (h : RS w p op s) (hs : s.rest.length ≤ 1024) (grp : Bs → PT) (hgl : dR grp) (hgs : gq grp) (hB : ∀ r, s = .ok r → 91 ∈ r → BrC) (hD : ∀ r, s = .ok r → 46 ∈ r → oa)
 (hG : ∀ (w : World) (s : Rs), RS w p op s → s.rest.length ≤ 1024 → (∀ r, s = .ok r → 91 ∈ r → BrC) → (∀ r, s = .ok r → 46 ∈ r → oa) → Calls Tryz.prog 128 #[.pointer (some ⟨p, 0, none⟩)] w fun en w' => ee p op grp s w en w') :
 Calls Tryz.prog 83 #[.pointer (some ⟨p, 0, none⟩)] w fun en w' => ee p op (dL grp) s w en w' := by
 have hlt := h.lt
 have hpc : ∀ (w : World) (s : Rs), RS w p op s → s.rest.length ≤ 1024 → (∀ r, s = .ok r → 91 ∈ r → BrC) → (∀ r, s = .ok r → 46 ∈ r → oa) → Calls Tryz.prog 100 #[.pointer (some ⟨p, 0, none⟩)] w fun en w' => ee p op (aT grp) s w en w' := fun w s h hs hB hD => rd w p op s h hs grp hB hD hG
 have HP := hid hpc; have HB := hid hB; have HD := hid hD; have HGl := hid hgl; have HGs := hid hgs
 clear hpc hB hD hG hgl hgs
 have H := hid h; clear h
 go_enter Tryz.func83, Tryz.ntmps83
 go_wp2_with fail
 generalize hW : w.alloc _ = W0
 have hB0 : Below w.heap.size w W0 := by subst hW; exact nal
 have R0 : bj W0 w.heap.size (ar (.mk 0 0 0 0 0 0 0 [], none, 0)).toArray := by subst hW; exact bj.new w _
 clear hW
 have hI : ye p op grp s w (.slice none 0 0) W0 (s.rest.length + 1) := by
  refine ⟨0, [], none, 0, s, rfl, rfl, by omega, ⟨rfl, R0, ⟨rfl, .inl ⟨rfl, rfl⟩⟩, fun x hx => by simp at hx, H.out.later hB0, Off.of_below hB0⟩, ?_⟩
  rcases s with e | r
  · exact .inl ⟨e, rfl, .inl rfl⟩
  · exact .inr ⟨r, r, r.length + 1, rfl, rfl, List.suffix_refl _, by omega, rfl⟩
 have HI := hid hI; clear hI hB0 R0
 go_loopg [3] (s.rest.length + 1) (fun m v wr => ye p op grp s w v wr m)
 case atStart => exact HI.out
 case round =>
  clear HI
  obtain ⟨n, ns, Av, cv, s', rfl, hm, hnl, hL, hcase⟩ := hrel
  have c0 := hL.S.rdr.c0
  have lts := hL.S.lt
  have HL := hid hL; have HC := hid hcase; have Hm := hid hm
  clear hL hcase hm
  by_cases hgo : ∃ c t, s' = .ok (c :: t) ∧ c ≠ 124 ∧ c ≠ 41
  · obtain ⟨c, t, rfl, hc1, hc2⟩ := hgo
    simp only [Rs.rest] at c0 hnl
    have n1 : ((c.toNat : Int) != 124) = true := wC (k := 124) (by omega) hc1
    have n2 : ((c.toNat : Int) != 41) = true := wC (k := 41) (by omega) hc2
    obtain ⟨r, k, hsr, hsf, hk, hpp⟩ : ∃ r k, s = .ok r ∧ (c :: t) <:+ r ∧ (c :: t).length < k + 1 ∧ aI grp (r.length + 1) [] r = aI grp (k + 1) (ns.map fun x : Nx => x.1) (c :: t) := by
     rcases HC.out with ⟨e', he, _⟩ | ⟨r, r2, k, hs, he, hsf, hk, hpp⟩
     · cases he
     · cases he
       obtain ⟨k', rfl⟩ : ∃ k', k = k' + 1 := ⟨k - 1, by omega⟩
       exact ⟨r, k', hs, hsf, hk, hpp⟩
    have Hpp := hid hpp; have Hsr := hid hsr; have Hsf := hid hsf
    clear hpp hsr hsf HC
    have hres : aI grp (k + 1) (ns.map fun x : Nx => x.1) (c :: t) = match aT grp (c :: t) with | .error e => .error e | .ok (n, r1) => aI grp k ((ns.map fun x : Nx => x.1) ++ [n]) r1 := by
     rw [aI, lC hc1 hc2]; rfl
    have Hres := hid hres; clear hres hc1 hc2
    go_wp2_with fail
    refine (HP.out wr (.ok (c :: t)) HL.out.S (by simp only [Rs.rest]; omega) (fun r' e hr => HB.out r Hsr.out (by cases e; exact Hsf.out.mem hr)) (fun r' e hr => HD.out r Hsr.out (by cases e; exact Hsf.out.mem hr))).mono ?_
    rintro en w1 ⟨⟨t1, A1, c1⟩, s1, rfl, hx1, h1, hO1, ho1⟩
    have HL1 := hid (HL.out.off hlt hO1 h1)
    have Hx1 := hid hx1; have Ho1 := hid ho1; have HO1 := hid hO1
    have hz1 := hO1.size
    have hwr : w.heap.size < wr.heap.size := HL.out.R.lt
    clear hx1 ho1 hO1 h1 c0
    have hnews : ∀ ad, some (⟨w1.heap.size, 0, none⟩ : Addr) = some ad → ∀ j u, (ar (t1, A1, c1))[j]? = some u → (w1.alloc (.cells (ar (t1, A1, c1)).toArray 48)).cell? (ad.add j) = some u := fun ad e j u hu => by
     simp only [Option.some.injEq] at e
     subst e
     rw [ct, World.cell?_alloc_new, Nat.zero_add]
     simpa using hu
    have Hnews := hid hnews; clear hnews
    go_wp2_with (at_builtin; refine au (w.heap.size + 1) rfl _ _ 46 48 _ 8 80 rfl Tryz.underlying46 Tryz.infoNodeX rfl (by omega) (by omega) (.slice Av n cv) n 1 (bq ns) (ar (t1, A1, c1)) (some ⟨w1.heap.size, 0, none⟩) 1 rfl rfl (by simp) rfl Hnews.out (cT _) (HL1.out.own.alloc _) (by simp; omega) (by omega) (fun A5 c5 w5 ho5 hg5 hat5 => ?_); have HL5 := hid (HL1.out.push hlt hwr (fun k hk => (HL.out.own.lt k hk).2) (t1, A1, c1) Hx1.out nal ho5 hg5 hat5); clear ho5 hg5 hat5)
    have hcs : s1.rest.length ≤ t.length ∧ ((∃ e, s1 = .error e ∧ (s = .error e ∨ ∃ r, s = .ok r ∧ dL grp r = .error e)) ∨ ∃ r r' k, s = .ok r ∧ s1 = .ok r' ∧ r' <:+ r ∧ r'.length < k ∧ aI grp (r.length + 1) [] r = aI grp k ((ns ++ [(t1, A1, c1)]).map fun x : Nx => x.1) r') := by
     have hoo := Ho1.out
     cases hpc : aT grp (c :: t) with
     | error e =>
      simp only [Out, hpc] at hoo
      subst hoo
      exact ⟨by simp [Rs.rest], .inl ⟨e, rfl, .inr ⟨r, Hsr.out, by unfold dL; rw [Hpp.out, Hres.out, hpc]⟩⟩⟩
     | ok y =>
      obtain ⟨n', r'⟩ := y
      simp only [Out, hpc] at hoo
      obtain ⟨rfl, rfl⟩ := hoo
      have hl := gM HGl.out hpc
      simp only [List.length_cons] at hl hk
      exact ⟨by simp only [Rs.rest]; omega, .inr ⟨r, r', k, Hsr.out, rfl, (nu HGs.out hpc).trans Hsf.out, by omega, by rw [Hpp.out, Hres.out, hpc]; simp⟩⟩
    obtain ⟨hl1, hcs⟩ := hcs
    have HCS := hid hcs; clear hcs
    go_roundg (s1.rest.length + 1)
    case measure => have := Hm.out; simp only [Rs.rest, List.length_cons] at this; omega
    case rel => exact ⟨n + 1, _, A5, c5, s1, rfl, rfl, by simp only [List.length_cons] at hnl; omega, HL5.out, HCS.out⟩
  · have hfin : Out (dL grp) s (fun t => bW 4 (ns.map fun x : Nx => x.1) = t) s' := by
     rcases HC.out with ⟨e, rfl, rfl | ⟨r, rfl, hr⟩⟩ | ⟨r, r', k, rfl, rfl, _, hk, hpp⟩
     · exact Out.err
     · exact Out.bad hr
     · have he : ce r' = true := by
        rcases r' with _ | ⟨c, t⟩
        · rfl
        · by_cases h1 : c = 124
          · subst h1; rfl
          · by_cases h2 : c = 41
            · subst h2; rfl
            · exact absurd ⟨c, t, rfl, h1, h2⟩ hgo
       obtain ⟨k', rfl⟩ : ∃ k', k = k' + 1 := ⟨k - 1, by omega⟩
       refine Out.good (x := bW 4 (ns.map fun x : Nx => x.1)) ?_ rfl
       unfold dL
       rw [hpp, aI, if_pos he]
    have Hfin := hid hfin
    have hsh : s'.rest = [] ∨ (∃ t, s'.rest = 124 :: t) ∨ ∃ t, s'.rest = 41 :: t := by
     rcases s' with e | (_ | ⟨c, t⟩)
     · exact .inl rfl
     · exact .inl rfl
     · by_cases h1 : c = 124
       · subst h1; exact .inr (.inl ⟨t, rfl⟩)
       · by_cases h2 : c = 41
         · subst h2; exact .inr (.inr ⟨t, rfl⟩)
         · exact absurd ⟨c, t, rfl, h1, h2⟩ hgo
    clear hfin hgo HC Hm
    have hn3 : n = 0 ∨ n = 1 ∨ 2 ≤ n := by omega
    rcases hn3 with rfl | rfl | hn2
    · have hns : ns = [] := List.eq_nil_of_length_eq_zero HL.out.len
      subst hns
      obtain ⟨⟨r0, r1, r2, r3, r4, r5, r6, r7⟩, hz⟩ := HL.out.R.cells8
      obtain ⟨z0, z1, z2, z3, z4, z5, z6, z7⟩ := cM hz
      have lr := HL.out.R.lt
      clear hz
      rcases hsh with hr | ⟨t, hr⟩ | ⟨t, hr⟩
      all_goals
       rw [hr] at c0
       have Hr := hid hr; clear hr
       go_wp2_with fail
       change bodyPost _ _ _ _ _ (aa wr w.heap.size (.mk 0 0 0 0 0 0 0 [], none, 0))
       have hfn := ac HL.out.R (.mk 0 0 0 0 0 0 0 [], none, 0)
       obtain ⟨⟨y0, y1, y2, y3, y4, y5, y6, y7⟩, _⟩ := hfn.cells8
       have hRS := HL.out.S.boxW (b := w.heap.size) (by omega) (.mk 0 0 0 0 0 0 0 [], none, 0)
       have hOff := Off.boxW HL.out.O (Nat.le_refl _) (.mk 0 0 0 0 0 0 0 [], none, 0)
       have hNod : RowAt (aa wr w.heap.size (.mk 0 0 0 0 0 0 0 [], none, 0)) (fun b => w.heap.size ≤ b ∧ b < (aa wr w.heap.size (.mk 0 0 0 0 0 0 0 [], none, 0)).heap.size) ((T.mk 0 0 0 0 0 0 0 [], none, 0) : Nx).1 ((T.mk 0 0 0 0 0 0 0 [], none, 0) : Nx).2.1 ((T.mk 0 0 0 0 0 0 0 [], none, 0) : Nx).2.2 := cB _ _ _ rfl
       generalize aa wr w.heap.size (.mk 0 0 0 0 0 0 0 [], none, 0) = W3 at *
       exact bodyPost_ret (v := aB ((T.mk 0 0 0 0 0 0 0 [], none, 0) : Nx).1 ((T.mk 0 0 0 0 0 0 0 [], none, 0) : Nx).2.1 ((T.mk 0 0 0 0 0 0 0 [], none, 0) : Nx).2.2) (by simp [results, Tryz.results83, y0, y1, y2, y3, y4, y5, y6, y7, go_sem]) rfl ⟨(.mk 0 0 0 0 0 0 0 [], none, 0), _, rfl, hNod, hRS, hOff, Hfin.out⟩
    · obtain ⟨g, ⟨t1, A1, c1⟩, rfl, hx, h8, hg, hcv, hnd⟩ := HL.out.first (by omega)
      have hj : bW 4 (ns.map fun x : Nx => x.1) = t1 := by
       have hl := HL.out.len
       match ns, hl, hx with
       | [y], _, hx => simp at hx; subst hx; rfl
      have Hj := hid hj; have Hnd := hid hnd
      obtain ⟨f0, f1, f2, f3, f4, f5, f6, f7⟩ := h8
      simp only [Nat.zero_add] at f1 f2 f3 f4 f5 f6 f7
      clear hj hnd hx
      obtain ⟨⟨r0, r1, r2, r3, r4, r5, r6, r7⟩, hz⟩ := HL.out.R.cells8
      obtain ⟨z0, z1, z2, z3, z4, z5, z6, z7⟩ := cM hz
      have lr := HL.out.R.lt
      clear hz
      rcases hsh with hr | ⟨t, hr⟩ | ⟨t, hr⟩
      all_goals
       rw [hr] at c0
       have Hr := hid hr; clear hr
       go_wp2_with fail
       change bodyPost _ _ _ _ _ (aa wr w.heap.size (t1, A1, c1))
       have hfn := ac HL.out.R (t1, A1, c1)
       obtain ⟨⟨y0, y1, y2, y3, y4, y5, y6, y7⟩, _⟩ := hfn.cells8
       have hRS := HL.out.S.boxW (b := w.heap.size) (by omega) (t1, A1, c1)
       have hOff := Off.boxW HL.out.O (Nat.le_refl _) (t1, A1, c1)
       have hNod : RowAt (aa wr w.heap.size (t1, A1, c1)) (fun b => w.heap.size ≤ b ∧ b < (aa wr w.heap.size (t1, A1, c1)).heap.size) (t1, A1, c1).1 (t1, A1, c1).2.1 (t1, A1, c1).2.2 := Hnd.out.mono fun k (hk : w.heap.size < k ∧ k < wr.heap.size) => ⟨⟨by omega, by rw [ai]; exact hk.2⟩, (af _ _ _ _ (show k ≠ w.heap.size by omega))⟩
       generalize aa wr w.heap.size (t1, A1, c1) = W3 at *
       exact bodyPost_ret (v := aB (t1, A1, c1).1 (t1, A1, c1).2.1 (t1, A1, c1).2.2) (by simp [results, Tryz.results83, y0, y1, y2, y3, y4, y5, y6, y7, go_sem]) rfl ⟨(t1, A1, c1), _, rfl, hNod, hRS, hOff, by have := Hfin.out; rw [Hj.out] at this; exact this⟩
    · obtain rfl : n = (ns.map fun x : Nx => x.1).length := by simp [HL.out.len]
      have hnd := HL.out.node (by omega) (by omega) (.mk 4 0 0 0 0 0 0 (ns.map fun x : Nx => x.1)) rfl
      have hj : bW 4 (ns.map fun x : Nx => x.1) = .mk 4 0 0 0 0 0 0 (ns.map fun x : Nx => x.1) := by
       generalize ns.map (fun x : Nx => x.1) = l at hn2
       match l, hn2 with
       | a :: b :: l, _ => rfl
      have hb0 : (((ns.map fun x : Nx => x.1).length : Int) == 0) = false := by rw [beq_eq_false_iff_ne]; omega
      have hb1 : (((ns.map fun x : Nx => x.1).length : Int) == 1) = false := by rw [beq_eq_false_iff_ne]; omega
      have Hj := hid hj; have Hnd := hid hnd
      clear hj hnd
      generalize hl : (ns.map fun x : Nx => x.1) = l at *
      obtain ⟨⟨r0, r1, r2, r3, r4, r5, r6, r7⟩, hz⟩ := HL.out.R.cells8
      obtain ⟨z0, z1, z2, z3, z4, z5, z6, z7⟩ := cM hz
      have lr := HL.out.R.lt
      clear hz
      rcases hsh with hr | ⟨t, hr⟩ | ⟨t, hr⟩
      all_goals
       rw [hr] at c0
       have Hr := hid hr; clear hr
       go_wp2_with fail
       change bodyPost _ _ _ _ _ (aa wr w.heap.size (.mk 4 0 0 0 0 0 0 l, Av, cv))
       have hfn := ac HL.out.R (.mk 4 0 0 0 0 0 0 l, Av, cv)
       obtain ⟨⟨y0, y1, y2, y3, y4, y5, y6, y7⟩, _⟩ := hfn.cells8
       have hRS := HL.out.S.boxW (b := w.heap.size) (by omega) (.mk 4 0 0 0 0 0 0 l, Av, cv)
       have hOff := Off.boxW HL.out.O (Nat.le_refl _) (.mk 4 0 0 0 0 0 0 l, Av, cv)
       have hNod : RowAt (aa wr w.heap.size (.mk 4 0 0 0 0 0 0 l, Av, cv)) (fun b => w.heap.size ≤ b ∧ b < (aa wr w.heap.size (.mk 4 0 0 0 0 0 0 l, Av, cv)).heap.size) ((T.mk 4 0 0 0 0 0 0 l, Av, cv) : Nx).1 ((T.mk 4 0 0 0 0 0 0 l, Av, cv) : Nx).2.1 ((T.mk 4 0 0 0 0 0 0 l, Av, cv) : Nx).2.2 := Hnd.out.mono fun k (hk : w.heap.size < k ∧ k < wr.heap.size) => ⟨⟨by omega, by rw [ai]; exact hk.2⟩, (af _ _ _ _ (show k ≠ w.heap.size by omega))⟩
       generalize aa wr w.heap.size (.mk 4 0 0 0 0 0 0 l, Av, cv) = W3 at *
       exact bodyPost_ret (v := aB ((T.mk 4 0 0 0 0 0 0 l, Av, cv) : Nx).1 ((T.mk 4 0 0 0 0 0 0 l, Av, cv) : Nx).2.1 ((T.mk 4 0 0 0 0 0 0 l, Av, cv) : Nx).2.2) (by simp [results, Tryz.results83, y0, y1, y2, y3, y4, y5, y6, y7, go_sem]) rfl ⟨(.mk 4 0 0 0 0 0 0 l, Av, cv), _, rfl, hNod, hRS, hOff, by have := Hfin.out; rw [Hj.out] at this; exact this⟩
def yi (p : Nat) (op : Int) (grp : Bs → PT) (s : Rs) (w : World) (v : Value) (wr : World) (m : Nat) : Prop :=
 ∃ (n : Nat) (ns : List Nx) (Av : Option Addr) (cv : Nat) (s' : Rs), v = .slice Av n cv ∧ 1 ≤ n ∧ m = s'.rest.length + 1 ∧ n + s'.rest.length ≤ 1025 ∧ LstR2 p op w n ns Av cv s' wr ∧
  ((∃ e, s' = .error e ∧ (s = .error e ∨ ∃ r, s = .ok r ∧ av grp r = .error e)) ∨ ∃ r r' k, s = .ok r ∧ s' = .ok r' ∧ r' <:+ r ∧ r'.length < k ∧ av grp r = match bX grp k (ns.map fun x : Nx => x.1) r' with | .error e => .error e | .ok (l, r2) => .ok (bW 5 l, r2))
theorem kf (w : World) (p : Nat) (op : Int) (s : Rs) (h : RS w p op s) (hs : s.rest.length ≤ 1024) (grp : Bs → PT) (hgl : dR grp) (hgs : gq grp) (hB : ∀ r, s = .ok r → 91 ∈ r → BrC) (hD : ∀ r, s = .ok r → 46 ∈ r → oa)
 (hG : ∀ (w : World) (s : Rs), RS w p op s → s.rest.length ≤ 1024 → (∀ r, s = .ok r → 91 ∈ r → BrC) → (∀ r, s = .ok r → 46 ∈ r → oa) → Calls Tryz.prog 128 #[.pointer (some ⟨p, 0, none⟩)] w fun en w' => ee p op grp s w en w') :
 Calls Tryz.prog 62 #[.pointer (some ⟨p, 0, none⟩)] w fun en w' => ee p op (av grp) s w en w' := by
 have hlt := h.lt
 have hpc : ∀ (w : World) (s : Rs), RS w p op s → s.rest.length ≤ 1024 → (∀ r, s = .ok r → 91 ∈ r → BrC) → (∀ r, s = .ok r → 46 ∈ r → oa) → Calls Tryz.prog 83 #[.pointer (some ⟨p, 0, none⟩)] w fun en w' => ee p op (dL grp) s w en w' := fun w s h hs hB hD => tC w p op s h hs grp hgl hgs hB hD hG
 have HP := hid hpc; have HB := hid hB; have HD := hid hD; have HGl := hid hgl; have HGs := hid hgs
 clear hpc hB hD hG hgl hgs
 have H := hid h; clear h
 go_enter Tryz.func62, Tryz.ntmps62
 go_wp2_with fail
 generalize hW : w.alloc _ = W0
 have hB0 : Below w.heap.size w W0 := by subst hW; exact nal
 have R0 : bj W0 w.heap.size (ar (.mk 0 0 0 0 0 0 0 [], none, 0)).toArray := by subst hW; exact bj.new w _
 have hz0 : w.heap.size + 1 ≤ W0.heap.size := by subst hW; simp
 clear hW
 refine (HP.out W0 s (H.out.later hB0) hs HB.out HD.out).mono ?_
 rintro en w1 ⟨⟨t1, A1, c1⟩, s1, rfl, hx1, h1, hO1, ho1⟩
 have R1 := Off.blk hO1 R0 (by omega)
 have hz1 := hO1.size
 have Hx1 := hid hx1; have Ho1 := hid ho1
 clear hx1 ho1
 go_wp2_with fail
 generalize hW : w1.alloc _ = W1
 have hb1 : Below w1.heap.size w1 W1 := by subst hW; exact nal
 have hI : yi p op grp s w (.slice (some ⟨w1.heap.size, 0, none⟩) 1 1) W1 (s1.rest.length + 1) := by
  have hoo := Ho1.out
  have hl1 : s1.rest.length ≤ 1024 ∧ ((∃ e, s1 = .error e ∧ (s = .error e ∨ ∃ r, s = .ok r ∧ av grp r = .error e)) ∨ ∃ r r' k, s = .ok r ∧ s1 = .ok r' ∧ r' <:+ r ∧ r'.length < k ∧ av grp r = match bX grp k ([(t1, A1, c1)].map fun x : Nx => x.1) r' with | .error e => .error e | .ok (l, r2) => .ok (bW 5 l, r2)) := by
   rcases s with e | r
   · cases (show s1 = .error e from hoo)
     exact ⟨by simp [Rs.rest], .inl ⟨e, rfl, .inl rfl⟩⟩
   · cases hr : dL grp r with
     | error e =>
      simp only [Out, hr] at hoo
      subst hoo
      exact ⟨by simp [Rs.rest], .inl ⟨e, rfl, .inr ⟨r, rfl, by unfold av; rw [hr]⟩⟩⟩
     | ok y =>
      obtain ⟨n', r'⟩ := y
      simp only [Out, hr] at hoo
      obtain ⟨rfl, rfl⟩ := hoo
      have hl := ga HGl.out hr
      simp only [Rs.rest] at hs ⊢
      exact ⟨by omega, .inr ⟨r, r', r'.length + 1, rfl, rfl, lS HGs.out hr, by omega, by unfold av; rw [hr]; rfl⟩⟩
  refine ⟨1, [(t1, A1, c1)], _, 1, s1, rfl, by omega, rfl, by have := hl1.1; omega, ⟨rfl, R1.keep (hb1.block _ R1.lt), ?_, fun x hx => ?_, h1.later hb1, Off.trans (Off.trans (Off.of_below hB0) hO1) (Off.of_below hb1)⟩, hl1.2⟩
  · have h := World.ownsRow_lit (base := w.heap.size + 1) (e := 48) (size := 8) w1 (bq [(t1, A1, c1)]).toArray 1 (by omega) (by simp [maxLen]) (by rfl)
    subst hW
    exact h
  · simp only [List.mem_singleton] at hx
    subst hx
    exact Hx1.out.mono fun b (hb : W0.heap.size ≤ b ∧ b < w1.heap.size) => ⟨⟨by omega, by have := hb1.size; omega, by simp [Value.ownBlock]; omega⟩, hb1.block _ hb.2⟩
 have HI := hid hI
 have hwb : w.heap.size < w1.heap.size := by omega
 generalize w1.heap.size = bl at *
 clear hI hB0 R0 R1 hW hb1 h1 hO1 hz1 hz0 Hx1 Ho1
 go_loopg [3] (s1.rest.length + 1) (fun m v wr => yi p op grp s w v wr m)
 case atStart => exact HI.out
 case round =>
  clear HI
  obtain ⟨n, ns, Av, cv, s', rfl, hn1, hm, hnl, hL, hcase⟩ := hrel
  have lts := hL.S.lt
  have HL := hid hL; have HC := hid hcase; have Hm := hid hm
  clear hL hcase hm
  rcases s' with e | r'
  · go_wp2_with fail
    refine (dm [124] (by simp) HL.out.S).mono ?_
    rintro en W2 ⟨rfl, h2, hO2⟩
    have HL := hid (HL.out.off hlt hO2 h2)
    clear h2 hO2
    have hfin : Out (av grp) s (fun t => bW 5 (ns.map fun x : Nx => x.1) = t) (.error e) := by
     rcases HC.out with ⟨e', he, hs⟩ | ⟨r, r', k, _, he, _⟩
     · cases he
       rcases hs with rfl | ⟨r, rfl, hr⟩
       · exact Out.err
       · exact Out.bad hr
     · cases he
    have Hfin := hid hfin
    clear hfin
    have hn3 : n = 1 ∨ 2 ≤ n := by omega
    rcases hn3 with rfl | hn2
    · obtain ⟨g, ⟨t1, A1, c1⟩, rfl, hx, h8, hg, hcv, hnd⟩ := HL.out.first (by omega)
      have hj : bW 5 (ns.map fun x : Nx => x.1) = t1 := by
       have hl := HL.out.len
       match ns, hl, hx with
       | [y], _, hx => simp at hx; subst hx; rfl
      have Hj := hid hj; have Hnd := hid hnd
      obtain ⟨f0, f1, f2, f3, f4, f5, f6, f7⟩ := h8
      simp only [Nat.zero_add] at f1 f2 f3 f4 f5 f6 f7
      clear hj hnd hx
      obtain ⟨⟨r0, r1, r2, r3, r4, r5, r6, r7⟩, hz⟩ := HL.out.R.cells8
      obtain ⟨z0, z1, z2, z3, z4, z5, z6, z7⟩ := cM hz
      have lr := HL.out.R.lt
      clear hz
      go_wp2_with fail
      change bodyPost _ _ _ _ _ (aa W2 w.heap.size (t1, A1, c1))
      have hfn := ac HL.out.R (t1, A1, c1)
      obtain ⟨⟨y0, y1, y2, y3, y4, y5, y6, y7⟩, _⟩ := hfn.cells8
      have hRS := HL.out.S.boxW (b := w.heap.size) (by omega) (t1, A1, c1)
      have hOff := Off.boxW HL.out.O (Nat.le_refl _) (t1, A1, c1)
      have hNod : RowAt (aa W2 w.heap.size (t1, A1, c1)) (fun b => w.heap.size ≤ b ∧ b < (aa W2 w.heap.size (t1, A1, c1)).heap.size) (t1, A1, c1).1 (t1, A1, c1).2.1 (t1, A1, c1).2.2 := Hnd.out.mono fun k (hk : w.heap.size < k ∧ k < W2.heap.size) => ⟨⟨by omega, by rw [ai]; exact hk.2⟩, (af _ _ _ _ (show k ≠ w.heap.size by omega))⟩
      generalize aa W2 w.heap.size (t1, A1, c1) = W3 at *
      exact bodyPost_ret (v := aB (t1, A1, c1).1 (t1, A1, c1).2.1 (t1, A1, c1).2.2) (by simp [results, Tryz.results62, y0, y1, y2, y3, y4, y5, y6, y7, go_sem]) rfl ⟨(t1, A1, c1), _, rfl, hNod, hRS, hOff, by have := Hfin.out; rw [Hj.out] at this; exact this⟩
    · obtain rfl : n = (ns.map fun x : Nx => x.1).length := by simp [HL.out.len]
      have hnd := HL.out.node (by omega) (by omega) (.mk 5 0 0 0 0 0 0 (ns.map fun x : Nx => x.1)) rfl
      have hj : bW 5 (ns.map fun x : Nx => x.1) = .mk 5 0 0 0 0 0 0 (ns.map fun x : Nx => x.1) := by
       generalize ns.map (fun x : Nx => x.1) = l at hn2
       match l, hn2 with
       | a :: b :: l, _ => rfl
      have hb1 : (((ns.map fun x : Nx => x.1).length : Int) == 1) = false := by rw [beq_eq_false_iff_ne]; omega
      have Hj := hid hj; have Hnd := hid hnd
      clear hj hnd
      generalize hl : (ns.map fun x : Nx => x.1) = l at *
      obtain ⟨⟨r0, r1, r2, r3, r4, r5, r6, r7⟩, hz⟩ := HL.out.R.cells8
      obtain ⟨z0, z1, z2, z3, z4, z5, z6, z7⟩ := cM hz
      have lr := HL.out.R.lt
      clear hz
      go_wp2_with fail
      change bodyPost _ _ _ _ _ (aa W2 w.heap.size (T.mk 5 0 0 0 0 0 0 l, Av, cv))
      have hfn := ac HL.out.R (T.mk 5 0 0 0 0 0 0 l, Av, cv)
      obtain ⟨⟨y0, y1, y2, y3, y4, y5, y6, y7⟩, _⟩ := hfn.cells8
      have hRS := HL.out.S.boxW (b := w.heap.size) (by omega) (T.mk 5 0 0 0 0 0 0 l, Av, cv)
      have hOff := Off.boxW HL.out.O (Nat.le_refl _) (T.mk 5 0 0 0 0 0 0 l, Av, cv)
      have hNod : RowAt (aa W2 w.heap.size (T.mk 5 0 0 0 0 0 0 l, Av, cv)) (fun b => w.heap.size ≤ b ∧ b < (aa W2 w.heap.size (T.mk 5 0 0 0 0 0 0 l, Av, cv)).heap.size) ((T.mk 5 0 0 0 0 0 0 l, Av, cv) : Nx).1 ((T.mk 5 0 0 0 0 0 0 l, Av, cv) : Nx).2.1 ((T.mk 5 0 0 0 0 0 0 l, Av, cv) : Nx).2.2 := Hnd.out.mono fun k (hk : w.heap.size < k ∧ k < W2.heap.size) => ⟨⟨by omega, by rw [ai]; exact hk.2⟩, (af _ _ _ _ (show k ≠ w.heap.size by omega))⟩
      generalize aa W2 w.heap.size (T.mk 5 0 0 0 0 0 0 l, Av, cv) = W3 at *
      exact bodyPost_ret (v := aB ((T.mk 5 0 0 0 0 0 0 l, Av, cv) : Nx).1 ((T.mk 5 0 0 0 0 0 0 l, Av, cv) : Nx).2.1 ((T.mk 5 0 0 0 0 0 0 l, Av, cv) : Nx).2.2) (by simp [results, Tryz.results62, y0, y1, y2, y3, y4, y5, y6, y7, go_sem]) rfl ⟨(T.mk 5 0 0 0 0 0 0 l, Av, cv), _, rfl, hNod, hRS, hOff, by have := Hfin.out; rw [Hj.out] at this; exact this⟩
  · obtain ⟨r, k, hsr, hsf, hk, hpp⟩ : ∃ r k, s = .ok r ∧ r' <:+ r ∧ r'.length < k + 1 ∧ av grp r = match bX grp (k + 1) (ns.map fun x : Nx => x.1) r' with | .error e => .error e | .ok (l, r2) => .ok (bW 5 l, r2) := by
     rcases HC.out with ⟨e', he, _⟩ | ⟨r, r2, k, hs, he, hsf, hk, hpp⟩
     · cases he
     · cases he
       obtain ⟨k', rfl⟩ : ∃ k', k = k' + 1 := ⟨k - 1, by omega⟩
       exact ⟨r, k', hs, hsf, hk, hpp⟩
    have Hpp := hid hpp; have Hsr := hid hsr; have Hsf := hid hsf
    clear hpp hsr hsf HC
    rcases ht : aq [124] r' with _ | r2
    · have hfin : Out (av grp) s (fun t => bW 5 (ns.map fun x : Nx => x.1) = t) (.ok r') := by
       rw [Hsr.out]
       refine Out.good (x := bW 5 (ns.map fun x : Nx => x.1)) ?_ rfl
       rw [Hpp.out, bX, ht]
      have Ht := hid ht; clear ht
      go_wp2_with fail
      refine (aX [124] (by simp) Ht.out HL.out.S).mono ?_
      rintro en W2 ⟨rfl, h2, hO2⟩
      have HL := hid (HL.out.off hlt hO2 h2)
      clear h2 hO2
      have Hfin := hid hfin
      clear hfin
      have hn3 : n = 1 ∨ 2 ≤ n := by omega
      rcases hn3 with rfl | hn2
      · obtain ⟨g, ⟨t1, A1, c1⟩, rfl, hx, h8, hg, hcv, hnd⟩ := HL.out.first (by omega)
        have hj : bW 5 (ns.map fun x : Nx => x.1) = t1 := by
         have hl := HL.out.len
         match ns, hl, hx with
         | [y], _, hx => simp at hx; subst hx; rfl
        have Hj := hid hj; have Hnd := hid hnd
        obtain ⟨f0, f1, f2, f3, f4, f5, f6, f7⟩ := h8
        simp only [Nat.zero_add] at f1 f2 f3 f4 f5 f6 f7
        clear hj hnd hx
        obtain ⟨⟨r0, r1, r2, r3, r4, r5, r6, r7⟩, hz⟩ := HL.out.R.cells8
        obtain ⟨z0, z1, z2, z3, z4, z5, z6, z7⟩ := cM hz
        have lr := HL.out.R.lt
        clear hz
        go_wp2_with fail
        change bodyPost _ _ _ _ _ (aa W2 w.heap.size (t1, A1, c1))
        have hfn := ac HL.out.R (t1, A1, c1)
        obtain ⟨⟨y0, y1, y2, y3, y4, y5, y6, y7⟩, _⟩ := hfn.cells8
        have hRS := HL.out.S.boxW (b := w.heap.size) (by omega) (t1, A1, c1)
        have hOff := Off.boxW HL.out.O (Nat.le_refl _) (t1, A1, c1)
        have hNod : RowAt (aa W2 w.heap.size (t1, A1, c1)) (fun b => w.heap.size ≤ b ∧ b < (aa W2 w.heap.size (t1, A1, c1)).heap.size) (t1, A1, c1).1 (t1, A1, c1).2.1 (t1, A1, c1).2.2 := Hnd.out.mono fun k (hk : w.heap.size < k ∧ k < W2.heap.size) => ⟨⟨by omega, by rw [ai]; exact hk.2⟩, (af _ _ _ _ (show k ≠ w.heap.size by omega))⟩
        generalize aa W2 w.heap.size (t1, A1, c1) = W3 at *
        exact bodyPost_ret (v := aB (t1, A1, c1).1 (t1, A1, c1).2.1 (t1, A1, c1).2.2) (by simp [results, Tryz.results62, y0, y1, y2, y3, y4, y5, y6, y7, go_sem]) rfl ⟨(t1, A1, c1), _, rfl, hNod, hRS, hOff, by have := Hfin.out; rw [Hj.out] at this; exact this⟩
      · obtain rfl : n = (ns.map fun x : Nx => x.1).length := by simp [HL.out.len]
        have hnd := HL.out.node (by omega) (by omega) (.mk 5 0 0 0 0 0 0 (ns.map fun x : Nx => x.1)) rfl
        have hj : bW 5 (ns.map fun x : Nx => x.1) = .mk 5 0 0 0 0 0 0 (ns.map fun x : Nx => x.1) := by
         generalize ns.map (fun x : Nx => x.1) = l at hn2
         match l, hn2 with
         | a :: b :: l, _ => rfl
        have hb1 : (((ns.map fun x : Nx => x.1).length : Int) == 1) = false := by rw [beq_eq_false_iff_ne]; omega
        have Hj := hid hj; have Hnd := hid hnd
        clear hj hnd
        generalize hl : (ns.map fun x : Nx => x.1) = l at *
        obtain ⟨⟨r0, r1, r2, r3, r4, r5, r6, r7⟩, hz⟩ := HL.out.R.cells8
        obtain ⟨z0, z1, z2, z3, z4, z5, z6, z7⟩ := cM hz
        have lr := HL.out.R.lt
        clear hz
        go_wp2_with fail
        change bodyPost _ _ _ _ _ (aa W2 w.heap.size (T.mk 5 0 0 0 0 0 0 l, Av, cv))
        have hfn := ac HL.out.R (T.mk 5 0 0 0 0 0 0 l, Av, cv)
        obtain ⟨⟨y0, y1, y2, y3, y4, y5, y6, y7⟩, _⟩ := hfn.cells8
        have hRS := HL.out.S.boxW (b := w.heap.size) (by omega) (T.mk 5 0 0 0 0 0 0 l, Av, cv)
        have hOff := Off.boxW HL.out.O (Nat.le_refl _) (T.mk 5 0 0 0 0 0 0 l, Av, cv)
        have hNod : RowAt (aa W2 w.heap.size (T.mk 5 0 0 0 0 0 0 l, Av, cv)) (fun b => w.heap.size ≤ b ∧ b < (aa W2 w.heap.size (T.mk 5 0 0 0 0 0 0 l, Av, cv)).heap.size) ((T.mk 5 0 0 0 0 0 0 l, Av, cv) : Nx).1 ((T.mk 5 0 0 0 0 0 0 l, Av, cv) : Nx).2.1 ((T.mk 5 0 0 0 0 0 0 l, Av, cv) : Nx).2.2 := Hnd.out.mono fun k (hk : w.heap.size < k ∧ k < W2.heap.size) => ⟨⟨by omega, by rw [ai]; exact hk.2⟩, (af _ _ _ _ (show k ≠ w.heap.size by omega))⟩
        generalize aa W2 w.heap.size (T.mk 5 0 0 0 0 0 0 l, Av, cv) = W3 at *
        exact bodyPost_ret (v := aB ((T.mk 5 0 0 0 0 0 0 l, Av, cv) : Nx).1 ((T.mk 5 0 0 0 0 0 0 l, Av, cv) : Nx).2.1 ((T.mk 5 0 0 0 0 0 0 l, Av, cv) : Nx).2.2) (by simp [results, Tryz.results62, y0, y1, y2, y3, y4, y5, y6, y7, go_sem]) rfl ⟨(T.mk 5 0 0 0 0 0 0 l, Av, cv), _, rfl, hNod, hRS, hOff, by have := Hfin.out; rw [Hj.out] at this; exact this⟩
    · have hres : bX grp (k + 1) (ns.map fun x : Nx => x.1) r' = match dL grp r2 with | .error e => .error e | .ok (n, r1) => bX grp k ((ns.map fun x : Nx => x.1) ++ [n]) r1 := by
       rw [bX, ht]; rfl
      have hl := am ht
      have hsf2 := (bo ht).trans Hsf.out
      simp only [List.length_cons, List.length_nil] at hl
      simp only [Rs.rest] at hnl
      have Hres := hid hres; have Ht := hid ht; have Hsf2 := hid hsf2; clear hres ht hsf2
      go_wp2_with fail
      refine (cg [124] (by simp) Ht.out HL.out.S).mono ?_
      rintro en W2 ⟨rfl, h2, hO2⟩
      have HL := hid (HL.out.off hlt hO2 h2)
      have H2 := hid h2
      clear h2 hO2
      go_wp2_with fail
      refine (HP.out W2 (.ok r2) H2.out (by simp only [Rs.rest]; omega) (fun r' e hr => HB.out r Hsr.out (by cases e; exact Hsf2.out.mem hr)) (fun r' e hr => HD.out r Hsr.out (by cases e; exact Hsf2.out.mem hr))).mono ?_
      rintro en w3 ⟨⟨t3, A3, c3⟩, s3, rfl, hx3, h3, hO3, ho3⟩
      have HL3 := hid (HL.out.off hlt hO3 h3)
      have Hx3 := hid hx3; have Ho3 := hid ho3
      have hz3 := hO3.size
      have hwr : w.heap.size < W2.heap.size := HL.out.R.lt
      clear hx3 ho3 hO3 h3
      have hnews : ∀ ad, some (⟨w3.heap.size, 0, none⟩ : Addr) = some ad → ∀ j u, (ar (t3, A3, c3))[j]? = some u → (w3.alloc (.cells (ar (t3, A3, c3)).toArray 48)).cell? (ad.add j) = some u := fun ad e j u hu => by
       simp only [Option.some.injEq] at e
       subst e
       rw [ct, World.cell?_alloc_new, Nat.zero_add]
       simpa using hu
      have Hnews := hid hnews; clear hnews
      go_wp2_with (at_builtin; refine au (w.heap.size + 1) rfl _ _ 46 48 _ 8 80 rfl Tryz.underlying46 Tryz.infoNodeX rfl (by omega) (by omega) (.slice Av n cv) n 1 (bq ns) (ar (t3, A3, c3)) (some ⟨w3.heap.size, 0, none⟩) 1 rfl rfl (by simp) rfl Hnews.out (cT _) (HL3.out.own.alloc _) (by simp; omega) (by omega) (fun A5 c5 w5 ho5 hg5 hat5 => ?_); have HL5 := hid (HL3.out.push hlt hwr (fun k hk => (HL.out.own.lt k hk).2) (t3, A3, c3) Hx3.out nal ho5 hg5 hat5); clear ho5 hg5 hat5)
      have hcs : s3.rest.length ≤ r2.length ∧ ((∃ e, s3 = .error e ∧ (s = .error e ∨ ∃ r, s = .ok r ∧ av grp r = .error e)) ∨ ∃ r r' k, s = .ok r ∧ s3 = .ok r' ∧ r' <:+ r ∧ r'.length < k ∧ av grp r = match bX grp k ((ns ++ [(t3, A3, c3)]).map fun x : Nx => x.1) r' with | .error e => .error e | .ok (l, r2) => .ok (bW 5 l, r2)) := by
       have hoo := Ho3.out
       cases hpc : dL grp r2 with
       | error e =>
        simp only [Out, hpc] at hoo
        subst hoo
        exact ⟨by simp [Rs.rest], .inl ⟨e, rfl, .inr ⟨r, Hsr.out, by rw [Hpp.out, Hres.out, hpc]⟩⟩⟩
       | ok y =>
        obtain ⟨n', r3⟩ := y
        simp only [Out, hpc] at hoo
        obtain ⟨rfl, rfl⟩ := hoo
        have hl3 := ga HGl.out hpc
        exact ⟨by simp only [Rs.rest]; omega, .inr ⟨r, r3, k, Hsr.out, rfl, (lS HGs.out hpc).trans Hsf2.out, by omega, by rw [Hpp.out, Hres.out, hpc]; simp⟩⟩
      obtain ⟨hl1, hcs⟩ := hcs
      have HCS := hid hcs; clear hcs
      go_roundg (s3.rest.length + 1)
      case measure => have := Hm.out; simp only [Rs.rest] at this; omega
      case rel => exact ⟨n + 1, _, A5, c5, s3, rfl, by omega, rfl, by omega, HL5.out, HCS.out⟩
theorem ru : ∀ (d : Nat) (p : Nat) (op : Int) (hop : op + d = 64) (h0 : 0 ≤ op) (w : World) (s : Rs), RS w p op s → s.rest.length ≤ 1024 → (∀ r, s = .ok r → 91 ∈ r → BrC) → (∀ r, s = .ok r → 46 ∈ r → oa) →
 Calls Tryz.prog 128 #[.pointer (some ⟨p, 0, none⟩)] w fun en w' => ee p op (aE d) s w en w' := by
 intro d
 induction d with
 | zero =>
  intro p op hop h0 w s h hs hB hD
  obtain rfl : op = 64 := by omega
  clear hB hD hs h0 hop
  have hlt := h.lt
  have c1 := h.rdr.c1
  have H := hid h; clear h
  go_enter Tryz.func128, Tryz.ntmps128
  go_wp2_with fail
  generalize hW : w.alloc _ = W0
  have hB0 : Below w.heap.size w W0 := by subst hW; exact nal
  have R0 : bj W0 w.heap.size (ar (.mk 0 0 0 0 0 0 0 [], none, 0)).toArray := by subst hW; exact bj.new w _
  clear hW
  refine (ci W0 p 64 s 3 (by omega) (H.out.later hB0)).mono ?_
  rintro en w1 ⟨rfl, h1, hO1⟩
  have R1 := Off.blk hO1 R0 (by omega)
  have hO := Off.trans (Off.of_below hB0) hO1
  have hout : Out (aE 0) s (fun t => ((T.mk 0 0 0 0 0 0 0 [], none, 0) : Nx).1 = t) (wR s 3) := by
   rcases s with e | r
   · exact Out.err
   · exact Out.bad rfl
  have Hout := hid hout; have H1 := hid h1; have HO := hid hO; have HR := hid R1
  obtain ⟨⟨r0, r1, r2, r3, r4, r5, r6, r7⟩, hz⟩ := R1.cells8
  obtain ⟨z0, z1, z2, z3, z4, z5, z6, z7⟩ := cM hz
  have lr := R1.lt
  clear hz hout h1 hO R1 hO1 R0
  go_wp2_with fail
  change bodyPost _ _ _ _ _ (aa w1 w.heap.size (T.mk 0 0 0 0 0 0 0 [], none, 0))
  have hfn := ac HR.out (T.mk 0 0 0 0 0 0 0 [], none, 0)
  obtain ⟨⟨y0, y1, y2, y3, y4, y5, y6, y7⟩, _⟩ := hfn.cells8
  have hRS := H1.out.boxW (b := w.heap.size) (by omega) (T.mk 0 0 0 0 0 0 0 [], none, 0)
  have hOff := Off.boxW HO.out (Nat.le_refl _) (T.mk 0 0 0 0 0 0 0 [], none, 0)
  generalize aa w1 w.heap.size (T.mk 0 0 0 0 0 0 0 [], none, 0) = W3 at *
  exact bodyPost_ret (v := aB (T.mk 0 0 0 0 0 0 0 []) none 0) (by simp [results, Tryz.results128, y0, y1, y2, y3, y4, y5, y6, y7, go_sem]) rfl ⟨(T.mk 0 0 0 0 0 0 0 [], none, 0), _, rfl, cB _ _ _ rfl, hRS, hOff, Hout.out⟩
 | succ d ih =>
  intro p op hop h0 w s h hs hB hD
  have hlt := h.lt
  have c1 := h.rdr.c1
  have z1 := h.rdr.z 1
  have hch : ∀ (w : World), RS w p (op + 1) s → Calls Tryz.prog 62 #[.pointer (some ⟨p, 0, none⟩)] w fun en w' => ee p (op + 1) (av (aE d)) s w en w' := fun w h =>
   kf w p (op + 1) s h hs (aE d) (dG d) (jJ d) hB hD (fun w s h hs hB hD => ih p (op + 1) (by omega) (by omega) w s h hs hB hD)
  have HCH := hid hch
  have H := hid h; clear h hch ih hB hD
  have hopb : (op == 64) = false := by rw [beq_eq_false_iff_ne]; omega
  have hop2 : op ≤ 63 := by omega
  clear hop hs
  go_enter Tryz.func128, Tryz.ntmps128
  go_wp2_with fail
  generalize hW : World.setCell _ _ _ = W0
  have hz0 : W0.heap.size = w.heap.size := by subst hW; simp
  have h0S : RS W0 p (op + 1) s := by subst hW; exact ⟨H.out.rdr.set1 (op + 1), H.out.ne⟩
  have hO0 : Off p w W0 := by subst hW; exact Off.set (Off.refl p w) _ _
  clear hW
  generalize hW : W0.alloc _ = W1
  have hB1 : Below W0.heap.size W0 W1 := by subst hW; exact nal
  have R1 : bj W1 w.heap.size (ar (T.mk 0 0 0 0 0 0 0 [], none, 0)).toArray := by
   have := bj.new W0 (ar (T.mk 0 0 0 0 0 0 0 [], none, 0)).toArray
   rw [hz0] at this
   subst hW
   exact this
  have hzW : w.heap.size < W1.heap.size := R1.lt
  have hO1 := Off.trans hO0 (Off.of_below hB1)
  have h1S := h0S.later hB1
  clear hW hB1 hO0 h0S hz0
  refine (HCH.out W1 h1S).mono ?_
  rintro en w2 ⟨⟨t, A, c⟩, s2, rfl, hx2, h2, hO2, ho2⟩
  have R2 := Off.blk hO2 R1 (by omega)
  have hO2 := Off.trans hO1 hO2
  have hz2 : w.heap.size < w2.heap.size := R2.lt
  have Hx2 := hid hx2; have Ho2 := hid ho2
  clear hx2 ho2 R1 hO1 h1S
  have d1 := h2.rdr.c1
  have dz := h2.rdr.z 1
  have dl := h2.lt
  go_upto_region 7 with fail
  generalize hW : (World.setCell w2 _ _).alloc _ = W3
  have hzs : (w2.setCell ⟨p, 1, none⟩ (.int .i64 op)).heap.size = w2.heap.size := by simp
  have hBs : Below w2.heap.size (w2.setCell ⟨p, 1, none⟩ (.int .i64 op)) W3 := by rw [← hW, ← hzs]; exact nal
  have N3 : bj W3 w2.heap.size (ar (t, A, c)).toArray := by
   have := bj.new (w2.setCell ⟨p, 1, none⟩ (.int .i64 op)) (ar (t, A, c)).toArray
   rw [hzs] at this
   rw [← hW]
   exact this
  have h3 : RS W3 p op s2 := RS.later (w := w2.setCell ⟨p, 1, none⟩ (.int .i64 op)) ⟨h2.rdr.set1 op, h2.ne⟩ (by rw [hzs]; exact hBs)
  have R3 : bj W3 w.heap.size (ar (T.mk 0 0 0 0 0 0 0 [], none, 0)).toArray := (R2.keep (Below.heap_setCell _ _ _ _ (show w.heap.size ≠ p by omega))).keep (hBs.block _ hz2)
  have hO3 : Off p w W3 := Off.trans (Off.set hO2 _ _) (Off.of_below (by rw [hzs]; exact hBs))
  have hW1 : w.heap.size < W1.heap.size := hzW
  have Hx3 := hid (Hx2.out.mono (w' := W3) (ok' := fun b => w.heap.size < b ∧ b < w2.heap.size) fun b (hb : W1.heap.size ≤ b ∧ b < w2.heap.size) => ⟨⟨by omega, hb.2⟩, (hBs.block _ hb.2).trans (Below.heap_setCell _ _ _ _ (show b ≠ p by omega))⟩)
  generalize hbn : w2.heap.size = bn at *
  have lbn := N3.lt
  clear hW hBs hzs R2 h2 hO2 Hx2 d1 dz dl hbn
  rcases s2 with e | r2
  · have hout : Out (aE (d + 1)) s (fun u => ((t, A, c) : Nx).1 = u) (.error e) := by
     have hoo := Ho2.out
     rcases s with e' | r
     · cases (show (Except.error e : Rs) = .error e' from hoo); exact Out.err
     · cases hc : av (aE d) r with
       | error e' => simp only [Out, hc] at hoo; cases hoo; exact Out.bad (by rw [aE, hc])
       | ok y => obtain ⟨n, r'⟩ := y; simp only [Out, hc] at hoo; cases hoo.2
    have Hout := hid hout; clear hout
    go_wp2_with fail
    refine (dm [41] (by simp) h3).mono ?_
    rintro en W4 ⟨rfl, h4, hO4⟩
    go_wp2_with fail
    refine (gE 100 (by omega) h4).mono ?_
    rintro en W5 ⟨rfl, h5, hO5⟩
    have hO5' := Off.trans hO4 hO5
    clear hO4 hO5 h4 h3
    have R5 := Off.blk hO5' R3 (by omega)
    have N5 := Off.blk hO5' N3 (by omega)
    have hO5 := Off.trans hO3 hO5'
    have Hx5 := hid (Hx3.out.mono (w' := W5) (ok' := fun b => w.heap.size < b ∧ b < bn) fun b (hb : w.heap.size < b ∧ b < bn) => ⟨hb, Off.blockN hO5' (by omega) (by omega)⟩)
    obtain ⟨⟨f0, f1, f2, f3, f4, f5, f6, f7⟩, _⟩ := N5.cells8
    obtain ⟨⟨r0, r1, r2, r3, r4, r5, r6, r7⟩, hz⟩ := R5.cells8
    have z0 := hz 0; have zz1 := hz 1; have z2 := hz 2; have z3 := hz 3; have z4 := hz 4; have z5 := hz 5; have z6 := hz 6; have z7 := hz 7
    have lr := R5.lt
    have ln := N5.lt
    have HR := hid R5; have H5 := hid h5; have HO := hid hO5
    clear hz R5 N5 h5 hO5 hO5' R3 N3 hO3
    go_wp2_with fail
    change bodyPost _ _ _ _ _ (aa W5 w.heap.size (t, A, c))
    have hfn := ac HR.out (t, A, c)
    obtain ⟨⟨y0, y1, y2, y3, y4, y5, y6, y7⟩, _⟩ := hfn.cells8
    have hRS := H5.out.boxW (b := w.heap.size) (by omega) (t, A, c)
    have hOff := Off.boxW HO.out (Nat.le_refl _) (t, A, c)
    have hNod : RowAt (aa W5 w.heap.size (t, A, c)) (fun b => w.heap.size ≤ b ∧ b < (aa W5 w.heap.size (t, A, c)).heap.size) t A c := Hx5.out.mono fun k (hk : w.heap.size < k ∧ k < bn) => ⟨⟨by omega, by rw [ai]; omega⟩, (af _ _ _ _ (show k ≠ w.heap.size by omega))⟩
    generalize aa W5 w.heap.size (t, A, c) = W6 at *
    exact bodyPost_ret (v := aB t A c) (by simp [results, Tryz.results128, y0, y1, y2, y3, y4, y5, y6, y7, go_sem]) rfl ⟨(t, A, c), _, rfl, hNod, hRS, hOff, Hout.out⟩
  · obtain ⟨r, hsr, hcc⟩ : ∃ r, s = .ok r ∧ av (aE d) r = .ok (t, r2) := by
     have hoo := Ho2.out
     rcases s with e' | r
     · cases (show (Except.ok r2 : Rs) = .error e' from hoo)
     · cases hc : av (aE d) r with
       | error e' => simp only [Out, hc] at hoo; cases hoo
       | ok y =>
        obtain ⟨n, r'⟩ := y
        simp only [Out, hc] at hoo
        obtain ⟨rfl, h'⟩ := hoo
        cases h'
        exact ⟨r, rfl, hc⟩
    have Hsr := hid hsr; have Hcc := hid hcc; clear hsr hcc
    rcases ht : aq [41] r2 with _ | r3
    · have hout : Out (aE (d + 1)) s (fun u => ((t, A, c) : Nx).1 = u) (.error 100) := by
       rw [Hsr.out]; exact Out.bad (by rw [aE, Hcc.out]; simp only [ht])
      have Hout := hid hout; have Ht := hid ht; clear hout ht
      go_wp2_with fail
      refine (aX [41] (by simp) Ht.out h3).mono ?_
      rintro en W4 ⟨rfl, h4, hO4⟩
      go_wp2_with fail
      refine (dd 100 (by omega) h4).mono ?_
      rintro en W5 ⟨rfl, h5, hO5⟩
      have hO5' := Off.trans hO4 hO5
      clear hO4 hO5 h4 h3
      have R5 := Off.blk hO5' R3 (by omega)
      have N5 := Off.blk hO5' N3 (by omega)
      have hO5 := Off.trans hO3 hO5'
      have Hx5 := hid (Hx3.out.mono (w' := W5) (ok' := fun b => w.heap.size < b ∧ b < bn) fun b (hb : w.heap.size < b ∧ b < bn) => ⟨hb, Off.blockN hO5' (by omega) (by omega)⟩)
      obtain ⟨⟨f0, f1, f2, f3, f4, f5, f6, f7⟩, _⟩ := N5.cells8
      obtain ⟨⟨r0, r1, r2, r3, r4, r5, r6, r7⟩, hz⟩ := R5.cells8
      have z0 := hz 0; have zz1 := hz 1; have z2 := hz 2; have z3 := hz 3; have z4 := hz 4; have z5 := hz 5; have z6 := hz 6; have z7 := hz 7
      have lr := R5.lt
      have ln := N5.lt
      have HR := hid R5; have H5 := hid h5; have HO := hid hO5
      clear hz R5 N5 h5 hO5 hO5' R3 N3 hO3
      go_wp2_with fail
      change bodyPost _ _ _ _ _ (aa W5 w.heap.size (t, A, c))
      have hfn := ac HR.out (t, A, c)
      obtain ⟨⟨y0, y1, y2, y3, y4, y5, y6, y7⟩, _⟩ := hfn.cells8
      have hRS := H5.out.boxW (b := w.heap.size) (by omega) (t, A, c)
      have hOff := Off.boxW HO.out (Nat.le_refl _) (t, A, c)
      have hNod : RowAt (aa W5 w.heap.size (t, A, c)) (fun b => w.heap.size ≤ b ∧ b < (aa W5 w.heap.size (t, A, c)).heap.size) t A c := Hx5.out.mono fun k (hk : w.heap.size < k ∧ k < bn) => ⟨⟨by omega, by rw [ai]; omega⟩, (af _ _ _ _ (show k ≠ w.heap.size by omega))⟩
      generalize aa W5 w.heap.size (t, A, c) = W6 at *
      exact bodyPost_ret (v := aB t A c) (by simp [results, Tryz.results128, y0, y1, y2, y3, y4, y5, y6, y7, go_sem]) rfl ⟨(t, A, c), _, rfl, hNod, hRS, hOff, Hout.out⟩
    · have hout : Out (aE (d + 1)) s (fun u => ((t, A, c) : Nx).1 = u) (.ok r3) := by
       rw [Hsr.out]; exact Out.good (x := t) (by rw [aE, Hcc.out]; simp only [ht]) rfl
      have Hout := hid hout; have Ht := hid ht; clear hout ht
      go_wp2_with fail
      refine (cg [41] (by simp) Ht.out h3).mono ?_
      rintro en W5 ⟨rfl, h5, hO5'⟩
      clear h3
      have R5 := Off.blk hO5' R3 (by omega)
      have N5 := Off.blk hO5' N3 (by omega)
      have hO5 := Off.trans hO3 hO5'
      have Hx5 := hid (Hx3.out.mono (w' := W5) (ok' := fun b => w.heap.size < b ∧ b < bn) fun b (hb : w.heap.size < b ∧ b < bn) => ⟨hb, Off.blockN hO5' (by omega) (by omega)⟩)
      obtain ⟨⟨f0, f1, f2, f3, f4, f5, f6, f7⟩, _⟩ := N5.cells8
      obtain ⟨⟨r0, r1, r2, r3, r4, r5, r6, r7⟩, hz⟩ := R5.cells8
      have z0 := hz 0; have zz1 := hz 1; have z2 := hz 2; have z3 := hz 3; have z4 := hz 4; have z5 := hz 5; have z6 := hz 6; have z7 := hz 7
      have lr := R5.lt
      have ln := N5.lt
      have HR := hid R5; have H5 := hid h5; have HO := hid hO5
      clear hz R5 N5 h5 hO5 hO5' R3 N3 hO3
      go_wp2_with fail
      change bodyPost _ _ _ _ _ (aa W5 w.heap.size (t, A, c))
      have hfn := ac HR.out (t, A, c)
      obtain ⟨⟨y0, y1, y2, y3, y4, y5, y6, y7⟩, _⟩ := hfn.cells8
      have hRS := H5.out.boxW (b := w.heap.size) (by omega) (t, A, c)
      have hOff := Off.boxW HO.out (Nat.le_refl _) (t, A, c)
      have hNod : RowAt (aa W5 w.heap.size (t, A, c)) (fun b => w.heap.size ≤ b ∧ b < (aa W5 w.heap.size (t, A, c)).heap.size) t A c := Hx5.out.mono fun k (hk : w.heap.size < k ∧ k < bn) => ⟨⟨by omega, by rw [ai]; omega⟩, (af _ _ _ _ (show k ≠ w.heap.size by omega))⟩
      generalize aa W5 w.heap.size (t, A, c) = W6 at *
      exact bodyPost_ret (v := aB t A c) (by simp [results, Tryz.results128, y0, y1, y2, y3, y4, y5, y6, y7, go_sem]) rfl ⟨(t, A, c), _, rfl, hNod, hRS, hOff, Hout.out⟩
def zj (s : Bs) (w : World) (en : Ending) (w' : World) : Prop :=
 Below w.heap.size w w' ∧ ((∃ t A c, aY s = .ok t ∧ en = .returned (.tuple #[aB t A c, .int .i64 0]) ∧ RowAt w' (fun b => w.heap.size ≤ b ∧ b < w'.heap.size) t A c) ∨ ∃ e, aY s = .error e ∧ e ≠ 0 ∧ en = .returned (.tuple #[aB ay none 0, .int .i64 e]))
theorem re (s : Bs) (w : World) (hM : dc w) (hB : 91 ∈ s → BrC) (hD : 46 ∈ s → oa) :
 Calls Tryz.prog 42 #[.string (bs s)] w fun en w' => zj s w en w' := by
 by_cases hlen : 1024 < s.length
 · have hp : aY s = .error 3 := by rw [aY, if_pos hlen]
   have Hp := hid hp; clear hp hB hD
   go_enter Tryz.func42, Tryz.ntmps42
   go_wp2_with fail
   exact bodyPost_ret (v := .tuple #[aB ay none 0, .int .i64 3]) (by simp [results, Tryz.results42, go_sem, T.k, T.s0, T.s1, T.s2, T.s3, T.mn, T.mx, T.ps]) rfl ⟨nal, .inr ⟨3, Hp.out, by omega, rfl⟩⟩
 · have hch : ∀ (w : World) (p : Nat), RS w p 0 (.ok s) → Calls Tryz.prog 62 #[.pointer (some ⟨p, 0, none⟩)] w fun en w' => ee p 0 (av (aE 64)) (.ok s) w en w' := fun w p h =>
    kf w p 0 (.ok s) h (by simp only [Rs.rest]; omega) (aE 64) (dG 64) (jJ 64) (fun r e hr => hB (by cases e; exact hr)) (fun r e hr => hD (by cases e; exact hr)) (fun w s h hs hB hD => ru 64 p 0 (by omega) (by omega) w s h hs hB hD)
   have HCH := hid hch; clear hch hB hD
   go_enter Tryz.func42, Tryz.ntmps42
   go_wp2_with fail
   generalize hW : (w.alloc _).alloc _ = W1
   have hB1 : Below w.heap.size w W1 := by subst hW; exact nal.alloc (by simp) _
   have R1 : bj W1 w.heap.size (ar (ay, none, 0)).toArray := by
    subst hW
    exact (bj.new w _).keep (nal.block _ (by simp))
   have h1 : RS W1 (w.heap.size + 1) 0 (.ok s) := by
    have hM1 := hM.later hB1
    subst hW
    refine ⟨⟨?_, ?_, ?_, fun o => ?_, by simp, hM1, by omega⟩, fun e he => by cases he⟩
    · simp [go_sem, Rs.rest]
    · simp [go_sem]
    · simp [go_sem, Rs.no]
    · simp [go_sem]
   have hz1 : W1.heap.size = w.heap.size + 2 := by subst hW; simp
   clear hW
   refine (HCH.out W1 (w.heap.size + 1) h1).mono ?_
   rintro en w2 ⟨⟨t, A, c⟩, s2, rfl, hx2, h2, hO2, ho2⟩
   have R2 := Off.blk hO2 R1 (by omega)
   have hz2 := hO2.size
   have hBw2 : Below w.heap.size w w2 := hB1.trans (Off.below hO2 (by omega) (by omega))
   have Hx2 := hid hx2; have Ho2 := hid ho2
   have hzz : w.heap.size + 2 ≤ W1.heap.size := by omega
   clear hx2 ho2 R1 h1 hO2 hz1 hB1
   go_upto_region 5 with fail
   generalize hW : w2.alloc _ = W3
   have hB3 : Below w2.heap.size w2 W3 := by subst hW; exact nal
   have N3 : bj W3 w2.heap.size (ar (t, A, c)).toArray := by subst hW; exact bj.new w2 _
   have R3 := R2.keep (hB3.block _ R2.lt)
   have h3 := h2.later hB3
   have hBw3 := hBw2.trans (hB3.mono (by omega))
   have Hx3 := hid (Hx2.out.mono (w' := W3) (ok' := fun b => w.heap.size + 2 ≤ b ∧ b < w2.heap.size) fun b (hb : W1.heap.size ≤ b ∧ b < w2.heap.size) => ⟨⟨by omega, hb.2⟩, hB3.block _ hb.2⟩)
   generalize hbn : w2.heap.size = bn at *
   have lbn := N3.lt
   have lp3 := h3.lt
   clear hW hB3 R2 h2 hBw2 Hx2 hbn
   have c0 := h3.rdr.c0
   have c2 := h3.rdr.c2
   rcases s2 with e | r2
   · have hne := h3.ne e rfl
     have hp : aY s = .error e := by
      have hoo := Ho2.out
      rw [aY, if_neg hlen]
      cases hc : av (aE 64) s with
      | error e' => simp only [Out, hc] at hoo; cases hoo; rfl
      | ok y => obtain ⟨n, r'⟩ := y; simp only [Out, hc] at hoo; cases hoo.2
     have Hp := hid hp; clear hp
     have hb : (e != 0) = true := by rw [bne_iff_ne]; exact hne
     have Hne := hid hne; clear hne
     simp only [Rs.rest, Rs.no] at c0 c2
     obtain ⟨⟨r0, r1, r2_, r3, r4, r5, r6, r7⟩, hz⟩ := R3.cells8
     have z0 := hz 0; have zz1 := hz 1; have z2 := hz 2; have z3 := hz 3; have z4 := hz 4; have z5 := hz 5; have z6 := hz 6; have z7 := hz 7
     have lr := R3.lt
     clear hz
     go_wp2_with fail
     go_region
     all_goals go_wp2_with fail
     change bodyPost _ _ _ _ _ (aa W3 w.heap.size (ay, none, 0)).drew
     have hfn := ac R3 (ay, none, 0)
     obtain ⟨⟨y0, y1, y2, y3, y4, y5, y6, y7⟩, _⟩ := hfn.cells8
     have hbel := (bO hBw3 (Nat.le_refl w.heap.size) (ay, none, 0)).drew
     generalize aa W3 w.heap.size (ay, none, 0) = W5 at *
     exact bodyPost_ret (v := .tuple #[aB ay none 0, .int .i64 e]) (by simp [results, Tryz.results42, y0, y1, y2, y3, y4, y5, y6, y7, go_sem]) rfl ⟨hbel, .inr ⟨_, Hp.out, Hne.out, rfl⟩⟩
   · have hcc : av (aE 64) s = .ok (t, r2) := by
      have hoo := Ho2.out
      cases hc : av (aE 64) s with
      | error e' => simp only [Out, hc] at hoo; cases hoo
      | ok y =>
       obtain ⟨n, r'⟩ := y
       simp only [Out, hc] at hoo
       obtain ⟨rfl, h'⟩ := hoo
       cases h'
       rfl
     have Hcc := hid hcc; clear hcc Ho2
     simp only [Rs.rest, Rs.no] at c0 c2
     rcases r2 with _ | ⟨c1, t1⟩
     · have hp : aY s = .ok t := by rw [aY, if_neg hlen, Hcc.out]
       have Hp := hid hp; clear hp
       obtain ⟨⟨f0, f1, f2, f3, f4, f5, f6, f7⟩, _⟩ := N3.cells8
       obtain ⟨⟨r0, r1, r2_, r3, r4, r5, r6, r7⟩, hz⟩ := R3.cells8
       have z0 := hz 0; have zz1 := hz 1; have z2 := hz 2; have z3 := hz 3; have z4 := hz 4; have z5 := hz 5; have z6 := hz 6; have z7 := hz 7
       have lr := R3.lt
       clear hz
       have HR := hid R3
       clear R3 N3 h3
       go_wp2_with fail
       change bodyPost _ _ _ _ _ (aa W3 w.heap.size (t, A, c))
       have hfn := ac HR.out (t, A, c)
       obtain ⟨⟨y0, y1, y2, y3, y4, y5, y6, y7⟩, _⟩ := hfn.cells8
       have hbel := bO hBw3 (Nat.le_refl w.heap.size) (t, A, c)
       have hNod : RowAt (aa W3 w.heap.size (t, A, c)) (fun b => w.heap.size ≤ b ∧ b < (aa W3 w.heap.size (t, A, c)).heap.size) t A c := Hx3.out.mono fun k (hk : w.heap.size + 2 ≤ k ∧ k < bn) => ⟨⟨by omega, by rw [ai]; omega⟩, (af _ _ _ _ (show k ≠ w.heap.size by omega))⟩
       generalize aa W3 w.heap.size (t, A, c) = W5 at *
       exact bodyPost_ret (v := .tuple #[aB t A c, .int .i64 0]) (by simp [results, Tryz.results42, y0, y1, y2, y3, y4, y5, y6, y7, go_sem]) rfl ⟨hbel, .inl ⟨t, A, c, Hp.out, rfl, hNod⟩⟩
     · have hp : aY s = .error 100 := by rw [aY, if_neg hlen, Hcc.out]
       have Hp := hid hp; clear hp
       have H3 := hid h3
       go_wp2_with fail
       refine (dd 100 (by omega) H3.out).mono ?_
       rintro en W4 ⟨rfl, h4, hO4⟩
       have R4 := Off.blk hO4 R3 (by omega)
       have hz3 : w.heap.size ≤ W3.heap.size := by omega
       have hBw4 := hBw3.trans (Off.below hO4 (B := w.heap.size) (by omega) hz3)
       have d2 := h4.rdr.c2
       have lp4 := h4.lt
       simp only [Rs.no] at d2
       clear c0 c2 R3 N3 h3 h4 hO4 H3
       obtain ⟨⟨r0, r1, r2_, r3, r4, r5, r6, r7⟩, hz⟩ := R4.cells8
       have z0 := hz 0; have zz1 := hz 1; have z2 := hz 2; have z3 := hz 3; have z4 := hz 4; have z5 := hz 5; have z6 := hz 6; have z7 := hz 7
       have lr := R4.lt
       clear hz
       go_wp2_with fail
       go_region
       all_goals go_wp2_with fail
       change bodyPost _ _ _ _ _ (aa W4 w.heap.size (ay, none, 0)).drew
       have hfn := ac R4 (ay, none, 0)
       obtain ⟨⟨y0, y1, y2, y3, y4, y5, y6, y7⟩, _⟩ := hfn.cells8
       have hbel := (bO hBw4 (Nat.le_refl w.heap.size) (ay, none, 0)).drew
       generalize aa W4 w.heap.size (ay, none, 0) = W5 at *
       exact bodyPost_ret (v := .tuple #[aB ay none 0, .int .i64 100]) (by simp [results, Tryz.results42, y0, y1, y2, y3, y4, y5, y6, y7, go_sem]) rfl ⟨hbel, .inr ⟨_, Hp.out, (by omega), rfl⟩⟩
theorem tG (s : Bs) (w : World) (hM : dc w) (hB : 91 ∈ s → BrC) (hD : 46 ∈ s → oa) :
 Calls Tryz.prog 42 #[.string (bs s)] w fun en w' => zy s w en w' :=
 (re s w hM hB hD).mono fun en w' ⟨hb, h⟩ => ⟨hb, h.imp (fun ⟨t, A, c, h1, h2, h3⟩ => ⟨t, A, c, h1, h2, h3.node⟩) id⟩
def cC (s : Bs) : Int := match aY s with | .error e => e | .ok t => bP t
def bm (s : Bs) : List St := match aY s with | .error _ => [] | .ok t => bJ t
def bU (s : Bs) : Int := match aY s with | .error _ => 0 | .ok t => cQ t
def aK (s subj : Bs) : Bool × Int × Int := if cC s ≠ 0 then (false, 0, cC s) else dK (bm s) (bU s) subj
theorem lP {w1 W : World} {b : Nat} {u0 u1 : Value} (v0 v1 : Value) (h0 : w1.cell? ⟨b, 0, none⟩ = some u0) (h1 : w1.cell? ⟨b, 1, none⟩ = some u1) (hW : W = (w1.setCell ⟨b, 0, none⟩ v0).setCell ⟨b, 1, none⟩ v1) :
 W.cell? ⟨b, 0, none⟩ = some v0 ∧ W.cell? ⟨b, 1, none⟩ = some v1 ∧ W.heap.size = w1.heap.size ∧ (∀ k, k ≠ b → W.heap[k]? = w1.heap[k]?) ∧ ∀ B w, B ≤ b → Below B w w1 → Below B w W := by
 subst hW
 refine ⟨?_, World.cell?_setCell_same _ _ _ (by rw [World.cell?_setCell_other (h := by simp)]; exact h1), by simp, fun k hk => ?_, fun B w hB hb => (hb.setCell (by simpa using hB) _).setCell (by simpa using hB) _⟩
 · rw [World.cell?_setCell_other (h := by simp)]
   exact World.cell?_setCell_same _ _ _ h0
 · rw [Below.heap_setCell _ _ _ _ hk, Below.heap_setCell _ _ _ _ hk]
theorem qm (s : Bs) (w : World) (hM : dc w) (hB : 91 ∈ s → BrC) (hD : 46 ∈ s → oa) :
 Calls Tryz.prog 29 #[.string (bs s)] w fun en w' => ∃ A c, en = .returned (.tuple #[iI (bm s) (bU s) A c, .int .i64 (cC s)]) ∧ w'.ownsRow w.heap.size 30 7 (.slice A (bm s).length c) (bm s).length (aR (bm s)) ∧ Below w.heap.size w w' := by
 have HB := hid hB; have HD := hid hD; clear hB hD
 go_enter Tryz.func29, Tryz.ntmps29
 go_wp2_with fail
 generalize hW : w.alloc _ = W0
 have hB0 : Below w.heap.size w W0 := by subst hW; exact nal
 have hz0 : w.heap.size < W0.heap.size := by subst hW; simp
 have P0 : At2 W0 w.heap.size (.slice none 0 0) 0 := by subst hW; constructor <;> simp [go_sem]
 have y0 : ∀ o, W0.frozen? ⟨w.heap.size, o, none⟩ = false := fun o => by subst hW; simp [go_sem]
 clear hW
 refine (tG s W0 (hM.later hB0) HB.out HD.out).mono ?_
 rintro en w1 ⟨hb1, ⟨t, A, c, hp, rfl, hN⟩ | ⟨e, hp, he, rfl⟩⟩
 case inr =>
  have hz1 := hb1.size
  have P1 := P0.later hb1 hz0
  have y1 : ∀ o, w1.frozen? ⟨w.heap.size, o, none⟩ = false := fun o => (hb1.frozen (p := ⟨w.heap.size, o, none⟩) hz0).trans (y0 o)
  have hB1 := hB0.trans (hb1.mono (by omega))
  have hE : cC s = e := by unfold cC; rw [hp]
  have hL : bm s = [] := by unfold bm; rw [hp]
  have hS : bU s = 0 := by unfold bU; rw [hp]
  have HE := hid hE; have HL := hid hL; have HS := hid hS
  have heb : (e != 0) = true := by simpa using he
  obtain ⟨p0, p1⟩ := P1
  have q0 := y1 0; have q1 := y1 1
  have lq : w.heap.size < w1.heap.size := by omega
  clear hE hL hS hp he P0 y0 y1 hb1
  go_wp2_with fail
  generalize hW2 : (w1.setCell _ _).setCell _ _ = W2
  obtain ⟨r0, r1, hs2, hk2, hb2⟩ := lP _ _ p0 p1 hW2.symm
  have hB2 := hb2 _ _ (Nat.le_refl _) hB1
  have lq2 : w.heap.size < W2.heap.size := by omega
  clear hW2 hk2
  have r0' := (((Below.refl W2.heap.size W2).alloc (Nat.le_refl _) (.cells #[.int .i64 ay.k, .int .u64 ay.s0, .int .u64 ay.s1, .int .u64 ay.s2, .int .u64 ay.s3, .int .i64 ay.mn, .int .i64 ay.mx, .slice none ay.ps.length 0] 48)).cell (p := ⟨w.heap.size, 0, none⟩) lq2).trans r0
  have r1' := (((Below.refl W2.heap.size W2).alloc (Nat.le_refl _) (.cells #[.int .i64 ay.k, .int .u64 ay.s0, .int .u64 ay.s1, .int .u64 ay.s2, .int .u64 ay.s3, .int .i64 ay.mn, .int .i64 ay.mx, .slice none ay.ps.length 0] 48)).cell (p := ⟨w.heap.size, 1, none⟩) lq2).trans r1
  have hB3 := hB2.trans (((Below.refl W2.heap.size W2).alloc (Nat.le_refl _) (.cells #[.int .i64 ay.k, .int .u64 ay.s0, .int .u64 ay.s1, .int .u64 ay.s2, .int .u64 ay.s3, .int .i64 ay.mn, .int .i64 ay.mx, .slice none ay.ps.length 0] 48)).mono (by omega))
  generalize hW3 : W2.alloc _ = W3 at *
  refine bodyPost_ret (v := .tuple #[.agg #[.slice none 0 0, .int .i64 0], .int .i64 e]) (by simp [results, Tryz.results29, r0', r1', go_sem]) rfl ⟨none, 0, by rw [HE.out, HL.out, HS.out]; rfl, ?_, hB3⟩
  rw [HL.out]; exact ⟨rfl, .inl ⟨rfl, rfl⟩⟩
 case inl =>
  have hz1 := hb1.size
  have P1 := P0.later hb1 hz0
  have y1 : ∀ o, w1.frozen? ⟨w.heap.size, o, none⟩ = false := fun o => (hb1.frozen (p := ⟨w.heap.size, o, none⟩) hz0).trans (y0 o)
  have hB1 := hB0.trans (hb1.mono (by omega))
  have hE : cC s = bP t := by unfold cC; rw [hp]
  have hL : bm s = bJ t := by unfold bm; rw [hp]
  have hS : bU s = cQ t := by unfold bU; rw [hp]
  have HE := hid hE; have HL := hid hL; have HS := hid hS
  have HN := hid hN
  have lq : w.heap.size < w1.heap.size := by omega
  clear hE hL hS hp P0 y0 hN
  go_wp2_with fail
  generalize hW2 : w1.alloc _ = W2
  have hb2 : Below w1.heap.size w1 W2 := by subst hW2; exact nal
  have hN2 := HN.out.later hb2 (fun b hb => hb.2)
  have P2 := P1.later hb2 lq
  have y2 : ∀ o, W2.frozen? ⟨w.heap.size, o, none⟩ = false := fun o => (hb2.frozen (p := ⟨w.heap.size, o, none⟩) lq).trans (y1 o)
  have hz2 := hb2.size
  have hB2 := hB1.trans (hb2.mono (by omega))
  clear hW2 P1 y1
  refine (vH t W2 _ A c hN2 (fun b hb => by omega)).mono ?_
  rintro en w3 ⟨v, rfl, ho3, hb3⟩
  obtain ⟨A3, c3, rfl⟩ := pR ho3
  have P3 := P2.later hb3 (by omega)
  have y3 : ∀ o, w3.frozen? ⟨w.heap.size, o, none⟩ = false := fun o => (hb3.frozen (p := ⟨w.heap.size, o, none⟩) (by show w.heap.size < _; omega)).trans (y2 o)
  have hB3 := hB2.trans (hb3.mono (by omega))
  have hz3 := hb3.size
  obtain ⟨p0, p1⟩ := P3
  have q0 := y3 0; have q1 := y3 1
  have lq3 : w.heap.size < w3.heap.size := by omega
  have Ho3 := hid ho3
  clear P2 y2 y3 ho3 hN2
  go_wp2_with fail
  generalize hW4 : (w3.setCell _ _).setCell _ _ = W4
  obtain ⟨r0, r1, hs4, hk4, hb4⟩ := lP _ _ p0 p1 hW4.symm
  have hB4 := hb4 _ _ (Nat.le_refl _) hB3
  have ho4 : W4.ownsRow W2.heap.size 30 7 (.slice A3 (bJ t).length c3) (bJ t).length (aR (bJ t)) := by
   refine Ho3.out.kept (row := some w.heap.size) ⟨by subst hW4; rfl, by subst hW4; rfl, by subst hW4; rfl, by omega, fun k hk hne => hk4 k (by simpa using hne)⟩ (.inr fun e => ?_)
   have := (Ho3.out.lt _ e).1
   omega
  refine bodyPost_ret (v := .tuple #[.agg #[.slice A3 (bJ t).length c3, .int .i64 (cQ t)], .int .i64 (bP t)]) (by simp [results, Tryz.results29, r0, r1, go_sem]) rfl ⟨A3, c3, by rw [HE.out, HL.out, HS.out], ?_, hB4⟩
  rw [HL.out]
  exact ho4.mono (by omega)
theorem mA (s : Bs) : (bm s).length ≤ 4096 := by
 unfold bm
 split
 · simp
 · exact iU _
theorem cX (s subj : Bs) (w : World) (hM : dc w) (hB : 91 ∈ s → BrC) (hD : 46 ∈ s → oa) :
 Calls Tryz.prog 19 #[.string (bs s), .string (bs subj)] w fun en w' => en = .returned (.tuple #[.bool (aK s subj).1, .int .i64 (aK s subj).2.1, .int .i64 (aK s subj).2.2]) ∧ Below w.heap.size w w' := by
 have HB := hid hB; have HD := hid hD; clear hB hD
 go_enter Tryz.func19, Tryz.ntmps19
 go_wp2_with fail
 refine (qm s w hM HB.out HD.out).mono ?_
 rintro en w1 ⟨A, c, rfl, ho1, hb1⟩
 have hl := mA s
 have Ho1 := hid ho1
 have hz1 := hb1.size
 clear ho1
 by_cases he : cC s = 0
 · have hres : aK s subj = dK (bm s) (bU s) subj := by unfold aK; rw [if_neg (by simpa using he)]
   have Hres := hid hres
   have hb : (cC s != 0) = false := by rw [he]; rfl
   clear hres he
   go_wp2_with fail
   generalize hW2 : w1.alloc _ = W2
   have hb2 : Below w1.heap.size w1 W2 := by subst hW2; exact nal
   have hz2 := hb2.size
   clear hW2
   refine (ic W2 (fun b => b < W2.heap.size) (bm s) (bU s) A c (lQ (gN Ho1.out hb2) hl) (fun b h => h) subj).mono ?_
   rintro en w3 ⟨rfl, hb3⟩
   go_wp2_with fail
   exact bodyPost_ret (v := .tuple #[.bool (dK (bm s) (bU s) subj).1, .int .i64 (dK (bm s) (bU s) subj).2.1, .int .i64 (dK (bm s) (bU s) subj).2.2]) (by simp [results, Tryz.results19, go_sem]) rfl ⟨by rw [Hres.out], hb1.trans ((hb2.mono hz1).trans (hb3.mono (by omega)))⟩
 · have hres : aK s subj = (false, 0, cC s) := by unfold aK; rw [if_pos he]
   have Hres := hid hres
   have hb : (cC s != 0) = true := by rw [bne_iff_ne]; exact he
   clear hres he
   go_wp2_with fail
   exact bodyPost_ret (v := .tuple #[.bool false, .int .i64 0, .int .i64 (cC s)]) (by simp [results, Tryz.results19, go_sem]) rfl ⟨by rw [Hres.out], hb1.alloc hz1 _⟩
theorem fw1 : aK [97, 36] [98, 97] = (true, 5, 0) := by kernel_rfl
theorem fw2 : aK [94, 97] [98, 97] = (false, 4, 0) := by kernel_rfl
theorem fw3 : (aK [40, 97, 98, 41, 43, 99] [120, 97, 98, 97, 98, 99]).1 = true := by kernel_rfl
theorem zD : (aK [40, 97, 98, 41, 43, 99] [120, 97, 98, 97, 98, 99]).2.2 = 0 := by kernel_rfl
theorem fw4 : (aK [97, 40] []).2.2 = 100 := by kernel_rfl
theorem fw5 : dK [] 0 [] = (false, 0, 110) := by kernel_rfl
theorem bt (w : World) (hM : dc w) :
 Calls Tryz.prog 16 #[] w fun en w' => en = .returned (.bool true) ∧ Below w.heap.size w w' := by
 go_enter Tryz.func16, Tryz.ntmps16
 go_wp2_with fail
 refine (cX [97, 36] [98, 97] w hM (by simp) (by simp)).mono ?_
 rintro en w1 ⟨rfl, hb1⟩
 have hz1 := hb1.size
 have hM1 := hM.later hb1
 rw [fw1]
 go_wp2_with fail
 refine (cX [94, 97] [98, 97] w1 hM1 (by simp) (by simp)).mono ?_
 rintro en w2 ⟨rfl, hb2⟩
 have hz2 := hb2.size
 have hM2 := hM1.later hb2
 rw [fw2]
 go_wp2_with fail
 refine (cX [40, 97, 98, 41, 43, 99] [120, 97, 98, 97, 98, 99] w2 hM2 (by simp) (by simp)).mono ?_
 rintro en w3 ⟨rfl, hb3⟩
 have hz3 := hb3.size
 have hM3 := hM2.later hb3
 rw [fw3, zD]
 go_wp2_with fail
 refine (cX [97, 40] [] w3 hM3 (by simp) (by simp)).mono ?_
 rintro en w4 ⟨rfl, hb4⟩
 have hz4 := hb4.size
 rw [fw4]
 go_wp2_with fail
 refine (ic w4 (fun b => b < w4.heap.size) [] 0 none 0 ⟨by simp, by simp, fun _ => rfl, fun h => by simp at h⟩ (fun b h => h) []).mono ?_
 rintro en w5 ⟨rfl, hb5⟩
 rw [fw5]
 go_wp2_with fail
 exact bodyPost_ret (v := .bool true) (by simp [results, Tryz.results16, go_sem]) rfl ⟨rfl, hb1.trans ((hb2.mono hz1).trans ((hb3.mono (by omega)).trans ((hb4.mono (by omega)).trans (hb5.mono (by omega)))))⟩
theorem xB (b e : Bool) : [1].foldl (kz (bm [97]) b e 98) (kB (bm [97]) b e [] (bU [97]).toNat) = [1] := by cases b <;> cases e <;> kernel_rfl
theorem vL (b e : Bool) (c : Nat) : ([] : List Nat).foldl (kz (bm [97]) b e c) (kB (bm [97]) b e [] (bU [97]).toNat) = [1] := by rw [List.foldl_nil]; cases b <;> cases e <;> kernel_rfl
theorem vK (b e : Bool) : ([1].foldl (kz (bm [97]) b e 97) (kB (bm [97]) b e [] (bU [97]).toNat)).length = 2 ∧ gj (bm [97]) ([1].foldl (kz (bm [97]) b e 97) (kB (bm [97]) b e [] (bU [97]).toNat)) = true := by cases b <;> cases e <;> exact ⟨by kernel_rfl, by kernel_rfl⟩
theorem sw : gj (bm [97]) [1] = false := by kernel_rfl
theorem zq : cC [97] = 0 := by kernel_rfl
theorem zo : bB (bm [97]) (bU [97]) = 0 := by kernel_rfl
theorem zB : cC [98] = 0 := by kernel_rfl
theorem zA : bB (bm [98]) (bU [98]) = 0 := by kernel_rfl
theorem zn : cC [97, 123, 51, 125, 40] = 100 := by kernel_rfl
theorem zr : bB [] 0 = 110 := by kernel_rfl
theorem ox (subj : List UInt8) (m : Nat) : ∀ (k at_ : Nat) (s : Int), (∀ j, at_ ≤ j → j < at_ + k → bM subj j = 98) → bF (bm [97]) (bU [97]) subj (k + m) at_ [1] s = bF (bm [97]) (bU [97]) subj m (at_ + k) [1] (s + k)
 | 0, at_, s, _ => by simp
 | k + 1, at_, s, h => by
  have hs : cA (bm [97]) (bU [97]) subj at_ [1] = [1] := by
   unfold cA
   rw [h at_ (Nat.le_refl _) (by omega)]
   exact xB _ _
  rw [show k + 1 + m = k + m + 1 by omega, bF, hs, sw, if_neg (by simp), ox subj m k (at_ + 1) _ (fun j h1 h2 => h j (by omega) (by omega))]
  rw [show at_ + 1 + k = at_ + (k + 1) by omega]
  congr 1
  simp only [List.length_cons, List.length_nil]
  omega
theorem pX (subj : List UInt8) (m : Nat) : bF (bm [97]) (bU [97]) subj (m + 1) 0 [] 0 = bF (bm [97]) (bU [97]) subj m 1 [1] 1 := by
 have hs : cA (bm [97]) (bU [97]) subj 0 [] = [1] := by
  unfold cA
  exact vL _ _ _
 rw [bF, hs, sw, if_neg (by simp)]
 rfl
theorem xC (subj : List UInt8) (at_ : Nat) (s : Int) (h : bM subj at_ = 97) : bF (bm [97]) (bU [97]) subj 1 at_ [1] s = (true, s + 2) := by
 obtain ⟨h1, h2⟩ := vK (at_ == 0) (at_ == subj.length)
 have hs : (cA (bm [97]) (bU [97]) subj at_ [1]).length = 2 ∧ gj (bm [97]) (cA (bm [97]) (bU [97]) subj at_ [1]) = true := by
  unfold cA
  rw [h]
  exact ⟨h1, h2⟩
 rw [bF, if_pos hs.2, hs.1]
 rfl
theorem qn (n j : Nat) (t : List UInt8) (h1 : 1 ≤ j) (h2 : j < 1 + n) : bM (List.replicate n 98 ++ t) j = 98 := by
 unfold bM
 rw [List.getD_eq_getElem?_getD, List.getElem?_append_left (by rw [List.length_replicate]; omega), List.getElem?_replicate, if_pos (by omega)]
 rfl
theorem wl (n : Nat) (c : UInt8) : bM (List.replicate n 98 ++ [c]) (n + 1) = c.toNat := by
 unfold bM
 rw [List.getD_eq_getElem?_getD, Nat.add_sub_cancel, List.getElem?_append_right (by rw [List.length_replicate]; omega), List.length_replicate, Nat.sub_self]
 rfl
theorem ug (n : Nat) (hn : n ≤ 65536) : aK [97] (List.replicate n 98) = (false, (n : Int) + 1, 0) := by
 have h : bF (bm [97]) (bU [97]) (List.replicate n 98) n 1 [1] 1 = _ := ox (List.replicate n 98) 0 n 1 1 (fun j h1 h2 => by have := qn n j [] h1 (by omega); rwa [List.append_nil] at this)
 rw [aK, if_neg (by rw [zq]; simp), dK, if_neg (by rw [zo]; simp), List.length_replicate, if_neg (by omega), pX, h, bF]
 simp only [Prod.mk.injEq, true_and, and_true]
 omega
theorem uh (n : Nat) (hn : n < 65536) : aK [97] (List.replicate n 98 ++ [97]) = (true, (n : Int) + 3, 0) := by
 have h := ox (List.replicate n 98 ++ [97]) 1 n 1 1 (fun j h1 h2 => qn n j [97] h1 (by omega))
 rw [aK, if_neg (by rw [zq]; simp), dK, if_neg (by rw [zo]; simp), List.length_append, List.length_replicate, List.length_singleton, if_neg (by omega), pX, h, xC _ _ _ (by rw [Nat.add_comm 1 n]; exact wl n 97)]
 simp only [Prod.mk.injEq, true_and, and_true]
 omega
theorem uf (x : List UInt8) (h : 65536 < x.length) : aK [98] x = (false, 0, 3) := by
 rw [aK, if_neg (by rw [zB]; simp), dK, if_neg (by rw [zA]; simp), if_pos h]
theorem vW (x : List UInt8) : aK [97, 123, 51, 125, 40] x = (false, 0, 100) := by
 rw [aK, if_pos (by rw [zn]; simp), zn]
theorem xF (x : List UInt8) : dK [] 0 x = (false, 0, 110) := by
 rw [dK, if_pos (by rw [zr]; simp), zr]
structure CExt (w w' : World) : Prop where
 size : w.heap.size ≤ w'.heap.size
 cells : ∀ (k : Nat) (cs : Array Value) (t : TypeId) (z : Nat × Nat), w.heap[k]? = some (.cells cs t z) → w'.heap[k]? = some (.cells cs t z)
theorem CExt.refl (w : World) : CExt w w := ⟨Nat.le_refl _, fun _ _ _ _ h => h⟩
theorem CExt.trans {w w1 w2 : World} (h : CExt w w1) (k : CExt w1 w2) : CExt w w2 := ⟨Nat.le_trans h.size k.size, fun b cs t z e => k.cells b cs t z (h.cells b cs t z e)⟩
theorem CExt.of_below {w w' : World} (h : Below w.heap.size w w') : CExt w w' :=
 ⟨h.size, fun k cs t z e => (h.block k (Array.getElem?_eq_some_iff.1 e).1).trans e⟩
def fY (w : World) (v : Value) (f : Nat → Bool) : Prop :=
 ∃ (fn : FuncId) (caps : Array Value), v = .func (.func fn) #[] caps ∧ (∀ args w, (callFunc fn args).run Tryz.prog w = .ok (.enter fn args) w) ∧ ∀ w', CExt w w' → ∀ c < 256, Calls Tryz.prog fn (#[.int .u8 (c : Nat)] ++ caps) w' fun en w'' => en = .returned (.bool (f c)) ∧ Below w'.heap.size w' w''
theorem fY.later {w w' : World} {v : Value} {f : Nat → Bool} (h : fY w v f) (k : CExt w w') : fY w' v f := by
 obtain ⟨fn, caps, rfl, hc, h⟩ := h
 exact ⟨fn, caps, rfl, hc, fun w2 k2 => h w2 (k.trans k2)⟩
theorem kF (f : Nat → Bool) : dq f = (List.range 256).foldl (fun s c => if f c then s.add c else s) w40 := rfl
theorem rz (f : Nat → Bool) (j : Nat) (hj : j < 256) (s : W4) : (List.range' j (256 - j)).foldl (fun s c => if f c then s.add c else s) s = (List.range' (j + 1) (256 - (j + 1))).foldl (fun s c => if f c then s.add c else s) (if f j then s.add j else s) := by
 rw [show 256 - j = (256 - (j + 1)) + 1 by omega, List.range'_succ, List.foldl_cons]
theorem At4.addW {w : World} {b o : Nat} {s : W4} (h : At4 w b o s) (c : Nat) (hc : c < 256) : At4 (addW w b o s c) b o (s.add c) := by
 obtain ⟨f0, f1, f2, f3⟩ := h
 unfold Go.Proofs.YthlakbjnmbddaaaGreatDoor.addW
 rcases (show c < 64 ∨ (64 ≤ c ∧ c < 128) ∨ (128 ≤ c ∧ c < 192) ∨ (192 ≤ c ∧ c < 256) by omega) with h | h | h | h
 · rw [show c / 64 = 0 by omega, show c % 64 = c by omega]
   have e : s.add c = { s with a := orI s.a (2 ^ c) } := by simp [W4.add, h]
   rw [e]
   exact ⟨World.cell?_setCell_same _ _ _ f0, (World.cell?_setCell_other _ _ _ _ (by simp)).trans f1, (World.cell?_setCell_other _ _ _ _ (by simp)).trans f2, (World.cell?_setCell_other _ _ _ _ (by simp)).trans f3⟩
 · rw [show c / 64 = 1 by omega, show c % 64 = c - 64 by omega]
   have e : s.add c = { s with b := orI s.b (2 ^ (c - 64)) } := by simp [W4.add, show ¬ c < 64 by omega, h.2]
   rw [e]
   exact ⟨(World.cell?_setCell_other _ _ _ _ (by simp)).trans f0, World.cell?_setCell_same _ _ _ f1, (World.cell?_setCell_other _ _ _ _ (by simp)).trans f2, (World.cell?_setCell_other _ _ _ _ (by simp)).trans f3⟩
 · rw [show c / 64 = 2 by omega, show c % 64 = c - 128 by omega]
   have e : s.add c = { s with c := orI s.c (2 ^ (c - 128)) } := by simp [W4.add, show ¬ c < 64 by omega, show ¬ c < 128 by omega, h.2]
   rw [e]
   exact ⟨(World.cell?_setCell_other _ _ _ _ (by simp)).trans f0, (World.cell?_setCell_other _ _ _ _ (by simp)).trans f1, World.cell?_setCell_same _ _ _ f2, (World.cell?_setCell_other _ _ _ _ (by simp)).trans f3⟩
 · rw [show c / 64 = 3 by omega, show c % 64 = c - 192 by omega]
   have e : s.add c = { s with d := orI s.d (2 ^ (c - 192)) } := by simp [W4.add, show ¬ c < 64 by omega, show ¬ c < 128 by omega, show ¬ c < 192 by omega]
   rw [e]
   exact ⟨(World.cell?_setCell_other _ _ _ _ (by simp)).trans f0, (World.cell?_setCell_other _ _ _ _ (by simp)).trans f1, (World.cell?_setCell_other _ _ _ _ (by simp)).trans f2, World.cell?_setCell_same _ _ _ f3⟩
theorem At4.keep {w w' : World} {b o : Nat} {s : W4} (h : At4 w b o s) (hb : w'.heap[b]? = w.heap[b]?) : At4 w' b o s := by
 obtain ⟨f0, f1, f2, f3⟩ := h
 exact ⟨(World.cell?_of_block (w := w) hb).trans f0, (World.cell?_of_block (w := w) hb).trans f1, (World.cell?_of_block (w := w) hb).trans f2, (World.cell?_of_block (w := w) hb).trans f3⟩
def setV (w : World) (b : Nat) (S : W4) : World := (((w.setCell ⟨b, 0, none⟩ (.int .u64 S.a)).setCell ⟨b, 1, none⟩ (.int .u64 S.b)).setCell ⟨b, 2, none⟩ (.int .u64 S.c)).setCell ⟨b, 3, none⟩ (.int .u64 S.d)
theorem At4.setV {w : World} {b : Nat} {s : W4} (h : At4 w b 0 s) (S : W4) : At4 (setV w b S) b 0 S := by
 obtain ⟨f0, f1, f2, f3⟩ := h
 simp only [Nat.zero_add] at f1 f2 f3
 unfold Go.Proofs.YthlakbjnmbddaaaGreatDoor.setV
 constructor
 · rw [World.cell?_setCell_other _ _ _ _ (by simp), World.cell?_setCell_other _ _ _ _ (by simp), World.cell?_setCell_other _ _ _ _ (by simp)]
   exact World.cell?_setCell_same _ _ _ f0
 · rw [World.cell?_setCell_other _ _ _ _ (by simp), World.cell?_setCell_other _ _ _ _ (by simp)]
   exact World.cell?_setCell_same _ _ _ ((World.cell?_setCell_other _ _ _ _ (by simp)).trans f1)
 · rw [World.cell?_setCell_other _ _ _ _ (by simp)]
   exact World.cell?_setCell_same _ _ _ ((World.cell?_setCell_other _ _ _ _ (by simp)).trans ((World.cell?_setCell_other _ _ _ _ (by simp)).trans f2))
 · exact World.cell?_setCell_same _ _ _ ((World.cell?_setCell_other _ _ _ _ (by simp)).trans ((World.cell?_setCell_other _ _ _ _ (by simp)).trans ((World.cell?_setCell_other _ _ _ _ (by simp)).trans f3)))
theorem _root_.Go.RowKit.Below.setV {w w1 : World} {B : Nat} (h : Below B w w1) {b : Nat} (hb : B ≤ b) (S : W4) : Below B w (Go.Proofs.YthlakbjnmbddaaaGreatDoor.setV w1 b S) :=
 (((h.setCell hb (p := ⟨b, 0, none⟩) _).setCell hb (p := ⟨b, 1, none⟩) _).setCell hb (p := ⟨b, 2, none⟩) _).setCell hb (p := ⟨b, 3, none⟩) _
theorem At4.later {w w' : World} {b o B : Nat} {s : W4} (h : At4 w b o s) (hb : Below B w w') (hl : b < B) : At4 w' b o s := h.keep (hb.block b hl)
theorem _root_.Go.RowKit.Below.addW {w w1 : World} {B : Nat} (h : Below B w w1) {b : Nat} (hb : B ≤ b) (o : Nat) (s : W4) (c : Nat) : Below B w (Go.Proofs.YthlakbjnmbddaaaGreatDoor.addW w1 b o s c).drew :=
 ⟨h.os, h.tape, h.output, by show w.heap.size ≤ (Go.Proofs.YthlakbjnmbddaaaGreatDoor.addW w1 b o s c).heap.size; rw [gW]; exact h.size, fun k hk => (cu _ _ _ _ _ _ (by omega)).trans (h.block k hk)⟩
theorem _root_.Go.RowKit.Below.step {w w1 w2 : World} (h : Below w.heap.size w w1) (k : Below w1.heap.size w1 w2) : Below w.heap.size w w2 :=
 ⟨k.os.trans h.os, k.tape.trans h.tape, k.output.trans h.output, Nat.le_trans h.size k.size, fun b hb => (k.block b (Nat.lt_of_lt_of_le hb h.size)).trans (h.block b hb)⟩
theorem mU (w : World) (v : Value) (f : Nat → Bool) (hf : fY w v f) :
 Calls Tryz.prog 130 #[v] w fun en w' => en = .returned (dq f).V ∧ Below w.heap.size w w' := by
 obtain ⟨fn, caps, rfl, hcf, hf⟩ := hf
 have Hf := hid hf; clear hf
 go_enter Tryz.func130, Tryz.ntmps130
 go_wp2_with fail
 generalize hW : (w.alloc _).alloc _ = W0
 have hB0 : Below w.heap.size w W0 := by subst hW; exact nal.alloc (by simp) _
 have hsz : w.heap.size + 2 ≤ W0.heap.size := by subst hW; simp
 have r0 : At4 W0 w.heap.size 0 w40 := by subst hW; constructor <;> simp [go_sem, w40]
 have n0 : At4 W0 (w.heap.size + 1) 0 w40 := by subst hW; constructor <;> simp [go_sem, w40]
 have z0 : ∀ o, W0.frozen? ⟨w.heap.size, o, none⟩ = false := by subst hW; intro o; simp [go_sem]
 have z1 : ∀ o, W0.frozen? ⟨w.heap.size + 1, o, none⟩ = false := by subst hW; intro o; simp [go_sem]
 clear hW
 go_loopg [5] 256 (fun k i wr => ∃ (j : Nat) (S : W4), i = .int .i64 j ∧ j + k = 256 ∧ (List.range' j (256 - j)).foldl (fun s c => if f c then s.add c else s) S = dq f ∧ Below w.heap.size w wr ∧ w.heap.size + 2 ≤ wr.heap.size ∧ At4 wr (w.heap.size + 1) 0 S ∧ At4 wr w.heap.size 0 w40 ∧ (∀ o, wr.frozen? ⟨w.heap.size, o, none⟩ = false) ∧ (∀ o, wr.frozen? ⟨w.heap.size + 1, o, none⟩ = false))
 case atStart => exact ⟨0, w40, rfl, rfl, by rw [kF, List.range_eq_range'], hB0, hsz, n0, r0, z0, z1⟩
 case round =>
  obtain ⟨j, S, rfl, hj, hm, hB, hz, hn, hr, y0, y1⟩ := hrel
  clear hB0 hsz n0 r0 z0 z1
  have Hm := hid hm; clear hm
  have HN := hid hn; have HR := hid hr; have HB := hid hB; have HY0 := hid y0; have HY1 := hid y1
  clear hn hr hB y0 y1
  by_cases hlt : j < 256
  · have hmod : IntKind.u8.wrap (j : Int) = (j : Int) := by simp [IntKind.wrap, IntKind.signed, IntKind.bits]; omega
    go_wp2_with fail
    refine (Hf.out wr (CExt.of_below HB.out) j hlt).mono ?_
    rintro en w1 ⟨rfl, hb1⟩
    have hB1 := HB.out.step hb1
    have hz1 : w.heap.size + 2 ≤ w1.heap.size := Nat.le_trans hz hb1.size
    have n1 := HN.out.later hb1 (by omega)
    have r1 := HR.out.later hb1 (by omega)
    have y0 : ∀ o, w1.frozen? ⟨w.heap.size, o, none⟩ = false := fun o => (hb1.frozen (p := ⟨w.heap.size, o, none⟩) (by show w.heap.size < _; omega)).trans (HY0.out o)
    have y1 : ∀ o, w1.frozen? ⟨w.heap.size + 1, o, none⟩ = false := fun o => (hb1.frozen (p := ⟨w.heap.size + 1, o, none⟩) (by show w.heap.size + 1 < _; omega)).trans (HY1.out o)
    have Hm := hid ((rz f j hlt S).symm.trans Hm.out)
    clear HN HR HB HY0 HY1 hcf
    have HN := hid n1; have HR := hid r1; have HB := hid hB1; have HY0 := hid y0; have HY1 := hid y1
    clear n1 r1 hB1 y0 y1
    cases hfj : f j with
    | false =>
     rw [hfj] at Hm
     clear hfj Hf
     go_wp2_with fail
     go_roundg (gk - 1)
     case measure => omega
     case rel => exact ⟨j + 1, S, by go_num, by omega, Hm.out, HB.out, hz1, HN.out, HR.out, HY0.out, HY1.out⟩
    | true =>
     rw [hfj] at Hm
     clear hfj Hf
     go_wp2_with fail
     refine (du w1 (w.heap.size + 1) 0 S j hlt HN.out HY1.out).mono ?_
     rintro en w2 ⟨rfl, rfl⟩
     go_wp2_with fail
     go_roundg (gk - 1)
     case measure => omega
     case rel => exact ⟨j + 1, S.add j, by go_num, by omega, Hm.out, HB.out.addW (by omega) _ _ _, by show _ ≤ (addW w1 _ _ _ _).heap.size; rw [gW]; exact hz1, (HN.out.addW j hlt).keep rfl, HR.out.keep (cu _ _ _ _ _ _ (by omega)), fun o => (World.frozen?_of_block (w := w1) (cu _ _ _ _ _ _ (by show w.heap.size ≠ _; omega))).trans (HY0.out o), fun o => by show (addW w1 _ _ _ _).frozen? _ = _; rw [addW, World.frozen?_setCell]; exact HY1.out o⟩
  · have hS : S = dq f := by rw [← Hm.out, show 256 - j = 0 by omega]; rfl
    obtain ⟨f0, f1, f2, f3⟩ := HN.out
    obtain ⟨g0, g1, g2, g3⟩ := HR.out
    have y0 := HY0.out 0; have y1 := HY0.out 1; have y2 := HY0.out 2; have y3 := HY0.out 3
    clear HN HR HY0 HY1 Hm Hf
    simp only [Nat.zero_add] at f1 f2 f3 g1 g2 g3
    go_wp2_with fail
    change bodyPost _ _ _ _ _ (setV wr w.heap.size (dq f))
    have hB := HB.out.setV (b := w.heap.size) (Nat.le_refl _) (dq f)
    obtain ⟨q0, q1, q2, q3⟩ := At4.setV ⟨g0, g1, g2, g3⟩ (dq f)
    simp only [Nat.zero_add] at q1 q2 q3
    clear f0 f1 f2 f3 g0 g1 g2 g3 y0 y1 y2 y3
    generalize setV wr w.heap.size (dq f) = W at *
    exact bodyPost_ret (v := (dq f).V) (by simp [results, Tryz.results130, go_sem, q0, q1, q2, q3]) rfl ⟨rfl, hB⟩
def bA (w : World) (b : Nat) (cs : Array Value) : Prop := ∃ t z, w.heap[b]? = some (.cells cs t z)
theorem bA.later {w w' : World} {b : Nat} {cs : Array Value} (h : bA w b cs) (k : CExt w w') : bA w' b cs := by
 obtain ⟨t, z, h⟩ := h
 exact ⟨t, z, k.cells _ _ _ _ h⟩
theorem bA.cell {w : World} {b : Nat} {cs : Array Value} (h : bA w b cs) (o : Nat) : w.cell? ⟨b, o, none⟩ = cs[o]? := by
 obtain ⟨t, z, h⟩ := h
 exact cell_of_row w b o cs t z h
theorem bA.new (w : World) (cs : Array Value) (t : TypeId) : bA (w.alloc (.cells cs t)) w.heap.size cs := ⟨t, (0, 0), heap_alloc_new w _⟩
theorem bA.keep {w w' : World} {b : Nat} {cs : Array Value} (h : bA w b cs) (k : Below w.heap.size w w') : bA w' b cs := h.later (.of_below k)
theorem xG (w : World) : fY w (.func (.func 131) #[] #[]) fun _ => true := by
 refine ⟨_, _, rfl, fun args w => by rfl, fun w' hw c hc => ?_⟩
 simp only [Array.append_empty]
 go_enter Tryz.func131, Tryz.ntmps131
 go_wp2_with fail
 go_ret
 exact ⟨rfl, Below.refl _ _⟩
def bZ (lo hi c : Nat) : Bool := decide (lo ≤ c) && decide (c ≤ hi)
theorem yI (w : World) (a b lo hi : Nat) (ha : bA w a #[.int .u8 lo]) (hb : bA w b #[.int .u8 hi]) : fY w (.func (.func 172) #[] #[.pointer (some ⟨a, 0, none⟩), .pointer (some ⟨b, 0, none⟩)]) (bZ lo hi) := by
 refine ⟨_, _, rfl, fun args w => by rfl, fun w' hw c hc => ?_⟩
 have f0 := (ha.later hw).cell 0
 have f1 := (hb.later hw).cell 0
 simp only [List.getElem?_toArray, List.getElem?_cons_zero] at f0 f1
 clear ha hb hw
 show Calls _ _ #[.int .u8 (c : Nat), .pointer (some ⟨a, 0, none⟩), .pointer (some ⟨b, 0, none⟩)] _ _
 by_cases h1 : lo ≤ c
 · by_cases h2 : c ≤ hi
   · have hr := hid (show bZ lo hi c = true by simp [bZ, h1, h2])
     go_enter Tryz.func172, Tryz.ntmps172
     go_wp2_with fail
     go_ret
     exact ⟨by rw [hr.out]; rfl, Below.refl _ _⟩
   · have hr := hid (show bZ lo hi c = false by simp [bZ, h2])
     go_enter Tryz.func172, Tryz.ntmps172
     go_wp2_with fail
     go_ret
     exact ⟨by rw [hr.out]; rfl, Below.refl _ _⟩
 · have hr := hid (show bZ lo hi c = false by simp [bZ, h1])
   go_enter Tryz.func172, Tryz.ntmps172
   go_wp2_with fail
   go_ret
   exact ⟨by rw [hr.out]; rfl, Below.refl _ _⟩
def GFn (w : World) (f : Nat → Bool) (en : Ending) (w' : World) : Prop := ∃ v, en = .returned v ∧ fY w' v f ∧ Below w.heap.size w w'
theorem dX (w : World) (lo hi : Nat) : Calls Tryz.prog 168 #[.int .u8 lo, .int .u8 hi] w fun en w' => GFn w (bZ lo hi) en w' := by
 have hmf : ∀ (fn : Fn) (first cap : Array Value) (w : World), (Instr.makeFunc fn first cap).run Tryz.prog w = .ok (.func fn first cap) w := fun _ _ _ _ => rfl
 go_enter Tryz.func168, Tryz.ntmps168
 go_wp2_with fail
 go_ret
 refine ⟨_, rfl, ?_, nal.alloc (by simp) _⟩
 have hb : Below (w.alloc (.cells #[.int .u8 (lo : Nat)] 5)).heap.size (w.alloc (.cells #[.int .u8 (lo : Nat)] 5)) ((w.alloc (.cells #[.int .u8 (lo : Nat)] 5)).alloc (.cells #[.int .u8 (hi : Nat)] 5)) := nal
 refine yI _ w.heap.size (w.heap.size + 1) lo hi ((bA.new w _ _).keep hb) ?_
 have := bA.new (w.alloc (.cells #[.int .u8 (lo : Nat)] 5)) #[.int .u8 (hi : Nat)] 5
 rw [show (w.alloc (.cells #[.int .u8 (lo : Nat)] 5)).heap.size = w.heap.size + 1 by simp] at this
 exact this
def kn (fs : List (Nat → Bool)) (c : Nat) : Bool := fs.any fun f => f c
theorem uk (w : World) (a b : Nat) (vs : List Value) (fs : List (Nat → Bool)) (ha : bA w a #[.slice (some ⟨b, 0, none⟩) vs.length vs.length]) (hb : bA w b vs.toArray) (hl : vs.length ≤ 100) (hlen : fs.length = vs.length)
 (hf : ∀ (i : Nat) (v : Value) (f : Nat → Bool), vs[i]? = some v → fs[i]? = some f → fY w v f) : fY w (.func (.func 173) #[] #[.pointer (some ⟨a, 0, none⟩)]) (kn fs) := by
 refine ⟨_, _, rfl, fun args w => by rfl, fun w0 hw c hc => ?_⟩
 show Calls _ _ #[.int .u8 (c : Nat), .pointer (some ⟨a, 0, none⟩)] _ _
 have HA := hid (ha.later hw); have HB := hid (hb.later hw)
 have HF := hid (fun i v f h1 h2 => (hf i v f h1 h2).later hw)
 clear ha hb hf
 have f0 := HA.out.cell 0
 simp only [List.getElem?_toArray, List.getElem?_cons_zero] at f0
 go_enter Tryz.func173, Tryz.ntmps173
 go_wp2_with fail
 go_loopg [8] vs.length (fun k i wr => ∃ j : Nat, i = .int .i64 j ∧ j + k = vs.length ∧ (fs.drop j).any (fun f => f c) = kn fs c ∧ Below w0.heap.size w0 wr)
 case atStart => exact ⟨0, rfl, by omega, rfl, Below.refl _ _⟩
 case round =>
  obtain ⟨j, rfl, hj, hm, hB⟩ := hrel
  have Hm := hid hm; have HBl := hid hB; clear hm hB f0
  by_cases hlt : j < vs.length
  · obtain ⟨v, hv⟩ : ∃ v, vs[j]? = some v := ⟨_, List.getElem?_eq_getElem hlt⟩
    obtain ⟨f, hf⟩ : ∃ f, fs[j]? = some f := ⟨_, List.getElem?_eq_getElem (by omega)⟩
    have hd : fs.drop j = f :: fs.drop (j + 1) := by
     have := (List.getElem?_eq_some_iff.1 hf)
     obtain ⟨h1, h2⟩ := this
     rw [← h2]; exact List.drop_eq_getElem_cons h1
    have hcell : wr.cell? ⟨b, j, none⟩ = some v := by rw [(HB.out.keep HBl.out).cell j, List.getElem?_toArray, hv]
    obtain ⟨fn, caps, rfl, hcf, hcall⟩ := (HF.out j v f hv hf).later (.of_below HBl.out)
    have Hcall := hid hcall; clear hcall
    have Hd := hid hd; clear hd hv hf
    clear hlen
    go_wp2_with fail
    refine (Hcall.out wr (CExt.refl wr) c hc).mono ?_
    rintro en w1 ⟨rfl, hb1⟩
    have hB1 := HBl.out.step hb1
    cases hfc : f c with
    | false =>
     have Hm := hid (show (fs.drop (j + 1)).any (fun f => f c) = kn fs c by rw [← Hm.out, Hd.out, List.any_cons, hfc, Bool.false_or])
     clear hfc Hcall Hd
     go_wp2_with fail
     go_roundg (gk - 1)
     case measure => omega
     case rel => exact ⟨j + 1, by go_num, by omega, Hm.out, hB1⟩
    | true =>
     have Hm := hid (show kn fs c = true by rw [← Hm.out, Hd.out, List.any_cons, hfc, Bool.true_or])
     clear hfc Hcall Hd
     go_wp2_with fail
     go_ret
     exact ⟨by rw [Hm.out]; rfl, hB1⟩
  · have Hm := hid (show kn fs c = false by rw [← Hm.out, List.drop_eq_nil_of_le (by omega)]; rfl)
    go_wp2_with fail
    go_ret
    exact ⟨by rw [Hm.out]; rfl, HBl.out⟩
theorem lD (w : World) (b : Nat) (vs : List Value) (fs : List (Nat → Bool)) (hb : bA w b vs.toArray) (hl : vs.length ≤ 100) (hlen : fs.length = vs.length)
 (hf : ∀ (i : Nat) (v : Value) (f : Nat → Bool), vs[i]? = some v → fs[i]? = some f → fY w v f) : Calls Tryz.prog 169 #[.slice (some ⟨b, 0, none⟩) vs.length vs.length] w fun en w' => GFn w (kn fs) en w' := by
 have hmf : ∀ (fn : Fn) (first cap : Array Value) (w : World), (Instr.makeFunc fn first cap).run Tryz.prog w = .ok (.func fn first cap) w := fun _ _ _ _ => rfl
 have HB := hid hb; have HF := hid hf; clear hb hf
 go_enter Tryz.func169, Tryz.ntmps169
 go_wp2_with fail
 go_ret
 generalize hW : w.alloc _ = W
 have hbel : Below w.heap.size w W := by subst hW; exact nal
 exact ⟨_, rfl, uk _ w.heap.size b vs fs (by subst hW; exact bA.new w _ _) (HB.out.keep hbel) hl hlen (fun i v f h1 h2 => (HF.out i v f h1 h2).later (.of_below hbel)), hbel⟩
def wB (f g : Nat → Bool) (c : Nat) : Bool := f c && !g c
theorem yG (w : World) (a b : Nat) (u v : Value) (f g : Nat → Bool) (ha : bA w a #[u]) (hb : bA w b #[v]) (hu : fY w u f) (hv : fY w v g) : fY w (.func (.func 170) #[] #[.pointer (some ⟨a, 0, none⟩), .pointer (some ⟨b, 0, none⟩)]) (wB f g) := by
 refine ⟨_, _, rfl, fun args w => by rfl, fun w' hw c hc => ?_⟩
 have HA := hid (ha.later hw); have HB := hid (hb.later hw)
 obtain ⟨fn, caps, rfl, hcf, hu⟩ := hu.later hw
 obtain ⟨fn', caps', rfl, hcf', hv⟩ := hv.later hw
 have Hu := hid hu; have Hv := hid hv
 clear hu hv ha hb hw
 have f0 := HA.out.cell 0
 simp only [List.getElem?_toArray, List.getElem?_cons_zero] at f0
 show Calls _ _ #[.int .u8 (c : Nat), .pointer (some ⟨a, 0, none⟩), .pointer (some ⟨b, 0, none⟩)] _ _
 go_enter Tryz.func170, Tryz.ntmps170
 go_wp2_with fail
 refine (Hu.out w' (CExt.refl w') c hc).mono ?_
 rintro en w1 ⟨rfl, hb1⟩
 have f1 := (HB.out.keep hb1).cell 0
 simp only [List.getElem?_toArray, List.getElem?_cons_zero] at f1
 clear f0
 cases hf : f c with
 | false =>
  have Hr := hid (show wB f g c = false by simp [wB, hf])
  clear hf Hu Hv
  go_wp2_with fail
  go_ret
  exact ⟨by rw [Hr.out]; rfl, hb1⟩
 | true =>
  have Hr := hid (show wB f g c = !g c by simp [wB, hf])
  clear hf Hu
  go_wp2_with fail
  refine (Hv.out w1 (CExt.of_below hb1) c hc).mono ?_
  rintro en w2 ⟨rfl, hb2⟩
  clear Hv
  go_wp2_with fail
  go_ret
  exact ⟨by rw [Hr.out]; rfl, hb1.step hb2⟩
theorem oy : dq (fun _ => true) = w40.span 0 256 := by
 unfold dq W4.span
 rw [List.range_eq_range']
 rfl
theorem uL : oa := fun w => (mU w _ _ (xG w)).mono fun en w' h => by rw [oy] at h; exact h
def upd (L : Nat → Bool) (i : Nat) (j : Nat) : Bool := j == i || L j
def wO (P : Program) (md : Region.Mode) (Q : Exit → Act → World → Prop) (I : (Nat → Bool) → Act → World → Prop) (i : Nat) (o : Oper) : Prop :=
 o.guard = none ∧ (∀ e ∈ o.after, e.on < i) ∧
  ∀ (L : Nat → Bool) (a : Act) (w : World), I L a w → L i = false → (∀ e ∈ o.after, Region.binds md e = true → L e.on = true) → o.wp P a w (fun a' w' => I (upd L i) a' w') Q
theorem jK {l : Array Bool} {j : Nat} (h : j < l.size) : l.getD j true = l.getD j false := by simp [Array.getD, h]
theorem sO {P : Program} {md : Region.Mode} {ops : Array Oper} {Q : Exit → Act → World → Prop} (I : (Nat → Bool) → Act → World → Prop)
 (hstep : ∀ (i : Nat) (o : Oper), ops[i]? = some o → wO P md Q I i o)
 (hend : ∀ (L : Nat → Bool) (a : Act) (w : World), I L a w → (∀ i < ops.size, L i = true) → Q .normal a w) :
 ∀ (fuel : Nat) (listed : Array Bool) (a : Act) (w : World), listed.size = ops.size → (listed.toList.filter (fun b => !b)).length ≤ fuel → I (fun j => listed.getD j false) a w → wpAny P md ops Q fuel listed a w := by
 have hall : ∀ (listed : Array Bool), listed.size = ops.size → Region.ready md ops listed = [] → ∀ n i, i < n → i < ops.size → listed.getD i false = true := fun listed hs hr n => by
  induction n with
  | zero => intro i h; omega
  | succ n ih =>
   intro i h hi
   by_cases hn : i < n
   · exact ih i hn hi
   · have hin : i = n := by omega
     subst hin
     cases hb : listed.getD i false with
     | true => rfl
     | false =>
      exfalso
      have ho : ops[i]? = some ops[i] := Array.getElem?_eq_getElem hi
      obtain ⟨_, hlt, _⟩ := hstep i _ ho
      have hm : i ∈ Region.ready md ops listed := by
       refine mem_ready.2 ⟨by rw [jK (by omega)]; exact hb, _, ho, fun e he _ => ?_⟩
       have := ih e.on (hlt e he) (by have := hlt e he; omega)
       exact this
      rw [hr] at hm
      cases hm
 intro fuel
 induction fuel with
 | zero =>
  intro listed a w hs hc hI
  have hno : ∀ i < ops.size, listed.getD i false = true := fun i hi => by
   have h0 : listed.toList.filter (fun b => !b) = [] := List.eq_nil_of_length_eq_zero (by omega)
   have h1 := List.filter_eq_nil_iff.1 h0 (listed[i]) (by simp)
   have h2 : listed[i] = true := by simpa using h1
   simp [Array.getD, show i < listed.size by omega, h2]
  refine ⟨?_, hend _ a w hI hno⟩
  cases hr : Region.ready md ops listed with
  | nil => rfl
  | cons i l =>
   have hi : i ∈ Region.ready md ops listed := by rw [hr]; exact List.mem_cons_self ..
   obtain ⟨h1, o, ho, _⟩ := mem_ready.1 hi
   have hlt := (Array.getElem?_eq_some_iff.1 ho).1
   rw [jK (by omega), hno i hlt] at h1
   cases h1
 | succ fuel ih =>
  intro listed a w hs hc hI
  refine ⟨fun hr => hend _ a w hI (fun i hi => hall listed hs hr (i + 1) i (by omega) hi), fun i hi => ?_⟩
  obtain ⟨h1, o, ho, h2⟩ := mem_ready.1 hi
  have hlt := (Array.getElem?_eq_some_iff.1 ho).1
  have h1' : listed.getD i false = false := by rw [← jK (by omega)]; exact h1
  obtain ⟨hg, _, hst⟩ := hstep i o ho
  have h3 := hst _ a w hI h1' (fun e he hb => h2 e he hb)
  have h4 : wpOp P ops Q i (fun a' w' => I (upd (fun j => listed.getD j false) i) a' w') a w := by
   unfold wpOp
   rw [ho]
   simp only [Region.wanted, hg, if_true]
   exact .inl h3
  refine wpOp_mono (fun a' w' h => ih (listed.setIfInBounds i true) a' w' (by simpa using hs) ?_ ?_) h4
  · have : ∀ (l : List Bool) (i : Nat), l[i]? = some false → ((l.set i true).filter (fun b => !b)).length + 1 = (l.filter (fun b => !b)).length := by
     intro l
     induction l with
     | nil => intro i h; simp at h
     | cons b l ihl =>
      intro i h
      cases i with
      | zero => simp at h; subst h; simp
      | succ i =>
       simp at h
       have := ihl i h
       cases b <;> simp at this ⊢ <;> omega
    have hx := this listed.toList i (by
     have : listed[i]? = some false := by
      simp only [Array.getD, show i < listed.size by omega, dif_pos] at h1'
      rw [Array.getElem?_eq_getElem (by omega)]
      exact congrArg some h1'
     simpa using this)
    rw [Array.toList_setIfInBounds]
    omega
  · have e : (fun j => (listed.setIfInBounds i true).getD j false) = upd (fun j => listed.getD j false) i := by
     funext j
     unfold upd
     by_cases hj : j = i
     · subst hj; simp [Array.getD, show j < listed.size by omega]
     · have : (j == i) = false := by simpa using hj
       rw [this, Bool.false_or]
       simp only [Array.getD, Array.size_setIfInBounds]
       split
       · rename_i h5; exact Array.getElem_setIfInBounds_ne h5 (Ne.symm hj)
       · rfl
    rw [e]
    exact h
theorem sY {C : Nat → Oper → Prop} {n : Nat} : ∀ (i : Nat) (o : Oper), ([] : List Oper)[i]? = some o → C (n + i) o := fun i o h => by simp at h
theorem ap {C : Nat → Oper → Prop} {n : Nat} {o : Oper} {l : List Oper} (h : C n o) (k : ∀ (i : Nat) (o : Oper), l[i]? = some o → C (n + 1 + i) o) : ∀ (i : Nat) (o' : Oper), (o :: l)[i]? = some o' → C (n + i) o'
 | 0, o', e => by simp at e; subst e; exact h
 | i + 1, o', e => by
  have := k i o' (by simpa using e)
  rw [show n + (i + 1) = n + 1 + i by omega]
  exact this
theorem oB {C : Nat → Oper → Prop} {l : List Oper} (h : ∀ (i : Nat) (o : Oper), l[i]? = some o → C (0 + i) o) : ∀ (i : Nat) (o : Oper), l[i]? = some o → C i o := fun i o e => by have := h i o e; rwa [Nat.zero_add] at this
inductive CK where
 | mk
 | fn (f : Nat → Bool)
 | sl (fs : List (Nat → Bool))
 | ins (name : Bs) (f : Nat → Bool)
 | cp
def CK.name : CK → Bs
 | .ins n _ => n
 | _ => []
def CK.needs : CK → Bool
 | .ins _ _ => true
 | .cp => true
 | _ => false
def CK.isMk : CK → Bool
 | .mk => true
 | _ => false
def CK.isVal : CK → Bool
 | .fn _ => true
 | .sl _ => true
 | _ => false
def bv : List (Option Nat × CK) := [
 (some 15, .mk),
 (some 16, .fn (bZ 65 90)),
 (none, .ins [117, 112, 112, 101, 114] (bZ 65 90)),
 (some 17, .fn (bZ 97 122)),
 (none, .ins [108, 111, 119, 101, 114] (bZ 97 122)),
 (some 18, .fn (bZ 48 57)),
 (none, .ins [100, 105, 103, 105, 116] (bZ 48 57)),
 (some 19, .fn (kn [bZ 65 90, bZ 97 122, bZ 48 57])),
 (none, .ins [97, 108, 110, 117, 109] (kn [bZ 65 90, bZ 97 122, bZ 48 57])),
 (some 20, .fn (bZ 33 126)),
 (none, .ins [103, 114, 97, 112, 104] (bZ 33 126)),
 (some 21, .fn (bZ 65 90)),
 (some 22, .fn (bZ 97 122)),
 (some 23, .sl [bZ 65 90, bZ 97 122]),
 (some 24, .fn (kn [bZ 65 90, bZ 97 122])),
 (none, .ins [97, 108, 112, 104, 97] (kn [bZ 65 90, bZ 97 122])),
 (some 25, .fn (bZ 48 57)),
 (some 26, .fn (bZ 65 70)),
 (some 27, .fn (bZ 97 102)),
 (some 28, .sl [bZ 48 57, bZ 65 70, bZ 97 102]),
 (some 29, .fn (kn [bZ 48 57, bZ 65 70, bZ 97 102])),
 (none, .ins [120, 100, 105, 103, 105, 116] (kn [bZ 48 57, bZ 65 70, bZ 97 102])),
 (some 30, .fn (bZ 9 13)),
 (some 31, .fn (bZ 32 32)),
 (some 32, .sl [bZ 9 13, bZ 32 32]),
 (some 33, .fn (kn [bZ 9 13, bZ 32 32])),
 (none, .ins [115, 112, 97, 99, 101] (kn [bZ 9 13, bZ 32 32])),
 (some 34, .fn (bZ 9 9)),
 (some 35, .fn (bZ 32 32)),
 (some 36, .sl [bZ 9 9, bZ 32 32]),
 (some 37, .fn (kn [bZ 9 9, bZ 32 32])),
 (none, .ins [98, 108, 97, 110, 107] (kn [bZ 9 9, bZ 32 32])),
 (some 38, .fn (bZ 0 31)),
 (some 39, .fn (bZ 127 127)),
 (some 40, .sl [bZ 0 31, bZ 127 127]),
 (some 41, .fn (kn [bZ 0 31, bZ 127 127])),
 (none, .ins [99, 110, 116, 114, 108] (kn [bZ 0 31, bZ 127 127])),
 (some 42, .fn (bZ 32 126)),
 (none, .ins [112, 114, 105, 110, 116] (bZ 32 126)),
 (some 43, .fn (wB (bZ 33 126) (kn [bZ 65 90, bZ 97 122, bZ 48 57]))),
 (none, .ins [112, 117, 110, 99, 116] (wB (bZ 33 126) (kn [bZ 65 90, bZ 97 122, bZ 48 57]))),
 (some 44, .cp),
 (some 0, .cp)]
def kv : List (Option Nat) := [some 15, some 16, none, some 17, none, some 18, none, some 19, none, some 20, none, some 21, some 22, some 23, some 24, none, some 25, some 26, some 27, some 28, some 29, none, some 30, some 31, some 32, some 33, none, some 34, some 35, some 36, some 37, none, some 38, some 39, some 40, some 41, none, some 42, none, some 43, none, some 44, some 0]
def ii : List Bs := [[], [], [117, 112, 112, 101, 114], [], [108, 111, 119, 101, 114], [], [100, 105, 103, 105, 116], [], [97, 108, 110, 117, 109], [], [103, 114, 97, 112, 104], [], [], [], [], [97, 108, 112, 104, 97], [], [], [], [], [], [120, 100, 105, 103, 105, 116], [], [], [], [], [115, 112, 97, 99, 101], [], [], [], [], [98, 108, 97, 110, 107], [], [], [], [], [99, 110, 116, 114, 108], [], [112, 114, 105, 110, 116], [], [112, 117, 110, 99, 116], [], []]
theorem wk : bv.map Prod.fst = kv := rfl
theorem rD : bv.map (fun x => x.2.name) = ii := rfl
theorem wH {α : Type} [DecidableEq α] (l : List α) (x : α) (h : ((List.range 43).all fun i => (List.range 43).all fun j => !(decide (l[i]? = l[j]?)) || decide (l[i]? = some x) || decide (i = j)) = true) :
 ∀ i < 43, ∀ j < 43, l[i]? = l[j]? → l[i]? ≠ some x → i = j := by
 intro i hi j hj h1 h2
 have h3 := List.all_eq_true.1 (List.all_eq_true.1 h i (List.mem_range.2 hi)) j (List.mem_range.2 hj)
 simpa [h1, h1 ▸ h2] using h3
theorem wh : ∀ i < 43, ∀ j < 43, kv[i]? = kv[j]? → kv[i]? ≠ some none → i = j := wH _ _ (by decide +kernel)
theorem uv : ∀ d ∈ kv, ∀ n ∈ [1, 2, 3, 4, 5], d ≠ some n := by decide +kernel
theorem wj : ∀ d ∈ kv, ∀ n, d = some n → n < 45 := by
 intro d hd n e
 subst e
 have : ∀ d ∈ kv, (match d with | some n => decide (n < 45) | none => true) = true := by decide +kernel
 simpa using this _ hd
theorem rC : ∀ i < 43, ∀ j < 43, ii[i]? = ii[j]? → ii[i]? ≠ some [] → i = j := wH _ _ (by decide +kernel)
theorem xK : ∀ i < 43, (bv.map fun x => x.2.isMk)[i]? = some true → i = 0 := by decide +kernel
theorem kw {i : Nat} {x : Option Nat × CK} (h : bv[i]? = some x) : i < 43 := (List.getElem?_eq_some_iff.1 h).1
theorem mR {i : Nat} {x : Option Nat × CK} (h : bv[i]? = some x) : kv[i]? = some x.1 := by rw [← wk, List.getElem?_map, h]; rfl
theorem sF {i : Nat} {x : Option Nat × CK} (h : bv[i]? = some x) : ii[i]? = some x.2.name := by rw [← rD, List.getElem?_map, h]; rfl
theorem yc {i d : Nat} (h : bv[i]? = some (some d, .mk)) : i = 0 := xK i (kw h) (by rw [List.getElem?_map, h]; rfl)
theorem rV {i j d : Nat} {k k' : CK} (h : bv[i]? = some (some d, k)) (h' : bv[j]? = some (some d, k')) : i = j :=
 wh i (kw h) j (kw h') (by rw [mR h, mR h']) (by rw [mR h]; simp)
theorem wK {i d : Nat} {k : CK} (h : bv[i]? = some (some d, k)) : d ≠ 1 ∧ d ≠ 2 ∧ d ≠ 3 ∧ d ≠ 4 ∧ d ≠ 5 ∧ d < 45 := by
 have hm : some d ∈ kv := List.mem_of_getElem? (mR h)
 have := uv _ hm
 simp only [List.mem_cons, List.not_mem_nil, or_false, forall_eq_or_imp, forall_eq, ne_eq, Option.some.injEq] at this
 exact ⟨this.1, this.2.1, this.2.2.1, this.2.2.2.1, this.2.2.2.2, wj _ hm d rfl⟩
theorem xJ : ((List.range 43).all fun i => !(decide (kv[i]? = some none)) || !(decide (ii[i]? = some []))) = true := by decide +kernel
theorem pi {i j : Nat} {n : Bs} {f g : Nat → Bool} (h : bv[i]? = some (none, .ins n f)) (h' : bv[j]? = some (none, .ins n g)) : i = j := by
 refine rC i (kw h) j (kw h') ((sF h).trans (sF h').symm) fun e => ?_
 have := List.all_eq_true.1 xJ i (List.mem_range.2 (kw h))
 rw [mR h, e] at this
 simp at this
def xV (w : World) (v : Value) (fs : List (Nat → Bool)) : Prop :=
 ∃ (b : Nat) (vs : List Value), v = .slice (some ⟨b, 0, none⟩) vs.length vs.length ∧ bA w b vs.toArray ∧ fs.length = vs.length ∧ ∀ (i : Nat) (v : Value) (f : Nat → Bool), vs[i]? = some v → fs[i]? = some f → fY w v f
theorem xV.later {w w' : World} {v : Value} {fs : List (Nat → Bool)} (h : xV w v fs) (k : CExt w w') : xV w' v fs := by
 obtain ⟨b, vs, e, hc, hl, hf⟩ := h
 exact ⟨b, vs, e, hc.later k, hl, fun i v f h1 h2 => (hf i v f h1 h2).later k⟩
def mS (mv : Value) (w : World) (v : Value) : CK → Prop
 | .mk => v = mv
 | .cp => v = mv
 | .fn f => fY w v f
 | .sl fs => xV w v fs
 | .ins _ _ => True
theorem mS.later {mv v : Value} {w w' : World} {k : CK} (h : mS mv w v k) (e : CExt w w') : mS mv w' v k := by
 cases k with
 | mk => exact h
 | cp => exact h
 | fn f => exact fY.later h e
 | sl fs => exact xV.later h e
 | ins _ _ => trivial
def oh (B : Nat) (mv : Value) (w : World) (L : Nat → Bool) : Prop :=
 ∃ (r : Nat) (es : Array MapEntry) (clock : Nat), mv = .map (some r) ∧ w.heap[r]? = some (.map es clock) ∧ B ≤ r ∧
  (∀ x ∈ es.toList, ∃ (j : Nat) (name : Bs) (f : Nat → Bool), bv[j]? = some (none, .ins name f) ∧ L j = true ∧ x.key = .string (bs name) ∧ fY w x.val f) ∧
  ∀ (j : Nat) (name : Bs) (f : Nat → Bool), bv[j]? = some (none, .ins name f) → L j = true → ∃ x ∈ es.toList, x.key = .string (bs name)
theorem oh.later {B : Nat} {mv : Value} {w w' : World} {L : Nat → Bool} (h : oh B mv w L) (k : Below w.heap.size w w') : oh B mv w' L := by
 obtain ⟨r, es, clock, e, hr, hB, h1, h2⟩ := h
 refine ⟨r, es, clock, e, (k.block r (Array.getElem?_eq_some_iff.1 hr).1).trans hr, hB, fun x hx => ?_, h2⟩
 obtain ⟨j, n, f, a, b, c, d⟩ := h1 x hx
 exact ⟨j, n, f, a, b, c, d.later (.of_below k)⟩
theorem oh.more {B : Nat} {mv : Value} {w : World} {L : Nat → Bool} (h : oh B mv w L) {i d : Nat} {k : CK} (hk : bv[i]? = some (some d, k)) : oh B mv w (upd L i) := by
 obtain ⟨r, es, clock, e, hr, hB, h1, h2⟩ := h
 have hne : ∀ (j : Nat) (n : Bs) (f : Nat → Bool), bv[j]? = some (none, .ins n f) → j ≠ i := fun j n f h e => by subst e; rw [h] at hk; cases hk
 refine ⟨r, es, clock, e, hr, hB, fun x hx => ?_, fun j n f hj hL => ?_⟩
 · obtain ⟨j, n, f, a, b, c, d⟩ := h1 x hx
   exact ⟨j, n, f, a, by simp [upd, b], c, d⟩
 · refine h2 j n f hj ?_
   have : (j == i) = false := by simpa using hne j n f hj
   rw [upd, this, Bool.false_or] at hL
   exact hL
abbrev rX : Nat → Bool := kn [bZ 65 90, bZ 97 122, bZ 48 57]
abbrev rS : Nat → Bool := bZ 33 126
def qz (w : World) (v : Value) (p : Nat) (f : Nat → Bool) : Prop := v = .pointer (some ⟨p, 0, none⟩) ∧ ∃ u, bA w p #[u] ∧ fY w u f
theorem qz.later {w w' : World} {v : Value} {p : Nat} {f : Nat → Bool} (h : qz w v p f) (e : CExt w w') : qz w' v p f := by
 obtain ⟨rfl, u, a, b⟩ := h
 exact ⟨rfl, u, a.later e, b.later e⟩
structure CI (w0 : World) (p4 p5 : Nat) (L : Nat → Bool) (a : Act) (w : World) : Prop where
 bel : Below w0.heap.size w0 w
 sz : a.tmps.size = 45
 dfr : a.defers = []
 t1 : fY w (a.eval (.tmp 1)) (bZ 65 90)
 t2 : fY w (a.eval (.tmp 2)) (bZ 97 122)
 t3 : fY w (a.eval (.tmp 3)) (bZ 48 57)
 t4 : qz w (a.eval (.tmp 4)) p4 rX
 t5 : qz w (a.eval (.tmp 5)) p5 rS
 slots : ∃ mv, (∀ (i d : Nat) (k : CK), bv[i]? = some (some d, k) → L i = true → mS mv w (a.eval (.tmp d)) k) ∧ (L 0 = true → oh w0.heap.size mv w L)
 early : ∀ (i : Nat) (x : Option Nat × CK), bv[i]? = some x → x.2.needs = true → L i = true → L 0 = true
theorem eP {a : Act} {d : Nat} {v : Value} (h : d < a.tmps.size) : (a.put (some d) v).eval (.tmp d) = v := by
 simp [Act.put, Act.eval, h]
theorem aV {a : Act} {d e : Nat} {v : Value} (h : d ≠ e) : (a.put (some d) v).eval (.tmp e) = a.eval (.tmp e) := by
 exact Act.eval_put fun d' h' hx => h (by cases h'; cases hx; rfl)
theorem CI.fnAt {w0 w : World} {p4 p5 : Nat} {L : Nat → Bool} {a : Act} (h : CI w0 p4 p5 L a w) {i d : Nat} {f : Nat → Bool} (hk : bv[i]? = some (some d, .fn f)) (hL : L i = true) : fY w (a.eval (.tmp d)) f := by
 obtain ⟨mv, h1, _⟩ := h.slots
 exact h1 i d _ hk hL
theorem CI.value {w0 w w' : World} {p4 p5 : Nat} {L : Nat → Bool} {a : Act} (h : CI w0 p4 p5 L a w) {i d : Nat} {k : CK} {v : Value} (hk : bv[i]? = some (some d, k)) (hi : L i = false) (hn : k.isVal = true)
 (hv : ∀ mv, mS mv w' v k) (hb : Below w.heap.size w w') : CI w0 p4 p5 (upd L i) (a.put (some d) v) w' := by
 obtain ⟨d1, d2, d3, d4, d5, dl⟩ := wK hk
 have hx := CExt.of_below hb
 have hi0 : i ≠ 0 := fun e => by
  subst e
  have : bv[0]? = some (some 15, .mk) := rfl
  rw [this] at hk; cases hk; cases hn
 obtain ⟨mv, h1, h2⟩ := h.slots
 have hupd : ∀ j, j ≠ i → upd L i j = L j := fun j hj => by simp [upd, show (j == i) = false by simpa using hj]
 refine ⟨h.bel.step hb, by simp [Act.put, h.sz], h.dfr, ?_, ?_, ?_, ?_, ?_, ⟨mv, fun j e k' hj hL => ?_, fun hL => ?_⟩, fun j x hj hx' hL => ?_⟩
 · rw [aV d1]; exact h.t1.later hx
 · rw [aV d2]; exact h.t2.later hx
 · rw [aV d3]; exact h.t3.later hx
 · rw [aV d4]; exact h.t4.later hx
 · rw [aV d5]; exact h.t5.later hx
 · by_cases hji : j = i
   · subst hji
     rw [hk] at hj; cases hj
     rw [eP (by rw [h.sz]; exact dl)]
     exact hv mv
   · have hde : d ≠ e := fun he => hji (by subst he; exact (rV hk hj).symm)
     rw [aV hde]
     rw [hupd j hji] at hL
     exact (h1 j e k' hj hL).later hx
 · rw [hupd 0 (Ne.symm hi0)] at hL
   exact ((h2 hL).later hb).more hk
 · have hji : j ≠ i := fun e' => by subst e'; rw [hk] at hj; cases hj; cases k <;> simp [CK.needs, CK.isVal] at hx' hn
   rw [hupd j hji] at hL
   rw [hupd 0 (Ne.symm hi0)]
   exact h.early j x hj hx' hL
section
variable {Q : Exit → Act → World → Prop} {w0 : World} {p4 p5 : Nat}
abbrev StC (Q : Exit → Act → World → Prop) (w0 : World) (p4 p5 : Nat) (i : Nat) (o : Oper) : Prop := wO Tryz.prog .any Q (CI w0 p4 p5) i o
theorem jc {P : Program} {o : Oper} {a : Act} {w w' : World} {K : Act → World → Prop} {v : Value} (h : (execOp a.eval o).run P w = .ok (.value v) w') (hK : K (a.put o.dst v) w') : o.wp P a w K Q := by
 unfold Oper.wp; rw [h]; exact hK
theorem wT {P : Program} {o : Oper} {a : Act} {w w' : World} {K : Act → World → Prop} (h : (execOp a.eval o).run P w = .ok .skip w') (hK : K (a.put o.dst undef) w') : o.wp P a w K Q := by
 unfold Oper.wp; rw [h]; exact hK
theorem rY {P : Program} {o : Oper} {a : Act} {w : World} {K : Act → World → Prop} {f : FuncId} {args : Array Value} (h : (execOp a.eval o).run P w = .ok (.enter f args) w)
 (hc : Calls P f args w fun en w' => ∃ v, en = .returned v ∧ K (a.put o.dst v) w') : o.wp P a w K Q := by
 unfold Oper.wp; rw [h]
 refine Calls.mono hc ?_
 rintro en w' ⟨v, rfl, hK⟩
 exact hK
theorem rI (args : Array Value) (w : World) : (callFunc 168 args).run Tryz.prog w = .ok (.enter 168 args) w := by rfl
theorem uw (args : Array Value) (w : World) : (callFunc 169 args).run Tryz.prog w = .ok (.enter 169 args) w := by rfl
theorem pG {f : FuncId} (hcf : ∀ (args : Array Value) (w : World), (callFunc f args).run Tryz.prog w = .ok (.enter f args) w) (a : Act) (w : World) (dst : Option Tmp) (xs : Array Operand) (ats : Array TypeId) (ty : TypeId) (pos : String) (after : Array Edge) :
 (execOp a.eval ⟨dst, .call ⟨.value (.func f), xs, ats⟩, ty, pos, after, none⟩).run Tryz.prog w = .ok (.enter f (xs.map a.eval)) w := by
 have e : execOp a.eval ⟨dst, .call ⟨.value (.func f), xs, ats⟩, ty, pos, after, none⟩ = callFunc f (#[] ++ xs.map a.eval ++ #[]) := rfl
 rw [e, hcf]
 simp
theorem ib {i d s : Nat} {ty : TypeId} {pos : String} {after : Array Edge} {f : Nat → Bool} (hk : bv[i]? = some (some d, .fn f)) (ha : ∀ e ∈ after, e.on < i) (hs : True)
 (hf : ∀ (L : Nat → Bool) (a : Act) (w : World), CI w0 p4 p5 L a w → (∀ e ∈ after, Region.binds .any e = true → L e.on = true) → fY w (a.eval (.tmp s)) f) : StC Q w0 p4 p5 i ⟨some d, .move (.tmp s), ty, pos, after, none⟩ :=
 ⟨rfl, ha, fun L a w h hi he => jc (v := a.eval (.tmp s)) rfl (h.value hk hi rfl (fun _ => hf L a w h he) (Below.refl _ _))⟩
theorem sd {i d s p : Nat} {pos : String} {after : Array Edge} {f : Nat → Bool} (hk : bv[i]? = some (some d, .fn f)) (ha : ∀ e ∈ after, e.on < i) (hs : True)
 (hf : ∀ (L : Nat → Bool) (a : Act) (w : World), CI w0 p4 p5 L a w → (∀ e ∈ after, Region.binds .any e = true → L e.on = true) → qz w (a.eval (.tmp s)) p f) : StC Q w0 p4 p5 i ⟨some d, .load 126 (.tmp s), 126, pos, after, none⟩ :=
 ⟨rfl, ha, fun L a w h hi he => by
  obtain ⟨e, u, hc, hu⟩ := hf L a w h he
  have f0 := hc.cell 0
  simp only [List.getElem?_toArray, List.getElem?_cons_zero] at f0
  refine jc (v := u) ?_ (h.value hk hi rfl (fun _ => hu) (Below.refl _ _))
  have e' : execOp a.eval ⟨some d, .load 126 (.tmp s), 126, pos, after, none⟩ = execOp (fun _ => Value.pointer (some ⟨p, 0, none⟩)) ⟨some d, .load 126 (.tmp 0), 126, pos, after, none⟩ := by
   unfold execOp; simp only [e]
  rw [e']
  simp [go_sem, f0]⟩
theorem gl {i d lo hi : Nat} {ty : TypeId} {pos : String} {ats : Array TypeId} {after : Array Edge} (hk : bv[i]? = some (some d, .fn (bZ lo hi))) (ha : ∀ e ∈ after, e.on < i) (hs : True) :
 StC Q w0 p4 p5 i ⟨some d, .call ⟨.value (.func 168), #[.const (.int .u8 (lo : Nat)), .const (.int .u8 (hi : Nat))], ats⟩, ty, pos, after, none⟩ :=
 ⟨rfl, ha, fun L a w h hi' he => by
  refine rY (pG rI a w (some d) #[.const (.int .u8 (lo : Nat)), .const (.int .u8 (hi : Nat))] ats ty pos after) ?_
  have e : Array.map a.eval #[.const (.int .u8 (lo : Nat)), .const (.int .u8 (hi : Nat))] = #[.int .u8 (lo : Nat), .int .u8 (hi : Nat)] := by simp [Act.eval]
  rw [e]
  refine (dX w lo hi).mono fun en w' hg => ?_
  obtain ⟨v, rfl, hv, hb⟩ := hg
  exact ⟨v, rfl, h.value hk hi' rfl (fun _ => hv) hb⟩⟩
theorem fk {i j d s : Nat} {ty : TypeId} {pos : String} {ats : Array TypeId} {after : Array Edge} {fs : List (Nat → Bool)} (hk : bv[i]? = some (some d, .fn (kn fs))) (ha : ∀ e ∈ after, e.on < i) (hs : True)
 (hj : bv[j]? = some (some s, .sl fs)) (hl : fs.length ≤ 100) (hL : ∀ (L : Nat → Bool) (a : Act) (w : World), CI w0 p4 p5 L a w → (∀ e ∈ after, Region.binds .any e = true → L e.on = true) → L j = true) :
 StC Q w0 p4 p5 i ⟨some d, .call ⟨.value (.func 169), #[.tmp s], ats⟩, ty, pos, after, none⟩ :=
 ⟨rfl, ha, fun L a w h hi' he => by
  obtain ⟨mv, h1, _⟩ := h.slots
  obtain ⟨b, vs, e, hc, hlen, hf⟩ := h1 j s _ hj (hL L a w h he)
  refine rY (pG uw a w (some d) #[.tmp s] ats ty pos after) ?_
  have e' : Array.map a.eval #[.tmp s] = #[.slice (some ⟨b, 0, none⟩) vs.length vs.length] := by simp [e]
  rw [e']
  refine (lD w b vs fs hc (by omega) hlen hf).mono fun en w' hg => ?_
  obtain ⟨v, rfl, hv, hb⟩ := hg
  exact ⟨v, rfl, h.value hk hi' rfl (fun _ => hv) hb⟩⟩
theorem xe (ρ : Operand → Value) (w : World) {d s1 s2 : Nat} {ty : TypeId} {pos : String} {after : Array Edge} {g1 g2 : Fn} {c1 c2 : Array Value} (e1 : ρ (.tmp s1) = .func g1 #[] c1) (e2 : ρ (.tmp s2) = .func g2 #[] c2) :
 (execOp ρ ⟨some d, .buildSlice 179 2 #[(0, .tmp s1), (1, .tmp s2)], ty, pos, after, none⟩).run Tryz.prog w = .ok (.value (.slice (some ⟨w.heap.size, 0, none⟩) 2 2)) (w.alloc (.cells #[.func g1 #[] c1, .func g2 #[] c2] 126)) := by
 simp [execOp, e1, e2, go_sem]
theorem wZ (ρ : Operand → Value) (w : World) {d s1 s2 s3 : Nat} {ty : TypeId} {pos : String} {after : Array Edge} {g1 g2 g3 : Fn} {c1 c2 c3 : Array Value} (e1 : ρ (.tmp s1) = .func g1 #[] c1) (e2 : ρ (.tmp s2) = .func g2 #[] c2) (e3 : ρ (.tmp s3) = .func g3 #[] c3) :
 (execOp ρ ⟨some d, .buildSlice 179 3 #[(0, .tmp s1), (1, .tmp s2), (2, .tmp s3)], ty, pos, after, none⟩).run Tryz.prog w = .ok (.value (.slice (some ⟨w.heap.size, 0, none⟩) 3 3)) (w.alloc (.cells #[.func g1 #[] c1, .func g2 #[] c2, .func g3 #[] c3] 126)) := by
 simp [execOp, e1, e2, e3, go_sem]
theorem pA (w : World) (vs : List Value) (fs : List (Nat → Bool)) (t : TypeId) (hl : fs.length = vs.length) (hf : ∀ (i : Nat) (v : Value) (f : Nat → Bool), vs[i]? = some v → fs[i]? = some f → fY w v f) :
 xV (w.alloc (.cells vs.toArray t)) (.slice (some ⟨w.heap.size, 0, none⟩) vs.length vs.length) fs :=
 ⟨_, vs, rfl, bA.new w _ _, hl, fun i v f h1 h2 => (hf i v f h1 h2).later (.of_below nal)⟩
theorem pp {i d s1 s2 : Nat} {ty : TypeId} {pos : String} {after : Array Edge} {f1 f2 : Nat → Bool} (hk : bv[i]? = some (some d, .sl [f1, f2])) (ha : ∀ e ∈ after, e.on < i) (hs : True)
 (hf1 : ∀ (L : Nat → Bool) (a : Act) (w : World), CI w0 p4 p5 L a w → (∀ e ∈ after, Region.binds .any e = true → L e.on = true) → fY w (a.eval (.tmp s1)) f1)
 (hf2 : ∀ (L : Nat → Bool) (a : Act) (w : World), CI w0 p4 p5 L a w → (∀ e ∈ after, Region.binds .any e = true → L e.on = true) → fY w (a.eval (.tmp s2)) f2) :
 StC Q w0 p4 p5 i ⟨some d, .buildSlice 179 2 #[(0, .tmp s1), (1, .tmp s2)], ty, pos, after, none⟩ :=
 ⟨rfl, ha, fun L a w h hi' he => by
  have h1 := hf1 L a w h he; have h2 := hf2 L a w h he
  obtain ⟨g1, c1, e1, _⟩ := id h1; obtain ⟨g2, c2, e2, _⟩ := id h2
  refine jc (xe a.eval w e1 e2) (h.value hk hi' rfl (fun _ => ?_) nal)
  rw [e1] at h1; rw [e2] at h2
  refine pA w [.func (.func g1) #[] c1, .func (.func g2) #[] c2] [f1, f2] _ rfl fun i v f a1 a2 => ?_
  rcases i with _ | _ | i
  · simp at a1 a2; subst a1 a2; exact h1
  · simp at a1 a2; subst a1 a2; exact h2
  · simp at a1⟩
theorem ym {i d s1 s2 s3 : Nat} {ty : TypeId} {pos : String} {after : Array Edge} {f1 f2 f3 : Nat → Bool} (hk : bv[i]? = some (some d, .sl [f1, f2, f3])) (ha : ∀ e ∈ after, e.on < i) (hs : True)
 (hf1 : ∀ (L : Nat → Bool) (a : Act) (w : World), CI w0 p4 p5 L a w → (∀ e ∈ after, Region.binds .any e = true → L e.on = true) → fY w (a.eval (.tmp s1)) f1)
 (hf2 : ∀ (L : Nat → Bool) (a : Act) (w : World), CI w0 p4 p5 L a w → (∀ e ∈ after, Region.binds .any e = true → L e.on = true) → fY w (a.eval (.tmp s2)) f2)
 (hf3 : ∀ (L : Nat → Bool) (a : Act) (w : World), CI w0 p4 p5 L a w → (∀ e ∈ after, Region.binds .any e = true → L e.on = true) → fY w (a.eval (.tmp s3)) f3) :
 StC Q w0 p4 p5 i ⟨some d, .buildSlice 179 3 #[(0, .tmp s1), (1, .tmp s2), (2, .tmp s3)], ty, pos, after, none⟩ :=
 ⟨rfl, ha, fun L a w h hi' he => by
  have h1 := hf1 L a w h he; have h2 := hf2 L a w h he; have h3 := hf3 L a w h he
  obtain ⟨g1, c1, e1, _⟩ := id h1; obtain ⟨g2, c2, e2, _⟩ := id h2; obtain ⟨g3, c3, e3, _⟩ := id h3
  refine jc (wZ a.eval w e1 e2 e3) (h.value hk hi' rfl (fun _ => ?_) nal)
  rw [e1] at h1; rw [e2] at h2; rw [e3] at h3
  refine pA w [.func (.func g1) #[] c1, .func (.func g2) #[] c2, .func (.func g3) #[] c3] [f1, f2, f3] _ rfl fun i v f a1 a2 => ?_
  rcases i with _ | _ | _ | i
  · simp at a1 a2; subst a1 a2; exact h1
  · simp at a1 a2; subst a1 a2; exact h2
  · simp at a1 a2; subst a1 a2; exact h3
  · simp at a1⟩
theorem yT {i d : Nat} {ty : TypeId} {pos : String} {after : Array Edge} (hk : bv[i]? = some (some d, .fn (wB rS rX))) (ha : ∀ e ∈ after, e.on < i) (hs : True) :
 StC Q w0 p4 p5 i ⟨some d, .makeFunc (.func 170) #[] #[.tmp 5, .tmp 4], ty, pos, after, none⟩ :=
 ⟨rfl, ha, fun L a w h hi' he => by
  obtain ⟨e5, u5, c5, f5⟩ := h.t5
  obtain ⟨e4, u4, c4, f4⟩ := h.t4
  refine jc (v := .func (.func 170) #[] #[a.eval (.tmp 5), a.eval (.tmp 4)]) (by simp [execOp, Instr.makeFunc, go_sem]) (h.value hk hi' rfl (fun _ => ?_) (Below.refl _ _))
  rw [e5, e4]
  exact yG w p5 p4 u5 u4 rS rX c5 c4 f5 f4⟩
theorem yS {ty mt : TypeId} {pos : String} {after : Array Edge} (ha : ∀ e ∈ after, e.on < 0) : StC Q w0 p4 p5 0 ⟨some 15, .makeMap mt none, ty, pos, after, none⟩ :=
 ⟨rfl, ha, fun L a w h hi' he => by
  have hb : Below w.heap.size w (w.alloc (.map #[] 0)) := nal
  have hx := CExt.of_below hb
  refine jc (v := .map (some w.heap.size)) (w' := w.alloc (.map #[] 0)) (by simp [execOp, Instr.makeMap, go_sem]) ?_
  have hk : bv[0]? = some (some 15, .mk) := rfl
  obtain ⟨mv, h1, h2⟩ := h.slots
  have hupd : ∀ j, j ≠ 0 → upd L 0 j = L j := fun j hj => by simp [upd, show (j == 0) = false by simpa using hj]
  refine ⟨h.bel.step hb, by simp [Act.put, h.sz], h.dfr, ?_, ?_, ?_, ?_, ?_, ⟨.map (some w.heap.size), fun j e k' hj hL => ?_, fun hL => ?_⟩, fun j x hj hx' hL => by simp [upd]⟩
  · rw [aV (by decide)]; exact h.t1.later hx
  · rw [aV (by decide)]; exact h.t2.later hx
  · rw [aV (by decide)]; exact h.t3.later hx
  · rw [aV (by decide)]; exact h.t4.later hx
  · rw [aV (by decide)]; exact h.t5.later hx
  · by_cases hji : j = 0
    · subst hji
      rw [hk] at hj; cases hj
      rw [eP (by rw [h.sz]; decide)]
      exact rfl
    · have hde : 15 ≠ e := fun he => hji (by subst he; exact (rV hk hj).symm)
      rw [aV hde]
      rw [hupd j hji] at hL
      have := (h1 j e k' hj hL).later hx
      cases k' with
      | mk => exact absurd (yc hj) hji
      | cp => exact absurd (h.early j _ hj rfl hL) (by rw [hi']; simp)
      | fn f => exact this
      | sl fs => exact this
      | ins _ _ => trivial
  · refine ⟨w.heap.size, #[], 0, rfl, heap_alloc_new w _, h.bel.size, fun x hx => by simp at hx, fun j n f hj hL' => ?_⟩
    have hji : j ≠ 0 := fun e => by subst e; cases hj
    rw [hupd j hji] at hL'
    exact absurd (h.early j _ hj rfl hL') (by rw [hi']; simp)⟩
theorem wL {a b : Bs} (h : Value.string (bs a) = .string (bs b)) : a = b := by
 injection h with h
 injection h with h
 simpa using h
theorem xf (ρ : Operand → Value) (w : World) {r clock s : Nat} {es : Array MapEntry} {name : Bs} {ty : TypeId} {pos : String} {after : Array Edge} (e1 : ρ (.tmp 15) = .map (some r)) (e2 : ρ (.const (.string (bs name))) = .string (bs name))
 (hr : w.heap[r]? = some (.map es clock)) (hks : ∀ x ∈ es.toList, MapKept.IsKey .string x.key) (hno : ∀ x ∈ es.toList, x.key ≠ .string (bs name)) :
 (execOp ρ ⟨none, .insert 170 (.tmp 15) (.const (.string (bs name))) (.tmp s), ty, pos, after, none⟩).run Tryz.prog w = .ok .skip { w with heap := w.heap.setIfInBounds r (.map (es.push { key := .string (bs name), val := ρ (.tmp s), born := clock }) (clock + 1)) } := by
 have hm : Tryz.prog.underlying 170 = some (.map 9 126) := by kernel_rfl
 have hd : Tryz.prog.underlying 9 = some .string := by kernel_rfl
 have hk : MapKept.IsKey .string (.string (bs name)) := trivial
 have hf : Instr.findNow .string (.string (bs name)) es.toList 0 = some none := by
  rcases MapKept.findNow_spec hk es.toList 0 hks with ⟨h1, _⟩ | ⟨j, e, _, h2, h3⟩
  · exact h1
  · exact absurd h3 (hno e (List.mem_of_getElem? h2))
 simp [execOp, e1, e2, Instr.mapUpdate, run_underlying hm, MapKept.run_getObj_map hr, MapKept.run_checkKey hd hk, MapKept.run_findKey hd hf, MapKept.run_setObj_map _ hr, Result.andThen]
theorem eQ {i j s : Nat} {name : Bs} {f : Nat → Bool} {ty : TypeId} {pos : String} {after : Array Edge} (hk : bv[i]? = some (none, .ins name f)) (hj : bv[j]? = some (some s, .fn f)) (ha : ∀ e ∈ after, e.on < i)
 (hL : ∀ (L : Nat → Bool) (a : Act) (w : World), CI w0 p4 p5 L a w → (∀ e ∈ after, Region.binds .any e = true → L e.on = true) → L 0 = true ∧ L j = true) :
 StC Q w0 p4 p5 i ⟨none, .insert 170 (.tmp 15) (.const (.string (bs name))) (.tmp s), ty, pos, after, none⟩ :=
 ⟨rfl, ha, fun L a w h hi' he => by
  obtain ⟨l0, lj⟩ := hL L a w h he
  obtain ⟨mv, h1, h2⟩ := h.slots
  have hv := h.fnAt hj lj
  have e15 : a.eval (.tmp 15) = mv := h1 0 15 .mk rfl l0
  obtain ⟨r, es, clock, rfl, hr, hB, m1, m2⟩ := h2 l0
  have hrl : r < w.heap.size := (Array.getElem?_eq_some_iff.1 hr).1
  refine wT (xf (s := s) a.eval w e15 rfl hr (fun x hx => ?_) (fun x hx e => ?_)) ?_
  · obtain ⟨j', n', f', _, _, b, _⟩ := m1 x hx
    rw [b]; trivial
  · obtain ⟨j', n', f', c1, c2, c3, _⟩ := m1 x hx
    rw [c3] at e
    have := wL e
    subst this
    have := pi hk c1
    subst this
    rw [hi'] at c2; cases c2
  generalize hW : ({ w with heap := w.heap.setIfInBounds r (.map (es.push { key := .string (bs name), val := a.eval (.tmp s), born := clock }) (clock + 1)) } : World) = W
  have hrW : W.heap[r]? = some (.map (es.push { key := .string (bs name), val := a.eval (.tmp s), born := clock }) (clock + 1)) := by subst hW; simp [hrl]
  have hoW : ∀ k, k ≠ r → W.heap[k]? = w.heap[k]? := fun k hk => by subst hW; simp [Ne.symm hk]
  have hsW : W.heap.size = w.heap.size := by subst hW; simp
  have hx : CExt w W := ⟨by omega, fun k cs t z e => by
   rw [hoW k (fun e' => by subst e'; rw [hr] at e; cases e)]; exact e⟩
  have hbW : Below w0.heap.size w0 W := by
   have hb := h.bel
   refine ⟨?_, ?_, ?_, by rw [hsW]; exact hb.size, fun k hk' => (hoW k (by omega)).trans (hb.block k hk')⟩
   · subst hW; exact hb.os
   · subst hW; exact hb.tape
   · subst hW; exact hb.output
  clear hW
  have hupd : ∀ k, k ≠ i → upd L i k = L k := fun k hk => by simp [upd, show (k == i) = false by simpa using hk]
  have hput : a.put none undef = a := rfl
  rw [hput]
  refine ⟨hbW, h.sz, h.dfr, h.t1.later hx, h.t2.later hx, h.t3.later hx, h.t4.later hx, h.t5.later hx, ⟨_, fun k e k' hk' hl => ?_, fun _ => ⟨r, _, _, rfl, hrW, hB, fun x hxm => ?_, fun k n g hk' hl => ?_⟩⟩, fun k x hk' hn hl => ?_⟩
  · have hki : k ≠ i := fun e' => by subst e'; rw [hk] at hk'; cases hk'
    rw [hupd k hki] at hl
    exact (h1 k e k' hk' hl).later hx
  · rw [Array.toList_push, List.mem_append, List.mem_singleton] at hxm
    rcases hxm with hxm | rfl
    · obtain ⟨j', n', f', c1, c2, c3, c4⟩ := m1 x hxm
      exact ⟨j', n', f', c1, by simp [upd, c2], c3, c4.later hx⟩
    · exact ⟨i, name, f, hk, by simp [upd], rfl, hv.later hx⟩
  · by_cases hki : k = i
    · subst hki
      rw [hk] at hk'; cases hk'
      exact ⟨_, by rw [Array.toList_push]; exact List.mem_append_right _ (List.mem_singleton.2 rfl), rfl⟩
    · rw [hupd k hki] at hl
      obtain ⟨x, hx1, hx2⟩ := m2 k n g hk' hl
      exact ⟨x, by rw [Array.toList_push]; exact List.mem_append_left _ hx1, hx2⟩
  · have hi0 : i ≠ 0 := fun e' => by subst e'; cases hk
    rw [hupd 0 (Ne.symm hi0)]; exact l0⟩
theorem xZ {i j d s : Nat} {k' : CK} {op : Op} {ty : TypeId} {pos : String} {after : Array Edge} (hk : bv[i]? = some (some d, .cp)) (hj : bv[j]? = some (some s, k')) (ha : ∀ e ∈ after, e.on < i) (hop : op = .move (.tmp s) ∨ op = .assign (.tmp s)) (hc : k' = .mk ∨ k' = .cp)
 (hL : ∀ (L : Nat → Bool) (a : Act) (w : World), CI w0 p4 p5 L a w → (∀ e ∈ after, Region.binds .any e = true → L e.on = true) → L j = true) : StC Q w0 p4 p5 i ⟨some d, op, ty, pos, after, none⟩ :=
 ⟨rfl, ha, fun L a w h hi' he => by
  have lj := hL L a w h he
  have l0 : L 0 = true := by
   rcases hc with rfl | rfl
   · rw [← yc hj]; exact lj
   · exact h.early j _ hj rfl lj
  obtain ⟨mv, h1, h2⟩ := h.slots
  have es : a.eval (.tmp s) = mv := by
   rcases hc with rfl | rfl
   · exact h1 j s _ hj lj
   · exact h1 j s _ hj lj
  obtain ⟨d1, d2, d3, d4, d5, dl⟩ := wK hk
  have hi0 : i ≠ 0 := fun e => by subst e; cases hk
  have hupd : ∀ j, j ≠ i → upd L i j = L j := fun j hj => by simp [upd, show (j == i) = false by simpa using hj]
  refine jc (v := a.eval (.tmp s)) (w' := w) (by rcases hop with rfl | rfl <;> rfl) ?_
  show CI w0 p4 p5 (upd L i) (a.put (some d) (a.eval (.tmp s))) w
  rw [es]
  refine ⟨h.bel, by simp [Act.put, h.sz], h.dfr, ?_, ?_, ?_, ?_, ?_, ⟨mv, fun k e k2 hk2 hl => ?_, fun _ => (h2 l0).more hk⟩, fun k x hk2 hn hl => by rw [hupd 0 (Ne.symm hi0)]; exact l0⟩
  · rw [aV d1]; exact h.t1
  · rw [aV d2]; exact h.t2
  · rw [aV d3]; exact h.t3
  · rw [aV d4]; exact h.t4
  · rw [aV d5]; exact h.t5
  · by_cases hki : k = i
    · subst hki
      rw [hk] at hk2; cases hk2
      rw [eP (by rw [h.sz]; exact dl)]
      exact rfl
    · have hde : d ≠ e := fun he => hki (by subst he; exact (rV hk hk2).symm)
      rw [aV hde]
      rw [hupd k hki] at hl
      exact h1 k e k2 hk2 hl⟩
end
def qv (w : World) (v : Value) : Prop :=
 ∃ (r : Nat) (es : Array MapEntry) (clock : Nat), v = .map (some r) ∧ w.heap[r]? = some (.map es clock) ∧
  (∀ x ∈ es.toList, ∃ (j : Nat) (name : Bs) (f : Nat → Bool), bv[j]? = some (none, .ins name f) ∧ x.key = .string (bs name) ∧ fY w x.val f) ∧
  ∀ (j : Nat) (name : Bs) (f : Nat → Bool), bv[j]? = some (none, .ins name f) → ∃ x ∈ es.toList, x.key = .string (bs name)
theorem oU (tmps : Array Value) (v : Value) (W : World) (h : tmps[0]? = some v) : (results Tryz.f165 tmps).run Tryz.prog W = .ok v W := by
 simp [results, Tryz.results165, go_sem, h]
theorem oV (w : World) : Calls Tryz.prog 165 #[] w fun en w' => ∃ v, en = .returned v ∧ qv w' v ∧ Below w.heap.size w w' := by
 go_enter Tryz.func165, Tryz.ntmps165
 go_wp2_with fail
 refine (dX _ 65 90).mono ?_
 rintro en w1 ⟨v1, rfl, h1, hb1⟩
 go_wp2_with fail
 refine (dX _ 97 122).mono ?_
 rintro en w2 ⟨v2, rfl, h2, hb2⟩
 go_wp2_with fail
 refine (dX _ 48 57).mono ?_
 rintro en w3 ⟨v3, rfl, h3, hb3⟩
 have h1 := (h1.later (.of_below hb2)).later (.of_below hb3)
 have h2 := h2.later (.of_below hb3)
 have hb3 := (hb1.step hb2).step hb3
 clear hb1 hb2
 obtain ⟨g1, c1, rfl, -⟩ := id h1
 obtain ⟨g2, c2, rfl, -⟩ := id h2
 obtain ⟨g3, c3, rfl, -⟩ := id h3
 have H1 := hid h1; have H2 := hid h2; have H3 := hid h3; have HB := hid hb3
 clear h1 h2 h3 hb3
 go_wp2_with fail
 generalize hW4 : w3.alloc _ = W4
 have hb4 : Below w3.heap.size w3 W4 := by subst hW4; exact nal
 have hs4 : bA W4 w3.heap.size [Value.func (.func g1) #[] c1, .func (.func g2) #[] c2, .func (.func g3) #[] c3].toArray := by subst hW4; exact bA.new w3 _ _
 clear hW4
 refine (lD W4 w3.heap.size [Value.func (.func g1) #[] c1, .func (.func g2) #[] c2, .func (.func g3) #[] c3] [bZ 65 90, bZ 97 122, bZ 48 57] hs4 (by simp) rfl ?_).mono ?_
 · intro i v f a1 a2
   rcases i with _ | _ | _ | i
   · simp at a1 a2; subst a1 a2; exact H1.out.later (.of_below hb4)
   · simp at a1 a2; subst a1 a2; exact H2.out.later (.of_below hb4)
   · simp at a1 a2; subst a1 a2; exact H3.out.later (.of_below hb4)
   · simp at a1
 rintro en w5 ⟨v4, rfl, h4, hb5⟩
 obtain ⟨g4, c4, rfl, -⟩ := id h4
 have H4 := hid h4; clear h4 hs4
 go_wp2_with fail
 refine (dX _ 33 126).mono ?_
 rintro en w6 ⟨v5, rfl, h5, hb6⟩
 obtain ⟨g5, c5, rfl, -⟩ := id h5
 have H5 := hid h5; clear h5
 have HB36 := hid ((hb4.step hb5).step hb6)
 have HB56 := hid hb6
 clear hb4 hb5 hb6
 go_wp2_with fail
 generalize hW7 : (w6.alloc _).alloc _ = W7
 have hb7 : Below w6.heap.size w6 W7 := by subst hW7; exact nal.alloc (by simp) _
 have hz7 : W7.heap.size = w6.heap.size + 2 := by subst hW7; simp
 have k4 : bA W7 w6.heap.size #[.func (.func g4) #[] c4] := by
  subst hW7
  exact (bA.new w6 _ _).keep nal
 have k5 : bA W7 (w6.heap.size + 1) #[.func (.func g5) #[] c5] := by
  subst hW7
  have := bA.new (w6.alloc (.cells #[.func (.func g4) #[] c4] 126)) #[.func (.func g5) #[] c5] 126
  rw [show (w6.alloc (.cells #[.func (.func g4) #[] c4] 126)).heap.size = w6.heap.size + 1 by simp] at this
  exact this
 clear hW7
 have hb3 := (HB36.out.step hb7)
 have hbW := HB.out.step hb3
 have hd : Below W7.heap.size W7 W7.drew := ⟨rfl, rfl, rfl, Nat.le_refl _, fun _ _ => rfl⟩
 have hx3 : CExt w3 W7.drew := (CExt.of_below hb3).trans (.of_below hd)
 have hx5 : CExt w5 W7.drew := ((CExt.of_below HB56.out).trans (.of_below hb7)).trans (.of_below hd)
 have hx6 : CExt w6 W7.drew := (CExt.of_below hb7).trans (.of_below hd)
 refine wp_region_any (by kernel_rfl) ?_
 refine sO (CI w w6.heap.size (w6.heap.size + 1)) ?_ ?_ _ _ _ _ rfl (by decide +kernel) ?_
 · refine fun i o ho => ?_
   rw [List.getElem?_toArray] at ho
   revert i o
   refine oB ?_
   refine ap (yS (by decide)) ?_
   refine ap (ib rfl (by decide) trivial (fun L a w h _ => h.t1)) ?_
   refine ap (eQ (j := 1) rfl rfl (by decide) (fun L a w h he => ⟨he ⟨0, .data⟩ (by simp) rfl, he ⟨1, .data⟩ (by simp) rfl⟩)) ?_
   refine ap (ib rfl (by decide) trivial (fun L a w h _ => h.t2)) ?_
   refine ap (eQ (j := 3) rfl rfl (by decide) (fun L a w h he => ⟨he ⟨0, .data⟩ (by simp) rfl, he ⟨3, .data⟩ (by simp) rfl⟩)) ?_
   refine ap (ib rfl (by decide) trivial (fun L a w h _ => h.t3)) ?_
   refine ap (eQ (j := 5) rfl rfl (by decide) (fun L a w h he => ⟨he ⟨0, .data⟩ (by simp) rfl, he ⟨5, .data⟩ (by simp) rfl⟩)) ?_
   refine ap (sd rfl (by decide) trivial (fun L a w h _ => h.t4)) ?_
   refine ap (eQ (j := 7) rfl rfl (by decide) (fun L a w h he => ⟨he ⟨0, .data⟩ (by simp) rfl, he ⟨7, .data⟩ (by simp) rfl⟩)) ?_
   refine ap (sd rfl (by decide) trivial (fun L a w h _ => h.t5)) ?_
   refine ap (eQ (j := 9) rfl rfl (by decide) (fun L a w h he => ⟨he ⟨0, .data⟩ (by simp) rfl, he ⟨9, .data⟩ (by simp) rfl⟩)) ?_
   refine ap (ib rfl (by decide) trivial (fun L a w h _ => h.t1)) ?_
   refine ap (ib rfl (by decide) trivial (fun L a w h _ => h.t2)) ?_
   refine ap (pp rfl (by decide) trivial (fun L a w h he => h.fnAt (i := 11) rfl (he ⟨11, .data⟩ (by simp) rfl)) (fun L a w h he => h.fnAt (i := 12) rfl (he ⟨12, .data⟩ (by simp) rfl))) ?_
   refine ap (fk (j := 13) rfl (by decide) trivial rfl (by decide) (fun L a w h he => he ⟨13, .data⟩ (by simp) rfl)) ?_
   refine ap (eQ (j := 14) rfl rfl (by decide) (fun L a w h he => ⟨he ⟨0, .data⟩ (by simp) rfl, he ⟨14, .data⟩ (by simp) rfl⟩)) ?_
   refine ap (ib rfl (by decide) trivial (fun L a w h _ => h.t3)) ?_
   refine ap (gl rfl (by decide) trivial) ?_
   refine ap (gl rfl (by decide) trivial) ?_
   refine ap (ym rfl (by decide) trivial (fun L a w h he => h.fnAt (i := 16) rfl (he ⟨16, .data⟩ (by simp) rfl)) (fun L a w h he => h.fnAt (i := 17) rfl (he ⟨17, .data⟩ (by simp) rfl)) (fun L a w h he => h.fnAt (i := 18) rfl (he ⟨18, .data⟩ (by simp) rfl))) ?_
   refine ap (fk (j := 19) rfl (by decide) trivial rfl (by decide) (fun L a w h he => he ⟨19, .data⟩ (by simp) rfl)) ?_
   refine ap (eQ (j := 20) rfl rfl (by decide) (fun L a w h he => ⟨he ⟨0, .data⟩ (by simp) rfl, he ⟨20, .data⟩ (by simp) rfl⟩)) ?_
   refine ap (gl rfl (by decide) trivial) ?_
   refine ap (gl rfl (by decide) trivial) ?_
   refine ap (pp rfl (by decide) trivial (fun L a w h he => h.fnAt (i := 22) rfl (he ⟨22, .data⟩ (by simp) rfl)) (fun L a w h he => h.fnAt (i := 23) rfl (he ⟨23, .data⟩ (by simp) rfl))) ?_
   refine ap (fk (j := 24) rfl (by decide) trivial rfl (by decide) (fun L a w h he => he ⟨24, .data⟩ (by simp) rfl)) ?_
   refine ap (eQ (j := 25) rfl rfl (by decide) (fun L a w h he => ⟨he ⟨0, .data⟩ (by simp) rfl, he ⟨25, .data⟩ (by simp) rfl⟩)) ?_
   refine ap (gl rfl (by decide) trivial) ?_
   refine ap (gl rfl (by decide) trivial) ?_
   refine ap (pp rfl (by decide) trivial (fun L a w h he => h.fnAt (i := 27) rfl (he ⟨27, .data⟩ (by simp) rfl)) (fun L a w h he => h.fnAt (i := 28) rfl (he ⟨28, .data⟩ (by simp) rfl))) ?_
   refine ap (fk (j := 29) rfl (by decide) trivial rfl (by decide) (fun L a w h he => he ⟨29, .data⟩ (by simp) rfl)) ?_
   refine ap (eQ (j := 30) rfl rfl (by decide) (fun L a w h he => ⟨he ⟨0, .data⟩ (by simp) rfl, he ⟨30, .data⟩ (by simp) rfl⟩)) ?_
   refine ap (gl rfl (by decide) trivial) ?_
   refine ap (gl rfl (by decide) trivial) ?_
   refine ap (pp rfl (by decide) trivial (fun L a w h he => h.fnAt (i := 32) rfl (he ⟨32, .data⟩ (by simp) rfl)) (fun L a w h he => h.fnAt (i := 33) rfl (he ⟨33, .data⟩ (by simp) rfl))) ?_
   refine ap (fk (j := 34) rfl (by decide) trivial rfl (by decide) (fun L a w h he => he ⟨34, .data⟩ (by simp) rfl)) ?_
   refine ap (eQ (j := 35) rfl rfl (by decide) (fun L a w h he => ⟨he ⟨0, .data⟩ (by simp) rfl, he ⟨35, .data⟩ (by simp) rfl⟩)) ?_
   refine ap (gl rfl (by decide) trivial) ?_
   refine ap (eQ (j := 37) rfl rfl (by decide) (fun L a w h he => ⟨he ⟨0, .data⟩ (by simp) rfl, he ⟨37, .data⟩ (by simp) rfl⟩)) ?_
   refine ap (yT rfl (by decide) trivial) ?_
   refine ap (eQ (j := 39) rfl rfl (by decide) (fun L a w h he => ⟨he ⟨0, .data⟩ (by simp) rfl, he ⟨39, .data⟩ (by simp) rfl⟩)) ?_
   refine ap (xZ (j := 0) (s := 15) rfl rfl (by decide) (.inl rfl) (.inl rfl) (fun L a w h he => he ⟨0, .data⟩ (by simp) rfl)) ?_
   refine ap (xZ (j := 41) (s := 44) rfl rfl (by decide) (.inr rfl) (.inr rfl) (fun L a w h he => he ⟨41, .data⟩ (by simp) rfl)) ?_
   exact sY
 · intro L a W hI hL
   rename_i hK
   have hL : ∀ i < 43, L i = true := hL
   obtain ⟨mv, m1, m2⟩ := hI.slots
   have e0 : a.eval (.tmp 0) = mv := m1 42 0 .cp rfl (hL 42 (by decide))
   obtain ⟨r, es, clock, rfl, hr, hB, n1, n2⟩ := m2 (hL 0 (by decide))
   have hdf := hI.dfr
   have hbl := hI.bel
   have hsz := hI.sz
   refine hK a W ?_
   apply wp_ret
   show bodyPost _ _ _ .ret a W
   obtain ⟨tmps, defers⟩ := a
   have e0 : tmps[0]? = some (.map (some r)) := by
    have hsz : tmps.size = 45 := hsz
    rw [← e0]; simp [Act.eval, Array.getD, hsz]
   refine bodyPost_ret (v := .map (some r)) (oU tmps _ W e0) hdf ⟨_, rfl, ⟨r, es, clock, rfl, hr, fun x hx => ?_, fun j n f hj => n2 j n f hj (hL j (kw hj))⟩, hbl⟩
   obtain ⟨j, n, f, c1, _, c3, c4⟩ := n1 x hx
   exact ⟨j, n, f, c1, c3, c4⟩
 · refine ⟨hbW.step hd, rfl, rfl, H1.out.later hx3, H2.out.later hx3, H3.out.later hx3, ⟨rfl, _, k4.later (.of_below hd), H4.out.later hx5⟩, ⟨rfl, _, k5.later (.of_below hd), H5.out.later hx6⟩, ⟨undef, fun i d k hk hL => ?_, fun hL => ?_⟩, fun i x hk hn hL => ?_⟩
   · have := kw hk
     have hno : ∀ i < 43, (Array.replicate 43 false).getD i false = false := by decide
     exact absurd hL (by have := hno i (kw hk); simpa using this)
   · exact absurd hL (by decide)
   · have hno : ∀ i < 43, (Array.replicate 43 false).getD i false = false := by decide
     exact absurd hL (by have := hno i (kw hk); simpa using this)
def yh (p : Nat) (op : Int) (f : Bs → Except Int (Nat × Bs)) (r : Bs) (w : World) (en : Ending) (w' : World) : Prop :=
 ∃ (c : Nat) (s' : Rs), c < 256 ∧ en = .returned (.int .u8 (c : Nat)) ∧ RS w' p op s' ∧ Off p w w' ∧ Out f (.ok r) (fun x => c = x) s'
theorem kK (w : World) (p : Nat) (op : Int) (r : Bs) (g : UInt8) (h : RS w p op (.ok r)) :
 Calls Tryz.prog 156 #[.pointer (some ⟨p, 0, none⟩), .string (bs [g, 93])] w fun en w' => yh p op (be g) r w en w' := by
 have H := hid h; clear h
 cases r with
 | nil =>
  have hs : be g [] = .error 101 := rfl
  go_enter Tryz.func156, Tryz.ntmps156
  go_wp2_with fail
  refine (iR 101 (by omega) H.out).mono ?_
  rintro en w1 ⟨rfl, h1, hO1⟩
  go_wp2_with fail
  refine (dm [g, 93] (by simp) h1).mono ?_
  rintro en w2 ⟨rfl, h2, hO2⟩
  go_wp2_with fail
  refine (gE 101 (by omega) h2).mono ?_
  rintro en w3 ⟨rfl, h3, hO3⟩
  go_wp2_with fail
  go_ret
  exact ⟨0, _, by omega, rfl, h3, (hO1.trans hO2).trans hO3, Out.bad hs⟩
 | cons c t =>
  have hc := c.toNat_lt
  cases ht : aq [g, 93] t with
  | none =>
   have hs := hid (show be g (c :: t) = .error 101 by simp only [be, ht])
   have Ht := hid ht; clear ht
   go_enter Tryz.func156, Tryz.ntmps156
   go_wp2_with fail
   refine (jm 101 (by omega) H.out).mono ?_
   rintro en w1 ⟨rfl, h1, hO1⟩
   go_wp2_with fail
   refine (aX [g, 93] (by simp) Ht.out h1).mono ?_
   rintro en w2 ⟨rfl, h2, hO2⟩
   go_wp2_with fail
   refine (dd 101 (by omega) h2).mono ?_
   rintro en w3 ⟨rfl, h3, hO3⟩
   go_wp2_with fail
   go_ret
   exact ⟨_, _, hc, rfl, h3, (hO1.trans hO2).trans hO3, Out.bad hs.out⟩
  | some r1 =>
   have hs := hid (show be g (c :: t) = .ok (c.toNat, r1) by simp only [be, ht])
   have Ht := hid ht; clear ht
   go_enter Tryz.func156, Tryz.ntmps156
   go_wp2_with fail
   refine (jm 101 (by omega) H.out).mono ?_
   rintro en w1 ⟨rfl, h1, hO1⟩
   go_wp2_with fail
   refine (cg [g, 93] (by simp) Ht.out h1).mono ?_
   rintro en w2 ⟨rfl, h2, hO2⟩
   go_wp2_with fail
   go_ret
   exact ⟨_, _, hc, rfl, h2, hO1.trans hO2, Out.good hs.out rfl⟩
theorem kL {g : UInt8} {r r' : Bs} {c : Nat} (h : be g r = .ok (c, r')) : c < 256 := by
 unfold be at h
 split at h
 · cases h
 · split at h
   · cases h; exact UInt8.toNat_lt _
   · cases h
theorem li {r r' : Bs} {c : Nat} (h : aS r = .ok (c, r')) : c < 256 := by
 unfold aS at h
 split at h
 · exact kL h
 · split at h
   · cases h
   · cases h; exact UInt8.toNat_lt _
theorem lh (w : World) (p : Nat) (op : Int) (r : Bs) (h : RS w p op (.ok r)) :
 Calls Tryz.prog 157 #[.pointer (some ⟨p, 0, none⟩)] w fun en w' => yh p op aS r w en w' := by
 have H := hid h; clear h
 cases ht : aq [91, 46] r with
 | some r1 =>
  have hs := hid (show aS r = be 46 r1 by simp only [aS, ht])
  have Ht := hid ht; clear ht
  go_enter Tryz.func157, Tryz.ntmps157
  go_wp2_with fail
  refine (cg [91, 46] (by simp) Ht.out H.out).mono ?_
  rintro en w1 ⟨rfl, h1, hO1⟩
  go_wp2_with fail
  refine (kK w1 p op r1 46 h1).mono ?_
  rintro en w2 ⟨c, s', hc, rfl, h2, hO2, ho⟩
  have Ho := hid ho; clear ho
  go_wp2_with fail
  go_ret
  exact ⟨c, s', hc, rfl, h2, hO1.trans hO2, by have := Ho.out; simp only [Out] at this ⊢; rw [hs.out]; exact this⟩
 | none =>
  cases r with
  | nil =>
   have hs : aS [] = .error 101 := rfl
   have Ht := hid ht; clear ht
   go_enter Tryz.func157, Tryz.ntmps157
   go_wp2_with fail
   refine (aX [91, 46] (by simp) Ht.out H.out).mono ?_
   rintro en w1 ⟨rfl, h1, hO1⟩
   go_wp2_with fail
   refine (iR 101 (by omega) h1).mono ?_
   rintro en w2 ⟨rfl, h2, hO2⟩
   go_wp2_with fail
   go_ret
   exact ⟨0, _, by omega, rfl, h2, hO1.trans hO2, Out.bad hs⟩
  | cons c t =>
   have hc := c.toNat_lt
   have hs := hid (show aS (c :: t) = .ok (c.toNat, t) by simp only [aS, ht])
   have Ht := hid ht; clear ht
   go_enter Tryz.func157, Tryz.ntmps157
   go_wp2_with fail
   refine (aX [91, 46] (by simp) Ht.out H.out).mono ?_
   rintro en w1 ⟨rfl, h1, hO1⟩
   go_wp2_with fail
   refine (jm 101 (by omega) h1).mono ?_
   rintro en w2 ⟨rfl, h2, hO2⟩
   go_wp2_with fail
   go_ret
   exact ⟨_, _, hc, rfl, h2, hO1.trans hO2, Out.good hs.out rfl⟩
def yQ (x : Option Nat × CK) : Prop := match x with
 | (none, .ins n f) => ew n = some (dq f)
 | _ => True
theorem aQ {α : Type} {P : α → Prop} {x : α} {l : List α} (h : P x) (k : ∀ y ∈ l, P y) : ∀ y ∈ x :: l, P y := fun y hy => by
 rcases List.mem_cons.1 hy with rfl | hy
 · exact h
 · exact k y hy
theorem yE {α : Type} {P : α → Prop} : ∀ y ∈ ([] : List α), P y := fun y hy => by cases hy
theorem cZ {n : Bs} {f : Nat → Bool} (h : ew n = some (dq f)) : yQ (none, .ins n f) := h
theorem aM {d : Nat} {k : CK} : yQ (some d, k) := trivial
theorem yF : ∀ x ∈ bv, yQ x := by
 unfold bv
 refine aQ aM ?_
 refine aQ aM ?_
 refine aQ (cZ (by kernel_rfl)) ?_
 refine aQ aM ?_
 refine aQ (cZ (by kernel_rfl)) ?_
 refine aQ aM ?_
 refine aQ (cZ (by kernel_rfl)) ?_
 refine aQ aM ?_
 refine aQ (cZ (by kernel_rfl)) ?_
 refine aQ aM ?_
 refine aQ (cZ (by kernel_rfl)) ?_
 refine aQ aM ?_
 refine aQ aM ?_
 refine aQ aM ?_
 refine aQ aM ?_
 refine aQ (cZ (by kernel_rfl)) ?_
 refine aQ aM ?_
 refine aQ aM ?_
 refine aQ aM ?_
 refine aQ aM ?_
 refine aQ aM ?_
 refine aQ (cZ (by kernel_rfl)) ?_
 refine aQ aM ?_
 refine aQ aM ?_
 refine aQ aM ?_
 refine aQ aM ?_
 refine aQ (cZ (by kernel_rfl)) ?_
 refine aQ aM ?_
 refine aQ aM ?_
 refine aQ aM ?_
 refine aQ aM ?_
 refine aQ (cZ (by kernel_rfl)) ?_
 refine aQ aM ?_
 refine aQ aM ?_
 refine aQ aM ?_
 refine aQ aM ?_
 refine aQ (cZ (by kernel_rfl)) ?_
 refine aQ aM ?_
 refine aQ (cZ (by kernel_rfl)) ?_
 refine aQ aM ?_
 refine aQ (cZ (by kernel_rfl)) ?_
 refine aQ aM ?_
 refine aQ aM ?_
 exact yE
theorem nG {j : Nat} {n : Bs} {f : Nat → Bool} (h : bv[j]? = some (none, .ins n f)) : ew n = some (dq f) := yF _ (List.mem_of_getElem? h)
theorem lH {n : Bs} (h : ∀ (j : Nat) (f : Nat → Bool), bv[j]? ≠ some (none, .ins n f)) : ew n = none := by
 unfold ew
 rw [if_neg (fun e => h 15 _ (by rw [e]; rfl))]
 rw [if_neg (fun e => h 2 _ (by rw [e]; rfl))]
 rw [if_neg (fun e => h 4 _ (by rw [e]; rfl))]
 rw [if_neg (fun e => h 6 _ (by rw [e]; rfl))]
 rw [if_neg (fun e => h 8 _ (by rw [e]; rfl))]
 rw [if_neg (fun e => h 21 _ (by rw [e]; rfl))]
 rw [if_neg (fun e => h 26 _ (by rw [e]; rfl))]
 rw [if_neg (fun e => h 31 _ (by rw [e]; rfl))]
 rw [if_neg (fun e => h 36 _ (by rw [e]; rfl))]
 rw [if_neg (fun e => h 10 _ (by rw [e]; rfl))]
 rw [if_neg (fun e => h 38 _ (by rw [e]; rfl))]
 rw [if_neg (fun e => h 40 _ (by rw [e]; rfl))]
theorem sE : ∀ (r : Bs), Lib.cut r [58, 93] = match fX r with | some (a, b) => (a, b, true) | none => (r, [], false)
 | [] => by rfl
 | c :: t => by
  have ih := sE t
  have hge := Lib.index_ge t [58, 93]
  rw [fX]
  unfold Lib.cut at ih ⊢
  rw [Lib.index]
  cases hp : List.isPrefixOf [58, 93] (c :: t) with
  | true => simp [aq, hp]
  | false =>
   simp only [aq, hp, Bool.false_eq_true, if_false]
   cases hc : fX t with
   | none =>
    simp only [hc] at ih ⊢
    by_cases hi : Lib.index t [58, 93] = -1
    · simp [hi]
    · rw [if_pos (by omega)] at ih
      simp at ih
   | some y =>
    obtain ⟨a, b⟩ := y
    simp only [hc] at ih ⊢
    by_cases hi : Lib.index t [58, 93] = -1
    · rw [if_neg (by omega)] at ih
      simp at ih
    · rw [if_pos (by omega)] at ih
      simp only [Prod.mk.injEq, and_true] at ih
      have hb : (Lib.index t [58, 93] == -1) = false := by simpa using hi
      rw [hb]
      simp only [Bool.false_eq_true, if_false]
      rw [if_pos (by omega)]
      have e1 : (Lib.index t [58, 93] + 1).toNat = (Lib.index t [58, 93]).toNat + 1 := by omega
      rw [e1, List.take_succ_cons, ih.1]
      rw [← ih.2]
      refine congrArg (fun x => (c :: a, x, true)) ?_
      show List.drop ((Lib.index t [58, 93]).toNat + 1 + 2) (c :: t) = _
      rw [show (Lib.index t [58, 93]).toNat + 1 + 2 = ((Lib.index t [58, 93]).toNat + 2) + 1 by omega, List.drop_succ_cons]
      try rfl
theorem oT (w : World) (n : Nat) : Below w.heap.size w (w.drewN n) := by
 refine ⟨rfl, rfl, rfl, Nat.le_refl _, fun _ _ => rfl⟩
def yP (r : Bs) : Value := match fX r with
 | some (a, b) => .tuple #[.string (bs a), .string (bs b), .bool true]
 | none => .tuple #[.string (bs r), .string (bs []), .bool false]
theorem xH (w : World) (r : Bs) (hl : r.length ≤ 1024) (hM : dc w) : Calls Tryz.prog 164 #[.string (bs r), .string (bs [58, 93])] w fun en w' => en = .returned (yP r) ∧ Below w.heap.size w w' := by
 obtain ⟨m, hm⟩ := hM
 refine (Tryz.strings_Cut (bs r) (bs [58, 93]) m w (by rw [Lib.size_eq]; show r.length < _; omega) hm).mono ?_
 rintro en w' ⟨rfl, n, rfl⟩
 refine ⟨?_, oT w n⟩
 have h := sE r
 have e1 : (bs r).data.toList = r := by simp [bs]
 have e2 : (bs [58, 93]).data.toList = [58, 93] := by simp [bs]
 rw [e1, e2, h]
 unfold yP
 cases fX r <;> rfl
def ae (w : World) (b : Nat) (s : W4) : Prop := w.heap[b]? = some (.cells #[.int .u64 s.a, .int .u64 s.b, .int .u64 s.c, .int .u64 s.d] 28 (0, 0))
theorem ae.lt {w : World} {b : Nat} {s : W4} (h : ae w b s) : b < w.heap.size := (Array.getElem?_eq_some_iff.1 h).1
theorem ae.at4 {w : World} {b : Nat} {s : W4} (h : ae w b s) : At4 w b 0 s :=
 ⟨cell_of_row w b 0 _ _ (0, 0) h, cell_of_row w b 1 _ _ (0, 0) h, cell_of_row w b 2 _ _ (0, 0) h, cell_of_row w b 3 _ _ (0, 0) h⟩
theorem ae.froz {w : World} {b : Nat} {s : W4} (h : ae w b s) (o : Nat) : w.frozen? ⟨b, o, none⟩ = false := by
 unfold World.frozen?
 rw [show w.heap[(⟨b, o, none⟩ : Addr).block]? = _ from h]
 simp
theorem ae.keep {w w' : World} {b : Nat} {s : W4} (h : ae w b s) (e : w'.heap[b]? = w.heap[b]?) : ae w' b s := e.trans h
theorem ae.off {w w' : World} {p b : Nat} {s : W4} (h : ae w b s) (k : Off p w w') (hn : b ≠ p) : ae w' b s := h.keep (k.block b h.lt (by simpa using hn))
def W4.put (s : W4) (i : Nat) (x : Int) : W4 := if i = 0 then { s with a := x } else if i = 1 then { s with b := x } else if i = 2 then { s with c := x } else { s with d := x }
theorem ae.put {w : World} {b : Nat} {s : W4} (h : ae w b s) (i : Nat) (hi : i < 4) (x : Int) : ae (w.setCell ⟨b, i, none⟩ (.int .u64 x)) b (s.put i x) := by
 unfold ae at h ⊢
 simp only [World.setCell, Array.getElem?_modify, ↓reduceIte, h, Option.map_some]
 rcases (show i = 0 ∨ i = 1 ∨ i = 2 ∨ i = 3 by omega) with rfl | rfl | rfl | rfl <;> rfl
theorem ae.addW {w : World} {b : Nat} {s : W4} (h : ae w b s) (c : Nat) (hc : c < 256) : ae (addW w b 0 s c) b (s.add c) := by
 unfold Go.Proofs.YthlakbjnmbddaaaGreatDoor.addW
 have h1 := h.put (c / 64) (by omega) (orI (s.word (c / 64)) (2 ^ (c % 64)))
 rw [Nat.zero_add]
 have e : s.put (c / 64) (orI (s.word (c / 64)) (2 ^ (c % 64))) = s.add c := by
  rcases (show c < 64 ∨ (64 ≤ c ∧ c < 128) ∨ (128 ≤ c ∧ c < 192) ∨ (192 ≤ c ∧ c < 256) by omega) with h | h | h | h
  · rw [show c / 64 = 0 by omega, show c % 64 = c by omega]; simp [W4.put, W4.word, W4.add, h]
  · rw [show c / 64 = 1 by omega, show c % 64 = c - 64 by omega]; simp [W4.put, W4.word, W4.add, show ¬ c < 64 by omega, h.2]
  · rw [show c / 64 = 2 by omega, show c % 64 = c - 128 by omega]; simp [W4.put, W4.word, W4.add, show ¬ c < 64 by omega, show ¬ c < 128 by omega, h.2]
  · rw [show c / 64 = 3 by omega, show c % 64 = c - 192 by omega]; simp [W4.put, W4.word, W4.add, show ¬ c < 64 by omega, show ¬ c < 128 by omega, show ¬ c < 192 by omega]
 rw [e] at h1
 exact h1
structure Offs (p b : Nat) (w w' : World) : Prop where
 os : w'.os = w.os
 tape : w'.tape = w.tape
 output : w'.output = w.output
 size : w.heap.size ≤ w'.heap.size
 block : ∀ k, k < w.heap.size → k ≠ p → k ≠ b → w'.heap[k]? = w.heap[k]?
theorem Offs.of {p b : Nat} {w w' : World} (h : Off p w w') : Offs p b w w' := ⟨h.os, h.tape, h.output, h.size, fun k hk h1 _ => h.block k hk (by simpa using h1)⟩
theorem Offs.trans {p b : Nat} {w w1 w2 : World} (h : Offs p b w w1) (k : Offs p b w1 w2) : Offs p b w w2 :=
 ⟨k.os.trans h.os, k.tape.trans h.tape, k.output.trans h.output, Nat.le_trans h.size k.size, fun i hi h1 h2 => (k.block i (Nat.lt_of_lt_of_le hi h.size) h1 h2).trans (h.block i hi h1 h2)⟩
theorem Offs.put {p b : Nat} {w w' : World} (h : Offs p b w w') (o : Nat) (v : Value) : Offs p b w (w'.setCell ⟨b, o, none⟩ v) :=
 ⟨h.os, h.tape, h.output, by simpa using h.size, fun k hk h1 h2 => (Below.heap_setCell _ _ _ _ h2).trans (h.block k hk h1 h2)⟩
theorem Offs.off {p b : Nat} {w w1 w' : World} (h : Off p w w1) (k : Offs p b w1 w') (hb : w.heap.size ≤ b) : Off p w w' :=
 ⟨k.os.trans h.os, k.tape.trans h.tape, k.output.trans h.output, Nat.le_trans h.size k.size, fun i hi h1 => (k.block i (Nat.lt_of_lt_of_le hi h.size) (by simpa using h1) (by omega)).trans (h.block i hi h1)⟩
theorem RS.put {w : World} {p b : Nat} {op : Int} {s : Rs} (h : RS w p op s) (hb : p < b) (o : Nat) (v : Value) : RS (w.setCell ⟨b, o, none⟩ v) p op s :=
 h.kept (by simp) (Below.heap_setCell _ _ _ _ (by show p ≠ b; omega)) (Below.heap_setCell _ _ _ _ (by show 0 ≠ b; omega))
def zx (p b : Nat) (op : Int) (f : W4 → Bs → Except Int (W4 × Bs)) (s : W4) (r : Bs) (w : World) (en : Ending) (w' : World) : Prop :=
 ∃ (S : W4) (s' : Rs), en = .returned (.tuple #[]) ∧ RS w' p op s' ∧ ae w' b S ∧ Offs p b w w' ∧ Out (f s) (.ok r) (fun x => S = x) s'
theorem vc {w : World} {v : Value} (h : qv w v) (n : Bs) : ∃ (is : Value) (ok : Bool), (Instr.lookup 170 v (.string (bs n)) true).run Tryz.prog w = .ok (.tuple #[is, .bool ok]) w ∧
 ((ok = false ∧ ew n = none) ∨ (ok = true ∧ ∃ f, ew n = some (dq f) ∧ fY w is f)) := by
 obtain ⟨r, es, clock, rfl, hr, n1, n2⟩ := h
 have hm : Tryz.prog.underlying 170 = some (.map 9 126) := by kernel_rfl
 have hd : Tryz.prog.underlying 9 = some .string := by kernel_rfl
 have hk : MapKept.IsKey .string (.string (bs n)) := trivial
 have hz : (zeroValue 126).run Tryz.prog w = .ok .nilFunc w := by simp [go_sem]
 have hks : ∀ x ∈ es.toList, MapKept.IsKey .string x.key := fun x hx => by
  obtain ⟨j, n', f', _, b, _⟩ := n1 x hx
  rw [b]; trivial
 rcases MapKept.findNow_spec hk es.toList 0 hks with ⟨h1, h2⟩ | ⟨j, e, h1, h2, h3⟩
 · refine ⟨.nilFunc, false, ?_, .inl ⟨rfl, lH fun j f hj => ?_⟩⟩
   · simp [Instr.lookup, run_underlying hm, MapKept.run_getObj_map hr, MapKept.run_checkKey hd hk, MapKept.run_findKey hd h1, hz, Result.andThen]
   · obtain ⟨x, hx, hxk⟩ := n2 j n f hj
     exact h2 x hx hxk
 · obtain ⟨j', n', f', c1, c2, c3⟩ := n1 e (List.mem_of_getElem? h2)
   rw [c2] at h3
   have := wL h3
   subst this
   refine ⟨e.val, true, ?_, .inr ⟨rfl, f', nG c1, c3⟩⟩
   simp [Instr.lookup, run_underlying hm, MapKept.run_getObj_map hr, MapKept.run_checkKey hd hk, MapKept.run_findKey hd h1, Result.andThen]
def W4.orTo (s x : W4) (i : Nat) : W4 := ⟨if 0 < i then orI s.a x.a else s.a, if 1 < i then orI s.b x.b else s.b, if 2 < i then orI s.c x.c else s.c, if 3 < i then orI s.d x.d else s.d⟩
theorem el (a b c d : Int) (w : World) :
 (Instr.index 28 (.agg #[.int .u64 a, .int .u64 b, .int .u64 c, .int .u64 d]) (.int .i64 0)).run Tryz.prog w = .ok (.int .u64 a) w ∧ (Instr.index 28 (.agg #[.int .u64 a, .int .u64 b, .int .u64 c, .int .u64 d]) (.int .i64 1)).run Tryz.prog w = .ok (.int .u64 b) w ∧
 (Instr.index 28 (.agg #[.int .u64 a, .int .u64 b, .int .u64 c, .int .u64 d]) (.int .i64 2)).run Tryz.prog w = .ok (.int .u64 c) w ∧ (Instr.index 28 (.agg #[.int .u64 a, .int .u64 b, .int .u64 c, .int .u64 d]) (.int .i64 3)).run Tryz.prog w = .ok (.int .u64 d) w := by
 refine ⟨?_, ?_, ?_, ?_⟩ <;> simp [Instr.index, part, go_sem]
theorem cW (s x : W4) (i : Nat) (hi : i < 4) (u : Int) (hu : u = orI (s.word i) (x.word i)) : (s.orTo x i).put i u = s.orTo x (i + 1) := by
 subst hu
 rcases (show i = 0 ∨ i = 1 ∨ i = 2 ∨ i = 3 by omega) with rfl | rfl | rfl | rfl <;> simp [W4.orTo, W4.put, W4.word]
theorem ae.drew {w : World} {b : Nat} {s : W4} (h : ae w b s) : ae w.drew b s := h
theorem RS.drew {w : World} {p : Nat} {op : Int} {s : Rs} (h : RS w p op s) : RS w.drew p op s := h.kept (Nat.le_refl _) rfl rfl
theorem Offs.drew {p b : Nat} {w w' : World} (h : Offs p b w w') : Offs p b w w'.drew := ⟨h.os, h.tape, h.output, h.size, h.block⟩
theorem mh (s x : W4) : s.orTo x 4 = s.or x := by simp [W4.orTo, W4.or]
theorem rP (s x : W4) : s.orTo x 0 = s := by simp [W4.orTo]
theorem uu (w : World) (p b : Nat) (op : Int) (r : Bs) (s : W4) (h : RS w p op (.ok r)) (hl : r.length ≤ 1024) (hb : p < b) (hS : ae w b s) :
 Calls Tryz.prog 155 #[.pointer (some ⟨p, 0, none⟩), .pointer (some ⟨b, 0, none⟩)] w fun en w' => zx p b op cr s r w en w' := by
 have H := hid h
 have c0 := h.rdr.c0
 simp only [Rs.rest] at c0
 have hM := h.rdr.mx
 have HS := hid hS
 have HM := hid hM
 clear h hS hM
 go_enter Tryz.func155, Tryz.ntmps155
 go_wp2_with fail
 refine (xH w r hl HM.out).mono ?_
 rintro en w1 ⟨rfl, hb1⟩
 have h1 := H.out.later hb1
 have hO1 : Off p w w1 := Off.of_below hb1
 have hS1 := HS.out.off hO1 (by omega)
 clear c0
 unfold yP
 cases hc : fX r with
 | none =>
  have Hc := hid (show cr s r = .error 101 by simp only [cr, hc])
  clear hc
  have H1 := hid h1; have HO1 := hid hO1; have HS1 := hid hS1
  clear h1 hO1 hS1 hb1
  simp only
  go_wp2_with fail
  refine (dd 101 (by omega) H1.out).mono ?_
  rintro en w2 ⟨rfl, h2, hO2⟩
  go_wp2_with fail
  go_end0
  exact ⟨s, _, rfl, h2, HS1.out.off hO2 (by omega), .of (HO1.out.trans hO2), Out.bad Hc.out⟩
 | some y =>
  obtain ⟨nm, r1⟩ := y
  have Hc := hid (show cr s r = match ew nm with | none => .error 103 | some x => .ok (s.or x, r1) by simp only [cr, hc]; rfl)
  clear hc
  have H1 := hid h1; have HO1 := hid hO1; have HS1 := hid hS1
  clear h1 hO1 hS1 hb1
  simp only
  go_wp2_with fail
  refine (oV w1).mono ?_
  rintro en w2 ⟨v, rfl, hv, hb2⟩
  obtain ⟨is, ok, hlook, hcase⟩ := vc hv nm
  have h2 := H1.out.later hb2
  have hO2 : Off p w w2 := HO1.out.trans (Off.of_below hb2)
  have hS2 := HS1.out.off (Off.of_below (p := p) hb2) (by omega)
  have H2 := hid h2; have HO2 := hid hO2; have HS2 := hid hS2
  clear h2 hO2 hS2 hb2 hv H1 HO1 HS1
  rcases hcase with ⟨rfl, hw⟩ | ⟨rfl, f, hw, hf⟩
  · have Hc := hid (show cr s r = .error 103 by rw [Hc.out, hw])
    clear hw
    go_wp2_with fail
    refine (dd 103 (by omega) H2.out).mono ?_
    rintro en w3 ⟨rfl, h3, hO3⟩
    go_wp2_with fail
    go_end0
    exact ⟨s, _, rfl, h3, HS2.out.off hO3 (by omega), .of (HO2.out.trans hO3), Out.bad Hc.out⟩
  · have Hc := hid (show cr s r = .ok (s.or (dq f), r1) by rw [Hc.out, hw])
    have HF := hid hf
    clear hw hf
    go_wp2_with fail
    refine (mU w2 is f HF.out).mono ?_
    rintro en w3 ⟨rfl, hb3⟩
    have h3 := H2.out.later hb3
    have hO3 : Off p w w3 := HO2.out.trans (Off.of_below hb3)
    have hS3 := HS2.out.off (Off.of_below (p := p) hb3) (by omega)
    have H3 := hid h3; have HO3 := hid hO3; have HS3 := hid hS3
    clear h3 hO3 hS3 hb3 H2 HO2 HS2 HF hlook
    generalize dq f = x at *
    obtain ⟨xa, xb, xc, xd⟩ := x
    simp only [W4.V]
    go_wp2_with fail
    go_loopg [35] 4 (fun k i wr => ∃ j : Nat, i = .int .i64 j ∧ j + k = 4 ∧ RS wr p op (.ok r) ∧ ae wr b (s.orTo ⟨xa, xb, xc, xd⟩ j) ∧ Offs p b w wr)
    case atStart => exact ⟨0, rfl, rfl, H3.out, by rw [rP]; exact HS3.out, .of HO3.out⟩
    case round =>
     obtain ⟨j, rfl, hj, hR, hS, hO⟩ := hrel
     have HR := hid hR; have HSr := hid hS; have HOr := hid hO
     have z := fun o => hS.froz o
     have z0 := z 0; have z1 := z 1; have z2 := z 2; have z3 := z 3
     obtain ⟨f0, f1, f2, f3⟩ := hS.at4
     simp only [Nat.zero_add] at f1 f2 f3
     clear hR hS hO z H3 HO3 HS3
     have g0 := fun w => (el xa xb xc xd w).1
     have g1 := fun w => (el xa xb xc xd w).2.1
     have g2 := fun w => (el xa xb xc xd w).2.2.1
     have g3 := fun w => (el xa xb xc xd w).2.2.2
     rcases (show j = 0 ∨ j = 1 ∨ j = 2 ∨ j = 3 ∨ j = 4 by omega) with rfl | rfl | rfl | rfl | rfl
     · simp [W4.orTo] at f0
       go_wp2_with fail
       go_region
       all_goals
        go_wp2_with fail
        go_roundg (gk - 1)
        case measure => omega
        case rel => exact ⟨1, by go_num, by omega, (HR.out.put hb 0 _).drew, ae.drew (by have h1 := HSr.out.put 0 (by omega) (bits .or .u64 s.a xa); rw [cW s ⟨xa, xb, xc, xd⟩ 0 (by omega) (bits .or .u64 s.a xa) rfl] at h1; exact h1), (HOr.out.put 0 _).drew⟩
     · simp [W4.orTo] at f1
       go_wp2_with fail
       go_region
       all_goals
        go_wp2_with fail
        go_roundg (gk - 1)
        case measure => omega
        case rel => exact ⟨2, by go_num, by omega, (HR.out.put hb 1 _).drew, ae.drew (by have h1 := HSr.out.put 1 (by omega) (bits .or .u64 s.b xb); rw [cW s ⟨xa, xb, xc, xd⟩ 1 (by omega) (bits .or .u64 s.b xb) rfl] at h1; exact h1), (HOr.out.put 1 _).drew⟩
     · simp [W4.orTo] at f2
       go_wp2_with fail
       go_region
       all_goals
        go_wp2_with fail
        go_roundg (gk - 1)
        case measure => omega
        case rel => exact ⟨3, by go_num, by omega, (HR.out.put hb 2 _).drew, ae.drew (by have h1 := HSr.out.put 2 (by omega) (bits .or .u64 s.c xc); rw [cW s ⟨xa, xb, xc, xd⟩ 2 (by omega) (bits .or .u64 s.c xc) rfl] at h1; exact h1), (HOr.out.put 2 _).drew⟩
     · simp [W4.orTo] at f3
       go_wp2_with fail
       go_region
       all_goals
        go_wp2_with fail
        go_roundg (gk - 1)
        case measure => omega
        case rel => exact ⟨4, by go_num, by omega, (HR.out.put hb 3 _).drew, ae.drew (by have h1 := HSr.out.put 3 (by omega) (bits .or .u64 s.d xd); rw [cW s ⟨xa, xb, xc, xd⟩ 3 (by omega) (bits .or .u64 s.d xd) rfl] at h1; exact h1), (HOr.out.put 3 _).drew⟩
     · have c0 := HR.out.rdr.c0
       have zp := HR.out.rdr.z 0
       simp only [Rs.rest] at c0
       clear f0 f1 f2 f3 g0 g1 g2 g3 z0 z1 z2 z3
       go_wp2_with fail
       go_end0
       refine ⟨s.or ⟨xa, xb, xc, xd⟩, .ok r1, rfl, ⟨HR.out.rdr.set0 r1, fun e he => by cases he⟩, ?_, ?_, Out.good Hc.out rfl⟩
       · rw [← mh]
         exact HSr.out.keep (Below.heap_setCell _ _ _ _ (by show b ≠ p; omega))
       · exact HOr.out.trans (Offs.of ((Off.refl p _).set 0 _))
def od (c d : Nat) : Nat := if c ≤ d then d + 1 else c
theorem nA (c : Nat) : od c c = c + 1 := by simp [od]
theorem ez (s : W4) (j lim : Nat) (h : j < lim) : (List.range' j (lim - j)).foldl W4.add s = (List.range' (j + 1) (lim - (j + 1))).foldl W4.add (s.add j) := by
 rw [show lim - j = (lim - (j + 1)) + 1 by omega, List.range'_succ, List.foldl_cons]
theorem pz (s : W4) (c : Nat) : s.span c 1 = s.add c := rfl
theorem Offs.addW {p b : Nat} {w w' : World} (h : Offs p b w w') (s : W4) (c : Nat) : Offs p b w (addW w' b 0 s c).drew := (h.put _ _).drew
theorem gL {q r : Bs} (h : aq q r = none) : q.isPrefixOf r = false := by
 unfold aq at h
 cases hp : q.isPrefixOf r with
 | false => rfl
 | true => rw [hp] at h; simp at h
theorem gK {q r r' : Bs} (h : aq q r = some r') : q.isPrefixOf r = true := by
 unfold aq at h
 cases hp : q.isPrefixOf r with
 | true => rfl
 | false => rw [hp] at h; simp at h
theorem qb (w : World) (p b : Nat) (op : Int) (r : Bs) (s : W4) (h : RS w p op (.ok r)) (hl : r.length ≤ 1024) (hb : p < b) (hS : ae w b s) :
 Calls Tryz.prog 146 #[.pointer (some ⟨p, 0, none⟩), .pointer (some ⟨b, 0, none⟩)] w fun en w' => zx p b op bD s r w en w' := by
 have H := hid h
 have HS := hid hS
 clear h hS
 cases ht : aq [91, 58] r with
 | some r1 =>
  have Hi := hid (show bD s r = cr s r1 by simp only [bD, ht])
  have hl1 : r1.length ≤ 1024 := by
   have : r1 <:+ r := bo ht
   have := this.length_le
   omega
  have Ht := hid ht; clear ht
  go_enter Tryz.func146, Tryz.ntmps146
  go_wp2_with fail
  refine (cg [91, 58] (by simp) Ht.out H.out).mono ?_
  rintro en w1 ⟨rfl, h1, hO1⟩
  have HS1 := hid (HS.out.off hO1 (by omega))
  have H1 := hid h1; have HO1 := hid hO1
  clear h1 hO1
  go_wp2_with fail
  refine (uu w1 p b op r1 s H1.out hl1 hb HS1.out).mono ?_
  rintro en w2 ⟨S, s', rfl, h2, hS2, hO2, ho⟩
  have Ho := hid ho; have H2 := hid h2; have HS2 := hid hS2; have HO2 := hid hO2
  clear ho h2 hS2 hO2
  go_wp2_with fail
  go_end0
  exact ⟨S, s', rfl, H2.out, HS2.out, (Offs.of HO1.out).trans HO2.out, by have := Ho.out; simp only [Out] at this ⊢; rw [Hi.out]; exact this⟩
 | none =>
 cases ht2 : aq [91, 61] r with
 | some r1 =>
  have Hi := hid (show bD s r = match be 61 r1 with | .error e => .error e | .ok (c, r2) => .ok (s.add c, r2) by simp only [bD, ht, ht2]; rfl)
  have Ht := hid ht; have Ht2 := hid ht2; clear ht ht2
  go_enter Tryz.func146, Tryz.ntmps146
  go_wp2_with fail
  refine (aX [91, 58] (by simp) Ht.out H.out).mono ?_
  rintro en w1 ⟨rfl, h1, hO1⟩
  go_wp2_with fail
  refine (cg [91, 61] (by simp) Ht2.out h1).mono ?_
  rintro en w2 ⟨rfl, h2, hO2⟩
  have HO2 := hid (hO1.trans hO2)
  clear hO1 h1
  go_wp2_with fail
  refine (kK w2 p op r1 61 h2).mono ?_
  rintro en w3 ⟨c, s', hc, rfl, h3, hO3, ho⟩
  have HO3 := hid (HO2.out.trans hO3)
  have HS3 := hid (HS.out.off HO3.out (by omega))
  have Ho := hid ho; have H3 := hid h3
  clear ho h3 hO3 h2 hO2
  go_wp2_with fail
  refine (du w3 b 0 s c hc HS3.out.at4 HS3.out.froz).mono ?_
  rintro en w4 ⟨rfl, rfl⟩
  go_wp2_with fail
  go_end0
  refine ⟨s.add c, s', rfl, H3.out.putW hb 0 s c, (HS3.out.addW c hc).drew, (Offs.of HO3.out).addW s c, ?_⟩
  have hho := Ho.out
  simp only [Out, Hi.out] at hho ⊢
  cases hsg : be 61 r1 with
  | error e => simp only [hsg] at hho ⊢; exact hho
  | ok y => obtain ⟨c', r2⟩ := y; simp only [hsg] at hho ⊢; obtain ⟨rfl, h'⟩ := hho; exact ⟨rfl, h'⟩
 | none =>
  have Hi := hid (show bD s r = match aS r with | .error e => .error e | .ok (c, r1) => co s c r1 by simp only [bD, ht, ht2]; rfl)
  have Ht := hid ht; have Ht2 := hid ht2; clear ht ht2
  go_enter Tryz.func146, Tryz.ntmps146
  go_wp2_with fail
  refine (aX [91, 58] (by simp) Ht.out H.out).mono ?_
  rintro en w1 ⟨rfl, h1, hO1⟩
  go_wp2_with fail
  refine (aX [91, 61] (by simp) Ht2.out h1).mono ?_
  rintro en w2 ⟨rfl, h2, hO2⟩
  have HO2 := hid (hO1.trans hO2)
  clear hO1 h1
  go_wp2_with fail
  refine (lh w2 p op r h2).mono ?_
  rintro en w3 ⟨c, s1, hc, rfl, h3, hO3, ho⟩
  have HO3 := hid (HO2.out.trans hO3)
  have HS3 := hid (HS.out.off HO3.out (by omega))
  have Ho := hid ho; have H3 := hid h3
  clear ho h3 hO3 h2 hO2 HO2 Ht Ht2
  have c0 := H3.out.rdr.c0
  cases s1 with
  | error e =>
   have Hi := hid (show bD s r = .error e by
    have hho := Ho.out
    simp only [Out] at hho
    rw [Hi.out]
    cases hm : aS r with
    | error e' => simp only [hm] at hho ⊢; cases hho; rfl
    | ok y => obtain ⟨c', r2⟩ := y; simp only [hm] at hho; cases hho.2)
   clear Ho
   simp only [Rs.rest] at c0
   go_wp2_with fail
   refine (cK [] [45] w3).mono ?_
   rintro en w4 ⟨rfl, rfl⟩
   go_wp2_with fail
   obtain ⟨lim, hlim⟩ : ∃ lim, lim = od c c := ⟨_, rfl⟩
   have hlim2 : c ≤ lim ∧ lim ≤ 256 ∧ ∀ j, c ≤ j → j ≤ lim → (j < lim ↔ j ≤ c) := by
    rw [hlim]; unfold od
    split <;> exact ⟨by omega, by omega, fun j h1 h2 => by omega⟩
   obtain ⟨hm1, hm2, hm3⟩ := hlim2
   have Hlim := hid hlim; clear hlim
   go_loopg [6] (lim - c) (fun k i wr => ∃ (j : Nat) (S : W4), i = .int .i64 j ∧ j + k = lim ∧ c ≤ j ∧ RS wr p op (.error e) ∧ ae wr b S ∧ Offs p b w wr ∧ (List.range' j (lim - j)).foldl W4.add S = s.span c (lim - c))
   case atStart => exact ⟨c, s, by go_num, by omega, Nat.le_refl _, H3.out, HS3.out, .of HO3.out, rfl⟩
   case round =>
    obtain ⟨j, S, rfl, hj, hcj, hR, hS, hO, hsp⟩ := hrel
    have HRr := hid hR; have HSr := hid hS; have HOr := hid hO; have Hsp := hid hsp
    clear hR hS hO hsp
    have hjd := hm3 j hcj (by omega)
    by_cases hlt : j < lim
    · have hle : j ≤ c := hjd.1 hlt
      have hmod : IntKind.u8.wrap (j : Int) = (j : Int) := by simp [IntKind.wrap, IntKind.signed, IntKind.bits]; omega
      clear hjd hm3
      go_wp2_with fail
      refine (du wr b 0 S j (by omega) HSr.out.at4 HSr.out.froz).mono ?_
      rintro en wx ⟨rfl, rfl⟩
      go_wp2_with fail
      go_roundg (gk - 1)
      case measure => omega
      case rel => exact ⟨j + 1, S.add j, by go_num, by omega, by omega, HRr.out.putW hb 0 S j, (HSr.out.addW j (by omega)).drew, HOr.out.addW S j, (ez S j lim hlt).symm.trans Hsp.out⟩
    · have hle : ¬ j ≤ c := fun h => hlt (hjd.2 h)
      have hS : S = s.span c (lim - c) := by rw [← Hsp.out, show lim - j = 0 by omega]; rfl
      clear hjd hm3
      go_wp2_with fail
      go_end0
      subst hS
      exact ⟨_, _, rfl, HRr.out, HSr.out, HOr.out, Out.bad Hi.out⟩
  | ok r1 =>
   have Hi := hid (show bD s r = co s c r1 by
    have hho := Ho.out
    simp only [Out] at hho
    rw [Hi.out]
    cases hm : aS r with
    | error e' => simp only [hm] at hho; cases hho
    | ok y => obtain ⟨c', r2⟩ := y; simp only [hm] at hho ⊢; obtain ⟨rfl, h'⟩ := hho; cases h'; rfl)
   have hl1 : r1.length ≤ 1024 := by
    have hho := Ho.out
    simp only [Out] at hho
    cases hm : aS r with
    | error e' => simp only [hm] at hho; cases hho
    | ok y =>
     obtain ⟨c', r2⟩ := y
     simp only [hm] at hho
     obtain ⟨_, h'⟩ := hho; cases h'
     have := (io hm).length_le
     omega
   clear Ho
   simp only [Rs.rest] at c0
   cases ht : aq [45] r1 with
   | none =>
    have Hi := hid (show bD s r = .ok (s.add c, r1) by rw [Hi.out]; simp only [co, ht])
    have hp := gL ht
    clear ht
    go_wp2_with fail
    refine (cK r1 [45] w3).mono ?_
    rintro en w4 ⟨rfl, rfl⟩
    rw [hp]
    go_wp2_with fail
    obtain ⟨lim, hlim⟩ : ∃ lim, lim = od c c := ⟨_, rfl⟩
    have hlim2 : c ≤ lim ∧ lim ≤ 256 ∧ ∀ j, c ≤ j → j ≤ lim → (j < lim ↔ j ≤ c) := by
     rw [hlim]; unfold od
     split <;> exact ⟨by omega, by omega, fun j h1 h2 => by omega⟩
    obtain ⟨hm1, hm2, hm3⟩ := hlim2
    have Hlim := hid hlim; clear hlim
    go_loopg [6] (lim - c) (fun k i wr => ∃ (j : Nat) (S : W4), i = .int .i64 j ∧ j + k = lim ∧ c ≤ j ∧ RS wr p op (.ok r1) ∧ ae wr b S ∧ Offs p b w wr ∧ (List.range' j (lim - j)).foldl W4.add S = s.span c (lim - c))
    case atStart => exact ⟨c, s, by go_num, by omega, Nat.le_refl _, H3.out, HS3.out, .of HO3.out, rfl⟩
    case round =>
     obtain ⟨j, S, rfl, hj, hcj, hR, hS, hO, hsp⟩ := hrel
     have HRr := hid hR; have HSr := hid hS; have HOr := hid hO; have Hsp := hid hsp
     clear hR hS hO hsp
     have hjd := hm3 j hcj (by omega)
     by_cases hlt : j < lim
     · have hle : j ≤ c := hjd.1 hlt
       have hmod : IntKind.u8.wrap (j : Int) = (j : Int) := by simp [IntKind.wrap, IntKind.signed, IntKind.bits]; omega
       clear hjd hm3
       go_wp2_with fail
       refine (du wr b 0 S j (by omega) HSr.out.at4 HSr.out.froz).mono ?_
       rintro en wx ⟨rfl, rfl⟩
       go_wp2_with fail
       go_roundg (gk - 1)
       case measure => omega
       case rel => exact ⟨j + 1, S.add j, by go_num, by omega, by omega, HRr.out.putW hb 0 S j, (HSr.out.addW j (by omega)).drew, HOr.out.addW S j, (ez S j lim hlt).symm.trans Hsp.out⟩
     · have hle : ¬ j ≤ c := fun h => hlt (hjd.2 h)
       have hS : S = s.span c (lim - c) := by rw [← Hsp.out, show lim - j = 0 by omega]; rfl
       clear hjd hm3
       go_wp2_with fail
       go_end0
       subst hS
       exact ⟨_, _, rfl, HRr.out, HSr.out, HOr.out, Out.good Hi.out (by rw [Hlim.out, nA, show c + 1 - c = 1 by omega, pz])⟩
   | some r2 =>
    have hp := gK ht
    cases ht2 : aq [45, 93] r1 with
    | some r3 =>
     have Hi := hid (show bD s r = .ok (s.add c, r1) by rw [Hi.out]; simp only [co, ht, ht2])
     have hp2 := gK ht2
     clear ht ht2
     go_wp2_with fail
     refine (cK r1 [45] w3).mono ?_
     rintro en w4 ⟨rfl, rfl⟩
     rw [hp]
     go_wp2_with fail
     refine (cK r1 [45, 93] w4).mono ?_
     rintro en w5 ⟨rfl, rfl⟩
     rw [hp2]
     go_wp2_with fail
     obtain ⟨lim, hlim⟩ : ∃ lim, lim = od c c := ⟨_, rfl⟩
     have hlim2 : c ≤ lim ∧ lim ≤ 256 ∧ ∀ j, c ≤ j → j ≤ lim → (j < lim ↔ j ≤ c) := by
      rw [hlim]; unfold od
      split <;> exact ⟨by omega, by omega, fun j h1 h2 => by omega⟩
     obtain ⟨hm1, hm2, hm3⟩ := hlim2
     have Hlim := hid hlim; clear hlim
     go_loopg [6] (lim - c) (fun k i wr => ∃ (j : Nat) (S : W4), i = .int .i64 j ∧ j + k = lim ∧ c ≤ j ∧ RS wr p op (.ok r1) ∧ ae wr b S ∧ Offs p b w wr ∧ (List.range' j (lim - j)).foldl W4.add S = s.span c (lim - c))
     case atStart => exact ⟨c, s, by go_num, by omega, Nat.le_refl _, H3.out, HS3.out, .of HO3.out, rfl⟩
     case round =>
      obtain ⟨j, S, rfl, hj, hcj, hR, hS, hO, hsp⟩ := hrel
      have HRr := hid hR; have HSr := hid hS; have HOr := hid hO; have Hsp := hid hsp
      clear hR hS hO hsp
      have hjd := hm3 j hcj (by omega)
      by_cases hlt : j < lim
      · have hle : j ≤ c := hjd.1 hlt
        have hmod : IntKind.u8.wrap (j : Int) = (j : Int) := by simp [IntKind.wrap, IntKind.signed, IntKind.bits]; omega
        clear hjd hm3
        go_wp2_with fail
        refine (du wr b 0 S j (by omega) HSr.out.at4 HSr.out.froz).mono ?_
        rintro en wx ⟨rfl, rfl⟩
        go_wp2_with fail
        go_roundg (gk - 1)
        case measure => omega
        case rel => exact ⟨j + 1, S.add j, by go_num, by omega, by omega, HRr.out.putW hb 0 S j, (HSr.out.addW j (by omega)).drew, HOr.out.addW S j, (ez S j lim hlt).symm.trans Hsp.out⟩
      · have hle : ¬ j ≤ c := fun h => hlt (hjd.2 h)
        have hS : S = s.span c (lim - c) := by rw [← Hsp.out, show lim - j = 0 by omega]; rfl
        clear hjd hm3
        go_wp2_with fail
        go_end0
        subst hS
        exact ⟨_, _, rfl, HRr.out, HSr.out, HOr.out, Out.good Hi.out (by rw [Hlim.out, nA, show c + 1 - c = 1 by omega, pz])⟩
    | none =>
     have hp2 := gL ht2
     have Ht := hid ht
     have hl2 : r2.length ≤ 1024 := by have := (bo ht).length_le; omega
     go_wp2_with fail
     refine (cK r1 [45] w3).mono ?_
     rintro en w4 ⟨rfl, rfl⟩
     rw [hp]
     go_wp2_with fail
     refine (cK r1 [45, 93] w4).mono ?_
     rintro en w5 ⟨rfl, rfl⟩
     rw [hp2]
     go_wp2_with fail
     refine (cg [45] (by simp) Ht.out H3.out).mono ?_
     rintro en w6 ⟨rfl, h6, hO6⟩
     have HO6 := hid (HO3.out.trans hO6)
     have HS6 := hid (HS.out.off HO6.out (by omega))
     have H6 := hid h6
     clear hO6 h6 c0
     have c0 := H6.out.rdr.c0
     simp only [Rs.rest] at c0
     cases ha : aq [91, 58] r2 with
     | some y =>
      have Hi := hid (show bD s r = .error 101 by rw [Hi.out]; simp [co, ht, ht2, ha])
      have hp3 := gK ha
      clear ha ht ht2
      go_wp2_with fail
      refine (cK r2 [91, 58] w6).mono ?_
      rintro en w7 ⟨rfl, rfl⟩
      rw [hp3]
      go_wp2_with fail
      refine (dd 101 (by omega) H6.out).mono ?_
      rintro en w8 ⟨rfl, h8, hO8⟩
      go_wp2_with fail
      go_end0
      exact ⟨s, _, rfl, h8, HS6.out.off hO8 (by omega), .of (HO6.out.trans hO8), Out.bad Hi.out⟩
     | none =>
     have hp3 := gL ha
     cases hb2 : aq [91, 61] r2 with
     | some y =>
      have Hi := hid (show bD s r = .error 101 by rw [Hi.out]; simp [co, ht, ht2, ha, hb2])
      have hp4 := gK hb2
      clear ha ht ht2 hb2
      go_wp2_with fail
      refine (cK r2 [91, 58] w6).mono ?_
      rintro en w7 ⟨rfl, rfl⟩
      rw [hp3]
      go_wp2_with fail
      refine (cK r2 [91, 61] w7).mono ?_
      rintro en w8 ⟨rfl, rfl⟩
      rw [hp4]
      go_wp2_with fail
      refine (dd 101 (by omega) H6.out).mono ?_
      rintro en w9 ⟨rfl, h8, hO8⟩
      go_wp2_with fail
      go_end0
      exact ⟨s, _, rfl, h8, HS6.out.off hO8 (by omega), .of (HO6.out.trans hO8), Out.bad Hi.out⟩
     | none =>
      have Hi := hid (show bD s r = match aS r2 with | .error e => .error e | .ok (to_, r2) => if to_ < c then .error 102 else .ok (s.span c (to_ + 1 - c), r2) by rw [Hi.out]; simp [co, ht, ht2, ha, hb2]; rfl)
      have hp4 := gL hb2
      clear ha ht ht2 hb2
      go_wp2_with fail
      refine (cK r2 [91, 58] w6).mono ?_
      rintro en w7 ⟨rfl, rfl⟩
      rw [hp3]
      go_wp2_with fail
      refine (cK r2 [91, 61] w7).mono ?_
      rintro en w8 ⟨rfl, rfl⟩
      rw [hp4]
      go_wp2_with fail
      refine (lh w8 p op r2 H6.out).mono ?_
      rintro en w9 ⟨d, s2, hd, rfl, h9, hO9, ho⟩
      have HO9 := hid (HO6.out.trans hO9)
      have HS9 := hid (HS.out.off HO9.out (by omega))
      have Ho := hid ho; have H9 := hid h9
      clear ho h9 hO9 c0
      have c2 := H9.out.rdr.c2
      cases s2 with
      | error e =>
       have Hi := hid (show bD s r = .error e by
        have hho := Ho.out
        simp only [Out] at hho
        rw [Hi.out]
        cases hm : aS r2 with
        | error e' => simp only [hm] at hho ⊢; cases hho; rfl
        | ok y => obtain ⟨c', r2⟩ := y; simp only [hm] at hho; cases hho.2)
       have he0 := H9.out.ne e rfl
       clear Ho
       simp only [Rs.no] at c2
       go_wp2_with fail
       obtain ⟨lim, hlim⟩ : ∃ lim, lim = od c d := ⟨_, rfl⟩
       have hlim2 : c ≤ lim ∧ lim ≤ 256 ∧ ∀ j, c ≤ j → j ≤ lim → (j < lim ↔ j ≤ d) := by
        rw [hlim]; unfold od
        split <;> exact ⟨by omega, by omega, fun j h1 h2 => by omega⟩
       obtain ⟨hm1, hm2, hm3⟩ := hlim2
       have Hlim := hid hlim; clear hlim
       go_loopg [6] (lim - c) (fun k i wr => ∃ (j : Nat) (S : W4), i = .int .i64 j ∧ j + k = lim ∧ c ≤ j ∧ RS wr p op (.error e) ∧ ae wr b S ∧ Offs p b w wr ∧ (List.range' j (lim - j)).foldl W4.add S = s.span c (lim - c))
       case atStart => exact ⟨c, s, by go_num, by omega, Nat.le_refl _, H9.out, HS9.out, .of HO9.out, rfl⟩
       case round =>
        obtain ⟨j, S, rfl, hj, hcj, hR, hS, hO, hsp⟩ := hrel
        have HRr := hid hR; have HSr := hid hS; have HOr := hid hO; have Hsp := hid hsp
        clear hR hS hO hsp
        have hjd := hm3 j hcj (by omega)
        by_cases hlt : j < lim
        · have hle : j ≤ d := hjd.1 hlt
          have hmod : IntKind.u8.wrap (j : Int) = (j : Int) := by simp [IntKind.wrap, IntKind.signed, IntKind.bits]; omega
          clear hjd hm3
          go_wp2_with fail
          refine (du wr b 0 S j (by omega) HSr.out.at4 HSr.out.froz).mono ?_
          rintro en wx ⟨rfl, rfl⟩
          go_wp2_with fail
          go_roundg (gk - 1)
          case measure => omega
          case rel => exact ⟨j + 1, S.add j, by go_num, by omega, by omega, HRr.out.putW hb 0 S j, (HSr.out.addW j (by omega)).drew, HOr.out.addW S j, (ez S j lim hlt).symm.trans Hsp.out⟩
        · have hle : ¬ j ≤ d := fun h => hlt (hjd.2 h)
          have hS : S = s.span c (lim - c) := by rw [← Hsp.out, show lim - j = 0 by omega]; rfl
          clear hjd hm3
          go_wp2_with fail
          go_end0
          subst hS
          exact ⟨_, _, rfl, HRr.out, HSr.out, HOr.out, Out.bad Hi.out⟩
      | ok r3 =>
       have Hi := hid (show bD s r = if d < c then .error 102 else .ok (s.span c (d + 1 - c), r3) by
        have hho := Ho.out
        simp only [Out] at hho
        rw [Hi.out]
        cases hm : aS r2 with
        | error e' => simp only [hm] at hho; cases hho
        | ok y => obtain ⟨c', r2⟩ := y; simp only [hm] at hho ⊢; obtain ⟨rfl, h'⟩ := hho; cases h'; rfl)
       clear Ho
       simp only [Rs.no] at c2
       by_cases hdc : d < c
       · have Hi := hid (show bD s r = .error 102 by rw [Hi.out, if_pos hdc])
         go_wp2_with fail
         refine (dd 102 (by omega) H9.out).mono ?_
         rintro en w10 ⟨rfl, h8, hO8⟩
         have HO10 := hid (HO9.out.trans hO8)
         have HS10 := hid (HS.out.off HO10.out (by omega))
         have H10 := hid h8
         clear h8 hO8
         go_wp2_with fail
         obtain ⟨lim, hlim⟩ : ∃ lim, lim = od c d := ⟨_, rfl⟩
         have hlim2 : c ≤ lim ∧ lim ≤ 256 ∧ ∀ j, c ≤ j → j ≤ lim → (j < lim ↔ j ≤ d) := by
          rw [hlim]; unfold od
          split <;> exact ⟨by omega, by omega, fun j h1 h2 => by omega⟩
         obtain ⟨hm1, hm2, hm3⟩ := hlim2
         have Hlim := hid hlim; clear hlim
         go_loopg [6] (lim - c) (fun k i wr => ∃ (j : Nat) (S : W4), i = .int .i64 j ∧ j + k = lim ∧ c ≤ j ∧ RS wr p op (.error 102) ∧ ae wr b S ∧ Offs p b w wr ∧ (List.range' j (lim - j)).foldl W4.add S = s.span c (lim - c))
         case atStart => exact ⟨c, s, by go_num, by omega, Nat.le_refl _, H10.out, HS10.out, .of HO10.out, rfl⟩
         case round =>
          obtain ⟨j, S, rfl, hj, hcj, hR, hS, hO, hsp⟩ := hrel
          have HRr := hid hR; have HSr := hid hS; have HOr := hid hO; have Hsp := hid hsp
          clear hR hS hO hsp
          have hjd := hm3 j hcj (by omega)
          by_cases hlt : j < lim
          · have hle : j ≤ d := hjd.1 hlt
            have hmod : IntKind.u8.wrap (j : Int) = (j : Int) := by simp [IntKind.wrap, IntKind.signed, IntKind.bits]; omega
            clear hjd hm3
            go_wp2_with fail
            refine (du wr b 0 S j (by omega) HSr.out.at4 HSr.out.froz).mono ?_
            rintro en wx ⟨rfl, rfl⟩
            go_wp2_with fail
            go_roundg (gk - 1)
            case measure => omega
            case rel => exact ⟨j + 1, S.add j, by go_num, by omega, by omega, HRr.out.putW hb 0 S j, (HSr.out.addW j (by omega)).drew, HOr.out.addW S j, (ez S j lim hlt).symm.trans Hsp.out⟩
          · have hle : ¬ j ≤ d := fun h => hlt (hjd.2 h)
            have hS : S = s.span c (lim - c) := by rw [← Hsp.out, show lim - j = 0 by omega]; rfl
            clear hjd hm3
            go_wp2_with fail
            go_end0
            subst hS
            exact ⟨_, _, rfl, HRr.out, HSr.out, HOr.out, Out.bad Hi.out⟩
       · have Hi := hid (show bD s r = .ok (s.span c (d + 1 - c), r3) by rw [Hi.out, if_neg hdc])
         go_wp2_with fail
         obtain ⟨lim, hlim⟩ : ∃ lim, lim = od c d := ⟨_, rfl⟩
         have hlim2 : c ≤ lim ∧ lim ≤ 256 ∧ ∀ j, c ≤ j → j ≤ lim → (j < lim ↔ j ≤ d) := by
          rw [hlim]; unfold od
          split <;> exact ⟨by omega, by omega, fun j h1 h2 => by omega⟩
         obtain ⟨hm1, hm2, hm3⟩ := hlim2
         have Hlim := hid hlim; clear hlim
         go_loopg [6] (lim - c) (fun k i wr => ∃ (j : Nat) (S : W4), i = .int .i64 j ∧ j + k = lim ∧ c ≤ j ∧ RS wr p op (.ok r3) ∧ ae wr b S ∧ Offs p b w wr ∧ (List.range' j (lim - j)).foldl W4.add S = s.span c (lim - c))
         case atStart => exact ⟨c, s, by go_num, by omega, Nat.le_refl _, H9.out, HS9.out, .of HO9.out, rfl⟩
         case round =>
          obtain ⟨j, S, rfl, hj, hcj, hR, hS, hO, hsp⟩ := hrel
          have HRr := hid hR; have HSr := hid hS; have HOr := hid hO; have Hsp := hid hsp
          clear hR hS hO hsp
          have hjd := hm3 j hcj (by omega)
          by_cases hlt : j < lim
          · have hle : j ≤ d := hjd.1 hlt
            have hmod : IntKind.u8.wrap (j : Int) = (j : Int) := by simp [IntKind.wrap, IntKind.signed, IntKind.bits]; omega
            clear hjd hm3
            go_wp2_with fail
            refine (du wr b 0 S j (by omega) HSr.out.at4 HSr.out.froz).mono ?_
            rintro en wx ⟨rfl, rfl⟩
            go_wp2_with fail
            go_roundg (gk - 1)
            case measure => omega
            case rel => exact ⟨j + 1, S.add j, by go_num, by omega, by omega, HRr.out.putW hb 0 S j, (HSr.out.addW j (by omega)).drew, HOr.out.addW S j, (ez S j lim hlt).symm.trans Hsp.out⟩
          · have hle : ¬ j ≤ d := fun h => hlt (hjd.2 h)
            have hS : S = s.span c (lim - c) := by rw [← Hsp.out, show lim - j = 0 by omega]; rfl
            clear hjd hm3
            go_wp2_with fail
            go_end0
            subst hS
            exact ⟨_, _, rfl, HRr.out, HSr.out, HOr.out, Out.good Hi.out (by rw [Hlim.out]; unfold od; rw [if_pos (by omega)])⟩
theorem na {g : UInt8} {r r' : Bs} {c : Nat} (h : be g r = .ok (c, r')) : r'.length < r.length := by
 unfold be at h
 split at h
 · cases h
 · split at h
   · rename_i h1; cases h; have := am h1; simp at *; omega
   · cases h
theorem ny {r r' : Bs} {c : Nat} (h : aS r = .ok (c, r')) : r'.length < r.length := by
 unfold aS at h
 split at h
 · rename_i h1; have := am h1; have := na h; simp at *; omega
 · split at h
   · cases h
   · cases h; simp
theorem qS {s s' : W4} {c : Nat} {r r' : Bs} (h : co s c r = .ok (s', r')) : r'.length ≤ r.length := by
 unfold co at h
 split at h
 · rename_i r1 h1 _
   have := am h1
   split at h
   · cases h
   · split at h
     · cases h
     · rename_i h2
       split at h
       · cases h
       · cases h; have := ny h2; omega
 · cases h; exact Nat.le_refl _
theorem jo {s s' : W4} {r r' : Bs} (h : bD s r = .ok (s', r')) : r'.length < r.length := by
 unfold bD at h
 split at h
 · rename_i h1
   have := am h1; have := nF h; simp at *; omega
 · split at h
   · rename_i h1
     have := am h1
     split at h
     · cases h
     · rename_i h2; cases h; have := na h2; simp at *; omega
   · split at h
     · cases h
     · rename_i h2; have := ny h2; have := qS h; omega
def W4.notTo (s : W4) (i : Nat) : W4 := ⟨if 0 < i then oc s.a else s.a, if 1 < i then oc s.b else s.b, if 2 < i then oc s.c else s.c, if 3 < i then oc s.d else s.d⟩
theorem tM (s : W4) : s.notTo 4 = s.not := by simp [W4.notTo, W4.not]
theorem xv (s : W4) : s.notTo 0 = s := by simp [W4.notTo]
theorem gO (s : W4) (i : Nat) (hi : i < 4) (u : Int) (hu : u = oc (s.word i)) : (s.notTo i).put i u = s.notTo (i + 1) := by
 subst hu
 rcases (show i = 0 ∨ i = 1 ∨ i = 2 ∨ i = 3 by omega) with rfl | rfl | rfl | rfl <;> simp [W4.notTo, W4.put, W4.word]
theorem ae.new (w : World) : ae (w.alloc (.cells #[.int .u64 0, .int .u64 0, .int .u64 0, .int .u64 0] 28)) w.heap.size w40 := heap_alloc_new w _
theorem ae.setV {w : World} {b : Nat} {s : W4} (h : ae w b s) (S : W4) : ae (setV w b S) b S := by
 have := (((h.put 0 (by omega) S.a).put 1 (by omega) S.b).put 2 (by omega) S.c).put 3 (by omega) S.d
 unfold Go.Proofs.YthlakbjnmbddaaaGreatDoor.setV
 simpa [W4.put] using this
theorem gY (r : Bs) : ∃ (neg : Bool) (r0 : Bs), cP [94] (.ok r) = (neg, .ok r0) ∧ r0.length ≤ r.length ∧
 bf r = match aU (r0.length + 1) w40 r0 with | .error e => .error e | .ok (s, r2) => .ok (if neg then s.not else s, r2) := by
 unfold bf
 cases ht : aq [94] r with
 | none => refine ⟨false, r, by simp only [cP, ht], Nat.le_refl _, ?_⟩; simp only; cases aU (r.length + 1) w40 r <;> simp
 | some r1 => exact ⟨true, r1, by simp only [cP, ht], by have := am ht; omega, by simp only [if_true]; rfl⟩
theorem eF {k : Nat} {S : W4} {r : Bs} {e : Int} (hk : 1 ≤ k) (h : bD S r = .error e) : aU k S r = .error e := by
 obtain ⟨k', rfl⟩ : ∃ k', k = k' + 1 := ⟨k - 1, by omega⟩
 rw [aU, h]
theorem fP {k : Nat} {S S' : W4} {r r' : Bs} (hk : 1 ≤ k) (h : bD S r = .ok (S', r')) : aU k S r = match aq [93] r' with | some r2 => .ok (S', r2) | none => aU (k - 1) S' r' := by
 obtain ⟨k', rfl⟩ : ∃ k', k = k' + 1 := ⟨k - 1, by omega⟩
 rw [aU, h]
 rfl
theorem ff {α : Type} {f : Bs → Except Int (α × Bs)} {r : Bs} {v : α → Prop} {e : Int} (h : Out f (.ok r) v (.error e)) : f r = .error e := by
 simp only [Out] at h
 cases hf : f r with
 | error e' => simp only [hf] at h; cases h; rfl
 | ok y => obtain ⟨x, r'⟩ := y; simp only [hf] at h; cases h.2
theorem eh {α : Type} {f : Bs → Except Int (α × Bs)} {r r' : Bs} {v : α → Prop} (h : Out f (.ok r) v (.ok r')) : ∃ x, f r = .ok (x, r') ∧ v x := by
 simp only [Out] at h
 cases hf : f r with
 | error e' => simp only [hf] at h; cases h
 | ok y => obtain ⟨x, r2⟩ := y; simp only [hf] at h; obtain ⟨h1, h2⟩ := h; cases h2; exact ⟨x, rfl, h1⟩
theorem ae.offs {w w' : World} {p b c : Nat} {s : W4} (h : ae w c s) (k : Offs p b w w') (hp : c ≠ p) (hb : c ≠ b) : ae w' c s := h.keep (k.block c h.lt hp hb)
theorem fc {x : Int} (h : lL x) : bits .xor .u64 IntKind.u64.max x = oc x := by
 have e : bits .xor .u64 IntKind.u64.max x = ((18446744073709551615 ^^^ x.toNat : Nat) : Int) := by
  have := bits_xor_u64_nat 18446744073709551615 x.toNat (by omega) (by have := h.1; have := h.2; omega)
  rw [show ((x.toNat : Nat) : Int) = x by have := h.1; omega] at this
  exact this
 have hlt : 18446744073709551615 ^^^ x.toNat < 2 ^ 64 := Nat.xor_lt_two_pow (by decide) (by have := h.1; have := h.2; omega)
 rw [e]
 refine gr ⟨by omega, by omega⟩ (jl h) fun k hk => ?_
 rw [gC h k hk, Int.toNat_natCast, Nat.testBit_xor]
 have : (18446744073709551615 : Nat).testBit k = true := by
  have := Nat.testBit_two_pow_sub_one 64 k
  rw [show (2 : Nat) ^ 64 - 1 = 18446744073709551615 from rfl] at this
  rw [this]; simpa using hk
 rw [this, Bool.true_xor]
theorem sT (f : Nat → Bool) : Wok (dq f) := by
 have : ∀ (l : List Nat) (s : W4), Wok s → (∀ c ∈ l, c < 256) → Wok (l.foldl (fun s c => if f c then s.add c else s) s) := by
  intro l
  induction l with
  | nil => intro s h _; exact h
  | cons c l ih =>
   intro s h hl
   rw [List.foldl_cons]
   refine ih _ ?_ (fun x hx => hl x (List.mem_cons_of_mem _ hx))
   split
   · exact iE h c (hl c (List.mem_cons_self ..))
   · exact h
 rw [kF]
 exact this _ _ mM (fun c hc => List.mem_range.1 hc)
theorem ur {n : Bs} {x : W4} (h : ew n = some x) : Wok x := by
 by_cases hj : ∃ (j : Nat) (f : Nat → Bool), bv[j]? = some (none, .ins n f)
 · obtain ⟨j, f, hj⟩ := hj
   rw [nG hj] at h
   cases h
   exact sT f
 · rw [lH fun j f e => hj ⟨j, f, e⟩] at h
   cases h
theorem vi {s s' : W4} {c : Nat} {r r' : Bs} (hs : Wok s) (hc : c < 256) (h : co s c r = .ok (s', r')) : Wok s' := by
 unfold co at h
 split at h
 · split at h
   · cases h
   · split at h
     · cases h
     · rename_i d r2 h2
       have := li h2
       split at h
       · cases h
       · cases h; exact (gI hs c (d + 1 - c) (by omega)).1
 · cases h; exact iE hs c hc
theorem jn {s s' : W4} {r r' : Bs} (hs : Wok s) (h : bD s r = .ok (s', r')) : Wok s' := by
 unfold bD at h
 split at h
 · unfold cr at h
   split at h
   · cases h
   · split at h
     · cases h
     · rename_i hx; cases h; exact yU hs (ur hx)
 · split at h
   · split at h
     · cases h
     · rename_i hx; cases h; exact iE hs _ (kL hx)
   · split at h
     · cases h
     · rename_i hx; exact vi hs (li hx) h
theorem ti (w : World) (b : Nat) (S : W4) : (setV w b S).heap.size = w.heap.size := by simp [setV]
theorem fM (w : World) (b : Nat) (S : W4) (k : Nat) (hk : k ≠ b) : (setV w b S).heap[k]? = w.heap[k]? := by
 unfold setV
 iterate 3 rw [Below.heap_setCell _ _ _ _ hk]
 exact Below.heap_setCell _ _ _ _ hk
theorem Off.setV {p : Nat} {w w1 : World} (h : Off p w w1) {b : Nat} (hb : w.heap.size ≤ b) (S : W4) : Off p w (Go.Proofs.YthlakbjnmbddaaaGreatDoor.setV w1 b S) := (fun hbel => h.far hb (Below.os hbel) (Below.tape hbel) (Below.output hbel) (ti _ _ _) (fun k hk => fM _ _ _ _ hk)) ((Below.refl 0 w1).setV (Nat.zero_le b) S)
def sK (first : Bool) (k : Nat) (S : W4) (r : Bs) (G : Except Int (W4 × Bs)) : Prop :=
 r.length + 1 ≤ k ∧ if first then aU k S r = G else (match aq [93] r with | some r2 => .ok (S, r2) | none => aU k S r) = G
theorem brC : BrC := by
 intro w p op r h hl
 obtain ⟨neg, r0, htk, hl0, hbr⟩ := gY r
 have H := hid h; have Htk := hid htk; have Hbr := hid hbr
 have hp := h.lt
 clear h htk hbr
 go_enter Tryz.func129, Tryz.ntmps129
 go_wp2_with fail
 generalize hW0 : w.alloc _ = W0
 have hB0 : Below w.heap.size w W0 := by subst hW0; exact nal
 have hR0 : ae W0 w.heap.size w40 := by subst hW0; exact ae.new w
 clear hW0
 have h0 := H.out.later hB0
 have ht := iO W0 p op (.ok r) [94] (by simp) h0
 rw [Htk.out] at ht
 refine ht.mono ?_
 rintro en w1 ⟨rfl, h1, hO1⟩
 have hR1 := hR0.off hO1 (by omega)
 have hO1 : Off p w w1 := (Off.of_below hB0).trans hO1
 have hz1 : w.heap.size < w1.heap.size := hR1.lt
 clear ht hR0 h0 hB0
 simp only at h1
 have H1 := hid h1; have HR1 := hid hR1; have HO1 := hid hO1
 clear h1 hR1 hO1
 go_wp2_with fail
 generalize hW1 : w1.alloc _ = W1
 have hB1 : Below w1.heap.size w1 W1 := by subst hW1; exact nal
 have hS2 : ae W1 w1.heap.size w40 := by subst hW1; exact ae.new w1
 clear hW1
 have H2 := hid (H1.out.later hB1)
 have HR2 := hid (HR1.out.off (Off.of_below (p := p) hB1) (by omega))
 have HO2 := hid (HO1.out.trans (Off.of_below (p := p) hB1))
 clear H1 HR1 HO1 hB1
 generalize w1.heap.size = b1 at *
 have HS2 := hid hS2
 clear hS2
 go_loopg [5] (r0.length + 1) (fun k f wr => ∃ (first : Bool) (S : W4) (r' : Bs), f = .bool first ∧ sK first k S r' (aU (r0.length + 1) w40 r0) ∧ Wok S ∧ r'.length ≤ 1024 ∧ RS wr p op (.ok r') ∧ ae wr w.heap.size w40 ∧ ae wr b1 S ∧ Off p w wr)
 case atStart => exact ⟨true, w40, r0, rfl, ⟨Nat.le_refl _, rfl⟩, mM, by omega, H2.out, HR2.out, HS2.out, HO2.out⟩
 case round =>
  obtain ⟨first, S, r', rfl, ⟨hk, hG⟩, hwok, hr', hRr, hR0r, hSr, hOr⟩ := hrel
  have HRr := hid hRr; have HR0r := hid hR0r; have HSr := hid hSr; have HOr := hid hOr
  clear hRr hR0r hSr hOr H2 HR2 HS2 HO2
  cases first with
  | true =>
   have HG1 := hid (show aU gk S r' = aU (r0.length + 1) w40 r0 by simpa using hG)
   clear hG
   go_wp2_with fail
   refine (qb wr p b1 op r' S HRr.out hr' (by omega) HSr.out).mono ?_
   rintro en wx ⟨S', s', rfl, hx, hSx, hOx, ho⟩
   have HRx := hid (HR0r.out.offs hOx (by omega) (by omega))
   have HOx := hid (Offs.off HOr.out hOx (by omega))
   have HX := hid hx; have HSx := hid hSx
   have c2 := hx.rdr.c2
   cases s' with
   | error e =>
    have hit := ff ho
    have hbe := hid (show bf r = .error e by rw [Hbr.out, ← HG1.out, eF (by omega) hit])
    have he0 := hx.ne e rfl
    clear ho hx hSx hOx hit HG1
    simp only [Rs.no] at c2
    obtain ⟨f0, f1, f2, f3⟩ := HSx.out.at4
    obtain ⟨g0, g1, g2, g3⟩ := HRx.out.at4
    have y0 := HRx.out.froz 0; have y1 := HRx.out.froz 1; have y2 := HRx.out.froz 2; have y3 := HRx.out.froz 3
    simp only [Nat.zero_add] at f1 f2 f3 g1 g2 g3
    go_wp2_with fail
    change bodyPost _ _ _ _ _ (setV _ w.heap.size S')
    obtain ⟨q0, q1, q2, q3⟩ := (HRx.out.setV S').at4
    simp only [Nat.zero_add] at q1 q2 q3
    have hRS : RS (setV _ w.heap.size S') p op _ := (((HX.out.put hp 0 (.int .u64 S'.a)).put hp 1 (.int .u64 S'.b)).put hp 2 (.int .u64 S'.c)).put hp 3 (.int .u64 S'.d)
    have hOff := Off.setV HOx.out (b := w.heap.size) (Nat.le_refl _) S'
    clear f0 f1 f2 f3 g0 g1 g2 g3 y0 y1 y2 y3
    generalize setV _ w.heap.size S' = W at *
    exact bodyPost_ret (v := S'.V) (by simp [results, Tryz.results129, go_sem, q0, q1, q2, q3]) rfl ⟨S', _, rfl, hRS, hOff, Out.bad hbe.out⟩
   | ok r2 =>
    obtain ⟨x, hit, rfl⟩ := eh ho
    have hlt := jo hit
    have hwok2 := hid (jn hwok hit)
    have HG2 := hid (HG1.out.symm.trans (fP (by omega) hit))
    clear ho hx hSx hOx hit HG1
    simp only [Rs.no] at c2
    go_wp2_with fail
    go_roundg (gk - 1)
    case measure => omega
    case rel => exact ⟨false, S', r2, rfl, ⟨by omega, HG2.out.symm⟩, hwok2.out, by omega, HX.out, HRx.out, HSx.out, HOx.out⟩
  | false =>
   have hG2 : (match aq [93] r' with | some r2 => Except.ok (S, r2) | none => aU gk S r') = aU (r0.length + 1) w40 r0 := by simpa using hG
   clear hG
   cases ht : aq [93] r' with
   | none =>
    rw [ht] at hG2
    have HG1 := hid (show aU gk S r' = aU (r0.length + 1) w40 r0 from hG2)
    have Ht := hid ht
    clear hG2 ht
    go_wp2_with fail
    refine (aX [93] (by simp) Ht.out HRr.out).mono ?_
    rintro en wr ⟨rfl, h3, hO3⟩
    have HR0r := hid (HR0r.out.off hO3 (by omega))
    have HSr := hid (HSr.out.off hO3 (by omega))
    have HOr := hid (HOr.out.trans hO3)
    have HRr := hid h3
    clear h3 hO3
    go_wp2_with fail
    refine (qb wr p b1 op r' S HRr.out hr' (by omega) HSr.out).mono ?_
    rintro en wx ⟨S', s', rfl, hx, hSx, hOx, ho⟩
    have HRx := hid (HR0r.out.offs hOx (by omega) (by omega))
    have HOx := hid (Offs.off HOr.out hOx (by omega))
    have HX := hid hx; have HSx := hid hSx
    have c2 := hx.rdr.c2
    cases s' with
    | error e =>
     have hit := ff ho
     have hbe := hid (show bf r = .error e by rw [Hbr.out, ← HG1.out, eF (by omega) hit])
     have he0 := hx.ne e rfl
     clear ho hx hSx hOx hit HG1
     simp only [Rs.no] at c2
     obtain ⟨f0, f1, f2, f3⟩ := HSx.out.at4
     obtain ⟨g0, g1, g2, g3⟩ := HRx.out.at4
     have y0 := HRx.out.froz 0; have y1 := HRx.out.froz 1; have y2 := HRx.out.froz 2; have y3 := HRx.out.froz 3
     simp only [Nat.zero_add] at f1 f2 f3 g1 g2 g3
     go_wp2_with fail
     change bodyPost _ _ _ _ _ (setV _ w.heap.size S')
     obtain ⟨q0, q1, q2, q3⟩ := (HRx.out.setV S').at4
     simp only [Nat.zero_add] at q1 q2 q3
     have hRS : RS (setV _ w.heap.size S') p op _ := (((HX.out.put hp 0 (.int .u64 S'.a)).put hp 1 (.int .u64 S'.b)).put hp 2 (.int .u64 S'.c)).put hp 3 (.int .u64 S'.d)
     have hOff := Off.setV HOx.out (b := w.heap.size) (Nat.le_refl _) S'
     clear f0 f1 f2 f3 g0 g1 g2 g3 y0 y1 y2 y3
     generalize setV _ w.heap.size S' = W at *
     exact bodyPost_ret (v := S'.V) (by simp [results, Tryz.results129, go_sem, q0, q1, q2, q3]) rfl ⟨S', _, rfl, hRS, hOff, Out.bad hbe.out⟩
    | ok r2 =>
     obtain ⟨x, hit, rfl⟩ := eh ho
     have hlt := jo hit
     have hwok2 := hid (jn hwok hit)
     have HG2 := hid (HG1.out.symm.trans (fP (by omega) hit))
     clear ho hx hSx hOx hit HG1
     simp only [Rs.no] at c2
     go_wp2_with fail
     go_roundg (gk - 1)
     case measure => omega
     case rel => exact ⟨false, S', r2, rfl, ⟨by omega, HG2.out.symm⟩, hwok2.out, by omega, HX.out, HRx.out, HSx.out, HOx.out⟩
   | some r2 =>
    rw [ht] at hG2
    have Hbr2 := hid (show bf r = .ok (if neg then S.not else S, r2) by rw [Hbr.out, ← hG2])
    have Ht := hid ht
    clear hG2 ht
    go_wp2_with fail
    refine (cg [93] (by simp) Ht.out HRr.out).mono ?_
    rintro en wr2 ⟨rfl, h3, hO3⟩
    have HR0s := hid (HR0r.out.off hO3 (by omega))
    have HSs := hid (HSr.out.off hO3 (by omega))
    have HOs := hid (HOr.out.trans hO3)
    have HRs := hid h3
    clear h3 hO3 HRr HR0r HSr HOr Ht Htk Hbr
    go_wp2_with fail
    cases neg with
    | false =>
     go_loopg [23] 4 (fun k i wr => ∃ j : Nat, i = .int .i64 j ∧ j + k = 4 ∧ RS wr p op (.ok r2) ∧ ae wr w.heap.size w40 ∧ ae wr b1 S ∧ Off p w wr)
     case atStart => exact ⟨0, rfl, rfl, HRs.out, HR0s.out, HSs.out, HOs.out⟩
     case round =>
      obtain ⟨j, rfl, hj, h4, h5, h6, h7⟩ := hrel
      have HRt := hid h4; have HR0t := hid h5; have HSt := hid h6; have HOt := hid h7
      clear h4 h5 h6 h7 HRs HR0s HSs HOs
      by_cases hj4 : j < 4
      · go_wp2_with fail
        go_roundg (gk - 1)
        case measure => omega
        case rel => exact ⟨j + 1, by go_num, by omega, HRt.out, HR0t.out, HSt.out, HOt.out⟩
      · have Hbr3 := hid (show bf r = .ok (S, r2) by rw [Hbr2.out]; rfl)
        obtain ⟨f0, f1, f2, f3⟩ := HSt.out.at4
        obtain ⟨g0, g1, g2, g3⟩ := HR0t.out.at4
        have y0 := HR0t.out.froz 0; have y1 := HR0t.out.froz 1; have y2 := HR0t.out.froz 2; have y3 := HR0t.out.froz 3
        simp only [Nat.zero_add] at f1 f2 f3 g1 g2 g3
        go_wp2_with fail
        change bodyPost _ _ _ _ _ (setV _ w.heap.size S)
        obtain ⟨q0, q1, q2, q3⟩ := (HR0t.out.setV S).at4
        simp only [Nat.zero_add] at q1 q2 q3
        have hRS : RS (setV _ w.heap.size S) p op _ := (((HRt.out.put hp 0 (.int .u64 S.a)).put hp 1 (.int .u64 S.b)).put hp 2 (.int .u64 S.c)).put hp 3 (.int .u64 S.d)
        have hOff := Off.setV HOt.out (b := w.heap.size) (Nat.le_refl _) S
        clear f0 f1 f2 f3 g0 g1 g2 g3 y0 y1 y2 y3
        generalize setV _ w.heap.size S = W at *
        exact bodyPost_ret (v := S.V) (by simp [results, Tryz.results129, go_sem, q0, q1, q2, q3]) rfl ⟨S, _, rfl, hRS, hOff, Out.good Hbr3.out rfl⟩
    | true =>
     go_loopg [23] 4 (fun k i wr => ∃ j : Nat, i = .int .i64 j ∧ j + k = 4 ∧ RS wr p op (.ok r2) ∧ ae wr w.heap.size w40 ∧ ae wr b1 (S.notTo j) ∧ Off p w wr)
     case atStart => exact ⟨0, rfl, rfl, HRs.out, HR0s.out, by rw [xv]; exact HSs.out, HOs.out⟩
     case round =>
      obtain ⟨j, rfl, hj, h4, h5, h6, h7⟩ := hrel
      have HRt := hid h4; have HR0t := hid h5; have HSt := hid h6; have HOt := hid h7
      have z0 := h6.froz 0; have z1 := h6.froz 1; have z2 := h6.froz 2; have z3 := h6.froz 3
      obtain ⟨f0, f1, f2, f3⟩ := h6.at4
      simp only [Nat.zero_add] at f1 f2 f3
      clear h4 h5 h6 h7 HRs HR0s HSs HOs
      rcases (show j = 0 ∨ j = 1 ∨ j = 2 ∨ j = 3 ∨ j = 4 by omega) with rfl | rfl | rfl | rfl | rfl
      · simp [W4.notTo] at f0
        go_wp2_with fail
        go_roundg (gk - 1)
        case measure => omega
        case rel => exact ⟨1, by go_num, by omega, HRt.out.put (by omega) 0 _, HR0t.out.keep (Below.heap_setCell _ _ _ _ (by show w.heap.size ≠ b1; omega)), (by have h1 := HSt.out.put 0 (by omega) (bits .xor .u64 IntKind.u64.max S.a); rw [gO S 0 (by omega) (bits .xor .u64 IntKind.u64.max S.a) (fc hwok.a)] at h1; exact h1), HOt.out.far (b := b1) (by omega) rfl rfl rfl (by simp) (fun k hk => Below.heap_setCell _ _ _ _ hk)⟩
      · simp [W4.notTo] at f1
        go_wp2_with fail
        go_roundg (gk - 1)
        case measure => omega
        case rel => exact ⟨2, by go_num, by omega, HRt.out.put (by omega) 1 _, HR0t.out.keep (Below.heap_setCell _ _ _ _ (by show w.heap.size ≠ b1; omega)), (by have h1 := HSt.out.put 1 (by omega) (bits .xor .u64 IntKind.u64.max S.b); rw [gO S 1 (by omega) (bits .xor .u64 IntKind.u64.max S.b) (fc hwok.b)] at h1; exact h1), HOt.out.far (b := b1) (by omega) rfl rfl rfl (by simp) (fun k hk => Below.heap_setCell _ _ _ _ hk)⟩
      · simp [W4.notTo] at f2
        go_wp2_with fail
        go_roundg (gk - 1)
        case measure => omega
        case rel => exact ⟨3, by go_num, by omega, HRt.out.put (by omega) 2 _, HR0t.out.keep (Below.heap_setCell _ _ _ _ (by show w.heap.size ≠ b1; omega)), (by have h1 := HSt.out.put 2 (by omega) (bits .xor .u64 IntKind.u64.max S.c); rw [gO S 2 (by omega) (bits .xor .u64 IntKind.u64.max S.c) (fc hwok.c)] at h1; exact h1), HOt.out.far (b := b1) (by omega) rfl rfl rfl (by simp) (fun k hk => Below.heap_setCell _ _ _ _ hk)⟩
      · simp [W4.notTo] at f3
        go_wp2_with fail
        go_roundg (gk - 1)
        case measure => omega
        case rel => exact ⟨4, by go_num, by omega, HRt.out.put (by omega) 3 _, HR0t.out.keep (Below.heap_setCell _ _ _ _ (by show w.heap.size ≠ b1; omega)), (by have h1 := HSt.out.put 3 (by omega) (bits .xor .u64 IntKind.u64.max S.d); rw [gO S 3 (by omega) (bits .xor .u64 IntKind.u64.max S.d) (fc hwok.d)] at h1; exact h1), HOt.out.far (b := b1) (by omega) rfl rfl rfl (by simp) (fun k hk => Below.heap_setCell _ _ _ _ hk)⟩
      · obtain ⟨SX, hSX⟩ : ∃ SX, SX = S.notTo 4 := ⟨_, rfl⟩
        have Hbr3 := hid (show bf r = .ok (SX, r2) by rw [Hbr2.out, hSX, tM]; rfl)
        have HSt := hid (show ae wr b1 SX by rw [hSX]; exact HSt.out)
        clear hSX Hbr2 hwok
        clear f0 f1 f2 f3 z0 z1 z2 z3
        obtain ⟨f0, f1, f2, f3⟩ := HSt.out.at4
        obtain ⟨g0, g1, g2, g3⟩ := HR0t.out.at4
        have y0 := HR0t.out.froz 0; have y1 := HR0t.out.froz 1; have y2 := HR0t.out.froz 2; have y3 := HR0t.out.froz 3
        simp only [Nat.zero_add] at f1 f2 f3 g1 g2 g3
        go_wp2_with fail
        change bodyPost _ _ _ _ _ (setV _ w.heap.size SX)
        obtain ⟨q0, q1, q2, q3⟩ := (HR0t.out.setV SX).at4
        simp only [Nat.zero_add] at q1 q2 q3
        have hRS : RS (setV _ w.heap.size SX) p op _ := (((HRt.out.put hp 0 (.int .u64 SX.a)).put hp 1 (.int .u64 SX.b)).put hp 2 (.int .u64 SX.c)).put hp 3 (.int .u64 SX.d)
        have hOff := Off.setV HOt.out (b := w.heap.size) (Nat.le_refl _) SX
        clear f0 f1 f2 f3 g0 g1 g2 g3 y0 y1 y2 y3
        generalize setV _ w.heap.size SX = W at *
        exact bodyPost_ret (v := SX.V) (by simp [results, Tryz.results129, go_sem, q0, q1, q2, q3]) rfl ⟨SX, _, rfl, hRS, hOff, Out.good Hbr3.out rfl⟩
end Go.Proofs.YthlakbjnmbddaaaGreatDoor
