/- PatternReads holds: whatever comes in, the call of the law returns true, and what came in reads as it read; the listed variables tied to the text of the program. -/
import Derived.Test.YteekafkpeimhoaaDoorUReadsA
import Derived.Test.YteekafkpeimhoaaDoorUReadsB
import Derived.Test.YteekafkpeimhoaaDoorUReadsC
import Derived.Test.YteekafkpeimhoaaDoorUReadsD
import Derived.Test.YteekafkpeimhoaaDoorUReadsE
import Derived.WalkKit
import Derived.Deep.LoopGhost
import Derived.Lib.Hide
import Derived.Maps.AppendAt
import Derived.Deep.RegionLaw
import Derived.Deep.QuietTactic
import Derived.BigQuiet
import Derived.ProofKit
import Derived.OpenShut
import Derived.ChangeOld
import Derived.SizedLaws
import Derived.Deep.Slices
import Derived.Deep.Fields
import Derived.HandedShaped
import Derived.LaidMore
import Derived.LaidHandle
import Derived.MakeChecks
import Derived.Stop.LaidErr
import Derived.Lay
import Derived.Test.YteekafkpeimhoaaDoorCards
import Derived.Test.YteekafkpeimhoaaDoorTie
import Derived.SevenTiedAt
import Derived.ShutString
import Derived.Below
import Derived.Carry
/- The pattern reader's atom again, with rows. -/
set_option linter.unusedVariables false
set_option linter.unusedSimpArgs false
namespace Go.Proofs.YteekafkpeimhoaaDoor
open Go.RowKit

/-- What a reading step hands back that makes a node. -/
def GNode2 (p : Nat) (op : Int) (f : Bs → PT) (s : Rs) (w : World) (en : Ending) (w' : World) : Prop :=
  ∃ (x : Nx) (s' : Rs), en = .returned (nodeV x.1 x.2.1 x.2.2) ∧ RowAt w' (fun b => w.heap.size ≤ b ∧ b < w'.heap.size) x.1 x.2.1 x.2.2 ∧ RS w' p op s' ∧ Off p w w' ∧ Out f s (fun t => x.1 = t) s'
set_option maxRecDepth 100000 in
set_option maxHeartbeats 4000000 in
theorem atom_any2 (w : World) (p : Nat) (op : Int) (s : Rs) (h : RS w p op s) (hs : s.rest.length ≤ 1024) (grp : Bs → PT) (hB : ∀ r, s = .ok r → 91 ∈ r → BrC) (hD : ∀ r, s = .ok r → 46 ∈ r → DotC)
    (hG : ∀ (w : World) (s : Rs), RS w p op s → s.rest.length ≤ 1024 → (∀ r, s = .ok r → 91 ∈ r → BrC) → (∀ r, s = .ok r → 46 ∈ r → DotC) → Calls Tryd.prog 67 #[.pointer (some ⟨p, 0, none⟩)] w fun en w' => GNode2 p op grp s w en w') :
    Calls Tryd.prog 56 #[.pointer (some ⟨p, 0, none⟩)] w fun en w' => GNode2 p op (atomP grp) s w en w' := by
  have hlt := h.lt
  have HB := Lib.hid hB; have HD := Lib.hid hD; have HG := Lib.hid hG; have HL := Lib.hid hs; clear hB hD hG hs
  have H := Lib.hid h; clear h
  go_enter Tryd.func56, Tryd.ntmps56
  go_wp2_with fail
  generalize hW : (w.alloc _).alloc _ = W0
  have hB0 : Below w.heap.size w W0 := by subst hW; exact ((Below.refl _ _).alloc (Nat.le_refl _) _).alloc (by simp) _
  have R0 : BlkX W0 w.heap.size (xcell (.mk 0 0 0 0 0 0 0 [], none, 0)).toArray := by
    subst hW
    exact (BlkX.new w _).keep (((Below.refl _ _).alloc (Nat.le_refl _) _).block _ (by simp))
  have N0 : BlkX W0 (w.heap.size + 1) (xcell (w40.T, none, 0)).toArray := by
    have hz : (w.alloc (.cells (xcell (.mk 0 0 0 0 0 0 0 [], none, 0)).toArray 27)).heap.size = w.heap.size + 1 := by simp
    have := BlkX.new (w.alloc (.cells (xcell (.mk 0 0 0 0 0 0 0 [], none, 0)).toArray 27)) (xcell (w40.T, none, 0)).toArray
    rw [hz] at this
    subst hW
    exact this
  clear hW
  have HR0 := Lib.hid (H.out.later hB0)
  rcases s with e | (_ | ⟨c, t⟩)
  · refine (next_err 104 (by omega) HR0.out).mono ?_
    rintro en w1 ⟨rfl, h1, hO1⟩
    have R1 := hO1.blk R0 (by omega)
    have N1 := hO1.blk N0 (by omega)
    have hO1 : Off p w w1 := (Off.of_below hB0).trans hO1
    clear R0 N0
    go_wp2_with fail
    refine (add_any w1 (w.heap.size + 1) 1 w40 0 (by omega) N1.at4 N1.froz).mono ?_
    rintro en w2 ⟨rfl, rfl⟩
    have R2 : BlkX (addW w1 (w.heap.size + 1) 1 w40 0).drew w.heap.size (xcell (.mk 0 0 0 0 0 0 0 [], none, 0)).toArray := R1.keep (addW_other _ _ _ _ _ _ (by omega))
    have N2 : BlkX (addW w1 (w.heap.size + 1) 1 w40 0).drew (w.heap.size + 1) (xcell ((w40.add 0).T, none, 0)).toArray := addW_blk N1 0 (by omega)
    have h2 := h1.putW (b := w.heap.size + 1) (by omega) 1 w40 0
    have hO2 := Off.putW hO1 (b := w.heap.size + 1) (by omega) 1 w40 0
    obtain ⟨x, hx⟩ : ∃ x : Nx, x = ((w40.add 0).T, none, 0) := ⟨_, rfl⟩
    rw [← hx] at N2
    have Hx := Lib.hid hx
    clear hx R1 N1 h1 hO1
    generalize (addW w1 (w.heap.size + 1) 1 w40 0).drew = W2 at *
    obtain ⟨⟨f0, f1, f2, f3, f4, f5, f6, f7⟩, _⟩ := N2.cells8
    obtain ⟨⟨r0, r1, r2, r3, r4, r5, r6, r7⟩, hz⟩ := R2.cells8
    have z0 := hz 0; have z1 := hz 1; have z2 := hz 2; have z3 := hz 3; have z4 := hz 4; have z5 := hz 5; have z6 := hz 6; have z7 := hz 7
    have lr := R2.lt
    have ln := N2.lt
    clear hz
    have HR2 := Lib.hid R2; have H2 := Lib.hid h2; have HO2 := Lib.hid hO2
    clear R2 N2 h2 hO2
    go_wp2_with fail
    change bodyPost _ _ _ _ _ (writeX W2 w.heap.size x)
    have hfin := writeX_blk HR2.out x
    obtain ⟨⟨y0, y1, y2, y3, y4, y5, y6, y7⟩, _⟩ := hfin.cells8
    have hRS := H2.out.boxW (b := w.heap.size) (by omega) x
    have hOff := Off.boxW HO2.out (Nat.le_refl _) x
    have hNod : RowAt (writeX W2 w.heap.size x) (fun b => w.heap.size ≤ b ∧ b < (writeX W2 w.heap.size x).heap.size) x.1 x.2.1 x.2.2 := by rw [Hx.out]; exact row_leaf _ _ _ rfl
    generalize writeX W2 w.heap.size x = W3 at *
    refine bodyPost_ret (v := nodeV x.1 x.2.1 x.2.2) (by simp [results, Tryd.results56, y0, y1, y2, y3, y4, y5, y6, y7, go_sem]) rfl ⟨x, _, rfl, hNod, hRS, hOff, ?_⟩
    exact Out.err
  · refine (next_end 104 (by omega) HR0.out).mono ?_
    rintro en w1 ⟨rfl, h1, hO1⟩
    have R1 := hO1.blk R0 (by omega)
    have N1 := hO1.blk N0 (by omega)
    have hO1 : Off p w w1 := (Off.of_below hB0).trans hO1
    clear R0 N0
    go_wp2_with fail
    refine (add_any w1 (w.heap.size + 1) 1 w40 0 (by omega) N1.at4 N1.froz).mono ?_
    rintro en w2 ⟨rfl, rfl⟩
    have R2 : BlkX (addW w1 (w.heap.size + 1) 1 w40 0).drew w.heap.size (xcell (.mk 0 0 0 0 0 0 0 [], none, 0)).toArray := R1.keep (addW_other _ _ _ _ _ _ (by omega))
    have N2 : BlkX (addW w1 (w.heap.size + 1) 1 w40 0).drew (w.heap.size + 1) (xcell ((w40.add 0).T, none, 0)).toArray := addW_blk N1 0 (by omega)
    have h2 := h1.putW (b := w.heap.size + 1) (by omega) 1 w40 0
    have hO2 := Off.putW hO1 (b := w.heap.size + 1) (by omega) 1 w40 0
    obtain ⟨x, hx⟩ : ∃ x : Nx, x = ((w40.add 0).T, none, 0) := ⟨_, rfl⟩
    rw [← hx] at N2
    have Hx := Lib.hid hx
    clear hx R1 N1 h1 hO1
    generalize (addW w1 (w.heap.size + 1) 1 w40 0).drew = W2 at *
    obtain ⟨⟨f0, f1, f2, f3, f4, f5, f6, f7⟩, _⟩ := N2.cells8
    obtain ⟨⟨r0, r1, r2, r3, r4, r5, r6, r7⟩, hz⟩ := R2.cells8
    have z0 := hz 0; have z1 := hz 1; have z2 := hz 2; have z3 := hz 3; have z4 := hz 4; have z5 := hz 5; have z6 := hz 6; have z7 := hz 7
    have lr := R2.lt
    have ln := N2.lt
    clear hz
    have HR2 := Lib.hid R2; have H2 := Lib.hid h2; have HO2 := Lib.hid hO2
    clear R2 N2 h2 hO2
    go_wp2_with fail
    change bodyPost _ _ _ _ _ (writeX W2 w.heap.size x)
    have hfin := writeX_blk HR2.out x
    obtain ⟨⟨y0, y1, y2, y3, y4, y5, y6, y7⟩, _⟩ := hfin.cells8
    have hRS := H2.out.boxW (b := w.heap.size) (by omega) x
    have hOff := Off.boxW HO2.out (Nat.le_refl _) x
    have hNod : RowAt (writeX W2 w.heap.size x) (fun b => w.heap.size ≤ b ∧ b < (writeX W2 w.heap.size x).heap.size) x.1 x.2.1 x.2.2 := by rw [Hx.out]; exact row_leaf _ _ _ rfl
    generalize writeX W2 w.heap.size x = W3 at *
    refine bodyPost_ret (v := nodeV x.1 x.2.1 x.2.2) (by simp [results, Tryd.results56, y0, y1, y2, y3, y4, y5, y6, y7, go_sem]) rfl ⟨x, _, rfl, hNod, hRS, hOff, ?_⟩
    exact Out.bad rfl
  · refine (next_ok 104 (by omega) HR0.out).mono ?_
    rintro en w1 ⟨rfl, h1, hO1⟩
    have R1 := hO1.blk R0 (by omega)
    have N1 := hO1.blk N0 (by omega)
    have hO1 : Off p w w1 := (Off.of_below hB0).trans hO1
    clear R0 N0
    by_cases c40 : c = 40
    · subst c40
      have hz1 := hO1.size
      obtain ⟨⟨r0, r1, r2, r3, r4, r5, r6, r7⟩, hz⟩ := R1.cells8
      clear r0 r1 r2 r3 r4 r5 r6 r7 hz
      go_wp2_with fail
      refine (HG.out w1 (.ok t) h1 (by have := HL.out; simp only [Rs.rest, List.length_cons] at this ⊢; omega) (fun r e hr => HB.out _ rfl (List.mem_cons_of_mem _ (by cases e; exact hr))) (fun r e hr => HD.out _ rfl (List.mem_cons_of_mem _ (by cases e; exact hr)))).mono ?_
      rintro en W2 ⟨x, s', rfl, hx, h2, hO2, ho⟩
      have R2 := hO2.blk R1 (by omega)
      have lr1 := R1.lt
      have hO2 := hO1.trans hO2
      obtain ⟨⟨r0, r1, r2, r3, r4, r5, r6, r7⟩, hz⟩ := R2.cells8
      have z0 := hz 0; have z1 := hz 1; have z2 := hz 2; have z3 := hz 3; have z4 := hz 4; have z5 := hz 5; have z6 := hz 6; have z7 := hz 7
      have lr := R2.lt
      clear hz
      have HR2 := Lib.hid R2; have H2 := Lib.hid h2; have HO2 := Lib.hid hO2; have Hx := Lib.hid hx; have Ho := Lib.hid ho
      clear R2 h2 hO2 R1 N1 h1 hO1 hx ho
      go_wp2_with fail
      change bodyPost _ _ _ _ _ (writeX W2 w.heap.size x)
      have hfin := writeX_blk HR2.out x
      obtain ⟨⟨y0, y1, y2, y3, y4, y5, y6, y7⟩, _⟩ := hfin.cells8
      have hRS := H2.out.boxW (b := w.heap.size) (by omega) x
      have hOff := Off.boxW HO2.out (Nat.le_refl _) x
      have hNod : RowAt (writeX W2 w.heap.size x) (fun b => w.heap.size ≤ b ∧ b < (writeX W2 w.heap.size x).heap.size) x.1 x.2.1 x.2.2 := Hx.out.mono fun k (hk : w1.heap.size ≤ k ∧ k < W2.heap.size) => ⟨⟨by omega, by rw [writeX_size]; exact hk.2⟩, (writeX_other _ _ _ _ (show k ≠ w.heap.size by omega))⟩
      generalize writeX W2 w.heap.size x = W3 at *
      refine bodyPost_ret (v := nodeV x.1 x.2.1 x.2.2) (by simp [results, Tryd.results56, y0, y1, y2, y3, y4, y5, y6, y7, go_sem]) rfl ⟨x, _, rfl, hNod, hRS, hOff, ?_⟩
      have e : atomP grp (40 :: t) = grp t := by simp [atomP]
      simp only [Out, e]
      exact Ho.out
    have n40 := u8_ne (k := 40) (by omega) c40
    by_cases c94 : c = 94
    · subst c94
      obtain ⟨⟨r0, r1, r2, r3, r4, r5, r6, r7⟩, hz⟩ := R1.cells8
      have z0 := hz 0; have z1 := hz 1; have z2 := hz 2; have z3 := hz 3; have z4 := hz 4; have z5 := hz 5; have z6 := hz 6; have z7 := hz 7
      have lr := R1.lt
      clear hz
      have HR2 := Lib.hid R1; have H2 := Lib.hid h1; have HO2 := Lib.hid hO1
      clear R1 N1 h1 hO1
      go_wp2_with fail
      change bodyPost _ _ _ _ _ (writeX w1 w.heap.size (.mk 2 0 0 0 0 0 0 [], none, 0))
      have hfin := writeX_blk HR2.out (.mk 2 0 0 0 0 0 0 [], none, 0)
      obtain ⟨⟨y0, y1, y2, y3, y4, y5, y6, y7⟩, _⟩ := hfin.cells8
      have hRS := H2.out.boxW (b := w.heap.size) (by omega) (.mk 2 0 0 0 0 0 0 [], none, 0)
      have hOff := Off.boxW HO2.out (Nat.le_refl _) (.mk 2 0 0 0 0 0 0 [], none, 0)
      generalize writeX w1 w.heap.size (.mk 2 0 0 0 0 0 0 [], none, 0) = W3 at *
      exact bodyPost_ret (v := nodeV (.mk 2 0 0 0 0 0 0 []) none 0) (by simp [results, Tryd.results56, y0, y1, y2, y3, y4, y5, y6, y7, go_sem]) rfl ⟨(.mk 2 0 0 0 0 0 0 [], none, 0), _, rfl, row_leaf _ _ _ rfl, hRS, hOff, Out.good (by simp [atomP]) rfl⟩
    have n94 := u8_ne (k := 94) (by omega) c94
    by_cases c36 : c = 36
    · subst c36
      obtain ⟨⟨r0, r1, r2, r3, r4, r5, r6, r7⟩, hz⟩ := R1.cells8
      have z0 := hz 0; have z1 := hz 1; have z2 := hz 2; have z3 := hz 3; have z4 := hz 4; have z5 := hz 5; have z6 := hz 6; have z7 := hz 7
      have lr := R1.lt
      clear hz
      have HR2 := Lib.hid R1; have H2 := Lib.hid h1; have HO2 := Lib.hid hO1
      clear R1 N1 h1 hO1
      go_wp2_with fail
      change bodyPost _ _ _ _ _ (writeX w1 w.heap.size (.mk 3 0 0 0 0 0 0 [], none, 0))
      have hfin := writeX_blk HR2.out (.mk 3 0 0 0 0 0 0 [], none, 0)
      obtain ⟨⟨y0, y1, y2, y3, y4, y5, y6, y7⟩, _⟩ := hfin.cells8
      have hRS := H2.out.boxW (b := w.heap.size) (by omega) (.mk 3 0 0 0 0 0 0 [], none, 0)
      have hOff := Off.boxW HO2.out (Nat.le_refl _) (.mk 3 0 0 0 0 0 0 [], none, 0)
      generalize writeX w1 w.heap.size (.mk 3 0 0 0 0 0 0 [], none, 0) = W3 at *
      exact bodyPost_ret (v := nodeV (.mk 3 0 0 0 0 0 0 []) none 0) (by simp [results, Tryd.results56, y0, y1, y2, y3, y4, y5, y6, y7, go_sem]) rfl ⟨(.mk 3 0 0 0 0 0 0 [], none, 0), _, rfl, row_leaf _ _ _ rfl, hRS, hOff, Out.good (by simp [atomP]) rfl⟩
    have n36 := u8_ne (k := 36) (by omega) c36
    by_cases c91 : c = 91
    · subst c91
      go_wp2_with fail
      refine (HB.out _ rfl (by simp) w1 p op t h1 (by have := HL.out; simp only [Rs.rest, List.length_cons] at this; omega)).mono ?_
      rintro en w2 ⟨S, s', rfl, h2, hO2, ho⟩
      have Ho := Lib.hid ho; clear ho
      have R2 := hO2.blk R1 (by omega)
      have N2 := hO2.blk N1 (by omega)
      have hO2 := hO1.trans hO2
      have HS := Lib.hid N2
      obtain ⟨⟨_, g1, g2, g3, g4, _⟩, gz⟩ := N2.cells8
      have gz1 := gz 1; have gz2 := gz 2; have gz3 := gz 3; have gz4 := gz 4
      have ln := N2.lt
      obtain ⟨⟨r0, r1, r2, r3, r4, r5, r6, r7⟩, hz⟩ := R2.cells8
      obtain ⟨⟨f0, _, _, _, _, f5, f6, f7⟩, _⟩ := N2.cells8
      have z0 := hz 0; have z1 := hz 1; have z2 := hz 2; have z3 := hz 3; have z4 := hz 4; have z5 := hz 5; have z6 := hz 6; have z7 := hz 7
      have lr := R2.lt
      clear hz gz
      have HR2 := Lib.hid R2; have H2 := Lib.hid h2; have HO2 := Lib.hid hO2
      clear R2 N2 h2 hO2 R1 N1 h1 hO1
      go_upto_region 22 with fail
      change Code.wp _ _ _ _ (setW w2 (w.heap.size + 1) S)
      have R2 := HR2.out.keep (setW_other w2 (w.heap.size + 1) S w.heap.size (by omega))
      have N2 := setW_blk HS.out S
      have h2 := H2.out.fillW (b := w.heap.size + 1) (by omega) S
      have hO2 := Off.fillW HO2.out (b := w.heap.size + 1) (by omega) S
      clear r0 r1 r2 r3 r4 r5 r6 r7 f0 f5 f6 f7 g1 g2 g3 g4 gz1 gz2 gz3 gz4 z0 z1 z2 z3 z4 z5 z6 z7 lr ln HR2 H2 HO2 HS
      obtain ⟨x, hx⟩ : ∃ x : Nx, x = (S.T, none, 0) := ⟨_, rfl⟩
      rw [← hx] at N2
      have Hx := Lib.hid hx
      clear hx
      generalize setW w2 (w.heap.size + 1) S = W2 at *
      obtain ⟨⟨f0, f1, f2, f3, f4, f5, f6, f7⟩, _⟩ := N2.cells8
      obtain ⟨⟨r0, r1, r2, r3, r4, r5, r6, r7⟩, hz⟩ := R2.cells8
      have z0 := hz 0; have z1 := hz 1; have z2 := hz 2; have z3 := hz 3; have z4 := hz 4; have z5 := hz 5; have z6 := hz 6; have z7 := hz 7
      have lr := R2.lt
      have ln := N2.lt
      clear hz
      have HR2 := Lib.hid R2; have H2 := Lib.hid h2; have HO2 := Lib.hid hO2
      clear R2 N2 h2 hO2
      go_wp2_with fail
      change bodyPost _ _ _ _ _ (writeX W2 w.heap.size x)
      have hfin := writeX_blk HR2.out x
      obtain ⟨⟨y0, y1, y2, y3, y4, y5, y6, y7⟩, _⟩ := hfin.cells8
      have hRS := H2.out.boxW (b := w.heap.size) (by omega) x
      have hOff := Off.boxW HO2.out (Nat.le_refl _) x
      have hNod : RowAt (writeX W2 w.heap.size x) (fun b => w.heap.size ≤ b ∧ b < (writeX W2 w.heap.size x).heap.size) x.1 x.2.1 x.2.2 := by rw [Hx.out]; exact row_leaf _ _ _ rfl
      generalize writeX W2 w.heap.size x = W3 at *
      refine bodyPost_ret (v := nodeV x.1 x.2.1 x.2.2) (by simp [results, Tryd.results56, y0, y1, y2, y3, y4, y5, y6, y7, go_sem]) rfl ⟨x, _, rfl, hNod, hRS, hOff, ?_⟩
      have e : atomP grp (91 :: t) = (match bracketP t with | .error e => .error e | .ok (s, r1) => .ok (s.T, r1)) := by simp [atomP] <;> rfl
      have hho := Ho.out
      simp only [Out, e] at hho ⊢
      cases hb : bracketP t with
      | error e' => simp only [hb] at hho ⊢; exact hho
      | ok y => obtain ⟨S', r'⟩ := y; simp only [hb] at hho ⊢; obtain ⟨rfl, h'⟩ := hho; exact ⟨by rw [Hx.out], h'⟩
    have n91 := u8_ne (k := 91) (by omega) c91
    by_cases c46 : c = 46
    · subst c46
      go_wp2_with fail
      refine (HD.out _ rfl (by simp) w1).mono ?_
      rintro en w2 ⟨rfl, hb2⟩
      have h2 := h1.later hb2
      have hO2 : Off p w1 w2 := Off.of_below hb2
      generalize hS : w40.span 0 256 = S
      have HSe := Lib.hid hS; clear hS
      have R2 := hO2.blk R1 (by omega)
      have N2 := hO2.blk N1 (by omega)
      have hO2 := hO1.trans hO2
      have HS := Lib.hid N2
      obtain ⟨⟨_, g1, g2, g3, g4, _⟩, gz⟩ := N2.cells8
      have gz1 := gz 1; have gz2 := gz 2; have gz3 := gz 3; have gz4 := gz 4
      have ln := N2.lt
      obtain ⟨⟨r0, r1, r2, r3, r4, r5, r6, r7⟩, hz⟩ := R2.cells8
      obtain ⟨⟨f0, _, _, _, _, f5, f6, f7⟩, _⟩ := N2.cells8
      have z0 := hz 0; have z1 := hz 1; have z2 := hz 2; have z3 := hz 3; have z4 := hz 4; have z5 := hz 5; have z6 := hz 6; have z7 := hz 7
      have lr := R2.lt
      clear hz gz
      have HR2 := Lib.hid R2; have H2 := Lib.hid h2; have HO2 := Lib.hid hO2
      clear R2 N2 h2 hO2 R1 N1 h1 hO1
      go_upto_region 22 with fail
      change Code.wp _ _ _ _ (setW w2 (w.heap.size + 1) S)
      have R2 := HR2.out.keep (setW_other w2 (w.heap.size + 1) S w.heap.size (by omega))
      have N2 := setW_blk HS.out S
      have h2 := H2.out.fillW (b := w.heap.size + 1) (by omega) S
      have hO2 := Off.fillW HO2.out (b := w.heap.size + 1) (by omega) S
      clear r0 r1 r2 r3 r4 r5 r6 r7 f0 f5 f6 f7 g1 g2 g3 g4 gz1 gz2 gz3 gz4 z0 z1 z2 z3 z4 z5 z6 z7 lr ln HR2 H2 HO2 HS
      obtain ⟨x, hx⟩ : ∃ x : Nx, x = (S.T, none, 0) := ⟨_, rfl⟩
      rw [← hx] at N2
      have Hx := Lib.hid hx
      clear hx
      generalize setW w2 (w.heap.size + 1) S = W2 at *
      obtain ⟨⟨f0, f1, f2, f3, f4, f5, f6, f7⟩, _⟩ := N2.cells8
      obtain ⟨⟨r0, r1, r2, r3, r4, r5, r6, r7⟩, hz⟩ := R2.cells8
      have z0 := hz 0; have z1 := hz 1; have z2 := hz 2; have z3 := hz 3; have z4 := hz 4; have z5 := hz 5; have z6 := hz 6; have z7 := hz 7
      have lr := R2.lt
      have ln := N2.lt
      clear hz
      have HR2 := Lib.hid R2; have H2 := Lib.hid h2; have HO2 := Lib.hid hO2
      clear R2 N2 h2 hO2
      go_wp2_with fail
      change bodyPost _ _ _ _ _ (writeX W2 w.heap.size x)
      have hfin := writeX_blk HR2.out x
      obtain ⟨⟨y0, y1, y2, y3, y4, y5, y6, y7⟩, _⟩ := hfin.cells8
      have hRS := H2.out.boxW (b := w.heap.size) (by omega) x
      have hOff := Off.boxW HO2.out (Nat.le_refl _) x
      have hNod : RowAt (writeX W2 w.heap.size x) (fun b => w.heap.size ≤ b ∧ b < (writeX W2 w.heap.size x).heap.size) x.1 x.2.1 x.2.2 := by rw [Hx.out]; exact row_leaf _ _ _ rfl
      generalize writeX W2 w.heap.size x = W3 at *
      refine bodyPost_ret (v := nodeV x.1 x.2.1 x.2.2) (by simp [results, Tryd.results56, y0, y1, y2, y3, y4, y5, y6, y7, go_sem]) rfl ⟨x, _, rfl, hNod, hRS, hOff, ?_⟩
      exact Out.good (x := (w40.span 0 256).T) (by simp [atomP]) (by rw [Hx.out, HSe.out])
    have n46 := u8_ne (k := 46) (by omega) c46
    by_cases c42 : c = 42
    · subst c42
      go_wp2_with fail
      refine (fail_ok 104 (by omega) h1).mono ?_
      rintro en W2 ⟨rfl, h2, hO2⟩
      have R2 := hO2.blk R1 (by omega)
      have N2 := hO2.blk N1 (by omega)
      have hO2 := hO1.trans hO2
      obtain ⟨x, hx⟩ : ∃ x : Nx, x = (w40.T, none, 0) := ⟨_, rfl⟩
      rw [← hx] at N2
      have Hx := Lib.hid hx
      clear hx R1 N1 h1 hO1
      obtain ⟨⟨f0, f1, f2, f3, f4, f5, f6, f7⟩, _⟩ := N2.cells8
      obtain ⟨⟨r0, r1, r2, r3, r4, r5, r6, r7⟩, hz⟩ := R2.cells8
      have z0 := hz 0; have z1 := hz 1; have z2 := hz 2; have z3 := hz 3; have z4 := hz 4; have z5 := hz 5; have z6 := hz 6; have z7 := hz 7
      have lr := R2.lt
      have ln := N2.lt
      clear hz
      have HR2 := Lib.hid R2; have H2 := Lib.hid h2; have HO2 := Lib.hid hO2
      clear R2 N2 h2 hO2
      go_wp2_with fail
      change bodyPost _ _ _ _ _ (writeX W2 w.heap.size x)
      have hfin := writeX_blk HR2.out x
      obtain ⟨⟨y0, y1, y2, y3, y4, y5, y6, y7⟩, _⟩ := hfin.cells8
      have hRS := H2.out.boxW (b := w.heap.size) (by omega) x
      have hOff := Off.boxW HO2.out (Nat.le_refl _) x
      have hNod : RowAt (writeX W2 w.heap.size x) (fun b => w.heap.size ≤ b ∧ b < (writeX W2 w.heap.size x).heap.size) x.1 x.2.1 x.2.2 := by rw [Hx.out]; exact row_leaf _ _ _ rfl
      generalize writeX W2 w.heap.size x = W3 at *
      refine bodyPost_ret (v := nodeV x.1 x.2.1 x.2.2) (by simp [results, Tryd.results56, y0, y1, y2, y3, y4, y5, y6, y7, go_sem]) rfl ⟨x, _, rfl, hNod, hRS, hOff, ?_⟩
      exact Out.bad (by simp [atomP])
    have n42 := u8_ne (k := 42) (by omega) c42
    by_cases c43 : c = 43
    · subst c43
      go_wp2_with fail
      refine (fail_ok 104 (by omega) h1).mono ?_
      rintro en W2 ⟨rfl, h2, hO2⟩
      have R2 := hO2.blk R1 (by omega)
      have N2 := hO2.blk N1 (by omega)
      have hO2 := hO1.trans hO2
      obtain ⟨x, hx⟩ : ∃ x : Nx, x = (w40.T, none, 0) := ⟨_, rfl⟩
      rw [← hx] at N2
      have Hx := Lib.hid hx
      clear hx R1 N1 h1 hO1
      obtain ⟨⟨f0, f1, f2, f3, f4, f5, f6, f7⟩, _⟩ := N2.cells8
      obtain ⟨⟨r0, r1, r2, r3, r4, r5, r6, r7⟩, hz⟩ := R2.cells8
      have z0 := hz 0; have z1 := hz 1; have z2 := hz 2; have z3 := hz 3; have z4 := hz 4; have z5 := hz 5; have z6 := hz 6; have z7 := hz 7
      have lr := R2.lt
      have ln := N2.lt
      clear hz
      have HR2 := Lib.hid R2; have H2 := Lib.hid h2; have HO2 := Lib.hid hO2
      clear R2 N2 h2 hO2
      go_wp2_with fail
      change bodyPost _ _ _ _ _ (writeX W2 w.heap.size x)
      have hfin := writeX_blk HR2.out x
      obtain ⟨⟨y0, y1, y2, y3, y4, y5, y6, y7⟩, _⟩ := hfin.cells8
      have hRS := H2.out.boxW (b := w.heap.size) (by omega) x
      have hOff := Off.boxW HO2.out (Nat.le_refl _) x
      have hNod : RowAt (writeX W2 w.heap.size x) (fun b => w.heap.size ≤ b ∧ b < (writeX W2 w.heap.size x).heap.size) x.1 x.2.1 x.2.2 := by rw [Hx.out]; exact row_leaf _ _ _ rfl
      generalize writeX W2 w.heap.size x = W3 at *
      refine bodyPost_ret (v := nodeV x.1 x.2.1 x.2.2) (by simp [results, Tryd.results56, y0, y1, y2, y3, y4, y5, y6, y7, go_sem]) rfl ⟨x, _, rfl, hNod, hRS, hOff, ?_⟩
      exact Out.bad (by simp [atomP])
    have n43 := u8_ne (k := 43) (by omega) c43
    by_cases c63 : c = 63
    · subst c63
      go_wp2_with fail
      refine (fail_ok 104 (by omega) h1).mono ?_
      rintro en W2 ⟨rfl, h2, hO2⟩
      have R2 := hO2.blk R1 (by omega)
      have N2 := hO2.blk N1 (by omega)
      have hO2 := hO1.trans hO2
      obtain ⟨x, hx⟩ : ∃ x : Nx, x = (w40.T, none, 0) := ⟨_, rfl⟩
      rw [← hx] at N2
      have Hx := Lib.hid hx
      clear hx R1 N1 h1 hO1
      obtain ⟨⟨f0, f1, f2, f3, f4, f5, f6, f7⟩, _⟩ := N2.cells8
      obtain ⟨⟨r0, r1, r2, r3, r4, r5, r6, r7⟩, hz⟩ := R2.cells8
      have z0 := hz 0; have z1 := hz 1; have z2 := hz 2; have z3 := hz 3; have z4 := hz 4; have z5 := hz 5; have z6 := hz 6; have z7 := hz 7
      have lr := R2.lt
      have ln := N2.lt
      clear hz
      have HR2 := Lib.hid R2; have H2 := Lib.hid h2; have HO2 := Lib.hid hO2
      clear R2 N2 h2 hO2
      go_wp2_with fail
      change bodyPost _ _ _ _ _ (writeX W2 w.heap.size x)
      have hfin := writeX_blk HR2.out x
      obtain ⟨⟨y0, y1, y2, y3, y4, y5, y6, y7⟩, _⟩ := hfin.cells8
      have hRS := H2.out.boxW (b := w.heap.size) (by omega) x
      have hOff := Off.boxW HO2.out (Nat.le_refl _) x
      have hNod : RowAt (writeX W2 w.heap.size x) (fun b => w.heap.size ≤ b ∧ b < (writeX W2 w.heap.size x).heap.size) x.1 x.2.1 x.2.2 := by rw [Hx.out]; exact row_leaf _ _ _ rfl
      generalize writeX W2 w.heap.size x = W3 at *
      refine bodyPost_ret (v := nodeV x.1 x.2.1 x.2.2) (by simp [results, Tryd.results56, y0, y1, y2, y3, y4, y5, y6, y7, go_sem]) rfl ⟨x, _, rfl, hNod, hRS, hOff, ?_⟩
      exact Out.bad (by simp [atomP])
    have n63 := u8_ne (k := 63) (by omega) c63
    by_cases c123 : c = 123
    · subst c123
      go_wp2_with fail
      refine (fail_ok 104 (by omega) h1).mono ?_
      rintro en W2 ⟨rfl, h2, hO2⟩
      have R2 := hO2.blk R1 (by omega)
      have N2 := hO2.blk N1 (by omega)
      have hO2 := hO1.trans hO2
      obtain ⟨x, hx⟩ : ∃ x : Nx, x = (w40.T, none, 0) := ⟨_, rfl⟩
      rw [← hx] at N2
      have Hx := Lib.hid hx
      clear hx R1 N1 h1 hO1
      obtain ⟨⟨f0, f1, f2, f3, f4, f5, f6, f7⟩, _⟩ := N2.cells8
      obtain ⟨⟨r0, r1, r2, r3, r4, r5, r6, r7⟩, hz⟩ := R2.cells8
      have z0 := hz 0; have z1 := hz 1; have z2 := hz 2; have z3 := hz 3; have z4 := hz 4; have z5 := hz 5; have z6 := hz 6; have z7 := hz 7
      have lr := R2.lt
      have ln := N2.lt
      clear hz
      have HR2 := Lib.hid R2; have H2 := Lib.hid h2; have HO2 := Lib.hid hO2
      clear R2 N2 h2 hO2
      go_wp2_with fail
      change bodyPost _ _ _ _ _ (writeX W2 w.heap.size x)
      have hfin := writeX_blk HR2.out x
      obtain ⟨⟨y0, y1, y2, y3, y4, y5, y6, y7⟩, _⟩ := hfin.cells8
      have hRS := H2.out.boxW (b := w.heap.size) (by omega) x
      have hOff := Off.boxW HO2.out (Nat.le_refl _) x
      have hNod : RowAt (writeX W2 w.heap.size x) (fun b => w.heap.size ≤ b ∧ b < (writeX W2 w.heap.size x).heap.size) x.1 x.2.1 x.2.2 := by rw [Hx.out]; exact row_leaf _ _ _ rfl
      generalize writeX W2 w.heap.size x = W3 at *
      refine bodyPost_ret (v := nodeV x.1 x.2.1 x.2.2) (by simp [results, Tryd.results56, y0, y1, y2, y3, y4, y5, y6, y7, go_sem]) rfl ⟨x, _, rfl, hNod, hRS, hOff, ?_⟩
      exact Out.bad (by simp [atomP])
    have n123 := u8_ne (k := 123) (by omega) c123
    by_cases c92 : c = 92
    · subst c92
      rcases t with _ | ⟨y, t'⟩
      · go_wp2_with fail
        refine (next_end 106 (by omega) h1).mono ?_
        rintro en w3 ⟨rfl, h3, hO3⟩
        have R1 := hO3.blk R1 (by omega)
        have N1 := hO3.blk N1 (by omega)
        have hO1 := hO1.trans hO3
        have h1 := h3
        clear h3 hO3
        go_wp2_with fail
        refine (add_any w3 (w.heap.size + 1) 1 w40 0 (by omega) N1.at4 N1.froz).mono ?_
        rintro en w2 ⟨rfl, rfl⟩
        have R2 : BlkX (addW w3 (w.heap.size + 1) 1 w40 0).drew w.heap.size (xcell (.mk 0 0 0 0 0 0 0 [], none, 0)).toArray := R1.keep (addW_other _ _ _ _ _ _ (by omega))
        have N2 : BlkX (addW w3 (w.heap.size + 1) 1 w40 0).drew (w.heap.size + 1) (xcell ((w40.add 0).T, none, 0)).toArray := addW_blk N1 0 (by omega)
        have h2 := h1.putW (b := w.heap.size + 1) (by omega) 1 w40 0
        have hO2 := Off.putW hO1 (b := w.heap.size + 1) (by omega) 1 w40 0
        obtain ⟨x, hx⟩ : ∃ x : Nx, x = ((w40.add 0).T, none, 0) := ⟨_, rfl⟩
        rw [← hx] at N2
        have Hx := Lib.hid hx
        clear hx R1 N1 h1 hO1
        generalize (addW w3 (w.heap.size + 1) 1 w40 0).drew = W2 at *
        obtain ⟨⟨f0, f1, f2, f3, f4, f5, f6, f7⟩, _⟩ := N2.cells8
        obtain ⟨⟨r0, r1, r2, r3, r4, r5, r6, r7⟩, hz⟩ := R2.cells8
        have z0 := hz 0; have z1 := hz 1; have z2 := hz 2; have z3 := hz 3; have z4 := hz 4; have z5 := hz 5; have z6 := hz 6; have z7 := hz 7
        have lr := R2.lt
        have ln := N2.lt
        clear hz
        have HR2 := Lib.hid R2; have H2 := Lib.hid h2; have HO2 := Lib.hid hO2
        clear R2 N2 h2 hO2
        go_wp2_with fail
        change bodyPost _ _ _ _ _ (writeX W2 w.heap.size x)
        have hfin := writeX_blk HR2.out x
        obtain ⟨⟨y0, y1, y2, y3, y4, y5, y6, y7⟩, _⟩ := hfin.cells8
        have hRS := H2.out.boxW (b := w.heap.size) (by omega) x
        have hOff := Off.boxW HO2.out (Nat.le_refl _) x
        have hNod : RowAt (writeX W2 w.heap.size x) (fun b => w.heap.size ≤ b ∧ b < (writeX W2 w.heap.size x).heap.size) x.1 x.2.1 x.2.2 := by rw [Hx.out]; exact row_leaf _ _ _ rfl
        generalize writeX W2 w.heap.size x = W3 at *
        refine bodyPost_ret (v := nodeV x.1 x.2.1 x.2.2) (by simp [results, Tryd.results56, y0, y1, y2, y3, y4, y5, y6, y7, go_sem]) rfl ⟨x, _, rfl, hNod, hRS, hOff, ?_⟩
        exact Out.bad (by simp [atomP])
      · have hy := y.toNat_lt
        go_wp2_with fail
        refine (next_ok 106 (by omega) h1).mono ?_
        rintro en w3 ⟨rfl, h3, hO3⟩
        have R1 := hO3.blk R1 (by omega)
        have N1 := hO3.blk N1 (by omega)
        have hO1 := hO1.trans hO3
        have h1 := h3
        clear h3 hO3
        go_wp2_with fail
        refine (add_any w3 (w.heap.size + 1) 1 w40 y.toNat (by omega) N1.at4 N1.froz).mono ?_
        rintro en w2 ⟨rfl, rfl⟩
        have R2 : BlkX (addW w3 (w.heap.size + 1) 1 w40 y.toNat).drew w.heap.size (xcell (.mk 0 0 0 0 0 0 0 [], none, 0)).toArray := R1.keep (addW_other _ _ _ _ _ _ (by omega))
        have N2 : BlkX (addW w3 (w.heap.size + 1) 1 w40 y.toNat).drew (w.heap.size + 1) (xcell ((w40.add y.toNat).T, none, 0)).toArray := addW_blk N1 y.toNat (by omega)
        have h2 := h1.putW (b := w.heap.size + 1) (by omega) 1 w40 y.toNat
        have hO2 := Off.putW hO1 (b := w.heap.size + 1) (by omega) 1 w40 y.toNat
        obtain ⟨x, hx⟩ : ∃ x : Nx, x = ((w40.add y.toNat).T, none, 0) := ⟨_, rfl⟩
        rw [← hx] at N2
        have Hx := Lib.hid hx
        clear hx R1 N1 h1 hO1
        generalize (addW w3 (w.heap.size + 1) 1 w40 y.toNat).drew = W2 at *
        obtain ⟨⟨f0, f1, f2, f3, f4, f5, f6, f7⟩, _⟩ := N2.cells8
        obtain ⟨⟨r0, r1, r2, r3, r4, r5, r6, r7⟩, hz⟩ := R2.cells8
        have z0 := hz 0; have z1 := hz 1; have z2 := hz 2; have z3 := hz 3; have z4 := hz 4; have z5 := hz 5; have z6 := hz 6; have z7 := hz 7
        have lr := R2.lt
        have ln := N2.lt
        clear hz
        have HR2 := Lib.hid R2; have H2 := Lib.hid h2; have HO2 := Lib.hid hO2
        clear R2 N2 h2 hO2
        go_wp2_with fail
        change bodyPost _ _ _ _ _ (writeX W2 w.heap.size x)
        have hfin := writeX_blk HR2.out x
        obtain ⟨⟨y0, y1, y2, y3, y4, y5, y6, y7⟩, _⟩ := hfin.cells8
        have hRS := H2.out.boxW (b := w.heap.size) (by omega) x
        have hOff := Off.boxW HO2.out (Nat.le_refl _) x
        have hNod : RowAt (writeX W2 w.heap.size x) (fun b => w.heap.size ≤ b ∧ b < (writeX W2 w.heap.size x).heap.size) x.1 x.2.1 x.2.2 := by rw [Hx.out]; exact row_leaf _ _ _ rfl
        generalize writeX W2 w.heap.size x = W3 at *
        refine bodyPost_ret (v := nodeV x.1 x.2.1 x.2.2) (by simp [results, Tryd.results56, y0, y1, y2, y3, y4, y5, y6, y7, go_sem]) rfl ⟨x, _, rfl, hNod, hRS, hOff, ?_⟩
        exact Out.good (x := (w40.add y.toNat).T) (by simp [atomP]) (by rw [Hx.out])
    have n92 := u8_ne (k := 92) (by omega) c92
    have hy := c.toNat_lt
    have hres : atomP grp (c :: t) = .ok ((w40.add c.toNat).T, t) := by simp [atomP, c40, c94, c36, c91, c46, c42, c43, c63, c123, c92]
    have Hres := Lib.hid hres; clear hres c40 c94 c36 c91 c46 c42 c43 c63 c123 c92
    go_wp2_with fail
    refine (add_any w1 (w.heap.size + 1) 1 w40 c.toNat (by omega) N1.at4 N1.froz).mono ?_
    rintro en w2 ⟨rfl, rfl⟩
    have R2 : BlkX (addW w1 (w.heap.size + 1) 1 w40 c.toNat).drew w.heap.size (xcell (.mk 0 0 0 0 0 0 0 [], none, 0)).toArray := R1.keep (addW_other _ _ _ _ _ _ (by omega))
    have N2 : BlkX (addW w1 (w.heap.size + 1) 1 w40 c.toNat).drew (w.heap.size + 1) (xcell ((w40.add c.toNat).T, none, 0)).toArray := addW_blk N1 c.toNat (by omega)
    have h2 := h1.putW (b := w.heap.size + 1) (by omega) 1 w40 c.toNat
    have hO2 := Off.putW hO1 (b := w.heap.size + 1) (by omega) 1 w40 c.toNat
    obtain ⟨x, hx⟩ : ∃ x : Nx, x = ((w40.add c.toNat).T, none, 0) := ⟨_, rfl⟩
    rw [← hx] at N2
    have Hx := Lib.hid hx
    clear hx R1 N1 h1 hO1
    generalize (addW w1 (w.heap.size + 1) 1 w40 c.toNat).drew = W2 at *
    obtain ⟨⟨f0, f1, f2, f3, f4, f5, f6, f7⟩, _⟩ := N2.cells8
    obtain ⟨⟨r0, r1, r2, r3, r4, r5, r6, r7⟩, hz⟩ := R2.cells8
    have z0 := hz 0; have z1 := hz 1; have z2 := hz 2; have z3 := hz 3; have z4 := hz 4; have z5 := hz 5; have z6 := hz 6; have z7 := hz 7
    have lr := R2.lt
    have ln := N2.lt
    clear hz
    have HR2 := Lib.hid R2; have H2 := Lib.hid h2; have HO2 := Lib.hid hO2
    clear R2 N2 h2 hO2
    go_wp2_with fail
    change bodyPost _ _ _ _ _ (writeX W2 w.heap.size x)
    have hfin := writeX_blk HR2.out x
    obtain ⟨⟨y0, y1, y2, y3, y4, y5, y6, y7⟩, _⟩ := hfin.cells8
    have hRS := H2.out.boxW (b := w.heap.size) (by omega) x
    have hOff := Off.boxW HO2.out (Nat.le_refl _) x
    have hNod : RowAt (writeX W2 w.heap.size x) (fun b => w.heap.size ≤ b ∧ b < (writeX W2 w.heap.size x).heap.size) x.1 x.2.1 x.2.2 := by rw [Hx.out]; exact row_leaf _ _ _ rfl
    generalize writeX W2 w.heap.size x = W3 at *
    refine bodyPost_ret (v := nodeV x.1 x.2.1 x.2.2) (by simp [results, Tryd.results56, y0, y1, y2, y3, y4, y5, y6, y7, go_sem]) rfl ⟨x, _, rfl, hNod, hRS, hOff, ?_⟩
    exact Out.good (x := (w40.add c.toNat).T) Hres.out (by rw [Hx.out])

end Go.Proofs.YteekafkpeimhoaaDoor

/- The pattern reader's piece again, with rows. -/
set_option linter.unusedVariables false
set_option linter.unusedSimpArgs false
namespace Go.Proofs.YteekafkpeimhoaaDoor
open Go.RowKit

/-- Where the loop of piece stands. -/
def PieceI2 (p : Nat) (op : Int) (grp : Bs → PT) (s : Rs) (w : World) (bn : Nat) (wr : World) (n : Nat) : Prop :=
  ∃ (x : Nx) (s' : Rs), n = s'.rest.length + 1 ∧ BlkX wr w.heap.size (xcell (.mk 0 0 0 0 0 0 0 [], none, 0)).toArray ∧ BlkX wr bn (xcell x).toArray ∧ RowAt wr (fun b => w.heap.size < b ∧ b < wr.heap.size ∧ b ≠ bn) x.1 x.2.1 x.2.2 ∧ RS wr p op s' ∧ Off p w wr ∧
    ((∃ e, s' = .error e ∧ (s = .error e ∨ ∃ r, s = .ok r ∧ pieceP grp r = .error e)) ∨ ∃ r r' k, s = .ok r ∧ s' = .ok r' ∧ r'.length < k ∧ pieceP grp r = sufP k x.1 r')

/-- Within a round of piece: the new node's box, what it may become. -/
structure PieceR2 (p : Nat) (op : Int) (w wr : World) (bn : Nat) (t : T) (A : Option Addr) (c : Nat) (mm mx : Int) (s : Rs) (W : World) : Prop where
  R : BlkX W w.heap.size (xcell (.mk 0 0 0 0 0 0 0 [], none, 0)).toArray
  N : BlkX W bn (xcell (t, A, c)).toArray
  X : BlkX W (wr.heap.size + 1) (xcell (repT mm mx t, some ⟨wr.heap.size, 0, none⟩, 1)).toArray
  node : ∀ m n, RowAt W (fun b => w.heap.size < b ∧ b < wr.heap.size + 1 ∧ b ≠ bn) (repT m n t) (some ⟨wr.heap.size, 0, none⟩) 1
  x : RowAt W (fun b => w.heap.size < b ∧ b < wr.heap.size ∧ b ≠ bn) t A c
  S : RS W p op s
  O : Off p w W
theorem PieceR2.off {p : Nat} {op : Int} {w wr : World} {bn : Nat} {t : T} {A : Option Addr} {c : Nat} {mm mx : Int} {s : Rs} {W : World} (h : PieceR2 p op w wr bn t A c mm mx s W) {s' : Rs} {W' : World} (hp : p < w.heap.size) (hbn : w.heap.size < bn) (hwr : bn < wr.heap.size) (hO : Off p W W') (hS : RS W' p op s') : PieceR2 p op w wr bn t A c mm mx s' W' := by
  have lx := h.X.lt
  exact ⟨Off.blk hO h.R (by omega), Off.blk hO h.N (by omega), Off.blk hO h.X (by omega), fun m n => (h.node m n).mono fun b (hb : w.heap.size < b ∧ b < wr.heap.size + 1 ∧ b ≠ bn) => ⟨hb, Off.blockN hO (by omega) (by omega)⟩, h.x.mono fun b (hb : w.heap.size < b ∧ b < wr.heap.size ∧ b ≠ bn) => ⟨hb, Off.blockN hO (by omega) (by omega)⟩, hS, Off.trans h.O hO⟩
theorem PieceR2.put {p : Nat} {op : Int} {w wr : World} {bn : Nat} {t : T} {A : Option Addr} {c : Nat} {mm mx : Int} {s : Rs} {W : World} (h : PieceR2 p op w wr bn t A c mm mx s W) {m' n' : Int} {W' : World} (hp : p < w.heap.size) (hbn : w.heap.size < bn) (hwr : bn < wr.heap.size)
    (hX : BlkX W' (wr.heap.size + 1) (xcell (repT m' n' t, some ⟨wr.heap.size, 0, none⟩, 1)).toArray) (hz : W'.heap.size = W.heap.size) (hb : Below 0 W W') (hk : ∀ k, k ≠ wr.heap.size + 1 → W'.heap[k]? = W.heap[k]?) : PieceR2 p op w wr bn t A c m' n' s W' := by
  have lx := h.X.lt
  have hc : ∀ b o, b ≠ wr.heap.size + 1 → W'.cell? ⟨b, o, none⟩ = W.cell? ⟨b, o, none⟩ := fun b o hb => World.cell?_of_block (w := W) (a := ⟨b, o, none⟩) (hk b hb)
  exact ⟨h.R.keep (hk _ (by omega)), h.N.keep (hk _ (by omega)), hX, fun m n => (h.node m n).mono fun b (hb : w.heap.size < b ∧ b < wr.heap.size + 1 ∧ b ≠ bn) => ⟨hb, hk b (by omega)⟩, h.x.mono fun b (hb : w.heap.size < b ∧ b < wr.heap.size ∧ b ≠ bn) => ⟨hb, hk b (by omega)⟩, h.S.kept (by omega) (hk _ (by omega)) (hk _ (by omega)), Off.far h.O (b := wr.heap.size + 1) (by omega) hb.os hb.tape hb.output hz hk⟩
theorem PieceR2.set5 {p : Nat} {op : Int} {w wr : World} {bn : Nat} {t : T} {A : Option Addr} {c : Nat} {mm mx : Int} {s : Rs} {W : World} (h : PieceR2 p op w wr bn t A c mm mx s W) (hp : p < w.heap.size) (hbn : w.heap.size < bn) (hwr : bn < wr.heap.size) (m' : Int) : PieceR2 p op w wr bn t A c m' mx s (W.setCell ⟨wr.heap.size + 1, 5, none⟩ (.int .i64 m')) := by
  refine h.put hp hbn hwr ?_ (by simp) ((Below.refl 0 W).setCell (Nat.zero_le _) _) (fun k hk => Below.heap_setCell _ _ _ _ hk)
  have h1 := h.X.set 5 (.int .i64 m')
  simpa [xcell, repT, T.k, T.s0, T.s1, T.s2, T.s3, T.mn, T.mx, T.ps] using h1
theorem PieceR2.set6 {p : Nat} {op : Int} {w wr : World} {bn : Nat} {t : T} {A : Option Addr} {c : Nat} {mm mx : Int} {s : Rs} {W : World} (h : PieceR2 p op w wr bn t A c mm mx s W) (hp : p < w.heap.size) (hbn : w.heap.size < bn) (hwr : bn < wr.heap.size) (m' : Int) : PieceR2 p op w wr bn t A c mm m' s (W.setCell ⟨wr.heap.size + 1, 6, none⟩ (.int .i64 m')) := by
  refine h.put hp hbn hwr ?_ (by simp) ((Below.refl 0 W).setCell (Nat.zero_le _) _) (fun k hk => Below.heap_setCell _ _ _ _ hk)
  have h1 := h.X.set 6 (.int .i64 m')
  simpa [xcell, repT, T.k, T.s0, T.s1, T.s2, T.s3, T.mn, T.mx, T.ps] using h1
/-- The round's end: the new node is the node. -/
theorem PieceR2.done {p : Nat} {op : Int} {w wr : World} {bn : Nat} {t : T} {A : Option Addr} {c : Nat} {mm mx : Int} {s : Rs} {W : World} (h : PieceR2 p op w wr bn t A c mm mx s W) (hp : p < w.heap.size) (hbn : w.heap.size < bn) (hwr : bn < wr.heap.size) :
    (fun W' => BlkX W' w.heap.size (xcell (.mk 0 0 0 0 0 0 0 [], none, 0)).toArray ∧ BlkX W' bn (xcell (repT mm mx t, some ⟨wr.heap.size, 0, none⟩, 1)).toArray ∧ RowAt W' (fun b => w.heap.size < b ∧ b < W'.heap.size ∧ b ≠ bn) (repT mm mx t) (some ⟨wr.heap.size, 0, none⟩) 1 ∧ RS W' p op s ∧ Off p w W') (writeX W bn (repT mm mx t, some ⟨wr.heap.size, 0, none⟩, 1)) := by
  have lx := h.X.lt
  refine ⟨h.R.keep (writeX_other _ _ _ _ (by omega)), writeX_blk h.N _, (h.node mm mx).mono fun b (hb : w.heap.size < b ∧ b < wr.heap.size + 1 ∧ b ≠ bn) => ⟨⟨hb.1, by rw [writeX_size]; omega, hb.2.2⟩, (writeX_other _ _ _ _ hb.2.2)⟩, h.S.boxW (by omega) _, Off.boxW h.O (by omega) _⟩

set_option maxRecDepth 100000 in
set_option maxHeartbeats 4000000 in
theorem piece_any2 (w : World) (p : Nat) (op : Int) (s : Rs) (h : RS w p op s) (hs : s.rest.length ≤ 1024) (grp : Bs → PT) (hB : ∀ r, s = .ok r → 91 ∈ r → BrC) (hD : ∀ r, s = .ok r → 46 ∈ r → DotC)
    (hG : ∀ (w : World) (s : Rs), RS w p op s → s.rest.length ≤ 1024 → (∀ r, s = .ok r → 91 ∈ r → BrC) → (∀ r, s = .ok r → 46 ∈ r → DotC) → Calls Tryd.prog 67 #[.pointer (some ⟨p, 0, none⟩)] w fun en w' => GNode2 p op grp s w en w') :
    Calls Tryd.prog 42 #[.pointer (some ⟨p, 0, none⟩)] w fun en w' => GNode2 p op (pieceP grp) s w en w' := by
  have hlt := h.lt
  have hat : ∀ (w : World), RS w p op s → Calls Tryd.prog 56 #[.pointer (some ⟨p, 0, none⟩)] w fun en w' => GNode2 p op (atomP grp) s w en w' := fun w h => atom_any2 w p op s h hs grp hB hD hG
  have HA := Lib.hid hat; clear hat hB hD hG hs
  have H := Lib.hid h; clear h
  go_enter Tryd.func42, Tryd.ntmps42
  go_wp2_with fail
  generalize hW : w.alloc _ = W0
  have hB0 : Below w.heap.size w W0 := by subst hW; exact (Below.refl _ _).alloc (Nat.le_refl _) _
  have R0 : BlkX W0 w.heap.size (xcell (.mk 0 0 0 0 0 0 0 [], none, 0)).toArray := by subst hW; exact BlkX.new w _
  have hz0 : W0.heap.size = w.heap.size + 1 := by subst hW; simp
  clear hW
  refine (HA.out W0 (H.out.later hB0)).mono ?_
  rintro en w1 ⟨⟨t1, A1, c1⟩, s1, rfl, hx1, h1, hO1, ho1⟩
  have R1 := hO1.blk R0 (by omega)
  have hz1 := hO1.size
  have Hx1 := Lib.hid hx1; have Ho1 := Lib.hid ho1; have Hz0 := Lib.hid hz0
  have hz0' : w.heap.size < W0.heap.size := by omega
  clear hx1 ho1 hz0
  go_wp2_with fail
  generalize hW : w1.alloc _ = W1
  have hb1 : Below w1.heap.size w1 W1 := by subst hW; exact (Below.refl _ _).alloc (Nat.le_refl _) _
  have N1 : BlkX W1 w1.heap.size (xcell (t1, A1, c1)).toArray := by subst hW; exact BlkX.new w1 _
  have hz2 : w1.heap.size < W1.heap.size := by subst hW; simp
  have hI : PieceI2 p op grp s w w1.heap.size W1 (s1.rest.length + 1) := by
    refine ⟨(t1, A1, c1), s1, rfl, R1.keep (hb1.block _ R1.lt), N1, Hx1.out.mono fun b (hb : W0.heap.size ≤ b ∧ b < w1.heap.size) => ⟨⟨by omega, by omega, by omega⟩, hb1.block _ hb.2⟩, h1.later hb1, ((Off.of_below hB0).trans hO1).trans (Off.of_below hb1), ?_⟩
    have ho := Ho1.out
    rcases s with e | r
    · cases (show s1 = .error e from ho)
      exact .inl ⟨e, rfl, .inl rfl⟩
    · cases ha : atomP grp r with
      | error e =>
        simp only [Out, ha] at ho
        exact .inl ⟨e, ho, .inr ⟨r, rfl, by simp only [pieceP, ha]⟩⟩
      | ok y =>
        obtain ⟨n, r1⟩ := y
        simp only [Out, ha] at ho
        obtain ⟨rfl, rfl⟩ := ho
        exact .inr ⟨r, r1, r1.length + 1, rfl, rfl, by omega, by simp only [pieceP, ha]⟩
  have HI := Lib.hid hI
  generalize hbn : w1.heap.size = bn at *
  have hbw : w.heap.size < bn := by omega
  clear hW hI N1 R1 h1 hO1 hb1 Hx1 Ho1 Hz0 hz0' hz1 hbn hB0 R0
  go_loopg [] (s1.rest.length + 1) (fun n wr => PieceI2 p op grp s w bn wr n)
  case atStart => exact HI.out
  case round =>
    clear HI
    obtain ⟨⟨t, A, c⟩, s', hn, hR, hN, hX, hS, hO, hcase⟩ := hrel
    have Hn := Lib.hid hn; have HX := Lib.hid hX; have HC := Lib.hid hcase; have HN := Lib.hid hN; have HR := Lib.hid hR; have HS := Lib.hid hS; have HO := Lib.hid hO
    have ltn := hN.lt
    have lts := hS.lt
    obtain ⟨⟨f0, f1, f2, f3, f4, f5, f6, f7⟩, _⟩ := hN.cells8
    clear hn hX hcase hN hR hS hO
    go_wp2_with fail
    generalize hW : (wr.alloc _).alloc _ = W2
    have hP : PieceR2 p op w wr bn t A c 0 (-1) s' W2 := by
      obtain ⟨wa, ha⟩ : ∃ wa, wa = wr.alloc (.cells (xcells [(t, A, c)]).toArray 27) := ⟨_, rfl⟩
      have hza : wa.heap.size = wr.heap.size + 1 := by rw [ha]; simp
      have hba : Below wr.heap.size wr wa := by rw [ha]; exact (Below.refl _ _).alloc (Nat.le_refl _) _
      have h8 := at8_litX [(t, A, c)] ha 0 _ rfl
      have hW' : W2 = wa.alloc (.cells (xcell (repT 0 (-1) t, some ⟨wr.heap.size, 0, none⟩, 1)).toArray 27) := by rw [← hW, ha]; rfl
      have hbb : Below wa.heap.size wa W2 := by rw [hW']; exact (Below.refl _ _).alloc (Nat.le_refl _) _
      have hX := BlkX.new wa (xcell (repT 0 (-1) t, some ⟨wr.heap.size, 0, none⟩, 1)).toArray
      rw [← hW', hza] at hX
      have hbel : Below wr.heap.size wr W2 := hba.trans (hbb.mono hba.size)
      have hx : RowAt W2 (fun b => w.heap.size < b ∧ b < wr.heap.size ∧ b ≠ bn) t A c := HX.out.mono fun b hb => ⟨hb, hbel.block _ hb.2.1⟩
      refine ⟨HR.out.keep (hbel.block _ HR.out.lt), HN.out.keep (hbel.block _ HN.out.lt), hX, fun m n => ?_, hx, HS.out.later hbel, Off.trans HO.out (Off.of_below hbel)⟩
      have hblk : W2.heap[wr.heap.size]? = some (.cells (xcells [(t, A, c)]).toArray 27 (0, 0)) := (hbb.block _ (by omega)).trans (by rw [ha]; exact heap_alloc_new wr _)
      exact row_lit (repT m n t) [(t, A, c)] rfl (by simp) ⟨by omega, by omega, by omega⟩ hblk (fun y hy => by simp only [List.mem_singleton] at hy; subst hy; exact hx.mono fun b hb => ⟨⟨hb.1, by omega, hb.2.2⟩, rfl⟩)
    clear hW f0 f1 f2 f3 f4 f5 f6 f7 HR HN HX HS HO
    rcases s' with e | r'
    · go_wp2_with fail
      refine (take_err [42] (by simp) hP.S).mono ?_
      rintro en W3 ⟨rfl, h2, hO2⟩
      have hP := hP.off hlt hbw ltn hO2 h2
      clear h2 hO2
      go_wp2_with fail
      refine (take_err [43] (by simp) hP.S).mono ?_
      rintro en W4 ⟨rfl, h2, hO2⟩
      have hP := hP.off hlt hbw ltn hO2 h2
      clear h2 hO2
      go_wp2_with fail
      refine (take_err [63] (by simp) hP.S).mono ?_
      rintro en W5 ⟨rfl, h2, hO2⟩
      have hP := hP.off hlt hbw ltn hO2 h2
      clear h2 hO2
      go_wp2_with fail
      refine (take_err [123] (by simp) hP.S).mono ?_
      rintro en W6 ⟨rfl, h2, hO2⟩
      have hP := hP.off hlt hbw ltn hO2 h2
      clear h2 hO2
      obtain ⟨⟨n0, n1, n2, n3, n4, n5, n6, n7⟩, _⟩ := hP.N.cells8
      have ln := hP.N.lt
      obtain ⟨⟨r0, r1_, r2_, r3, r4, r5, r6, r7⟩, hz⟩ := hP.R.cells8
      have z0 := hz 0; have z1 := hz 1; have z2 := hz 2; have z3 := hz 3; have z4 := hz 4; have z5 := hz 5; have z6 := hz 6; have z7 := hz 7
      have lr := hP.R.lt
      clear hz
      have HP := Lib.hid hP; clear hP
      go_wp2_with fail
      change bodyPost _ _ _ _ _ (writeX W6 w.heap.size (t, A, c))
      have hfin := writeX_blk HP.out.R (t, A, c)
      obtain ⟨⟨y0, y1, y2, y3, y4, y5, y6, y7⟩, _⟩ := hfin.cells8
      have hRS := HP.out.S.boxW (b := w.heap.size) (by omega) (t, A, c)
      have hOff := Off.boxW HP.out.O (Nat.le_refl _) (t, A, c)
      have hlw := HP.out.X.lt
      have hNod : RowAt (writeX W6 w.heap.size (t, A, c)) (fun b => w.heap.size ≤ b ∧ b < (writeX W6 w.heap.size (t, A, c)).heap.size) t A c := HP.out.x.mono fun k (hk : w.heap.size < k ∧ k < wr.heap.size ∧ k ≠ bn) => ⟨⟨by omega, by rw [writeX_size]; omega⟩, (writeX_other _ _ _ _ (show k ≠ w.heap.size by omega))⟩
      generalize writeX W6 w.heap.size (t, A, c) = W3 at *
      refine bodyPost_ret (v := nodeV t A c) (by simp [results, Tryd.results42, y0, y1, y2, y3, y4, y5, y6, y7, go_sem]) rfl ⟨(t, A, c), _, rfl, hNod, hRS, hOff, ?_⟩
      rcases HC.out with ⟨e', he, hs⟩ | ⟨r, r', k, _, he, _⟩
      · cases he
        rcases hs with rfl | ⟨r, rfl, hp⟩
        · exact Out.err
        · exact Out.bad hp
      · cases he
    · have hcs : ∃ r k, s = .ok r ∧ r'.length < k + 1 ∧ pieceP grp r = sufP (k + 1) t r' := by
        rcases HC.out with ⟨e', he, hs⟩ | ⟨r, r2, k, hs, he, hk, hpp⟩
        · cases he
        · cases he
          obtain ⟨k', rfl⟩ : ∃ k', k = k' + 1 := ⟨k - 1, by omega⟩
          exact ⟨r, k', hs, hk, hpp⟩
      obtain ⟨r, k, hsr, hk, hpp⟩ := hcs
      have Hpp := Lib.hid hpp; have Hsr := Lib.hid hsr; clear hpp hsr HC
      rcases ht : takeP [42] r' with _ | r2
      case' some =>
        have hsu : sufP (k + 1) t r' = sufP k (repT (0) (-1) t) r2 := by rw [sufP]; simp only [ht]
        have hl := takeP_len ht
        simp only [List.length_cons, List.length_nil] at hl
        have Hsu := Lib.hid hsu; have Ht := Lib.hid ht; clear hsu ht
        go_wp2_with fail
        refine (take_hit [42] (by simp) Ht.out hP.S).mono ?_
        rintro en W3 ⟨rfl, h2, hO2⟩
        have hP := hP.off hlt hbw ltn hO2 h2
        clear h2 hO2
        obtain ⟨⟨n0, n1, n2, n3, n4, n5, n6, n7⟩, hz⟩ := hP.N.cells8
        have zn0 := hz 0; have zn1 := hz 1; have zn2 := hz 2; have zn3 := hz 3; have zn4 := hz 4; have zn5 := hz 5; have zn6 := hz 6; have zn7 := hz 7
        have ln := hP.N.lt
        clear hz
        obtain ⟨⟨x0, x1, x2, x3, x4, x5, x6, x7⟩, hz⟩ := hP.X.cells8
        have zx5 := hz 5; have zx6 := hz 6
        have lx := hP.X.lt
        clear hz
        have HP := Lib.hid hP; clear hP
        go_wp2_with fail
        go_roundg (r2.length + 1)
        case measure => have := Hn.out; simp only [Rs.rest] at this; omega
        case rel =>
          obtain ⟨d1, d2, d3, d4, d5⟩ := HP.out.done hlt hbw ltn
          exact ⟨(repT (0) (-1) t, some ⟨wr.heap.size, 0, none⟩, 1), .ok r2, rfl, d1, d2, d3, d4, d5, (.inr ⟨r, r2, k, Hsr.out, rfl, by omega, by rw [Hpp.out, Hsu.out]⟩)⟩
      have Ht42 := Lib.hid ht; clear ht
      rcases ht : takeP [43] r' with _ | r2
      case' some =>
        have hsu : sufP (k + 1) t r' = sufP k (repT (1) (-1) t) r2 := by rw [sufP]; simp only [Ht42.out, ht]
        have hl := takeP_len ht
        simp only [List.length_cons, List.length_nil] at hl
        have Hsu := Lib.hid hsu; have Ht := Lib.hid ht; clear hsu ht
        go_wp2_with fail
        refine (take_miss [42] (by simp) Ht42.out hP.S).mono ?_
        rintro en W3 ⟨rfl, h2, hO2⟩
        have hP := hP.off hlt hbw ltn hO2 h2
        clear h2 hO2
        go_wp2_with fail
        refine (take_hit [43] (by simp) Ht.out hP.S).mono ?_
        rintro en W4 ⟨rfl, h2, hO2⟩
        have hP := hP.off hlt hbw ltn hO2 h2
        clear h2 hO2
        obtain ⟨⟨n0, n1, n2, n3, n4, n5, n6, n7⟩, hz⟩ := hP.N.cells8
        have zn0 := hz 0; have zn1 := hz 1; have zn2 := hz 2; have zn3 := hz 3; have zn4 := hz 4; have zn5 := hz 5; have zn6 := hz 6; have zn7 := hz 7
        have ln := hP.N.lt
        clear hz
        obtain ⟨⟨x0, x1, x2, x3, x4, x5, x6, x7⟩, hz⟩ := hP.X.cells8
        have zx5 := hz 5; have zx6 := hz 6
        have lx := hP.X.lt
        clear hz
        have HP := Lib.hid (hP.set5 hlt hbw ltn 1); clear hP
        go_wp2_with fail
        go_roundg (r2.length + 1)
        case measure => have := Hn.out; simp only [Rs.rest] at this; omega
        case rel =>
          obtain ⟨d1, d2, d3, d4, d5⟩ := HP.out.done hlt hbw ltn
          exact ⟨(repT (1) (-1) t, some ⟨wr.heap.size, 0, none⟩, 1), .ok r2, rfl, d1, d2, d3, d4, d5, (.inr ⟨r, r2, k, Hsr.out, rfl, by omega, by rw [Hpp.out, Hsu.out]⟩)⟩
      have Ht43 := Lib.hid ht; clear ht
      rcases ht : takeP [63] r' with _ | r2
      case' some =>
        have hsu : sufP (k + 1) t r' = sufP k (repT (0) (1) t) r2 := by rw [sufP]; simp only [Ht42.out, Ht43.out, ht]
        have hl := takeP_len ht
        simp only [List.length_cons, List.length_nil] at hl
        have Hsu := Lib.hid hsu; have Ht := Lib.hid ht; clear hsu ht
        go_wp2_with fail
        refine (take_miss [42] (by simp) Ht42.out hP.S).mono ?_
        rintro en W3 ⟨rfl, h2, hO2⟩
        have hP := hP.off hlt hbw ltn hO2 h2
        clear h2 hO2
        go_wp2_with fail
        refine (take_miss [43] (by simp) Ht43.out hP.S).mono ?_
        rintro en W4 ⟨rfl, h2, hO2⟩
        have hP := hP.off hlt hbw ltn hO2 h2
        clear h2 hO2
        go_wp2_with fail
        refine (take_hit [63] (by simp) Ht.out hP.S).mono ?_
        rintro en W5 ⟨rfl, h2, hO2⟩
        have hP := hP.off hlt hbw ltn hO2 h2
        clear h2 hO2
        obtain ⟨⟨n0, n1, n2, n3, n4, n5, n6, n7⟩, hz⟩ := hP.N.cells8
        have zn0 := hz 0; have zn1 := hz 1; have zn2 := hz 2; have zn3 := hz 3; have zn4 := hz 4; have zn5 := hz 5; have zn6 := hz 6; have zn7 := hz 7
        have ln := hP.N.lt
        clear hz
        obtain ⟨⟨x0, x1, x2, x3, x4, x5, x6, x7⟩, hz⟩ := hP.X.cells8
        have zx5 := hz 5; have zx6 := hz 6
        have lx := hP.X.lt
        clear hz
        have HP := Lib.hid (hP.set6 hlt hbw ltn 1); clear hP
        go_wp2_with fail
        go_roundg (r2.length + 1)
        case measure => have := Hn.out; simp only [Rs.rest] at this; omega
        case rel =>
          obtain ⟨d1, d2, d3, d4, d5⟩ := HP.out.done hlt hbw ltn
          exact ⟨(repT (0) (1) t, some ⟨wr.heap.size, 0, none⟩, 1), .ok r2, rfl, d1, d2, d3, d4, d5, (.inr ⟨r, r2, k, Hsr.out, rfl, by omega, by rw [Hpp.out, Hsu.out]⟩)⟩
      have Ht63 := Lib.hid ht; clear ht
      rcases ht : takeP [123] r' with _ | r1
      case' none =>
        have hsu : sufP (k + 1) t r' = .ok (t, r') := by rw [sufP]; simp only [Ht42.out, Ht43.out, Ht63.out, ht]
        have Hsu := Lib.hid hsu; have Ht := Lib.hid ht; clear hsu ht
        go_wp2_with fail
        refine (take_miss [42] (by simp) Ht42.out hP.S).mono ?_
        rintro en W3 ⟨rfl, h2, hO2⟩
        have hP := hP.off hlt hbw ltn hO2 h2
        clear h2 hO2
        go_wp2_with fail
        refine (take_miss [43] (by simp) Ht43.out hP.S).mono ?_
        rintro en W4 ⟨rfl, h2, hO2⟩
        have hP := hP.off hlt hbw ltn hO2 h2
        clear h2 hO2
        go_wp2_with fail
        refine (take_miss [63] (by simp) Ht63.out hP.S).mono ?_
        rintro en W5 ⟨rfl, h2, hO2⟩
        have hP := hP.off hlt hbw ltn hO2 h2
        clear h2 hO2
        go_wp2_with fail
        refine (take_miss [123] (by simp) Ht.out hP.S).mono ?_
        rintro en W6 ⟨rfl, h2, hO2⟩
        have hP := hP.off hlt hbw ltn hO2 h2
        clear h2 hO2
        obtain ⟨⟨n0, n1, n2, n3, n4, n5, n6, n7⟩, _⟩ := hP.N.cells8
        have ln := hP.N.lt
        obtain ⟨⟨r0, r1_, r2_, r3, r4, r5, r6, r7⟩, hz⟩ := hP.R.cells8
        have z0 := hz 0; have z1 := hz 1; have z2 := hz 2; have z3 := hz 3; have z4 := hz 4; have z5 := hz 5; have z6 := hz 6; have z7 := hz 7
        have lr := hP.R.lt
        clear hz
        have HP := Lib.hid hP; clear hP
        go_wp2_with fail
        change bodyPost _ _ _ _ _ (writeX W6 w.heap.size (t, A, c))
        have hfin := writeX_blk HP.out.R (t, A, c)
        obtain ⟨⟨y0, y1, y2, y3, y4, y5, y6, y7⟩, _⟩ := hfin.cells8
        have hRS := HP.out.S.boxW (b := w.heap.size) (by omega) (t, A, c)
        have hOff := Off.boxW HP.out.O (Nat.le_refl _) (t, A, c)
        have hlw := HP.out.X.lt
        have hNod : RowAt (writeX W6 w.heap.size (t, A, c)) (fun b => w.heap.size ≤ b ∧ b < (writeX W6 w.heap.size (t, A, c)).heap.size) t A c := HP.out.x.mono fun k (hk : w.heap.size < k ∧ k < wr.heap.size ∧ k ≠ bn) => ⟨⟨by omega, by rw [writeX_size]; omega⟩, (writeX_other _ _ _ _ (show k ≠ w.heap.size by omega))⟩
        generalize writeX W6 w.heap.size (t, A, c) = W3 at *
        refine bodyPost_ret (v := nodeV t A c) (by simp [results, Tryd.results42, y0, y1, y2, y3, y4, y5, y6, y7, go_sem]) rfl ⟨(t, A, c), _, rfl, hNod, hRS, hOff, ?_⟩
        rw [Hsr.out]
        exact Out.good (by rw [Hpp.out, Hsu.out]) rfl
      have hl := takeP_len ht
      simp only [List.length_cons, List.length_nil] at hl
      have Ht := Lib.hid ht; clear ht
      go_wp2_with fail
      refine (take_miss [42] (by simp) Ht42.out hP.S).mono ?_
      rintro en W3 ⟨rfl, h2, hO2⟩
      have hP := hP.off hlt hbw ltn hO2 h2
      clear h2 hO2
      go_wp2_with fail
      refine (take_miss [43] (by simp) Ht43.out hP.S).mono ?_
      rintro en W4 ⟨rfl, h2, hO2⟩
      have hP := hP.off hlt hbw ltn hO2 h2
      clear h2 hO2
      go_wp2_with fail
      refine (take_miss [63] (by simp) Ht63.out hP.S).mono ?_
      rintro en W5 ⟨rfl, h2, hO2⟩
      have hP := hP.off hlt hbw ltn hO2 h2
      clear h2 hO2
      go_wp2_with fail
      refine (take_hit [123] (by simp) Ht.out hP.S).mono ?_
      rintro en W6 ⟨rfl, h2, hO2⟩
      have hP := hP.off hlt hbw ltn hO2 h2
      clear h2 hO2
      go_wp2_with fail
      refine (interval_any _ p op _ hP.S).mono ?_
      rintro en W7 ⟨m, x, s7, rfl, h7, hO7, ho7⟩
      have hP := hP.off hlt hbw ltn hO7 h7
      clear h7 hO7
      have hcase : s7.rest.length < r'.length ∧ ((∃ e, s7 = .error e ∧ (s = .error e ∨ ∃ r, s = .ok r ∧ pieceP grp r = .error e)) ∨ ∃ r r' k, s = .ok r ∧ s7 = .ok r' ∧ r'.length < k ∧ pieceP grp r = sufP k (repT m x t) r') := by
        cases hi : intervalP r1 with
        | error e =>
          simp only [hi] at ho7
          subst ho7
          exact ⟨by simp only [Rs.rest, List.length_nil]; omega, .inl ⟨e, rfl, .inr ⟨r, Hsr.out, by rw [Hpp.out, sufP]; simp only [Ht42.out, Ht43.out, Ht63.out, Ht.out, hi]⟩⟩⟩
        | ok y =>
          obtain ⟨a, b, r2⟩ := y
          simp only [hi] at ho7
          obtain ⟨rfl, rfl, rfl⟩ := ho7
          have := interval_len hi
          exact ⟨by simp only [Rs.rest]; omega, .inr ⟨r, r2, k, Hsr.out, rfl, by omega, by rw [Hpp.out, sufP]; simp only [Ht42.out, Ht43.out, Ht63.out, Ht.out, hi]⟩⟩
      have HCA := Lib.hid hcase
      clear hcase ho7
      obtain ⟨⟨n0, n1, n2, n3, n4, n5, n6, n7⟩, hz⟩ := hP.N.cells8
      have zn0 := hz 0; have zn1 := hz 1; have zn2 := hz 2; have zn3 := hz 3; have zn4 := hz 4; have zn5 := hz 5; have zn6 := hz 6; have zn7 := hz 7
      have ln := hP.N.lt
      clear hz
      obtain ⟨⟨x0, x1, x2, x3, x4, x5, x6, x7⟩, hz⟩ := hP.X.cells8
      have zx5 := hz 5; have zx6 := hz 6
      have lx := hP.X.lt
      clear hz
      have HP := Lib.hid ((hP.set5 hlt hbw ltn m).set6 hlt hbw ltn x); clear hP
      go_wp2_with fail
      go_roundg (s7.rest.length + 1)
      case measure => have := Hn.out; have := HCA.out.1; simp only [Rs.rest] at *; omega
      case rel =>
        obtain ⟨d1, d2, d3, d4, d5⟩ := HP.out.done hlt hbw ltn
        exact ⟨(repT m x t, some ⟨wr.heap.size, 0, none⟩, 1), s7, rfl, d1, d2, d3, d4, d5, HCA.out.2⟩

end Go.Proofs.YteekafkpeimhoaaDoor

/- The pattern reader's row again, with rows. -/
set_option linter.unusedVariables false
set_option linter.unusedSimpArgs false
namespace Go.Proofs.YteekafkpeimhoaaDoor
open Go.RowKit

/-- A list of nodes that a call lays, in its own row; beside the result's box and the reader. -/
structure LstR2 (p : Nat) (op : Int) (w : World) (n : Nat) (ns : List Nx) (Av : Option Addr) (cv : Nat) (s : Rs) (wr : World) : Prop where
  len : ns.length = n
  R : BlkX wr w.heap.size (xcell (.mk 0 0 0 0 0 0 0 [], none, 0)).toArray
  own : wr.ownsRow (w.heap.size + 1) 27 8 (.slice Av n cv) n (xcells ns)
  nodes : ∀ x ∈ ns, RowAt wr (fun b => w.heap.size < b ∧ b < wr.heap.size ∧ some b ≠ (Value.slice Av n cv).ownBlock) x.1 x.2.1 x.2.2
  S : RS wr p op s
  O : Off p w wr
theorem LstR2.off {p : Nat} {op : Int} {w : World} {n : Nat} {ns : List Nx} {Av : Option Addr} {cv : Nat} {s s' : Rs} {wr w1 : World} (h : LstR2 p op w n ns Av cv s wr) (hp : p < w.heap.size) (hO : Off p wr w1) (hS : RS w1 p op s') : LstR2 p op w n ns Av cv s' w1 := by
  have hz := hO.size
  refine ⟨h.len, Off.blk hO h.R (by omega), h.own.kept hO ?_, fun x hx => (h.nodes x hx).mono fun b (hb : w.heap.size < b ∧ b < wr.heap.size ∧ some b ≠ (Value.slice Av n cv).ownBlock) => ⟨⟨hb.1, by omega, hb.2.2⟩, Off.blockN hO hb.2.1 (by omega)⟩, hS, Off.trans h.O hO⟩
  cases hv : (Value.slice Av n cv).ownBlock with
  | none => exact .inl rfl
  | some k => have := h.own.lt k hv; exact .inr (by simp; omega)
theorem LstR2.push {p : Nat} {op : Int} {w : World} {n : Nat} {ns : List Nx} {Av A' : Option Addr} {cv c' : Nat} {s : Rs} {W w0 w2 : World} (h : LstR2 p op w n ns Av cv s W) (hp : p < w.heap.size) {B : Nat} (hB : w.heap.size < B) (hrow : ∀ k, (Value.slice Av n cv).ownBlock = some k → k < B) (x : Nx) (hx : RowAt W (fun b => B ≤ b ∧ b < W.heap.size) x.1 x.2.1 x.2.2)
    (h0 : Below W.heap.size W w0) (h1 : w2.ownsRow (w.heap.size + 1) 27 8 (.slice A' (n + 1) c') (n + 1) (xcells ns ++ xcell x)) (h2 : w0.grownBy w2 (Value.slice Av n cv).ownBlock) (h3 : (Value.slice A' (n + 1) c').ownBlock = (Value.slice Av n cv).ownBlock ∨ (Value.slice A' (n + 1) c').ownBlock = some w0.heap.size) :
    LstR2 p op w (n + 1) (ns ++ [x]) A' c' s w2 := by
  have hz0 := h0.size
  have hz2 := h2.size
  have hblk : ∀ b, b < W.heap.size → some b ≠ (Value.slice Av n cv).ownBlock → w2.heap[b]? = W.heap[b]? := fun b hb hne => (h2.block b (by omega) hne).trans (h0.block b hb)
  have hrow1 : ∀ k, (Value.slice Av n cv).ownBlock = some k → w.heap.size + 1 ≤ k := fun k hk => (h.own.lt k hk).1
  have hne : ∀ b, b < w.heap.size + 1 → some b ≠ (Value.slice Av n cv).ownBlock := fun b hb e => by have := hrow1 b e.symm; omega
  have hpW := h.S.lt
  refine ⟨by simp [h.len], h.R.keep (hblk _ h.R.lt (hne _ (by omega))), by rw [xcells_snoc]; exact h1, fun y hy => ?_, h.S.kept (by omega) (hblk p hpW (hne _ (by omega))) (hblk 0 (by omega) (hne _ (by omega))), ?_⟩
  · have key : ∀ b, w.heap.size < b → b < W.heap.size → some b ≠ (Value.slice Av n cv).ownBlock → (w.heap.size < b ∧ b < w2.heap.size ∧ some b ≠ (Value.slice A' (n + 1) c').ownBlock) ∧ w2.heap[b]? = W.heap[b]? := fun b hb1 hb2 hb3 => by
      refine ⟨⟨hb1, by omega, ?_⟩, (hblk b hb2 hb3)⟩
      rcases h3 with e | e
      · rw [e]; exact hb3
      · rw [e]; intro e'; simp only [Option.some.injEq] at e'; omega
    rcases List.mem_append.1 hy with hy | hy
    · exact (h.nodes y hy).mono fun b (hb : w.heap.size < b ∧ b < W.heap.size ∧ some b ≠ (Value.slice Av n cv).ownBlock) => key b hb.1 hb.2.1 hb.2.2
    · simp only [List.mem_singleton] at hy
      subst hy
      exact hx.mono fun b (hb : B ≤ b ∧ b < W.heap.size) => key b (by omega) hb.2 (fun e => by have := hrow b e.symm; omega)
  · have hO := h.O
    have hzW := hO.size
    exact ⟨(h2.os.trans h0.os).trans hO.os, (h2.tape.trans h0.tape).trans hO.tape, (h2.output.trans h0.output).trans hO.output, by omega, fun k hk hkp => (hblk k (by omega) (hne k (by omega))).trans (hO.block k hk hkp)⟩
/-- The list's own node. -/
theorem LstR2.node {p : Nat} {op : Int} {w : World} {n : Nat} {ns : List Nx} {Av : Option Addr} {cv : Nat} {s : Rs} {wr : World} (h : LstR2 p op w n ns Av cv s wr) (hn : 0 < n) (hn2 : n ≤ 1000000) (R : T) (hR : R.ps = ns.map (·.1)) : RowAt wr (fun b => w.heap.size < b ∧ b < wr.heap.size) R Av cv := row_own R ns hR h.len hn hn2 h.own (fun g h1 h2 => ⟨by omega, h2⟩) (fun x hx => (h.nodes x hx).mono fun b (hb : w.heap.size < b ∧ b < wr.heap.size ∧ some b ≠ _) => ⟨⟨hb.1, hb.2.1⟩, rfl⟩)
/-- The first node of a list, in memory. -/
theorem LstR2.first {p : Nat} {op : Int} {w : World} {n : Nat} {ns : List Nx} {Av : Option Addr} {cv : Nat} {s : Rs} {wr : World} (h : LstR2 p op w n ns Av cv s wr) (hn : 0 < n) : ∃ g x, Av = some ⟨g, 0, none⟩ ∧ ns[0]? = some x ∧ At8 wr g 0 x.1 x.2.1 x.2.2 ∧ g < wr.heap.size ∧ n ≤ cv ∧ RowAt wr (fun b => w.heap.size < b ∧ b < wr.heap.size) x.1 x.2.1 x.2.2 := by
  obtain ⟨g, hA, hg0, hg, hc⟩ : ∃ g, Av = some ⟨g, 0, none⟩ ∧ w.heap.size + 1 ≤ g ∧ g < wr.heap.size ∧ n ≤ cv := by
    rcases h.own.2 with ⟨_, h0⟩ | ⟨g, cap, cur, e, hb, hh, hcap, _⟩
    · omega
    · simp only [Value.slice.injEq] at e
      exact ⟨g, e.1, hb, by (rcases Nat.lt_or_ge g wr.heap.size with h' | h'; exact h'; rw [Array.getElem?_eq_none h'] at hh; simp at hh), by omega⟩
  subst hA
  have hl : 0 < ns.length := by rw [h.len]; exact hn
  refine ⟨g, ns[0], rfl, List.getElem?_eq_getElem hl, .ofX fun j hj => ?_, hg, hc, (h.nodes _ (List.getElem_mem hl)).mono fun b (hb : w.heap.size < b ∧ b < wr.heap.size ∧ some b ≠ _) => ⟨⟨hb.1, hb.2.1⟩, rfl⟩⟩
  have := h.own.cellAt j (by have := h.len; omega)
  rw [Nat.zero_add, this]
  have e := xcells_get ns 0 j hl hj
  simpa using e

/-- Where the loop of row stands. -/
def RowL2 (p : Nat) (op : Int) (grp : Bs → PT) (s : Rs) (w : World) (v : Value) (wr : World) (m : Nat) : Prop :=
  ∃ (n : Nat) (ns : List Nx) (Av : Option Addr) (cv : Nat) (s' : Rs), v = .slice Av n cv ∧ m = s'.rest.length + 1 ∧ n + s'.rest.length ≤ 1024 ∧ LstR2 p op w n ns Av cv s' wr ∧
    ((∃ e, s' = .error e ∧ (s = .error e ∨ ∃ r, s = .ok r ∧ rowP grp r = .error e)) ∨ ∃ r r' k, s = .ok r ∧ s' = .ok r' ∧ r' <:+ r ∧ r'.length < k ∧ piecesP grp (r.length + 1) [] r = piecesP grp k (ns.map fun x : Nx => x.1) r')
set_option maxRecDepth 100000 in
set_option maxHeartbeats 4000000 in
theorem prow_any2 (w : World) (p : Nat) (op : Int) (s : Rs) (h : RS w p op s) (hs : s.rest.length ≤ 1024) (grp : Bs → PT) (hgl : GrpLen grp) (hgs : GrpSuf grp) (hB : ∀ r, s = .ok r → 91 ∈ r → BrC) (hD : ∀ r, s = .ok r → 46 ∈ r → DotC)
    (hG : ∀ (w : World) (s : Rs), RS w p op s → s.rest.length ≤ 1024 → (∀ r, s = .ok r → 91 ∈ r → BrC) → (∀ r, s = .ok r → 46 ∈ r → DotC) → Calls Tryd.prog 67 #[.pointer (some ⟨p, 0, none⟩)] w fun en w' => GNode2 p op grp s w en w') :
    Calls Tryd.prog 30 #[.pointer (some ⟨p, 0, none⟩)] w fun en w' => GNode2 p op (rowP grp) s w en w' := by
  have hlt := h.lt
  have hpc : ∀ (w : World) (s : Rs), RS w p op s → s.rest.length ≤ 1024 → (∀ r, s = .ok r → 91 ∈ r → BrC) → (∀ r, s = .ok r → 46 ∈ r → DotC) → Calls Tryd.prog 42 #[.pointer (some ⟨p, 0, none⟩)] w fun en w' => GNode2 p op (pieceP grp) s w en w' := fun w s h hs hB hD => piece_any2 w p op s h hs grp hB hD hG
  have HP := Lib.hid hpc; have HB := Lib.hid hB; have HD := Lib.hid hD; have HGl := Lib.hid hgl; have HGs := Lib.hid hgs
  clear hpc hB hD hG hgl hgs
  have H := Lib.hid h; clear h
  go_enter Tryd.func30, Tryd.ntmps30
  go_wp2_with fail
  generalize hW : w.alloc _ = W0
  have hB0 : Below w.heap.size w W0 := by subst hW; exact (Below.refl _ _).alloc (Nat.le_refl _) _
  have R0 : BlkX W0 w.heap.size (xcell (.mk 0 0 0 0 0 0 0 [], none, 0)).toArray := by subst hW; exact BlkX.new w _
  clear hW
  have hI : RowL2 p op grp s w (.slice none 0 0) W0 (s.rest.length + 1) := by
    refine ⟨0, [], none, 0, s, rfl, rfl, by omega, ⟨rfl, R0, ⟨rfl, .inl ⟨rfl, rfl⟩⟩, fun x hx => by simp at hx, H.out.later hB0, Off.of_below hB0⟩, ?_⟩
    rcases s with e | r
    · exact .inl ⟨e, rfl, .inl rfl⟩
    · exact .inr ⟨r, r, r.length + 1, rfl, rfl, List.suffix_refl _, by omega, rfl⟩
  have HI := Lib.hid hI; clear hI hB0 R0
  go_loopg [3] (s.rest.length + 1) (fun m v wr => RowL2 p op grp s w v wr m)
  case atStart => exact HI.out
  case round =>
    clear HI
    obtain ⟨n, ns, Av, cv, s', rfl, hm, hnl, hL, hcase⟩ := hrel
    have c0 := hL.S.rdr.c0
    have lts := hL.S.lt
    have HL := Lib.hid hL; have HC := Lib.hid hcase; have Hm := Lib.hid hm
    clear hL hcase hm
    by_cases hgo : ∃ c t, s' = .ok (c :: t) ∧ c ≠ 124 ∧ c ≠ 41
    · obtain ⟨c, t, rfl, hc1, hc2⟩ := hgo
      simp only [Rs.rest] at c0 hnl
      have n1 : ((c.toNat : Int) != 124) = true := u8_neq (k := 124) (by omega) hc1
      have n2 : ((c.toNat : Int) != 41) = true := u8_neq (k := 41) (by omega) hc2
      obtain ⟨r, k, hsr, hsf, hk, hpp⟩ : ∃ r k, s = .ok r ∧ (c :: t) <:+ r ∧ (c :: t).length < k + 1 ∧ piecesP grp (r.length + 1) [] r = piecesP grp (k + 1) (ns.map fun x : Nx => x.1) (c :: t) := by
        rcases HC.out with ⟨e', he, _⟩ | ⟨r, r2, k, hs, he, hsf, hk, hpp⟩
        · cases he
        · cases he
          obtain ⟨k', rfl⟩ : ∃ k', k = k' + 1 := ⟨k - 1, by omega⟩
          exact ⟨r, k', hs, hsf, hk, hpp⟩
      have Hpp := Lib.hid hpp; have Hsr := Lib.hid hsr; have Hsf := Lib.hid hsf
      clear hpp hsr hsf HC
      have hres : piecesP grp (k + 1) (ns.map fun x : Nx => x.1) (c :: t) = match pieceP grp (c :: t) with | .error e => .error e | .ok (n, r1) => piecesP grp k ((ns.map fun x : Nx => x.1) ++ [n]) r1 := by
        rw [piecesP, ends_false hc1 hc2]; rfl
      have Hres := Lib.hid hres; clear hres hc1 hc2
      go_wp2_with fail
      refine (HP.out wr (.ok (c :: t)) HL.out.S (by simp only [Rs.rest]; omega) (fun r' e hr => HB.out r Hsr.out (by cases e; exact Hsf.out.mem hr)) (fun r' e hr => HD.out r Hsr.out (by cases e; exact Hsf.out.mem hr))).mono ?_
      rintro en w1 ⟨⟨t1, A1, c1⟩, s1, rfl, hx1, h1, hO1, ho1⟩
      have HL1 := Lib.hid (HL.out.off hlt hO1 h1)
      have Hx1 := Lib.hid hx1; have Ho1 := Lib.hid ho1; have HO1 := Lib.hid hO1
      have hz1 := hO1.size
      have hwr : w.heap.size < wr.heap.size := HL.out.R.lt
      clear hx1 ho1 hO1 h1 c0
      have hnews : ∀ ad, some (⟨w1.heap.size, 0, none⟩ : Addr) = some ad → ∀ j u, (xcell (t1, A1, c1))[j]? = some u → (w1.alloc (.cells (xcell (t1, A1, c1)).toArray 27)).cell? (ad.add j) = some u := fun ad e j u hu => by
        simp only [Option.some.injEq] at e
        subst e
        rw [addr_addX, World.cell?_alloc_new, Nat.zero_add]
        simpa using hu
      have Hnews := Lib.hid hnews; clear hnews
      go_wp2_with (at_builtin; refine wpList_append_fromX (w.heap.size + 1) rfl _ _ 25 27 _ 8 80 rfl Tryd.underlying25 Tryd.infoNodeX rfl (by omega) (by omega) (.slice Av n cv) n 1 (xcells ns) (xcell (t1, A1, c1)) (some ⟨w1.heap.size, 0, none⟩) 1 rfl rfl (by simp) rfl Hnews.out (xcell_one _) (HL1.out.own.alloc _) (by simp; omega) (by omega) (fun A5 c5 w5 ho5 hg5 hat5 => ?_); have HL5 := Lib.hid (HL1.out.push hlt hwr (fun k hk => (HL.out.own.lt k hk).2) (t1, A1, c1) Hx1.out ((Below.refl _ _).alloc (Nat.le_refl _) _) ho5 hg5 hat5); clear ho5 hg5 hat5)
      have hcs : s1.rest.length ≤ t.length ∧ ((∃ e, s1 = .error e ∧ (s = .error e ∨ ∃ r, s = .ok r ∧ rowP grp r = .error e)) ∨ ∃ r r' k, s = .ok r ∧ s1 = .ok r' ∧ r' <:+ r ∧ r'.length < k ∧ piecesP grp (r.length + 1) [] r = piecesP grp k ((ns ++ [(t1, A1, c1)]).map fun x : Nx => x.1) r') := by
        have hoo := Ho1.out
        cases hpc : pieceP grp (c :: t) with
        | error e =>
          simp only [Out, hpc] at hoo
          subst hoo
          exact ⟨by simp [Rs.rest], .inl ⟨e, rfl, .inr ⟨r, Hsr.out, by unfold rowP; rw [Hpp.out, Hres.out, hpc]⟩⟩⟩
        | ok y =>
          obtain ⟨n', r'⟩ := y
          simp only [Out, hpc] at hoo
          obtain ⟨rfl, rfl⟩ := hoo
          have hl := piece_len HGl.out hpc
          simp only [List.length_cons] at hl hk
          exact ⟨by simp only [Rs.rest]; omega, .inr ⟨r, r', k, Hsr.out, rfl, (piece_suf HGs.out hpc).trans Hsf.out, by omega, by rw [Hpp.out, Hres.out, hpc]; simp⟩⟩
      obtain ⟨hl1, hcs⟩ := hcs
      have HCS := Lib.hid hcs; clear hcs
      go_roundg (s1.rest.length + 1)
      case measure => have := Hm.out; simp only [Rs.rest, List.length_cons] at this; omega
      case rel => exact ⟨n + 1, _, A5, c5, s1, rfl, rfl, by simp only [List.length_cons] at hnl; omega, HL5.out, HCS.out⟩
    · have hfin : Out (rowP grp) s (fun t => joinT 4 (ns.map fun x : Nx => x.1) = t) s' := by
        rcases HC.out with ⟨e, rfl, rfl | ⟨r, rfl, hr⟩⟩ | ⟨r, r', k, rfl, rfl, _, hk, hpp⟩
        · exact Out.err
        · exact Out.bad hr
        · have he : endsRow r' = true := by
            rcases r' with _ | ⟨c, t⟩
            · rfl
            · by_cases h1 : c = 124
              · subst h1; rfl
              · by_cases h2 : c = 41
                · subst h2; rfl
                · exact absurd ⟨c, t, rfl, h1, h2⟩ hgo
          obtain ⟨k', rfl⟩ : ∃ k', k = k' + 1 := ⟨k - 1, by omega⟩
          refine Out.good (x := joinT 4 (ns.map fun x : Nx => x.1)) ?_ rfl
          unfold rowP
          rw [hpp, piecesP, if_pos he]
      have Hfin := Lib.hid hfin
      have hsh : s'.rest = [] ∨ (∃ t, s'.rest = 124 :: t) ∨ ∃ t, s'.rest = 41 :: t := by
        rcases s' with e | (_ | ⟨c, t⟩)
        · exact .inl rfl
        · exact .inl rfl
        · by_cases h1 : c = 124
          · subst h1; exact .inr (.inl ⟨t, rfl⟩)
          · by_cases h2 : c = 41
            · subst h2; exact .inr (.inr ⟨t, rfl⟩)
            · exact absurd ⟨c, t, rfl, h1, h2⟩ hgo
      clear hfin hgo HC Hm
      have hn3 : n = 0 ∨ n = 1 ∨ 2 ≤ n := by omega
      rcases hn3 with rfl | rfl | hn2
      · have hns : ns = [] := List.eq_nil_of_length_eq_zero HL.out.len
        subst hns
        obtain ⟨⟨r0, r1, r2, r3, r4, r5, r6, r7⟩, hz⟩ := HL.out.R.cells8
        have z0 := hz 0; have z1 := hz 1; have z2 := hz 2; have z3 := hz 3; have z4 := hz 4; have z5 := hz 5; have z6 := hz 6; have z7 := hz 7
        have lr := HL.out.R.lt
        clear hz
        rcases hsh with hr | ⟨t, hr⟩ | ⟨t, hr⟩
        all_goals
          rw [hr] at c0
          have Hr := Lib.hid hr; clear hr
          go_wp2_with fail
          change bodyPost _ _ _ _ _ (writeX wr w.heap.size (.mk 0 0 0 0 0 0 0 [], none, 0))
          have hfn := writeX_blk HL.out.R (.mk 0 0 0 0 0 0 0 [], none, 0)
          obtain ⟨⟨y0, y1, y2, y3, y4, y5, y6, y7⟩, _⟩ := hfn.cells8
          have hRS := HL.out.S.boxW (b := w.heap.size) (by omega) (.mk 0 0 0 0 0 0 0 [], none, 0)
          have hOff := Off.boxW HL.out.O (Nat.le_refl _) (.mk 0 0 0 0 0 0 0 [], none, 0)
          have hNod : RowAt (writeX wr w.heap.size (.mk 0 0 0 0 0 0 0 [], none, 0)) (fun b => w.heap.size ≤ b ∧ b < (writeX wr w.heap.size (.mk 0 0 0 0 0 0 0 [], none, 0)).heap.size) ((T.mk 0 0 0 0 0 0 0 [], none, 0) : Nx).1 ((T.mk 0 0 0 0 0 0 0 [], none, 0) : Nx).2.1 ((T.mk 0 0 0 0 0 0 0 [], none, 0) : Nx).2.2 := row_leaf _ _ _ rfl
          generalize writeX wr w.heap.size (.mk 0 0 0 0 0 0 0 [], none, 0) = W3 at *
          exact bodyPost_ret (v := nodeV ((T.mk 0 0 0 0 0 0 0 [], none, 0) : Nx).1 ((T.mk 0 0 0 0 0 0 0 [], none, 0) : Nx).2.1 ((T.mk 0 0 0 0 0 0 0 [], none, 0) : Nx).2.2) (by simp [results, Tryd.results30, y0, y1, y2, y3, y4, y5, y6, y7, go_sem]) rfl ⟨(.mk 0 0 0 0 0 0 0 [], none, 0), _, rfl, hNod, hRS, hOff, Hfin.out⟩
      · obtain ⟨g, ⟨t1, A1, c1⟩, rfl, hx, h8, hg, hcv, hnd⟩ := HL.out.first (by omega)
        have hj : joinT 4 (ns.map fun x : Nx => x.1) = t1 := by
          have hl := HL.out.len
          match ns, hl, hx with
          | [y], _, hx => simp at hx; subst hx; rfl
        have Hj := Lib.hid hj; have Hnd := Lib.hid hnd
        obtain ⟨f0, f1, f2, f3, f4, f5, f6, f7⟩ := h8
        simp only [Nat.zero_add] at f1 f2 f3 f4 f5 f6 f7
        clear hj hnd hx
        obtain ⟨⟨r0, r1, r2, r3, r4, r5, r6, r7⟩, hz⟩ := HL.out.R.cells8
        have z0 := hz 0; have z1 := hz 1; have z2 := hz 2; have z3 := hz 3; have z4 := hz 4; have z5 := hz 5; have z6 := hz 6; have z7 := hz 7
        have lr := HL.out.R.lt
        clear hz
        rcases hsh with hr | ⟨t, hr⟩ | ⟨t, hr⟩
        all_goals
          rw [hr] at c0
          have Hr := Lib.hid hr; clear hr
          go_wp2_with fail
          change bodyPost _ _ _ _ _ (writeX wr w.heap.size (t1, A1, c1))
          have hfn := writeX_blk HL.out.R (t1, A1, c1)
          obtain ⟨⟨y0, y1, y2, y3, y4, y5, y6, y7⟩, _⟩ := hfn.cells8
          have hRS := HL.out.S.boxW (b := w.heap.size) (by omega) (t1, A1, c1)
          have hOff := Off.boxW HL.out.O (Nat.le_refl _) (t1, A1, c1)
          have hNod : RowAt (writeX wr w.heap.size (t1, A1, c1)) (fun b => w.heap.size ≤ b ∧ b < (writeX wr w.heap.size (t1, A1, c1)).heap.size) (t1, A1, c1).1 (t1, A1, c1).2.1 (t1, A1, c1).2.2 := Hnd.out.mono fun k (hk : w.heap.size < k ∧ k < wr.heap.size) => ⟨⟨by omega, by rw [writeX_size]; exact hk.2⟩, (writeX_other _ _ _ _ (show k ≠ w.heap.size by omega))⟩
          generalize writeX wr w.heap.size (t1, A1, c1) = W3 at *
          exact bodyPost_ret (v := nodeV (t1, A1, c1).1 (t1, A1, c1).2.1 (t1, A1, c1).2.2) (by simp [results, Tryd.results30, y0, y1, y2, y3, y4, y5, y6, y7, go_sem]) rfl ⟨(t1, A1, c1), _, rfl, hNod, hRS, hOff, by have := Hfin.out; rw [Hj.out] at this; exact this⟩
      · obtain rfl : n = (ns.map fun x : Nx => x.1).length := by simp [HL.out.len]
        have hnd := HL.out.node (by omega) (by omega) (.mk 4 0 0 0 0 0 0 (ns.map fun x : Nx => x.1)) rfl
        have hj : joinT 4 (ns.map fun x : Nx => x.1) = .mk 4 0 0 0 0 0 0 (ns.map fun x : Nx => x.1) := by
          generalize ns.map (fun x : Nx => x.1) = l at hn2
          match l, hn2 with
          | a :: b :: l, _ => rfl
        have hb0 : (((ns.map fun x : Nx => x.1).length : Int) == 0) = false := by rw [beq_eq_false_iff_ne]; omega
        have hb1 : (((ns.map fun x : Nx => x.1).length : Int) == 1) = false := by rw [beq_eq_false_iff_ne]; omega
        have Hj := Lib.hid hj; have Hnd := Lib.hid hnd
        clear hj hnd
        generalize hl : (ns.map fun x : Nx => x.1) = l at *
        obtain ⟨⟨r0, r1, r2, r3, r4, r5, r6, r7⟩, hz⟩ := HL.out.R.cells8
        have z0 := hz 0; have z1 := hz 1; have z2 := hz 2; have z3 := hz 3; have z4 := hz 4; have z5 := hz 5; have z6 := hz 6; have z7 := hz 7
        have lr := HL.out.R.lt
        clear hz
        rcases hsh with hr | ⟨t, hr⟩ | ⟨t, hr⟩
        all_goals
          rw [hr] at c0
          have Hr := Lib.hid hr; clear hr
          go_wp2_with fail
          change bodyPost _ _ _ _ _ (writeX wr w.heap.size (.mk 4 0 0 0 0 0 0 l, Av, cv))
          have hfn := writeX_blk HL.out.R (.mk 4 0 0 0 0 0 0 l, Av, cv)
          obtain ⟨⟨y0, y1, y2, y3, y4, y5, y6, y7⟩, _⟩ := hfn.cells8
          have hRS := HL.out.S.boxW (b := w.heap.size) (by omega) (.mk 4 0 0 0 0 0 0 l, Av, cv)
          have hOff := Off.boxW HL.out.O (Nat.le_refl _) (.mk 4 0 0 0 0 0 0 l, Av, cv)
          have hNod : RowAt (writeX wr w.heap.size (.mk 4 0 0 0 0 0 0 l, Av, cv)) (fun b => w.heap.size ≤ b ∧ b < (writeX wr w.heap.size (.mk 4 0 0 0 0 0 0 l, Av, cv)).heap.size) ((T.mk 4 0 0 0 0 0 0 l, Av, cv) : Nx).1 ((T.mk 4 0 0 0 0 0 0 l, Av, cv) : Nx).2.1 ((T.mk 4 0 0 0 0 0 0 l, Av, cv) : Nx).2.2 := Hnd.out.mono fun k (hk : w.heap.size < k ∧ k < wr.heap.size) => ⟨⟨by omega, by rw [writeX_size]; exact hk.2⟩, (writeX_other _ _ _ _ (show k ≠ w.heap.size by omega))⟩
          generalize writeX wr w.heap.size (.mk 4 0 0 0 0 0 0 l, Av, cv) = W3 at *
          exact bodyPost_ret (v := nodeV ((T.mk 4 0 0 0 0 0 0 l, Av, cv) : Nx).1 ((T.mk 4 0 0 0 0 0 0 l, Av, cv) : Nx).2.1 ((T.mk 4 0 0 0 0 0 0 l, Av, cv) : Nx).2.2) (by simp [results, Tryd.results30, y0, y1, y2, y3, y4, y5, y6, y7, go_sem]) rfl ⟨(.mk 4 0 0 0 0 0 0 l, Av, cv), _, rfl, hNod, hRS, hOff, by have := Hfin.out; rw [Hj.out] at this; exact this⟩

end Go.Proofs.YteekafkpeimhoaaDoor

/- The pattern reader's choice again, with rows. -/
set_option linter.unusedVariables false
set_option linter.unusedSimpArgs false
namespace Go.Proofs.YteekafkpeimhoaaDoor
open Go.RowKit

/-- Where the loop of choice stands. -/
def ChoL2 (p : Nat) (op : Int) (grp : Bs → PT) (s : Rs) (w : World) (v : Value) (wr : World) (m : Nat) : Prop :=
  ∃ (n : Nat) (ns : List Nx) (Av : Option Addr) (cv : Nat) (s' : Rs), v = .slice Av n cv ∧ 1 ≤ n ∧ m = s'.rest.length + 1 ∧ n + s'.rest.length ≤ 1025 ∧ LstR2 p op w n ns Av cv s' wr ∧
    ((∃ e, s' = .error e ∧ (s = .error e ∨ ∃ r, s = .ok r ∧ choiceP grp r = .error e)) ∨ ∃ r r' k, s = .ok r ∧ s' = .ok r' ∧ r' <:+ r ∧ r'.length < k ∧ choiceP grp r = match altsP grp k (ns.map fun x : Nx => x.1) r' with | .error e => .error e | .ok (l, r2) => .ok (joinT 5 l, r2))

set_option maxRecDepth 100000 in
set_option maxHeartbeats 4000000 in
theorem choice_par2 (w : World) (p : Nat) (op : Int) (s : Rs) (h : RS w p op s) (hs : s.rest.length ≤ 1024) (grp : Bs → PT) (hgl : GrpLen grp) (hgs : GrpSuf grp) (hB : ∀ r, s = .ok r → 91 ∈ r → BrC) (hD : ∀ r, s = .ok r → 46 ∈ r → DotC)
    (hG : ∀ (w : World) (s : Rs), RS w p op s → s.rest.length ≤ 1024 → (∀ r, s = .ok r → 91 ∈ r → BrC) → (∀ r, s = .ok r → 46 ∈ r → DotC) → Calls Tryd.prog 67 #[.pointer (some ⟨p, 0, none⟩)] w fun en w' => GNode2 p op grp s w en w') :
    Calls Tryd.prog 17 #[.pointer (some ⟨p, 0, none⟩)] w fun en w' => GNode2 p op (choiceP grp) s w en w' := by
  have hlt := h.lt
  have hpc : ∀ (w : World) (s : Rs), RS w p op s → s.rest.length ≤ 1024 → (∀ r, s = .ok r → 91 ∈ r → BrC) → (∀ r, s = .ok r → 46 ∈ r → DotC) → Calls Tryd.prog 30 #[.pointer (some ⟨p, 0, none⟩)] w fun en w' => GNode2 p op (rowP grp) s w en w' := fun w s h hs hB hD => prow_any2 w p op s h hs grp hgl hgs hB hD hG
  have HP := Lib.hid hpc; have HB := Lib.hid hB; have HD := Lib.hid hD; have HGl := Lib.hid hgl; have HGs := Lib.hid hgs
  clear hpc hB hD hG hgl hgs
  have H := Lib.hid h; clear h
  go_enter Tryd.func17, Tryd.ntmps17
  go_wp2_with fail
  generalize hW : w.alloc _ = W0
  have hB0 : Below w.heap.size w W0 := by subst hW; exact (Below.refl _ _).alloc (Nat.le_refl _) _
  have R0 : BlkX W0 w.heap.size (xcell (.mk 0 0 0 0 0 0 0 [], none, 0)).toArray := by subst hW; exact BlkX.new w _
  have hz0 : w.heap.size + 1 ≤ W0.heap.size := by subst hW; simp
  clear hW
  refine (HP.out W0 s (H.out.later hB0) hs HB.out HD.out).mono ?_
  rintro en w1 ⟨⟨t1, A1, c1⟩, s1, rfl, hx1, h1, hO1, ho1⟩
  have R1 := Off.blk hO1 R0 (by omega)
  have hz1 := hO1.size
  have Hx1 := Lib.hid hx1; have Ho1 := Lib.hid ho1
  clear hx1 ho1
  go_wp2_with fail
  generalize hW : w1.alloc _ = W1
  have hb1 : Below w1.heap.size w1 W1 := by subst hW; exact (Below.refl _ _).alloc (Nat.le_refl _) _
  have hI : ChoL2 p op grp s w (.slice (some ⟨w1.heap.size, 0, none⟩) 1 1) W1 (s1.rest.length + 1) := by
    have hoo := Ho1.out
    have hl1 : s1.rest.length ≤ 1024 ∧ ((∃ e, s1 = .error e ∧ (s = .error e ∨ ∃ r, s = .ok r ∧ choiceP grp r = .error e)) ∨ ∃ r r' k, s = .ok r ∧ s1 = .ok r' ∧ r' <:+ r ∧ r'.length < k ∧ choiceP grp r = match altsP grp k ([(t1, A1, c1)].map fun x : Nx => x.1) r' with | .error e => .error e | .ok (l, r2) => .ok (joinT 5 l, r2)) := by
      rcases s with e | r
      · cases (show s1 = .error e from hoo)
        exact ⟨by simp [Rs.rest], .inl ⟨e, rfl, .inl rfl⟩⟩
      · cases hr : rowP grp r with
        | error e =>
          simp only [Out, hr] at hoo
          subst hoo
          exact ⟨by simp [Rs.rest], .inl ⟨e, rfl, .inr ⟨r, rfl, by unfold choiceP; rw [hr]⟩⟩⟩
        | ok y =>
          obtain ⟨n', r'⟩ := y
          simp only [Out, hr] at hoo
          obtain ⟨rfl, rfl⟩ := hoo
          have hl := row_len HGl.out hr
          simp only [Rs.rest] at hs ⊢
          exact ⟨by omega, .inr ⟨r, r', r'.length + 1, rfl, rfl, row_suf HGs.out hr, by omega, by unfold choiceP; rw [hr]; rfl⟩⟩
    refine ⟨1, [(t1, A1, c1)], _, 1, s1, rfl, by omega, rfl, by have := hl1.1; omega, ⟨rfl, R1.keep (hb1.block _ R1.lt), ?_, fun x hx => ?_, h1.later hb1, Off.trans (Off.trans (Off.of_below hB0) hO1) (Off.of_below hb1)⟩, hl1.2⟩
    · have h := World.ownsRow_lit (base := w.heap.size + 1) (e := 27) (size := 8) w1 (xcells [(t1, A1, c1)]).toArray 1 (by omega) (by simp [maxLen]) (by rfl)
      subst hW
      exact h
    · simp only [List.mem_singleton] at hx
      subst hx
      exact Hx1.out.mono fun b (hb : W0.heap.size ≤ b ∧ b < w1.heap.size) => ⟨⟨by omega, by have := hb1.size; omega, by simp [Value.ownBlock]; omega⟩, hb1.block _ hb.2⟩
  have HI := Lib.hid hI
  have hwb : w.heap.size < w1.heap.size := by omega
  generalize w1.heap.size = bl at *
  clear hI hB0 R0 R1 hW hb1 h1 hO1 hz1 hz0 Hx1 Ho1
  go_loopg [3] (s1.rest.length + 1) (fun m v wr => ChoL2 p op grp s w v wr m)
  case atStart => exact HI.out
  case round =>
    clear HI
    obtain ⟨n, ns, Av, cv, s', rfl, hn1, hm, hnl, hL, hcase⟩ := hrel
    have lts := hL.S.lt
    have HL := Lib.hid hL; have HC := Lib.hid hcase; have Hm := Lib.hid hm
    clear hL hcase hm
    rcases s' with e | r'
    · go_wp2_with fail
      refine (take_err [124] (by simp) HL.out.S).mono ?_
      rintro en W2 ⟨rfl, h2, hO2⟩
      have HL := Lib.hid (HL.out.off hlt hO2 h2)
      clear h2 hO2
      have hfin : Out (choiceP grp) s (fun t => joinT 5 (ns.map fun x : Nx => x.1) = t) (.error e) := by
        rcases HC.out with ⟨e', he, hs⟩ | ⟨r, r', k, _, he, _⟩
        · cases he
          rcases hs with rfl | ⟨r, rfl, hr⟩
          · exact Out.err
          · exact Out.bad hr
        · cases he
      have Hfin := Lib.hid hfin
      clear hfin
      have hn3 : n = 1 ∨ 2 ≤ n := by omega
      rcases hn3 with rfl | hn2
      · obtain ⟨g, ⟨t1, A1, c1⟩, rfl, hx, h8, hg, hcv, hnd⟩ := HL.out.first (by omega)
        have hj : joinT 5 (ns.map fun x : Nx => x.1) = t1 := by
          have hl := HL.out.len
          match ns, hl, hx with
          | [y], _, hx => simp at hx; subst hx; rfl
        have Hj := Lib.hid hj; have Hnd := Lib.hid hnd
        obtain ⟨f0, f1, f2, f3, f4, f5, f6, f7⟩ := h8
        simp only [Nat.zero_add] at f1 f2 f3 f4 f5 f6 f7
        clear hj hnd hx
        obtain ⟨⟨r0, r1, r2, r3, r4, r5, r6, r7⟩, hz⟩ := HL.out.R.cells8
        have z0 := hz 0; have z1 := hz 1; have z2 := hz 2; have z3 := hz 3; have z4 := hz 4; have z5 := hz 5; have z6 := hz 6; have z7 := hz 7
        have lr := HL.out.R.lt
        clear hz
        go_wp2_with fail
        change bodyPost _ _ _ _ _ (writeX W2 w.heap.size (t1, A1, c1))
        have hfn := writeX_blk HL.out.R (t1, A1, c1)
        obtain ⟨⟨y0, y1, y2, y3, y4, y5, y6, y7⟩, _⟩ := hfn.cells8
        have hRS := HL.out.S.boxW (b := w.heap.size) (by omega) (t1, A1, c1)
        have hOff := Off.boxW HL.out.O (Nat.le_refl _) (t1, A1, c1)
        have hNod : RowAt (writeX W2 w.heap.size (t1, A1, c1)) (fun b => w.heap.size ≤ b ∧ b < (writeX W2 w.heap.size (t1, A1, c1)).heap.size) (t1, A1, c1).1 (t1, A1, c1).2.1 (t1, A1, c1).2.2 := Hnd.out.mono fun k (hk : w.heap.size < k ∧ k < W2.heap.size) => ⟨⟨by omega, by rw [writeX_size]; exact hk.2⟩, (writeX_other _ _ _ _ (show k ≠ w.heap.size by omega))⟩
        generalize writeX W2 w.heap.size (t1, A1, c1) = W3 at *
        exact bodyPost_ret (v := nodeV (t1, A1, c1).1 (t1, A1, c1).2.1 (t1, A1, c1).2.2) (by simp [results, Tryd.results17, y0, y1, y2, y3, y4, y5, y6, y7, go_sem]) rfl ⟨(t1, A1, c1), _, rfl, hNod, hRS, hOff, by have := Hfin.out; rw [Hj.out] at this; exact this⟩
      · obtain rfl : n = (ns.map fun x : Nx => x.1).length := by simp [HL.out.len]
        have hnd := HL.out.node (by omega) (by omega) (.mk 5 0 0 0 0 0 0 (ns.map fun x : Nx => x.1)) rfl
        have hj : joinT 5 (ns.map fun x : Nx => x.1) = .mk 5 0 0 0 0 0 0 (ns.map fun x : Nx => x.1) := by
          generalize ns.map (fun x : Nx => x.1) = l at hn2
          match l, hn2 with
          | a :: b :: l, _ => rfl
        have hb1 : (((ns.map fun x : Nx => x.1).length : Int) == 1) = false := by rw [beq_eq_false_iff_ne]; omega
        have Hj := Lib.hid hj; have Hnd := Lib.hid hnd
        clear hj hnd
        generalize hl : (ns.map fun x : Nx => x.1) = l at *
        obtain ⟨⟨r0, r1, r2, r3, r4, r5, r6, r7⟩, hz⟩ := HL.out.R.cells8
        have z0 := hz 0; have z1 := hz 1; have z2 := hz 2; have z3 := hz 3; have z4 := hz 4; have z5 := hz 5; have z6 := hz 6; have z7 := hz 7
        have lr := HL.out.R.lt
        clear hz
        go_wp2_with fail
        change bodyPost _ _ _ _ _ (writeX W2 w.heap.size (T.mk 5 0 0 0 0 0 0 l, Av, cv))
        have hfn := writeX_blk HL.out.R (T.mk 5 0 0 0 0 0 0 l, Av, cv)
        obtain ⟨⟨y0, y1, y2, y3, y4, y5, y6, y7⟩, _⟩ := hfn.cells8
        have hRS := HL.out.S.boxW (b := w.heap.size) (by omega) (T.mk 5 0 0 0 0 0 0 l, Av, cv)
        have hOff := Off.boxW HL.out.O (Nat.le_refl _) (T.mk 5 0 0 0 0 0 0 l, Av, cv)
        have hNod : RowAt (writeX W2 w.heap.size (T.mk 5 0 0 0 0 0 0 l, Av, cv)) (fun b => w.heap.size ≤ b ∧ b < (writeX W2 w.heap.size (T.mk 5 0 0 0 0 0 0 l, Av, cv)).heap.size) ((T.mk 5 0 0 0 0 0 0 l, Av, cv) : Nx).1 ((T.mk 5 0 0 0 0 0 0 l, Av, cv) : Nx).2.1 ((T.mk 5 0 0 0 0 0 0 l, Av, cv) : Nx).2.2 := Hnd.out.mono fun k (hk : w.heap.size < k ∧ k < W2.heap.size) => ⟨⟨by omega, by rw [writeX_size]; exact hk.2⟩, (writeX_other _ _ _ _ (show k ≠ w.heap.size by omega))⟩
        generalize writeX W2 w.heap.size (T.mk 5 0 0 0 0 0 0 l, Av, cv) = W3 at *
        exact bodyPost_ret (v := nodeV ((T.mk 5 0 0 0 0 0 0 l, Av, cv) : Nx).1 ((T.mk 5 0 0 0 0 0 0 l, Av, cv) : Nx).2.1 ((T.mk 5 0 0 0 0 0 0 l, Av, cv) : Nx).2.2) (by simp [results, Tryd.results17, y0, y1, y2, y3, y4, y5, y6, y7, go_sem]) rfl ⟨(T.mk 5 0 0 0 0 0 0 l, Av, cv), _, rfl, hNod, hRS, hOff, by have := Hfin.out; rw [Hj.out] at this; exact this⟩
    · obtain ⟨r, k, hsr, hsf, hk, hpp⟩ : ∃ r k, s = .ok r ∧ r' <:+ r ∧ r'.length < k + 1 ∧ choiceP grp r = match altsP grp (k + 1) (ns.map fun x : Nx => x.1) r' with | .error e => .error e | .ok (l, r2) => .ok (joinT 5 l, r2) := by
        rcases HC.out with ⟨e', he, _⟩ | ⟨r, r2, k, hs, he, hsf, hk, hpp⟩
        · cases he
        · cases he
          obtain ⟨k', rfl⟩ : ∃ k', k = k' + 1 := ⟨k - 1, by omega⟩
          exact ⟨r, k', hs, hsf, hk, hpp⟩
      have Hpp := Lib.hid hpp; have Hsr := Lib.hid hsr; have Hsf := Lib.hid hsf
      clear hpp hsr hsf HC
      rcases ht : takeP [124] r' with _ | r2
      · have hfin : Out (choiceP grp) s (fun t => joinT 5 (ns.map fun x : Nx => x.1) = t) (.ok r') := by
          rw [Hsr.out]
          refine Out.good (x := joinT 5 (ns.map fun x : Nx => x.1)) ?_ rfl
          rw [Hpp.out, altsP, ht]
        have Ht := Lib.hid ht; clear ht
        go_wp2_with fail
        refine (take_miss [124] (by simp) Ht.out HL.out.S).mono ?_
        rintro en W2 ⟨rfl, h2, hO2⟩
        have HL := Lib.hid (HL.out.off hlt hO2 h2)
        clear h2 hO2
        have Hfin := Lib.hid hfin
        clear hfin
        have hn3 : n = 1 ∨ 2 ≤ n := by omega
        rcases hn3 with rfl | hn2
        · obtain ⟨g, ⟨t1, A1, c1⟩, rfl, hx, h8, hg, hcv, hnd⟩ := HL.out.first (by omega)
          have hj : joinT 5 (ns.map fun x : Nx => x.1) = t1 := by
            have hl := HL.out.len
            match ns, hl, hx with
            | [y], _, hx => simp at hx; subst hx; rfl
          have Hj := Lib.hid hj; have Hnd := Lib.hid hnd
          obtain ⟨f0, f1, f2, f3, f4, f5, f6, f7⟩ := h8
          simp only [Nat.zero_add] at f1 f2 f3 f4 f5 f6 f7
          clear hj hnd hx
          obtain ⟨⟨r0, r1, r2, r3, r4, r5, r6, r7⟩, hz⟩ := HL.out.R.cells8
          have z0 := hz 0; have z1 := hz 1; have z2 := hz 2; have z3 := hz 3; have z4 := hz 4; have z5 := hz 5; have z6 := hz 6; have z7 := hz 7
          have lr := HL.out.R.lt
          clear hz
          go_wp2_with fail
          change bodyPost _ _ _ _ _ (writeX W2 w.heap.size (t1, A1, c1))
          have hfn := writeX_blk HL.out.R (t1, A1, c1)
          obtain ⟨⟨y0, y1, y2, y3, y4, y5, y6, y7⟩, _⟩ := hfn.cells8
          have hRS := HL.out.S.boxW (b := w.heap.size) (by omega) (t1, A1, c1)
          have hOff := Off.boxW HL.out.O (Nat.le_refl _) (t1, A1, c1)
          have hNod : RowAt (writeX W2 w.heap.size (t1, A1, c1)) (fun b => w.heap.size ≤ b ∧ b < (writeX W2 w.heap.size (t1, A1, c1)).heap.size) (t1, A1, c1).1 (t1, A1, c1).2.1 (t1, A1, c1).2.2 := Hnd.out.mono fun k (hk : w.heap.size < k ∧ k < W2.heap.size) => ⟨⟨by omega, by rw [writeX_size]; exact hk.2⟩, (writeX_other _ _ _ _ (show k ≠ w.heap.size by omega))⟩
          generalize writeX W2 w.heap.size (t1, A1, c1) = W3 at *
          exact bodyPost_ret (v := nodeV (t1, A1, c1).1 (t1, A1, c1).2.1 (t1, A1, c1).2.2) (by simp [results, Tryd.results17, y0, y1, y2, y3, y4, y5, y6, y7, go_sem]) rfl ⟨(t1, A1, c1), _, rfl, hNod, hRS, hOff, by have := Hfin.out; rw [Hj.out] at this; exact this⟩
        · obtain rfl : n = (ns.map fun x : Nx => x.1).length := by simp [HL.out.len]
          have hnd := HL.out.node (by omega) (by omega) (.mk 5 0 0 0 0 0 0 (ns.map fun x : Nx => x.1)) rfl
          have hj : joinT 5 (ns.map fun x : Nx => x.1) = .mk 5 0 0 0 0 0 0 (ns.map fun x : Nx => x.1) := by
            generalize ns.map (fun x : Nx => x.1) = l at hn2
            match l, hn2 with
            | a :: b :: l, _ => rfl
          have hb1 : (((ns.map fun x : Nx => x.1).length : Int) == 1) = false := by rw [beq_eq_false_iff_ne]; omega
          have Hj := Lib.hid hj; have Hnd := Lib.hid hnd
          clear hj hnd
          generalize hl : (ns.map fun x : Nx => x.1) = l at *
          obtain ⟨⟨r0, r1, r2, r3, r4, r5, r6, r7⟩, hz⟩ := HL.out.R.cells8
          have z0 := hz 0; have z1 := hz 1; have z2 := hz 2; have z3 := hz 3; have z4 := hz 4; have z5 := hz 5; have z6 := hz 6; have z7 := hz 7
          have lr := HL.out.R.lt
          clear hz
          go_wp2_with fail
          change bodyPost _ _ _ _ _ (writeX W2 w.heap.size (T.mk 5 0 0 0 0 0 0 l, Av, cv))
          have hfn := writeX_blk HL.out.R (T.mk 5 0 0 0 0 0 0 l, Av, cv)
          obtain ⟨⟨y0, y1, y2, y3, y4, y5, y6, y7⟩, _⟩ := hfn.cells8
          have hRS := HL.out.S.boxW (b := w.heap.size) (by omega) (T.mk 5 0 0 0 0 0 0 l, Av, cv)
          have hOff := Off.boxW HL.out.O (Nat.le_refl _) (T.mk 5 0 0 0 0 0 0 l, Av, cv)
          have hNod : RowAt (writeX W2 w.heap.size (T.mk 5 0 0 0 0 0 0 l, Av, cv)) (fun b => w.heap.size ≤ b ∧ b < (writeX W2 w.heap.size (T.mk 5 0 0 0 0 0 0 l, Av, cv)).heap.size) ((T.mk 5 0 0 0 0 0 0 l, Av, cv) : Nx).1 ((T.mk 5 0 0 0 0 0 0 l, Av, cv) : Nx).2.1 ((T.mk 5 0 0 0 0 0 0 l, Av, cv) : Nx).2.2 := Hnd.out.mono fun k (hk : w.heap.size < k ∧ k < W2.heap.size) => ⟨⟨by omega, by rw [writeX_size]; exact hk.2⟩, (writeX_other _ _ _ _ (show k ≠ w.heap.size by omega))⟩
          generalize writeX W2 w.heap.size (T.mk 5 0 0 0 0 0 0 l, Av, cv) = W3 at *
          exact bodyPost_ret (v := nodeV ((T.mk 5 0 0 0 0 0 0 l, Av, cv) : Nx).1 ((T.mk 5 0 0 0 0 0 0 l, Av, cv) : Nx).2.1 ((T.mk 5 0 0 0 0 0 0 l, Av, cv) : Nx).2.2) (by simp [results, Tryd.results17, y0, y1, y2, y3, y4, y5, y6, y7, go_sem]) rfl ⟨(T.mk 5 0 0 0 0 0 0 l, Av, cv), _, rfl, hNod, hRS, hOff, by have := Hfin.out; rw [Hj.out] at this; exact this⟩
      · have hres : altsP grp (k + 1) (ns.map fun x : Nx => x.1) r' = match rowP grp r2 with | .error e => .error e | .ok (n, r1) => altsP grp k ((ns.map fun x : Nx => x.1) ++ [n]) r1 := by
          rw [altsP, ht]; rfl
        have hl := takeP_len ht
        have hsf2 := (takeP_suf ht).trans Hsf.out
        simp only [List.length_cons, List.length_nil] at hl
        simp only [Rs.rest] at hnl
        have Hres := Lib.hid hres; have Ht := Lib.hid ht; have Hsf2 := Lib.hid hsf2; clear hres ht hsf2
        go_wp2_with fail
        refine (take_hit [124] (by simp) Ht.out HL.out.S).mono ?_
        rintro en W2 ⟨rfl, h2, hO2⟩
        have HL := Lib.hid (HL.out.off hlt hO2 h2)
        have H2 := Lib.hid h2
        clear h2 hO2
        go_wp2_with fail
        refine (HP.out W2 (.ok r2) H2.out (by simp only [Rs.rest]; omega) (fun r' e hr => HB.out r Hsr.out (by cases e; exact Hsf2.out.mem hr)) (fun r' e hr => HD.out r Hsr.out (by cases e; exact Hsf2.out.mem hr))).mono ?_
        rintro en w3 ⟨⟨t3, A3, c3⟩, s3, rfl, hx3, h3, hO3, ho3⟩
        have HL3 := Lib.hid (HL.out.off hlt hO3 h3)
        have Hx3 := Lib.hid hx3; have Ho3 := Lib.hid ho3
        have hz3 := hO3.size
        have hwr : w.heap.size < W2.heap.size := HL.out.R.lt
        clear hx3 ho3 hO3 h3
        have hnews : ∀ ad, some (⟨w3.heap.size, 0, none⟩ : Addr) = some ad → ∀ j u, (xcell (t3, A3, c3))[j]? = some u → (w3.alloc (.cells (xcell (t3, A3, c3)).toArray 27)).cell? (ad.add j) = some u := fun ad e j u hu => by
          simp only [Option.some.injEq] at e
          subst e
          rw [addr_addX, World.cell?_alloc_new, Nat.zero_add]
          simpa using hu
        have Hnews := Lib.hid hnews; clear hnews
        go_wp2_with (at_builtin; refine wpList_append_fromX (w.heap.size + 1) rfl _ _ 25 27 _ 8 80 rfl Tryd.underlying25 Tryd.infoNodeX rfl (by omega) (by omega) (.slice Av n cv) n 1 (xcells ns) (xcell (t3, A3, c3)) (some ⟨w3.heap.size, 0, none⟩) 1 rfl rfl (by simp) rfl Hnews.out (xcell_one _) (HL3.out.own.alloc _) (by simp; omega) (by omega) (fun A5 c5 w5 ho5 hg5 hat5 => ?_); have HL5 := Lib.hid (HL3.out.push hlt hwr (fun k hk => (HL.out.own.lt k hk).2) (t3, A3, c3) Hx3.out ((Below.refl _ _).alloc (Nat.le_refl _) _) ho5 hg5 hat5); clear ho5 hg5 hat5)
        have hcs : s3.rest.length ≤ r2.length ∧ ((∃ e, s3 = .error e ∧ (s = .error e ∨ ∃ r, s = .ok r ∧ choiceP grp r = .error e)) ∨ ∃ r r' k, s = .ok r ∧ s3 = .ok r' ∧ r' <:+ r ∧ r'.length < k ∧ choiceP grp r = match altsP grp k ((ns ++ [(t3, A3, c3)]).map fun x : Nx => x.1) r' with | .error e => .error e | .ok (l, r2) => .ok (joinT 5 l, r2)) := by
          have hoo := Ho3.out
          cases hpc : rowP grp r2 with
          | error e =>
            simp only [Out, hpc] at hoo
            subst hoo
            exact ⟨by simp [Rs.rest], .inl ⟨e, rfl, .inr ⟨r, Hsr.out, by rw [Hpp.out, Hres.out, hpc]⟩⟩⟩
          | ok y =>
            obtain ⟨n', r3⟩ := y
            simp only [Out, hpc] at hoo
            obtain ⟨rfl, rfl⟩ := hoo
            have hl3 := row_len HGl.out hpc
            exact ⟨by simp only [Rs.rest]; omega, .inr ⟨r, r3, k, Hsr.out, rfl, (row_suf HGs.out hpc).trans Hsf2.out, by omega, by rw [Hpp.out, Hres.out, hpc]; simp⟩⟩
        obtain ⟨hl1, hcs⟩ := hcs
        have HCS := Lib.hid hcs; clear hcs
        go_roundg (s3.rest.length + 1)
        case measure => have := Hm.out; simp only [Rs.rest] at this; omega
        case rel => exact ⟨n + 1, _, A5, c5, s3, rfl, by omega, rfl, by omega, HL5.out, HCS.out⟩

end Go.Proofs.YteekafkpeimhoaaDoor

/- The pattern reader's group, pattern.Parse again, with rows. -/
set_option linter.unusedVariables false
set_option linter.unusedSimpArgs false
namespace Go.Proofs.YteekafkpeimhoaaDoor
open Go.RowKit

set_option maxRecDepth 100000 in
set_option maxHeartbeats 4000000 in
theorem group_any2 : ∀ (d : Nat) (p : Nat) (op : Int) (hop : op + d = 64) (h0 : 0 ≤ op) (w : World) (s : Rs), RS w p op s → s.rest.length ≤ 1024 → (∀ r, s = .ok r → 91 ∈ r → BrC) → (∀ r, s = .ok r → 46 ∈ r → DotC) →
    Calls Tryd.prog 67 #[.pointer (some ⟨p, 0, none⟩)] w fun en w' => GNode2 p op (groupP d) s w en w' := by
  intro d
  induction d with
  | zero =>
    intro p op hop h0 w s h hs hB hD
    obtain rfl : op = 64 := by omega
    clear hB hD hs h0 hop
    have hlt := h.lt
    have c1 := h.rdr.c1
    have H := Lib.hid h; clear h
    go_enter Tryd.func67, Tryd.ntmps67
    go_wp2_with fail
    generalize hW : w.alloc _ = W0
    have hB0 : Below w.heap.size w W0 := by subst hW; exact (Below.refl _ _).alloc (Nat.le_refl _) _
    have R0 : BlkX W0 w.heap.size (xcell (.mk 0 0 0 0 0 0 0 [], none, 0)).toArray := by subst hW; exact BlkX.new w _
    clear hW
    refine (fail_any W0 p 64 s 3 (by omega) (H.out.later hB0)).mono ?_
    rintro en w1 ⟨rfl, h1, hO1⟩
    have R1 := Off.blk hO1 R0 (by omega)
    have hO := Off.trans (Off.of_below hB0) hO1
    have hout : Out (groupP 0) s (fun t => ((T.mk 0 0 0 0 0 0 0 [], none, 0) : Nx).1 = t) (failS s 3) := by
      rcases s with e | r
      · exact Out.err
      · exact Out.bad rfl
    have Hout := Lib.hid hout; have H1 := Lib.hid h1; have HO := Lib.hid hO; have HR := Lib.hid R1
    obtain ⟨⟨r0, r1, r2, r3, r4, r5, r6, r7⟩, hz⟩ := R1.cells8
    have z0 := hz 0; have z1 := hz 1; have z2 := hz 2; have z3 := hz 3; have z4 := hz 4; have z5 := hz 5; have z6 := hz 6; have z7 := hz 7
    have lr := R1.lt
    clear hz hout h1 hO R1 hO1 R0
    go_wp2_with fail
    change bodyPost _ _ _ _ _ (writeX w1 w.heap.size (T.mk 0 0 0 0 0 0 0 [], none, 0))
    have hfn := writeX_blk HR.out (T.mk 0 0 0 0 0 0 0 [], none, 0)
    obtain ⟨⟨y0, y1, y2, y3, y4, y5, y6, y7⟩, _⟩ := hfn.cells8
    have hRS := H1.out.boxW (b := w.heap.size) (by omega) (T.mk 0 0 0 0 0 0 0 [], none, 0)
    have hOff := Off.boxW HO.out (Nat.le_refl _) (T.mk 0 0 0 0 0 0 0 [], none, 0)
    generalize writeX w1 w.heap.size (T.mk 0 0 0 0 0 0 0 [], none, 0) = W3 at *
    exact bodyPost_ret (v := nodeV (T.mk 0 0 0 0 0 0 0 []) none 0) (by simp [results, Tryd.results67, y0, y1, y2, y3, y4, y5, y6, y7, go_sem]) rfl ⟨(T.mk 0 0 0 0 0 0 0 [], none, 0), _, rfl, row_leaf _ _ _ rfl, hRS, hOff, Hout.out⟩
  | succ d ih =>
    intro p op hop h0 w s h hs hB hD
    have hlt := h.lt
    have c1 := h.rdr.c1
    have z1 := h.rdr.z 1
    have hch : ∀ (w : World), RS w p (op + 1) s → Calls Tryd.prog 17 #[.pointer (some ⟨p, 0, none⟩)] w fun en w' => GNode2 p (op + 1) (choiceP (groupP d)) s w en w' := fun w h =>
      choice_par2 w p (op + 1) s h hs (groupP d) (group_len d) (group_suf d) hB hD (fun w s h hs hB hD => ih p (op + 1) (by omega) (by omega) w s h hs hB hD)
    have HCH := Lib.hid hch
    have H := Lib.hid h; clear h hch ih hB hD
    have hopb : (op == 64) = false := by rw [beq_eq_false_iff_ne]; omega
    have hop2 : op ≤ 63 := by omega
    clear hop hs
    go_enter Tryd.func67, Tryd.ntmps67
    go_wp2_with fail
    generalize hW : World.setCell _ _ _ = W0
    have hz0 : W0.heap.size = w.heap.size := by subst hW; simp
    have h0S : RS W0 p (op + 1) s := by subst hW; exact ⟨H.out.rdr.set1 (op + 1), H.out.ne⟩
    have hO0 : Off p w W0 := by subst hW; exact Off.set (Off.refl p w) _ _
    clear hW
    generalize hW : W0.alloc _ = W1
    have hB1 : Below W0.heap.size W0 W1 := by subst hW; exact (Below.refl _ _).alloc (Nat.le_refl _) _
    have R1 : BlkX W1 w.heap.size (xcell (T.mk 0 0 0 0 0 0 0 [], none, 0)).toArray := by
      have := BlkX.new W0 (xcell (T.mk 0 0 0 0 0 0 0 [], none, 0)).toArray
      rw [hz0] at this
      subst hW
      exact this
    have hzW : w.heap.size < W1.heap.size := R1.lt
    have hO1 := Off.trans hO0 (Off.of_below hB1)
    have h1S := h0S.later hB1
    clear hW hB1 hO0 h0S hz0
    refine (HCH.out W1 h1S).mono ?_
    rintro en w2 ⟨⟨t, A, c⟩, s2, rfl, hx2, h2, hO2, ho2⟩
    have R2 := Off.blk hO2 R1 (by omega)
    have hO2 := Off.trans hO1 hO2
    have hz2 : w.heap.size < w2.heap.size := R2.lt
    have Hx2 := Lib.hid hx2; have Ho2 := Lib.hid ho2
    clear hx2 ho2 R1 hO1 h1S
    have d1 := h2.rdr.c1
    have dz := h2.rdr.z 1
    have dl := h2.lt
    go_upto_region 7 with fail
    generalize hW : (World.setCell w2 _ _).alloc _ = W3
    have hzs : (w2.setCell ⟨p, 1, none⟩ (.int .i64 op)).heap.size = w2.heap.size := by simp
    have hBs : Below w2.heap.size (w2.setCell ⟨p, 1, none⟩ (.int .i64 op)) W3 := by rw [← hW, ← hzs]; exact (Below.refl _ _).alloc (Nat.le_refl _) _
    have N3 : BlkX W3 w2.heap.size (xcell (t, A, c)).toArray := by
      have := BlkX.new (w2.setCell ⟨p, 1, none⟩ (.int .i64 op)) (xcell (t, A, c)).toArray
      rw [hzs] at this
      rw [← hW]
      exact this
    have h3 : RS W3 p op s2 := RS.later (w := w2.setCell ⟨p, 1, none⟩ (.int .i64 op)) ⟨h2.rdr.set1 op, h2.ne⟩ (by rw [hzs]; exact hBs)
    have R3 : BlkX W3 w.heap.size (xcell (T.mk 0 0 0 0 0 0 0 [], none, 0)).toArray := (R2.keep (Below.heap_setCell _ _ _ _ (show w.heap.size ≠ p by omega))).keep (hBs.block _ hz2)
    have hO3 : Off p w W3 := Off.trans (Off.set hO2 _ _) (Off.of_below (by rw [hzs]; exact hBs))
    have hW1 : w.heap.size < W1.heap.size := hzW
    have Hx3 := Lib.hid (Hx2.out.mono (w' := W3) (ok' := fun b => w.heap.size < b ∧ b < w2.heap.size) fun b (hb : W1.heap.size ≤ b ∧ b < w2.heap.size) => ⟨⟨by omega, hb.2⟩, (hBs.block _ hb.2).trans (Below.heap_setCell _ _ _ _ (show b ≠ p by omega))⟩)
    generalize hbn : w2.heap.size = bn at *
    have lbn := N3.lt
    clear hW hBs hzs R2 h2 hO2 Hx2 d1 dz dl hbn
    rcases s2 with e | r2
    · have hout : Out (groupP (d + 1)) s (fun u => ((t, A, c) : Nx).1 = u) (.error e) := by
        have hoo := Ho2.out
        rcases s with e' | r
        · cases (show (Except.error e : Rs) = .error e' from hoo); exact Out.err
        · cases hc : choiceP (groupP d) r with
          | error e' => simp only [Out, hc] at hoo; cases hoo; exact Out.bad (by rw [groupP, hc])
          | ok y => obtain ⟨n, r'⟩ := y; simp only [Out, hc] at hoo; cases hoo.2
      have Hout := Lib.hid hout; clear hout
      go_wp2_with fail
      refine (take_err [41] (by simp) h3).mono ?_
      rintro en W4 ⟨rfl, h4, hO4⟩
      go_wp2_with fail
      refine (fail_err 100 (by omega) h4).mono ?_
      rintro en W5 ⟨rfl, h5, hO5⟩
      have hO5' := Off.trans hO4 hO5
      clear hO4 hO5 h4 h3
      have R5 := Off.blk hO5' R3 (by omega)
      have N5 := Off.blk hO5' N3 (by omega)
      have hO5 := Off.trans hO3 hO5'
      have Hx5 := Lib.hid (Hx3.out.mono (w' := W5) (ok' := fun b => w.heap.size < b ∧ b < bn) fun b (hb : w.heap.size < b ∧ b < bn) => ⟨hb, Off.blockN hO5' (by omega) (by omega)⟩)
      obtain ⟨⟨f0, f1, f2, f3, f4, f5, f6, f7⟩, _⟩ := N5.cells8
      obtain ⟨⟨r0, r1, r2, r3, r4, r5, r6, r7⟩, hz⟩ := R5.cells8
      have z0 := hz 0; have zz1 := hz 1; have z2 := hz 2; have z3 := hz 3; have z4 := hz 4; have z5 := hz 5; have z6 := hz 6; have z7 := hz 7
      have lr := R5.lt
      have ln := N5.lt
      have HR := Lib.hid R5; have H5 := Lib.hid h5; have HO := Lib.hid hO5
      clear hz R5 N5 h5 hO5 hO5' R3 N3 hO3
      go_wp2_with fail
      change bodyPost _ _ _ _ _ (writeX W5 w.heap.size (t, A, c))
      have hfn := writeX_blk HR.out (t, A, c)
      obtain ⟨⟨y0, y1, y2, y3, y4, y5, y6, y7⟩, _⟩ := hfn.cells8
      have hRS := H5.out.boxW (b := w.heap.size) (by omega) (t, A, c)
      have hOff := Off.boxW HO.out (Nat.le_refl _) (t, A, c)
      have hNod : RowAt (writeX W5 w.heap.size (t, A, c)) (fun b => w.heap.size ≤ b ∧ b < (writeX W5 w.heap.size (t, A, c)).heap.size) t A c := Hx5.out.mono fun k (hk : w.heap.size < k ∧ k < bn) => ⟨⟨by omega, by rw [writeX_size]; omega⟩, (writeX_other _ _ _ _ (show k ≠ w.heap.size by omega))⟩
      generalize writeX W5 w.heap.size (t, A, c) = W6 at *
      exact bodyPost_ret (v := nodeV t A c) (by simp [results, Tryd.results67, y0, y1, y2, y3, y4, y5, y6, y7, go_sem]) rfl ⟨(t, A, c), _, rfl, hNod, hRS, hOff, Hout.out⟩
    · obtain ⟨r, hsr, hcc⟩ : ∃ r, s = .ok r ∧ choiceP (groupP d) r = .ok (t, r2) := by
        have hoo := Ho2.out
        rcases s with e' | r
        · cases (show (Except.ok r2 : Rs) = .error e' from hoo)
        · cases hc : choiceP (groupP d) r with
          | error e' => simp only [Out, hc] at hoo; cases hoo
          | ok y =>
            obtain ⟨n, r'⟩ := y
            simp only [Out, hc] at hoo
            obtain ⟨rfl, h'⟩ := hoo
            cases h'
            exact ⟨r, rfl, hc⟩
      have Hsr := Lib.hid hsr; have Hcc := Lib.hid hcc; clear hsr hcc
      rcases ht : takeP [41] r2 with _ | r3
      · have hout : Out (groupP (d + 1)) s (fun u => ((t, A, c) : Nx).1 = u) (.error 100) := by
          rw [Hsr.out]; exact Out.bad (by rw [groupP, Hcc.out]; simp only [ht])
        have Hout := Lib.hid hout; have Ht := Lib.hid ht; clear hout ht
        go_wp2_with fail
        refine (take_miss [41] (by simp) Ht.out h3).mono ?_
        rintro en W4 ⟨rfl, h4, hO4⟩
        go_wp2_with fail
        refine (fail_ok 100 (by omega) h4).mono ?_
        rintro en W5 ⟨rfl, h5, hO5⟩
        have hO5' := Off.trans hO4 hO5
        clear hO4 hO5 h4 h3
        have R5 := Off.blk hO5' R3 (by omega)
        have N5 := Off.blk hO5' N3 (by omega)
        have hO5 := Off.trans hO3 hO5'
        have Hx5 := Lib.hid (Hx3.out.mono (w' := W5) (ok' := fun b => w.heap.size < b ∧ b < bn) fun b (hb : w.heap.size < b ∧ b < bn) => ⟨hb, Off.blockN hO5' (by omega) (by omega)⟩)
        obtain ⟨⟨f0, f1, f2, f3, f4, f5, f6, f7⟩, _⟩ := N5.cells8
        obtain ⟨⟨r0, r1, r2, r3, r4, r5, r6, r7⟩, hz⟩ := R5.cells8
        have z0 := hz 0; have zz1 := hz 1; have z2 := hz 2; have z3 := hz 3; have z4 := hz 4; have z5 := hz 5; have z6 := hz 6; have z7 := hz 7
        have lr := R5.lt
        have ln := N5.lt
        have HR := Lib.hid R5; have H5 := Lib.hid h5; have HO := Lib.hid hO5
        clear hz R5 N5 h5 hO5 hO5' R3 N3 hO3
        go_wp2_with fail
        change bodyPost _ _ _ _ _ (writeX W5 w.heap.size (t, A, c))
        have hfn := writeX_blk HR.out (t, A, c)
        obtain ⟨⟨y0, y1, y2, y3, y4, y5, y6, y7⟩, _⟩ := hfn.cells8
        have hRS := H5.out.boxW (b := w.heap.size) (by omega) (t, A, c)
        have hOff := Off.boxW HO.out (Nat.le_refl _) (t, A, c)
        have hNod : RowAt (writeX W5 w.heap.size (t, A, c)) (fun b => w.heap.size ≤ b ∧ b < (writeX W5 w.heap.size (t, A, c)).heap.size) t A c := Hx5.out.mono fun k (hk : w.heap.size < k ∧ k < bn) => ⟨⟨by omega, by rw [writeX_size]; omega⟩, (writeX_other _ _ _ _ (show k ≠ w.heap.size by omega))⟩
        generalize writeX W5 w.heap.size (t, A, c) = W6 at *
        exact bodyPost_ret (v := nodeV t A c) (by simp [results, Tryd.results67, y0, y1, y2, y3, y4, y5, y6, y7, go_sem]) rfl ⟨(t, A, c), _, rfl, hNod, hRS, hOff, Hout.out⟩
      · have hout : Out (groupP (d + 1)) s (fun u => ((t, A, c) : Nx).1 = u) (.ok r3) := by
          rw [Hsr.out]; exact Out.good (x := t) (by rw [groupP, Hcc.out]; simp only [ht]) rfl
        have Hout := Lib.hid hout; have Ht := Lib.hid ht; clear hout ht
        go_wp2_with fail
        refine (take_hit [41] (by simp) Ht.out h3).mono ?_
        rintro en W5 ⟨rfl, h5, hO5'⟩
        clear h3
        have R5 := Off.blk hO5' R3 (by omega)
        have N5 := Off.blk hO5' N3 (by omega)
        have hO5 := Off.trans hO3 hO5'
        have Hx5 := Lib.hid (Hx3.out.mono (w' := W5) (ok' := fun b => w.heap.size < b ∧ b < bn) fun b (hb : w.heap.size < b ∧ b < bn) => ⟨hb, Off.blockN hO5' (by omega) (by omega)⟩)
        obtain ⟨⟨f0, f1, f2, f3, f4, f5, f6, f7⟩, _⟩ := N5.cells8
        obtain ⟨⟨r0, r1, r2, r3, r4, r5, r6, r7⟩, hz⟩ := R5.cells8
        have z0 := hz 0; have zz1 := hz 1; have z2 := hz 2; have z3 := hz 3; have z4 := hz 4; have z5 := hz 5; have z6 := hz 6; have z7 := hz 7
        have lr := R5.lt
        have ln := N5.lt
        have HR := Lib.hid R5; have H5 := Lib.hid h5; have HO := Lib.hid hO5
        clear hz R5 N5 h5 hO5 hO5' R3 N3 hO3
        go_wp2_with fail
        change bodyPost _ _ _ _ _ (writeX W5 w.heap.size (t, A, c))
        have hfn := writeX_blk HR.out (t, A, c)
        obtain ⟨⟨y0, y1, y2, y3, y4, y5, y6, y7⟩, _⟩ := hfn.cells8
        have hRS := H5.out.boxW (b := w.heap.size) (by omega) (t, A, c)
        have hOff := Off.boxW HO.out (Nat.le_refl _) (t, A, c)
        have hNod : RowAt (writeX W5 w.heap.size (t, A, c)) (fun b => w.heap.size ≤ b ∧ b < (writeX W5 w.heap.size (t, A, c)).heap.size) t A c := Hx5.out.mono fun k (hk : w.heap.size < k ∧ k < bn) => ⟨⟨by omega, by rw [writeX_size]; omega⟩, (writeX_other _ _ _ _ (show k ≠ w.heap.size by omega))⟩
        generalize writeX W5 w.heap.size (t, A, c) = W6 at *
        exact bodyPost_ret (v := nodeV t A c) (by simp [results, Tryd.results67, y0, y1, y2, y3, y4, y5, y6, y7, go_sem]) rfl ⟨(t, A, c), _, rfl, hNod, hRS, hOff, Hout.out⟩


/-- What Parse hands back. -/
def GPar2 (s : Bs) (w : World) (en : Ending) (w' : World) : Prop :=
  Below w.heap.size w w' ∧ ((∃ t A c, parseP s = .ok t ∧ en = .returned (.tuple #[nodeV t A c, .int .i64 0]) ∧ RowAt w' (fun b => w.heap.size ≤ b ∧ b < w'.heap.size) t A c) ∨ ∃ e, parseP s = .error e ∧ e ≠ 0 ∧ en = .returned (.tuple #[nodeV none0 none 0, .int .i64 e]))

set_option maxRecDepth 100000 in
set_option maxHeartbeats 4000000 in
theorem parse_par2 (s : Bs) (w : World) (hM : MaxOk w) (hB : 91 ∈ s → BrC) (hD : 46 ∈ s → DotC) :
    Calls Tryd.prog 5 #[.string (bs s)] w fun en w' => GPar2 s w en w' := by
  by_cases hlen : 1024 < s.length
  · have hp : parseP s = .error 3 := by rw [parseP, if_pos hlen]
    have Hp := Lib.hid hp; clear hp hB hD
    go_enter Tryd.func5, Tryd.ntmps5
    go_wp2_with fail
    exact bodyPost_ret (v := .tuple #[nodeV none0 none 0, .int .i64 3]) (by simp [results, Tryd.results5, go_sem, T.k, T.s0, T.s1, T.s2, T.s3, T.mn, T.mx, T.ps]) rfl ⟨(Below.refl _ _).alloc (Nat.le_refl _) _, .inr ⟨3, Hp.out, by omega, rfl⟩⟩
  · have hch : ∀ (w : World) (p : Nat), RS w p 0 (.ok s) → Calls Tryd.prog 17 #[.pointer (some ⟨p, 0, none⟩)] w fun en w' => GNode2 p 0 (choiceP (groupP 64)) (.ok s) w en w' := fun w p h =>
      choice_par2 w p 0 (.ok s) h (by simp only [Rs.rest]; omega) (groupP 64) (group_len 64) (group_suf 64) (fun r e hr => hB (by cases e; exact hr)) (fun r e hr => hD (by cases e; exact hr)) (fun w s h hs hB hD => group_any2 64 p 0 (by omega) (by omega) w s h hs hB hD)
    have HCH := Lib.hid hch; clear hch hB hD
    go_enter Tryd.func5, Tryd.ntmps5
    go_wp2_with fail
    generalize hW : (w.alloc _).alloc _ = W1
    have hB1 : Below w.heap.size w W1 := by subst hW; exact ((Below.refl _ _).alloc (Nat.le_refl _) _).alloc (by simp) _
    have R1 : BlkX W1 w.heap.size (xcell (none0, none, 0)).toArray := by
      subst hW
      exact (BlkX.new w _).keep (((Below.refl _ _).alloc (Nat.le_refl _) _).block _ (by simp))
    have h1 : RS W1 (w.heap.size + 1) 0 (.ok s) := by
      have hM1 := hM.later hB1
      subst hW
      refine ⟨⟨?_, ?_, ?_, fun o => ?_, by simp, hM1, by omega⟩, fun e he => by cases he⟩
      · simp [go_sem, Rs.rest]
      · simp [go_sem]
      · simp [go_sem, Rs.no]
      · simp [go_sem]
    have hz1 : W1.heap.size = w.heap.size + 2 := by subst hW; simp
    clear hW
    refine (HCH.out W1 (w.heap.size + 1) h1).mono ?_
    rintro en w2 ⟨⟨t, A, c⟩, s2, rfl, hx2, h2, hO2, ho2⟩
    have R2 := Off.blk hO2 R1 (by omega)
    have hz2 := hO2.size
    have hBw2 : Below w.heap.size w w2 := hB1.trans (Off.below hO2 (by omega) (by omega))
    have Hx2 := Lib.hid hx2; have Ho2 := Lib.hid ho2
    have hzz : w.heap.size + 2 ≤ W1.heap.size := by omega
    clear hx2 ho2 R1 h1 hO2 hz1 hB1
    go_upto_region 5 with fail
    generalize hW : w2.alloc _ = W3
    have hB3 : Below w2.heap.size w2 W3 := by subst hW; exact (Below.refl _ _).alloc (Nat.le_refl _) _
    have N3 : BlkX W3 w2.heap.size (xcell (t, A, c)).toArray := by subst hW; exact BlkX.new w2 _
    have R3 := R2.keep (hB3.block _ R2.lt)
    have h3 := h2.later hB3
    have hBw3 := hBw2.trans (hB3.mono (by omega))
    have Hx3 := Lib.hid (Hx2.out.mono (w' := W3) (ok' := fun b => w.heap.size + 2 ≤ b ∧ b < w2.heap.size) fun b (hb : W1.heap.size ≤ b ∧ b < w2.heap.size) => ⟨⟨by omega, hb.2⟩, hB3.block _ hb.2⟩)
    generalize hbn : w2.heap.size = bn at *
    have lbn := N3.lt
    have lp3 := h3.lt
    clear hW hB3 R2 h2 hBw2 Hx2 hbn
    have c0 := h3.rdr.c0
    have c2 := h3.rdr.c2
    rcases s2 with e | r2
    · have hne := h3.ne e rfl
      have hp : parseP s = .error e := by
        have hoo := Ho2.out
        rw [parseP, if_neg hlen]
        cases hc : choiceP (groupP 64) s with
        | error e' => simp only [Out, hc] at hoo; cases hoo; rfl
        | ok y => obtain ⟨n, r'⟩ := y; simp only [Out, hc] at hoo; cases hoo.2
      have Hp := Lib.hid hp; clear hp
      have hb : (e != 0) = true := by rw [bne_iff_ne]; exact hne
      have Hne := Lib.hid hne; clear hne
      simp only [Rs.rest, Rs.no] at c0 c2
      obtain ⟨⟨r0, r1, r2_, r3, r4, r5, r6, r7⟩, hz⟩ := R3.cells8
      have z0 := hz 0; have zz1 := hz 1; have z2 := hz 2; have z3 := hz 3; have z4 := hz 4; have z5 := hz 5; have z6 := hz 6; have z7 := hz 7
      have lr := R3.lt
      clear hz
      go_wp2_with fail
      go_region
      all_goals go_wp2_with fail
      change bodyPost _ _ _ _ _ (writeX W3 w.heap.size (none0, none, 0)).drew
      have hfn := writeX_blk R3 (none0, none, 0)
      obtain ⟨⟨y0, y1, y2, y3, y4, y5, y6, y7⟩, _⟩ := hfn.cells8
      have hbel := (writeX_below hBw3 (Nat.le_refl w.heap.size) (none0, none, 0)).drew
      generalize writeX W3 w.heap.size (none0, none, 0) = W5 at *
      exact bodyPost_ret (v := .tuple #[nodeV none0 none 0, .int .i64 e]) (by simp [results, Tryd.results5, y0, y1, y2, y3, y4, y5, y6, y7, go_sem]) rfl ⟨hbel, .inr ⟨_, Hp.out, Hne.out, rfl⟩⟩
    · have hcc : choiceP (groupP 64) s = .ok (t, r2) := by
        have hoo := Ho2.out
        cases hc : choiceP (groupP 64) s with
        | error e' => simp only [Out, hc] at hoo; cases hoo
        | ok y =>
          obtain ⟨n, r'⟩ := y
          simp only [Out, hc] at hoo
          obtain ⟨rfl, h'⟩ := hoo
          cases h'
          rfl
      have Hcc := Lib.hid hcc; clear hcc Ho2
      simp only [Rs.rest, Rs.no] at c0 c2
      rcases r2 with _ | ⟨c1, t1⟩
      · have hp : parseP s = .ok t := by rw [parseP, if_neg hlen, Hcc.out]
        have Hp := Lib.hid hp; clear hp
        obtain ⟨⟨f0, f1, f2, f3, f4, f5, f6, f7⟩, _⟩ := N3.cells8
        obtain ⟨⟨r0, r1, r2_, r3, r4, r5, r6, r7⟩, hz⟩ := R3.cells8
        have z0 := hz 0; have zz1 := hz 1; have z2 := hz 2; have z3 := hz 3; have z4 := hz 4; have z5 := hz 5; have z6 := hz 6; have z7 := hz 7
        have lr := R3.lt
        clear hz
        have HR := Lib.hid R3
        clear R3 N3 h3
        go_wp2_with fail
        change bodyPost _ _ _ _ _ (writeX W3 w.heap.size (t, A, c))
        have hfn := writeX_blk HR.out (t, A, c)
        obtain ⟨⟨y0, y1, y2, y3, y4, y5, y6, y7⟩, _⟩ := hfn.cells8
        have hbel := writeX_below hBw3 (Nat.le_refl w.heap.size) (t, A, c)
        have hNod : RowAt (writeX W3 w.heap.size (t, A, c)) (fun b => w.heap.size ≤ b ∧ b < (writeX W3 w.heap.size (t, A, c)).heap.size) t A c := Hx3.out.mono fun k (hk : w.heap.size + 2 ≤ k ∧ k < bn) => ⟨⟨by omega, by rw [writeX_size]; omega⟩, (writeX_other _ _ _ _ (show k ≠ w.heap.size by omega))⟩
        generalize writeX W3 w.heap.size (t, A, c) = W5 at *
        exact bodyPost_ret (v := .tuple #[nodeV t A c, .int .i64 0]) (by simp [results, Tryd.results5, y0, y1, y2, y3, y4, y5, y6, y7, go_sem]) rfl ⟨hbel, .inl ⟨t, A, c, Hp.out, rfl, hNod⟩⟩
      · have hp : parseP s = .error 100 := by rw [parseP, if_neg hlen, Hcc.out]
        have Hp := Lib.hid hp; clear hp
        have H3 := Lib.hid h3
        go_wp2_with fail
        refine (fail_ok 100 (by omega) H3.out).mono ?_
        rintro en W4 ⟨rfl, h4, hO4⟩
        have R4 := Off.blk hO4 R3 (by omega)
        have hz3 : w.heap.size ≤ W3.heap.size := by omega
        have hBw4 := hBw3.trans (Off.below hO4 (B := w.heap.size) (by omega) hz3)
        have d2 := h4.rdr.c2
        have lp4 := h4.lt
        simp only [Rs.no] at d2
        clear c0 c2 R3 N3 h3 h4 hO4 H3
        obtain ⟨⟨r0, r1, r2_, r3, r4, r5, r6, r7⟩, hz⟩ := R4.cells8
        have z0 := hz 0; have zz1 := hz 1; have z2 := hz 2; have z3 := hz 3; have z4 := hz 4; have z5 := hz 5; have z6 := hz 6; have z7 := hz 7
        have lr := R4.lt
        clear hz
        go_wp2_with fail
        go_region
        all_goals go_wp2_with fail
        change bodyPost _ _ _ _ _ (writeX W4 w.heap.size (none0, none, 0)).drew
        have hfn := writeX_blk R4 (none0, none, 0)
        obtain ⟨⟨y0, y1, y2, y3, y4, y5, y6, y7⟩, _⟩ := hfn.cells8
        have hbel := (writeX_below hBw4 (Nat.le_refl w.heap.size) (none0, none, 0)).drew
        generalize writeX W4 w.heap.size (none0, none, 0) = W5 at *
        exact bodyPost_ret (v := .tuple #[nodeV none0 none 0, .int .i64 100]) (by simp [results, Tryd.results5, y0, y1, y2, y3, y4, y5, y6, y7, go_sem]) rfl ⟨hbel, .inr ⟨_, Hp.out, (by omega), rfl⟩⟩

end Go.Proofs.YteekafkpeimhoaaDoor

/- append, with what it writes into the row it stands in. -/
set_option linter.unusedVariables false
set_option linter.unusedSimpArgs false
namespace Go.Proofs.YteekafkpeimhoaaDoor
open Go.RowKit

/-- Cells put into a row of cells; or nothing done. -/
structure PutAt (cur cur' : Array Value) (o : Nat) (ys : List Value) : Prop where
  size : cur'.size = cur.size
  old : ∀ k, (k < o ∨ o + ys.length ≤ k) → cur'[k]? = cur[k]?
  new : cur' = cur ∨ ∀ j, j < ys.length → cur'[o + j]? = ys[j]?
theorem PutAt.refl (cur : Array Value) (o : Nat) (ys : List Value) : PutAt cur cur o ys := ⟨rfl, fun _ _ => rfl, .inl rfl⟩
theorem putAt_mk (cur : Array Value) (o : Nat) (ys : List Value) (h : o + ys.length ≤ cur.size) : PutAt cur (cur.toList.take o ++ ys ++ cur.toList.drop (o + ys.length)).toArray o ys := by
  have hl : cur.toList.length = cur.size := Array.length_toList
  have hc : ∀ k, cur[k]? = cur.toList[k]? := fun k => by rw [Array.getElem?_toList]
  refine ⟨?_, fun k hk => ?_, .inr fun j hj => ?_⟩
  · simp only [List.size_toArray, List.length_append, List.length_take, List.length_drop, hl]; omega
  · rw [hc, List.getElem?_toArray]
    rcases hk with hk | hk
    · rw [List.append_assoc, List.getElem?_append_left (by simp only [List.length_take, hl]; omega), List.getElem?_take, if_pos hk]
    · rw [List.getElem?_append_right (by simp only [List.length_append, List.length_take, hl]; omega), List.getElem?_drop]
      congr 1
      simp only [List.length_append, List.length_take, hl]
      omega
  · rw [List.getElem?_toArray, List.append_assoc, List.getElem?_append_right (by simp only [List.length_take, hl]; omega), List.getElem?_append_left (by simp only [List.length_take, hl]; omega)]
    congr 1
    simp only [List.length_take, hl]
    omega

/-- append of a slice that stands in some row, and what it writes there. -/
theorem wpList_append_keepX {P : Program} {ops : Array Oper} {rest : List Oper} {o : Oper} {a : Act} {Q : Exit → Act → World → Prop} {W : World} (base : Nat)
    (hgd : o.guard = none) (s x : Operand) (t e : TypeId) (z : Value) (size bytes : Nat)
    (ho : o.op = .call { callee := .builtin .append, args := #[s, x], argTypes := #[t, t] })
    (ht : P.underlying t = some (.slice e)) (hinfo : (P.info? e).map (fun i => (i.zero, i.size, i.bytes)) = some (some z, size, bytes)) (hz : z.cells.size = size) (hs0 : 0 < size) (hb0 : 0 < bytes)
    (v : Value) (n m : Nat) (xs ys : List Value) (ad : Addr) (c : Nat) (hs : a.eval s = v) (hx : a.eval x = .slice (some ad) m c) (hys : ys.length = m * size)
    (hnews : ∀ j u, ys[j]? = some u → W.cell? (ad.add j) = some u) (h1 : ∀ u ∈ ys, u.oneCell' = true)
    (HO : W.ownsRow base e size v n xs) (hbase : base ≤ W.heap.size) (hl : (n + m) * bytes ≤ 140737488355328)
    (h : ∀ A' c' w1, w1.ownsRow base e size (.slice A' (n + m) c') (n + m) (xs ++ ys) → W.grownBy w1 v.ownBlock → ((Value.slice A' (n + m) c').ownBlock = v.ownBlock ∨ (Value.slice A' (n + m) c').ownBlock = some W.heap.size) →
      (∀ g cur, v.ownBlock = some g → W.heap[g]? = some (.cells cur e (0, 0)) → ∃ cur', w1.heap[g]? = some (.cells cur' e (0, 0)) ∧ PutAt cur cur' (n * size) ys) →
      wpList P ops Q rest (a.put o.dst (.slice A' (n + m) c')) w1) :
    wpList P ops Q (o :: rest) a W := by
  refine wpList_plain hgd fun K hK => ?_
  obtain ⟨i0, hi, hzz⟩ := Option.map_eq_some_iff.1 hinfo
  simp only [Prod.mk.injEq] at hzz
  obtain ⟨hz0, hz1, hz2⟩ := hzz
  have hlen : n + m ≤ 140737488355328 := Nat.le_trans (Nat.le_mul_of_pos_right _ hb0) hl
  unfold Oper.wp execOp
  obtain ⟨v1, w1, hr, hown, hg, _, hat⟩ := run_append_own_at (P := P) W base t o.type e i0 z size bytes ht hi hz0 hz1 hz2 hz hs0 v n xs HO ad m c ys hys hnews h1 (by simp only [maxLen]; omega) hl hbase
  have hkeep : ∀ g cur, v.ownBlock = some g → W.heap[g]? = some (.cells cur e (0, 0)) → ∃ cur', w1.heap[g]? = some (.cells cur' e (0, 0)) ∧ PutAt cur cur' (n * size) ys := by
    intro g cur hgv hgc
    have hxs := HO.1
    rcases HO.2 with ⟨rfl, _⟩ | ⟨g', cap, cur0, rfl, hbg, hg', hnc, hcm, hcs, htake⟩
    · simp [Value.ownBlock] at hgv
    · have hgg : g' = g := by simpa [Value.ownBlock] using hgv
      subst hgg
      obtain rfl : cur0 = cur := by rw [hg'] at hgc; simpa using hgc
      have hlt : g' < W.heap.size := (Array.getElem?_eq_some_iff.1 hg').1
      by_cases hroom : n + m ≤ cap
      · have hfit : n * size + ys.length ≤ cur0.size := by rw [hys, hcs, ← Nat.add_mul]; exact Nat.mul_le_mul_right _ hroom
        have hr2 := run_append_room (P := P) W t o.type e i0 ht hi g' n cap cur0 hg' ad m c ys (by rw [hz1]; exact hys) hnews h1 hroom (by rw [hz1]; exact hfit)
        have e1 := hr.symm.trans hr2
        injection e1 with e1 e2
        rw [hz1] at e2
        subst e2
        exact ⟨_, setRow_heap W g' cur0 _ e _ hg', putAt_mk cur0 (n * size) ys hfit⟩
      · have holds : ∀ j u, xs[j]? = some u → W.cell? ((⟨g', 0, none⟩ : Addr).add j) = some u := HO.cells (g := g') rfl
        have hr2 := run_append_grow (P := P) W t o.type e i0 z ht hi hz0 ⟨g', 0, none⟩ n cap xs (by rw [hz1]; exact hxs) holds ad m c ys (by rw [hz1]; exact hys) hnews (by omega) (by omega) (growslice_fits (by omega) (by rw [hz2]; exact hl))
        have e1 := hr.symm.trans hr2
        injection e1 with e1 e2
        subst e2
        exact ⟨cur0, (heap_alloc_old W.drew _ hlt).trans hg', .refl _ _ _⟩
  simp only [ho, resolve, invoke, builtin, Sem.run_bind, Sem.run_pure, Result.andThen_ok, List.map_toArray, List.map_cons, List.map_nil, hs, hx, hr]
  have hv : ∃ A' c', v1 = .slice A' (n + m) c' := by
    rcases hown.2 with ⟨rfl, h0⟩ | ⟨g, cap, cur, rfl, _⟩
    · exact ⟨_, _, by rw [h0]⟩
    · exact ⟨_, _, rfl⟩
  obtain ⟨A', c', rfl⟩ := hv
  exact hK _ _ (h A' c' w1 hown hg hat hkeep)
end Go.Proofs.YteekafkpeimhoaaDoor

/- A tree that was handed out is written over: what may have changed. Plain. -/
set_option linter.unusedVariables false
set_option linter.unusedSimpArgs false
namespace Go.Proofs.YteekafkpeimhoaaDoor
open Go.RowKit

def leafT (k : Int) : T := .mk k 0 0 0 0 0 0 []
/-- Nodes written over by leaves. -/
def LeafStep (cur cur' : Array Value) : Prop := cur'.size = cur.size ∧ ∀ q, (∀ j, j < 8 → cur'[q * 8 + j]? = cur[q * 8 + j]?) ∨ ∃ k, ∀ j, j < 8 → cur'[q * 8 + j]? = (xcell (leafT k, none, 0))[j]?
theorem LeafStep.refl (c : Array Value) : LeafStep c c := ⟨rfl, fun _ => .inl fun _ _ => rfl⟩
theorem LeafStep.trans {a b c : Array Value} (h : LeafStep a b) (k : LeafStep b c) : LeafStep a c := by
  refine ⟨k.1.trans h.1, fun q => ?_⟩
  rcases k.2 q with k | k
  · rcases h.2 q with h | ⟨x, h⟩
    · exact .inl fun j hj => (k j hj).trans (h j hj)
    · exact .inr ⟨x, fun j hj => (k j hj).trans (h j hj)⟩
  · exact .inr k
theorem LeafStep.put {cur cur' : Array Value} {n : Nat} {k : Int} (h : PutAt cur cur' (n * 8) (xcell (leafT k, none, 0))) : LeafStep cur cur' := by
  refine ⟨h.size, fun q => ?_⟩
  have hl : (xcell (leafT k, none, 0)).length = 8 := rfl
  rcases h.new with h2 | h2
  · exact .inl fun _ _ => by rw [h2]
  · by_cases hq : q = n
    · subst hq
      exact .inr ⟨k, fun j hj => h2 j (by rw [hl]; exact hj)⟩
    · refine .inl fun j hj => h.old _ ?_
      rw [hl]
      rcases Nat.lt_or_gt_of_ne hq with h3 | h3
      · left; omega
      · right; omega

/-- Nothing old is touched but rows of nodes that may be, and there whole nodes are written over by leaves. -/
structure SpT (ok : Nat → Prop) (w w' : World) : Prop where
  os : w'.os = w.os
  tape : w'.tape = w.tape
  output : w'.output = w.output
  size : w.heap.size ≤ w'.heap.size
  block : ∀ b, b < w.heap.size → w'.heap[b]? = w.heap[b]? ∨ (ok b ∧ ∃ cur cur', BlkX w b cur ∧ BlkX w' b cur' ∧ LeafStep cur cur')
theorem SpT.refl (ok : Nat → Prop) (w : World) : SpT ok w w := ⟨rfl, rfl, rfl, Nat.le_refl _, fun _ _ => .inl rfl⟩
theorem SpT.trans {ok : Nat → Prop} {a b c : World} (h : SpT ok a b) (k : SpT ok b c) : SpT ok a c := by
  refine ⟨k.os.trans h.os, k.tape.trans h.tape, k.output.trans h.output, Nat.le_trans h.size k.size, fun g hg => ?_⟩
  rcases h.block g hg with h1 | ⟨h0, x, y, h1, h2, h3⟩
  · rcases k.block g (Nat.lt_of_lt_of_le hg h.size) with k1 | ⟨k0, x, y, k1, k2, k3⟩
    · exact .inl (k1.trans h1)
    · exact .inr ⟨k0, x, y, k1.keep h1.symm, k2, k3⟩
  · rcases k.block g (Nat.lt_of_lt_of_le hg h.size) with k1 | ⟨k0, x', y', k1, k2, k3⟩
    · exact .inr ⟨h0, x, y, h1, h2.keep k1, h3⟩
    · have e : y = x' := by have := h2.symm.trans k1; simpa using this
      subst e
      exact .inr ⟨h0, x, y', h1, k2, h3.trans k3⟩
theorem SpT.of_below {ok : Nat → Prop} {w w' : World} (h : Below w.heap.size w w') : SpT ok w w' := ⟨h.os, h.tape, h.output, h.size, fun b hb => .inl (h.block b hb)⟩
theorem SpT.keep {ok : Nat → Prop} {w w' : World} (h : SpT ok w w') {b : Nat} (hb : b < w.heap.size) (hn : ¬ ok b) : w'.heap[b]? = w.heap[b]? := (h.block b hb).elim id fun h => absurd h.1 hn
theorem SpT.below {ok : Nat → Prop} {w w' : World} (h : SpT ok w w') {B : Nat} (hB : B ≤ w.heap.size) (hn : ∀ b, ok b → B ≤ b) : Below B w w' := ⟨h.os, h.tape, h.output, h.size, fun b hb => h.keep (by omega) (fun ho => by have := hn b ho; omega)⟩
/-- One row is written over. -/
theorem SpT.row {ok : Nat → Prop} {w w' : World} {g : Nat} (hg : w.grownBy w' (some g)) (hok : ok g) {cur cur' : Array Value} (h1 : BlkX w g cur) (h2 : BlkX w' g cur') (h3 : LeafStep cur cur') : SpT ok w w' := by
  refine ⟨hg.os, hg.tape, hg.output, hg.size, fun b hb => ?_⟩
  by_cases e : b = g
  · subst e; exact .inr ⟨hok, cur, cur', h1, h2, h3⟩
  · exact .inl (hg.block b hb (by simpa using e))
/-- Rows of their own stay so. -/
theorem SL.spoil {w w' : World} {ok : Nat → Prop} (hS : SpT ok w w') : ∀ {n : Nat} {A : Option Addr} {len c : Nat}, SL w ok n A len c → SL w' ok n A len c
  | 0, A, len, c, h => h
  | n + 1, A, len, c, h => by
    rcases h with h | ⟨g, cur, h1, h2, h3, h4, h5, h6, h7⟩
    · exact .inl h
    · have hlt : g < w.heap.size := (Array.getElem?_eq_some_iff.1 h3).1
      obtain ⟨cur', h3', hL⟩ : ∃ cur', BlkX w' g cur' ∧ LeafStep cur cur' := by
        rcases hS.block g hlt with e | ⟨_, x, y, e1, e2, e3⟩
        · exact ⟨cur, BlkX.keep h3 e, .refl _⟩
        · have e : cur = x := by have := (show BlkX w g cur from h3).symm.trans e1; simpa using this
          subst e
          exact ⟨y, e2, e3⟩
      refine .inr ⟨g, cur', h1, h2, h3', hL.1.trans h4, h5, h6, fun i hi => ?_⟩
      obtain ⟨x, hx, hs⟩ := h7 i hi
      rcases hL.2 i with hl | ⟨k, hl⟩
      · exact ⟨x, fun j hj => (hl j hj).trans (hx j hj), SL.spoil hS hs⟩
      · exact ⟨(leafT k, none, 0), hl, sl_none _ _ _⟩

/-- Eight cells of a row written. -/
def writeO (w : World) (b o : Nat) (x : Nx) : World :=
  (((((((w.setCell ⟨b, o, none⟩ (.int .i64 x.1.k)).setCell ⟨b, o + 1, none⟩ (.int .u64 x.1.s0)).setCell ⟨b, o + 2, none⟩ (.int .u64 x.1.s1)).setCell ⟨b, o + 3, none⟩ (.int .u64 x.1.s2)).setCell ⟨b, o + 4, none⟩ (.int .u64 x.1.s3)).setCell ⟨b, o + 5, none⟩ (.int .i64 x.1.mn)).setCell ⟨b, o + 6, none⟩ (.int .i64 x.1.mx)).setCell ⟨b, o + 7, none⟩ (.slice x.2.1 x.1.ps.length x.2.2)
theorem grown_set (w : World) (b o : Nat) (v : Value) : w.grownBy (w.setCell ⟨b, o, none⟩ v) (some b) := ⟨rfl, rfl, rfl, by simp, fun k hk hne => Below.heap_setCell _ _ _ _ (fun e => hne (by rw [e]))⟩
theorem grown_trans {a b c : World} {row : Option Nat} (h : a.grownBy b row) (k : b.grownBy c row) : a.grownBy c row :=
  ⟨k.os.trans h.os, k.tape.trans h.tape, k.output.trans h.output, Nat.le_trans h.size k.size, fun i hi hne => (k.block i (Nat.lt_of_lt_of_le hi h.size) hne).trans (h.block i hi hne)⟩
theorem writeO_grown (w : World) (b o : Nat) (x : Nx) : w.grownBy (writeO w b o x) (some b) :=
  grown_trans (grown_trans (grown_trans (grown_trans (grown_trans (grown_trans (grown_trans (grown_set _ _ _ _) (grown_set _ _ _ _)) (grown_set _ _ _ _)) (grown_set _ _ _ _)) (grown_set _ _ _ _)) (grown_set _ _ _ _)) (grown_set _ _ _ _)) (grown_set _ _ _ _)
def put8 (cs : Array Value) (o : Nat) (x : Nx) : Array Value :=
  (((((((cs.setIfInBounds o (.int .i64 x.1.k)).setIfInBounds (o + 1) (.int .u64 x.1.s0)).setIfInBounds (o + 2) (.int .u64 x.1.s1)).setIfInBounds (o + 3) (.int .u64 x.1.s2)).setIfInBounds (o + 4) (.int .u64 x.1.s3)).setIfInBounds (o + 5) (.int .i64 x.1.mn)).setIfInBounds (o + 6) (.int .i64 x.1.mx)).setIfInBounds (o + 7) (.slice x.2.1 x.1.ps.length x.2.2)
theorem put8_put (cs : Array Value) (o : Nat) (x : Nx) (ho : o + 8 ≤ cs.size) : PutAt cs (put8 cs o x) o (xcell x) := by
  have hl : (xcell x).length = 8 := rfl
  refine ⟨by simp [put8], fun k hk => ?_, .inr fun j hj => ?_⟩
  · rw [hl] at hk
    unfold put8
    rw [Array.getElem?_setIfInBounds_ne (by omega), Array.getElem?_setIfInBounds_ne (by omega), Array.getElem?_setIfInBounds_ne (by omega), Array.getElem?_setIfInBounds_ne (by omega), Array.getElem?_setIfInBounds_ne (by omega), Array.getElem?_setIfInBounds_ne (by omega), Array.getElem?_setIfInBounds_ne (by omega), Array.getElem?_setIfInBounds_ne (by omega)]
  · rw [hl] at hj
    unfold put8 xcell
    rcases (by omega : j = 0 ∨ j = 1 ∨ j = 2 ∨ j = 3 ∨ j = 4 ∨ j = 5 ∨ j = 6 ∨ j = 7) with rfl | rfl | rfl | rfl | rfl | rfl | rfl | rfl
    all_goals
      simp [Array.getElem?_setIfInBounds]
      try omega
theorem writeO_blk {w : World} {b o : Nat} {cs : Array Value} (h : BlkX w b cs) (x : Nx) : BlkX (writeO w b o x) b (put8 cs o x) := by
  unfold writeO put8
  exact (((((((h.set o (.int .i64 x.1.k)).set (o + 1) (.int .u64 x.1.s0)).set (o + 2) (.int .u64 x.1.s1)).set (o + 3) (.int .u64 x.1.s2)).set (o + 4) (.int .u64 x.1.s3)).set (o + 5) (.int .i64 x.1.mn)).set (o + 6) (.int .i64 x.1.mx)).set (o + 7) (.slice x.2.1 x.1.ps.length x.2.2)
end Go.Proofs.YteekafkpeimhoaaDoor

/- SpoilNode: walked. -/
set_option linter.unusedVariables false
set_option linter.unusedSimpArgs false
namespace Go.Proofs.YteekafkpeimhoaaDoor
open Go.RowKit

theorem SL.own {w : World} {ok : Nat → Prop} {n : Nat} {A : Option Addr} {len c : Nat} (h : SL w ok (n + 1) A len c) : ∃ xs, w.ownsRow 0 27 8 (.slice A len c) len xs := by
  rcases h with ⟨rfl, rfl, rfl⟩ | ⟨g, cur, rfl, h2, h3, h4, h5, h6, h7⟩
  · exact ⟨[], World.ownsRow_nil w 0 _ 8⟩
  · refine ⟨cur.toList.take (len * 8), ?_, .inr ⟨g, c, cur, rfl, Nat.zero_le _, h3, h5.1, h6, h4, rfl⟩⟩
    rw [List.length_take, Array.length_toList, h4]
    exact Nat.min_eq_left (Nat.mul_le_mul_right _ h5.1)
theorem SL.at {w : World} {ok : Nat → Prop} {n : Nat} {A : Option Addr} {len c : Nat} (h : SL w ok (n + 1) A len c) {i : Nat} (hi : i < len) : ∃ (g : Nat) (cur : Array Value) (x : Nx), A = some ⟨g, 0, none⟩ ∧ ok g ∧ BlkX w g cur ∧ cur.size = c * 8 ∧ len ≤ c ∧ len ≤ 1000000 ∧ (∀ j, j < 8 → cur[i * 8 + j]? = (xcell x)[j]?) ∧ SL w ok n x.2.1 x.1.ps.length x.2.2 := by
  rcases h with ⟨_, h, _⟩ | ⟨g, cur, rfl, h2, h3, h4, h5, h6, h7⟩
  · omega
  · obtain ⟨x, hx, hs⟩ := h7 i hi
    exact ⟨g, cur, x, rfl, h2, h3, h4, h5.1, h5.2, hx, hs⟩
theorem SL.bd {w : World} {ok : Nat → Prop} {n : Nat} {A : Option Addr} {len c : Nat} (h : SL w ok n A len c) : len ≤ 1000000 := by
  cases n with
  | zero => have := h.2.1; omega
  | succ n => rcases h with ⟨_, h, _⟩ | ⟨g, cur, _, _, _, _, h5, _⟩ <;> omega

set_option maxRecDepth 100000 in
set_option maxHeartbeats 4000000 in
theorem spoilT_step (ok : Nat → Prop) (n : Nat) (t : T) (A : Option Addr) (c : Nat) (w : World) (hsl : SL w ok (n + 1) A t.ps.length c) (hok : ∀ b, ok b → b < w.heap.size)
    (ih : 0 < t.ps.length → ∀ (t : T) (A : Option Addr) (c : Nat) (w : World), SL w ok n A t.ps.length c → (∀ b, ok b → b < w.heap.size) → Calls Tryd.prog 8 #[nodeV t A c] w fun e w' => e = .returned (.tuple #[]) ∧ SpT ok w w') :
    Calls Tryd.prog 8 #[nodeV t A c] w fun e w' => e = .returned (.tuple #[]) ∧ SpT ok w w' := by
  have Hih := Lib.hid ih; have Hok := Lib.hid hok
  have hlen := hsl.bd
  clear ih hok
  go_enter Tryd.func8, Tryd.ntmps8
  go_wp2_with fail
  generalize hW : w.alloc _ = W0
  have hb0 : Below w.heap.size w W0 := by subst hW; exact (Below.refl _ _).alloc (Nat.le_refl _) _
  have hS0 : SpT ok w W0 := .of_below hb0
  have hz0 : w.heap.size < W0.heap.size := by subst hW; simp
  have p0 : W0.cell? ⟨w.heap.size, 7, none⟩ = some (.slice A t.ps.length c) := by subst hW; simp [go_sem]
  have Hsl := Lib.hid hsl
  clear hW hb0 hsl
  generalize hm : t.ps.length = m at *
  clear hm
  go_loopg [2] m (fun n i wr => ∃ (j : Nat), i = .int .i64 j ∧ j + n = m ∧ SpT ok w wr ∧ w.heap.size < wr.heap.size ∧ wr.cell? ⟨w.heap.size, 7, none⟩ = some (.slice A m c))
  case atStart => exact ⟨0, rfl, by omega, hS0, hz0, p0⟩
  case round =>
    clear hS0 hz0 p0
    obtain ⟨j, rfl, hj, hS, hz, p0⟩ := hrel
    have Hj := Lib.hid hj
    have HS := Lib.hid hS
    clear hj hS
    by_cases hlt : j < m
    · have hsl1 := SL.spoil HS.out Hsl.out
      have Hsl1 := Lib.hid hsl1
      obtain ⟨g, cur, x, hA, hg, hblk, hcs, hmc, _, hx, hsx⟩ := hsl1.at hlt
      subst hA
      have hgl : g < w.heap.size := Hok.out g hg
      have hc : ∀ k, k < 8 → wr.cell? ⟨g, j * 8 + k, none⟩ = (xcell x)[k]? := fun k hk => (hblk.cell _).trans (hx k hk)
      have f0 := hc 0 (by omega); have f1 := hc 1 (by omega); have f2 := hc 2 (by omega); have f3 := hc 3 (by omega)
      have f4 := hc 4 (by omega); have f5 := hc 5 (by omega); have f6 := hc 6 (by omega); have f7 := hc 7 (by omega)
      simp only [xcell, List.getElem?_cons_zero, List.getElem?_cons_succ, Nat.add_zero] at f0 f1 f2 f3 f4 f5 f6 f7
      have Hsx := Lib.hid hsx
      have HokR := Lib.hid (fun b hb => Nat.lt_of_lt_of_le (Hok.out b hb) HS.out.size : ∀ b, ok b → b < wr.heap.size)
      obtain ⟨x, xA, xc⟩ := x
      simp only at f0 f1 f2 f3 f4 f5 f6 f7
      clear hsl1 hblk hx hsx hc hcs hmc
      go_wp2_with fail
      refine (Hih.out (by omega) x xA xc wr Hsx.out HokR.out).mono ?_
      rintro e w2 ⟨rfl, hS2⟩
      have hsl2 := SL.spoil hS2 Hsl1.out
      obtain ⟨g', cur2, x2, hA2, _, hblk2, hcs2, hmc2, _, hx2, _⟩ := hsl2.at hlt
      obtain rfl : g = g' := by simpa using hA2
      have hz2 : w.heap.size < w2.heap.size := Nat.lt_of_lt_of_le hz hS2.size
      have p2 : w2.cell? ⟨w.heap.size, 7, none⟩ = some (.slice (some ⟨g, 0, none⟩) m c) := (World.cell?_of_block (w := wr) (a := ⟨w.heap.size, 7, none⟩) (hS2.keep hz (fun h => Nat.lt_irrefl _ (Hok.out _ h)))).trans p0
      have HS2 := Lib.hid (HS.out.trans hS2)
      have hc2 : ∀ k, k < 8 → w2.cell? ⟨g, j * 8 + k, none⟩ = (xcell x2)[k]? := fun k hk => (hblk2.cell _).trans (hx2 k hk)
      have g0 := hc2 0 (by omega); have g1 := hc2 1 (by omega); have g2 := hc2 2 (by omega); have g3 := hc2 3 (by omega)
      have g4 := hc2 4 (by omega); have g5 := hc2 5 (by omega); have g6 := hc2 6 (by omega); have g7 := hc2 7 (by omega)
      simp only [xcell, List.getElem?_cons_zero, List.getElem?_cons_succ, Nat.add_zero] at g0 g1 g2 g3 g4 g5 g6 g7
      have e0 := hblk2.froz (j * 8); have e1 := hblk2.froz (j * 8 + 1); have e2 := hblk2.froz (j * 8 + 2); have e3 := hblk2.froz (j * 8 + 3)
      have e4 := hblk2.froz (j * 8 + 4); have e5 := hblk2.froz (j * 8 + 5); have e6 := hblk2.froz (j * 8 + 6); have e7 := hblk2.froz (j * 8 + 7)
      have hw2 : ∃ cur3, BlkX (writeO w2 g (j * 8) (leafT (-5), none, 0)) g cur3 ∧ PutAt cur2 cur3 (j * 8) (xcell (leafT (-5), none, 0)) := ⟨_, writeO_blk hblk2 _, put8_put _ _ _ (by omega)⟩
      have hgr := writeO_grown w2 g (j * 8) (leafT (-5), none, 0)
      have Hblk2 := Lib.hid hblk2; have Hw2 := Lib.hid hw2; have Hgr := Lib.hid hgr
      have hgne : g ≠ w.heap.size := by omega
      clear hsl2 hblk2 hx2 hc2 f0 f1 f2 f3 f4 f5 f6 f7 hw2 hgr p0 hz hcs2 hmc2 hA2
      go_wp2_with fail
      change Handed _ _ _ (writeO w2 g (j * 8) (leafT (-5), none, 0))
      obtain ⟨cur3, hblk3, hput⟩ := Hw2.out
      have hS3 : SpT ok w (writeO w2 g (j * 8) (leafT (-5), none, 0)) := HS2.out.trans (.row Hgr.out hg Hblk2.out hblk3 (.put hput))
      have hz3 : w.heap.size < (writeO w2 g (j * 8) (leafT (-5), none, 0)).heap.size := Nat.lt_of_lt_of_le hz2 Hgr.out.size
      have p3 : (writeO w2 g (j * 8) (leafT (-5), none, 0)).cell? ⟨w.heap.size, 7, none⟩ = some (.slice (some ⟨g, 0, none⟩) m c) := (World.cell?_of_block (w := w2) (a := ⟨w.heap.size, 7, none⟩) (Hgr.out.block _ hz2 (by simp; omega))).trans p2
      generalize writeO w2 g (j * 8) (leafT (-5), none, 0) = w3 at *
      have hj := Hj.out
      go_roundg (gk - 1)
      case measure => omega
      case rel => exact ⟨j + 1, by go_num, by omega, hS3, hz3, p3⟩
    · have hj' : (m : Int) ≤ (j : Int) := by omega
      clear Hj
      go_wp2_with fail
      obtain ⟨xs, ho⟩ := (SL.spoil HS.out Hsl.out).own
      have hsp : ∀ g, (Value.slice A m c).ownBlock = some g → ok g ∧ g < w.heap.size ∧ ∃ cur, BlkX wr g cur := fun g hg => by
        rcases SL.spoil HS.out Hsl.out with ⟨rfl, _⟩ | ⟨g', cur, rfl, h2, h3, _⟩
        · simp [Value.ownBlock] at hg
        · obtain rfl : g' = g := by simpa [Value.ownBlock] using hg
          exact ⟨h2, Hok.out _ h2, cur, h3⟩
      have Hsp := Lib.hid hsp; have Ho := Lib.hid ho
      clear hsp ho p0 hj'
      go_loopg [3, 4] 8 (fun n lv i W => ∃ (k : Nat) (A2 : Option Addr) (c2 : Nat) (ys : List Value), i = .int .i64 k ∧ k + n = 8 ∧ lv = .slice A2 (m + k) c2 ∧ SpT ok w W ∧ w.heap.size < W.heap.size ∧ W.ownsRow 0 27 8 (.slice A2 (m + k) c2) (m + k) ys ∧
        (∀ b, (Value.slice A2 (m + k) c2).ownBlock = some b → b < w.heap.size → ok b ∧ ∃ cur, BlkX W b cur))
      case atStart => exact ⟨0, A, c, xs, rfl, rfl, rfl, HS.out, hz, Ho.out, fun b hb _ => ⟨(Hsp.out b hb).1, (Hsp.out b hb).2.2⟩⟩
      case round =>
        clear HS Ho Hsp hz
        obtain ⟨k, A2, c2, ys, rfl, hk, rfl, hS, hz, ho2, hrow⟩ := hrel
        have Ho2 := Lib.hid ho2; have HS := Lib.hid hS; have Hrow := Lib.hid hrow
        clear ho2 hS hrow
        by_cases hlt8 : k < 8
        · have hnews : ∀ j u, (xcell (leafT (-6), none, 0))[j]? = some u → (wr.alloc (.cells (xcell (leafT (-6), none, 0)).toArray 27)).cell? ((⟨wr.heap.size, 0, none⟩ : Addr).add j) = some u := by
            intro j u hu
            rw [addr_addX, World.cell?_alloc_new, Nat.zero_add]
            simpa using hu
          have Hnews := Lib.hid hnews; clear hnews
          go_wp2_with (at_builtin; refine wpList_append_keepX 0 rfl _ _ 25 27 _ 8 80 rfl Tryd.underlying25 Tryd.infoNodeX rfl (by omega) (by omega) (.slice A2 (m + k) c2) (m + k) 1 ys (xcell (leafT (-6), none, 0)) ⟨wr.heap.size, 0, none⟩ 1 rfl rfl rfl Hnews.out (xcell_one _) (Ho2.out.alloc _) (Nat.zero_le _) (by omega) (fun A3 c3 w3 ho3 hg3 hat3 hkp3 => ?_); have Ho3 := Lib.hid ho3; have Hat3 := Lib.hid hat3; have Hg3 := Lib.hid hg3; have Hkp3 := Lib.hid hkp3; clear ho3 hat3 hg3 hkp3)
          have hal := World.grownBy_alloc wr (.cells (xcell (leafT (-6), none, 0)).toArray 27) none
          have hz3 := Hg3.out.size
          have hza := hal.size
          have hzz : w.heap.size < w3.heap.size := Nat.lt_of_lt_of_le (Nat.lt_of_lt_of_le hz hza) hz3
          have hS3 : SpT ok w w3 := by
            have hSa : SpT ok w (wr.alloc (.cells (xcell (leafT (-6), none, 0)).toArray 27)) := HS.out.trans (.of_below ((Below.refl _ _).alloc (Nat.le_refl _) _))
            refine ⟨Hg3.out.os.trans hSa.os, Hg3.out.tape.trans hSa.tape, Hg3.out.output.trans hSa.output, Nat.le_trans hSa.size Hg3.out.size, fun b hb => ?_⟩
            by_cases e : some b = (Value.slice A2 (m + k) c2).ownBlock
            · obtain ⟨hob, cur, hcur⟩ := Hrow.out b e.symm hb
              have hcur' := hcur.keep (hal.block b hcur.lt (by simp))
              obtain ⟨cur', h1, h2⟩ := Hkp3.out b cur e.symm hcur'
              rcases hSa.block b hb with h3 | ⟨_, a1, a2, h3, h4, h5⟩
              · exact .inr ⟨hob, cur, cur', hcur'.keep h3.symm, h1, .put h2⟩
              · have e2 : a2 = cur := by have := h4.symm.trans hcur'; simpa using this
                subst e2
                exact .inr ⟨hob, a1, cur', h3, h1, h5.trans (.put h2)⟩
            · have h6 := Hg3.out.block b (Nat.lt_of_lt_of_le hb hSa.size) e
              rcases hSa.block b hb with h3 | ⟨hob, a1, a2, h3, h4, h5⟩
              · exact .inl (h6.trans h3)
              · exact .inr ⟨hob, a1, a2, h3, h4.keep h6, h5⟩
          have hrow3 : ∀ b, (Value.slice A3 (m + k + 1) c3).ownBlock = some b → b < w.heap.size → ok b ∧ ∃ cur, BlkX w3 b cur := fun b hb hlt => by
            rcases Hat3.out with h | h
            · obtain ⟨hob, cur, hcur⟩ := Hrow.out b (h.symm.trans hb) hlt
              obtain ⟨cur', h1, _⟩ := Hkp3.out b cur (h.symm.trans hb) (hcur.keep (hal.block b hcur.lt (by simp)))
              exact ⟨hob, cur', h1⟩
            · have e2 : b = (wr.alloc (.cells (xcell (leafT (-6), none, 0)).toArray 27)).heap.size := Option.some.inj (hb.symm.trans h)
              omega
          have Hrow3 := Lib.hid hrow3
          clear hrow3 hal
          go_roundg (gk - 1)
          case measure => omega
          case rel =>
            exact ⟨k + 1, A3, c3, _, by go_num, by omega, rfl, hS3, hzz, Ho3.out, Hrow3.out⟩
        · go_wp2_with fail
          go_end0
          exact ⟨rfl, HS.out⟩
/-- A tree that was handed out is written over. -/
theorem spoilT_any (ok : Nat → Prop) : ∀ (n : Nat) (t : T) (A : Option Addr) (c : Nat) (w : World), SL w ok n A t.ps.length c → (∀ b, ok b → b < w.heap.size) → Calls Tryd.prog 8 #[nodeV t A c] w fun e w' => e = .returned (.tuple #[]) ∧ SpT ok w w'
  | 0, t, A, c, w, h, hok => spoilT_step ok 0 t A c w h.up hok (fun h0 => by have := h.2.1; omega)
  | n + 1, t, A, c, w, h, hok => spoilT_step ok n t A c w h hok (fun _ => spoilT_any ok n)
end Go.Proofs.YteekafkpeimhoaaDoor

/- vouchlaw10.PatternReads: walked. -/
set_option linter.unusedVariables false
set_option linter.unusedSimpArgs false
namespace Go.Proofs.YteekafkpeimhoaaDoor
open Go.RowKit

def resT (x : Bs) : T := match parseP x with | .ok t => t | .error _ => none0
def resE (x : Bs) : Int := match parseP x with | .ok _ => 0 | .error e => e
theorem par2_sum {x : Bs} {w w' : World} {en : Ending} (h : GPar2 x w en w') : Below w.heap.size w w' ∧ ∃ A c, en = .returned (.tuple #[nodeV (resT x) A c, .int .i64 (resE x)]) ∧ RowAt w' (fun b => w.heap.size ≤ b ∧ b < w'.heap.size) (resT x) A c := by
  obtain ⟨hb, ⟨t, A, c, hp, he, hN⟩ | ⟨e, hp, h1, h2⟩⟩ := h
  · exact ⟨hb, A, c, by unfold resT resE; rw [hp]; exact he, by unfold resT; rw [hp]; exact hN⟩
  · exact ⟨hb, none, 0, by unfold resT resE; rw [hp]; exact h2, by unfold resT; rw [hp]; exact row_leaf _ _ _ rfl⟩
theorem par_sum {x : Bs} {w w' : World} {en : Ending} (h : GPar x w en w') : Below w.heap.size w w' ∧ ∃ A c, en = .returned (.tuple #[nodeV (resT x) A c, .int .i64 (resE x)]) ∧ NodeAt w' (fun b => w.heap.size ≤ b ∧ b < w'.heap.size) (resT x) A c := by
  obtain ⟨hb, ⟨t, A, c, hp, he, hN⟩ | ⟨e, hp, h1, h2⟩⟩ := h
  · exact ⟨hb, A, c, by unfold resT resE; rw [hp]; exact he, by unfold resT; rw [hp]; exact hN⟩
  · exact ⟨hb, none, 0, by unfold resT resE; rw [hp]; exact h2, by unfold resT; rw [hp]; exact nodeAt_leafX _ _ _ rfl⟩
theorem RowAt.after {w w' : World} {ok : Nat → Prop} {t : T} {A : Option Addr} {c : Nat} (h : RowAt w ok t A c) (hok : ∀ b, ok b → b < w.heap.size) (hb : Below w.heap.size w w') : RowAt w' ok t A c :=
  h.mono fun b hk => ⟨hk, hb.block b (hok b hk)⟩
theorem NodeAt.spoilt {w w' : World} {ok ok' : Nat → Prop} {t : T} {A : Option Addr} {c : Nat} (h : NodeAt w ok t A c) (hok : ∀ b, ok b → b < w.heap.size) (hS : SpT ok' w w') (hd : ∀ b, ok b → ¬ ok' b) : NodeAt w' ok t A c :=
  h.mono fun b hk => ⟨hk, fun o => World.cell?_of_block (w := w) (a := ⟨b, o, none⟩) (hS.keep (hok b hk) (hd b hk))⟩
theorem Box.spoilt {w w' : World} {ok ok' : Nat → Prop} {p : Nat} {t : T} {A : Option Addr} {c : Nat} (h : Box w p t A c ok) (hS : SpT ok' w w') (hp : ¬ ok' p) (hd : ∀ b, ok b → ¬ ok' b) : Box w' p t A c ok :=
  ⟨h.at8.mono (fun o => World.cell?_of_block (w := w) (a := ⟨p, o, none⟩) (hS.keep (World.block_lt_of_cell? w ⟨p, 0, none⟩ h.at8.f0) hp)), h.node.spoilt h.okk hS hd, fun b hb => Nat.lt_of_lt_of_le (h.okk b hb) hS.size⟩
theorem Env.spoilt {w0 w w' : World} {ok : Nat → Prop} (hM : MaxOk w0) (hT : TabIn w0.heap.size w0) (h : Env w0 w) (hS : SpT ok w w') (hB : ∀ b, ok b → w0.heap.size ≤ b) : Env w0 w' := by
  have hb : Below w0.heap.size w0 w' := h.bl.trans (hS.below h.bl.size hB)
  exact ⟨hM.later hb, hT.step hb, hb⟩

set_option maxRecDepth 100000 in
set_option maxHeartbeats 8000000 in
theorem preads_any (w : World) (hM : MaxOk w) (hT : TabIn w.heap.size w) (x : Bs) (hx : x.length ≤ maxLen) :
    Calls Tryd.prog 3 #[.string (bs x)] w fun e w' => e = .returned (.bool true) ∧ Below w.heap.size w w' := by
  have HE := Lib.hid (Env.start hM hT); have HM0 := Lib.hid hM; have HT0 := Lib.hid hT
  have sz : (bs x).size = x.length := by simp [bs, ByteArray.size]
  have Hsame := Lib.hid (sameN_any (resT x))
  clear hM hT
  go_enter Tryd.func3, Tryd.ntmps3
  by_cases hlen : 4096 < x.length
  · go_wp2_with fail
    go_ret
    exact ⟨rfl, HE.out.bl⟩
  have hlen' : (x.length : Int) ≤ 4096 := by omega
  go_wp2_with fail
  refine (parse_par2 x w HE.out.mx (fun _ => brC) (fun _ => dotC)).mono ?_
  intro en w1 hG
  obtain ⟨hb1, A1, c1, rfl, hR1⟩ := par2_sum hG
  have HE1 := Lib.hid (HE.out.step hb1); have HR1 := Lib.hid hR1
  have HOK1 := Lib.hid (fun b (h : w.heap.size ≤ b ∧ b < w1.heap.size) => h.2)
  clear hG hb1 hR1 HE
  go_upto_region 4 with fail
  generalize hW : w1.alloc _ = W1
  have hb1 : Below w1.heap.size w1 W1 := by subst hW; exact (Below.refl _ _).alloc (Nat.le_refl _) _
  have h8 : At8 W1 w1.heap.size 0 (resT x) A1 c1 := by subst hW; constructor <;> simp [go_sem]
  have hz1 : W1.heap.size = w1.heap.size + 1 := by subst hW; simp
  clear hW
  have HX1 := Lib.hid (Box.mk h8 (HR1.out.node.later hb1 (fun b h => h.2)) (fun b h => Nat.lt_of_lt_of_le h.2 hb1.size))
  have HRa := Lib.hid (HR1.out.after HOK1.out hb1)
  have HEa := Lib.hid (HE1.out.step hb1)
  clear h8 hb1 HE1 HR1
  go_wp2_with fail
  refine (parse_par x W1 HEa.out.mx (fun _ => brC) (fun _ => dotC)).mono ?_
  intro en w2 hG
  obtain ⟨hb2, A2, c2, rfl, hN2⟩ := par_sum hG
  have HE2 := Lib.hid (HEa.out.step hb2); have HN2 := Lib.hid hN2; have HX2 := Lib.hid (HX1.out.step hb2); have HRb := Lib.hid (HRa.out.after HX1.out.okk hb2)
  have hz2 := hb2.size
  clear hG hb2 hN2 HEa HX1 HRa
  go_upto_region 5 with fail
  generalize hW : w2.alloc _ = W2
  have hb2 : Below w2.heap.size w2 W2 := by subst hW; exact (Below.refl _ _).alloc (Nat.le_refl _) _
  have h8 : At8 W2 w2.heap.size 0 (resT x) A2 c2 := by subst hW; constructor <;> simp [go_sem]
  have hz3 : W2.heap.size = w2.heap.size + 1 := by subst hW; simp
  clear hW
  have HY2 := Lib.hid (Box.mk h8 (HN2.out.later hb2 (fun b h => h.2)) (fun b h => Nat.lt_of_lt_of_le h.2 hb2.size))
  have HE3 := Lib.hid (HE2.out.step hb2); have HX3 := Lib.hid (HX2.out.step hb2); have HRc := Lib.hid (HRb.out.after HX2.out.okk hb2)
  clear h8 hb2 HE2 HN2 HX2 HRb
  go_wp2_with fail
  refine (qparse_any x W2).mono ?_
  intro en w3 hG
  obtain ⟨hb3, A3, c3, rfl, hN3⟩ := par_sum hG
  have HE4 := Lib.hid (HE3.out.step hb3); have HN4 := Lib.hid hN3; have HX4 := Lib.hid (HX3.out.step hb3); have HY4 := Lib.hid (HY2.out.step hb3); have HRd := Lib.hid (HRc.out.after HX3.out.okk hb3)
  have hz4 := hb3.size
  clear hG hb3 hN3 HE3 HX3 HRc HY2
  go_upto_region 6 with fail
  generalize hW : w3.alloc _ = W3
  have hb3 : Below w3.heap.size w3 W3 := by subst hW; exact (Below.refl _ _).alloc (Nat.le_refl _) _
  have h8 : At8 W3 w3.heap.size 0 (resT x) A3 c3 := by subst hW; constructor <;> simp [go_sem]
  clear hW
  have HZ5 := Lib.hid (Box.mk h8 (HN4.out.later hb3 (fun b h => h.2)) (fun b h => Nat.lt_of_lt_of_le h.2 hb3.size))
  have HE5 := Lib.hid (HE4.out.step hb3); have HX5 := Lib.hid (HX4.out.step hb3); have HY5 := Lib.hid (HY4.out.step hb3); have HRe := Lib.hid (HRd.out.after HX4.out.okk hb3)
  clear h8 hb3 HE4 HN4 HX4 HY4 HRd
  have hd12 : ∀ b, (W1.heap.size ≤ b ∧ b < w2.heap.size) → ¬ (w.heap.size ≤ b ∧ b < w1.heap.size) := fun b h k => by omega
  have hd13 : ∀ b, (W2.heap.size ≤ b ∧ b < w3.heap.size) → ¬ (w.heap.size ≤ b ∧ b < w1.heap.size) := fun b h k => by omega
  have hp2 : ¬ (w.heap.size ≤ w2.heap.size ∧ w2.heap.size < w1.heap.size) := fun k => by omega
  have hp3 : ¬ (w.heap.size ≤ w3.heap.size ∧ w3.heap.size < w1.heap.size) := fun k => by omega
  have Hd12 := Lib.hid hd12; have Hd13 := Lib.hid hd13; have Hp2 := Lib.hid hp2; have Hp3 := Lib.hid hp3
  clear hd12 hd13 hp2 hp3 hz1 hz2 hz3 hz4
  generalize w1.heap.size = q1 at *
  generalize w2.heap.size = q2 at *
  generalize w3.heap.size = q3 at *
  obtain ⟨f0, f1, f2, f3, f4, f5, f6, f7⟩ := HX5.out.at8
  obtain ⟨g0, g1, g2, g3, g4, g5, g6, g7⟩ := HZ5.out.at8
  generalize resE x = e0 at *
  go_wp2_with fail
  refine (Hsame.out W3 _ _ A1 A3 c1 c3 HX5.out.node HZ5.out.node HX5.out.okk HZ5.out.okk).mono ?_
  rintro e w6 ⟨rfl, hb6⟩
  have HE6 := Lib.hid (HE5.out.step hb6); have HX6 := Lib.hid (HX5.out.step hb6); have HY6 := Lib.hid (HY5.out.step hb6); have HZ6 := Lib.hid (HZ5.out.step hb6); have HRf := Lib.hid (HRe.out.after HX5.out.okk hb6)
  clear hb6 HE5 HX5 HY5 HZ5 HRe f0 f1 f2 f3 f4 f5 f6 f7 g0 g1 g2 g3 g4 g5 g6 g7
  obtain ⟨f0, f1, f2, f3, f4, f5, f6, f7⟩ := HY6.out.at8
  obtain ⟨g0, g1, g2, g3, g4, g5, g6, g7⟩ := HZ6.out.at8
  go_wp2_with fail
  refine (Hsame.out w6 _ _ A2 A3 c2 c3 HY6.out.node HZ6.out.node HY6.out.okk HZ6.out.okk).mono ?_
  rintro e w7 ⟨rfl, hb7⟩
  have HE7 := Lib.hid (HE6.out.step hb7); have HX7 := Lib.hid (HX6.out.step hb7); have HY7 := Lib.hid (HY6.out.step hb7); have HZ7 := Lib.hid (HZ6.out.step hb7); have HRg := Lib.hid (HRf.out.after HX6.out.okk hb7)
  clear hb7 HE6 HX6 HY6 HZ6 HRf f0 f1 f2 f3 f4 f5 f6 f7 g0 g1 g2 g3 g4 g5 g6 g7
  obtain ⟨f0, f1, f2, f3, f4, f5, f6, f7⟩ := HX7.out.at8
  go_wp2_with fail
  obtain ⟨n, hsl⟩ := HRg.out.sl
  refine (spoilT_any _ n (resT x) A1 c1 w7 hsl HX7.out.okk).mono ?_
  rintro e w8 ⟨rfl, hS⟩
  have HE8 := Lib.hid (Env.spoilt HM0.out HT0.out HE7.out hS (fun b h => h.1))
  have HY8 := Lib.hid (HY7.out.spoilt hS Hp2.out Hd12.out)
  have HZ8 := Lib.hid (HZ7.out.spoilt hS Hp3.out Hd13.out)
  clear hsl hS HE7 HX7 HY7 HZ7 HRg f0 f1 f2 f3 f4 f5 f6 f7
  obtain ⟨f0, f1, f2, f3, f4, f5, f6, f7⟩ := HY8.out.at8
  obtain ⟨g0, g1, g2, g3, g4, g5, g6, g7⟩ := HZ8.out.at8
  go_wp2_with fail
  refine (Hsame.out w8 _ _ A2 A3 c2 c3 HY8.out.node HZ8.out.node HY8.out.okk HZ8.out.okk).mono ?_
  rintro e w9 ⟨rfl, hb9⟩
  have HE9 := Lib.hid (HE8.out.step hb9)
  clear hb9 f0 f1 f2 f3 f4 f5 f6 f7 g0 g1 g2 g3 g4 g5 g6 g7
  go_wp2_with fail
  refine (works10_any w9 HE9.out.mx HE9.out.tb).mono ?_
  rintro e w10 ⟨rfl, hb10⟩
  go_wp2_with fail
  go_ret
  exact ⟨rfl, (HE9.out.step hb10).bl⟩
end Go.Proofs.YteekafkpeimhoaaDoor

/- States of machines in memory; a layer; append as one step. -/
set_option linter.unusedVariables false
set_option linter.unusedSimpArgs false
namespace Go.Proofs.YteekafkpeimhoaaDoor
open Go.RowKit

/-- append, as one step of a region that draws its order; the new slice is not nil. -/
theorem step_append_at {P : Program} {ops : Array Oper} {o : Oper} {a : Act} {Q : Exit → Act → World → Prop} {K : Act → World → Prop} {E : Prop} {W : World} (base : Nat)
    (hgd : o.guard = none) (s x : Operand) (t e : TypeId) (z : Value) (size bytes : Nat)
    (ho : o.op = .call { callee := .builtin .append, args := #[s, x], argTypes := #[t, t] })
    (ht : P.underlying t = some (.slice e)) (hinfo : (P.info? e).map (fun i => (i.zero, i.size, i.bytes)) = some (some z, size, bytes)) (hz : z.cells.size = size) (hs0 : 0 < size) (hb0 : 0 < bytes)
    (v : Value) (n m : Nat) (xs ys : List Value) (ad : Addr) (c : Nat) (hs : a.eval s = v) (hx : a.eval x = .slice (some ad) m c) (hm : 0 < m) (hys : ys.length = m * size)
    (hnews : ∀ j u, ys[j]? = some u → W.cell? (ad.add j) = some u) (h1 : ∀ u ∈ ys, u.oneCell' = true)
    (HO : W.ownsRow base e size v n xs) (hbase : base ≤ W.heap.size) (hl : (n + m) * bytes ≤ 140737488355328)
    (h : ∀ g cap w1, w1.ownsRow base e size (.slice (some ⟨g, 0, none⟩) (n + m) cap) (n + m) (xs ++ ys) → W.grownBy w1 v.ownBlock → (v.ownBlock = some g ∨ g = W.heap.size) →
      K (a.put o.dst (.slice (some ⟨g, 0, none⟩) (n + m) cap)) w1) :
    if Region.wanted o (yielded ops a.tmps) = true then Oper.wp P o a W K Q else E := by
  obtain ⟨i0, hi, hzz⟩ := Option.map_eq_some_iff.1 hinfo
  simp only [Prod.mk.injEq] at hzz
  obtain ⟨hz0, hz1, hz2⟩ := hzz
  have hlen : n + m ≤ 140737488355328 := Nat.le_trans (Nat.le_mul_of_pos_right _ hb0) hl
  rw [if_pos (by simp [Region.wanted, hgd])]
  obtain ⟨v1, w1, hr, hown, hg, _, hat⟩ := run_append_own_at (P := P) W base t o.type e i0 z size bytes ht hi hz0 hz1 hz2 hz hs0 v n xs HO ad m c ys hys hnews h1 (by simp only [maxLen]; omega) hl hbase
  unfold Oper.wp execOp
  simp only [ho, resolve, invoke, builtin, Sem.run_bind, Sem.run_pure, Result.andThen_ok, List.map_toArray, List.map_cons, List.map_nil, hs, hx, hr]
  rcases hown.2 with ⟨_, h0⟩ | ⟨g, cap, cur, rfl, _⟩
  · omega
  · refine h g cap w1 hown hg ?_
    rcases hat with hat | hat
    · exact .inl hat.symm
    · exact .inr (by simpa [Value.ownBlock] using hat)

/-- The same, in a region that keeps its order; behind 'at_builtin'. -/
theorem wpList_append_at {P : Program} {ops : Array Oper} {rest : List Oper} {o : Oper} {a : Act} {Q : Exit → Act → World → Prop} {W : World} (base : Nat)
    (hgd : o.guard = none) (s x : Operand) (t e : TypeId) (z : Value) (size bytes : Nat)
    (ho : o.op = .call { callee := .builtin .append, args := #[s, x], argTypes := #[t, t] })
    (ht : P.underlying t = some (.slice e)) (hinfo : (P.info? e).map (fun i => (i.zero, i.size, i.bytes)) = some (some z, size, bytes)) (hz : z.cells.size = size) (hs0 : 0 < size) (hb0 : 0 < bytes)
    (v : Value) (n m : Nat) (xs ys : List Value) (ad : Addr) (c : Nat) (hs : a.eval s = v) (hx : a.eval x = .slice (some ad) m c) (hm : 0 < m) (hys : ys.length = m * size)
    (hnews : ∀ j u, ys[j]? = some u → W.cell? (ad.add j) = some u) (h1 : ∀ u ∈ ys, u.oneCell' = true)
    (HO : W.ownsRow base e size v n xs) (hbase : base ≤ W.heap.size) (hl : (n + m) * bytes ≤ 140737488355328)
    (h : ∀ g cap w1, w1.ownsRow base e size (.slice (some ⟨g, 0, none⟩) (n + m) cap) (n + m) (xs ++ ys) → W.grownBy w1 v.ownBlock → (v.ownBlock = some g ∨ g = W.heap.size) →
      wpList P ops Q rest (a.put o.dst (.slice (some ⟨g, 0, none⟩) (n + m) cap)) w1) :
    wpList P ops Q (o :: rest) a W := by
  refine wpList_plain hgd fun K hK => ?_
  have := step_append_at (ops := ops) (o := o) (a := a) (Q := Q) (K := K) (E := True) base hgd s x t e z size bytes ho ht hinfo hz hs0 hb0 v n m xs ys ad c hs hx hm hys hnews h1 HO hbase hl (fun g cap w1 h1 h2 h3 => hK _ _ (h g cap w1 h1 h2 h3))
  rwa [if_pos (by simp [Region.wanted, hgd])] at this

/-- A state of a machine, as data. -/
structure St where
  k : Int
  s0 : Int
  s1 : Int
  s2 : Int
  s3 : Int
  nx : Int
  ot : Int
deriving Inhabited
abbrev St.V (s : St) : Value := .agg #[.int .i64 s.k, .int .u64 s.s0, .int .u64 s.s1, .int .u64 s.s2, .int .u64 s.s3, .int .i64 s.nx, .int .i64 s.ot]
def St.cells (s : St) : List Value := [.int .i64 s.k, .int .u64 s.s0, .int .u64 s.s1, .int .u64 s.s2, .int .u64 s.s3, .int .i64 s.nx, .int .i64 s.ot]
def stCells (l : List St) : List Value := l.flatMap St.cells
theorem stCells_length (l : List St) : (stCells l).length = l.length * 7 := by
  induction l with
  | nil => rfl
  | cons s l ih =>
    show (s.cells ++ stCells l).length = _
    rw [List.length_append, ih, List.length_cons]
    simp only [St.cells, List.length_cons, List.length_nil]
    omega
theorem stCells_snoc (l : List St) (s : St) : stCells (l ++ [s]) = stCells l ++ s.cells := by simp [stCells]

/-- What a layer's calls leave alone: all but the layer's own cell (block L) and its row's block. -/
structure Lays (L : Nat) (r : Option Nat) (w w' : World) : Prop where
  os : w'.os = w.os
  tape : w'.tape = w.tape
  output : w'.output = w.output
  size : w.heap.size ≤ w'.heap.size
  block : ∀ k, k < w.heap.size → k ≠ L → some k ≠ r → w'.heap[k]? = w.heap[k]?
/-- The row's block is the old one, or a new one. -/
def Moves (w : World) (v v' : Value) : Prop := v'.ownBlock = v.ownBlock ∨ ∃ b, v'.ownBlock = some b ∧ w.heap.size ≤ b
theorem Lays.refl (L : Nat) (r : Option Nat) (w : World) : Lays L r w w := ⟨rfl, rfl, rfl, Nat.le_refl _, fun _ _ _ _ => rfl⟩
theorem Lays.of_below {L : Nat} {r : Option Nat} {w w' : World} (h : Below w.heap.size w w') : Lays L r w w' := ⟨h.os, h.tape, h.output, h.size, fun k hk _ _ => h.block k hk⟩
theorem Lays.trans {L : Nat} {v v1 : Value} {a b c : World} (h : Lays L v.ownBlock a b) (hm : Moves a v v1) (k : Lays L v1.ownBlock b c) : Lays L v.ownBlock a c :=
  ⟨k.os.trans h.os, k.tape.trans h.tape, k.output.trans h.output, Nat.le_trans h.size k.size, fun i hi h1 h2 => (k.block i (Nat.lt_of_lt_of_le hi h.size) h1 (fun e => by
    rcases hm with hm | ⟨b, hb, hle⟩
    · exact h2 (e.trans hm)
    · rw [hb] at e; injection e with e; omega)).trans (h.block i hi h1 h2)⟩
theorem Moves.refl (w : World) (v : Value) : Moves w v v := .inl rfl
theorem Moves.trans {a b : World} {v v1 v2 : Value} (h : Moves a v v1) (hs : a.heap.size ≤ b.heap.size) (k : Moves b v1 v2) : Moves a v v2 := by
  rcases k with k | ⟨x, hx, hle⟩
  · rcases h with h | ⟨y, hy, hle⟩
    · exact .inl (k.trans h)
    · exact .inr ⟨y, k.trans hy, hle⟩
  · exact .inr ⟨x, hx, by omega⟩
theorem Lays.cell {L : Nat} {r : Option Nat} {w w' : World} (h : Lays L r w w') {b o : Nat} (h0 : b < w.heap.size) (h1 : b ≠ L) (h2 : some b ≠ r) : w'.cell? ⟨b, o, none⟩ = w.cell? ⟨b, o, none⟩ := World.cell?_of_block (w := w) (h.block b h0 h1 h2)
theorem Lays.frozen {L : Nat} {r : Option Nat} {w w' : World} (h : Lays L r w w') {b o : Nat} (h0 : b < w.heap.size) (h1 : b ≠ L) (h2 : some b ≠ r) : w'.frozen? ⟨b, o, none⟩ = w.frozen? ⟨b, o, none⟩ := World.frozen?_of_block (w := w) (h.block b h0 h1 h2)
theorem St.cells_one (s : St) : ∀ u ∈ s.cells, u.oneCell' = true := by
  intro u hu
  simp only [St.cells, List.mem_cons, List.not_mem_nil, or_false] at hu
  rcases hu with rfl | rfl | rfl | rfl | rfl | rfl | rfl <;> rfl

end Go.Proofs.YteekafkpeimhoaaDoor

/- Machines in memory; two machines compared. -/
set_option linter.unusedVariables false
set_option linter.unusedSimpArgs false
namespace Go.Proofs.YteekafkpeimhoaaDoor
open Go.RowKit

deriving instance DecidableEq for St
def eqSt (a b : St) : Bool := a.k == b.k && eq4 a.s0 a.s1 a.s2 a.s3 b.s0 b.s1 b.s2 b.s3 && a.nx == b.nx && a.ot == b.ot
theorem eqSt_iff {a b : St} : eqSt a b = true ↔ a = b := by
  cases a; cases b
  simp [eqSt, eq4, and_assoc]
theorem eqSt_false {a b : St} (h : a ≠ b) : eqSt a b = false := by rw [Bool.eq_false_iff]; exact fun e => h (eqSt_iff.1 e)

theorem addr_add' (b o j : Nat) : (⟨b, o, none⟩ : Addr).add j = ⟨b, o + j, none⟩ := by unfold Addr.add; split <;> simp_all
abbrev nfaV (l : List St) (s : Int) (A : Option Addr) (c : Nat) : Value := .agg #[.slice A l.length c, .int .i64 s]

end Go.Proofs.YteekafkpeimhoaaDoor

/- Arguments opened: machines. -/
set_option linter.unusedVariables false
set_option linter.unusedSimpArgs false
namespace Go.Proofs.YteekafkpeimhoaaDoor
open Go.RowKit Go.ChangeShapes Go.WideShapes Go.Deep

theorem Tryd.cellsSet : Tryd.prog.cellsOf 24 = 4 := by kernel_rfl
theorem Tryd.cellsInt : Tryd.prog.cellsOf 3 = 1 := by kernel_rfl
theorem Tryd.cellsU : Tryd.prog.cellsOf 22 = 1 := by kernel_rfl
theorem len2 {α : Type} {l : List α} (h : l.length = 2) : ∃ a b, l = [a, b] := by
  match l, h with
  | [a, b], _ => exact ⟨a, b, rfl⟩
theorem len4 {α : Type} {l : List α} (h : l.length = 4) : ∃ a b c d, l = [a, b, c, d] := by
  match l, h with
  | [a, b, c, d], _ => exact ⟨a, b, c, d, rfl⟩
theorem len7 {α : Type} {l : List α} (h : l.length = 7) : ∃ a b c d e f g, l = [a, b, c, d, e, f, g] := by
  match l, h with
  | [a, b, c, d, e, f, g], _ => exact ⟨a, b, c, d, e, f, g, rfl⟩
section
variable {H : Type} {enc : TypeId × Value → H} {P : Program} {tSt tSts tNfa tSet tI tU : TypeId} {w : World} {base : Nat} {spare : Nat → Bool} {held : Bool}
/-- What the program says of the types. -/
structure Types (P : Program) (tSt tSts tNfa tSet tI tU : TypeId) : Prop where
  set : P.underlying tSet = some (.array 4 tU)
  u : P.underlying tU = some (.int .u64)
  i : P.underlying tI = some (.int .i64)
  sts : P.underlying tSts = some (.slice tSt)
  st : ∃ f0 f1 f2 f3, P.underlying tSt = some (.struct #[f0, f1, f2, f3]) ∧ (f0.type = tI ∧ f0.offset = 0) ∧ (f1.type = tSet ∧ f1.offset = 1) ∧ (f2.type = tI ∧ f2.offset = 5) ∧ (f3.type = tI ∧ f3.offset = 6)
  nfa : ∃ f0 f1, P.underlying tNfa = some (.struct #[f0, f1]) ∧ (f0.type = tSts ∧ f0.offset = 0) ∧ (f1.type = tI ∧ f1.offset = 1)
  cSet : P.cellsOf tSet = 4
  cU : P.cellsOf tU = 1
  cI : P.cellsOf tI = 1
  cSts : P.cellsOf tSts = 1
  cSt : P.cellsOf tSt = 7
  cNfa : P.cellsOf tNfa = 2
  bSt : P.bytesOf tSt = 56
def WSt (s : St) : Prop := Wok ⟨s.s0, s.s1, s.s2, s.s3⟩
theorem open_set (K : Types P tSt tSts tNfa tSet tI tU) {fuel : Nat} {cs : List Value} {x : DataW H × List MemPlace} (h : DataW.trod enc P w base spare held fuel tSet cs = some x) :
    ∃ a b c d : Int, cs = [.int .u64 a, .int .u64 b, .int .u64 c, .int .u64 d] ∧ Wok ⟨a, b, c, d⟩ := by
  obtain ⟨xs, m, rfl, hx, hl, hxl, hi⟩ := DataW.trod_array K.set h
  rw [K.cSet] at hl
  rw [K.cU] at hi
  obtain ⟨c0, c1, c2, c3, rfl⟩ := len4 hl
  · clear h
    have g : ∀ (i : Nat) (v : Value), [c0, c1, c2, c3][i]? = some v → ∃ n, v = .int .u64 n ∧ In64 n := by
      intro i v hv
      have hi4 : i < 4 := (List.getElem?_eq_some_iff.1 hv).1
      have h1 := hi i hi4
      have hxi : xs[i]? = some (xs[i]'(by omega)) := List.getElem?_eq_getElem (by omega)
      rw [hxi] at h1
      obtain ⟨n, hn, _, hw⟩ := DataW.trod_int K.u h1
      refine ⟨n, ?_, in64_wf hw⟩
      have := congrArg (·[0]?) hn
      simpa [List.getElem?_take, List.getElem?_drop, hv] using this
    obtain ⟨a, rfl, ha⟩ := g 0 _ rfl
    obtain ⟨b, rfl, hb⟩ := g 1 _ rfl
    obtain ⟨c, rfl, hc⟩ := g 2 _ rfl
    obtain ⟨d, rfl, hd⟩ := g 3 _ rfl
    exact ⟨a, b, c, d, rfl, ha, hb, hc, hd⟩
theorem open_state (K : Types P tSt tSts tNfa tSet tI tU) {fuel : Nat} {cs : List Value} {x : DataW H × List MemPlace} (h : DataW.trod enc P w base spare held fuel tSt cs = some x) : ∃ s : St, cs = s.cells ∧ WSt s := by
  obtain ⟨f0, f1, f2, f3, hst, ⟨t0, o0⟩, ⟨t1, o1⟩, ⟨t2, o2⟩, t3, o3⟩ := K.st
  obtain ⟨xs, m, rfl, hx, hl, hxl, hi⟩ := DataW.trod_struct hst h
  rw [K.cSt] at hl
  have hxl4 : xs.length = 4 := hxl
  obtain ⟨c0, c1, c2, c3, c4, c5, c6, rfl⟩ := len7 hl
  · clear h
    have h0 := hi 0 f0 rfl
    have h1 := hi 1 f1 rfl
    have h2 := hi 2 f2 rfl
    have h3 := hi 3 f3 rfl
    rw [t0, o0, K.cI] at h0
    rw [t1, o1, K.cSet] at h1
    rw [t2, o2, K.cI] at h2
    rw [t3, o3, K.cI] at h3
    rw [List.getElem?_eq_getElem (by omega)] at h0 h1 h2 h3
    obtain ⟨k, hk, _⟩ := DataW.trod_int K.i h0
    obtain ⟨a, b, c, d, hs, hw⟩ := open_set K h1
    obtain ⟨nx, hn, _⟩ := DataW.trod_int K.i h2
    obtain ⟨ot, ho, _⟩ := DataW.trod_int K.i h3
    simp at hk hs hn ho
    obtain ⟨rfl, rfl, rfl, rfl⟩ := hs
    subst hk hn ho
    exact ⟨⟨k, a, b, c, d, nx, ot⟩, rfl, hw⟩
end
end Go.Proofs.YteekafkpeimhoaaDoor

/- Arguments opened: trees. -/
set_option linter.unusedVariables false
set_option linter.unusedSimpArgs false
namespace Go.Proofs.YteekafkpeimhoaaDoor
open Go.RowKit Go.ChangeShapes Go.WideShapes Go.Deep

theorem Tryd.cellsNode : Tryd.prog.cellsOf 27 = 8 := by kernel_rfl
theorem Tryd.cellsNodes : Tryd.prog.cellsOf 25 = 1 := by kernel_rfl
theorem Tryd.bytesNode : Tryd.prog.bytesOf 27 = 80 := by kernel_rfl
theorem len8 {α : Type} {l : List α} (h : l.length = 8) : ∃ a b c d e f g k, l = [a, b, c, d, e, f, g, k] := by
  match l, h with
  | [a, b, c, d, e, f, g, k], _ => exact ⟨a, b, c, d, e, f, g, k, rfl⟩
theorem weights_all {H : Type} {P : Program} {e : TypeId} : ∀ {l : List (DataW H)} {d : DataW H}, d ∈ l → ∀ n ∈ d.weights P e, n ∈ DataW.weightsAll P e l
  | x :: l, d, h, n, hn => by
    rw [DataW.weightsAll, List.mem_append]
    cases h with
    | head => exact .inl hn
    | tail _ h => exact .inr (weights_all h n hn)

section
variable {H : Type} {enc : TypeId × Value → H} {P : Program} {tSt tSts tNfa tSet tI tU tN tNs : TypeId} {w : World} {base : Nat} {spare : Nat → Bool} {held : Bool}
/-- What the program says of the types of trees. -/
structure TypesT (P : Program) (tN tNs tSet tI : TypeId) : Prop where
  ns : P.underlying tNs = some (.slice tN)
  n : ∃ f0 f1 f2 f3 f4, P.underlying tN = some (.struct #[f0, f1, f2, f3, f4]) ∧ (f0.type = tI ∧ f0.offset = 0) ∧ (f1.type = tSet ∧ f1.offset = 1) ∧ (f2.type = tI ∧ f2.offset = 5) ∧ (f3.type = tI ∧ f3.offset = 6) ∧ (f4.type = tNs ∧ f4.offset = 7)
  cN : P.cellsOf tN = 8
  cNs : P.cellsOf tNs = 1
  bN : P.bytesOf tN = 80
theorem open_node (K : Types P tSt tSts tNfa tSet tI tU) (L : TypesT P tN tNs tSet tI) : ∀ (fuel : Nat) (cs : List Value) (x : DataW H × List MemPlace), DataW.trod enc P w base spare held fuel tN cs = some x → (∀ n ∈ x.1.weights P tN, n ≤ reachBytes) →
    ∃ (t : T) (A : Option Addr) (c : Nat), cs = xcell (t, A, c) ∧ NodeAt w (fun b => b < w.heap.size) t A c ∧ Words t := by
  intro fuel
  induction fuel using Nat.strongRecOn with
  | ind fuel ih =>
  intro cs x h hz
  obtain ⟨q0, q1, q2, q3, q4, hst, ⟨t0, o0⟩, ⟨t1, o1⟩, ⟨t2, o2⟩, ⟨t3, o3⟩, t4, o4⟩ := L.n
  obtain ⟨xs, m, rfl, hx, hl, hxl, hi⟩ := DataW.trod_struct hst h
  rw [L.cN] at hl
  have hxl5 : xs.length = 5 := hxl
  obtain ⟨c0, c1, c2, c3, c4, c5, c6, c7, rfl⟩ := len8 hl
  clear h
  have h0 := hi 0 q0 rfl
  have h1 := hi 1 q1 rfl
  have h2 := hi 2 q2 rfl
  have h3 := hi 3 q3 rfl
  have h4 := hi 4 q4 rfl
  rw [t0, o0, K.cI] at h0
  rw [t1, o1, K.cSet] at h1
  rw [t2, o2, K.cI] at h2
  rw [t3, o3, K.cI] at h3
  rw [t4, o4, L.cNs] at h4
  rw [List.getElem?_eq_getElem (by omega)] at h0 h1 h2 h3 h4
  obtain ⟨k, hk, _⟩ := DataW.trod_int K.i h0
  obtain ⟨a, b, c, d, hs, hwk⟩ := open_set K h1
  obtain ⟨mn, hn, _⟩ := DataW.trod_int K.i h2
  obtain ⟨mx, ho, _⟩ := DataW.trod_int K.i h3
  simp at hk hs hn ho
  obtain ⟨rfl, rfl, rfl, rfl⟩ := hs
  subst hk hn ho
  have hz4 : ∀ n ∈ (xs[4]).1.weights P tNs, n ≤ reachBytes := fun n hn => hz n (by
    rw [hx]
    simp only [DataW.weights, hst]
    refine DataW.weights_mem_each (j := 4) (t := tNs) (d := (xs[4]).1) ?_ ?_ n hn
    · simp [t4]
    · rw [List.getElem?_map, List.getElem?_eq_getElem (by omega)]; rfl)
  rcases DataW.trod_slice L.ns h4 with ⟨hc, hx0⟩ | ⟨ad, len, cap, elems, rest, n, rfl, hc, hx4, hb, hlc, hcm, hel, hat, _, _⟩
  · simp at hc
    subst hc
    exact ⟨.mk k a b c d mn mx [], none, 0, rfl, .mk _ _ _ (fun _ => none) (fun _ => 0) (by simp [T.ps]) (by simp [T.ps]) (fun e => absurd rfl e) (fun i p hp => by simp [T.ps] at hp), .mk _ hwk (fun p hp => by cases hp)⟩
  · simp at hc
    subst hc
    rw [hx4] at hz4
    simp only [DataW.weights, L.ns, L.bN, List.length_map] at hz4
    have hlen : len ≤ 17592186044416 := by
      have := hz4 ((elems.length + rest.length) * 80) (by simp)
      have h2 := reachBytes_lt
      omega
    rw [L.cN] at hat
    have hst : ∀ i, i < len → ∃ (y : T × Option Addr × Nat), (∀ j, j < 8 → w.cell? ((ad.add (i * 8)).add j) = (xcell y)[j]?) ∧ NodeAt w (fun b => b < w.heap.size) y.1 y.2.1 y.2.2 ∧ Words y.1 := by
      intro i hi
      have hbi := hat i hi
      rw [List.getElem?_eq_getElem (by omega)] at hbi
      obtain ⟨cs', hcs, ht⟩ := Option.bind_eq_some_iff.1 hbi
      obtain ⟨_, _, hatc⟩ := World.cells?_some hcs
      obtain ⟨t, A, c, rfl, hN, hwt⟩ := ih n (by omega) cs' _ ht (fun nn hnn => hz4 nn (by
        simp only [List.mem_cons, List.mem_append]
        right; left
        exact weights_all (List.mem_map.2 ⟨elems[i], List.getElem_mem _, rfl⟩) nn hnn))
      exact ⟨(t, A, c), hatc, hN, hwt⟩
    let g : Nat → T × Option Addr × Nat := fun i => if h : i < len then Classical.choose (hst i h) else (T.mk 0 0 0 0 0 0 0 [], none, 0)
    have hg : ∀ i, i < len → (∀ j, j < 8 → w.cell? ((ad.add (i * 8)).add j) = (xcell (g i))[j]?) ∧ NodeAt w (fun b => b < w.heap.size) (g i).1 (g i).2.1 (g i).2.2 ∧ Words (g i).1 := fun i hi => by
      simp only [g, dif_pos hi]; exact Classical.choose_spec (hst i hi)
    have hps : ∀ i p, ((List.range len).map fun i => (g i).1)[i]? = some p → i < len ∧ p = (g i).1 := by
      intro i p hp
      have hl := (List.getElem?_eq_some_iff.1 hp).1
      simp at hl
      rw [List.getElem?_map, List.getElem?_range hl] at hp
      exact ⟨hl, by simpa using hp.symm⟩
    refine ⟨.mk k a b c d mn mx ((List.range len).map fun i => (g i).1), some ad, cap, by simp [xcell, T.k, T.s0, T.s1, T.s2, T.s3, T.mn, T.mx, T.ps], ?_, .mk _ hwk (fun p hp => by obtain ⟨i, hi, rfl⟩ := List.mem_map.1 hp; exact (hg i (List.mem_range.1 hi)).2.2)⟩
    refine .mk _ _ _ (fun i => (g i).2.1) (fun i => (g i).2.2) (by simpa [T.ps] using hlc) (by simpa [T.ps] using hlen) (fun hne => ?_) (fun i p hp => ?_)
    · have hpos : 0 < len := by
        rcases Nat.eq_zero_or_pos len with h | h
        · exfalso; apply hne; simp [T.ps, h]
        · exact h
      obtain ⟨bb, oo, spot⟩ := ad
      have hc0 := (hg 0 hpos).1 0 (by omega)
      have hspot : spot = none := by
        have := World.cell?_spot (v := .int .i64 (g 0).1.k) (by simpa [xcell] using hc0)
        simpa [Addr.add] using this
      subst hspot
      refine ⟨bb, oo, rfl, ?_, fun i p hp => ?_⟩
      · have : w.cell? ⟨bb, oo, none⟩ = some (.int .i64 (g 0).1.k) := by simpa [addr_add', xcell] using hc0
        exact World.block_lt_of_cell? _ _ this
      · obtain ⟨hi, rfl⟩ := hps i p hp
        exact .ofX fun j hj => by have := (hg i hi).1 j hj; simpa [addr_add'] using this
    · obtain ⟨hi, rfl⟩ := hps i p hp
      exact (hg i hi).2.1
theorem open_treeW (K : Types P tSt tSts tNfa tSet tI tU) (L : TypesT P tN tNs tSet tI) {b0 : Nat} {v : Value} {d : DataW H} {p : List MemPlace} (hv : Value.okWide P w .any b0 tN v) (h : DataW.Trod enc P w base spare held tN v d p) (hz : ∀ n ∈ d.weights P tN, n ≤ reachBytes) :
    ∃ (t : T) (A : Option Addr) (c : Nat), v = nodeV t A c ∧ NodeAt w (fun b => b < w.heap.size) t A c ∧ Words t := by
  obtain ⟨q0, q1, q2, q3, q4, hst, _⟩ := L.n
  obtain ⟨cs, rfl, hsz⟩ := okWide_struct hst hv
  obtain ⟨fuel, hf⟩ := h
  obtain ⟨t, A, c, hcs, hN, hw⟩ := open_node K L fuel _ _ hf hz
  refine ⟨t, A, c, ?_, hN, hw⟩
  obtain ⟨l⟩ := cs
  simp only [Value.cells] at hcs
  subst hcs
  rfl
theorem open_tree (K : Types P tSt tSts tNfa tSet tI tU) (L : TypesT P tN tNs tSet tI) {b0 : Nat} {v : Value} {d : DataW H} {p : List MemPlace} (hv : Value.okWide P w .any b0 tN v) (h : DataW.Trod enc P w base spare held tN v d p) (hz : ∀ n ∈ d.weights P tN, n ≤ reachBytes) :
    ∃ (t : T) (A : Option Addr) (c : Nat), v = nodeV t A c ∧ NodeAt w (fun b => b < w.heap.size) t A c := by
  obtain ⟨t, A, c, h1, h2, _⟩ := open_treeW K L hv h hz
  exact ⟨t, A, c, h1, h2⟩
end
theorem typesT_ok : TypesT Tryd.prog 27 25 24 3 :=
  ⟨Tryd.underlying25, ⟨_, _, _, _, _, Tryd.underlying27, ⟨rfl, rfl⟩, ⟨rfl, rfl⟩, ⟨rfl, rfl⟩, ⟨rfl, rfl⟩, rfl, rfl⟩, Tryd.cellsNode, Tryd.cellsNodes, Tryd.bytesNode⟩
end Go.Proofs.YteekafkpeimhoaaDoor

/- The wrap for a row that lists variables: the contract gets the listed variables' fact and the world's shape. What the three tables give the walk. -/
set_option linter.unusedVariables false
set_option linter.unusedSimpArgs false
namespace Go.Proofs.YteekafkpeimhoaaDoor
open Go.RowKit

section
variable {H : Type} {enc : TypeId × Value → H}
theorem handed_laid {a : Assume} {C : Checked} {os : Os} {f : FuncId} {fn : Func} {s : ChangeSpec} {conds : List PathCond} {apart fresh handsOn again : Bool} {X : World → Prop}
    (hX : ∀ (w w' : World), w.heap = w'.heap → X w → X w')
    (own : ownKnob C.prog.godebug = none) (started : os.Started) (noInit : C.prog.inits.idxOf? f = none) (hfn : C.prog.funcs[f]? = some fn)
    (witness : ∃ (w : World) (tape : Tape) (i : Input), w.os = os ∧ (w.forCall tape i).Shaped C.prog ∧ i.vars = [] ∧ Input.okWide C.prog (w.forCall tape i) .any w.heap.size f i ∧
      ((s.pre enc C.prog fn conds apart (w.forCall tape i).memory i.args ∧ X (w.forCall tape i).memory) ∧ sizedMet enc C.prog fn (OpenSpec.ofChange s) apart (w.forCall tape i).memory i.args) ∧ a.holds C.prog (lone (Frame.enter C.prog f i.args .normal) [] (w.forCall tape i)))
    (contract : ∀ (W : World) (args : Array Value) (ds gs : List (DataW H)) (before : List MemPlace) (base : Nat),
      (∀ (j : Nat) t v, fn.params[j]? = some t → args[j]? = some v → Value.okWide C.prog W .any base t v) →
      DataW.Whole enc C.prog fn.params.toList s.vars apart W args.toList ds gs before →
      (DataW.weightsEach C.prog (fn.params.toList ++ s.plain.varTypes C.prog) (ds ++ gs)).all (· ≤ reachBytes) = true → X W → W.ShapedOpen C.prog →
      Calls C.prog f args W fun e W' => ∃ v, e = .returned v ∧ s.post enc C.prog fn apart fresh handsOn again W args v W') :
    ReturnsInHanded a C os f .any (fun w args => (s.pre enc C.prog fn conds apart w args ∧ X w) ∧ sizedMet enc C.prog fn (OpenSpec.ofChange s) apart w args) (s.post enc C.prog fn apart fresh handsOn again) := by
  refine returnsInHanded_of_calls own started noInit witness ?_
  intro w tape i _ hshape _ hin hpre _
  obtain ⟨_, _, _, fn', hfn', _, _, _, _, hvals⟩ := hin
  obtain rfl : fn' = fn := Option.some.inj (hfn'.symm.trans hfn)
  obtain ⟨⟨⟨ds, gs, before, hW, _⟩, hx⟩, hsz⟩ := hpre
  refine (contract (w.forCall tape i) i.args ds gs before w.heap.size hvals (DataW.Whole.of_heap (w' := w.forCall tape i) (by rfl) hW) (hsz.weights hW) (hX _ _ (by rfl) hx) hshape).mono ?_
  rintro e W' ⟨v, rfl, hpost⟩
  exact ChangeSpec.post_blind hpost
end

def laid3 : List (String × DataW Unit) := [("math/bits.deBruijn32tab", Rows.laid_math_bits_deBruijn32tab), ("math/bits.deBruijn64tab", Rows.laid_math_bits_deBruijn64tab), ("internal/strconv.uint64pow10", Rows.laid_internal_strconv_uint64pow10)]
theorem pow10_is : (Rows.laid_internal_strconv_uint64pow10 : DataW Unit) = Lib.tabData .u64 Lib.pow10Tab := by kernel_rfl
theorem tab_of_laid {W : World} (h : laidMetH Tryd.prog laid3 W) : TabIn W.heap.size W := by
  rw [MakeChecks.laidMetH_plain _ _ _ (by kernel_rfl)] at h
  have h2 := (laidMet.tail (laidMet.tail h))
  rw [pow10_is] at h2
  have hT := Lib.tabIs_of_head (g := 1) (t := 108) (e := 22) (n := 20) (by kernel_rfl) (by kernel_rfl) (by kernel_rfl) (by kernel_rfl) (by kernel_rfl) (by kernel_rfl) h2
  refine ⟨hT, fun g hg => ?_⟩
  unfold Lib.TabIs World.var? at hT
  rw [hg, Option.bind_some] at hT
  rcases Nat.lt_or_ge g W.heap.size with h | h
  · exact h
  · rw [show W.heap[g]? = none from Array.getElem?_eq_none h] at hT
    cases hT
theorem laid_start (os : Os) (args : Array Value) : laidMetH Tryd.prog laid3 ((World.laidAll Tryd.prog os laid3).forCall (fun _ _ => 0) ⟨#[], args, []⟩).memory := by
  rw [MakeChecks.laidMetH_plain _ _ _ (by kernel_rfl)]
  exact laidMet_laidAll _ (by kernel_rfl) (by kernel_rfl)
theorem laid_shaped (os : Os) (args : Array Value) : ((World.laidAll Tryd.prog os laid3).forCall (fun _ _ => 0) ⟨#[], args, []⟩).Shaped Tryd.prog := World.shaped_of_ZipB (by kernel_rfl) (by kernel_rfl)
end Go.Proofs.YteekafkpeimhoaaDoor

/- PatternReads holds: whatever comes in, the call of the law returns true, and what came in reads as it read; the listed variables tied tu the text of the program. -/
set_option linter.unusedVariables false
set_option linter.unusedSimpArgs false
namespace Go.Proofs.YteekafkpeimhoaaDoor
open Go.ChangeShapes Go.WideShapes Go.ChangeAt Go.RowKit
open Go.ChangeMaps (open_string shut_string)

theorem own : ownKnob Tryd.prog.godebug = none := by kernel_rfl
theorem laidOut : laidOutB Tryd.prog = true := by kernel_rfl
theorem str_bs (s : ByteArray) : ∃ r : Bs, s = bs r := ⟨s.data.toList, by simp [bs]⟩

set_option maxRecDepth 100000 in
theorem patternReads_lifted (os : Os) (started : os.Started) (H : Type) (enc : TypeId × Value → H) :
    ReturnsInHanded {} Tryd.checked os 3 .any (fun w args => (Rows.patternReadsSpec.pre enc Tryd.prog Tryd.f3 Rows.patternReadsRow.domain false w args ∧ laidMetH Tryd.prog laid3 w) ∧ sizedMet enc Tryd.prog Tryd.f3 (OpenSpec.ofChange Rows.patternReadsSpec) false w args) (Rows.patternReadsSpec.post enc Tryd.prog Tryd.f3 false true false false) := by
  refine handed_laid (C := Tryd.checked) (X := fun w => laidMetH Tryd.prog laid3 w) (fun _ _ hh h => h.of_heap hh) own started (by kernel_rfl) Tryd.func3
    (ChangeSpec.witness_shaped (enc := enc) (C := Tryd.checked) (os := os) (X := fun w _ => laidMetH Tryd.prog laid3 w) false (World.laidAll Tryd.prog os laid3) #[.string ⟨#[]⟩] 8 (World.laidAll_os _ _ _) (laid_shaped os _) (by kernel_rfl) (by kernel_rfl) (by kernel_rfl) (laid_start os _)) ?_
  intro W args ds gs before base hval0 hW hwz hL hsh
  have hM : MaxOk W := Tryd.laysM219.s1_3 W hsh
  have hT : TabIn W.heap.size W := tab_of_laid hL
  have hval : ∀ (j : Nat) t v, Tryd.f3.params[j]? = some t → args[j]? = some v → Value.okWide Tryd.prog W .any base t v := hval0
  have hW' := hW
  obtain ⟨p, q, hA0, hV, rfl, hfz, hnd⟩ := hW
  have hA : DataW.TrodAll enc Tryd.prog W 0 (fun _ => true) true Tryd.f3.params.toList args.toList ds p := hA0
  have hwz' : (DataW.weightsEach Tryd.prog (Tryd.f3.params.toList ++ Rows.patternReadsSpec.plain.varTypes Tryd.prog) (ds ++ gs)).all (· ≤ reachBytes) = true := hwz
  rw [Tryd.params3] at hA hval hwz'
  obtain ⟨v0, vs0, d0, ds0, p0, q0, hargs, rfl, rfl, h0, r0⟩ := trodAll_cons hA
  obtain ⟨rfl, rfl, rfl⟩ := trodAll_nil r0
  obtain rfl : args = #[v0] := by cases args; simp_all
  obtain ⟨rfl, rfl⟩ := trodVars_none hV
  have k0 := h0
  have lt0 : ∀ x ∈ p0, x.block < W.heap.size := by obtain ⟨m, hm⟩ := k0; exact DataW.trod_lt m _ _ _ hm
  obtain ⟨s0, hv0, _, _, hl0⟩ := open_string Tryd.underlying9 (hval 0 9 v0 rfl rfl) h0
  obtain ⟨b0, rfl⟩ := str_bs s0
  have hb0 : b0.length ≤ maxLen := by simpa [bs, ByteArray.size] using hl0
  clear hA0 hval0 hwz hwz'
  have hcall := preads_any W hM hT b0 hb0
  rw [← hv0] at hcall
  refine hcall.mono fun e W' ⟨he, bel⟩ => ?_
  subst he
  exact ⟨_, rfl, _, _, _, [], _, [], hW', trodAll_mk1 (shut_bool Tryd.underlying4 _), (trodAll_cons_mk (Below.trod laidOut (by kernel_rfl) (of_decide_eq_true (by kernel_rfl)) k0 bel lt0) trodAll_mk0), rfl, bel.frame _, fun h => by cases h⟩

theorem patternReads_over : Rows.patternReadsRow.holds Tryd.pinned (OpenSpec.ofChange Rows.patternReadsSpec) :=
  OpenClaim.holds_of_wide 3 Tryd.f3 rfl rfl rfl rfl rfl rfl rfl ⟨rfl, rfl, rfl, rfl, rfl⟩ rfl rfl rfl rfl rfl (by kernel_rfl) Tryd.func3 (by kernel_rfl)
    (of_decide_eq_true (by kernel_rfl)) (by unfold Func.isWrapper; first | (rw [if_pos (by decide +kernel)]; kernel_rfl) | (rw [if_neg (by decide +kernel)]; exact ⟨rfl, rfl⟩))
    (fun os started H enc _ => patternReads_lifted os started H enc)

/-- The statement: the card. -/
theorem patternReads_holds : Rows.PatternReadsCardSaid :=
  Claim7.holds_tied_plain_at .later [] [.data, .data, .data] true (true, "993200cfe7f0d20b09c643adc204290b95db44b2b63a937d6513bec5161ede20") false
    patternReads_over (fun _ h => by cases h) (by kernel_rfl) (fun _ h => by cases h) patternReads_row_tie rfl ⟨rfl, rfl⟩ (by kernel_rfl) rfl
    (fun f fn hf hfn => by
      obtain rfl : f = 3 := Option.some.inj ((show Tryd.prog.funcNamed "vouch/vouchlaw10.PatternReads" = some 3 by kernel_rfl).symm.trans hf) |>.symm
      obtain rfl : fn = Tryd.f3 := (Option.some.inj (Tryd.func3.symm.trans hfn)).symm
      exact ⟨by kernel_rfl, fun j t ht => by
        rw [Tryd.params3] at ht
        have h3 : t ∈ [9] := by
          rcases j with _ | j
          · simp at ht; subst ht; simp
          · simp at ht
        simp only [List.mem_cons, List.not_mem_nil, or_false] at h3
        rcases h3 with rfl
        all_goals first | exact (show Tryd.prog.wantsStandIn 9 = false by kernel_rfl)⟩)
    (by kernel_rfl)
end Go.Proofs.YteekafkpeimhoaaDoor

