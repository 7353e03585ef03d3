/- Merged texts, part of the proof KnownM: Qk, Ql, Qm, Qn, Qo, RndL, AppL, Fine, LayW, With, RHas, RComp, MFinds. -/
import Derived.Test.YthlakbjnmbddaaaGreatDoorUKnownMA
import Derived.Test.YthlakbjnmbddaaaGreatDoorUKnownMB
import Derived.Test.YthlakbjnmbddaaaGreatDoorUKnownMC
import Derived.Test.YthlakbjnmbddaaaGreatDoorUKnownMD
import Derived.Test.YthlakbjnmbddaaaGreatDoorUKnownME
import Derived.StillTailTactics
set_option linter.unusedVariables false
set_option linter.unusedSimpArgs false
set_option maxRecDepth 100000
set_option maxHeartbeats 8000000
namespace Go.Proofs.YthlakbjnmbddaaaGreatDoor
open Lib (hid)
open Go.RowKit
theorem sg {w w' : World} {p : Nat} {S : Bs} {k : Nat} {op : Int} {s : Rs} (h : RQ w p S k op s) (hz : w.heap.size ≤ w'.heap.size) (hb : w'.heap[p]? = w.heap[p]?) : RQ w' p S k op s :=
 ⟨⟨(World.cell?_of_block (w := w) hb).trans h.rdr.c0, (World.cell?_of_block (w := w) hb).trans h.rdr.c1, (World.cell?_of_block (w := w) hb).trans h.rdr.c2, (World.cell?_of_block (w := w) hb).trans h.rdr.c3, fun o => (World.frozen?_of_block (w := w) (a := ⟨p, o, none⟩) hb).trans (h.rdr.z o), Nat.lt_of_lt_of_le h.lt hz, h.rdr.le, h.rdr.top⟩, h.ok, h.ne⟩
def sI (p : Nat) (St : Bs) (op : Int) (grp : Bs → PT) (r0 : Bs) (w : World) (bn : Nat) (wr : World) (n : Nat) : Prop :=
 ∃ (x : Nx) (k' : Nat) (s' : Rs), n = s'.rest.length + 1 ∧ bj wr w.heap.size (ar (.mk 0 0 0 0 0 0 0 [], none, 0)).toArray ∧ bj wr bn (ar x).toArray ∧ NodeAt wr (fun b => w.heap.size < b ∧ b < wr.heap.size ∧ b ≠ bn) x.1 x.2.1 x.2.2 ∧ RQ wr p St k' op s' ∧ Off p w wr ∧
  ((∃ e, s' = .error e ∧ aT grp r0 = .error e) ∨ ∃ r' k, s' = .ok r' ∧ r'.length < k ∧ aT grp r0 = cG k x.1 r')
structure PieceQ (p : Nat) (St : Bs) (op : Int) (w : World) (bx bn : Nat) (t : T) (A : Option Addr) (c : Nat) (mm mx : Int) (k : Nat) (s : Rs) (W : World) : Prop where
 R : bj W w.heap.size (ar (.mk 0 0 0 0 0 0 0 [], none, 0)).toArray
 N : bj W bn (ar (t, A, c)).toArray
 X : bj W bx (ar (.mk 6 0 0 0 0 mm mx [], none, 0)).toArray
 x : NodeAt W (fun b => w.heap.size < b ∧ b < bx ∧ b ≠ bn) t A c
 S : RQ W p St k op s
 O : Off p w W
theorem PieceQ.off {p : Nat} {St : Bs} {op : Int} {w : World} {bx bn : Nat} {t : T} {A : Option Addr} {c : Nat} {mm mx : Int} {k k1 : Nat} {s : Rs} {W : World} (h : PieceQ p St op w bx bn t A c mm mx k s W) {s' : Rs} {W' : World} (hp : p < w.heap.size) (hbn : w.heap.size < bn) (hwr : bn < bx) (hO : Off p W W') (hS : RQ W' p St k1 op s') : PieceQ p St op w bx bn t A c mm mx k1 s' W' := by
 have lx := h.X.lt
 exact ⟨Off.blk hO h.R (by omega), Off.blk hO h.N (by omega), Off.blk hO h.X (by omega), h.x.mono fun b (hb : w.heap.size < b ∧ b < bx ∧ b ≠ bn) => ⟨hb, fun o => Off.cell hO (by omega) (by omega)⟩, hS, Off.trans h.O hO⟩
theorem PieceQ.put {p : Nat} {St : Bs} {op : Int} {w : World} {bx bn : Nat} {t : T} {A : Option Addr} {c : Nat} {mm mx m' n' : Int} {k : Nat} {s : Rs} {W : World} (h : PieceQ p St op w bx bn t A c mm mx k s W) (hp : p < w.heap.size) (hbn : w.heap.size < bn) (hwr : bn < bx) (o : Nat) (v : Value)
 (hX : bj (W.setCell ⟨bx, o, none⟩ v) bx (ar (.mk 6 0 0 0 0 m' n' [], none, 0)).toArray) : PieceQ p St op w bx bn t A c m' n' k s (W.setCell ⟨bx, o, none⟩ v) := by
 have hk : ∀ b, b ≠ bx → (W.setCell ⟨bx, o, none⟩ v).heap[b]? = W.heap[b]? := fun b hb => Below.heap_setCell _ _ _ _ hb
 exact ⟨h.R.keep (hk _ (by omega)), h.N.keep (hk _ (by omega)), hX, h.x.mono fun b (hb : w.heap.size < b ∧ b < bx ∧ b ≠ bn) => ⟨hb, fun o => World.cell?_of_block (w := W) (a := ⟨b, o, none⟩) (hk b (by omega))⟩, h.S.put (by omega) _ _, h.O.box (by omega) _ _⟩
theorem PieceQ.set5 {p : Nat} {St : Bs} {op : Int} {w : World} {bx bn : Nat} {t : T} {A : Option Addr} {c : Nat} {mm mx : Int} {k : Nat} {s : Rs} {W : World} (h : PieceQ p St op w bx bn t A c mm mx k s W) (hp : p < w.heap.size) (hbn : w.heap.size < bn) (hwr : bn < bx) (m' : Int) : PieceQ p St op w bx bn t A c m' mx k s (W.setCell ⟨bx, 5, none⟩ (.int .i64 m')) := by
 refine h.put hp hbn hwr 5 _ ?_
 have h1 := h.X.set 5 (.int .i64 m')
 simpa [ar, T.k, T.s0, T.s1, T.s2, T.s3, T.mn, T.mx, T.ps] using h1
theorem PieceQ.set6 {p : Nat} {St : Bs} {op : Int} {w : World} {bx bn : Nat} {t : T} {A : Option Addr} {c : Nat} {mm mx : Int} {k : Nat} {s : Rs} {W : World} (h : PieceQ p St op w bx bn t A c mm mx k s W) (hp : p < w.heap.size) (hbn : w.heap.size < bn) (hwr : bn < bx) (m' : Int) : PieceQ p St op w bx bn t A c mm m' k s (W.setCell ⟨bx, 6, none⟩ (.int .i64 m')) := by
 refine h.put hp hbn hwr 6 _ ?_
 have h1 := h.X.set 6 (.int .i64 m')
 simpa [ar, T.k, T.s0, T.s1, T.s2, T.s3, T.mn, T.mx, T.ps] using h1
structure PieceZ (p : Nat) (St : Bs) (op : Int) (w : World) (bx bn : Nat) (t : T) (A : Option Addr) (c : Nat) (mm mx : Int) (k : Nat) (s : Rs) (A5 : Option Addr) (c5 : Nat) (W : World) : Prop where
 R : bj W w.heap.size (ar (.mk 0 0 0 0 0 0 0 [], none, 0)).toArray
 N : bj W bn (ar (t, A, c)).toArray
 X : bj W bx (ar (.mk 6 0 0 0 0 mm mx [], none, 0)).toArray
 node : ∀ m n, NodeAt W (fun b => w.heap.size < b ∧ b < W.heap.size ∧ b ≠ bn ∧ b ≠ bx) (cO m n t) A5 c5
 S : RQ W p St k op s
 O : Off p w W
theorem PieceQ.push {p : Nat} {St : Bs} {op : Int} {w : World} {bx bn : Nat} {t : T} {A A5 : Option Addr} {c c5 : Nat} {mm mx : Int} {k : Nat} {s : Rs} {W w0 w5 : World} (h : PieceQ p St op w bx bn t A c mm mx k s W) (hp : p < w.heap.size) (hbn : w.heap.size < bn) (hwr : bn < bx)
 (h0 : Below W.heap.size W w0) (h1 : w5.ownsRow (bx + 1) 48 8 (.slice A5 1 c5) 1 (ar (t, A, c))) (h2 : w0.grownBy w5 none) : PieceZ p St op w bx bn t A c mm mx k s A5 c5 w5 := by
 have lx := h.X.lt
 have hz0 := h0.size
 have hz2 := h2.size
 have hblk : ∀ b, b < W.heap.size → w5.heap[b]? = W.heap[b]? := fun b hb => (h2.block b (by omega) (by simp)).trans (h0.block b hb)
 refine ⟨h.R.keep (hblk _ h.R.lt), h.N.keep (hblk _ h.N.lt), h.X.keep (hblk _ h.X.lt), fun m n => ?_, sg h.S (by omega) (hblk p h.S.lt), ?_⟩
 · obtain ⟨g, hA, hg0, hg, hc⟩ : ∃ g, A5 = some ⟨g, 0, none⟩ ∧ bx + 1 ≤ g ∧ g < w5.heap.size ∧ 1 ≤ c5 := by
    rcases h1.2 with ⟨_, h0⟩ | ⟨g, cap, cur, e, hb, hh, hcap, _⟩
    · simp at h0
    · simp only [Value.slice.injEq] at e
      exact ⟨g, e.1, hb, by (rcases Nat.lt_or_ge g w5.heap.size with h' | h'; exact h'; rw [Array.getElem?_eq_none h'] at hh; simp at hh), by omega⟩
   subst hA
   have h8 : At8 w5 g (0 * 8) t A c := At8.ofX (x := (t, A, c)) fun j hj => by
    rw [h1.cellAt (0 * 8 + j) (by omega)]
    simp
   have hx : NodeAt w5 (fun b => w.heap.size < b ∧ b < w5.heap.size ∧ b ≠ bn ∧ b ≠ bx) t A c := h.x.mono fun b hb => ⟨⟨hb.1, by omega, hb.2.2, by omega⟩, fun o => World.cell?_of_block (w := W) (a := ⟨b, o, none⟩) (hblk b (by omega))⟩
   have hm := gP (W := w5) (ok := fun b => w.heap.size < b ∧ b < w5.heap.size ∧ b ≠ bn ∧ b ≠ bx) (g := g) (cO m n t) [(t, A, c)] rfl (by simp) ⟨by omega, hg, by omega, by omega⟩ (ya h8) (ya hx)
   exact hm.widerX (by simp only [cO, T.ps, List.length_cons, List.length_nil]; omega)
 · have hO := h.O
   have hzW := hO.size
   exact ⟨(h2.os.trans h0.os).trans hO.os, (h2.tape.trans h0.tape).trans hO.tape, (h2.output.trans h0.output).trans hO.output, by omega, fun k hk hkp => (hblk k (by omega)).trans (hO.block k hk hkp)⟩
theorem PieceZ.done {p : Nat} {St : Bs} {op : Int} {w : World} {bx bn : Nat} {t : T} {A A5 : Option Addr} {c c5 : Nat} {mm mx : Int} {k : Nat} {s : Rs} {W : World} (h : PieceZ p St op w bx bn t A c mm mx k s A5 c5 W) (hp : p < w.heap.size) (hbn : w.heap.size < bn) (hwr : bn < bx) :
 bj (W.setCell ⟨bx, 7, none⟩ (.slice A5 1 c5)) bx (ar (cO mm mx t, A5, c5)).toArray ∧ bj (W.setCell ⟨bx, 7, none⟩ (.slice A5 1 c5)) bn (ar (t, A, c)).toArray ∧
 (fun W' => bj W' w.heap.size (ar (.mk 0 0 0 0 0 0 0 [], none, 0)).toArray ∧ bj W' bn (ar (cO mm mx t, A5, c5)).toArray ∧ NodeAt W' (fun b => w.heap.size < b ∧ b < W'.heap.size ∧ b ≠ bn) (cO mm mx t) A5 c5 ∧ RQ W' p St k op s ∧ Off p w W') (aa (W.setCell ⟨bx, 7, none⟩ (.slice A5 1 c5)) bn (cO mm mx t, A5, c5)) := by
 have lx := h.X.lt
 have hk : ∀ b, b ≠ bx → (W.setCell ⟨bx, 7, none⟩ (.slice A5 1 c5)).heap[b]? = W.heap[b]? := fun b hb => Below.heap_setCell _ _ _ _ hb
 have hX : bj (W.setCell ⟨bx, 7, none⟩ (.slice A5 1 c5)) bx (ar (cO mm mx t, A5, c5)).toArray := by
  have h1 := h.X.set 7 (.slice A5 1 c5)
  simpa [ar, cO, T.k, T.s0, T.s1, T.s2, T.s3, T.mn, T.mx, T.ps] using h1
 have hN := h.N.keep (hk _ (by omega))
 refine ⟨hX, hN, (h.R.keep (hk _ (by omega))).keep (af _ _ _ _ (by omega)), ac hN _, (h.node mm mx).mono fun b (hb : w.heap.size < b ∧ b < W.heap.size ∧ b ≠ bn ∧ b ≠ bx) => ⟨⟨hb.1, by rw [ai]; simpa using hb.2.1, hb.2.2.1⟩, fun o => ?_⟩, (h.S.put (by omega) _ _).boxX (by omega) _, Off.boxW (h.O.box (by omega) _ _) (by omega) _⟩
 exact (World.cell?_of_block (w := W.setCell ⟨bx, 7, none⟩ (.slice A5 1 c5)) (a := ⟨b, o, none⟩) (af _ _ _ _ hb.2.2.1)).trans (World.cell?_of_block (w := W) (a := ⟨b, o, none⟩) (hk b hb.2.2.2))
theorem oK {grp : Bs → PT} {r : Bs} {e : Int} (h : aN grp r = .error e) : aT grp r = .error e := by simp only [aT, h]
theorem qU (w : World) (p : Nat) (St : Bs) (k0 : Nat) (op : Int) (cc : UInt8) (tt : Bs) (grp : Bs → PT) (h : RQ w p St k0 op (.ok (cc :: tt)))
 (hG : ∀ (w : World) (k : Nat) (r : Bs), RQ w p St k op (.ok r) → Calls Tryz.prog 135 #[.pointer (some ⟨p, 0, none⟩)] w fun en w' => kx p St op grp (.ok r) w en w') :
 Calls Tryz.prog 103 #[.pointer (some ⟨p, 0, none⟩)] w fun en w' => kx p St op (aT grp) (.ok (cc :: tt)) w en w' := by
 have hlt := h.lt
 have HA := hid (fun w (h : RQ w p St k0 op (.ok (cc :: tt))) => tB w p St k0 op cc tt grp h hG)
 have H := hid h
 clear h hG
 generalize cc :: tt = r0 at *
 go_enter Tryz.func103, Tryz.ntmps103
 go_upto_region 1 with fail
 generalize hW0 : w.alloc _ = W0
 have hB0 : Below w.heap.size w W0 := by subst hW0; exact nal
 have R0 : bj W0 w.heap.size (ar (.mk 0 0 0 0 0 0 0 [], none, 0)).toArray := by subst hW0; exact bj.new w _
 have hz0 : W0.heap.size = w.heap.size + 1 := by subst hW0; simp
 have Hz0 := hid hz0
 clear hW0 hz0
 go_wp2_with fail
 refine (HA.out W0 (H.out.later hB0)).mono ?_
 rintro en w1 ⟨⟨t1, A1, c1⟩, k1, s1, rfl, hx1, h1, hO1, ho1⟩
 have R1 := hO1.blk R0 (by omega)
 have hz1 := hO1.size
 have Hx1 := hid hx1; have Ho1 := hid ho1
 have hz0' : w.heap.size < W0.heap.size := by have := Hz0.out; omega
 clear hx1 ho1
 go_upto_region 2 with fail
 generalize hW : w1.alloc _ = W1
 have hb1 : Below w1.heap.size w1 W1 := by subst hW; exact nal
 have N1 : bj W1 w1.heap.size (ar (t1, A1, c1)).toArray := by subst hW; exact bj.new w1 _
 have hz2 : w1.heap.size < W1.heap.size := by subst hW; simp
 have hI : sI p St op grp r0 w w1.heap.size W1 (s1.rest.length + 1) := by
  refine ⟨(t1, A1, c1), k1, s1, rfl, R1.keep (hb1.block _ R1.lt), N1, Hx1.out.mono fun b (hb : W0.heap.size ≤ b ∧ b < w1.heap.size) => ⟨⟨by omega, by omega, by omega⟩, fun o => hb1.cell (p := ⟨b, o, none⟩) hb.2⟩, h1.later hb1, ((Off.of_below hB0).trans hO1).trans (Off.of_below hb1), ?_⟩
  have ho := Ho1.out
  cases ha : aN grp r0 with
  | error e =>
   simp only [Out, ha] at ho
   exact .inl ⟨e, ho, oK ha⟩
  | ok y =>
   obtain ⟨n, r1⟩ := y
   simp only [Out, ha] at ho
   obtain ⟨rfl, rfl⟩ := ho
   exact .inr ⟨r1, r1.length + 1, rfl, by omega, by simp only [aT, ha]⟩
 have HI := hid hI
 generalize hbn : w1.heap.size = bn at *
 have hbw : w.heap.size < bn := by omega
 clear hW hI N1 R1 h1 hO1 hb1 Hx1 Ho1 Hz0 hz0' hz1 hbn hB0 R0 hz2
 go_loopg [] (s1.rest.length + 1) (fun n wr => sI p St op grp r0 w bn wr n)
 case atStart => exact HI.out
 case round =>
  clear HI
  obtain ⟨⟨t, A, c⟩, kr, s', hn, hR, hN, hX, hS, hO, hcase⟩ := hrel
  have Hn := hid hn; have HX := hid hX; have HC := hid hcase; have HN := hid hN; have HR := hid hR; have HS := hid hS; have HO := hid hO
  have ltn0 := hN.lt
  have c3 := hS.rdr.c3
  have hne := hS.ne
  clear hn hX hcase hN hR hS hO
  rcases s' with e | r'
  · simp only [Rs.no] at c3
    have hne0 := hne e rfl
    have hb0 : (e == 0) = false := by rw [beq_eq_false_iff_ne]; exact hne0
    have Hout := hid (show Out (aT grp) (.ok r0) (fun x => t = x) (.error e) by
     rcases HC.out with ⟨e', he, hp⟩ | ⟨r', k, he, _⟩
     · cases he; exact Out.bad hp
     · cases he)
    clear hne hne0
    obtain ⟨⟨n0, n1, n2, n3, n4, n5, n6, n7⟩, _⟩ := (HN.out).cells8
    have ln := (HN.out).lt
    obtain ⟨⟨r0, r1_, r2_, r3, r4, r5, r6, r7⟩, hz⟩ := (HR.out).cells8
    obtain ⟨z0, z1, z2, z3, z4, z5, z6, z7⟩ := cM hz
    have lr := (HR.out).lt
    clear hz
    go_wp2_with fail
    change bodyPost _ _ _ _ _ (aa wr w.heap.size (t, A, c))
    have hfin := ac (HR.out) (t, A, c)
    obtain ⟨⟨y0, y1, y2, y3, y4, y5, y6, y7⟩, _⟩ := hfin.cells8
    have hRS := (HS.out).boxX (b := w.heap.size) (by omega) (t, A, c)
    have hOff := Off.boxW (HO.out) (Nat.le_refl _) (t, A, c)
    have hlw : wr.heap.size ≤ wr.heap.size := by first | exact Nat.le_refl _ | exact Nat.le_of_lt HP.out.X.lt
    have hNod : NodeAt (aa wr w.heap.size (t, A, c)) (fun b => w.heap.size ≤ b ∧ b < (aa wr w.heap.size (t, A, c)).heap.size) t A c := (HX.out).mono fun k (hk : w.heap.size < k ∧ k < wr.heap.size ∧ k ≠ bn) => ⟨⟨by omega, by rw [ai]; omega⟩, fun o => World.cell?_of_block (w := wr) (a := ⟨k, o, none⟩) (af _ _ _ _ (show k ≠ w.heap.size by omega))⟩
    generalize aa wr w.heap.size (t, A, c) = W9 at *
    exact bodyPost_ret (v := aB t A c) (by simp [results, Tryz.results103, y0, y1, y2, y3, y4, y5, y6, y7, go_sem]) rfl ⟨(t, A, c), kr, _, rfl, hNod, hRS, hOff, Hout.out⟩
  · simp only [Rs.no] at c3
    clear hne
    have hcs : ∃ k, r'.length < k + 1 ∧ aT grp r0 = cG (k + 1) t r' := by
     rcases HC.out with ⟨e', he, hs⟩ | ⟨r2, k, he, hk, hpp⟩
     · cases he
     · cases he
       obtain ⟨k', rfl⟩ : ∃ k', k = k' + 1 := ⟨k - 1, by omega⟩
       exact ⟨k', hk, hpp⟩
    obtain ⟨k, hk, hpp⟩ := hcs
    have Hpp := hid hpp; clear hpp HC
    go_upto_region 5 with fail
    generalize hW : wr.alloc _ = W2
    have hb2 : Below wr.heap.size wr W2 := by subst hW; exact nal
    have hX2 : bj W2 wr.heap.size (ar (.mk 6 0 0 0 0 0 0 [], none, 0)).toArray := by subst hW; exact bj.new wr _
    have hP : PieceQ p St op w wr.heap.size bn t A c 0 0 kr (.ok r') W2 := ⟨HR.out.keep (hb2.block _ HR.out.lt), HN.out.keep (hb2.block _ HN.out.lt), hX2, HX.out.mono fun b (hb : w.heap.size < b ∧ b < wr.heap.size ∧ b ≠ bn) => ⟨hb, fun o => hb2.cell (p := ⟨b, o, none⟩) hb.2.1⟩, HS.out.later hb2, HO.out.trans (Off.of_below hb2)⟩
    have ltn := ltn0
    clear hW hb2 hX2 HR HN HX HS HO c3 ltn0
    generalize wr.heap.size = bx at *
    rcases ht : aq [42] r' with _ | r2
    case' some =>
     have hsu : cG (k + 1) t r' = cG k (cO (0) (-1) t) r2 := by rw [cG]; simp only [ht]
     have hl := am ht
     simp only [List.length_cons, List.length_nil] at hl
     have Hsu := hid hsu; have Ht := hid ht; clear hsu ht
     go_wp2_with fail
     refine (cE [42] (by simp) Ht.out hP.S).mono ?_
     rintro en W3 ⟨rfl, ⟨kt, h2⟩, hO2⟩
     have hP := hP.off hlt hbw ltn hO2 h2
     clear h2 hO2
     obtain ⟨⟨x0, x1, x2, x3, x4, x5, x6, x7⟩, hz⟩ := hP.X.cells8
     have zx5 := hz 5; have zx6 := hz 6
     have lx := hP.X.lt
     clear hz x0 x1 x2 x3 x4 x7
     have HP := hid (hP.set6 hlt hbw ltn (-1))
     clear hP
     go_upto_region 16 with fail
     generalize W3.setCell ⟨bx, 6, none⟩ _ = WS at *
     clear x5 x6 zx5 zx6 lx
     obtain ⟨⟨n0, n1, n2, n3, n4, n5, n6, n7⟩, _⟩ := HP.out.N.cells8
     have ln := HP.out.N.lt
     obtain ⟨⟨x0, x1, x2, x3, x4, x5, x6, x7⟩, hz⟩ := HP.out.X.cells8
     have zx7 := hz 7
     have lx := HP.out.X.lt
     obtain ⟨v0, hv0⟩ : ∃ v0 : Value, v0 = .slice none 0 0 := ⟨_, rfl⟩
     have hv7 : WS.cell? ⟨bx, 7, none⟩ = some v0 := by rw [hv0]; exact x7
     have Hv0 := hid hv0
     clear hz x7 hv0 x0 x1 x2 x3 x4 x5 x6
     have hnews : ∀ ad, some (⟨WS.heap.size, 0, none⟩ : Addr) = some ad → ∀ j u, (ar (t, A, c))[j]? = some u → (WS.alloc (.cells (ar (t, A, c)).toArray 48)).cell? (ad.add j) = some u := fun ad e j u hu => by
      simp only [Option.some.injEq] at e
      subst e
      rw [ct, World.cell?_alloc_new, Nat.zero_add]
      simpa using hu
     have Hnews := hid hnews; clear hnews
     go_upto_region 17 with (at_builtin; refine au (bx + 1) rfl _ _ 46 48 _ 8 80 rfl Tryz.underlying46 Tryz.infoNodeX rfl (by omega) (by omega) v0 0 1 [] (ar (t, A, c)) (some ⟨WS.heap.size, 0, none⟩) 1 rfl rfl (by simp) rfl Hnews.out (cT _) ⟨rfl, .inl ⟨Hv0.out, rfl⟩⟩ (by simp; omega) (by omega) (fun A5 c5 w5 ho5 hg5 hat5 => ?_); have HZ := hid (HP.out.push hlt hbw ltn (A5 := A5) (c5 := c5) (w5 := w5) nal (by simpa using ho5) (by rw [Hv0.out] at hg5; exact hg5)); clear ho5 hg5 hat5; obtain ⟨⟨x0, x1, x2, x3, x4, x5, x6, x7⟩, hz⟩ := HZ.out.X.cells8; have zx7 := hz 7; have lx5 := HZ.out.X.lt; clear hz; rw [Nat.zero_add])
     have hD := HZ.out.done hlt hbw ltn
     have lx6 := hD.1.lt
     obtain ⟨⟨g0, g1, g2, g3, g4, g5, g6, g7⟩, _⟩ := hD.1.cells8
     obtain ⟨⟨m0, m1, m2, m3, m4, m5, m6, m7⟩, hz⟩ := hD.2.1.cells8
     have zn0 := hz 0; have zn1 := hz 1; have zn2 := hz 2; have zn3 := hz 3; have zn4 := hz 4; have zn5 := hz 5; have zn6 := hz 6; have zn7 := hz 7
     have ln6 := hD.2.1.lt
     have HD := hid hD.2.2
     clear hD hz HZ x0 x1 x2 x3 x4 x5 x6 x7 zx7 lx5
     generalize w5.setCell _ _ = W6 at *
     go_wp2_with fail
     change Handed _ _ _ (aa W6 bn (cO (0) (-1) t, A5, c5))
     obtain ⟨d1, d2, d3, d4, d5⟩ := HD.out
     clear HD m0 m1 m2 m3 m4 m5 m6 m7 zn0 zn1 zn2 zn3 zn4 zn5 zn6 zn7 g0 g1 g2 g3 g4 g5 g6 g7
     generalize aa W6 bn (cO (0) (-1) t, A5, c5) = W7 at *
     go_roundg (r2.length + 1)
     case measure => have := Hn.out; simp only [Rs.rest] at *; omega
     case rel => exact ⟨(cO (0) (-1) t, A5, c5), kt, .ok r2, rfl, d1, d2, d3, d4, d5, .inr ⟨r2, k, rfl, by omega, by rw [Hpp.out, Hsu.out]⟩⟩
    have Ht42 := hid ht; clear ht
    rcases ht : aq [43] r' with _ | r2
    case' some =>
     have hsu : cG (k + 1) t r' = cG k (cO (1) (-1) t) r2 := by rw [cG]; simp only [Ht42.out, ht]
     have hl := am ht
     simp only [List.length_cons, List.length_nil] at hl
     have Hsu := hid hsu; have Ht := hid ht; clear hsu ht
     go_wp2_with fail
     refine (bh [42] (by simp) Ht42.out hP.S).mono ?_
     rintro en W3 ⟨rfl, ⟨kt, h2⟩, hO2⟩
     have hP := hP.off hlt hbw ltn hO2 h2
     clear h2 hO2
     go_wp2_with fail
     refine (cE [43] (by simp) Ht.out hP.S).mono ?_
     rintro en W4 ⟨rfl, ⟨kt, h2⟩, hO2⟩
     have hP := hP.off hlt hbw ltn hO2 h2
     clear h2 hO2
     obtain ⟨⟨x0, x1, x2, x3, x4, x5, x6, x7⟩, hz⟩ := hP.X.cells8
     have zx5 := hz 5; have zx6 := hz 6
     have lx := hP.X.lt
     clear hz x0 x1 x2 x3 x4 x7
     have HP := hid ((hP.set5 hlt hbw ltn 1).set6 hlt hbw ltn (-1))
     clear hP
     go_upto_region 16 with fail
     generalize (W4.setCell ⟨bx, 5, none⟩ _).setCell ⟨bx, 6, none⟩ _ = WS at *
     clear x5 x6 zx5 zx6 lx
     obtain ⟨⟨n0, n1, n2, n3, n4, n5, n6, n7⟩, _⟩ := HP.out.N.cells8
     have ln := HP.out.N.lt
     obtain ⟨⟨x0, x1, x2, x3, x4, x5, x6, x7⟩, hz⟩ := HP.out.X.cells8
     have zx7 := hz 7
     have lx := HP.out.X.lt
     obtain ⟨v0, hv0⟩ : ∃ v0 : Value, v0 = .slice none 0 0 := ⟨_, rfl⟩
     have hv7 : WS.cell? ⟨bx, 7, none⟩ = some v0 := by rw [hv0]; exact x7
     have Hv0 := hid hv0
     clear hz x7 hv0 x0 x1 x2 x3 x4 x5 x6
     have hnews : ∀ ad, some (⟨WS.heap.size, 0, none⟩ : Addr) = some ad → ∀ j u, (ar (t, A, c))[j]? = some u → (WS.alloc (.cells (ar (t, A, c)).toArray 48)).cell? (ad.add j) = some u := fun ad e j u hu => by
      simp only [Option.some.injEq] at e
      subst e
      rw [ct, World.cell?_alloc_new, Nat.zero_add]
      simpa using hu
     have Hnews := hid hnews; clear hnews
     go_upto_region 17 with (at_builtin; refine au (bx + 1) rfl _ _ 46 48 _ 8 80 rfl Tryz.underlying46 Tryz.infoNodeX rfl (by omega) (by omega) v0 0 1 [] (ar (t, A, c)) (some ⟨WS.heap.size, 0, none⟩) 1 rfl rfl (by simp) rfl Hnews.out (cT _) ⟨rfl, .inl ⟨Hv0.out, rfl⟩⟩ (by simp; omega) (by omega) (fun A5 c5 w5 ho5 hg5 hat5 => ?_); have HZ := hid (HP.out.push hlt hbw ltn (A5 := A5) (c5 := c5) (w5 := w5) nal (by simpa using ho5) (by rw [Hv0.out] at hg5; exact hg5)); clear ho5 hg5 hat5; obtain ⟨⟨x0, x1, x2, x3, x4, x5, x6, x7⟩, hz⟩ := HZ.out.X.cells8; have zx7 := hz 7; have lx5 := HZ.out.X.lt; clear hz; rw [Nat.zero_add])
     have hD := HZ.out.done hlt hbw ltn
     have lx6 := hD.1.lt
     obtain ⟨⟨g0, g1, g2, g3, g4, g5, g6, g7⟩, _⟩ := hD.1.cells8
     obtain ⟨⟨m0, m1, m2, m3, m4, m5, m6, m7⟩, hz⟩ := hD.2.1.cells8
     have zn0 := hz 0; have zn1 := hz 1; have zn2 := hz 2; have zn3 := hz 3; have zn4 := hz 4; have zn5 := hz 5; have zn6 := hz 6; have zn7 := hz 7
     have ln6 := hD.2.1.lt
     have HD := hid hD.2.2
     clear hD hz HZ x0 x1 x2 x3 x4 x5 x6 x7 zx7 lx5
     generalize w5.setCell _ _ = W6 at *
     go_wp2_with fail
     change Handed _ _ _ (aa W6 bn (cO (1) (-1) t, A5, c5))
     obtain ⟨d1, d2, d3, d4, d5⟩ := HD.out
     clear HD m0 m1 m2 m3 m4 m5 m6 m7 zn0 zn1 zn2 zn3 zn4 zn5 zn6 zn7 g0 g1 g2 g3 g4 g5 g6 g7
     generalize aa W6 bn (cO (1) (-1) t, A5, c5) = W7 at *
     go_roundg (r2.length + 1)
     case measure => have := Hn.out; simp only [Rs.rest] at *; omega
     case rel => exact ⟨(cO (1) (-1) t, A5, c5), kt, .ok r2, rfl, d1, d2, d3, d4, d5, .inr ⟨r2, k, rfl, by omega, by rw [Hpp.out, Hsu.out]⟩⟩
    have Ht43 := hid ht; clear ht
    rcases ht : aq [63] r' with _ | r2
    case' some =>
     have hsu : cG (k + 1) t r' = cG k (cO (0) (1) t) r2 := by rw [cG]; simp only [Ht42.out, Ht43.out, ht]
     have hl := am ht
     simp only [List.length_cons, List.length_nil] at hl
     have Hsu := hid hsu; have Ht := hid ht; clear hsu ht
     go_wp2_with fail
     refine (bh [42] (by simp) Ht42.out hP.S).mono ?_
     rintro en W3 ⟨rfl, ⟨kt, h2⟩, hO2⟩
     have hP := hP.off hlt hbw ltn hO2 h2
     clear h2 hO2
     go_wp2_with fail
     refine (bh [43] (by simp) Ht43.out hP.S).mono ?_
     rintro en W4 ⟨rfl, ⟨kt, h2⟩, hO2⟩
     have hP := hP.off hlt hbw ltn hO2 h2
     clear h2 hO2
     go_wp2_with fail
     refine (cE [63] (by simp) Ht.out hP.S).mono ?_
     rintro en W5 ⟨rfl, ⟨kt, h2⟩, hO2⟩
     have hP := hP.off hlt hbw ltn hO2 h2
     clear h2 hO2
     obtain ⟨⟨x0, x1, x2, x3, x4, x5, x6, x7⟩, hz⟩ := hP.X.cells8
     have zx5 := hz 5; have zx6 := hz 6
     have lx := hP.X.lt
     clear hz x0 x1 x2 x3 x4 x7
     have HP := hid (hP.set6 hlt hbw ltn 1)
     clear hP
     go_upto_region 16 with fail
     generalize W5.setCell ⟨bx, 6, none⟩ _ = WS at *
     clear x5 x6 zx5 zx6 lx
     obtain ⟨⟨n0, n1, n2, n3, n4, n5, n6, n7⟩, _⟩ := HP.out.N.cells8
     have ln := HP.out.N.lt
     obtain ⟨⟨x0, x1, x2, x3, x4, x5, x6, x7⟩, hz⟩ := HP.out.X.cells8
     have zx7 := hz 7
     have lx := HP.out.X.lt
     obtain ⟨v0, hv0⟩ : ∃ v0 : Value, v0 = .slice none 0 0 := ⟨_, rfl⟩
     have hv7 : WS.cell? ⟨bx, 7, none⟩ = some v0 := by rw [hv0]; exact x7
     have Hv0 := hid hv0
     clear hz x7 hv0 x0 x1 x2 x3 x4 x5 x6
     have hnews : ∀ ad, some (⟨WS.heap.size, 0, none⟩ : Addr) = some ad → ∀ j u, (ar (t, A, c))[j]? = some u → (WS.alloc (.cells (ar (t, A, c)).toArray 48)).cell? (ad.add j) = some u := fun ad e j u hu => by
      simp only [Option.some.injEq] at e
      subst e
      rw [ct, World.cell?_alloc_new, Nat.zero_add]
      simpa using hu
     have Hnews := hid hnews; clear hnews
     go_upto_region 17 with (at_builtin; refine au (bx + 1) rfl _ _ 46 48 _ 8 80 rfl Tryz.underlying46 Tryz.infoNodeX rfl (by omega) (by omega) v0 0 1 [] (ar (t, A, c)) (some ⟨WS.heap.size, 0, none⟩) 1 rfl rfl (by simp) rfl Hnews.out (cT _) ⟨rfl, .inl ⟨Hv0.out, rfl⟩⟩ (by simp; omega) (by omega) (fun A5 c5 w5 ho5 hg5 hat5 => ?_); have HZ := hid (HP.out.push hlt hbw ltn (A5 := A5) (c5 := c5) (w5 := w5) nal (by simpa using ho5) (by rw [Hv0.out] at hg5; exact hg5)); clear ho5 hg5 hat5; obtain ⟨⟨x0, x1, x2, x3, x4, x5, x6, x7⟩, hz⟩ := HZ.out.X.cells8; have zx7 := hz 7; have lx5 := HZ.out.X.lt; clear hz; rw [Nat.zero_add])
     have hD := HZ.out.done hlt hbw ltn
     have lx6 := hD.1.lt
     obtain ⟨⟨g0, g1, g2, g3, g4, g5, g6, g7⟩, _⟩ := hD.1.cells8
     obtain ⟨⟨m0, m1, m2, m3, m4, m5, m6, m7⟩, hz⟩ := hD.2.1.cells8
     have zn0 := hz 0; have zn1 := hz 1; have zn2 := hz 2; have zn3 := hz 3; have zn4 := hz 4; have zn5 := hz 5; have zn6 := hz 6; have zn7 := hz 7
     have ln6 := hD.2.1.lt
     have HD := hid hD.2.2
     clear hD hz HZ x0 x1 x2 x3 x4 x5 x6 x7 zx7 lx5
     generalize w5.setCell _ _ = W6 at *
     go_wp2_with fail
     change Handed _ _ _ (aa W6 bn (cO (0) (1) t, A5, c5))
     obtain ⟨d1, d2, d3, d4, d5⟩ := HD.out
     clear HD m0 m1 m2 m3 m4 m5 m6 m7 zn0 zn1 zn2 zn3 zn4 zn5 zn6 zn7 g0 g1 g2 g3 g4 g5 g6 g7
     generalize aa W6 bn (cO (0) (1) t, A5, c5) = W7 at *
     go_roundg (r2.length + 1)
     case measure => have := Hn.out; simp only [Rs.rest] at *; omega
     case rel => exact ⟨(cO (0) (1) t, A5, c5), kt, .ok r2, rfl, d1, d2, d3, d4, d5, .inr ⟨r2, k, rfl, by omega, by rw [Hpp.out, Hsu.out]⟩⟩
    have Ht63 := hid ht; clear ht
    rcases ht : aq [123] r' with _ | r1
    case' none =>
     have hsu : cG (k + 1) t r' = .ok (t, r') := by rw [cG]; simp only [Ht42.out, Ht43.out, Ht63.out, ht]
     have Hout := hid (show Out (aT grp) (.ok r0) (fun x => t = x) (.ok r') from Out.good (by rw [Hpp.out, hsu]) rfl)
     have Ht := hid ht; clear hsu ht
     go_wp2_with fail
     refine (bh [42] (by simp) Ht42.out hP.S).mono ?_
     rintro en W3 ⟨rfl, ⟨kt, h2⟩, hO2⟩
     have hP := hP.off hlt hbw ltn hO2 h2
     clear h2 hO2
     go_wp2_with fail
     refine (bh [43] (by simp) Ht43.out hP.S).mono ?_
     rintro en W4 ⟨rfl, ⟨kt, h2⟩, hO2⟩
     have hP := hP.off hlt hbw ltn hO2 h2
     clear h2 hO2
     go_wp2_with fail
     refine (bh [63] (by simp) Ht63.out hP.S).mono ?_
     rintro en W5 ⟨rfl, ⟨kt, h2⟩, hO2⟩
     have hP := hP.off hlt hbw ltn hO2 h2
     clear h2 hO2
     go_wp2_with fail
     refine (bh [123] (by simp) Ht.out hP.S).mono ?_
     rintro en W6 ⟨rfl, ⟨kt, h2⟩, hO2⟩
     have hP := hP.off hlt hbw ltn hO2 h2
     clear h2 hO2
     have HP := hid hP
     clear hP
     obtain ⟨⟨n0, n1, n2, n3, n4, n5, n6, n7⟩, _⟩ := (HP.out.N).cells8
     have ln := (HP.out.N).lt
     obtain ⟨⟨r0, r1_, r2_, r3, r4, r5, r6, r7⟩, hz⟩ := (HP.out.R).cells8
     obtain ⟨z0, z1, z2, z3, z4, z5, z6, z7⟩ := cM hz
     have lr := (HP.out.R).lt
     clear hz
     go_wp2_with fail
     change bodyPost _ _ _ _ _ (aa W6 w.heap.size (t, A, c))
     have hfin := ac (HP.out.R) (t, A, c)
     obtain ⟨⟨y0, y1, y2, y3, y4, y5, y6, y7⟩, _⟩ := hfin.cells8
     have hRS := (HP.out.S).boxX (b := w.heap.size) (by omega) (t, A, c)
     have hOff := Off.boxW (HP.out.O) (Nat.le_refl _) (t, A, c)
     have hlw : bx ≤ W6.heap.size := by first | exact Nat.le_refl _ | exact Nat.le_of_lt HP.out.X.lt
     have hNod : NodeAt (aa W6 w.heap.size (t, A, c)) (fun b => w.heap.size ≤ b ∧ b < (aa W6 w.heap.size (t, A, c)).heap.size) t A c := (HP.out.x).mono fun k (hk : w.heap.size < k ∧ k < bx ∧ k ≠ bn) => ⟨⟨by omega, by rw [ai]; omega⟩, fun o => World.cell?_of_block (w := W6) (a := ⟨k, o, none⟩) (af _ _ _ _ (show k ≠ w.heap.size by omega))⟩
     generalize aa W6 w.heap.size (t, A, c) = W9 at *
     exact bodyPost_ret (v := aB t A c) (by simp [results, Tryz.results103, y0, y1, y2, y3, y4, y5, y6, y7, go_sem]) rfl ⟨(t, A, c), kt, _, rfl, hNod, hRS, hOff, Hout.out⟩
    have Ht := hid ht
    have hl := am ht
    simp only [List.length_cons, List.length_nil] at hl
    clear ht
    go_wp2_with fail
    refine (bh [42] (by simp) Ht42.out hP.S).mono ?_
    rintro en W3 ⟨rfl, ⟨kt, h2⟩, hO2⟩
    have hP := hP.off hlt hbw ltn hO2 h2
    clear h2 hO2
    go_wp2_with fail
    refine (bh [43] (by simp) Ht43.out hP.S).mono ?_
    rintro en W4 ⟨rfl, ⟨kt, h2⟩, hO2⟩
    have hP := hP.off hlt hbw ltn hO2 h2
    clear h2 hO2
    go_wp2_with fail
    refine (bh [63] (by simp) Ht63.out hP.S).mono ?_
    rintro en W5 ⟨rfl, ⟨kt, h2⟩, hO2⟩
    have hP := hP.off hlt hbw ltn hO2 h2
    clear h2 hO2
    go_wp2_with fail
    refine (cE [123] (by simp) Ht.out hP.S).mono ?_
    rintro en W6 ⟨rfl, ⟨kt, h2⟩, hO2⟩
    have hP := hP.off hlt hbw ltn hO2 h2
    clear h2 hO2
    go_wp2_with fail
    refine (mI W6 p St kt op r1 hP.S).mono ?_
    rintro en W7 ⟨m, x, k7, s7, rfl, h7, hO7, ho7⟩
    have hP := hP.off hlt hbw ltn hO7 h7
    clear h7 hO7
    have hcase : s7.rest.length < r'.length ∧ ((∃ e, s7 = .error e ∧ aT grp r0 = .error e) ∨ ∃ r' k, s7 = .ok r' ∧ r'.length < k ∧ aT grp r0 = cG k (cO m x t) r') := by
     rcases ho7 with ⟨hi, rfl⟩ | ⟨r2, hi, rfl⟩
     · exact ⟨by simp only [Rs.rest, List.length_nil]; omega, .inl ⟨105, rfl, by rw [Hpp.out, cG]; simp only [Ht42.out, Ht43.out, Ht63.out, Ht.out, hi]⟩⟩
     · have := df hi
       exact ⟨by simp only [Rs.rest]; omega, .inr ⟨r2, k, rfl, by omega, by rw [Hpp.out, cG]; simp only [Ht42.out, Ht43.out, Ht63.out, Ht.out, hi]⟩⟩
    have HCA := hid hcase
    clear hcase ho7
    obtain ⟨⟨x0, x1, x2, x3, x4, x5, x6, x7⟩, hz⟩ := hP.X.cells8
    have zx5 := hz 5; have zx6 := hz 6
    have lx := hP.X.lt
    clear hz x0 x1 x2 x3 x4 x7
    have HP := hid ((hP.set5 hlt hbw ltn m).set6 hlt hbw ltn x)
    clear hP
    go_upto_region 16 with fail
    generalize (W7.setCell ⟨bx, 5, none⟩ _).setCell ⟨bx, 6, none⟩ _ = WS at *
    clear x5 x6 zx5 zx6 lx
    obtain ⟨⟨n0, n1, n2, n3, n4, n5, n6, n7⟩, _⟩ := HP.out.N.cells8
    have ln := HP.out.N.lt
    obtain ⟨⟨x0, x1, x2, x3, x4, x5, x6, x7⟩, hz⟩ := HP.out.X.cells8
    have zx7 := hz 7
    have lx := HP.out.X.lt
    obtain ⟨v0, hv0⟩ : ∃ v0 : Value, v0 = .slice none 0 0 := ⟨_, rfl⟩
    have hv7 : WS.cell? ⟨bx, 7, none⟩ = some v0 := by rw [hv0]; exact x7
    have Hv0 := hid hv0
    clear hz x7 hv0 x0 x1 x2 x3 x4 x5 x6
    have hnews : ∀ ad, some (⟨WS.heap.size, 0, none⟩ : Addr) = some ad → ∀ j u, (ar (t, A, c))[j]? = some u → (WS.alloc (.cells (ar (t, A, c)).toArray 48)).cell? (ad.add j) = some u := fun ad e j u hu => by
     simp only [Option.some.injEq] at e
     subst e
     rw [ct, World.cell?_alloc_new, Nat.zero_add]
     simpa using hu
    have Hnews := hid hnews; clear hnews
    go_upto_region 17 with (at_builtin; refine au (bx + 1) rfl _ _ 46 48 _ 8 80 rfl Tryz.underlying46 Tryz.infoNodeX rfl (by omega) (by omega) v0 0 1 [] (ar (t, A, c)) (some ⟨WS.heap.size, 0, none⟩) 1 rfl rfl (by simp) rfl Hnews.out (cT _) ⟨rfl, .inl ⟨Hv0.out, rfl⟩⟩ (by simp; omega) (by omega) (fun A5 c5 w5 ho5 hg5 hat5 => ?_); have HZ := hid (HP.out.push hlt hbw ltn (A5 := A5) (c5 := c5) (w5 := w5) nal (by simpa using ho5) (by rw [Hv0.out] at hg5; exact hg5)); clear ho5 hg5 hat5; obtain ⟨⟨x0, x1, x2, x3, x4, x5, x6, x7⟩, hz⟩ := HZ.out.X.cells8; have zx7 := hz 7; have lx5 := HZ.out.X.lt; clear hz; rw [Nat.zero_add])
    have hD := HZ.out.done hlt hbw ltn
    have lx6 := hD.1.lt
    obtain ⟨⟨g0, g1, g2, g3, g4, g5, g6, g7⟩, _⟩ := hD.1.cells8
    obtain ⟨⟨m0, m1, m2, m3, m4, m5, m6, m7⟩, hz⟩ := hD.2.1.cells8
    have zn0 := hz 0; have zn1 := hz 1; have zn2 := hz 2; have zn3 := hz 3; have zn4 := hz 4; have zn5 := hz 5; have zn6 := hz 6; have zn7 := hz 7
    have ln6 := hD.2.1.lt
    have HD := hid hD.2.2
    clear hD hz HZ x0 x1 x2 x3 x4 x5 x6 x7 zx7 lx5
    generalize w5.setCell _ _ = W6 at *
    go_wp2_with fail
    change Handed _ _ _ (aa W6 bn (cO (m) (x) t, A5, c5))
    obtain ⟨d1, d2, d3, d4, d5⟩ := HD.out
    clear HD m0 m1 m2 m3 m4 m5 m6 m7 zn0 zn1 zn2 zn3 zn4 zn5 zn6 zn7 g0 g1 g2 g3 g4 g5 g6 g7
    generalize aa W6 bn (cO (m) (x) t, A5, c5) = W7 at *
    go_roundg (s7.rest.length + 1)
    case measure => have := Hn.out; have := HCA.out.1; simp only [Rs.rest] at *; omega
    case rel => exact ⟨(cO (m) (x) t, A5, c5), k7, s7, rfl, d1, d2, d3, d4, d5, HCA.out.2⟩
structure LstQ (p : Nat) (St : Bs) (op : Int) (w : World) (bx : Nat) (n : Nat) (ns : List Nx) (Av : Option Addr) (cv : Nat) (k : Nat) (s : Rs) (wr : World) : Prop where
 len : ns.length = n
 R : bj wr w.heap.size (ar (.mk 0 0 0 0 0 0 0 [], none, 0)).toArray
 b1 : w.heap.size ≤ bx
 b2 : bx < wr.heap.size
 own : wr.ownsRow (bx + 1) 48 8 (.slice Av n cv) n (bq ns)
 nodes : ∀ x ∈ ns, NodeAt wr (fun b => w.heap.size < b ∧ b < wr.heap.size ∧ b ≠ bx ∧ some b ≠ (Value.slice Av n cv).ownBlock) x.1 x.2.1 x.2.2
 S : RQ wr p St k op s
 O : Off p w wr
theorem LstQ.off {p : Nat} {St : Bs} {op : Int} {w : World} {bx n : Nat} {ns : List Nx} {Av : Option Addr} {cv k k1 : Nat} {s s' : Rs} {wr w1 : World} (h : LstQ p St op w bx n ns Av cv k s wr) (hp : p < w.heap.size) (hO : Off p wr w1) (hS : RQ w1 p St k1 op s') : LstQ p St op w bx n ns Av cv k1 s' w1 := by
 have hz := hO.size
 have hb1 := h.b1
 refine ⟨h.len, Off.blk hO h.R (by omega), h.b1, Nat.lt_of_lt_of_le h.b2 hz, h.own.kept hO ?_, fun x hx => (h.nodes x hx).mono fun b (hb : w.heap.size < b ∧ b < wr.heap.size ∧ b ≠ bx ∧ some b ≠ (Value.slice Av n cv).ownBlock) => ⟨⟨hb.1, by omega, hb.2.2⟩, fun o => Off.cell hO hb.2.1 (by omega)⟩, hS, Off.trans h.O hO⟩
 cases hv : (Value.slice Av n cv).ownBlock with
 | none => exact .inl rfl
 | some k => have := h.own.lt k hv; exact .inr (by simp; omega)
theorem LstQ.box {p : Nat} {St : Bs} {op : Int} {w : World} {bx n : Nat} {ns : List Nx} {Av : Option Addr} {cv k : Nat} {s : Rs} {wr : World} (h : LstQ p St op w bx n ns Av cv k s wr) (hp : p < w.heap.size) (hb : w.heap.size < bx) (y : Nx) : LstQ p St op w bx n ns Av cv k s (aa wr bx y) := by
 have hk : ∀ b, b ≠ bx → (aa wr bx y).heap[b]? = wr.heap[b]? := fun b hb => af _ _ _ _ hb
 have hz := ai wr bx y
 have hbel := bO (Below.refl bx wr) (Nat.le_refl _) y
 refine ⟨h.len, h.R.keep (hk _ (by omega)), h.b1, by rw [hz]; exact h.b2, h.own.kept (row := some bx) ⟨hbel.os, hbel.tape, hbel.output, by omega, fun b hb hne => hk b (by simpa using hne)⟩ ?_, fun x hx => (h.nodes x hx).mono fun b (hb : w.heap.size < b ∧ b < wr.heap.size ∧ b ≠ bx ∧ some b ≠ (Value.slice Av n cv).ownBlock) => ⟨⟨hb.1, by omega, hb.2.2⟩, fun o => World.cell?_of_block (w := wr) (a := ⟨b, o, none⟩) (hk b hb.2.2.1)⟩, h.S.boxX (by omega) y, Off.boxW h.O h.b1 y⟩
 cases hv : (Value.slice Av n cv).ownBlock with
 | none => exact .inl rfl
 | some k => have := h.own.lt k hv; exact .inr (by simp; omega)
theorem LstQ.push {p : Nat} {St : Bs} {op : Int} {w : World} {bx n : Nat} {ns : List Nx} {Av A' : Option Addr} {cv c' k : Nat} {s : Rs} {W w0 w2 : World} (h : LstQ p St op w bx n ns Av cv k s W) (hp : p < w.heap.size) (x : Nx) (hx : NodeAt W (fun b => w.heap.size < b ∧ b < W.heap.size ∧ b ≠ bx ∧ some b ≠ (Value.slice Av n cv).ownBlock) x.1 x.2.1 x.2.2)
 (h0 : Below W.heap.size W w0) (h1 : w2.ownsRow (bx + 1) 48 8 (.slice A' (n + 1) c') (n + 1) (bq ns ++ ar x)) (h2 : w0.grownBy w2 (Value.slice Av n cv).ownBlock) (h3 : (Value.slice A' (n + 1) c').ownBlock = (Value.slice Av n cv).ownBlock ∨ (Value.slice A' (n + 1) c').ownBlock = some w0.heap.size) :
 LstQ p St op w bx (n + 1) (ns ++ [x]) A' c' k s w2 := by
 have hz0 := h0.size
 have hz2 := h2.size
 have hb1 := h.b1
 have hb2 := h.b2
 have hblk : ∀ b, b < W.heap.size → some b ≠ (Value.slice Av n cv).ownBlock → w2.heap[b]? = W.heap[b]? := fun b hb hne => (h2.block b (by omega) hne).trans (h0.block b hb)
 have hrow1 : ∀ k, (Value.slice Av n cv).ownBlock = some k → bx + 1 ≤ k := fun k hk => (h.own.lt k hk).1
 have hne : ∀ b, b < bx + 1 → some b ≠ (Value.slice Av n cv).ownBlock := fun b hb e => by have := hrow1 b e.symm; omega
 have hpW := h.S.lt
 refine ⟨by simp [h.len], h.R.keep (hblk _ h.R.lt (hne _ (by omega))), h.b1, by omega, by rw [jQ]; exact h1, fun y hy => ?_, sg h.S (by omega) (hblk p hpW (hne _ (by omega))), ?_⟩
 · have key : ∀ b, w.heap.size < b → b < W.heap.size → b ≠ bx → some b ≠ (Value.slice Av n cv).ownBlock → (w.heap.size < b ∧ b < w2.heap.size ∧ b ≠ bx ∧ some b ≠ (Value.slice A' (n + 1) c').ownBlock) ∧ ∀ o, w2.cell? ⟨b, o, none⟩ = W.cell? ⟨b, o, none⟩ := fun b hb1 hb2 hbx hb3 => by
    refine ⟨⟨hb1, by omega, hbx, ?_⟩, fun o => World.cell?_of_block (w := W) (a := ⟨b, o, none⟩) (hblk b hb2 hb3)⟩
    rcases h3 with e | e
    · rw [e]; exact hb3
    · rw [e]; intro e'; simp only [Option.some.injEq] at e'; omega
   rcases List.mem_append.1 hy with hy | hy
   · exact (h.nodes y hy).mono fun b (hb : w.heap.size < b ∧ b < W.heap.size ∧ b ≠ bx ∧ some b ≠ (Value.slice Av n cv).ownBlock) => key b hb.1 hb.2.1 hb.2.2.1 hb.2.2.2
   · simp only [List.mem_singleton] at hy
     subst hy
     exact hx.mono fun b (hb : w.heap.size < b ∧ b < W.heap.size ∧ b ≠ bx ∧ some b ≠ (Value.slice Av n cv).ownBlock) => key b hb.1 hb.2.1 hb.2.2.1 hb.2.2.2
 · have hO := h.O
   have hzW := hO.size
   exact ⟨(h2.os.trans h0.os).trans hO.os, (h2.tape.trans h0.tape).trans hO.tape, (h2.output.trans h0.output).trans hO.output, by omega, fun k hk hkp => (hblk k (by omega) (hne k (by omega))).trans (hO.block k hk hkp)⟩
theorem LstQ.node {p : Nat} {St : Bs} {op : Int} {w : World} {bx n : Nat} {ns : List Nx} {Av : Option Addr} {cv k : Nat} {s : Rs} {wr : World} (h : LstQ p St op w bx n ns Av cv k s wr) (hn : 0 < n) (hn2 : n ≤ 17592186044416) (R : T) (hR : R.ps = ns.map (·.1)) : NodeAt wr (fun b => w.heap.size < b ∧ b < wr.heap.size) R Av cv := by
 have hb1 := h.b1
 obtain ⟨g, hA, hg0, hg, hc⟩ : ∃ g, Av = some ⟨g, 0, none⟩ ∧ bx + 1 ≤ g ∧ g < wr.heap.size ∧ n ≤ cv := by
  rcases h.own.2 with ⟨_, h0⟩ | ⟨g, cap, cur, e, hb, hh, hcap, _⟩
  · omega
  · simp only [Value.slice.injEq] at e
    exact ⟨g, e.1, hb, by (rcases Nat.lt_or_ge g wr.heap.size with h' | h'; exact h'; rw [Array.getElem?_eq_none h'] at hh; simp at hh), by omega⟩
 subst hA
 have h8 : ∀ (i : Nat) (x : Nx), ns[i]? = some x → At8 wr g (i * 8) x.1 x.2.1 x.2.2 := fun i x hi => .ofX fun j hj => by
  have hl := (List.getElem?_eq_some_iff.1 hi).1
  have hx : ns[i] = x := (List.getElem?_eq_some_iff.1 hi).2
  rw [h.own.cellAt (i * 8 + j) (by have := h.len; omega), dv ns i j hl hj, hx]
 have hm := gP (W := wr) (ok := fun b => w.heap.size < b ∧ b < wr.heap.size) (g := g) R ns hR (by rw [h.len]; exact hn2) ⟨by omega, hg⟩ h8 (fun i x hi => (h.nodes x (List.mem_of_getElem? hi)).mono fun b (hb : w.heap.size < b ∧ b < wr.heap.size ∧ b ≠ bx ∧ some b ≠ _) => ⟨⟨hb.1, hb.2.1⟩, fun o => rfl⟩)
 exact hm.widerX (by rw [hR, List.length_map, h.len]; exact hc)
theorem LstQ.first {p : Nat} {St : Bs} {op : Int} {w : World} {bx n : Nat} {ns : List Nx} {Av : Option Addr} {cv k : Nat} {s : Rs} {wr : World} (h : LstQ p St op w bx n ns Av cv k s wr) (hn : 0 < n) : ∃ g x, Av = some ⟨g, 0, none⟩ ∧ ns[0]? = some x ∧ At8 wr g 0 x.1 x.2.1 x.2.2 ∧ g < wr.heap.size ∧ n ≤ cv ∧ NodeAt wr (fun b => w.heap.size < b ∧ b < wr.heap.size) x.1 x.2.1 x.2.2 := by
 have hb1 := h.b1
 obtain ⟨g, hA, hg0, hg, hc⟩ : ∃ g, Av = some ⟨g, 0, none⟩ ∧ bx + 1 ≤ g ∧ g < wr.heap.size ∧ n ≤ cv := by
  rcases h.own.2 with ⟨_, h0⟩ | ⟨g, cap, cur, e, hb, hh, hcap, _⟩
  · omega
  · simp only [Value.slice.injEq] at e
    exact ⟨g, e.1, hb, by (rcases Nat.lt_or_ge g wr.heap.size with h' | h'; exact h'; rw [Array.getElem?_eq_none h'] at hh; simp at hh), by omega⟩
 subst hA
 have hl : 0 < ns.length := by rw [h.len]; exact hn
 refine ⟨g, ns[0], rfl, List.getElem?_eq_getElem hl, .ofX fun j hj => ?_, hg, hc, (h.nodes _ (List.getElem_mem hl)).mono fun b (hb : w.heap.size < b ∧ b < wr.heap.size ∧ b ≠ bx ∧ some b ≠ _) => ⟨⟨hb.1, hb.2.1⟩, fun o => rfl⟩⟩
 have := h.own.cellAt j (by have := h.len; omega)
 rw [Nat.zero_add, this]
 have e := dv ns 0 j hl hj
 simpa using e
def zz (p : Nat) (St : Bs) (op : Int) (grp : Bs → PT) (s : Rs) (w : World) (v : Value) (wr : World) (m : Nat) : Prop :=
 ∃ (n : Nat) (ns : List Nx) (Av : Option Addr) (cv : Nat) (k : Nat) (s' : Rs), v = .slice Av n cv ∧ m = s'.rest.length + 1 ∧ n + s'.rest.length ≤ 1024 ∧ LstQ p St op w w.heap.size n ns Av cv k s' wr ∧
  ((∃ e, s' = .error e ∧ (s = .error e ∨ ∃ r, s = .ok r ∧ dL grp r = .error e)) ∨ ∃ r r' k, s = .ok r ∧ s' = .ok r' ∧ r'.length < k ∧ aI grp (r.length + 1) [] r = aI grp k (ns.map fun x : Nx => x.1) r')
theorem RQ.rest {w : World} {p : Nat} {S : Bs} {k : Nat} {op : Int} {s : Rs} (h : RQ w p S k op s) : s.rest.length ≤ 1024 := by
 cases s with
 | error e => simp [Rs.rest]
 | ok r => have := h.len; have := h.rdr.top; simp only [Rs.rest]; omega
theorem mX {a c : UInt8} {t : Bs} (h : c = a) : aq [a] (c :: t) = some t := by rw [aH, if_pos h.symm]
theorem oj {a c : UInt8} {t : Bs} (h : c ≠ a) : aq [a] (c :: t) = none := by rw [aH, if_neg (fun e => h e.symm)]
theorem vj (w : World) (p : Nat) (St : Bs) (k : Nat) (op : Int) (s : Rs) (h : RQ w p St k op s) (grp : Bs → PT) (hgl : dR grp)
 (hG : (∃ r, s = .ok r) → ∀ (w : World) (k : Nat) (r : Bs), RQ w p St k op (.ok r) → Calls Tryz.prog 135 #[.pointer (some ⟨p, 0, none⟩)] w fun en w' => kx p St op grp (.ok r) w en w') :
 Calls Tryz.prog 85 #[.pointer (some ⟨p, 0, none⟩)] w fun en w' => kx p St op (dL grp) s w en w' := by
 have hlt := h.lt
 have hs := h.rest
 have HP := hid (fun (hsr : ∃ r, s = .ok r) (w : World) (k0 : Nat) (cc : UInt8) (tt : Bs) (h : RQ w p St k0 op (.ok (cc :: tt))) => qU w p St k0 op cc tt grp h (hG hsr))
 have H := hid h; have HGl := hid hgl
 clear h hG hgl
 go_enter Tryz.func85, Tryz.ntmps85
 go_upto_region 1 with fail
 generalize hW : w.alloc _ = W0
 have hB0 : Below w.heap.size w W0 := by subst hW; exact nal
 have R0 : bj W0 w.heap.size (ar (.mk 0 0 0 0 0 0 0 [], none, 0)).toArray := by subst hW; exact bj.new w _
 clear hW
 have hI : zz p St op grp s w (.slice none 0 0) W0 (s.rest.length + 1) := by
  refine ⟨0, [], none, 0, k, s, rfl, rfl, by omega, ⟨rfl, R0, Nat.le_refl _, R0.lt, ⟨rfl, .inl ⟨rfl, rfl⟩⟩, fun x hx => by simp at hx, H.out.later hB0, Off.of_below hB0⟩, ?_⟩
  rcases s with e | r
  · exact .inl ⟨e, rfl, .inl rfl⟩
  · exact .inr ⟨r, r, r.length + 1, rfl, rfl, by omega, rfl⟩
 have HI := hid hI; clear hI hB0 R0
 go_wp2_with fail
 go_loopg [3] (s.rest.length + 1) (fun m v wr => zz p St op grp s w v wr m)
 case atStart => exact HI.out
 case round =>
  clear HI H
  obtain ⟨n, ns, Av, cv, kr, s', rfl, hm, hnl, hL, hcase⟩ := hrel
  have HL := hid hL; have HC := hid hcase; have Hm := hid hm
  have Hd := hid (kC hL.S)
  clear hL hcase hm
  go_wp2_with fail
  refine Hd.out.mono ?_
  rintro en w1 ⟨rfl, h1, hO1⟩
  have HL := hid (HL.out.off hlt hO1 h1)
  clear h1 hO1 Hd
  rcases s' with e | (_ | ⟨c, t⟩)
  · rw [show ev (.error e) = true from rfl]
    have Hfin := hid (show Out (dL grp) s (fun t => bW 4 (ns.map fun x : Nx => x.1) = t) (.error e) by
     rcases HC.out with ⟨e', he, hs⟩ | ⟨r, r', k, _, he, _⟩
     · cases he
       rcases hs with rfl | ⟨r, rfl, hr⟩
       · exact Out.err
       · exact Out.bad hr
     · cases he)
    clear HC Hm
    have hn3 : n = 0 ∨ n = 1 ∨ 2 ≤ n := by omega
    rcases hn3 with rfl | rfl | hn2
    · have hns : ns = [] := List.eq_nil_of_length_eq_zero HL.out.len
      subst hns
      obtain ⟨⟨r0, r1, r2, r3, r4, r5, r6, r7⟩, hz⟩ := HL.out.R.cells8
      obtain ⟨z0, z1, z2, z3, z4, z5, z6, z7⟩ := cM hz
      have lr := HL.out.R.lt
      clear hz
      go_wp2_with fail
      change bodyPost _ _ _ _ _ (aa w1 w.heap.size (T.mk 0 0 0 0 0 0 0 [], none, 0))
      have hfn := ac HL.out.R (T.mk 0 0 0 0 0 0 0 [], none, 0)
      obtain ⟨⟨y0, y1, y2, y3, y4, y5, y6, y7⟩, _⟩ := hfn.cells8
      have hRS := HL.out.S.boxX (b := w.heap.size) (by omega) (T.mk 0 0 0 0 0 0 0 [], none, 0)
      have hOff := Off.boxW HL.out.O (Nat.le_refl _) (T.mk 0 0 0 0 0 0 0 [], none, 0)
      have hNod : NodeAt (aa w1 w.heap.size (T.mk 0 0 0 0 0 0 0 [], none, 0)) (fun b => w.heap.size ≤ b ∧ b < (aa w1 w.heap.size (T.mk 0 0 0 0 0 0 0 [], none, 0)).heap.size) (((T.mk 0 0 0 0 0 0 0 [], none, 0) : Nx)).1 (((T.mk 0 0 0 0 0 0 0 [], none, 0) : Nx)).2.1 (((T.mk 0 0 0 0 0 0 0 [], none, 0) : Nx)).2.2 := aA _ _ _ rfl
      generalize aa w1 w.heap.size (T.mk 0 0 0 0 0 0 0 [], none, 0) = W3 at *
      exact bodyPost_ret (v := aB (((T.mk 0 0 0 0 0 0 0 [], none, 0) : Nx)).1 (((T.mk 0 0 0 0 0 0 0 [], none, 0) : Nx)).2.1 (((T.mk 0 0 0 0 0 0 0 [], none, 0) : Nx)).2.2) (by simp [results, Tryz.results85, y0, y1, y2, y3, y4, y5, y6, y7, go_sem]) rfl ⟨(T.mk 0 0 0 0 0 0 0 [], none, 0), kr, _, rfl, hNod, hRS, hOff, Hfin.out⟩
    · obtain ⟨g, ⟨t1, A1, c1⟩, rfl, hx, h8, hg, hcv, hnd⟩ := HL.out.first (by omega)
      have hj : bW 4 (ns.map fun x : Nx => x.1) = t1 := by
       have hl := HL.out.len
       match ns, hl, hx with
       | [y], _, hx => simp at hx; subst hx; rfl
      have Hj := hid hj; have Hnd := hid hnd
      obtain ⟨f0, f1, f2, f3, f4, f5, f6, f7⟩ := h8
      simp only [Nat.zero_add] at f1 f2 f3 f4 f5 f6 f7
      clear hj hnd hx
      obtain ⟨⟨r0, r1, r2, r3, r4, r5, r6, r7⟩, hz⟩ := HL.out.R.cells8
      obtain ⟨z0, z1, z2, z3, z4, z5, z6, z7⟩ := cM hz
      have lr := HL.out.R.lt
      clear hz
      go_wp2_with fail
      change bodyPost _ _ _ _ _ (aa w1 w.heap.size (t1, A1, c1))
      have hfn := ac HL.out.R (t1, A1, c1)
      obtain ⟨⟨y0, y1, y2, y3, y4, y5, y6, y7⟩, _⟩ := hfn.cells8
      have hRS := HL.out.S.boxX (b := w.heap.size) (by omega) (t1, A1, c1)
      have hOff := Off.boxW HL.out.O (Nat.le_refl _) (t1, A1, c1)
      have hNod : NodeAt (aa w1 w.heap.size (t1, A1, c1)) (fun b => w.heap.size ≤ b ∧ b < (aa w1 w.heap.size (t1, A1, c1)).heap.size) (((t1, A1, c1) : Nx)).1 (((t1, A1, c1) : Nx)).2.1 (((t1, A1, c1) : Nx)).2.2 := Hnd.out.mono fun k (hk : w.heap.size < k ∧ k < w1.heap.size) => ⟨⟨by omega, by rw [ai]; exact hk.2⟩, fun o => World.cell?_of_block (w := w1) (a := ⟨k, o, none⟩) (af _ _ _ _ (show k ≠ w.heap.size by omega))⟩
      generalize aa w1 w.heap.size (t1, A1, c1) = W3 at *
      exact bodyPost_ret (v := aB (((t1, A1, c1) : Nx)).1 (((t1, A1, c1) : Nx)).2.1 (((t1, A1, c1) : Nx)).2.2) (by simp [results, Tryz.results85, y0, y1, y2, y3, y4, y5, y6, y7, go_sem]) rfl ⟨(t1, A1, c1), kr, _, rfl, hNod, hRS, hOff, by have := Hfin.out; rw [Hj.out] at this; exact this⟩
    · obtain rfl : n = (ns.map fun x : Nx => x.1).length := by simp [HL.out.len]
      have hnd := HL.out.node (by omega) (by omega) (.mk 4 0 0 0 0 0 0 (ns.map fun x : Nx => x.1)) rfl
      have hj : bW 4 (ns.map fun x : Nx => x.1) = .mk 4 0 0 0 0 0 0 (ns.map fun x : Nx => x.1) := by
       generalize ns.map (fun x : Nx => x.1) = l at hn2
       match l, hn2 with
       | a :: b :: l, _ => rfl
      have hb0 : (((ns.map fun x : Nx => x.1).length : Int) == 0) = false := by rw [beq_eq_false_iff_ne]; omega
      have hb1 : (((ns.map fun x : Nx => x.1).length : Int) == 1) = false := by rw [beq_eq_false_iff_ne]; omega
      have Hj := hid hj; have Hnd := hid hnd
      clear hj hnd
      generalize hl : (ns.map fun x : Nx => x.1) = l at *
      obtain ⟨⟨r0, r1, r2, r3, r4, r5, r6, r7⟩, hz⟩ := HL.out.R.cells8
      obtain ⟨z0, z1, z2, z3, z4, z5, z6, z7⟩ := cM hz
      have lr := HL.out.R.lt
      clear hz
      go_wp2_with fail
      change bodyPost _ _ _ _ _ (aa w1 w.heap.size (T.mk 4 0 0 0 0 0 0 l, Av, cv))
      have hfn := ac HL.out.R (T.mk 4 0 0 0 0 0 0 l, Av, cv)
      obtain ⟨⟨y0, y1, y2, y3, y4, y5, y6, y7⟩, _⟩ := hfn.cells8
      have hRS := HL.out.S.boxX (b := w.heap.size) (by omega) (T.mk 4 0 0 0 0 0 0 l, Av, cv)
      have hOff := Off.boxW HL.out.O (Nat.le_refl _) (T.mk 4 0 0 0 0 0 0 l, Av, cv)
      have hNod : NodeAt (aa w1 w.heap.size (T.mk 4 0 0 0 0 0 0 l, Av, cv)) (fun b => w.heap.size ≤ b ∧ b < (aa w1 w.heap.size (T.mk 4 0 0 0 0 0 0 l, Av, cv)).heap.size) (((T.mk 4 0 0 0 0 0 0 l, Av, cv) : Nx)).1 (((T.mk 4 0 0 0 0 0 0 l, Av, cv) : Nx)).2.1 (((T.mk 4 0 0 0 0 0 0 l, Av, cv) : Nx)).2.2 := Hnd.out.mono fun k (hk : w.heap.size < k ∧ k < w1.heap.size) => ⟨⟨by omega, by rw [ai]; exact hk.2⟩, fun o => World.cell?_of_block (w := w1) (a := ⟨k, o, none⟩) (af _ _ _ _ (show k ≠ w.heap.size by omega))⟩
      generalize aa w1 w.heap.size (T.mk 4 0 0 0 0 0 0 l, Av, cv) = W3 at *
      exact bodyPost_ret (v := aB (((T.mk 4 0 0 0 0 0 0 l, Av, cv) : Nx)).1 (((T.mk 4 0 0 0 0 0 0 l, Av, cv) : Nx)).2.1 (((T.mk 4 0 0 0 0 0 0 l, Av, cv) : Nx)).2.2) (by simp [results, Tryz.results85, y0, y1, y2, y3, y4, y5, y6, y7, go_sem]) rfl ⟨(T.mk 4 0 0 0 0 0 0 l, Av, cv), kr, _, rfl, hNod, hRS, hOff, by have := Hfin.out; rw [Hj.out] at this; exact this⟩
  · rw [show ev (.ok []) = true from rfl]
    have Hfin := hid (show Out (dL grp) s (fun t => bW 4 (ns.map fun x : Nx => x.1) = t) (.ok []) by
     rcases HC.out with ⟨e', he, _⟩ | ⟨r, r', k, rfl, he, hk, hpp⟩
     · cases he
     · cases he
       obtain ⟨k', rfl⟩ : ∃ k', k = k' + 1 := ⟨k - 1, by simp at hk; omega⟩
       refine Out.good (x := bW 4 (ns.map fun x : Nx => x.1)) ?_ rfl
       unfold dL
       rw [hpp, aI, if_pos (show ce [] = true from rfl)])
    clear HC Hm
    have hn3 : n = 0 ∨ n = 1 ∨ 2 ≤ n := by omega
    rcases hn3 with rfl | rfl | hn2
    · have hns : ns = [] := List.eq_nil_of_length_eq_zero HL.out.len
      subst hns
      obtain ⟨⟨r0, r1, r2, r3, r4, r5, r6, r7⟩, hz⟩ := HL.out.R.cells8
      obtain ⟨z0, z1, z2, z3, z4, z5, z6, z7⟩ := cM hz
      have lr := HL.out.R.lt
      clear hz
      go_wp2_with fail
      change bodyPost _ _ _ _ _ (aa w1 w.heap.size (T.mk 0 0 0 0 0 0 0 [], none, 0))
      have hfn := ac HL.out.R (T.mk 0 0 0 0 0 0 0 [], none, 0)
      obtain ⟨⟨y0, y1, y2, y3, y4, y5, y6, y7⟩, _⟩ := hfn.cells8
      have hRS := HL.out.S.boxX (b := w.heap.size) (by omega) (T.mk 0 0 0 0 0 0 0 [], none, 0)
      have hOff := Off.boxW HL.out.O (Nat.le_refl _) (T.mk 0 0 0 0 0 0 0 [], none, 0)
      have hNod : NodeAt (aa w1 w.heap.size (T.mk 0 0 0 0 0 0 0 [], none, 0)) (fun b => w.heap.size ≤ b ∧ b < (aa w1 w.heap.size (T.mk 0 0 0 0 0 0 0 [], none, 0)).heap.size) (((T.mk 0 0 0 0 0 0 0 [], none, 0) : Nx)).1 (((T.mk 0 0 0 0 0 0 0 [], none, 0) : Nx)).2.1 (((T.mk 0 0 0 0 0 0 0 [], none, 0) : Nx)).2.2 := aA _ _ _ rfl
      generalize aa w1 w.heap.size (T.mk 0 0 0 0 0 0 0 [], none, 0) = W3 at *
      exact bodyPost_ret (v := aB (((T.mk 0 0 0 0 0 0 0 [], none, 0) : Nx)).1 (((T.mk 0 0 0 0 0 0 0 [], none, 0) : Nx)).2.1 (((T.mk 0 0 0 0 0 0 0 [], none, 0) : Nx)).2.2) (by simp [results, Tryz.results85, y0, y1, y2, y3, y4, y5, y6, y7, go_sem]) rfl ⟨(T.mk 0 0 0 0 0 0 0 [], none, 0), kr, _, rfl, hNod, hRS, hOff, Hfin.out⟩
    · obtain ⟨g, ⟨t1, A1, c1⟩, rfl, hx, h8, hg, hcv, hnd⟩ := HL.out.first (by omega)
      have hj : bW 4 (ns.map fun x : Nx => x.1) = t1 := by
       have hl := HL.out.len
       match ns, hl, hx with
       | [y], _, hx => simp at hx; subst hx; rfl
      have Hj := hid hj; have Hnd := hid hnd
      obtain ⟨f0, f1, f2, f3, f4, f5, f6, f7⟩ := h8
      simp only [Nat.zero_add] at f1 f2 f3 f4 f5 f6 f7
      clear hj hnd hx
      obtain ⟨⟨r0, r1, r2, r3, r4, r5, r6, r7⟩, hz⟩ := HL.out.R.cells8
      obtain ⟨z0, z1, z2, z3, z4, z5, z6, z7⟩ := cM hz
      have lr := HL.out.R.lt
      clear hz
      go_wp2_with fail
      change bodyPost _ _ _ _ _ (aa w1 w.heap.size (t1, A1, c1))
      have hfn := ac HL.out.R (t1, A1, c1)
      obtain ⟨⟨y0, y1, y2, y3, y4, y5, y6, y7⟩, _⟩ := hfn.cells8
      have hRS := HL.out.S.boxX (b := w.heap.size) (by omega) (t1, A1, c1)
      have hOff := Off.boxW HL.out.O (Nat.le_refl _) (t1, A1, c1)
      have hNod : NodeAt (aa w1 w.heap.size (t1, A1, c1)) (fun b => w.heap.size ≤ b ∧ b < (aa w1 w.heap.size (t1, A1, c1)).heap.size) (((t1, A1, c1) : Nx)).1 (((t1, A1, c1) : Nx)).2.1 (((t1, A1, c1) : Nx)).2.2 := Hnd.out.mono fun k (hk : w.heap.size < k ∧ k < w1.heap.size) => ⟨⟨by omega, by rw [ai]; exact hk.2⟩, fun o => World.cell?_of_block (w := w1) (a := ⟨k, o, none⟩) (af _ _ _ _ (show k ≠ w.heap.size by omega))⟩
      generalize aa w1 w.heap.size (t1, A1, c1) = W3 at *
      exact bodyPost_ret (v := aB (((t1, A1, c1) : Nx)).1 (((t1, A1, c1) : Nx)).2.1 (((t1, A1, c1) : Nx)).2.2) (by simp [results, Tryz.results85, y0, y1, y2, y3, y4, y5, y6, y7, go_sem]) rfl ⟨(t1, A1, c1), kr, _, rfl, hNod, hRS, hOff, by have := Hfin.out; rw [Hj.out] at this; exact this⟩
    · obtain rfl : n = (ns.map fun x : Nx => x.1).length := by simp [HL.out.len]
      have hnd := HL.out.node (by omega) (by omega) (.mk 4 0 0 0 0 0 0 (ns.map fun x : Nx => x.1)) rfl
      have hj : bW 4 (ns.map fun x : Nx => x.1) = .mk 4 0 0 0 0 0 0 (ns.map fun x : Nx => x.1) := by
       generalize ns.map (fun x : Nx => x.1) = l at hn2
       match l, hn2 with
       | a :: b :: l, _ => rfl
      have hb0 : (((ns.map fun x : Nx => x.1).length : Int) == 0) = false := by rw [beq_eq_false_iff_ne]; omega
      have hb1 : (((ns.map fun x : Nx => x.1).length : Int) == 1) = false := by rw [beq_eq_false_iff_ne]; omega
      have Hj := hid hj; have Hnd := hid hnd
      clear hj hnd
      generalize hl : (ns.map fun x : Nx => x.1) = l at *
      obtain ⟨⟨r0, r1, r2, r3, r4, r5, r6, r7⟩, hz⟩ := HL.out.R.cells8
      obtain ⟨z0, z1, z2, z3, z4, z5, z6, z7⟩ := cM hz
      have lr := HL.out.R.lt
      clear hz
      go_wp2_with fail
      change bodyPost _ _ _ _ _ (aa w1 w.heap.size (T.mk 4 0 0 0 0 0 0 l, Av, cv))
      have hfn := ac HL.out.R (T.mk 4 0 0 0 0 0 0 l, Av, cv)
      obtain ⟨⟨y0, y1, y2, y3, y4, y5, y6, y7⟩, _⟩ := hfn.cells8
      have hRS := HL.out.S.boxX (b := w.heap.size) (by omega) (T.mk 4 0 0 0 0 0 0 l, Av, cv)
      have hOff := Off.boxW HL.out.O (Nat.le_refl _) (T.mk 4 0 0 0 0 0 0 l, Av, cv)
      have hNod : NodeAt (aa w1 w.heap.size (T.mk 4 0 0 0 0 0 0 l, Av, cv)) (fun b => w.heap.size ≤ b ∧ b < (aa w1 w.heap.size (T.mk 4 0 0 0 0 0 0 l, Av, cv)).heap.size) (((T.mk 4 0 0 0 0 0 0 l, Av, cv) : Nx)).1 (((T.mk 4 0 0 0 0 0 0 l, Av, cv) : Nx)).2.1 (((T.mk 4 0 0 0 0 0 0 l, Av, cv) : Nx)).2.2 := Hnd.out.mono fun k (hk : w.heap.size < k ∧ k < w1.heap.size) => ⟨⟨by omega, by rw [ai]; exact hk.2⟩, fun o => World.cell?_of_block (w := w1) (a := ⟨k, o, none⟩) (af _ _ _ _ (show k ≠ w.heap.size by omega))⟩
      generalize aa w1 w.heap.size (T.mk 4 0 0 0 0 0 0 l, Av, cv) = W3 at *
      exact bodyPost_ret (v := aB (((T.mk 4 0 0 0 0 0 0 l, Av, cv) : Nx)).1 (((T.mk 4 0 0 0 0 0 0 l, Av, cv) : Nx)).2.1 (((T.mk 4 0 0 0 0 0 0 l, Av, cv) : Nx)).2.2) (by simp [results, Tryz.results85, y0, y1, y2, y3, y4, y5, y6, y7, go_sem]) rfl ⟨(T.mk 4 0 0 0 0 0 0 l, Av, cv), kr, _, rfl, hNod, hRS, hOff, by have := Hfin.out; rw [Hj.out] at this; exact this⟩
  · rw [show ev (.ok (c :: t)) = false from rfl]
    simp only [Rs.rest, List.length_cons] at hnl
    obtain ⟨r, k1, hsr, hk, hpp⟩ : ∃ r k, s = .ok r ∧ (c :: t).length < k + 1 ∧ aI grp (r.length + 1) [] r = aI grp (k + 1) (ns.map fun x : Nx => x.1) (c :: t) := by
     rcases HC.out with ⟨e', he, _⟩ | ⟨r, r2, k, hs, he, hk, hpp⟩
     · cases he
     · cases he
       obtain ⟨k', rfl⟩ : ∃ k', k = k' + 1 := ⟨k - 1, by omega⟩
       exact ⟨r, k', hs, hk, hpp⟩
    have Hpp := hid hpp; have Hsr := hid hsr
    clear hpp hsr HC
    by_cases hc1 : c = 124
    · have Hfin := hid (show Out (dL grp) s (fun t => bW 4 (ns.map fun x : Nx => x.1) = t) (.ok (c :: t)) by
       rw [Hsr.out]
       refine Out.good (x := bW 4 (ns.map fun x : Nx => x.1)) ?_ rfl
       unfold dL
       rw [Hpp.out, aI, if_pos (by rw [hc1]; rfl)])
      have Hc1 := hid hc1
      clear hc1 Hm
      go_wp2_with fail
      refine (gc [124] (by simp) (mX Hc1.out) HL.out.S).mono ?_
      rintro en w2 ⟨rfl, h1, hO1⟩
      have HL := hid (HL.out.off hlt hO1 h1)
      clear h1 hO1
      have hn3 : n = 0 ∨ n = 1 ∨ 2 ≤ n := by omega
      rcases hn3 with rfl | rfl | hn2
      · have hns : ns = [] := List.eq_nil_of_length_eq_zero HL.out.len
        subst hns
        obtain ⟨⟨r0, r1, r2, r3, r4, r5, r6, r7⟩, hz⟩ := HL.out.R.cells8
        obtain ⟨z0, z1, z2, z3, z4, z5, z6, z7⟩ := cM hz
        have lr := HL.out.R.lt
        clear hz
        go_wp2_with fail
        change bodyPost _ _ _ _ _ (aa w2 w.heap.size (T.mk 0 0 0 0 0 0 0 [], none, 0))
        have hfn := ac HL.out.R (T.mk 0 0 0 0 0 0 0 [], none, 0)
        obtain ⟨⟨y0, y1, y2, y3, y4, y5, y6, y7⟩, _⟩ := hfn.cells8
        have hRS := HL.out.S.boxX (b := w.heap.size) (by omega) (T.mk 0 0 0 0 0 0 0 [], none, 0)
        have hOff := Off.boxW HL.out.O (Nat.le_refl _) (T.mk 0 0 0 0 0 0 0 [], none, 0)
        have hNod : NodeAt (aa w2 w.heap.size (T.mk 0 0 0 0 0 0 0 [], none, 0)) (fun b => w.heap.size ≤ b ∧ b < (aa w2 w.heap.size (T.mk 0 0 0 0 0 0 0 [], none, 0)).heap.size) (((T.mk 0 0 0 0 0 0 0 [], none, 0) : Nx)).1 (((T.mk 0 0 0 0 0 0 0 [], none, 0) : Nx)).2.1 (((T.mk 0 0 0 0 0 0 0 [], none, 0) : Nx)).2.2 := aA _ _ _ rfl
        generalize aa w2 w.heap.size (T.mk 0 0 0 0 0 0 0 [], none, 0) = W3 at *
        exact bodyPost_ret (v := aB (((T.mk 0 0 0 0 0 0 0 [], none, 0) : Nx)).1 (((T.mk 0 0 0 0 0 0 0 [], none, 0) : Nx)).2.1 (((T.mk 0 0 0 0 0 0 0 [], none, 0) : Nx)).2.2) (by simp [results, Tryz.results85, y0, y1, y2, y3, y4, y5, y6, y7, go_sem]) rfl ⟨(T.mk 0 0 0 0 0 0 0 [], none, 0), kr, _, rfl, hNod, hRS, hOff, Hfin.out⟩
      · obtain ⟨g, ⟨t1, A1, c1⟩, rfl, hx, h8, hg, hcv, hnd⟩ := HL.out.first (by omega)
        have hj : bW 4 (ns.map fun x : Nx => x.1) = t1 := by
         have hl := HL.out.len
         match ns, hl, hx with
         | [y], _, hx => simp at hx; subst hx; rfl
        have Hj := hid hj; have Hnd := hid hnd
        obtain ⟨f0, f1, f2, f3, f4, f5, f6, f7⟩ := h8
        simp only [Nat.zero_add] at f1 f2 f3 f4 f5 f6 f7
        clear hj hnd hx
        obtain ⟨⟨r0, r1, r2, r3, r4, r5, r6, r7⟩, hz⟩ := HL.out.R.cells8
        obtain ⟨z0, z1, z2, z3, z4, z5, z6, z7⟩ := cM hz
        have lr := HL.out.R.lt
        clear hz
        go_wp2_with fail
        change bodyPost _ _ _ _ _ (aa w2 w.heap.size (t1, A1, c1))
        have hfn := ac HL.out.R (t1, A1, c1)
        obtain ⟨⟨y0, y1, y2, y3, y4, y5, y6, y7⟩, _⟩ := hfn.cells8
        have hRS := HL.out.S.boxX (b := w.heap.size) (by omega) (t1, A1, c1)
        have hOff := Off.boxW HL.out.O (Nat.le_refl _) (t1, A1, c1)
        have hNod : NodeAt (aa w2 w.heap.size (t1, A1, c1)) (fun b => w.heap.size ≤ b ∧ b < (aa w2 w.heap.size (t1, A1, c1)).heap.size) (((t1, A1, c1) : Nx)).1 (((t1, A1, c1) : Nx)).2.1 (((t1, A1, c1) : Nx)).2.2 := Hnd.out.mono fun k (hk : w.heap.size < k ∧ k < w2.heap.size) => ⟨⟨by omega, by rw [ai]; exact hk.2⟩, fun o => World.cell?_of_block (w := w2) (a := ⟨k, o, none⟩) (af _ _ _ _ (show k ≠ w.heap.size by omega))⟩
        generalize aa w2 w.heap.size (t1, A1, c1) = W3 at *
        exact bodyPost_ret (v := aB (((t1, A1, c1) : Nx)).1 (((t1, A1, c1) : Nx)).2.1 (((t1, A1, c1) : Nx)).2.2) (by simp [results, Tryz.results85, y0, y1, y2, y3, y4, y5, y6, y7, go_sem]) rfl ⟨(t1, A1, c1), kr, _, rfl, hNod, hRS, hOff, by have := Hfin.out; rw [Hj.out] at this; exact this⟩
      · obtain rfl : n = (ns.map fun x : Nx => x.1).length := by simp [HL.out.len]
        have hnd := HL.out.node (by omega) (by omega) (.mk 4 0 0 0 0 0 0 (ns.map fun x : Nx => x.1)) rfl
        have hj : bW 4 (ns.map fun x : Nx => x.1) = .mk 4 0 0 0 0 0 0 (ns.map fun x : Nx => x.1) := by
         generalize ns.map (fun x : Nx => x.1) = l at hn2
         match l, hn2 with
         | a :: b :: l, _ => rfl
        have hb0 : (((ns.map fun x : Nx => x.1).length : Int) == 0) = false := by rw [beq_eq_false_iff_ne]; omega
        have hb1 : (((ns.map fun x : Nx => x.1).length : Int) == 1) = false := by rw [beq_eq_false_iff_ne]; omega
        have Hj := hid hj; have Hnd := hid hnd
        clear hj hnd
        generalize hl : (ns.map fun x : Nx => x.1) = l at *
        obtain ⟨⟨r0, r1, r2, r3, r4, r5, r6, r7⟩, hz⟩ := HL.out.R.cells8
        obtain ⟨z0, z1, z2, z3, z4, z5, z6, z7⟩ := cM hz
        have lr := HL.out.R.lt
        clear hz
        go_wp2_with fail
        change bodyPost _ _ _ _ _ (aa w2 w.heap.size (T.mk 4 0 0 0 0 0 0 l, Av, cv))
        have hfn := ac HL.out.R (T.mk 4 0 0 0 0 0 0 l, Av, cv)
        obtain ⟨⟨y0, y1, y2, y3, y4, y5, y6, y7⟩, _⟩ := hfn.cells8
        have hRS := HL.out.S.boxX (b := w.heap.size) (by omega) (T.mk 4 0 0 0 0 0 0 l, Av, cv)
        have hOff := Off.boxW HL.out.O (Nat.le_refl _) (T.mk 4 0 0 0 0 0 0 l, Av, cv)
        have hNod : NodeAt (aa w2 w.heap.size (T.mk 4 0 0 0 0 0 0 l, Av, cv)) (fun b => w.heap.size ≤ b ∧ b < (aa w2 w.heap.size (T.mk 4 0 0 0 0 0 0 l, Av, cv)).heap.size) (((T.mk 4 0 0 0 0 0 0 l, Av, cv) : Nx)).1 (((T.mk 4 0 0 0 0 0 0 l, Av, cv) : Nx)).2.1 (((T.mk 4 0 0 0 0 0 0 l, Av, cv) : Nx)).2.2 := Hnd.out.mono fun k (hk : w.heap.size < k ∧ k < w2.heap.size) => ⟨⟨by omega, by rw [ai]; exact hk.2⟩, fun o => World.cell?_of_block (w := w2) (a := ⟨k, o, none⟩) (af _ _ _ _ (show k ≠ w.heap.size by omega))⟩
        generalize aa w2 w.heap.size (T.mk 4 0 0 0 0 0 0 l, Av, cv) = W3 at *
        exact bodyPost_ret (v := aB (((T.mk 4 0 0 0 0 0 0 l, Av, cv) : Nx)).1 (((T.mk 4 0 0 0 0 0 0 l, Av, cv) : Nx)).2.1 (((T.mk 4 0 0 0 0 0 0 l, Av, cv) : Nx)).2.2) (by simp [results, Tryz.results85, y0, y1, y2, y3, y4, y5, y6, y7, go_sem]) rfl ⟨(T.mk 4 0 0 0 0 0 0 l, Av, cv), kr, _, rfl, hNod, hRS, hOff, by have := Hfin.out; rw [Hj.out] at this; exact this⟩
    · by_cases hc2 : c = 41
      · have Hfin := hid (show Out (dL grp) s (fun t => bW 4 (ns.map fun x : Nx => x.1) = t) (.ok (c :: t)) by
         rw [Hsr.out]
         refine Out.good (x := bW 4 (ns.map fun x : Nx => x.1)) ?_ rfl
         unfold dL
         rw [Hpp.out, aI, if_pos (by rw [hc2]; rfl)])
        have Hc1 := hid hc1
        have Hc2 := hid hc2
        clear hc1 hc2 Hm
        go_wp2_with fail
        refine (ef [124] (by simp) (oj Hc1.out) HL.out.S).mono ?_
        rintro en w2 ⟨rfl, h1, hO1⟩
        have HL := hid (HL.out.off hlt hO1 h1)
        clear h1 hO1
        go_wp2_with fail
        refine (gc [41] (by simp) (mX Hc2.out) HL.out.S).mono ?_
        rintro en w3 ⟨rfl, h1, hO1⟩
        have HL := hid (HL.out.off hlt hO1 h1)
        clear h1 hO1
        have hn3 : n = 0 ∨ n = 1 ∨ 2 ≤ n := by omega
        rcases hn3 with rfl | rfl | hn2
        · have hns : ns = [] := List.eq_nil_of_length_eq_zero HL.out.len
          subst hns
          obtain ⟨⟨r0, r1, r2, r3, r4, r5, r6, r7⟩, hz⟩ := HL.out.R.cells8
          obtain ⟨z0, z1, z2, z3, z4, z5, z6, z7⟩ := cM hz
          have lr := HL.out.R.lt
          clear hz
          go_wp2_with fail
          change bodyPost _ _ _ _ _ (aa w3 w.heap.size (T.mk 0 0 0 0 0 0 0 [], none, 0))
          have hfn := ac HL.out.R (T.mk 0 0 0 0 0 0 0 [], none, 0)
          obtain ⟨⟨y0, y1, y2, y3, y4, y5, y6, y7⟩, _⟩ := hfn.cells8
          have hRS := HL.out.S.boxX (b := w.heap.size) (by omega) (T.mk 0 0 0 0 0 0 0 [], none, 0)
          have hOff := Off.boxW HL.out.O (Nat.le_refl _) (T.mk 0 0 0 0 0 0 0 [], none, 0)
          have hNod : NodeAt (aa w3 w.heap.size (T.mk 0 0 0 0 0 0 0 [], none, 0)) (fun b => w.heap.size ≤ b ∧ b < (aa w3 w.heap.size (T.mk 0 0 0 0 0 0 0 [], none, 0)).heap.size) (((T.mk 0 0 0 0 0 0 0 [], none, 0) : Nx)).1 (((T.mk 0 0 0 0 0 0 0 [], none, 0) : Nx)).2.1 (((T.mk 0 0 0 0 0 0 0 [], none, 0) : Nx)).2.2 := aA _ _ _ rfl
          generalize aa w3 w.heap.size (T.mk 0 0 0 0 0 0 0 [], none, 0) = W3 at *
          exact bodyPost_ret (v := aB (((T.mk 0 0 0 0 0 0 0 [], none, 0) : Nx)).1 (((T.mk 0 0 0 0 0 0 0 [], none, 0) : Nx)).2.1 (((T.mk 0 0 0 0 0 0 0 [], none, 0) : Nx)).2.2) (by simp [results, Tryz.results85, y0, y1, y2, y3, y4, y5, y6, y7, go_sem]) rfl ⟨(T.mk 0 0 0 0 0 0 0 [], none, 0), kr, _, rfl, hNod, hRS, hOff, Hfin.out⟩
        · obtain ⟨g, ⟨t1, A1, c1⟩, rfl, hx, h8, hg, hcv, hnd⟩ := HL.out.first (by omega)
          have hj : bW 4 (ns.map fun x : Nx => x.1) = t1 := by
           have hl := HL.out.len
           match ns, hl, hx with
           | [y], _, hx => simp at hx; subst hx; rfl
          have Hj := hid hj; have Hnd := hid hnd
          obtain ⟨f0, f1, f2, f3, f4, f5, f6, f7⟩ := h8
          simp only [Nat.zero_add] at f1 f2 f3 f4 f5 f6 f7
          clear hj hnd hx
          obtain ⟨⟨r0, r1, r2, r3, r4, r5, r6, r7⟩, hz⟩ := HL.out.R.cells8
          obtain ⟨z0, z1, z2, z3, z4, z5, z6, z7⟩ := cM hz
          have lr := HL.out.R.lt
          clear hz
          go_wp2_with fail
          change bodyPost _ _ _ _ _ (aa w3 w.heap.size (t1, A1, c1))
          have hfn := ac HL.out.R (t1, A1, c1)
          obtain ⟨⟨y0, y1, y2, y3, y4, y5, y6, y7⟩, _⟩ := hfn.cells8
          have hRS := HL.out.S.boxX (b := w.heap.size) (by omega) (t1, A1, c1)
          have hOff := Off.boxW HL.out.O (Nat.le_refl _) (t1, A1, c1)
          have hNod : NodeAt (aa w3 w.heap.size (t1, A1, c1)) (fun b => w.heap.size ≤ b ∧ b < (aa w3 w.heap.size (t1, A1, c1)).heap.size) (((t1, A1, c1) : Nx)).1 (((t1, A1, c1) : Nx)).2.1 (((t1, A1, c1) : Nx)).2.2 := Hnd.out.mono fun k (hk : w.heap.size < k ∧ k < w3.heap.size) => ⟨⟨by omega, by rw [ai]; exact hk.2⟩, fun o => World.cell?_of_block (w := w3) (a := ⟨k, o, none⟩) (af _ _ _ _ (show k ≠ w.heap.size by omega))⟩
          generalize aa w3 w.heap.size (t1, A1, c1) = W3 at *
          exact bodyPost_ret (v := aB (((t1, A1, c1) : Nx)).1 (((t1, A1, c1) : Nx)).2.1 (((t1, A1, c1) : Nx)).2.2) (by simp [results, Tryz.results85, y0, y1, y2, y3, y4, y5, y6, y7, go_sem]) rfl ⟨(t1, A1, c1), kr, _, rfl, hNod, hRS, hOff, by have := Hfin.out; rw [Hj.out] at this; exact this⟩
        · obtain rfl : n = (ns.map fun x : Nx => x.1).length := by simp [HL.out.len]
          have hnd := HL.out.node (by omega) (by omega) (.mk 4 0 0 0 0 0 0 (ns.map fun x : Nx => x.1)) rfl
          have hj : bW 4 (ns.map fun x : Nx => x.1) = .mk 4 0 0 0 0 0 0 (ns.map fun x : Nx => x.1) := by
           generalize ns.map (fun x : Nx => x.1) = l at hn2
           match l, hn2 with
           | a :: b :: l, _ => rfl
          have hb0 : (((ns.map fun x : Nx => x.1).length : Int) == 0) = false := by rw [beq_eq_false_iff_ne]; omega
          have hb1 : (((ns.map fun x : Nx => x.1).length : Int) == 1) = false := by rw [beq_eq_false_iff_ne]; omega
          have Hj := hid hj; have Hnd := hid hnd
          clear hj hnd
          generalize hl : (ns.map fun x : Nx => x.1) = l at *
          obtain ⟨⟨r0, r1, r2, r3, r4, r5, r6, r7⟩, hz⟩ := HL.out.R.cells8
          obtain ⟨z0, z1, z2, z3, z4, z5, z6, z7⟩ := cM hz
          have lr := HL.out.R.lt
          clear hz
          go_wp2_with fail
          change bodyPost _ _ _ _ _ (aa w3 w.heap.size (T.mk 4 0 0 0 0 0 0 l, Av, cv))
          have hfn := ac HL.out.R (T.mk 4 0 0 0 0 0 0 l, Av, cv)
          obtain ⟨⟨y0, y1, y2, y3, y4, y5, y6, y7⟩, _⟩ := hfn.cells8
          have hRS := HL.out.S.boxX (b := w.heap.size) (by omega) (T.mk 4 0 0 0 0 0 0 l, Av, cv)
          have hOff := Off.boxW HL.out.O (Nat.le_refl _) (T.mk 4 0 0 0 0 0 0 l, Av, cv)
          have hNod : NodeAt (aa w3 w.heap.size (T.mk 4 0 0 0 0 0 0 l, Av, cv)) (fun b => w.heap.size ≤ b ∧ b < (aa w3 w.heap.size (T.mk 4 0 0 0 0 0 0 l, Av, cv)).heap.size) (((T.mk 4 0 0 0 0 0 0 l, Av, cv) : Nx)).1 (((T.mk 4 0 0 0 0 0 0 l, Av, cv) : Nx)).2.1 (((T.mk 4 0 0 0 0 0 0 l, Av, cv) : Nx)).2.2 := Hnd.out.mono fun k (hk : w.heap.size < k ∧ k < w3.heap.size) => ⟨⟨by omega, by rw [ai]; exact hk.2⟩, fun o => World.cell?_of_block (w := w3) (a := ⟨k, o, none⟩) (af _ _ _ _ (show k ≠ w.heap.size by omega))⟩
          generalize aa w3 w.heap.size (T.mk 4 0 0 0 0 0 0 l, Av, cv) = W3 at *
          exact bodyPost_ret (v := aB (((T.mk 4 0 0 0 0 0 0 l, Av, cv) : Nx)).1 (((T.mk 4 0 0 0 0 0 0 l, Av, cv) : Nx)).2.1 (((T.mk 4 0 0 0 0 0 0 l, Av, cv) : Nx)).2.2) (by simp [results, Tryz.results85, y0, y1, y2, y3, y4, y5, y6, y7, go_sem]) rfl ⟨(T.mk 4 0 0 0 0 0 0 l, Av, cv), kr, _, rfl, hNod, hRS, hOff, by have := Hfin.out; rw [Hj.out] at this; exact this⟩
      · have hres : aI grp (k1 + 1) (ns.map fun x : Nx => x.1) (c :: t) = match aT grp (c :: t) with | .error e => .error e | .ok (n, r1) => aI grp k1 ((ns.map fun x : Nx => x.1) ++ [n]) r1 := by
         rw [aI, lC hc1 hc2]; rfl
        have Hres := hid hres
        have Hc1 := hid hc1
        have Hc2 := hid hc2
        clear hc1 hc2 hres
        go_wp2_with fail
        refine (ef [124] (by simp) (oj Hc1.out) HL.out.S).mono ?_
        rintro en w2 ⟨rfl, h1, hO1⟩
        have HL := hid (HL.out.off hlt hO1 h1)
        clear h1 hO1
        go_wp2_with fail
        refine (ef [41] (by simp) (oj Hc2.out) HL.out.S).mono ?_
        rintro en w3 ⟨rfl, h1, hO1⟩
        have HL := hid (HL.out.off hlt hO1 h1)
        clear h1 hO1 Hc1 Hc2
        have hrow : ∀ g, (Value.slice Av n cv).ownBlock = some g → g < w3.heap.size := fun g hg => (HL.out.own.lt g hg).2
        have hw3 : w.heap.size < w3.heap.size := HL.out.R.lt
        go_wp2_with fail
        refine (HP.out ⟨r, Hsr.out⟩ w3 kr c t HL.out.S).mono ?_
        rintro en w4 ⟨⟨t4, A4, c4⟩, k4, s4, rfl, hx4, h4, hO4, ho4⟩
        have HL := hid (HL.out.off hlt hO4 h4)
        have hz4 := hO4.size
        have Hx4 := hid hx4; have Ho4 := hid ho4
        clear h4 hO4 hx4 ho4
        go_upto_region 4 with fail
        generalize hW : w4.alloc _ = W5
        have hb5 : Below w4.heap.size w4 W5 := by subst hW; exact nal
        have N5 : bj W5 w4.heap.size (ar (t4, A4, c4)).toArray := by subst hW; exact bj.new w4 _
        clear hW
        have HL := hid (HL.out.off hlt (Off.of_below hb5) (HL.out.S.later hb5))
        have HX := hid (show NodeAt W5 (fun b => w.heap.size < b ∧ b < W5.heap.size ∧ b ≠ w.heap.size ∧ some b ≠ (Value.slice Av n cv).ownBlock) t4 A4 c4 from Hx4.out.mono fun b (hb : w3.heap.size ≤ b ∧ b < w4.heap.size) => ⟨⟨by omega, by have := hb5.size; omega, by omega, fun e => by have := hrow b e.symm; omega⟩, fun o => hb5.cell (p := ⟨b, o, none⟩) hb.2⟩)
        obtain ⟨⟨f0, f1, f2, f3, f4, f5, f6, f7⟩, _⟩ := N5.cells8
        have ln5 := N5.lt
        generalize w4.heap.size = b4 at *
        obtain ⟨bx, hbx⟩ : ∃ bx, bx = w.heap.size := ⟨_, rfl⟩
        have HL := hid (show LstQ p St op w bx n ns Av cv k4 s4 W5 by rw [hbx]; exact HL.out)
        have HX := hid (show NodeAt W5 (fun b => w.heap.size < b ∧ b < W5.heap.size ∧ b ≠ bx ∧ some b ≠ (Value.slice Av n cv).ownBlock) t4 A4 c4 by rw [hbx]; exact HX.out)
        have Hbx := hid hbx
        clear hb5 Hx4 N5 hrow hbx
        have hnews : ∀ ad, some (⟨W5.heap.size, 0, none⟩ : Addr) = some ad → ∀ j u, (ar (t4, A4, c4))[j]? = some u → (W5.alloc (.cells (ar (t4, A4, c4)).toArray 48)).cell? (ad.add j) = some u := fun ad e j u hu => by
         simp only [Option.some.injEq] at e
         subst e
         rw [ct, World.cell?_alloc_new, Nat.zero_add]
         simpa using hu
        have Hnews := hid hnews; clear hnews
        have hWb : bx + 1 ≤ W5.heap.size := HL.out.b2
        go_wp2_with (at_builtin; refine au (bx + 1) rfl _ _ 46 48 _ 8 80 rfl Tryz.underlying46 Tryz.infoNodeX rfl (by omega) (by omega) (.slice Av n cv) n 1 (bq ns) (ar (t4, A4, c4)) (some ⟨W5.heap.size, 0, none⟩) 1 rfl rfl (by simp) rfl Hnews.out (cT _) (HL.out.own.alloc _) (by simp; omega) (by omega) (fun A5 c5 w5 ho5 hg5 hat5 => ?_); have HL5 := hid (HL.out.push hlt (t4, A4, c4) HX.out nal ho5 hg5 hat5); clear ho5 hg5 hat5)
        have hcs : s4.rest.length ≤ t.length ∧ ((∃ e, s4 = .error e ∧ (s = .error e ∨ ∃ r, s = .ok r ∧ dL grp r = .error e)) ∨ ∃ r r' k, s = .ok r ∧ s4 = .ok r' ∧ r'.length < k ∧ aI grp (r.length + 1) [] r = aI grp k ((ns ++ [(t4, A4, c4)]).map fun x : Nx => x.1) r') := by
         have hoo := Ho4.out
         cases hpc : aT grp (c :: t) with
         | error e =>
          simp only [Out, hpc] at hoo
          subst hoo
          exact ⟨by simp [Rs.rest], .inl ⟨e, rfl, .inr ⟨r, Hsr.out, by unfold dL; rw [Hpp.out, Hres.out, hpc]⟩⟩⟩
         | ok y =>
          obtain ⟨n', r'⟩ := y
          simp only [Out, hpc] at hoo
          obtain ⟨rfl, rfl⟩ := hoo
          have hl := gM HGl.out hpc
          simp only [List.length_cons] at hl hk
          exact ⟨by simp only [Rs.rest]; omega, .inr ⟨r, r', k1, Hsr.out, rfl, by omega, by rw [Hpp.out, Hres.out, hpc]; simp⟩⟩
        obtain ⟨hl1, hcs⟩ := hcs
        have HCS := hid hcs; clear hcs
        go_roundg (s4.rest.length + 1)
        case measure => have := Hm.out; simp only [Rs.rest, List.length_cons] at this; omega
        case rel => exact ⟨n + 1, _, A5, c5, k4, s4, rfl, rfl, by omega, by have := HL5.out; rw [Hbx.out] at this; exact this, HCS.out⟩
def zw (p : Nat) (St : Bs) (op : Int) (grp : Bs → PT) (s : Rs) (w : World) (bx : Nat) (v : Value) (wr : World) (m : Nat) : Prop :=
 ∃ (n : Nat) (ns : List Nx) (Av : Option Addr) (cv : Nat) (k : Nat) (s' : Rs) (y : Nx), v = .slice Av n cv ∧ 1 ≤ n ∧ m = s'.rest.length + 1 ∧ n + s'.rest.length ≤ 1025 ∧ LstQ p St op w bx n ns Av cv k s' wr ∧ bj wr bx (ar y).toArray ∧ ((∃ e, s' = .error e ∧ (s = .error e ∨ ∃ r, s = .ok r ∧ av grp r = .error e)) ∨ ∃ r r' k, s = .ok r ∧ s' = .ok r' ∧ r'.length < k ∧ av grp r = match bX grp k (ns.map fun x : Nx => x.1) r' with | .error e => .error e | .ok (l, r2) => .ok (bW 5 l, r2))
theorem LstQ.boxOff {p : Nat} {St : Bs} {op : Int} {w : World} {bx n : Nat} {ns : List Nx} {Av : Option Addr} {cv k : Nat} {s : Rs} {wr w1 : World} (h : LstQ p St op w bx n ns Av cv k s wr) (hp : p < w.heap.size) {cs : Array Value} (hb : bj wr bx cs) (hO : Off p wr w1) : bj w1 bx cs := Off.blk hO hb (by have := h.b1; omega)
theorem LstQ.boxPush {p : Nat} {St : Bs} {op : Int} {w : World} {bx n : Nat} {ns : List Nx} {Av : Option Addr} {cv k : Nat} {s : Rs} {W w0 w2 : World} (h : LstQ p St op w bx n ns Av cv k s W) {cs : Array Value} (hb : bj W bx cs) (h0 : Below W.heap.size W w0) (h2 : w0.grownBy w2 (Value.slice Av n cv).ownBlock) : bj w2 bx cs := by
 refine hb.keep ((h2.block bx (Nat.lt_of_lt_of_le h.b2 h0.size) ?_).trans (h0.block bx h.b2))
 intro e
 have := (h.own.lt bx e.symm).1
 omega
theorem mf (w : World) (p : Nat) (St : Bs) (k : Nat) (op : Int) (s : Rs) (h : RQ w p St k op s) (grp : Bs → PT) (hgl : dR grp)
 (hG : (∃ r, s = .ok r) → ∀ (w : World) (k : Nat) (r : Bs), RQ w p St k op (.ok r) → Calls Tryz.prog 135 #[.pointer (some ⟨p, 0, none⟩)] w fun en w' => kx p St op grp (.ok r) w en w') :
 Calls Tryz.prog 64 #[.pointer (some ⟨p, 0, none⟩)] w fun en w' => kx p St op (av grp) s w en w' := by
 have hlt := h.lt
 have hs := h.rest
 have HP := hid (fun (w : World) (k : Nat) (s' : Rs) (h : RQ w p St k op s') (hs' : (∃ r, s' = .ok r) → ∃ r, s = .ok r) => vj w p St k op s' h grp hgl (fun x => hG (hs' x)))
 have H := hid h; have HGl := hid hgl
 clear h hG hgl
 go_enter Tryz.func64, Tryz.ntmps64
 go_upto_region 1 with fail
 generalize hW : w.alloc _ = W0
 have hB0 : Below w.heap.size w W0 := by subst hW; exact nal
 have R0 : bj W0 w.heap.size (ar (.mk 0 0 0 0 0 0 0 [], none, 0)).toArray := by subst hW; exact bj.new w _
 have hz0 : w.heap.size < W0.heap.size := R0.lt
 clear hW
 go_wp2_with fail
 refine (HP.out W0 k s (H.out.later hB0) (fun x => x)).mono ?_
 rintro en w1 ⟨⟨t1, A1, c1⟩, k1, s1, rfl, hx1, h1, hO1, ho1⟩
 have R1 := Off.blk hO1 R0 (by omega)
 have hz1 := hO1.size
 have Hx1 := hid hx1; have Ho1 := hid ho1
 clear hx1 ho1
 go_upto_region 3 with fail
 generalize hW : w1.alloc _ = W2
 have hb2 : Below w1.heap.size w1 W2 := by subst hW; exact nal
 have N2 : bj W2 w1.heap.size (ar (t1, A1, c1)).toArray := by subst hW; exact bj.new w1 _
 have hz2 : w1.heap.size < W2.heap.size := N2.lt
 have HL := hid (show LstQ p St op w w1.heap.size 0 [] none 0 k1 s1 W2 from ⟨rfl, R1.keep (hb2.block _ R1.lt), by omega, hz2, ⟨rfl, .inl ⟨rfl, rfl⟩⟩, fun x hx => by simp at hx, h1.later hb2, ((Off.of_below hB0).trans hO1).trans (Off.of_below hb2)⟩)
 have HX := hid (show NodeAt W2 (fun b => w.heap.size < b ∧ b < W2.heap.size ∧ b ≠ w1.heap.size ∧ some b ≠ (Value.slice none 0 0).ownBlock) t1 A1 c1 from Hx1.out.mono fun b (hb : W0.heap.size ≤ b ∧ b < w1.heap.size) => ⟨⟨by omega, by omega, by omega, by simp [Value.ownBlock]⟩, fun o => hb2.cell (p := ⟨b, o, none⟩) hb.2⟩)
 have hwb : w.heap.size < w1.heap.size := by omega
 obtain ⟨⟨f0, f1, f2, f3, f4, f5, f6, f7⟩, _⟩ := N2.cells8
 have HN := hid N2
 generalize w1.heap.size = bx at *
 have ln2 : bx < W2.heap.size := hz2
 clear hW hb2 N2 R1 R0 hB0 h1 hO1 hz1 hz0 hz2 Hx1 H
 obtain ⟨v0, hv0⟩ : ∃ v0 : Value, v0 = .slice none 0 0 := ⟨_, rfl⟩
 rw [← hv0]
 have Hv0 := hid hv0
 clear hv0
 have hnews : ∀ ad, some (⟨W2.heap.size, 0, none⟩ : Addr) = some ad → ∀ j u, (ar (t1, A1, c1))[j]? = some u → (W2.alloc (.cells (ar (t1, A1, c1)).toArray 48)).cell? (ad.add j) = some u := fun ad e j u hu => by
  simp only [Option.some.injEq] at e
  subst e
  rw [ct, World.cell?_alloc_new, Nat.zero_add]
  simpa using hu
 have Hnews := hid hnews; clear hnews
 have hWb : bx + 1 ≤ W2.heap.size := HL.out.b2
 go_wp2_with (at_builtin; refine au (bx + 1) rfl _ _ 46 48 _ 8 80 rfl Tryz.underlying46 Tryz.infoNodeX rfl (by omega) (by omega) v0 0 1 [] (ar (t1, A1, c1)) (some ⟨W2.heap.size, 0, none⟩) 1 rfl rfl (by simp) rfl Hnews.out (cT _) ⟨rfl, .inl ⟨Hv0.out, rfl⟩⟩ (by simp; omega) (by omega) (fun A5 c5 w5 ho5 hg5 hat5 => ?_); have HL5 := hid (HL.out.push hlt (t1, A1, c1) HX.out nal (by simpa [bq] using ho5) (by rw [Hv0.out] at hg5; exact hg5) (by rw [Hv0.out] at hat5; exact hat5)); have HN5 := hid (HL.out.boxPush HN.out nal (by rw [Hv0.out] at hg5; exact hg5)); clear ho5 hg5 hat5)
 have hI : zw p St op grp s w bx (.slice A5 1 c5) w5 (s1.rest.length + 1) := by
  have hoo := Ho1.out
  have hl1 : s1.rest.length ≤ 1024 ∧ ((∃ e, s1 = .error e ∧ (s = .error e ∨ ∃ r, s = .ok r ∧ av grp r = .error e)) ∨ ∃ r r' k, s = .ok r ∧ s1 = .ok r' ∧ r'.length < k ∧ av grp r = match bX grp k ([(t1, A1, c1)].map fun x : Nx => x.1) r' with | .error e => .error e | .ok (l, r2) => .ok (bW 5 l, r2)) := by
   rcases s with e | r
   · cases (show s1 = .error e from hoo)
     exact ⟨by simp [Rs.rest], .inl ⟨e, rfl, .inl rfl⟩⟩
   · cases hr : dL grp r with
     | error e =>
      simp only [Out, hr] at hoo
      subst hoo
      exact ⟨by simp [Rs.rest], .inl ⟨e, rfl, .inr ⟨r, rfl, by unfold av; rw [hr]⟩⟩⟩
     | ok y =>
      obtain ⟨n', r'⟩ := y
      simp only [Out, hr] at hoo
      obtain ⟨rfl, rfl⟩ := hoo
      have hl := ga HGl.out hr
      simp only [Rs.rest] at hs ⊢
      exact ⟨by omega, .inr ⟨r, r', r'.length + 1, rfl, rfl, by omega, by unfold av; rw [hr]; rfl⟩⟩
  exact ⟨1, [(t1, A1, c1)], A5, c5, k1, s1, (t1, A1, c1), rfl, by omega, rfl, by have := hl1.1; omega, HL5.out, HN5.out, hl1.2⟩
 have HI := hid hI
 clear hI HL HX HN HL5 HN5 Ho1 Hv0 hWb ln2 f0 f1 f2 f3 f4 f5 f6 f7
 try rw [Nat.zero_add]
 go_loopg [3] (s1.rest.length + 1) (fun m v wr => zw p St op grp s w bx v wr m)
 case atStart => exact HI.out
 case round =>
  clear HI
  obtain ⟨n, ns, Av, cv, kr, s', y, rfl, hn1, hm, hnl, hL, hN, hcase⟩ := hrel
  have HL := hid hL; have HN := hid hN; have HC := hid hcase; have Hm := hid hm
  clear hL hcase hm hN
  rcases s' with e | r'
  · have Hfin := hid (show Out (av grp) s (fun t => bW 5 (ns.map fun x : Nx => x.1) = t) (.error e) by
     rcases HC.out with ⟨e', he, hs⟩ | ⟨r, r', k, _, he, _⟩
     · cases he
       rcases hs with rfl | ⟨r, rfl, hr⟩
       · exact Out.err
       · exact Out.bad hr
     · cases he)
    clear HC Hm
    go_wp2_with fail
    refine (eC [124] (by simp) HL.out.S).mono ?_
    rintro en W6 ⟨rfl, ⟨k6, h2⟩, hO2⟩
    have HL := hid (HL.out.off hlt hO2 h2)
    clear h2 hO2
    have hn3 : n = 1 ∨ 2 ≤ n := by omega
    rcases hn3 with rfl | hn2
    · obtain ⟨g, ⟨t1, A1, c1⟩, rfl, hx, h8, hg, hcv, hnd⟩ := HL.out.first (by omega)
      have hj : bW 5 (ns.map fun x : Nx => x.1) = t1 := by
       have hl := HL.out.len
       match ns, hl, hx with
       | [y], _, hx => simp at hx; subst hx; rfl
      have Hj := hid hj; have Hnd := hid hnd
      obtain ⟨f0, f1, f2, f3, f4, f5, f6, f7⟩ := h8
      simp only [Nat.zero_add] at f1 f2 f3 f4 f5 f6 f7
      clear hj hnd hx
      obtain ⟨⟨r0, r1, r2, r3, r4, r5, r6, r7⟩, hz⟩ := HL.out.R.cells8
      obtain ⟨z0, z1, z2, z3, z4, z5, z6, z7⟩ := cM hz
      have lr := HL.out.R.lt
      clear hz
      go_wp2_with fail
      change bodyPost _ _ _ _ _ (aa W6 w.heap.size (t1, A1, c1))
      have hfn := ac HL.out.R (t1, A1, c1)
      obtain ⟨⟨y0, y1, y2, y3, y4, y5, y6, y7⟩, _⟩ := hfn.cells8
      have hRS := HL.out.S.boxX (b := w.heap.size) (by omega) (t1, A1, c1)
      have hOff := Off.boxW HL.out.O (Nat.le_refl _) (t1, A1, c1)
      have hNod : NodeAt (aa W6 w.heap.size (t1, A1, c1)) (fun b => w.heap.size ≤ b ∧ b < (aa W6 w.heap.size (t1, A1, c1)).heap.size) (((t1, A1, c1) : Nx)).1 (((t1, A1, c1) : Nx)).2.1 (((t1, A1, c1) : Nx)).2.2 := Hnd.out.mono fun k (hk : w.heap.size < k ∧ k < W6.heap.size) => ⟨⟨by omega, by rw [ai]; exact hk.2⟩, fun o => World.cell?_of_block (w := W6) (a := ⟨k, o, none⟩) (af _ _ _ _ (show k ≠ w.heap.size by omega))⟩
      generalize aa W6 w.heap.size (t1, A1, c1) = W3 at *
      exact bodyPost_ret (v := aB (((t1, A1, c1) : Nx)).1 (((t1, A1, c1) : Nx)).2.1 (((t1, A1, c1) : Nx)).2.2) (by simp [results, Tryz.results64, y0, y1, y2, y3, y4, y5, y6, y7, go_sem]) rfl ⟨(t1, A1, c1), k6, _, rfl, hNod, hRS, hOff, by have := Hfin.out; rw [Hj.out] at this; exact this⟩
    · obtain rfl : n = (ns.map fun x : Nx => x.1).length := by simp [HL.out.len]
      have hnd := HL.out.node (by omega) (by omega) (.mk 5 0 0 0 0 0 0 (ns.map fun x : Nx => x.1)) rfl
      have hj : bW 5 (ns.map fun x : Nx => x.1) = .mk 5 0 0 0 0 0 0 (ns.map fun x : Nx => x.1) := by
       generalize ns.map (fun x : Nx => x.1) = l at hn2
       match l, hn2 with
       | a :: b :: l, _ => rfl
      have hb0 : (((ns.map fun x : Nx => x.1).length : Int) == 0) = false := by rw [beq_eq_false_iff_ne]; omega
      have hb1 : (((ns.map fun x : Nx => x.1).length : Int) == 1) = false := by rw [beq_eq_false_iff_ne]; omega
      have Hj := hid hj; have Hnd := hid hnd
      clear hj hnd
      generalize hl : (ns.map fun x : Nx => x.1) = l at *
      obtain ⟨⟨r0, r1, r2, r3, r4, r5, r6, r7⟩, hz⟩ := HL.out.R.cells8
      obtain ⟨z0, z1, z2, z3, z4, z5, z6, z7⟩ := cM hz
      have lr := HL.out.R.lt
      clear hz
      go_wp2_with fail
      change bodyPost _ _ _ _ _ (aa W6 w.heap.size (T.mk 5 0 0 0 0 0 0 l, Av, cv))
      have hfn := ac HL.out.R (T.mk 5 0 0 0 0 0 0 l, Av, cv)
      obtain ⟨⟨y0, y1, y2, y3, y4, y5, y6, y7⟩, _⟩ := hfn.cells8
      have hRS := HL.out.S.boxX (b := w.heap.size) (by omega) (T.mk 5 0 0 0 0 0 0 l, Av, cv)
      have hOff := Off.boxW HL.out.O (Nat.le_refl _) (T.mk 5 0 0 0 0 0 0 l, Av, cv)
      have hNod : NodeAt (aa W6 w.heap.size (T.mk 5 0 0 0 0 0 0 l, Av, cv)) (fun b => w.heap.size ≤ b ∧ b < (aa W6 w.heap.size (T.mk 5 0 0 0 0 0 0 l, Av, cv)).heap.size) (((T.mk 5 0 0 0 0 0 0 l, Av, cv) : Nx)).1 (((T.mk 5 0 0 0 0 0 0 l, Av, cv) : Nx)).2.1 (((T.mk 5 0 0 0 0 0 0 l, Av, cv) : Nx)).2.2 := Hnd.out.mono fun k (hk : w.heap.size < k ∧ k < W6.heap.size) => ⟨⟨by omega, by rw [ai]; exact hk.2⟩, fun o => World.cell?_of_block (w := W6) (a := ⟨k, o, none⟩) (af _ _ _ _ (show k ≠ w.heap.size by omega))⟩
      generalize aa W6 w.heap.size (T.mk 5 0 0 0 0 0 0 l, Av, cv) = W3 at *
      exact bodyPost_ret (v := aB (((T.mk 5 0 0 0 0 0 0 l, Av, cv) : Nx)).1 (((T.mk 5 0 0 0 0 0 0 l, Av, cv) : Nx)).2.1 (((T.mk 5 0 0 0 0 0 0 l, Av, cv) : Nx)).2.2) (by simp [results, Tryz.results64, y0, y1, y2, y3, y4, y5, y6, y7, go_sem]) rfl ⟨(T.mk 5 0 0 0 0 0 0 l, Av, cv), k6, _, rfl, hNod, hRS, hOff, by have := Hfin.out; rw [Hj.out] at this; exact this⟩
  · obtain ⟨r, k, hsr, hk, hpp⟩ : ∃ r k, s = .ok r ∧ r'.length < k + 1 ∧ av grp r = match bX grp (k + 1) (ns.map fun x : Nx => x.1) r' with | .error e => .error e | .ok (l, r2) => .ok (bW 5 l, r2) := by
     rcases HC.out with ⟨e', he, _⟩ | ⟨r, r2, k, hs, he, hk, hpp⟩
     · cases he
     · cases he
       obtain ⟨k', rfl⟩ : ∃ k', k = k' + 1 := ⟨k - 1, by omega⟩
       exact ⟨r, k', hs, hk, hpp⟩
    have Hpp := hid hpp; have Hsr := hid hsr
    clear hpp hsr HC
    rcases ht : aq [124] r' with _ | r2
    · have Hfin := hid (show Out (av grp) s (fun t => bW 5 (ns.map fun x : Nx => x.1) = t) (.ok r') by
       rw [Hsr.out]
       refine Out.good (x := bW 5 (ns.map fun x : Nx => x.1)) ?_ rfl
       rw [Hpp.out, bX, ht])
      have Ht := hid ht; clear ht Hm
      go_wp2_with fail
      refine (bh [124] (by simp) Ht.out HL.out.S).mono ?_
      rintro en W6 ⟨rfl, ⟨k6, h2⟩, hO2⟩
      have HL := hid (HL.out.off hlt hO2 h2)
      clear h2 hO2
      have hn3 : n = 1 ∨ 2 ≤ n := by omega
      rcases hn3 with rfl | hn2
      · obtain ⟨g, ⟨t1, A1, c1⟩, rfl, hx, h8, hg, hcv, hnd⟩ := HL.out.first (by omega)
        have hj : bW 5 (ns.map fun x : Nx => x.1) = t1 := by
         have hl := HL.out.len
         match ns, hl, hx with
         | [y], _, hx => simp at hx; subst hx; rfl
        have Hj := hid hj; have Hnd := hid hnd
        obtain ⟨f0, f1, f2, f3, f4, f5, f6, f7⟩ := h8
        simp only [Nat.zero_add] at f1 f2 f3 f4 f5 f6 f7
        clear hj hnd hx
        obtain ⟨⟨r0, r1, r2, r3, r4, r5, r6, r7⟩, hz⟩ := HL.out.R.cells8
        obtain ⟨z0, z1, z2, z3, z4, z5, z6, z7⟩ := cM hz
        have lr := HL.out.R.lt
        clear hz
        go_wp2_with fail
        change bodyPost _ _ _ _ _ (aa W6 w.heap.size (t1, A1, c1))
        have hfn := ac HL.out.R (t1, A1, c1)
        obtain ⟨⟨y0, y1, y2, y3, y4, y5, y6, y7⟩, _⟩ := hfn.cells8
        have hRS := HL.out.S.boxX (b := w.heap.size) (by omega) (t1, A1, c1)
        have hOff := Off.boxW HL.out.O (Nat.le_refl _) (t1, A1, c1)
        have hNod : NodeAt (aa W6 w.heap.size (t1, A1, c1)) (fun b => w.heap.size ≤ b ∧ b < (aa W6 w.heap.size (t1, A1, c1)).heap.size) (((t1, A1, c1) : Nx)).1 (((t1, A1, c1) : Nx)).2.1 (((t1, A1, c1) : Nx)).2.2 := Hnd.out.mono fun k (hk : w.heap.size < k ∧ k < W6.heap.size) => ⟨⟨by omega, by rw [ai]; exact hk.2⟩, fun o => World.cell?_of_block (w := W6) (a := ⟨k, o, none⟩) (af _ _ _ _ (show k ≠ w.heap.size by omega))⟩
        generalize aa W6 w.heap.size (t1, A1, c1) = W3 at *
        exact bodyPost_ret (v := aB (((t1, A1, c1) : Nx)).1 (((t1, A1, c1) : Nx)).2.1 (((t1, A1, c1) : Nx)).2.2) (by simp [results, Tryz.results64, y0, y1, y2, y3, y4, y5, y6, y7, go_sem]) rfl ⟨(t1, A1, c1), k6, _, rfl, hNod, hRS, hOff, by have := Hfin.out; rw [Hj.out] at this; exact this⟩
      · obtain rfl : n = (ns.map fun x : Nx => x.1).length := by simp [HL.out.len]
        have hnd := HL.out.node (by omega) (by omega) (.mk 5 0 0 0 0 0 0 (ns.map fun x : Nx => x.1)) rfl
        have hj : bW 5 (ns.map fun x : Nx => x.1) = .mk 5 0 0 0 0 0 0 (ns.map fun x : Nx => x.1) := by
         generalize ns.map (fun x : Nx => x.1) = l at hn2
         match l, hn2 with
         | a :: b :: l, _ => rfl
        have hb0 : (((ns.map fun x : Nx => x.1).length : Int) == 0) = false := by rw [beq_eq_false_iff_ne]; omega
        have hb1 : (((ns.map fun x : Nx => x.1).length : Int) == 1) = false := by rw [beq_eq_false_iff_ne]; omega
        have Hj := hid hj; have Hnd := hid hnd
        clear hj hnd
        generalize hl : (ns.map fun x : Nx => x.1) = l at *
        obtain ⟨⟨r0, r1, r2, r3, r4, r5, r6, r7⟩, hz⟩ := HL.out.R.cells8
        obtain ⟨z0, z1, z2, z3, z4, z5, z6, z7⟩ := cM hz
        have lr := HL.out.R.lt
        clear hz
        go_wp2_with fail
        change bodyPost _ _ _ _ _ (aa W6 w.heap.size (T.mk 5 0 0 0 0 0 0 l, Av, cv))
        have hfn := ac HL.out.R (T.mk 5 0 0 0 0 0 0 l, Av, cv)
        obtain ⟨⟨y0, y1, y2, y3, y4, y5, y6, y7⟩, _⟩ := hfn.cells8
        have hRS := HL.out.S.boxX (b := w.heap.size) (by omega) (T.mk 5 0 0 0 0 0 0 l, Av, cv)
        have hOff := Off.boxW HL.out.O (Nat.le_refl _) (T.mk 5 0 0 0 0 0 0 l, Av, cv)
        have hNod : NodeAt (aa W6 w.heap.size (T.mk 5 0 0 0 0 0 0 l, Av, cv)) (fun b => w.heap.size ≤ b ∧ b < (aa W6 w.heap.size (T.mk 5 0 0 0 0 0 0 l, Av, cv)).heap.size) (((T.mk 5 0 0 0 0 0 0 l, Av, cv) : Nx)).1 (((T.mk 5 0 0 0 0 0 0 l, Av, cv) : Nx)).2.1 (((T.mk 5 0 0 0 0 0 0 l, Av, cv) : Nx)).2.2 := Hnd.out.mono fun k (hk : w.heap.size < k ∧ k < W6.heap.size) => ⟨⟨by omega, by rw [ai]; exact hk.2⟩, fun o => World.cell?_of_block (w := W6) (a := ⟨k, o, none⟩) (af _ _ _ _ (show k ≠ w.heap.size by omega))⟩
        generalize aa W6 w.heap.size (T.mk 5 0 0 0 0 0 0 l, Av, cv) = W3 at *
        exact bodyPost_ret (v := aB (((T.mk 5 0 0 0 0 0 0 l, Av, cv) : Nx)).1 (((T.mk 5 0 0 0 0 0 0 l, Av, cv) : Nx)).2.1 (((T.mk 5 0 0 0 0 0 0 l, Av, cv) : Nx)).2.2) (by simp [results, Tryz.results64, y0, y1, y2, y3, y4, y5, y6, y7, go_sem]) rfl ⟨(T.mk 5 0 0 0 0 0 0 l, Av, cv), k6, _, rfl, hNod, hRS, hOff, by have := Hfin.out; rw [Hj.out] at this; exact this⟩
    · have hres : bX grp (k + 1) (ns.map fun x : Nx => x.1) r' = match dL grp r2 with | .error e => .error e | .ok (n, r1) => bX grp k ((ns.map fun x : Nx => x.1) ++ [n]) r1 := by
       rw [bX, ht]; rfl
      have hl := am ht
      simp only [List.length_cons, List.length_nil] at hl
      simp only [Rs.rest] at hnl
      have Hres := hid hres; have Ht := hid ht; clear hres ht
      go_wp2_with fail
      refine (cE [124] (by simp) Ht.out HL.out.S).mono ?_
      rintro en W6 ⟨rfl, ⟨k6, h2⟩, hO2⟩
      have HN := hid (HL.out.boxOff hlt HN.out hO2)
      have HL := hid (HL.out.off hlt hO2 h2)
      clear h2 hO2
      have hrow : ∀ g, (Value.slice Av n cv).ownBlock = some g → g < W6.heap.size := fun g hg => (HL.out.own.lt g hg).2
      have hw6 : bx < W6.heap.size := HL.out.b2
      go_wp2_with fail
      refine (HP.out W6 k6 (.ok r2) HL.out.S (fun _ => ⟨r, Hsr.out⟩)).mono ?_
      rintro en w3 ⟨⟨t3, A3, c3⟩, k3, s3, rfl, hx3, h3, hO3, ho3⟩
      have HN := hid (HL.out.boxOff hlt HN.out hO3)
      have HL := hid (HL.out.off hlt hO3 h3)
      have hz3 := hO3.size
      have Hx3 := hid hx3; have Ho3 := hid ho3
      clear hx3 ho3 hO3 h3
      obtain ⟨⟨r0, r1, r2_, r3, r4, r5, r6, r7⟩, hz⟩ := HN.out.cells8
      obtain ⟨z0, z1, z2, z3, z4, z5, z6, z7⟩ := cM hz
      have lr := HN.out.lt
      clear hz
      go_upto_region 6 with fail
      have hNy := ac HN.out (t3, A3, c3)
      have hLy := HL.out.box hlt hwb (t3, A3, c3)
      have hXy : NodeAt (aa w3 bx (t3, A3, c3)) (fun b => w.heap.size < b ∧ b < (aa w3 bx (t3, A3, c3)).heap.size ∧ b ≠ bx ∧ some b ≠ (Value.slice Av n cv).ownBlock) t3 A3 c3 := Hx3.out.mono fun b (hb : W6.heap.size ≤ b ∧ b < w3.heap.size) => ⟨⟨by omega, by rw [ai]; exact hb.2, by omega, fun e => by have := hrow b e.symm; omega⟩, fun o => World.cell?_of_block (w := w3) (a := ⟨b, o, none⟩) (af _ _ _ _ (show b ≠ bx by omega))⟩
      change Code.wp _ _ _ _ (aa w3 bx (t3, A3, c3))
      have HN := hid hNy; have HL := hid hLy; have HX := hid hXy
      clear hNy hLy hXy Hx3 z0 z1 z2 z3 z4 z5 z6 z7 r0 r1 r2_ r3 r4 r5 r6 r7 lr hrow
      generalize aa w3 bx (t3, A3, c3) = W5 at *
      obtain ⟨⟨f0, f1, f2, f3, f4, f5, f6, f7⟩, _⟩ := HN.out.cells8
      have ln5 := HN.out.lt
      have hnews : ∀ ad, some (⟨W5.heap.size, 0, none⟩ : Addr) = some ad → ∀ j u, (ar (t3, A3, c3))[j]? = some u → (W5.alloc (.cells (ar (t3, A3, c3)).toArray 48)).cell? (ad.add j) = some u := fun ad e j u hu => by
       simp only [Option.some.injEq] at e
       subst e
       rw [ct, World.cell?_alloc_new, Nat.zero_add]
       simpa using hu
      have Hnews := hid hnews; clear hnews
      have hWb : bx + 1 ≤ W5.heap.size := HL.out.b2
      go_wp2_with (at_builtin; refine au (bx + 1) rfl _ _ 46 48 _ 8 80 rfl Tryz.underlying46 Tryz.infoNodeX rfl (by omega) (by omega) (.slice Av n cv) n 1 (bq ns) (ar (t3, A3, c3)) (some ⟨W5.heap.size, 0, none⟩) 1 rfl rfl (by simp) rfl Hnews.out (cT _) (HL.out.own.alloc _) (by simp; omega) (by omega) (fun A5 c5 w5 ho5 hg5 hat5 => ?_); have HL5 := hid (HL.out.push hlt (t3, A3, c3) HX.out nal ho5 hg5 hat5); have HN5 := hid (HL.out.boxPush HN.out nal hg5); clear ho5 hg5 hat5)
      have hcs : s3.rest.length ≤ r2.length ∧ ((∃ e, s3 = .error e ∧ (s = .error e ∨ ∃ r, s = .ok r ∧ av grp r = .error e)) ∨ ∃ r r' k, s = .ok r ∧ s3 = .ok r' ∧ r'.length < k ∧ av grp r = match bX grp k ((ns ++ [(t3, A3, c3)]).map fun x : Nx => x.1) r' with | .error e => .error e | .ok (l, r2) => .ok (bW 5 l, r2)) := by
       have hoo := Ho3.out
       cases hpc : dL grp r2 with
       | error e =>
        simp only [Out, hpc] at hoo
        subst hoo
        exact ⟨by simp [Rs.rest], .inl ⟨e, rfl, .inr ⟨r, Hsr.out, by rw [Hpp.out, Hres.out, hpc]⟩⟩⟩
       | ok y =>
        obtain ⟨n', r3⟩ := y
        simp only [Out, hpc] at hoo
        obtain ⟨rfl, rfl⟩ := hoo
        have hl3 := ga HGl.out hpc
        exact ⟨by simp only [Rs.rest]; omega, .inr ⟨r, r3, k, Hsr.out, rfl, by omega, by rw [Hpp.out, Hres.out, hpc]; simp⟩⟩
      obtain ⟨hl1, hcs⟩ := hcs
      have HCS := hid hcs; clear hcs
      go_roundg (s3.rest.length + 1)
      case measure => have := Hm.out; simp only [Rs.rest] at this; omega
      case rel => exact ⟨n + 1, _, A5, c5, k3, s3, _, rfl, by omega, rfl, by omega, HL5.out, HN5.out, HCS.out⟩
theorem qX (p : Nat) (St : Bs) : ∀ (d : Nat) (op : Int) (hop : op + d = 64) (h0 : 0 ≤ op) (w : World) (k : Nat) (r : Bs), RQ w p St k op (.ok r) →
 Calls Tryz.prog 135 #[.pointer (some ⟨p, 0, none⟩)] w fun en w' => kx p St op (aE d) (.ok r) w en w' := by
 intro d
 induction d with
 | zero =>
  intro op hop h0 w k r h
  have hlt := h.lt
  have H := hid h
  have hop1 : op = 64 := by omega
  have hgt : (64 : Int) < op + 1 := by omega
  have hopb : op ≤ 64 := by omega
  clear h hop hop1
  go_enter Tryz.func135, Tryz.ntmps135
  go_upto_region 1 with fail
  generalize hW : w.alloc _ = W0
  have hB0 : Below w.heap.size w W0 := by subst hW; exact nal
  have R0 : bj W0 w.heap.size (ar (.mk 0 0 0 0 0 0 0 [], none, 0)).toArray := by subst hW; exact bj.new w _
  clear hW
  have h0 := H.out.later hB0
  have c2 := h0.rdr.c2
  have zz2 := h0.rdr.z 2
  have H0 := hid h0
  clear h0
  go_upto_region 2 with fail
  have hR : RQ (W0.setCell ⟨p, 2, none⟩ (.int .i64 (op + 1))) p St k (op + 1) (.ok r) := ⟨H0.out.rdr.set2 (op + 1), H0.out.ok, H0.out.ne⟩
  have hO := (Off.refl p W0).set 2 (.int .i64 (op + 1))
  change Code.wp _ _ _ _ (W0.setCell ⟨p, 2, none⟩ (.int .i64 (op + 1)))
  generalize W0.setCell ⟨p, 2, none⟩ (.int .i64 (op + 1)) = W1 at *
  clear c2 zz2
  have HNr := hid (Off.blk hO R0 (by omega))
  have HOr := hid ((Off.of_below hB0).trans hO)
  have HRr := hid hR
  clear hO hR R0 hB0 H0 H
  have c2 := HRr.out.rdr.c2
  have lw1 := HNr.out.lt
  go_wp2_with fail
  refine (bS 3 (by omega) HRr.out).mono ?_
  rintro en w2 ⟨rfl, hR, hO⟩
  clear c2
  have hz2 := hO.size
  have HNr := hid (Off.blk hO HNr.out (by omega))
  have HOr := hid (HOr.out.trans hO)
  have HRr := hid hR
  clear hO hR
  have lw2 := HNr.out.lt
  go_wp2_with fail
  refine (mf w2 p St k (op + 1) (.error 3) HRr.out (aE 0) (dG 0) (fun hh => by obtain ⟨_, hh⟩ := hh; cases hh)).mono ?_
  rintro en w3 ⟨⟨t, A, c⟩, k3, s3, rfl, hx, hR, hO, ho⟩
  cases (show s3 = .error 3 from ho)
  have Hout := hid (show Out (aE 0) (.ok r) (fun u => ((t, A, c) : Nx).1 = u) (.error 3) from Out.bad rfl)
  clear ho
  have hzz := hO.size
  have HNr := hid (Off.blk hO HNr.out (by omega))
  have HOr := hid (HOr.out.trans hO)
  have HRr := hid hR
  have Hx := hid hx
  clear hO hR hx
  go_upto_region 5 with fail
  generalize hW : w3.alloc _ = W5
  have hb5 : Below w3.heap.size w3 W5 := by subst hW; exact nal
  have HBx := hid (show bj W5 w3.heap.size (ar (t, A, c)).toArray by subst hW; exact bj.new w3 _)
  clear hW
  have HX := hid (Hx.out.mono (w' := W5) (ok' := fun b => w.heap.size < b ∧ b < w3.heap.size) fun b hb => ⟨⟨by have := hb.1; omega, hb.2⟩, fun o => hb5.cell (p := ⟨b, o, none⟩) hb.2⟩)
  have HNr := hid (HNr.out.keep (hb5.block _ HNr.out.lt))
  have HOr := hid (HOr.out.trans (Off.of_below hb5))
  have HRr := hid (HRr.out.later hb5)
  have hbn : w.heap.size < w3.heap.size := by omega
  clear hb5 Hx hzz
  generalize w3.heap.size = bn at *
  have lbn := HBx.out.lt
  have c3 := HRr.out.rdr.c3
  simp only [Rs.no] at c3
  have hb0 : ((3 : Int) == 0) = false := by decide
  go_upto_region 7 with fail
  clear c3 hb0
  have c2 := HRr.out.rdr.c2
  have zz2 := HRr.out.rdr.z 2
  have lp := HRr.out.lt
  go_upto_region 8 with fail
  try rw [show op + 1 - 1 = op by omega]
  have hR : RQ (W5.setCell ⟨p, 2, none⟩ (.int .i64 op)) p St k3 op (.error 3) := ⟨HRr.out.rdr.set2 op, HRr.out.ok, HRr.out.ne⟩
  have hO := (Off.refl p W5).set 2 (.int .i64 op)
  change Code.wp _ _ _ _ (W5.setCell ⟨p, 2, none⟩ (.int .i64 op))
  generalize W5.setCell ⟨p, 2, none⟩ (.int .i64 op) = WA at *
  clear c2 zz2 lp
  have HX := hid (HX.out.mono (w' := WA) (ok' := fun b => w.heap.size < b ∧ b < bn) fun b (hb : w.heap.size < b ∧ b < bn) => ⟨hb, fun o => Off.cell hO (by omega) (by omega)⟩)
  have HBx := hid (Off.blk hO HBx.out (by omega))
  have HNr := hid (Off.blk hO HNr.out (by omega))
  have HOr := hid (HOr.out.trans hO)
  have HRr := hid hR
  clear hO hR
  obtain ⟨⟨f0, f1, f2, f3, f4, f5, f6, f7⟩, _⟩ := HBx.out.cells8
  have ln := HBx.out.lt
  obtain ⟨⟨r0, r1_, r2_, r3, r4, r5, r6, r7⟩, hz⟩ := HNr.out.cells8
  obtain ⟨z0, z1, z2, z3, z4, z5, z6, z7⟩ := cM hz
  have lr := HNr.out.lt
  clear hz
  go_wp2_with fail
  change bodyPost _ _ _ _ _ (aa WA w.heap.size (t, A, c))
  have hfin := ac HNr.out (t, A, c)
  obtain ⟨⟨y0, y1, y2, y3, y4, y5, y6, y7⟩, _⟩ := hfin.cells8
  have hRS := HRr.out.boxX (b := w.heap.size) (by omega) (t, A, c)
  have hOff := Off.boxW HOr.out (Nat.le_refl _) (t, A, c)
  have hNod : NodeAt (aa WA w.heap.size (t, A, c)) (fun b => w.heap.size ≤ b ∧ b < (aa WA w.heap.size (t, A, c)).heap.size) t A c := HX.out.mono fun k (hk : w.heap.size < k ∧ k < bn) => ⟨⟨by omega, by rw [ai]; omega⟩, fun o => World.cell?_of_block (w := WA) (a := ⟨k, o, none⟩) (af _ _ _ _ (show k ≠ w.heap.size by omega))⟩
  generalize aa WA w.heap.size (t, A, c) = W9 at *
  exact bodyPost_ret (v := aB t A c) (by simp [results, Tryz.results135, y0, y1, y2, y3, y4, y5, y6, y7, go_sem]) rfl ⟨(t, A, c), k3, (.error 3), rfl, hNod, hRS, hOff, Hout.out⟩
 | succ d ih =>
  intro op hop h0 w k r h
  have hlt := h.lt
  have H := hid h
  have hgt : decide ((64 : Int) < op + 1) = false := by rw [decide_eq_false_iff_not]; omega
  have hgt2 : op + 1 ≤ 64 := by omega
  have hopb : op ≤ 64 := by omega
  have HCH := hid (fun (w : World) (k : Nat) (h : RQ w p St k (op + 1) (.ok r)) => mf w p St k (op + 1) (.ok r) h (aE d) (dG d) (fun _ w k r h => ih (op + 1) (by omega) (by omega) w k r h))
  clear h hop ih
  go_enter Tryz.func135, Tryz.ntmps135
  go_upto_region 1 with fail
  generalize hW : w.alloc _ = W0
  have hB0 : Below w.heap.size w W0 := by subst hW; exact nal
  have R0 : bj W0 w.heap.size (ar (.mk 0 0 0 0 0 0 0 [], none, 0)).toArray := by subst hW; exact bj.new w _
  clear hW
  have h0 := H.out.later hB0
  have c2 := h0.rdr.c2
  have zz2 := h0.rdr.z 2
  have H0 := hid h0
  clear h0
  go_upto_region 2 with fail
  have hR : RQ (W0.setCell ⟨p, 2, none⟩ (.int .i64 (op + 1))) p St k (op + 1) (.ok r) := ⟨H0.out.rdr.set2 (op + 1), H0.out.ok, H0.out.ne⟩
  have hO := (Off.refl p W0).set 2 (.int .i64 (op + 1))
  change Code.wp _ _ _ _ (W0.setCell ⟨p, 2, none⟩ (.int .i64 (op + 1)))
  generalize W0.setCell ⟨p, 2, none⟩ (.int .i64 (op + 1)) = W1 at *
  clear c2 zz2
  have HNr := hid (Off.blk hO R0 (by omega))
  have HOr := hid ((Off.of_below hB0).trans hO)
  have HRr := hid hR
  clear hO hR R0 hB0 H0 H
  have c2 := HRr.out.rdr.c2
  have lw1 := HNr.out.lt
  go_wp2_with fail
  refine (HCH.out W1 k HRr.out).mono ?_
  rintro en w3 ⟨⟨t, A, c⟩, k3, s3, rfl, hx, hR, hO, ho⟩
  have Ho := hid ho
  clear c2 ho
  have hzz := hO.size
  have HNr := hid (Off.blk hO HNr.out (by omega))
  have HOr := hid (HOr.out.trans hO)
  have HRr := hid hR
  have Hx := hid hx
  clear hO hR hx
  go_upto_region 5 with fail
  generalize hW : w3.alloc _ = W5
  have hb5 : Below w3.heap.size w3 W5 := by subst hW; exact nal
  have HBx := hid (show bj W5 w3.heap.size (ar (t, A, c)).toArray by subst hW; exact bj.new w3 _)
  clear hW
  have HX := hid (Hx.out.mono (w' := W5) (ok' := fun b => w.heap.size < b ∧ b < w3.heap.size) fun b hb => ⟨⟨by have := hb.1; omega, hb.2⟩, fun o => hb5.cell (p := ⟨b, o, none⟩) hb.2⟩)
  have HNr := hid (HNr.out.keep (hb5.block _ HNr.out.lt))
  have HOr := hid (HOr.out.trans (Off.of_below hb5))
  have HRr := hid (HRr.out.later hb5)
  have hbn : w.heap.size < w3.heap.size := by omega
  clear hb5 Hx hzz
  generalize w3.heap.size = bn at *
  have lbn := HBx.out.lt
  have c3 := HRr.out.rdr.c3
  cases s3 with
  | error e =>
   have hne := HRr.out.ne e rfl
   have hb0 : (e == 0) = false := by rw [beq_eq_false_iff_ne]; exact hne
   have Hout := hid (show Out (aE (d + 1)) (.ok r) (fun u => ((t, A, c) : Nx).1 = u) (.error e) from Out.bad (by rw [aE, ff Ho.out]))
   simp only [Rs.no] at c3
   clear hne Ho
   go_upto_region 7 with fail
   clear c3 hb0
   have c2 := HRr.out.rdr.c2
   have zz2 := HRr.out.rdr.z 2
   have lp := HRr.out.lt
   go_upto_region 8 with fail
   try rw [show op + 1 - 1 = op by omega]
   have hR : RQ (W5.setCell ⟨p, 2, none⟩ (.int .i64 op)) p St k3 op (.error e) := ⟨HRr.out.rdr.set2 op, HRr.out.ok, HRr.out.ne⟩
   have hO := (Off.refl p W5).set 2 (.int .i64 op)
   change Code.wp _ _ _ _ (W5.setCell ⟨p, 2, none⟩ (.int .i64 op))
   generalize W5.setCell ⟨p, 2, none⟩ (.int .i64 op) = WA at *
   clear c2 zz2 lp
   have HX := hid (HX.out.mono (w' := WA) (ok' := fun b => w.heap.size < b ∧ b < bn) fun b (hb : w.heap.size < b ∧ b < bn) => ⟨hb, fun o => Off.cell hO (by omega) (by omega)⟩)
   have HBx := hid (Off.blk hO HBx.out (by omega))
   have HNr := hid (Off.blk hO HNr.out (by omega))
   have HOr := hid (HOr.out.trans hO)
   have HRr := hid hR
   clear hO hR
   obtain ⟨⟨f0, f1, f2, f3, f4, f5, f6, f7⟩, _⟩ := HBx.out.cells8
   have ln := HBx.out.lt
   obtain ⟨⟨r0, r1_, r2_, r3, r4, r5, r6, r7⟩, hz⟩ := HNr.out.cells8
   obtain ⟨z0, z1, z2, z3, z4, z5, z6, z7⟩ := cM hz
   have lr := HNr.out.lt
   clear hz
   go_wp2_with fail
   change bodyPost _ _ _ _ _ (aa WA w.heap.size (t, A, c))
   have hfin := ac HNr.out (t, A, c)
   obtain ⟨⟨y0, y1, y2, y3, y4, y5, y6, y7⟩, _⟩ := hfin.cells8
   have hRS := HRr.out.boxX (b := w.heap.size) (by omega) (t, A, c)
   have hOff := Off.boxW HOr.out (Nat.le_refl _) (t, A, c)
   have hNod : NodeAt (aa WA w.heap.size (t, A, c)) (fun b => w.heap.size ≤ b ∧ b < (aa WA w.heap.size (t, A, c)).heap.size) t A c := HX.out.mono fun k (hk : w.heap.size < k ∧ k < bn) => ⟨⟨by omega, by rw [ai]; omega⟩, fun o => World.cell?_of_block (w := WA) (a := ⟨k, o, none⟩) (af _ _ _ _ (show k ≠ w.heap.size by omega))⟩
   generalize aa WA w.heap.size (t, A, c) = W9 at *
   exact bodyPost_ret (v := aB t A c) (by simp [results, Tryz.results135, y0, y1, y2, y3, y4, y5, y6, y7, go_sem]) rfl ⟨(t, A, c), k3, (.error e), rfl, hNod, hRS, hOff, Hout.out⟩
  | ok r3 =>
   have hcc : av (aE d) r = .ok (t, r3) := by
    obtain ⟨x, hx, hv⟩ := eh Ho.out
    have hv' : t = x := hv
    rw [hx, hv']
   have Hcc := hid hcc
   simp only [Rs.no] at c3
   clear Ho hcc
   rcases ht : aq [41] r3 with _ | rr4
   · have Hout := hid (show Out (aE (d + 1)) (.ok r) (fun u => ((t, A, c) : Nx).1 = u) (.error 100) from Out.bad (by rw [aE, Hcc.out]; simp only [ht]))
     have Ht := hid ht; clear ht
     go_wp2_with fail
     refine (bh [41] (by simp) Ht.out HRr.out).mono ?_
     rintro en w6 ⟨rfl, ⟨k6, hR⟩, hO⟩
     clear c3
     have HX := hid (HX.out.mono (w' := w6) (ok' := fun b => w.heap.size < b ∧ b < bn) fun b (hb : w.heap.size < b ∧ b < bn) => ⟨hb, fun o => Off.cell hO (by omega) (by omega)⟩)
     have HBx := hid (Off.blk hO HBx.out (by omega))
     have HNr := hid (Off.blk hO HNr.out (by omega))
     have HOr := hid (HOr.out.trans hO)
     have HRr := hid hR
     have lbn := HBx.out.lt
     clear hO hR
     go_wp2_with fail
     refine (bS 100 (by omega) HRr.out).mono ?_
     rintro en w7 ⟨rfl, hR, hO⟩
     have HX := hid (HX.out.mono (w' := w7) (ok' := fun b => w.heap.size < b ∧ b < bn) fun b (hb : w.heap.size < b ∧ b < bn) => ⟨hb, fun o => Off.cell hO (by omega) (by omega)⟩)
     have HBx := hid (Off.blk hO HBx.out (by omega))
     have HNr := hid (Off.blk hO HNr.out (by omega))
     have HOr := hid (HOr.out.trans hO)
     have HRr := hid hR
     have lbn := HBx.out.lt
     clear hO hR
     have c2 := HRr.out.rdr.c2
     have zz2 := HRr.out.rdr.z 2
     have lp := HRr.out.lt
     go_upto_region 8 with fail
     try rw [show op + 1 - 1 = op by omega]
     have hR : RQ (w7.setCell ⟨p, 2, none⟩ (.int .i64 op)) p St k6 op (.error 100) := ⟨HRr.out.rdr.set2 op, HRr.out.ok, HRr.out.ne⟩
     have hO := (Off.refl p w7).set 2 (.int .i64 op)
     change Code.wp _ _ _ _ (w7.setCell ⟨p, 2, none⟩ (.int .i64 op))
     generalize w7.setCell ⟨p, 2, none⟩ (.int .i64 op) = WA at *
     clear c2 zz2 lp
     have HX := hid (HX.out.mono (w' := WA) (ok' := fun b => w.heap.size < b ∧ b < bn) fun b (hb : w.heap.size < b ∧ b < bn) => ⟨hb, fun o => Off.cell hO (by omega) (by omega)⟩)
     have HBx := hid (Off.blk hO HBx.out (by omega))
     have HNr := hid (Off.blk hO HNr.out (by omega))
     have HOr := hid (HOr.out.trans hO)
     have HRr := hid hR
     clear hO hR
     obtain ⟨⟨f0, f1, f2, f3, f4, f5, f6, f7⟩, _⟩ := HBx.out.cells8
     have ln := HBx.out.lt
     obtain ⟨⟨r0, r1_, r2_, r3, r4, r5, r6, r7⟩, hz⟩ := HNr.out.cells8
     obtain ⟨z0, z1, z2, z3, z4, z5, z6, z7⟩ := cM hz
     have lr := HNr.out.lt
     clear hz
     go_wp2_with fail
     change bodyPost _ _ _ _ _ (aa WA w.heap.size (t, A, c))
     have hfin := ac HNr.out (t, A, c)
     obtain ⟨⟨y0, y1, y2, y3, y4, y5, y6, y7⟩, _⟩ := hfin.cells8
     have hRS := HRr.out.boxX (b := w.heap.size) (by omega) (t, A, c)
     have hOff := Off.boxW HOr.out (Nat.le_refl _) (t, A, c)
     have hNod : NodeAt (aa WA w.heap.size (t, A, c)) (fun b => w.heap.size ≤ b ∧ b < (aa WA w.heap.size (t, A, c)).heap.size) t A c := HX.out.mono fun k (hk : w.heap.size < k ∧ k < bn) => ⟨⟨by omega, by rw [ai]; omega⟩, fun o => World.cell?_of_block (w := WA) (a := ⟨k, o, none⟩) (af _ _ _ _ (show k ≠ w.heap.size by omega))⟩
     generalize aa WA w.heap.size (t, A, c) = W9 at *
     exact bodyPost_ret (v := aB t A c) (by simp [results, Tryz.results135, y0, y1, y2, y3, y4, y5, y6, y7, go_sem]) rfl ⟨(t, A, c), k6, (.error 100), rfl, hNod, hRS, hOff, Hout.out⟩
   · have Hout := hid (show Out (aE (d + 1)) (.ok r) (fun u => ((t, A, c) : Nx).1 = u) (.ok rr4) from Out.good (x := t) (by rw [aE, Hcc.out]; simp only [ht]) rfl)
     have Ht := hid ht; clear ht
     go_wp2_with fail
     refine (cE [41] (by simp) Ht.out HRr.out).mono ?_
     rintro en w6 ⟨rfl, ⟨k6, hR⟩, hO⟩
     clear c3
     have HX := hid (HX.out.mono (w' := w6) (ok' := fun b => w.heap.size < b ∧ b < bn) fun b (hb : w.heap.size < b ∧ b < bn) => ⟨hb, fun o => Off.cell hO (by omega) (by omega)⟩)
     have HBx := hid (Off.blk hO HBx.out (by omega))
     have HNr := hid (Off.blk hO HNr.out (by omega))
     have HOr := hid (HOr.out.trans hO)
     have HRr := hid hR
     have lbn := HBx.out.lt
     clear hO hR
     have c2 := HRr.out.rdr.c2
     have zz2 := HRr.out.rdr.z 2
     have lp := HRr.out.lt
     go_upto_region 8 with fail
     try rw [show op + 1 - 1 = op by omega]
     have hR : RQ (w6.setCell ⟨p, 2, none⟩ (.int .i64 op)) p St k6 op (.ok rr4) := ⟨HRr.out.rdr.set2 op, HRr.out.ok, HRr.out.ne⟩
     have hO := (Off.refl p w6).set 2 (.int .i64 op)
     change Code.wp _ _ _ _ (w6.setCell ⟨p, 2, none⟩ (.int .i64 op))
     generalize w6.setCell ⟨p, 2, none⟩ (.int .i64 op) = WA at *
     clear c2 zz2 lp
     have HX := hid (HX.out.mono (w' := WA) (ok' := fun b => w.heap.size < b ∧ b < bn) fun b (hb : w.heap.size < b ∧ b < bn) => ⟨hb, fun o => Off.cell hO (by omega) (by omega)⟩)
     have HBx := hid (Off.blk hO HBx.out (by omega))
     have HNr := hid (Off.blk hO HNr.out (by omega))
     have HOr := hid (HOr.out.trans hO)
     have HRr := hid hR
     clear hO hR
     obtain ⟨⟨f0, f1, f2, f3, f4, f5, f6, f7⟩, _⟩ := HBx.out.cells8
     have ln := HBx.out.lt
     obtain ⟨⟨r0, r1_, r2_, r3, r4, r5, r6, r7⟩, hz⟩ := HNr.out.cells8
     obtain ⟨z0, z1, z2, z3, z4, z5, z6, z7⟩ := cM hz
     have lr := HNr.out.lt
     clear hz
     go_wp2_with fail
     change bodyPost _ _ _ _ _ (aa WA w.heap.size (t, A, c))
     have hfin := ac HNr.out (t, A, c)
     obtain ⟨⟨y0, y1, y2, y3, y4, y5, y6, y7⟩, _⟩ := hfin.cells8
     have hRS := HRr.out.boxX (b := w.heap.size) (by omega) (t, A, c)
     have hOff := Off.boxW HOr.out (Nat.le_refl _) (t, A, c)
     have hNod : NodeAt (aa WA w.heap.size (t, A, c)) (fun b => w.heap.size ≤ b ∧ b < (aa WA w.heap.size (t, A, c)).heap.size) t A c := HX.out.mono fun k (hk : w.heap.size < k ∧ k < bn) => ⟨⟨by omega, by rw [ai]; omega⟩, fun o => World.cell?_of_block (w := WA) (a := ⟨k, o, none⟩) (af _ _ _ _ (show k ≠ w.heap.size by omega))⟩
     generalize aa WA w.heap.size (t, A, c) = W9 at *
     exact bodyPost_ret (v := aB t A c) (by simp [results, Tryz.results135, y0, y1, y2, y3, y4, y5, y6, y7, go_sem]) rfl ⟨(t, A, c), k6, (.ok rr4), rfl, hNod, hRS, hOff, Hout.out⟩
theorem tA {s : Bs} {t : T} (hl : ¬ 1024 < s.length) (h : av (aE 64) s = .ok (t, [])) : aY s = .ok t := by rw [aY, if_neg hl, h]
theorem rf {s : Bs} {t : T} {c : UInt8} {r : Bs} (hl : ¬ 1024 < s.length) (h : av (aE 64) s = .ok (t, c :: r)) : aY s = .error 100 := by rw [aY, if_neg hl, h]
theorem tH {s : Bs} {e : Int} (hl : ¬ 1024 < s.length) (h : av (aE 64) s = .error e) : aY s = .error e := by rw [aY, if_neg hl, h]
theorem qV (s : Bs) (w : World) :
 Calls Tryz.prog 43 #[.string (bs s)] w fun en w' => zy s w en w' := by
 have sS := dn s
 by_cases hlen : 1024 < s.length
 · have hp : aY s = .error 3 := by rw [aY, if_pos hlen]
   have Hp := hid hp; clear hp
   go_enter Tryz.func43, Tryz.ntmps43
   go_wp2_with fail
   exact bodyPost_ret (v := .tuple #[aB ay none 0, .int .i64 3]) (by simp [results, Tryz.results43, go_sem, T.k, T.s0, T.s1, T.s2, T.s3, T.mn, T.mx, T.ps]) rfl ⟨nal, .inr ⟨3, Hp.out, by omega, rfl⟩⟩
 · have HCH := hid (fun (w : World) (p : Nat) (h : RQ w p s 0 0 (.ok s)) => mf w p s 0 0 (.ok s) h (aE 64) (dG 64) (fun _ w k r h => qX p s 64 0 (by omega) (by omega) w k r h))
   go_enter Tryz.func43, Tryz.ntmps43
   go_upto_region 4 with fail
   generalize hW : (w.alloc _).alloc _ = W1
   have hB1 : Below w.heap.size w W1 := by subst hW; exact nal.alloc (by simp) _
   have R1 : bj W1 w.heap.size (ar (ay, none, 0)).toArray := by
    subst hW
    exact (bj.new w _).keep (nal.block _ (by simp))
   have h1 : RQ W1 (w.heap.size + 1) s 0 0 (.ok s) := by
    subst hW
    refine ⟨⟨?_, ?_, ?_, ?_, fun o => ?_, by simp, by omega, by omega⟩, fun r he => by cases he; rfl, fun e he => by cases he⟩
    · simp [go_sem]
    · simp [go_sem]
    · simp [go_sem]
    · simp [go_sem, Rs.no]
    · simp [go_sem]
   have hz1 : w.heap.size + 2 ≤ W1.heap.size := by subst hW; simp
   clear hW
   go_wp2_with fail
   refine (HCH.out W1 (w.heap.size + 1) h1).mono ?_
   rintro en w2 ⟨⟨t, A, c⟩, k2, s2, rfl, hx2, h2, hO2, ho2⟩
   have R2 := Off.blk hO2 R1 (by omega)
   have hz2 := hO2.size
   have hBw2 : Below w.heap.size w w2 := hB1.trans (Off.below hO2 (by omega) (by omega))
   have Hx2 := hid hx2; have Ho2 := hid ho2
   clear hx2 ho2 R1 h1 hO2 hB1
   go_upto_region 5 with fail
   generalize hW : w2.alloc _ = W3
   have hB3 : Below w2.heap.size w2 W3 := by subst hW; exact nal
   have N3 : bj W3 w2.heap.size (ar (t, A, c)).toArray := by subst hW; exact bj.new w2 _
   have hz3 : w2.heap.size < W3.heap.size := N3.lt
   have HNr := hid (R2.keep (hB3.block _ R2.lt))
   have HRr := hid (h2.later hB3)
   have HBw := hid (hBw2.trans (hB3.mono (by omega)))
   have HX := hid (Hx2.out.mono (w' := W3) (ok' := fun b => w.heap.size + 2 ≤ b ∧ b < w2.heap.size) fun b (hb : W1.heap.size ≤ b ∧ b < w2.heap.size) => ⟨⟨by omega, hb.2⟩, fun o => hB3.cell (p := ⟨b, o, none⟩) hb.2⟩)
   have HBx := hid N3
   have hbn : w.heap.size + 2 ≤ w2.heap.size := by omega
   clear hW hB3 N3 R2 h2 hBw2 Hx2 hz2
   generalize w2.heap.size = bn at *
   have hz0 : w.heap.size ≤ W3.heap.size := by omega
   have c3 := HRr.out.rdr.c3
   have lp3 := HRr.out.lt
   cases s2 with
   | error e =>
    have hne := HRr.out.ne e rfl
    have Hp := hid (tH hlen (ff Ho2.out))
    have hb : (e == 0) = false := by rw [beq_eq_false_iff_ne]; exact hne
    have hbn2 : (e != 0) = true := by rw [bne_iff_ne]; exact hne
    have Hne := hid hne
    simp only [Rs.no] at c3
    clear hne Ho2
    obtain ⟨⟨r0, r1, r2_, r3, r4, r5, r6, r7⟩, hz⟩ := HNr.out.cells8
    have z0 := hz 0; have zz1 := hz 1; have z2 := hz 2; have z3 := hz 3; have z4 := hz 4; have z5 := hz 5; have z6 := hz 6; have z7 := hz 7
    have lr := HNr.out.lt
    clear hz
    go_wp2_with fail
    go_region
    all_goals go_wp2_with fail
    change bodyPost _ _ _ _ _ (aa W3 w.heap.size (ay, none, 0)).drew
    have hfn := ac HNr.out (ay, none, 0)
    obtain ⟨⟨y0, y1, y2, y3, y4, y5, y6, y7⟩, _⟩ := hfn.cells8
    have hbel := (bO HBw.out (Nat.le_refl w.heap.size) (ay, none, 0)).drew
    generalize aa W3 w.heap.size (ay, none, 0) = W5 at *
    exact bodyPost_ret (v := .tuple #[aB ay none 0, .int .i64 e]) (by simp [results, Tryz.results43, y0, y1, y2, y3, y4, y5, y6, y7, go_sem]) rfl ⟨hbel, .inr ⟨_, Hp.out, Hne.out, rfl⟩⟩
   | ok r2 =>
    have hcc : av (aE 64) s = .ok (t, r2) := by
     obtain ⟨x, hx, hv⟩ := eh Ho2.out
     have hv' : t = x := hv
     rw [hx, hv']
    simp only [Rs.no] at c3
    clear Ho2
    have Hd := hid (kC HRr.out)
    rcases r2 with _ | ⟨c1, t1⟩
    · have Hp := hid (tA hlen hcc)
      clear hcc
      go_wp2_with fail
      refine Hd.out.mono ?_
      rintro en W4 ⟨rfl, h4, hO4⟩
      rw [show ev (.ok []) = true from rfl]
      clear c3 lp3
      have c3 := h4.rdr.c3
      have lp3 := h4.lt
      simp only [Rs.no] at c3
      have HX := hid (HX.out.mono (w' := W4) (ok' := fun b => w.heap.size + 2 ≤ b ∧ b < bn) fun b (hb : w.heap.size + 2 ≤ b ∧ b < bn) => ⟨hb, fun o => Off.cell hO4 (by omega) (by omega)⟩)
      have HBx := hid (Off.blk hO4 HBx.out (by omega))
      have HNr := hid (Off.blk hO4 HNr.out (by omega))
      have HBw := hid (HBw.out.trans (Off.below hO4 (B := w.heap.size) (by omega) hz0))
      have lbn := HBx.out.lt
      clear h4 hO4 Hd
      obtain ⟨⟨f0, f1, f2, f3, f4, f5, f6, f7⟩, _⟩ := HBx.out.cells8
      obtain ⟨⟨r0, r1, r2_, r3, r4, r5, r6, r7⟩, hz⟩ := HNr.out.cells8
      have z0 := hz 0; have zz1 := hz 1; have z2 := hz 2; have z3 := hz 3; have z4 := hz 4; have z5 := hz 5; have z6 := hz 6; have z7 := hz 7
      have lr := HNr.out.lt
      clear hz
      go_wp2_with fail
      change bodyPost _ _ _ _ _ (aa W4 w.heap.size (t, A, c))
      have hfn := ac HNr.out (t, A, c)
      obtain ⟨⟨y0, y1, y2, y3, y4, y5, y6, y7⟩, _⟩ := hfn.cells8
      have hbel := bO HBw.out (Nat.le_refl w.heap.size) (t, A, c)
      have hNod : NodeAt (aa W4 w.heap.size (t, A, c)) (fun b => w.heap.size ≤ b ∧ b < (aa W4 w.heap.size (t, A, c)).heap.size) t A c := HX.out.mono fun k (hk : w.heap.size + 2 ≤ k ∧ k < bn) => ⟨⟨by omega, by rw [ai]; omega⟩, fun o => World.cell?_of_block (w := W4) (a := ⟨k, o, none⟩) (af _ _ _ _ (show k ≠ w.heap.size by omega))⟩
      generalize aa W4 w.heap.size (t, A, c) = W5 at *
      exact bodyPost_ret (v := .tuple #[aB t A c, .int .i64 0]) (by simp [results, Tryz.results43, y0, y1, y2, y3, y4, y5, y6, y7, go_sem]) rfl ⟨hbel, .inl ⟨t, A, c, Hp.out, rfl, hNod⟩⟩
    · have Hp := hid (rf hlen hcc)
      clear hcc
      go_wp2_with fail
      refine Hd.out.mono ?_
      rintro en W4 ⟨rfl, h4, hO4⟩
      rw [show ev (.ok (c1 :: t1)) = false from rfl]
      clear c3
      have HNr := hid (Off.blk hO4 HNr.out (by omega))
      have HBw := hid (HBw.out.trans (Off.below hO4 (B := w.heap.size) (by omega) hz0))
      have hz4 : w.heap.size ≤ W4.heap.size := by have := HNr.out.lt; omega
      clear hO4 Hd
      have H4 := hid h4
      clear h4
      go_wp2_with fail
      refine (bS 100 (by omega) H4.out).mono ?_
      rintro en W6 ⟨rfl, h4, hO4⟩
      have c3 := h4.rdr.c3
      simp only [Rs.no] at c3
      clear lp3
      have lp3 := h4.lt
      have HNr := hid (Off.blk hO4 HNr.out (by omega))
      have HBw := hid (HBw.out.trans (Off.below hO4 (B := w.heap.size) (by omega) hz4))
      clear h4 hO4 H4
      have hbn2 : ((100 : Int) != 0) = true := by decide
      have Hne := hid (show (100 : Int) ≠ 0 by decide)
      obtain ⟨⟨r0, r1, r2_, r3, r4, r5, r6, r7⟩, hz⟩ := HNr.out.cells8
      have z0 := hz 0; have zz1 := hz 1; have z2 := hz 2; have z3 := hz 3; have z4 := hz 4; have z5 := hz 5; have z6 := hz 6; have z7 := hz 7
      have lr := HNr.out.lt
      clear hz
      go_wp2_with fail
      go_region
      all_goals go_wp2_with fail
      change bodyPost _ _ _ _ _ (aa W6 w.heap.size (ay, none, 0)).drew
      have hfn := ac HNr.out (ay, none, 0)
      obtain ⟨⟨y0, y1, y2, y3, y4, y5, y6, y7⟩, _⟩ := hfn.cells8
      have hbel := (bO HBw.out (Nat.le_refl w.heap.size) (ay, none, 0)).drew
      generalize aa W6 w.heap.size (ay, none, 0) = W5 at *
      exact bodyPost_ret (v := .tuple #[aB ay none 0, .int .i64 100]) (by simp [results, Tryz.results43, y0, y1, y2, y3, y4, y5, y6, y7, go_sem]) rfl ⟨hbel, .inr ⟨_, Hp.out, Hne.out, rfl⟩⟩
theorem fj : ∀ (k k' : Nat) (n : T) (r : Bs), r.length < k → r.length < k' → cG k n r = cG k' n r
 | 0, _, _, _, h, _ => by omega
 | _, 0, _, _, _, h => by omega
 | k + 1, k' + 1, n, r, h, h' => by
  rw [cG, cG]
  split
  · rename_i r1 ht; have := am ht; simp at this; exact fj k k' _ _ (by omega) (by omega)
  split
  · rename_i r1 ht; have := am ht; simp at this; exact fj k k' _ _ (by omega) (by omega)
  split
  · rename_i r1 ht; have := am ht; simp at this; exact fj k k' _ _ (by omega) (by omega)
  split
  · rename_i r1 ht
    have := am ht; simp at this
    split
    · rfl
    · rename_i m x r2 hi
      have := df hi
      exact fj k k' _ _ (by omega) (by omega)
  · rfl
def uO (r : Bs) : Prop := ∀ c t, r = c :: t → cS c = false
theorem fI {n : Nat} (h : n < 10) : cS (UInt8.ofNat (48 + n)) = true ∧ ((UInt8.ofNat (48 + n)).toNat : Int) - 48 = n := by
 have e : (UInt8.ofNat (48 + n)).toNat = 48 + n := b8 (by omega)
 unfold cS
 rw [e]
 simp; omega
theorem gh (k : Nat) (n : Int) (w : Nat) {r : Bs} (h : uO r) : aD k n w r = (n, w, r) := by
 cases k with
 | zero => rfl
 | succ k =>
  cases r with
  | nil => rfl
  | cons c t => rw [aD, h c t rfl]; simp
theorem rA {n : Nat} (hn : n < 256) {r : Bs} (hr : uO r) : ∃ w, 1 ≤ w ∧ w ≤ 3 ∧ aD 4 0 0 (kA n ++ r) = ((n : Int), w, r) := by
 unfold kA
 split
 · rename_i h
   obtain ⟨h1, h2⟩ := fI h
   refine ⟨1, by omega, by omega, ?_⟩
   simp only [List.cons_append, List.nil_append]
   rw [aD, if_pos h1, h2, gh _ _ _ hr]
   simp
 split
 · rename_i h0 h
   obtain ⟨h1, h2⟩ := fI (n := n / 10) (by omega)
   obtain ⟨h3, h4⟩ := fI (n := n % 10) (by omega)
   refine ⟨2, by omega, by omega, ?_⟩
   simp only [List.cons_append, List.nil_append]
   rw [aD, if_pos h1, h2, aD, if_pos h3, h4, gh _ _ _ hr]
   simp only [Prod.mk.injEq, and_true]
   omega
 · rename_i h0 h
   obtain ⟨h1, h2⟩ := fI (n := n / 100) (by omega)
   obtain ⟨h3, h4⟩ := fI (n := n / 10 % 10) (by omega)
   obtain ⟨h5, h6⟩ := fI (n := n % 10) (by omega)
   refine ⟨3, by omega, by omega, ?_⟩
   simp only [List.cons_append, List.nil_append]
   rw [aD, if_pos h1, h2, aD, if_pos h3, h4, aD, if_pos h5, h6, gh _ _ _ hr]
   simp only [Prod.mk.injEq, and_true]
   omega
theorem fQ {n : Nat} (hn : n < 256) {r : Bs} (hr : uO r) : aw (kA n ++ r) = .ok ((n : Int), r) := by
 obtain ⟨w, h1, h2, e⟩ := rA hn hr
 unfold aw
 rw [e, if_neg (by simp only; omega)]
theorem fO {c : UInt8} (h : cS c = false) (t : Bs) : uO (c :: t) := fun _ _ e => by cases e; exact h
theorem ul {n : Nat} (hn : n < 256) : ∃ c t, kA n = c :: t ∧ c ≠ 125 ∧ c ≠ 44 := by
 have hd : ∀ k, k < 10 → UInt8.ofNat (48 + k) ≠ 125 ∧ UInt8.ofNat (48 + k) ≠ 44 := fun k hk => ⟨fun e => by
  have := (mQ (c := 48 + k) (k := 125) (by omega) (by omega)).1 e; omega, fun e => by
  have := (mQ (c := 48 + k) (k := 44) (by omega) (by omega)).1 e; omega⟩
 unfold kA
 split
 · exact ⟨_, _, rfl, hd _ (by omega)⟩
 split
 · exact ⟨_, _, rfl, hd _ (by omega)⟩
 · exact ⟨_, _, rfl, hd _ (by omega)⟩
structure Tim (m n : Int) : Prop where
 m0 : 0 ≤ m
 m1 : m ≤ 255
 n1 : n ≤ 255
 n0 : n = -1 ∨ m ≤ n
theorem fJ {m n : Int} (h : Tim m n) (k : Nat) (t : T) (r : Bs) : cG (k + 1) t (bH m n ++ r) = cG k (cO m n t) r := by
 have h0 := h.m0; have h1 := h.m1; have h2 := h.n1; have h3 := h.n0
 unfold bH
 split
 · rename_i e
   obtain ⟨rfl, rfl⟩ := e
   simp only [List.cons_append, List.nil_append]
   rw [cG, aH, if_pos rfl]
 split
 · rename_i e
   obtain ⟨rfl, rfl⟩ := e
   simp only [List.cons_append, List.nil_append]
   rw [cG, aH, if_neg (by decide)]
   simp only [aH, if_true]
 split
 · rename_i e
   obtain ⟨rfl, rfl⟩ := e
   simp only [List.cons_append, List.nil_append]
   rw [cG, aH, if_neg (by decide)]
   simp only [aH, show ¬ ((43 : UInt8) = 63) by decide, if_true, if_false]
 obtain ⟨a, rfl⟩ : ∃ a : Nat, m = a := ⟨m.toNat, by omega⟩
 rw [Int.toNat_natCast]
 split
 · rename_i e
   subst e
   simp only [List.cons_append, List.nil_append, List.append_assoc]
   have hi : aj (kA a ++ 125 :: r) = .ok ((a : Int), (a : Int), r) := by
    rw [aj, fQ (by omega) (fO (by decide) _)]
    simp only [aH, if_true]
   rw [cG, aH, if_neg (by decide)]
   simp only [aH, show ¬ ((43 : UInt8) = 123) by decide, show ¬ ((63 : UInt8) = 123) by decide, if_true, if_false, hi]
 split
 · rename_i e
   subst e
   simp only [List.cons_append, List.nil_append, List.append_assoc]
   have hi : aj (kA a ++ 44 :: 125 :: r) = .ok ((a : Int), -1, r) := by
    rw [aj, fQ (by omega) (fO (by decide) _)]
    simp only [bg, eH, show ¬ ((125 : UInt8) = 44) by decide, if_true, if_false]
   rw [cG, aH, if_neg (by decide)]
   simp only [aH, show ¬ ((43 : UInt8) = 123) by decide, show ¬ ((63 : UInt8) = 123) by decide, if_true, if_false, hi]
 · obtain ⟨b, rfl⟩ : ∃ b : Nat, n = b := ⟨n.toNat, by omega⟩
   rw [Int.toNat_natCast]
   simp only [List.cons_append, List.nil_append, List.append_assoc]
   obtain ⟨c, t', hc, h5, h6⟩ := ul (n := b) (by omega)
   have hi : aj (kA a ++ 44 :: (kA b ++ 125 :: r)) = .ok ((a : Int), (b : Int), r) := by
    rw [aj, fQ (by omega) (fO (by decide) _)]
    have e1 : aq [44, 125] (44 :: (kA b ++ 125 :: r)) = none := by rw [bg, if_pos rfl, hc, List.cons_append, aH, if_neg (fun e => h5 e.symm)]
    simp only [aH, show ¬ ((125 : UInt8) = 44) by decide, if_true, if_false, e1]
    rw [fQ (by omega) (fO (by decide) _)]
    simp only [aH, if_true]
    rw [if_neg (by omega)]
   rw [cG, aH, if_neg (by decide)]
   simp only [aH, show ¬ ((43 : UInt8) = 123) by decide, show ¬ ((63 : UInt8) = 123) by decide, if_true, if_false, hi]
theorem qG (m n : Int) : 1 ≤ (bH m n).length := by
 unfold bH
 repeat' split
 all_goals simp
def uN (r : Bs) : Prop := ∀ c t, r = c :: t → c ≠ 42 ∧ c ≠ 43 ∧ c ≠ 63 ∧ c ≠ 123
theorem gu (k : Nat) (t : T) {r : Bs} (h : uN r) : cG k t r = .ok (t, r) := by
 cases k with
 | zero => rfl
 | succ k =>
  cases r with
  | nil => rfl
  | cons c q =>
   obtain ⟨h1, h2, h3, h4⟩ := h c q rfl
   rw [cG, aH, if_neg (fun e => h1 e.symm)]
   simp only [aH]
   rw [if_neg (fun e => h2 e.symm)]
   simp only
   rw [if_neg (fun e => h3 e.symm)]
   simp only
   rw [if_neg (fun e => h4 e.symm)]
theorem mz {r : Bs} (h : ce r = true) : uN r := fun c t e => by
 subst e
 simp only [ce, Bool.or_eq_true, beq_iff_eq] at h
 rcases h with rfl | rfl <;> decide
def eS (x : Bs) : Prop := ∃ c t, x = c :: t ∧ c ≠ 124 ∧ c ≠ 41 ∧ c ≠ 42 ∧ c ≠ 43 ∧ c ≠ 63 ∧ c ≠ 123
theorem eS.row {x : Bs} (h : eS x) (r : Bs) : ce (x ++ r) = false := by
 obtain ⟨c, t, rfl, h1, h2, _⟩ := h
 simp [ce, h1, h2]
theorem eS.suf {x : Bs} (h : eS x) (r : Bs) : uN (x ++ r) := by
 obtain ⟨c, t, rfl, h1, h2, h3, h4, h5, h6⟩ := h
 intro a b e
 cases e
 exact ⟨h3, h4, h5, h6⟩
theorem eS.app {x : Bs} (h : eS x) (r : Bs) : eS (x ++ r) := by
 obtain ⟨c, t, rfl, h⟩ := h
 exact ⟨c, t ++ r, rfl, h⟩
theorem qK (s : W4) : eS (lK s) := by
 unfold lK
 split
 · exact ⟨46, _, rfl, by decide⟩
 split
 · exact ⟨91, _, rfl, by decide⟩
 split
 · rename_i h1
   obtain ⟨c, hc⟩ := List.length_eq_one_iff.1 h1
   have hcl : c < 256 := eG s c (by rw [hc]; simp)
   have hh : (bc s).headD 0 = c := by rw [hc]; rfl
   rw [hh]
   by_cases hs : mO c = true
   · rw [if_pos hs]; exact ⟨92, _, rfl, by decide⟩
   · rw [if_neg hs]
     have hs : ¬ c ∈ [92, 94, 46, 91, 36, 40, 41, 124, 42, 43, 63, 123] := by simpa [mO] using hs
     simp only [List.mem_cons, List.not_mem_nil, or_false, not_or] at hs
     have ne : ∀ k, k < 256 → c ≠ k → UInt8.ofNat c ≠ UInt8.ofNat k := fun k hk hn e => hn ((mQ hcl hk).1 e)
     exact ⟨_, _, rfl, ne 124 (by omega) (by omega), ne 41 (by omega) (by omega), ne 42 (by omega) (by omega), ne 43 (by omega) (by omega), ne 63 (by omega) (by omega), ne 123 (by omega) (by omega)⟩
 · exact ⟨91, _, rfl, by decide⟩
theorem nk {t : T} (h : aC t = true) (hk : t.k ≠ 1) : t.s0 = 0 ∧ t.s1 = 0 ∧ t.s2 = 0 ∧ t.s3 = 0 := by
 rw [eB] at h
 split at h
 · cases h
 · rename_i hn
   false_or_by_contra
   rename_i h2
   exact hn (.inl ⟨hk, h2⟩)
theorem T.eq_mk {t : T} {k s0 s1 s2 s3 mn mx : Int} {ps : List T} (h1 : t.k = k) (h2 : t.s0 = s0) (h3 : t.s1 = s1) (h4 : t.s2 = s2) (h5 : t.s3 = s3) (h6 : t.mn = mn) (h7 : t.mx = mx) (h8 : t.ps = ps) : t = .mk k s0 s1 s2 s3 mn mx ps := by
 subst h1; subst h2; subst h3; subst h4; subst h5; subst h6; subst h7; subst h8; exact t.eta
structure Rnd (t : T) : Prop where
 piece : bu t = false → (∀ d r, ca t ≤ d → aT (aE d) (prT t ++ r) = cG (r.length + 1) t r) ∧ eS (prT t)
 choice : ∀ d r, ca t ≤ d → (r = [] ∨ ∃ q, r = 41 :: q) → av (aE d) (prT t ++ r) = .ok (t, r)
theorem rW (grp : Bs → PT) (t : Bs) : aN grp (40 :: t) = grp t := by simp [aN]
theorem yJ (grp : Bs → PT) (t : Bs) : aN grp (94 :: t) = .ok (.mk 2 0 0 0 0 0 0 [], t) := by simp [aN]
theorem yK (grp : Bs → PT) (t : Bs) : aN grp (36 :: t) = .ok (.mk 3 0 0 0 0 0 0 [], t) := by simp [aN]
theorem fN {p : T} (h : Rnd p) (so : Bool) (hso : bu p = true → so = true) (d : Nat) (hd : ca p + (if so then 1 else 0) ≤ d) (r : Bs) :
 aT (aE d) (iy so (prT p) ++ r) = cG (r.length + 1) p r ∧ eS (iy so (prT p)) := by
 cases hs : so with
 | false =>
  have hl : bu p = false := by
   cases hl : bu p with
   | false => rfl
   | true => rw [hso hl] at hs; cases hs
  rw [hs] at hd
  obtain ⟨h1, h2⟩ := h.piece hl
  exact ⟨h1 d r (by simpa using hd), h2⟩
 | true =>
  rw [hs] at hd
  obtain ⟨d, rfl⟩ : ∃ d', d = d' + 1 := ⟨d - 1, by simp at hd; omega⟩
  refine ⟨?_, 40, _, rfl, by decide⟩
  simp only [iy, if_true, List.cons_append, List.nil_append, List.append_assoc]
  have hg : aE (d + 1) (prT p ++ 41 :: r) = .ok (p, r) := by
   rw [aE, h.choice d (41 :: r) (by simp at hd; omega) (.inr ⟨r, rfl⟩)]
   simp only [aH, if_true]
  rw [aT, rW, hg]
theorem pJ {d : Nat} : ∀ (ps : List T) (l : List T) (r : Bs) (k : Nat), (∀ p ∈ ps, Rnd p) → bC ps ≤ d → ce r = true → (cl ps ++ r).length < k → aI (aE d) k l (cl ps ++ r) = .ok (l ++ ps, r) ∧ uN (cl ps ++ r)
 | [], l, r, k, _, _, hr, hk => by
  rw [cl]
  simp only [List.nil_append, List.append_nil] at hk ⊢
  refine ⟨?_, mz hr⟩
  cases k with
  | zero => omega
  | succ k => rw [aI, if_pos hr]
 | p :: ps, l, r, k, h, hd, hr, hk => by
  rw [cl] at hk ⊢
  rw [bC] at hd
  rw [List.append_assoc] at hk ⊢
  obtain ⟨h1, h2⟩ := fN (h p (List.mem_cons_self ..)) (bu p) id d (by omega) (cl ps ++ r)
  obtain ⟨c, t, e, _⟩ := id h2
  have hlen : 1 ≤ (iy (bu p) (prT p)).length := by rw [e]; simp
  obtain ⟨k, rfl⟩ : ∃ k', k = k' + 1 := ⟨k - 1, by omega⟩
  simp only [List.length_append] at hk
  obtain ⟨h3, h4⟩ := pJ (d := d) ps (l ++ [p]) r k (fun q hq => h q (List.mem_cons_of_mem _ hq)) (by omega) hr (by simp only [List.length_append]; omega)
  refine ⟨?_, h2.suf _⟩
  rw [aI, h2.row, h1, gu _ _ h4]
  simp only [Bool.false_eq_true, if_false]
  rw [h3]
  simp
theorem lu (k : Int) : ∀ (l : List T), 2 ≤ l.length → bW k l = .mk k 0 0 0 0 0 0 l
 | [], h => by simp at h
 | [_], h => by simp at h
 | _ :: _ :: _, _ => rfl
theorem nj {t : T} (hr : aC t = true) (h : ∀ p ∈ t.ps, Rnd p) (hp : bu t = false → (∀ d r, ca t ≤ d → aT (aE d) (prT t ++ r) = cG (r.length + 1) t r) ∧ eS (prT t)) (hk : t.k ≠ 5) (d : Nat) (hd : ca t ≤ d) (r : Bs) (he : ce r = true) : dL (aE d) (prT t ++ r) = .ok (t, r) := by
 unfold dL
 cases hl : bu t with
 | false =>
  obtain ⟨h1, h2⟩ := hp hl
  rw [aI, h2.row, h1 d r hd, gu _ _ (mz he)]
  simp only [Bool.false_eq_true, if_false]
  obtain ⟨c, q, e, _⟩ := id h2
  rw [e, List.cons_append, List.length_cons, aI, if_pos he]
  rfl
 | true =>
  have hset := nk hr
  rcases aJ hr with ⟨hk', hh⟩ | ⟨hk', hh⟩ | ⟨hk', hh⟩ | ⟨hk', hh⟩ | ⟨hk', hh⟩ | ⟨hk', hh⟩ | ⟨hk', hh⟩
  · have hpr : prT t = [] := by rw [dQ]; simp [hk']
    rw [hpr, List.nil_append, aI, if_pos he]
    simp only
    obtain ⟨e1, e2, e3, e4⟩ := hset (by omega)
    rw [T.eq_mk hk' e1 e2 e3 e4 hh.2.1 hh.2.2 (List.eq_nil_of_length_eq_zero hh.1)]
    rfl
  · simp [bu, hk'] at hl
  · simp [bu, hk'] at hl
  · simp [bu, hk'] at hl
  · have hpr : prT t = cl t.ps := by rw [dQ]; simp [hk']
    have hdp : ca t = bC t.ps := by rw [dM]; simp [hk']
    obtain ⟨h1, _⟩ := pJ (d := d) t.ps [] r ((prT t ++ r).length + 1) h (by omega) he (by rw [hpr]; omega)
    rw [hpr] at h1 ⊢
    rw [h1]
    simp only [List.nil_append]
    obtain ⟨e1, e2, e3, e4⟩ := hset (by omega)
    rw [lu _ _ hh.1, ← T.eq_mk hk' e1 e2 e3 e4 hh.2.1 hh.2.2 rfl]
  · exact absurd hk' hk
  · simp [bu, hk'] at hl
theorem pP {p : T} (hrt : aC p = true) (h : Rnd p) (hps : ∀ q ∈ p.ps, Rnd q) (d : Nat) (hd : ca p + (if p.k == 5 then 1 else 0) ≤ d) (r : Bs) (he : ce r = true) : dL (aE d) (iy (p.k == 5) (prT p) ++ r) = .ok (p, r) := by
 by_cases hk : p.k = 5
 · have hb : (p.k == 5) = true := by simpa using hk
   rw [hb] at hd ⊢
   obtain ⟨h1, h2⟩ := fN h true (fun _ => rfl) d hd r
   unfold dL
   rw [aI, h2.row, h1, gu _ _ (mz he)]
   simp only [Bool.false_eq_true, if_false]
   obtain ⟨c, q, e, _⟩ := id h2
   rw [e, List.cons_append, List.length_cons, aI, if_pos he]
   rfl
 · have hb : (p.k == 5) = false := by simpa using hk
   rw [hb] at hd ⊢
   exact nj hrt hps h.piece hk d (by simpa using hd) r he
theorem kb {r : Bs} (hr : r = [] ∨ ∃ q, r = 41 :: q) : ce r = true ∧ aq [124] r = none := by
 rcases hr with rfl | ⟨q, rfl⟩
 · exact ⟨rfl, rfl⟩
 · exact ⟨rfl, by rw [aH, if_neg (by decide)]⟩
theorem qq {d : Nat} : ∀ (ps : List T) (l : List T) (r : Bs) (k : Nat), (∀ p ∈ ps, aC p = true ∧ Rnd p ∧ ∀ q ∈ p.ps, Rnd q) → de ps ≤ d → (r = [] ∨ ∃ q, r = 41 :: q) → (gZ ps ++ r).length < k → bX (aE d) k l (gZ ps ++ r) = .ok (l ++ ps, r) ∧ ce (gZ ps ++ r) = true
 | [], l, r, k, _, _, hr, hk => by
  rw [gZ]
  simp only [List.nil_append, List.append_nil] at hk ⊢
  obtain ⟨h1, h2⟩ := kb hr
  refine ⟨?_, h1⟩
  cases k with
  | zero => omega
  | succ k => rw [bX, h2]
 | p :: ps, l, r, k, h, hd, hr, hk => by
  rw [gZ] at hk ⊢
  rw [de] at hd
  simp only [List.cons_append, List.nil_append, List.append_assoc, List.length_cons] at hk ⊢
  obtain ⟨k, rfl⟩ : ∃ k', k = k' + 1 := ⟨k - 1, by omega⟩
  simp only [List.length_append] at hk
  obtain ⟨h3, h4⟩ := qq (d := d) ps (l ++ [p]) r k (fun q hq => h q (List.mem_cons_of_mem _ hq)) (by omega) hr (by simp only [List.length_append]; omega)
  obtain ⟨g1, g2, g3⟩ := h p (List.mem_cons_self ..)
  have := pP g1 g2 g3 d (by omega) (gZ ps ++ r) h4
  refine ⟨?_, rfl⟩
  rw [bX, aH, if_pos rfl]
  simp only
  rw [this]
  simp only
  rw [h3]
  simp
theorem xm (t : T) : aC t = true → Words t → Rnd t ∧ ∀ p ∈ t.ps, Rnd p := by
 induction t using T.ind with
 | h t ih =>
  intro hr hw
  have hps : ∀ p ∈ t.ps, Rnd p := fun p hp => (ih p hp (aO hr p hp) (hw.p p hp)).1
  have hps2 : ∀ p ∈ t.ps, ∀ q ∈ p.ps, Rnd q := fun p hp => (ih p hp (aO hr p hp) (hw.p p hp)).2
  have hset := nk hr
  have hpiece : bu t = false → (∀ d r, ca t ≤ d → aT (aE d) (prT t ++ r) = cG (r.length + 1) t r) ∧ eS (prT t) := by
   intro hl
   rcases aJ hr with ⟨hk, hh⟩ | ⟨hk, hh⟩ | ⟨hk, hh⟩ | ⟨hk, hh⟩ | ⟨hk, hh⟩ | ⟨hk, hh⟩ | ⟨hk, hh⟩
   · simp [bu, hk] at hl
   · have hpr : prT t = lK t.w4 := by rw [dQ]; simp [hk]
     rw [hpr]
     refine ⟨fun d r _ => ?_, qK _⟩
     have e : t.w4.T = t := (T.eq_mk hk rfl rfl rfl rfl hh.2.1 hh.2.2 (List.eq_nil_of_length_eq_zero hh.1)).symm
     rw [aT, uZ hw.w, e]
   · have hpr : prT t = [94] := by rw [dQ]; simp [hk]
     rw [hpr]
     refine ⟨fun d r _ => ?_, 94, _, rfl, by decide⟩
     obtain ⟨e1, e2, e3, e4⟩ := hset (by omega)
     rw [List.cons_append, List.nil_append, aT, yJ, ← T.eq_mk hk e1 e2 e3 e4 hh.2.1 hh.2.2 (List.eq_nil_of_length_eq_zero hh.1)]
   · have hpr : prT t = [36] := by rw [dQ]; simp [hk]
     rw [hpr]
     refine ⟨fun d r _ => ?_, 36, _, rfl, by decide⟩
     obtain ⟨e1, e2, e3, e4⟩ := hset (by omega)
     rw [List.cons_append, List.nil_append, aT, yK, ← T.eq_mk hk e1 e2 e3 e4 hh.2.1 hh.2.2 (List.eq_nil_of_length_eq_zero hh.1)]
   · simp [bu, hk] at hl
   · simp [bu, hk] at hl
   · have hpr : prT t = gn t.ps ++ bH t.mn t.mx := by rw [dQ]; simp [hk]
     have hdp : ca t = dN t.ps := by rw [dM]; simp [hk]
     obtain ⟨p, hp⟩ := List.length_eq_one_iff.1 hh.1
     have hP := hps p (by rw [hp]; simp)
     obtain ⟨e1, e2, e3, e4⟩ := hset (by omega)
     rw [hp] at hdp
     rw [dN] at hdp
     rw [hpr, hp, gn]
     refine ⟨fun d r hd => ?_, ?_⟩
     · rw [List.append_assoc]
       obtain ⟨h1, _⟩ := fN hP (bu p) id d (by omega) (bH t.mn t.mx ++ r)
       rw [h1, fJ ⟨hh.2.1, hh.2.2.1, hh.2.2.2.1, hh.2.2.2.2⟩]
       have : cO t.mn t.mx p = t := (T.eq_mk hk e1 e2 e3 e4 rfl rfl hp).symm
       rw [this]
       have := qG t.mn t.mx
       exact fj _ _ _ _ (by simp only [List.length_append]; omega) (by omega)
     · exact (fN hP (bu p) id _ (Nat.le_refl _) []).2.app _
  refine ⟨⟨hpiece, fun d r hd hc => ?_⟩, hps⟩
  obtain ⟨c1, c2⟩ := kb hc
  by_cases hk : t.k = 5
  · have hpr : prT t = lN t.ps := by rw [dQ]; simp [hk]
    have hdp : ca t = de t.ps := by rw [dM]; simp [hk]
    have hh : 2 ≤ t.ps.length ∧ t.mn = 0 ∧ t.mx = 0 := by
     rcases aJ hr with ⟨hk', hh⟩ | ⟨hk', hh⟩ | ⟨hk', hh⟩ | ⟨hk', hh⟩ | ⟨hk', hh⟩ | ⟨hk', hh⟩ | ⟨hk', hh⟩
     all_goals first | omega | exact hh
    obtain ⟨e1, e2, e3, e4⟩ := hset (by omega)
    have hall : ∀ p ∈ t.ps, aC p = true ∧ Rnd p ∧ ∀ q ∈ p.ps, Rnd q := fun p hp => ⟨aO hr p hp, hps p hp, hps2 p hp⟩
    cases hq : t.ps with
    | nil => rw [hq] at hh; simp at hh
    | cons p ps =>
     rw [hq] at hpr hdp hall hh
     rw [lN] at hpr
     rw [de] at hdp
     obtain ⟨b1, b2⟩ := qq (d := d) ps [p] r ((gZ ps ++ r).length + 1) (fun q hq => hall q (List.mem_cons_of_mem _ hq)) (by omega) hc (by omega)
     obtain ⟨g1, g2, g3⟩ := hall p (List.mem_cons_self ..)
     rw [av, hpr, List.append_assoc, pP g1 g2 g3 d (by omega) (gZ ps ++ r) b2]
     simp only
     rw [b1]
     simp only [List.cons_append, List.nil_append]
     rw [lu _ _ hh.1, ← T.eq_mk hk e1 e2 e3 e4 hh.2.1 hh.2.2 hq]
  · rw [av, nj hr hps hpiece hk d hd r c1]
    simp only
    rw [bX, c2]
    rfl
theorem rnd {t : T} (hr : aC t = true) (hw : Words t) : Rnd t := (xm t hr hw).1
theorem oM {t : T} (hr : aC t = true) (hw : Words t) (hl : (prT t).length ≤ 1024) (hd : ca t ≤ 64) : aY (prT t) = .ok t := by
 have := (rnd hr hw).choice 64 [] hd (.inl rfl)
 rw [List.append_nil] at this
 rw [aY, if_neg (by omega), this]
theorem bp : ∀ {q r r' : Bs} (u : Bs), aq q r = some r' → aq q (r ++ u) = some (r' ++ u)
 | [], r, r', u, h => by rw [eH] at h ⊢; cases h; rfl
 | a :: q, [], r', u, h => by rw [dT _ (by simp)] at h; cases h
 | a :: q, c :: r, r', u, h => by
  rw [bg] at h
  rw [List.cons_append, bg]
  split at h
  · rw [if_pos (by assumption)]; exact bp u h
  · cases h
theorem bE : ∀ {q r : Bs} (u : Bs), ¬ (41 : UInt8) ∈ q → aq q r = none → aq q (r ++ 41 :: u) = none
 | [], r, u, _, h => by rw [eH] at h; cases h
 | a :: q, [], u, hq, h => by
  rw [List.nil_append, bg, if_neg (fun e => hq (by rw [e]; exact List.mem_cons_self ..))]
 | a :: q, c :: r, u, hq, h => by
  rw [bg] at h
  rw [List.cons_append, bg]
  split at h
  · rw [if_pos (by assumption)]; exact bE u (fun e => hq (List.mem_cons_of_mem _ e)) h
  · rw [if_neg (by assumption)]
theorem lG (u : Bs) : ∀ (k : Nat) (n : Int) (w : Nat) (r : Bs), aD k n w (r ++ 41 :: u) = ((aD k n w r).1, (aD k n w r).2.1, (aD k n w r).2.2 ++ 41 :: u)
 | 0, n, w, r => rfl
 | k + 1, n, w, [] => by
  have : cS 41 = false := by decide
  simp only [List.nil_append, aD, this, Bool.false_eq_true, if_false]
 | k + 1, n, w, c :: t => by
  rw [List.cons_append, aD, aD]
  split
  · exact lG u k _ _ t
  · rfl
theorem kZ {r r' : Bs} {n : Int} (u : Bs) (h : aw r = .ok (n, r')) : aw (r ++ 41 :: u) = .ok (n, r' ++ 41 :: u) := by
 unfold aw at h ⊢
 rw [lG]
 split at h
 · cases h
 · rename_i hn
   rw [if_neg hn]; cases h; rfl
theorem nS {r r' : Bs} {m n : Int} (u : Bs) (h : aj r = .ok (m, n, r')) : aj (r ++ 41 :: u) = .ok (m, n, r' ++ 41 :: u) := by
 unfold aj at h ⊢
 split at h
 · cases h
 rename_i m1 r1 hn
 rw [kZ u hn]
 simp only
 split at h
 · rename_i r2 ht; cases h; rw [bp _ ht]
 rename_i ht
 rw [bE u (by decide) ht]
 simp only
 split at h
 · rename_i r2 ht; cases h; rw [bp _ ht]
 rename_i ht
 rw [bE u (by decide) ht]
 simp only
 split at h
 · cases h
 rename_i r2 ht
 rw [bp _ ht]
 simp only
 split at h
 · cases h
 rename_i n1 r3 hn2
 rw [kZ u hn2]
 simp only
 split at h
 · cases h
 rename_i hlt
 rw [if_neg hlt]
 split at h
 · rename_i r4 ht4; cases h; rw [bp _ ht4]
 · cases h
theorem kJ {g : UInt8} {r r' : Bs} {c : Nat} (u : Bs) (h : be g r = .ok (c, r')) : be g (r ++ 41 :: u) = .ok (c, r' ++ 41 :: u) := by
 unfold be at h
 split at h
 · cases h
 split at h
 · rename_i c1 t r1 ht; cases h; rw [List.cons_append, be, bp _ ht]
 · cases h
theorem lg {r r' : Bs} {c : Nat} (u : Bs) (h : aS r = .ok (c, r')) : aS (r ++ 41 :: u) = .ok (c, r' ++ 41 :: u) := by
 unfold aS at h
 split at h
 · rename_i r1 ht; rw [aS.eq_def, bp _ ht]; exact kJ u h
 · rename_i ht
   split at h
   · cases h
   · cases h
     rw [aS.eq_def, bE u (by decide) ht]; rfl
theorem ql : ∀ {r a b : Bs} (u : Bs), fX r = some (a, b) → fX (r ++ 41 :: u) = some (a, b ++ 41 :: u)
 | [], a, b, u, h => by cases h
 | c :: t, a, b, u, h => by
  rw [fX] at h
  rw [List.cons_append, fX]
  split at h
  · rename_i r1 ht
    cases h
    rw [show c :: (t ++ 41 :: u) = (c :: t) ++ 41 :: u from rfl, bp _ ht]
  · rename_i ht
    rw [show c :: (t ++ 41 :: u) = (c :: t) ++ 41 :: u from rfl, bE u (by decide) ht]
    simp only
    split at h
    · rename_i a1 b1 hc
      cases h
      rw [ql u hc]
    · cases h
theorem ut {s s' : W4} {r r' : Bs} (u : Bs) (h : cr s r = .ok (s', r')) : cr s (r ++ 41 :: u) = .ok (s', r' ++ 41 :: u) := by
 unfold cr at h ⊢
 split at h
 · cases h
 rename_i name r1 hc
 rw [ql u hc]
 simp only
 split at h
 · cases h
 · rename_i x hx; cases h; rfl
theorem tw {s s' : W4} {f : Nat} {r r' : Bs} (u : Bs) (h : co s f r = .ok (s', r')) : co s f (r ++ 41 :: u) = .ok (s', r' ++ 41 :: u) := by
 unfold co at h ⊢
 split at h
 · rename_i r1 h1 h2
   rw [bp _ h1, bE u (by decide) h2]
   simp only
   split at h
   · cases h
   rename_i hb
   have hb : aq [91, 58] r1 = none ∧ aq [91, 61] r1 = none := by simpa using hb
   rw [bE u (by decide) hb.1, bE u (by decide) hb.2]
   simp only [Option.isSome_none, Bool.or_false, Bool.false_eq_true, if_false]
   split at h
   · cases h
   rename_i to_ r2 hm
   rw [lg u hm]
   simp only
   split at h
   · cases h
   · rename_i hlt; rw [if_neg hlt]; cases h; rfl
 · rename_i hne
   cases h
   cases h1 : aq [45] r with
   | none => rw [bE u (by decide) h1]
   | some r1 =>
    cases h2 : aq [45, 93] r with
    | none => exact (hne r1 h1 h2).elim
    | some r2 => rw [bp _ h1, bp _ h2]
theorem vO {s s' : W4} {r r' : Bs} (u : Bs) (h : bD s r = .ok (s', r')) : bD s (r ++ 41 :: u) = .ok (s', r' ++ 41 :: u) := by
 unfold bD at h ⊢
 split at h
 · rename_i r1 ht; rw [bp _ ht]; exact ut u h
 rename_i ht
 rw [bE u (by decide) ht]
 simp only
 split at h
 · rename_i r1 ht
   rw [bp _ ht]
   simp only
   split at h
   · cases h
   · rename_i c r2 hs; rw [kJ u hs]; cases h; rfl
 rename_i ht
 rw [bE u (by decide) ht]
 simp only
 split at h
 · cases h
 · rename_i c r1 hm; rw [lg u hm]; exact tw u h
theorem jH (u : Bs) : ∀ {k k' : Nat} {s s' : W4} {r r' : Bs}, k ≤ k' → aU k s r = .ok (s', r') → aU k' s (r ++ 41 :: u) = .ok (s', r' ++ 41 :: u)
 | 0, _, _, _, _, _, _, h => by rw [aU] at h; cases h
 | k + 1, 0, _, _, _, _, hk, _ => by omega
 | k + 1, k' + 1, s, s', r, r', hk, h => by
  rw [aU] at h ⊢
  split at h
  · cases h
  rename_i s1 r1 hi
  rw [vO u hi]
  simp only
  split at h
  · rename_i r2 ht; rw [bp _ ht]; cases h; rfl
  · rename_i ht; rw [bE u (by decide) ht]; exact jH u (by omega) h
theorem po {s' : W4} {r r' : Bs} (u : Bs) (h : bf r = .ok (s', r')) : bf (r ++ 41 :: u) = .ok (s', r' ++ 41 :: u) := by
 unfold bf at h ⊢
 split at h
 · rename_i r1 ht
   rw [bp _ ht]
   simp only
   split at h
   · cases h
   · rename_i s1 r2 hi; rw [jH u (by simp) hi]; cases h; rfl
 · rename_i ht; rw [bE u (by decide) ht]; exact jH u (by simp) h
def jf (grp : Bs → PT) : Prop := ∀ r n r' u, grp r = .ok (n, r') → grp (r ++ 41 :: u) = .ok (n, r' ++ 41 :: u)
theorem wt {grp : Bs → PT} (hg : jf grp) {r r' : Bs} {n : T} (u : Bs) (h : aN grp r = .ok (n, r')) : aN grp (r ++ 41 :: u) = .ok (n, r' ++ 41 :: u) := by
 cases r with
 | nil => rw [aN] at h; cases h
 | cons c t =>
  simp only [aN] at h
  simp only [List.cons_append, aN]
  split at h
  · rw [if_pos (by assumption)]; exact hg _ _ _ _ h
  rw [if_neg (by assumption)]
  split at h
  · rw [if_pos (by assumption)]; cases h; rfl
  rw [if_neg (by assumption)]
  split at h
  · rw [if_pos (by assumption)]; cases h; rfl
  rw [if_neg (by assumption)]
  split at h
  · rw [if_pos (by assumption)]
    split at h
    · cases h
    · rename_i s r1 hb; rw [po u hb]; cases h; rfl
  rw [if_neg (by assumption)]
  split at h
  · rw [if_pos (by assumption)]; cases h; rfl
  rw [if_neg (by assumption)]
  split at h
  · cases h
  rw [if_neg (by assumption)]
  split at h
  · rw [if_pos (by assumption)]
    split at h
    · cases h
    · cases h; rfl
  · rw [if_neg (by assumption)]; cases h; rfl
theorem ji (u : Bs) : ∀ {k k' : Nat} {n n' : T} {r r' : Bs}, r.length < k → (r ++ 41 :: u).length < k' → cG k n r = .ok (n', r') → cG k' n (r ++ 41 :: u) = .ok (n', r' ++ 41 :: u)
 | 0, _, _, _, _, _, h, _, _ => by omega
 | _, 0, _, _, _, _, _, h, _ => by omega
 | k + 1, k' + 1, n, n', r, r', hk, hk', h => by
  rw [cG] at h ⊢
  simp only [List.length_append, List.length_cons] at hk'
  split at h
  · rename_i r1 ht
    rw [bp _ ht]
    have := am ht; simp at this
    exact ji u (by omega) (by simp only [List.length_append, List.length_cons]; omega) h
  rename_i ht
  rw [bE u (by decide) ht]
  simp only
  split at h
  · rename_i r1 ht
    rw [bp _ ht]
    have := am ht; simp at this
    exact ji u (by omega) (by simp only [List.length_append, List.length_cons]; omega) h
  rename_i ht
  rw [bE u (by decide) ht]
  simp only
  split at h
  · rename_i r1 ht
    rw [bp _ ht]
    have := am ht; simp at this
    exact ji u (by omega) (by simp only [List.length_append, List.length_cons]; omega) h
  rename_i ht
  rw [bE u (by decide) ht]
  simp only
  split at h
  · rename_i r1 ht
    rw [bp _ ht]
    have := am ht; simp at this
    simp only
    split at h
    · cases h
    · rename_i m x r2 hi
      have := df hi
      rw [nS u hi]
      exact ji u (by omega) (by simp only [List.length_append, List.length_cons]; omega) h
  · rename_i ht
    rw [bE u (by decide) ht]
    cases h; rfl
theorem tF {grp : Bs → PT} (hg : jf grp) {r r' : Bs} {n : T} (u : Bs) (h : aT grp r = .ok (n, r')) : aT grp (r ++ 41 :: u) = .ok (n, r' ++ 41 :: u) := by
 unfold aT at h ⊢
 split at h
 · cases h
 · rename_i n1 r1 ha
   rw [wt hg u ha]
   exact ji u (Nat.lt_succ_self _) (Nat.lt_succ_self _) h
theorem vX (r u : Bs) : ce (r ++ 41 :: u) = ce r := by cases r <;> rfl
theorem kV {grp : Bs → PT} (hl : dR grp) (hg : jf grp) (u : Bs) : ∀ {k k' : Nat} {l l' : List T} {r r' : Bs}, r.length < k → (r ++ 41 :: u).length < k' → aI grp k l r = .ok (l', r') → aI grp k' l (r ++ 41 :: u) = .ok (l', r' ++ 41 :: u)
 | 0, _, _, _, _, _, h, _, _ => by omega
 | _, 0, _, _, _, _, _, h, _ => by omega
 | k + 1, k' + 1, l, l', r, r', hk, hk', h => by
  rw [aI] at h ⊢
  rw [vX]
  simp only [List.length_append, List.length_cons] at hk'
  split at h
  · rw [if_pos (by assumption)]; cases h; rfl
  rw [if_neg (by assumption)]
  split at h
  · cases h
  · rename_i n r1 hp
    rw [tF hg u hp]
    have := gM hl hp
    exact kV hl hg u (by omega) (by simp only [List.length_append, List.length_cons]; omega) h
theorem sh {grp : Bs → PT} (hl : dR grp) (hg : jf grp) {r r' : Bs} {n : T} (u : Bs) (h : dL grp r = .ok (n, r')) : dL grp (r ++ 41 :: u) = .ok (n, r' ++ 41 :: u) := by
 unfold dL at h ⊢
 split at h
 · cases h
 · rename_i l r1 hp
   rw [kV hl hg u (Nat.lt_succ_self _) (Nat.lt_succ_self _) hp]
   cases h; rfl
theorem qt {grp : Bs → PT} (hl : dR grp) (hg : jf grp) (u : Bs) : ∀ {k k' : Nat} {l l' : List T} {r r' : Bs}, r.length < k → (r ++ 41 :: u).length < k' → bX grp k l r = .ok (l', r') → bX grp k' l (r ++ 41 :: u) = .ok (l', r' ++ 41 :: u)
 | 0, _, _, _, _, _, h, _, _ => by omega
 | _, 0, _, _, _, _, _, h, _ => by omega
 | k + 1, k' + 1, l, l', r, r', hk, hk', h => by
  rw [bX] at h ⊢
  simp only [List.length_append, List.length_cons] at hk'
  split at h
  · rename_i ht; rw [bE u (by decide) ht]; cases h; rfl
  rename_i r1 ht
  rw [bp _ ht]
  have := am ht; simp at this
  simp only
  split at h
  · cases h
  · rename_i n r2 hp
    rw [sh hl hg u hp]
    have := ga hl hp
    exact qt hl hg u (by omega) (by simp only [List.length_append, List.length_cons]; omega) h
theorem lI {grp : Bs → PT} (hl : dR grp) (hg : jf grp) {r r' : Bs} {n : T} (u : Bs) (h : av grp r = .ok (n, r')) : av grp (r ++ 41 :: u) = .ok (n, r' ++ 41 :: u) := by
 unfold av at h ⊢
 split at h
 · cases h
 rename_i n1 r1 hr
 rw [sh hl hg u hr]
 simp only
 split at h
 · cases h
 · rename_i l r2 ha
   rw [qt hl hg u (Nat.lt_succ_self _) (Nat.lt_succ_self _) ha]
   cases h; rfl
theorem nC : ∀ d, jf (aE d)
 | 0, r, n, r', u, h => by rw [aE] at h; cases h
 | d + 1, r, n, r', u, h => by
  rw [aE] at h ⊢
  split at h
  · cases h
  rename_i n1 r1 hc
  rw [lI (dG d) (nC d) u hc]
  simp only
  split at h
  · rename_i r2 ht; rw [bp _ ht]; cases h; rfl
  · cases h
def qy {α : Type} (f g : Bs → Except Int α) : Prop := ∀ r v, f r = .ok v → g r = .ok v ∨ g r = .error 3
theorem uF {f g : Bs → PT} (h : qy f g) : qy (aN f) (aN g) := fun r v hv => by
 cases r with
 | nil => rw [aN] at hv; cases hv
 | cons c t =>
  by_cases hc : c = 40
  · subst hc; rw [rW] at hv ⊢; exact h t v hv
  · left
    simp only [aN, if_neg hc] at hv ⊢
    exact hv
theorem rb {f g : Bs → PT} (h : qy f g) : qy (aT f) (aT g) := fun r v hv => by
 unfold aT at hv ⊢
 split at hv
 · cases hv
 rename_i n r1 ha
 rcases uF h r _ ha with e | e
 · rw [e]; exact .inl hv
 · rw [e]; exact .inr rfl
theorem jY {f g : Bs → PT} (h : qy f g) : ∀ (k : Nat) (l : List T), qy (aI f k l) (aI g k l)
 | 0, l => fun r v hv => .inl hv
 | k + 1, l => fun r v hv => by
  rw [aI] at hv ⊢
  split at hv
  · rw [if_pos (by assumption)]; exact .inl hv
  rw [if_neg (by assumption)]
  split at hv
  · cases hv
  rename_i n r1 hp
  rcases rb h r _ hp with e | e
  · rw [e]; exact jY h k _ r1 v hv
  · rw [e]; exact .inr rfl
theorem pI {f g : Bs → PT} (h : qy f g) : qy (dL f) (dL g) := fun r v hv => by
 unfold dL at hv ⊢
 split at hv
 · cases hv
 rename_i l r1 hp
 rcases jY h _ _ r _ hp with e | e
 · rw [e]; exact .inl hv
 · rw [e]; exact .inr rfl
theorem nJ {f g : Bs → PT} (h : qy f g) : ∀ (k : Nat) (l : List T), qy (bX f k l) (bX g k l)
 | 0, l => fun r v hv => .inl hv
 | k + 1, l => fun r v hv => by
  rw [bX] at hv ⊢
  split at hv
  · exact .inl hv
  rename_i r1 ht
  split at hv
  · cases hv
  rename_i n r2 hp
  rcases pI h r1 _ hp with e | e
  · rw [e]; exact nJ h k _ r2 v hv
  · rw [e]; exact .inr rfl
theorem kd {f g : Bs → PT} (h : qy f g) : qy (av f) (av g) := fun r v hv => by
 unfold av at hv ⊢
 split at hv
 · cases hv
 rename_i n r1 hr
 rcases pI h r _ hr with e | e
 · rw [e]
   simp only
   split at hv
   · cases hv
   rename_i l r2 ha
   rcases nJ h _ _ r1 _ ha with e | e
   · rw [e]; exact .inl hv
   · rw [e]; exact .inr rfl
 · rw [e]; exact .inr rfl
theorem lz : ∀ {d d' : Nat}, d' ≤ d → qy (aE d) (aE d')
 | d, 0, _ => fun r v _ => .inr rfl
 | 0, d' + 1, h => by omega
 | d + 1, d' + 1, h => fun r v hv => by
  rw [aE] at hv ⊢
  split at hv
  · cases hv
  rename_i n r1 hc
  rcases kd (lz (d := d) (d' := d') (by omega)) r _ hc with e | e
  · rw [e]; exact .inl hv
  · rw [e]; exact .inr rfl
theorem pQ {a : Bs} {x : T} (h : aY a = .ok x) : a.length ≤ 1024 ∧ av (aE 64) a = .ok (x, []) := by
 unfold aY at h
 split at h
 · cases h
 rename_i hl
 split at h
 · cases h
 · rename_i n hc; cases h; exact ⟨by omega, hc⟩
 · cases h
theorem vQ {a : Bs} {x : T} (h : aY a = .ok x) (u : Bs) : aN (aE 64) (40 :: (a ++ 41 :: u)) = .ok (x, u) ∨ aN (aE 64) (40 :: (a ++ 41 :: u)) = .error 3 := by
 have h1 := lI (dG 64) (nC 64) u (pQ h).2
 rw [rW, aE]
 rcases kd (lz (d := 64) (d' := 63) (by omega)) _ _ h1 with e | e
 · rw [e]; left; simp only [List.nil_append, aH, if_true]
 · rw [e]; exact .inr rfl
theorem jI {a : Bs} {x : T} (h : aY a = .ok x) (u : Bs) : aT (aE 64) (40 :: (a ++ 41 :: u)) = cG (u.length + 1) x u ∨ aT (aE 64) (40 :: (a ++ 41 :: u)) = .error 3 := by
 unfold aT
 rcases vQ h u with e | e
 · rw [e]; exact .inl rfl
 · rw [e]; exact .inr rfl
theorem pu (t : Bs) : ce (40 :: t) = false := rfl
theorem ow {grp : Bs → PT} {r q : Bs} {n : T} (hr : ce r = false) (hp : aT grp r = .ok (n, q)) (hq : ce q = true) (hl : q.length < r.length) : dL grp r = .ok (n, q) := by
 obtain ⟨m, hm⟩ : ∃ m, r.length = m + 1 := ⟨r.length - 1, by omega⟩
 rw [dL, hm, aI, hr, hp]
 simp only [Bool.false_eq_true, if_false]
 rw [aI, if_pos hq]
 rfl
theorem oq {grp : Bs → PT} {r : Bs} {e : Int} (hr : ce r = false) (hp : aT grp r = .error e) : dL grp r = .error e := by
 rw [dL, aI, hr, hp]
 simp only [Bool.false_eq_true, if_false]
theorem rF {grp : Bs → PT} {r q : Bs} {n : T} (hr : dL grp r = .ok (n, q)) (hq : aq [124] q = none) : av grp r = .ok (n, q) := by
 rw [av, hr]
 simp only
 rw [bX, hq]
 rfl
theorem ge {a : Bs} {x : T} {m n : Int} {q : Bs} (h : aY a = .ok x) (hl : a.length + q.length + 2 ≤ 1024) (hs : ∀ k t, cG (k + q.length + 1) t q = .ok (cO m n t, [])) : aY (40 :: (a ++ 41 :: q)) = .ok (cO m n x) ∨ aY (40 :: (a ++ 41 :: q)) = .error 3 := by
 have hlen : (40 :: (a ++ 41 :: q)).length ≤ 1024 := by simp; omega
 unfold aY
 rw [if_neg (by omega)]
 rcases jI h q with e | e
 · have hs0 := hs 0 x
   rw [Nat.zero_add] at hs0
   rw [hs0] at e
   rw [rF (ow (pu _) e rfl (by simp)) rfl]
   exact .inl rfl
 · rw [av, oq (pu _) e]
   exact .inr rfl
theorem uT (k : Nat) (t : T) : cG (k + 3 + 1) t [123, 49, 125] = .ok (cO 1 1 t, []) := by
 have := fJ (m := 1) (n := 1) ⟨by decide, by decide, by decide, .inr (by decide)⟩ (k + 3) t []
 rw [show bH 1 1 ++ [] = [123, 49, 125] by decide] at this
 rw [this]; rfl
theorem uS (k : Nat) (t : T) : cG (k + 1 + 1) t [43] = .ok (cO 1 (-1) t, []) := by
 have := fJ (m := 1) (n := -1) ⟨by decide, by decide, by decide, .inl rfl⟩ (k + 1) t []
 rw [show bH 1 (-1) ++ [] = [43] by decide] at this
 rw [this]; rfl
theorem sV (k : Nat) (t : T) : cG (k + 1 + 1) t [63] = .ok (cO 0 1 t, []) := by
 have := fJ (m := 0) (n := 1) ⟨by decide, by decide, by decide, .inr (by decide)⟩ (k + 1) t []
 rw [show bH 0 1 ++ [] = [63] by decide] at this
 rw [this]; rfl
theorem tJ {a b : Bs} {x y : T} (ha : aY a = .ok x) (hb : aY b = .ok y) (hl : a.length + b.length + 5 ≤ 1024) :
 aY (40 :: (a ++ 41 :: (124 :: 40 :: (b ++ [41])))) = .ok (.mk 5 0 0 0 0 0 0 [x, y]) ∨ aY (40 :: (a ++ 41 :: (124 :: 40 :: (b ++ [41])))) = .error 3 := by
 unfold aY
 rw [if_neg (by simp; omega)]
 generalize hr : 40 :: (a ++ 41 :: (124 :: 40 :: (b ++ [41]))) = r
 have hrl : r.length = a.length + b.length + 5 := by subst hr; simp; omega
 have he : ce r = false := by subst hr; rfl
 rcases jI ha (124 :: 40 :: (b ++ [41])) with e | e
 · rw [gu _ _ (fun c t e => by cases e; decide), hr] at e
   have h1 := ow he e rfl (by rw [hrl]; simp; omega)
   rcases jI hb [] with e2 | e2
   · rw [gu _ _ (fun c t e => by cases e)] at e2
     have h2 := ow (pu _) e2 rfl (by simp)
     have hc : av (aE 64) r = .ok (.mk 5 0 0 0 0 0 0 [x, y], []) := by
      rw [av, h1]
      simp only
      rw [List.length_cons, bX, aH, if_pos rfl]
      simp only
      rw [h2]
      simp only
      rw [List.length_cons, bX, dT _ (by simp)]
      rfl
     rw [hc]
     exact .inl rfl
   · have hc : av (aE 64) r = .error 3 := by
      rw [av, h1]
      simp only
      rw [List.length_cons, bX, aH, if_pos rfl]
      simp only
      rw [oq (pu _) e2]
     rw [hc]
     exact .inr rfl
 · rw [hr] at e
   rw [av, oq he e]
   exact .inr rfl
def Fine (n : T) (m : Int) : Prop := aC n = true ∧ Words n ∧ aW n ≤ m
def lO (f : Bs → PT) : Prop := ∀ r n r1, f r = .ok (n, r1) → r1.length < r.length ∧ Fine n (2 * ((r.length : Int) - r1.length) - 1)
theorem Fine.mono {n : T} {m m' : Int} (h : Fine n m) (k : m ≤ m') : Fine n m' := ⟨h.1, h.2.1, Int.le_trans h.2.2 k⟩
theorem ip : ∀ (k : Nat) {s s' : W4} {r r' : Bs}, Wok s → aU k s r = .ok (s', r') → Wok s' ∧ r'.length < r.length
 | 0, _, _, _, _, _, h => by simp [aU] at h
 | k + 1, s, s', r, r', hs, h => by
  rw [aU] at h
  cases hi : bD s r with
  | error e => rw [hi] at h; simp at h
  | ok v =>
   obtain ⟨s1, r1⟩ := v
   rw [hi] at h
   have h1 := jn hs hi
   have h2 := jo hi
   simp only at h
   cases ht : aq [93] r1 with
   | some r2 =>
    rw [ht] at h
    simp only [Except.ok.injEq, Prod.mk.injEq] at h
    obtain ⟨rfl, rfl⟩ := h
    have := am ht
    exact ⟨h1, by omega⟩
   | none =>
    rw [ht] at h
    have := ip k h1 h
    exact ⟨this.1, by omega⟩
theorem nX {s : W4} {r r' : Bs} (h : bf r = .ok (s, r')) : Wok s ∧ r'.length < r.length := by
 unfold bf at h
 cases ht : aq [94] r with
 | none => rw [ht] at h; exact ip _ mM h
 | some r1 =>
  rw [ht] at h
  have := am ht
  simp only at h
  cases hi : aU (r1.length + 1) w40 r1 with
  | error e => rw [hi] at h; simp at h
  | ok v =>
   obtain ⟨s1, r2⟩ := v
   rw [hi] at h
   simp only [Except.ok.injEq, Prod.mk.injEq] at h
   obtain ⟨rfl, rfl⟩ := h
   have := ip _ mM hi
   exact ⟨wI this.1, by omega⟩
theorem dH (k : Int) (hk : k = 0 ∨ k = 2 ∨ k = 3) : Fine (.mk k 0 0 0 0 0 0 []) 1 := by
 refine ⟨?_, .mk _ mM (fun p hp => by cases hp), by rw [aW, az]; omega⟩
 rcases hk with rfl | rfl | rfl <;> decide
theorem gD {s : W4} (h : Wok s) : Fine s.T 1 := by
 refine ⟨?_, .mk _ h (fun p hp => by cases hp), by unfold W4.T; rw [aW, az]; omega⟩
 unfold W4.T
 rw [aC]
 simp
theorem uG {grp : Bs → PT} (hg : lO grp) : lO (aN grp) := fun r n r1 h => by
 unfold aN at h
 cases r with
 | nil => simp at h
 | cons c t =>
  simp only at h
  split at h
  · have := hg _ _ _ h
    exact ⟨by simp; omega, this.2.mono (by simp; omega)⟩
  split at h
  · simp only [Except.ok.injEq, Prod.mk.injEq] at h
    obtain ⟨rfl, rfl⟩ := h
    exact ⟨by simp, (dH 2 (by simp)).mono (by simp; omega)⟩
  split at h
  · simp only [Except.ok.injEq, Prod.mk.injEq] at h
    obtain ⟨rfl, rfl⟩ := h
    exact ⟨by simp, (dH 3 (by simp)).mono (by simp; omega)⟩
  split at h
  · cases hb : bf t with
    | error e => rw [hb] at h; simp at h
    | ok v =>
     obtain ⟨s, r2⟩ := v
     rw [hb] at h
     simp only [Except.ok.injEq, Prod.mk.injEq] at h
     obtain ⟨rfl, rfl⟩ := h
     have := nX hb
     exact ⟨by simp; omega, (gD this.1).mono (by simp; omega)⟩
  split at h
  · simp only [Except.ok.injEq, Prod.mk.injEq] at h
    obtain ⟨rfl, rfl⟩ := h
    exact ⟨by simp, (gD (gI mM 0 256 (by omega)).1).mono (by simp; omega)⟩
  split at h
  · simp at h
  split at h
  · cases t with
    | nil => simp at h
    | cons x t' =>
     simp only [Except.ok.injEq, Prod.mk.injEq] at h
     obtain ⟨rfl, rfl⟩ := h
     exact ⟨by simp; omega, (gD (iE mM _ x.toNat_lt)).mono (by simp; omega)⟩
  · simp only [Except.ok.injEq, Prod.mk.injEq] at h
    obtain ⟨rfl, rfl⟩ := h
    exact ⟨by simp, (gD (iE mM _ c.toNat_lt)).mono (by simp; omega)⟩
theorem vT {m n : Int} {x : T} {k : Int} (hx : Fine x k) (h0 : 0 ≤ m) (h1 : max m n ≤ 255) (h2 : n = -1 ∨ m ≤ n) : Fine (cO m n x) (k + 1) := by
 obtain ⟨a, b, c⟩ := hx
 refine ⟨?_, .mk _ mM (fun p hp => by rw [show (cO m n x).ps = [x] from rfl, List.mem_singleton] at hp; subst hp; exact b), by unfold cO; rw [aW, az, az]; omega⟩
 unfold cO
 rw [aC, cD, cD, a]
 simp
 omega
theorem ka {r r' : Bs} {n : Int} (h : aw r = .ok (n, r')) : 0 ≤ n ∧ n ≤ 255 := by
 unfold aw at h
 have := jN 4 0 0 r (by omega) (by omega) (by unfold eY; omega)
 split at h
 · simp at h
 · rename_i hn
   simp only [Except.ok.injEq, Prod.mk.injEq] at h
   obtain ⟨rfl, rfl⟩ := h
   exact ⟨this.1, by omega⟩
theorem mL {r r' : Bs} {m n : Int} (h : aj r = .ok (m, n, r')) : 0 ≤ m ∧ max m n ≤ 255 ∧ (n = -1 ∨ m ≤ n) := by
 unfold aj at h
 cases hn : aw r with
 | error e => rw [hn] at h; simp at h
 | ok v =>
  obtain ⟨a, r1⟩ := v
  rw [hn] at h
  have ha := ka hn
  simp only at h
  cases h1 : aq [125] r1 with
  | some r2 =>
   rw [h1] at h
   simp only [Except.ok.injEq, Prod.mk.injEq] at h
   obtain ⟨rfl, rfl, rfl⟩ := h
   omega
  | none =>
   rw [h1] at h
   simp only at h
   cases h2 : aq [44, 125] r1 with
   | some r2 =>
    rw [h2] at h
    simp only [Except.ok.injEq, Prod.mk.injEq] at h
    obtain ⟨rfl, rfl, rfl⟩ := h
    omega
   | none =>
    rw [h2] at h
    simp only at h
    cases h3 : aq [44] r1 with
    | none => rw [h3] at h; simp at h
    | some r2 =>
     rw [h3] at h
     simp only at h
     cases h4 : aw r2 with
     | error e => rw [h4] at h; simp at h
     | ok v =>
      obtain ⟨b, r3⟩ := v
      rw [h4] at h
      have hb := ka h4
      simp only at h
      split at h
      · simp at h
      · cases h5 : aq [125] r3 with
        | none => rw [h5] at h; simp at h
        | some r4 =>
         rw [h5] at h
         simp only [Except.ok.injEq, Prod.mk.injEq] at h
         obtain ⟨rfl, rfl, rfl⟩ := h
         omega
theorem py : ∀ (k : Nat) {n n' : T} {r r' : Bs} {m : Int}, Fine n m → cG k n r = .ok (n', r') → r'.length ≤ r.length ∧ Fine n' (m + 2 * ((r.length : Int) - r'.length))
 | 0, n, n', r, r', m, hn, h => by
  rw [cG] at h
  simp only [Except.ok.injEq, Prod.mk.injEq] at h
  obtain ⟨rfl, rfl⟩ := h
  exact ⟨Nat.le_refl _, hn.mono (by omega)⟩
 | k + 1, n, n', r, r', m, hn, h => by
  rw [cG] at h
  have go : ∀ (a b : Int) (r1 : Bs), 0 ≤ a → max a b ≤ 255 → (b = -1 ∨ a ≤ b) → r1.length < r.length → cG k (cO a b n) r1 = .ok (n', r') → r'.length ≤ r.length ∧ Fine n' (m + 2 * ((r.length : Int) - r'.length)) := fun a b r1 h0 h1 h2 hl hh => by
   have := py k (vT hn h0 h1 h2) hh
   exact ⟨by omega, this.2.mono (by omega)⟩
  cases h1 : aq [42] r with
  | some r1 =>
   rw [h1] at h
   have := am h1
   exact go 0 (-1) r1 (by omega) (by omega) (.inl rfl) (by simp at this; omega) h
  | none =>
   rw [h1] at h
   simp only at h
   cases h2 : aq [43] r with
   | some r1 =>
    rw [h2] at h
    have := am h2
    exact go 1 (-1) r1 (by omega) (by omega) (.inl rfl) (by simp at this; omega) h
   | none =>
    rw [h2] at h
    simp only at h
    cases h3 : aq [63] r with
    | some r1 =>
     rw [h3] at h
     have := am h3
     exact go 0 1 r1 (by omega) (by omega) (.inr (by omega)) (by simp at this; omega) h
    | none =>
     rw [h3] at h
     simp only at h
     cases h4 : aq [123] r with
     | none =>
      rw [h4] at h
      simp only [Except.ok.injEq, Prod.mk.injEq] at h
      obtain ⟨rfl, rfl⟩ := h
      exact ⟨Nat.le_refl _, hn.mono (by omega)⟩
     | some r1 =>
      rw [h4] at h
      have := am h4
      simp only at h
      cases h5 : aj r1 with
      | error e => rw [h5] at h; simp at h
      | ok v =>
       obtain ⟨a, b, r2⟩ := v
       rw [h5] at h
       have h6 := mL h5
       have h7 := df h5
       exact go a b r2 h6.1 h6.2.1 h6.2.2 (by simp at this; omega) h
theorem rc {grp : Bs → PT} (hg : lO grp) : lO (aT grp) := fun r n r1 h => by
 unfold aT at h
 cases ha : aN grp r with
 | error e => rw [ha] at h; simp at h
 | ok v =>
  obtain ⟨n0, r0⟩ := v
  rw [ha] at h
  have h1 := uG hg _ _ _ ha
  have h2 := py _ h1.2 h
  exact ⟨by omega, h2.2.mono (by omega)⟩
theorem rj (a b : List T) : az (a ++ b) = az a + az b := by
 induction a with
 | nil => rw [List.nil_append]; rw [show az [] = 0 by rw [az]]; omega
 | cons p a ih => rw [List.cons_append, az, az, ih]; omega
theorem kQ : ∀ {l : List T}, (∀ p ∈ l, aC p = true) → cD l = true
 | [], _ => by rw [cD]
 | p :: l, h => by rw [cD, h p (by simp), kQ (fun q hq => h q (by simp [hq]))]; rfl
theorem jZ {grp : Bs → PT} (hg : lO grp) : ∀ (k : Nat) {l l' : List T} {r r' : Bs}, aI grp k l r = .ok (l', r') → r'.length ≤ r.length ∧ ∃ l2, l' = l ++ l2 ∧ (∀ p ∈ l2, aC p = true ∧ Words p) ∧ az l2 ≤ 2 * ((r.length : Int) - r'.length) - l2.length ∧ l2.length ≤ r.length - r'.length
 | 0, l, l', r, r', h => by
  rw [aI] at h
  simp only [Except.ok.injEq, Prod.mk.injEq] at h
  obtain ⟨rfl, rfl⟩ := h
  exact ⟨Nat.le_refl _, [], by simp, by simp, by rw [az]; simp, by simp⟩
 | k + 1, l, l', r, r', h => by
  rw [aI] at h
  split at h
  · simp only [Except.ok.injEq, Prod.mk.injEq] at h
    obtain ⟨rfl, rfl⟩ := h
    exact ⟨Nat.le_refl _, [], by simp, by simp, by rw [az]; simp, by simp⟩
  · cases hp : aT grp r with
    | error e => rw [hp] at h; simp at h
    | ok v =>
     obtain ⟨n, r1⟩ := v
     rw [hp] at h
     have h1 := rc hg _ _ _ hp
     obtain ⟨h2, l2, rfl, h3, h4, h5⟩ := jZ hg k h
     obtain ⟨g1, g2, g3, g4⟩ := h1
     refine ⟨by omega, n :: l2, by simp, fun p hp => ?_, by rw [az]; simp only [List.length_cons]; omega, by simp only [List.length_cons]; omega⟩
     rcases List.mem_cons.1 hp with rfl | hp
     · exact ⟨g2, g3⟩
     · exact h3 p hp
theorem jL {k : Int} (hk : k = 4 ∨ k = 5) {l : List T} (h : ∀ p ∈ l, aC p = true ∧ Words p) (h2 : 2 ≤ l.length) : Fine (.mk k 0 0 0 0 0 0 l) (1 + az l) := by
 refine ⟨?_, .mk _ mM (fun p hp => (h p hp).2), by rw [aW]; omega⟩
 rw [aC, kQ (fun p hp => (h p hp).1)]
 rcases hk with rfl | rfl <;> simp <;> omega
theorem pM {grp : Bs → PT} (hg : lO grp) {r r' : Bs} {n : T} (h : dL grp r = .ok (n, r')) : r'.length ≤ r.length ∧ Fine n (2 * ((r.length : Int) - r'.length) + 1) ∧ (r'.length < r.length → Fine n (2 * ((r.length : Int) - r'.length) - 1)) := by
 unfold dL at h
 cases hp : aI grp (r.length + 1) [] r with
 | error e => rw [hp] at h; simp at h
 | ok v =>
  obtain ⟨l, r1⟩ := v
  rw [hp] at h
  simp only [Except.ok.injEq, Prod.mk.injEq] at h
  obtain ⟨rfl, rfl⟩ := h
  obtain ⟨h1, l2, h2, h3, h4, h5⟩ := jZ hg _ hp
  rw [List.nil_append] at h2
  subst h2
  refine ⟨h1, ?_⟩
  match l, h3, h4, h5 with
  | [], _, _, _ => exact ⟨(dH 0 (by simp)).mono (by omega), fun hl => (dH 0 (by simp)).mono (by omega)⟩
  | [n], h3, h4, h5 =>
   rw [az, az] at h4
   simp only [List.length_cons, List.length_nil] at h4 h5
   have hF : Fine n (2 * ((r.length : Int) - r1.length) - 1) := ⟨(h3 n (by simp)).1, (h3 n (by simp)).2, by omega⟩
   exact ⟨hF.mono (by omega), fun _ => hF⟩
  | a :: b :: l, h3, h4, h5 =>
   have hF := jL (k := 4) (.inl rfl) h3 (by simp)
   simp only [List.length_cons] at h4 h5
   have hF' : Fine (bW 4 (a :: b :: l)) (2 * ((r.length : Int) - r1.length) - 1) := hF.mono (by omega)
   exact ⟨hF'.mono (by omega), fun _ => hF'⟩
theorem nK {grp : Bs → PT} (hg : lO grp) : ∀ (k : Nat) {l l' : List T} {r r' : Bs} (C : Int), (∀ p ∈ l, aC p = true ∧ Words p) → az l ≤ 2 * C + 2 - l.length → (C = (l.length : Int) - 1 ∨ az l ≤ 2 * C - l.length) → 1 ≤ l.length →
 bX grp k l r = .ok (l', r') → r'.length ≤ r.length ∧ (∀ p ∈ l', aC p = true ∧ Words p) ∧ 1 ≤ l'.length ∧ az l' ≤ 2 * (C + ((r.length : Int) - r'.length)) + 2 - l'.length ∧ (C + ((r.length : Int) - r'.length) = (l'.length : Int) - 1 ∨ az l' ≤ 2 * (C + ((r.length : Int) - r'.length)) - l'.length) ∧ (l'.length = l.length → r' = r ∧ l' = l)
 | 0, l, l', r, r', C, hl, h1, h2, h0, h => by
  rw [bX] at h
  simp only [Except.ok.injEq, Prod.mk.injEq] at h
  obtain ⟨rfl, rfl⟩ := h
  exact ⟨Nat.le_refl _, hl, h0, by omega, by omega, fun _ => ⟨rfl, rfl⟩⟩
 | k + 1, l, l', r, r', C, hl, h1, h2, h0, h => by
  rw [bX] at h
  cases ht : aq [124] r with
  | none =>
   rw [ht] at h
   simp only [Except.ok.injEq, Prod.mk.injEq] at h
   obtain ⟨rfl, rfl⟩ := h
   exact ⟨Nat.le_refl _, hl, h0, by omega, by omega, fun _ => ⟨rfl, rfl⟩⟩
  | some r1 =>
   rw [ht] at h
   have hlen := am ht
   simp only [List.length_cons, List.length_nil] at hlen
   simp only at h
   cases hr : dL grp r1 with
   | error e => rw [hr] at h; simp at h
   | ok v =>
    obtain ⟨n, r2⟩ := v
    rw [hr] at h
    obtain ⟨g1, g2, g3⟩ := pM hg hr
    have hN : az (l ++ [n]) = az l + aW n := by rw [rj, az, az]; omega
    have hlen2 : (l ++ [n]).length = l.length + 1 := by simp
    have hb : aW n ≤ 2 * ((r1.length : Int) - r2.length) + 1 := g2.2.2
    have hc : r2.length < r1.length → aW n ≤ 2 * ((r1.length : Int) - r2.length) - 1 := fun hh => (g3 hh).2.2
    have hdis : C + 1 + ((r1.length : Int) - r2.length) = ((l ++ [n]).length : Int) - 1 ∨ az (l ++ [n]) ≤ 2 * (C + 1 + ((r1.length : Int) - r2.length)) - (l ++ [n]).length := by
     rw [hN, hlen2]
     by_cases hh : r2.length < r1.length
     · have := hc hh; omega
     · omega
    have := nK hg k (C + 1 + ((r1.length : Int) - r2.length)) (l := l ++ [n]) (fun p hp => by
     rcases List.mem_append.1 hp with hp | hp
     · exact hl p hp
     · rw [List.mem_singleton] at hp; subst hp; exact ⟨g2.1, g2.2.1⟩) (by rw [hN, hlen2]; omega) (hdis) (by omega) h
    obtain ⟨e1, e2, e3, e4, e5, e6⟩ := this
    refine ⟨by omega, e2, e3, by omega, by omega, fun e => ?_⟩
    exfalso
    have : l.length + 1 ≤ l'.length := by
     have hmono : ∀ (k : Nat) (l l' : List T) (r r' : Bs), bX grp k l r = .ok (l', r') → l.length ≤ l'.length := by
      intro k
      induction k with
      | zero =>
       intro l l' r r' hh
       rw [bX] at hh
       simp only [Except.ok.injEq, Prod.mk.injEq] at hh
       obtain ⟨rfl, rfl⟩ := hh
       exact Nat.le_refl _
      | succ k ih =>
       intro l l' r r' hh
       rw [bX] at hh
       split at hh
       · simp only [Except.ok.injEq, Prod.mk.injEq] at hh
         obtain ⟨rfl, rfl⟩ := hh
         exact Nat.le_refl _
       · split at hh
         · simp at hh
         · have := ih _ _ _ _ hh
           simp at this
           omega
     have := hmono _ _ _ _ _ h
     omega
    omega
theorem kg {grp : Bs → PT} (hg : lO grp) {r r' : Bs} {n : T} (h : av grp r = .ok (n, r')) : r'.length ≤ r.length ∧ Fine n (2 * ((r.length : Int) - r'.length) + 1) ∧ (r'.length + 2 ≤ r.length → Fine n (2 * ((r.length : Int) - r'.length))) := by
 unfold av at h
 cases hr : dL grp r with
 | error e => rw [hr] at h; simp at h
 | ok v =>
  obtain ⟨n0, r1⟩ := v
  rw [hr] at h
  obtain ⟨g1, g2, g3⟩ := pM hg hr
  simp only at h
  cases ha : bX grp (r1.length + 1) [n0] r1 with
  | error e => rw [ha] at h; simp at h
  | ok v =>
   obtain ⟨l, r2⟩ := v
   rw [ha] at h
   simp only [Except.ok.injEq, Prod.mk.injEq] at h
   obtain ⟨rfl, rfl⟩ := h
   have hb : aW n0 ≤ 2 * ((r.length : Int) - r1.length) + 1 := g2.2.2
   have hc : r1.length < r.length → aW n0 ≤ 2 * ((r.length : Int) - r1.length) - 1 := fun hh => (g3 hh).2.2
   have hN : az [n0] = aW n0 := by rw [az, az]; omega
   have hdis : ((r.length : Int) - r1.length) = (([n0] : List T).length : Int) - 1 ∨ az [n0] ≤ 2 * ((r.length : Int) - r1.length) - ([n0] : List T).length := by
    rw [hN]
    simp only [List.length_cons, List.length_nil]
    by_cases hh : r1.length < r.length
    · have := hc hh; omega
    · omega
   obtain ⟨e1, e2, e3, e4, e5, e6⟩ := nK hg _ ((r.length : Int) - r1.length) (l := [n0]) (fun p hp => by rw [List.mem_singleton] at hp; subst hp; exact ⟨g2.1, g2.2.1⟩) (by rw [hN]; simp; omega) (hdis) (by simp) ha
   refine ⟨by omega, ?_⟩
   match l, e2, e3, e4, e5, e6 with
   | [n], e2, e3, e4, e5, e6 =>
    obtain ⟨rfl, q⟩ := e6 rfl
    simp only [List.cons.injEq, and_true] at q
    subst q
    exact ⟨g2, fun hh => (g3 (by omega)).mono (by omega)⟩
   | a :: b :: l, e2, e3, e4, e5, e6 =>
    have hF := jL (k := 5) (.inr rfl) e2 (by simp)
    simp only [List.length_cons] at e4 e5
    exact ⟨hF.mono (by omega), fun hh => hF.mono (by omega)⟩
theorem lA : ∀ d, lO (aE d)
 | 0 => fun r n r1 h => by simp [aE] at h
 | d + 1 => fun r n r1 h => by
  rw [aE] at h
  cases hc : av (aE d) r with
  | error e => rw [hc] at h; simp at h
  | ok v =>
   obtain ⟨n0, r0⟩ := v
   rw [hc] at h
   have h1 := kg (lA d) hc
   simp only at h
   cases ht : aq [41] r0 with
   | none => rw [ht] at h; simp at h
   | some r2 =>
    rw [ht] at h
    have := am ht
    simp only [List.length_cons, List.length_nil] at this
    simp only [Except.ok.injEq, Prod.mk.injEq] at h
    obtain ⟨rfl, rfl⟩ := h
    exact ⟨by omega, h1.2.1.mono (by omega)⟩
theorem rg {s : Bs} {t : T} (h : aY s = .ok t) : aC t = true ∧ Words t ∧ aW t ≤ 2048 := by
 obtain ⟨h1, h2⟩ := pQ h
 have h3 := kg (lA 64) h2
 obtain ⟨a, b, c⟩ := h3.2.1
 refine ⟨a, b, ?_⟩
 simp only [List.length_nil] at c h3
 by_cases hs : 2 ≤ s.length
 · have := (h3.2.2 (by omega)).2.2
   omega
 · omega
def iL (p : LF) : Prop := ∀ t l, (∀ s ∈ l, WSt s) → ∀ s ∈ (p t l).2, WSt s
theorem xR (k nx ot : Int) : WSt ⟨k, 0, 0, 0, 0, nx, ot⟩ := mM
theorem fC {l : List St} {x : St} (h : ∀ s ∈ l, WSt s) (hx : WSt x) : ∀ s ∈ l ++ [x], WSt s := fun s hs => by
 rcases List.mem_append.1 hs with hs | hs
 · exact h s hs
 · simp only [List.mem_singleton] at hs; subst hs; exact hx
theorem sL {l : List St} (h : ∀ s ∈ l, WSt s) (i : Nat) (x : Int) : ∀ s ∈ setNx l i x, WSt s := fun s hs => by
 obtain ⟨j, hj⟩ := List.mem_iff_getElem?.1 hs
 unfold setNx at hj
 rw [List.getElem?_modify] at hj
 obtain ⟨y, hy, rfl⟩ := Option.map_eq_some_iff.1 hj
 have := h y (List.mem_of_getElem? hy)
 split
 · exact this
 · exact this
theorem mZ : ∀ (bs : List Int) (l : List St), (∀ s ∈ l, WSt s) → ∀ s ∈ (aF bs l).2, WSt s
 | [], l, h => by simpa [aF] using h
 | [x], l, h => by simpa [aF] using h
 | a :: b :: bs, l, h => by
  rw [aF]
  · exact fC (mZ (b :: bs) l h) (xR _ _ _)
  · simp
theorem wG {p : LF} (hp : iL p) (tu : Int) : ∀ n, iL (da p tu n)
 | 0, t, l, h => by simpa [da] using h
 | n + 1, t, l, h => by rw [da]; exact wG hp tu n _ _ (fC (hp t l h) (xR _ _ _))
theorem rQ {p : LF} (hp : iL p) : ∀ n, iL (dE p n)
 | 0, t, l, h => by simpa [dE] using h
 | n + 1, t, l, h => by
  rw [dE]
  split
  · exact hp t l h
  · exact rQ hp n _ _ (hp t l h)
theorem wW {p : LF} (hp : iL p) (tu : Int) (l : List St) (h : ∀ s ∈ l, WSt s) : ∀ s ∈ (bT p tu l).2, WSt s := by
 unfold bT
 exact sL (hp _ _ (fC h (xR _ _ _))) _ _
theorem yt {p : LF} (hp : iL p) (mn mx : Int) : iL (iN mn mx p) := fun tu l h => by
 unfold iN
 simp only
 split
 · exact rQ hp _ _ _ (wW hp tu l h)
 · exact rQ hp _ _ _ (wG hp tu _ tu l h)
theorem wE : ∀ ps : List T, (∀ p ∈ ps, iL (ax p)) → iL (dJ ps)
 | [], _, tu, l, h => by simpa [dJ] using h
 | p :: ps, hp, tu, l, h => by
  rw [dJ]
  exact hp p (List.mem_cons_self ..) _ _ (wE ps (fun q hq => hp q (List.mem_cons_of_mem _ hq)) tu l h)
theorem wN : ∀ ps : List T, (∀ p ∈ ps, iL (ax p)) → ∀ tu l, (∀ s ∈ l, WSt s) → ∀ s ∈ (cF ps tu l).2, WSt s
 | [], _, tu, l, h => by simpa [cF] using h
 | p :: ps, hp, tu, l, h => by
  rw [cF]
  exact wN ps (fun q hq => hp q (List.mem_cons_of_mem _ hq)) tu _ (hp p (List.mem_cons_self ..) tu l h)
theorem yw (t : T) : Words t → iL (ax t) := by
 induction t using T.ind with
 | h t ih =>
  intro hw tu l h
  have hps : ∀ p ∈ t.ps, iL (ax p) := fun p hp => ih p hp (hw.p p hp)
  rw [cd]
  split
  · exact fC h hw.w
  split
  · exact fC h (xR _ _ _)
  split
  · exact fC h (xR _ _ _)
  split
  · exact wE t.ps hps tu l h
  split
  · exact mZ _ _ (wN t.ps hps tu l h)
  split
  · refine yt (fun tu l h => ?_) _ _ tu l h
    cases hq : t.ps with
    | nil => simpa [ec] using h
    | cons p ps => rw [ec]; exact hps p (by rw [hq]; exact List.mem_cons_self ..) tu l h
  · exact h
theorem xy {t : T} (hw : Words t) : ∀ s ∈ bJ t, WSt s := by
 unfold bJ
 split
 · exact yw t hw 0 _ (fun s hs => by simp only [List.mem_singleton] at hs; subst hs; exact xR _ _ _)
 · intro s hs; simp at hs
theorem fH (x : Nat) (t : List Nat) : fB ((x :: t).reverse) = fB t.reverse ++ [.int .i64 (x : Int)] := by rw [List.reverse_cons, nB]
theorem xh {w : World} {B : Nat} {t : List Nat} {x : Nat} {A : Option Addr} {c : Nat} (h : w.ownsRow B 3 1 (.slice A (t.length + 1) c) (t.length + 1) (fB (x :: t).reverse)) :
 (∃ g, A = some ⟨g, 0, none⟩ ∧ g < w.heap.size ∧ B ≤ g ∧ t.length + 1 ≤ c ∧ w.cell? ⟨g, t.length, none⟩ = some (.int .i64 (x : Int))) ∧ w.ownsRow B 3 1 (.slice A t.length c) t.length (fB t.reverse) := by
 refine ⟨?_, by simp [fB], ?_⟩
 · rcases h.2 with ⟨_, h0⟩ | ⟨g, cap, cur, e, hb, hh, hcap, _⟩
   · omega
   · simp only [Value.slice.injEq] at e
     obtain ⟨rfl, _, rfl⟩ := e
     refine ⟨g, rfl, by (rcases Nat.lt_or_ge g w.heap.size with h' | h'; exact h'; rw [Array.getElem?_eq_none h'] at hh; simp at hh), hb, hcap, ?_⟩
     rw [h.cellAt t.length (by omega), fH]
     simp [fB]
 · rcases h.2 with ⟨e, h0⟩ | ⟨g, cap, cur, e, hb, hh, hcap, hm, hs, htk⟩
   · omega
   · simp only [Value.slice.injEq] at e
     obtain ⟨rfl, _, rfl⟩ := e
     refine .inr ⟨g, c, cur, rfl, hb, hh, by omega, hm, hs, ?_⟩
     have : fB t.reverse = (fB (x :: t).reverse).take (t.length * 1) := by rw [fH]; simp [fB]
     rw [this, ← htk, List.take_take]
     congr 1
     omega
structure Thr (w : World) (T n : Nat) (Y : List Bool) : Prop where
 len : Y.length = n
 th : ∀ i, i < n → w.cell? ⟨T, i, none⟩ = some (.bool (Y.getD i false))
 tz : ∀ i, w.frozen? ⟨T, i, none⟩ = false
 lT : T < w.heap.size
theorem Thr.kept {w w' : World} {T n : Nat} {Y : List Bool} (h : Thr w T n Y) (hz : w.heap.size ≤ w'.heap.size) (hk : w'.heap[T]? = w.heap[T]?) : Thr w' T n Y :=
 ⟨h.len, fun i hi => (World.cell?_of_block (w := w) (a := ⟨T, i, none⟩) hk).trans (h.th i hi), fun i => (World.frozen?_of_block (w := w) (a := ⟨T, i, none⟩) hk).trans (h.tz i), Nat.lt_of_lt_of_le h.lT hz⟩
theorem Thr.later {w w' : World} {T n : Nat} {Y : List Bool} (h : Thr w T n Y) (hb : Below w.heap.size w w') : Thr w' T n Y := h.kept hb.size (hb.block T h.lT)
theorem Thr.set {w : World} {T n : Nat} {Y : List Bool} (h : Thr w T n Y) {x : Nat} (hx : x < n) : Thr (w.setCell ⟨T, x, none⟩ (.bool true)) T n (Y.set x true) := by
 refine ⟨by simp [h.len], fun i hi => ?_, fun i => by rw [World.frozen?_setCell]; exact h.tz i, by simpa using h.lT⟩
 by_cases e : x = i
 · subst e
   rw [World.cell?_setCell_same _ _ _ (h.th x hx)]
   simp [List.getD_eq_getElem?_getD, show x < Y.length by rw [h.len]; exact hx]
 · rw [World.cell?_setCell_other _ _ _ _ (by simp [e]), h.th i hi]
   simp [List.getD_eq_getElem?_getD, e]
theorem Off.grown {T : Nat} {w w1 w2 : World} (h : Off T w w1) {r : Option Nat} (hg : w1.grownBy w2 r) (hr : ∀ g, r = some g → w.heap.size ≤ g) : Off T w w2 :=
 ⟨hg.os.trans h.os, hg.tape.trans h.tape, hg.output.trans h.output, Nat.le_trans h.size hg.size, fun k hk hn => (hg.block k (Nat.lt_of_lt_of_le hk h.size) (fun e => by have := hr k e.symm; omega)).trans (h.block k hk hn)⟩
theorem Off.new {T : Nat} {w w1 : World} (h : Off T w w1) (o : Obj) : Off T w (w1.alloc o) := h.trans (Off.of_below nal)
structure WI (W1 wr : World) (T N : Nat) (l : List St) (b e : Bool) (res : List Bool) (k : Nat) (st : List Nat) (Y : List Bool) (A : Option Addr) (c : Nat) : Prop where
 row : wr.ownsRow W1.heap.size 3 1 (.slice A st.length c) st.length (fB st.reverse)
 lt : ∀ x ∈ st, x < N
 fin : fT l b e k Y st = res
 fu : 3 * je Y + st.length ≤ k
 ku : k ≤ 3 * N + 2
 thr : Thr wr T N Y
 off : Off T W1 wr
theorem Thr.grown {W w : World} {T n : Nat} {Y : List Bool} (h : Thr W T n Y) {o : Obj} {r : Option Nat} (hg : (W.alloc o).grownBy w r) (hr : some T ≠ r) : Thr w T n Y :=
 (h.later ((Below.refl _ _).alloc (Nat.le_refl _) o)).kept hg.size (hg.block T (by have := h.lT; simp; omega) hr)
theorem sR (l : List St) (b e : Bool) (k : Nat) (Y : List Bool) : fT l b e k Y [] = Y := by cases k <;> rfl
theorem pw (w : World) (T : Nat) (l : List St) (sa : Int) (hm : MOk l sa) (ok : Nat → Prop) (Am : Option Addr) (cm : Nat) (b e : Bool) (hS : StsAt w ok l Am cm) (hok : ∀ k, ok k → k < w.heap.size) (hTo : ¬ ok T)
 (Y : List Bool) (h : Thr w T l.length Y) (i : Nat) (hi : i < l.length) :
 Calls Tryz.prog 58 #[iI l sa Am cm, .slice (some ⟨T, 0, none⟩) l.length l.length, .int .i64 (i : Int), .bool b, .bool e] w fun en w' => en = .returned (.tuple #[]) ∧ Thr w' T l.length (kp l b e Y i) ∧ Off T w w' := by
 have hN : l.length ≤ 4096 := hm.len
 have hlT := h.lT
 have H := hid h; have HM := hid hm; have HS := hid hS; have HOk := hid hok; have HTo := hid hTo
 clear h hm hS hok hTo
 go_enter Tryz.func58, Tryz.ntmps58
 have hnews : ∀ (W : World) (x : Int) ad, some (⟨W.heap.size, 0, none⟩ : Addr) = some ad → ∀ j u, ([.int .i64 x] : List Value)[j]? = some u → (W.alloc (.cells #[.int .i64 x] 3)).cell? (ad.add j) = some u := fun W x ad e j u hu => by
  simp only [Option.some.injEq] at e
  subst e
  rw [ct, World.cell?_alloc_new, Nat.zero_add]
  simpa using hu
 have Hnews := hid hnews
 clear hnews
 go_wp2_with (at_builtin; refine au (w.heap.size + 1) rfl _ _ 45 3 _ 1 8 rfl Tryz.underlying45 Tryz.infoInt rfl (by omega) (by omega) (.slice none 0 0) 0 1 [] [.int .i64 (i : Int)] (some ⟨w.heap.size + 1, 0, none⟩) 1 rfl (by simp [go_sem]) (by simp) rfl (by simp [go_sem]) (by simp [Value.oneCell']) ⟨rfl, .inl ⟨rfl, rfl⟩⟩ (by simp <;> omega) (by omega) (fun A5 c5 w5 ho5 hg5 hat5 => ?_); have Ho5 := hid ho5; have Hg5 := hid hg5; clear ho5 hg5 hat5)
 have ho5 := Ho5.out; have hg5 := Hg5.out
 clear Ho5 Hg5
 generalize hW1 : w.alloc _ = W1 at *
 have hz1 : W1.heap.size = w.heap.size + 1 := by subst hW1; simp
 have hb1 : Below w.heap.size w W1 := by subst hW1; exact nal
 have p0 : W1.cell? ⟨w.heap.size, 0, none⟩ = some (.slice Am l.length cm) := by subst hW1; simp [go_sem]
 clear hW1
 have hI : WI W1 w5 T l.length l b e (kp l b e Y i) (3 * l.length + 2) [i] Y A5 c5 := by
  have hO : Off T W1 w5 := ((Off.refl T W1).new _).grown hg5 (by simp [Value.ownBlock])
  refine ⟨by rw [hz1]; exact ho5, by simpa using hi, rfl, ?_, Nat.le_refl _, ?_, hO⟩
  · have := jM Y
    have := H.out.len
    simp; omega
  · have hT : Thr (W1.alloc (.cells #[.int .i64 (i : Int)] 3)) T l.length Y := ((H.out.later hb1).later nal)
    exact hT.kept hg5.size (hg5.block T hT.lT (by simp [Value.ownBlock]))
 have HI := hid hI
 have HB1 := hid hb1
 clear hI ho5 hg5 hb1
 go_loopg [10] (3 * l.length + 2) (fun k v wr => ∃ (st : List Nat) (Y' : List Bool) (A : Option Addr) (c : Nat), v = .slice A st.length c ∧ WI W1 wr T l.length l b e (kp l b e Y i) k st Y' A c)
 case atStart => exact ⟨[i], Y, A5, c5, rfl, HI.out⟩
 case round =>
  clear HI
  obtain ⟨st, Y', A, c, rfl, hI⟩ := hrel
  cases st with
  | nil =>
   have HI := hid hI
   clear hI
   go_wp2_with fail
   go_end0
   have hf := HI.out.fin
   rw [sR] at hf
   exact ⟨rfl, by rw [← hf]; exact HI.out.thr, (Off.of_below HB1.out).trans HI.out.off⟩
  | cons x t =>
   obtain ⟨⟨g, rfl, hg, hB, hcap, hcell⟩, hpop⟩ := xh hI.row
   have hx : x < l.length := hI.lt x (List.mem_cons_self ..)
   have hfu := hI.fu
   have hku := hI.ku
   have tx := hI.thr.th x hx
   have tz := hI.thr.tz x
   have lT := hI.thr.lT
   have q0 : wr.cell? ⟨w.heap.size, 0, none⟩ = some (.slice Am l.length cm) := (hI.off.cell (by omega) (by omega)).trans p0
   have hfl := jM Y'
   have hYl := hI.thr.len
   simp only [List.length_cons] at hfu hcap ⊢
   have htl : t.length < 100000 := by omega
   have htc : t.length ≤ c := by omega
   have HI := hid hI; have HP := hid hpop
   have HYl := hid hYl
   clear hI hpop
   cases hy : Y'.getD x false with
   | true =>
    rw [hy] at tx
    have hf := HI.out.fin
    obtain ⟨k, rfl⟩ : ∃ k, gk = k + 1 := ⟨gk - 1, by omega⟩
    rw [fT, if_pos hy] at hf
    have Hf := hid hf
    clear hf hy
    clear HYl
    go_wp2_with fail
    go_roundg k
    case measure => omega
    case rel => exact ⟨t, Y', some ⟨g, 0, none⟩, c, by go_num, HP.out, fun z hz => HI.out.lt z (List.mem_cons_of_mem _ hz), Hf.out, by omega, by omega, HI.out.thr, HI.out.off⟩
   | false =>
    rw [hy] at tx
    have hf := HI.out.fin
    obtain ⟨k, rfl⟩ : ∃ k, gk = k + 1 := ⟨gk - 1, by omega⟩
    rw [fT, if_neg (by rw [hy]; simp)] at hf
    have hfs := ir Y' x (by omega) hy
    have Hf := hid hf; have Hfs := hid hfs
    clear hf hy hfs HYl
    go_upto_region 8 with fail
    generalize hW2 : wr.setCell _ _ = W2
    have b2k : ∀ k, k ≠ T → W2.heap[k]? = wr.heap[k]? := fun k hk => by subst hW2; exact Below.heap_setCell _ _ _ _ hk
    have b2z : W2.heap.size ≤ wr.heap.size := by subst hW2; simp
    have b2y : wr.heap.size ≤ W2.heap.size := by subst hW2; simp
    have hT2 : Thr W2 T l.length (Y'.set x true) := by subst hW2; exact HI.out.thr.set hx
    have hO2 : Off T W1 W2 := by subst hW2; exact HI.out.off.set x (.bool true)
    have hR2 : W2.ownsRow W1.heap.size 3 1 (.slice (some ⟨g, 0, none⟩) t.length c) t.length (fB t.reverse) := by
     refine HP.out.kept (row := some T) ⟨by subst hW2; rfl, by subst hW2; rfl, by subst hW2; rfl, by omega, fun k hk hne => b2k k (by simpa using hne)⟩ (.inr ?_)
     simp [Value.ownBlock]; omega
    clear hW2 b2k tx tz q0 hcell HP
    have q0 : W2.cell? ⟨w.heap.size, 0, none⟩ = some (.slice Am l.length cm) := (hO2.cell (by omega) (by omega)).trans p0
    have hST := (HS.out.mono (w' := W2) (ok' := ok) (fun k hk => ⟨hk, fun o => by
     have h1 := HOk.out k hk
     exact (hO2.cell (b := k) (o := o) (by omega) (fun e => HTo.out (e ▸ hk))).trans (HB1.out.cell (p := ⟨k, o, none⟩) h1)⟩))
    obtain ⟨gm, om, rfl, hgm, hst⟩ := hST.at_ (by omega)
    have hstx := hst x hx
    have hsN : l[x] = stN l x := by unfold stN; rw [List.getD_eq_getElem?_getD, List.getElem?_eq_getElem hx]; rfl
    rw [hsN] at hstx
    have hsk := HM.out.kinds hx
    have hcS := HS.out.cap
    have hgw : gm < W2.heap.size := by have := HOk.out gm hgm; omega
    clear hst hsN hST
    generalize stN l x = s at *
    obtain ⟨sk, s0, s1, s2, s3, nx, ot⟩ := s
    obtain ⟨f0, f1, f2, f3, f4, f5, f6⟩ := hstx
    simp only at f0 f1 f2 f3 f4 f5 f6 hsk
    have HT2 := hid hT2; have HO2 := hid hO2; have HR2 := hid hR2
    clear hT2 hO2 hR2
    go_upto_region 9 with fail
    generalize hW3 : W2.alloc _ = W3
    have hb3 : Below W2.heap.size W2 W3 := by subst hW3; exact nal
    have hz3 : W2.heap.size < W3.heap.size := by subst hW3; simp
    have b0 : W3.cell? ⟨W2.heap.size, 0, none⟩ = some (.int .i64 sk) := by subst hW3; simp [go_sem]
    have b5 : W3.cell? ⟨W2.heap.size, 5, none⟩ = some (.int .i64 nx) := by subst hW3; simp [go_sem]
    have b6 : W3.cell? ⟨W2.heap.size, 6, none⟩ = some (.int .i64 ot) := by subst hW3; simp [go_sem]
    have hR3 := HR2.out.kept (w' := W3) (row := none) ⟨hb3.os, hb3.tape, hb3.output, hb3.size, fun k hk _ => hb3.block k hk⟩ (by simp [Value.ownBlock])
    have hT3 := HT2.out.later hb3
    have hO3 := HO2.out.trans (Off.of_below hb3)
    clear hW3 f0 f1 f2 f3 f4 f5 f6 q0 hb3
    have HT3 := hid hT3; have HO3 := hid hO3; have HR3 := hid hR3
    clear hT3 hO3 hR3 HT2 HO2 HR2
    have hgT : g ≠ T := by omega
    have hO3z := HO3.out.size
    rcases hsk with rfl | ⟨hk, hn0, hn1⟩ | ⟨rfl, ⟨hn0, hn1⟩, ho0, ho1⟩
    · go_wp2_with fail
      go_roundg k
      case measure => omega
      case rel => exact ⟨t, Y'.set x true, some ⟨g, 0, none⟩, c, by go_num, HR3.out, fun z hz => HI.out.lt z (List.mem_cons_of_mem _ hz), by simpa [outs] using Hf.out, by have := Hfs.out; omega, by omega, HT3.out, HO3.out⟩
    · obtain ⟨x1, rfl⟩ : ∃ x1 : Nat, nx = x1 := ⟨nx.toNat, by omega⟩
      have hx1 : x1 < l.length := by omega
      rcases hk with rfl | rfl | rfl
      · go_wp2_with fail
        go_roundg k
        case measure => omega
        case rel => exact ⟨t, Y'.set x true, some ⟨g, 0, none⟩, c, by go_num, HR3.out, fun z hz => HI.out.lt z (List.mem_cons_of_mem _ hz), by simpa [outs] using Hf.out, by have := Hfs.out; omega, by omega, HT3.out, HO3.out⟩
      · cases b
        · go_wp2_with fail
          go_roundg k
          case measure => omega
          case rel => exact ⟨t, Y'.set x true, some ⟨g, 0, none⟩, c, by go_num, HR3.out, fun z hz => HI.out.lt z (List.mem_cons_of_mem _ hz), by simpa [outs] using Hf.out, by have := Hfs.out; omega, by omega, HT3.out, HO3.out⟩
        · go_upto_region 11 with (at_builtin; refine au W1.heap.size rfl _ _ 45 3 _ 1 8 rfl Tryz.underlying45 Tryz.infoInt rfl (by omega) (by omega) (.slice (some ⟨g, 0, none⟩) t.length c) t.length 1 (fB t.reverse) [.int .i64 (x1 : Int)] (some ⟨W3.heap.size, 0, none⟩) 1 rfl rfl (by simp) rfl (Hnews.out W3 (x1 : Int)) (by simp [Value.oneCell']) (HR3.out.alloc _) (by have := HO3.out.size; simp; omega) (by omega) (fun A6 c6 w6 ho hg hat => ?_); have Ho6 := hid ho; have Hg6 := hid hg; have Hat6 := hid hat; clear ho hg hat)
          have hT6 := HT3.out.grown Hg6.out (by simp [Value.ownBlock]; omega)
          have hO6 := (HO3.out.new _).grown Hg6.out (fun g' e => by simp [Value.ownBlock] at e; omega)
          have b0' : w6.cell? ⟨W2.heap.size, 0, none⟩ = some (.int .i64 3) := (World.cell?_of_block (w := W3) (a := ⟨W2.heap.size, 0, none⟩) ((Hg6.out.block _ (by simp; omega) (by simp [Value.ownBlock]; omega)).trans (((Below.refl W3.heap.size W3).alloc (Nat.le_refl _) _).block _ hz3))).trans b0
          go_wp2_with fail
          go_roundg k
          case measure => omega
          case rel => exact ⟨x1 :: t, Y'.set x true, A6, c6, by go_num, by rw [fH]; exact Ho6.out, fun z hz => (List.mem_cons.1 hz).elim (fun e => e ▸ hx1) (fun hz => HI.out.lt z (List.mem_cons_of_mem _ hz)), by simpa [outs] using Hf.out, by have := Hfs.out; simp only [List.length_cons]; omega, by omega, hT6, hO6⟩
      · cases e
        · go_wp2_with fail
          go_roundg k
          case measure => omega
          case rel => exact ⟨t, Y'.set x true, some ⟨g, 0, none⟩, c, by go_num, HR3.out, fun z hz => HI.out.lt z (List.mem_cons_of_mem _ hz), by simpa [outs] using Hf.out, by have := Hfs.out; omega, by omega, HT3.out, HO3.out⟩
        · go_upto_region 11 with (at_builtin; refine au W1.heap.size rfl _ _ 45 3 _ 1 8 rfl Tryz.underlying45 Tryz.infoInt rfl (by omega) (by omega) (.slice (some ⟨g, 0, none⟩) t.length c) t.length 1 (fB t.reverse) [.int .i64 (x1 : Int)] (some ⟨W3.heap.size, 0, none⟩) 1 rfl rfl (by simp) rfl (Hnews.out W3 (x1 : Int)) (by simp [Value.oneCell']) (HR3.out.alloc _) (by have := HO3.out.size; simp; omega) (by omega) (fun A6 c6 w6 ho hg hat => ?_); have Ho6 := hid ho; have Hg6 := hid hg; have Hat6 := hid hat; clear ho hg hat)
          have hT6 := HT3.out.grown Hg6.out (by simp [Value.ownBlock]; omega)
          have hO6 := (HO3.out.new _).grown Hg6.out (fun g' e => by simp [Value.ownBlock] at e; omega)
          have b0' : w6.cell? ⟨W2.heap.size, 0, none⟩ = some (.int .i64 4) := (World.cell?_of_block (w := W3) (a := ⟨W2.heap.size, 0, none⟩) ((Hg6.out.block _ (by simp; omega) (by simp [Value.ownBlock]; omega)).trans (((Below.refl W3.heap.size W3).alloc (Nat.le_refl _) _).block _ hz3))).trans b0
          go_wp2_with fail
          go_roundg k
          case measure => omega
          case rel => exact ⟨x1 :: t, Y'.set x true, A6, c6, by go_num, by rw [fH]; exact Ho6.out, fun z hz => (List.mem_cons.1 hz).elim (fun e => e ▸ hx1) (fun hz => HI.out.lt z (List.mem_cons_of_mem _ hz)), by simpa [outs] using Hf.out, by have := Hfs.out; simp only [List.length_cons]; omega, by omega, hT6, hO6⟩
    · obtain ⟨x1, rfl⟩ : ∃ x1 : Nat, nx = x1 := ⟨nx.toNat, by omega⟩
      obtain ⟨x2, rfl⟩ : ∃ x2 : Nat, ot = x2 := ⟨ot.toNat, by omega⟩
      have hx1 : x1 < l.length := by omega
      have hx2 : x2 < l.length := by omega
      go_upto_region 11 with (at_builtin; refine au W1.heap.size rfl _ _ 45 3 _ 1 8 rfl Tryz.underlying45 Tryz.infoInt rfl (by omega) (by omega) (.slice (some ⟨g, 0, none⟩) t.length c) t.length 1 (fB t.reverse) [.int .i64 (x1 : Int)] (some ⟨W3.heap.size, 0, none⟩) 1 rfl rfl (by simp) rfl (Hnews.out W3 (x1 : Int)) (by simp [Value.oneCell']) (HR3.out.alloc _) (by have := HO3.out.size; simp; omega) (by omega) (fun A6 c6 w6 ho hg hat => ?_); have Ho6 := hid ho; have Hg6 := hid hg; have Hat6 := hid hat; clear ho hg hat)
      have hT6 := HT3.out.grown Hg6.out (by simp [Value.ownBlock]; omega)
      have hO6 := (HO3.out.new _).grown Hg6.out (fun g' e => by simp [Value.ownBlock] at e; omega)
      have hk6 := (Hg6.out.block W2.heap.size (by simp; omega) (by simp [Value.ownBlock]; omega)).trans (((Below.refl W3.heap.size W3).alloc (Nat.le_refl _) _).block _ hz3)
      have b0' : w6.cell? ⟨W2.heap.size, 0, none⟩ = some (.int .i64 2) := (World.cell?_of_block (w := W3) (a := ⟨W2.heap.size, 0, none⟩) hk6).trans b0
      have b6' : w6.cell? ⟨W2.heap.size, 6, none⟩ = some (.int .i64 x2) := (World.cell?_of_block (w := W3) (a := ⟨W2.heap.size, 6, none⟩) hk6).trans b6
      have hown : ∀ g', (Value.slice A6 (t.length + 1) c6).ownBlock = some g' → W1.heap.size ≤ g' := fun g' e => (Ho6.out.lt g' e).1
      have hr6 : w6.ownsRow W1.heap.size 3 1 (.slice A6 (t.length + 1) c6) (t.length + 1) (fB (x1 :: t).reverse) := by rw [fH]; exact Ho6.out
      have hz6 := Hg6.out.size
      have HT6 := hid hT6; have HO6 := hid hO6; have HR6 := hid hr6; have Hown := hid hown
      clear hT6 hO6 hk6 hown hr6 Hg6 Hat6 Ho6 b0 b6
      go_wp2_with (at_builtin; refine au W1.heap.size rfl _ _ 45 3 _ 1 8 rfl Tryz.underlying45 Tryz.infoInt rfl (by omega) (by omega) (.slice A6 (t.length + 1) c6) (t.length + 1) 1 (fB (x1 :: t).reverse) [.int .i64 (x2 : Int)] (some ⟨w6.heap.size, 0, none⟩) 1 rfl rfl (by simp) rfl (Hnews.out w6 (x2 : Int)) (by simp [Value.oneCell']) (HR6.out.alloc _) (by have := HO6.out.size; simp; omega) (by omega) (fun A7 c7 w7 ho hg hat => ?_); have Ho7 := hid ho; have Hg7 := hid hg; have Hat7 := hid hat; clear ho hg hat)
      have hT7 := HT6.out.grown Hg7.out (fun e => by have := Hown.out T e.symm; omega)
      have hO7 := (HO6.out.new _).grown Hg7.out Hown.out
      go_roundg k
      case measure => omega
      case rel => exact ⟨x2 :: x1 :: t, Y'.set x true, A7, c7, by go_num, by rw [fH]; exact Ho7.out, fun z hz => (List.mem_cons.1 hz).elim (fun e => e ▸ hx2) (fun hz => (List.mem_cons.1 hz).elim (fun e => e ▸ hx1) (fun hz => HI.out.lt z (List.mem_cons_of_mem _ hz))), by simpa [outs] using Hf.out, by have := Hfs.out; simp only [List.length_cons]; omega, by omega, hT7, hO7⟩
theorem vh (w : World) (sk s0 s1 s2 s3 nx ot : Int) (c : Nat) (hc : c < 256) (hw : Wok ⟨s0, s1, s2, s3⟩) :
 Calls Tryz.prog 59 #[.agg #[.int .u64 s0, .int .u64 s1, .int .u64 s2, .int .u64 s3], .int .u8 (c : Int)] w fun en w' => en = .returned (.bool (qw ⟨sk, s0, s1, s2, s3, nx, ot⟩ c)) ∧ Below w.heap.size w w' := by
 obtain ⟨wi, wr', hi4, hr64, hqu, hre, hbw⟩ := qo c hc sk s0 s1 s2 s3 nx ot
 have h0 : 0 ≤ iJ ⟨sk, s0, s1, s2, s3, nx, ot⟩ wi := by
  rcases (by omega : wi = 0 ∨ wi = 1 ∨ wi = 2 ∨ wi = 3) with rfl | rfl | rfl | rfl
  · exact hw.a.1
  · exact hw.b.1
  · exact hw.c.1
  · exact hw.d.1
 have hmod : (iJ ⟨sk, s0, s1, s2, s3, nx, ot⟩ wi / 2 ^ wr').tmod 2 = iJ ⟨sk, s0, s1, s2, s3, nx, ot⟩ wi / 2 ^ wr' % 2 := Int.tmod_eq_emod_of_nonneg (Int.ediv_nonneg h0 (Int.pow_nonneg (by omega)))
 rw [hbw]
 clear hw h0 hbw
 go_enter Tryz.func59, Tryz.ntmps59
 go_upto_region 1 with fail
 generalize hW : w.alloc _ = W0
 have hB0 : Below w.heap.size w W0 := by subst hW; exact nal
 have b0 : W0.cell? ⟨w.heap.size, wi, none⟩ = some (.int .u64 (iJ ⟨sk, s0, s1, s2, s3, nx, ot⟩ wi)) := by
  subst hW
  rcases (by omega : wi = 0 ∨ wi = 1 ∨ wi = 2 ∨ wi = 3) with rfl | rfl | rfl | rfl <;> simp [go_sem, iJ]
 clear hW
 generalize hwd : iJ ⟨sk, s0, s1, s2, s3, nx, ot⟩ wi = wd at *
 have Hwd := hid hwd
 clear hwd
 have Hmod := hid hmod
 clear hmod
 go_wp2_with fail
 exact bodyPost_ret (v := .bool ((wd / 2 ^ wr').tmod 2 == 1)) (by simp [results, Tryz.results59, go_sem]) rfl ⟨by rw [Hmod.out, Hwd.out], hB0⟩
theorem rZ (w : World) (n : Nat) : Thr (w.alloc (.cells (madeCells #[.bool false] n) 4)) w.heap.size n (List.replicate n false) := by
 have hM : ∀ i, i < n → (madeCells #[.bool false] n)[i]? = some (.bool false) := fun i hi => by
  rw [← Array.getElem?_toList, toList_madeCells_one]
  simp [hi]
 generalize madeCells #[.bool false] n = M at *
 have k0 : (w.alloc (.cells M 4)).heap[w.heap.size]? = some (.cells M 4) := heap_alloc_new w _
 refine ⟨by simp, fun i hi => ?_, fun i => ?_, by simp⟩
 · unfold World.cell?; simp only [k0]
   rw [hM i hi]; simp [List.getD_eq_getElem?_getD, List.getElem?_replicate, hi]
 · unfold World.frozen?; simp only [k0]; simp
structure RR (w1 wr : World) (l : List St) (st : Int) (subj : Bs) (k a s T : Nat) (Y : List Bool) : Prop where
 ak : a + k = subj.length + 1
 sb : s ≤ a * 5000
 ov : og l st subj (subj.length + 1 - a) a Y s = og l st subj (subj.length + 1) 0 (List.replicate l.length false) 0
 thr : Thr wr T l.length Y
 Tb : w1.heap.size ≤ T
 z : a = 0 → ∀ i, Y.getD i false = false
 bel : Below w1.heap.size w1 wr
theorem wf (Y : List Bool) (i : Nat) (hi : i < Y.length) : ((Y.take (i + 1)).countP id : Nat) = (Y.take i).countP id + (if Y.getD i false = true then 1 else 0) := by
 rw [List.take_succ_eq_append_getElem hi, List.countP_append, List.getD_eq_getElem?_getD, List.getElem?_eq_getElem hi]
 simp only [List.countP_cons, List.countP_nil, Option.getD_some, id]
 omega
def dnR (l : List St) (Y : List Bool) (i : Nat) : Bool := (List.range i).any fun p => Y.getD p false && (stN l p).k == 5
theorem vY (l : List St) (Y : List Bool) (i : Nat) : dnR l Y (i + 1) = (dnR l Y i || (Y.getD i false && (stN l i).k == 5)) := by
 unfold dnR; rw [List.range_succ, List.any_append]; simp
theorem pO (w : World) (ok : Nat → Prop) (l : List St) (sa : Int) (A : Option Addr) (c : Nat) (hA : StsAt w ok l A c) (hok : ∀ b, ok b → b < w.heap.size) (hws : ∀ s ∈ l, WSt s) (subj : Bs) :
 Calls Tryz.prog 37 #[iI l sa A c, .string (bs subj)] w fun en w' => en = .returned (.tuple #[.bool (dK l sa subj).1, .int .i64 (dK l sa subj).2.1, .int .i64 (dK l sa subj).2.2]) ∧ Below w.heap.size w w' := by
 have HA := hid hA; have Hok := hid hok; have HW := hid hws; clear hA hok hws
 go_enter Tryz.func37, Tryz.ntmps37
 go_wp2_with fail
 generalize hW : w.alloc _ = W0
 have hB0 : Below w.heap.size w W0 := by subst hW; exact nal
 have hz0 : w.heap.size < W0.heap.size := by subst hW; simp
 have P0 : At2 W0 w.heap.size (.slice A l.length c) sa := by subst hW; constructor <;> simp [go_sem]
 clear hW
 obtain ⟨p0, p1⟩ := id P0
 go_wp2_with fail
 clear p0 p1
 refine (qR W0 ok l sa A c (HA.out.later hB0 Hok.out) (fun b h => by have := Hok.out b h; omega)).mono ?_
 rintro en w1 ⟨rfl, hb1⟩
 have hz1 := hb1.size
 have hB1 := hB0.trans (hb1.mono (by omega))
 have P1 := P0.later hb1 hz0
 clear P0 hB0
 by_cases hck : bB l sa = 0
 case' neg =>
  have hres : dK l sa subj = (false, 0, bB l sa) := if_pos hck
  have Hres := hid hres
  have hb : (bB l sa != 0) = true := by rw [bne_iff_ne]; exact hck
  clear hres hck
  go_wp2_with fail
  try rw [Exit.noGoto_ret]
  exact bodyPost_ret (v := .tuple #[.bool false, .int .i64 0, .int .i64 (bB l sa)]) (by simp [results, Tryz.results37, go_sem]) rfl ⟨by rw [Hres.out], hB1⟩
 have hb : (bB l sa != 0) = false := by rw [hck]; rfl
 by_cases hlong : 65536 < subj.length
 · have hres : dK l sa subj = (false, 0, 3) := by rw [dK, if_neg (by simpa using hck), if_pos hlong]
   have Hres := hid hres
   clear hres hck
   go_wp2_with fail
   try rw [Exit.noGoto_ret]
   exact bodyPost_ret (v := .tuple #[.bool false, .int .i64 0, .int .i64 3]) (by simp [results, Tryz.results37, go_sem]) rfl ⟨by rw [Hres.out], hB1⟩
 have hres : dK l sa subj = ((bF l sa subj (subj.length + 1) 0 [] 0).1, (bF l sa subj (subj.length + 1) 0 [] 0).2, 0) := by rw [dK, if_neg (by simpa using hck), if_neg hlong]
 have hm := pr hck
 rw [nv hm subj (subj.length + 1) 0 [] (List.replicate l.length false) 0 (by simp) (pE l)] at hres
 have Hres := hid hres
 have HM := hid hm
 have hl1 := hm.len
 have hl0 : 0 < l.length := by have := hm.start; omega
 clear hres hck hm
 have hmk := run_make_row' (P := Tryz.prog) 59 4 (.bool false) 1 Tryz.underlying59 Tryz.infoBool rfl .i64 .i64 l.length (by omega) (by omega)
 obtain ⟨p0, p1⟩ := id P1
 have hz01 : w.heap.size < w1.heap.size := by omega
 have hb0 := hB1.size
 go_upto_region 8 with fail
 generalize hW : w1.alloc _ = W2
 have hT2 : Thr W2 w1.heap.size l.length (List.replicate l.length false) := by subst hW; exact rZ w1 _
 have hb2 : Below w1.heap.size w1 W2 := by subst hW; exact nal
 clear hW p0 p1
 have HT2 := hid hT2
 have HB2 := hid hb2
 clear hT2 hb2
 obtain ⟨st, rfl⟩ : ∃ st : Nat, sa = st := ⟨sa.toNat, by have := HM.out.s0; omega⟩
 have hst := HM.out.s1
 go_wp2_with fail
 go_loopg [8, 9, 10] (subj.length + 1) (fun k v8 v9 v10 wr => ∃ (a s T : Nat) (Y : List Bool), v8 = .int .i64 (s : Int) ∧ v9 = .slice (some ⟨T, 0, none⟩) l.length l.length ∧ v10 = .int .i64 (a : Int) ∧ RR w1 wr l st subj k a s T Y)
 case atStart => exact ⟨0, 0, w1.heap.size, List.replicate l.length false, rfl, rfl, rfl, ⟨by omega, by omega, rfl, HT2.out, Nat.le_refl _, fun _ i => by rw [List.getD_eq_getElem?_getD, List.getElem?_replicate]; split <;> rfl, HB2.out⟩⟩
 case round =>
  clear HT2 HB2
  obtain ⟨a, s, T, Y, rfl, rfl, rfl, hR⟩ := hrel
  have hsb := hR.sb
  have hak := hR.ak
  obtain ⟨p0, p1⟩ := P1.later hR.bel hz01
  have hzr := hR.bel.size
  have HR := hid hR
  clear hR
  by_cases hle : a ≤ subj.length
  case' neg =>
   have hov := HR.out.ov
   rw [show subj.length + 1 - a = 0 by omega, og] at hov
   have Hov := hid hov
   clear hov
   go_wp2_with fail
   try rw [Exit.noGoto_ret]
   exact bodyPost_ret (v := .tuple #[.bool false, .int .i64 (s : Int), .int .i64 0]) (by simp [results, Tryz.results37, go_sem]) rfl ⟨by rw [Hres.out, ← Hov.out], hB1.trans (HR.out.bel.mono hb0)⟩
  go_upto_region 12 with fail
  generalize hW : wr.alloc _ = W3
  have hT3 : Thr W3 wr.heap.size l.length (List.replicate l.length false) := by subst hW; exact rZ wr _
  have hb3 : Below wr.heap.size wr W3 := by subst hW; exact nal
  have hz3 : W3.heap.size = wr.heap.size + 1 := by subst hW; simp
  clear hW
  have hB3 := HR.out.bel.trans (hb3.mono hzr)
  have hTT : T < wr.heap.size := HR.out.thr.lT
  have hY3 := HR.out.thr.later hb3
  have hz3' := hB3.size
  clear p0 p1
  obtain ⟨p0, p1⟩ := P1.later hB3 hz01
  have HT3 := hid hT3; have HY3 := hid hY3
  clear hT3 hY3
  have HB3 := hid hB3
  clear hB3 hb3
  generalize hT2 : wr.heap.size = T2 at *
  clear hT2
  have hst2 : st < l.length := by omega
  go_wp2_with fail
  have hS3 := HA.out.later (hB1.trans (HB3.out.mono hb0)) Hok.out
  have hok3 : ∀ k, ok k → k < W3.heap.size := fun k hk => by have := Hok.out k hk; omega
  have hTo : ¬ ok T2 := fun hk => by have := Hok.out T2 hk; omega
  refine (pw W3 T2 l st HM.out ok A c ((a : Int) == 0) ((a : Int) == (subj.length : Int)) hS3 hok3 hTo _ HT3.out st hst2).mono ?_
  rintro en w4 ⟨rfl, hT4, hO4⟩
  have e1 : ((a : Int) == 0) = (a == 0) := by rw [Bool.eq_iff_iff]; simp
  have e2 : ((a : Int) == (subj.length : Int)) = (a == subj.length) := by rw [Bool.eq_iff_iff]; simp <;> omega
  have hstep : iK l st subj a Y = (List.range l.length).foldl (uK l (a == 0) (a == subj.length) (bM subj a) Y) (kp l (a == 0) (a == subj.length) (List.replicate l.length false) st) := by rw [iK, Int.toNat_natCast]
  rw [e1, e2] at hT4
  have E1 := hid e1; have E2 := hid e2; have Hstep := hid hstep; have HT4 := hid hT4; have HO4 := hid hO4
  have HS3 := hid hS3; have Hok3 := hid hok3; have HTo := hid hTo
  clear e1 e2 hstep hT4 hO4 HT3 p0 p1 hS3 hok3 hTo
  go_wp2_with fail
  go_loopg [12] l.length (fun k v12 wq => ∃ (i : Nat) (Y2 : List Bool), v12 = .int .i64 (i : Int) ∧ i + k = l.length ∧ ((List.range l.length).drop i).foldl (uK l (a == 0) (a == subj.length) (bM subj a) Y) Y2 = iK l st subj a Y ∧ Thr wq T2 l.length Y2 ∧ Off T2 W3 wq)
  case atStart => exact ⟨0, _, rfl, by omega, by rw [Hstep.out]; rfl, HT4.out, HO4.out⟩
  case round =>
   clear HT4 HO4
   obtain ⟨i, Y2, rfl, hi, hfo, hT5, hO5⟩ := hrel
   have hzO := hO5.size
   have hYq : Thr wr T l.length Y := HY3.out.kept hzO (hO5.block T (by omega) (by simp; omega))
   have p0 : wr.cell? ⟨w.heap.size, 0, none⟩ = some (.slice A l.length c) := (hO5.cell (by omega) (by omega)).trans ((P1.later HB3.out hz01).f0)
   have p1 : wr.cell? ⟨w.heap.size, 1, none⟩ = some (.int .i64 st) := (hO5.cell (by omega) (by omega)).trans ((P1.later HB3.out hz01).f1)
   have Hfo := hid hfo; have HT5 := hid hT5; have HO5 := hid hO5
   clear hfo hT5 hO5
   by_cases hlt : i < l.length
   case' pos =>
    have tx := hYq.th i hlt
    have lT := hYq.lT
    have hdrop : (List.range l.length).drop i = i :: (List.range l.length).drop (i + 1) := by
     rw [List.drop_eq_getElem_cons (by simpa using hlt)]; simp
    have hfo := Hfo.out
    rw [hdrop, List.foldl_cons] at hfo
    have hSq : StsAt wr ok l A c := HS3.out.mono (fun k hk => ⟨hk, fun o => HO5.out.cell (Hok3.out k hk) (fun e => HTo.out (e ▸ hk))⟩)
    obtain ⟨gm, om, rfl, hgm, hst7⟩ := hSq.at_ hl0
    have hgl := Hok3.out gm hgm
    have hstx := hst7 i hlt
    have hsN : l[i] = stN l i := by unfold stN; rw [List.getD_eq_getElem?_getD, List.getElem?_eq_getElem hlt]; rfl
    have hws := HW.out l[i] (List.getElem_mem _)
    rw [hsN] at hstx hws
    have hcap := hSq.cap
    have hnx := fun hk => HM.out.next hlt hk
    have hnx2 : (stN l i).k = 1 → (stN l i).nx = ((stN l i).nx.toNat : Int) := fun hk => by rcases HM.out.kinds hlt with h | ⟨_, h, _⟩ | ⟨h, _⟩ <;> omega
    rw [show uK l (a == 0) (a == subj.length) (bM subj a) Y Y2 i = (if Y.getD i false = true ∧ dZ (stN l i) (bM subj a) = true then kp l (a == 0) (a == subj.length) Y2 (stN l i).nx.toNat else Y2) from rfl] at hfo
    have Hfo2 := hid hfo
    clear hfo Hfo hst7 hsN hdrop hYq hSq
    generalize stN l i = sx at *
    obtain ⟨sk, s0, s1, s2, s3, nx, ot⟩ := sx
    obtain ⟨f0, f1, f2, f3, f4, f5, f6⟩ := hstx
    simp only at f0 f1 f2 f3 f4 f5 f6 hnx hnx2
    have hgw : gm < wr.heap.size := by omega
    have Hnx := hid hnx; have Hnx2 := hid hnx2; have Hws := hid hws
    clear hnx hnx2 hws
    go_upto_region 17 with fail
    generalize hW : wr.alloc _ = W5
    have hb5 : Below wr.heap.size wr W5 := by subst hW; exact nal
    have b0 : W5.cell? ⟨wr.heap.size, 0, none⟩ = some (.int .i64 sk) := by subst hW; simp [go_sem]
    have b1' : W5.cell? ⟨wr.heap.size, 1, none⟩ = some (.int .u64 s0) := by subst hW; simp [go_sem]
    have b2 : W5.cell? ⟨wr.heap.size, 2, none⟩ = some (.int .u64 s1) := by subst hW; simp [go_sem]
    have b3 : W5.cell? ⟨wr.heap.size, 3, none⟩ = some (.int .u64 s2) := by subst hW; simp [go_sem]
    have b4 : W5.cell? ⟨wr.heap.size, 4, none⟩ = some (.int .u64 s3) := by subst hW; simp [go_sem]
    have b5 : W5.cell? ⟨wr.heap.size, 5, none⟩ = some (.int .i64 nx) := by subst hW; simp [go_sem]
    have lb : wr.heap.size < W5.heap.size := by subst hW; simp
    have tx5 := (hb5.cell (p := ⟨T, i, none⟩) lT).trans tx
    have hT5 := HT5.out.later hb5
    have hO5 := HO5.out.trans (Off.of_below hb5)
    have p05 := (hb5.cell (p := ⟨w.heap.size, 0, none⟩) (by show w.heap.size < _; omega)).trans p0
    have p15 := (hb5.cell (p := ⟨w.heap.size, 1, none⟩) (by show w.heap.size < _; omega)).trans p1
    clear hW hb5 f0 f1 f2 f3 f4 f5 f6 p0 p1 tx HT5 HO5
    have HT5 := hid hT5; have HO5 := hid hO5
    clear hT5 hO5
    cases hth : Y.getD i false with
    | false =>
     rw [hth] at tx5
     have hfo : ((List.range l.length).drop (i + 1)).foldl (uK l (a == 0) (a == subj.length) (bM subj a) Y) Y2 = iK l st subj a Y := by
      have := Hfo2.out
      rwa [if_neg (by rw [hth]; simp)] at this
     have Hfo := hid hfo
     clear hfo Hfo2 hth b0 b1' b2 b3 b4 b5 p05 p15
     go_quiet (fail)
     go_wp2_with fail
     go_roundg (gk - 1)
     case measure => omega
     case rel => exact ⟨i + 1, _, by go_num, by omega, Hfo.out, HT5.out.later (bb _ _), HO5.out.trans (Off.of_below (bb _ _))⟩
    | true =>
     rw [hth] at tx5
     have ha0 : a ≠ 0 := fun e => by have := HR.out.z e i; rw [hth] at this; cases this
     by_cases hk : sk = 1
     case' neg =>
      have ht : dZ ⟨sk, s0, s1, s2, s3, nx, ot⟩ (bM subj a) = false := by
       have : (sk == 1) = false := by simpa using hk
       unfold dZ; rw [show (⟨sk, s0, s1, s2, s3, nx, ot⟩ : St).k = sk from rfl, this]; rfl
      have hfo : ((List.range l.length).drop (i + 1)).foldl (uK l (a == 0) (a == subj.length) (bM subj a) Y) Y2 = iK l st subj a Y := by
       have := Hfo2.out
       rwa [if_neg (by rw [ht]; simp)] at this
      have Hfo := hid hfo
      have hkb : (sk == 1) = false := by simpa using hk
      clear hfo Hfo2 hth b1' b2 b3 b4 b5 p05 p15 hk ht
      go_quiet (fail)
      go_wp2_with fail
      go_roundg (gk - 1)
      case measure => omega
      case rel => exact ⟨i + 1, _, by go_num, by omega, Hfo.out, HT5.out.later (bb _ _), HO5.out.trans (Off.of_below (bb _ _))⟩
     case' pos =>
      subst hk
      have hidx : ∀ hh, ((bs subj)[a - 1]'hh).toNat = bM subj a := sB subj a ha0 hle
      have ha5 : (1 : Int) ≤ (a : Int) := by omega
      have hcl : bM subj a < 256 := by unfold bM; exact UInt8.toNat_lt _
      have ha1 : 0 ≤ (a : Int) - 1 := by omega
      have ha2 : (a : Int) - 1 < (subj.length : Int) := by omega
      have ha3 : (bs subj).size = subj.length := by simp [bs, ByteArray.size]
      have hwr : IntKind.i64.wrap ((a : Int) - 1) = (a : Int) - 1 := IntWalk.i64_in _ (by omega)
      go_still_tail 16, (by kernel_rfl)
      change wpList _ _ _ _ _ W5.drew
      have hT6 := HT5.out.later (bb W5 1)
      have hO6 := HO5.out.trans (Off.of_below (bb W5 1))
      have b5d := ((bb W5 1).cell (p := ⟨wr.heap.size, 5, none⟩) lb).trans b5
      have p05d := ((bb W5 1).cell (p := ⟨w.heap.size, 0, none⟩) (by show w.heap.size < _; omega)).trans p05
      have p15d := ((bb W5 1).cell (p := ⟨w.heap.size, 1, none⟩) (by show w.heap.size < _; omega)).trans p15
      have lb6 : wr.heap.size < (W5.drewN 1).heap.size := lb
      rw [show W5.drewN 1 = W5.drew from rfl] at hT6 hO6 b5d p05d p15d lb6
      clear b0 b1' b2 b3 b4 b5 p05 p15 tx5 lb
      generalize W5.drew = W6 at *
      have HT6 := hid hT6; have HO6 := hid hO6; have Hth := hid hth
      clear hT6 hO6 hth
      go_wp2_with fail
      refine (vh W6 1 s0 s1 s2 s3 nx ot (bM subj a) hcl Hws.out).mono ?_
      rintro en w7 ⟨rfl, hb7⟩
      have hT7 := HT6.out.later hb7
      have hO7 := HO6.out.trans (Off.of_below hb7)
      have b57 := (hb7.cell (p := ⟨wr.heap.size, 5, none⟩) lb6).trans b5d
      have p07 := (hb7.cell (p := ⟨w.heap.size, 0, none⟩) (by show w.heap.size < _; omega)).trans p05d
      have p17 := (hb7.cell (p := ⟨w.heap.size, 1, none⟩) (by show w.heap.size < _; omega)).trans p15d
      have hz7 := hb7.size
      have HT7 := hid hT7; have HO7 := hid hO7
      clear hT7 hO7 b5d p05d p15d HT6 HO6 hb7
      have hfo := Hfo2.out
      rw [show dZ ⟨1, s0, s1, s2, s3, nx, ot⟩ (bM subj a) = qw ⟨1, s0, s1, s2, s3, nx, ot⟩ (bM subj a) from rfl, Hth.out] at hfo
      cases hbt : qw ⟨1, s0, s1, s2, s3, nx, ot⟩ (bM subj a) with
      | false =>
       rw [hbt, if_neg (by simp)] at hfo
       have Hfo := hid hfo
       clear hfo Hfo2 hbt hidx ha5 ha1 ha2 hwr
       go_wp2_with fail
       go_roundg (gk - 1)
       case measure => omega
       case rel => exact ⟨i + 1, _, by go_num, by omega, Hfo.out, HT7.out, HO7.out⟩
      | true =>
       rw [hbt, if_pos (by simp)] at hfo
       have Hfo := hid hfo
       have hn1 := Hnx.out trivial
       obtain ⟨xn, rfl⟩ : ∃ xn : Nat, nx = xn := ⟨nx.toNat, Hnx2.out trivial⟩
       clear hfo Hfo2 hbt hidx ha5 ha1 ha2 hwr
       go_wp2_with fail
       have hS7 : StsAt w7 ok l (some ⟨gm, om, none⟩) c := HS3.out.mono (fun k hk => ⟨hk, fun o => HO7.out.cell (Hok3.out k hk) (fun e => HTo.out (e ▸ hk))⟩)
       have hzO7 := HO7.out.size
       refine (pw w7 T2 l st HM.out ok (some ⟨gm, om, none⟩) c ((a : Int) == 0) ((a : Int) == (subj.length : Int)) hS7 (fun k hk => by have := Hok3.out k hk; omega) HTo.out _ HT7.out xn (by simpa using hn1)).mono ?_
       rintro en w8 ⟨rfl, hT8, hO8⟩
       rw [E1.out, E2.out] at hT8
       have HT8 := hid hT8; have HO8 := hid (HO7.out.trans hO8)
       clear hT8 hO8
       go_wp2_with fail
       go_roundg (gk - 1)
       case measure => omega
       case rel => exact ⟨i + 1, _, by go_num, by omega, by simpa only [Int.toNat_natCast] using Hfo.out, HT8.out, HO8.out⟩
   case' neg =>
    have hie : i = l.length := by omega
    have hY2 : Y2 = iK l st subj a Y := by
     rw [← Hfo.out, List.drop_eq_nil_of_le (by simp; omega)]; rfl
    have hB5 : Below w1.heap.size w1 wr := HB3.out.trans (HO5.out.below (B := w1.heap.size) hzr hz3')
    have hov := HR.out.ov
    rw [show subj.length + 1 - a = (subj.length - a) + 1 by omega, og, ← hY2] at hov
    have hYl := HT5.out.len
    have p0' : wr.cell? ⟨w.heap.size, 0, none⟩ = some (.slice A l.length c) := p0
    have hS5 : StsAt wr ok l A c := HS3.out.mono (fun k hk => ⟨hk, fun o => HO5.out.cell (Hok3.out k hk) (fun e => HTo.out (e ▸ hk))⟩)
    have hok5 : ∀ k, ok k → k < wr.heap.size := fun k hk => by have := Hok3.out k hk; omega
    have Hov := hid hov; have HB5 := hid hB5; have HY2 := hid hY2; have HS5 := hid hS5; have Hok5 := hid hok5
    clear hov hB5 hY2 hYq Hfo hS5 hok5 p0' E1 E2 Hstep HS3 Hok3 hmk HO5 HY3
    go_wp2_with fail
    generalize hwv : wr = wv at *
    go_loopg [8, 14, 15] l.length (fun k v8 v14 v15 wq => ∃ (j n : Nat), v8 = .int .i64 (n : Int) ∧ v14 = .bool (dnR l Y2 j) ∧ v15 = .int .i64 (j : Int) ∧ j + k = l.length ∧ n = s + (Y2.take j).countP id ∧ wq = wv)
    case atStart => exact ⟨0, s, rfl, rfl, rfl, by omega, by simp, rfl⟩
    case round =>
     obtain ⟨j, n, rfl, rfl, rfl, hj, hn, rfl⟩ := hrel
     have hnb : n ≤ s + 4096 := by
      have h1 : (Y2.take j).countP id ≤ (Y2.take j).length := List.countP_le_length
      have h2 : (Y2.take j).length ≤ j := List.length_take_le ..
      omega
     by_cases hlt : j < l.length
     case' pos =>
      have tx := HT5.out.th j hlt
      have lT := HT5.out.lT
      have hcs := wf Y2 j (by omega)
      have hds := vY l Y2 j
      cases hth : Y2.getD j false with
      | false =>
       rw [hth] at tx hcs hds
       have Hds := hid hds
       clear hds hth
       rw [if_neg (by simp)] at hcs
       have Hcs := hid hcs
       clear hcs
       go_wp2_with fail
       go_roundg (gk - 1)
       case measure => omega
       case rel => exact ⟨j + 1, n, rfl, by rw [Hds.out]; simp, by go_num, by omega, by rw [Hcs.out]; omega, rfl⟩
      | true =>
       rw [hth] at tx hcs hds
       rw [if_pos rfl] at hcs
       obtain ⟨gm, om, rfl, hgm, hst7⟩ := HS5.out.at_ hl0
       have hgl := Hok5.out gm hgm
       have hstx := (hst7 j hlt).f0
       have hsN : l[j] = stN l j := by unfold stN; rw [List.getD_eq_getElem?_getD, List.getElem?_eq_getElem hlt]; rfl
       rw [hsN] at hstx
       have hcap := HS5.out.cap
       have Hds := hid hds; have Hcs := hid hcs
       clear hst7 hsN hds hcs hth
       generalize hsk : (stN l j).k = sk at *
       have Hsk := hid hsk
       clear hsk
       cases hd : dnR l Y2 j with
       | true =>
        have Hd := hid hd
        clear hd
        go_wp2_with fail
        go_roundg (gk - 1)
        case measure => omega
        case rel => exact ⟨j + 1, n + 1, by go_num, by rw [Hds.out, Hd.out]; simp, by go_num, by omega, by rw [Hcs.out]; omega, rfl⟩
       | false =>
        have Hd := hid hd
        clear hd
        go_wp2_with fail
        go_roundg (gk - 1)
        case measure => omega
        case rel => exact ⟨j + 1, n + 1, by go_num, by rw [Hds.out, Hd.out]; simp, by go_num, by omega, by rw [Hcs.out]; omega, rfl⟩
     case' neg =>
      have hje : j = l.length := by omega
      have hnn : (s : Int) + xU Y2 = (n : Int) := by
       rw [hn, hje, List.take_of_length_le (by omega)]; unfold xU; push_cast; rfl
      have hdd : uQ l Y2 = dnR l Y2 j := by rw [hje]; rfl
      have hov := Hov.out
      rw [hdd, hnn] at hov
      cases hd : dnR l Y2 j with
      | true =>
       rw [hd, if_pos rfl] at hov
       have Hov := hid hov
       clear hov hd hdd hnn
       go_wp2_with fail
       try rw [Exit.noGoto_ret]
       exact bodyPost_ret (v := .tuple #[.bool true, .int .i64 (n : Int), .int .i64 0]) (by simp [results, Tryz.results37, go_sem]) rfl ⟨by rw [Hres.out, ← Hov.out], hB1.trans (HB5.out.mono hb0)⟩
      | false =>
       rw [hd, if_neg (by simp)] at hov
       have Hov := hid hov
       clear hov hd hdd hnn
       go_wp2_with fail
       go_roundg (subj.length - a)
       case measure => omega
       case rel => exact ⟨a + 1, n, T2, Y2, by go_num, rfl, by go_num, ⟨by omega, by omega, by rw [show subj.length + 1 - (a + 1) = subj.length - a by omega]; exact Hov.out, HT5.out, hzr, fun e => by omega, HB5.out⟩⟩
theorem xI (s : Bs) : ∀ x ∈ bm s, WSt x := by
 unfold bm
 cases h : aY s with
 | error e => intro x hx; simp at hx
 | ok t => exact xy (rg h).2.1
theorem nl (s : Bs) (w : World) :
 Calls Tryz.prog 30 #[.string (bs s)] w fun en w' => ∃ A c, en = .returned (.tuple #[iI (bm s) (bU s) A c, .int .i64 (cC s)]) ∧ w'.ownsRow w.heap.size 30 7 (.slice A (bm s).length c) (bm s).length (aR (bm s)) ∧ Below w.heap.size w w' := by
 go_enter Tryz.func30, Tryz.ntmps30
 go_wp2_with fail
 generalize hW : w.alloc _ = W0
 have hB0 : Below w.heap.size w W0 := by subst hW; exact nal
 have hz0 : w.heap.size < W0.heap.size := by subst hW; simp
 have P0 : At2 W0 w.heap.size (.slice none 0 0) 0 := by subst hW; constructor <;> simp [go_sem]
 have y0 : ∀ o, W0.frozen? ⟨w.heap.size, o, none⟩ = false := fun o => by subst hW; simp [go_sem]
 clear hW
 refine (qV s W0).mono ?_
 rintro en w1 ⟨hb1, ⟨t, A, c, hp, rfl, hN⟩ | ⟨e, hp, he, rfl⟩⟩
 case inr =>
  have hz1 := hb1.size
  have P1 := P0.later hb1 hz0
  have y1 : ∀ o, w1.frozen? ⟨w.heap.size, o, none⟩ = false := fun o => (hb1.frozen (p := ⟨w.heap.size, o, none⟩) hz0).trans (y0 o)
  have hB1 := hB0.trans (hb1.mono (by omega))
  have hE : cC s = e := by unfold cC; rw [hp]
  have hL : bm s = [] := by unfold bm; rw [hp]
  have hS : bU s = 0 := by unfold bU; rw [hp]
  have HE := hid hE; have HL := hid hL; have HS := hid hS
  have heb : (e != 0) = true := by simpa using he
  obtain ⟨p0, p1⟩ := P1
  have q0 := y1 0; have q1 := y1 1
  have lq : w.heap.size < w1.heap.size := by omega
  clear hE hL hS hp he P0 y0 y1 hb1
  go_wp2_with fail
  generalize hW2 : (w1.setCell _ _).setCell _ _ = W2
  obtain ⟨r0, r1, hs2, hk2, hb2⟩ := lP _ _ p0 p1 hW2.symm
  have hB2 := hb2 _ _ (Nat.le_refl _) hB1
  have lq2 : w.heap.size < W2.heap.size := by omega
  clear hW2 hk2
  have r0' := (((Below.refl W2.heap.size W2).alloc (Nat.le_refl _) (.cells #[.int .i64 ay.k, .int .u64 ay.s0, .int .u64 ay.s1, .int .u64 ay.s2, .int .u64 ay.s3, .int .i64 ay.mn, .int .i64 ay.mx, .slice none ay.ps.length 0] 48)).cell (p := ⟨w.heap.size, 0, none⟩) lq2).trans r0
  have r1' := (((Below.refl W2.heap.size W2).alloc (Nat.le_refl _) (.cells #[.int .i64 ay.k, .int .u64 ay.s0, .int .u64 ay.s1, .int .u64 ay.s2, .int .u64 ay.s3, .int .i64 ay.mn, .int .i64 ay.mx, .slice none ay.ps.length 0] 48)).cell (p := ⟨w.heap.size, 1, none⟩) lq2).trans r1
  have hB3 := hB2.trans (((Below.refl W2.heap.size W2).alloc (Nat.le_refl _) (.cells #[.int .i64 ay.k, .int .u64 ay.s0, .int .u64 ay.s1, .int .u64 ay.s2, .int .u64 ay.s3, .int .i64 ay.mn, .int .i64 ay.mx, .slice none ay.ps.length 0] 48)).mono (by omega))
  generalize hW3 : W2.alloc _ = W3 at *
  refine bodyPost_ret (v := .tuple #[.agg #[.slice none 0 0, .int .i64 0], .int .i64 e]) (by simp [results, Tryz.results30, r0', r1', go_sem]) rfl ⟨none, 0, by rw [HE.out, HL.out, HS.out]; rfl, ?_, hB3⟩
  rw [HL.out]; exact ⟨rfl, .inl ⟨rfl, rfl⟩⟩
 case inl =>
  have hz1 := hb1.size
  have P1 := P0.later hb1 hz0
  have y1 : ∀ o, w1.frozen? ⟨w.heap.size, o, none⟩ = false := fun o => (hb1.frozen (p := ⟨w.heap.size, o, none⟩) hz0).trans (y0 o)
  have hB1 := hB0.trans (hb1.mono (by omega))
  have hE : cC s = bP t := by unfold cC; rw [hp]
  have hL : bm s = bJ t := by unfold bm; rw [hp]
  have hS : bU s = cQ t := by unfold bU; rw [hp]
  have HE := hid hE; have HL := hid hL; have HS := hid hS
  have HN := hid hN
  have lq : w.heap.size < w1.heap.size := by omega
  clear hE hL hS hp P0 y0 hN
  go_wp2_with fail
  generalize hW2 : w1.alloc _ = W2
  have hb2 : Below w1.heap.size w1 W2 := by subst hW2; exact nal
  have hN2 := HN.out.later hb2 (fun b hb => hb.2)
  have P2 := P1.later hb2 lq
  have y2 : ∀ o, W2.frozen? ⟨w.heap.size, o, none⟩ = false := fun o => (hb2.frozen (p := ⟨w.heap.size, o, none⟩) lq).trans (y1 o)
  have hz2 := hb2.size
  have hB2 := hB1.trans (hb2.mono (by omega))
  clear hW2 P1 y1
  refine (tn t W2 _ A c hN2 (fun b hb => by omega)).mono ?_
  rintro en w3 ⟨v, rfl, ho3, hb3⟩
  obtain ⟨A3, c3, rfl⟩ := pR ho3
  have P3 := P2.later hb3 (by omega)
  have y3 : ∀ o, w3.frozen? ⟨w.heap.size, o, none⟩ = false := fun o => (hb3.frozen (p := ⟨w.heap.size, o, none⟩) (by show w.heap.size < _; omega)).trans (y2 o)
  have hB3 := hB2.trans (hb3.mono (by omega))
  have hz3 := hb3.size
  obtain ⟨p0, p1⟩ := P3
  have q0 := y3 0; have q1 := y3 1
  have lq3 : w.heap.size < w3.heap.size := by omega
  have Ho3 := hid ho3
  clear P2 y2 y3 ho3 hN2
  go_wp2_with fail
  generalize hW4 : (w3.setCell _ _).setCell _ _ = W4
  obtain ⟨r0, r1, hs4, hk4, hb4⟩ := lP _ _ p0 p1 hW4.symm
  have hB4 := hb4 _ _ (Nat.le_refl _) hB3
  have ho4 : W4.ownsRow W2.heap.size 30 7 (.slice A3 (bJ t).length c3) (bJ t).length (aR (bJ t)) := by
   refine Ho3.out.kept (row := some w.heap.size) ⟨by subst hW4; rfl, by subst hW4; rfl, by subst hW4; rfl, by omega, fun k hk hne => hk4 k (by simpa using hne)⟩ (.inr fun e => ?_)
   have := (Ho3.out.lt _ e).1
   omega
  refine bodyPost_ret (v := .tuple #[.agg #[.slice A3 (bJ t).length c3, .int .i64 (cQ t)], .int .i64 (bP t)]) (by simp [results, Tryz.results30, r0, r1, go_sem]) rfl ⟨A3, c3, by rw [HE.out, HL.out, HS.out], ?_, hB4⟩
  rw [HL.out]
  exact ho4.mono (by omega)
theorem tq (s subj : Bs) (w : World) :
 Calls Tryz.prog 31 #[.string (bs s), .string (bs subj)] w fun en w' => en = .returned (.tuple #[.bool (aK s subj).1, .int .i64 (aK s subj).2.1, .int .i64 (aK s subj).2.2]) ∧ Below w.heap.size w w' := by
 go_enter Tryz.func31, Tryz.ntmps31
 go_wp2_with fail
 refine (nl s w).mono ?_
 rintro en w1 ⟨A, c, rfl, ho1, hb1⟩
 have hl := mA s
 have Ho1 := hid ho1
 have hz1 := hb1.size
 clear ho1
 by_cases he : cC s = 0
 · have hres : aK s subj = dK (bm s) (bU s) subj := by unfold aK; rw [if_neg (by simpa using he)]
   have Hres := hid hres
   have hb : (cC s != 0) = false := by rw [he]; rfl
   clear hres he
   go_wp2_with fail
   generalize hW2 : w1.alloc _ = W2
   have hb2 : Below w1.heap.size w1 W2 := by subst hW2; exact nal
   have hz2 := hb2.size
   clear hW2
   refine (pO W2 (fun b => b < W2.heap.size) (bm s) (bU s) A c (lQ (gN Ho1.out hb2) hl) (fun b h => h) (xI s) subj).mono ?_
   rintro en w3 ⟨rfl, hb3⟩
   go_wp2_with fail
   exact bodyPost_ret (v := .tuple #[.bool (dK (bm s) (bU s) subj).1, .int .i64 (dK (bm s) (bU s) subj).2.1, .int .i64 (dK (bm s) (bU s) subj).2.2]) (by simp [results, Tryz.results31, go_sem]) rfl ⟨by rw [Hres.out], hb1.trans ((hb2.mono hz1).trans (hb3.mono (by omega)))⟩
 · have hres : aK s subj = (false, 0, cC s) := by unfold aK; rw [if_pos he]
   have Hres := hid hres
   have hb : (cC s != 0) = true := by rw [bne_iff_ne]; exact he
   clear hres he
   go_wp2_with fail
   exact bodyPost_ret (v := .tuple #[.bool false, .int .i64 0, .int .i64 (cC s)]) (by simp [results, Tryz.results31, go_sem]) rfl ⟨by rw [Hres.out], hb1.alloc hz1 _⟩
structure Mch (W : World) (b base : Nat) (l : List St) (sa : Int) (A : Option Addr) (c : Nat) : Prop where
 box : At2 W b (.slice A l.length c) sa
 blt : b < W.heap.size
 own : W.ownsRow base 30 7 (.slice A l.length c) l.length (aR l)
theorem Mch.later {W W' : World} {b base : Nat} {l : List St} {sa : Int} {A : Option Addr} {c : Nat} (h : Mch W b base l sa A c) (hb : Below W.heap.size W W') : Mch W' b base l sa A c :=
 ⟨h.box.later hb h.blt, Nat.lt_of_lt_of_le h.blt hb.size, gN h.own hb⟩
theorem Mch.spoil {W W' : World} {b base : Nat} {l : List St} {sa : Int} {A : Option Addr} {c : Nat} (h : Mch W b base l sa A c) {r : Option Nat} (hs : Spoils r W W') {B : Nat} (hr : ∀ k, B ≤ k → some k ≠ r) (hb : B ≤ b) (hB : B ≤ base) : Mch W' b base l sa A c :=
 ⟨⟨(hs.cell h.blt (hr b hb)).trans h.box.f0, (hs.cell h.blt (hr b hb)).trans h.box.f1⟩, Nat.lt_of_lt_of_le h.blt hs.size, hs.own h.own (fun k hk => hr k (Nat.le_trans hB (h.own.lt k hk).1))⟩
theorem Mch.box_new {w1 W : World} {l : List St} {sa : Int} {A : Option Addr} {c base : Nat} (ho : w1.ownsRow base 30 7 (.slice A l.length c) l.length (aR l)) (hW : W = w1.alloc (.cells #[.slice A l.length c, .int .i64 sa] 33)) : Mch W w1.heap.size base l sa A c := by
 have hb : Below w1.heap.size w1 W := by subst hW; exact nal
 refine ⟨?_, by subst hW; simp, gN ho hb⟩
 subst hW
 constructor <;> simp [go_sem]
theorem ui (s subj : Bs) (w : World) (hM : dc w) :
 Calls Tryz.prog 19 #[.string (bs s), .string (bs subj)] w fun en w' => en = .returned (.tuple #[.bool (aK s subj).1, .int .i64 (aK s subj).2.1, .int .i64 (aK s subj).2.2]) ∧ Below w.heap.size w w' := cX s subj w hM (fun _ => brC) (fun _ => uL)
theorem tk (w : World) (l : List St) (sa : Int) {b1 b2 p1 p2 : Nat} {A1 A2 : Option Addr} {c1 c2 : Nat} (h1 : Mch w b1 p1 l sa A1 c1) (h2 : Mch w b2 p2 l sa A2 c2) (hl : l.length ≤ 4096) :
 Calls Tryz.prog 32 #[iI l sa A1 c1, iI l sa A2 c2] w fun e w' => e = .returned (.bool true) ∧ Below w.heap.size w w' := by
 have := pF w _ l l sa sa A1 A2 c1 c2 (lQ h1.own hl) (lQ h2.own hl) (fun b h => h)
 rw [kN] at this
 exact this
theorem ro (w : World) (hM : dc w) (a : Bs) (hal : a.length ≤ maxLen) (s : Bs) (hsl : s.length ≤ maxLen) :
 Calls Tryz.prog 13 #[.string (bs a), .string (bs s)] w fun e w' => e = .returned (.bool true) ∧ Below w.heap.size w w' := by
 unfold maxLen at hal hsl
 have hsz0 : (bs a).size = a.length := by simp [bs, ByteArray.size]
 have hsz1 : (bs s).size = s.length := by simp [bs, ByteArray.size]
 by_cases b1 : 4096 < (a.length : Int)
 · go_enter Tryz.func13, Tryz.ntmps13
   go_wp2_with fail
   exact bodyPost_ret (v := .bool true) (by simp [results, Tryz.results13, go_sem]) rfl ⟨rfl, Below.refl _ _⟩
 by_cases b2 : 200 < (s.length : Int)
 · go_enter Tryz.func13, Tryz.ntmps13
   go_wp2_with fail
   exact bodyPost_ret (v := .bool true) (by simp [results, Tryz.results13, go_sem]) rfl ⟨rfl, Below.refl _ _⟩
 have HM := hid hM; clear hM
 have hl := mA a
 have hC := fun w hM => qm a w hM (fun _ => brC) (fun _ => uL)
 have hR := fun w => nl a w
 have hF := fun w hM => ui a s w hM
 have hG := fun w => tq a s w
 have hS := fun (w : World) {b1 b2 p1 p2 : Nat} {A1 A2 : Option Addr} {c1 c2 : Nat} (h1 : Mch w b1 p1 (bm a) (bU a) A1 c1) (h2 : Mch w b2 p2 (bm a) (bU a) A2 c2) => tk w (bm a) (bU a) h1 h2 hl
 have hP := fun (w : World) (base : Nat) (A : Option Addr) (c : Nat) (ho : w.ownsRow base 30 7 (.slice A (bm a).length c) (bm a).length (aR (bm a))) (hb : base ≤ w.heap.size) => tf w (bm a) (bU a) base A c ho hb (by omega)
 generalize bm a = l at *
 generalize bU a = sa at *
 generalize cC a = ea at *
 generalize aK a s = fd at *
 obtain ⟨fo, fs, fe⟩ := fd
 have HC := hid hC; have HR := hid hR; have HF := hid hF; have HG := hid hG; have HS := hid @hS; have HP := hid hP
 clear hC hR hF hG hS hP
 have e1 : (ea != ea) = false := by simp
 have e2 : (fe != fe) = false := by simp
 have e3 : (fo != fo) = false := by simp
 have e4 : (fs != fs) = false := by simp
 go_enter Tryz.func13, Tryz.ntmps13
 go_wp2_with fail
 refine (HC.out w HM.out).mono ?_
 rintro en w1 ⟨A1, c1, rfl, ho1, hb1⟩
 have HB := hid hb1
 have Ho1 := hid ho1
 have Hrow := hid (fun k (hk : (Value.slice A1 l.length c1).ownBlock = some k) => ho1.lt k hk)
 have hwz1 : w.heap.size ≤ w1.heap.size := hb1.size
 clear hb1 ho1
 go_upto_region 4 with fail
 generalize hW : w1.alloc _ = W1
 have hb : Below w1.heap.size w1 W1 := by subst hW; exact nal
 have M1 := hid (Mch.box_new Ho1.out hW.symm)
 have HB := hid (HB.out.trans (hb.mono hwz1))
 have hz1 : w1.heap.size < W1.heap.size := M1.out.blt
 clear hW hb Ho1
 go_wp2_with fail
 refine (HC.out W1 (HM.out.later HB.out)).mono ?_
 rintro en w2 ⟨A2, c2, rfl, ho2, hb2⟩
 have M1 := hid (M1.out.later hb2)
 have Ho2 := hid ho2
 have hz2 : W1.heap.size ≤ w2.heap.size := hb2.size
 have HB := hid (HB.out.trans (hb2.mono (by omega)))
 clear hb2 ho2
 go_upto_region 5 with fail
 generalize hW : w2.alloc _ = W2
 have hb : Below w2.heap.size w2 W2 := by subst hW; exact nal
 have M2 := hid (Mch.box_new Ho2.out hW.symm)
 have M1 := hid (M1.out.later hb)
 have HB := hid (HB.out.trans (hb.mono (by omega)))
 have hz3 : w2.heap.size < W2.heap.size := M2.out.blt
 clear hW hb Ho2
 go_wp2_with fail
 refine (HF.out W2 (HM.out.later HB.out)).mono ?_
 rintro en w3 ⟨rfl, hb3⟩
 have M2 := hid (M2.out.later hb3)
 have M1 := hid (M1.out.later hb3)
 have HB := hid (HB.out.trans (hb3.mono (by omega)))
 have hz4 : W2.heap.size ≤ w3.heap.size := hb3.size
 clear hb3
 go_wp2_with fail
 refine (HR.out w3).mono ?_
 rintro en w4 ⟨A4, c4, rfl, ho4, hb4⟩
 have M2 := hid (M2.out.later hb4)
 have M1 := hid (M1.out.later hb4)
 have HB := hid (HB.out.trans (hb4.mono (by omega)))
 have Ho4 := hid ho4
 have hz5 : w3.heap.size ≤ w4.heap.size := hb4.size
 clear hb4 ho4
 go_upto_region 7 with fail
 generalize hW : w4.alloc _ = W4
 have hb : Below w4.heap.size w4 W4 := by subst hW; exact nal
 have M4 := hid (Mch.box_new Ho4.out hW.symm)
 have M2 := hid (M2.out.later hb)
 have M1 := hid (M1.out.later hb)
 have HB := hid (HB.out.trans (hb.mono (by omega)))
 have hz6 : w4.heap.size < W4.heap.size := M4.out.blt
 clear hW hb Ho4
 go_wp2_with fail
 refine (HG.out W4).mono ?_
 rintro en w5 ⟨rfl, hb5⟩
 have M4 := hid (M4.out.later hb5)
 have M2 := hid (M2.out.later hb5)
 have M1 := hid (M1.out.later hb5)
 have HB := hid (HB.out.trans (hb5.mono (by omega)))
 have hz7 : W4.heap.size ≤ w5.heap.size := hb5.size
 clear hb5
 obtain ⟨p0, p1⟩ := M1.out.box
 obtain ⟨q0, q1⟩ := M2.out.box
 obtain ⟨r0, r1⟩ := M4.out.box
 go_wp2_with fail
 refine (HS.out w5 M1.out M4.out).mono ?_
 rintro en w6 ⟨rfl, hb6⟩
 have M4 := hid (M4.out.later hb6)
 have M2 := hid (M2.out.later hb6)
 have M1 := hid (M1.out.later hb6)
 have HB := hid (HB.out.trans (hb6.mono (by omega)))
 have hz8 : w5.heap.size ≤ w6.heap.size := hb6.size
 clear hb6 p0 p1 q0 q1 r0 r1
 obtain ⟨p0, p1⟩ := M1.out.box
 obtain ⟨q0, q1⟩ := M2.out.box
 obtain ⟨r0, r1⟩ := M4.out.box
 go_wp2_with fail
 refine (HS.out w6 M2.out M4.out).mono ?_
 rintro en w7 ⟨rfl, hb7⟩
 have M4 := hid (M4.out.later hb7)
 have M2 := hid (M2.out.later hb7)
 have M1 := hid (M1.out.later hb7)
 have HB := hid (HB.out.trans (hb7.mono (by omega)))
 have hz9 : w6.heap.size ≤ w7.heap.size := hb7.size
 clear hb7 p0 p1 q0 q1 r0 r1
 obtain ⟨p0, p1⟩ := M1.out.box
 go_wp2_with fail
 refine (HP.out w7 w.heap.size A1 c1 M1.out.own (by omega)).mono ?_
 rintro en w8 ⟨rfl, hs8⟩
 have hne : ∀ k, k < w.heap.size ∨ w1.heap.size ≤ k → some k ≠ (Value.slice A1 l.length c1).ownBlock := fun k hk e => by have := Hrow.out k e.symm; omega
 have M4 := hid (M4.out.spoil hs8 (B := w1.heap.size) (fun k hk => hne k (.inr hk)) (by omega) (by omega))
 have M2 := hid (M2.out.spoil hs8 (B := w1.heap.size) (fun k hk => hne k (.inr hk)) (by omega) (by omega))
 have HB := hid (show Below w.heap.size w w8 from ⟨hs8.os.trans HB.out.os, hs8.tape.trans HB.out.tape, hs8.output.trans HB.out.output, Nat.le_trans HB.out.size hs8.size, fun k hk => (hs8.block k (by omega) (hne k (.inl hk))).trans (HB.out.block k hk)⟩)
 have hz10 : w7.heap.size ≤ w8.heap.size := hs8.size
 clear hs8 hne p0 p1 M1
 obtain ⟨q0, q1⟩ := M2.out.box
 obtain ⟨r0, r1⟩ := M4.out.box
 go_wp2_with fail
 refine (HS.out w8 M2.out M4.out).mono ?_
 rintro en w9 ⟨rfl, hb9⟩
 have HB := hid (HB.out.trans (hb9.mono (by omega)))
 have hz11 : w8.heap.size ≤ w9.heap.size := hb9.size
 clear hb9 q0 q1 r0 r1
 go_wp2_with fail
 refine (bt w9 (HM.out.later HB.out)).mono ?_
 rintro en w10 ⟨rfl, hb10⟩
 go_wp2_with fail
 go_ret
 exact ⟨rfl, HB.out.trans (hb10.mono (by omega))⟩
end Go.Proofs.YthlakbjnmbddaaaGreatDoor
