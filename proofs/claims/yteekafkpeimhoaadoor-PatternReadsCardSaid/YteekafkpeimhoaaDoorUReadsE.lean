/- Merged texts, part of the proof Reads: Qi, Qj, Qk, Ql, Qm, Qn, Qo, Own. -/
import Derived.Test.YteekafkpeimhoaaDoorUReadsA
import Derived.Test.YteekafkpeimhoaaDoorUReadsB
import Derived.Test.YteekafkpeimhoaaDoorUReadsC
import Derived.Test.YteekafkpeimhoaaDoorUReadsD
/- vouchref10's Reader: bracket; one: walked. -/
set_option linter.unusedVariables false
set_option linter.unusedSimpArgs false
namespace Go.Proofs.YteekafkpeimhoaaDoor
open Go.RowKit

/-- What a step hands back that makes a node. -/
def QNode (p : Nat) (St : Bs) (op : Int) (f : Bs → PT) (s : Rs) (w : World) (en : Ending) (w' : World) : Prop :=
  ∃ (x : Nx) (k' : Nat) (s' : Rs), en = .returned (nodeV x.1 x.2.1 x.2.2) ∧ NodeAt w' (fun b => w.heap.size ≤ b ∧ b < w'.heap.size) x.1 x.2.1 x.2.2 ∧ RQ w' p St k' op s' ∧ Off p w w' ∧ Out f s (fun t => x.1 = t) s'
theorem RQ.boxX {w : World} {p : Nat} {S : Bs} {k : Nat} {op : Int} {s : Rs} (h : RQ w p S k op s) {b : Nat} (hb : p < b) (x : Nx) : RQ (writeX w b x) p S k op s := rq_below h (writeX_below (Below.refl b w) (Nat.le_refl _) x) hb
def brT (r : Bs) : PT := match bracketP r with | .error e => .error e | .ok (s, r1) => .ok (s.T, r1)
def notX (x : Int) : Int := bits .xor .u64 IntKind.u64.max x
def W4.xTo (s : W4) (i : Nat) : W4 := ⟨if 0 < i then notX s.a else s.a, if 1 < i then notX s.b else s.b, if 2 < i then notX s.c else s.c, if 3 < i then notX s.d else s.d⟩
theorem xTo_0 (s : W4) : s.xTo 0 = s := by simp [W4.xTo]
theorem xTo_all {s : W4} (h : Wok s) : s.xTo 4 = s.not := by
  simp only [W4.xTo, W4.not, notX]
  rw [xor_not h.a, xor_not h.b, xor_not h.c, xor_not h.d]
  simp
theorem xTo_put (s : W4) (i : Nat) (hi : i < 4) (u : Int) (hu : u = notX (s.word i)) : (s.xTo i).put i u = s.xTo (i + 1) := by
  subst hu
  rcases (show i = 0 ∨ i = 1 ∨ i = 2 ∨ i = 3 by omega) with rfl | rfl | rfl | rfl <;> simp [W4.xTo, W4.put, W4.word]
theorem item_nil {S : W4} : itemP S [] = .error 101 := rfl
theorem br_eq {neg : Bool} {r r0 : Bs} (h : bracketP r = match itemsP (r0.length + 1) w40 r0 with | .error e => .error e | .ok (s, r2) => .ok (if neg then s.not else s, r2)) :
    brT r = match itemsP (r0.length + 1) w40 r0 with | .error e => .error e | .ok (s, r2) => .ok ((if neg then s.not else s).T, r2) := by
  unfold brT
  rw [h]
  cases itemsP (r0.length + 1) w40 r0 with
  | error e => rfl
  | ok x => rfl
set_option maxRecDepth 100000 in
set_option maxHeartbeats 8000000 in
theorem qbracket_any (w : World) (p : Nat) (St : Bs) (k : Nat) (op : Int) (r : Bs) (h : RQ w p St k op (.ok r)) :
    Calls Tryd.prog 76 #[.pointer (some ⟨p, 0, none⟩)] w fun en w' => QNode p St op brT (.ok r) w en w' := by
  obtain ⟨neg, r0, htk, hl0, hbr⟩ := bracket_cases r
  have H := Lib.hid h; have Htk := Lib.hid htk; have Hbr := Lib.hid hbr
  have hp := h.lt
  clear h htk hbr
  go_enter Tryd.func76, Tryd.ntmps76
  go_upto_region 1 with fail
  generalize hW0 : w.alloc _ = W0
  have hB0 : Below w.heap.size w W0 := by subst hW0; exact (Below.refl _ _).alloc (Nat.le_refl _) _
  have hN0 : BlkX W0 w.heap.size (xcell (.mk 0 0 0 0 0 0 0 [], none, 0)).toArray := by subst hW0; exact BlkX.new w _
  clear hW0
  have ht := qtake_any W0 p St k op (.ok r) [94] (by simp) (H.out.later hB0)
  rw [Htk.out] at ht
  go_wp2_with fail
  refine ht.mono ?_
  rintro en w1 ⟨rfl, ⟨k1, h1⟩, hO1⟩
  have hN1 := Off.blk hO1 hN0 (by omega)
  have hO1 : Off p w w1 := (Off.of_below hB0).trans hO1
  have hz1 := hN1.lt
  try simp only at h1
  have H1 := Lib.hid h1; have HN1 := Lib.hid hN1; have HO1 := Lib.hid hO1
  clear ht h1 hN1 hO1 hN0 hB0 H
  go_upto_region 3 with fail
  generalize hW1 : w1.alloc _ = W1
  have hB1 : Below w1.heap.size w1 W1 := by subst hW1; exact (Below.refl _ _).alloc (Nat.le_refl _) _
  have hS2 : SetAt W1 w1.heap.size w40 := by subst hW1; exact SetAt.new w1
  clear hW1
  have HRr := Lib.hid (H1.out.later hB1)
  have HNr := Lib.hid (HN1.out.keep (hB1.block _ HN1.out.lt))
  have HOr := Lib.hid (HO1.out.trans (Off.of_below (p := p) hB1))
  clear H1 HN1 HO1 hB1
  generalize w1.heap.size = b1 at *
  have HSr := Lib.hid hS2
  clear hS2
  go_wp2_with fail
  go_loopg [5] (r0.length + 1) (fun n f wr => ∃ (first : Bool) (S : W4) (kr : Nat) (sr : Rs), f = .bool first ∧ RQ wr p St kr op sr ∧ BlkX wr w.heap.size (xcell (.mk 0 0 0 0 0 0 0 [], none, 0)).toArray ∧ SetAt wr b1 S ∧ Off p w wr ∧ ((∃ r', sr = .ok r' ∧ ItemsAt first n S r' (itemsP (r0.length + 1) w40 r0) ∧ Wok S) ∨ ∃ e, sr = .error e ∧ first = false ∧ brT r = .error e))
  case atStart => exact ⟨true, w40, k1, _, rfl, HRr.out, HNr.out, HSr.out, HOr.out, .inl ⟨r0, rfl, ⟨Nat.le_refl _, rfl⟩, wok0⟩⟩
  case round =>
    clear HRr HNr HSr HOr
    obtain ⟨first, S, kr, sr, rfl, hR, hN, hS, hO, hcase⟩ := hrel
    have HRr := Lib.hid hR; have HNr := Lib.hid hN; have HSr := Lib.hid hS; have HOr := Lib.hid hO
    have c3 := hR.rdr.c3
    have hne := hR.ne
    clear hR hN hS hO
    rcases hcase with ⟨r', rfl, ⟨hk, hG⟩, hwok⟩ | ⟨e, rfl, rfl, hbe⟩
    · simp only [Rs.no] at c3
      clear hne
      cases first with
      | true =>
        have HG1 := Lib.hid (show itemsP gk S r' = itemsP (r0.length + 1) w40 r0 by simpa using hG)
        clear hG
        have Hd := Lib.hid (done_q HRr.out)
        go_wp2_with fail
        refine Hd.out.mono ?_
        rintro en wd ⟨rfl, hR, hO⟩
        clear Hd
        have HNr := Lib.hid (Off.blk hO HNr.out (by omega))
        have HSr := Lib.hid (HSr.out.off hO (by omega))
        have HOr := Lib.hid (HOr.out.trans hO)
        have HRr := Lib.hid hR
        clear hO hR
        cases r' with
        | nil =>
          rw [show doneS (.ok []) = true from rfl]
          have Hs := Lib.hid (show Out brT (.ok r) (fun x => (if neg then S.xTo 4 else S).T = x) (.error 101) from Out.bad (by rw [br_eq Hbr.out, ← HG1.out, items_bad (by omega) item_nil]))
          clear HG1 Hbr
          go_wp2_with fail
          refine (qfail_ok 101 (by omega) HRr.out).mono ?_
          rintro en we ⟨rfl, hR, hO⟩
          have HNr := Lib.hid (Off.blk hO HNr.out (by omega))
          have HSr := Lib.hid (HSr.out.off hO (by omega))
          have HOr := Lib.hid (HOr.out.trans hO)
          have HRr := Lib.hid hR
          clear hO hR
          generalize (Except.error 101 : Rs) = s5 at *
          cases neg with
          | false =>
            have Hs := Lib.hid (show Out brT (.ok r) (fun x => S.T = x) s5 from Hs.out)
            obtain ⟨f0, f1, f2, f3⟩ := HSr.out.at4
            simp only [Nat.zero_add] at f1 f2 f3
            obtain ⟨⟨r0, r1, r2, r3, r4, r5, r6, r7⟩, hz⟩ := HNr.out.cells8
            have z0 := hz 0; have z1 := hz 1; have z2 := hz 2; have z3 := hz 3; have z4 := hz 4; have z5 := hz 5; have z6 := hz 6; have z7 := hz 7
            have lr := HNr.out.lt
            clear hz
            go_wp2_with fail
            change bodyPost _ _ _ _ _ (writeX we w.heap.size ((S.T, none, 0) : Nx))
            generalize hx : ((S.T, none, 0) : Nx) = x
            have Hx := Lib.hid hx
            clear hx
            have hfin := writeX_blk HNr.out x
            obtain ⟨⟨y0, y1, y2, y3, y4, y5, y6, y7⟩, _⟩ := hfin.cells8
            have hRS := HRr.out.boxX (b := w.heap.size) (by omega) x
            have hOff := Off.boxW HOr.out (Nat.le_refl _) x
            have hNod : NodeAt (writeX we w.heap.size x) (fun b => w.heap.size ≤ b ∧ b < (writeX we w.heap.size x).heap.size) x.1 x.2.1 x.2.2 := by rw [← Hx.out]; exact nodeAt_leafX _ _ _ rfl
            have Hout := Lib.hid (show Out brT (.ok r) (fun t => x.1 = t) s5 by rw [← Hx.out]; exact Hs.out)
            generalize writeX we w.heap.size x = WZ at *
            exact bodyPost_ret (v := nodeV x.1 x.2.1 x.2.2) (by simp [results, Tryd.results76, y0, y1, y2, y3, y4, y5, y6, y7, go_sem]) rfl ⟨x, kr, s5, rfl, hNod, hRS, hOff, Hout.out⟩
          | true =>
            have Hs := Lib.hid (show Out brT (.ok r) (fun x => (S.xTo 4).T = x) s5 from Hs.out)
            go_wp2_with fail
            go_loopg [6] 4 (fun k i wr => ∃ j : Nat, i = .int .i64 j ∧ j + k = 4 ∧ RQ wr p St kr op s5 ∧ BlkX wr w.heap.size (xcell (.mk 0 0 0 0 0 0 0 [], none, 0)).toArray ∧ SetAt wr b1 (S.xTo j) ∧ Off p w wr)
            case atStart => exact ⟨0, rfl, rfl, HRr.out, HNr.out, by rw [xTo_0]; exact HSr.out, HOr.out⟩
            case round =>
              obtain ⟨j, rfl, hj, h4, h5, h6, h7⟩ := hrel
              clear HRr HNr HSr HOr
              have HRr := Lib.hid h4; have HNr := Lib.hid h5; have HSr := Lib.hid h6; have HOr := Lib.hid h7
              have z0 := h6.froz 0; have z1 := h6.froz 1; have z2 := h6.froz 2; have z3 := h6.froz 3
              obtain ⟨f0, f1, f2, f3⟩ := h6.at4
              simp only [Nat.zero_add] at f1 f2 f3
              clear h4 h5 h6 h7
              rcases (show j = 0 ∨ j = 1 ∨ j = 2 ∨ j = 3 ∨ j = 4 by omega) with rfl | rfl | rfl | rfl | rfl
              · simp [W4.xTo] at f0
                go_wp2_with fail
                go_roundg (gk - 1)
                case measure => omega
                case rel => exact ⟨1, by go_num, by omega, HRr.out.put (by omega) 0 _, HNr.out.keep (Below.heap_setCell _ _ _ _ (by show w.heap.size ≠ b1; omega)), (by have h1 := HSr.out.put 0 (by omega) (bits .xor .u64 IntKind.u64.max S.a); rw [xTo_put S 0 (by omega) (bits .xor .u64 IntKind.u64.max S.a) rfl] at h1; exact h1), HOr.out.box (by omega) _ _⟩
              · simp [W4.xTo] at f1
                go_wp2_with fail
                go_roundg (gk - 1)
                case measure => omega
                case rel => exact ⟨2, by go_num, by omega, HRr.out.put (by omega) 1 _, HNr.out.keep (Below.heap_setCell _ _ _ _ (by show w.heap.size ≠ b1; omega)), (by have h1 := HSr.out.put 1 (by omega) (bits .xor .u64 IntKind.u64.max S.b); rw [xTo_put S 1 (by omega) (bits .xor .u64 IntKind.u64.max S.b) rfl] at h1; exact h1), HOr.out.box (by omega) _ _⟩
              · simp [W4.xTo] at f2
                go_wp2_with fail
                go_roundg (gk - 1)
                case measure => omega
                case rel => exact ⟨3, by go_num, by omega, HRr.out.put (by omega) 2 _, HNr.out.keep (Below.heap_setCell _ _ _ _ (by show w.heap.size ≠ b1; omega)), (by have h1 := HSr.out.put 2 (by omega) (bits .xor .u64 IntKind.u64.max S.c); rw [xTo_put S 2 (by omega) (bits .xor .u64 IntKind.u64.max S.c) rfl] at h1; exact h1), HOr.out.box (by omega) _ _⟩
              · simp [W4.xTo] at f3
                go_wp2_with fail
                go_roundg (gk - 1)
                case measure => omega
                case rel => exact ⟨4, by go_num, by omega, HRr.out.put (by omega) 3 _, HNr.out.keep (Below.heap_setCell _ _ _ _ (by show w.heap.size ≠ b1; omega)), (by have h1 := HSr.out.put 3 (by omega) (bits .xor .u64 IntKind.u64.max S.d); rw [xTo_put S 3 (by omega) (bits .xor .u64 IntKind.u64.max S.d) rfl] at h1; exact h1), HOr.out.box (by omega) _ _⟩
              · clear f0 f1 f2 f3 z0 z1 z2 z3
                generalize S.xTo 4 = SX at *
                obtain ⟨f0, f1, f2, f3⟩ := HSr.out.at4
                simp only [Nat.zero_add] at f1 f2 f3
                obtain ⟨⟨r0, r1, r2, r3, r4, r5, r6, r7⟩, hz⟩ := HNr.out.cells8
                have z0 := hz 0; have z1 := hz 1; have z2 := hz 2; have z3 := hz 3; have z4 := hz 4; have z5 := hz 5; have z6 := hz 6; have z7 := hz 7
                have lr := HNr.out.lt
                clear hz
                go_wp2_with fail
                change bodyPost _ _ _ _ _ (writeX wr w.heap.size ((SX.T, none, 0) : Nx))
                generalize hx : ((SX.T, none, 0) : Nx) = x
                have Hx := Lib.hid hx
                clear hx
                have hfin := writeX_blk HNr.out x
                obtain ⟨⟨y0, y1, y2, y3, y4, y5, y6, y7⟩, _⟩ := hfin.cells8
                have hRS := HRr.out.boxX (b := w.heap.size) (by omega) x
                have hOff := Off.boxW HOr.out (Nat.le_refl _) x
                have hNod : NodeAt (writeX wr w.heap.size x) (fun b => w.heap.size ≤ b ∧ b < (writeX wr w.heap.size x).heap.size) x.1 x.2.1 x.2.2 := by rw [← Hx.out]; exact nodeAt_leafX _ _ _ rfl
                have Hout := Lib.hid (show Out brT (.ok r) (fun t => x.1 = t) s5 by rw [← Hx.out]; exact Hs.out)
                generalize writeX wr w.heap.size x = WZ at *
                exact bodyPost_ret (v := nodeV x.1 x.2.1 x.2.2) (by simp [results, Tryd.results76, y0, y1, y2, y3, y4, y5, y6, y7, go_sem]) rfl ⟨x, kr, s5, rfl, hNod, hRS, hOff, Hout.out⟩
        | cons c0 t0 =>
          rw [show doneS (.ok (c0 :: t0)) = false from rfl]
          obtain ⟨f0, f1, f2, f3⟩ := HSr.out.at4
          simp only [Nat.zero_add] at f1 f2 f3
          go_wp2_with fail
          refine (qitem_any wd p St kr op (c0 :: t0) S HRr.out).mono ?_
          rintro en we ⟨S', ke, se, rfl, hR, hO, ho⟩
          clear f0 f1 f2 f3
          have HNr := Lib.hid (Off.blk hO HNr.out (by omega))
          have HSr := Lib.hid (HSr.out.off hO (by omega))
          have HOr := Lib.hid (HOr.out.trans hO)
          have HRr := Lib.hid hR
          clear hO hR
          have Ho := Lib.hid ho
          clear ho
          obtain ⟨g0, g1, g2, g3⟩ := HSr.out.at4
          simp only [Nat.zero_add] at g1 g2 g3
          have y0 := HSr.out.froz 0; have y1 := HSr.out.froz 1; have y2 := HSr.out.froz 2; have y3 := HSr.out.froz 3
          go_wp2_with fail
          change Handed _ _ _ (setV we b1 S')
          have hA := HSr.out.setV S'
          have hN := HNr.out.keep (setV_other we b1 S' w.heap.size (by omega))
          have hRV := HRr.out.fillV (b := b1) (by omega) S'
          have hOV := Off.setV HOr.out (b := b1) (by omega) S'
          clear g0 g1 g2 g3 y0 y1 y2 y3
          generalize setV we b1 S' = W1 at *
          cases se with
          | error e =>
            have hbe := Lib.hid (show brT r = .error e by rw [br_eq Hbr.out, ← HG1.out, items_bad (by omega) (out_bad Ho.out)])
            go_roundg 0
            case measure => omega
            case rel => exact ⟨false, S', ke, _, rfl, hRV, hN, hA, hOV, .inr ⟨e, rfl, rfl, hbe.out⟩⟩
          | ok r2 =>
            obtain ⟨x, hit, rfl⟩ := out_good Ho.out
            have hlt := item_lt hit
            have hwok2 := Lib.hid (item_ok hwok hit)
            have HG2 := Lib.hid (HG1.out.symm.trans (items_good (by omega) hit))
            go_roundg (gk - 1)
            case measure => omega
            case rel => exact ⟨false, S', ke, _, rfl, hRV, hN, hA, hOV, .inl ⟨r2, rfl, ⟨by omega, HG2.out.symm⟩, hwok2.out⟩⟩
      | false =>
        have hG2 : (match takeP [93] r' with | some r2 => Except.ok (S, r2) | none => itemsP gk S r') = itemsP (r0.length + 1) w40 r0 := by have h := hG; rw [if_neg (by simp)] at h; exact h
        clear hG
        cases ht : takeP [93] r' with
        | none =>
          rw [ht] at hG2
          have HG1 := Lib.hid (show itemsP gk S r' = itemsP (r0.length + 1) w40 r0 from hG2)
          have Ht := Lib.hid ht
          clear hG2 ht
          go_wp2_with fail
          refine (qtake_miss [93] (by simp) Ht.out HRr.out).mono ?_
          rintro en wm ⟨rfl, ⟨kr, hR⟩, hO⟩
          clear c3
          have HNr := Lib.hid (Off.blk hO HNr.out (by omega))
          have HSr := Lib.hid (HSr.out.off hO (by omega))
          have HOr := Lib.hid (HOr.out.trans hO)
          have HRr := Lib.hid hR
          clear hO hR
          have Hd := Lib.hid (done_q HRr.out)
          go_wp2_with fail
          refine Hd.out.mono ?_
          rintro en wd ⟨rfl, hR, hO⟩
          clear Hd
          have HNr := Lib.hid (Off.blk hO HNr.out (by omega))
          have HSr := Lib.hid (HSr.out.off hO (by omega))
          have HOr := Lib.hid (HOr.out.trans hO)
          have HRr := Lib.hid hR
          clear hO hR
          cases r' with
          | nil =>
            rw [show doneS (.ok []) = true from rfl]
            have Hs := Lib.hid (show Out brT (.ok r) (fun x => (if neg then S.xTo 4 else S).T = x) (.error 101) from Out.bad (by rw [br_eq Hbr.out, ← HG1.out, items_bad (by omega) item_nil]))
            clear HG1 Hbr
            go_wp2_with fail
            refine (qfail_ok 101 (by omega) HRr.out).mono ?_
            rintro en we ⟨rfl, hR, hO⟩
            have HNr := Lib.hid (Off.blk hO HNr.out (by omega))
            have HSr := Lib.hid (HSr.out.off hO (by omega))
            have HOr := Lib.hid (HOr.out.trans hO)
            have HRr := Lib.hid hR
            clear hO hR
            generalize (Except.error 101 : Rs) = s5 at *
            cases neg with
            | false =>
              have Hs := Lib.hid (show Out brT (.ok r) (fun x => S.T = x) s5 from Hs.out)
              obtain ⟨f0, f1, f2, f3⟩ := HSr.out.at4
              simp only [Nat.zero_add] at f1 f2 f3
              obtain ⟨⟨r0, r1, r2, r3, r4, r5, r6, r7⟩, hz⟩ := HNr.out.cells8
              have z0 := hz 0; have z1 := hz 1; have z2 := hz 2; have z3 := hz 3; have z4 := hz 4; have z5 := hz 5; have z6 := hz 6; have z7 := hz 7
              have lr := HNr.out.lt
              clear hz
              go_wp2_with fail
              change bodyPost _ _ _ _ _ (writeX we w.heap.size ((S.T, none, 0) : Nx))
              generalize hx : ((S.T, none, 0) : Nx) = x
              have Hx := Lib.hid hx
              clear hx
              have hfin := writeX_blk HNr.out x
              obtain ⟨⟨y0, y1, y2, y3, y4, y5, y6, y7⟩, _⟩ := hfin.cells8
              have hRS := HRr.out.boxX (b := w.heap.size) (by omega) x
              have hOff := Off.boxW HOr.out (Nat.le_refl _) x
              have hNod : NodeAt (writeX we w.heap.size x) (fun b => w.heap.size ≤ b ∧ b < (writeX we w.heap.size x).heap.size) x.1 x.2.1 x.2.2 := by rw [← Hx.out]; exact nodeAt_leafX _ _ _ rfl
              have Hout := Lib.hid (show Out brT (.ok r) (fun t => x.1 = t) s5 by rw [← Hx.out]; exact Hs.out)
              generalize writeX we w.heap.size x = WZ at *
              exact bodyPost_ret (v := nodeV x.1 x.2.1 x.2.2) (by simp [results, Tryd.results76, y0, y1, y2, y3, y4, y5, y6, y7, go_sem]) rfl ⟨x, kr, s5, rfl, hNod, hRS, hOff, Hout.out⟩
            | true =>
              have Hs := Lib.hid (show Out brT (.ok r) (fun x => (S.xTo 4).T = x) s5 from Hs.out)
              go_wp2_with fail
              go_loopg [6] 4 (fun k i wr => ∃ j : Nat, i = .int .i64 j ∧ j + k = 4 ∧ RQ wr p St kr op s5 ∧ BlkX wr w.heap.size (xcell (.mk 0 0 0 0 0 0 0 [], none, 0)).toArray ∧ SetAt wr b1 (S.xTo j) ∧ Off p w wr)
              case atStart => exact ⟨0, rfl, rfl, HRr.out, HNr.out, by rw [xTo_0]; exact HSr.out, HOr.out⟩
              case round =>
                obtain ⟨j, rfl, hj, h4, h5, h6, h7⟩ := hrel
                clear HRr HNr HSr HOr
                have HRr := Lib.hid h4; have HNr := Lib.hid h5; have HSr := Lib.hid h6; have HOr := Lib.hid h7
                have z0 := h6.froz 0; have z1 := h6.froz 1; have z2 := h6.froz 2; have z3 := h6.froz 3
                obtain ⟨f0, f1, f2, f3⟩ := h6.at4
                simp only [Nat.zero_add] at f1 f2 f3
                clear h4 h5 h6 h7
                rcases (show j = 0 ∨ j = 1 ∨ j = 2 ∨ j = 3 ∨ j = 4 by omega) with rfl | rfl | rfl | rfl | rfl
                · simp [W4.xTo] at f0
                  go_wp2_with fail
                  go_roundg (gk - 1)
                  case measure => omega
                  case rel => exact ⟨1, by go_num, by omega, HRr.out.put (by omega) 0 _, HNr.out.keep (Below.heap_setCell _ _ _ _ (by show w.heap.size ≠ b1; omega)), (by have h1 := HSr.out.put 0 (by omega) (bits .xor .u64 IntKind.u64.max S.a); rw [xTo_put S 0 (by omega) (bits .xor .u64 IntKind.u64.max S.a) rfl] at h1; exact h1), HOr.out.box (by omega) _ _⟩
                · simp [W4.xTo] at f1
                  go_wp2_with fail
                  go_roundg (gk - 1)
                  case measure => omega
                  case rel => exact ⟨2, by go_num, by omega, HRr.out.put (by omega) 1 _, HNr.out.keep (Below.heap_setCell _ _ _ _ (by show w.heap.size ≠ b1; omega)), (by have h1 := HSr.out.put 1 (by omega) (bits .xor .u64 IntKind.u64.max S.b); rw [xTo_put S 1 (by omega) (bits .xor .u64 IntKind.u64.max S.b) rfl] at h1; exact h1), HOr.out.box (by omega) _ _⟩
                · simp [W4.xTo] at f2
                  go_wp2_with fail
                  go_roundg (gk - 1)
                  case measure => omega
                  case rel => exact ⟨3, by go_num, by omega, HRr.out.put (by omega) 2 _, HNr.out.keep (Below.heap_setCell _ _ _ _ (by show w.heap.size ≠ b1; omega)), (by have h1 := HSr.out.put 2 (by omega) (bits .xor .u64 IntKind.u64.max S.c); rw [xTo_put S 2 (by omega) (bits .xor .u64 IntKind.u64.max S.c) rfl] at h1; exact h1), HOr.out.box (by omega) _ _⟩
                · simp [W4.xTo] at f3
                  go_wp2_with fail
                  go_roundg (gk - 1)
                  case measure => omega
                  case rel => exact ⟨4, by go_num, by omega, HRr.out.put (by omega) 3 _, HNr.out.keep (Below.heap_setCell _ _ _ _ (by show w.heap.size ≠ b1; omega)), (by have h1 := HSr.out.put 3 (by omega) (bits .xor .u64 IntKind.u64.max S.d); rw [xTo_put S 3 (by omega) (bits .xor .u64 IntKind.u64.max S.d) rfl] at h1; exact h1), HOr.out.box (by omega) _ _⟩
                · clear f0 f1 f2 f3 z0 z1 z2 z3
                  generalize S.xTo 4 = SX at *
                  obtain ⟨f0, f1, f2, f3⟩ := HSr.out.at4
                  simp only [Nat.zero_add] at f1 f2 f3
                  obtain ⟨⟨r0, r1, r2, r3, r4, r5, r6, r7⟩, hz⟩ := HNr.out.cells8
                  have z0 := hz 0; have z1 := hz 1; have z2 := hz 2; have z3 := hz 3; have z4 := hz 4; have z5 := hz 5; have z6 := hz 6; have z7 := hz 7
                  have lr := HNr.out.lt
                  clear hz
                  go_wp2_with fail
                  change bodyPost _ _ _ _ _ (writeX wr w.heap.size ((SX.T, none, 0) : Nx))
                  generalize hx : ((SX.T, none, 0) : Nx) = x
                  have Hx := Lib.hid hx
                  clear hx
                  have hfin := writeX_blk HNr.out x
                  obtain ⟨⟨y0, y1, y2, y3, y4, y5, y6, y7⟩, _⟩ := hfin.cells8
                  have hRS := HRr.out.boxX (b := w.heap.size) (by omega) x
                  have hOff := Off.boxW HOr.out (Nat.le_refl _) x
                  have hNod : NodeAt (writeX wr w.heap.size x) (fun b => w.heap.size ≤ b ∧ b < (writeX wr w.heap.size x).heap.size) x.1 x.2.1 x.2.2 := by rw [← Hx.out]; exact nodeAt_leafX _ _ _ rfl
                  have Hout := Lib.hid (show Out brT (.ok r) (fun t => x.1 = t) s5 by rw [← Hx.out]; exact Hs.out)
                  generalize writeX wr w.heap.size x = WZ at *
                  exact bodyPost_ret (v := nodeV x.1 x.2.1 x.2.2) (by simp [results, Tryd.results76, y0, y1, y2, y3, y4, y5, y6, y7, go_sem]) rfl ⟨x, kr, s5, rfl, hNod, hRS, hOff, Hout.out⟩
          | cons c0 t0 =>
            rw [show doneS (.ok (c0 :: t0)) = false from rfl]
            obtain ⟨f0, f1, f2, f3⟩ := HSr.out.at4
            simp only [Nat.zero_add] at f1 f2 f3
            go_wp2_with fail
            refine (qitem_any wd p St kr op (c0 :: t0) S HRr.out).mono ?_
            rintro en we ⟨S', ke, se, rfl, hR, hO, ho⟩
            clear f0 f1 f2 f3
            have HNr := Lib.hid (Off.blk hO HNr.out (by omega))
            have HSr := Lib.hid (HSr.out.off hO (by omega))
            have HOr := Lib.hid (HOr.out.trans hO)
            have HRr := Lib.hid hR
            clear hO hR
            have Ho := Lib.hid ho
            clear ho
            obtain ⟨g0, g1, g2, g3⟩ := HSr.out.at4
            simp only [Nat.zero_add] at g1 g2 g3
            have y0 := HSr.out.froz 0; have y1 := HSr.out.froz 1; have y2 := HSr.out.froz 2; have y3 := HSr.out.froz 3
            go_wp2_with fail
            change Handed _ _ _ (setV we b1 S')
            have hA := HSr.out.setV S'
            have hN := HNr.out.keep (setV_other we b1 S' w.heap.size (by omega))
            have hRV := HRr.out.fillV (b := b1) (by omega) S'
            have hOV := Off.setV HOr.out (b := b1) (by omega) S'
            clear g0 g1 g2 g3 y0 y1 y2 y3
            generalize setV we b1 S' = W1 at *
            cases se with
            | error e =>
              have hbe := Lib.hid (show brT r = .error e by rw [br_eq Hbr.out, ← HG1.out, items_bad (by omega) (out_bad Ho.out)])
              go_roundg 0
              case measure => omega
              case rel => exact ⟨false, S', ke, _, rfl, hRV, hN, hA, hOV, .inr ⟨e, rfl, rfl, hbe.out⟩⟩
            | ok r2 =>
              obtain ⟨x, hit, rfl⟩ := out_good Ho.out
              have hlt := item_lt hit
              have hwok2 := Lib.hid (item_ok hwok hit)
              have HG2 := Lib.hid (HG1.out.symm.trans (items_good (by omega) hit))
              go_roundg (gk - 1)
              case measure => omega
              case rel => exact ⟨false, S', ke, _, rfl, hRV, hN, hA, hOV, .inl ⟨r2, rfl, ⟨by omega, HG2.out.symm⟩, hwok2.out⟩⟩
        | some r2 =>
          rw [ht] at hG2
          have Hs := Lib.hid (show Out brT (.ok r) (fun x => (if neg then S.xTo 4 else S).T = x) (.ok r2) from Out.good (x := (if neg then S.not else S).T) (by rw [br_eq Hbr.out, ← hG2]) (by cases neg with | false => rfl | true => simp [xTo_all hwok]))
          have Ht := Lib.hid ht
          clear hG2 ht Hbr
          go_wp2_with fail
          refine (qtake_hit [93] (by simp) Ht.out HRr.out).mono ?_
          rintro en wm ⟨rfl, ⟨km, hR⟩, hO⟩
          clear c3 Ht
          have HNr := Lib.hid (Off.blk hO HNr.out (by omega))
          have HSr := Lib.hid (HSr.out.off hO (by omega))
          have HOr := Lib.hid (HOr.out.trans hO)
          have HRr := Lib.hid hR
          clear hO hR
          generalize (Except.ok r2 : Rs) = s5 at *
          cases neg with
          | false =>
            have Hs := Lib.hid (show Out brT (.ok r) (fun x => S.T = x) s5 from Hs.out)
            obtain ⟨f0, f1, f2, f3⟩ := HSr.out.at4
            simp only [Nat.zero_add] at f1 f2 f3
            obtain ⟨⟨r0, r1, r2, r3, r4, r5, r6, r7⟩, hz⟩ := HNr.out.cells8
            have z0 := hz 0; have z1 := hz 1; have z2 := hz 2; have z3 := hz 3; have z4 := hz 4; have z5 := hz 5; have z6 := hz 6; have z7 := hz 7
            have lr := HNr.out.lt
            clear hz
            go_wp2_with fail
            change bodyPost _ _ _ _ _ (writeX wm w.heap.size ((S.T, none, 0) : Nx))
            generalize hx : ((S.T, none, 0) : Nx) = x
            have Hx := Lib.hid hx
            clear hx
            have hfin := writeX_blk HNr.out x
            obtain ⟨⟨y0, y1, y2, y3, y4, y5, y6, y7⟩, _⟩ := hfin.cells8
            have hRS := HRr.out.boxX (b := w.heap.size) (by omega) x
            have hOff := Off.boxW HOr.out (Nat.le_refl _) x
            have hNod : NodeAt (writeX wm w.heap.size x) (fun b => w.heap.size ≤ b ∧ b < (writeX wm w.heap.size x).heap.size) x.1 x.2.1 x.2.2 := by rw [← Hx.out]; exact nodeAt_leafX _ _ _ rfl
            have Hout := Lib.hid (show Out brT (.ok r) (fun t => x.1 = t) s5 by rw [← Hx.out]; exact Hs.out)
            generalize writeX wm w.heap.size x = WZ at *
            exact bodyPost_ret (v := nodeV x.1 x.2.1 x.2.2) (by simp [results, Tryd.results76, y0, y1, y2, y3, y4, y5, y6, y7, go_sem]) rfl ⟨x, km, s5, rfl, hNod, hRS, hOff, Hout.out⟩
          | true =>
            have Hs := Lib.hid (show Out brT (.ok r) (fun x => (S.xTo 4).T = x) s5 from Hs.out)
            go_wp2_with fail
            go_loopg [6] 4 (fun k i wr => ∃ j : Nat, i = .int .i64 j ∧ j + k = 4 ∧ RQ wr p St km op s5 ∧ BlkX wr w.heap.size (xcell (.mk 0 0 0 0 0 0 0 [], none, 0)).toArray ∧ SetAt wr b1 (S.xTo j) ∧ Off p w wr)
            case atStart => exact ⟨0, rfl, rfl, HRr.out, HNr.out, by rw [xTo_0]; exact HSr.out, HOr.out⟩
            case round =>
              obtain ⟨j, rfl, hj, h4, h5, h6, h7⟩ := hrel
              clear HRr HNr HSr HOr
              have HRr := Lib.hid h4; have HNr := Lib.hid h5; have HSr := Lib.hid h6; have HOr := Lib.hid h7
              have z0 := h6.froz 0; have z1 := h6.froz 1; have z2 := h6.froz 2; have z3 := h6.froz 3
              obtain ⟨f0, f1, f2, f3⟩ := h6.at4
              simp only [Nat.zero_add] at f1 f2 f3
              clear h4 h5 h6 h7
              rcases (show j = 0 ∨ j = 1 ∨ j = 2 ∨ j = 3 ∨ j = 4 by omega) with rfl | rfl | rfl | rfl | rfl
              · simp [W4.xTo] at f0
                go_wp2_with fail
                go_roundg (gk - 1)
                case measure => omega
                case rel => exact ⟨1, by go_num, by omega, HRr.out.put (by omega) 0 _, HNr.out.keep (Below.heap_setCell _ _ _ _ (by show w.heap.size ≠ b1; omega)), (by have h1 := HSr.out.put 0 (by omega) (bits .xor .u64 IntKind.u64.max S.a); rw [xTo_put S 0 (by omega) (bits .xor .u64 IntKind.u64.max S.a) rfl] at h1; exact h1), HOr.out.box (by omega) _ _⟩
              · simp [W4.xTo] at f1
                go_wp2_with fail
                go_roundg (gk - 1)
                case measure => omega
                case rel => exact ⟨2, by go_num, by omega, HRr.out.put (by omega) 1 _, HNr.out.keep (Below.heap_setCell _ _ _ _ (by show w.heap.size ≠ b1; omega)), (by have h1 := HSr.out.put 1 (by omega) (bits .xor .u64 IntKind.u64.max S.b); rw [xTo_put S 1 (by omega) (bits .xor .u64 IntKind.u64.max S.b) rfl] at h1; exact h1), HOr.out.box (by omega) _ _⟩
              · simp [W4.xTo] at f2
                go_wp2_with fail
                go_roundg (gk - 1)
                case measure => omega
                case rel => exact ⟨3, by go_num, by omega, HRr.out.put (by omega) 2 _, HNr.out.keep (Below.heap_setCell _ _ _ _ (by show w.heap.size ≠ b1; omega)), (by have h1 := HSr.out.put 2 (by omega) (bits .xor .u64 IntKind.u64.max S.c); rw [xTo_put S 2 (by omega) (bits .xor .u64 IntKind.u64.max S.c) rfl] at h1; exact h1), HOr.out.box (by omega) _ _⟩
              · simp [W4.xTo] at f3
                go_wp2_with fail
                go_roundg (gk - 1)
                case measure => omega
                case rel => exact ⟨4, by go_num, by omega, HRr.out.put (by omega) 3 _, HNr.out.keep (Below.heap_setCell _ _ _ _ (by show w.heap.size ≠ b1; omega)), (by have h1 := HSr.out.put 3 (by omega) (bits .xor .u64 IntKind.u64.max S.d); rw [xTo_put S 3 (by omega) (bits .xor .u64 IntKind.u64.max S.d) rfl] at h1; exact h1), HOr.out.box (by omega) _ _⟩
              · clear f0 f1 f2 f3 z0 z1 z2 z3
                generalize S.xTo 4 = SX at *
                obtain ⟨f0, f1, f2, f3⟩ := HSr.out.at4
                simp only [Nat.zero_add] at f1 f2 f3
                obtain ⟨⟨r0, r1, r2, r3, r4, r5, r6, r7⟩, hz⟩ := HNr.out.cells8
                have z0 := hz 0; have z1 := hz 1; have z2 := hz 2; have z3 := hz 3; have z4 := hz 4; have z5 := hz 5; have z6 := hz 6; have z7 := hz 7
                have lr := HNr.out.lt
                clear hz
                go_wp2_with fail
                change bodyPost _ _ _ _ _ (writeX wr w.heap.size ((SX.T, none, 0) : Nx))
                generalize hx : ((SX.T, none, 0) : Nx) = x
                have Hx := Lib.hid hx
                clear hx
                have hfin := writeX_blk HNr.out x
                obtain ⟨⟨y0, y1, y2, y3, y4, y5, y6, y7⟩, _⟩ := hfin.cells8
                have hRS := HRr.out.boxX (b := w.heap.size) (by omega) x
                have hOff := Off.boxW HOr.out (Nat.le_refl _) x
                have hNod : NodeAt (writeX wr w.heap.size x) (fun b => w.heap.size ≤ b ∧ b < (writeX wr w.heap.size x).heap.size) x.1 x.2.1 x.2.2 := by rw [← Hx.out]; exact nodeAt_leafX _ _ _ rfl
                have Hout := Lib.hid (show Out brT (.ok r) (fun t => x.1 = t) s5 by rw [← Hx.out]; exact Hs.out)
                generalize writeX wr w.heap.size x = WZ at *
                exact bodyPost_ret (v := nodeV x.1 x.2.1 x.2.2) (by simp [results, Tryd.results76, y0, y1, y2, y3, y4, y5, y6, y7, go_sem]) rfl ⟨x, km, s5, rfl, hNod, hRS, hOff, Hout.out⟩
    · simp only [Rs.no] at c3
      have hne0 := hne e rfl
      have hb0 : (e == 0) = false := by rw [beq_eq_false_iff_ne]; exact hne0
      have Hs := Lib.hid (show Out brT (.ok r) (fun x => (if neg then S.xTo 4 else S).T = x) (.error e) from Out.bad hbe)
      clear hbe hne hne0
      generalize (Except.error e : Rs) = s5 at *
      cases neg with
      | false =>
        have Hs := Lib.hid (show Out brT (.ok r) (fun x => S.T = x) s5 from Hs.out)
        obtain ⟨f0, f1, f2, f3⟩ := HSr.out.at4
        simp only [Nat.zero_add] at f1 f2 f3
        obtain ⟨⟨r0, r1, r2, r3, r4, r5, r6, r7⟩, hz⟩ := HNr.out.cells8
        have z0 := hz 0; have z1 := hz 1; have z2 := hz 2; have z3 := hz 3; have z4 := hz 4; have z5 := hz 5; have z6 := hz 6; have z7 := hz 7
        have lr := HNr.out.lt
        clear hz
        go_wp2_with fail
        change bodyPost _ _ _ _ _ (writeX wr w.heap.size ((S.T, none, 0) : Nx))
        generalize hx : ((S.T, none, 0) : Nx) = x
        have Hx := Lib.hid hx
        clear hx
        have hfin := writeX_blk HNr.out x
        obtain ⟨⟨y0, y1, y2, y3, y4, y5, y6, y7⟩, _⟩ := hfin.cells8
        have hRS := HRr.out.boxX (b := w.heap.size) (by omega) x
        have hOff := Off.boxW HOr.out (Nat.le_refl _) x
        have hNod : NodeAt (writeX wr w.heap.size x) (fun b => w.heap.size ≤ b ∧ b < (writeX wr w.heap.size x).heap.size) x.1 x.2.1 x.2.2 := by rw [← Hx.out]; exact nodeAt_leafX _ _ _ rfl
        have Hout := Lib.hid (show Out brT (.ok r) (fun t => x.1 = t) s5 by rw [← Hx.out]; exact Hs.out)
        generalize writeX wr w.heap.size x = WZ at *
        exact bodyPost_ret (v := nodeV x.1 x.2.1 x.2.2) (by simp [results, Tryd.results76, y0, y1, y2, y3, y4, y5, y6, y7, go_sem]) rfl ⟨x, kr, s5, rfl, hNod, hRS, hOff, Hout.out⟩
      | true =>
        have Hs := Lib.hid (show Out brT (.ok r) (fun x => (S.xTo 4).T = x) s5 from Hs.out)
        go_wp2_with fail
        go_loopg [6] 4 (fun k i wr => ∃ j : Nat, i = .int .i64 j ∧ j + k = 4 ∧ RQ wr p St kr op s5 ∧ BlkX wr w.heap.size (xcell (.mk 0 0 0 0 0 0 0 [], none, 0)).toArray ∧ SetAt wr b1 (S.xTo j) ∧ Off p w wr)
        case atStart => exact ⟨0, rfl, rfl, HRr.out, HNr.out, by rw [xTo_0]; exact HSr.out, HOr.out⟩
        case round =>
          obtain ⟨j, rfl, hj, h4, h5, h6, h7⟩ := hrel
          clear HRr HNr HSr HOr
          have HRr := Lib.hid h4; have HNr := Lib.hid h5; have HSr := Lib.hid h6; have HOr := Lib.hid h7
          have z0 := h6.froz 0; have z1 := h6.froz 1; have z2 := h6.froz 2; have z3 := h6.froz 3
          obtain ⟨f0, f1, f2, f3⟩ := h6.at4
          simp only [Nat.zero_add] at f1 f2 f3
          clear h4 h5 h6 h7
          rcases (show j = 0 ∨ j = 1 ∨ j = 2 ∨ j = 3 ∨ j = 4 by omega) with rfl | rfl | rfl | rfl | rfl
          · simp [W4.xTo] at f0
            go_wp2_with fail
            go_roundg (gk - 1)
            case measure => omega
            case rel => exact ⟨1, by go_num, by omega, HRr.out.put (by omega) 0 _, HNr.out.keep (Below.heap_setCell _ _ _ _ (by show w.heap.size ≠ b1; omega)), (by have h1 := HSr.out.put 0 (by omega) (bits .xor .u64 IntKind.u64.max S.a); rw [xTo_put S 0 (by omega) (bits .xor .u64 IntKind.u64.max S.a) rfl] at h1; exact h1), HOr.out.box (by omega) _ _⟩
          · simp [W4.xTo] at f1
            go_wp2_with fail
            go_roundg (gk - 1)
            case measure => omega
            case rel => exact ⟨2, by go_num, by omega, HRr.out.put (by omega) 1 _, HNr.out.keep (Below.heap_setCell _ _ _ _ (by show w.heap.size ≠ b1; omega)), (by have h1 := HSr.out.put 1 (by omega) (bits .xor .u64 IntKind.u64.max S.b); rw [xTo_put S 1 (by omega) (bits .xor .u64 IntKind.u64.max S.b) rfl] at h1; exact h1), HOr.out.box (by omega) _ _⟩
          · simp [W4.xTo] at f2
            go_wp2_with fail
            go_roundg (gk - 1)
            case measure => omega
            case rel => exact ⟨3, by go_num, by omega, HRr.out.put (by omega) 2 _, HNr.out.keep (Below.heap_setCell _ _ _ _ (by show w.heap.size ≠ b1; omega)), (by have h1 := HSr.out.put 2 (by omega) (bits .xor .u64 IntKind.u64.max S.c); rw [xTo_put S 2 (by omega) (bits .xor .u64 IntKind.u64.max S.c) rfl] at h1; exact h1), HOr.out.box (by omega) _ _⟩
          · simp [W4.xTo] at f3
            go_wp2_with fail
            go_roundg (gk - 1)
            case measure => omega
            case rel => exact ⟨4, by go_num, by omega, HRr.out.put (by omega) 3 _, HNr.out.keep (Below.heap_setCell _ _ _ _ (by show w.heap.size ≠ b1; omega)), (by have h1 := HSr.out.put 3 (by omega) (bits .xor .u64 IntKind.u64.max S.d); rw [xTo_put S 3 (by omega) (bits .xor .u64 IntKind.u64.max S.d) rfl] at h1; exact h1), HOr.out.box (by omega) _ _⟩
          · clear f0 f1 f2 f3 z0 z1 z2 z3
            generalize S.xTo 4 = SX at *
            obtain ⟨f0, f1, f2, f3⟩ := HSr.out.at4
            simp only [Nat.zero_add] at f1 f2 f3
            obtain ⟨⟨r0, r1, r2, r3, r4, r5, r6, r7⟩, hz⟩ := HNr.out.cells8
            have z0 := hz 0; have z1 := hz 1; have z2 := hz 2; have z3 := hz 3; have z4 := hz 4; have z5 := hz 5; have z6 := hz 6; have z7 := hz 7
            have lr := HNr.out.lt
            clear hz
            go_wp2_with fail
            change bodyPost _ _ _ _ _ (writeX wr w.heap.size ((SX.T, none, 0) : Nx))
            generalize hx : ((SX.T, none, 0) : Nx) = x
            have Hx := Lib.hid hx
            clear hx
            have hfin := writeX_blk HNr.out x
            obtain ⟨⟨y0, y1, y2, y3, y4, y5, y6, y7⟩, _⟩ := hfin.cells8
            have hRS := HRr.out.boxX (b := w.heap.size) (by omega) x
            have hOff := Off.boxW HOr.out (Nat.le_refl _) x
            have hNod : NodeAt (writeX wr w.heap.size x) (fun b => w.heap.size ≤ b ∧ b < (writeX wr w.heap.size x).heap.size) x.1 x.2.1 x.2.2 := by rw [← Hx.out]; exact nodeAt_leafX _ _ _ rfl
            have Hout := Lib.hid (show Out brT (.ok r) (fun t => x.1 = t) s5 by rw [← Hx.out]; exact Hs.out)
            generalize writeX wr w.heap.size x = WZ at *
            exact bodyPost_ret (v := nodeV x.1 x.2.1 x.2.2) (by simp [results, Tryd.results76, y0, y1, y2, y3, y4, y5, y6, y7, go_sem]) rfl ⟨x, kr, s5, rfl, hNod, hRS, hOff, Hout.out⟩

set_option maxRecDepth 100000 in
set_option maxHeartbeats 2000000 in
theorem qone_any (w : World) (c : Nat) (hc : c < 256) :
    Calls Tryd.prog 77 #[.int .u8 (c : Int)] w fun en w' => en = .returned (nodeV (w40.add c).T none 0) ∧ Below w.heap.size w w' := by
  go_enter Tryd.func77, Tryd.ntmps77
  go_upto_region 1 with fail
  generalize hW0 : w.alloc _ = W0
  have hB0 : Below w.heap.size w W0 := by subst hW0; exact (Below.refl _ _).alloc (Nat.le_refl _) _
  have hN0 : BlkX W0 w.heap.size (xcell (.mk 0 0 0 0 0 0 0 [], none, 0)).toArray := by subst hW0; exact BlkX.new w _
  clear hW0
  go_wp2_with fail
  refine (qin_any W0 w40 c hc).mono ?_
  rintro en w1 ⟨rfl, hb⟩
  have hN1 := hN0.keep (hb.block _ hN0.lt)
  have hB1 := hB0.step hb
  have HN1 := Lib.hid hN1; have HB1 := Lib.hid hB1
  obtain ⟨⟨r0, r1, r2, r3, r4, r5, r6, r7⟩, hz⟩ := hN1.cells8
  have z0 := hz 0; have z1 := hz 1; have z2 := hz 2; have z3 := hz 3; have z4 := hz 4; have z5 := hz 5; have z6 := hz 6; have z7 := hz 7
  have lr := hN1.lt
  clear hz hN0 hB0 hb hN1 hB1
  generalize hT : w40.add c = T at *
  have HT := Lib.hid hT
  clear hT
  go_wp2_with fail
  change bodyPost _ _ _ _ _ (writeX w1 w.heap.size ((T.T, none, 0) : Nx))
  generalize hx : ((T.T, none, 0) : Nx) = x
  have Hx := Lib.hid hx
  clear hx
  have hfin := writeX_blk HN1.out x
  obtain ⟨⟨y0, y1, y2, y3, y4, y5, y6, y7⟩, _⟩ := hfin.cells8
  have hBB := writeX_below HB1.out (Nat.le_refl _) x
  have HE := Lib.hid (show nodeV x.1 x.2.1 x.2.2 = nodeV T.T none 0 by rw [← Hx.out])
  generalize writeX w1 w.heap.size x = WZ at *
  exact bodyPost_ret (v := nodeV x.1 x.2.1 x.2.2) (by simp [results, Tryd.results77, y0, y1, y2, y3, y4, y5, y6, y7, go_sem]) rfl ⟨by rw [HE.out, HT.out], hBB⟩
end Go.Proofs.YteekafkpeimhoaaDoor

/- vouchref10's Reader: atom: walked. -/
set_option linter.unusedVariables false
set_option linter.unusedSimpArgs false
namespace Go.Proofs.YteekafkpeimhoaaDoor
open Go.RowKit

theorem u8_is {c : UInt8} {k : Nat} (hk : k < 256) (h : c = UInt8.ofNat k) : ((c.toNat : Int) == (k : Int)) = true := by
  subst h
  simp [Nat.mod_eq_of_lt hk]
set_option maxRecDepth 100000 in
set_option maxHeartbeats 8000000 in
theorem qatom_any (w : World) (p : Nat) (St : Bs) (k : Nat) (op : Int) (c : UInt8) (t : Bs) (grp : Bs → PT) (h : RQ w p St k op (.ok (c :: t)))
    (hG : ∀ (w : World) (k : Nat) (r : Bs), RQ w p St k op (.ok r) → Calls Tryd.prog 74 #[.pointer (some ⟨p, 0, none⟩)] w fun en w' => QNode p St op grp (.ok r) w en w') :
    Calls Tryd.prog 59 #[.pointer (some ⟨p, 0, none⟩)] w fun en w' => QNode p St op (atomP grp) (.ok (c :: t)) w en w' := by
  have hp := h.lt
  have H := Lib.hid h; have HG := Lib.hid hG
  have hkb : k ≤ 1024 := Nat.le_trans h.rdr.le h.rdr.top
  have hat := h.at_
  have hkS := hat.1
  have hix := hat.2
  have hkI : (k : Int) < (St.length : Int) := by omega
  have sS := bsq_size St
  have hc := c.toNat_lt
  clear h hG hat
  go_enter Tryd.func59, Tryd.ntmps59
  go_upto_region 1 with fail
  generalize hW0 : w.alloc _ = W0
  have hB0 : Below w.heap.size w W0 := by subst hW0; exact (Below.refl _ _).alloc (Nat.le_refl _) _
  have hN0 : BlkX W0 w.heap.size (xcell (.mk 0 0 0 0 0 0 0 [], none, 0)).toArray := by subst hW0; exact BlkX.new w _
  clear hW0
  have h0 := H.out.later hB0
  have c0 := h0.rdr.c0
  have c1 := h0.rdr.c1
  have HRr := Lib.hid h0; have HNr := Lib.hid hN0; have HOr := Lib.hid (Off.of_below (p := p) hB0)
  clear H h0 hN0 hB0
  go_quiet (fail)
  have hb := belowQ W0 nq
  have hR := HRr.out.later hb
  have hO := Off.of_below (p := p) hb
  have hN := HNr.out.keep (hb.block _ HNr.out.lt)
  generalize W0.drewN nq = W1 at *
  have HRr := Lib.hid hR; have HNr := Lib.hid hN; have HOr := Lib.hid (HOr.out.trans hO)
  clear hb hN hO hR c0 c1
  have c1 := HRr.out.rdr.c1
  have y1 := HRr.out.rdr.z 1
  go_upto_region 3 with fail
  have hbx : ∀ hh, (bs St)[k]'hh = c := fun hh => by rw [← hix hkS]; rfl
  rw [hbx]
  have hR := HRr.out.step 1 (by simp)
  rw [show ((1 : Nat) : Int) = 1 from rfl, show (c :: t).drop 1 = t from rfl] at hR
  have hO := (Off.refl p W1).set 1 (.int .i64 ((k : Int) + 1))
  generalize W1.setCell _ _ = W2 at *
  clear c1 y1 hbx hix
  have HNr := Lib.hid (Off.blk hO HNr.out (by omega))
  have HOr := Lib.hid (HOr.out.trans hO)
  have HRr := Lib.hid hR
  clear hO hR
  have hkS : k + 1 ≤ St.length := hkS
  have hlr := HNr.out.lt
  by_cases d40 : c = 40
  · have e40 := u8_is (k := 40) (by omega) d40
    have HA := Lib.hid (show atomP grp (c :: t) = grp t by subst d40; simp [atomP])
    clear d40
    go_wp2_with fail
    refine (HG.out W2 (k + 1) t HRr.out).mono ?_
    rintro en W3 ⟨x, k3, s3, rfl, hx, hR, hO, ho⟩
    have Ho := Lib.hid (show Out (atomP grp) (.ok (c :: t)) (fun t => x.1 = t) s3 by simp only [Out, HA.out] at ho ⊢; exact ho)
    have HX := Lib.hid hx
    clear ho hx
    have HNr := Lib.hid (Off.blk hO HNr.out (by omega))
    have HOr := Lib.hid (HOr.out.trans hO)
    have HRr := Lib.hid hR
    clear hO hR
    obtain ⟨⟨r0, r1, r2, r3, r4, r5, r6, r7⟩, hz⟩ := HNr.out.cells8
    have z0 := hz 0; have z1 := hz 1; have z2 := hz 2; have z3 := hz 3; have z4 := hz 4; have z5 := hz 5; have z6 := hz 6; have z7 := hz 7
    have lr := HNr.out.lt
    clear hz
    go_wp2_with fail
    change bodyPost _ _ _ _ _ (writeX W3 w.heap.size x)
    have hfin := writeX_blk HNr.out x
    obtain ⟨⟨y0, y1, y2, y3, y4, y5, y6, y7⟩, _⟩ := hfin.cells8
    have hRS := HRr.out.boxX (b := w.heap.size) (by omega) x
    have hOff := Off.boxW HOr.out (Nat.le_refl _) x
    have hNod : NodeAt (writeX W3 w.heap.size x) (fun b => w.heap.size ≤ b ∧ b < (writeX W3 w.heap.size x).heap.size) x.1 x.2.1 x.2.2 := HX.out.mono fun k (hk : W2.heap.size ≤ k ∧ k < W3.heap.size) => ⟨⟨by omega, by rw [writeX_size]; exact hk.2⟩, fun o => World.cell?_of_block (w := W3) (a := ⟨k, o, none⟩) (writeX_other _ _ _ _ (show k ≠ w.heap.size by omega))⟩
    generalize writeX W3 w.heap.size x = WZ at *
    exact bodyPost_ret (v := nodeV x.1 x.2.1 x.2.2) (by simp [results, Tryd.results59, y0, y1, y2, y3, y4, y5, y6, y7, go_sem]) rfl ⟨x, k3, s3, rfl, hNod, hRS, hOff, Ho.out⟩
  have n40 := u8_ne (k := 40) (by omega) d40
  by_cases d46 : c = 46
  · have e46 := u8_is (k := 46) (by omega) d46
    have HA := Lib.hid (show atomP grp (c :: t) = .ok ((w40.span 0 256).T, t) by subst d46; simp [atomP])
    clear d46
    go_wp2_with fail
    refine (qall_any W2).mono ?_
    rintro en wo ⟨rfl, hb⟩
    have HNr := Lib.hid (HNr.out.keep (hb.block _ HNr.out.lt))
    have HOr := Lib.hid (HOr.out.trans (Off.of_below (p := p) hb))
    have HRr := Lib.hid (HRr.out.later hb)
    clear hb
    generalize w40.span 0 256 = TA at *
    obtain ⟨⟨r0, r1, r2, r3, r4, r5, r6, r7⟩, hz⟩ := HNr.out.cells8
    have z0 := hz 0; have z1 := hz 1; have z2 := hz 2; have z3 := hz 3; have z4 := hz 4; have z5 := hz 5; have z6 := hz 6; have z7 := hz 7
    have lr := HNr.out.lt
    clear hz
    go_wp2_with fail
    change bodyPost _ _ _ _ _ (writeX wo w.heap.size ((TA.T, none, 0) : Nx))
    generalize hx : ((TA.T, none, 0) : Nx) = x
    have Hx := Lib.hid hx
    clear hx
    have hfin := writeX_blk HNr.out x
    obtain ⟨⟨y0, y1, y2, y3, y4, y5, y6, y7⟩, _⟩ := hfin.cells8
    have hRS := HRr.out.boxX (b := w.heap.size) (by omega) x
    have hOff := Off.boxW HOr.out (Nat.le_refl _) x
    have hNod : NodeAt (writeX wo w.heap.size x) (fun b => w.heap.size ≤ b ∧ b < (writeX wo w.heap.size x).heap.size) x.1 x.2.1 x.2.2 := by rw [← Hx.out]; exact nodeAt_leafX _ _ _ rfl
    have Hout := Lib.hid (show Out (atomP grp) (.ok (c :: t)) (fun t => x.1 = t) (.ok t) by rw [← Hx.out]; exact Out.good HA.out rfl)
    generalize writeX wo w.heap.size x = WZ at *
    exact bodyPost_ret (v := nodeV x.1 x.2.1 x.2.2) (by simp [results, Tryd.results59, y0, y1, y2, y3, y4, y5, y6, y7, go_sem]) rfl ⟨x, k + 1, _, rfl, hNod, hRS, hOff, Hout.out⟩
  have n46 := u8_ne (k := 46) (by omega) d46
  by_cases d94 : c = 94
  · have e94 := u8_is (k := 94) (by omega) d94
    have HA := Lib.hid (show atomP grp (c :: t) = .ok (.mk 2 0 0 0 0 0 0 [], t) by subst d94; simp [atomP])
    clear d94
    obtain ⟨⟨r0, r1, r2, r3, r4, r5, r6, r7⟩, hz⟩ := HNr.out.cells8
    have z0 := hz 0; have z1 := hz 1; have z2 := hz 2; have z3 := hz 3; have z4 := hz 4; have z5 := hz 5; have z6 := hz 6; have z7 := hz 7
    have lr := HNr.out.lt
    clear hz
    go_wp2_with fail
    change bodyPost _ _ _ _ _ (writeX W2 w.heap.size ((.mk 2 0 0 0 0 0 0 [], none, 0) : Nx))
    generalize hx : ((.mk 2 0 0 0 0 0 0 [], none, 0) : Nx) = x
    have Hx := Lib.hid hx
    clear hx
    have hfin := writeX_blk HNr.out x
    obtain ⟨⟨y0, y1, y2, y3, y4, y5, y6, y7⟩, _⟩ := hfin.cells8
    have hRS := HRr.out.boxX (b := w.heap.size) (by omega) x
    have hOff := Off.boxW HOr.out (Nat.le_refl _) x
    have hNod : NodeAt (writeX W2 w.heap.size x) (fun b => w.heap.size ≤ b ∧ b < (writeX W2 w.heap.size x).heap.size) x.1 x.2.1 x.2.2 := by rw [← Hx.out]; exact nodeAt_leafX _ _ _ rfl
    have Hout := Lib.hid (show Out (atomP grp) (.ok (c :: t)) (fun t => x.1 = t) (.ok t) by rw [← Hx.out]; exact Out.good HA.out rfl)
    generalize writeX W2 w.heap.size x = WZ at *
    exact bodyPost_ret (v := nodeV x.1 x.2.1 x.2.2) (by simp [results, Tryd.results59, y0, y1, y2, y3, y4, y5, y6, y7, go_sem]) rfl ⟨x, k + 1, _, rfl, hNod, hRS, hOff, Hout.out⟩
  have n94 := u8_ne (k := 94) (by omega) d94
  by_cases d36 : c = 36
  · have e36 := u8_is (k := 36) (by omega) d36
    have HA := Lib.hid (show atomP grp (c :: t) = .ok (.mk 3 0 0 0 0 0 0 [], t) by subst d36; simp [atomP])
    clear d36
    obtain ⟨⟨r0, r1, r2, r3, r4, r5, r6, r7⟩, hz⟩ := HNr.out.cells8
    have z0 := hz 0; have z1 := hz 1; have z2 := hz 2; have z3 := hz 3; have z4 := hz 4; have z5 := hz 5; have z6 := hz 6; have z7 := hz 7
    have lr := HNr.out.lt
    clear hz
    go_wp2_with fail
    change bodyPost _ _ _ _ _ (writeX W2 w.heap.size ((.mk 3 0 0 0 0 0 0 [], none, 0) : Nx))
    generalize hx : ((.mk 3 0 0 0 0 0 0 [], none, 0) : Nx) = x
    have Hx := Lib.hid hx
    clear hx
    have hfin := writeX_blk HNr.out x
    obtain ⟨⟨y0, y1, y2, y3, y4, y5, y6, y7⟩, _⟩ := hfin.cells8
    have hRS := HRr.out.boxX (b := w.heap.size) (by omega) x
    have hOff := Off.boxW HOr.out (Nat.le_refl _) x
    have hNod : NodeAt (writeX W2 w.heap.size x) (fun b => w.heap.size ≤ b ∧ b < (writeX W2 w.heap.size x).heap.size) x.1 x.2.1 x.2.2 := by rw [← Hx.out]; exact nodeAt_leafX _ _ _ rfl
    have Hout := Lib.hid (show Out (atomP grp) (.ok (c :: t)) (fun t => x.1 = t) (.ok t) by rw [← Hx.out]; exact Out.good HA.out rfl)
    generalize writeX W2 w.heap.size x = WZ at *
    exact bodyPost_ret (v := nodeV x.1 x.2.1 x.2.2) (by simp [results, Tryd.results59, y0, y1, y2, y3, y4, y5, y6, y7, go_sem]) rfl ⟨x, k + 1, _, rfl, hNod, hRS, hOff, Hout.out⟩
  have n36 := u8_ne (k := 36) (by omega) d36
  by_cases d91 : c = 91
  · have e91 := u8_is (k := 91) (by omega) d91
    have HA := Lib.hid (show atomP grp (c :: t) = brT t by subst d91; simp [atomP, brT]; rfl)
    clear d91
    go_wp2_with fail
    refine (qbracket_any W2 p St (k + 1) op t HRr.out).mono ?_
    rintro en W3 ⟨x, k3, s3, rfl, hx, hR, hO, ho⟩
    have Ho := Lib.hid (show Out (atomP grp) (.ok (c :: t)) (fun t => x.1 = t) s3 by simp only [Out, HA.out] at ho ⊢; exact ho)
    have HX := Lib.hid hx
    clear ho hx
    have HNr := Lib.hid (Off.blk hO HNr.out (by omega))
    have HOr := Lib.hid (HOr.out.trans hO)
    have HRr := Lib.hid hR
    clear hO hR
    obtain ⟨⟨r0, r1, r2, r3, r4, r5, r6, r7⟩, hz⟩ := HNr.out.cells8
    have z0 := hz 0; have z1 := hz 1; have z2 := hz 2; have z3 := hz 3; have z4 := hz 4; have z5 := hz 5; have z6 := hz 6; have z7 := hz 7
    have lr := HNr.out.lt
    clear hz
    go_wp2_with fail
    change bodyPost _ _ _ _ _ (writeX W3 w.heap.size x)
    have hfin := writeX_blk HNr.out x
    obtain ⟨⟨y0, y1, y2, y3, y4, y5, y6, y7⟩, _⟩ := hfin.cells8
    have hRS := HRr.out.boxX (b := w.heap.size) (by omega) x
    have hOff := Off.boxW HOr.out (Nat.le_refl _) x
    have hNod : NodeAt (writeX W3 w.heap.size x) (fun b => w.heap.size ≤ b ∧ b < (writeX W3 w.heap.size x).heap.size) x.1 x.2.1 x.2.2 := HX.out.mono fun k (hk : W2.heap.size ≤ k ∧ k < W3.heap.size) => ⟨⟨by omega, by rw [writeX_size]; exact hk.2⟩, fun o => World.cell?_of_block (w := W3) (a := ⟨k, o, none⟩) (writeX_other _ _ _ _ (show k ≠ w.heap.size by omega))⟩
    generalize writeX W3 w.heap.size x = WZ at *
    exact bodyPost_ret (v := nodeV x.1 x.2.1 x.2.2) (by simp [results, Tryd.results59, y0, y1, y2, y3, y4, y5, y6, y7, go_sem]) rfl ⟨x, k3, s3, rfl, hNod, hRS, hOff, Ho.out⟩
  have n91 := u8_ne (k := 91) (by omega) d91
  by_cases d42 : c = 42
  · have e42 := u8_is (k := 42) (by omega) d42
    have HA := Lib.hid (show atomP grp (c :: t) = .error 104 by subst d42; simp [atomP])
    clear d42
    go_wp2_with fail
    refine (qfail_ok 104 (by omega) HRr.out).mono ?_
    rintro en W3 ⟨rfl, hR, hO⟩
    have HNr := Lib.hid (Off.blk hO HNr.out (by omega))
    have HOr := Lib.hid (HOr.out.trans hO)
    have HRr := Lib.hid hR
    clear hO hR
    go_wp2_with fail
    refine (qone_any W3 c.toNat hc).mono ?_
    rintro en wo ⟨rfl, hb⟩
    have HNr := Lib.hid (HNr.out.keep (hb.block _ HNr.out.lt))
    have HOr := Lib.hid (HOr.out.trans (Off.of_below (p := p) hb))
    have HRr := Lib.hid (HRr.out.later hb)
    clear hb
    have HO2 := Lib.hid (show Out (atomP grp) (.ok (c :: t)) (fun t => (w40.add c.toNat).T = t) (.error 104) from Out.bad HA.out)
    generalize w40.add c.toNat = TA at *
    obtain ⟨⟨r0, r1, r2, r3, r4, r5, r6, r7⟩, hz⟩ := HNr.out.cells8
    have z0 := hz 0; have z1 := hz 1; have z2 := hz 2; have z3 := hz 3; have z4 := hz 4; have z5 := hz 5; have z6 := hz 6; have z7 := hz 7
    have lr := HNr.out.lt
    clear hz
    go_wp2_with fail
    change bodyPost _ _ _ _ _ (writeX wo w.heap.size ((TA.T, none, 0) : Nx))
    generalize hx : ((TA.T, none, 0) : Nx) = x
    have Hx := Lib.hid hx
    clear hx
    have hfin := writeX_blk HNr.out x
    obtain ⟨⟨y0, y1, y2, y3, y4, y5, y6, y7⟩, _⟩ := hfin.cells8
    have hRS := HRr.out.boxX (b := w.heap.size) (by omega) x
    have hOff := Off.boxW HOr.out (Nat.le_refl _) x
    have hNod : NodeAt (writeX wo w.heap.size x) (fun b => w.heap.size ≤ b ∧ b < (writeX wo w.heap.size x).heap.size) x.1 x.2.1 x.2.2 := by rw [← Hx.out]; exact nodeAt_leafX _ _ _ rfl
    have Hout := Lib.hid (show Out (atomP grp) (.ok (c :: t)) (fun t => x.1 = t) (.error 104) by rw [← Hx.out]; exact HO2.out)
    generalize writeX wo w.heap.size x = WZ at *
    exact bodyPost_ret (v := nodeV x.1 x.2.1 x.2.2) (by simp [results, Tryd.results59, y0, y1, y2, y3, y4, y5, y6, y7, go_sem]) rfl ⟨x, k + 1, .error 104, rfl, hNod, hRS, hOff, Hout.out⟩
  have n42 := u8_ne (k := 42) (by omega) d42
  by_cases d43 : c = 43
  · have e43 := u8_is (k := 43) (by omega) d43
    have HA := Lib.hid (show atomP grp (c :: t) = .error 104 by subst d43; simp [atomP])
    clear d43
    go_wp2_with fail
    refine (qfail_ok 104 (by omega) HRr.out).mono ?_
    rintro en W3 ⟨rfl, hR, hO⟩
    have HNr := Lib.hid (Off.blk hO HNr.out (by omega))
    have HOr := Lib.hid (HOr.out.trans hO)
    have HRr := Lib.hid hR
    clear hO hR
    go_wp2_with fail
    refine (qone_any W3 c.toNat hc).mono ?_
    rintro en wo ⟨rfl, hb⟩
    have HNr := Lib.hid (HNr.out.keep (hb.block _ HNr.out.lt))
    have HOr := Lib.hid (HOr.out.trans (Off.of_below (p := p) hb))
    have HRr := Lib.hid (HRr.out.later hb)
    clear hb
    have HO2 := Lib.hid (show Out (atomP grp) (.ok (c :: t)) (fun t => (w40.add c.toNat).T = t) (.error 104) from Out.bad HA.out)
    generalize w40.add c.toNat = TA at *
    obtain ⟨⟨r0, r1, r2, r3, r4, r5, r6, r7⟩, hz⟩ := HNr.out.cells8
    have z0 := hz 0; have z1 := hz 1; have z2 := hz 2; have z3 := hz 3; have z4 := hz 4; have z5 := hz 5; have z6 := hz 6; have z7 := hz 7
    have lr := HNr.out.lt
    clear hz
    go_wp2_with fail
    change bodyPost _ _ _ _ _ (writeX wo w.heap.size ((TA.T, none, 0) : Nx))
    generalize hx : ((TA.T, none, 0) : Nx) = x
    have Hx := Lib.hid hx
    clear hx
    have hfin := writeX_blk HNr.out x
    obtain ⟨⟨y0, y1, y2, y3, y4, y5, y6, y7⟩, _⟩ := hfin.cells8
    have hRS := HRr.out.boxX (b := w.heap.size) (by omega) x
    have hOff := Off.boxW HOr.out (Nat.le_refl _) x
    have hNod : NodeAt (writeX wo w.heap.size x) (fun b => w.heap.size ≤ b ∧ b < (writeX wo w.heap.size x).heap.size) x.1 x.2.1 x.2.2 := by rw [← Hx.out]; exact nodeAt_leafX _ _ _ rfl
    have Hout := Lib.hid (show Out (atomP grp) (.ok (c :: t)) (fun t => x.1 = t) (.error 104) by rw [← Hx.out]; exact HO2.out)
    generalize writeX wo w.heap.size x = WZ at *
    exact bodyPost_ret (v := nodeV x.1 x.2.1 x.2.2) (by simp [results, Tryd.results59, y0, y1, y2, y3, y4, y5, y6, y7, go_sem]) rfl ⟨x, k + 1, .error 104, rfl, hNod, hRS, hOff, Hout.out⟩
  have n43 := u8_ne (k := 43) (by omega) d43
  by_cases d63 : c = 63
  · have e63 := u8_is (k := 63) (by omega) d63
    have HA := Lib.hid (show atomP grp (c :: t) = .error 104 by subst d63; simp [atomP])
    clear d63
    go_wp2_with fail
    refine (qfail_ok 104 (by omega) HRr.out).mono ?_
    rintro en W3 ⟨rfl, hR, hO⟩
    have HNr := Lib.hid (Off.blk hO HNr.out (by omega))
    have HOr := Lib.hid (HOr.out.trans hO)
    have HRr := Lib.hid hR
    clear hO hR
    go_wp2_with fail
    refine (qone_any W3 c.toNat hc).mono ?_
    rintro en wo ⟨rfl, hb⟩
    have HNr := Lib.hid (HNr.out.keep (hb.block _ HNr.out.lt))
    have HOr := Lib.hid (HOr.out.trans (Off.of_below (p := p) hb))
    have HRr := Lib.hid (HRr.out.later hb)
    clear hb
    have HO2 := Lib.hid (show Out (atomP grp) (.ok (c :: t)) (fun t => (w40.add c.toNat).T = t) (.error 104) from Out.bad HA.out)
    generalize w40.add c.toNat = TA at *
    obtain ⟨⟨r0, r1, r2, r3, r4, r5, r6, r7⟩, hz⟩ := HNr.out.cells8
    have z0 := hz 0; have z1 := hz 1; have z2 := hz 2; have z3 := hz 3; have z4 := hz 4; have z5 := hz 5; have z6 := hz 6; have z7 := hz 7
    have lr := HNr.out.lt
    clear hz
    go_wp2_with fail
    change bodyPost _ _ _ _ _ (writeX wo w.heap.size ((TA.T, none, 0) : Nx))
    generalize hx : ((TA.T, none, 0) : Nx) = x
    have Hx := Lib.hid hx
    clear hx
    have hfin := writeX_blk HNr.out x
    obtain ⟨⟨y0, y1, y2, y3, y4, y5, y6, y7⟩, _⟩ := hfin.cells8
    have hRS := HRr.out.boxX (b := w.heap.size) (by omega) x
    have hOff := Off.boxW HOr.out (Nat.le_refl _) x
    have hNod : NodeAt (writeX wo w.heap.size x) (fun b => w.heap.size ≤ b ∧ b < (writeX wo w.heap.size x).heap.size) x.1 x.2.1 x.2.2 := by rw [← Hx.out]; exact nodeAt_leafX _ _ _ rfl
    have Hout := Lib.hid (show Out (atomP grp) (.ok (c :: t)) (fun t => x.1 = t) (.error 104) by rw [← Hx.out]; exact HO2.out)
    generalize writeX wo w.heap.size x = WZ at *
    exact bodyPost_ret (v := nodeV x.1 x.2.1 x.2.2) (by simp [results, Tryd.results59, y0, y1, y2, y3, y4, y5, y6, y7, go_sem]) rfl ⟨x, k + 1, .error 104, rfl, hNod, hRS, hOff, Hout.out⟩
  have n63 := u8_ne (k := 63) (by omega) d63
  by_cases d123 : c = 123
  · have e123 := u8_is (k := 123) (by omega) d123
    have HA := Lib.hid (show atomP grp (c :: t) = .error 104 by subst d123; simp [atomP])
    clear d123
    go_wp2_with fail
    refine (qfail_ok 104 (by omega) HRr.out).mono ?_
    rintro en W3 ⟨rfl, hR, hO⟩
    have HNr := Lib.hid (Off.blk hO HNr.out (by omega))
    have HOr := Lib.hid (HOr.out.trans hO)
    have HRr := Lib.hid hR
    clear hO hR
    go_wp2_with fail
    refine (qone_any W3 c.toNat hc).mono ?_
    rintro en wo ⟨rfl, hb⟩
    have HNr := Lib.hid (HNr.out.keep (hb.block _ HNr.out.lt))
    have HOr := Lib.hid (HOr.out.trans (Off.of_below (p := p) hb))
    have HRr := Lib.hid (HRr.out.later hb)
    clear hb
    have HO2 := Lib.hid (show Out (atomP grp) (.ok (c :: t)) (fun t => (w40.add c.toNat).T = t) (.error 104) from Out.bad HA.out)
    generalize w40.add c.toNat = TA at *
    obtain ⟨⟨r0, r1, r2, r3, r4, r5, r6, r7⟩, hz⟩ := HNr.out.cells8
    have z0 := hz 0; have z1 := hz 1; have z2 := hz 2; have z3 := hz 3; have z4 := hz 4; have z5 := hz 5; have z6 := hz 6; have z7 := hz 7
    have lr := HNr.out.lt
    clear hz
    go_wp2_with fail
    change bodyPost _ _ _ _ _ (writeX wo w.heap.size ((TA.T, none, 0) : Nx))
    generalize hx : ((TA.T, none, 0) : Nx) = x
    have Hx := Lib.hid hx
    clear hx
    have hfin := writeX_blk HNr.out x
    obtain ⟨⟨y0, y1, y2, y3, y4, y5, y6, y7⟩, _⟩ := hfin.cells8
    have hRS := HRr.out.boxX (b := w.heap.size) (by omega) x
    have hOff := Off.boxW HOr.out (Nat.le_refl _) x
    have hNod : NodeAt (writeX wo w.heap.size x) (fun b => w.heap.size ≤ b ∧ b < (writeX wo w.heap.size x).heap.size) x.1 x.2.1 x.2.2 := by rw [← Hx.out]; exact nodeAt_leafX _ _ _ rfl
    have Hout := Lib.hid (show Out (atomP grp) (.ok (c :: t)) (fun t => x.1 = t) (.error 104) by rw [← Hx.out]; exact HO2.out)
    generalize writeX wo w.heap.size x = WZ at *
    exact bodyPost_ret (v := nodeV x.1 x.2.1 x.2.2) (by simp [results, Tryd.results59, y0, y1, y2, y3, y4, y5, y6, y7, go_sem]) rfl ⟨x, k + 1, .error 104, rfl, hNod, hRS, hOff, Hout.out⟩
  have n123 := u8_ne (k := 123) (by omega) d123
  by_cases d92 : c = 92
  · have e92 := u8_is (k := 92) (by omega) d92
    have Hd := Lib.hid (done_q HRr.out)
    cases t with
    | nil =>
      have HA := Lib.hid (show atomP grp [c] = .error 106 by subst d92; simp [atomP])
      clear d92
      go_wp2_with fail
      refine Hd.out.mono ?_
      rintro en W3 ⟨rfl, hR, hO⟩
      rw [show doneS (.ok []) = true from rfl]
      clear Hd
      have HNr := Lib.hid (Off.blk hO HNr.out (by omega))
      have HOr := Lib.hid (HOr.out.trans hO)
      have HRr := Lib.hid hR
      clear hO hR
      go_wp2_with fail
      refine (qfail_ok 106 (by omega) HRr.out).mono ?_
      rintro en W4 ⟨rfl, hR, hO⟩
      have HNr := Lib.hid (Off.blk hO HNr.out (by omega))
      have HOr := Lib.hid (HOr.out.trans hO)
      have HRr := Lib.hid hR
      clear hO hR
      obtain ⟨⟨r0, r1, r2, r3, r4, r5, r6, r7⟩, hz⟩ := HNr.out.cells8
      have z0 := hz 0; have z1 := hz 1; have z2 := hz 2; have z3 := hz 3; have z4 := hz 4; have z5 := hz 5; have z6 := hz 6; have z7 := hz 7
      have lr := HNr.out.lt
      clear hz
      go_wp2_with fail
      change bodyPost _ _ _ _ _ (writeX W4 w.heap.size ((.mk 0 0 0 0 0 0 0 [], none, 0) : Nx))
      generalize hx : ((.mk 0 0 0 0 0 0 0 [], none, 0) : Nx) = x
      have Hx := Lib.hid hx
      clear hx
      have hfin := writeX_blk HNr.out x
      obtain ⟨⟨y0, y1, y2, y3, y4, y5, y6, y7⟩, _⟩ := hfin.cells8
      have hRS := HRr.out.boxX (b := w.heap.size) (by omega) x
      have hOff := Off.boxW HOr.out (Nat.le_refl _) x
      have hNod : NodeAt (writeX W4 w.heap.size x) (fun b => w.heap.size ≤ b ∧ b < (writeX W4 w.heap.size x).heap.size) x.1 x.2.1 x.2.2 := by rw [← Hx.out]; exact nodeAt_leafX _ _ _ rfl
      have Hout := Lib.hid (show Out (atomP grp) (.ok [c]) (fun t => x.1 = t) (.error 106) from Out.bad HA.out)
      generalize writeX W4 w.heap.size x = WZ at *
      exact bodyPost_ret (v := nodeV x.1 x.2.1 x.2.2) (by simp [results, Tryd.results59, y0, y1, y2, y3, y4, y5, y6, y7, go_sem]) rfl ⟨x, k + 1, _, rfl, hNod, hRS, hOff, Hout.out⟩
    | cons c2 t2 =>
      have HA := Lib.hid (show atomP grp (c :: c2 :: t2) = .ok ((w40.add c2.toNat).T, t2) by subst d92; simp [atomP])
      clear d92
      go_wp2_with fail
      refine Hd.out.mono ?_
      rintro en W3 ⟨rfl, hR, hO⟩
      rw [show doneS (.ok (c2 :: t2)) = false from rfl]
      clear Hd
      have HNr := Lib.hid (Off.blk hO HNr.out (by omega))
      have HOr := Lib.hid (HOr.out.trans hO)
      have HRr := Lib.hid hR
      clear hO hR
      have hat2 := HRr.out.at_
      have hkS2 := hat2.1
      have hix2 := hat2.2
      have hkI2 : (k : Int) + 1 < (St.length : Int) := by omega
      have hcc2 := c2.toNat_lt
      obtain ⟨k2, hk2⟩ : ∃ k2, k2 = k + 1 := ⟨_, rfl⟩
      rw [← hk2] at HRr
      have c0 := HRr.out.rdr.c0
      have c1 := HRr.out.rdr.c1
      have hk2b : k2 ≤ 1024 := Nat.le_trans HRr.out.rdr.le HRr.out.rdr.top
      have hkI3 : (k2 : Int) < (St.length : Int) := by omega
      have hbx : ∀ hh, (bs St)[k2]'hh = c2 := fun hh => by subst hk2; rw [← hix2 hkS2]; rfl
      clear hat2 hix2 hk2 hkI2 hkS2
      go_upto_region 23 with fail
      go_quiet (fail)
      have hb := belowQ W3 nq
      generalize W3.drewN nq = W5 at *
      clear c0 c1
      have HNr := Lib.hid (HNr.out.keep (hb.block _ HNr.out.lt))
      have HOr := Lib.hid (HOr.out.trans (Off.of_below (p := p) hb))
      have HRr := Lib.hid (HRr.out.later hb)
      clear hb
      have c1 := HRr.out.rdr.c1
      have y1 := HRr.out.rdr.z 1
      go_upto_region 25 with fail
      try rw [hbx]
      have hR := HRr.out.step 1 (by simp)
      rw [show ((1 : Nat) : Int) = 1 from rfl, show (c2 :: t2).drop 1 = t2 from rfl] at hR
      have hO := (Off.refl p W5).set 1 (.int .i64 ((k2 : Int) + 1))
      generalize W5.setCell _ _ = W6 at *
      clear c1 y1 hbx
      have HNr := Lib.hid (Off.blk hO HNr.out (by omega))
      have HOr := Lib.hid (HOr.out.trans hO)
      have HRr := Lib.hid hR
      clear hO hR
      go_wp2_with fail
      refine (qone_any W6 c2.toNat hcc2).mono ?_
      rintro en wo ⟨rfl, hb⟩
      have HNr := Lib.hid (HNr.out.keep (hb.block _ HNr.out.lt))
      have HOr := Lib.hid (HOr.out.trans (Off.of_below (p := p) hb))
      have HRr := Lib.hid (HRr.out.later hb)
      clear hb
      have HO2 := Lib.hid (show Out (atomP grp) (.ok (c :: c2 :: t2)) (fun t => (w40.add c2.toNat).T = t) (.ok t2) from Out.good HA.out rfl)
      generalize w40.add c2.toNat = TA at *
      obtain ⟨⟨r0, r1, r2, r3, r4, r5, r6, r7⟩, hz⟩ := HNr.out.cells8
      have z0 := hz 0; have z1 := hz 1; have z2 := hz 2; have z3 := hz 3; have z4 := hz 4; have z5 := hz 5; have z6 := hz 6; have z7 := hz 7
      have lr := HNr.out.lt
      clear hz
      go_wp2_with fail
      change bodyPost _ _ _ _ _ (writeX wo w.heap.size ((TA.T, none, 0) : Nx))
      generalize hx : ((TA.T, none, 0) : Nx) = x
      have Hx := Lib.hid hx
      clear hx
      have hfin := writeX_blk HNr.out x
      obtain ⟨⟨y0, y1, y2, y3, y4, y5, y6, y7⟩, _⟩ := hfin.cells8
      have hRS := HRr.out.boxX (b := w.heap.size) (by omega) x
      have hOff := Off.boxW HOr.out (Nat.le_refl _) x
      have hNod : NodeAt (writeX wo w.heap.size x) (fun b => w.heap.size ≤ b ∧ b < (writeX wo w.heap.size x).heap.size) x.1 x.2.1 x.2.2 := by rw [← Hx.out]; exact nodeAt_leafX _ _ _ rfl
      have Hout := Lib.hid (show Out (atomP grp) (.ok (c :: c2 :: t2)) (fun t => x.1 = t) (.ok t2) by rw [← Hx.out]; exact HO2.out)
      generalize writeX wo w.heap.size x = WZ at *
      exact bodyPost_ret (v := nodeV x.1 x.2.1 x.2.2) (by simp [results, Tryd.results59, y0, y1, y2, y3, y4, y5, y6, y7, go_sem]) rfl ⟨x, k2 + 1, .ok t2, rfl, hNod, hRS, hOff, Hout.out⟩
  have n92 := u8_ne (k := 92) (by omega) d92
  have HA := Lib.hid (show atomP grp (c :: t) = .ok ((w40.add c.toNat).T, t) by simp [atomP, d40, d46, d94, d36, d91, d42, d43, d63, d123, d92])
  clear d40 d46 d94 d36 d91 d42 d43 d63 d123 d92
  go_wp2_with fail
  refine (qone_any W2 c.toNat hc).mono ?_
  rintro en wo ⟨rfl, hb⟩
  have HNr := Lib.hid (HNr.out.keep (hb.block _ HNr.out.lt))
  have HOr := Lib.hid (HOr.out.trans (Off.of_below (p := p) hb))
  have HRr := Lib.hid (HRr.out.later hb)
  clear hb
  have HO2 := Lib.hid (show Out (atomP grp) (.ok (c :: t)) (fun t => (w40.add c.toNat).T = t) (.ok t) from Out.good HA.out rfl)
  generalize w40.add c.toNat = TA at *
  obtain ⟨⟨r0, r1, r2, r3, r4, r5, r6, r7⟩, hz⟩ := HNr.out.cells8
  have z0 := hz 0; have z1 := hz 1; have z2 := hz 2; have z3 := hz 3; have z4 := hz 4; have z5 := hz 5; have z6 := hz 6; have z7 := hz 7
  have lr := HNr.out.lt
  clear hz
  go_wp2_with fail
  change bodyPost _ _ _ _ _ (writeX wo w.heap.size ((TA.T, none, 0) : Nx))
  generalize hx : ((TA.T, none, 0) : Nx) = x
  have Hx := Lib.hid hx
  clear hx
  have hfin := writeX_blk HNr.out x
  obtain ⟨⟨y0, y1, y2, y3, y4, y5, y6, y7⟩, _⟩ := hfin.cells8
  have hRS := HRr.out.boxX (b := w.heap.size) (by omega) x
  have hOff := Off.boxW HOr.out (Nat.le_refl _) x
  have hNod : NodeAt (writeX wo w.heap.size x) (fun b => w.heap.size ≤ b ∧ b < (writeX wo w.heap.size x).heap.size) x.1 x.2.1 x.2.2 := by rw [← Hx.out]; exact nodeAt_leafX _ _ _ rfl
  have Hout := Lib.hid (show Out (atomP grp) (.ok (c :: t)) (fun t => x.1 = t) (.ok t) by rw [← Hx.out]; exact HO2.out)
  generalize writeX wo w.heap.size x = WZ at *
  exact bodyPost_ret (v := nodeV x.1 x.2.1 x.2.2) (by simp [results, Tryd.results59, y0, y1, y2, y3, y4, y5, y6, y7, go_sem]) rfl ⟨x, k + 1, .ok t, rfl, hNod, hRS, hOff, Hout.out⟩
end Go.Proofs.YteekafkpeimhoaaDoor

/- vouchref10's Reader: lists of nodes; piece: walked. -/
set_option linter.unusedVariables false
set_option linter.unusedSimpArgs false
namespace Go.Proofs.YteekafkpeimhoaaDoor
open Go.RowKit

theorem rq_kept {w w' : World} {p : Nat} {S : Bs} {k : Nat} {op : Int} {s : Rs} (h : RQ w p S k op s) (hz : w.heap.size ≤ w'.heap.size) (hb : w'.heap[p]? = w.heap[p]?) : RQ w' p S k op s :=
  ⟨⟨(World.cell?_of_block (w := w) hb).trans h.rdr.c0, (World.cell?_of_block (w := w) hb).trans h.rdr.c1, (World.cell?_of_block (w := w) hb).trans h.rdr.c2, (World.cell?_of_block (w := w) hb).trans h.rdr.c3, fun o => (World.frozen?_of_block (w := w) (a := ⟨p, o, none⟩) hb).trans (h.rdr.z o), Nat.lt_of_lt_of_le h.lt hz, h.rdr.le, h.rdr.top⟩, h.ok, h.ne⟩
/-- Where the loop of piece stands. -/
def PieceIq (p : Nat) (St : Bs) (op : Int) (grp : Bs → PT) (r0 : Bs) (w : World) (bn : Nat) (wr : World) (n : Nat) : Prop :=
  ∃ (x : Nx) (k' : Nat) (s' : Rs), n = s'.rest.length + 1 ∧ BlkX wr w.heap.size (xcell (.mk 0 0 0 0 0 0 0 [], none, 0)).toArray ∧ BlkX wr bn (xcell x).toArray ∧ NodeAt wr (fun b => w.heap.size < b ∧ b < wr.heap.size ∧ b ≠ bn) x.1 x.2.1 x.2.2 ∧ RQ wr p St k' op s' ∧ Off p w wr ∧
    ((∃ e, s' = .error e ∧ pieceP grp r0 = .error e) ∨ ∃ r' k, s' = .ok r' ∧ r'.length < k ∧ pieceP grp r0 = sufP k x.1 r')
/-- Within a round of piece: the new node's box, what it may become. -/
structure PieceQ (p : Nat) (St : Bs) (op : Int) (w : World) (bx bn : Nat) (t : T) (A : Option Addr) (c : Nat) (mm mx : Int) (k : Nat) (s : Rs) (W : World) : Prop where
  R : BlkX W w.heap.size (xcell (.mk 0 0 0 0 0 0 0 [], none, 0)).toArray
  N : BlkX W bn (xcell (t, A, c)).toArray
  X : BlkX W bx (xcell (.mk 6 0 0 0 0 mm mx [], none, 0)).toArray
  x : NodeAt W (fun b => w.heap.size < b ∧ b < bx ∧ b ≠ bn) t A c
  S : RQ W p St k op s
  O : Off p w W
theorem PieceQ.off {p : Nat} {St : Bs} {op : Int} {w : World} {bx bn : Nat} {t : T} {A : Option Addr} {c : Nat} {mm mx : Int} {k k1 : Nat} {s : Rs} {W : World} (h : PieceQ p St op w bx bn t A c mm mx k s W) {s' : Rs} {W' : World} (hp : p < w.heap.size) (hbn : w.heap.size < bn) (hwr : bn < bx) (hO : Off p W W') (hS : RQ W' p St k1 op s') : PieceQ p St op w bx bn t A c mm mx k1 s' W' := by
  have lx := h.X.lt
  exact ⟨Off.blk hO h.R (by omega), Off.blk hO h.N (by omega), Off.blk hO h.X (by omega), h.x.mono fun b (hb : w.heap.size < b ∧ b < bx ∧ b ≠ bn) => ⟨hb, fun o => Off.cell hO (by omega) (by omega)⟩, hS, Off.trans h.O hO⟩
theorem PieceQ.put {p : Nat} {St : Bs} {op : Int} {w : World} {bx bn : Nat} {t : T} {A : Option Addr} {c : Nat} {mm mx m' n' : Int} {k : Nat} {s : Rs} {W : World} (h : PieceQ p St op w bx bn t A c mm mx k s W) (hp : p < w.heap.size) (hbn : w.heap.size < bn) (hwr : bn < bx) (o : Nat) (v : Value)
    (hX : BlkX (W.setCell ⟨bx, o, none⟩ v) bx (xcell (.mk 6 0 0 0 0 m' n' [], none, 0)).toArray) : PieceQ p St op w bx bn t A c m' n' k s (W.setCell ⟨bx, o, none⟩ v) := by
  have hk : ∀ b, b ≠ bx → (W.setCell ⟨bx, o, none⟩ v).heap[b]? = W.heap[b]? := fun b hb => Below.heap_setCell _ _ _ _ hb
  exact ⟨h.R.keep (hk _ (by omega)), h.N.keep (hk _ (by omega)), hX, h.x.mono fun b (hb : w.heap.size < b ∧ b < bx ∧ b ≠ bn) => ⟨hb, fun o => World.cell?_of_block (w := W) (a := ⟨b, o, none⟩) (hk b (by omega))⟩, h.S.put (by omega) _ _, h.O.box (by omega) _ _⟩
theorem PieceQ.set5 {p : Nat} {St : Bs} {op : Int} {w : World} {bx bn : Nat} {t : T} {A : Option Addr} {c : Nat} {mm mx : Int} {k : Nat} {s : Rs} {W : World} (h : PieceQ p St op w bx bn t A c mm mx k s W) (hp : p < w.heap.size) (hbn : w.heap.size < bn) (hwr : bn < bx) (m' : Int) : PieceQ p St op w bx bn t A c m' mx k s (W.setCell ⟨bx, 5, none⟩ (.int .i64 m')) := by
  refine h.put hp hbn hwr 5 _ ?_
  have h1 := h.X.set 5 (.int .i64 m')
  simpa [xcell, T.k, T.s0, T.s1, T.s2, T.s3, T.mn, T.mx, T.ps] using h1
theorem PieceQ.set6 {p : Nat} {St : Bs} {op : Int} {w : World} {bx bn : Nat} {t : T} {A : Option Addr} {c : Nat} {mm mx : Int} {k : Nat} {s : Rs} {W : World} (h : PieceQ p St op w bx bn t A c mm mx k s W) (hp : p < w.heap.size) (hbn : w.heap.size < bn) (hwr : bn < bx) (m' : Int) : PieceQ p St op w bx bn t A c mm m' k s (W.setCell ⟨bx, 6, none⟩ (.int .i64 m')) := by
  refine h.put hp hbn hwr 6 _ ?_
  have h1 := h.X.set 6 (.int .i64 m')
  simpa [xcell, T.k, T.s0, T.s1, T.s2, T.s3, T.mn, T.mx, T.ps] using h1
/-- Behind the append: the new node's parts lie in a row of their own. -/
structure PieceZ (p : Nat) (St : Bs) (op : Int) (w : World) (bx bn : Nat) (t : T) (A : Option Addr) (c : Nat) (mm mx : Int) (k : Nat) (s : Rs) (A5 : Option Addr) (c5 : Nat) (W : World) : Prop where
  R : BlkX W w.heap.size (xcell (.mk 0 0 0 0 0 0 0 [], none, 0)).toArray
  N : BlkX W bn (xcell (t, A, c)).toArray
  X : BlkX W bx (xcell (.mk 6 0 0 0 0 mm mx [], none, 0)).toArray
  node : ∀ m n, NodeAt W (fun b => w.heap.size < b ∧ b < W.heap.size ∧ b ≠ bn ∧ b ≠ bx) (repT m n t) A5 c5
  S : RQ W p St k op s
  O : Off p w W
theorem PieceQ.push {p : Nat} {St : Bs} {op : Int} {w : World} {bx bn : Nat} {t : T} {A A5 : Option Addr} {c c5 : Nat} {mm mx : Int} {k : Nat} {s : Rs} {W w0 w5 : World} (h : PieceQ p St op w bx bn t A c mm mx k s W) (hp : p < w.heap.size) (hbn : w.heap.size < bn) (hwr : bn < bx)
    (h0 : Below W.heap.size W w0) (h1 : w5.ownsRow (bx + 1) 27 8 (.slice A5 1 c5) 1 (xcell (t, A, c))) (h2 : w0.grownBy w5 none) : PieceZ p St op w bx bn t A c mm mx k s A5 c5 w5 := by
  have lx := h.X.lt
  have hz0 := h0.size
  have hz2 := h2.size
  have hblk : ∀ b, b < W.heap.size → w5.heap[b]? = W.heap[b]? := fun b hb => (h2.block b (by omega) (by simp)).trans (h0.block b hb)
  refine ⟨h.R.keep (hblk _ h.R.lt), h.N.keep (hblk _ h.N.lt), h.X.keep (hblk _ h.X.lt), fun m n => ?_, rq_kept h.S (by omega) (hblk p h.S.lt), ?_⟩
  · obtain ⟨g, hA, hg0, hg, hc⟩ : ∃ g, A5 = some ⟨g, 0, none⟩ ∧ bx + 1 ≤ g ∧ g < w5.heap.size ∧ 1 ≤ c5 := by
      rcases h1.2 with ⟨_, h0⟩ | ⟨g, cap, cur, e, hb, hh, hcap, _⟩
      · simp at h0
      · simp only [Value.slice.injEq] at e
        exact ⟨g, e.1, hb, by (rcases Nat.lt_or_ge g w5.heap.size with h' | h'; exact h'; rw [Array.getElem?_eq_none h'] at hh; simp at hh), by omega⟩
    subst hA
    have h8 : At8 w5 g (0 * 8) t A c := At8.ofX (x := (t, A, c)) fun j hj => by
      rw [h1.cellAt (0 * 8 + j) (by omega)]
      simp
    have hx : NodeAt w5 (fun b => w.heap.size < b ∧ b < w5.heap.size ∧ b ≠ bn ∧ b ≠ bx) t A c := h.x.mono fun b hb => ⟨⟨hb.1, by omega, hb.2.2, by omega⟩, fun o => World.cell?_of_block (w := W) (a := ⟨b, o, none⟩) (hblk b (by omega))⟩
    have hm := node_litX (W := w5) (ok := fun b => w.heap.size < b ∧ b < w5.heap.size ∧ b ≠ bn ∧ b ≠ bx) (g := g) (repT m n t) [(t, A, c)] rfl (by simp) ⟨by omega, hg, by omega, by omega⟩ (getX1 h8) (getX1 hx)
    exact hm.widerX (by simp only [repT, T.ps, List.length_cons, List.length_nil]; omega)
  · have hO := h.O
    have hzW := hO.size
    exact ⟨(h2.os.trans h0.os).trans hO.os, (h2.tape.trans h0.tape).trans hO.tape, (h2.output.trans h0.output).trans hO.output, by omega, fun k hk hkp => (hblk k (by omega)).trans (hO.block k hk hkp)⟩
/-- The round's end: the new node is the node. -/
theorem PieceZ.done {p : Nat} {St : Bs} {op : Int} {w : World} {bx bn : Nat} {t : T} {A A5 : Option Addr} {c c5 : Nat} {mm mx : Int} {k : Nat} {s : Rs} {W : World} (h : PieceZ p St op w bx bn t A c mm mx k s A5 c5 W) (hp : p < w.heap.size) (hbn : w.heap.size < bn) (hwr : bn < bx) :
    BlkX (W.setCell ⟨bx, 7, none⟩ (.slice A5 1 c5)) bx (xcell (repT mm mx t, A5, c5)).toArray ∧ BlkX (W.setCell ⟨bx, 7, none⟩ (.slice A5 1 c5)) bn (xcell (t, A, c)).toArray ∧
    (fun W' => BlkX W' w.heap.size (xcell (.mk 0 0 0 0 0 0 0 [], none, 0)).toArray ∧ BlkX W' bn (xcell (repT mm mx t, A5, c5)).toArray ∧ NodeAt W' (fun b => w.heap.size < b ∧ b < W'.heap.size ∧ b ≠ bn) (repT mm mx t) A5 c5 ∧ RQ W' p St k op s ∧ Off p w W') (writeX (W.setCell ⟨bx, 7, none⟩ (.slice A5 1 c5)) bn (repT mm mx t, A5, c5)) := by
  have lx := h.X.lt
  have hk : ∀ b, b ≠ bx → (W.setCell ⟨bx, 7, none⟩ (.slice A5 1 c5)).heap[b]? = W.heap[b]? := fun b hb => Below.heap_setCell _ _ _ _ hb
  have hX : BlkX (W.setCell ⟨bx, 7, none⟩ (.slice A5 1 c5)) bx (xcell (repT mm mx t, A5, c5)).toArray := by
    have h1 := h.X.set 7 (.slice A5 1 c5)
    simpa [xcell, repT, T.k, T.s0, T.s1, T.s2, T.s3, T.mn, T.mx, T.ps] using h1
  have hN := h.N.keep (hk _ (by omega))
  refine ⟨hX, hN, (h.R.keep (hk _ (by omega))).keep (writeX_other _ _ _ _ (by omega)), writeX_blk hN _, (h.node mm mx).mono fun b (hb : w.heap.size < b ∧ b < W.heap.size ∧ b ≠ bn ∧ b ≠ bx) => ⟨⟨hb.1, by rw [writeX_size]; simpa using hb.2.1, hb.2.2.1⟩, fun o => ?_⟩, (h.S.put (by omega) _ _).boxX (by omega) _, Off.boxW (h.O.box (by omega) _ _) (by omega) _⟩
  exact (World.cell?_of_block (w := W.setCell ⟨bx, 7, none⟩ (.slice A5 1 c5)) (a := ⟨b, o, none⟩) (writeX_other _ _ _ _ hb.2.2.1)).trans (World.cell?_of_block (w := W) (a := ⟨b, o, none⟩) (hk b hb.2.2.2))
theorem piece_first {grp : Bs → PT} {r : Bs} {e : Int} (h : atomP grp r = .error e) : pieceP grp r = .error e := by simp only [pieceP, h]
set_option maxRecDepth 100000 in
set_option maxHeartbeats 8000000 in
theorem qpiece_any (w : World) (p : Nat) (St : Bs) (k0 : Nat) (op : Int) (cc : UInt8) (tt : Bs) (grp : Bs → PT) (h : RQ w p St k0 op (.ok (cc :: tt)))
    (hG : ∀ (w : World) (k : Nat) (r : Bs), RQ w p St k op (.ok r) → Calls Tryd.prog 74 #[.pointer (some ⟨p, 0, none⟩)] w fun en w' => QNode p St op grp (.ok r) w en w') :
    Calls Tryd.prog 45 #[.pointer (some ⟨p, 0, none⟩)] w fun en w' => QNode p St op (pieceP grp) (.ok (cc :: tt)) w en w' := by
  have hlt := h.lt
  have HA := Lib.hid (fun w (h : RQ w p St k0 op (.ok (cc :: tt))) => qatom_any w p St k0 op cc tt grp h hG)
  have H := Lib.hid h
  clear h hG
  generalize cc :: tt = r0 at *
  go_enter Tryd.func45, Tryd.ntmps45
  go_upto_region 1 with fail
  generalize hW0 : w.alloc _ = W0
  have hB0 : Below w.heap.size w W0 := by subst hW0; exact (Below.refl _ _).alloc (Nat.le_refl _) _
  have R0 : BlkX W0 w.heap.size (xcell (.mk 0 0 0 0 0 0 0 [], none, 0)).toArray := by subst hW0; exact BlkX.new w _
  have hz0 : W0.heap.size = w.heap.size + 1 := by subst hW0; simp
  have Hz0 := Lib.hid hz0
  clear hW0 hz0
  go_wp2_with fail
  refine (HA.out W0 (H.out.later hB0)).mono ?_
  rintro en w1 ⟨⟨t1, A1, c1⟩, k1, s1, rfl, hx1, h1, hO1, ho1⟩
  have R1 := hO1.blk R0 (by omega)
  have hz1 := hO1.size
  have Hx1 := Lib.hid hx1; have Ho1 := Lib.hid ho1
  have hz0' : w.heap.size < W0.heap.size := by have := Hz0.out; omega
  clear hx1 ho1
  go_upto_region 2 with fail
  generalize hW : w1.alloc _ = W1
  have hb1 : Below w1.heap.size w1 W1 := by subst hW; exact (Below.refl _ _).alloc (Nat.le_refl _) _
  have N1 : BlkX W1 w1.heap.size (xcell (t1, A1, c1)).toArray := by subst hW; exact BlkX.new w1 _
  have hz2 : w1.heap.size < W1.heap.size := by subst hW; simp
  have hI : PieceIq p St op grp r0 w w1.heap.size W1 (s1.rest.length + 1) := by
    refine ⟨(t1, A1, c1), k1, s1, rfl, R1.keep (hb1.block _ R1.lt), N1, Hx1.out.mono fun b (hb : W0.heap.size ≤ b ∧ b < w1.heap.size) => ⟨⟨by omega, by omega, by omega⟩, fun o => hb1.cell (p := ⟨b, o, none⟩) hb.2⟩, h1.later hb1, ((Off.of_below hB0).trans hO1).trans (Off.of_below hb1), ?_⟩
    have ho := Ho1.out
    cases ha : atomP grp r0 with
    | error e =>
      simp only [Out, ha] at ho
      exact .inl ⟨e, ho, piece_first ha⟩
    | ok y =>
      obtain ⟨n, r1⟩ := y
      simp only [Out, ha] at ho
      obtain ⟨rfl, rfl⟩ := ho
      exact .inr ⟨r1, r1.length + 1, rfl, by omega, by simp only [pieceP, ha]⟩
  have HI := Lib.hid hI
  generalize hbn : w1.heap.size = bn at *
  have hbw : w.heap.size < bn := by omega
  clear hW hI N1 R1 h1 hO1 hb1 Hx1 Ho1 Hz0 hz0' hz1 hbn hB0 R0 hz2
  go_loopg [] (s1.rest.length + 1) (fun n wr => PieceIq p St op grp r0 w bn wr n)
  case atStart => exact HI.out
  case round =>
    clear HI
    obtain ⟨⟨t, A, c⟩, kr, s', hn, hR, hN, hX, hS, hO, hcase⟩ := hrel
    have Hn := Lib.hid hn; have HX := Lib.hid hX; have HC := Lib.hid hcase; have HN := Lib.hid hN; have HR := Lib.hid hR; have HS := Lib.hid hS; have HO := Lib.hid hO
    have ltn0 := hN.lt
    have c3 := hS.rdr.c3
    have hne := hS.ne
    clear hn hX hcase hN hR hS hO
    rcases s' with e | r'
    · simp only [Rs.no] at c3
      have hne0 := hne e rfl
      have hb0 : (e == 0) = false := by rw [beq_eq_false_iff_ne]; exact hne0
      have Hout := Lib.hid (show Out (pieceP grp) (.ok r0) (fun x => t = x) (.error e) by
        rcases HC.out with ⟨e', he, hp⟩ | ⟨r', k, he, _⟩
        · cases he; exact Out.bad hp
        · cases he)
      clear hne hne0
      obtain ⟨⟨n0, n1, n2, n3, n4, n5, n6, n7⟩, _⟩ := (HN.out).cells8
      have ln := (HN.out).lt
      obtain ⟨⟨r0, r1_, r2_, r3, r4, r5, r6, r7⟩, hz⟩ := (HR.out).cells8
      have z0 := hz 0; have z1 := hz 1; have z2 := hz 2; have z3 := hz 3; have z4 := hz 4; have z5 := hz 5; have z6 := hz 6; have z7 := hz 7
      have lr := (HR.out).lt
      clear hz
      go_wp2_with fail
      change bodyPost _ _ _ _ _ (writeX wr w.heap.size (t, A, c))
      have hfin := writeX_blk (HR.out) (t, A, c)
      obtain ⟨⟨y0, y1, y2, y3, y4, y5, y6, y7⟩, _⟩ := hfin.cells8
      have hRS := (HS.out).boxX (b := w.heap.size) (by omega) (t, A, c)
      have hOff := Off.boxW (HO.out) (Nat.le_refl _) (t, A, c)
      have hlw : wr.heap.size ≤ wr.heap.size := by first | exact Nat.le_refl _ | exact Nat.le_of_lt HP.out.X.lt
      have hNod : NodeAt (writeX wr w.heap.size (t, A, c)) (fun b => w.heap.size ≤ b ∧ b < (writeX wr w.heap.size (t, A, c)).heap.size) t A c := (HX.out).mono fun k (hk : w.heap.size < k ∧ k < wr.heap.size ∧ k ≠ bn) => ⟨⟨by omega, by rw [writeX_size]; omega⟩, fun o => World.cell?_of_block (w := wr) (a := ⟨k, o, none⟩) (writeX_other _ _ _ _ (show k ≠ w.heap.size by omega))⟩
      generalize writeX wr w.heap.size (t, A, c) = W9 at *
      exact bodyPost_ret (v := nodeV t A c) (by simp [results, Tryd.results45, y0, y1, y2, y3, y4, y5, y6, y7, go_sem]) rfl ⟨(t, A, c), kr, _, rfl, hNod, hRS, hOff, Hout.out⟩
    · simp only [Rs.no] at c3
      clear hne
      have hcs : ∃ k, r'.length < k + 1 ∧ pieceP grp r0 = sufP (k + 1) t r' := by
        rcases HC.out with ⟨e', he, hs⟩ | ⟨r2, k, he, hk, hpp⟩
        · cases he
        · cases he
          obtain ⟨k', rfl⟩ : ∃ k', k = k' + 1 := ⟨k - 1, by omega⟩
          exact ⟨k', hk, hpp⟩
      obtain ⟨k, hk, hpp⟩ := hcs
      have Hpp := Lib.hid hpp; clear hpp HC
      go_upto_region 5 with fail
      generalize hW : wr.alloc _ = W2
      have hb2 : Below wr.heap.size wr W2 := by subst hW; exact (Below.refl _ _).alloc (Nat.le_refl _) _
      have hX2 : BlkX W2 wr.heap.size (xcell (.mk 6 0 0 0 0 0 0 [], none, 0)).toArray := by subst hW; exact BlkX.new wr _
      have hP : PieceQ p St op w wr.heap.size bn t A c 0 0 kr (.ok r') W2 := ⟨HR.out.keep (hb2.block _ HR.out.lt), HN.out.keep (hb2.block _ HN.out.lt), hX2, HX.out.mono fun b (hb : w.heap.size < b ∧ b < wr.heap.size ∧ b ≠ bn) => ⟨hb, fun o => hb2.cell (p := ⟨b, o, none⟩) hb.2.1⟩, HS.out.later hb2, HO.out.trans (Off.of_below hb2)⟩
      have ltn := ltn0
      clear hW hb2 hX2 HR HN HX HS HO c3 ltn0
      generalize wr.heap.size = bx at *
      rcases ht : takeP [42] r' with _ | r2
      case' some =>
        have hsu : sufP (k + 1) t r' = sufP k (repT (0) (-1) t) r2 := by rw [sufP]; simp only [ht]
        have hl := takeP_len ht
        simp only [List.length_cons, List.length_nil] at hl
        have Hsu := Lib.hid hsu; have Ht := Lib.hid ht; clear hsu ht
        go_wp2_with fail
        refine (qtake_hit [42] (by simp) Ht.out hP.S).mono ?_
        rintro en W3 ⟨rfl, ⟨kt, h2⟩, hO2⟩
        have hP := hP.off hlt hbw ltn hO2 h2
        clear h2 hO2
        obtain ⟨⟨x0, x1, x2, x3, x4, x5, x6, x7⟩, hz⟩ := hP.X.cells8
        have zx5 := hz 5; have zx6 := hz 6
        have lx := hP.X.lt
        clear hz x0 x1 x2 x3 x4 x7
        have HP := Lib.hid (hP.set6 hlt hbw ltn (-1))
        clear hP
        go_upto_region 16 with fail
        generalize W3.setCell ⟨bx, 6, none⟩ _ = WS at *
        clear x5 x6 zx5 zx6 lx
        obtain ⟨⟨n0, n1, n2, n3, n4, n5, n6, n7⟩, _⟩ := HP.out.N.cells8
        have ln := HP.out.N.lt
        obtain ⟨⟨x0, x1, x2, x3, x4, x5, x6, x7⟩, hz⟩ := HP.out.X.cells8
        have zx7 := hz 7
        have lx := HP.out.X.lt
        obtain ⟨v0, hv0⟩ : ∃ v0 : Value, v0 = .slice none 0 0 := ⟨_, rfl⟩
        have hv7 : WS.cell? ⟨bx, 7, none⟩ = some v0 := by rw [hv0]; exact x7
        have Hv0 := Lib.hid hv0
        clear hz x7 hv0 x0 x1 x2 x3 x4 x5 x6
        have hnews : ∀ ad, some (⟨WS.heap.size, 0, none⟩ : Addr) = some ad → ∀ j u, (xcell (t, A, c))[j]? = some u → (WS.alloc (.cells (xcell (t, A, c)).toArray 27)).cell? (ad.add j) = some u := fun ad e j u hu => by
          simp only [Option.some.injEq] at e
          subst e
          rw [addr_addX, World.cell?_alloc_new, Nat.zero_add]
          simpa using hu
        have Hnews := Lib.hid hnews; clear hnews
        go_upto_region 17 with (at_builtin; refine wpList_append_fromX (bx + 1) rfl _ _ 25 27 _ 8 80 rfl Tryd.underlying25 Tryd.infoNodeX rfl (by omega) (by omega) v0 0 1 [] (xcell (t, A, c)) (some ⟨WS.heap.size, 0, none⟩) 1 rfl rfl (by simp) rfl Hnews.out (xcell_one _) ⟨rfl, .inl ⟨Hv0.out, rfl⟩⟩ (by simp; omega) (by omega) (fun A5 c5 w5 ho5 hg5 hat5 => ?_); have HZ := Lib.hid (HP.out.push hlt hbw ltn (A5 := A5) (c5 := c5) (w5 := w5) ((Below.refl _ _).alloc (Nat.le_refl _) _) (by simpa using ho5) (by rw [Hv0.out] at hg5; exact hg5)); clear ho5 hg5 hat5; obtain ⟨⟨x0, x1, x2, x3, x4, x5, x6, x7⟩, hz⟩ := HZ.out.X.cells8; have zx7 := hz 7; have lx5 := HZ.out.X.lt; clear hz; rw [Nat.zero_add])
        have hD := HZ.out.done hlt hbw ltn
        have lx6 := hD.1.lt
        obtain ⟨⟨g0, g1, g2, g3, g4, g5, g6, g7⟩, _⟩ := hD.1.cells8
        obtain ⟨⟨m0, m1, m2, m3, m4, m5, m6, m7⟩, hz⟩ := hD.2.1.cells8
        have zn0 := hz 0; have zn1 := hz 1; have zn2 := hz 2; have zn3 := hz 3; have zn4 := hz 4; have zn5 := hz 5; have zn6 := hz 6; have zn7 := hz 7
        have ln6 := hD.2.1.lt
        have HD := Lib.hid hD.2.2
        clear hD hz HZ x0 x1 x2 x3 x4 x5 x6 x7 zx7 lx5
        generalize w5.setCell _ _ = W6 at *
        go_wp2_with fail
        change Handed _ _ _ (writeX W6 bn (repT (0) (-1) t, A5, c5))
        obtain ⟨d1, d2, d3, d4, d5⟩ := HD.out
        clear HD m0 m1 m2 m3 m4 m5 m6 m7 zn0 zn1 zn2 zn3 zn4 zn5 zn6 zn7 g0 g1 g2 g3 g4 g5 g6 g7
        generalize writeX W6 bn (repT (0) (-1) t, A5, c5) = W7 at *
        go_roundg (r2.length + 1)
        case measure => have := Hn.out; simp only [Rs.rest] at *; omega
        case rel => exact ⟨(repT (0) (-1) t, A5, c5), kt, .ok r2, rfl, d1, d2, d3, d4, d5, .inr ⟨r2, k, rfl, by omega, by rw [Hpp.out, Hsu.out]⟩⟩
      have Ht42 := Lib.hid ht; clear ht
      rcases ht : takeP [43] r' with _ | r2
      case' some =>
        have hsu : sufP (k + 1) t r' = sufP k (repT (1) (-1) t) r2 := by rw [sufP]; simp only [Ht42.out, ht]
        have hl := takeP_len ht
        simp only [List.length_cons, List.length_nil] at hl
        have Hsu := Lib.hid hsu; have Ht := Lib.hid ht; clear hsu ht
        go_wp2_with fail
        refine (qtake_miss [42] (by simp) Ht42.out hP.S).mono ?_
        rintro en W3 ⟨rfl, ⟨kt, h2⟩, hO2⟩
        have hP := hP.off hlt hbw ltn hO2 h2
        clear h2 hO2
        go_wp2_with fail
        refine (qtake_hit [43] (by simp) Ht.out hP.S).mono ?_
        rintro en W4 ⟨rfl, ⟨kt, h2⟩, hO2⟩
        have hP := hP.off hlt hbw ltn hO2 h2
        clear h2 hO2
        obtain ⟨⟨x0, x1, x2, x3, x4, x5, x6, x7⟩, hz⟩ := hP.X.cells8
        have zx5 := hz 5; have zx6 := hz 6
        have lx := hP.X.lt
        clear hz x0 x1 x2 x3 x4 x7
        have HP := Lib.hid ((hP.set5 hlt hbw ltn 1).set6 hlt hbw ltn (-1))
        clear hP
        go_upto_region 16 with fail
        generalize (W4.setCell ⟨bx, 5, none⟩ _).setCell ⟨bx, 6, none⟩ _ = WS at *
        clear x5 x6 zx5 zx6 lx
        obtain ⟨⟨n0, n1, n2, n3, n4, n5, n6, n7⟩, _⟩ := HP.out.N.cells8
        have ln := HP.out.N.lt
        obtain ⟨⟨x0, x1, x2, x3, x4, x5, x6, x7⟩, hz⟩ := HP.out.X.cells8
        have zx7 := hz 7
        have lx := HP.out.X.lt
        obtain ⟨v0, hv0⟩ : ∃ v0 : Value, v0 = .slice none 0 0 := ⟨_, rfl⟩
        have hv7 : WS.cell? ⟨bx, 7, none⟩ = some v0 := by rw [hv0]; exact x7
        have Hv0 := Lib.hid hv0
        clear hz x7 hv0 x0 x1 x2 x3 x4 x5 x6
        have hnews : ∀ ad, some (⟨WS.heap.size, 0, none⟩ : Addr) = some ad → ∀ j u, (xcell (t, A, c))[j]? = some u → (WS.alloc (.cells (xcell (t, A, c)).toArray 27)).cell? (ad.add j) = some u := fun ad e j u hu => by
          simp only [Option.some.injEq] at e
          subst e
          rw [addr_addX, World.cell?_alloc_new, Nat.zero_add]
          simpa using hu
        have Hnews := Lib.hid hnews; clear hnews
        go_upto_region 17 with (at_builtin; refine wpList_append_fromX (bx + 1) rfl _ _ 25 27 _ 8 80 rfl Tryd.underlying25 Tryd.infoNodeX rfl (by omega) (by omega) v0 0 1 [] (xcell (t, A, c)) (some ⟨WS.heap.size, 0, none⟩) 1 rfl rfl (by simp) rfl Hnews.out (xcell_one _) ⟨rfl, .inl ⟨Hv0.out, rfl⟩⟩ (by simp; omega) (by omega) (fun A5 c5 w5 ho5 hg5 hat5 => ?_); have HZ := Lib.hid (HP.out.push hlt hbw ltn (A5 := A5) (c5 := c5) (w5 := w5) ((Below.refl _ _).alloc (Nat.le_refl _) _) (by simpa using ho5) (by rw [Hv0.out] at hg5; exact hg5)); clear ho5 hg5 hat5; obtain ⟨⟨x0, x1, x2, x3, x4, x5, x6, x7⟩, hz⟩ := HZ.out.X.cells8; have zx7 := hz 7; have lx5 := HZ.out.X.lt; clear hz; rw [Nat.zero_add])
        have hD := HZ.out.done hlt hbw ltn
        have lx6 := hD.1.lt
        obtain ⟨⟨g0, g1, g2, g3, g4, g5, g6, g7⟩, _⟩ := hD.1.cells8
        obtain ⟨⟨m0, m1, m2, m3, m4, m5, m6, m7⟩, hz⟩ := hD.2.1.cells8
        have zn0 := hz 0; have zn1 := hz 1; have zn2 := hz 2; have zn3 := hz 3; have zn4 := hz 4; have zn5 := hz 5; have zn6 := hz 6; have zn7 := hz 7
        have ln6 := hD.2.1.lt
        have HD := Lib.hid hD.2.2
        clear hD hz HZ x0 x1 x2 x3 x4 x5 x6 x7 zx7 lx5
        generalize w5.setCell _ _ = W6 at *
        go_wp2_with fail
        change Handed _ _ _ (writeX W6 bn (repT (1) (-1) t, A5, c5))
        obtain ⟨d1, d2, d3, d4, d5⟩ := HD.out
        clear HD m0 m1 m2 m3 m4 m5 m6 m7 zn0 zn1 zn2 zn3 zn4 zn5 zn6 zn7 g0 g1 g2 g3 g4 g5 g6 g7
        generalize writeX W6 bn (repT (1) (-1) t, A5, c5) = W7 at *
        go_roundg (r2.length + 1)
        case measure => have := Hn.out; simp only [Rs.rest] at *; omega
        case rel => exact ⟨(repT (1) (-1) t, A5, c5), kt, .ok r2, rfl, d1, d2, d3, d4, d5, .inr ⟨r2, k, rfl, by omega, by rw [Hpp.out, Hsu.out]⟩⟩
      have Ht43 := Lib.hid ht; clear ht
      rcases ht : takeP [63] r' with _ | r2
      case' some =>
        have hsu : sufP (k + 1) t r' = sufP k (repT (0) (1) t) r2 := by rw [sufP]; simp only [Ht42.out, Ht43.out, ht]
        have hl := takeP_len ht
        simp only [List.length_cons, List.length_nil] at hl
        have Hsu := Lib.hid hsu; have Ht := Lib.hid ht; clear hsu ht
        go_wp2_with fail
        refine (qtake_miss [42] (by simp) Ht42.out hP.S).mono ?_
        rintro en W3 ⟨rfl, ⟨kt, h2⟩, hO2⟩
        have hP := hP.off hlt hbw ltn hO2 h2
        clear h2 hO2
        go_wp2_with fail
        refine (qtake_miss [43] (by simp) Ht43.out hP.S).mono ?_
        rintro en W4 ⟨rfl, ⟨kt, h2⟩, hO2⟩
        have hP := hP.off hlt hbw ltn hO2 h2
        clear h2 hO2
        go_wp2_with fail
        refine (qtake_hit [63] (by simp) Ht.out hP.S).mono ?_
        rintro en W5 ⟨rfl, ⟨kt, h2⟩, hO2⟩
        have hP := hP.off hlt hbw ltn hO2 h2
        clear h2 hO2
        obtain ⟨⟨x0, x1, x2, x3, x4, x5, x6, x7⟩, hz⟩ := hP.X.cells8
        have zx5 := hz 5; have zx6 := hz 6
        have lx := hP.X.lt
        clear hz x0 x1 x2 x3 x4 x7
        have HP := Lib.hid (hP.set6 hlt hbw ltn 1)
        clear hP
        go_upto_region 16 with fail
        generalize W5.setCell ⟨bx, 6, none⟩ _ = WS at *
        clear x5 x6 zx5 zx6 lx
        obtain ⟨⟨n0, n1, n2, n3, n4, n5, n6, n7⟩, _⟩ := HP.out.N.cells8
        have ln := HP.out.N.lt
        obtain ⟨⟨x0, x1, x2, x3, x4, x5, x6, x7⟩, hz⟩ := HP.out.X.cells8
        have zx7 := hz 7
        have lx := HP.out.X.lt
        obtain ⟨v0, hv0⟩ : ∃ v0 : Value, v0 = .slice none 0 0 := ⟨_, rfl⟩
        have hv7 : WS.cell? ⟨bx, 7, none⟩ = some v0 := by rw [hv0]; exact x7
        have Hv0 := Lib.hid hv0
        clear hz x7 hv0 x0 x1 x2 x3 x4 x5 x6
        have hnews : ∀ ad, some (⟨WS.heap.size, 0, none⟩ : Addr) = some ad → ∀ j u, (xcell (t, A, c))[j]? = some u → (WS.alloc (.cells (xcell (t, A, c)).toArray 27)).cell? (ad.add j) = some u := fun ad e j u hu => by
          simp only [Option.some.injEq] at e
          subst e
          rw [addr_addX, World.cell?_alloc_new, Nat.zero_add]
          simpa using hu
        have Hnews := Lib.hid hnews; clear hnews
        go_upto_region 17 with (at_builtin; refine wpList_append_fromX (bx + 1) rfl _ _ 25 27 _ 8 80 rfl Tryd.underlying25 Tryd.infoNodeX rfl (by omega) (by omega) v0 0 1 [] (xcell (t, A, c)) (some ⟨WS.heap.size, 0, none⟩) 1 rfl rfl (by simp) rfl Hnews.out (xcell_one _) ⟨rfl, .inl ⟨Hv0.out, rfl⟩⟩ (by simp; omega) (by omega) (fun A5 c5 w5 ho5 hg5 hat5 => ?_); have HZ := Lib.hid (HP.out.push hlt hbw ltn (A5 := A5) (c5 := c5) (w5 := w5) ((Below.refl _ _).alloc (Nat.le_refl _) _) (by simpa using ho5) (by rw [Hv0.out] at hg5; exact hg5)); clear ho5 hg5 hat5; obtain ⟨⟨x0, x1, x2, x3, x4, x5, x6, x7⟩, hz⟩ := HZ.out.X.cells8; have zx7 := hz 7; have lx5 := HZ.out.X.lt; clear hz; rw [Nat.zero_add])
        have hD := HZ.out.done hlt hbw ltn
        have lx6 := hD.1.lt
        obtain ⟨⟨g0, g1, g2, g3, g4, g5, g6, g7⟩, _⟩ := hD.1.cells8
        obtain ⟨⟨m0, m1, m2, m3, m4, m5, m6, m7⟩, hz⟩ := hD.2.1.cells8
        have zn0 := hz 0; have zn1 := hz 1; have zn2 := hz 2; have zn3 := hz 3; have zn4 := hz 4; have zn5 := hz 5; have zn6 := hz 6; have zn7 := hz 7
        have ln6 := hD.2.1.lt
        have HD := Lib.hid hD.2.2
        clear hD hz HZ x0 x1 x2 x3 x4 x5 x6 x7 zx7 lx5
        generalize w5.setCell _ _ = W6 at *
        go_wp2_with fail
        change Handed _ _ _ (writeX W6 bn (repT (0) (1) t, A5, c5))
        obtain ⟨d1, d2, d3, d4, d5⟩ := HD.out
        clear HD m0 m1 m2 m3 m4 m5 m6 m7 zn0 zn1 zn2 zn3 zn4 zn5 zn6 zn7 g0 g1 g2 g3 g4 g5 g6 g7
        generalize writeX W6 bn (repT (0) (1) t, A5, c5) = W7 at *
        go_roundg (r2.length + 1)
        case measure => have := Hn.out; simp only [Rs.rest] at *; omega
        case rel => exact ⟨(repT (0) (1) t, A5, c5), kt, .ok r2, rfl, d1, d2, d3, d4, d5, .inr ⟨r2, k, rfl, by omega, by rw [Hpp.out, Hsu.out]⟩⟩
      have Ht63 := Lib.hid ht; clear ht
      rcases ht : takeP [123] r' with _ | r1
      case' none =>
        have hsu : sufP (k + 1) t r' = .ok (t, r') := by rw [sufP]; simp only [Ht42.out, Ht43.out, Ht63.out, ht]
        have Hout := Lib.hid (show Out (pieceP grp) (.ok r0) (fun x => t = x) (.ok r') from Out.good (by rw [Hpp.out, hsu]) rfl)
        have Ht := Lib.hid ht; clear hsu ht
        go_wp2_with fail
        refine (qtake_miss [42] (by simp) Ht42.out hP.S).mono ?_
        rintro en W3 ⟨rfl, ⟨kt, h2⟩, hO2⟩
        have hP := hP.off hlt hbw ltn hO2 h2
        clear h2 hO2
        go_wp2_with fail
        refine (qtake_miss [43] (by simp) Ht43.out hP.S).mono ?_
        rintro en W4 ⟨rfl, ⟨kt, h2⟩, hO2⟩
        have hP := hP.off hlt hbw ltn hO2 h2
        clear h2 hO2
        go_wp2_with fail
        refine (qtake_miss [63] (by simp) Ht63.out hP.S).mono ?_
        rintro en W5 ⟨rfl, ⟨kt, h2⟩, hO2⟩
        have hP := hP.off hlt hbw ltn hO2 h2
        clear h2 hO2
        go_wp2_with fail
        refine (qtake_miss [123] (by simp) Ht.out hP.S).mono ?_
        rintro en W6 ⟨rfl, ⟨kt, h2⟩, hO2⟩
        have hP := hP.off hlt hbw ltn hO2 h2
        clear h2 hO2
        have HP := Lib.hid hP
        clear hP
        obtain ⟨⟨n0, n1, n2, n3, n4, n5, n6, n7⟩, _⟩ := (HP.out.N).cells8
        have ln := (HP.out.N).lt
        obtain ⟨⟨r0, r1_, r2_, r3, r4, r5, r6, r7⟩, hz⟩ := (HP.out.R).cells8
        have z0 := hz 0; have z1 := hz 1; have z2 := hz 2; have z3 := hz 3; have z4 := hz 4; have z5 := hz 5; have z6 := hz 6; have z7 := hz 7
        have lr := (HP.out.R).lt
        clear hz
        go_wp2_with fail
        change bodyPost _ _ _ _ _ (writeX W6 w.heap.size (t, A, c))
        have hfin := writeX_blk (HP.out.R) (t, A, c)
        obtain ⟨⟨y0, y1, y2, y3, y4, y5, y6, y7⟩, _⟩ := hfin.cells8
        have hRS := (HP.out.S).boxX (b := w.heap.size) (by omega) (t, A, c)
        have hOff := Off.boxW (HP.out.O) (Nat.le_refl _) (t, A, c)
        have hlw : bx ≤ W6.heap.size := by first | exact Nat.le_refl _ | exact Nat.le_of_lt HP.out.X.lt
        have hNod : NodeAt (writeX W6 w.heap.size (t, A, c)) (fun b => w.heap.size ≤ b ∧ b < (writeX W6 w.heap.size (t, A, c)).heap.size) t A c := (HP.out.x).mono fun k (hk : w.heap.size < k ∧ k < bx ∧ k ≠ bn) => ⟨⟨by omega, by rw [writeX_size]; omega⟩, fun o => World.cell?_of_block (w := W6) (a := ⟨k, o, none⟩) (writeX_other _ _ _ _ (show k ≠ w.heap.size by omega))⟩
        generalize writeX W6 w.heap.size (t, A, c) = W9 at *
        exact bodyPost_ret (v := nodeV t A c) (by simp [results, Tryd.results45, y0, y1, y2, y3, y4, y5, y6, y7, go_sem]) rfl ⟨(t, A, c), kt, _, rfl, hNod, hRS, hOff, Hout.out⟩
      have Ht := Lib.hid ht
      have hl := takeP_len ht
      simp only [List.length_cons, List.length_nil] at hl
      clear ht
      go_wp2_with fail
      refine (qtake_miss [42] (by simp) Ht42.out hP.S).mono ?_
      rintro en W3 ⟨rfl, ⟨kt, h2⟩, hO2⟩
      have hP := hP.off hlt hbw ltn hO2 h2
      clear h2 hO2
      go_wp2_with fail
      refine (qtake_miss [43] (by simp) Ht43.out hP.S).mono ?_
      rintro en W4 ⟨rfl, ⟨kt, h2⟩, hO2⟩
      have hP := hP.off hlt hbw ltn hO2 h2
      clear h2 hO2
      go_wp2_with fail
      refine (qtake_miss [63] (by simp) Ht63.out hP.S).mono ?_
      rintro en W5 ⟨rfl, ⟨kt, h2⟩, hO2⟩
      have hP := hP.off hlt hbw ltn hO2 h2
      clear h2 hO2
      go_wp2_with fail
      refine (qtake_hit [123] (by simp) Ht.out hP.S).mono ?_
      rintro en W6 ⟨rfl, ⟨kt, h2⟩, hO2⟩
      have hP := hP.off hlt hbw ltn hO2 h2
      clear h2 hO2
      go_wp2_with fail
      refine (qinterval_any W6 p St kt op r1 hP.S).mono ?_
      rintro en W7 ⟨m, x, k7, s7, rfl, h7, hO7, ho7⟩
      have hP := hP.off hlt hbw ltn hO7 h7
      clear h7 hO7
      have hcase : s7.rest.length < r'.length ∧ ((∃ e, s7 = .error e ∧ pieceP grp r0 = .error e) ∨ ∃ r' k, s7 = .ok r' ∧ r'.length < k ∧ pieceP grp r0 = sufP k (repT m x t) r') := by
        rcases ho7 with ⟨hi, rfl⟩ | ⟨r2, hi, rfl⟩
        · exact ⟨by simp only [Rs.rest, List.length_nil]; omega, .inl ⟨105, rfl, by rw [Hpp.out, sufP]; simp only [Ht42.out, Ht43.out, Ht63.out, Ht.out, hi]⟩⟩
        · have := interval_len hi
          exact ⟨by simp only [Rs.rest]; omega, .inr ⟨r2, k, rfl, by omega, by rw [Hpp.out, sufP]; simp only [Ht42.out, Ht43.out, Ht63.out, Ht.out, hi]⟩⟩
      have HCA := Lib.hid hcase
      clear hcase ho7
      obtain ⟨⟨x0, x1, x2, x3, x4, x5, x6, x7⟩, hz⟩ := hP.X.cells8
      have zx5 := hz 5; have zx6 := hz 6
      have lx := hP.X.lt
      clear hz x0 x1 x2 x3 x4 x7
      have HP := Lib.hid ((hP.set5 hlt hbw ltn m).set6 hlt hbw ltn x)
      clear hP
      go_upto_region 16 with fail
      generalize (W7.setCell ⟨bx, 5, none⟩ _).setCell ⟨bx, 6, none⟩ _ = WS at *
      clear x5 x6 zx5 zx6 lx
      obtain ⟨⟨n0, n1, n2, n3, n4, n5, n6, n7⟩, _⟩ := HP.out.N.cells8
      have ln := HP.out.N.lt
      obtain ⟨⟨x0, x1, x2, x3, x4, x5, x6, x7⟩, hz⟩ := HP.out.X.cells8
      have zx7 := hz 7
      have lx := HP.out.X.lt
      obtain ⟨v0, hv0⟩ : ∃ v0 : Value, v0 = .slice none 0 0 := ⟨_, rfl⟩
      have hv7 : WS.cell? ⟨bx, 7, none⟩ = some v0 := by rw [hv0]; exact x7
      have Hv0 := Lib.hid hv0
      clear hz x7 hv0 x0 x1 x2 x3 x4 x5 x6
      have hnews : ∀ ad, some (⟨WS.heap.size, 0, none⟩ : Addr) = some ad → ∀ j u, (xcell (t, A, c))[j]? = some u → (WS.alloc (.cells (xcell (t, A, c)).toArray 27)).cell? (ad.add j) = some u := fun ad e j u hu => by
        simp only [Option.some.injEq] at e
        subst e
        rw [addr_addX, World.cell?_alloc_new, Nat.zero_add]
        simpa using hu
      have Hnews := Lib.hid hnews; clear hnews
      go_upto_region 17 with (at_builtin; refine wpList_append_fromX (bx + 1) rfl _ _ 25 27 _ 8 80 rfl Tryd.underlying25 Tryd.infoNodeX rfl (by omega) (by omega) v0 0 1 [] (xcell (t, A, c)) (some ⟨WS.heap.size, 0, none⟩) 1 rfl rfl (by simp) rfl Hnews.out (xcell_one _) ⟨rfl, .inl ⟨Hv0.out, rfl⟩⟩ (by simp; omega) (by omega) (fun A5 c5 w5 ho5 hg5 hat5 => ?_); have HZ := Lib.hid (HP.out.push hlt hbw ltn (A5 := A5) (c5 := c5) (w5 := w5) ((Below.refl _ _).alloc (Nat.le_refl _) _) (by simpa using ho5) (by rw [Hv0.out] at hg5; exact hg5)); clear ho5 hg5 hat5; obtain ⟨⟨x0, x1, x2, x3, x4, x5, x6, x7⟩, hz⟩ := HZ.out.X.cells8; have zx7 := hz 7; have lx5 := HZ.out.X.lt; clear hz; rw [Nat.zero_add])
      have hD := HZ.out.done hlt hbw ltn
      have lx6 := hD.1.lt
      obtain ⟨⟨g0, g1, g2, g3, g4, g5, g6, g7⟩, _⟩ := hD.1.cells8
      obtain ⟨⟨m0, m1, m2, m3, m4, m5, m6, m7⟩, hz⟩ := hD.2.1.cells8
      have zn0 := hz 0; have zn1 := hz 1; have zn2 := hz 2; have zn3 := hz 3; have zn4 := hz 4; have zn5 := hz 5; have zn6 := hz 6; have zn7 := hz 7
      have ln6 := hD.2.1.lt
      have HD := Lib.hid hD.2.2
      clear hD hz HZ x0 x1 x2 x3 x4 x5 x6 x7 zx7 lx5
      generalize w5.setCell _ _ = W6 at *
      go_wp2_with fail
      change Handed _ _ _ (writeX W6 bn (repT (m) (x) t, A5, c5))
      obtain ⟨d1, d2, d3, d4, d5⟩ := HD.out
      clear HD m0 m1 m2 m3 m4 m5 m6 m7 zn0 zn1 zn2 zn3 zn4 zn5 zn6 zn7 g0 g1 g2 g3 g4 g5 g6 g7
      generalize writeX W6 bn (repT (m) (x) t, A5, c5) = W7 at *
      go_roundg (s7.rest.length + 1)
      case measure => have := Hn.out; have := HCA.out.1; simp only [Rs.rest] at *; omega
      case rel => exact ⟨(repT (m) (x) t, A5, c5), k7, s7, rfl, d1, d2, d3, d4, d5, HCA.out.2⟩
end Go.Proofs.YteekafkpeimhoaaDoor

/- vouchref10's Reader: lists of nodes; alternative: walked. -/
set_option linter.unusedVariables false
set_option linter.unusedSimpArgs false
namespace Go.Proofs.YteekafkpeimhoaaDoor
open Go.RowKit

/-- A list of nodes that a call lays, in its own row behind the block bx; beside the result's box and the Reader. -/
structure LstQ (p : Nat) (St : Bs) (op : Int) (w : World) (bx : Nat) (n : Nat) (ns : List Nx) (Av : Option Addr) (cv : Nat) (k : Nat) (s : Rs) (wr : World) : Prop where
  len : ns.length = n
  R : BlkX wr w.heap.size (xcell (.mk 0 0 0 0 0 0 0 [], none, 0)).toArray
  b1 : w.heap.size ≤ bx
  b2 : bx < wr.heap.size
  own : wr.ownsRow (bx + 1) 27 8 (.slice Av n cv) n (xcells ns)
  nodes : ∀ x ∈ ns, NodeAt wr (fun b => w.heap.size < b ∧ b < wr.heap.size ∧ b ≠ bx ∧ some b ≠ (Value.slice Av n cv).ownBlock) x.1 x.2.1 x.2.2
  S : RQ wr p St k op s
  O : Off p w wr
theorem LstQ.off {p : Nat} {St : Bs} {op : Int} {w : World} {bx n : Nat} {ns : List Nx} {Av : Option Addr} {cv k k1 : Nat} {s s' : Rs} {wr w1 : World} (h : LstQ p St op w bx n ns Av cv k s wr) (hp : p < w.heap.size) (hO : Off p wr w1) (hS : RQ w1 p St k1 op s') : LstQ p St op w bx n ns Av cv k1 s' w1 := by
  have hz := hO.size
  have hb1 := h.b1
  refine ⟨h.len, Off.blk hO h.R (by omega), h.b1, Nat.lt_of_lt_of_le h.b2 hz, h.own.kept hO ?_, fun x hx => (h.nodes x hx).mono fun b (hb : w.heap.size < b ∧ b < wr.heap.size ∧ b ≠ bx ∧ some b ≠ (Value.slice Av n cv).ownBlock) => ⟨⟨hb.1, by omega, hb.2.2⟩, fun o => Off.cell hO hb.2.1 (by omega)⟩, hS, Off.trans h.O hO⟩
  cases hv : (Value.slice Av n cv).ownBlock with
  | none => exact .inl rfl
  | some k => have := h.own.lt k hv; exact .inr (by simp; omega)
/-- The box bx written. -/
theorem LstQ.box {p : Nat} {St : Bs} {op : Int} {w : World} {bx n : Nat} {ns : List Nx} {Av : Option Addr} {cv k : Nat} {s : Rs} {wr : World} (h : LstQ p St op w bx n ns Av cv k s wr) (hp : p < w.heap.size) (hb : w.heap.size < bx) (y : Nx) : LstQ p St op w bx n ns Av cv k s (writeX wr bx y) := by
  have hk : ∀ b, b ≠ bx → (writeX wr bx y).heap[b]? = wr.heap[b]? := fun b hb => writeX_other _ _ _ _ hb
  have hz := writeX_size wr bx y
  have hbel := writeX_below (Below.refl bx wr) (Nat.le_refl _) y
  refine ⟨h.len, h.R.keep (hk _ (by omega)), h.b1, by rw [hz]; exact h.b2, h.own.kept (row := some bx) ⟨hbel.os, hbel.tape, hbel.output, by omega, fun b hb hne => hk b (by simpa using hne)⟩ ?_, fun x hx => (h.nodes x hx).mono fun b (hb : w.heap.size < b ∧ b < wr.heap.size ∧ b ≠ bx ∧ some b ≠ (Value.slice Av n cv).ownBlock) => ⟨⟨hb.1, by omega, hb.2.2⟩, fun o => World.cell?_of_block (w := wr) (a := ⟨b, o, none⟩) (hk b hb.2.2.1)⟩, h.S.boxX (by omega) y, Off.boxW h.O h.b1 y⟩
  cases hv : (Value.slice Av n cv).ownBlock with
  | none => exact .inl rfl
  | some k => have := h.own.lt k hv; exact .inr (by simp; omega)
theorem LstQ.push {p : Nat} {St : Bs} {op : Int} {w : World} {bx n : Nat} {ns : List Nx} {Av A' : Option Addr} {cv c' k : Nat} {s : Rs} {W w0 w2 : World} (h : LstQ p St op w bx n ns Av cv k s W) (hp : p < w.heap.size) (x : Nx) (hx : NodeAt W (fun b => w.heap.size < b ∧ b < W.heap.size ∧ b ≠ bx ∧ some b ≠ (Value.slice Av n cv).ownBlock) x.1 x.2.1 x.2.2)
    (h0 : Below W.heap.size W w0) (h1 : w2.ownsRow (bx + 1) 27 8 (.slice A' (n + 1) c') (n + 1) (xcells ns ++ xcell x)) (h2 : w0.grownBy w2 (Value.slice Av n cv).ownBlock) (h3 : (Value.slice A' (n + 1) c').ownBlock = (Value.slice Av n cv).ownBlock ∨ (Value.slice A' (n + 1) c').ownBlock = some w0.heap.size) :
    LstQ p St op w bx (n + 1) (ns ++ [x]) A' c' k s w2 := by
  have hz0 := h0.size
  have hz2 := h2.size
  have hb1 := h.b1
  have hb2 := h.b2
  have hblk : ∀ b, b < W.heap.size → some b ≠ (Value.slice Av n cv).ownBlock → w2.heap[b]? = W.heap[b]? := fun b hb hne => (h2.block b (by omega) hne).trans (h0.block b hb)
  have hrow1 : ∀ k, (Value.slice Av n cv).ownBlock = some k → bx + 1 ≤ k := fun k hk => (h.own.lt k hk).1
  have hne : ∀ b, b < bx + 1 → some b ≠ (Value.slice Av n cv).ownBlock := fun b hb e => by have := hrow1 b e.symm; omega
  have hpW := h.S.lt
  refine ⟨by simp [h.len], h.R.keep (hblk _ h.R.lt (hne _ (by omega))), h.b1, by omega, by rw [xcells_snoc]; exact h1, fun y hy => ?_, rq_kept h.S (by omega) (hblk p hpW (hne _ (by omega))), ?_⟩
  · have key : ∀ b, w.heap.size < b → b < W.heap.size → b ≠ bx → some b ≠ (Value.slice Av n cv).ownBlock → (w.heap.size < b ∧ b < w2.heap.size ∧ b ≠ bx ∧ some b ≠ (Value.slice A' (n + 1) c').ownBlock) ∧ ∀ o, w2.cell? ⟨b, o, none⟩ = W.cell? ⟨b, o, none⟩ := fun b hb1 hb2 hbx hb3 => by
      refine ⟨⟨hb1, by omega, hbx, ?_⟩, fun o => World.cell?_of_block (w := W) (a := ⟨b, o, none⟩) (hblk b hb2 hb3)⟩
      rcases h3 with e | e
      · rw [e]; exact hb3
      · rw [e]; intro e'; simp only [Option.some.injEq] at e'; omega
    rcases List.mem_append.1 hy with hy | hy
    · exact (h.nodes y hy).mono fun b (hb : w.heap.size < b ∧ b < W.heap.size ∧ b ≠ bx ∧ some b ≠ (Value.slice Av n cv).ownBlock) => key b hb.1 hb.2.1 hb.2.2.1 hb.2.2.2
    · simp only [List.mem_singleton] at hy
      subst hy
      exact hx.mono fun b (hb : w.heap.size < b ∧ b < W.heap.size ∧ b ≠ bx ∧ some b ≠ (Value.slice Av n cv).ownBlock) => key b hb.1 hb.2.1 hb.2.2.1 hb.2.2.2
  · have hO := h.O
    have hzW := hO.size
    exact ⟨(h2.os.trans h0.os).trans hO.os, (h2.tape.trans h0.tape).trans hO.tape, (h2.output.trans h0.output).trans hO.output, by omega, fun k hk hkp => (hblk k (by omega) (hne k (by omega))).trans (hO.block k hk hkp)⟩
/-- The list's own node. -/
theorem LstQ.node {p : Nat} {St : Bs} {op : Int} {w : World} {bx n : Nat} {ns : List Nx} {Av : Option Addr} {cv k : Nat} {s : Rs} {wr : World} (h : LstQ p St op w bx n ns Av cv k s wr) (hn : 0 < n) (hn2 : n ≤ 17592186044416) (R : T) (hR : R.ps = ns.map (·.1)) : NodeAt wr (fun b => w.heap.size < b ∧ b < wr.heap.size) R Av cv := by
  have hb1 := h.b1
  obtain ⟨g, hA, hg0, hg, hc⟩ : ∃ g, Av = some ⟨g, 0, none⟩ ∧ bx + 1 ≤ g ∧ g < wr.heap.size ∧ n ≤ cv := by
    rcases h.own.2 with ⟨_, h0⟩ | ⟨g, cap, cur, e, hb, hh, hcap, _⟩
    · omega
    · simp only [Value.slice.injEq] at e
      exact ⟨g, e.1, hb, by (rcases Nat.lt_or_ge g wr.heap.size with h' | h'; exact h'; rw [Array.getElem?_eq_none h'] at hh; simp at hh), by omega⟩
  subst hA
  have h8 : ∀ (i : Nat) (x : Nx), ns[i]? = some x → At8 wr g (i * 8) x.1 x.2.1 x.2.2 := fun i x hi => .ofX fun j hj => by
    have hl := (List.getElem?_eq_some_iff.1 hi).1
    have hx : ns[i] = x := (List.getElem?_eq_some_iff.1 hi).2
    rw [h.own.cellAt (i * 8 + j) (by have := h.len; omega), xcells_get ns i j hl hj, hx]
  have hm := node_litX (W := wr) (ok := fun b => w.heap.size < b ∧ b < wr.heap.size) (g := g) R ns hR (by rw [h.len]; exact hn2) ⟨by omega, hg⟩ h8 (fun i x hi => (h.nodes x (List.mem_of_getElem? hi)).mono fun b (hb : w.heap.size < b ∧ b < wr.heap.size ∧ b ≠ bx ∧ some b ≠ _) => ⟨⟨hb.1, hb.2.1⟩, fun o => rfl⟩)
  exact hm.widerX (by rw [hR, List.length_map, h.len]; exact hc)
/-- The first node of a list, in memory. -/
theorem LstQ.first {p : Nat} {St : Bs} {op : Int} {w : World} {bx n : Nat} {ns : List Nx} {Av : Option Addr} {cv k : Nat} {s : Rs} {wr : World} (h : LstQ p St op w bx n ns Av cv k s wr) (hn : 0 < n) : ∃ g x, Av = some ⟨g, 0, none⟩ ∧ ns[0]? = some x ∧ At8 wr g 0 x.1 x.2.1 x.2.2 ∧ g < wr.heap.size ∧ n ≤ cv ∧ NodeAt wr (fun b => w.heap.size < b ∧ b < wr.heap.size) x.1 x.2.1 x.2.2 := by
  have hb1 := h.b1
  obtain ⟨g, hA, hg0, hg, hc⟩ : ∃ g, Av = some ⟨g, 0, none⟩ ∧ bx + 1 ≤ g ∧ g < wr.heap.size ∧ n ≤ cv := by
    rcases h.own.2 with ⟨_, h0⟩ | ⟨g, cap, cur, e, hb, hh, hcap, _⟩
    · omega
    · simp only [Value.slice.injEq] at e
      exact ⟨g, e.1, hb, by (rcases Nat.lt_or_ge g wr.heap.size with h' | h'; exact h'; rw [Array.getElem?_eq_none h'] at hh; simp at hh), by omega⟩
  subst hA
  have hl : 0 < ns.length := by rw [h.len]; exact hn
  refine ⟨g, ns[0], rfl, List.getElem?_eq_getElem hl, .ofX fun j hj => ?_, hg, hc, (h.nodes _ (List.getElem_mem hl)).mono fun b (hb : w.heap.size < b ∧ b < wr.heap.size ∧ b ≠ bx ∧ some b ≠ _) => ⟨⟨hb.1, hb.2.1⟩, fun o => rfl⟩⟩
  have := h.own.cellAt j (by have := h.len; omega)
  rw [Nat.zero_add, this]
  have e := xcells_get ns 0 j hl hj
  simpa using e
/-- Where the loop of alternative stands. -/
def AltL (p : Nat) (St : Bs) (op : Int) (grp : Bs → PT) (s : Rs) (w : World) (v : Value) (wr : World) (m : Nat) : Prop :=
  ∃ (n : Nat) (ns : List Nx) (Av : Option Addr) (cv : Nat) (k : Nat) (s' : Rs), v = .slice Av n cv ∧ m = s'.rest.length + 1 ∧ n + s'.rest.length ≤ 1024 ∧ LstQ p St op w w.heap.size n ns Av cv k s' wr ∧
    ((∃ e, s' = .error e ∧ (s = .error e ∨ ∃ r, s = .ok r ∧ rowP grp r = .error e)) ∨ ∃ r r' k, s = .ok r ∧ s' = .ok r' ∧ r'.length < k ∧ piecesP grp (r.length + 1) [] r = piecesP grp k (ns.map fun x : Nx => x.1) r')
theorem RQ.rest {w : World} {p : Nat} {S : Bs} {k : Nat} {op : Int} {s : Rs} (h : RQ w p S k op s) : s.rest.length ≤ 1024 := by
  cases s with
  | error e => simp [Rs.rest]
  | ok r => have := h.len; have := h.rdr.top; simp only [Rs.rest]; omega
theorem take_head {a c : UInt8} {t : Bs} (h : c = a) : takeP [a] (c :: t) = some t := by rw [takeP_one, if_pos h.symm]
theorem take_no {a c : UInt8} {t : Bs} (h : c ≠ a) : takeP [a] (c :: t) = none := by rw [takeP_one, if_neg (fun e => h e.symm)]
set_option maxRecDepth 100000 in
set_option maxHeartbeats 8000000 in
theorem qalt_any (w : World) (p : Nat) (St : Bs) (k : Nat) (op : Int) (s : Rs) (h : RQ w p St k op s) (grp : Bs → PT) (hgl : GrpLen grp)
    (hG : (∃ r, s = .ok r) → ∀ (w : World) (k : Nat) (r : Bs), RQ w p St k op (.ok r) → Calls Tryd.prog 74 #[.pointer (some ⟨p, 0, none⟩)] w fun en w' => QNode p St op grp (.ok r) w en w') :
    Calls Tryd.prog 32 #[.pointer (some ⟨p, 0, none⟩)] w fun en w' => QNode p St op (rowP grp) s w en w' := by
  have hlt := h.lt
  have hs := h.rest
  have HP := Lib.hid (fun (hsr : ∃ r, s = .ok r) (w : World) (k0 : Nat) (cc : UInt8) (tt : Bs) (h : RQ w p St k0 op (.ok (cc :: tt))) => qpiece_any w p St k0 op cc tt grp h (hG hsr))
  have H := Lib.hid h; have HGl := Lib.hid hgl
  clear h hG hgl
  go_enter Tryd.func32, Tryd.ntmps32
  go_upto_region 1 with fail
  generalize hW : w.alloc _ = W0
  have hB0 : Below w.heap.size w W0 := by subst hW; exact (Below.refl _ _).alloc (Nat.le_refl _) _
  have R0 : BlkX W0 w.heap.size (xcell (.mk 0 0 0 0 0 0 0 [], none, 0)).toArray := by subst hW; exact BlkX.new w _
  clear hW
  have hI : AltL p St op grp s w (.slice none 0 0) W0 (s.rest.length + 1) := by
    refine ⟨0, [], none, 0, k, s, rfl, rfl, by omega, ⟨rfl, R0, Nat.le_refl _, R0.lt, ⟨rfl, .inl ⟨rfl, rfl⟩⟩, fun x hx => by simp at hx, H.out.later hB0, Off.of_below hB0⟩, ?_⟩
    rcases s with e | r
    · exact .inl ⟨e, rfl, .inl rfl⟩
    · exact .inr ⟨r, r, r.length + 1, rfl, rfl, by omega, rfl⟩
  have HI := Lib.hid hI; clear hI hB0 R0
  go_wp2_with fail
  go_loopg [3] (s.rest.length + 1) (fun m v wr => AltL p St op grp s w v wr m)
  case atStart => exact HI.out
  case round =>
    clear HI H
    obtain ⟨n, ns, Av, cv, kr, s', rfl, hm, hnl, hL, hcase⟩ := hrel
    have HL := Lib.hid hL; have HC := Lib.hid hcase; have Hm := Lib.hid hm
    have Hd := Lib.hid (done_q hL.S)
    clear hL hcase hm
    go_wp2_with fail
    refine Hd.out.mono ?_
    rintro en w1 ⟨rfl, h1, hO1⟩
    have HL := Lib.hid (HL.out.off hlt hO1 h1)
    clear h1 hO1 Hd
    rcases s' with e | (_ | ⟨c, t⟩)
    · rw [show doneS (.error e) = true from rfl]
      have Hfin := Lib.hid (show Out (rowP grp) s (fun t => joinT 4 (ns.map fun x : Nx => x.1) = t) (.error e) by
        rcases HC.out with ⟨e', he, hs⟩ | ⟨r, r', k, _, he, _⟩
        · cases he
          rcases hs with rfl | ⟨r, rfl, hr⟩
          · exact Out.err
          · exact Out.bad hr
        · cases he)
      clear HC Hm
      have hn3 : n = 0 ∨ n = 1 ∨ 2 ≤ n := by omega
      rcases hn3 with rfl | rfl | hn2
      · have hns : ns = [] := List.eq_nil_of_length_eq_zero HL.out.len
        subst hns
        obtain ⟨⟨r0, r1, r2, r3, r4, r5, r6, r7⟩, hz⟩ := HL.out.R.cells8
        have z0 := hz 0; have z1 := hz 1; have z2 := hz 2; have z3 := hz 3; have z4 := hz 4; have z5 := hz 5; have z6 := hz 6; have z7 := hz 7
        have lr := HL.out.R.lt
        clear hz
        go_wp2_with fail
        change bodyPost _ _ _ _ _ (writeX w1 w.heap.size (T.mk 0 0 0 0 0 0 0 [], none, 0))
        have hfn := writeX_blk HL.out.R (T.mk 0 0 0 0 0 0 0 [], none, 0)
        obtain ⟨⟨y0, y1, y2, y3, y4, y5, y6, y7⟩, _⟩ := hfn.cells8
        have hRS := HL.out.S.boxX (b := w.heap.size) (by omega) (T.mk 0 0 0 0 0 0 0 [], none, 0)
        have hOff := Off.boxW HL.out.O (Nat.le_refl _) (T.mk 0 0 0 0 0 0 0 [], none, 0)
        have hNod : NodeAt (writeX w1 w.heap.size (T.mk 0 0 0 0 0 0 0 [], none, 0)) (fun b => w.heap.size ≤ b ∧ b < (writeX w1 w.heap.size (T.mk 0 0 0 0 0 0 0 [], none, 0)).heap.size) (((T.mk 0 0 0 0 0 0 0 [], none, 0) : Nx)).1 (((T.mk 0 0 0 0 0 0 0 [], none, 0) : Nx)).2.1 (((T.mk 0 0 0 0 0 0 0 [], none, 0) : Nx)).2.2 := nodeAt_leafX _ _ _ rfl
        generalize writeX w1 w.heap.size (T.mk 0 0 0 0 0 0 0 [], none, 0) = W3 at *
        exact bodyPost_ret (v := nodeV (((T.mk 0 0 0 0 0 0 0 [], none, 0) : Nx)).1 (((T.mk 0 0 0 0 0 0 0 [], none, 0) : Nx)).2.1 (((T.mk 0 0 0 0 0 0 0 [], none, 0) : Nx)).2.2) (by simp [results, Tryd.results32, y0, y1, y2, y3, y4, y5, y6, y7, go_sem]) rfl ⟨(T.mk 0 0 0 0 0 0 0 [], none, 0), kr, _, rfl, hNod, hRS, hOff, Hfin.out⟩
      · obtain ⟨g, ⟨t1, A1, c1⟩, rfl, hx, h8, hg, hcv, hnd⟩ := HL.out.first (by omega)
        have hj : joinT 4 (ns.map fun x : Nx => x.1) = t1 := by
          have hl := HL.out.len
          match ns, hl, hx with
          | [y], _, hx => simp at hx; subst hx; rfl
        have Hj := Lib.hid hj; have Hnd := Lib.hid hnd
        obtain ⟨f0, f1, f2, f3, f4, f5, f6, f7⟩ := h8
        simp only [Nat.zero_add] at f1 f2 f3 f4 f5 f6 f7
        clear hj hnd hx
        obtain ⟨⟨r0, r1, r2, r3, r4, r5, r6, r7⟩, hz⟩ := HL.out.R.cells8
        have z0 := hz 0; have z1 := hz 1; have z2 := hz 2; have z3 := hz 3; have z4 := hz 4; have z5 := hz 5; have z6 := hz 6; have z7 := hz 7
        have lr := HL.out.R.lt
        clear hz
        go_wp2_with fail
        change bodyPost _ _ _ _ _ (writeX w1 w.heap.size (t1, A1, c1))
        have hfn := writeX_blk HL.out.R (t1, A1, c1)
        obtain ⟨⟨y0, y1, y2, y3, y4, y5, y6, y7⟩, _⟩ := hfn.cells8
        have hRS := HL.out.S.boxX (b := w.heap.size) (by omega) (t1, A1, c1)
        have hOff := Off.boxW HL.out.O (Nat.le_refl _) (t1, A1, c1)
        have hNod : NodeAt (writeX w1 w.heap.size (t1, A1, c1)) (fun b => w.heap.size ≤ b ∧ b < (writeX w1 w.heap.size (t1, A1, c1)).heap.size) (((t1, A1, c1) : Nx)).1 (((t1, A1, c1) : Nx)).2.1 (((t1, A1, c1) : Nx)).2.2 := Hnd.out.mono fun k (hk : w.heap.size < k ∧ k < w1.heap.size) => ⟨⟨by omega, by rw [writeX_size]; exact hk.2⟩, fun o => World.cell?_of_block (w := w1) (a := ⟨k, o, none⟩) (writeX_other _ _ _ _ (show k ≠ w.heap.size by omega))⟩
        generalize writeX w1 w.heap.size (t1, A1, c1) = W3 at *
        exact bodyPost_ret (v := nodeV (((t1, A1, c1) : Nx)).1 (((t1, A1, c1) : Nx)).2.1 (((t1, A1, c1) : Nx)).2.2) (by simp [results, Tryd.results32, y0, y1, y2, y3, y4, y5, y6, y7, go_sem]) rfl ⟨(t1, A1, c1), kr, _, rfl, hNod, hRS, hOff, by have := Hfin.out; rw [Hj.out] at this; exact this⟩
      · obtain rfl : n = (ns.map fun x : Nx => x.1).length := by simp [HL.out.len]
        have hnd := HL.out.node (by omega) (by omega) (.mk 4 0 0 0 0 0 0 (ns.map fun x : Nx => x.1)) rfl
        have hj : joinT 4 (ns.map fun x : Nx => x.1) = .mk 4 0 0 0 0 0 0 (ns.map fun x : Nx => x.1) := by
          generalize ns.map (fun x : Nx => x.1) = l at hn2
          match l, hn2 with
          | a :: b :: l, _ => rfl
        have hb0 : (((ns.map fun x : Nx => x.1).length : Int) == 0) = false := by rw [beq_eq_false_iff_ne]; omega
        have hb1 : (((ns.map fun x : Nx => x.1).length : Int) == 1) = false := by rw [beq_eq_false_iff_ne]; omega
        have Hj := Lib.hid hj; have Hnd := Lib.hid hnd
        clear hj hnd
        generalize hl : (ns.map fun x : Nx => x.1) = l at *
        obtain ⟨⟨r0, r1, r2, r3, r4, r5, r6, r7⟩, hz⟩ := HL.out.R.cells8
        have z0 := hz 0; have z1 := hz 1; have z2 := hz 2; have z3 := hz 3; have z4 := hz 4; have z5 := hz 5; have z6 := hz 6; have z7 := hz 7
        have lr := HL.out.R.lt
        clear hz
        go_wp2_with fail
        change bodyPost _ _ _ _ _ (writeX w1 w.heap.size (T.mk 4 0 0 0 0 0 0 l, Av, cv))
        have hfn := writeX_blk HL.out.R (T.mk 4 0 0 0 0 0 0 l, Av, cv)
        obtain ⟨⟨y0, y1, y2, y3, y4, y5, y6, y7⟩, _⟩ := hfn.cells8
        have hRS := HL.out.S.boxX (b := w.heap.size) (by omega) (T.mk 4 0 0 0 0 0 0 l, Av, cv)
        have hOff := Off.boxW HL.out.O (Nat.le_refl _) (T.mk 4 0 0 0 0 0 0 l, Av, cv)
        have hNod : NodeAt (writeX w1 w.heap.size (T.mk 4 0 0 0 0 0 0 l, Av, cv)) (fun b => w.heap.size ≤ b ∧ b < (writeX w1 w.heap.size (T.mk 4 0 0 0 0 0 0 l, Av, cv)).heap.size) (((T.mk 4 0 0 0 0 0 0 l, Av, cv) : Nx)).1 (((T.mk 4 0 0 0 0 0 0 l, Av, cv) : Nx)).2.1 (((T.mk 4 0 0 0 0 0 0 l, Av, cv) : Nx)).2.2 := Hnd.out.mono fun k (hk : w.heap.size < k ∧ k < w1.heap.size) => ⟨⟨by omega, by rw [writeX_size]; exact hk.2⟩, fun o => World.cell?_of_block (w := w1) (a := ⟨k, o, none⟩) (writeX_other _ _ _ _ (show k ≠ w.heap.size by omega))⟩
        generalize writeX w1 w.heap.size (T.mk 4 0 0 0 0 0 0 l, Av, cv) = W3 at *
        exact bodyPost_ret (v := nodeV (((T.mk 4 0 0 0 0 0 0 l, Av, cv) : Nx)).1 (((T.mk 4 0 0 0 0 0 0 l, Av, cv) : Nx)).2.1 (((T.mk 4 0 0 0 0 0 0 l, Av, cv) : Nx)).2.2) (by simp [results, Tryd.results32, y0, y1, y2, y3, y4, y5, y6, y7, go_sem]) rfl ⟨(T.mk 4 0 0 0 0 0 0 l, Av, cv), kr, _, rfl, hNod, hRS, hOff, by have := Hfin.out; rw [Hj.out] at this; exact this⟩
    · rw [show doneS (.ok []) = true from rfl]
      have Hfin := Lib.hid (show Out (rowP grp) s (fun t => joinT 4 (ns.map fun x : Nx => x.1) = t) (.ok []) by
        rcases HC.out with ⟨e', he, _⟩ | ⟨r, r', k, rfl, he, hk, hpp⟩
        · cases he
        · cases he
          obtain ⟨k', rfl⟩ : ∃ k', k = k' + 1 := ⟨k - 1, by simp at hk; omega⟩
          refine Out.good (x := joinT 4 (ns.map fun x : Nx => x.1)) ?_ rfl
          unfold rowP
          rw [hpp, piecesP, if_pos (show endsRow [] = true from rfl)])
      clear HC Hm
      have hn3 : n = 0 ∨ n = 1 ∨ 2 ≤ n := by omega
      rcases hn3 with rfl | rfl | hn2
      · have hns : ns = [] := List.eq_nil_of_length_eq_zero HL.out.len
        subst hns
        obtain ⟨⟨r0, r1, r2, r3, r4, r5, r6, r7⟩, hz⟩ := HL.out.R.cells8
        have z0 := hz 0; have z1 := hz 1; have z2 := hz 2; have z3 := hz 3; have z4 := hz 4; have z5 := hz 5; have z6 := hz 6; have z7 := hz 7
        have lr := HL.out.R.lt
        clear hz
        go_wp2_with fail
        change bodyPost _ _ _ _ _ (writeX w1 w.heap.size (T.mk 0 0 0 0 0 0 0 [], none, 0))
        have hfn := writeX_blk HL.out.R (T.mk 0 0 0 0 0 0 0 [], none, 0)
        obtain ⟨⟨y0, y1, y2, y3, y4, y5, y6, y7⟩, _⟩ := hfn.cells8
        have hRS := HL.out.S.boxX (b := w.heap.size) (by omega) (T.mk 0 0 0 0 0 0 0 [], none, 0)
        have hOff := Off.boxW HL.out.O (Nat.le_refl _) (T.mk 0 0 0 0 0 0 0 [], none, 0)
        have hNod : NodeAt (writeX w1 w.heap.size (T.mk 0 0 0 0 0 0 0 [], none, 0)) (fun b => w.heap.size ≤ b ∧ b < (writeX w1 w.heap.size (T.mk 0 0 0 0 0 0 0 [], none, 0)).heap.size) (((T.mk 0 0 0 0 0 0 0 [], none, 0) : Nx)).1 (((T.mk 0 0 0 0 0 0 0 [], none, 0) : Nx)).2.1 (((T.mk 0 0 0 0 0 0 0 [], none, 0) : Nx)).2.2 := nodeAt_leafX _ _ _ rfl
        generalize writeX w1 w.heap.size (T.mk 0 0 0 0 0 0 0 [], none, 0) = W3 at *
        exact bodyPost_ret (v := nodeV (((T.mk 0 0 0 0 0 0 0 [], none, 0) : Nx)).1 (((T.mk 0 0 0 0 0 0 0 [], none, 0) : Nx)).2.1 (((T.mk 0 0 0 0 0 0 0 [], none, 0) : Nx)).2.2) (by simp [results, Tryd.results32, y0, y1, y2, y3, y4, y5, y6, y7, go_sem]) rfl ⟨(T.mk 0 0 0 0 0 0 0 [], none, 0), kr, _, rfl, hNod, hRS, hOff, Hfin.out⟩
      · obtain ⟨g, ⟨t1, A1, c1⟩, rfl, hx, h8, hg, hcv, hnd⟩ := HL.out.first (by omega)
        have hj : joinT 4 (ns.map fun x : Nx => x.1) = t1 := by
          have hl := HL.out.len
          match ns, hl, hx with
          | [y], _, hx => simp at hx; subst hx; rfl
        have Hj := Lib.hid hj; have Hnd := Lib.hid hnd
        obtain ⟨f0, f1, f2, f3, f4, f5, f6, f7⟩ := h8
        simp only [Nat.zero_add] at f1 f2 f3 f4 f5 f6 f7
        clear hj hnd hx
        obtain ⟨⟨r0, r1, r2, r3, r4, r5, r6, r7⟩, hz⟩ := HL.out.R.cells8
        have z0 := hz 0; have z1 := hz 1; have z2 := hz 2; have z3 := hz 3; have z4 := hz 4; have z5 := hz 5; have z6 := hz 6; have z7 := hz 7
        have lr := HL.out.R.lt
        clear hz
        go_wp2_with fail
        change bodyPost _ _ _ _ _ (writeX w1 w.heap.size (t1, A1, c1))
        have hfn := writeX_blk HL.out.R (t1, A1, c1)
        obtain ⟨⟨y0, y1, y2, y3, y4, y5, y6, y7⟩, _⟩ := hfn.cells8
        have hRS := HL.out.S.boxX (b := w.heap.size) (by omega) (t1, A1, c1)
        have hOff := Off.boxW HL.out.O (Nat.le_refl _) (t1, A1, c1)
        have hNod : NodeAt (writeX w1 w.heap.size (t1, A1, c1)) (fun b => w.heap.size ≤ b ∧ b < (writeX w1 w.heap.size (t1, A1, c1)).heap.size) (((t1, A1, c1) : Nx)).1 (((t1, A1, c1) : Nx)).2.1 (((t1, A1, c1) : Nx)).2.2 := Hnd.out.mono fun k (hk : w.heap.size < k ∧ k < w1.heap.size) => ⟨⟨by omega, by rw [writeX_size]; exact hk.2⟩, fun o => World.cell?_of_block (w := w1) (a := ⟨k, o, none⟩) (writeX_other _ _ _ _ (show k ≠ w.heap.size by omega))⟩
        generalize writeX w1 w.heap.size (t1, A1, c1) = W3 at *
        exact bodyPost_ret (v := nodeV (((t1, A1, c1) : Nx)).1 (((t1, A1, c1) : Nx)).2.1 (((t1, A1, c1) : Nx)).2.2) (by simp [results, Tryd.results32, y0, y1, y2, y3, y4, y5, y6, y7, go_sem]) rfl ⟨(t1, A1, c1), kr, _, rfl, hNod, hRS, hOff, by have := Hfin.out; rw [Hj.out] at this; exact this⟩
      · obtain rfl : n = (ns.map fun x : Nx => x.1).length := by simp [HL.out.len]
        have hnd := HL.out.node (by omega) (by omega) (.mk 4 0 0 0 0 0 0 (ns.map fun x : Nx => x.1)) rfl
        have hj : joinT 4 (ns.map fun x : Nx => x.1) = .mk 4 0 0 0 0 0 0 (ns.map fun x : Nx => x.1) := by
          generalize ns.map (fun x : Nx => x.1) = l at hn2
          match l, hn2 with
          | a :: b :: l, _ => rfl
        have hb0 : (((ns.map fun x : Nx => x.1).length : Int) == 0) = false := by rw [beq_eq_false_iff_ne]; omega
        have hb1 : (((ns.map fun x : Nx => x.1).length : Int) == 1) = false := by rw [beq_eq_false_iff_ne]; omega
        have Hj := Lib.hid hj; have Hnd := Lib.hid hnd
        clear hj hnd
        generalize hl : (ns.map fun x : Nx => x.1) = l at *
        obtain ⟨⟨r0, r1, r2, r3, r4, r5, r6, r7⟩, hz⟩ := HL.out.R.cells8
        have z0 := hz 0; have z1 := hz 1; have z2 := hz 2; have z3 := hz 3; have z4 := hz 4; have z5 := hz 5; have z6 := hz 6; have z7 := hz 7
        have lr := HL.out.R.lt
        clear hz
        go_wp2_with fail
        change bodyPost _ _ _ _ _ (writeX w1 w.heap.size (T.mk 4 0 0 0 0 0 0 l, Av, cv))
        have hfn := writeX_blk HL.out.R (T.mk 4 0 0 0 0 0 0 l, Av, cv)
        obtain ⟨⟨y0, y1, y2, y3, y4, y5, y6, y7⟩, _⟩ := hfn.cells8
        have hRS := HL.out.S.boxX (b := w.heap.size) (by omega) (T.mk 4 0 0 0 0 0 0 l, Av, cv)
        have hOff := Off.boxW HL.out.O (Nat.le_refl _) (T.mk 4 0 0 0 0 0 0 l, Av, cv)
        have hNod : NodeAt (writeX w1 w.heap.size (T.mk 4 0 0 0 0 0 0 l, Av, cv)) (fun b => w.heap.size ≤ b ∧ b < (writeX w1 w.heap.size (T.mk 4 0 0 0 0 0 0 l, Av, cv)).heap.size) (((T.mk 4 0 0 0 0 0 0 l, Av, cv) : Nx)).1 (((T.mk 4 0 0 0 0 0 0 l, Av, cv) : Nx)).2.1 (((T.mk 4 0 0 0 0 0 0 l, Av, cv) : Nx)).2.2 := Hnd.out.mono fun k (hk : w.heap.size < k ∧ k < w1.heap.size) => ⟨⟨by omega, by rw [writeX_size]; exact hk.2⟩, fun o => World.cell?_of_block (w := w1) (a := ⟨k, o, none⟩) (writeX_other _ _ _ _ (show k ≠ w.heap.size by omega))⟩
        generalize writeX w1 w.heap.size (T.mk 4 0 0 0 0 0 0 l, Av, cv) = W3 at *
        exact bodyPost_ret (v := nodeV (((T.mk 4 0 0 0 0 0 0 l, Av, cv) : Nx)).1 (((T.mk 4 0 0 0 0 0 0 l, Av, cv) : Nx)).2.1 (((T.mk 4 0 0 0 0 0 0 l, Av, cv) : Nx)).2.2) (by simp [results, Tryd.results32, y0, y1, y2, y3, y4, y5, y6, y7, go_sem]) rfl ⟨(T.mk 4 0 0 0 0 0 0 l, Av, cv), kr, _, rfl, hNod, hRS, hOff, by have := Hfin.out; rw [Hj.out] at this; exact this⟩
    · rw [show doneS (.ok (c :: t)) = false from rfl]
      simp only [Rs.rest, List.length_cons] at hnl
      obtain ⟨r, k1, hsr, hk, hpp⟩ : ∃ r k, s = .ok r ∧ (c :: t).length < k + 1 ∧ piecesP grp (r.length + 1) [] r = piecesP grp (k + 1) (ns.map fun x : Nx => x.1) (c :: t) := by
        rcases HC.out with ⟨e', he, _⟩ | ⟨r, r2, k, hs, he, hk, hpp⟩
        · cases he
        · cases he
          obtain ⟨k', rfl⟩ : ∃ k', k = k' + 1 := ⟨k - 1, by omega⟩
          exact ⟨r, k', hs, hk, hpp⟩
      have Hpp := Lib.hid hpp; have Hsr := Lib.hid hsr
      clear hpp hsr HC
      by_cases hc1 : c = 124
      · have Hfin := Lib.hid (show Out (rowP grp) s (fun t => joinT 4 (ns.map fun x : Nx => x.1) = t) (.ok (c :: t)) by
          rw [Hsr.out]
          refine Out.good (x := joinT 4 (ns.map fun x : Nx => x.1)) ?_ rfl
          unfold rowP
          rw [Hpp.out, piecesP, if_pos (by rw [hc1]; rfl)])
        have Hc1 := Lib.hid hc1
        clear hc1 Hm
        go_wp2_with fail
        refine (qis_hit [124] (by simp) (take_head Hc1.out) HL.out.S).mono ?_
        rintro en w2 ⟨rfl, h1, hO1⟩
        have HL := Lib.hid (HL.out.off hlt hO1 h1)
        clear h1 hO1
        have hn3 : n = 0 ∨ n = 1 ∨ 2 ≤ n := by omega
        rcases hn3 with rfl | rfl | hn2
        · have hns : ns = [] := List.eq_nil_of_length_eq_zero HL.out.len
          subst hns
          obtain ⟨⟨r0, r1, r2, r3, r4, r5, r6, r7⟩, hz⟩ := HL.out.R.cells8
          have z0 := hz 0; have z1 := hz 1; have z2 := hz 2; have z3 := hz 3; have z4 := hz 4; have z5 := hz 5; have z6 := hz 6; have z7 := hz 7
          have lr := HL.out.R.lt
          clear hz
          go_wp2_with fail
          change bodyPost _ _ _ _ _ (writeX w2 w.heap.size (T.mk 0 0 0 0 0 0 0 [], none, 0))
          have hfn := writeX_blk HL.out.R (T.mk 0 0 0 0 0 0 0 [], none, 0)
          obtain ⟨⟨y0, y1, y2, y3, y4, y5, y6, y7⟩, _⟩ := hfn.cells8
          have hRS := HL.out.S.boxX (b := w.heap.size) (by omega) (T.mk 0 0 0 0 0 0 0 [], none, 0)
          have hOff := Off.boxW HL.out.O (Nat.le_refl _) (T.mk 0 0 0 0 0 0 0 [], none, 0)
          have hNod : NodeAt (writeX w2 w.heap.size (T.mk 0 0 0 0 0 0 0 [], none, 0)) (fun b => w.heap.size ≤ b ∧ b < (writeX w2 w.heap.size (T.mk 0 0 0 0 0 0 0 [], none, 0)).heap.size) (((T.mk 0 0 0 0 0 0 0 [], none, 0) : Nx)).1 (((T.mk 0 0 0 0 0 0 0 [], none, 0) : Nx)).2.1 (((T.mk 0 0 0 0 0 0 0 [], none, 0) : Nx)).2.2 := nodeAt_leafX _ _ _ rfl
          generalize writeX w2 w.heap.size (T.mk 0 0 0 0 0 0 0 [], none, 0) = W3 at *
          exact bodyPost_ret (v := nodeV (((T.mk 0 0 0 0 0 0 0 [], none, 0) : Nx)).1 (((T.mk 0 0 0 0 0 0 0 [], none, 0) : Nx)).2.1 (((T.mk 0 0 0 0 0 0 0 [], none, 0) : Nx)).2.2) (by simp [results, Tryd.results32, y0, y1, y2, y3, y4, y5, y6, y7, go_sem]) rfl ⟨(T.mk 0 0 0 0 0 0 0 [], none, 0), kr, _, rfl, hNod, hRS, hOff, Hfin.out⟩
        · obtain ⟨g, ⟨t1, A1, c1⟩, rfl, hx, h8, hg, hcv, hnd⟩ := HL.out.first (by omega)
          have hj : joinT 4 (ns.map fun x : Nx => x.1) = t1 := by
            have hl := HL.out.len
            match ns, hl, hx with
            | [y], _, hx => simp at hx; subst hx; rfl
          have Hj := Lib.hid hj; have Hnd := Lib.hid hnd
          obtain ⟨f0, f1, f2, f3, f4, f5, f6, f7⟩ := h8
          simp only [Nat.zero_add] at f1 f2 f3 f4 f5 f6 f7
          clear hj hnd hx
          obtain ⟨⟨r0, r1, r2, r3, r4, r5, r6, r7⟩, hz⟩ := HL.out.R.cells8
          have z0 := hz 0; have z1 := hz 1; have z2 := hz 2; have z3 := hz 3; have z4 := hz 4; have z5 := hz 5; have z6 := hz 6; have z7 := hz 7
          have lr := HL.out.R.lt
          clear hz
          go_wp2_with fail
          change bodyPost _ _ _ _ _ (writeX w2 w.heap.size (t1, A1, c1))
          have hfn := writeX_blk HL.out.R (t1, A1, c1)
          obtain ⟨⟨y0, y1, y2, y3, y4, y5, y6, y7⟩, _⟩ := hfn.cells8
          have hRS := HL.out.S.boxX (b := w.heap.size) (by omega) (t1, A1, c1)
          have hOff := Off.boxW HL.out.O (Nat.le_refl _) (t1, A1, c1)
          have hNod : NodeAt (writeX w2 w.heap.size (t1, A1, c1)) (fun b => w.heap.size ≤ b ∧ b < (writeX w2 w.heap.size (t1, A1, c1)).heap.size) (((t1, A1, c1) : Nx)).1 (((t1, A1, c1) : Nx)).2.1 (((t1, A1, c1) : Nx)).2.2 := Hnd.out.mono fun k (hk : w.heap.size < k ∧ k < w2.heap.size) => ⟨⟨by omega, by rw [writeX_size]; exact hk.2⟩, fun o => World.cell?_of_block (w := w2) (a := ⟨k, o, none⟩) (writeX_other _ _ _ _ (show k ≠ w.heap.size by omega))⟩
          generalize writeX w2 w.heap.size (t1, A1, c1) = W3 at *
          exact bodyPost_ret (v := nodeV (((t1, A1, c1) : Nx)).1 (((t1, A1, c1) : Nx)).2.1 (((t1, A1, c1) : Nx)).2.2) (by simp [results, Tryd.results32, y0, y1, y2, y3, y4, y5, y6, y7, go_sem]) rfl ⟨(t1, A1, c1), kr, _, rfl, hNod, hRS, hOff, by have := Hfin.out; rw [Hj.out] at this; exact this⟩
        · obtain rfl : n = (ns.map fun x : Nx => x.1).length := by simp [HL.out.len]
          have hnd := HL.out.node (by omega) (by omega) (.mk 4 0 0 0 0 0 0 (ns.map fun x : Nx => x.1)) rfl
          have hj : joinT 4 (ns.map fun x : Nx => x.1) = .mk 4 0 0 0 0 0 0 (ns.map fun x : Nx => x.1) := by
            generalize ns.map (fun x : Nx => x.1) = l at hn2
            match l, hn2 with
            | a :: b :: l, _ => rfl
          have hb0 : (((ns.map fun x : Nx => x.1).length : Int) == 0) = false := by rw [beq_eq_false_iff_ne]; omega
          have hb1 : (((ns.map fun x : Nx => x.1).length : Int) == 1) = false := by rw [beq_eq_false_iff_ne]; omega
          have Hj := Lib.hid hj; have Hnd := Lib.hid hnd
          clear hj hnd
          generalize hl : (ns.map fun x : Nx => x.1) = l at *
          obtain ⟨⟨r0, r1, r2, r3, r4, r5, r6, r7⟩, hz⟩ := HL.out.R.cells8
          have z0 := hz 0; have z1 := hz 1; have z2 := hz 2; have z3 := hz 3; have z4 := hz 4; have z5 := hz 5; have z6 := hz 6; have z7 := hz 7
          have lr := HL.out.R.lt
          clear hz
          go_wp2_with fail
          change bodyPost _ _ _ _ _ (writeX w2 w.heap.size (T.mk 4 0 0 0 0 0 0 l, Av, cv))
          have hfn := writeX_blk HL.out.R (T.mk 4 0 0 0 0 0 0 l, Av, cv)
          obtain ⟨⟨y0, y1, y2, y3, y4, y5, y6, y7⟩, _⟩ := hfn.cells8
          have hRS := HL.out.S.boxX (b := w.heap.size) (by omega) (T.mk 4 0 0 0 0 0 0 l, Av, cv)
          have hOff := Off.boxW HL.out.O (Nat.le_refl _) (T.mk 4 0 0 0 0 0 0 l, Av, cv)
          have hNod : NodeAt (writeX w2 w.heap.size (T.mk 4 0 0 0 0 0 0 l, Av, cv)) (fun b => w.heap.size ≤ b ∧ b < (writeX w2 w.heap.size (T.mk 4 0 0 0 0 0 0 l, Av, cv)).heap.size) (((T.mk 4 0 0 0 0 0 0 l, Av, cv) : Nx)).1 (((T.mk 4 0 0 0 0 0 0 l, Av, cv) : Nx)).2.1 (((T.mk 4 0 0 0 0 0 0 l, Av, cv) : Nx)).2.2 := Hnd.out.mono fun k (hk : w.heap.size < k ∧ k < w2.heap.size) => ⟨⟨by omega, by rw [writeX_size]; exact hk.2⟩, fun o => World.cell?_of_block (w := w2) (a := ⟨k, o, none⟩) (writeX_other _ _ _ _ (show k ≠ w.heap.size by omega))⟩
          generalize writeX w2 w.heap.size (T.mk 4 0 0 0 0 0 0 l, Av, cv) = W3 at *
          exact bodyPost_ret (v := nodeV (((T.mk 4 0 0 0 0 0 0 l, Av, cv) : Nx)).1 (((T.mk 4 0 0 0 0 0 0 l, Av, cv) : Nx)).2.1 (((T.mk 4 0 0 0 0 0 0 l, Av, cv) : Nx)).2.2) (by simp [results, Tryd.results32, y0, y1, y2, y3, y4, y5, y6, y7, go_sem]) rfl ⟨(T.mk 4 0 0 0 0 0 0 l, Av, cv), kr, _, rfl, hNod, hRS, hOff, by have := Hfin.out; rw [Hj.out] at this; exact this⟩
      · by_cases hc2 : c = 41
        · have Hfin := Lib.hid (show Out (rowP grp) s (fun t => joinT 4 (ns.map fun x : Nx => x.1) = t) (.ok (c :: t)) by
            rw [Hsr.out]
            refine Out.good (x := joinT 4 (ns.map fun x : Nx => x.1)) ?_ rfl
            unfold rowP
            rw [Hpp.out, piecesP, if_pos (by rw [hc2]; rfl)])
          have Hc1 := Lib.hid hc1
          have Hc2 := Lib.hid hc2
          clear hc1 hc2 Hm
          go_wp2_with fail
          refine (qis_miss [124] (by simp) (take_no Hc1.out) HL.out.S).mono ?_
          rintro en w2 ⟨rfl, h1, hO1⟩
          have HL := Lib.hid (HL.out.off hlt hO1 h1)
          clear h1 hO1
          go_wp2_with fail
          refine (qis_hit [41] (by simp) (take_head Hc2.out) HL.out.S).mono ?_
          rintro en w3 ⟨rfl, h1, hO1⟩
          have HL := Lib.hid (HL.out.off hlt hO1 h1)
          clear h1 hO1
          have hn3 : n = 0 ∨ n = 1 ∨ 2 ≤ n := by omega
          rcases hn3 with rfl | rfl | hn2
          · have hns : ns = [] := List.eq_nil_of_length_eq_zero HL.out.len
            subst hns
            obtain ⟨⟨r0, r1, r2, r3, r4, r5, r6, r7⟩, hz⟩ := HL.out.R.cells8
            have z0 := hz 0; have z1 := hz 1; have z2 := hz 2; have z3 := hz 3; have z4 := hz 4; have z5 := hz 5; have z6 := hz 6; have z7 := hz 7
            have lr := HL.out.R.lt
            clear hz
            go_wp2_with fail
            change bodyPost _ _ _ _ _ (writeX w3 w.heap.size (T.mk 0 0 0 0 0 0 0 [], none, 0))
            have hfn := writeX_blk HL.out.R (T.mk 0 0 0 0 0 0 0 [], none, 0)
            obtain ⟨⟨y0, y1, y2, y3, y4, y5, y6, y7⟩, _⟩ := hfn.cells8
            have hRS := HL.out.S.boxX (b := w.heap.size) (by omega) (T.mk 0 0 0 0 0 0 0 [], none, 0)
            have hOff := Off.boxW HL.out.O (Nat.le_refl _) (T.mk 0 0 0 0 0 0 0 [], none, 0)
            have hNod : NodeAt (writeX w3 w.heap.size (T.mk 0 0 0 0 0 0 0 [], none, 0)) (fun b => w.heap.size ≤ b ∧ b < (writeX w3 w.heap.size (T.mk 0 0 0 0 0 0 0 [], none, 0)).heap.size) (((T.mk 0 0 0 0 0 0 0 [], none, 0) : Nx)).1 (((T.mk 0 0 0 0 0 0 0 [], none, 0) : Nx)).2.1 (((T.mk 0 0 0 0 0 0 0 [], none, 0) : Nx)).2.2 := nodeAt_leafX _ _ _ rfl
            generalize writeX w3 w.heap.size (T.mk 0 0 0 0 0 0 0 [], none, 0) = W3 at *
            exact bodyPost_ret (v := nodeV (((T.mk 0 0 0 0 0 0 0 [], none, 0) : Nx)).1 (((T.mk 0 0 0 0 0 0 0 [], none, 0) : Nx)).2.1 (((T.mk 0 0 0 0 0 0 0 [], none, 0) : Nx)).2.2) (by simp [results, Tryd.results32, y0, y1, y2, y3, y4, y5, y6, y7, go_sem]) rfl ⟨(T.mk 0 0 0 0 0 0 0 [], none, 0), kr, _, rfl, hNod, hRS, hOff, Hfin.out⟩
          · obtain ⟨g, ⟨t1, A1, c1⟩, rfl, hx, h8, hg, hcv, hnd⟩ := HL.out.first (by omega)
            have hj : joinT 4 (ns.map fun x : Nx => x.1) = t1 := by
              have hl := HL.out.len
              match ns, hl, hx with
              | [y], _, hx => simp at hx; subst hx; rfl
            have Hj := Lib.hid hj; have Hnd := Lib.hid hnd
            obtain ⟨f0, f1, f2, f3, f4, f5, f6, f7⟩ := h8
            simp only [Nat.zero_add] at f1 f2 f3 f4 f5 f6 f7
            clear hj hnd hx
            obtain ⟨⟨r0, r1, r2, r3, r4, r5, r6, r7⟩, hz⟩ := HL.out.R.cells8
            have z0 := hz 0; have z1 := hz 1; have z2 := hz 2; have z3 := hz 3; have z4 := hz 4; have z5 := hz 5; have z6 := hz 6; have z7 := hz 7
            have lr := HL.out.R.lt
            clear hz
            go_wp2_with fail
            change bodyPost _ _ _ _ _ (writeX w3 w.heap.size (t1, A1, c1))
            have hfn := writeX_blk HL.out.R (t1, A1, c1)
            obtain ⟨⟨y0, y1, y2, y3, y4, y5, y6, y7⟩, _⟩ := hfn.cells8
            have hRS := HL.out.S.boxX (b := w.heap.size) (by omega) (t1, A1, c1)
            have hOff := Off.boxW HL.out.O (Nat.le_refl _) (t1, A1, c1)
            have hNod : NodeAt (writeX w3 w.heap.size (t1, A1, c1)) (fun b => w.heap.size ≤ b ∧ b < (writeX w3 w.heap.size (t1, A1, c1)).heap.size) (((t1, A1, c1) : Nx)).1 (((t1, A1, c1) : Nx)).2.1 (((t1, A1, c1) : Nx)).2.2 := Hnd.out.mono fun k (hk : w.heap.size < k ∧ k < w3.heap.size) => ⟨⟨by omega, by rw [writeX_size]; exact hk.2⟩, fun o => World.cell?_of_block (w := w3) (a := ⟨k, o, none⟩) (writeX_other _ _ _ _ (show k ≠ w.heap.size by omega))⟩
            generalize writeX w3 w.heap.size (t1, A1, c1) = W3 at *
            exact bodyPost_ret (v := nodeV (((t1, A1, c1) : Nx)).1 (((t1, A1, c1) : Nx)).2.1 (((t1, A1, c1) : Nx)).2.2) (by simp [results, Tryd.results32, y0, y1, y2, y3, y4, y5, y6, y7, go_sem]) rfl ⟨(t1, A1, c1), kr, _, rfl, hNod, hRS, hOff, by have := Hfin.out; rw [Hj.out] at this; exact this⟩
          · obtain rfl : n = (ns.map fun x : Nx => x.1).length := by simp [HL.out.len]
            have hnd := HL.out.node (by omega) (by omega) (.mk 4 0 0 0 0 0 0 (ns.map fun x : Nx => x.1)) rfl
            have hj : joinT 4 (ns.map fun x : Nx => x.1) = .mk 4 0 0 0 0 0 0 (ns.map fun x : Nx => x.1) := by
              generalize ns.map (fun x : Nx => x.1) = l at hn2
              match l, hn2 with
              | a :: b :: l, _ => rfl
            have hb0 : (((ns.map fun x : Nx => x.1).length : Int) == 0) = false := by rw [beq_eq_false_iff_ne]; omega
            have hb1 : (((ns.map fun x : Nx => x.1).length : Int) == 1) = false := by rw [beq_eq_false_iff_ne]; omega
            have Hj := Lib.hid hj; have Hnd := Lib.hid hnd
            clear hj hnd
            generalize hl : (ns.map fun x : Nx => x.1) = l at *
            obtain ⟨⟨r0, r1, r2, r3, r4, r5, r6, r7⟩, hz⟩ := HL.out.R.cells8
            have z0 := hz 0; have z1 := hz 1; have z2 := hz 2; have z3 := hz 3; have z4 := hz 4; have z5 := hz 5; have z6 := hz 6; have z7 := hz 7
            have lr := HL.out.R.lt
            clear hz
            go_wp2_with fail
            change bodyPost _ _ _ _ _ (writeX w3 w.heap.size (T.mk 4 0 0 0 0 0 0 l, Av, cv))
            have hfn := writeX_blk HL.out.R (T.mk 4 0 0 0 0 0 0 l, Av, cv)
            obtain ⟨⟨y0, y1, y2, y3, y4, y5, y6, y7⟩, _⟩ := hfn.cells8
            have hRS := HL.out.S.boxX (b := w.heap.size) (by omega) (T.mk 4 0 0 0 0 0 0 l, Av, cv)
            have hOff := Off.boxW HL.out.O (Nat.le_refl _) (T.mk 4 0 0 0 0 0 0 l, Av, cv)
            have hNod : NodeAt (writeX w3 w.heap.size (T.mk 4 0 0 0 0 0 0 l, Av, cv)) (fun b => w.heap.size ≤ b ∧ b < (writeX w3 w.heap.size (T.mk 4 0 0 0 0 0 0 l, Av, cv)).heap.size) (((T.mk 4 0 0 0 0 0 0 l, Av, cv) : Nx)).1 (((T.mk 4 0 0 0 0 0 0 l, Av, cv) : Nx)).2.1 (((T.mk 4 0 0 0 0 0 0 l, Av, cv) : Nx)).2.2 := Hnd.out.mono fun k (hk : w.heap.size < k ∧ k < w3.heap.size) => ⟨⟨by omega, by rw [writeX_size]; exact hk.2⟩, fun o => World.cell?_of_block (w := w3) (a := ⟨k, o, none⟩) (writeX_other _ _ _ _ (show k ≠ w.heap.size by omega))⟩
            generalize writeX w3 w.heap.size (T.mk 4 0 0 0 0 0 0 l, Av, cv) = W3 at *
            exact bodyPost_ret (v := nodeV (((T.mk 4 0 0 0 0 0 0 l, Av, cv) : Nx)).1 (((T.mk 4 0 0 0 0 0 0 l, Av, cv) : Nx)).2.1 (((T.mk 4 0 0 0 0 0 0 l, Av, cv) : Nx)).2.2) (by simp [results, Tryd.results32, y0, y1, y2, y3, y4, y5, y6, y7, go_sem]) rfl ⟨(T.mk 4 0 0 0 0 0 0 l, Av, cv), kr, _, rfl, hNod, hRS, hOff, by have := Hfin.out; rw [Hj.out] at this; exact this⟩
        · have hres : piecesP grp (k1 + 1) (ns.map fun x : Nx => x.1) (c :: t) = match pieceP grp (c :: t) with | .error e => .error e | .ok (n, r1) => piecesP grp k1 ((ns.map fun x : Nx => x.1) ++ [n]) r1 := by
            rw [piecesP, ends_false hc1 hc2]; rfl
          have Hres := Lib.hid hres
          have Hc1 := Lib.hid hc1
          have Hc2 := Lib.hid hc2
          clear hc1 hc2 hres
          go_wp2_with fail
          refine (qis_miss [124] (by simp) (take_no Hc1.out) HL.out.S).mono ?_
          rintro en w2 ⟨rfl, h1, hO1⟩
          have HL := Lib.hid (HL.out.off hlt hO1 h1)
          clear h1 hO1
          go_wp2_with fail
          refine (qis_miss [41] (by simp) (take_no Hc2.out) HL.out.S).mono ?_
          rintro en w3 ⟨rfl, h1, hO1⟩
          have HL := Lib.hid (HL.out.off hlt hO1 h1)
          clear h1 hO1 Hc1 Hc2
          have hrow : ∀ g, (Value.slice Av n cv).ownBlock = some g → g < w3.heap.size := fun g hg => (HL.out.own.lt g hg).2
          have hw3 : w.heap.size < w3.heap.size := HL.out.R.lt
          go_wp2_with fail
          refine (HP.out ⟨r, Hsr.out⟩ w3 kr c t HL.out.S).mono ?_
          rintro en w4 ⟨⟨t4, A4, c4⟩, k4, s4, rfl, hx4, h4, hO4, ho4⟩
          have HL := Lib.hid (HL.out.off hlt hO4 h4)
          have hz4 := hO4.size
          have Hx4 := Lib.hid hx4; have Ho4 := Lib.hid ho4
          clear h4 hO4 hx4 ho4
          go_upto_region 4 with fail
          generalize hW : w4.alloc _ = W5
          have hb5 : Below w4.heap.size w4 W5 := by subst hW; exact (Below.refl _ _).alloc (Nat.le_refl _) _
          have N5 : BlkX W5 w4.heap.size (xcell (t4, A4, c4)).toArray := by subst hW; exact BlkX.new w4 _
          clear hW
          have HL := Lib.hid (HL.out.off hlt (Off.of_below hb5) (HL.out.S.later hb5))
          have HX := Lib.hid (show NodeAt W5 (fun b => w.heap.size < b ∧ b < W5.heap.size ∧ b ≠ w.heap.size ∧ some b ≠ (Value.slice Av n cv).ownBlock) t4 A4 c4 from Hx4.out.mono fun b (hb : w3.heap.size ≤ b ∧ b < w4.heap.size) => ⟨⟨by omega, by have := hb5.size; omega, by omega, fun e => by have := hrow b e.symm; omega⟩, fun o => hb5.cell (p := ⟨b, o, none⟩) hb.2⟩)
          obtain ⟨⟨f0, f1, f2, f3, f4, f5, f6, f7⟩, _⟩ := N5.cells8
          have ln5 := N5.lt
          generalize w4.heap.size = b4 at *
          obtain ⟨bx, hbx⟩ : ∃ bx, bx = w.heap.size := ⟨_, rfl⟩
          have HL := Lib.hid (show LstQ p St op w bx n ns Av cv k4 s4 W5 by rw [hbx]; exact HL.out)
          have HX := Lib.hid (show NodeAt W5 (fun b => w.heap.size < b ∧ b < W5.heap.size ∧ b ≠ bx ∧ some b ≠ (Value.slice Av n cv).ownBlock) t4 A4 c4 by rw [hbx]; exact HX.out)
          have Hbx := Lib.hid hbx
          clear hb5 Hx4 N5 hrow hbx
          have hnews : ∀ ad, some (⟨W5.heap.size, 0, none⟩ : Addr) = some ad → ∀ j u, (xcell (t4, A4, c4))[j]? = some u → (W5.alloc (.cells (xcell (t4, A4, c4)).toArray 27)).cell? (ad.add j) = some u := fun ad e j u hu => by
            simp only [Option.some.injEq] at e
            subst e
            rw [addr_addX, World.cell?_alloc_new, Nat.zero_add]
            simpa using hu
          have Hnews := Lib.hid hnews; clear hnews
          have hWb : bx + 1 ≤ W5.heap.size := HL.out.b2
          go_wp2_with (at_builtin; refine wpList_append_fromX (bx + 1) rfl _ _ 25 27 _ 8 80 rfl Tryd.underlying25 Tryd.infoNodeX rfl (by omega) (by omega) (.slice Av n cv) n 1 (xcells ns) (xcell (t4, A4, c4)) (some ⟨W5.heap.size, 0, none⟩) 1 rfl rfl (by simp) rfl Hnews.out (xcell_one _) (HL.out.own.alloc _) (by simp; omega) (by omega) (fun A5 c5 w5 ho5 hg5 hat5 => ?_); have HL5 := Lib.hid (HL.out.push hlt (t4, A4, c4) HX.out ((Below.refl _ _).alloc (Nat.le_refl _) _) ho5 hg5 hat5); clear ho5 hg5 hat5)
          have hcs : s4.rest.length ≤ t.length ∧ ((∃ e, s4 = .error e ∧ (s = .error e ∨ ∃ r, s = .ok r ∧ rowP grp r = .error e)) ∨ ∃ r r' k, s = .ok r ∧ s4 = .ok r' ∧ r'.length < k ∧ piecesP grp (r.length + 1) [] r = piecesP grp k ((ns ++ [(t4, A4, c4)]).map fun x : Nx => x.1) r') := by
            have hoo := Ho4.out
            cases hpc : pieceP grp (c :: t) with
            | error e =>
              simp only [Out, hpc] at hoo
              subst hoo
              exact ⟨by simp [Rs.rest], .inl ⟨e, rfl, .inr ⟨r, Hsr.out, by unfold rowP; rw [Hpp.out, Hres.out, hpc]⟩⟩⟩
            | ok y =>
              obtain ⟨n', r'⟩ := y
              simp only [Out, hpc] at hoo
              obtain ⟨rfl, rfl⟩ := hoo
              have hl := piece_len HGl.out hpc
              simp only [List.length_cons] at hl hk
              exact ⟨by simp only [Rs.rest]; omega, .inr ⟨r, r', k1, Hsr.out, rfl, by omega, by rw [Hpp.out, Hres.out, hpc]; simp⟩⟩
          obtain ⟨hl1, hcs⟩ := hcs
          have HCS := Lib.hid hcs; clear hcs
          go_roundg (s4.rest.length + 1)
          case measure => have := Hm.out; simp only [Rs.rest, List.length_cons] at this; omega
          case rel => exact ⟨n + 1, _, A5, c5, k4, s4, rfl, rfl, by omega, by have := HL5.out; rw [Hbx.out] at this; exact this, HCS.out⟩
end Go.Proofs.YteekafkpeimhoaaDoor

/- vouchref10's Reader: pattern: walked. -/
set_option linter.unusedVariables false
set_option linter.unusedSimpArgs false
namespace Go.Proofs.YteekafkpeimhoaaDoor
open Go.RowKit

/-- Where the loop of pattern stands. -/
def PatL (p : Nat) (St : Bs) (op : Int) (grp : Bs → PT) (s : Rs) (w : World) (bx : Nat) (v : Value) (wr : World) (m : Nat) : Prop :=
  ∃ (n : Nat) (ns : List Nx) (Av : Option Addr) (cv : Nat) (k : Nat) (s' : Rs) (y : Nx), v = .slice Av n cv ∧ 1 ≤ n ∧ m = s'.rest.length + 1 ∧ n + s'.rest.length ≤ 1025 ∧ LstQ p St op w bx n ns Av cv k s' wr ∧ BlkX wr bx (xcell y).toArray ∧ ((∃ e, s' = .error e ∧ (s = .error e ∨ ∃ r, s = .ok r ∧ choiceP grp r = .error e)) ∨ ∃ r r' k, s = .ok r ∧ s' = .ok r' ∧ r'.length < k ∧ choiceP grp r = match altsP grp k (ns.map fun x : Nx => x.1) r' with | .error e => .error e | .ok (l, r2) => .ok (joinT 5 l, r2))
theorem LstQ.boxOff {p : Nat} {St : Bs} {op : Int} {w : World} {bx n : Nat} {ns : List Nx} {Av : Option Addr} {cv k : Nat} {s : Rs} {wr w1 : World} (h : LstQ p St op w bx n ns Av cv k s wr) (hp : p < w.heap.size) {cs : Array Value} (hb : BlkX wr bx cs) (hO : Off p wr w1) : BlkX w1 bx cs := Off.blk hO hb (by have := h.b1; omega)
theorem LstQ.boxPush {p : Nat} {St : Bs} {op : Int} {w : World} {bx n : Nat} {ns : List Nx} {Av : Option Addr} {cv k : Nat} {s : Rs} {W w0 w2 : World} (h : LstQ p St op w bx n ns Av cv k s W) {cs : Array Value} (hb : BlkX W bx cs) (h0 : Below W.heap.size W w0) (h2 : w0.grownBy w2 (Value.slice Av n cv).ownBlock) : BlkX w2 bx cs := by
  refine hb.keep ((h2.block bx (Nat.lt_of_lt_of_le h.b2 h0.size) ?_).trans (h0.block bx h.b2))
  intro e
  have := (h.own.lt bx e.symm).1
  omega
set_option maxRecDepth 100000 in
set_option maxHeartbeats 8000000 in
theorem qpat_any (w : World) (p : Nat) (St : Bs) (k : Nat) (op : Int) (s : Rs) (h : RQ w p St k op s) (grp : Bs → PT) (hgl : GrpLen grp)
    (hG : (∃ r, s = .ok r) → ∀ (w : World) (k : Nat) (r : Bs), RQ w p St k op (.ok r) → Calls Tryd.prog 74 #[.pointer (some ⟨p, 0, none⟩)] w fun en w' => QNode p St op grp (.ok r) w en w') :
    Calls Tryd.prog 19 #[.pointer (some ⟨p, 0, none⟩)] w fun en w' => QNode p St op (choiceP grp) s w en w' := by
  have hlt := h.lt
  have hs := h.rest
  have HP := Lib.hid (fun (w : World) (k : Nat) (s' : Rs) (h : RQ w p St k op s') (hs' : (∃ r, s' = .ok r) → ∃ r, s = .ok r) => qalt_any w p St k op s' h grp hgl (fun x => hG (hs' x)))
  have H := Lib.hid h; have HGl := Lib.hid hgl
  clear h hG hgl
  go_enter Tryd.func19, Tryd.ntmps19
  go_upto_region 1 with fail
  generalize hW : w.alloc _ = W0
  have hB0 : Below w.heap.size w W0 := by subst hW; exact (Below.refl _ _).alloc (Nat.le_refl _) _
  have R0 : BlkX W0 w.heap.size (xcell (.mk 0 0 0 0 0 0 0 [], none, 0)).toArray := by subst hW; exact BlkX.new w _
  have hz0 : w.heap.size < W0.heap.size := R0.lt
  clear hW
  go_wp2_with fail
  refine (HP.out W0 k s (H.out.later hB0) (fun x => x)).mono ?_
  rintro en w1 ⟨⟨t1, A1, c1⟩, k1, s1, rfl, hx1, h1, hO1, ho1⟩
  have R1 := Off.blk hO1 R0 (by omega)
  have hz1 := hO1.size
  have Hx1 := Lib.hid hx1; have Ho1 := Lib.hid ho1
  clear hx1 ho1
  go_upto_region 3 with fail
  generalize hW : w1.alloc _ = W2
  have hb2 : Below w1.heap.size w1 W2 := by subst hW; exact (Below.refl _ _).alloc (Nat.le_refl _) _
  have N2 : BlkX W2 w1.heap.size (xcell (t1, A1, c1)).toArray := by subst hW; exact BlkX.new w1 _
  have hz2 : w1.heap.size < W2.heap.size := N2.lt
  have HL := Lib.hid (show LstQ p St op w w1.heap.size 0 [] none 0 k1 s1 W2 from ⟨rfl, R1.keep (hb2.block _ R1.lt), by omega, hz2, ⟨rfl, .inl ⟨rfl, rfl⟩⟩, fun x hx => by simp at hx, h1.later hb2, ((Off.of_below hB0).trans hO1).trans (Off.of_below hb2)⟩)
  have HX := Lib.hid (show NodeAt W2 (fun b => w.heap.size < b ∧ b < W2.heap.size ∧ b ≠ w1.heap.size ∧ some b ≠ (Value.slice none 0 0).ownBlock) t1 A1 c1 from Hx1.out.mono fun b (hb : W0.heap.size ≤ b ∧ b < w1.heap.size) => ⟨⟨by omega, by omega, by omega, by simp [Value.ownBlock]⟩, fun o => hb2.cell (p := ⟨b, o, none⟩) hb.2⟩)
  have hwb : w.heap.size < w1.heap.size := by omega
  obtain ⟨⟨f0, f1, f2, f3, f4, f5, f6, f7⟩, _⟩ := N2.cells8
  have HN := Lib.hid N2
  generalize w1.heap.size = bx at *
  have ln2 : bx < W2.heap.size := hz2
  clear hW hb2 N2 R1 R0 hB0 h1 hO1 hz1 hz0 hz2 Hx1 H
  obtain ⟨v0, hv0⟩ : ∃ v0 : Value, v0 = .slice none 0 0 := ⟨_, rfl⟩
  rw [← hv0]
  have Hv0 := Lib.hid hv0
  clear hv0
  have hnews : ∀ ad, some (⟨W2.heap.size, 0, none⟩ : Addr) = some ad → ∀ j u, (xcell (t1, A1, c1))[j]? = some u → (W2.alloc (.cells (xcell (t1, A1, c1)).toArray 27)).cell? (ad.add j) = some u := fun ad e j u hu => by
    simp only [Option.some.injEq] at e
    subst e
    rw [addr_addX, World.cell?_alloc_new, Nat.zero_add]
    simpa using hu
  have Hnews := Lib.hid hnews; clear hnews
  have hWb : bx + 1 ≤ W2.heap.size := HL.out.b2
  go_wp2_with (at_builtin; refine wpList_append_fromX (bx + 1) rfl _ _ 25 27 _ 8 80 rfl Tryd.underlying25 Tryd.infoNodeX rfl (by omega) (by omega) v0 0 1 [] (xcell (t1, A1, c1)) (some ⟨W2.heap.size, 0, none⟩) 1 rfl rfl (by simp) rfl Hnews.out (xcell_one _) ⟨rfl, .inl ⟨Hv0.out, rfl⟩⟩ (by simp; omega) (by omega) (fun A5 c5 w5 ho5 hg5 hat5 => ?_); have HL5 := Lib.hid (HL.out.push hlt (t1, A1, c1) HX.out ((Below.refl _ _).alloc (Nat.le_refl _) _) (by simpa [xcells] using ho5) (by rw [Hv0.out] at hg5; exact hg5) (by rw [Hv0.out] at hat5; exact hat5)); have HN5 := Lib.hid (HL.out.boxPush HN.out ((Below.refl _ _).alloc (Nat.le_refl _) _) (by rw [Hv0.out] at hg5; exact hg5)); clear ho5 hg5 hat5)
  have hI : PatL p St op grp s w bx (.slice A5 1 c5) w5 (s1.rest.length + 1) := by
    have hoo := Ho1.out
    have hl1 : s1.rest.length ≤ 1024 ∧ ((∃ e, s1 = .error e ∧ (s = .error e ∨ ∃ r, s = .ok r ∧ choiceP grp r = .error e)) ∨ ∃ r r' k, s = .ok r ∧ s1 = .ok r' ∧ r'.length < k ∧ choiceP grp r = match altsP grp k ([(t1, A1, c1)].map fun x : Nx => x.1) r' with | .error e => .error e | .ok (l, r2) => .ok (joinT 5 l, r2)) := by
      rcases s with e | r
      · cases (show s1 = .error e from hoo)
        exact ⟨by simp [Rs.rest], .inl ⟨e, rfl, .inl rfl⟩⟩
      · cases hr : rowP grp r with
        | error e =>
          simp only [Out, hr] at hoo
          subst hoo
          exact ⟨by simp [Rs.rest], .inl ⟨e, rfl, .inr ⟨r, rfl, by unfold choiceP; rw [hr]⟩⟩⟩
        | ok y =>
          obtain ⟨n', r'⟩ := y
          simp only [Out, hr] at hoo
          obtain ⟨rfl, rfl⟩ := hoo
          have hl := row_len HGl.out hr
          simp only [Rs.rest] at hs ⊢
          exact ⟨by omega, .inr ⟨r, r', r'.length + 1, rfl, rfl, by omega, by unfold choiceP; rw [hr]; rfl⟩⟩
    exact ⟨1, [(t1, A1, c1)], A5, c5, k1, s1, (t1, A1, c1), rfl, by omega, rfl, by have := hl1.1; omega, HL5.out, HN5.out, hl1.2⟩
  have HI := Lib.hid hI
  clear hI HL HX HN HL5 HN5 Ho1 Hv0 hWb ln2 f0 f1 f2 f3 f4 f5 f6 f7
  try rw [Nat.zero_add]
  go_loopg [3] (s1.rest.length + 1) (fun m v wr => PatL p St op grp s w bx v wr m)
  case atStart => exact HI.out
  case round =>
    clear HI
    obtain ⟨n, ns, Av, cv, kr, s', y, rfl, hn1, hm, hnl, hL, hN, hcase⟩ := hrel
    have HL := Lib.hid hL; have HN := Lib.hid hN; have HC := Lib.hid hcase; have Hm := Lib.hid hm
    clear hL hcase hm hN
    rcases s' with e | r'
    · have Hfin := Lib.hid (show Out (choiceP grp) s (fun t => joinT 5 (ns.map fun x : Nx => x.1) = t) (.error e) by
        rcases HC.out with ⟨e', he, hs⟩ | ⟨r, r', k, _, he, _⟩
        · cases he
          rcases hs with rfl | ⟨r, rfl, hr⟩
          · exact Out.err
          · exact Out.bad hr
        · cases he)
      clear HC Hm
      go_wp2_with fail
      refine (qtake_err [124] (by simp) HL.out.S).mono ?_
      rintro en W6 ⟨rfl, ⟨k6, h2⟩, hO2⟩
      have HL := Lib.hid (HL.out.off hlt hO2 h2)
      clear h2 hO2
      have hn3 : n = 1 ∨ 2 ≤ n := by omega
      rcases hn3 with rfl | hn2
      · obtain ⟨g, ⟨t1, A1, c1⟩, rfl, hx, h8, hg, hcv, hnd⟩ := HL.out.first (by omega)
        have hj : joinT 5 (ns.map fun x : Nx => x.1) = t1 := by
          have hl := HL.out.len
          match ns, hl, hx with
          | [y], _, hx => simp at hx; subst hx; rfl
        have Hj := Lib.hid hj; have Hnd := Lib.hid hnd
        obtain ⟨f0, f1, f2, f3, f4, f5, f6, f7⟩ := h8
        simp only [Nat.zero_add] at f1 f2 f3 f4 f5 f6 f7
        clear hj hnd hx
        obtain ⟨⟨r0, r1, r2, r3, r4, r5, r6, r7⟩, hz⟩ := HL.out.R.cells8
        have z0 := hz 0; have z1 := hz 1; have z2 := hz 2; have z3 := hz 3; have z4 := hz 4; have z5 := hz 5; have z6 := hz 6; have z7 := hz 7
        have lr := HL.out.R.lt
        clear hz
        go_wp2_with fail
        change bodyPost _ _ _ _ _ (writeX W6 w.heap.size (t1, A1, c1))
        have hfn := writeX_blk HL.out.R (t1, A1, c1)
        obtain ⟨⟨y0, y1, y2, y3, y4, y5, y6, y7⟩, _⟩ := hfn.cells8
        have hRS := HL.out.S.boxX (b := w.heap.size) (by omega) (t1, A1, c1)
        have hOff := Off.boxW HL.out.O (Nat.le_refl _) (t1, A1, c1)
        have hNod : NodeAt (writeX W6 w.heap.size (t1, A1, c1)) (fun b => w.heap.size ≤ b ∧ b < (writeX W6 w.heap.size (t1, A1, c1)).heap.size) (((t1, A1, c1) : Nx)).1 (((t1, A1, c1) : Nx)).2.1 (((t1, A1, c1) : Nx)).2.2 := Hnd.out.mono fun k (hk : w.heap.size < k ∧ k < W6.heap.size) => ⟨⟨by omega, by rw [writeX_size]; exact hk.2⟩, fun o => World.cell?_of_block (w := W6) (a := ⟨k, o, none⟩) (writeX_other _ _ _ _ (show k ≠ w.heap.size by omega))⟩
        generalize writeX W6 w.heap.size (t1, A1, c1) = W3 at *
        exact bodyPost_ret (v := nodeV (((t1, A1, c1) : Nx)).1 (((t1, A1, c1) : Nx)).2.1 (((t1, A1, c1) : Nx)).2.2) (by simp [results, Tryd.results19, y0, y1, y2, y3, y4, y5, y6, y7, go_sem]) rfl ⟨(t1, A1, c1), k6, _, rfl, hNod, hRS, hOff, by have := Hfin.out; rw [Hj.out] at this; exact this⟩
      · obtain rfl : n = (ns.map fun x : Nx => x.1).length := by simp [HL.out.len]
        have hnd := HL.out.node (by omega) (by omega) (.mk 5 0 0 0 0 0 0 (ns.map fun x : Nx => x.1)) rfl
        have hj : joinT 5 (ns.map fun x : Nx => x.1) = .mk 5 0 0 0 0 0 0 (ns.map fun x : Nx => x.1) := by
          generalize ns.map (fun x : Nx => x.1) = l at hn2
          match l, hn2 with
          | a :: b :: l, _ => rfl
        have hb0 : (((ns.map fun x : Nx => x.1).length : Int) == 0) = false := by rw [beq_eq_false_iff_ne]; omega
        have hb1 : (((ns.map fun x : Nx => x.1).length : Int) == 1) = false := by rw [beq_eq_false_iff_ne]; omega
        have Hj := Lib.hid hj; have Hnd := Lib.hid hnd
        clear hj hnd
        generalize hl : (ns.map fun x : Nx => x.1) = l at *
        obtain ⟨⟨r0, r1, r2, r3, r4, r5, r6, r7⟩, hz⟩ := HL.out.R.cells8
        have z0 := hz 0; have z1 := hz 1; have z2 := hz 2; have z3 := hz 3; have z4 := hz 4; have z5 := hz 5; have z6 := hz 6; have z7 := hz 7
        have lr := HL.out.R.lt
        clear hz
        go_wp2_with fail
        change bodyPost _ _ _ _ _ (writeX W6 w.heap.size (T.mk 5 0 0 0 0 0 0 l, Av, cv))
        have hfn := writeX_blk HL.out.R (T.mk 5 0 0 0 0 0 0 l, Av, cv)
        obtain ⟨⟨y0, y1, y2, y3, y4, y5, y6, y7⟩, _⟩ := hfn.cells8
        have hRS := HL.out.S.boxX (b := w.heap.size) (by omega) (T.mk 5 0 0 0 0 0 0 l, Av, cv)
        have hOff := Off.boxW HL.out.O (Nat.le_refl _) (T.mk 5 0 0 0 0 0 0 l, Av, cv)
        have hNod : NodeAt (writeX W6 w.heap.size (T.mk 5 0 0 0 0 0 0 l, Av, cv)) (fun b => w.heap.size ≤ b ∧ b < (writeX W6 w.heap.size (T.mk 5 0 0 0 0 0 0 l, Av, cv)).heap.size) (((T.mk 5 0 0 0 0 0 0 l, Av, cv) : Nx)).1 (((T.mk 5 0 0 0 0 0 0 l, Av, cv) : Nx)).2.1 (((T.mk 5 0 0 0 0 0 0 l, Av, cv) : Nx)).2.2 := Hnd.out.mono fun k (hk : w.heap.size < k ∧ k < W6.heap.size) => ⟨⟨by omega, by rw [writeX_size]; exact hk.2⟩, fun o => World.cell?_of_block (w := W6) (a := ⟨k, o, none⟩) (writeX_other _ _ _ _ (show k ≠ w.heap.size by omega))⟩
        generalize writeX W6 w.heap.size (T.mk 5 0 0 0 0 0 0 l, Av, cv) = W3 at *
        exact bodyPost_ret (v := nodeV (((T.mk 5 0 0 0 0 0 0 l, Av, cv) : Nx)).1 (((T.mk 5 0 0 0 0 0 0 l, Av, cv) : Nx)).2.1 (((T.mk 5 0 0 0 0 0 0 l, Av, cv) : Nx)).2.2) (by simp [results, Tryd.results19, y0, y1, y2, y3, y4, y5, y6, y7, go_sem]) rfl ⟨(T.mk 5 0 0 0 0 0 0 l, Av, cv), k6, _, rfl, hNod, hRS, hOff, by have := Hfin.out; rw [Hj.out] at this; exact this⟩
    · obtain ⟨r, k, hsr, hk, hpp⟩ : ∃ r k, s = .ok r ∧ r'.length < k + 1 ∧ choiceP grp r = match altsP grp (k + 1) (ns.map fun x : Nx => x.1) r' with | .error e => .error e | .ok (l, r2) => .ok (joinT 5 l, r2) := by
        rcases HC.out with ⟨e', he, _⟩ | ⟨r, r2, k, hs, he, hk, hpp⟩
        · cases he
        · cases he
          obtain ⟨k', rfl⟩ : ∃ k', k = k' + 1 := ⟨k - 1, by omega⟩
          exact ⟨r, k', hs, hk, hpp⟩
      have Hpp := Lib.hid hpp; have Hsr := Lib.hid hsr
      clear hpp hsr HC
      rcases ht : takeP [124] r' with _ | r2
      · have Hfin := Lib.hid (show Out (choiceP grp) s (fun t => joinT 5 (ns.map fun x : Nx => x.1) = t) (.ok r') by
          rw [Hsr.out]
          refine Out.good (x := joinT 5 (ns.map fun x : Nx => x.1)) ?_ rfl
          rw [Hpp.out, altsP, ht])
        have Ht := Lib.hid ht; clear ht Hm
        go_wp2_with fail
        refine (qtake_miss [124] (by simp) Ht.out HL.out.S).mono ?_
        rintro en W6 ⟨rfl, ⟨k6, h2⟩, hO2⟩
        have HL := Lib.hid (HL.out.off hlt hO2 h2)
        clear h2 hO2
        have hn3 : n = 1 ∨ 2 ≤ n := by omega
        rcases hn3 with rfl | hn2
        · obtain ⟨g, ⟨t1, A1, c1⟩, rfl, hx, h8, hg, hcv, hnd⟩ := HL.out.first (by omega)
          have hj : joinT 5 (ns.map fun x : Nx => x.1) = t1 := by
            have hl := HL.out.len
            match ns, hl, hx with
            | [y], _, hx => simp at hx; subst hx; rfl
          have Hj := Lib.hid hj; have Hnd := Lib.hid hnd
          obtain ⟨f0, f1, f2, f3, f4, f5, f6, f7⟩ := h8
          simp only [Nat.zero_add] at f1 f2 f3 f4 f5 f6 f7
          clear hj hnd hx
          obtain ⟨⟨r0, r1, r2, r3, r4, r5, r6, r7⟩, hz⟩ := HL.out.R.cells8
          have z0 := hz 0; have z1 := hz 1; have z2 := hz 2; have z3 := hz 3; have z4 := hz 4; have z5 := hz 5; have z6 := hz 6; have z7 := hz 7
          have lr := HL.out.R.lt
          clear hz
          go_wp2_with fail
          change bodyPost _ _ _ _ _ (writeX W6 w.heap.size (t1, A1, c1))
          have hfn := writeX_blk HL.out.R (t1, A1, c1)
          obtain ⟨⟨y0, y1, y2, y3, y4, y5, y6, y7⟩, _⟩ := hfn.cells8
          have hRS := HL.out.S.boxX (b := w.heap.size) (by omega) (t1, A1, c1)
          have hOff := Off.boxW HL.out.O (Nat.le_refl _) (t1, A1, c1)
          have hNod : NodeAt (writeX W6 w.heap.size (t1, A1, c1)) (fun b => w.heap.size ≤ b ∧ b < (writeX W6 w.heap.size (t1, A1, c1)).heap.size) (((t1, A1, c1) : Nx)).1 (((t1, A1, c1) : Nx)).2.1 (((t1, A1, c1) : Nx)).2.2 := Hnd.out.mono fun k (hk : w.heap.size < k ∧ k < W6.heap.size) => ⟨⟨by omega, by rw [writeX_size]; exact hk.2⟩, fun o => World.cell?_of_block (w := W6) (a := ⟨k, o, none⟩) (writeX_other _ _ _ _ (show k ≠ w.heap.size by omega))⟩
          generalize writeX W6 w.heap.size (t1, A1, c1) = W3 at *
          exact bodyPost_ret (v := nodeV (((t1, A1, c1) : Nx)).1 (((t1, A1, c1) : Nx)).2.1 (((t1, A1, c1) : Nx)).2.2) (by simp [results, Tryd.results19, y0, y1, y2, y3, y4, y5, y6, y7, go_sem]) rfl ⟨(t1, A1, c1), k6, _, rfl, hNod, hRS, hOff, by have := Hfin.out; rw [Hj.out] at this; exact this⟩
        · obtain rfl : n = (ns.map fun x : Nx => x.1).length := by simp [HL.out.len]
          have hnd := HL.out.node (by omega) (by omega) (.mk 5 0 0 0 0 0 0 (ns.map fun x : Nx => x.1)) rfl
          have hj : joinT 5 (ns.map fun x : Nx => x.1) = .mk 5 0 0 0 0 0 0 (ns.map fun x : Nx => x.1) := by
            generalize ns.map (fun x : Nx => x.1) = l at hn2
            match l, hn2 with
            | a :: b :: l, _ => rfl
          have hb0 : (((ns.map fun x : Nx => x.1).length : Int) == 0) = false := by rw [beq_eq_false_iff_ne]; omega
          have hb1 : (((ns.map fun x : Nx => x.1).length : Int) == 1) = false := by rw [beq_eq_false_iff_ne]; omega
          have Hj := Lib.hid hj; have Hnd := Lib.hid hnd
          clear hj hnd
          generalize hl : (ns.map fun x : Nx => x.1) = l at *
          obtain ⟨⟨r0, r1, r2, r3, r4, r5, r6, r7⟩, hz⟩ := HL.out.R.cells8
          have z0 := hz 0; have z1 := hz 1; have z2 := hz 2; have z3 := hz 3; have z4 := hz 4; have z5 := hz 5; have z6 := hz 6; have z7 := hz 7
          have lr := HL.out.R.lt
          clear hz
          go_wp2_with fail
          change bodyPost _ _ _ _ _ (writeX W6 w.heap.size (T.mk 5 0 0 0 0 0 0 l, Av, cv))
          have hfn := writeX_blk HL.out.R (T.mk 5 0 0 0 0 0 0 l, Av, cv)
          obtain ⟨⟨y0, y1, y2, y3, y4, y5, y6, y7⟩, _⟩ := hfn.cells8
          have hRS := HL.out.S.boxX (b := w.heap.size) (by omega) (T.mk 5 0 0 0 0 0 0 l, Av, cv)
          have hOff := Off.boxW HL.out.O (Nat.le_refl _) (T.mk 5 0 0 0 0 0 0 l, Av, cv)
          have hNod : NodeAt (writeX W6 w.heap.size (T.mk 5 0 0 0 0 0 0 l, Av, cv)) (fun b => w.heap.size ≤ b ∧ b < (writeX W6 w.heap.size (T.mk 5 0 0 0 0 0 0 l, Av, cv)).heap.size) (((T.mk 5 0 0 0 0 0 0 l, Av, cv) : Nx)).1 (((T.mk 5 0 0 0 0 0 0 l, Av, cv) : Nx)).2.1 (((T.mk 5 0 0 0 0 0 0 l, Av, cv) : Nx)).2.2 := Hnd.out.mono fun k (hk : w.heap.size < k ∧ k < W6.heap.size) => ⟨⟨by omega, by rw [writeX_size]; exact hk.2⟩, fun o => World.cell?_of_block (w := W6) (a := ⟨k, o, none⟩) (writeX_other _ _ _ _ (show k ≠ w.heap.size by omega))⟩
          generalize writeX W6 w.heap.size (T.mk 5 0 0 0 0 0 0 l, Av, cv) = W3 at *
          exact bodyPost_ret (v := nodeV (((T.mk 5 0 0 0 0 0 0 l, Av, cv) : Nx)).1 (((T.mk 5 0 0 0 0 0 0 l, Av, cv) : Nx)).2.1 (((T.mk 5 0 0 0 0 0 0 l, Av, cv) : Nx)).2.2) (by simp [results, Tryd.results19, y0, y1, y2, y3, y4, y5, y6, y7, go_sem]) rfl ⟨(T.mk 5 0 0 0 0 0 0 l, Av, cv), k6, _, rfl, hNod, hRS, hOff, by have := Hfin.out; rw [Hj.out] at this; exact this⟩
      · have hres : altsP grp (k + 1) (ns.map fun x : Nx => x.1) r' = match rowP grp r2 with | .error e => .error e | .ok (n, r1) => altsP grp k ((ns.map fun x : Nx => x.1) ++ [n]) r1 := by
          rw [altsP, ht]; rfl
        have hl := takeP_len ht
        simp only [List.length_cons, List.length_nil] at hl
        simp only [Rs.rest] at hnl
        have Hres := Lib.hid hres; have Ht := Lib.hid ht; clear hres ht
        go_wp2_with fail
        refine (qtake_hit [124] (by simp) Ht.out HL.out.S).mono ?_
        rintro en W6 ⟨rfl, ⟨k6, h2⟩, hO2⟩
        have HN := Lib.hid (HL.out.boxOff hlt HN.out hO2)
        have HL := Lib.hid (HL.out.off hlt hO2 h2)
        clear h2 hO2
        have hrow : ∀ g, (Value.slice Av n cv).ownBlock = some g → g < W6.heap.size := fun g hg => (HL.out.own.lt g hg).2
        have hw6 : bx < W6.heap.size := HL.out.b2
        go_wp2_with fail
        refine (HP.out W6 k6 (.ok r2) HL.out.S (fun _ => ⟨r, Hsr.out⟩)).mono ?_
        rintro en w3 ⟨⟨t3, A3, c3⟩, k3, s3, rfl, hx3, h3, hO3, ho3⟩
        have HN := Lib.hid (HL.out.boxOff hlt HN.out hO3)
        have HL := Lib.hid (HL.out.off hlt hO3 h3)
        have hz3 := hO3.size
        have Hx3 := Lib.hid hx3; have Ho3 := Lib.hid ho3
        clear hx3 ho3 hO3 h3
        obtain ⟨⟨r0, r1, r2_, r3, r4, r5, r6, r7⟩, hz⟩ := HN.out.cells8
        have z0 := hz 0; have z1 := hz 1; have z2 := hz 2; have z3 := hz 3; have z4 := hz 4; have z5 := hz 5; have z6 := hz 6; have z7 := hz 7
        have lr := HN.out.lt
        clear hz
        go_upto_region 6 with fail
        have hNy := writeX_blk HN.out (t3, A3, c3)
        have hLy := HL.out.box hlt hwb (t3, A3, c3)
        have hXy : NodeAt (writeX w3 bx (t3, A3, c3)) (fun b => w.heap.size < b ∧ b < (writeX w3 bx (t3, A3, c3)).heap.size ∧ b ≠ bx ∧ some b ≠ (Value.slice Av n cv).ownBlock) t3 A3 c3 := Hx3.out.mono fun b (hb : W6.heap.size ≤ b ∧ b < w3.heap.size) => ⟨⟨by omega, by rw [writeX_size]; exact hb.2, by omega, fun e => by have := hrow b e.symm; omega⟩, fun o => World.cell?_of_block (w := w3) (a := ⟨b, o, none⟩) (writeX_other _ _ _ _ (show b ≠ bx by omega))⟩
        change Code.wp _ _ _ _ (writeX w3 bx (t3, A3, c3))
        have HN := Lib.hid hNy; have HL := Lib.hid hLy; have HX := Lib.hid hXy
        clear hNy hLy hXy Hx3 z0 z1 z2 z3 z4 z5 z6 z7 r0 r1 r2_ r3 r4 r5 r6 r7 lr hrow
        generalize writeX w3 bx (t3, A3, c3) = W5 at *
        obtain ⟨⟨f0, f1, f2, f3, f4, f5, f6, f7⟩, _⟩ := HN.out.cells8
        have ln5 := HN.out.lt
        have hnews : ∀ ad, some (⟨W5.heap.size, 0, none⟩ : Addr) = some ad → ∀ j u, (xcell (t3, A3, c3))[j]? = some u → (W5.alloc (.cells (xcell (t3, A3, c3)).toArray 27)).cell? (ad.add j) = some u := fun ad e j u hu => by
          simp only [Option.some.injEq] at e
          subst e
          rw [addr_addX, World.cell?_alloc_new, Nat.zero_add]
          simpa using hu
        have Hnews := Lib.hid hnews; clear hnews
        have hWb : bx + 1 ≤ W5.heap.size := HL.out.b2
        go_wp2_with (at_builtin; refine wpList_append_fromX (bx + 1) rfl _ _ 25 27 _ 8 80 rfl Tryd.underlying25 Tryd.infoNodeX rfl (by omega) (by omega) (.slice Av n cv) n 1 (xcells ns) (xcell (t3, A3, c3)) (some ⟨W5.heap.size, 0, none⟩) 1 rfl rfl (by simp) rfl Hnews.out (xcell_one _) (HL.out.own.alloc _) (by simp; omega) (by omega) (fun A5 c5 w5 ho5 hg5 hat5 => ?_); have HL5 := Lib.hid (HL.out.push hlt (t3, A3, c3) HX.out ((Below.refl _ _).alloc (Nat.le_refl _) _) ho5 hg5 hat5); have HN5 := Lib.hid (HL.out.boxPush HN.out ((Below.refl _ _).alloc (Nat.le_refl _) _) hg5); clear ho5 hg5 hat5)
        have hcs : s3.rest.length ≤ r2.length ∧ ((∃ e, s3 = .error e ∧ (s = .error e ∨ ∃ r, s = .ok r ∧ choiceP grp r = .error e)) ∨ ∃ r r' k, s = .ok r ∧ s3 = .ok r' ∧ r'.length < k ∧ choiceP grp r = match altsP grp k ((ns ++ [(t3, A3, c3)]).map fun x : Nx => x.1) r' with | .error e => .error e | .ok (l, r2) => .ok (joinT 5 l, r2)) := by
          have hoo := Ho3.out
          cases hpc : rowP grp r2 with
          | error e =>
            simp only [Out, hpc] at hoo
            subst hoo
            exact ⟨by simp [Rs.rest], .inl ⟨e, rfl, .inr ⟨r, Hsr.out, by rw [Hpp.out, Hres.out, hpc]⟩⟩⟩
          | ok y =>
            obtain ⟨n', r3⟩ := y
            simp only [Out, hpc] at hoo
            obtain ⟨rfl, rfl⟩ := hoo
            have hl3 := row_len HGl.out hpc
            exact ⟨by simp only [Rs.rest]; omega, .inr ⟨r, r3, k, Hsr.out, rfl, by omega, by rw [Hpp.out, Hres.out, hpc]; simp⟩⟩
        obtain ⟨hl1, hcs⟩ := hcs
        have HCS := Lib.hid hcs; clear hcs
        go_roundg (s3.rest.length + 1)
        case measure => have := Hm.out; simp only [Rs.rest] at this; omega
        case rel => exact ⟨n + 1, _, A5, c5, k3, s3, _, rfl, by omega, rfl, by omega, HL5.out, HN5.out, HCS.out⟩
end Go.Proofs.YteekafkpeimhoaaDoor

/- vouchref10's Reader: group: walked. -/
set_option linter.unusedVariables false
set_option linter.unusedSimpArgs false
namespace Go.Proofs.YteekafkpeimhoaaDoor
open Go.RowKit

set_option maxRecDepth 100000 in
set_option maxHeartbeats 8000000 in
theorem qgroup_any (p : Nat) (St : Bs) : ∀ (d : Nat) (op : Int) (hop : op + d = 64) (h0 : 0 ≤ op) (w : World) (k : Nat) (r : Bs), RQ w p St k op (.ok r) →
    Calls Tryd.prog 74 #[.pointer (some ⟨p, 0, none⟩)] w fun en w' => QNode p St op (groupP d) (.ok r) w en w' := by
  intro d
  induction d with
  | zero =>
    intro op hop h0 w k r h
    have hlt := h.lt
    have H := Lib.hid h
    have hop1 : op = 64 := by omega
    have hgt : (64 : Int) < op + 1 := by omega
    have hopb : op ≤ 64 := by omega
    clear h hop hop1
    go_enter Tryd.func74, Tryd.ntmps74
    go_upto_region 1 with fail
    generalize hW : w.alloc _ = W0
    have hB0 : Below w.heap.size w W0 := by subst hW; exact (Below.refl _ _).alloc (Nat.le_refl _) _
    have R0 : BlkX W0 w.heap.size (xcell (.mk 0 0 0 0 0 0 0 [], none, 0)).toArray := by subst hW; exact BlkX.new w _
    clear hW
    have h0 := H.out.later hB0
    have c2 := h0.rdr.c2
    have zz2 := h0.rdr.z 2
    have H0 := Lib.hid h0
    clear h0
    go_upto_region 2 with fail
    have hR : RQ (W0.setCell ⟨p, 2, none⟩ (.int .i64 (op + 1))) p St k (op + 1) (.ok r) := ⟨H0.out.rdr.set2 (op + 1), H0.out.ok, H0.out.ne⟩
    have hO := (Off.refl p W0).set 2 (.int .i64 (op + 1))
    change Code.wp _ _ _ _ (W0.setCell ⟨p, 2, none⟩ (.int .i64 (op + 1)))
    generalize W0.setCell ⟨p, 2, none⟩ (.int .i64 (op + 1)) = W1 at *
    clear c2 zz2
    have HNr := Lib.hid (Off.blk hO R0 (by omega))
    have HOr := Lib.hid ((Off.of_below hB0).trans hO)
    have HRr := Lib.hid hR
    clear hO hR R0 hB0 H0 H
    have c2 := HRr.out.rdr.c2
    have lw1 := HNr.out.lt
    go_wp2_with fail
    refine (qfail_ok 3 (by omega) HRr.out).mono ?_
    rintro en w2 ⟨rfl, hR, hO⟩
    clear c2
    have hz2 := hO.size
    have HNr := Lib.hid (Off.blk hO HNr.out (by omega))
    have HOr := Lib.hid (HOr.out.trans hO)
    have HRr := Lib.hid hR
    clear hO hR
    have lw2 := HNr.out.lt
    go_wp2_with fail
    refine (qpat_any w2 p St k (op + 1) (.error 3) HRr.out (groupP 0) (group_len 0) (fun hh => by obtain ⟨_, hh⟩ := hh; cases hh)).mono ?_
    rintro en w3 ⟨⟨t, A, c⟩, k3, s3, rfl, hx, hR, hO, ho⟩
    cases (show s3 = .error 3 from ho)
    have Hout := Lib.hid (show Out (groupP 0) (.ok r) (fun u => ((t, A, c) : Nx).1 = u) (.error 3) from Out.bad rfl)
    clear ho
    have hzz := hO.size
    have HNr := Lib.hid (Off.blk hO HNr.out (by omega))
    have HOr := Lib.hid (HOr.out.trans hO)
    have HRr := Lib.hid hR
    have Hx := Lib.hid hx
    clear hO hR hx
    go_upto_region 5 with fail
    generalize hW : w3.alloc _ = W5
    have hb5 : Below w3.heap.size w3 W5 := by subst hW; exact (Below.refl _ _).alloc (Nat.le_refl _) _
    have HBx := Lib.hid (show BlkX W5 w3.heap.size (xcell (t, A, c)).toArray by subst hW; exact BlkX.new w3 _)
    clear hW
    have HX := Lib.hid (Hx.out.mono (w' := W5) (ok' := fun b => w.heap.size < b ∧ b < w3.heap.size) fun b hb => ⟨⟨by have := hb.1; omega, hb.2⟩, fun o => hb5.cell (p := ⟨b, o, none⟩) hb.2⟩)
    have HNr := Lib.hid (HNr.out.keep (hb5.block _ HNr.out.lt))
    have HOr := Lib.hid (HOr.out.trans (Off.of_below hb5))
    have HRr := Lib.hid (HRr.out.later hb5)
    have hbn : w.heap.size < w3.heap.size := by omega
    clear hb5 Hx hzz
    generalize w3.heap.size = bn at *
    have lbn := HBx.out.lt
    have c3 := HRr.out.rdr.c3
    simp only [Rs.no] at c3
    have hb0 : ((3 : Int) == 0) = false := by decide
    go_upto_region 7 with fail
    clear c3 hb0
    have c2 := HRr.out.rdr.c2
    have zz2 := HRr.out.rdr.z 2
    have lp := HRr.out.lt
    go_upto_region 8 with fail
    try rw [show op + 1 - 1 = op by omega]
    have hR : RQ (W5.setCell ⟨p, 2, none⟩ (.int .i64 op)) p St k3 op (.error 3) := ⟨HRr.out.rdr.set2 op, HRr.out.ok, HRr.out.ne⟩
    have hO := (Off.refl p W5).set 2 (.int .i64 op)
    change Code.wp _ _ _ _ (W5.setCell ⟨p, 2, none⟩ (.int .i64 op))
    generalize W5.setCell ⟨p, 2, none⟩ (.int .i64 op) = WA at *
    clear c2 zz2 lp
    have HX := Lib.hid (HX.out.mono (w' := WA) (ok' := fun b => w.heap.size < b ∧ b < bn) fun b (hb : w.heap.size < b ∧ b < bn) => ⟨hb, fun o => Off.cell hO (by omega) (by omega)⟩)
    have HBx := Lib.hid (Off.blk hO HBx.out (by omega))
    have HNr := Lib.hid (Off.blk hO HNr.out (by omega))
    have HOr := Lib.hid (HOr.out.trans hO)
    have HRr := Lib.hid hR
    clear hO hR
    obtain ⟨⟨f0, f1, f2, f3, f4, f5, f6, f7⟩, _⟩ := HBx.out.cells8
    have ln := HBx.out.lt
    obtain ⟨⟨r0, r1_, r2_, r3, r4, r5, r6, r7⟩, hz⟩ := HNr.out.cells8
    have z0 := hz 0; have z1 := hz 1; have z2 := hz 2; have z3 := hz 3; have z4 := hz 4; have z5 := hz 5; have z6 := hz 6; have z7 := hz 7
    have lr := HNr.out.lt
    clear hz
    go_wp2_with fail
    change bodyPost _ _ _ _ _ (writeX WA w.heap.size (t, A, c))
    have hfin := writeX_blk HNr.out (t, A, c)
    obtain ⟨⟨y0, y1, y2, y3, y4, y5, y6, y7⟩, _⟩ := hfin.cells8
    have hRS := HRr.out.boxX (b := w.heap.size) (by omega) (t, A, c)
    have hOff := Off.boxW HOr.out (Nat.le_refl _) (t, A, c)
    have hNod : NodeAt (writeX WA w.heap.size (t, A, c)) (fun b => w.heap.size ≤ b ∧ b < (writeX WA w.heap.size (t, A, c)).heap.size) t A c := HX.out.mono fun k (hk : w.heap.size < k ∧ k < bn) => ⟨⟨by omega, by rw [writeX_size]; omega⟩, fun o => World.cell?_of_block (w := WA) (a := ⟨k, o, none⟩) (writeX_other _ _ _ _ (show k ≠ w.heap.size by omega))⟩
    generalize writeX WA w.heap.size (t, A, c) = W9 at *
    exact bodyPost_ret (v := nodeV t A c) (by simp [results, Tryd.results74, y0, y1, y2, y3, y4, y5, y6, y7, go_sem]) rfl ⟨(t, A, c), k3, (.error 3), rfl, hNod, hRS, hOff, Hout.out⟩
  | succ d ih =>
    intro op hop h0 w k r h
    have hlt := h.lt
    have H := Lib.hid h
    have hgt : decide ((64 : Int) < op + 1) = false := by rw [decide_eq_false_iff_not]; omega
    have hgt2 : op + 1 ≤ 64 := by omega
    have hopb : op ≤ 64 := by omega
    have HCH := Lib.hid (fun (w : World) (k : Nat) (h : RQ w p St k (op + 1) (.ok r)) => qpat_any w p St k (op + 1) (.ok r) h (groupP d) (group_len d) (fun _ w k r h => ih (op + 1) (by omega) (by omega) w k r h))
    clear h hop ih
    go_enter Tryd.func74, Tryd.ntmps74
    go_upto_region 1 with fail
    generalize hW : w.alloc _ = W0
    have hB0 : Below w.heap.size w W0 := by subst hW; exact (Below.refl _ _).alloc (Nat.le_refl _) _
    have R0 : BlkX W0 w.heap.size (xcell (.mk 0 0 0 0 0 0 0 [], none, 0)).toArray := by subst hW; exact BlkX.new w _
    clear hW
    have h0 := H.out.later hB0
    have c2 := h0.rdr.c2
    have zz2 := h0.rdr.z 2
    have H0 := Lib.hid h0
    clear h0
    go_upto_region 2 with fail
    have hR : RQ (W0.setCell ⟨p, 2, none⟩ (.int .i64 (op + 1))) p St k (op + 1) (.ok r) := ⟨H0.out.rdr.set2 (op + 1), H0.out.ok, H0.out.ne⟩
    have hO := (Off.refl p W0).set 2 (.int .i64 (op + 1))
    change Code.wp _ _ _ _ (W0.setCell ⟨p, 2, none⟩ (.int .i64 (op + 1)))
    generalize W0.setCell ⟨p, 2, none⟩ (.int .i64 (op + 1)) = W1 at *
    clear c2 zz2
    have HNr := Lib.hid (Off.blk hO R0 (by omega))
    have HOr := Lib.hid ((Off.of_below hB0).trans hO)
    have HRr := Lib.hid hR
    clear hO hR R0 hB0 H0 H
    have c2 := HRr.out.rdr.c2
    have lw1 := HNr.out.lt
    go_wp2_with fail
    refine (HCH.out W1 k HRr.out).mono ?_
    rintro en w3 ⟨⟨t, A, c⟩, k3, s3, rfl, hx, hR, hO, ho⟩
    have Ho := Lib.hid ho
    clear c2 ho
    have hzz := hO.size
    have HNr := Lib.hid (Off.blk hO HNr.out (by omega))
    have HOr := Lib.hid (HOr.out.trans hO)
    have HRr := Lib.hid hR
    have Hx := Lib.hid hx
    clear hO hR hx
    go_upto_region 5 with fail
    generalize hW : w3.alloc _ = W5
    have hb5 : Below w3.heap.size w3 W5 := by subst hW; exact (Below.refl _ _).alloc (Nat.le_refl _) _
    have HBx := Lib.hid (show BlkX W5 w3.heap.size (xcell (t, A, c)).toArray by subst hW; exact BlkX.new w3 _)
    clear hW
    have HX := Lib.hid (Hx.out.mono (w' := W5) (ok' := fun b => w.heap.size < b ∧ b < w3.heap.size) fun b hb => ⟨⟨by have := hb.1; omega, hb.2⟩, fun o => hb5.cell (p := ⟨b, o, none⟩) hb.2⟩)
    have HNr := Lib.hid (HNr.out.keep (hb5.block _ HNr.out.lt))
    have HOr := Lib.hid (HOr.out.trans (Off.of_below hb5))
    have HRr := Lib.hid (HRr.out.later hb5)
    have hbn : w.heap.size < w3.heap.size := by omega
    clear hb5 Hx hzz
    generalize w3.heap.size = bn at *
    have lbn := HBx.out.lt
    have c3 := HRr.out.rdr.c3
    cases s3 with
    | error e =>
      have hne := HRr.out.ne e rfl
      have hb0 : (e == 0) = false := by rw [beq_eq_false_iff_ne]; exact hne
      have Hout := Lib.hid (show Out (groupP (d + 1)) (.ok r) (fun u => ((t, A, c) : Nx).1 = u) (.error e) from Out.bad (by rw [groupP, out_bad Ho.out]))
      simp only [Rs.no] at c3
      clear hne Ho
      go_upto_region 7 with fail
      clear c3 hb0
      have c2 := HRr.out.rdr.c2
      have zz2 := HRr.out.rdr.z 2
      have lp := HRr.out.lt
      go_upto_region 8 with fail
      try rw [show op + 1 - 1 = op by omega]
      have hR : RQ (W5.setCell ⟨p, 2, none⟩ (.int .i64 op)) p St k3 op (.error e) := ⟨HRr.out.rdr.set2 op, HRr.out.ok, HRr.out.ne⟩
      have hO := (Off.refl p W5).set 2 (.int .i64 op)
      change Code.wp _ _ _ _ (W5.setCell ⟨p, 2, none⟩ (.int .i64 op))
      generalize W5.setCell ⟨p, 2, none⟩ (.int .i64 op) = WA at *
      clear c2 zz2 lp
      have HX := Lib.hid (HX.out.mono (w' := WA) (ok' := fun b => w.heap.size < b ∧ b < bn) fun b (hb : w.heap.size < b ∧ b < bn) => ⟨hb, fun o => Off.cell hO (by omega) (by omega)⟩)
      have HBx := Lib.hid (Off.blk hO HBx.out (by omega))
      have HNr := Lib.hid (Off.blk hO HNr.out (by omega))
      have HOr := Lib.hid (HOr.out.trans hO)
      have HRr := Lib.hid hR
      clear hO hR
      obtain ⟨⟨f0, f1, f2, f3, f4, f5, f6, f7⟩, _⟩ := HBx.out.cells8
      have ln := HBx.out.lt
      obtain ⟨⟨r0, r1_, r2_, r3, r4, r5, r6, r7⟩, hz⟩ := HNr.out.cells8
      have z0 := hz 0; have z1 := hz 1; have z2 := hz 2; have z3 := hz 3; have z4 := hz 4; have z5 := hz 5; have z6 := hz 6; have z7 := hz 7
      have lr := HNr.out.lt
      clear hz
      go_wp2_with fail
      change bodyPost _ _ _ _ _ (writeX WA w.heap.size (t, A, c))
      have hfin := writeX_blk HNr.out (t, A, c)
      obtain ⟨⟨y0, y1, y2, y3, y4, y5, y6, y7⟩, _⟩ := hfin.cells8
      have hRS := HRr.out.boxX (b := w.heap.size) (by omega) (t, A, c)
      have hOff := Off.boxW HOr.out (Nat.le_refl _) (t, A, c)
      have hNod : NodeAt (writeX WA w.heap.size (t, A, c)) (fun b => w.heap.size ≤ b ∧ b < (writeX WA w.heap.size (t, A, c)).heap.size) t A c := HX.out.mono fun k (hk : w.heap.size < k ∧ k < bn) => ⟨⟨by omega, by rw [writeX_size]; omega⟩, fun o => World.cell?_of_block (w := WA) (a := ⟨k, o, none⟩) (writeX_other _ _ _ _ (show k ≠ w.heap.size by omega))⟩
      generalize writeX WA w.heap.size (t, A, c) = W9 at *
      exact bodyPost_ret (v := nodeV t A c) (by simp [results, Tryd.results74, y0, y1, y2, y3, y4, y5, y6, y7, go_sem]) rfl ⟨(t, A, c), k3, (.error e), rfl, hNod, hRS, hOff, Hout.out⟩
    | ok r3 =>
      have hcc : choiceP (groupP d) r = .ok (t, r3) := by
        obtain ⟨x, hx, hv⟩ := out_good Ho.out
        have hv' : t = x := hv
        rw [hx, hv']
      have Hcc := Lib.hid hcc
      simp only [Rs.no] at c3
      clear Ho hcc
      rcases ht : takeP [41] r3 with _ | rr4
      · have Hout := Lib.hid (show Out (groupP (d + 1)) (.ok r) (fun u => ((t, A, c) : Nx).1 = u) (.error 100) from Out.bad (by rw [groupP, Hcc.out]; simp only [ht]))
        have Ht := Lib.hid ht; clear ht
        go_wp2_with fail
        refine (qtake_miss [41] (by simp) Ht.out HRr.out).mono ?_
        rintro en w6 ⟨rfl, ⟨k6, hR⟩, hO⟩
        clear c3
        have HX := Lib.hid (HX.out.mono (w' := w6) (ok' := fun b => w.heap.size < b ∧ b < bn) fun b (hb : w.heap.size < b ∧ b < bn) => ⟨hb, fun o => Off.cell hO (by omega) (by omega)⟩)
        have HBx := Lib.hid (Off.blk hO HBx.out (by omega))
        have HNr := Lib.hid (Off.blk hO HNr.out (by omega))
        have HOr := Lib.hid (HOr.out.trans hO)
        have HRr := Lib.hid hR
        have lbn := HBx.out.lt
        clear hO hR
        go_wp2_with fail
        refine (qfail_ok 100 (by omega) HRr.out).mono ?_
        rintro en w7 ⟨rfl, hR, hO⟩
        have HX := Lib.hid (HX.out.mono (w' := w7) (ok' := fun b => w.heap.size < b ∧ b < bn) fun b (hb : w.heap.size < b ∧ b < bn) => ⟨hb, fun o => Off.cell hO (by omega) (by omega)⟩)
        have HBx := Lib.hid (Off.blk hO HBx.out (by omega))
        have HNr := Lib.hid (Off.blk hO HNr.out (by omega))
        have HOr := Lib.hid (HOr.out.trans hO)
        have HRr := Lib.hid hR
        have lbn := HBx.out.lt
        clear hO hR
        have c2 := HRr.out.rdr.c2
        have zz2 := HRr.out.rdr.z 2
        have lp := HRr.out.lt
        go_upto_region 8 with fail
        try rw [show op + 1 - 1 = op by omega]
        have hR : RQ (w7.setCell ⟨p, 2, none⟩ (.int .i64 op)) p St k6 op (.error 100) := ⟨HRr.out.rdr.set2 op, HRr.out.ok, HRr.out.ne⟩
        have hO := (Off.refl p w7).set 2 (.int .i64 op)
        change Code.wp _ _ _ _ (w7.setCell ⟨p, 2, none⟩ (.int .i64 op))
        generalize w7.setCell ⟨p, 2, none⟩ (.int .i64 op) = WA at *
        clear c2 zz2 lp
        have HX := Lib.hid (HX.out.mono (w' := WA) (ok' := fun b => w.heap.size < b ∧ b < bn) fun b (hb : w.heap.size < b ∧ b < bn) => ⟨hb, fun o => Off.cell hO (by omega) (by omega)⟩)
        have HBx := Lib.hid (Off.blk hO HBx.out (by omega))
        have HNr := Lib.hid (Off.blk hO HNr.out (by omega))
        have HOr := Lib.hid (HOr.out.trans hO)
        have HRr := Lib.hid hR
        clear hO hR
        obtain ⟨⟨f0, f1, f2, f3, f4, f5, f6, f7⟩, _⟩ := HBx.out.cells8
        have ln := HBx.out.lt
        obtain ⟨⟨r0, r1_, r2_, r3, r4, r5, r6, r7⟩, hz⟩ := HNr.out.cells8
        have z0 := hz 0; have z1 := hz 1; have z2 := hz 2; have z3 := hz 3; have z4 := hz 4; have z5 := hz 5; have z6 := hz 6; have z7 := hz 7
        have lr := HNr.out.lt
        clear hz
        go_wp2_with fail
        change bodyPost _ _ _ _ _ (writeX WA w.heap.size (t, A, c))
        have hfin := writeX_blk HNr.out (t, A, c)
        obtain ⟨⟨y0, y1, y2, y3, y4, y5, y6, y7⟩, _⟩ := hfin.cells8
        have hRS := HRr.out.boxX (b := w.heap.size) (by omega) (t, A, c)
        have hOff := Off.boxW HOr.out (Nat.le_refl _) (t, A, c)
        have hNod : NodeAt (writeX WA w.heap.size (t, A, c)) (fun b => w.heap.size ≤ b ∧ b < (writeX WA w.heap.size (t, A, c)).heap.size) t A c := HX.out.mono fun k (hk : w.heap.size < k ∧ k < bn) => ⟨⟨by omega, by rw [writeX_size]; omega⟩, fun o => World.cell?_of_block (w := WA) (a := ⟨k, o, none⟩) (writeX_other _ _ _ _ (show k ≠ w.heap.size by omega))⟩
        generalize writeX WA w.heap.size (t, A, c) = W9 at *
        exact bodyPost_ret (v := nodeV t A c) (by simp [results, Tryd.results74, y0, y1, y2, y3, y4, y5, y6, y7, go_sem]) rfl ⟨(t, A, c), k6, (.error 100), rfl, hNod, hRS, hOff, Hout.out⟩
      · have Hout := Lib.hid (show Out (groupP (d + 1)) (.ok r) (fun u => ((t, A, c) : Nx).1 = u) (.ok rr4) from Out.good (x := t) (by rw [groupP, Hcc.out]; simp only [ht]) rfl)
        have Ht := Lib.hid ht; clear ht
        go_wp2_with fail
        refine (qtake_hit [41] (by simp) Ht.out HRr.out).mono ?_
        rintro en w6 ⟨rfl, ⟨k6, hR⟩, hO⟩
        clear c3
        have HX := Lib.hid (HX.out.mono (w' := w6) (ok' := fun b => w.heap.size < b ∧ b < bn) fun b (hb : w.heap.size < b ∧ b < bn) => ⟨hb, fun o => Off.cell hO (by omega) (by omega)⟩)
        have HBx := Lib.hid (Off.blk hO HBx.out (by omega))
        have HNr := Lib.hid (Off.blk hO HNr.out (by omega))
        have HOr := Lib.hid (HOr.out.trans hO)
        have HRr := Lib.hid hR
        have lbn := HBx.out.lt
        clear hO hR
        have c2 := HRr.out.rdr.c2
        have zz2 := HRr.out.rdr.z 2
        have lp := HRr.out.lt
        go_upto_region 8 with fail
        try rw [show op + 1 - 1 = op by omega]
        have hR : RQ (w6.setCell ⟨p, 2, none⟩ (.int .i64 op)) p St k6 op (.ok rr4) := ⟨HRr.out.rdr.set2 op, HRr.out.ok, HRr.out.ne⟩
        have hO := (Off.refl p w6).set 2 (.int .i64 op)
        change Code.wp _ _ _ _ (w6.setCell ⟨p, 2, none⟩ (.int .i64 op))
        generalize w6.setCell ⟨p, 2, none⟩ (.int .i64 op) = WA at *
        clear c2 zz2 lp
        have HX := Lib.hid (HX.out.mono (w' := WA) (ok' := fun b => w.heap.size < b ∧ b < bn) fun b (hb : w.heap.size < b ∧ b < bn) => ⟨hb, fun o => Off.cell hO (by omega) (by omega)⟩)
        have HBx := Lib.hid (Off.blk hO HBx.out (by omega))
        have HNr := Lib.hid (Off.blk hO HNr.out (by omega))
        have HOr := Lib.hid (HOr.out.trans hO)
        have HRr := Lib.hid hR
        clear hO hR
        obtain ⟨⟨f0, f1, f2, f3, f4, f5, f6, f7⟩, _⟩ := HBx.out.cells8
        have ln := HBx.out.lt
        obtain ⟨⟨r0, r1_, r2_, r3, r4, r5, r6, r7⟩, hz⟩ := HNr.out.cells8
        have z0 := hz 0; have z1 := hz 1; have z2 := hz 2; have z3 := hz 3; have z4 := hz 4; have z5 := hz 5; have z6 := hz 6; have z7 := hz 7
        have lr := HNr.out.lt
        clear hz
        go_wp2_with fail
        change bodyPost _ _ _ _ _ (writeX WA w.heap.size (t, A, c))
        have hfin := writeX_blk HNr.out (t, A, c)
        obtain ⟨⟨y0, y1, y2, y3, y4, y5, y6, y7⟩, _⟩ := hfin.cells8
        have hRS := HRr.out.boxX (b := w.heap.size) (by omega) (t, A, c)
        have hOff := Off.boxW HOr.out (Nat.le_refl _) (t, A, c)
        have hNod : NodeAt (writeX WA w.heap.size (t, A, c)) (fun b => w.heap.size ≤ b ∧ b < (writeX WA w.heap.size (t, A, c)).heap.size) t A c := HX.out.mono fun k (hk : w.heap.size < k ∧ k < bn) => ⟨⟨by omega, by rw [writeX_size]; omega⟩, fun o => World.cell?_of_block (w := WA) (a := ⟨k, o, none⟩) (writeX_other _ _ _ _ (show k ≠ w.heap.size by omega))⟩
        generalize writeX WA w.heap.size (t, A, c) = W9 at *
        exact bodyPost_ret (v := nodeV t A c) (by simp [results, Tryd.results74, y0, y1, y2, y3, y4, y5, y6, y7, go_sem]) rfl ⟨(t, A, c), k6, (.ok rr4), rfl, hNod, hRS, hOff, Hout.out⟩
end Go.Proofs.YteekafkpeimhoaaDoor

/- vouchref10.Parse: walked. -/
set_option linter.unusedVariables false
set_option linter.unusedSimpArgs false
namespace Go.Proofs.YteekafkpeimhoaaDoor
open Go.RowKit

theorem qparse_ok {s : Bs} {t : T} (hl : ¬ 1024 < s.length) (h : choiceP (groupP 64) s = .ok (t, [])) : parseP s = .ok t := by rw [parseP, if_neg hl, h]
theorem parse_more {s : Bs} {t : T} {c : UInt8} {r : Bs} (hl : ¬ 1024 < s.length) (h : choiceP (groupP 64) s = .ok (t, c :: r)) : parseP s = .error 100 := by rw [parseP, if_neg hl, h]
theorem parse_err {s : Bs} {e : Int} (hl : ¬ 1024 < s.length) (h : choiceP (groupP 64) s = .error e) : parseP s = .error e := by rw [parseP, if_neg hl, h]
set_option maxRecDepth 100000 in
set_option maxHeartbeats 4000000 in
theorem qparse_any (s : Bs) (w : World) :
    Calls Tryd.prog 6 #[.string (bs s)] w fun en w' => GPar s w en w' := by
  have sS := bsq_size s
  by_cases hlen : 1024 < s.length
  · have hp : parseP s = .error 3 := by rw [parseP, if_pos hlen]
    have Hp := Lib.hid hp; clear hp
    go_enter Tryd.func6, Tryd.ntmps6
    go_wp2_with fail
    exact bodyPost_ret (v := .tuple #[nodeV none0 none 0, .int .i64 3]) (by simp [results, Tryd.results6, go_sem, T.k, T.s0, T.s1, T.s2, T.s3, T.mn, T.mx, T.ps]) rfl ⟨(Below.refl _ _).alloc (Nat.le_refl _) _, .inr ⟨3, Hp.out, by omega, rfl⟩⟩
  · have HCH := Lib.hid (fun (w : World) (p : Nat) (h : RQ w p s 0 0 (.ok s)) => qpat_any w p s 0 0 (.ok s) h (groupP 64) (group_len 64) (fun _ w k r h => qgroup_any p s 64 0 (by omega) (by omega) w k r h))
    go_enter Tryd.func6, Tryd.ntmps6
    go_upto_region 4 with fail
    generalize hW : (w.alloc _).alloc _ = W1
    have hB1 : Below w.heap.size w W1 := by subst hW; exact ((Below.refl _ _).alloc (Nat.le_refl _) _).alloc (by simp) _
    have R1 : BlkX W1 w.heap.size (xcell (none0, none, 0)).toArray := by
      subst hW
      exact (BlkX.new w _).keep (((Below.refl _ _).alloc (Nat.le_refl _) _).block _ (by simp))
    have h1 : RQ W1 (w.heap.size + 1) s 0 0 (.ok s) := by
      subst hW
      refine ⟨⟨?_, ?_, ?_, ?_, fun o => ?_, by simp, by omega, by omega⟩, fun r he => by cases he; rfl, fun e he => by cases he⟩
      · simp [go_sem]
      · simp [go_sem]
      · simp [go_sem]
      · simp [go_sem, Rs.no]
      · simp [go_sem]
    have hz1 : w.heap.size + 2 ≤ W1.heap.size := by subst hW; simp
    clear hW
    go_wp2_with fail
    refine (HCH.out W1 (w.heap.size + 1) h1).mono ?_
    rintro en w2 ⟨⟨t, A, c⟩, k2, s2, rfl, hx2, h2, hO2, ho2⟩
    have R2 := Off.blk hO2 R1 (by omega)
    have hz2 := hO2.size
    have hBw2 : Below w.heap.size w w2 := hB1.trans (Off.below hO2 (by omega) (by omega))
    have Hx2 := Lib.hid hx2; have Ho2 := Lib.hid ho2
    clear hx2 ho2 R1 h1 hO2 hB1
    go_upto_region 5 with fail
    generalize hW : w2.alloc _ = W3
    have hB3 : Below w2.heap.size w2 W3 := by subst hW; exact (Below.refl _ _).alloc (Nat.le_refl _) _
    have N3 : BlkX W3 w2.heap.size (xcell (t, A, c)).toArray := by subst hW; exact BlkX.new w2 _
    have hz3 : w2.heap.size < W3.heap.size := N3.lt
    have HNr := Lib.hid (R2.keep (hB3.block _ R2.lt))
    have HRr := Lib.hid (h2.later hB3)
    have HBw := Lib.hid (hBw2.trans (hB3.mono (by omega)))
    have HX := Lib.hid (Hx2.out.mono (w' := W3) (ok' := fun b => w.heap.size + 2 ≤ b ∧ b < w2.heap.size) fun b (hb : W1.heap.size ≤ b ∧ b < w2.heap.size) => ⟨⟨by omega, hb.2⟩, fun o => hB3.cell (p := ⟨b, o, none⟩) hb.2⟩)
    have HBx := Lib.hid N3
    have hbn : w.heap.size + 2 ≤ w2.heap.size := by omega
    clear hW hB3 N3 R2 h2 hBw2 Hx2 hz2
    generalize w2.heap.size = bn at *
    have hz0 : w.heap.size ≤ W3.heap.size := by omega
    have c3 := HRr.out.rdr.c3
    have lp3 := HRr.out.lt
    cases s2 with
    | error e =>
      have hne := HRr.out.ne e rfl
      have Hp := Lib.hid (parse_err hlen (out_bad Ho2.out))
      have hb : (e == 0) = false := by rw [beq_eq_false_iff_ne]; exact hne
      have hbn2 : (e != 0) = true := by rw [bne_iff_ne]; exact hne
      have Hne := Lib.hid hne
      simp only [Rs.no] at c3
      clear hne Ho2
      obtain ⟨⟨r0, r1, r2_, r3, r4, r5, r6, r7⟩, hz⟩ := HNr.out.cells8
      have z0 := hz 0; have zz1 := hz 1; have z2 := hz 2; have z3 := hz 3; have z4 := hz 4; have z5 := hz 5; have z6 := hz 6; have z7 := hz 7
      have lr := HNr.out.lt
      clear hz
      go_wp2_with fail
      go_region
      all_goals go_wp2_with fail
      change bodyPost _ _ _ _ _ (writeX W3 w.heap.size (none0, none, 0)).drew
      have hfn := writeX_blk HNr.out (none0, none, 0)
      obtain ⟨⟨y0, y1, y2, y3, y4, y5, y6, y7⟩, _⟩ := hfn.cells8
      have hbel := (writeX_below HBw.out (Nat.le_refl w.heap.size) (none0, none, 0)).drew
      generalize writeX W3 w.heap.size (none0, none, 0) = W5 at *
      exact bodyPost_ret (v := .tuple #[nodeV none0 none 0, .int .i64 e]) (by simp [results, Tryd.results6, y0, y1, y2, y3, y4, y5, y6, y7, go_sem]) rfl ⟨hbel, .inr ⟨_, Hp.out, Hne.out, rfl⟩⟩
    | ok r2 =>
      have hcc : choiceP (groupP 64) s = .ok (t, r2) := by
        obtain ⟨x, hx, hv⟩ := out_good Ho2.out
        have hv' : t = x := hv
        rw [hx, hv']
      simp only [Rs.no] at c3
      clear Ho2
      have Hd := Lib.hid (done_q HRr.out)
      rcases r2 with _ | ⟨c1, t1⟩
      · have Hp := Lib.hid (qparse_ok hlen hcc)
        clear hcc
        go_wp2_with fail
        refine Hd.out.mono ?_
        rintro en W4 ⟨rfl, h4, hO4⟩
        rw [show doneS (.ok []) = true from rfl]
        clear c3 lp3
        have c3 := h4.rdr.c3
        have lp3 := h4.lt
        simp only [Rs.no] at c3
        have HX := Lib.hid (HX.out.mono (w' := W4) (ok' := fun b => w.heap.size + 2 ≤ b ∧ b < bn) fun b (hb : w.heap.size + 2 ≤ b ∧ b < bn) => ⟨hb, fun o => Off.cell hO4 (by omega) (by omega)⟩)
        have HBx := Lib.hid (Off.blk hO4 HBx.out (by omega))
        have HNr := Lib.hid (Off.blk hO4 HNr.out (by omega))
        have HBw := Lib.hid (HBw.out.trans (Off.below hO4 (B := w.heap.size) (by omega) hz0))
        have lbn := HBx.out.lt
        clear h4 hO4 Hd
        obtain ⟨⟨f0, f1, f2, f3, f4, f5, f6, f7⟩, _⟩ := HBx.out.cells8
        obtain ⟨⟨r0, r1, r2_, r3, r4, r5, r6, r7⟩, hz⟩ := HNr.out.cells8
        have z0 := hz 0; have zz1 := hz 1; have z2 := hz 2; have z3 := hz 3; have z4 := hz 4; have z5 := hz 5; have z6 := hz 6; have z7 := hz 7
        have lr := HNr.out.lt
        clear hz
        go_wp2_with fail
        change bodyPost _ _ _ _ _ (writeX W4 w.heap.size (t, A, c))
        have hfn := writeX_blk HNr.out (t, A, c)
        obtain ⟨⟨y0, y1, y2, y3, y4, y5, y6, y7⟩, _⟩ := hfn.cells8
        have hbel := writeX_below HBw.out (Nat.le_refl w.heap.size) (t, A, c)
        have hNod : NodeAt (writeX W4 w.heap.size (t, A, c)) (fun b => w.heap.size ≤ b ∧ b < (writeX W4 w.heap.size (t, A, c)).heap.size) t A c := HX.out.mono fun k (hk : w.heap.size + 2 ≤ k ∧ k < bn) => ⟨⟨by omega, by rw [writeX_size]; omega⟩, fun o => World.cell?_of_block (w := W4) (a := ⟨k, o, none⟩) (writeX_other _ _ _ _ (show k ≠ w.heap.size by omega))⟩
        generalize writeX W4 w.heap.size (t, A, c) = W5 at *
        exact bodyPost_ret (v := .tuple #[nodeV t A c, .int .i64 0]) (by simp [results, Tryd.results6, y0, y1, y2, y3, y4, y5, y6, y7, go_sem]) rfl ⟨hbel, .inl ⟨t, A, c, Hp.out, rfl, hNod⟩⟩
      · have Hp := Lib.hid (parse_more hlen hcc)
        clear hcc
        go_wp2_with fail
        refine Hd.out.mono ?_
        rintro en W4 ⟨rfl, h4, hO4⟩
        rw [show doneS (.ok (c1 :: t1)) = false from rfl]
        clear c3
        have HNr := Lib.hid (Off.blk hO4 HNr.out (by omega))
        have HBw := Lib.hid (HBw.out.trans (Off.below hO4 (B := w.heap.size) (by omega) hz0))
        have hz4 : w.heap.size ≤ W4.heap.size := by have := HNr.out.lt; omega
        clear hO4 Hd
        have H4 := Lib.hid h4
        clear h4
        go_wp2_with fail
        refine (qfail_ok 100 (by omega) H4.out).mono ?_
        rintro en W6 ⟨rfl, h4, hO4⟩
        have c3 := h4.rdr.c3
        simp only [Rs.no] at c3
        clear lp3
        have lp3 := h4.lt
        have HNr := Lib.hid (Off.blk hO4 HNr.out (by omega))
        have HBw := Lib.hid (HBw.out.trans (Off.below hO4 (B := w.heap.size) (by omega) hz4))
        clear h4 hO4 H4
        have hbn2 : ((100 : Int) != 0) = true := by decide
        have Hne := Lib.hid (show (100 : Int) ≠ 0 by decide)
        obtain ⟨⟨r0, r1, r2_, r3, r4, r5, r6, r7⟩, hz⟩ := HNr.out.cells8
        have z0 := hz 0; have zz1 := hz 1; have z2 := hz 2; have z3 := hz 3; have z4 := hz 4; have z5 := hz 5; have z6 := hz 6; have z7 := hz 7
        have lr := HNr.out.lt
        clear hz
        go_wp2_with fail
        go_region
        all_goals go_wp2_with fail
        change bodyPost _ _ _ _ _ (writeX W6 w.heap.size (none0, none, 0)).drew
        have hfn := writeX_blk HNr.out (none0, none, 0)
        obtain ⟨⟨y0, y1, y2, y3, y4, y5, y6, y7⟩, _⟩ := hfn.cells8
        have hbel := (writeX_below HBw.out (Nat.le_refl w.heap.size) (none0, none, 0)).drew
        generalize writeX W6 w.heap.size (none0, none, 0) = W5 at *
        exact bodyPost_ret (v := .tuple #[nodeV none0 none 0, .int .i64 100]) (by simp [results, Tryd.results6, y0, y1, y2, y3, y4, y5, y6, y7, go_sem]) rfl ⟨hbel, .inr ⟨_, Hp.out, Hne.out, rfl⟩⟩
end Go.Proofs.YteekafkpeimhoaaDoor

/- Trees whose parts lie in rows of their own (blocks of nodes, nothing frozen, as long as their capacity). Plain. -/
set_option linter.unusedVariables false
set_option linter.unusedSimpArgs false
namespace Go.Proofs.YteekafkpeimhoaaDoor
open Go.RowKit

/-- A slice of nodes, so deep: its block is a row of nodes, as long as its capacity, nothing frozen. -/
def SL (w : World) (ok : Nat → Prop) : Nat → Option Addr → Nat → Nat → Prop
  | 0, A, len, c => A = none ∧ len = 0 ∧ c = 0
  | n + 1, A, len, c => (A = none ∧ len = 0 ∧ c = 0) ∨ ∃ (g : Nat) (cur : Array Value), A = some ⟨g, 0, none⟩ ∧ ok g ∧ w.heap[g]? = some (.cells cur 27 (0, 0)) ∧ cur.size = c * 8 ∧ (len ≤ c ∧ len ≤ 1000000) ∧ c ≤ maxLen ∧
      ∀ i, i < len → ∃ x : Nx, (∀ j, j < 8 → cur[i * 8 + j]? = (xcell x)[j]?) ∧ SL w ok n x.2.1 x.1.ps.length x.2.2
theorem sl_none (w : World) (ok : Nat → Prop) : ∀ n, SL w ok n none 0 0
  | 0 => ⟨rfl, rfl, rfl⟩
  | n + 1 => .inl ⟨rfl, rfl, rfl⟩
theorem SL.up {w : World} {ok : Nat → Prop} : ∀ {n : Nat} {A : Option Addr} {len c : Nat}, SL w ok n A len c → SL w ok (n + 1) A len c
  | 0, A, len, c, h => .inl h
  | n + 1, A, len, c, h => by
    rcases h with h | ⟨g, cur, h1, h2, h3, h4, h5, h6, h7⟩
    · exact .inl h
    · refine .inr ⟨g, cur, h1, h2, h3, h4, h5, h6, fun i hi => ?_⟩
      obtain ⟨x, hx, hs⟩ := h7 i hi
      exact ⟨x, hx, SL.up hs⟩
theorem SL.le {w : World} {ok : Nat → Prop} {n m : Nat} {A : Option Addr} {len c : Nat} (h : SL w ok n A len c) (hm : n ≤ m) : SL w ok m A len c := by
  induction hm with
  | refl => exact h
  | step _ ih => exact ih.up
theorem SL.mono {w w' : World} {ok ok' : Nat → Prop} (hk : ∀ b, ok b → ok' b ∧ w'.heap[b]? = w.heap[b]?) : ∀ {n : Nat} {A : Option Addr} {len c : Nat}, SL w ok n A len c → SL w' ok' n A len c
  | 0, A, len, c, h => h
  | n + 1, A, len, c, h => by
    rcases h with h | ⟨g, cur, h1, h2, h3, h4, h5, h6, h7⟩
    · exact .inl h
    · refine .inr ⟨g, cur, h1, (hk g h2).1, (hk g h2).2.trans h3, h4, h5, h6, fun i hi => ?_⟩
      obtain ⟨x, hx, hs⟩ := h7 i hi
      exact ⟨x, hx, SL.mono hk hs⟩
/-- A node reads, and its parts lie in rows of their own. -/
structure RowAt (w : World) (ok : Nat → Prop) (t : T) (A : Option Addr) (c : Nat) : Prop where
  node : NodeAt w ok t A c
  sl : ∃ n, SL w ok n A t.ps.length c
theorem RowAt.mono {w w' : World} {ok ok' : Nat → Prop} {t : T} {A : Option Addr} {c : Nat} (h : RowAt w ok t A c) (hk : ∀ b, ok b → ok' b ∧ w'.heap[b]? = w.heap[b]?) : RowAt w' ok' t A c := by
  refine ⟨h.node.mono fun b hb => ⟨(hk b hb).1, fun o => World.cell?_of_block (w := w) (a := ⟨b, o, none⟩) (hk b hb).2⟩, ?_⟩
  obtain ⟨n, hn⟩ := h.sl
  exact ⟨n, hn.mono hk⟩
theorem row_leaf (w : World) (ok : Nat → Prop) (t : T) (h : t.ps = []) : RowAt w ok t none 0 :=
  ⟨nodeAt_leafX w ok t h, 0, by rw [h]; exact ⟨rfl, rfl, rfl⟩⟩
theorem sl_all {w : World} {ok : Nat → Prop} : ∀ (L : List Nx), (∀ x ∈ L, RowAt w ok x.1 x.2.1 x.2.2) → ∃ n, ∀ x ∈ L, SL w ok n x.2.1 x.1.ps.length x.2.2
  | [], _ => ⟨0, fun x hx => by simp at hx⟩
  | y :: L, h => by
    obtain ⟨n, hn⟩ := sl_all L (fun x hx => h x (List.mem_cons_of_mem _ hx))
    obtain ⟨m, hm⟩ := (h y (List.mem_cons_self ..)).sl
    refine ⟨max n m, fun x hx => ?_⟩
    rcases List.mem_cons.1 hx with rfl | hx
    · exact hm.le (Nat.le_max_right _ _)
    · exact (hn x hx).le (Nat.le_max_left _ _)
/-- A block that holds these nodes at its beginning. -/
theorem row_block {W : World} {ok : Nat → Prop} {g c : Nat} {cur : Array Value} (R : T) (L : List Nx) (hps : R.ps = L.map (·.1)) (hlc : L.length ≤ c) (hc : c ≤ maxLen) (hlen : L.length ≤ 1000000) (hg : ok g)
    (hb : W.heap[g]? = some (.cells cur 27 (0, 0))) (hs : cur.size = c * 8) (hx : ∀ j, j < L.length * 8 → cur[j]? = (xcells L)[j]?) (hN : ∀ x ∈ L, RowAt W ok x.1 x.2.1 x.2.2) : RowAt W ok R (some ⟨g, 0, none⟩) c := by
  have hcell : ∀ o, W.cell? ⟨g, o, none⟩ = cur[o]? := fun o => cell_of_row W g o cur _ (0, 0) hb
  have hj8 : ∀ (i j : Nat) (hi : i < L.length), j < 8 → cur[i * 8 + j]? = (xcell L[i])[j]? := fun i j hi hj => by
    rw [hx (i * 8 + j) (by omega), xcells_get L i j hi hj]
  refine ⟨(node_litX R L hps (Nat.le_trans hlen (by decide)) hg (fun i x hi => .ofX fun j hj => ?_) (fun i x hi => (hN x (List.mem_of_getElem? hi)).node)).widerX (by rw [hps, List.length_map]; exact hlc), ?_⟩
  · have hl := (List.getElem?_eq_some_iff.1 hi).1
    have he : L[i] = x := (List.getElem?_eq_some_iff.1 hi).2
    rw [hcell, hj8 i j hl hj, he]
  · obtain ⟨n, hn⟩ := sl_all L hN
    refine ⟨n + 1, .inr ⟨g, cur, rfl, hg, hb, hs, by rw [hps, List.length_map]; exact ⟨hlc, hlen⟩, hc, fun i hi => ?_⟩⟩
    rw [hps, List.length_map] at hi
    exact ⟨L[i], fun j hj => hj8 i j hi hj, hn _ (List.getElem_mem hi)⟩
theorem row_lit {W : World} {ok : Nat → Prop} {g : Nat} (R : T) (L : List Nx) (hps : R.ps = L.map (·.1)) (hlen : L.length ≤ 1000000) (hg : ok g) (hb : W.heap[g]? = some (.cells (xcells L).toArray 27 (0, 0))) (hN : ∀ x ∈ L, RowAt W ok x.1 x.2.1 x.2.2) : RowAt W ok R (some ⟨g, 0, none⟩) L.length :=
  row_block R L hps (Nat.le_refl _) (by unfold maxLen; omega) hlen hg hb (by simp [xcells_length]) (fun j hj => by simp) hN
theorem row_own {W : World} {ok : Nat → Prop} {base n : Nat} {A : Option Addr} {c : Nat} (R : T) (ns : List Nx) (hps : R.ps = ns.map (·.1)) (hlen : ns.length = n) (hn : 0 < n) (hn2 : n ≤ 1000000) (h : W.ownsRow base 27 8 (.slice A n c) n (xcells ns)) (hok : ∀ g, base ≤ g → g < W.heap.size → ok g) (hN : ∀ x ∈ ns, RowAt W ok x.1 x.2.1 x.2.2) : RowAt W ok R A c := by
  rcases h.2 with ⟨_, h0⟩ | ⟨g, cap, cur, e, hb, hh, hcap, hcm, hcs, htk⟩
  · omega
  · simp only [Value.slice.injEq] at e
    obtain ⟨rfl, _, rfl⟩ := e
    have hlt : g < W.heap.size := (Array.getElem?_eq_some_iff.1 hh).1
    refine row_block R ns hps (by omega) hcm (by omega) (hok g hb hlt) hh hcs (fun j hj => ?_) hN
    rw [← htk, List.getElem?_take, if_pos (by omega)]
    simp
theorem Off.blockN {p : Nat} {w w' : World} (h : w.grownBy w' (some p)) {b : Nat} (hb : b < w.heap.size) (hn : b ≠ p) : w'.heap[b]? = w.heap[b]? := h.block b hb (by simpa using hn)
end Go.Proofs.YteekafkpeimhoaaDoor

