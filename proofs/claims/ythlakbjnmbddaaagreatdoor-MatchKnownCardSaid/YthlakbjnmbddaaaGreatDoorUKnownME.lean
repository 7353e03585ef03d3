/- Merged texts, part of the proof KnownM: Mk, Qa, Qb, Qc, Qd, Qe, Qf, Qg, Qh, Qi, Qj. -/
import Derived.Test.YthlakbjnmbddaaaGreatDoorUKnownMA
import Derived.Test.YthlakbjnmbddaaaGreatDoorUKnownMB
import Derived.Test.YthlakbjnmbddaaaGreatDoorUKnownMC
import Derived.Test.YthlakbjnmbddaaaGreatDoorUKnownMD
import Derived.Laws.Strings2
import Derived.Deep.QuietTactic
import Derived.BigQuiet
import Derived.Deep.DeepCutAuto
set_option linter.unusedVariables false
set_option linter.unusedSimpArgs false
set_option maxRecDepth 100000
set_option maxHeartbeats 8000000
namespace Go.Proofs.YthlakbjnmbddaaaGreatDoor
open Lib (hid)
open Go.RowKit
theorem gS (s subj : Bs) (w : World) (hM : dc w) :
 Calls Tryz.prog 19 #[.string (bs s), .string (bs subj)] w fun en w' => en = .returned (.tuple #[.bool (aK s subj).1, .int .i64 (aK s subj).2.1, .int .i64 (aK s subj).2.2]) ∧ Below w.heap.size w w' := cX s subj w hM (fun _ => brC) (fun _ => uL)
theorem jE (n k : Nat) (h : k ≤ n) : (bs (List.replicate n 98)).extract 0 k = bs (List.replicate k 98) := by
 apply ByteArray.ext
 simp [bs, ByteArray.data_extract]
 omega
theorem zC (n : Nat) (h1 : 65536 < n) (h2 : n ≤ 131072) : ∃ x0 x1 x2 x3 : Bs, (bs (List.replicate n 98)).extract 0 65535 = bs x0 ∧ bs x0 ++ bs [97] = bs x1 ∧ (bs x0).size = 65535 ∧ (bs (List.replicate n 98)).extract 0 65536 = bs x2 ∧ (bs (List.replicate n 98)).extract 0 65537 = bs x3 ∧ (bs (List.replicate n 98)).size = n ∧
 aK [97] x1 = (true, 65538, 0) ∧ aK [97] x2 = (false, 65537, 0) ∧ aK [98] x3 = (false, 0, 3) ∧ aK [97, 123, 51, 125, 40] (List.replicate n 98) = (false, 0, 100) ∧ dK [] 0 (List.replicate n 98) = (false, 0, 110) :=
 ⟨List.replicate 65535 98, List.replicate 65535 98 ++ [97], List.replicate 65536 98, List.replicate 65537 98, jE n 65535 (by omega), zt _ _, by rw [wP, List.length_replicate], jE n 65536 (by omega), jE n 65537 (by omega), by rw [wP, List.length_replicate],
  uh 65535 (by omega), ug 65536 (by omega), uf _ (by rw [List.length_replicate]; omega), vW _, xF _⟩
theorem rt (hK : K0 16) : K0 7 := by
 intro w hE
 have HK := hid hK; have HE := hid hE
 clear hK hE
 go_enter Tryz.func7, Tryz.ntmps7
 go_wp2_with fail
 go_loopg [1] 131071 (fun n v wr => ∃ k : Nat, v = .string (bs (List.replicate k 98)) ∧ k + n = 131072 ∧ 1 ≤ k ∧ wr = w)
 case atStart => exact ⟨1, rfl, rfl, Nat.le_refl _, rfl⟩
 case round =>
  obtain ⟨k, rfl, hk, hk1, rfl⟩ := hrel
  by_cases hlt : k ≤ 65536
  · have hsz : (bs (List.replicate k 98)).size = k := by rw [wP, List.length_replicate]
    have hc : bs (List.replicate k 98) ++ bs (List.replicate k 98) = bs (List.replicate (k + k) 98) := by rw [zt, List.replicate_append_replicate]
    obtain ⟨x2, hx2⟩ : ∃ x2, x2 = List.replicate (k + k) (98 : UInt8) := ⟨_, rfl⟩
    rw [← hx2] at hc
    generalize List.replicate k (98 : UInt8) = x at *
    have Hx2 := hid hx2
    clear hx2
    go_wp2_with fail
    go_roundg (131072 - (k + k))
    case measure => omega
    case rel => exact ⟨k + k, by rw [Hx2.out], by omega, by omega, rfl⟩
  · have hlt' : 65536 < k := by omega
    obtain ⟨x0, x1, x2, x3, e0, e1, e2, e3, e4, e5, q1, q2, q3, q4, q5⟩ := zC k hlt' (by omega)
    generalize List.replicate k (98 : UInt8) = x at *
    have Q1 := hid q1; have Q2 := hid q2; have Q3 := hid q3; have Q4 := hid q4; have Q5 := hid q5
    clear q1 q2 q3 q4 q5
    go_wp2_with fail
    refine (gS [97] x1 wr HE.out.mx).mono ?_
    rintro e w1 ⟨rfl, hb1⟩
    have HE1 := hid (HE.out.step hb1); have HB1 := hid hb1
    clear hb1 e0 e1 e2
    simp only [Q1.out]
    go_wp2_with fail
    refine (gS [97] x2 w1 HE1.out.mx).mono ?_
    rintro e w2 ⟨rfl, hb2⟩
    have HE2 := hid (HE1.out.step hb2); have HB2 := hid (HB1.out.trans (hb2.mono HB1.out.size))
    clear hb2 HE1 HB1 e3
    simp only [Q2.out]
    go_wp2_with fail
    refine (gS [98] x3 w2 HE2.out.mx).mono ?_
    rintro e w3 ⟨rfl, hb3⟩
    have HE3 := hid (HE2.out.step hb3); have HB3 := hid (HB2.out.trans (hb3.mono HB2.out.size))
    clear hb3 HE2 HB2 e4
    simp only [Q3.out]
    go_wp2_with fail
    refine (gS [97, 123, 51, 125, 40] x w3 HE3.out.mx).mono ?_
    rintro e w4 ⟨rfl, hb4⟩
    have HE4 := hid (HE3.out.step hb4); have HB4 := hid (HB3.out.trans (hb4.mono HB3.out.size))
    clear hb4 HE3 HB3
    simp only [Q4.out]
    go_wp2_with fail
    refine (ic w4 (fun _ => False) [] 0 none 0 (sA _ _) (fun b h => h.elim) x).mono ?_
    rintro e w5 ⟨rfl, hb5⟩
    have HE5 := hid (HE4.out.step hb5); have HB5 := hid (HB4.out.trans (hb5.mono HB4.out.size))
    clear hb5 HE4 HB4
    simp only [Q5.out]
    go_wp2_with fail
    refine (HK.out w5 HE5.out).mono ?_
    rintro e w6 ⟨rfl, hb6⟩
    go_wp2_with fail
    go_ret
    exact ⟨rfl, HB5.out.trans (hb6.mono HB5.out.size)⟩
structure Rdq (w : World) (p : Nat) (S : Bs) (k : Nat) (op e : Int) : Prop where
 c0 : w.cell? ⟨p, 0, none⟩ = some (.string (bs S))
 c1 : w.cell? ⟨p, 1, none⟩ = some (.int .i64 k)
 c2 : w.cell? ⟨p, 2, none⟩ = some (.int .i64 op)
 c3 : w.cell? ⟨p, 3, none⟩ = some (.int .i64 e)
 z : ∀ o, w.frozen? ⟨p, o, none⟩ = false
 lt : p < w.heap.size
 le : k ≤ S.length
 top : S.length ≤ 1024
theorem Rdq.later {w w' : World} {p : Nat} {S : Bs} {k : Nat} {op e : Int} (h : Rdq w p S k op e) (hb : Below w.heap.size w w') : Rdq w' p S k op e :=
 ⟨(hb.cell (p := ⟨p, 0, none⟩) h.lt).trans h.c0, (hb.cell (p := ⟨p, 1, none⟩) h.lt).trans h.c1, (hb.cell (p := ⟨p, 2, none⟩) h.lt).trans h.c2, (hb.cell (p := ⟨p, 3, none⟩) h.lt).trans h.c3, fun o => (hb.frozen (p := ⟨p, o, none⟩) h.lt).trans (h.z o), Nat.lt_of_lt_of_le h.lt hb.size, h.le, h.top⟩
theorem Rdq.set1 {w : World} {p : Nat} {S : Bs} {k : Nat} {op e : Int} (h : Rdq w p S k op e) {k' : Nat} (hk : k' ≤ S.length) : Rdq (w.setCell ⟨p, 1, none⟩ (.int .i64 k')) p S k' op e :=
 ⟨(World.cell?_setCell_other _ _ _ _ (by simp)).trans h.c0, World.cell?_setCell_same _ _ _ h.c1, (World.cell?_setCell_other _ _ _ _ (by simp)).trans h.c2, (World.cell?_setCell_other _ _ _ _ (by simp)).trans h.c3, fun o => by rw [World.frozen?_setCell]; exact h.z o, by simpa using h.lt, hk, h.top⟩
theorem Rdq.set2 {w : World} {p : Nat} {S : Bs} {k : Nat} {op e : Int} (h : Rdq w p S k op e) (op' : Int) : Rdq (w.setCell ⟨p, 2, none⟩ (.int .i64 op')) p S k op' e :=
 ⟨(World.cell?_setCell_other _ _ _ _ (by simp)).trans h.c0, (World.cell?_setCell_other _ _ _ _ (by simp)).trans h.c1, World.cell?_setCell_same _ _ _ h.c2, (World.cell?_setCell_other _ _ _ _ (by simp)).trans h.c3, fun o => by rw [World.frozen?_setCell]; exact h.z o, by simpa using h.lt, h.le, h.top⟩
theorem Rdq.set3 {w : World} {p : Nat} {S : Bs} {k : Nat} {op e : Int} (h : Rdq w p S k op e) (e' : Int) : Rdq (w.setCell ⟨p, 3, none⟩ (.int .i64 e')) p S k op e' :=
 ⟨(World.cell?_setCell_other _ _ _ _ (by simp)).trans h.c0, (World.cell?_setCell_other _ _ _ _ (by simp)).trans h.c1, (World.cell?_setCell_other _ _ _ _ (by simp)).trans h.c2, World.cell?_setCell_same _ _ _ h.c3, fun o => by rw [World.frozen?_setCell]; exact h.z o, by simpa using h.lt, h.le, h.top⟩
structure RQ (w : World) (p : Nat) (S : Bs) (k : Nat) (op : Int) (s : Rs) : Prop where
 rdr : Rdq w p S k op s.no
 ok : ∀ r, s = .ok r → r = S.drop k
 ne : ∀ e, s = .error e → e ≠ 0
theorem RQ.later {w w' : World} {p : Nat} {S : Bs} {k : Nat} {op : Int} {s : Rs} (h : RQ w p S k op s) (hb : Below w.heap.size w w') : RQ w' p S k op s := ⟨h.rdr.later hb, h.ok, h.ne⟩
theorem RQ.lt {w : World} {p : Nat} {S : Bs} {k : Nat} {op : Int} {s : Rs} (h : RQ w p S k op s) : p < w.heap.size := h.rdr.lt
theorem RQ.len {w : World} {p : Nat} {S : Bs} {k : Nat} {op : Int} {r : Bs} (h : RQ w p S k op (.ok r)) : r.length = S.length - k := by rw [h.ok r rfl]; simp
theorem dn (r : Bs) : (bs r).size = r.length := by simp [bs, ByteArray.size]
theorem uz (S : Bs) (k n : Nat) (h : k + n ≤ S.length) : (bs S).extract k (k + n) = bs ((S.drop k).take n) := by
 rw [Lib.extract_eq]
 congr 2
 simp only [bs]
 rw [show k + n - k = n by omega]
theorem iQ (S : Bs) (i n : Nat) (h : i + n ≤ S.length) (w : World) : (Instr.slice 9 (.string (bs S)) (some (.int .i64 (i : Int))) (some (.int .i64 ((i : Int) + (n : Int)))) none).run Tryz.prog w = .ok (.string (bs ((S.drop i).take n))) w := by
 rw [run_slice_string (h := Tryz.underlying9) (h0 := by omega) (h1 := by omega) (h2 := by rw [dn]; omega), ← uz S i n h]
 rfl
theorem sU (q r : Bs) (h : q.length ≤ r.length) : (r.take q.length == q) = q.isPrefixOf r := by
 rw [Bool.eq_iff_iff, beq_iff_eq, List.isPrefixOf_iff_prefix]
 constructor
 · intro e; rw [← e]; exact List.take_prefix _ _
 · rintro ⟨t, rfl⟩; simp
theorem dV (w : World) (p : Nat) (S : Bs) (k : Nat) (op : Int) (s : Rs) (x : Int) (hx : x ≠ 0) (h : RQ w p S k op s) :
 Calls Tryz.prog 66 #[.pointer (some ⟨p, 0, none⟩), .int .i64 x] w fun en w' => en = .returned (.tuple #[]) ∧ RQ w' p S k op (wR s x) ∧ Off p w w' := by
 have c3 := h.rdr.c3
 have z3 := h.rdr.z 3
 cases s with
 | ok r =>
  simp only [Rs.no] at c3
  have H := hid h; clear h
  go_enter Tryz.func66, Tryz.ntmps66
  go_wp2_with fail
  go_end0
  exact ⟨rfl, ⟨H.out.rdr.set3 x, (fun r he => by cases he), fun e he => by cases he; exact hx⟩, (Off.refl p w).set _ _⟩
 | error e =>
  have hne := h.ne e rfl
  simp only [Rs.no] at c3
  have hb : (e == 0) = false := by rw [beq_eq_false_iff_ne]; exact hne
  have H := hid h; clear h hne
  go_enter Tryz.func66, Tryz.ntmps66
  go_wp2_with fail
  go_end0
  exact ⟨rfl, H.out, Off.refl p w⟩
theorem pv (w : World) (n : Nat) : Below w.heap.size w (w.drewN n) := ⟨rfl, rfl, rfl, Nat.le_refl _, fun _ _ => rfl⟩
theorem RQ.drewN {w : World} {p : Nat} {S : Bs} {k : Nat} {op : Int} {s : Rs} (h : RQ w p S k op s) (n : Nat) : RQ (w.drewN n) p S k op s := h.later (pv w n)
theorem mN (p : Nat) (w : World) (n : Nat) : Off p w (w.drewN n) := Off.of_below (pv w n)
theorem wJ (w : World) (p : Nat) (S : Bs) (k : Nat) (op : Int) (s : Rs) (q : Bs) (hq : q.length ≤ 100) (h : RQ w p S k op s) :
 Calls Tryz.prog 102 #[.pointer (some ⟨p, 0, none⟩), .string (bs q)] w fun en w' => en = .returned (.bool (cP q s).1) ∧ ∃ m, w' = w.drewN m := by
 obtain ⟨c0, c1, c2, c3, z, lt, le, top⟩ := h.rdr
 have sq := dn q
 have sS := dn S
 cases s with
 | error e =>
  have hne := h.ne e rfl
  simp only [Rs.no] at c3
  have hb : (e == 0) = false := by rw [beq_eq_false_iff_ne]; exact hne
  have HT := hid (show (cP q (.error e)).1 = false from rfl)
  clear h hne z
  go_enter Tryz.func102, Tryz.ntmps102
  go_wp2_with fail
  go_quiet (fail)
  go_wp2_with fail
  go_ret
  exact ⟨by rw [HT.out]; rfl, _, rfl⟩
 | ok r =>
  simp only [Rs.no] at c3
  have hr := h.ok r rfl
  have hrl := h.len
  have Hr := hid hr
  clear h z hr
  by_cases hlt : k + q.length ≤ S.length
  · have he := fun w => iQ S k q.length hlt w
    have hp : ((S.drop k).take q.length == q) = (cP q (.ok r)).1 := by
     rw [sU _ _ (by simp; omega), fD, Hr.out]
    have HP := hid hp
    have hle : (k : Int) + (q.length : Int) ≤ (S.length : Int) := by omega
    clear hp Hr hlt
    go_enter Tryz.func102, Tryz.ntmps102
    go_wp2_with fail
    go_quiet (fail)
    go_wp2_with fail
    go_ret
    exact ⟨by rw [← HP.out]; rfl, _, rfl⟩
  · have hp : (cP q (.ok r)).1 = false := by
     rw [fD]
     show q.isPrefixOf r = false
     rw [← Bool.not_eq_true]
     intro hh
     have := gA hh
     omega
    have HP := hid hp
    have hle : decide ((k : Int) + (q.length : Int) ≤ (S.length : Int)) = false := by rw [decide_eq_false_iff_not]; omega
    clear hp Hr hlt
    go_enter Tryz.func102, Tryz.ntmps102
    go_wp2_with fail
    go_quiet (fail)
    go_wp2_with fail
    go_ret
    exact ⟨by rw [HP.out]; rfl, _, rfl⟩
theorem gJ (w : World) (p : Nat) (S : Bs) (k : Nat) (op : Int) (s : Rs) (q : Bs) (hq : q.length ≤ 100) (h : RQ w p S k op s) :
 Calls Tryz.prog 86 #[.pointer (some ⟨p, 0, none⟩), .string (bs q)] w fun en w' => en = .returned (.bool (cP q s).1) ∧ (∃ k', RQ w' p S k' op (cP q s).2) ∧ Off p w w' := by
 have sq := dn q
 have H := hid h
 have Ci := hid (wJ w p S k op s q hq h)
 clear h
 cases hi : (cP q s).1 with
 | false =>
  have ht : (cP q s).2 = s := by
   cases s with
   | error e => rfl
   | ok r =>
    rw [fD] at hi ⊢
    simp only at hi
    unfold nZ
    rw [hi]; rfl
  have HT := hid ht
  have HI := hid hi
  clear ht hi
  go_enter Tryz.func86, Tryz.ntmps86
  go_wp2_with fail
  refine Ci.out.mono ?_
  rintro en w1 ⟨rfl, m, rfl⟩
  rw [HI.out]
  go_wp2_with fail
  go_ret
  exact ⟨rfl, ⟨k, by rw [HT.out]; exact H.out.drewN m⟩, mN p w m⟩
 | true =>
  cases s with
  | error e => cases hi
  | ok r =>
   have hs := hi
   rw [fD] at hs
   simp only at hs
   have hlen := gA hs
   have hr := H.out.len
   have ht : (cP q (.ok r)).2 = .ok (r.drop q.length) := by
    rw [fD]
    show Except.ok (nZ q r) = _
    unfold nZ
    rw [if_pos hs]
   have HT := hid ht
   have HI := hid hi
   clear ht hi hs
   go_enter Tryz.func86, Tryz.ntmps86
   go_wp2_with fail
   refine Ci.out.mono ?_
   rintro en w1 ⟨rfl, m, rfl⟩
   rw [HI.out]
   have hR := H.out.drewN m
   have c1 := hR.rdr.c1
   have z1 := hR.rdr.z 1
   have hkb : k ≤ 1024 := Nat.le_trans hR.rdr.le hR.rdr.top
   have HR := hid hR
   have HO := hid (mN p w m)
   generalize w.drewN m = w1 at *
   clear hR
   go_wp2_with fail
   go_ret
   refine ⟨rfl, ⟨k + q.length, ?_⟩, HO.out.set _ _⟩
   rw [HT.out]
   have := HR.out.rdr.set1 (k' := k + q.length) (by have := HR.out.rdr.le; omega)
   refine ⟨?_, fun r' he => ?_, fun e he => by cases he⟩
   · rw [show ((k + q.length : Nat) : Int) = (k : Int) + q.length by omega] at this
     exact this
   · cases he
     rw [HR.out.ok r rfl, List.drop_drop]
def ev (s : Rs) : Bool := match s with
 | .ok [] => true
 | .ok (_ :: _) => false
 | .error _ => true
theorem qh (w : World) (p : Nat) (S : Bs) (k : Nat) (op : Int) (s : Rs) (h : RQ w p S k op s) :
 Calls Tryz.prog 65 #[.pointer (some ⟨p, 0, none⟩)] w fun en w' => en = .returned (.bool (ev s)) ∧ ∃ m, w' = w.drewN m := by
 obtain ⟨c0, c1, c2, c3, z, lt, le, top⟩ := h.rdr
 have sS := dn S
 clear z
 rcases s with e | (_ | ⟨c, t⟩)
 · have hne := h.ne e rfl
   simp only [Rs.no] at c3
   have hb : (e != 0) = true := by rw [bne_iff_ne]; exact hne
   clear h
   go_enter Tryz.func65, Tryz.ntmps65
   go_wp2_with fail
   go_quiet (fail)
   go_wp2_with fail
   go_ret
   exact ⟨rfl, _, rfl⟩
 · have hl := h.len
   simp only [Rs.no] at c3
   simp only [List.length_nil] at hl
   have hle : (S.length : Int) ≤ (k : Int) := by omega
   clear h hl
   go_enter Tryz.func65, Tryz.ntmps65
   go_wp2_with fail
   go_quiet (fail)
   go_wp2_with fail
   go_ret
   exact ⟨rfl, _, rfl⟩
 · have hl := h.len
   simp only [Rs.no] at c3
   simp only [List.length_cons] at hl
   have Hge := hid (show ¬ S.length ≤ k by omega)
   have hle : decide ((S.length : Int) ≤ (k : Int)) = false := by rw [decide_eq_false_iff_not]; omega
   clear h hl
   go_enter Tryz.func65, Tryz.ntmps65
   go_wp2_with fail
   go_quiet (fail)
   go_wp2_with fail
   go_ret
   exact ⟨congrArg (fun b => Ending.returned (.bool b)) (decide_eq_false Hge.out), _, rfl⟩
theorem xT {w : World} {p : Nat} {S : Bs} {k : Nat} {op : Int} {s : Rs} (q : Bs) (hq : q.length ≤ 100) (h : RQ w p S k op s) :
 Calls Tryz.prog 102 #[.pointer (some ⟨p, 0, none⟩), .string (bs q)] w fun en w' => en = .returned (.bool (cP q s).1) ∧ RQ w' p S k op s ∧ Off p w w' := by
 refine (wJ w p S k op s q hq h).mono ?_
 rintro en w' ⟨rfl, m, rfl⟩
 exact ⟨rfl, h.drewN m, mN p w m⟩
theorem kC {w : World} {p : Nat} {S : Bs} {k : Nat} {op : Int} {s : Rs} (h : RQ w p S k op s) :
 Calls Tryz.prog 65 #[.pointer (some ⟨p, 0, none⟩)] w fun en w' => en = .returned (.bool (ev s)) ∧ RQ w' p S k op s ∧ Off p w w' := by
 refine (qh w p S k op s h).mono ?_
 rintro en w' ⟨rfl, m, rfl⟩
 exact ⟨rfl, h.drewN m, mN p w m⟩
theorem Off.drew {p : Nat} {w w' : World} (h : Off p w w') : Off p w w'.drew := h.trans (Off.of_below (Below.refl _ _).drew)
theorem RQ.drew {w : World} {p : Nat} {S : Bs} {k : Nat} {op : Int} {s : Rs} (h : RQ w p S k op s) : RQ w.drew p S k op s := h.later (Below.refl _ _).drew
theorem xL (a b : Bs) : bs a ++ bs b = bs (a ++ b) := by
 apply ByteArray.ext
 simp [bs]
theorem rU {w : World} {p : Nat} {S : Bs} {k : Nat} {op : Int} {s : Rs} (b : Bool) (hb : ev s = b) (h : RQ w p S k op s) (n : Nat) :
 Calls Tryz.prog 65 #[.pointer (some ⟨p, 0, none⟩)] (w.drewN n) fun en w' => en = .returned (.bool b) ∧ ∃ m, w' = (w.drewN n).drewN m := by
 subst hb
 exact qh (w.drewN n) p S k op s (h.drewN n)
def yg (p : Nat) (S : Bs) (op : Int) (f : Bs → Except Int (Nat × Bs)) (r : Bs) (w : World) (en : Ending) (w' : World) : Prop :=
 ∃ (c : Nat) (k' : Nat) (s' : Rs), c < 256 ∧ en = .returned (.int .u8 (c : Nat)) ∧ RQ w' p S k' op s' ∧ Off p w w' ∧ Out f (.ok r) (fun x => c = x) s'
theorem nN {g : UInt8} {r : Bs} (h : r.length < 3) : be g r = .error 101 := by
 unfold be
 match r, h with
 | [], _ => rfl
 | [c], _ => simp [aq, List.isPrefixOf]
 | [c, d], _ => simp [aq, List.isPrefixOf]
theorem nM {g c d e : UInt8} {t : Bs} : be g (c :: d :: e :: t) = if d = g ∧ e = 93 then .ok (c.toNat, t) else .error 101 := by
 unfold be
 simp only [aq, List.isPrefixOf, Bool.and_true]
 by_cases h1 : d = g
 · by_cases h2 : e = 93
   · subst h1 h2; simp
   · rw [if_neg (by simp [h1]; exact fun h => h2 h.symm)]
     rw [if_neg (fun h => h2 h.2)]
 · rw [if_neg (by simp; intro h; exact absurd h.symm h1), if_neg (fun h => h1 h.1)]
theorem RQ.at_ {w : World} {p : Nat} {S : Bs} {k : Nat} {op : Int} {c : UInt8} {t : Bs} (h : RQ w p S k op (.ok (c :: t))) : k < S.length ∧ ∀ hh, S[k]'hh = c := by
 have hl := h.len
 have hr := h.ok _ rfl
 simp only [List.length_cons] at hl
 have hk : k < S.length := by omega
 refine ⟨hk, fun hh => ?_⟩
 rw [List.drop_eq_getElem_cons hk] at hr
 simp only [List.cons.injEq] at hr
 exact hr.1.symm
theorem RQ.step {w : World} {p : Nat} {S : Bs} {k : Nat} {op : Int} {r : Bs} (h : RQ w p S k op (.ok r)) (n : Nat) (hn : n ≤ r.length) : RQ (w.setCell ⟨p, 1, none⟩ (.int .i64 ((k : Int) + (n : Int)))) p S (k + n) op (.ok (r.drop n)) := by
 have hl := h.len
 have := h.rdr.set1 (k' := k + n) (by have := h.rdr.le; omega)
 refine ⟨?_, fun r' he => ?_, fun e he => by cases he⟩
 · rw [show ((k + n : Nat) : Int) = (k : Int) + n by omega] at this
   exact this
 · cases he
   rw [h.ok r rfl, List.drop_drop]
theorem jW (w : World) (p : Nat) (S : Bs) (k : Nat) (op : Int) (a b : UInt8) (r : Bs) (g : UInt8) (h : RQ w p S k op (.ok (a :: b :: r))) :
 Calls Tryz.prog 160 #[.pointer (some ⟨p, 0, none⟩), .string (bs [g])] w fun en w' => yg p S op (be g) r w en w' := by
 obtain ⟨c0, c1, c2, c3, z, lt, le, top⟩ := h.rdr
 have z1 := z 1
 have sS := dn S
 have hl := h.len
 simp only [List.length_cons] at hl
 have hkb : k ≤ 1000 + 24 := by omega
 have hst := h.step 2 (by simp)
 simp only [List.drop_succ_cons, List.drop_zero] at hst
 have HST := hid hst
 have cc : bs [g] ++ bs [93] = bs [g, 93] := xL _ _
 have Hl := hid hl
 clear h z hst hl
 go_enter Tryz.func160, Tryz.ntmps160
 go_upto_region 2 with fail
 generalize hW : w.setCell ⟨p, 1, none⟩ _ = W1
 have hr1 : RQ W1 p S (k + 2) op (.ok r) := by subst hW; exact HST.out
 have hO1 : Off p w W1 := by subst hW; exact (Off.refl p w).set _ _
 clear hW HST c0 c1 c2 c3 z1
 have hk2 : ∃ k2, RQ W1 p S k2 op (.ok r) := ⟨_, hr1⟩
 clear hr1 Hl hkb le
 obtain ⟨k2, hr1⟩ := hk2
 obtain ⟨c0, c1, c2, c3, z, lt1, le1, top1⟩ := hr1.rdr
 have hlen1 := hr1.len
 have HR1 := hid hr1; have HO1 := hid hO1
 have hkb2 : k2 ≤ 1024 := by omega
 clear z hr1 hO1
 by_cases hs : r.length < 3
 · have Hs := hid (nN (g := g) hs)
   have hgt : (S.length : Int) < (k2 : Int) + 3 := by have := hlen1; have := HR1.out.rdr.le; omega
   clear hs hlen1
   go_quiet (fail)
   go_wp2_with fail
   refine (dV _ p S k2 op (.ok r) 101 (by omega) (HR1.out.drewN _)).mono ?_
   rintro en w3 ⟨rfl, h3, hO3⟩
   go_wp2_with fail
   go_ret
   exact ⟨0, k2, _, by omega, rfl, h3, (HO1.out.trans (mN p _ _)).trans hO3, Out.bad Hs.out⟩
 · obtain ⟨c, d, e, t, rfl⟩ : ∃ c d e t, r = c :: d :: e :: t := by
    match r, hs with
    | c :: d :: e :: t, _ => exact ⟨c, d, e, t, rfl⟩
    | [], h => simp at h
    | [_], h => simp at h
    | [_, _], h => simp at h
   simp only [List.length_cons] at hlen1
   have hgt : decide ((S.length : Int) < (k2 : Int) + 3) = false := by rw [decide_eq_false_iff_not]; omega
   have hcut := fun w => iQ S (k2 + 1) 2 (by omega) w
   have hdr : (S.drop (k2 + 1)).take 2 = [d, e] := by
    have h0 := HR1.out.ok _ rfl
    rw [← List.drop_drop, ← h0]; rfl
   rw [hdr] at hcut
   have hcut' : ∀ w, (Instr.slice 9 (.string (bs S)) (some (.int .i64 ((k2 : Int) + 1))) (some (.int .i64 ((k2 : Int) + 3))) none).run Tryz.prog w = .ok (.string (bs [d, e])) w := fun w => by
    have := hcut w
    rw [show ((k2 + 1 : Nat) : Int) + ((2 : Nat) : Int) = (k2 : Int) + 3 by omega, show ((k2 + 1 : Nat) : Int) = (k2 : Int) + 1 by omega] at this
    exact this
   clear hcut hdr hs
   have hat := HR1.out.at_
   have hkS := hat.1
   have Hlen1 := hid hlen1
   clear hlen1
   have H3 := hid (nM (g := g) (c := c) (d := d) (e := e) (t := t))
   have hcl := c.toNat_lt
   by_cases hde : d = g ∧ e = 93
   · obtain ⟨rfl, rfl⟩ := hde
     have Hs := hid (show be d (c :: d :: 93 :: t) = .ok (c.toNat, t) by rw [H3.out, if_pos ⟨rfl, rfl⟩])
     have hne : (([d, 93] : Bs) != [d, 93]) = false := by simp
     have hix := hat.2
     have hkI : (k2 : Int) < (S.length : Int) := by omega
     clear H3 hat
     go_quiet (fail)
     go_wp2_with fail
     have hq := HR1.out.drewN nq
     have HO2 := hid (HO1.out.trans (mN p W1 nq))
     generalize W1.drewN nq = Wa at *
     have HRa := hid hq
     have b0 := hq.rdr.c0
     have b1 := hq.rdr.c1
     clear hq c0 c1 c2 c3 hcut' HO1
     go_quiet (fail)
     have hq := HRa.out.drewN nq
     have HO3 := hid (HO2.out.trans (mN p Wa nq))
     generalize Wa.drewN nq = Wb at *
     have HRb := hid hq
     have c1 := hq.rdr.c1
     have z1 := hq.rdr.z 1
     clear hq b0 b1 HO2 HRa
     go_wp2_with fail
     go_ret
     have hst := HRb.out.step 3 (by simp)
     refine ⟨c.toNat, k2 + 3, _, hcl, by rw [← hix hkS]; rfl, hst, HO3.out.set _ _, Out.good Hs.out rfl⟩
   · have Hs := hid (show be g (c :: d :: e :: t) = .error 101 by rw [H3.out, if_neg hde])
     have hne : (([d, e] : Bs) != [g, 93]) = true := by
      rw [bne_iff_ne]; intro h; simp at h; exact hde h
     have hne2 : ((!d == g) || (!e == 93)) = true := by
      rw [Bool.or_eq_true, Bool.not_eq_true', Bool.not_eq_true', beq_eq_false_iff_ne, beq_eq_false_iff_ne]
      by_cases h : d = g
      · exact .inr (fun h2 => hde ⟨h, h2⟩)
      · exact .inl h
     clear H3 hat hde
     go_quiet (fail)
     go_wp2_with fail
     refine (dV _ p S k2 op (.ok (c :: d :: e :: t)) 101 (by omega) (HR1.out.drewN _)).mono ?_
     rintro en w3 ⟨rfl, h3, hO3⟩
     go_wp2_with fail
     go_ret
     exact ⟨0, k2, _, by omega, rfl, h3, (HO1.out.trans (mN p _ _)).trans hO3, Out.bad Hs.out⟩
def dj (sec : Bool) (r : Bs) : Except Int (Nat × Bs) := if (sec && ((cP [91, 58] (.ok r)).1 || (cP [91, 61] (.ok r)).1)) = true then .error 101 else aS r
theorem fK {q r r' : Bs} (h : aq q r = some r') : cP q (.ok r) = (true, .ok r') := by simp only [cP, h]
theorem fL {q r : Bs} (h : aq q r = none) : cP q (.ok r) = (false, .ok r) := by simp only [cP, h]
theorem vl {a b : UInt8} {r r' : Bs} (h : aq [a, b] r = some r') : r = a :: b :: r' := by
 unfold aq at h
 split at h
 · rename_i hp
   simp only [Option.some.injEq] at h
   subst h
   obtain ⟨t, ht⟩ := List.isPrefixOf_iff_prefix.1 hp
   subst ht
   rfl
 · cases h
theorem jX (w : World) (p : Nat) (S : Bs) (k : Nat) (op : Int) (r : Bs) (sec : Bool) (h : RQ w p S k op (.ok r)) :
 Calls Tryz.prog 161 #[.pointer (some ⟨p, 0, none⟩), .bool sec] w fun en w' => yg p S op (dj sec) r w en w' := by
 have H := hid h
 have Hd := hid (kC h)
 clear h
 cases r with
 | nil =>
  have hs : dj sec [] = .error 101 := by unfold dj; split <;> rfl
  have Hs := hid hs
  clear hs
  go_enter Tryz.func161, Tryz.ntmps161
  go_wp2_with fail
  refine Hd.out.mono ?_
  rintro en w1 ⟨rfl, h1, hO1⟩
  rw [show ev (.ok []) = true from rfl]
  go_wp2_with fail
  refine (dV _ p S k op (.ok []) 101 (by omega) h1).mono ?_
  rintro en wz ⟨rfl, hz, hOz⟩
  go_wp2_with fail
  go_ret
  exact ⟨0, k, _, by omega, rfl, hz, hO1.trans hOz, Out.bad Hs.out⟩
 | cons c t =>
  have hc := c.toNat_lt
  have Hi := hid (fun w (h : RQ w p S k op (.ok (c :: t))) => xT [91, 46] (by simp) h)
  have Hj := hid (fun w (h : RQ w p S k op (.ok (c :: t))) => xT [91, 58] (by simp) h)
  have Hk := hid (fun w (h : RQ w p S k op (.ok (c :: t))) => xT [91, 61] (by simp) h)
  cases ht : aq [91, 46] (c :: t) with
  | some r1 =>
   have e := vl ht
   simp only [List.cons.injEq] at e
   obtain ⟨rfl, rfl⟩ := e
   have hs : dj sec (91 :: 46 :: r1) = be 46 r1 := by
    unfold dj
    rw [if_neg (by simp [cP, aq, List.isPrefixOf])]
    simp only [aS, ht]
   have Hs := hid hs
   have HT := hid (congrArg Prod.fst (fK ht))
   clear hs ht Hj Hk
   go_enter Tryz.func161, Tryz.ntmps161
   go_wp2_with fail
   refine Hd.out.mono ?_
   rintro en w1 ⟨rfl, h1, hO1⟩
   rw [show ev (.ok (91 :: 46 :: r1)) = false from rfl]
   go_wp2_with fail
   refine (Hi.out _ h1).mono ?_
   rintro en w2 ⟨rfl, h2, hO2⟩
   rw [HT.out]
   go_wp2_with fail
   refine (jW _ p S k op 91 46 r1 46 h2).mono ?_
   rintro en wz ⟨c3, k3, s3, hc3, rfl, hz, hOz, ho3⟩
   have Ho := hid ho3
   clear ho3
   go_wp2_with fail
   go_ret
   exact ⟨c3, k3, s3, hc3, rfl, hz, (hO1.trans hO2).trans hOz, by have := Ho.out; simp only [Out] at this ⊢; rw [Hs.out]; exact this⟩
  | none =>
   have HT := hid (congrArg Prod.fst (fL ht))
   have hmem : aS (c :: t) = .ok (c.toNat, t) := by simp only [aS, ht]
   have Hmem := hid hmem
   clear ht hmem
   cases hsec : (sec && ((cP [91, 58] (.ok (c :: t))).1 || (cP [91, 61] (.ok (c :: t))).1)) with
   | true =>
    have Hs := hid (show dj sec (c :: t) = .error 101 by unfold dj; rw [if_pos hsec])
    cases sec with
    | false => cases hsec
    | true =>
    rw [Bool.true_and] at hsec
    cases h58 : (cP [91, 58] (.ok (c :: t))).1 with
    | true =>
     have H58 := hid h58
     clear hsec h58
     go_enter Tryz.func161, Tryz.ntmps161
     go_wp2_with fail
     refine Hd.out.mono ?_
     rintro en w1 ⟨rfl, h1, hO1⟩
     rw [show ev (.ok (c :: t)) = false from rfl]
     go_wp2_with fail
     refine (Hi.out _ h1).mono ?_
     rintro en w2 ⟨rfl, h2, hO2⟩
     rw [HT.out]
     go_wp2_with fail
     refine (Hj.out _ h2).mono ?_
     rintro en w3 ⟨rfl, h3, hO3⟩
     rw [H58.out]
     go_wp2_with fail
     refine (dV _ p S k op (.ok (c :: t)) 101 (by omega) h3).mono ?_
     rintro en wz ⟨rfl, hz, hOz⟩
     go_wp2_with fail
     go_ret
     exact ⟨0, k, _, by omega, rfl, hz, ((hO1.trans hO2).trans hO3).trans hOz, Out.bad Hs.out⟩
    | false =>
     rw [h58, Bool.false_or] at hsec
     have H58 := hid h58
     have H61 := hid hsec
     clear hsec h58
     go_enter Tryz.func161, Tryz.ntmps161
     go_wp2_with fail
     refine Hd.out.mono ?_
     rintro en w1 ⟨rfl, h1, hO1⟩
     rw [show ev (.ok (c :: t)) = false from rfl]
     go_wp2_with fail
     refine (Hi.out _ h1).mono ?_
     rintro en w2 ⟨rfl, h2, hO2⟩
     rw [HT.out]
     go_wp2_with fail
     refine (Hj.out _ h2).mono ?_
     rintro en w3 ⟨rfl, h3, hO3⟩
     rw [H58.out]
     go_wp2_with fail
     refine (Hk.out _ h3).mono ?_
     rintro en w4 ⟨rfl, h4, hO4⟩
     rw [H61.out]
     go_wp2_with fail
     refine (dV _ p S k op (.ok (c :: t)) 101 (by omega) h4).mono ?_
     rintro en wz ⟨rfl, hz, hOz⟩
     go_wp2_with fail
     go_ret
     exact ⟨0, k, _, by omega, rfl, hz, (((hO1.trans hO2).trans hO3).trans hO4).trans hOz, Out.bad Hs.out⟩
   | false =>
    have Hs := hid (show dj sec (c :: t) = .ok (c.toNat, t) by unfold dj; rw [if_neg (by rw [hsec]; simp), Hmem.out])
    have Hsec := hid hsec
    clear hsec
    have last : ∀ (W : World), RQ W p S k op (.ok (c :: t)) → RQ W p S k op (.ok (c :: t)) ∧ W.cell? ⟨p, 0, none⟩ = some (.string (bs S)) ∧ W.cell? ⟨p, 1, none⟩ = some (.int .i64 k) ∧ W.frozen? ⟨p, 1, none⟩ = false := fun W hW => ⟨hW, hW.rdr.c0, hW.rdr.c1, hW.rdr.z 1⟩
    have Last := hid last
    clear last
    have hat := H.out.at_
    have hkS := hat.1
    have hix := hat.2
    have hkI : (k : Int) < (S.length : Int) := by omega
    have sS := dn S
    have hkb : k ≤ 1024 := Nat.le_trans H.out.rdr.le H.out.rdr.top
    clear hat
    cases sec with
    | false =>
     go_enter Tryz.func161, Tryz.ntmps161
     go_wp2_with fail
     refine Hd.out.mono ?_
     rintro en w1 ⟨rfl, h1, hO1⟩
     rw [show ev (.ok (c :: t)) = false from rfl]
     go_wp2_with fail
     refine (Hi.out _ h1).mono ?_
     rintro en w2 ⟨rfl, h2, hO2⟩
     rw [HT.out]
     obtain ⟨hR, c0, c1, z1⟩ := Last.out _ h2
     have HR := hid hR
     have HO := hid (hO1.trans hO2)
     clear hR h1 h2 hO1 hO2
     go_upto_region 9 with fail
     go_quiet (fail)
     have hq := HR.out.drewN nq
     have HO3 := hid (HO.out.trans (mN p w2 nq))
     generalize w2.drewN nq = Wb at *
     have HRb := hid hq
     have b1 := hq.rdr.c1
     have bz := hq.rdr.z 1
     clear hq c0 c1 z1 HO HR
     go_wp2_with fail
     go_ret
     have hst := HRb.out.step 1 (by simp)
     exact ⟨c.toNat, k + 1, _, hc, by rw [← hix hkS]; rfl, hst, HO3.out.set _ _, Out.good Hs.out rfl⟩
    | true =>
     have hs2 := Hsec.out
     rw [Bool.true_and, Bool.or_eq_false_iff] at hs2
     have H58 := hid hs2.1
     have H61 := hid hs2.2
     clear hs2 Hsec
     go_enter Tryz.func161, Tryz.ntmps161
     go_wp2_with fail
     refine Hd.out.mono ?_
     rintro en w1 ⟨rfl, h1, hO1⟩
     rw [show ev (.ok (c :: t)) = false from rfl]
     go_wp2_with fail
     refine (Hi.out _ h1).mono ?_
     rintro en w2 ⟨rfl, h2, hO2⟩
     rw [HT.out]
     go_wp2_with fail
     refine (Hj.out _ h2).mono ?_
     rintro en w3 ⟨rfl, h3, hO3⟩
     rw [H58.out]
     go_wp2_with fail
     refine (Hk.out _ h3).mono ?_
     rintro en w4 ⟨rfl, h4, hO4⟩
     rw [H61.out]
     obtain ⟨hR, c0, c1, z1⟩ := Last.out _ h4
     have HR := hid hR
     have HO := hid (((hO1.trans hO2).trans hO3).trans hO4)
     clear hR h1 h2 h3 h4 hO1 hO2 hO3 hO4
     go_upto_region 9 with fail
     go_quiet (fail)
     have hq := HR.out.drewN nq
     have HO3 := hid (HO.out.trans (mN p w4 nq))
     generalize w4.drewN nq = Wb at *
     have HRb := hid hq
     have b1 := hq.rdr.c1
     have bz := hq.rdr.z 1
     clear hq c0 c1 z1 HO HR
     go_wp2_with fail
     go_ret
     have hst := HRb.out.step 1 (by simp)
     exact ⟨c.toNat, k + 1, _, hc, by rw [← hix hkS]; rfl, hst, HO3.out.set _ _, Out.good Hs.out rfl⟩
def zv (p : Nat) (S : Bs) (op : Int) (s : Rs) (w : World) (en : Ending) (w' : World) : Prop :=
 ∃ (n : Int) (k' : Nat) (s' : Rs), en = .returned (.int .i64 n) ∧ RQ w' p S k' op s' ∧ Off p w w' ∧
  match s with
  | .error e => n = -1 ∧ s' = .error e
  | .ok r => (∃ m r', aw r = .ok (m, r') ∧ n = m ∧ 0 ≤ m ∧ m ≤ 255 ∧ s' = .ok r') ∨ (aw r = .error 105 ∧ n = -1 ∧ ∃ r', s' = .ok r' ∧ r'.length ≤ r.length)
theorem oJ (w : World) (p : Nat) (S : Bs) (k : Nat) (op : Int) (e : Int) (h : RQ w p S k op (.error e)) :
 Calls Tryz.prog 139 #[.pointer (some ⟨p, 0, none⟩)] w fun en w' => zv p S op (.error e) w en w' := by
 have c0 := h.rdr.c0
 have c1 := h.rdr.c1
 have hkb : k ≤ 1024 := Nat.le_trans h.rdr.le h.rdr.top
 have H := hid h
 clear h
 go_enter Tryz.func139, Tryz.ntmps139
 go_wp2_with fail
 go_loopg [3] 1 (fun n a wr => a = .int .i64 0 ∧ wr = w)
 case atStart => exact ⟨rfl, rfl⟩
 case round =>
  obtain ⟨rfl, rfl⟩ := hrel
  have Hdone := hid (rU true rfl H.out)
  go_upto_region 3 with fail
  go_quiet (first | (go_at_call 65; refine Calls.quiet_of (Hdone.out _)))
  have hq := H.out.drewN nq
  have HOq := hid (mN p wr nq)
  generalize wr.drewN nq = W1 at *
  have HQ := hid hq
  have d1 := hq.rdr.c1
  clear hq c0 c1 H Hdone
  go_wp2_with fail
  all_goals
   go_ret
   exact ⟨-1, k, _, rfl, HQ.out, HOq.out, rfl, rfl⟩
theorem kR (w : World) (p : Nat) (S : Bs) (k0 : Nat) (op : Int) (r : Bs) (h : RQ w p S k0 op (.ok r)) :
 Calls Tryz.prog 139 #[.pointer (some ⟨p, 0, none⟩)] w fun en w' => zv p S op (.ok r) w en w' := by
 have c1 := h.rdr.c1
 have sS := dn S
 have hkb : k0 ≤ 1024 := Nat.le_trans h.rdr.le h.rdr.top
 have H := hid h
 clear h
 go_enter Tryz.func139, Tryz.ntmps139
 go_wp2_with fail
 go_loopg [3] 4 (fun k a wr => ∃ (n : Int) (wd kk : Nat) (r' : Bs), a = .int .i64 n ∧ k + wd = 4 ∧ kk = k0 + wd ∧ 0 ≤ n ∧ n ≤ eY wd ∧ aD k n wd r' = aD 4 0 0 r ∧ r'.length ≤ r.length ∧ RQ wr p S kk op (.ok r') ∧ Off p w wr)
 case atStart => exact ⟨0, 0, k0, r, rfl, rfl, rfl, by omega, by simp [eY], rfl, Nat.le_refl _, H.out, Off.refl p w⟩
 case round =>
  obtain ⟨n, wd, kk, r', rfl, hk, hkk, hn0, hn1, hd, hlen, hR, hO⟩ := hrel
  have hn2 : n ≤ 9999 := by
   unfold eY at hn1
   split at hn1; omega; split at hn1; omega; split at hn1; omega; split at hn1; omega; omega
  have c0 := hR.rdr.c0
  have c1 := hR.rdr.c1
  have hkb2 : kk ≤ 1024 := Nat.le_trans hR.rdr.le hR.rdr.top
  have HR := hid hR; have Hd := hid hd; have Hn1 := hid hn1; have HO := hid hO; have Hlen := hid hlen; have Hkk := hid hkk
  clear hR hd hn1 hO hlen hkk H
  have done : gk = 0 ∨ r' = [] ∨ (∃ c t, r' = c :: t ∧ cS c = false) → aD 4 0 0 r = (n, wd, r') := fun hh => by
   rw [← Hd.out]
   rcases hh with rfl | rfl | ⟨c, t, rfl, hc⟩
   · rw [aD]
   · cases gk <;> rw [aD]
   · cases gk with
     | zero => rw [aD]
     | succ k => rw [aD, hc]; rfl
  have Done := hid done; clear done
  rcases r' with _ | ⟨c, t⟩
  · have Hdone := hid (rU true rfl HR.out)
    go_upto_region 3 with fail
    go_quiet (first | (go_at_call 65; refine Calls.quiet_of (Hdone.out _)))
    have hq := HR.out.drewN nq
    have HOq := hid (HO.out.trans (mN p wr nq))
    generalize wr.drewN nq = W1 at *
    have HQ := hid hq
    have d1 := hq.rdr.c1
    clear hq c0 c1 HR HO Hdone
    have Done := hid (Done.out (.inr (.inl rfl)))
    by_cases bad : wd = 0 ∨ 3 < wd ∨ 255 < n
    · have Hn := hid (show aw r = .error 105 by unfold aw; rw [Done.out]; exact if_pos bad)
      clear Done Hd
      by_cases b1 : wd = 0
      · have hb1 : ((kk : Int) == (k0 : Int)) = true := by have := Hkk.out; rw [beq_iff_eq]; omega
        clear bad b1
        go_wp2_with fail
        all_goals
         go_ret
         exact ⟨-1, kk, _, rfl, HQ.out, HOq.out, .inr ⟨Hn.out, rfl, _, rfl, Hlen.out⟩⟩
      have hb1 : ((kk : Int) == (k0 : Int)) = false := by have := Hkk.out; rw [beq_eq_false_iff_ne]; omega
      by_cases b2 : 3 < wd
      · have hb2 : (k0 : Int) + 3 < (kk : Int) := by have := Hkk.out; omega
        clear bad b1 b2
        go_wp2_with fail
        all_goals
         go_ret
         exact ⟨-1, kk, _, rfl, HQ.out, HOq.out, .inr ⟨Hn.out, rfl, _, rfl, Hlen.out⟩⟩
      have hb2 : decide ((k0 : Int) + 3 < (kk : Int)) = false := by have := Hkk.out; rw [decide_eq_false_iff_not]; omega
      have b3 : 255 < n := by omega
      clear bad b1 b2
      go_wp2_with fail
      all_goals
       go_ret
       exact ⟨-1, kk, _, rfl, HQ.out, HOq.out, .inr ⟨Hn.out, rfl, _, rfl, Hlen.out⟩⟩
    · have Hn := hid (show aw r = .ok (n, []) by unfold aw; rw [Done.out]; exact if_neg bad)
      have hb1 : ((kk : Int) == (k0 : Int)) = false := by have := Hkk.out; rw [beq_eq_false_iff_ne]; omega
      have hb2 : decide ((k0 : Int) + 3 < (kk : Int)) = false := by have := Hkk.out; rw [decide_eq_false_iff_not]; omega
      have hb3 : decide ((255 : Int) < n) = false := by rw [decide_eq_false_iff_not]; omega
      have Hb := hid (show 0 ≤ n ∧ n ≤ 255 by omega)
      clear bad Done Hd
      go_wp2_with fail
      all_goals
       go_ret
       exact ⟨n, kk, _, rfl, HQ.out, HOq.out, .inl ⟨n, _, Hn.out, rfl, Hb.out.1, Hb.out.2, rfl⟩⟩
  · have hc2 : c.toNat < 256 := c.toNat_lt
    have hat := HR.out.at_
    have hkI : (kk : Int) < (S.length : Int) := by have := hat.1; omega
    have hidx : ∀ (hh : kk < (bs S).size), ((bs S)[kk]'hh) = c := fun hh => hat.2 (by rw [sS] at hh; exact hh)
    clear hat
    have Hdone := hid (rU false rfl HR.out)
    by_cases e1 : 48 ≤ c.toNat
    case neg =>
     have t1 : decide ((48 : Int) ≤ (c.toNat : Int)) = false := by rw [decide_eq_false_iff_not]; omega
     go_upto_region 3 with fail
     go_quiet (first | (go_at_call 65; refine Calls.quiet_of (Hdone.out _)))
     have hq := HR.out.drewN nq
     have HOq := hid (HO.out.trans (mN p wr nq))
     generalize wr.drewN nq = W1 at *
     have HQ := hid hq
     have d1 := hq.rdr.c1
     clear hq c0 c1 HR HO Hdone
     have Done := hid (Done.out (.inr (.inr ⟨c, t, rfl, by simp [cS]; omega⟩)))
     by_cases bad : wd = 0 ∨ 3 < wd ∨ 255 < n
     · have Hn := hid (show aw r = .error 105 by unfold aw; rw [Done.out]; exact if_pos bad)
       clear Done Hd
       by_cases b1 : wd = 0
       · have hb1 : ((kk : Int) == (k0 : Int)) = true := by have := Hkk.out; rw [beq_iff_eq]; omega
         clear bad b1
         go_wp2_with fail
         all_goals
          go_ret
          exact ⟨-1, kk, _, rfl, HQ.out, HOq.out, .inr ⟨Hn.out, rfl, _, rfl, Hlen.out⟩⟩
       have hb1 : ((kk : Int) == (k0 : Int)) = false := by have := Hkk.out; rw [beq_eq_false_iff_ne]; omega
       by_cases b2 : 3 < wd
       · have hb2 : (k0 : Int) + 3 < (kk : Int) := by have := Hkk.out; omega
         clear bad b1 b2
         go_wp2_with fail
         all_goals
          go_ret
          exact ⟨-1, kk, _, rfl, HQ.out, HOq.out, .inr ⟨Hn.out, rfl, _, rfl, Hlen.out⟩⟩
       have hb2 : decide ((k0 : Int) + 3 < (kk : Int)) = false := by have := Hkk.out; rw [decide_eq_false_iff_not]; omega
       have b3 : 255 < n := by omega
       clear bad b1 b2
       go_wp2_with fail
       all_goals
        go_ret
        exact ⟨-1, kk, _, rfl, HQ.out, HOq.out, .inr ⟨Hn.out, rfl, _, rfl, Hlen.out⟩⟩
     · have Hn := hid (show aw r = .ok (n, c :: t) by unfold aw; rw [Done.out]; exact if_neg bad)
       have hb1 : ((kk : Int) == (k0 : Int)) = false := by have := Hkk.out; rw [beq_eq_false_iff_ne]; omega
       have hb2 : decide ((k0 : Int) + 3 < (kk : Int)) = false := by have := Hkk.out; rw [decide_eq_false_iff_not]; omega
       have hb3 : decide ((255 : Int) < n) = false := by rw [decide_eq_false_iff_not]; omega
       have Hb := hid (show 0 ≤ n ∧ n ≤ 255 by omega)
       clear bad Done Hd
       go_wp2_with fail
       all_goals
        go_ret
        exact ⟨n, kk, _, rfl, HQ.out, HOq.out, .inl ⟨n, _, Hn.out, rfl, Hb.out.1, Hb.out.2, rfl⟩⟩
    have t1 : (48 : Int) ≤ (c.toNat : Int) := by omega
    by_cases e2 : c.toNat ≤ 57
    case neg =>
     have t2 : decide ((c.toNat : Int) ≤ 57) = false := by rw [decide_eq_false_iff_not]; omega
     go_upto_region 3 with fail
     go_quiet (first | (go_at_call 65; refine Calls.quiet_of (Hdone.out _)))
     have hq := HR.out.drewN nq
     have HOq := hid (HO.out.trans (mN p wr nq))
     generalize wr.drewN nq = W1 at *
     have HQ := hid hq
     have d1 := hq.rdr.c1
     clear hq c0 c1 HR HO Hdone
     have Done := hid (Done.out (.inr (.inr ⟨c, t, rfl, by simp [cS]; omega⟩)))
     by_cases bad : wd = 0 ∨ 3 < wd ∨ 255 < n
     · have Hn := hid (show aw r = .error 105 by unfold aw; rw [Done.out]; exact if_pos bad)
       clear Done Hd
       by_cases b1 : wd = 0
       · have hb1 : ((kk : Int) == (k0 : Int)) = true := by have := Hkk.out; rw [beq_iff_eq]; omega
         clear bad b1
         go_wp2_with fail
         all_goals
          go_ret
          exact ⟨-1, kk, _, rfl, HQ.out, HOq.out, .inr ⟨Hn.out, rfl, _, rfl, Hlen.out⟩⟩
       have hb1 : ((kk : Int) == (k0 : Int)) = false := by have := Hkk.out; rw [beq_eq_false_iff_ne]; omega
       by_cases b2 : 3 < wd
       · have hb2 : (k0 : Int) + 3 < (kk : Int) := by have := Hkk.out; omega
         clear bad b1 b2
         go_wp2_with fail
         all_goals
          go_ret
          exact ⟨-1, kk, _, rfl, HQ.out, HOq.out, .inr ⟨Hn.out, rfl, _, rfl, Hlen.out⟩⟩
       have hb2 : decide ((k0 : Int) + 3 < (kk : Int)) = false := by have := Hkk.out; rw [decide_eq_false_iff_not]; omega
       have b3 : 255 < n := by omega
       clear bad b1 b2
       go_wp2_with fail
       all_goals
        go_ret
        exact ⟨-1, kk, _, rfl, HQ.out, HOq.out, .inr ⟨Hn.out, rfl, _, rfl, Hlen.out⟩⟩
     · have Hn := hid (show aw r = .ok (n, c :: t) by unfold aw; rw [Done.out]; exact if_neg bad)
       have hb1 : ((kk : Int) == (k0 : Int)) = false := by have := Hkk.out; rw [beq_eq_false_iff_ne]; omega
       have hb2 : decide ((k0 : Int) + 3 < (kk : Int)) = false := by have := Hkk.out; rw [decide_eq_false_iff_not]; omega
       have hb3 : decide ((255 : Int) < n) = false := by rw [decide_eq_false_iff_not]; omega
       have Hb := hid (show 0 ≤ n ∧ n ≤ 255 by omega)
       clear bad Done Hd
       go_wp2_with fail
       all_goals
        go_ret
        exact ⟨n, kk, _, rfl, HQ.out, HOq.out, .inl ⟨n, _, Hn.out, rfl, Hb.out.1, Hb.out.2, rfl⟩⟩
    have t2 : (c.toNat : Int) ≤ 57 := by omega
    by_cases e3 : wd < 4
    case neg =>
     have t3 : decide ((kk : Int) < (k0 : Int) + 4) = false := by have := Hkk.out; rw [decide_eq_false_iff_not]; omega
     go_upto_region 3 with fail
     go_quiet (first | (go_at_call 65; refine Calls.quiet_of (Hdone.out _)))
     have hq := HR.out.drewN nq
     have HOq := hid (HO.out.trans (mN p wr nq))
     generalize wr.drewN nq = W1 at *
     have HQ := hid hq
     have d1 := hq.rdr.c1
     clear hq c0 c1 HR HO Hdone
     have Done := hid (Done.out (.inl (by omega)))
     by_cases bad : wd = 0 ∨ 3 < wd ∨ 255 < n
     · have Hn := hid (show aw r = .error 105 by unfold aw; rw [Done.out]; exact if_pos bad)
       clear Done Hd
       by_cases b1 : wd = 0
       · have hb1 : ((kk : Int) == (k0 : Int)) = true := by have := Hkk.out; rw [beq_iff_eq]; omega
         clear bad b1
         go_wp2_with fail
         all_goals
          go_ret
          exact ⟨-1, kk, _, rfl, HQ.out, HOq.out, .inr ⟨Hn.out, rfl, _, rfl, Hlen.out⟩⟩
       have hb1 : ((kk : Int) == (k0 : Int)) = false := by have := Hkk.out; rw [beq_eq_false_iff_ne]; omega
       by_cases b2 : 3 < wd
       · have hb2 : (k0 : Int) + 3 < (kk : Int) := by have := Hkk.out; omega
         clear bad b1 b2
         go_wp2_with fail
         all_goals
          go_ret
          exact ⟨-1, kk, _, rfl, HQ.out, HOq.out, .inr ⟨Hn.out, rfl, _, rfl, Hlen.out⟩⟩
       have hb2 : decide ((k0 : Int) + 3 < (kk : Int)) = false := by have := Hkk.out; rw [decide_eq_false_iff_not]; omega
       have b3 : 255 < n := by omega
       clear bad b1 b2
       go_wp2_with fail
       all_goals
        go_ret
        exact ⟨-1, kk, _, rfl, HQ.out, HOq.out, .inr ⟨Hn.out, rfl, _, rfl, Hlen.out⟩⟩
     · have Hn := hid (show aw r = .ok (n, c :: t) by unfold aw; rw [Done.out]; exact if_neg bad)
       have hb1 : ((kk : Int) == (k0 : Int)) = false := by have := Hkk.out; rw [beq_eq_false_iff_ne]; omega
       have hb2 : decide ((k0 : Int) + 3 < (kk : Int)) = false := by have := Hkk.out; rw [decide_eq_false_iff_not]; omega
       have hb3 : decide ((255 : Int) < n) = false := by rw [decide_eq_false_iff_not]; omega
       have Hb := hid (show 0 ≤ n ∧ n ≤ 255 by omega)
       clear bad Done Hd
       go_wp2_with fail
       all_goals
        go_ret
        exact ⟨n, kk, _, rfl, HQ.out, HOq.out, .inl ⟨n, _, Hn.out, rfl, Hb.out.1, Hb.out.2, rfl⟩⟩
    have t3 : (kk : Int) < (k0 : Int) + 4 := by have := Hkk.out; omega
    obtain ⟨g, rfl⟩ : ∃ g, gk = g + 1 := ⟨gk - 1, by omega⟩
    have hdg : cS c = true := by simp [cS]; omega
    have hstep : aD g (10 * n + (c.toNat - 48)) (wd + 1) t = aD 4 0 0 r := by
     rw [← Hd.out]
     conv => rhs; rw [aD, hdg]
     rfl
    have hl10 : 10 * n + ((c.toNat : Int) - 48) ≤ eY (wd + 1) := by
     have h1 := Hn1.out
     unfold eY at h1 ⊢
     rcases (show wd = 0 ∨ wd = 1 ∨ wd = 2 ∨ wd = 3 by omega) with rfl | rfl | rfl | rfl <;> simp at h1 ⊢ <;> omega
    have Hstep := hid hstep; have Hl10 := hid hl10
    clear hstep hl10 hdg Done Hd Hn1
    go_upto_region 3 with fail
    go_quiet (first | (go_at_call 65; refine Calls.quiet_of (Hdone.out _)))
    have hq := HR.out.drewN nq
    have HOq := hid (HO.out.trans (mN p wr nq))
    generalize wr.drewN nq = W1 at *
    have HQ := hid hq
    have d0 := hq.rdr.c0
    have d1 := hq.rdr.c1
    clear hq c0 c1 HR HO Hdone
    go_wp2_with fail
    go_quiet (fail)
    have hq := HQ.out.drewN nq
    have HO2 := hid (HOq.out.trans (mN p W1 nq))
    generalize W1.drewN nq = W2 at *
    have HQ2 := hid hq
    have b1 := hq.rdr.c1
    have bz := hq.rdr.z 1
    clear hq d0 d1 HQ HOq
    go_wp2_with fail
    have hst := HQ2.out.step 1 (by simp)
    go_roundg g
    case measure => omega
    case rel => exact ⟨10 * n + ((c.toNat : Int) - 48), wd + 1, kk + 1, t, by first | rfl | go_num, by omega, by have := Hkk.out; omega, by omega, Hl10.out, Hstep.out, by have := Hlen.out; simp at this; omega, hst, HO2.out.set _ _⟩
theorem cE {w : World} {p : Nat} {S : Bs} {k : Nat} {op : Int} {r r' : Bs} (q : Bs) (hq : q.length ≤ 100) (ht : aq q r = some r') (h : RQ w p S k op (.ok r)) :
 Calls Tryz.prog 86 #[.pointer (some ⟨p, 0, none⟩), .string (bs q)] w fun en w' => en = .returned (.bool true) ∧ (∃ k', RQ w' p S k' op (.ok r')) ∧ Off p w w' := by
 have := gJ w p S k op (.ok r) q hq h
 rwa [fK ht] at this
theorem bh {w : World} {p : Nat} {S : Bs} {k : Nat} {op : Int} {r : Bs} (q : Bs) (hq : q.length ≤ 100) (ht : aq q r = none) (h : RQ w p S k op (.ok r)) :
 Calls Tryz.prog 86 #[.pointer (some ⟨p, 0, none⟩), .string (bs q)] w fun en w' => en = .returned (.bool false) ∧ (∃ k', RQ w' p S k' op (.ok r)) ∧ Off p w w' := by
 have := gJ w p S k op (.ok r) q hq h
 rwa [fL ht] at this
theorem eC {w : World} {p : Nat} {S : Bs} {k : Nat} {op : Int} {e : Int} (q : Bs) (hq : q.length ≤ 100) (h : RQ w p S k op (.error e)) :
 Calls Tryz.prog 86 #[.pointer (some ⟨p, 0, none⟩), .string (bs q)] w fun en w' => en = .returned (.bool false) ∧ (∃ k', RQ w' p S k' op (.error e)) ∧ Off p w w' := gJ w p S k op (.error e) q hq h
theorem bS {w : World} {p : Nat} {S : Bs} {k : Nat} {op : Int} {r : Bs} (x : Int) (hx : x ≠ 0) (h : RQ w p S k op (.ok r)) :
 Calls Tryz.prog 66 #[.pointer (some ⟨p, 0, none⟩), .int .i64 x] w fun en w' => en = .returned (.tuple #[]) ∧ RQ w' p S k op (.error x) ∧ Off p w w' := dV w p S k op (.ok r) x hx h
theorem jz {w : World} {p : Nat} {S : Bs} {k : Nat} {op : Int} {e : Int} (x : Int) (hx : x ≠ 0) (h : RQ w p S k op (.error e)) :
 Calls Tryz.prog 66 #[.pointer (some ⟨p, 0, none⟩), .int .i64 x] w fun en w' => en = .returned (.tuple #[]) ∧ RQ w' p S k op (.error e) ∧ Off p w w' := dV w p S k op (.error e) x hx h
theorem px {a b : UInt8} {r r1 : Bs} (h : aq [a] r = some r1) : aq [a, b] r = aq [b] r1 := by
 unfold aq at h
 split at h
 · rename_i hp
   simp only [Option.some.injEq] at h
   obtain ⟨t, ht⟩ := List.isPrefixOf_iff_prefix.1 hp
   subst ht
   subst h
   simp only [List.cons_append, List.nil_append, List.length_cons, List.length_nil, List.drop_succ_cons, List.drop_zero]
   rw [bg, if_pos rfl]
 · cases h
theorem mG {a b : UInt8} {r : Bs} (h : aq [a] r = none) : aq [a, b] r = none := by
 cases r with
 | nil => exact dT _ (by simp)
 | cons c t =>
  rw [aH] at h
  rw [bg]
  split at h
  · cases h
  · rename_i hc; rw [if_neg hc]
def zH (p : Nat) (S : Bs) (op : Int) (r : Bs) (w : World) (en : Ending) (w' : World) : Prop :=
 ∃ (m n : Int) (k' : Nat) (s' : Rs), en = .returned (.tuple #[.int .i64 m, .int .i64 n]) ∧ RQ w' p S k' op s' ∧ Off p w w' ∧ ((aj r = .error 105 ∧ s' = .error 105) ∨ ∃ r', aj r = .ok (m, n, r') ∧ s' = .ok r')
theorem mI (w : World) (p : Nat) (S : Bs) (k : Nat) (op : Int) (r : Bs) (h : RQ w p S k op (.ok r)) :
 Calls Tryz.prog 121 #[.pointer (some ⟨p, 0, none⟩)] w fun en w' => zH p S op r w en w' := by
 have Hd := hid (kR w p S k op r h)
 have De := hid (fun w k (h : RQ w p S k op (.error 105)) => oJ w p S k op 105 h)
 clear h
 go_enter Tryz.func121, Tryz.ntmps121
 go_wp2_with fail
 refine Hd.out.mono ?_
 rintro en w1 ⟨m, k1, s1, rfl, h1, hO1, ⟨m', r1, hn, rfl, hm0, hm1, rfl⟩ | ⟨hn, rfl, r1, rfl, _⟩⟩
 · have Hn := hid hn
   have hmI : decide (m < 0) = false := by rw [decide_eq_false_iff_not]; omega
   clear hn Hd
   cases t1 : aq [125] r1 with
   | some r2 =>
    have Hs := hid (show aj r = .ok (m, m, r2) by unfold aj; simp only [Hn.out, t1])
    have T1 := hid t1
    clear t1
    go_wp2_with fail
    refine (cE [125] (by simp) T1.out h1).mono ?_
    rintro en w2 ⟨rfl, ⟨k2, h2⟩, hO2⟩
    go_wp2_with fail
    go_ret2
    exact ⟨m, m, k2, _, rfl, h2, hO1.trans hO2, .inr ⟨_, Hs.out, rfl⟩⟩
   | none =>
    have T1 := hid t1
    cases t2 : aq [44] r1 with
    | none =>
     have Hs := hid (show aj r = .error 105 by unfold aj; simp only [Hn.out, t1, mG t2, t2])
     have T2 := hid t2
     clear t1 t2
     go_wp2_with fail
     refine (bh [125] (by simp) T1.out h1).mono ?_
     rintro en w2 ⟨rfl, ⟨k2, h2⟩, hO2⟩
     go_wp2_with fail
     refine (bh [44] (by simp) T2.out h2).mono ?_
     rintro en w3 ⟨rfl, ⟨k3, h3⟩, hO3⟩
     go_wp2_with fail
     refine (bS 105 (by omega) h3).mono ?_
     rintro en w4 ⟨rfl, h4, hO4⟩
     go_wp2_with fail
     refine (eC [125] (by simp) h4).mono ?_
     rintro en w5 ⟨rfl, ⟨k5, h5⟩, hO5⟩
     go_wp2_with fail
     refine (De.out _ _ h5).mono ?_
     rintro en w6 ⟨m6, k6, s6, rfl, h6, hO6, rfl, rfl⟩
     have hlt : (-1 : Int) < m := by omega
     go_wp2_with fail
     refine (jz 105 (by omega) h6).mono ?_
     rintro en w7 ⟨rfl, h7, hO7⟩
     go_wp2_with fail
     go_ret2
     exact ⟨m, -1, k6, _, rfl, h7, (((((hO1.trans hO2).trans hO3).trans hO4).trans hO5).trans hO6).trans hO7, .inl ⟨Hs.out, rfl⟩⟩
    | some r2 =>
     have T2 := hid t2
     cases t3 : aq [125] r2 with
     | some r3 =>
      have Hs := hid (show aj r = .ok (m, -1, r3) by unfold aj; simp only [Hn.out, t1, px t2, t3])
      have T3 := hid t3
      clear t1 t2 t3
      go_wp2_with fail
      refine (bh [125] (by simp) T1.out h1).mono ?_
      rintro en w2 ⟨rfl, ⟨k2, h2⟩, hO2⟩
      go_wp2_with fail
      refine (cE [44] (by simp) T2.out h2).mono ?_
      rintro en w3 ⟨rfl, ⟨k3, h3⟩, hO3⟩
      go_wp2_with fail
      refine (cE [125] (by simp) T3.out h3).mono ?_
      rintro en w4 ⟨rfl, ⟨k4, h4⟩, hO4⟩
      go_wp2_with fail
      go_ret2
      exact ⟨m, -1, k4, _, rfl, h4, ((hO1.trans hO2).trans hO3).trans hO4, .inr ⟨_, Hs.out, rfl⟩⟩
     | none =>
      have T3 := hid t3
      have Hpre := hid (show aj r = (match aw r2 with | .error e => .error e | .ok (n, r3) => if n < m then .error 105 else match aq [125] r3 with | some r4 => .ok (m, n, r4) | none => .error 105) by unfold aj; simp only [Hn.out, t1, px t2, t3, t2]; rfl)
      clear t1 t2 t3
      go_wp2_with fail
      refine (bh [125] (by simp) T1.out h1).mono ?_
      rintro en w2 ⟨rfl, ⟨k2, h2⟩, hO2⟩
      go_wp2_with fail
      refine (cE [44] (by simp) T2.out h2).mono ?_
      rintro en w3 ⟨rfl, ⟨k3, h3⟩, hO3⟩
      go_wp2_with fail
      refine (bh [125] (by simp) T3.out h3).mono ?_
      rintro en w4 ⟨rfl, ⟨k4, h4⟩, hO4⟩
      have HO4 := hid (((hO1.trans hO2).trans hO3).trans hO4)
      clear hO1 hO2 hO3 hO4 h1 h2 h3 T1 T2 T3
      go_wp2_with fail
      refine (kR w4 p S k4 op r2 h4).mono ?_
      rintro en w5 ⟨n, k5, s5, rfl, h5, hO5, ⟨n', r3, hn2, rfl, hn0, hn1, rfl⟩ | ⟨hn2, rfl, r3, rfl, _⟩⟩
      · by_cases hnm : n < m
        · have Hs := hid (show aj r = .error 105 by rw [Hpre.out, hn2]; simp only; rw [if_pos hnm])
          clear hn2 Hpre
          go_wp2_with fail
          refine (bS 105 (by omega) h5).mono ?_
          rintro en w6 ⟨rfl, h6, hO6⟩
          go_wp2_with fail
          go_ret2
          exact ⟨m, n, k5, _, rfl, h6, (HO4.out.trans hO5).trans hO6, .inl ⟨Hs.out, rfl⟩⟩
        · have hnmI : decide (n < m) = false := by rw [decide_eq_false_iff_not]; exact hnm
          cases t4 : aq [125] r3 with
          | some r4 =>
           have Hs := hid (show aj r = .ok (m, n, r4) by rw [Hpre.out, hn2]; simp only; rw [if_neg hnm, t4])
           have T4 := hid t4
           clear hn2 Hpre hnm t4
           go_wp2_with fail
           refine (cE [125] (by simp) T4.out h5).mono ?_
           rintro en w6 ⟨rfl, ⟨k6, h6⟩, hO6⟩
           go_wp2_with fail
           go_ret2
           exact ⟨m, n, k6, _, rfl, h6, (HO4.out.trans hO5).trans hO6, .inr ⟨_, Hs.out, rfl⟩⟩
          | none =>
           have Hs := hid (show aj r = .error 105 by rw [Hpre.out, hn2]; simp only; rw [if_neg hnm, t4])
           have T4 := hid t4
           clear hn2 Hpre hnm t4
           go_wp2_with fail
           refine (bh [125] (by simp) T4.out h5).mono ?_
           rintro en w6 ⟨rfl, ⟨k6, h6⟩, hO6⟩
           go_wp2_with fail
           refine (bS 105 (by omega) h6).mono ?_
           rintro en w7 ⟨rfl, h7, hO7⟩
           go_wp2_with fail
           go_ret2
           exact ⟨m, n, k6, _, rfl, h7, ((HO4.out.trans hO5).trans hO6).trans hO7, .inl ⟨Hs.out, rfl⟩⟩
      · have Hs := hid (show aj r = .error 105 by rw [Hpre.out, hn2])
        have hlt : (-1 : Int) < m := by omega
        clear hn2 Hpre
        go_wp2_with fail
        refine (bS 105 (by omega) h5).mono ?_
        rintro en w6 ⟨rfl, h6, hO6⟩
        go_wp2_with fail
        go_ret2
        exact ⟨m, -1, k5, _, rfl, h6, (HO4.out.trans hO5).trans hO6, .inl ⟨Hs.out, rfl⟩⟩
 · have Hs := hid (show aj r = .error 105 by unfold aj; simp only [hn])
   clear hn Hd
   go_wp2_with fail
   refine (bS 105 (by omega) h1).mono ?_
   rintro en w2 ⟨rfl, h2, hO2⟩
   go_wp2_with fail
   refine (eC [125] (by simp) h2).mono ?_
   rintro en w3 ⟨rfl, ⟨k3, h3⟩, hO3⟩
   go_wp2_with fail
   refine (eC [44] (by simp) h3).mono ?_
   rintro en w4 ⟨rfl, ⟨k4, h4⟩, hO4⟩
   go_wp2_with fail
   refine (jz 105 (by omega) h4).mono ?_
   rintro en w5 ⟨rfl, h5, hO5⟩
   go_wp2_with fail
   refine (eC [125] (by simp) h5).mono ?_
   rintro en w6 ⟨rfl, ⟨k6, h6⟩, hO6⟩
   go_wp2_with fail
   refine (De.out _ _ h6).mono ?_
   rintro en w7 ⟨m7, k7, s7, rfl, h7, hO7, rfl, rfl⟩
   go_wp2_with fail
   refine (eC [125] (by simp) h7).mono ?_
   rintro en w8 ⟨rfl, ⟨k8, h8⟩, hO8⟩
   go_wp2_with fail
   refine (jz 105 (by omega) h8).mono ?_
   rintro en w9 ⟨rfl, h9, hO9⟩
   go_wp2_with fail
   go_ret2
   exact ⟨-1, -1, k8, _, rfl, h9, (((((((hO1.trans hO2).trans hO3).trans hO4).trans hO5).trans hO6).trans hO7).trans hO8).trans hO9, .inl ⟨Hs.out, rfl⟩⟩
theorem ae.box (w : World) (S : W4) : ae (w.alloc (.cells #[.int .u64 S.a, .int .u64 S.b, .int .u64 S.c, .int .u64 S.d] 28)) w.heap.size S := heap_alloc_new w _
theorem ae.later {w w' : World} {b : Nat} {s : W4} (h : ae w b s) (k : Below w.heap.size w w') : ae w' b s := h.keep (k.block b h.lt)
theorem ae.other {w : World} {b b' : Nat} {s : W4} (h : ae w b s) (hn : b ≠ b') (o : Nat) (v : Value) : ae (w.setCell ⟨b', o, none⟩ v) b s := h.keep (Below.heap_setCell _ _ _ _ hn)
theorem eq (w : World) (S : W4) (c : Nat) (hc : c < 256) :
 Calls Tryz.prog 149 #[S.V, .int .u8 (c : Int)] w fun en w' => en = .returned (S.add c).V ∧ Below w.heap.size w w' := by
 have hq : (c : Int).tdiv 64 = ((c / 64 : Nat) : Int) := by rw [Int.tdiv_eq_ediv_of_nonneg (by omega)]; omega
 have hr : (c : Int).tmod 64 = ((c % 64 : Nat) : Int) := by rw [Int.tmod_eq_emod_of_nonneg (by omega)]; omega
 have hw := mb (c % 64) (by omega)
 have hk4 : c % 64 < 64 := by omega
 have hadd : ∀ (W : World) (b : Nat), ae W b S → ae (W.setCell ⟨b, c / 64, none⟩ (.int .u64 (orI (S.word (c / 64)) (2 ^ (c % 64))))) b (S.add c) := fun W b h => by
  have := h.addW c hc
  unfold addW at this
  rwa [Nat.zero_add] at this
 rcases (show c / 64 = 0 ∨ c / 64 = 1 ∨ c / 64 = 2 ∨ c / 64 = 3 by omega) with e | e | e | e
 all_goals
  rw [e] at hq hadd
  have Hadd := hid hadd
  clear hadd e
  generalize S.add c = T at *
  generalize hk : c % 64 = k at *
  clear hk
  go_enter Tryz.func149, Tryz.ntmps149
  go_upto_region 1 with fail
  generalize hW : (w.alloc _).alloc _ = W0
  have hs0 : ae W0 w.heap.size S := by subst hW; exact (ae.box w S).later nal
  have hr0 : ae W0 (w.heap.size + 1) w40 := by
   subst hW
   have := ae.new (w.alloc (.cells #[.int .u64 S.a, .int .u64 S.b, .int .u64 S.c, .int .u64 S.d] 28))
   simpa using this
  have hb0 : Below w.heap.size w W0 := by subst hW; exact nal.alloc (by simp) _
  clear hW
  obtain ⟨f0, f1, f2, f3⟩ := hs0.at4
  simp only [Nat.zero_add] at f1 f2 f3
  have z0 := hs0.froz 0; have z1 := hs0.froz 1; have z2 := hs0.froz 2; have z3 := hs0.froz 3
  have hz : w.heap.size < W0.heap.size := hs0.lt
  go_upto_region 2 with fail
  generalize hW1 : W0.setCell _ _ = W1
  have hs1 : ae W1 w.heap.size T := by subst hW1; exact Hadd.out W0 _ hs0
  have hr1 : ae W1 (w.heap.size + 1) w40 := by subst hW1; exact hr0.other (by omega) _ _
  have hb1 : Below w.heap.size w W1 := by subst hW1; exact hb0.setCell (p := ⟨w.heap.size, _, none⟩) (Nat.le_refl _) _
  clear hW1 hs0 hr0 hb0 f0 f1 f2 f3 z0 z1 z2 z3 hz
  obtain ⟨f0, f1, f2, f3⟩ := hs1.at4
  obtain ⟨g0, g1, g2, g3⟩ := hr1.at4
  simp only [Nat.zero_add] at f1 f2 f3 g1 g2 g3
  have y0 := hr1.froz 0; have y1 := hr1.froz 1; have y2 := hr1.froz 2; have y3 := hr1.froz 3
  have Hr1 := hid hr1; have Hb1 := hid hb1
  clear hs1 hr1 hb1
  go_wp2_with fail
  change bodyPost _ _ _ _ _ (setV W1 (w.heap.size + 1) T)
  obtain ⟨q0, q1, q2, q3⟩ := (Hr1.out.setV T).at4
  simp only [Nat.zero_add] at q1 q2 q3
  have hB := Hb1.out.setV (b := w.heap.size + 1) (by omega) T
  clear f0 f1 f2 f3 g0 g1 g2 g3 y0 y1 y2 y3
  generalize setV W1 (w.heap.size + 1) T = W at *
  exact bodyPost_ret (v := T.V) (by simp [results, Tryz.results149, go_sem, q0, q1, q2, q3]) rfl ⟨rfl, hB⟩
theorem ae.setOther {w : World} {b b' : Nat} {s : W4} (h : ae w b s) (hn : b ≠ b') (T : W4) : ae (Go.Proofs.YthlakbjnmbddaaaGreatDoor.setV w b' T) b s := h.keep (fM _ _ _ _ hn)
theorem ah (w : World) (S : W4) (f t : Nat) (hf : f ≤ 256) (ht : t ≤ 255) :
 Calls Tryz.prog 147 #[S.V, .int .i64 (f : Int), .int .i64 (t : Int)] w fun en w' => en = .returned (S.span f (t + 1 - f)).V ∧ Below w.heap.size w w' := by
 go_enter Tryz.func147, Tryz.ntmps147
 go_upto_region 1 with fail
 generalize hW : (w.alloc _).alloc _ = W0
 have hs0 : ae W0 w.heap.size S := by subst hW; exact (ae.box w S).later nal
 have hr0 : ae W0 (w.heap.size + 1) w40 := by
  subst hW
  have := ae.new (w.alloc (.cells #[.int .u64 S.a, .int .u64 S.b, .int .u64 S.c, .int .u64 S.d] 28))
  simpa using this
 have hb0 : Below w.heap.size w W0 := by subst hW; exact nal.alloc (by simp) _
 clear hW
 go_wp2_with fail
 go_loopg [7] (t + 1 - f) (fun n i wr => ∃ (j : Nat) (T : W4), i = .int .i64 j ∧ n = t + 1 - j ∧ f ≤ j ∧ (List.range' j (t + 1 - j)).foldl W4.add T = S.span f (t + 1 - f) ∧ ae wr w.heap.size T ∧ ae wr (w.heap.size + 1) w40 ∧ Below w.heap.size w wr)
 case atStart => exact ⟨f, S, rfl, rfl, Nat.le_refl _, rfl, hs0, hr0, hb0⟩
 case round =>
  obtain ⟨j, T, rfl, hn, hfj, hm, hS, hR, hB⟩ := hrel
  clear hs0 hr0 hb0
  obtain ⟨f0, f1, f2, f3⟩ := hS.at4
  simp only [Nat.zero_add] at f1 f2 f3
  have Hm := hid hm; have HS := hid hS; have HR := hid hR; have HB := hid hB; have Hn := hid hn
  clear hm hS hR hB hn
  by_cases hlt : j ≤ t
  · have hmod : IntKind.u8.wrap (j : Int) = (j : Int) := by simp [IntKind.wrap, IntKind.signed, IntKind.bits]; omega
    go_wp2_with fail
    refine (eq wr T j (by omega)).mono ?_
    rintro en w1 ⟨rfl, hb1⟩
    have hs1 := HS.out.later hb1
    have hr1 := HR.out.later hb1
    obtain ⟨g0, g1, g2, g3⟩ := hs1.at4
    simp only [Nat.zero_add] at g1 g2 g3
    have y0 := hs1.froz 0; have y1 := hs1.froz 1; have y2 := hs1.froz 2; have y3 := hs1.froz 3
    have Hs1 := hid hs1; have Hr1 := hid hr1; have HB1 := hid (HB.out.step hb1)
    have hstep : (List.range' (j + 1) (t + 1 - (j + 1))).foldl W4.add (T.add j) = S.span f (t + 1 - f) := by
     rw [← Hm.out, show t + 1 - j = (t + 1 - (j + 1)) + 1 by omega, List.range'_succ, List.foldl_cons]
    have Hstep := hid hstep
    clear hs1 hr1 hb1 hstep f0 f1 f2 f3 HS HR HB Hm
    go_wp2_with fail
    change Handed _ _ _ (setV w1 w.heap.size (T.add j))
    have hA := Hs1.out.setV (T.add j)
    have hR' := Hr1.out.setOther (b' := w.heap.size) (by omega) (T.add j)
    have hB' := HB1.out.setV (b := w.heap.size) (Nat.le_refl _) (T.add j)
    clear g0 g1 g2 g3 y0 y1 y2 y3
    generalize setV w1 w.heap.size (T.add j) = W1 at *
    go_roundg (t + 1 - (j + 1))
    case measure => have := Hn.out; omega
    case rel => exact ⟨j + 1, T.add j, by go_num, rfl, by omega, Hstep.out, hA, hR', hB'⟩
  · have hres : T = S.span f (t + 1 - f) := by rw [← Hm.out, show t + 1 - j = 0 by omega]; rfl
    have Hres := hid hres
    obtain ⟨g0, g1, g2, g3⟩ := HR.out.at4
    simp only [Nat.zero_add] at g1 g2 g3
    have y0 := HR.out.froz 0; have y1 := HR.out.froz 1; have y2 := HR.out.froz 2; have y3 := HR.out.froz 3
    clear hres Hm
    go_wp2_with fail
    change bodyPost _ _ _ _ _ (setV wr (w.heap.size + 1) T)
    obtain ⟨q0, q1, q2, q3⟩ := (HR.out.setV T).at4
    simp only [Nat.zero_add] at q1 q2 q3
    have hB := HB.out.setV (b := w.heap.size + 1) (by omega) T
    clear f0 f1 f2 f3 g0 g1 g2 g3 y0 y1 y2 y3
    generalize setV wr (w.heap.size + 1) T = W at *
    exact bodyPost_ret (v := T.V) (by simp [results, Tryz.results147, go_sem, q0, q1, q2, q3]) rfl ⟨by rw [Hres.out], hB⟩
theorem vk (w : World) :
 Calls Tryz.prog 136 #[] w fun en w' => en = .returned (w40.span 0 256).V ∧ Below w.heap.size w w' := by
 go_enter Tryz.func136, Tryz.ntmps136
 go_upto_region 1 with fail
 generalize hW : w.alloc _ = W0
 have hr0 : ae W0 w.heap.size w40 := by subst hW; exact ae.new w
 have hb0 : Below w.heap.size w W0 := by subst hW; exact nal
 clear hW
 go_wp2_with fail
 refine (ah W0 w40 0 255 (by omega) (by omega)).mono ?_
 rintro en w1 ⟨rfl, hb1⟩
 rw [show 255 + 1 - 0 = 256 from rfl]
 have hr1 := hr0.later hb1
 have hB1 := hb0.step hb1
 obtain ⟨g0, g1, g2, g3⟩ := hr1.at4
 simp only [Nat.zero_add] at g1 g2 g3
 have y0 := hr1.froz 0; have y1 := hr1.froz 1; have y2 := hr1.froz 2; have y3 := hr1.froz 3
 have Hr1 := hid hr1; have HB1 := hid hB1
 clear hr0 hb0 hb1 hr1 hB1
 generalize hT : w40.span 0 256 = T at *
 have HT := hid hT
 clear hT
 go_wp2_with fail
 change bodyPost _ _ _ _ _ (setV w1 w.heap.size T)
 obtain ⟨q0, q1, q2, q3⟩ := (Hr1.out.setV T).at4
 simp only [Nat.zero_add] at q1 q2 q3
 have hB := HB1.out.setV (b := w.heap.size) (Nat.le_refl _) T
 clear g0 g1 g2 g3 y0 y1 y2 y3
 generalize setV w1 w.heap.size T = W at *
 exact bodyPost_ret (v := T.V) (by simp [results, Tryz.results136, go_sem, q0, q1, q2, q3]) rfl ⟨by rw [HT.out], hB⟩
def dY (nm : Bs) : W4 × Bool := match ew nm with | some S => (S, true) | none => (w40, false)
structure ClsB (w W : World) (nb ab db : Nat) : Prop where
 bl : Below w.heap.size w W
 rs : ae W w.heap.size w40
 nn : ae W nb w40
 al : ae W ab ((w40.span 65 26).span 97 26)
 di : ae W db (w40.span 48 10)
theorem pg (w : World) : Calls Tryz.prog 166 #[.string (bs [97, 108, 112, 104, 97])] w fun en w' => en = .returned (.tuple #[(dY [97, 108, 112, 104, 97]).1.V, .bool (dY [97, 108, 112, 104, 97]).2]) ∧ Below w.heap.size w w' := by
 have Hc := hid (show dY [97, 108, 112, 104, 97] = (((w40.span 65 26).span 97 26), true) from rfl)
 go_enter Tryz.func166, Tryz.ntmps166
 go_upto_region 2 with fail
 generalize hW : (w.alloc _).alloc _ = W0
 have hr0 : ae W0 w.heap.size w40 := by subst hW; exact (ae.new w).later nal
 have hn0 : ae W0 (w.heap.size + 1) w40 := by
  subst hW
  have := ae.new (w.alloc (.cells #[.int .u64 0, .int .u64 0, .int .u64 0, .int .u64 0] 28))
  simpa using this
 have hb0 : Below w.heap.size w W0 := by subst hW; exact nal.alloc (by simp) _
 clear hW
 obtain ⟨f0, f1, f2, f3⟩ := hn0.at4
 simp only [Nat.zero_add] at f1 f2 f3
 go_wp2_with fail
 refine (ah W0 w40 65 90 (by omega) (by omega)).mono ?_
 rintro en w1 ⟨rfl, hb1⟩
 have hr1 := hr0.later hb1; have hn1 := hn0.later hb1; have hB1 := hb0.step hb1
 clear hr0 hn0 hb0 hb1 f0 f1 f2 f3
 go_wp2_with fail
 refine (ah w1 (w40.span 65 26) 97 122 (by omega) (by omega)).mono ?_
 rintro en w2 ⟨rfl, hb2⟩
 have hr2 := hr1.later hb2; have hn2 := hn1.later hb2; have hB2 := hB1.step hb2
 clear hr1 hn1 hB1 hb2
 rw [show 122 + 1 - 97 = 26 from rfl]
 have hga : ae (w2.alloc (.cells #[.int .u64 ((w40.span 65 26).span 97 26).a, .int .u64 ((w40.span 65 26).span 97 26).b, .int .u64 ((w40.span 65 26).span 97 26).c, .int .u64 ((w40.span 65 26).span 97 26).d] 28)) w2.heap.size ((w40.span 65 26).span 97 26) := ae.box w2 _
 have Hga := hid hga
 clear hga
 generalize hA : ((w40.span 65 26).span 97 26) = TA at *
 have HA := hid hA
 clear hA
 go_upto_region 3 with fail
 generalize hW : w2.alloc _ = W3
 have hb3 : Below w2.heap.size w2 W3 := by subst hW; exact nal
 have ha3 : ae W3 w2.heap.size TA := by subst hW; exact Hga.out
 clear hW Hga
 have hr3 := hr2.later hb3; have hn3 := hn2.later hb3; have hB3 := hB2.step hb3
 clear hr2 hn2 hB2 hb3
 obtain ⟨f0, f1, f2, f3⟩ := hn3.at4
 simp only [Nat.zero_add] at f1 f2 f3
 go_wp2_with fail
 refine (ah W3 w40 48 57 (by omega) (by omega)).mono ?_
 rintro en w4 ⟨rfl, hb4⟩
 have hr4 := hr3.later hb4; have hn4 := hn3.later hb4; have hB4 := hB3.step hb4; have ha4 := ha3.later hb4
 clear hr3 hn3 hB3 hb4 ha3 f0 f1 f2 f3
 rw [show 57 + 1 - 48 = 10 from rfl]
 have hgd : ae (w4.alloc (.cells #[.int .u64 (w40.span 48 10).a, .int .u64 (w40.span 48 10).b, .int .u64 (w40.span 48 10).c, .int .u64 (w40.span 48 10).d] 28)) w4.heap.size (w40.span 48 10) := ae.box w4 _
 have Hgd := hid hgd
 clear hgd
 generalize hD : (w40.span 48 10) = TD at *
 have HD := hid hD
 clear hD
 go_upto_region 4 with fail
 generalize hW : w4.alloc _ = W5
 have hb5 : Below w4.heap.size w4 W5 := by subst hW; exact nal
 have hd5 : ae W5 w4.heap.size TD := by subst hW; exact Hgd.out
 clear hW Hgd
 have hr5 := hr4.later hb5; have hn5 := hn4.later hb5; have hB5 := hB4.step hb5; have ha5 := ha4.later hb5
 clear hr4 hn4 hB4 hb5 ha4
 obtain ⟨n0, n1, n2, n3⟩ := hn5.at4
 obtain ⟨a0, a1, a2, a3⟩ := ha5.at4
 obtain ⟨d0, d1, d2, d3⟩ := hd5.at4
 simp only [Nat.zero_add] at n1 n2 n3 a1 a2 a3 d1 d2 d3
 obtain ⟨r0, r1, r2, r3⟩ := hr5.at4
 simp only [Nat.zero_add] at r1 r2 r3
 have y0 := hr5.froz 0; have y1 := hr5.froz 1; have y2 := hr5.froz 2; have y3 := hr5.froz 3
 have HR := hid hr5; have HB := hid hB5
 clear hr5 hB5
 go_wp2_with fail
 change bodyPost _ _ _ _ _ (setV W5 w.heap.size TA)
 obtain ⟨q0, q1, q2, q3⟩ := (HR.out.setV TA).at4
 simp only [Nat.zero_add] at q1 q2 q3
 have hB := HB.out.setV (b := w.heap.size) (Nat.le_refl _) TA
 clear r0 r1 r2 r3 y0 y1 y2 y3
 clear n0 n1 n2 n3 a0 a1 a2 a3 d0 d1 d2 d3
 generalize setV W5 w.heap.size TA = WZ at *
 exact bodyPost_ret (v := .tuple #[TA.V, .bool true]) (by simp [results, Tryz.results166, go_sem, q0, q1, q2, q3]) rfl ⟨by rw [Hc.out], hB⟩
theorem oW (w : World) : Calls Tryz.prog 166 #[.string (bs [117, 112, 112, 101, 114])] w fun en w' => en = .returned (.tuple #[(dY [117, 112, 112, 101, 114]).1.V, .bool (dY [117, 112, 112, 101, 114]).2]) ∧ Below w.heap.size w w' := by
 have Hc := hid (show dY [117, 112, 112, 101, 114] = ((w40.span 65 26), true) from rfl)
 go_enter Tryz.func166, Tryz.ntmps166
 go_upto_region 2 with fail
 generalize hW : (w.alloc _).alloc _ = W0
 have hr0 : ae W0 w.heap.size w40 := by subst hW; exact (ae.new w).later nal
 have hn0 : ae W0 (w.heap.size + 1) w40 := by
  subst hW
  have := ae.new (w.alloc (.cells #[.int .u64 0, .int .u64 0, .int .u64 0, .int .u64 0] 28))
  simpa using this
 have hb0 : Below w.heap.size w W0 := by subst hW; exact nal.alloc (by simp) _
 clear hW
 obtain ⟨f0, f1, f2, f3⟩ := hn0.at4
 simp only [Nat.zero_add] at f1 f2 f3
 go_wp2_with fail
 refine (ah W0 w40 65 90 (by omega) (by omega)).mono ?_
 rintro en w1 ⟨rfl, hb1⟩
 have hr1 := hr0.later hb1; have hn1 := hn0.later hb1; have hB1 := hb0.step hb1
 clear hr0 hn0 hb0 hb1 f0 f1 f2 f3
 go_wp2_with fail
 refine (ah w1 (w40.span 65 26) 97 122 (by omega) (by omega)).mono ?_
 rintro en w2 ⟨rfl, hb2⟩
 have hr2 := hr1.later hb2; have hn2 := hn1.later hb2; have hB2 := hB1.step hb2
 clear hr1 hn1 hB1 hb2
 rw [show 122 + 1 - 97 = 26 from rfl]
 have hga : ae (w2.alloc (.cells #[.int .u64 ((w40.span 65 26).span 97 26).a, .int .u64 ((w40.span 65 26).span 97 26).b, .int .u64 ((w40.span 65 26).span 97 26).c, .int .u64 ((w40.span 65 26).span 97 26).d] 28)) w2.heap.size ((w40.span 65 26).span 97 26) := ae.box w2 _
 have Hga := hid hga
 clear hga
 generalize hA : ((w40.span 65 26).span 97 26) = TA at *
 have HA := hid hA
 clear hA
 go_upto_region 3 with fail
 generalize hW : w2.alloc _ = W3
 have hb3 : Below w2.heap.size w2 W3 := by subst hW; exact nal
 have ha3 : ae W3 w2.heap.size TA := by subst hW; exact Hga.out
 clear hW Hga
 have hr3 := hr2.later hb3; have hn3 := hn2.later hb3; have hB3 := hB2.step hb3
 clear hr2 hn2 hB2 hb3
 obtain ⟨f0, f1, f2, f3⟩ := hn3.at4
 simp only [Nat.zero_add] at f1 f2 f3
 go_wp2_with fail
 refine (ah W3 w40 48 57 (by omega) (by omega)).mono ?_
 rintro en w4 ⟨rfl, hb4⟩
 have hr4 := hr3.later hb4; have hn4 := hn3.later hb4; have hB4 := hB3.step hb4; have ha4 := ha3.later hb4
 clear hr3 hn3 hB3 hb4 ha3 f0 f1 f2 f3
 rw [show 57 + 1 - 48 = 10 from rfl]
 have hgd : ae (w4.alloc (.cells #[.int .u64 (w40.span 48 10).a, .int .u64 (w40.span 48 10).b, .int .u64 (w40.span 48 10).c, .int .u64 (w40.span 48 10).d] 28)) w4.heap.size (w40.span 48 10) := ae.box w4 _
 have Hgd := hid hgd
 clear hgd
 generalize hD : (w40.span 48 10) = TD at *
 have HD := hid hD
 clear hD
 go_upto_region 4 with fail
 generalize hW : w4.alloc _ = W5
 have hb5 : Below w4.heap.size w4 W5 := by subst hW; exact nal
 have hd5 : ae W5 w4.heap.size TD := by subst hW; exact Hgd.out
 clear hW Hgd
 have hr5 := hr4.later hb5; have hn5 := hn4.later hb5; have hB5 := hB4.step hb5; have ha5 := ha4.later hb5
 clear hr4 hn4 hB4 hb5 ha4
 obtain ⟨n0, n1, n2, n3⟩ := hn5.at4
 obtain ⟨a0, a1, a2, a3⟩ := ha5.at4
 obtain ⟨d0, d1, d2, d3⟩ := hd5.at4
 simp only [Nat.zero_add] at n1 n2 n3 a1 a2 a3 d1 d2 d3
 go_wp2_with fail
 refine (ah W5 w40 65 90 (by omega) (by omega)).mono ?_
 rintro en w6 ⟨rfl, hb6⟩
 have hr6 := hr5.later hb6; have hB6 := hB5.step hb6
 clear hr5 hB5 hb6 n0 n1 n2 n3 a0 a1 a2 a3 d0 d1 d2 d3 hn5 ha5 hd5
 rw [show 90 + 1 - 65 = 26 from rfl]
 generalize hX6 : (w40.span 65 26) = T6 at *
 have HX6 := hid hX6
 clear hX6
 obtain ⟨r0, r1, r2, r3⟩ := hr6.at4
 simp only [Nat.zero_add] at r1 r2 r3
 have y0 := hr6.froz 0; have y1 := hr6.froz 1; have y2 := hr6.froz 2; have y3 := hr6.froz 3
 have HR := hid hr6; have HB := hid hB6
 clear hr6 hB6
 go_wp2_with fail
 change bodyPost _ _ _ _ _ (setV w6 w.heap.size T6)
 obtain ⟨q0, q1, q2, q3⟩ := (HR.out.setV T6).at4
 simp only [Nat.zero_add] at q1 q2 q3
 have hB := HB.out.setV (b := w.heap.size) (Nat.le_refl _) T6
 clear r0 r1 r2 r3 y0 y1 y2 y3
 generalize setV w6 w.heap.size T6 = WZ at *
 exact bodyPost_ret (v := .tuple #[T6.V, .bool true]) (by simp [results, Tryz.results166, go_sem, q0, q1, q2, q3]) rfl ⟨by rw [Hc.out], hB⟩
theorem pa (w : World) : Calls Tryz.prog 166 #[.string (bs [108, 111, 119, 101, 114])] w fun en w' => en = .returned (.tuple #[(dY [108, 111, 119, 101, 114]).1.V, .bool (dY [108, 111, 119, 101, 114]).2]) ∧ Below w.heap.size w w' := by
 have Hc := hid (show dY [108, 111, 119, 101, 114] = ((w40.span 97 26), true) from rfl)
 go_enter Tryz.func166, Tryz.ntmps166
 go_upto_region 2 with fail
 generalize hW : (w.alloc _).alloc _ = W0
 have hr0 : ae W0 w.heap.size w40 := by subst hW; exact (ae.new w).later nal
 have hn0 : ae W0 (w.heap.size + 1) w40 := by
  subst hW
  have := ae.new (w.alloc (.cells #[.int .u64 0, .int .u64 0, .int .u64 0, .int .u64 0] 28))
  simpa using this
 have hb0 : Below w.heap.size w W0 := by subst hW; exact nal.alloc (by simp) _
 clear hW
 obtain ⟨f0, f1, f2, f3⟩ := hn0.at4
 simp only [Nat.zero_add] at f1 f2 f3
 go_wp2_with fail
 refine (ah W0 w40 65 90 (by omega) (by omega)).mono ?_
 rintro en w1 ⟨rfl, hb1⟩
 have hr1 := hr0.later hb1; have hn1 := hn0.later hb1; have hB1 := hb0.step hb1
 clear hr0 hn0 hb0 hb1 f0 f1 f2 f3
 go_wp2_with fail
 refine (ah w1 (w40.span 65 26) 97 122 (by omega) (by omega)).mono ?_
 rintro en w2 ⟨rfl, hb2⟩
 have hr2 := hr1.later hb2; have hn2 := hn1.later hb2; have hB2 := hB1.step hb2
 clear hr1 hn1 hB1 hb2
 rw [show 122 + 1 - 97 = 26 from rfl]
 have hga : ae (w2.alloc (.cells #[.int .u64 ((w40.span 65 26).span 97 26).a, .int .u64 ((w40.span 65 26).span 97 26).b, .int .u64 ((w40.span 65 26).span 97 26).c, .int .u64 ((w40.span 65 26).span 97 26).d] 28)) w2.heap.size ((w40.span 65 26).span 97 26) := ae.box w2 _
 have Hga := hid hga
 clear hga
 generalize hA : ((w40.span 65 26).span 97 26) = TA at *
 have HA := hid hA
 clear hA
 go_upto_region 3 with fail
 generalize hW : w2.alloc _ = W3
 have hb3 : Below w2.heap.size w2 W3 := by subst hW; exact nal
 have ha3 : ae W3 w2.heap.size TA := by subst hW; exact Hga.out
 clear hW Hga
 have hr3 := hr2.later hb3; have hn3 := hn2.later hb3; have hB3 := hB2.step hb3
 clear hr2 hn2 hB2 hb3
 obtain ⟨f0, f1, f2, f3⟩ := hn3.at4
 simp only [Nat.zero_add] at f1 f2 f3
 go_wp2_with fail
 refine (ah W3 w40 48 57 (by omega) (by omega)).mono ?_
 rintro en w4 ⟨rfl, hb4⟩
 have hr4 := hr3.later hb4; have hn4 := hn3.later hb4; have hB4 := hB3.step hb4; have ha4 := ha3.later hb4
 clear hr3 hn3 hB3 hb4 ha3 f0 f1 f2 f3
 rw [show 57 + 1 - 48 = 10 from rfl]
 have hgd : ae (w4.alloc (.cells #[.int .u64 (w40.span 48 10).a, .int .u64 (w40.span 48 10).b, .int .u64 (w40.span 48 10).c, .int .u64 (w40.span 48 10).d] 28)) w4.heap.size (w40.span 48 10) := ae.box w4 _
 have Hgd := hid hgd
 clear hgd
 generalize hD : (w40.span 48 10) = TD at *
 have HD := hid hD
 clear hD
 go_upto_region 4 with fail
 generalize hW : w4.alloc _ = W5
 have hb5 : Below w4.heap.size w4 W5 := by subst hW; exact nal
 have hd5 : ae W5 w4.heap.size TD := by subst hW; exact Hgd.out
 clear hW Hgd
 have hr5 := hr4.later hb5; have hn5 := hn4.later hb5; have hB5 := hB4.step hb5; have ha5 := ha4.later hb5
 clear hr4 hn4 hB4 hb5 ha4
 obtain ⟨n0, n1, n2, n3⟩ := hn5.at4
 obtain ⟨a0, a1, a2, a3⟩ := ha5.at4
 obtain ⟨d0, d1, d2, d3⟩ := hd5.at4
 simp only [Nat.zero_add] at n1 n2 n3 a1 a2 a3 d1 d2 d3
 go_wp2_with fail
 refine (ah W5 w40 97 122 (by omega) (by omega)).mono ?_
 rintro en w6 ⟨rfl, hb6⟩
 have hr6 := hr5.later hb6; have hB6 := hB5.step hb6
 clear hr5 hB5 hb6 n0 n1 n2 n3 a0 a1 a2 a3 d0 d1 d2 d3 hn5 ha5 hd5
 rw [show 122 + 1 - 97 = 26 from rfl]
 generalize hX6 : (w40.span 97 26) = T6 at *
 have HX6 := hid hX6
 clear hX6
 obtain ⟨r0, r1, r2, r3⟩ := hr6.at4
 simp only [Nat.zero_add] at r1 r2 r3
 have y0 := hr6.froz 0; have y1 := hr6.froz 1; have y2 := hr6.froz 2; have y3 := hr6.froz 3
 have HR := hid hr6; have HB := hid hB6
 clear hr6 hB6
 go_wp2_with fail
 change bodyPost _ _ _ _ _ (setV w6 w.heap.size T6)
 obtain ⟨q0, q1, q2, q3⟩ := (HR.out.setV T6).at4
 simp only [Nat.zero_add] at q1 q2 q3
 have hB := HB.out.setV (b := w.heap.size) (Nat.le_refl _) T6
 clear r0 r1 r2 r3 y0 y1 y2 y3
 generalize setV w6 w.heap.size T6 = WZ at *
 exact bodyPost_ret (v := .tuple #[T6.V, .bool true]) (by simp [results, Tryz.results166, go_sem, q0, q1, q2, q3]) rfl ⟨by rw [Hc.out], hB⟩
theorem pc (w : World) : Calls Tryz.prog 166 #[.string (bs [100, 105, 103, 105, 116])] w fun en w' => en = .returned (.tuple #[(dY [100, 105, 103, 105, 116]).1.V, .bool (dY [100, 105, 103, 105, 116]).2]) ∧ Below w.heap.size w w' := by
 have Hc := hid (show dY [100, 105, 103, 105, 116] = ((w40.span 48 10), true) from rfl)
 go_enter Tryz.func166, Tryz.ntmps166
 go_upto_region 2 with fail
 generalize hW : (w.alloc _).alloc _ = W0
 have hr0 : ae W0 w.heap.size w40 := by subst hW; exact (ae.new w).later nal
 have hn0 : ae W0 (w.heap.size + 1) w40 := by
  subst hW
  have := ae.new (w.alloc (.cells #[.int .u64 0, .int .u64 0, .int .u64 0, .int .u64 0] 28))
  simpa using this
 have hb0 : Below w.heap.size w W0 := by subst hW; exact nal.alloc (by simp) _
 clear hW
 obtain ⟨f0, f1, f2, f3⟩ := hn0.at4
 simp only [Nat.zero_add] at f1 f2 f3
 go_wp2_with fail
 refine (ah W0 w40 65 90 (by omega) (by omega)).mono ?_
 rintro en w1 ⟨rfl, hb1⟩
 have hr1 := hr0.later hb1; have hn1 := hn0.later hb1; have hB1 := hb0.step hb1
 clear hr0 hn0 hb0 hb1 f0 f1 f2 f3
 go_wp2_with fail
 refine (ah w1 (w40.span 65 26) 97 122 (by omega) (by omega)).mono ?_
 rintro en w2 ⟨rfl, hb2⟩
 have hr2 := hr1.later hb2; have hn2 := hn1.later hb2; have hB2 := hB1.step hb2
 clear hr1 hn1 hB1 hb2
 rw [show 122 + 1 - 97 = 26 from rfl]
 have hga : ae (w2.alloc (.cells #[.int .u64 ((w40.span 65 26).span 97 26).a, .int .u64 ((w40.span 65 26).span 97 26).b, .int .u64 ((w40.span 65 26).span 97 26).c, .int .u64 ((w40.span 65 26).span 97 26).d] 28)) w2.heap.size ((w40.span 65 26).span 97 26) := ae.box w2 _
 have Hga := hid hga
 clear hga
 generalize hA : ((w40.span 65 26).span 97 26) = TA at *
 have HA := hid hA
 clear hA
 go_upto_region 3 with fail
 generalize hW : w2.alloc _ = W3
 have hb3 : Below w2.heap.size w2 W3 := by subst hW; exact nal
 have ha3 : ae W3 w2.heap.size TA := by subst hW; exact Hga.out
 clear hW Hga
 have hr3 := hr2.later hb3; have hn3 := hn2.later hb3; have hB3 := hB2.step hb3
 clear hr2 hn2 hB2 hb3
 obtain ⟨f0, f1, f2, f3⟩ := hn3.at4
 simp only [Nat.zero_add] at f1 f2 f3
 go_wp2_with fail
 refine (ah W3 w40 48 57 (by omega) (by omega)).mono ?_
 rintro en w4 ⟨rfl, hb4⟩
 have hr4 := hr3.later hb4; have hn4 := hn3.later hb4; have hB4 := hB3.step hb4; have ha4 := ha3.later hb4
 clear hr3 hn3 hB3 hb4 ha3 f0 f1 f2 f3
 rw [show 57 + 1 - 48 = 10 from rfl]
 have hgd : ae (w4.alloc (.cells #[.int .u64 (w40.span 48 10).a, .int .u64 (w40.span 48 10).b, .int .u64 (w40.span 48 10).c, .int .u64 (w40.span 48 10).d] 28)) w4.heap.size (w40.span 48 10) := ae.box w4 _
 have Hgd := hid hgd
 clear hgd
 generalize hD : (w40.span 48 10) = TD at *
 have HD := hid hD
 clear hD
 go_upto_region 4 with fail
 generalize hW : w4.alloc _ = W5
 have hb5 : Below w4.heap.size w4 W5 := by subst hW; exact nal
 have hd5 : ae W5 w4.heap.size TD := by subst hW; exact Hgd.out
 clear hW Hgd
 have hr5 := hr4.later hb5; have hn5 := hn4.later hb5; have hB5 := hB4.step hb5; have ha5 := ha4.later hb5
 clear hr4 hn4 hB4 hb5 ha4
 obtain ⟨n0, n1, n2, n3⟩ := hn5.at4
 obtain ⟨a0, a1, a2, a3⟩ := ha5.at4
 obtain ⟨d0, d1, d2, d3⟩ := hd5.at4
 simp only [Nat.zero_add] at n1 n2 n3 a1 a2 a3 d1 d2 d3
 obtain ⟨r0, r1, r2, r3⟩ := hr5.at4
 simp only [Nat.zero_add] at r1 r2 r3
 have y0 := hr5.froz 0; have y1 := hr5.froz 1; have y2 := hr5.froz 2; have y3 := hr5.froz 3
 have HR := hid hr5; have HB := hid hB5
 clear hr5 hB5
 go_wp2_with fail
 change bodyPost _ _ _ _ _ (setV W5 w.heap.size TD)
 obtain ⟨q0, q1, q2, q3⟩ := (HR.out.setV TD).at4
 simp only [Nat.zero_add] at q1 q2 q3
 have hB := HB.out.setV (b := w.heap.size) (Nat.le_refl _) TD
 clear r0 r1 r2 r3 y0 y1 y2 y3
 clear n0 n1 n2 n3 a0 a1 a2 a3 d0 d1 d2 d3
 generalize setV W5 w.heap.size TD = WZ at *
 exact bodyPost_ret (v := .tuple #[TD.V, .bool true]) (by simp [results, Tryz.results166, go_sem, q0, q1, q2, q3]) rfl ⟨by rw [Hc.out], hB⟩
theorem ph (w : World) : Calls Tryz.prog 166 #[.string (bs [97, 108, 110, 117, 109])] w fun en w' => en = .returned (.tuple #[(dY [97, 108, 110, 117, 109]).1.V, .bool (dY [97, 108, 110, 117, 109]).2]) ∧ Below w.heap.size w w' := by
 have Hc := hid (show dY [97, 108, 110, 117, 109] = ((((w40.span 65 26).span 97 26).span 48 10), true) from rfl)
 go_enter Tryz.func166, Tryz.ntmps166
 go_upto_region 2 with fail
 generalize hW : (w.alloc _).alloc _ = W0
 have hr0 : ae W0 w.heap.size w40 := by subst hW; exact (ae.new w).later nal
 have hn0 : ae W0 (w.heap.size + 1) w40 := by
  subst hW
  have := ae.new (w.alloc (.cells #[.int .u64 0, .int .u64 0, .int .u64 0, .int .u64 0] 28))
  simpa using this
 have hb0 : Below w.heap.size w W0 := by subst hW; exact nal.alloc (by simp) _
 clear hW
 obtain ⟨f0, f1, f2, f3⟩ := hn0.at4
 simp only [Nat.zero_add] at f1 f2 f3
 go_wp2_with fail
 refine (ah W0 w40 65 90 (by omega) (by omega)).mono ?_
 rintro en w1 ⟨rfl, hb1⟩
 have hr1 := hr0.later hb1; have hn1 := hn0.later hb1; have hB1 := hb0.step hb1
 clear hr0 hn0 hb0 hb1 f0 f1 f2 f3
 go_wp2_with fail
 refine (ah w1 (w40.span 65 26) 97 122 (by omega) (by omega)).mono ?_
 rintro en w2 ⟨rfl, hb2⟩
 have hr2 := hr1.later hb2; have hn2 := hn1.later hb2; have hB2 := hB1.step hb2
 clear hr1 hn1 hB1 hb2
 rw [show 122 + 1 - 97 = 26 from rfl]
 have hga : ae (w2.alloc (.cells #[.int .u64 ((w40.span 65 26).span 97 26).a, .int .u64 ((w40.span 65 26).span 97 26).b, .int .u64 ((w40.span 65 26).span 97 26).c, .int .u64 ((w40.span 65 26).span 97 26).d] 28)) w2.heap.size ((w40.span 65 26).span 97 26) := ae.box w2 _
 have Hga := hid hga
 clear hga
 generalize hA : ((w40.span 65 26).span 97 26) = TA at *
 have HA := hid hA
 clear hA
 go_upto_region 3 with fail
 generalize hW : w2.alloc _ = W3
 have hb3 : Below w2.heap.size w2 W3 := by subst hW; exact nal
 have ha3 : ae W3 w2.heap.size TA := by subst hW; exact Hga.out
 clear hW Hga
 have hr3 := hr2.later hb3; have hn3 := hn2.later hb3; have hB3 := hB2.step hb3
 clear hr2 hn2 hB2 hb3
 obtain ⟨f0, f1, f2, f3⟩ := hn3.at4
 simp only [Nat.zero_add] at f1 f2 f3
 go_wp2_with fail
 refine (ah W3 w40 48 57 (by omega) (by omega)).mono ?_
 rintro en w4 ⟨rfl, hb4⟩
 have hr4 := hr3.later hb4; have hn4 := hn3.later hb4; have hB4 := hB3.step hb4; have ha4 := ha3.later hb4
 clear hr3 hn3 hB3 hb4 ha3 f0 f1 f2 f3
 rw [show 57 + 1 - 48 = 10 from rfl]
 have hgd : ae (w4.alloc (.cells #[.int .u64 (w40.span 48 10).a, .int .u64 (w40.span 48 10).b, .int .u64 (w40.span 48 10).c, .int .u64 (w40.span 48 10).d] 28)) w4.heap.size (w40.span 48 10) := ae.box w4 _
 have Hgd := hid hgd
 clear hgd
 generalize hD : (w40.span 48 10) = TD at *
 have HD := hid hD
 clear hD
 go_upto_region 4 with fail
 generalize hW : w4.alloc _ = W5
 have hb5 : Below w4.heap.size w4 W5 := by subst hW; exact nal
 have hd5 : ae W5 w4.heap.size TD := by subst hW; exact Hgd.out
 clear hW Hgd
 have hr5 := hr4.later hb5; have hn5 := hn4.later hb5; have hB5 := hB4.step hb5; have ha5 := ha4.later hb5
 clear hr4 hn4 hB4 hb5 ha4
 obtain ⟨n0, n1, n2, n3⟩ := hn5.at4
 obtain ⟨a0, a1, a2, a3⟩ := ha5.at4
 obtain ⟨d0, d1, d2, d3⟩ := hd5.at4
 simp only [Nat.zero_add] at n1 n2 n3 a1 a2 a3 d1 d2 d3
 go_wp2_with fail
 refine (ah W5 TA 48 57 (by omega) (by omega)).mono ?_
 rintro en w6 ⟨rfl, hb6⟩
 have hr6 := hr5.later hb6; have hB6 := hB5.step hb6
 clear hr5 hB5 hb6 n0 n1 n2 n3 a0 a1 a2 a3 d0 d1 d2 d3 hn5 ha5 hd5
 rw [show 57 + 1 - 48 = 10 from rfl]
 generalize hX6 : (TA.span 48 10) = T6 at *
 have HX6 := hid hX6
 clear hX6
 obtain ⟨r0, r1, r2, r3⟩ := hr6.at4
 simp only [Nat.zero_add] at r1 r2 r3
 have y0 := hr6.froz 0; have y1 := hr6.froz 1; have y2 := hr6.froz 2; have y3 := hr6.froz 3
 have HR := hid hr6; have HB := hid hB6
 clear hr6 hB6
 go_wp2_with fail
 change bodyPost _ _ _ _ _ (setV w6 w.heap.size T6)
 obtain ⟨q0, q1, q2, q3⟩ := (HR.out.setV T6).at4
 simp only [Nat.zero_add] at q1 q2 q3
 have hB := HB.out.setV (b := w.heap.size) (Nat.le_refl _) T6
 clear r0 r1 r2 r3 y0 y1 y2 y3
 generalize setV w6 w.heap.size T6 = WZ at *
 exact bodyPost_ret (v := .tuple #[T6.V, .bool true]) (by simp [results, Tryz.results166, go_sem, q0, q1, q2, q3]) rfl ⟨by rw [Hc.out], hB⟩
theorem nW (w : World) : Calls Tryz.prog 166 #[.string (bs [120, 100, 105, 103, 105, 116])] w fun en w' => en = .returned (.tuple #[(dY [120, 100, 105, 103, 105, 116]).1.V, .bool (dY [120, 100, 105, 103, 105, 116]).2]) ∧ Below w.heap.size w w' := by
 have Hc := hid (show dY [120, 100, 105, 103, 105, 116] = ((((w40.span 48 10).span 65 6).span 97 6), true) from rfl)
 go_enter Tryz.func166, Tryz.ntmps166
 go_upto_region 2 with fail
 generalize hW : (w.alloc _).alloc _ = W0
 have hr0 : ae W0 w.heap.size w40 := by subst hW; exact (ae.new w).later nal
 have hn0 : ae W0 (w.heap.size + 1) w40 := by
  subst hW
  have := ae.new (w.alloc (.cells #[.int .u64 0, .int .u64 0, .int .u64 0, .int .u64 0] 28))
  simpa using this
 have hb0 : Below w.heap.size w W0 := by subst hW; exact nal.alloc (by simp) _
 clear hW
 obtain ⟨f0, f1, f2, f3⟩ := hn0.at4
 simp only [Nat.zero_add] at f1 f2 f3
 go_wp2_with fail
 refine (ah W0 w40 65 90 (by omega) (by omega)).mono ?_
 rintro en w1 ⟨rfl, hb1⟩
 have hr1 := hr0.later hb1; have hn1 := hn0.later hb1; have hB1 := hb0.step hb1
 clear hr0 hn0 hb0 hb1 f0 f1 f2 f3
 go_wp2_with fail
 refine (ah w1 (w40.span 65 26) 97 122 (by omega) (by omega)).mono ?_
 rintro en w2 ⟨rfl, hb2⟩
 have hr2 := hr1.later hb2; have hn2 := hn1.later hb2; have hB2 := hB1.step hb2
 clear hr1 hn1 hB1 hb2
 rw [show 122 + 1 - 97 = 26 from rfl]
 have hga : ae (w2.alloc (.cells #[.int .u64 ((w40.span 65 26).span 97 26).a, .int .u64 ((w40.span 65 26).span 97 26).b, .int .u64 ((w40.span 65 26).span 97 26).c, .int .u64 ((w40.span 65 26).span 97 26).d] 28)) w2.heap.size ((w40.span 65 26).span 97 26) := ae.box w2 _
 have Hga := hid hga
 clear hga
 generalize hA : ((w40.span 65 26).span 97 26) = TA at *
 have HA := hid hA
 clear hA
 go_upto_region 3 with fail
 generalize hW : w2.alloc _ = W3
 have hb3 : Below w2.heap.size w2 W3 := by subst hW; exact nal
 have ha3 : ae W3 w2.heap.size TA := by subst hW; exact Hga.out
 clear hW Hga
 have hr3 := hr2.later hb3; have hn3 := hn2.later hb3; have hB3 := hB2.step hb3
 clear hr2 hn2 hB2 hb3
 obtain ⟨f0, f1, f2, f3⟩ := hn3.at4
 simp only [Nat.zero_add] at f1 f2 f3
 go_wp2_with fail
 refine (ah W3 w40 48 57 (by omega) (by omega)).mono ?_
 rintro en w4 ⟨rfl, hb4⟩
 have hr4 := hr3.later hb4; have hn4 := hn3.later hb4; have hB4 := hB3.step hb4; have ha4 := ha3.later hb4
 clear hr3 hn3 hB3 hb4 ha3 f0 f1 f2 f3
 rw [show 57 + 1 - 48 = 10 from rfl]
 have hgd : ae (w4.alloc (.cells #[.int .u64 (w40.span 48 10).a, .int .u64 (w40.span 48 10).b, .int .u64 (w40.span 48 10).c, .int .u64 (w40.span 48 10).d] 28)) w4.heap.size (w40.span 48 10) := ae.box w4 _
 have Hgd := hid hgd
 clear hgd
 generalize hD : (w40.span 48 10) = TD at *
 have HD := hid hD
 clear hD
 go_upto_region 4 with fail
 generalize hW : w4.alloc _ = W5
 have hb5 : Below w4.heap.size w4 W5 := by subst hW; exact nal
 have hd5 : ae W5 w4.heap.size TD := by subst hW; exact Hgd.out
 clear hW Hgd
 have hr5 := hr4.later hb5; have hn5 := hn4.later hb5; have hB5 := hB4.step hb5; have ha5 := ha4.later hb5
 clear hr4 hn4 hB4 hb5 ha4
 obtain ⟨n0, n1, n2, n3⟩ := hn5.at4
 obtain ⟨a0, a1, a2, a3⟩ := ha5.at4
 obtain ⟨d0, d1, d2, d3⟩ := hd5.at4
 simp only [Nat.zero_add] at n1 n2 n3 a1 a2 a3 d1 d2 d3
 go_wp2_with fail
 refine (ah W5 TD 65 70 (by omega) (by omega)).mono ?_
 rintro en w6 ⟨rfl, hb6⟩
 have hr6 := hr5.later hb6; have hB6 := hB5.step hb6
 clear hr5 hB5 hb6 n0 n1 n2 n3 a0 a1 a2 a3 d0 d1 d2 d3 hn5 ha5 hd5
 rw [show 70 + 1 - 65 = 6 from rfl]
 generalize hX6 : (TD.span 65 6) = T6 at *
 have HX6 := hid hX6
 clear hX6
 go_wp2_with fail
 refine (ah w6 T6 97 102 (by omega) (by omega)).mono ?_
 rintro en w7 ⟨rfl, hb7⟩
 have hr7 := hr6.later hb7; have hB7 := hB6.step hb7
 clear hr6 hB6 hb7
 rw [show 102 + 1 - 97 = 6 from rfl]
 generalize hX7 : (T6.span 97 6) = T7 at *
 have HX7 := hid hX7
 clear hX7
 obtain ⟨r0, r1, r2, r3⟩ := hr7.at4
 simp only [Nat.zero_add] at r1 r2 r3
 have y0 := hr7.froz 0; have y1 := hr7.froz 1; have y2 := hr7.froz 2; have y3 := hr7.froz 3
 have HR := hid hr7; have HB := hid hB7
 clear hr7 hB7
 go_wp2_with fail
 change bodyPost _ _ _ _ _ (setV w7 w.heap.size T7)
 obtain ⟨q0, q1, q2, q3⟩ := (HR.out.setV T7).at4
 simp only [Nat.zero_add] at q1 q2 q3
 have hB := HB.out.setV (b := w.heap.size) (Nat.le_refl _) T7
 clear r0 r1 r2 r3 y0 y1 y2 y3
 generalize setV w7 w.heap.size T7 = WZ at *
 exact bodyPost_ret (v := .tuple #[T7.V, .bool true]) (by simp [results, Tryz.results166, go_sem, q0, q1, q2, q3]) rfl ⟨by rw [Hc.out], hB⟩
theorem oX (w : World) : Calls Tryz.prog 166 #[.string (bs [115, 112, 97, 99, 101])] w fun en w' => en = .returned (.tuple #[(dY [115, 112, 97, 99, 101]).1.V, .bool (dY [115, 112, 97, 99, 101]).2]) ∧ Below w.heap.size w w' := by
 have Hc := hid (show dY [115, 112, 97, 99, 101] = (((w40.span 9 5).add 32), true) from rfl)
 go_enter Tryz.func166, Tryz.ntmps166
 go_upto_region 2 with fail
 generalize hW : (w.alloc _).alloc _ = W0
 have hr0 : ae W0 w.heap.size w40 := by subst hW; exact (ae.new w).later nal
 have hn0 : ae W0 (w.heap.size + 1) w40 := by
  subst hW
  have := ae.new (w.alloc (.cells #[.int .u64 0, .int .u64 0, .int .u64 0, .int .u64 0] 28))
  simpa using this
 have hb0 : Below w.heap.size w W0 := by subst hW; exact nal.alloc (by simp) _
 clear hW
 obtain ⟨f0, f1, f2, f3⟩ := hn0.at4
 simp only [Nat.zero_add] at f1 f2 f3
 go_wp2_with fail
 refine (ah W0 w40 65 90 (by omega) (by omega)).mono ?_
 rintro en w1 ⟨rfl, hb1⟩
 have hr1 := hr0.later hb1; have hn1 := hn0.later hb1; have hB1 := hb0.step hb1
 clear hr0 hn0 hb0 hb1 f0 f1 f2 f3
 go_wp2_with fail
 refine (ah w1 (w40.span 65 26) 97 122 (by omega) (by omega)).mono ?_
 rintro en w2 ⟨rfl, hb2⟩
 have hr2 := hr1.later hb2; have hn2 := hn1.later hb2; have hB2 := hB1.step hb2
 clear hr1 hn1 hB1 hb2
 rw [show 122 + 1 - 97 = 26 from rfl]
 have hga : ae (w2.alloc (.cells #[.int .u64 ((w40.span 65 26).span 97 26).a, .int .u64 ((w40.span 65 26).span 97 26).b, .int .u64 ((w40.span 65 26).span 97 26).c, .int .u64 ((w40.span 65 26).span 97 26).d] 28)) w2.heap.size ((w40.span 65 26).span 97 26) := ae.box w2 _
 have Hga := hid hga
 clear hga
 generalize hA : ((w40.span 65 26).span 97 26) = TA at *
 have HA := hid hA
 clear hA
 go_upto_region 3 with fail
 generalize hW : w2.alloc _ = W3
 have hb3 : Below w2.heap.size w2 W3 := by subst hW; exact nal
 have ha3 : ae W3 w2.heap.size TA := by subst hW; exact Hga.out
 clear hW Hga
 have hr3 := hr2.later hb3; have hn3 := hn2.later hb3; have hB3 := hB2.step hb3
 clear hr2 hn2 hB2 hb3
 obtain ⟨f0, f1, f2, f3⟩ := hn3.at4
 simp only [Nat.zero_add] at f1 f2 f3
 go_wp2_with fail
 refine (ah W3 w40 48 57 (by omega) (by omega)).mono ?_
 rintro en w4 ⟨rfl, hb4⟩
 have hr4 := hr3.later hb4; have hn4 := hn3.later hb4; have hB4 := hB3.step hb4; have ha4 := ha3.later hb4
 clear hr3 hn3 hB3 hb4 ha3 f0 f1 f2 f3
 rw [show 57 + 1 - 48 = 10 from rfl]
 have hgd : ae (w4.alloc (.cells #[.int .u64 (w40.span 48 10).a, .int .u64 (w40.span 48 10).b, .int .u64 (w40.span 48 10).c, .int .u64 (w40.span 48 10).d] 28)) w4.heap.size (w40.span 48 10) := ae.box w4 _
 have Hgd := hid hgd
 clear hgd
 generalize hD : (w40.span 48 10) = TD at *
 have HD := hid hD
 clear hD
 go_upto_region 4 with fail
 generalize hW : w4.alloc _ = W5
 have hb5 : Below w4.heap.size w4 W5 := by subst hW; exact nal
 have hd5 : ae W5 w4.heap.size TD := by subst hW; exact Hgd.out
 clear hW Hgd
 have hr5 := hr4.later hb5; have hn5 := hn4.later hb5; have hB5 := hB4.step hb5; have ha5 := ha4.later hb5
 clear hr4 hn4 hB4 hb5 ha4
 obtain ⟨n0, n1, n2, n3⟩ := hn5.at4
 obtain ⟨a0, a1, a2, a3⟩ := ha5.at4
 obtain ⟨d0, d1, d2, d3⟩ := hd5.at4
 simp only [Nat.zero_add] at n1 n2 n3 a1 a2 a3 d1 d2 d3
 go_wp2_with fail
 refine (ah W5 w40 9 13 (by omega) (by omega)).mono ?_
 rintro en w6 ⟨rfl, hb6⟩
 have hr6 := hr5.later hb6; have hB6 := hB5.step hb6
 clear hr5 hB5 hb6 n0 n1 n2 n3 a0 a1 a2 a3 d0 d1 d2 d3 hn5 ha5 hd5
 rw [show 13 + 1 - 9 = 5 from rfl]
 generalize hX6 : (w40.span 9 5) = T6 at *
 have HX6 := hid hX6
 clear hX6
 go_wp2_with fail
 refine (eq w6 T6 32 (by omega)).mono ?_
 rintro en w7 ⟨rfl, hb7⟩
 have hr7 := hr6.later hb7; have hB7 := hB6.step hb7
 clear hr6 hB6 hb7
 generalize hX7 : (T6.add 32) = T7 at *
 have HX7 := hid hX7
 clear hX7
 obtain ⟨r0, r1, r2, r3⟩ := hr7.at4
 simp only [Nat.zero_add] at r1 r2 r3
 have y0 := hr7.froz 0; have y1 := hr7.froz 1; have y2 := hr7.froz 2; have y3 := hr7.froz 3
 have HR := hid hr7; have HB := hid hB7
 clear hr7 hB7
 go_wp2_with fail
 change bodyPost _ _ _ _ _ (setV w7 w.heap.size T7)
 obtain ⟨q0, q1, q2, q3⟩ := (HR.out.setV T7).at4
 simp only [Nat.zero_add] at q1 q2 q3
 have hB := HB.out.setV (b := w.heap.size) (Nat.le_refl _) T7
 clear r0 r1 r2 r3 y0 y1 y2 y3
 generalize setV w7 w.heap.size T7 = WZ at *
 exact bodyPost_ret (v := .tuple #[T7.V, .bool true]) (by simp [results, Tryz.results166, go_sem, q0, q1, q2, q3]) rfl ⟨by rw [Hc.out], hB⟩
theorem pf (w : World) : Calls Tryz.prog 166 #[.string (bs [98, 108, 97, 110, 107])] w fun en w' => en = .returned (.tuple #[(dY [98, 108, 97, 110, 107]).1.V, .bool (dY [98, 108, 97, 110, 107]).2]) ∧ Below w.heap.size w w' := by
 have Hc := hid (show dY [98, 108, 97, 110, 107] = (((w40.add 9).add 32), true) from rfl)
 go_enter Tryz.func166, Tryz.ntmps166
 go_upto_region 2 with fail
 generalize hW : (w.alloc _).alloc _ = W0
 have hr0 : ae W0 w.heap.size w40 := by subst hW; exact (ae.new w).later nal
 have hn0 : ae W0 (w.heap.size + 1) w40 := by
  subst hW
  have := ae.new (w.alloc (.cells #[.int .u64 0, .int .u64 0, .int .u64 0, .int .u64 0] 28))
  simpa using this
 have hb0 : Below w.heap.size w W0 := by subst hW; exact nal.alloc (by simp) _
 clear hW
 obtain ⟨f0, f1, f2, f3⟩ := hn0.at4
 simp only [Nat.zero_add] at f1 f2 f3
 go_wp2_with fail
 refine (ah W0 w40 65 90 (by omega) (by omega)).mono ?_
 rintro en w1 ⟨rfl, hb1⟩
 have hr1 := hr0.later hb1; have hn1 := hn0.later hb1; have hB1 := hb0.step hb1
 clear hr0 hn0 hb0 hb1 f0 f1 f2 f3
 go_wp2_with fail
 refine (ah w1 (w40.span 65 26) 97 122 (by omega) (by omega)).mono ?_
 rintro en w2 ⟨rfl, hb2⟩
 have hr2 := hr1.later hb2; have hn2 := hn1.later hb2; have hB2 := hB1.step hb2
 clear hr1 hn1 hB1 hb2
 rw [show 122 + 1 - 97 = 26 from rfl]
 have hga : ae (w2.alloc (.cells #[.int .u64 ((w40.span 65 26).span 97 26).a, .int .u64 ((w40.span 65 26).span 97 26).b, .int .u64 ((w40.span 65 26).span 97 26).c, .int .u64 ((w40.span 65 26).span 97 26).d] 28)) w2.heap.size ((w40.span 65 26).span 97 26) := ae.box w2 _
 have Hga := hid hga
 clear hga
 generalize hA : ((w40.span 65 26).span 97 26) = TA at *
 have HA := hid hA
 clear hA
 go_upto_region 3 with fail
 generalize hW : w2.alloc _ = W3
 have hb3 : Below w2.heap.size w2 W3 := by subst hW; exact nal
 have ha3 : ae W3 w2.heap.size TA := by subst hW; exact Hga.out
 clear hW Hga
 have hr3 := hr2.later hb3; have hn3 := hn2.later hb3; have hB3 := hB2.step hb3
 clear hr2 hn2 hB2 hb3
 obtain ⟨f0, f1, f2, f3⟩ := hn3.at4
 simp only [Nat.zero_add] at f1 f2 f3
 go_wp2_with fail
 refine (ah W3 w40 48 57 (by omega) (by omega)).mono ?_
 rintro en w4 ⟨rfl, hb4⟩
 have hr4 := hr3.later hb4; have hn4 := hn3.later hb4; have hB4 := hB3.step hb4; have ha4 := ha3.later hb4
 clear hr3 hn3 hB3 hb4 ha3 f0 f1 f2 f3
 rw [show 57 + 1 - 48 = 10 from rfl]
 have hgd : ae (w4.alloc (.cells #[.int .u64 (w40.span 48 10).a, .int .u64 (w40.span 48 10).b, .int .u64 (w40.span 48 10).c, .int .u64 (w40.span 48 10).d] 28)) w4.heap.size (w40.span 48 10) := ae.box w4 _
 have Hgd := hid hgd
 clear hgd
 generalize hD : (w40.span 48 10) = TD at *
 have HD := hid hD
 clear hD
 go_upto_region 4 with fail
 generalize hW : w4.alloc _ = W5
 have hb5 : Below w4.heap.size w4 W5 := by subst hW; exact nal
 have hd5 : ae W5 w4.heap.size TD := by subst hW; exact Hgd.out
 clear hW Hgd
 have hr5 := hr4.later hb5; have hn5 := hn4.later hb5; have hB5 := hB4.step hb5; have ha5 := ha4.later hb5
 clear hr4 hn4 hB4 hb5 ha4
 obtain ⟨n0, n1, n2, n3⟩ := hn5.at4
 obtain ⟨a0, a1, a2, a3⟩ := ha5.at4
 obtain ⟨d0, d1, d2, d3⟩ := hd5.at4
 simp only [Nat.zero_add] at n1 n2 n3 a1 a2 a3 d1 d2 d3
 go_wp2_with fail
 refine (eq W5 w40 9 (by omega)).mono ?_
 rintro en w6 ⟨rfl, hb6⟩
 have hr6 := hr5.later hb6; have hB6 := hB5.step hb6
 clear hr5 hB5 hb6 n0 n1 n2 n3 a0 a1 a2 a3 d0 d1 d2 d3 hn5 ha5 hd5
 generalize hX6 : (w40.add 9) = T6 at *
 have HX6 := hid hX6
 clear hX6
 go_wp2_with fail
 refine (eq w6 T6 32 (by omega)).mono ?_
 rintro en w7 ⟨rfl, hb7⟩
 have hr7 := hr6.later hb7; have hB7 := hB6.step hb7
 clear hr6 hB6 hb7
 generalize hX7 : (T6.add 32) = T7 at *
 have HX7 := hid hX7
 clear hX7
 obtain ⟨r0, r1, r2, r3⟩ := hr7.at4
 simp only [Nat.zero_add] at r1 r2 r3
 have y0 := hr7.froz 0; have y1 := hr7.froz 1; have y2 := hr7.froz 2; have y3 := hr7.froz 3
 have HR := hid hr7; have HB := hid hB7
 clear hr7 hB7
 go_wp2_with fail
 change bodyPost _ _ _ _ _ (setV w7 w.heap.size T7)
 obtain ⟨q0, q1, q2, q3⟩ := (HR.out.setV T7).at4
 simp only [Nat.zero_add] at q1 q2 q3
 have hB := HB.out.setV (b := w.heap.size) (Nat.le_refl _) T7
 clear r0 r1 r2 r3 y0 y1 y2 y3
 generalize setV w7 w.heap.size T7 = WZ at *
 exact bodyPost_ret (v := .tuple #[T7.V, .bool true]) (by simp [results, Tryz.results166, go_sem, q0, q1, q2, q3]) rfl ⟨by rw [Hc.out], hB⟩
theorem pd (w : World) : Calls Tryz.prog 166 #[.string (bs [99, 110, 116, 114, 108])] w fun en w' => en = .returned (.tuple #[(dY [99, 110, 116, 114, 108]).1.V, .bool (dY [99, 110, 116, 114, 108]).2]) ∧ Below w.heap.size w w' := by
 have Hc := hid (show dY [99, 110, 116, 114, 108] = (((w40.span 0 32).add 127), true) from rfl)
 go_enter Tryz.func166, Tryz.ntmps166
 go_upto_region 2 with fail
 generalize hW : (w.alloc _).alloc _ = W0
 have hr0 : ae W0 w.heap.size w40 := by subst hW; exact (ae.new w).later nal
 have hn0 : ae W0 (w.heap.size + 1) w40 := by
  subst hW
  have := ae.new (w.alloc (.cells #[.int .u64 0, .int .u64 0, .int .u64 0, .int .u64 0] 28))
  simpa using this
 have hb0 : Below w.heap.size w W0 := by subst hW; exact nal.alloc (by simp) _
 clear hW
 obtain ⟨f0, f1, f2, f3⟩ := hn0.at4
 simp only [Nat.zero_add] at f1 f2 f3
 go_wp2_with fail
 refine (ah W0 w40 65 90 (by omega) (by omega)).mono ?_
 rintro en w1 ⟨rfl, hb1⟩
 have hr1 := hr0.later hb1; have hn1 := hn0.later hb1; have hB1 := hb0.step hb1
 clear hr0 hn0 hb0 hb1 f0 f1 f2 f3
 go_wp2_with fail
 refine (ah w1 (w40.span 65 26) 97 122 (by omega) (by omega)).mono ?_
 rintro en w2 ⟨rfl, hb2⟩
 have hr2 := hr1.later hb2; have hn2 := hn1.later hb2; have hB2 := hB1.step hb2
 clear hr1 hn1 hB1 hb2
 rw [show 122 + 1 - 97 = 26 from rfl]
 have hga : ae (w2.alloc (.cells #[.int .u64 ((w40.span 65 26).span 97 26).a, .int .u64 ((w40.span 65 26).span 97 26).b, .int .u64 ((w40.span 65 26).span 97 26).c, .int .u64 ((w40.span 65 26).span 97 26).d] 28)) w2.heap.size ((w40.span 65 26).span 97 26) := ae.box w2 _
 have Hga := hid hga
 clear hga
 generalize hA : ((w40.span 65 26).span 97 26) = TA at *
 have HA := hid hA
 clear hA
 go_upto_region 3 with fail
 generalize hW : w2.alloc _ = W3
 have hb3 : Below w2.heap.size w2 W3 := by subst hW; exact nal
 have ha3 : ae W3 w2.heap.size TA := by subst hW; exact Hga.out
 clear hW Hga
 have hr3 := hr2.later hb3; have hn3 := hn2.later hb3; have hB3 := hB2.step hb3
 clear hr2 hn2 hB2 hb3
 obtain ⟨f0, f1, f2, f3⟩ := hn3.at4
 simp only [Nat.zero_add] at f1 f2 f3
 go_wp2_with fail
 refine (ah W3 w40 48 57 (by omega) (by omega)).mono ?_
 rintro en w4 ⟨rfl, hb4⟩
 have hr4 := hr3.later hb4; have hn4 := hn3.later hb4; have hB4 := hB3.step hb4; have ha4 := ha3.later hb4
 clear hr3 hn3 hB3 hb4 ha3 f0 f1 f2 f3
 rw [show 57 + 1 - 48 = 10 from rfl]
 have hgd : ae (w4.alloc (.cells #[.int .u64 (w40.span 48 10).a, .int .u64 (w40.span 48 10).b, .int .u64 (w40.span 48 10).c, .int .u64 (w40.span 48 10).d] 28)) w4.heap.size (w40.span 48 10) := ae.box w4 _
 have Hgd := hid hgd
 clear hgd
 generalize hD : (w40.span 48 10) = TD at *
 have HD := hid hD
 clear hD
 go_upto_region 4 with fail
 generalize hW : w4.alloc _ = W5
 have hb5 : Below w4.heap.size w4 W5 := by subst hW; exact nal
 have hd5 : ae W5 w4.heap.size TD := by subst hW; exact Hgd.out
 clear hW Hgd
 have hr5 := hr4.later hb5; have hn5 := hn4.later hb5; have hB5 := hB4.step hb5; have ha5 := ha4.later hb5
 clear hr4 hn4 hB4 hb5 ha4
 obtain ⟨n0, n1, n2, n3⟩ := hn5.at4
 obtain ⟨a0, a1, a2, a3⟩ := ha5.at4
 obtain ⟨d0, d1, d2, d3⟩ := hd5.at4
 simp only [Nat.zero_add] at n1 n2 n3 a1 a2 a3 d1 d2 d3
 go_wp2_with fail
 refine (ah W5 w40 0 31 (by omega) (by omega)).mono ?_
 rintro en w6 ⟨rfl, hb6⟩
 have hr6 := hr5.later hb6; have hB6 := hB5.step hb6
 clear hr5 hB5 hb6 n0 n1 n2 n3 a0 a1 a2 a3 d0 d1 d2 d3 hn5 ha5 hd5
 rw [show 31 + 1 - 0 = 32 from rfl]
 generalize hX6 : (w40.span 0 32) = T6 at *
 have HX6 := hid hX6
 clear hX6
 go_wp2_with fail
 refine (eq w6 T6 127 (by omega)).mono ?_
 rintro en w7 ⟨rfl, hb7⟩
 have hr7 := hr6.later hb7; have hB7 := hB6.step hb7
 clear hr6 hB6 hb7
 generalize hX7 : (T6.add 127) = T7 at *
 have HX7 := hid hX7
 clear hX7
 obtain ⟨r0, r1, r2, r3⟩ := hr7.at4
 simp only [Nat.zero_add] at r1 r2 r3
 have y0 := hr7.froz 0; have y1 := hr7.froz 1; have y2 := hr7.froz 2; have y3 := hr7.froz 3
 have HR := hid hr7; have HB := hid hB7
 clear hr7 hB7
 go_wp2_with fail
 change bodyPost _ _ _ _ _ (setV w7 w.heap.size T7)
 obtain ⟨q0, q1, q2, q3⟩ := (HR.out.setV T7).at4
 simp only [Nat.zero_add] at q1 q2 q3
 have hB := HB.out.setV (b := w.heap.size) (Nat.le_refl _) T7
 clear r0 r1 r2 r3 y0 y1 y2 y3
 generalize setV w7 w.heap.size T7 = WZ at *
 exact bodyPost_ret (v := .tuple #[T7.V, .bool true]) (by simp [results, Tryz.results166, go_sem, q0, q1, q2, q3]) rfl ⟨by rw [Hc.out], hB⟩
theorem pb (w : World) : Calls Tryz.prog 166 #[.string (bs [103, 114, 97, 112, 104])] w fun en w' => en = .returned (.tuple #[(dY [103, 114, 97, 112, 104]).1.V, .bool (dY [103, 114, 97, 112, 104]).2]) ∧ Below w.heap.size w w' := by
 have Hc := hid (show dY [103, 114, 97, 112, 104] = ((w40.span 33 94), true) from rfl)
 go_enter Tryz.func166, Tryz.ntmps166
 go_upto_region 2 with fail
 generalize hW : (w.alloc _).alloc _ = W0
 have hr0 : ae W0 w.heap.size w40 := by subst hW; exact (ae.new w).later nal
 have hn0 : ae W0 (w.heap.size + 1) w40 := by
  subst hW
  have := ae.new (w.alloc (.cells #[.int .u64 0, .int .u64 0, .int .u64 0, .int .u64 0] 28))
  simpa using this
 have hb0 : Below w.heap.size w W0 := by subst hW; exact nal.alloc (by simp) _
 clear hW
 obtain ⟨f0, f1, f2, f3⟩ := hn0.at4
 simp only [Nat.zero_add] at f1 f2 f3
 go_wp2_with fail
 refine (ah W0 w40 65 90 (by omega) (by omega)).mono ?_
 rintro en w1 ⟨rfl, hb1⟩
 have hr1 := hr0.later hb1; have hn1 := hn0.later hb1; have hB1 := hb0.step hb1
 clear hr0 hn0 hb0 hb1 f0 f1 f2 f3
 go_wp2_with fail
 refine (ah w1 (w40.span 65 26) 97 122 (by omega) (by omega)).mono ?_
 rintro en w2 ⟨rfl, hb2⟩
 have hr2 := hr1.later hb2; have hn2 := hn1.later hb2; have hB2 := hB1.step hb2
 clear hr1 hn1 hB1 hb2
 rw [show 122 + 1 - 97 = 26 from rfl]
 have hga : ae (w2.alloc (.cells #[.int .u64 ((w40.span 65 26).span 97 26).a, .int .u64 ((w40.span 65 26).span 97 26).b, .int .u64 ((w40.span 65 26).span 97 26).c, .int .u64 ((w40.span 65 26).span 97 26).d] 28)) w2.heap.size ((w40.span 65 26).span 97 26) := ae.box w2 _
 have Hga := hid hga
 clear hga
 generalize hA : ((w40.span 65 26).span 97 26) = TA at *
 have HA := hid hA
 clear hA
 go_upto_region 3 with fail
 generalize hW : w2.alloc _ = W3
 have hb3 : Below w2.heap.size w2 W3 := by subst hW; exact nal
 have ha3 : ae W3 w2.heap.size TA := by subst hW; exact Hga.out
 clear hW Hga
 have hr3 := hr2.later hb3; have hn3 := hn2.later hb3; have hB3 := hB2.step hb3
 clear hr2 hn2 hB2 hb3
 obtain ⟨f0, f1, f2, f3⟩ := hn3.at4
 simp only [Nat.zero_add] at f1 f2 f3
 go_wp2_with fail
 refine (ah W3 w40 48 57 (by omega) (by omega)).mono ?_
 rintro en w4 ⟨rfl, hb4⟩
 have hr4 := hr3.later hb4; have hn4 := hn3.later hb4; have hB4 := hB3.step hb4; have ha4 := ha3.later hb4
 clear hr3 hn3 hB3 hb4 ha3 f0 f1 f2 f3
 rw [show 57 + 1 - 48 = 10 from rfl]
 have hgd : ae (w4.alloc (.cells #[.int .u64 (w40.span 48 10).a, .int .u64 (w40.span 48 10).b, .int .u64 (w40.span 48 10).c, .int .u64 (w40.span 48 10).d] 28)) w4.heap.size (w40.span 48 10) := ae.box w4 _
 have Hgd := hid hgd
 clear hgd
 generalize hD : (w40.span 48 10) = TD at *
 have HD := hid hD
 clear hD
 go_upto_region 4 with fail
 generalize hW : w4.alloc _ = W5
 have hb5 : Below w4.heap.size w4 W5 := by subst hW; exact nal
 have hd5 : ae W5 w4.heap.size TD := by subst hW; exact Hgd.out
 clear hW Hgd
 have hr5 := hr4.later hb5; have hn5 := hn4.later hb5; have hB5 := hB4.step hb5; have ha5 := ha4.later hb5
 clear hr4 hn4 hB4 hb5 ha4
 obtain ⟨n0, n1, n2, n3⟩ := hn5.at4
 obtain ⟨a0, a1, a2, a3⟩ := ha5.at4
 obtain ⟨d0, d1, d2, d3⟩ := hd5.at4
 simp only [Nat.zero_add] at n1 n2 n3 a1 a2 a3 d1 d2 d3
 go_wp2_with fail
 refine (ah W5 w40 33 126 (by omega) (by omega)).mono ?_
 rintro en w6 ⟨rfl, hb6⟩
 have hr6 := hr5.later hb6; have hB6 := hB5.step hb6
 clear hr5 hB5 hb6 n0 n1 n2 n3 a0 a1 a2 a3 d0 d1 d2 d3 hn5 ha5 hd5
 rw [show 126 + 1 - 33 = 94 from rfl]
 generalize hX6 : (w40.span 33 94) = T6 at *
 have HX6 := hid hX6
 clear hX6
 obtain ⟨r0, r1, r2, r3⟩ := hr6.at4
 simp only [Nat.zero_add] at r1 r2 r3
 have y0 := hr6.froz 0; have y1 := hr6.froz 1; have y2 := hr6.froz 2; have y3 := hr6.froz 3
 have HR := hid hr6; have HB := hid hB6
 clear hr6 hB6
 go_wp2_with fail
 change bodyPost _ _ _ _ _ (setV w6 w.heap.size T6)
 obtain ⟨q0, q1, q2, q3⟩ := (HR.out.setV T6).at4
 simp only [Nat.zero_add] at q1 q2 q3
 have hB := HB.out.setV (b := w.heap.size) (Nat.le_refl _) T6
 clear r0 r1 r2 r3 y0 y1 y2 y3
 generalize setV w6 w.heap.size T6 = WZ at *
 exact bodyPost_ret (v := .tuple #[T6.V, .bool true]) (by simp [results, Tryz.results166, go_sem, q0, q1, q2, q3]) rfl ⟨by rw [Hc.out], hB⟩
theorem oZ (w : World) : Calls Tryz.prog 166 #[.string (bs [112, 114, 105, 110, 116])] w fun en w' => en = .returned (.tuple #[(dY [112, 114, 105, 110, 116]).1.V, .bool (dY [112, 114, 105, 110, 116]).2]) ∧ Below w.heap.size w w' := by
 have Hc := hid (show dY [112, 114, 105, 110, 116] = ((w40.span 32 95), true) from rfl)
 go_enter Tryz.func166, Tryz.ntmps166
 go_upto_region 2 with fail
 generalize hW : (w.alloc _).alloc _ = W0
 have hr0 : ae W0 w.heap.size w40 := by subst hW; exact (ae.new w).later nal
 have hn0 : ae W0 (w.heap.size + 1) w40 := by
  subst hW
  have := ae.new (w.alloc (.cells #[.int .u64 0, .int .u64 0, .int .u64 0, .int .u64 0] 28))
  simpa using this
 have hb0 : Below w.heap.size w W0 := by subst hW; exact nal.alloc (by simp) _
 clear hW
 obtain ⟨f0, f1, f2, f3⟩ := hn0.at4
 simp only [Nat.zero_add] at f1 f2 f3
 go_wp2_with fail
 refine (ah W0 w40 65 90 (by omega) (by omega)).mono ?_
 rintro en w1 ⟨rfl, hb1⟩
 have hr1 := hr0.later hb1; have hn1 := hn0.later hb1; have hB1 := hb0.step hb1
 clear hr0 hn0 hb0 hb1 f0 f1 f2 f3
 go_wp2_with fail
 refine (ah w1 (w40.span 65 26) 97 122 (by omega) (by omega)).mono ?_
 rintro en w2 ⟨rfl, hb2⟩
 have hr2 := hr1.later hb2; have hn2 := hn1.later hb2; have hB2 := hB1.step hb2
 clear hr1 hn1 hB1 hb2
 rw [show 122 + 1 - 97 = 26 from rfl]
 have hga : ae (w2.alloc (.cells #[.int .u64 ((w40.span 65 26).span 97 26).a, .int .u64 ((w40.span 65 26).span 97 26).b, .int .u64 ((w40.span 65 26).span 97 26).c, .int .u64 ((w40.span 65 26).span 97 26).d] 28)) w2.heap.size ((w40.span 65 26).span 97 26) := ae.box w2 _
 have Hga := hid hga
 clear hga
 generalize hA : ((w40.span 65 26).span 97 26) = TA at *
 have HA := hid hA
 clear hA
 go_upto_region 3 with fail
 generalize hW : w2.alloc _ = W3
 have hb3 : Below w2.heap.size w2 W3 := by subst hW; exact nal
 have ha3 : ae W3 w2.heap.size TA := by subst hW; exact Hga.out
 clear hW Hga
 have hr3 := hr2.later hb3; have hn3 := hn2.later hb3; have hB3 := hB2.step hb3
 clear hr2 hn2 hB2 hb3
 obtain ⟨f0, f1, f2, f3⟩ := hn3.at4
 simp only [Nat.zero_add] at f1 f2 f3
 go_wp2_with fail
 refine (ah W3 w40 48 57 (by omega) (by omega)).mono ?_
 rintro en w4 ⟨rfl, hb4⟩
 have hr4 := hr3.later hb4; have hn4 := hn3.later hb4; have hB4 := hB3.step hb4; have ha4 := ha3.later hb4
 clear hr3 hn3 hB3 hb4 ha3 f0 f1 f2 f3
 rw [show 57 + 1 - 48 = 10 from rfl]
 have hgd : ae (w4.alloc (.cells #[.int .u64 (w40.span 48 10).a, .int .u64 (w40.span 48 10).b, .int .u64 (w40.span 48 10).c, .int .u64 (w40.span 48 10).d] 28)) w4.heap.size (w40.span 48 10) := ae.box w4 _
 have Hgd := hid hgd
 clear hgd
 generalize hD : (w40.span 48 10) = TD at *
 have HD := hid hD
 clear hD
 go_upto_region 4 with fail
 generalize hW : w4.alloc _ = W5
 have hb5 : Below w4.heap.size w4 W5 := by subst hW; exact nal
 have hd5 : ae W5 w4.heap.size TD := by subst hW; exact Hgd.out
 clear hW Hgd
 have hr5 := hr4.later hb5; have hn5 := hn4.later hb5; have hB5 := hB4.step hb5; have ha5 := ha4.later hb5
 clear hr4 hn4 hB4 hb5 ha4
 obtain ⟨n0, n1, n2, n3⟩ := hn5.at4
 obtain ⟨a0, a1, a2, a3⟩ := ha5.at4
 obtain ⟨d0, d1, d2, d3⟩ := hd5.at4
 simp only [Nat.zero_add] at n1 n2 n3 a1 a2 a3 d1 d2 d3
 go_wp2_with fail
 refine (ah W5 w40 32 126 (by omega) (by omega)).mono ?_
 rintro en w6 ⟨rfl, hb6⟩
 have hr6 := hr5.later hb6; have hB6 := hB5.step hb6
 clear hr5 hB5 hb6 n0 n1 n2 n3 a0 a1 a2 a3 d0 d1 d2 d3 hn5 ha5 hd5
 rw [show 126 + 1 - 32 = 95 from rfl]
 generalize hX6 : (w40.span 32 95) = T6 at *
 have HX6 := hid hX6
 clear hX6
 obtain ⟨r0, r1, r2, r3⟩ := hr6.at4
 simp only [Nat.zero_add] at r1 r2 r3
 have y0 := hr6.froz 0; have y1 := hr6.froz 1; have y2 := hr6.froz 2; have y3 := hr6.froz 3
 have HR := hid hr6; have HB := hid hB6
 clear hr6 hB6
 go_wp2_with fail
 change bodyPost _ _ _ _ _ (setV w6 w.heap.size T6)
 obtain ⟨q0, q1, q2, q3⟩ := (HR.out.setV T6).at4
 simp only [Nat.zero_add] at q1 q2 q3
 have hB := HB.out.setV (b := w.heap.size) (Nat.le_refl _) T6
 clear r0 r1 r2 r3 y0 y1 y2 y3
 generalize setV w6 w.heap.size T6 = WZ at *
 exact bodyPost_ret (v := .tuple #[T6.V, .bool true]) (by simp [results, Tryz.results166, go_sem, q0, q1, q2, q3]) rfl ⟨by rw [Hc.out], hB⟩
theorem oY (w : World) : Calls Tryz.prog 166 #[.string (bs [112, 117, 110, 99, 116])] w fun en w' => en = .returned (.tuple #[(dY [112, 117, 110, 99, 116]).1.V, .bool (dY [112, 117, 110, 99, 116]).2]) ∧ Below w.heap.size w w' := by
 have Hc := hid (show dY [112, 117, 110, 99, 116] = (((((w40.span 33 15).span 58 7).span 91 6).span 123 4), true) from rfl)
 go_enter Tryz.func166, Tryz.ntmps166
 go_upto_region 2 with fail
 generalize hW : (w.alloc _).alloc _ = W0
 have hr0 : ae W0 w.heap.size w40 := by subst hW; exact (ae.new w).later nal
 have hn0 : ae W0 (w.heap.size + 1) w40 := by
  subst hW
  have := ae.new (w.alloc (.cells #[.int .u64 0, .int .u64 0, .int .u64 0, .int .u64 0] 28))
  simpa using this
 have hb0 : Below w.heap.size w W0 := by subst hW; exact nal.alloc (by simp) _
 clear hW
 obtain ⟨f0, f1, f2, f3⟩ := hn0.at4
 simp only [Nat.zero_add] at f1 f2 f3
 go_wp2_with fail
 refine (ah W0 w40 65 90 (by omega) (by omega)).mono ?_
 rintro en w1 ⟨rfl, hb1⟩
 have hr1 := hr0.later hb1; have hn1 := hn0.later hb1; have hB1 := hb0.step hb1
 clear hr0 hn0 hb0 hb1 f0 f1 f2 f3
 go_wp2_with fail
 refine (ah w1 (w40.span 65 26) 97 122 (by omega) (by omega)).mono ?_
 rintro en w2 ⟨rfl, hb2⟩
 have hr2 := hr1.later hb2; have hn2 := hn1.later hb2; have hB2 := hB1.step hb2
 clear hr1 hn1 hB1 hb2
 rw [show 122 + 1 - 97 = 26 from rfl]
 have hga : ae (w2.alloc (.cells #[.int .u64 ((w40.span 65 26).span 97 26).a, .int .u64 ((w40.span 65 26).span 97 26).b, .int .u64 ((w40.span 65 26).span 97 26).c, .int .u64 ((w40.span 65 26).span 97 26).d] 28)) w2.heap.size ((w40.span 65 26).span 97 26) := ae.box w2 _
 have Hga := hid hga
 clear hga
 generalize hA : ((w40.span 65 26).span 97 26) = TA at *
 have HA := hid hA
 clear hA
 go_upto_region 3 with fail
 generalize hW : w2.alloc _ = W3
 have hb3 : Below w2.heap.size w2 W3 := by subst hW; exact nal
 have ha3 : ae W3 w2.heap.size TA := by subst hW; exact Hga.out
 clear hW Hga
 have hr3 := hr2.later hb3; have hn3 := hn2.later hb3; have hB3 := hB2.step hb3
 clear hr2 hn2 hB2 hb3
 obtain ⟨f0, f1, f2, f3⟩ := hn3.at4
 simp only [Nat.zero_add] at f1 f2 f3
 go_wp2_with fail
 refine (ah W3 w40 48 57 (by omega) (by omega)).mono ?_
 rintro en w4 ⟨rfl, hb4⟩
 have hr4 := hr3.later hb4; have hn4 := hn3.later hb4; have hB4 := hB3.step hb4; have ha4 := ha3.later hb4
 clear hr3 hn3 hB3 hb4 ha3 f0 f1 f2 f3
 rw [show 57 + 1 - 48 = 10 from rfl]
 have hgd : ae (w4.alloc (.cells #[.int .u64 (w40.span 48 10).a, .int .u64 (w40.span 48 10).b, .int .u64 (w40.span 48 10).c, .int .u64 (w40.span 48 10).d] 28)) w4.heap.size (w40.span 48 10) := ae.box w4 _
 have Hgd := hid hgd
 clear hgd
 generalize hD : (w40.span 48 10) = TD at *
 have HD := hid hD
 clear hD
 go_upto_region 4 with fail
 generalize hW : w4.alloc _ = W5
 have hb5 : Below w4.heap.size w4 W5 := by subst hW; exact nal
 have hd5 : ae W5 w4.heap.size TD := by subst hW; exact Hgd.out
 clear hW Hgd
 have hr5 := hr4.later hb5; have hn5 := hn4.later hb5; have hB5 := hB4.step hb5; have ha5 := ha4.later hb5
 clear hr4 hn4 hB4 hb5 ha4
 obtain ⟨n0, n1, n2, n3⟩ := hn5.at4
 obtain ⟨a0, a1, a2, a3⟩ := ha5.at4
 obtain ⟨d0, d1, d2, d3⟩ := hd5.at4
 simp only [Nat.zero_add] at n1 n2 n3 a1 a2 a3 d1 d2 d3
 go_wp2_with fail
 refine (ah W5 w40 33 47 (by omega) (by omega)).mono ?_
 rintro en w6 ⟨rfl, hb6⟩
 have hr6 := hr5.later hb6; have hB6 := hB5.step hb6
 clear hr5 hB5 hb6 n0 n1 n2 n3 a0 a1 a2 a3 d0 d1 d2 d3 hn5 ha5 hd5
 rw [show 47 + 1 - 33 = 15 from rfl]
 generalize hX6 : (w40.span 33 15) = T6 at *
 have HX6 := hid hX6
 clear hX6
 go_wp2_with fail
 refine (ah w6 T6 58 64 (by omega) (by omega)).mono ?_
 rintro en w7 ⟨rfl, hb7⟩
 have hr7 := hr6.later hb7; have hB7 := hB6.step hb7
 clear hr6 hB6 hb7
 rw [show 64 + 1 - 58 = 7 from rfl]
 generalize hX7 : (T6.span 58 7) = T7 at *
 have HX7 := hid hX7
 clear hX7
 go_wp2_with fail
 refine (ah w7 T7 91 96 (by omega) (by omega)).mono ?_
 rintro en w8 ⟨rfl, hb8⟩
 have hr8 := hr7.later hb8; have hB8 := hB7.step hb8
 clear hr7 hB7 hb8
 rw [show 96 + 1 - 91 = 6 from rfl]
 generalize hX8 : (T7.span 91 6) = T8 at *
 have HX8 := hid hX8
 clear hX8
 go_wp2_with fail
 refine (ah w8 T8 123 126 (by omega) (by omega)).mono ?_
 rintro en w9 ⟨rfl, hb9⟩
 have hr9 := hr8.later hb9; have hB9 := hB8.step hb9
 clear hr8 hB8 hb9
 rw [show 126 + 1 - 123 = 4 from rfl]
 generalize hX9 : (T8.span 123 4) = T9 at *
 have HX9 := hid hX9
 clear hX9
 obtain ⟨r0, r1, r2, r3⟩ := hr9.at4
 simp only [Nat.zero_add] at r1 r2 r3
 have y0 := hr9.froz 0; have y1 := hr9.froz 1; have y2 := hr9.froz 2; have y3 := hr9.froz 3
 have HR := hid hr9; have HB := hid hB9
 clear hr9 hB9
 go_wp2_with fail
 change bodyPost _ _ _ _ _ (setV w9 w.heap.size T9)
 obtain ⟨q0, q1, q2, q3⟩ := (HR.out.setV T9).at4
 simp only [Nat.zero_add] at q1 q2 q3
 have hB := HB.out.setV (b := w.heap.size) (Nat.le_refl _) T9
 clear r0 r1 r2 r3 y0 y1 y2 y3
 generalize setV w9 w.heap.size T9 = WZ at *
 exact bodyPost_ret (v := .tuple #[T9.V, .bool true]) (by simp [results, Tryz.results166, go_sem, q0, q1, q2, q3]) rfl ⟨by rw [Hc.out], hB⟩
theorem rB (w : World) (nm : Bs) (h : nm ≠ [97, 108, 112, 104, 97] ∧ nm ≠ [117, 112, 112, 101, 114] ∧ nm ≠ [108, 111, 119, 101, 114] ∧ nm ≠ [100, 105, 103, 105, 116] ∧ nm ≠ [97, 108, 110, 117, 109] ∧ nm ≠ [120, 100, 105, 103, 105, 116] ∧ nm ≠ [115, 112, 97, 99, 101] ∧ nm ≠ [98, 108, 97, 110, 107] ∧ nm ≠ [99, 110, 116, 114, 108] ∧ nm ≠ [103, 114, 97, 112, 104] ∧ nm ≠ [112, 114, 105, 110, 116] ∧ nm ≠ [112, 117, 110, 99, 116]) : Calls Tryz.prog 166 #[.string (bs nm)] w fun en w' => en = .returned (.tuple #[(dY nm).1.V, .bool (dY nm).2]) ∧ Below w.heap.size w w' := by
 have hc : dY nm = (w40, false) := by
  obtain ⟨h0, h1, h2, h3, h4, h5, h6, h7, h8, h9, h10, h11⟩ := h
  unfold dY ew
  rw [if_neg h0, if_neg h1, if_neg h2, if_neg h3, if_neg h4, if_neg h5, if_neg h6, if_neg h7, if_neg h8, if_neg h9, if_neg h10, if_neg h11]
 have Hc := hid hc
 obtain ⟨h0, h1, h2, h3, h4, h5, h6, h7, h8, h9, h10, h11⟩ := h
 have e0 : (nm == [97, 108, 112, 104, 97]) = false := by rw [beq_eq_false_iff_ne]; exact h0
 have e1 : (nm == [117, 112, 112, 101, 114]) = false := by rw [beq_eq_false_iff_ne]; exact h1
 have e2 : (nm == [108, 111, 119, 101, 114]) = false := by rw [beq_eq_false_iff_ne]; exact h2
 have e3 : (nm == [100, 105, 103, 105, 116]) = false := by rw [beq_eq_false_iff_ne]; exact h3
 have e4 : (nm == [97, 108, 110, 117, 109]) = false := by rw [beq_eq_false_iff_ne]; exact h4
 have e5 : (nm == [120, 100, 105, 103, 105, 116]) = false := by rw [beq_eq_false_iff_ne]; exact h5
 have e6 : (nm == [115, 112, 97, 99, 101]) = false := by rw [beq_eq_false_iff_ne]; exact h6
 have e7 : (nm == [98, 108, 97, 110, 107]) = false := by rw [beq_eq_false_iff_ne]; exact h7
 have e8 : (nm == [99, 110, 116, 114, 108]) = false := by rw [beq_eq_false_iff_ne]; exact h8
 have e9 : (nm == [103, 114, 97, 112, 104]) = false := by rw [beq_eq_false_iff_ne]; exact h9
 have e10 : (nm == [112, 114, 105, 110, 116]) = false := by rw [beq_eq_false_iff_ne]; exact h10
 have e11 : (nm == [112, 117, 110, 99, 116]) = false := by rw [beq_eq_false_iff_ne]; exact h11
 clear hc h0 h1 h2 h3 h4 h5 h6 h7 h8 h9 h10 h11
 go_enter Tryz.func166, Tryz.ntmps166
 go_upto_region 2 with fail
 generalize hW : (w.alloc _).alloc _ = W0
 have hr0 : ae W0 w.heap.size w40 := by subst hW; exact (ae.new w).later nal
 have hn0 : ae W0 (w.heap.size + 1) w40 := by
  subst hW
  have := ae.new (w.alloc (.cells #[.int .u64 0, .int .u64 0, .int .u64 0, .int .u64 0] 28))
  simpa using this
 have hb0 : Below w.heap.size w W0 := by subst hW; exact nal.alloc (by simp) _
 clear hW
 obtain ⟨f0, f1, f2, f3⟩ := hn0.at4
 simp only [Nat.zero_add] at f1 f2 f3
 go_wp2_with fail
 refine (ah W0 w40 65 90 (by omega) (by omega)).mono ?_
 rintro en w1 ⟨rfl, hb1⟩
 have hr1 := hr0.later hb1; have hn1 := hn0.later hb1; have hB1 := hb0.step hb1
 clear hr0 hn0 hb0 hb1 f0 f1 f2 f3
 go_wp2_with fail
 refine (ah w1 (w40.span 65 26) 97 122 (by omega) (by omega)).mono ?_
 rintro en w2 ⟨rfl, hb2⟩
 have hr2 := hr1.later hb2; have hn2 := hn1.later hb2; have hB2 := hB1.step hb2
 clear hr1 hn1 hB1 hb2
 rw [show 122 + 1 - 97 = 26 from rfl]
 have hga : ae (w2.alloc (.cells #[.int .u64 ((w40.span 65 26).span 97 26).a, .int .u64 ((w40.span 65 26).span 97 26).b, .int .u64 ((w40.span 65 26).span 97 26).c, .int .u64 ((w40.span 65 26).span 97 26).d] 28)) w2.heap.size ((w40.span 65 26).span 97 26) := ae.box w2 _
 have Hga := hid hga
 clear hga
 generalize hA : ((w40.span 65 26).span 97 26) = TA at *
 have HA := hid hA
 clear hA
 go_upto_region 3 with fail
 generalize hW : w2.alloc _ = W3
 have hb3 : Below w2.heap.size w2 W3 := by subst hW; exact nal
 have ha3 : ae W3 w2.heap.size TA := by subst hW; exact Hga.out
 clear hW Hga
 have hr3 := hr2.later hb3; have hn3 := hn2.later hb3; have hB3 := hB2.step hb3
 clear hr2 hn2 hB2 hb3
 obtain ⟨f0, f1, f2, f3⟩ := hn3.at4
 simp only [Nat.zero_add] at f1 f2 f3
 go_wp2_with fail
 refine (ah W3 w40 48 57 (by omega) (by omega)).mono ?_
 rintro en w4 ⟨rfl, hb4⟩
 have hr4 := hr3.later hb4; have hn4 := hn3.later hb4; have hB4 := hB3.step hb4; have ha4 := ha3.later hb4
 clear hr3 hn3 hB3 hb4 ha3 f0 f1 f2 f3
 rw [show 57 + 1 - 48 = 10 from rfl]
 have hgd : ae (w4.alloc (.cells #[.int .u64 (w40.span 48 10).a, .int .u64 (w40.span 48 10).b, .int .u64 (w40.span 48 10).c, .int .u64 (w40.span 48 10).d] 28)) w4.heap.size (w40.span 48 10) := ae.box w4 _
 have Hgd := hid hgd
 clear hgd
 generalize hD : (w40.span 48 10) = TD at *
 have HD := hid hD
 clear hD
 go_upto_region 4 with fail
 generalize hW : w4.alloc _ = W5
 have hb5 : Below w4.heap.size w4 W5 := by subst hW; exact nal
 have hd5 : ae W5 w4.heap.size TD := by subst hW; exact Hgd.out
 clear hW Hgd
 have hr5 := hr4.later hb5; have hn5 := hn4.later hb5; have hB5 := hB4.step hb5; have ha5 := ha4.later hb5
 clear hr4 hn4 hB4 hb5 ha4
 obtain ⟨n0, n1, n2, n3⟩ := hn5.at4
 obtain ⟨a0, a1, a2, a3⟩ := ha5.at4
 obtain ⟨d0, d1, d2, d3⟩ := hd5.at4
 simp only [Nat.zero_add] at n1 n2 n3 a1 a2 a3 d1 d2 d3
 obtain ⟨r0, r1, r2, r3⟩ := hr5.at4
 simp only [Nat.zero_add] at r1 r2 r3
 have y0 := hr5.froz 0; have y1 := hr5.froz 1; have y2 := hr5.froz 2; have y3 := hr5.froz 3
 have HR := hid hr5; have HB := hid hB5
 clear hr5 hB5
 go_wp2_with fail
 change bodyPost _ _ _ _ _ (setV W5 w.heap.size w40)
 obtain ⟨q0, q1, q2, q3⟩ := (HR.out.setV w40).at4
 simp only [Nat.zero_add] at q1 q2 q3
 have hB := HB.out.setV (b := w.heap.size) (Nat.le_refl _) w40
 clear r0 r1 r2 r3 y0 y1 y2 y3
 clear n0 n1 n2 n3 a0 a1 a2 a3 d0 d1 d2 d3
 generalize setV W5 w.heap.size w40 = WZ at *
 exact bodyPost_ret (v := .tuple #[w40.V, .bool false]) (by simp [results, Tryz.results166, go_sem, q0, q1, q2, q3]) rfl ⟨by rw [Hc.out], hB⟩
theorem wg (w : World) (nm : Bs) : Calls Tryz.prog 166 #[.string (bs nm)] w fun en w' => en = .returned (.tuple #[(dY nm).1.V, .bool (dY nm).2]) ∧ Below w.heap.size w w' := by
 by_cases h0 : nm = [97, 108, 112, 104, 97]
 · subst h0; exact pg w
 by_cases h1 : nm = [117, 112, 112, 101, 114]
 · subst h1; exact oW w
 by_cases h2 : nm = [108, 111, 119, 101, 114]
 · subst h2; exact pa w
 by_cases h3 : nm = [100, 105, 103, 105, 116]
 · subst h3; exact pc w
 by_cases h4 : nm = [97, 108, 110, 117, 109]
 · subst h4; exact ph w
 by_cases h5 : nm = [120, 100, 105, 103, 105, 116]
 · subst h5; exact nW w
 by_cases h6 : nm = [115, 112, 97, 99, 101]
 · subst h6; exact oX w
 by_cases h7 : nm = [98, 108, 97, 110, 107]
 · subst h7; exact pf w
 by_cases h8 : nm = [99, 110, 116, 114, 108]
 · subst h8; exact pd w
 by_cases h9 : nm = [103, 114, 97, 112, 104]
 · subst h9; exact pb w
 by_cases h10 : nm = [112, 114, 105, 110, 116]
 · subst h10; exact oZ w
 by_cases h11 : nm = [112, 117, 110, 99, 116]
 · subst h11; exact oY w
 exact rB w nm ⟨h0, h1, h2, h3, h4, h5, h6, h7, h8, h9, h10, h11⟩
def yf (p : Nat) (St : Bs) (op : Int) (f : Bs → Except Int (W4 × Bs)) (r : Bs) (w : World) (en : Ending) (w' : World) : Prop :=
 ∃ (T : W4) (k' : Nat) (s' : Rs), en = .returned T.V ∧ RQ w' p St k' op s' ∧ Off p w w' ∧ Out f (.ok r) (fun x => T = x) s'
theorem me {w w' : World} {p : Nat} {S : Bs} {k : Nat} {op : Int} {s : Rs} (h : RQ w p S k op s) {B : Nat} (hb : Below B w w') (hp : p < B) : RQ w' p S k op s :=
 ⟨⟨(hb.cell (p := ⟨p, 0, none⟩) hp).trans h.rdr.c0, (hb.cell (p := ⟨p, 1, none⟩) hp).trans h.rdr.c1, (hb.cell (p := ⟨p, 2, none⟩) hp).trans h.rdr.c2, (hb.cell (p := ⟨p, 3, none⟩) hp).trans h.rdr.c3, fun o => (hb.frozen (p := ⟨p, o, none⟩) hp).trans (h.rdr.z o), Nat.lt_of_lt_of_le h.rdr.lt hb.size, h.rdr.le, h.rdr.top⟩, h.ok, h.ne⟩
theorem RQ.put {w : World} {p : Nat} {S : Bs} {k : Nat} {op : Int} {s : Rs} (h : RQ w p S k op s) {b : Nat} (hb : p < b) (o : Nat) (v : Value) : RQ (w.setCell ⟨b, o, none⟩ v) p S k op s := me h ((Below.refl b w).setCell (p := ⟨b, o, none⟩) (Nat.le_refl _) v) hb
theorem RQ.fillV {w : World} {p : Nat} {S : Bs} {k : Nat} {op : Int} {s : Rs} (h : RQ w p S k op s) {b : Nat} (hb : p < b) (T : W4) : RQ (setV w b T) p S k op s := me h ((Below.refl b w).setV (Nat.le_refl _) T) hb
theorem Off.box {p : Nat} {w w1 : World} (h : Off p w w1) {b : Nat} (hb : w.heap.size ≤ b) (o : Nat) (v : Value) : Off p w (w1.setCell ⟨b, o, none⟩ v) := h.far hb rfl rfl rfl (by simp) (fun k hk => Below.heap_setCell _ _ _ _ hk)
theorem RQ.goto {w : World} {p : Nat} {S : Bs} {k : Nat} {op : Int} {s : Rs} (h : RQ w p S k op s) (k' : Nat) (hk : k' ≤ S.length) (hok : ∀ r, s = .ok r → False) : RQ (w.setCell ⟨p, 1, none⟩ (.int .i64 (k' : Int))) p S k' op s :=
 ⟨h.rdr.set1 hk, fun r he => (hok r he).elim, h.ne⟩
theorem RQ.goon' {w : World} {p : Nat} {S : Bs} {k : Nat} {op : Int} {r : Bs} (h : RQ w p S k op (.ok r)) (k' : Nat) (hk : k' ≤ S.length) (r' : Bs) (hr : r' = S.drop k') : RQ (w.setCell ⟨p, 1, none⟩ (.int .i64 (k' : Int))) p S k' op (.ok r') :=
 ⟨h.rdr.set1 hk, fun r he => by cases he; exact hr, fun e he => by cases he⟩
def gp (a : Bs) (x : Option (Bs × Bs)) : Option (Bs × Bs) := match x with | some (u, v) => some (a ++ u, v) | none => none
theorem qi (c : UInt8) (t : Bs) (h : aq [58, 93] (c :: t) = none) : fX (c :: t) = gp [c] (fX t) := by
 rw [fX, h]
 simp only [gp]
 cases fX t with
 | none => rfl
 | some x => rfl
theorem rJ (a b : Bs) (x : Option (Bs × Bs)) : gp a (gp b x) = gp (a ++ b) x := by
 cases x with
 | none => rfl
 | some x => simp [gp]
theorem mV (c d : UInt8) (t : Bs) : aq [58, 93] (c :: d :: t) = if c = 58 ∧ d = 93 then some t else none := by
 rw [bg]
 by_cases h : c = 58
 · subst h
   rw [if_pos rfl, aH]
   by_cases h2 : d = 93
   · subst h2; simp
   · rw [if_neg (fun h => h2 h.symm), if_neg (fun h => h2 h.2)]
 · rw [if_neg (fun h' => h h'.symm), if_neg (fun h' => h h'.1)]
theorem um (r : Bs) (h : r.length < 2) : fX r = none := by
 match r, h with
 | [], _ => rfl
 | [c], _ =>
  rw [qi]
  · rfl
  · rw [bg]
    split
    · exact dT _ (by simp)
    · rfl
theorem qW (w : World) (p : Nat) (St : Bs) (k : Nat) (op : Int) (a0 b0 : UInt8) (r : Bs) (Z : W4) (h : RQ w p St k op (.ok (a0 :: b0 :: r))) :
 Calls Tryz.prog 159 #[.pointer (some ⟨p, 0, none⟩), Z.V] w fun en w' => yf p St op (cr Z) r w en w' := by
 have hl := h.len
 have hp := h.lt
 have H := hid h
 have sS := dn St
 have hkb : k ≤ 1024 := Nat.le_trans h.rdr.le h.rdr.top
 have hlb : St.length ≤ 1024 := h.rdr.top
 simp only [List.length_cons] at hl
 have hdrop := h.ok _ rfl
 have Hdr := hid (show r = St.drop (k + 2) by rw [← List.drop_drop, ← hdrop]; rfl)
 have Hl := hid hl
 clear h hdrop hl
 go_enter Tryz.func159, Tryz.ntmps159
 go_upto_region 1 with fail
 generalize hW : (w.alloc _).alloc _ = W0
 have hs0 : ae W0 w.heap.size Z := by subst hW; exact (ae.box w Z).later nal
 have hr0 : ae W0 (w.heap.size + 1) w40 := by
  subst hW
  have := ae.new (w.alloc (.cells #[.int .u64 Z.a, .int .u64 Z.b, .int .u64 Z.c, .int .u64 Z.d] 28))
  simpa using this
 have hb0 : Below w.heap.size w W0 := by subst hW; exact nal.alloc (by simp) _
 clear hW
 have hz1 := hr0.lt
 have h0 := H.out.later hb0
 have c0 := h0.rdr.c0
 have c1 := h0.rdr.c1
 have H0 := hid h0; have HS0 := hid hs0; have HR0 := hid hr0; have HO0 := hid (Off.of_below (p := p) hb0)
 clear H h0 hs0 hr0 hb0
 have hbw : w.heap.size ≤ w.heap.size := Nat.le_refl _
 obtain ⟨b, hb⟩ : ∃ b, b = w.heap.size := ⟨_, rfl⟩
 rw [← hb] at hz1 hp
 rw [← hb]
 have HS0 := hid (show ae W0 b Z by rw [hb]; exact HS0.out)
 have HR0 := hid (show ae W0 (b + 1) w40 by rw [hb]; exact HR0.out)
 have hbw : w.heap.size ≤ b := by omega
 clear hb
 go_wp2_with fail
 go_loopg [6] (r.length + 1) (fun n i wr => ∃ (j m : Nat), i = .int .i64 m ∧ W0 = wr ∧ m = k + 2 + j ∧ j ≤ r.length ∧ n + j = r.length + 1 ∧ fX r = gp (r.take j) (fX (r.drop j)))
 case atStart => exact ⟨0, k + 2, by go_num, rfl, by omega, by omega, by omega, by simp only [List.take_zero, List.drop_zero]; cases fX r <;> rfl⟩
 case round =>
  obtain ⟨j, m, rfl, rfl, hm, hj, hn, hcut⟩ := hrel
  have Hcut := hid hcut
  clear hcut
  by_cases hlt : m + 2 ≤ St.length
  · have hlI : (m : Int) + 2 ≤ (St.length : Int) := by omega
    have hlI2 : decide ((St.length : Int) < (m : Int) + 2) = false := by rw [decide_eq_false_iff_not]; omega
    obtain ⟨c, d, t, hd⟩ : ∃ c d t, r.drop j = c :: d :: t := by
     have hh : 2 ≤ (r.drop j).length := by have := Hl.out; rw [List.length_drop]; omega
     match hq : r.drop j, hh with
     | c :: d :: t, _ => exact ⟨c, d, t, rfl⟩
    have hdm : St.drop m = c :: d :: t := by rw [← hd, Hdr.out, List.drop_drop, hm]
    have hsl : ∀ w, (Instr.slice 9 (.string (bs St)) (some (.int .i64 (m : Int))) (some (.int .i64 ((m : Int) + 2))) none).run Tryz.prog w = .ok (.string (bs [c, d])) w := fun w => by
     have := iQ St m 2 hlt w
     rw [hdm] at this
     exact this
    have Hd := hid hd; have Hdm := hid hdm
    clear hd hdm
    by_cases hcd : c = 58 ∧ d = 93
    · obtain ⟨rfl, rfl⟩ := hcd
      have hne : (([58, 93] : Bs) != [58, 93]) = false := by simp
      have hcr : fX r = some (r.take j, t) := by
       rw [Hcut.out, Hd.out, fX, mV, if_pos ⟨rfl, rfl⟩]
       simp [gp]
      have hcls : cr Z r = match ew (r.take j) with | none => .error 103 | some x => .ok (Z.or x, t) := by simp only [cr, hcr]; rfl
      have Hcls := hid hcls
      have hcut2 : ∀ w, (Instr.slice 9 (.string (bs St)) (some (.int .i64 ((k : Int) + 2))) (some (.int .i64 (m : Int))) none).run Tryz.prog w = .ok (.string (bs (r.take j))) w := fun w => by
       have := iQ St (k + 2) j (by omega) w
       rw [← Hdr.out, show ((k + 2 : Nat) : Int) + (j : Int) = (m : Int) by omega, show ((k + 2 : Nat) : Int) = (k : Int) + 2 by omega] at this
       exact this
      have hRt := hid (show t = St.drop (m + 2) by rw [← List.drop_drop, Hdm.out]; rfl)
      have hmk : k + 2 ≤ m := by omega
      have Hm := hid hm
      clear hcr hcls Hcut hm
      go_wp2_with fail
      refine (wg W0 (r.take j)).mono ?_
      rintro en w2 ⟨rfl, hb2⟩
      have h2 := H0.out.later hb2
      have hO2 := HO0.out.trans (Off.of_below (p := p) hb2)
      have hS2 := HS0.out.later hb2
      have hR2 := HR0.out.later hb2
      have hz2 := hR2.lt
      generalize hq : dY (r.take j) = q
      obtain ⟨X, ok⟩ := q
      simp only
      have HQ := hid hq
      clear hq
      have H2 := hid h2; have HO2 := hid hO2; have HS2 := hid hS2; have HR2 := hid hR2
      clear h2 hO2 hS2 hR2 hb2 H0 HO0 HS0 HR0 c0 c1
      go_upto_region 9 with fail
      generalize hW : w2.alloc _ = W3
      have hX3 : ae W3 w2.heap.size X := by subst hW; exact ae.box w2 X
      have hb3 : Below w2.heap.size w2 W3 := by subst hW; exact nal
      clear hW
      have HX3 := hid hX3
      have H3 := hid (H2.out.later hb3)
      have HO3 := hid (HO2.out.trans (Off.of_below (p := p) hb3))
      have HS3 := hid (HS2.out.later hb3)
      have HR3 := hid (HR2.out.later hb3)
      have hb71 : b + 1 < w2.heap.size := hz2
      clear hX3 hb3 H2 HO2 HS2 HR2 hz2
      generalize w2.heap.size = b7 at *
      obtain ⟨xa, xb, xc, xd⟩ := X
      cases ok with
      | false =>
       have HQ2 := hid (show cr Z r = .error 103 by
        rw [Hcls.out]
        have := HQ.out
        unfold dY at this
        split at this
        · cases this
        · rename_i hh; rw [hh])
       clear Hcls HQ
       go_wp2_with fail
       refine (bS 103 (by omega) H3.out).mono ?_
       rintro en w4 ⟨rfl, h4, hO4⟩
       have HX4 := hid (HX3.out.off hO4 (by omega))
       have HS4 := hid (HS3.out.off hO4 (by omega))
       have HR4 := hid (HR3.out.off hO4 (by omega))
       have HO4 := hid (HO3.out.trans hO4)
       have H4 := hid h4
       clear HX3 HS3 HR3 HO3 H3 h4 hO4
       have c1 := H4.out.rdr.c1
       have y1 := H4.out.rdr.z 1
       go_upto_region 12 with fail
       have h6 := H4.out.goto (m + 2) (by omega) (fun r he => by cases he)
       rw [show ((m + 2 : Nat) : Int) = (m : Int) + 2 by omega] at h6
       have hO6 := HO4.out.set 1 (.int .i64 ((m : Int) + 2))
       have HX6 := hid (HX4.out.other (b' := p) (by omega) 1 (.int .i64 ((m : Int) + 2)))
       have HA6 := hid (HS4.out.other (b' := p) (by omega) 1 (.int .i64 ((m : Int) + 2)))
       have HZ6 := hid (HR4.out.other (b' := p) (by omega) 1 (.int .i64 ((m : Int) + 2)))
       have HR6 := hid h6; have HO6 := hid hO6
       have HOut := hid (show Out (cr Z) (.ok r) (fun x => Z.or ⟨xa, xb, xc, xd⟩ = x) (.error 103) from Out.bad HQ2.out)
       clear h6 hO6 HX4 HS4 HR4 HO4 H4 c1 y1 HQ2
       generalize (Except.error 103 : Rs) = s6 at *
       generalize w4.setCell _ _ = W6 at *
       obtain ⟨k6, hk6⟩ : ∃ k6, k6 = m + 2 := ⟨_, rfl⟩
       rw [← hk6] at HR6
       clear hk6
       go_wp2_with fail
       go_loopg [9] 4 (fun gk i wr => ∃ j : Nat, i = .int .i64 j ∧ j + gk = 4 ∧ RQ wr p St k6 op s6 ∧ ae wr b (Z.orTo ⟨xa, xb, xc, xd⟩ j) ∧ ae wr b7 ⟨xa, xb, xc, xd⟩ ∧ ae wr (b + 1) w40 ∧ Off p w wr)
       case atStart => exact ⟨0, rfl, rfl, HR6.out, by rw [rP]; exact HA6.out, HX6.out, HZ6.out, HO6.out⟩
       case round =>
        obtain ⟨j, rfl, hj, hR, hS, hX, hZ, hO⟩ := hrel
        have HR := hid hR; have HSr := hid hS; have HXr := hid hX; have HZr := hid hZ; have HOr := hid hO
        have z0 := hS.froz 0; have z1 := hS.froz 1; have z2 := hS.froz 2; have z3 := hS.froz 3
        obtain ⟨f0, f1, f2, f3⟩ := hS.at4
        obtain ⟨x0, x1, x2, x3⟩ := hX.at4
        simp only [Nat.zero_add] at f1 f2 f3 x1 x2 x3
        clear hR hS hX hZ hO HR6 HA6 HX6 HZ6 HO6
        rcases (show j = 0 ∨ j = 1 ∨ j = 2 ∨ j = 3 ∨ j = 4 by omega) with rfl | rfl | rfl | rfl | rfl
        · simp [W4.orTo] at f0
          go_wp2_with fail
          go_region
          all_goals
           go_wp2_with fail
           go_roundg (gk - 1)
           case measure => omega
           case rel => exact ⟨1, by go_num, by omega, ((HR.out.put hp 0 _).drew), ae.drew (by have h1 := HSr.out.put 0 (by omega) (bits .or .u64 Z.a xa); rw [cW Z ⟨xa, xb, xc, xd⟩ 0 (by omega) (bits .or .u64 Z.a xa) rfl] at h1; exact h1), ae.drew (HXr.out.other (by omega) _ _), ae.drew (HZr.out.other (by omega) _ _), (HOr.out.box hbw _ _).drew⟩
        · simp [W4.orTo] at f1
          go_wp2_with fail
          go_region
          all_goals
           go_wp2_with fail
           go_roundg (gk - 1)
           case measure => omega
           case rel => exact ⟨2, by go_num, by omega, ((HR.out.put hp 1 _).drew), ae.drew (by have h1 := HSr.out.put 1 (by omega) (bits .or .u64 Z.b xb); rw [cW Z ⟨xa, xb, xc, xd⟩ 1 (by omega) (bits .or .u64 Z.b xb) rfl] at h1; exact h1), ae.drew (HXr.out.other (by omega) _ _), ae.drew (HZr.out.other (by omega) _ _), (HOr.out.box hbw _ _).drew⟩
        · simp [W4.orTo] at f2
          go_wp2_with fail
          go_region
          all_goals
           go_wp2_with fail
           go_roundg (gk - 1)
           case measure => omega
           case rel => exact ⟨3, by go_num, by omega, ((HR.out.put hp 2 _).drew), ae.drew (by have h1 := HSr.out.put 2 (by omega) (bits .or .u64 Z.c xc); rw [cW Z ⟨xa, xb, xc, xd⟩ 2 (by omega) (bits .or .u64 Z.c xc) rfl] at h1; exact h1), ae.drew (HXr.out.other (by omega) _ _), ae.drew (HZr.out.other (by omega) _ _), (HOr.out.box hbw _ _).drew⟩
        · simp [W4.orTo] at f3
          go_wp2_with fail
          go_region
          all_goals
           go_wp2_with fail
           go_roundg (gk - 1)
           case measure => omega
           case rel => exact ⟨4, by go_num, by omega, ((HR.out.put hp 3 _).drew), ae.drew (by have h1 := HSr.out.put 3 (by omega) (bits .or .u64 Z.d xd); rw [cW Z ⟨xa, xb, xc, xd⟩ 3 (by omega) (bits .or .u64 Z.d xd) rfl] at h1; exact h1), ae.drew (HXr.out.other (by omega) _ _), ae.drew (HZr.out.other (by omega) _ _), (HOr.out.box hbw _ _).drew⟩
        · have HSo := hid (show ae wr b (Z.or ⟨xa, xb, xc, xd⟩) by rw [← mh]; exact HSr.out)
          clear z0 z1 z2 z3 f0 f1 f2 f3 x0 x1 x2 x3 HSr
          generalize hT : Z.or ⟨xa, xb, xc, xd⟩ = TT at *
          have HT := hid hT
          clear hT
          obtain ⟨f0, f1, f2, f3⟩ := HSo.out.at4
          obtain ⟨g0, g1, g2, g3⟩ := HZr.out.at4
          simp only [Nat.zero_add] at f1 f2 f3 g1 g2 g3
          have y0 := HZr.out.froz 0; have y1 := HZr.out.froz 1; have y2 := HZr.out.froz 2; have y3 := HZr.out.froz 3
          go_wp2_with fail
          change bodyPost _ _ _ _ _ (setV wr (b + 1) TT)
          obtain ⟨q0, q1, q2, q3⟩ := (HZr.out.setV TT).at4
          simp only [Nat.zero_add] at q1 q2 q3
          have hRV : RQ (setV wr (b + 1) TT) p St k6 op s6 := HR.out.fillV (by omega) TT
          have hOV : Off p w (setV wr (b + 1) TT) := Off.setV HOr.out (b := b + 1) (by omega) TT
          clear f0 f1 f2 f3 g0 g1 g2 g3 y0 y1 y2 y3
          generalize setV wr (b + 1) TT = WZ at *
          exact bodyPost_ret (v := TT.V) (by simp [results, Tryz.results159, go_sem, q0, q1, q2, q3]) rfl ⟨TT, k6, s6, rfl, hRV, hOV, by first | exact HOut.out | (rw [← HT.out]; exact HOut.out)⟩
      | true =>
       have HQ2 := hid (show cr Z r = .ok (Z.or ⟨xa, xb, xc, xd⟩, t) by
        rw [Hcls.out]
        have := HQ.out
        unfold dY at this
        split at this
        · rename_i hh; cases this; rw [hh]
        · cases this)
       clear Hcls HQ
       have c1 := H3.out.rdr.c1
       have y1 := H3.out.rdr.z 1
       go_upto_region 12 with fail
       have h6 := (H3.out.goon' (m + 2) (by omega) t hRt.out)
       rw [show ((m + 2 : Nat) : Int) = (m : Int) + 2 by omega] at h6
       have hO6 := HO3.out.set 1 (.int .i64 ((m : Int) + 2))
       have HX6 := hid (HX3.out.other (b' := p) (by omega) 1 (.int .i64 ((m : Int) + 2)))
       have HA6 := hid (HS3.out.other (b' := p) (by omega) 1 (.int .i64 ((m : Int) + 2)))
       have HZ6 := hid (HR3.out.other (b' := p) (by omega) 1 (.int .i64 ((m : Int) + 2)))
       have HR6 := hid h6; have HO6 := hid hO6
       have HOut := hid (show Out (cr Z) (.ok r) (fun x => Z.or ⟨xa, xb, xc, xd⟩ = x) (.ok t) from Out.good HQ2.out rfl)
       clear h6 hO6 HX3 HS3 HR3 HO3 H3 c1 y1 HQ2
       generalize (Except.ok t : Rs) = s6 at *
       generalize W3.setCell _ _ = W6 at *
       obtain ⟨k6, hk6⟩ : ∃ k6, k6 = m + 2 := ⟨_, rfl⟩
       rw [← hk6] at HR6
       clear hk6
       go_wp2_with fail
       go_loopg [9] 4 (fun gk i wr => ∃ j : Nat, i = .int .i64 j ∧ j + gk = 4 ∧ RQ wr p St k6 op s6 ∧ ae wr b (Z.orTo ⟨xa, xb, xc, xd⟩ j) ∧ ae wr b7 ⟨xa, xb, xc, xd⟩ ∧ ae wr (b + 1) w40 ∧ Off p w wr)
       case atStart => exact ⟨0, rfl, rfl, HR6.out, by rw [rP]; exact HA6.out, HX6.out, HZ6.out, HO6.out⟩
       case round =>
        obtain ⟨j, rfl, hj, hR, hS, hX, hZ, hO⟩ := hrel
        have HR := hid hR; have HSr := hid hS; have HXr := hid hX; have HZr := hid hZ; have HOr := hid hO
        have z0 := hS.froz 0; have z1 := hS.froz 1; have z2 := hS.froz 2; have z3 := hS.froz 3
        obtain ⟨f0, f1, f2, f3⟩ := hS.at4
        obtain ⟨x0, x1, x2, x3⟩ := hX.at4
        simp only [Nat.zero_add] at f1 f2 f3 x1 x2 x3
        clear hR hS hX hZ hO HR6 HA6 HX6 HZ6 HO6
        rcases (show j = 0 ∨ j = 1 ∨ j = 2 ∨ j = 3 ∨ j = 4 by omega) with rfl | rfl | rfl | rfl | rfl
        · simp [W4.orTo] at f0
          go_wp2_with fail
          go_region
          all_goals
           go_wp2_with fail
           go_roundg (gk - 1)
           case measure => omega
           case rel => exact ⟨1, by go_num, by omega, ((HR.out.put hp 0 _).drew), ae.drew (by have h1 := HSr.out.put 0 (by omega) (bits .or .u64 Z.a xa); rw [cW Z ⟨xa, xb, xc, xd⟩ 0 (by omega) (bits .or .u64 Z.a xa) rfl] at h1; exact h1), ae.drew (HXr.out.other (by omega) _ _), ae.drew (HZr.out.other (by omega) _ _), (HOr.out.box hbw _ _).drew⟩
        · simp [W4.orTo] at f1
          go_wp2_with fail
          go_region
          all_goals
           go_wp2_with fail
           go_roundg (gk - 1)
           case measure => omega
           case rel => exact ⟨2, by go_num, by omega, ((HR.out.put hp 1 _).drew), ae.drew (by have h1 := HSr.out.put 1 (by omega) (bits .or .u64 Z.b xb); rw [cW Z ⟨xa, xb, xc, xd⟩ 1 (by omega) (bits .or .u64 Z.b xb) rfl] at h1; exact h1), ae.drew (HXr.out.other (by omega) _ _), ae.drew (HZr.out.other (by omega) _ _), (HOr.out.box hbw _ _).drew⟩
        · simp [W4.orTo] at f2
          go_wp2_with fail
          go_region
          all_goals
           go_wp2_with fail
           go_roundg (gk - 1)
           case measure => omega
           case rel => exact ⟨3, by go_num, by omega, ((HR.out.put hp 2 _).drew), ae.drew (by have h1 := HSr.out.put 2 (by omega) (bits .or .u64 Z.c xc); rw [cW Z ⟨xa, xb, xc, xd⟩ 2 (by omega) (bits .or .u64 Z.c xc) rfl] at h1; exact h1), ae.drew (HXr.out.other (by omega) _ _), ae.drew (HZr.out.other (by omega) _ _), (HOr.out.box hbw _ _).drew⟩
        · simp [W4.orTo] at f3
          go_wp2_with fail
          go_region
          all_goals
           go_wp2_with fail
           go_roundg (gk - 1)
           case measure => omega
           case rel => exact ⟨4, by go_num, by omega, ((HR.out.put hp 3 _).drew), ae.drew (by have h1 := HSr.out.put 3 (by omega) (bits .or .u64 Z.d xd); rw [cW Z ⟨xa, xb, xc, xd⟩ 3 (by omega) (bits .or .u64 Z.d xd) rfl] at h1; exact h1), ae.drew (HXr.out.other (by omega) _ _), ae.drew (HZr.out.other (by omega) _ _), (HOr.out.box hbw _ _).drew⟩
        · have HSo := hid (show ae wr b (Z.or ⟨xa, xb, xc, xd⟩) by rw [← mh]; exact HSr.out)
          clear z0 z1 z2 z3 f0 f1 f2 f3 x0 x1 x2 x3 HSr
          generalize hT : Z.or ⟨xa, xb, xc, xd⟩ = TT at *
          have HT := hid hT
          clear hT
          obtain ⟨f0, f1, f2, f3⟩ := HSo.out.at4
          obtain ⟨g0, g1, g2, g3⟩ := HZr.out.at4
          simp only [Nat.zero_add] at f1 f2 f3 g1 g2 g3
          have y0 := HZr.out.froz 0; have y1 := HZr.out.froz 1; have y2 := HZr.out.froz 2; have y3 := HZr.out.froz 3
          go_wp2_with fail
          change bodyPost _ _ _ _ _ (setV wr (b + 1) TT)
          obtain ⟨q0, q1, q2, q3⟩ := (HZr.out.setV TT).at4
          simp only [Nat.zero_add] at q1 q2 q3
          have hRV : RQ (setV wr (b + 1) TT) p St k6 op s6 := HR.out.fillV (by omega) TT
          have hOV : Off p w (setV wr (b + 1) TT) := Off.setV HOr.out (b := b + 1) (by omega) TT
          clear f0 f1 f2 f3 g0 g1 g2 g3 y0 y1 y2 y3
          generalize setV wr (b + 1) TT = WZ at *
          exact bodyPost_ret (v := TT.V) (by simp [results, Tryz.results159, go_sem, q0, q1, q2, q3]) rfl ⟨TT, k6, s6, rfl, hRV, hOV, by first | exact HOut.out | (rw [← HT.out]; exact HOut.out)⟩
    · have hne : (([c, d] : Bs) != [58, 93]) = true := by
       rw [bne_iff_ne]; intro h; simp at h; exact hcd h
      have hne2 : ((!c == 58) || (!d == 93)) = true := by
       rw [Bool.or_eq_true, Bool.not_eq_true', Bool.not_eq_true', beq_eq_false_iff_ne, beq_eq_false_iff_ne]
       by_cases h : c = 58
       · exact .inr (fun h2 => hcd ⟨h, h2⟩)
       · exact .inl h
      have Hst := hid (show fX r = gp (r.take (j + 1)) (fX (r.drop (j + 1))) by
       rw [Hcut.out, Hd.out, qi _ _ (by rw [mV, if_neg hcd]), rJ]
       have hj1 : j < r.length := by
        have h1 := congrArg List.length Hd.out
        simp only [List.length_drop, List.length_cons] at h1
        omega
       rw [show r.drop (j + 1) = d :: t by rw [← List.drop_drop, Hd.out]; rfl]
       congr 1
       have h3 : r[j] = c := by
        have := List.drop_eq_getElem_cons hj1
        rw [Hd.out] at this
        simp only [List.cons.injEq] at this
        exact this.1.symm
       rw [List.take_succ_eq_append_getElem hj1, h3])
      have Hm := hid hm
      have hjl : j < r.length := by have := Hl.out; omega
      clear hm Hcut
      go_wp2_with fail
      go_roundg (gk - 1)
      case measure => omega
      case rel => exact ⟨j + 1, m + 1, by go_num, rfl, by have := Hm.out; omega, by omega, by omega, Hst.out⟩
  · have hlI : (St.length : Int) < (m : Int) + 2 := by omega
    have hnone : fX r = none := by
     rw [Hcut.out, um _ (by rw [List.length_drop]; have := Hl.out; omega)]; rfl
    have Hs := hid (show cr Z r = .error 101 by simp only [cr, hnone])
    have hmb : m ≤ 2000 := by have := Hl.out; omega
    clear hnone hm Hcut
    go_wp2_with fail
    refine (bS 101 (by omega) H0.out).mono ?_
    rintro en w4 ⟨rfl, h4, hO4⟩
    have HSo := hid (HS0.out.off hO4 (by omega))
    have HZr := hid (HR0.out.off hO4 (by omega))
    have HO4 := hid (HO0.out.trans hO4)
    have H4 := hid h4
    clear HS0 HR0 HO0 H0 h4 hO4
    obtain ⟨f0, f1, f2, f3⟩ := HSo.out.at4
    obtain ⟨g0, g1, g2, g3⟩ := HZr.out.at4
    simp only [Nat.zero_add] at f1 f2 f3 g1 g2 g3
    have y0 := HZr.out.froz 0; have y1 := HZr.out.froz 1; have y2 := HZr.out.froz 2; have y3 := HZr.out.froz 3
    go_wp2_with fail
    change bodyPost _ _ _ _ _ (setV w4 (b + 1) Z)
    obtain ⟨q0, q1, q2, q3⟩ := (HZr.out.setV Z).at4
    simp only [Nat.zero_add] at q1 q2 q3
    have hRV : RQ (setV w4 (b + 1) Z) p St k op (.error 101) := H4.out.fillV (by omega) Z
    have hOV : Off p w (setV w4 (b + 1) Z) := Off.setV HO4.out (b := b + 1) (by omega) Z
    clear f0 f1 f2 f3 g0 g1 g2 g3 y0 y1 y2 y3
    generalize setV w4 (b + 1) Z = WZ at *
    exact bodyPost_ret (v := Z.V) (by simp [results, Tryz.results159, go_sem, q0, q1, q2, q3]) rfl ⟨Z, k, _, rfl, hRV, hOV, Out.bad Hs.out⟩
theorem gc {w : World} {p : Nat} {S : Bs} {k : Nat} {op : Int} {r r' : Bs} (q : Bs) (hq : q.length ≤ 100) (ht : aq q r = some r') (h : RQ w p S k op (.ok r)) :
 Calls Tryz.prog 102 #[.pointer (some ⟨p, 0, none⟩), .string (bs q)] w fun en w' => en = .returned (.bool true) ∧ RQ w' p S k op (.ok r) ∧ Off p w w' := by
 have := xT q hq h
 rwa [fK ht] at this
theorem ef {w : World} {p : Nat} {S : Bs} {k : Nat} {op : Int} {r : Bs} (q : Bs) (hq : q.length ≤ 100) (ht : aq q r = none) (h : RQ w p S k op (.ok r)) :
 Calls Tryz.prog 102 #[.pointer (some ⟨p, 0, none⟩), .string (bs q)] w fun en w' => en = .returned (.bool false) ∧ RQ w' p S k op (.ok r) ∧ Off p w w' := by
 have := xT q hq h
 rwa [fL ht] at this
theorem xp {w : World} {p : Nat} {S : Bs} {k : Nat} {op : Int} {e : Int} (q : Bs) (hq : q.length ≤ 100) (h : RQ w p S k op (.error e)) :
 Calls Tryz.prog 102 #[.pointer (some ⟨p, 0, none⟩), .string (bs q)] w fun en w' => en = .returned (.bool false) ∧ RQ w' p S k op (.error e) ∧ Off p w w' := xT q hq h
theorem jR {a b : UInt8} {r r1 : Bs} (h : aq [a, b] r = some r1) : r = a :: b :: r1 := by
 match r with
 | [] => rw [dT _ (by simp)] at h; cases h
 | [c] =>
  rw [bg] at h
  split at h
  · rw [dT _ (by simp)] at h; cases h
  · cases h
 | c :: d :: t =>
  rw [bg] at h
  split at h
  · rename_i h1
    rw [aH] at h
    split at h
    · rename_i h2; cases h; rw [h1, h2]
    · cases h
  · cases h
theorem mJ (r : Bs) : dj false r = aS r := by unfold dj; rw [if_neg (by simp)]
theorem nL (q r : Bs) : (cP q (.ok r)).1 = (aq q r).isSome := by
 cases h : aq q r with
 | none => rw [fL h]; rfl
 | some r' => rw [fK h]; rfl
theorem xo (s : W4) (c : Nat) (r r1 : Bs) (h1 : aq [45] r = some r1) (h2 : aq [45, 93] r = none) :
 co s c r = match dj true r1 with | .error e => .error e | .ok (t, r2) => if t < c then .error 102 else .ok (s.span c (t + 1 - c), r2) := by
 unfold co dj
 simp only [h1, h2, nL, Bool.true_and]
 split
 · rfl
 · cases aS r1 with
   | error e => rfl
   | ok x => rfl
theorem np (s : W4) (c : Nat) (r : Bs) (h : aq [45] r = none ∨ ∃ r2, aq [45, 93] r = some r2) : co s c r = .ok (s.add c, r) := by
 unfold co
 rcases h with h | ⟨r2, h⟩
 · rw [h]
 · rw [h]; cases aq [45] r <;> rfl
theorem nr (w : World) (p : Nat) (St : Bs) (k : Nat) (op : Int) (r : Bs) (Z : W4) (h : RQ w p St k op (.ok r)) :
 Calls Tryz.prog 148 #[.pointer (some ⟨p, 0, none⟩), Z.V] w fun en w' => yf p St op (bD Z) r w en w' := by
 have hp := h.lt
 have H := hid h
 have hkb : k ≤ 1024 := Nat.le_trans h.rdr.le h.rdr.top
 clear h
 go_enter Tryz.func148, Tryz.ntmps148
 go_upto_region 1 with fail
 generalize hW : (w.alloc _).alloc _ = W0
 have hs0 : ae W0 w.heap.size Z := by subst hW; exact (ae.box w Z).later nal
 have hr0 : ae W0 (w.heap.size + 1) w40 := by
  subst hW
  have := ae.new (w.alloc (.cells #[.int .u64 Z.a, .int .u64 Z.b, .int .u64 Z.c, .int .u64 Z.d] 28))
  simpa using this
 have hb0 : Below w.heap.size w W0 := by subst hW; exact nal.alloc (by simp) _
 clear hW
 have HRr := hid (H.out.later hb0); have HOr := hid (Off.of_below (p := p) hb0)
 clear H hb0
 obtain ⟨b, hb⟩ : ∃ b, b = w.heap.size := ⟨_, rfl⟩
 rw [← hb] at hs0 hr0 hp
 rw [← hb]
 have HA := hid hs0; have HZr := hid hr0
 have hbw : w.heap.size ≤ b := by omega
 clear hs0 hr0 hb
 cases ht : aq [91, 58] r with
 | some r1 =>
  have Hi := hid (show bD Z r = cr Z r1 by simp only [bD, ht])
  have Ht := hid ht; clear ht
  go_wp2_with fail
  refine (gc [91, 58] (by simp) Ht.out HRr.out).mono ?_
  rintro en w1 ⟨rfl, hR, hO⟩
  have HA := hid (HA.out.off hO (by omega))
  have HZr := hid (HZr.out.off hO (by omega))
  have HOr := hid (HOr.out.trans hO)
  have HRr := hid hR
  clear hO hR
  obtain ⟨f0, f1, f2, f3⟩ := HA.out.at4
  simp only [Nat.zero_add] at f1 f2 f3
  go_wp2_with fail
  refine (qW w1 p St k op 91 58 r1 Z (by have := HRr.out; rwa [jR Ht.out] at this)).mono ?_
  rintro en w2 ⟨T, k2, s2, rfl, hR, hO, ho⟩
  have Ho := hid (show Out (bD Z) (.ok r) (fun x => T = x) s2 by simp only [Out] at ho ⊢; rw [Hi.out]; exact ho)
  clear ho f0 f1 f2 f3
  have HA := hid (HA.out.off hO (by omega))
  have HZr := hid (HZr.out.off hO (by omega))
  have HOr := hid (HOr.out.trans hO)
  have HRr := hid hR
  clear hO hR
  obtain ⟨g0, g1, g2, g3⟩ := HZr.out.at4
  simp only [Nat.zero_add] at g1 g2 g3
  have y0 := HZr.out.froz 0; have y1 := HZr.out.froz 1; have y2 := HZr.out.froz 2; have y3 := HZr.out.froz 3
  go_wp2_with fail
  change bodyPost _ _ _ _ _ (setV w2 (b + 1) T)
  obtain ⟨q0, q1, q2, q3⟩ := (HZr.out.setV (T)).at4
  simp only [Nat.zero_add] at q1 q2 q3
  have hRV := HRr.out.fillV (b := b + 1) (by omega) (T)
  have hOV := Off.setV HOr.out (b := b + 1) (by omega) (T)
  clear g0 g1 g2 g3 y0 y1 y2 y3
  generalize setV w2 (b + 1) (T) = WZ at *
  exact bodyPost_ret (v := W4.V (T)) (by simp [results, Tryz.results148, go_sem, q0, q1, q2, q3]) rfl ⟨T, k2, s2, rfl, hRV, hOV, Ho.out⟩
 | none =>
 cases ht2 : aq [91, 61] r with
 | some r1 =>
  have Hi := hid (show bD Z r = match be 61 r1 with | .error e => .error e | .ok (c, r2) => .ok (Z.add c, r2) by simp only [bD, ht, ht2]; rfl)
  have Ht := hid ht; have Ht2 := hid ht2; clear ht ht2
  go_wp2_with fail
  refine (ef [91, 58] (by simp) Ht.out HRr.out).mono ?_
  rintro en w1 ⟨rfl, hR, hO⟩
  have HA := hid (HA.out.off hO (by omega))
  have HZr := hid (HZr.out.off hO (by omega))
  have HOr := hid (HOr.out.trans hO)
  have HRr := hid hR
  clear hO hR
  go_wp2_with fail
  refine (gc [91, 61] (by simp) Ht2.out HRr.out).mono ?_
  rintro en w2 ⟨rfl, hR, hO⟩
  have HA := hid (HA.out.off hO (by omega))
  have HZr := hid (HZr.out.off hO (by omega))
  have HOr := hid (HOr.out.trans hO)
  have HRr := hid hR
  clear hO hR
  go_wp2_with fail
  refine (jW w2 p St k op 91 61 r1 61 (by have := HRr.out; rwa [jR Ht2.out] at this)).mono ?_
  rintro en w3 ⟨c, k3, s3, hc, rfl, hR, hO, ho⟩
  have Ho := hid (show Out (bD Z) (.ok r) (fun x => Z.add c = x) s3 by
   have hho := ho
   simp only [Out, Hi.out] at hho ⊢
   cases hsg : be 61 r1 with
   | error e => simp only [hsg] at hho ⊢; exact hho
   | ok y => obtain ⟨c', r2⟩ := y; simp only [hsg] at hho ⊢; obtain ⟨rfl, h'⟩ := hho; exact ⟨rfl, h'⟩)
  clear ho
  have HA := hid (HA.out.off hO (by omega))
  have HZr := hid (HZr.out.off hO (by omega))
  have HOr := hid (HOr.out.trans hO)
  have HRr := hid hR
  clear hO hR
  obtain ⟨f0, f1, f2, f3⟩ := HA.out.at4
  simp only [Nat.zero_add] at f1 f2 f3
  go_wp2_with fail
  refine (eq w3 Z c hc).mono ?_
  rintro en w4 ⟨rfl, hb⟩
  clear f0 f1 f2 f3
  have HA := hid (HA.out.later hb)
  have HZr := hid (HZr.out.later hb)
  have HOr := hid (HOr.out.trans (Off.of_below (p := p) hb))
  have HRr := hid (HRr.out.later hb)
  clear hb
  generalize Z.add c = T at *
  obtain ⟨g0, g1, g2, g3⟩ := HZr.out.at4
  simp only [Nat.zero_add] at g1 g2 g3
  have y0 := HZr.out.froz 0; have y1 := HZr.out.froz 1; have y2 := HZr.out.froz 2; have y3 := HZr.out.froz 3
  go_wp2_with fail
  change bodyPost _ _ _ _ _ (setV w4 (b + 1) T)
  obtain ⟨q0, q1, q2, q3⟩ := (HZr.out.setV (T)).at4
  simp only [Nat.zero_add] at q1 q2 q3
  have hRV := HRr.out.fillV (b := b + 1) (by omega) (T)
  have hOV := Off.setV HOr.out (b := b + 1) (by omega) (T)
  clear g0 g1 g2 g3 y0 y1 y2 y3
  generalize setV w4 (b + 1) (T) = WZ at *
  exact bodyPost_ret (v := W4.V (T)) (by simp [results, Tryz.results148, go_sem, q0, q1, q2, q3]) rfl ⟨T, k3, s3, rfl, hRV, hOV, Ho.out⟩
 | none =>
  have Hi := hid (show bD Z r = match aS r with | .error e => .error e | .ok (c, r1) => co Z c r1 by simp only [bD, ht, ht2]; rfl)
  have Ht := hid ht; have Ht2 := hid ht2; clear ht ht2
  go_wp2_with fail
  refine (ef [91, 58] (by simp) Ht.out HRr.out).mono ?_
  rintro en w1 ⟨rfl, hR, hO⟩
  have HA := hid (HA.out.off hO (by omega))
  have HZr := hid (HZr.out.off hO (by omega))
  have HOr := hid (HOr.out.trans hO)
  have HRr := hid hR
  clear hO hR
  go_wp2_with fail
  refine (ef [91, 61] (by simp) Ht2.out HRr.out).mono ?_
  rintro en w2 ⟨rfl, hR, hO⟩
  have HA := hid (HA.out.off hO (by omega))
  have HZr := hid (HZr.out.off hO (by omega))
  have HOr := hid (HOr.out.trans hO)
  have HRr := hid hR
  clear hO hR
  go_wp2_with fail
  refine (jX w2 p St k op r false HRr.out).mono ?_
  rintro en w3 ⟨c, k3, s3, hc, rfl, hR, hO, ho⟩
  have Ho := hid (show Out aS (.ok r) (fun x => c = x) s3 by simp only [Out, mJ] at ho ⊢; exact ho)
  clear ho Ht Ht2
  have HA := hid (HA.out.off hO (by omega))
  have HZr := hid (HZr.out.off hO (by omega))
  have HOr := hid (HOr.out.trans hO)
  have HRr := hid hR
  clear hO hR
  obtain ⟨f0, f1, f2, f3⟩ := HA.out.at4
  simp only [Nat.zero_add] at f1 f2 f3
  cases s3 with
  | error e =>
   have Hi2 := hid (show bD Z r = .error e by rw [Hi.out, ff Ho.out])
   clear Ho Hi
   go_wp2_with fail
   refine (xp [45] (by simp) HRr.out).mono ?_
   rintro en w4 ⟨rfl, hR, hO⟩
   clear f0 f1 f2 f3
   have HA := hid (HA.out.off hO (by omega))
   have HZr := hid (HZr.out.off hO (by omega))
   have HOr := hid (HOr.out.trans hO)
   have HRr := hid hR
   clear hO hR
   obtain ⟨f0, f1, f2, f3⟩ := HA.out.at4
   simp only [Nat.zero_add] at f1 f2 f3
   go_wp2_with fail
   refine (eq w4 Z c hc).mono ?_
   rintro en w5 ⟨rfl, hb⟩
   clear f0 f1 f2 f3
   have HA := hid (HA.out.later hb)
   have HZr := hid (HZr.out.later hb)
   have HOr := hid (HOr.out.trans (Off.of_below (p := p) hb))
   have HRr := hid (HRr.out.later hb)
   clear hb
   generalize Z.add c = T at *
   obtain ⟨g0, g1, g2, g3⟩ := HZr.out.at4
   simp only [Nat.zero_add] at g1 g2 g3
   have y0 := HZr.out.froz 0; have y1 := HZr.out.froz 1; have y2 := HZr.out.froz 2; have y3 := HZr.out.froz 3
   go_wp2_with fail
   change bodyPost _ _ _ _ _ (setV w5 (b + 1) T)
   obtain ⟨q0, q1, q2, q3⟩ := (HZr.out.setV (T)).at4
   simp only [Nat.zero_add] at q1 q2 q3
   have hRV := HRr.out.fillV (b := b + 1) (by omega) (T)
   have hOV := Off.setV HOr.out (b := b + 1) (by omega) (T)
   clear g0 g1 g2 g3 y0 y1 y2 y3
   generalize setV w5 (b + 1) (T) = WZ at *
   exact bodyPost_ret (v := W4.V (T)) (by simp [results, Tryz.results148, go_sem, q0, q1, q2, q3]) rfl ⟨T, k3, _, rfl, hRV, hOV, Out.bad Hi2.out⟩
  | ok r1 =>
   have Hi2 := hid (show bD Z r = co Z c r1 by
    obtain ⟨x, hx, rfl⟩ := eh Ho.out
    rw [Hi.out, hx])
   clear Ho Hi
   cases t1 : aq [45] r1 with
   | none =>
    have Hi3 := hid (show bD Z r = .ok (Z.add c, r1) by rw [Hi2.out, np _ _ _ (.inl t1)])
    have T1 := hid t1; clear t1 Hi2
    go_wp2_with fail
    refine (ef [45] (by simp) T1.out HRr.out).mono ?_
    rintro en w4 ⟨rfl, hR, hO⟩
    clear f0 f1 f2 f3
    have HA := hid (HA.out.off hO (by omega))
    have HZr := hid (HZr.out.off hO (by omega))
    have HOr := hid (HOr.out.trans hO)
    have HRr := hid hR
    clear hO hR
    obtain ⟨f0, f1, f2, f3⟩ := HA.out.at4
    simp only [Nat.zero_add] at f1 f2 f3
    go_wp2_with fail
    refine (eq w4 Z c hc).mono ?_
    rintro en w5 ⟨rfl, hb⟩
    clear f0 f1 f2 f3
    have HA := hid (HA.out.later hb)
    have HZr := hid (HZr.out.later hb)
    have HOr := hid (HOr.out.trans (Off.of_below (p := p) hb))
    have HRr := hid (HRr.out.later hb)
    clear hb
    generalize Z.add c = T at *
    obtain ⟨g0, g1, g2, g3⟩ := HZr.out.at4
    simp only [Nat.zero_add] at g1 g2 g3
    have y0 := HZr.out.froz 0; have y1 := HZr.out.froz 1; have y2 := HZr.out.froz 2; have y3 := HZr.out.froz 3
    go_wp2_with fail
    change bodyPost _ _ _ _ _ (setV w5 (b + 1) T)
    obtain ⟨q0, q1, q2, q3⟩ := (HZr.out.setV (T)).at4
    simp only [Nat.zero_add] at q1 q2 q3
    have hRV := HRr.out.fillV (b := b + 1) (by omega) (T)
    have hOV := Off.setV HOr.out (b := b + 1) (by omega) (T)
    clear g0 g1 g2 g3 y0 y1 y2 y3
    generalize setV w5 (b + 1) (T) = WZ at *
    exact bodyPost_ret (v := W4.V (T)) (by simp [results, Tryz.results148, go_sem, q0, q1, q2, q3]) rfl ⟨T, k3, _, rfl, hRV, hOV, Out.good Hi3.out rfl⟩
   | some r2 =>
    have T1 := hid t1
    cases t2 : aq [45, 93] r1 with
    | some r3 =>
     have Hi3 := hid (show bD Z r = .ok (Z.add c, r1) by rw [Hi2.out, np _ _ _ (.inr ⟨_, t2⟩)])
     have T2 := hid t2; clear t1 t2 Hi2
     go_wp2_with fail
     refine (gc [45] (by simp) T1.out HRr.out).mono ?_
     rintro en w4 ⟨rfl, hR, hO⟩
     clear f0 f1 f2 f3
     have HA := hid (HA.out.off hO (by omega))
     have HZr := hid (HZr.out.off hO (by omega))
     have HOr := hid (HOr.out.trans hO)
     have HRr := hid hR
     clear hO hR
     go_wp2_with fail
     refine (gc [45, 93] (by simp) T2.out HRr.out).mono ?_
     rintro en w5 ⟨rfl, hR, hO⟩
     have HA := hid (HA.out.off hO (by omega))
     have HZr := hid (HZr.out.off hO (by omega))
     have HOr := hid (HOr.out.trans hO)
     have HRr := hid hR
     clear hO hR
     obtain ⟨f0, f1, f2, f3⟩ := HA.out.at4
     simp only [Nat.zero_add] at f1 f2 f3
     go_wp2_with fail
     refine (eq w5 Z c hc).mono ?_
     rintro en w6 ⟨rfl, hb⟩
     clear f0 f1 f2 f3
     have HA := hid (HA.out.later hb)
     have HZr := hid (HZr.out.later hb)
     have HOr := hid (HOr.out.trans (Off.of_below (p := p) hb))
     have HRr := hid (HRr.out.later hb)
     clear hb
     generalize Z.add c = T at *
     obtain ⟨g0, g1, g2, g3⟩ := HZr.out.at4
     simp only [Nat.zero_add] at g1 g2 g3
     have y0 := HZr.out.froz 0; have y1 := HZr.out.froz 1; have y2 := HZr.out.froz 2; have y3 := HZr.out.froz 3
     go_wp2_with fail
     change bodyPost _ _ _ _ _ (setV w6 (b + 1) T)
     obtain ⟨q0, q1, q2, q3⟩ := (HZr.out.setV (T)).at4
     simp only [Nat.zero_add] at q1 q2 q3
     have hRV := HRr.out.fillV (b := b + 1) (by omega) (T)
     have hOV := Off.setV HOr.out (b := b + 1) (by omega) (T)
     clear g0 g1 g2 g3 y0 y1 y2 y3
     generalize setV w6 (b + 1) (T) = WZ at *
     exact bodyPost_ret (v := W4.V (T)) (by simp [results, Tryz.results148, go_sem, q0, q1, q2, q3]) rfl ⟨T, k3, _, rfl, hRV, hOV, Out.good Hi3.out rfl⟩
    | none =>
     have Hi3 := hid (show bD Z r = match dj true r2 with | .error e => .error e | .ok (t, r2) => if t < c then .error 102 else .ok (Z.span c (t + 1 - c), r2) by rw [Hi2.out, xo _ _ _ _ t1 t2])
     have hr1 : r1 = 45 :: r2 := by
      cases r1 with
      | nil => rw [dT _ (by simp)] at t1; cases t1
      | cons x t =>
       rw [aH] at t1
       split at t1
       · rename_i h; cases t1; rw [← h]
       · cases t1
     have Hr1 := hid hr1
     have T2 := hid t2; clear t1 t2 Hi2 hr1
     go_wp2_with fail
     refine (gc [45] (by simp) T1.out HRr.out).mono ?_
     rintro en w4 ⟨rfl, hR, hO⟩
     clear f0 f1 f2 f3
     have HA := hid (HA.out.off hO (by omega))
     have HZr := hid (HZr.out.off hO (by omega))
     have HOr := hid (HOr.out.trans hO)
     have HRr := hid hR
     clear hO hR
     go_wp2_with fail
     refine (ef [45, 93] (by simp) T2.out HRr.out).mono ?_
     rintro en w5 ⟨rfl, hR, hO⟩
     have hkb3 : k3 ≤ 1024 := Nat.le_trans hR.rdr.le hR.rdr.top
     have HA := hid (HA.out.off hO (by omega))
     have HZr := hid (HZr.out.off hO (by omega))
     have HOr := hid (HOr.out.trans hO)
     have HRr := hid hR
     clear hO hR
     have c1 := HRr.out.rdr.c1
     have y1 := HRr.out.rdr.z 1
     go_upto_region 10 with fail
     have hR := HRr.out.step 1 (by rw [Hr1.out]; simp)
     rw [show ((1 : Nat) : Int) = 1 from rfl, show r1.drop 1 = r2 by rw [Hr1.out]; rfl] at hR
     have hO := (Off.refl p w5).set 1 (.int .i64 ((k3 : Int) + 1))
     generalize w5.setCell _ _ = W5 at *
     clear c1 y1
     have HA := hid (HA.out.off hO (by omega))
     have HZr := hid (HZr.out.off hO (by omega))
     have HOr := hid (HOr.out.trans hO)
     have HRr := hid hR
     clear hO hR
     go_wp2_with fail
     refine (jX W5 p St (k3 + 1) op r2 true HRr.out).mono ?_
     rintro en w6 ⟨t, k6, s6, htb, rfl, hR, hO, ho⟩
     have Ho := hid ho
     have c3 := hR.rdr.c3
     have hne := hR.ne
     clear ho
     have HA := hid (HA.out.off hO (by omega))
     have HZr := hid (HZr.out.off hO (by omega))
     have HOr := hid (HOr.out.trans hO)
     have HRr := hid hR
     clear hO hR
     have hcz : (t : Int) < 256 := by omega
     have hcy : (c : Int) < 256 := by omega
     have hw1 : IntKind.i64.wrap (c : Int) = (c : Int) := by simp [IntKind.wrap, IntKind.signed, IntKind.bits]; omega
     have hw2 : IntKind.i64.wrap (t : Int) = (t : Int) := by simp [IntKind.wrap, IntKind.signed, IntKind.bits]; omega
     cases s6 with
     | error e =>
      have Hi4 := hid (show bD Z r = .error e by rw [Hi3.out, ff Ho.out])
      have hne0 := hne e rfl
      have hb0 : (e == 0) = false := by rw [beq_eq_false_iff_ne]; exact hne0
      simp only [Rs.no] at c3
      clear Ho Hi3 hne
      obtain ⟨f0, f1, f2, f3⟩ := HA.out.at4
      simp only [Nat.zero_add] at f1 f2 f3
      go_wp2_with fail
      refine (ah w6 Z c t (by omega) (by omega)).mono ?_
      rintro en w7 ⟨rfl, hb⟩
      clear f0 f1 f2 f3 c3
      have HA := hid (HA.out.later hb)
      have HZr := hid (HZr.out.later hb)
      have HOr := hid (HOr.out.trans (Off.of_below (p := p) hb))
      have HRr := hid (HRr.out.later hb)
      clear hb
      generalize Z.span c _ = T at *
      obtain ⟨g0, g1, g2, g3⟩ := HZr.out.at4
      simp only [Nat.zero_add] at g1 g2 g3
      have y0 := HZr.out.froz 0; have y1 := HZr.out.froz 1; have y2 := HZr.out.froz 2; have y3 := HZr.out.froz 3
      go_wp2_with fail
      change bodyPost _ _ _ _ _ (setV w7 (b + 1) T)
      obtain ⟨q0, q1, q2, q3⟩ := (HZr.out.setV (T)).at4
      simp only [Nat.zero_add] at q1 q2 q3
      have hRV := HRr.out.fillV (b := b + 1) (by omega) (T)
      have hOV := Off.setV HOr.out (b := b + 1) (by omega) (T)
      clear g0 g1 g2 g3 y0 y1 y2 y3
      generalize setV w7 (b + 1) (T) = WZ at *
      exact bodyPost_ret (v := W4.V (T)) (by simp [results, Tryz.results148, go_sem, q0, q1, q2, q3]) rfl ⟨T, k6, _, rfl, hRV, hOV, Out.bad Hi4.out⟩
     | ok r4 =>
      have Hi4 := hid (show bD Z r = if t < c then .error 102 else .ok (Z.span c (t + 1 - c), r4) by
       obtain ⟨x, hx, rfl⟩ := eh Ho.out
       rw [Hi3.out, hx])
      simp only [Rs.no] at c3
      clear Ho Hi3 hne
      by_cases hlt : t < c
      · have Hi5 := hid (show bD Z r = .error 102 by rw [Hi4.out, if_pos hlt])
        have hltI : (t : Int) < (c : Int) := by omega
        clear Hi4
        go_wp2_with fail
        refine (bS 102 (by omega) HRr.out).mono ?_
        rintro en w7 ⟨rfl, hR, hO⟩
        clear c3
        have HA := hid (HA.out.off hO (by omega))
        have HZr := hid (HZr.out.off hO (by omega))
        have HOr := hid (HOr.out.trans hO)
        have HRr := hid hR
        clear hO hR
        obtain ⟨f0, f1, f2, f3⟩ := HA.out.at4
        simp only [Nat.zero_add] at f1 f2 f3
        go_wp2_with fail
        refine (ah w7 Z c t (by omega) (by omega)).mono ?_
        rintro en w8 ⟨rfl, hb⟩
        clear f0 f1 f2 f3
        have HA := hid (HA.out.later hb)
        have HZr := hid (HZr.out.later hb)
        have HOr := hid (HOr.out.trans (Off.of_below (p := p) hb))
        have HRr := hid (HRr.out.later hb)
        clear hb
        generalize Z.span c _ = T at *
        obtain ⟨g0, g1, g2, g3⟩ := HZr.out.at4
        simp only [Nat.zero_add] at g1 g2 g3
        have y0 := HZr.out.froz 0; have y1 := HZr.out.froz 1; have y2 := HZr.out.froz 2; have y3 := HZr.out.froz 3
        go_wp2_with fail
        change bodyPost _ _ _ _ _ (setV w8 (b + 1) T)
        obtain ⟨q0, q1, q2, q3⟩ := (HZr.out.setV (T)).at4
        simp only [Nat.zero_add] at q1 q2 q3
        have hRV := HRr.out.fillV (b := b + 1) (by omega) (T)
        have hOV := Off.setV HOr.out (b := b + 1) (by omega) (T)
        clear g0 g1 g2 g3 y0 y1 y2 y3
        generalize setV w8 (b + 1) (T) = WZ at *
        exact bodyPost_ret (v := W4.V (T)) (by simp [results, Tryz.results148, go_sem, q0, q1, q2, q3]) rfl ⟨T, k6, _, rfl, hRV, hOV, Out.bad Hi5.out⟩
      · have Hi5 := hid (show bD Z r = .ok (Z.span c (t + 1 - c), r4) by rw [Hi4.out, if_neg hlt])
        have hltI : decide ((t : Int) < (c : Int)) = false := by rw [decide_eq_false_iff_not]; omega
        clear Hi4
        obtain ⟨f0, f1, f2, f3⟩ := HA.out.at4
        simp only [Nat.zero_add] at f1 f2 f3
        go_wp2_with fail
        refine (ah w6 Z c t (by omega) (by omega)).mono ?_
        rintro en w8 ⟨rfl, hb⟩
        clear f0 f1 f2 f3 c3
        have HA := hid (HA.out.later hb)
        have HZr := hid (HZr.out.later hb)
        have HOr := hid (HOr.out.trans (Off.of_below (p := p) hb))
        have HRr := hid (HRr.out.later hb)
        clear hb
        generalize Z.span c _ = T at *
        obtain ⟨g0, g1, g2, g3⟩ := HZr.out.at4
        simp only [Nat.zero_add] at g1 g2 g3
        have y0 := HZr.out.froz 0; have y1 := HZr.out.froz 1; have y2 := HZr.out.froz 2; have y3 := HZr.out.froz 3
        go_wp2_with fail
        change bodyPost _ _ _ _ _ (setV w8 (b + 1) T)
        obtain ⟨q0, q1, q2, q3⟩ := (HZr.out.setV (T)).at4
        simp only [Nat.zero_add] at q1 q2 q3
        have hRV := HRr.out.fillV (b := b + 1) (by omega) (T)
        have hOV := Off.setV HOr.out (b := b + 1) (by omega) (T)
        clear g0 g1 g2 g3 y0 y1 y2 y3
        generalize setV w8 (b + 1) (T) = WZ at *
        exact bodyPost_ret (v := W4.V (T)) (by simp [results, Tryz.results148, go_sem, q0, q1, q2, q3]) rfl ⟨T, k6, _, rfl, hRV, hOV, Out.good Hi5.out rfl⟩
def kx (p : Nat) (St : Bs) (op : Int) (f : Bs → PT) (s : Rs) (w : World) (en : Ending) (w' : World) : Prop :=
 ∃ (x : Nx) (k' : Nat) (s' : Rs), en = .returned (aB x.1 x.2.1 x.2.2) ∧ NodeAt w' (fun b => w.heap.size ≤ b ∧ b < w'.heap.size) x.1 x.2.1 x.2.2 ∧ RQ w' p St k' op s' ∧ Off p w w' ∧ Out f s (fun t => x.1 = t) s'
theorem RQ.boxX {w : World} {p : Nat} {S : Bs} {k : Nat} {op : Int} {s : Rs} (h : RQ w p S k op s) {b : Nat} (hb : p < b) (x : Nx) : RQ (aa w b x) p S k op s := me h (bO (Below.refl b w) (Nat.le_refl _) x) hb
def brT (r : Bs) : PT := match bf r with | .error e => .error e | .ok (s, r1) => .ok (s.T, r1)
def xS (x : Int) : Int := bits .xor .u64 IntKind.u64.max x
def W4.xTo (s : W4) (i : Nat) : W4 := ⟨if 0 < i then xS s.a else s.a, if 1 < i then xS s.b else s.b, if 2 < i then xS s.c else s.c, if 3 < i then xS s.d else s.d⟩
theorem uM (s : W4) : s.xTo 0 = s := by simp [W4.xTo]
theorem wS {s : W4} (h : Wok s) : s.xTo 4 = s.not := by
 simp only [W4.xTo, W4.not, xS]
 rw [fc h.a, fc h.b, fc h.c, fc h.d]
 simp
theorem cR (s : W4) (i : Nat) (hi : i < 4) (u : Int) (hu : u = xS (s.word i)) : (s.xTo i).put i u = s.xTo (i + 1) := by
 subst hu
 rcases (show i = 0 ∨ i = 1 ∨ i = 2 ∨ i = 3 by omega) with rfl | rfl | rfl | rfl <;> simp [W4.xTo, W4.put, W4.word]
theorem qa {S : W4} : bD S [] = .error 101 := rfl
theorem rO {neg : Bool} {r r0 : Bs} (h : bf r = match aU (r0.length + 1) w40 r0 with | .error e => .error e | .ok (s, r2) => .ok (if neg then s.not else s, r2)) :
 brT r = match aU (r0.length + 1) w40 r0 with | .error e => .error e | .ok (s, r2) => .ok ((if neg then s.not else s).T, r2) := by
 unfold brT
 rw [h]
 cases aU (r0.length + 1) w40 r0 with
 | error e => rfl
 | ok x => rfl
theorem nQ (w : World) (p : Nat) (St : Bs) (k : Nat) (op : Int) (r : Bs) (h : RQ w p St k op (.ok r)) :
 Calls Tryz.prog 137 #[.pointer (some ⟨p, 0, none⟩)] w fun en w' => kx p St op brT (.ok r) w en w' := by
 obtain ⟨neg, r0, htk, hl0, hbr⟩ := gY r
 have H := hid h; have Htk := hid htk; have Hbr := hid hbr
 have hp := h.lt
 clear h htk hbr
 go_enter Tryz.func137, Tryz.ntmps137
 go_upto_region 1 with fail
 generalize hW0 : w.alloc _ = W0
 have hB0 : Below w.heap.size w W0 := by subst hW0; exact nal
 have hN0 : bj W0 w.heap.size (ar (.mk 0 0 0 0 0 0 0 [], none, 0)).toArray := by subst hW0; exact bj.new w _
 clear hW0
 have ht := gJ W0 p St k op (.ok r) [94] (by simp) (H.out.later hB0)
 rw [Htk.out] at ht
 go_wp2_with fail
 refine ht.mono ?_
 rintro en w1 ⟨rfl, ⟨k1, h1⟩, hO1⟩
 have hN1 := Off.blk hO1 hN0 (by omega)
 have hO1 : Off p w w1 := (Off.of_below hB0).trans hO1
 have hz1 := hN1.lt
 try simp only at h1
 have H1 := hid h1; have HN1 := hid hN1; have HO1 := hid hO1
 clear ht h1 hN1 hO1 hN0 hB0 H
 go_upto_region 3 with fail
 generalize hW1 : w1.alloc _ = W1
 have hB1 : Below w1.heap.size w1 W1 := by subst hW1; exact nal
 have hS2 : ae W1 w1.heap.size w40 := by subst hW1; exact ae.new w1
 clear hW1
 have HRr := hid (H1.out.later hB1)
 have HNr := hid (HN1.out.keep (hB1.block _ HN1.out.lt))
 have HOr := hid (HO1.out.trans (Off.of_below (p := p) hB1))
 clear H1 HN1 HO1 hB1
 generalize w1.heap.size = b1 at *
 have HSr := hid hS2
 clear hS2
 go_wp2_with fail
 go_loopg [5] (r0.length + 1) (fun n f wr => ∃ (first : Bool) (S : W4) (kr : Nat) (sr : Rs), f = .bool first ∧ RQ wr p St kr op sr ∧ bj wr w.heap.size (ar (.mk 0 0 0 0 0 0 0 [], none, 0)).toArray ∧ ae wr b1 S ∧ Off p w wr ∧ ((∃ r', sr = .ok r' ∧ sK first n S r' (aU (r0.length + 1) w40 r0) ∧ Wok S) ∨ ∃ e, sr = .error e ∧ first = false ∧ brT r = .error e))
 case atStart => exact ⟨true, w40, k1, _, rfl, HRr.out, HNr.out, HSr.out, HOr.out, .inl ⟨r0, rfl, ⟨Nat.le_refl _, rfl⟩, mM⟩⟩
 case round =>
  clear HRr HNr HSr HOr
  obtain ⟨first, S, kr, sr, rfl, hR, hN, hS, hO, hcase⟩ := hrel
  have HRr := hid hR; have HNr := hid hN; have HSr := hid hS; have HOr := hid hO
  have c3 := hR.rdr.c3
  have hne := hR.ne
  clear hR hN hS hO
  rcases hcase with ⟨r', rfl, ⟨hk, hG⟩, hwok⟩ | ⟨e, rfl, rfl, hbe⟩
  · simp only [Rs.no] at c3
    clear hne
    cases first with
    | true =>
     have HG1 := hid (show aU gk S r' = aU (r0.length + 1) w40 r0 by simpa using hG)
     clear hG
     have Hd := hid (kC HRr.out)
     go_wp2_with fail
     refine Hd.out.mono ?_
     rintro en wd ⟨rfl, hR, hO⟩
     clear Hd
     have HNr := hid (Off.blk hO HNr.out (by omega))
     have HSr := hid (HSr.out.off hO (by omega))
     have HOr := hid (HOr.out.trans hO)
     have HRr := hid hR
     clear hO hR
     cases r' with
     | nil =>
      rw [show ev (.ok []) = true from rfl]
      have Hs := hid (show Out brT (.ok r) (fun x => (if neg then S.xTo 4 else S).T = x) (.error 101) from Out.bad (by rw [rO Hbr.out, ← HG1.out, eF (by omega) qa]))
      clear HG1 Hbr
      go_wp2_with fail
      refine (bS 101 (by omega) HRr.out).mono ?_
      rintro en we ⟨rfl, hR, hO⟩
      have HNr := hid (Off.blk hO HNr.out (by omega))
      have HSr := hid (HSr.out.off hO (by omega))
      have HOr := hid (HOr.out.trans hO)
      have HRr := hid hR
      clear hO hR
      generalize (Except.error 101 : Rs) = s5 at *
      cases neg with
      | false =>
       have Hs := hid (show Out brT (.ok r) (fun x => S.T = x) s5 from Hs.out)
       obtain ⟨f0, f1, f2, f3⟩ := HSr.out.at4
       simp only [Nat.zero_add] at f1 f2 f3
       obtain ⟨⟨r0, r1, r2, r3, r4, r5, r6, r7⟩, hz⟩ := HNr.out.cells8
       obtain ⟨z0, z1, z2, z3, z4, z5, z6, z7⟩ := cM hz
       have lr := HNr.out.lt
       clear hz
       go_wp2_with fail
       change bodyPost _ _ _ _ _ (aa we w.heap.size ((S.T, none, 0) : Nx))
       generalize hx : ((S.T, none, 0) : Nx) = x
       have Hx := hid hx
       clear hx
       have hfin := ac HNr.out x
       obtain ⟨⟨y0, y1, y2, y3, y4, y5, y6, y7⟩, _⟩ := hfin.cells8
       have hRS := HRr.out.boxX (b := w.heap.size) (by omega) x
       have hOff := Off.boxW HOr.out (Nat.le_refl _) x
       have hNod : NodeAt (aa we w.heap.size x) (fun b => w.heap.size ≤ b ∧ b < (aa we w.heap.size x).heap.size) x.1 x.2.1 x.2.2 := by rw [← Hx.out]; exact aA _ _ _ rfl
       have Hout := hid (show Out brT (.ok r) (fun t => x.1 = t) s5 by rw [← Hx.out]; exact Hs.out)
       generalize aa we w.heap.size x = WZ at *
       exact bodyPost_ret (v := aB x.1 x.2.1 x.2.2) (by simp [results, Tryz.results137, y0, y1, y2, y3, y4, y5, y6, y7, go_sem]) rfl ⟨x, kr, s5, rfl, hNod, hRS, hOff, Hout.out⟩
      | true =>
       have Hs := hid (show Out brT (.ok r) (fun x => (S.xTo 4).T = x) s5 from Hs.out)
       go_wp2_with fail
       go_loopg [6] 4 (fun k i wr => ∃ j : Nat, i = .int .i64 j ∧ j + k = 4 ∧ RQ wr p St kr op s5 ∧ bj wr w.heap.size (ar (.mk 0 0 0 0 0 0 0 [], none, 0)).toArray ∧ ae wr b1 (S.xTo j) ∧ Off p w wr)
       case atStart => exact ⟨0, rfl, rfl, HRr.out, HNr.out, by rw [uM]; exact HSr.out, HOr.out⟩
       case round =>
        obtain ⟨j, rfl, hj, h4, h5, h6, h7⟩ := hrel
        clear HRr HNr HSr HOr
        have HRr := hid h4; have HNr := hid h5; have HSr := hid h6; have HOr := hid h7
        have z0 := h6.froz 0; have z1 := h6.froz 1; have z2 := h6.froz 2; have z3 := h6.froz 3
        obtain ⟨f0, f1, f2, f3⟩ := h6.at4
        simp only [Nat.zero_add] at f1 f2 f3
        clear h4 h5 h6 h7
        rcases (show j = 0 ∨ j = 1 ∨ j = 2 ∨ j = 3 ∨ j = 4 by omega) with rfl | rfl | rfl | rfl | rfl
        · simp [W4.xTo] at f0
          go_wp2_with fail
          go_roundg (gk - 1)
          case measure => omega
          case rel => exact ⟨1, by go_num, by omega, HRr.out.put (by omega) 0 _, HNr.out.keep (Below.heap_setCell _ _ _ _ (by show w.heap.size ≠ b1; omega)), (by have h1 := HSr.out.put 0 (by omega) (bits .xor .u64 IntKind.u64.max S.a); rw [cR S 0 (by omega) (bits .xor .u64 IntKind.u64.max S.a) rfl] at h1; exact h1), HOr.out.box (by omega) _ _⟩
        · simp [W4.xTo] at f1
          go_wp2_with fail
          go_roundg (gk - 1)
          case measure => omega
          case rel => exact ⟨2, by go_num, by omega, HRr.out.put (by omega) 1 _, HNr.out.keep (Below.heap_setCell _ _ _ _ (by show w.heap.size ≠ b1; omega)), (by have h1 := HSr.out.put 1 (by omega) (bits .xor .u64 IntKind.u64.max S.b); rw [cR S 1 (by omega) (bits .xor .u64 IntKind.u64.max S.b) rfl] at h1; exact h1), HOr.out.box (by omega) _ _⟩
        · simp [W4.xTo] at f2
          go_wp2_with fail
          go_roundg (gk - 1)
          case measure => omega
          case rel => exact ⟨3, by go_num, by omega, HRr.out.put (by omega) 2 _, HNr.out.keep (Below.heap_setCell _ _ _ _ (by show w.heap.size ≠ b1; omega)), (by have h1 := HSr.out.put 2 (by omega) (bits .xor .u64 IntKind.u64.max S.c); rw [cR S 2 (by omega) (bits .xor .u64 IntKind.u64.max S.c) rfl] at h1; exact h1), HOr.out.box (by omega) _ _⟩
        · simp [W4.xTo] at f3
          go_wp2_with fail
          go_roundg (gk - 1)
          case measure => omega
          case rel => exact ⟨4, by go_num, by omega, HRr.out.put (by omega) 3 _, HNr.out.keep (Below.heap_setCell _ _ _ _ (by show w.heap.size ≠ b1; omega)), (by have h1 := HSr.out.put 3 (by omega) (bits .xor .u64 IntKind.u64.max S.d); rw [cR S 3 (by omega) (bits .xor .u64 IntKind.u64.max S.d) rfl] at h1; exact h1), HOr.out.box (by omega) _ _⟩
        · clear f0 f1 f2 f3 z0 z1 z2 z3
          generalize S.xTo 4 = SX at *
          obtain ⟨f0, f1, f2, f3⟩ := HSr.out.at4
          simp only [Nat.zero_add] at f1 f2 f3
          obtain ⟨⟨r0, r1, r2, r3, r4, r5, r6, r7⟩, hz⟩ := HNr.out.cells8
          obtain ⟨z0, z1, z2, z3, z4, z5, z6, z7⟩ := cM hz
          have lr := HNr.out.lt
          clear hz
          go_wp2_with fail
          change bodyPost _ _ _ _ _ (aa wr w.heap.size ((SX.T, none, 0) : Nx))
          generalize hx : ((SX.T, none, 0) : Nx) = x
          have Hx := hid hx
          clear hx
          have hfin := ac HNr.out x
          obtain ⟨⟨y0, y1, y2, y3, y4, y5, y6, y7⟩, _⟩ := hfin.cells8
          have hRS := HRr.out.boxX (b := w.heap.size) (by omega) x
          have hOff := Off.boxW HOr.out (Nat.le_refl _) x
          have hNod : NodeAt (aa wr w.heap.size x) (fun b => w.heap.size ≤ b ∧ b < (aa wr w.heap.size x).heap.size) x.1 x.2.1 x.2.2 := by rw [← Hx.out]; exact aA _ _ _ rfl
          have Hout := hid (show Out brT (.ok r) (fun t => x.1 = t) s5 by rw [← Hx.out]; exact Hs.out)
          generalize aa wr w.heap.size x = WZ at *
          exact bodyPost_ret (v := aB x.1 x.2.1 x.2.2) (by simp [results, Tryz.results137, y0, y1, y2, y3, y4, y5, y6, y7, go_sem]) rfl ⟨x, kr, s5, rfl, hNod, hRS, hOff, Hout.out⟩
     | cons c0 t0 =>
      rw [show ev (.ok (c0 :: t0)) = false from rfl]
      obtain ⟨f0, f1, f2, f3⟩ := HSr.out.at4
      simp only [Nat.zero_add] at f1 f2 f3
      go_wp2_with fail
      refine (nr wd p St kr op (c0 :: t0) S HRr.out).mono ?_
      rintro en we ⟨S', ke, se, rfl, hR, hO, ho⟩
      clear f0 f1 f2 f3
      have HNr := hid (Off.blk hO HNr.out (by omega))
      have HSr := hid (HSr.out.off hO (by omega))
      have HOr := hid (HOr.out.trans hO)
      have HRr := hid hR
      clear hO hR
      have Ho := hid ho
      clear ho
      obtain ⟨g0, g1, g2, g3⟩ := HSr.out.at4
      simp only [Nat.zero_add] at g1 g2 g3
      have y0 := HSr.out.froz 0; have y1 := HSr.out.froz 1; have y2 := HSr.out.froz 2; have y3 := HSr.out.froz 3
      go_wp2_with fail
      change Handed _ _ _ (setV we b1 S')
      have hA := HSr.out.setV S'
      have hN := HNr.out.keep (fM we b1 S' w.heap.size (by omega))
      have hRV := HRr.out.fillV (b := b1) (by omega) S'
      have hOV := Off.setV HOr.out (b := b1) (by omega) S'
      clear g0 g1 g2 g3 y0 y1 y2 y3
      generalize setV we b1 S' = W1 at *
      cases se with
      | error e =>
       have hbe := hid (show brT r = .error e by rw [rO Hbr.out, ← HG1.out, eF (by omega) (ff Ho.out)])
       go_roundg 0
       case measure => omega
       case rel => exact ⟨false, S', ke, _, rfl, hRV, hN, hA, hOV, .inr ⟨e, rfl, rfl, hbe.out⟩⟩
      | ok r2 =>
       obtain ⟨x, hit, rfl⟩ := eh Ho.out
       have hlt := jo hit
       have hwok2 := hid (jn hwok hit)
       have HG2 := hid (HG1.out.symm.trans (fP (by omega) hit))
       go_roundg (gk - 1)
       case measure => omega
       case rel => exact ⟨false, S', ke, _, rfl, hRV, hN, hA, hOV, .inl ⟨r2, rfl, ⟨by omega, HG2.out.symm⟩, hwok2.out⟩⟩
    | false =>
     have hG2 : (match aq [93] r' with | some r2 => Except.ok (S, r2) | none => aU gk S r') = aU (r0.length + 1) w40 r0 := by have h := hG; rw [if_neg (by simp)] at h; exact h
     clear hG
     cases ht : aq [93] r' with
     | none =>
      rw [ht] at hG2
      have HG1 := hid (show aU gk S r' = aU (r0.length + 1) w40 r0 from hG2)
      have Ht := hid ht
      clear hG2 ht
      go_wp2_with fail
      refine (bh [93] (by simp) Ht.out HRr.out).mono ?_
      rintro en wm ⟨rfl, ⟨kr, hR⟩, hO⟩
      clear c3
      have HNr := hid (Off.blk hO HNr.out (by omega))
      have HSr := hid (HSr.out.off hO (by omega))
      have HOr := hid (HOr.out.trans hO)
      have HRr := hid hR
      clear hO hR
      have Hd := hid (kC HRr.out)
      go_wp2_with fail
      refine Hd.out.mono ?_
      rintro en wd ⟨rfl, hR, hO⟩
      clear Hd
      have HNr := hid (Off.blk hO HNr.out (by omega))
      have HSr := hid (HSr.out.off hO (by omega))
      have HOr := hid (HOr.out.trans hO)
      have HRr := hid hR
      clear hO hR
      cases r' with
      | nil =>
       rw [show ev (.ok []) = true from rfl]
       have Hs := hid (show Out brT (.ok r) (fun x => (if neg then S.xTo 4 else S).T = x) (.error 101) from Out.bad (by rw [rO Hbr.out, ← HG1.out, eF (by omega) qa]))
       clear HG1 Hbr
       go_wp2_with fail
       refine (bS 101 (by omega) HRr.out).mono ?_
       rintro en we ⟨rfl, hR, hO⟩
       have HNr := hid (Off.blk hO HNr.out (by omega))
       have HSr := hid (HSr.out.off hO (by omega))
       have HOr := hid (HOr.out.trans hO)
       have HRr := hid hR
       clear hO hR
       generalize (Except.error 101 : Rs) = s5 at *
       cases neg with
       | false =>
        have Hs := hid (show Out brT (.ok r) (fun x => S.T = x) s5 from Hs.out)
        obtain ⟨f0, f1, f2, f3⟩ := HSr.out.at4
        simp only [Nat.zero_add] at f1 f2 f3
        obtain ⟨⟨r0, r1, r2, r3, r4, r5, r6, r7⟩, hz⟩ := HNr.out.cells8
        obtain ⟨z0, z1, z2, z3, z4, z5, z6, z7⟩ := cM hz
        have lr := HNr.out.lt
        clear hz
        go_wp2_with fail
        change bodyPost _ _ _ _ _ (aa we w.heap.size ((S.T, none, 0) : Nx))
        generalize hx : ((S.T, none, 0) : Nx) = x
        have Hx := hid hx
        clear hx
        have hfin := ac HNr.out x
        obtain ⟨⟨y0, y1, y2, y3, y4, y5, y6, y7⟩, _⟩ := hfin.cells8
        have hRS := HRr.out.boxX (b := w.heap.size) (by omega) x
        have hOff := Off.boxW HOr.out (Nat.le_refl _) x
        have hNod : NodeAt (aa we w.heap.size x) (fun b => w.heap.size ≤ b ∧ b < (aa we w.heap.size x).heap.size) x.1 x.2.1 x.2.2 := by rw [← Hx.out]; exact aA _ _ _ rfl
        have Hout := hid (show Out brT (.ok r) (fun t => x.1 = t) s5 by rw [← Hx.out]; exact Hs.out)
        generalize aa we w.heap.size x = WZ at *
        exact bodyPost_ret (v := aB x.1 x.2.1 x.2.2) (by simp [results, Tryz.results137, y0, y1, y2, y3, y4, y5, y6, y7, go_sem]) rfl ⟨x, kr, s5, rfl, hNod, hRS, hOff, Hout.out⟩
       | true =>
        have Hs := hid (show Out brT (.ok r) (fun x => (S.xTo 4).T = x) s5 from Hs.out)
        go_wp2_with fail
        go_loopg [6] 4 (fun k i wr => ∃ j : Nat, i = .int .i64 j ∧ j + k = 4 ∧ RQ wr p St kr op s5 ∧ bj wr w.heap.size (ar (.mk 0 0 0 0 0 0 0 [], none, 0)).toArray ∧ ae wr b1 (S.xTo j) ∧ Off p w wr)
        case atStart => exact ⟨0, rfl, rfl, HRr.out, HNr.out, by rw [uM]; exact HSr.out, HOr.out⟩
        case round =>
         obtain ⟨j, rfl, hj, h4, h5, h6, h7⟩ := hrel
         clear HRr HNr HSr HOr
         have HRr := hid h4; have HNr := hid h5; have HSr := hid h6; have HOr := hid h7
         have z0 := h6.froz 0; have z1 := h6.froz 1; have z2 := h6.froz 2; have z3 := h6.froz 3
         obtain ⟨f0, f1, f2, f3⟩ := h6.at4
         simp only [Nat.zero_add] at f1 f2 f3
         clear h4 h5 h6 h7
         rcases (show j = 0 ∨ j = 1 ∨ j = 2 ∨ j = 3 ∨ j = 4 by omega) with rfl | rfl | rfl | rfl | rfl
         · simp [W4.xTo] at f0
           go_wp2_with fail
           go_roundg (gk - 1)
           case measure => omega
           case rel => exact ⟨1, by go_num, by omega, HRr.out.put (by omega) 0 _, HNr.out.keep (Below.heap_setCell _ _ _ _ (by show w.heap.size ≠ b1; omega)), (by have h1 := HSr.out.put 0 (by omega) (bits .xor .u64 IntKind.u64.max S.a); rw [cR S 0 (by omega) (bits .xor .u64 IntKind.u64.max S.a) rfl] at h1; exact h1), HOr.out.box (by omega) _ _⟩
         · simp [W4.xTo] at f1
           go_wp2_with fail
           go_roundg (gk - 1)
           case measure => omega
           case rel => exact ⟨2, by go_num, by omega, HRr.out.put (by omega) 1 _, HNr.out.keep (Below.heap_setCell _ _ _ _ (by show w.heap.size ≠ b1; omega)), (by have h1 := HSr.out.put 1 (by omega) (bits .xor .u64 IntKind.u64.max S.b); rw [cR S 1 (by omega) (bits .xor .u64 IntKind.u64.max S.b) rfl] at h1; exact h1), HOr.out.box (by omega) _ _⟩
         · simp [W4.xTo] at f2
           go_wp2_with fail
           go_roundg (gk - 1)
           case measure => omega
           case rel => exact ⟨3, by go_num, by omega, HRr.out.put (by omega) 2 _, HNr.out.keep (Below.heap_setCell _ _ _ _ (by show w.heap.size ≠ b1; omega)), (by have h1 := HSr.out.put 2 (by omega) (bits .xor .u64 IntKind.u64.max S.c); rw [cR S 2 (by omega) (bits .xor .u64 IntKind.u64.max S.c) rfl] at h1; exact h1), HOr.out.box (by omega) _ _⟩
         · simp [W4.xTo] at f3
           go_wp2_with fail
           go_roundg (gk - 1)
           case measure => omega
           case rel => exact ⟨4, by go_num, by omega, HRr.out.put (by omega) 3 _, HNr.out.keep (Below.heap_setCell _ _ _ _ (by show w.heap.size ≠ b1; omega)), (by have h1 := HSr.out.put 3 (by omega) (bits .xor .u64 IntKind.u64.max S.d); rw [cR S 3 (by omega) (bits .xor .u64 IntKind.u64.max S.d) rfl] at h1; exact h1), HOr.out.box (by omega) _ _⟩
         · clear f0 f1 f2 f3 z0 z1 z2 z3
           generalize S.xTo 4 = SX at *
           obtain ⟨f0, f1, f2, f3⟩ := HSr.out.at4
           simp only [Nat.zero_add] at f1 f2 f3
           obtain ⟨⟨r0, r1, r2, r3, r4, r5, r6, r7⟩, hz⟩ := HNr.out.cells8
           obtain ⟨z0, z1, z2, z3, z4, z5, z6, z7⟩ := cM hz
           have lr := HNr.out.lt
           clear hz
           go_wp2_with fail
           change bodyPost _ _ _ _ _ (aa wr w.heap.size ((SX.T, none, 0) : Nx))
           generalize hx : ((SX.T, none, 0) : Nx) = x
           have Hx := hid hx
           clear hx
           have hfin := ac HNr.out x
           obtain ⟨⟨y0, y1, y2, y3, y4, y5, y6, y7⟩, _⟩ := hfin.cells8
           have hRS := HRr.out.boxX (b := w.heap.size) (by omega) x
           have hOff := Off.boxW HOr.out (Nat.le_refl _) x
           have hNod : NodeAt (aa wr w.heap.size x) (fun b => w.heap.size ≤ b ∧ b < (aa wr w.heap.size x).heap.size) x.1 x.2.1 x.2.2 := by rw [← Hx.out]; exact aA _ _ _ rfl
           have Hout := hid (show Out brT (.ok r) (fun t => x.1 = t) s5 by rw [← Hx.out]; exact Hs.out)
           generalize aa wr w.heap.size x = WZ at *
           exact bodyPost_ret (v := aB x.1 x.2.1 x.2.2) (by simp [results, Tryz.results137, y0, y1, y2, y3, y4, y5, y6, y7, go_sem]) rfl ⟨x, kr, s5, rfl, hNod, hRS, hOff, Hout.out⟩
      | cons c0 t0 =>
       rw [show ev (.ok (c0 :: t0)) = false from rfl]
       obtain ⟨f0, f1, f2, f3⟩ := HSr.out.at4
       simp only [Nat.zero_add] at f1 f2 f3
       go_wp2_with fail
       refine (nr wd p St kr op (c0 :: t0) S HRr.out).mono ?_
       rintro en we ⟨S', ke, se, rfl, hR, hO, ho⟩
       clear f0 f1 f2 f3
       have HNr := hid (Off.blk hO HNr.out (by omega))
       have HSr := hid (HSr.out.off hO (by omega))
       have HOr := hid (HOr.out.trans hO)
       have HRr := hid hR
       clear hO hR
       have Ho := hid ho
       clear ho
       obtain ⟨g0, g1, g2, g3⟩ := HSr.out.at4
       simp only [Nat.zero_add] at g1 g2 g3
       have y0 := HSr.out.froz 0; have y1 := HSr.out.froz 1; have y2 := HSr.out.froz 2; have y3 := HSr.out.froz 3
       go_wp2_with fail
       change Handed _ _ _ (setV we b1 S')
       have hA := HSr.out.setV S'
       have hN := HNr.out.keep (fM we b1 S' w.heap.size (by omega))
       have hRV := HRr.out.fillV (b := b1) (by omega) S'
       have hOV := Off.setV HOr.out (b := b1) (by omega) S'
       clear g0 g1 g2 g3 y0 y1 y2 y3
       generalize setV we b1 S' = W1 at *
       cases se with
       | error e =>
        have hbe := hid (show brT r = .error e by rw [rO Hbr.out, ← HG1.out, eF (by omega) (ff Ho.out)])
        go_roundg 0
        case measure => omega
        case rel => exact ⟨false, S', ke, _, rfl, hRV, hN, hA, hOV, .inr ⟨e, rfl, rfl, hbe.out⟩⟩
       | ok r2 =>
        obtain ⟨x, hit, rfl⟩ := eh Ho.out
        have hlt := jo hit
        have hwok2 := hid (jn hwok hit)
        have HG2 := hid (HG1.out.symm.trans (fP (by omega) hit))
        go_roundg (gk - 1)
        case measure => omega
        case rel => exact ⟨false, S', ke, _, rfl, hRV, hN, hA, hOV, .inl ⟨r2, rfl, ⟨by omega, HG2.out.symm⟩, hwok2.out⟩⟩
     | some r2 =>
      rw [ht] at hG2
      have Hs := hid (show Out brT (.ok r) (fun x => (if neg then S.xTo 4 else S).T = x) (.ok r2) from Out.good (x := (if neg then S.not else S).T) (by rw [rO Hbr.out, ← hG2]) (by cases neg with | false => rfl | true => simp [wS hwok]))
      have Ht := hid ht
      clear hG2 ht Hbr
      go_wp2_with fail
      refine (cE [93] (by simp) Ht.out HRr.out).mono ?_
      rintro en wm ⟨rfl, ⟨km, hR⟩, hO⟩
      clear c3 Ht
      have HNr := hid (Off.blk hO HNr.out (by omega))
      have HSr := hid (HSr.out.off hO (by omega))
      have HOr := hid (HOr.out.trans hO)
      have HRr := hid hR
      clear hO hR
      generalize (Except.ok r2 : Rs) = s5 at *
      cases neg with
      | false =>
       have Hs := hid (show Out brT (.ok r) (fun x => S.T = x) s5 from Hs.out)
       obtain ⟨f0, f1, f2, f3⟩ := HSr.out.at4
       simp only [Nat.zero_add] at f1 f2 f3
       obtain ⟨⟨r0, r1, r2, r3, r4, r5, r6, r7⟩, hz⟩ := HNr.out.cells8
       obtain ⟨z0, z1, z2, z3, z4, z5, z6, z7⟩ := cM hz
       have lr := HNr.out.lt
       clear hz
       go_wp2_with fail
       change bodyPost _ _ _ _ _ (aa wm w.heap.size ((S.T, none, 0) : Nx))
       generalize hx : ((S.T, none, 0) : Nx) = x
       have Hx := hid hx
       clear hx
       have hfin := ac HNr.out x
       obtain ⟨⟨y0, y1, y2, y3, y4, y5, y6, y7⟩, _⟩ := hfin.cells8
       have hRS := HRr.out.boxX (b := w.heap.size) (by omega) x
       have hOff := Off.boxW HOr.out (Nat.le_refl _) x
       have hNod : NodeAt (aa wm w.heap.size x) (fun b => w.heap.size ≤ b ∧ b < (aa wm w.heap.size x).heap.size) x.1 x.2.1 x.2.2 := by rw [← Hx.out]; exact aA _ _ _ rfl
       have Hout := hid (show Out brT (.ok r) (fun t => x.1 = t) s5 by rw [← Hx.out]; exact Hs.out)
       generalize aa wm w.heap.size x = WZ at *
       exact bodyPost_ret (v := aB x.1 x.2.1 x.2.2) (by simp [results, Tryz.results137, y0, y1, y2, y3, y4, y5, y6, y7, go_sem]) rfl ⟨x, km, s5, rfl, hNod, hRS, hOff, Hout.out⟩
      | true =>
       have Hs := hid (show Out brT (.ok r) (fun x => (S.xTo 4).T = x) s5 from Hs.out)
       go_wp2_with fail
       go_loopg [6] 4 (fun k i wr => ∃ j : Nat, i = .int .i64 j ∧ j + k = 4 ∧ RQ wr p St km op s5 ∧ bj wr w.heap.size (ar (.mk 0 0 0 0 0 0 0 [], none, 0)).toArray ∧ ae wr b1 (S.xTo j) ∧ Off p w wr)
       case atStart => exact ⟨0, rfl, rfl, HRr.out, HNr.out, by rw [uM]; exact HSr.out, HOr.out⟩
       case round =>
        obtain ⟨j, rfl, hj, h4, h5, h6, h7⟩ := hrel
        clear HRr HNr HSr HOr
        have HRr := hid h4; have HNr := hid h5; have HSr := hid h6; have HOr := hid h7
        have z0 := h6.froz 0; have z1 := h6.froz 1; have z2 := h6.froz 2; have z3 := h6.froz 3
        obtain ⟨f0, f1, f2, f3⟩ := h6.at4
        simp only [Nat.zero_add] at f1 f2 f3
        clear h4 h5 h6 h7
        rcases (show j = 0 ∨ j = 1 ∨ j = 2 ∨ j = 3 ∨ j = 4 by omega) with rfl | rfl | rfl | rfl | rfl
        · simp [W4.xTo] at f0
          go_wp2_with fail
          go_roundg (gk - 1)
          case measure => omega
          case rel => exact ⟨1, by go_num, by omega, HRr.out.put (by omega) 0 _, HNr.out.keep (Below.heap_setCell _ _ _ _ (by show w.heap.size ≠ b1; omega)), (by have h1 := HSr.out.put 0 (by omega) (bits .xor .u64 IntKind.u64.max S.a); rw [cR S 0 (by omega) (bits .xor .u64 IntKind.u64.max S.a) rfl] at h1; exact h1), HOr.out.box (by omega) _ _⟩
        · simp [W4.xTo] at f1
          go_wp2_with fail
          go_roundg (gk - 1)
          case measure => omega
          case rel => exact ⟨2, by go_num, by omega, HRr.out.put (by omega) 1 _, HNr.out.keep (Below.heap_setCell _ _ _ _ (by show w.heap.size ≠ b1; omega)), (by have h1 := HSr.out.put 1 (by omega) (bits .xor .u64 IntKind.u64.max S.b); rw [cR S 1 (by omega) (bits .xor .u64 IntKind.u64.max S.b) rfl] at h1; exact h1), HOr.out.box (by omega) _ _⟩
        · simp [W4.xTo] at f2
          go_wp2_with fail
          go_roundg (gk - 1)
          case measure => omega
          case rel => exact ⟨3, by go_num, by omega, HRr.out.put (by omega) 2 _, HNr.out.keep (Below.heap_setCell _ _ _ _ (by show w.heap.size ≠ b1; omega)), (by have h1 := HSr.out.put 2 (by omega) (bits .xor .u64 IntKind.u64.max S.c); rw [cR S 2 (by omega) (bits .xor .u64 IntKind.u64.max S.c) rfl] at h1; exact h1), HOr.out.box (by omega) _ _⟩
        · simp [W4.xTo] at f3
          go_wp2_with fail
          go_roundg (gk - 1)
          case measure => omega
          case rel => exact ⟨4, by go_num, by omega, HRr.out.put (by omega) 3 _, HNr.out.keep (Below.heap_setCell _ _ _ _ (by show w.heap.size ≠ b1; omega)), (by have h1 := HSr.out.put 3 (by omega) (bits .xor .u64 IntKind.u64.max S.d); rw [cR S 3 (by omega) (bits .xor .u64 IntKind.u64.max S.d) rfl] at h1; exact h1), HOr.out.box (by omega) _ _⟩
        · clear f0 f1 f2 f3 z0 z1 z2 z3
          generalize S.xTo 4 = SX at *
          obtain ⟨f0, f1, f2, f3⟩ := HSr.out.at4
          simp only [Nat.zero_add] at f1 f2 f3
          obtain ⟨⟨r0, r1, r2, r3, r4, r5, r6, r7⟩, hz⟩ := HNr.out.cells8
          obtain ⟨z0, z1, z2, z3, z4, z5, z6, z7⟩ := cM hz
          have lr := HNr.out.lt
          clear hz
          go_wp2_with fail
          change bodyPost _ _ _ _ _ (aa wr w.heap.size ((SX.T, none, 0) : Nx))
          generalize hx : ((SX.T, none, 0) : Nx) = x
          have Hx := hid hx
          clear hx
          have hfin := ac HNr.out x
          obtain ⟨⟨y0, y1, y2, y3, y4, y5, y6, y7⟩, _⟩ := hfin.cells8
          have hRS := HRr.out.boxX (b := w.heap.size) (by omega) x
          have hOff := Off.boxW HOr.out (Nat.le_refl _) x
          have hNod : NodeAt (aa wr w.heap.size x) (fun b => w.heap.size ≤ b ∧ b < (aa wr w.heap.size x).heap.size) x.1 x.2.1 x.2.2 := by rw [← Hx.out]; exact aA _ _ _ rfl
          have Hout := hid (show Out brT (.ok r) (fun t => x.1 = t) s5 by rw [← Hx.out]; exact Hs.out)
          generalize aa wr w.heap.size x = WZ at *
          exact bodyPost_ret (v := aB x.1 x.2.1 x.2.2) (by simp [results, Tryz.results137, y0, y1, y2, y3, y4, y5, y6, y7, go_sem]) rfl ⟨x, km, s5, rfl, hNod, hRS, hOff, Hout.out⟩
  · simp only [Rs.no] at c3
    have hne0 := hne e rfl
    have hb0 : (e == 0) = false := by rw [beq_eq_false_iff_ne]; exact hne0
    have Hs := hid (show Out brT (.ok r) (fun x => (if neg then S.xTo 4 else S).T = x) (.error e) from Out.bad hbe)
    clear hbe hne hne0
    generalize (Except.error e : Rs) = s5 at *
    cases neg with
    | false =>
     have Hs := hid (show Out brT (.ok r) (fun x => S.T = x) s5 from Hs.out)
     obtain ⟨f0, f1, f2, f3⟩ := HSr.out.at4
     simp only [Nat.zero_add] at f1 f2 f3
     obtain ⟨⟨r0, r1, r2, r3, r4, r5, r6, r7⟩, hz⟩ := HNr.out.cells8
     obtain ⟨z0, z1, z2, z3, z4, z5, z6, z7⟩ := cM hz
     have lr := HNr.out.lt
     clear hz
     go_wp2_with fail
     change bodyPost _ _ _ _ _ (aa wr w.heap.size ((S.T, none, 0) : Nx))
     generalize hx : ((S.T, none, 0) : Nx) = x
     have Hx := hid hx
     clear hx
     have hfin := ac HNr.out x
     obtain ⟨⟨y0, y1, y2, y3, y4, y5, y6, y7⟩, _⟩ := hfin.cells8
     have hRS := HRr.out.boxX (b := w.heap.size) (by omega) x
     have hOff := Off.boxW HOr.out (Nat.le_refl _) x
     have hNod : NodeAt (aa wr w.heap.size x) (fun b => w.heap.size ≤ b ∧ b < (aa wr w.heap.size x).heap.size) x.1 x.2.1 x.2.2 := by rw [← Hx.out]; exact aA _ _ _ rfl
     have Hout := hid (show Out brT (.ok r) (fun t => x.1 = t) s5 by rw [← Hx.out]; exact Hs.out)
     generalize aa wr w.heap.size x = WZ at *
     exact bodyPost_ret (v := aB x.1 x.2.1 x.2.2) (by simp [results, Tryz.results137, y0, y1, y2, y3, y4, y5, y6, y7, go_sem]) rfl ⟨x, kr, s5, rfl, hNod, hRS, hOff, Hout.out⟩
    | true =>
     have Hs := hid (show Out brT (.ok r) (fun x => (S.xTo 4).T = x) s5 from Hs.out)
     go_wp2_with fail
     go_loopg [6] 4 (fun k i wr => ∃ j : Nat, i = .int .i64 j ∧ j + k = 4 ∧ RQ wr p St kr op s5 ∧ bj wr w.heap.size (ar (.mk 0 0 0 0 0 0 0 [], none, 0)).toArray ∧ ae wr b1 (S.xTo j) ∧ Off p w wr)
     case atStart => exact ⟨0, rfl, rfl, HRr.out, HNr.out, by rw [uM]; exact HSr.out, HOr.out⟩
     case round =>
      obtain ⟨j, rfl, hj, h4, h5, h6, h7⟩ := hrel
      clear HRr HNr HSr HOr
      have HRr := hid h4; have HNr := hid h5; have HSr := hid h6; have HOr := hid h7
      have z0 := h6.froz 0; have z1 := h6.froz 1; have z2 := h6.froz 2; have z3 := h6.froz 3
      obtain ⟨f0, f1, f2, f3⟩ := h6.at4
      simp only [Nat.zero_add] at f1 f2 f3
      clear h4 h5 h6 h7
      rcases (show j = 0 ∨ j = 1 ∨ j = 2 ∨ j = 3 ∨ j = 4 by omega) with rfl | rfl | rfl | rfl | rfl
      · simp [W4.xTo] at f0
        go_wp2_with fail
        go_roundg (gk - 1)
        case measure => omega
        case rel => exact ⟨1, by go_num, by omega, HRr.out.put (by omega) 0 _, HNr.out.keep (Below.heap_setCell _ _ _ _ (by show w.heap.size ≠ b1; omega)), (by have h1 := HSr.out.put 0 (by omega) (bits .xor .u64 IntKind.u64.max S.a); rw [cR S 0 (by omega) (bits .xor .u64 IntKind.u64.max S.a) rfl] at h1; exact h1), HOr.out.box (by omega) _ _⟩
      · simp [W4.xTo] at f1
        go_wp2_with fail
        go_roundg (gk - 1)
        case measure => omega
        case rel => exact ⟨2, by go_num, by omega, HRr.out.put (by omega) 1 _, HNr.out.keep (Below.heap_setCell _ _ _ _ (by show w.heap.size ≠ b1; omega)), (by have h1 := HSr.out.put 1 (by omega) (bits .xor .u64 IntKind.u64.max S.b); rw [cR S 1 (by omega) (bits .xor .u64 IntKind.u64.max S.b) rfl] at h1; exact h1), HOr.out.box (by omega) _ _⟩
      · simp [W4.xTo] at f2
        go_wp2_with fail
        go_roundg (gk - 1)
        case measure => omega
        case rel => exact ⟨3, by go_num, by omega, HRr.out.put (by omega) 2 _, HNr.out.keep (Below.heap_setCell _ _ _ _ (by show w.heap.size ≠ b1; omega)), (by have h1 := HSr.out.put 2 (by omega) (bits .xor .u64 IntKind.u64.max S.c); rw [cR S 2 (by omega) (bits .xor .u64 IntKind.u64.max S.c) rfl] at h1; exact h1), HOr.out.box (by omega) _ _⟩
      · simp [W4.xTo] at f3
        go_wp2_with fail
        go_roundg (gk - 1)
        case measure => omega
        case rel => exact ⟨4, by go_num, by omega, HRr.out.put (by omega) 3 _, HNr.out.keep (Below.heap_setCell _ _ _ _ (by show w.heap.size ≠ b1; omega)), (by have h1 := HSr.out.put 3 (by omega) (bits .xor .u64 IntKind.u64.max S.d); rw [cR S 3 (by omega) (bits .xor .u64 IntKind.u64.max S.d) rfl] at h1; exact h1), HOr.out.box (by omega) _ _⟩
      · clear f0 f1 f2 f3 z0 z1 z2 z3
        generalize S.xTo 4 = SX at *
        obtain ⟨f0, f1, f2, f3⟩ := HSr.out.at4
        simp only [Nat.zero_add] at f1 f2 f3
        obtain ⟨⟨r0, r1, r2, r3, r4, r5, r6, r7⟩, hz⟩ := HNr.out.cells8
        obtain ⟨z0, z1, z2, z3, z4, z5, z6, z7⟩ := cM hz
        have lr := HNr.out.lt
        clear hz
        go_wp2_with fail
        change bodyPost _ _ _ _ _ (aa wr w.heap.size ((SX.T, none, 0) : Nx))
        generalize hx : ((SX.T, none, 0) : Nx) = x
        have Hx := hid hx
        clear hx
        have hfin := ac HNr.out x
        obtain ⟨⟨y0, y1, y2, y3, y4, y5, y6, y7⟩, _⟩ := hfin.cells8
        have hRS := HRr.out.boxX (b := w.heap.size) (by omega) x
        have hOff := Off.boxW HOr.out (Nat.le_refl _) x
        have hNod : NodeAt (aa wr w.heap.size x) (fun b => w.heap.size ≤ b ∧ b < (aa wr w.heap.size x).heap.size) x.1 x.2.1 x.2.2 := by rw [← Hx.out]; exact aA _ _ _ rfl
        have Hout := hid (show Out brT (.ok r) (fun t => x.1 = t) s5 by rw [← Hx.out]; exact Hs.out)
        generalize aa wr w.heap.size x = WZ at *
        exact bodyPost_ret (v := aB x.1 x.2.1 x.2.2) (by simp [results, Tryz.results137, y0, y1, y2, y3, y4, y5, y6, y7, go_sem]) rfl ⟨x, kr, s5, rfl, hNod, hRS, hOff, Hout.out⟩
theorem fF (w : World) (c : Nat) (hc : c < 256) :
 Calls Tryz.prog 138 #[.int .u8 (c : Int)] w fun en w' => en = .returned (aB (w40.add c).T none 0) ∧ Below w.heap.size w w' := by
 go_enter Tryz.func138, Tryz.ntmps138
 go_upto_region 1 with fail
 generalize hW0 : w.alloc _ = W0
 have hB0 : Below w.heap.size w W0 := by subst hW0; exact nal
 have hN0 : bj W0 w.heap.size (ar (.mk 0 0 0 0 0 0 0 [], none, 0)).toArray := by subst hW0; exact bj.new w _
 clear hW0
 go_wp2_with fail
 refine (eq W0 w40 c hc).mono ?_
 rintro en w1 ⟨rfl, hb⟩
 have hN1 := hN0.keep (hb.block _ hN0.lt)
 have hB1 := hB0.step hb
 have HN1 := hid hN1; have HB1 := hid hB1
 obtain ⟨⟨r0, r1, r2, r3, r4, r5, r6, r7⟩, hz⟩ := hN1.cells8
 obtain ⟨z0, z1, z2, z3, z4, z5, z6, z7⟩ := cM hz
 have lr := hN1.lt
 clear hz hN0 hB0 hb hN1 hB1
 generalize hT : w40.add c = T at *
 have HT := hid hT
 clear hT
 go_wp2_with fail
 change bodyPost _ _ _ _ _ (aa w1 w.heap.size ((T.T, none, 0) : Nx))
 generalize hx : ((T.T, none, 0) : Nx) = x
 have Hx := hid hx
 clear hx
 have hfin := ac HN1.out x
 obtain ⟨⟨y0, y1, y2, y3, y4, y5, y6, y7⟩, _⟩ := hfin.cells8
 have hBB := bO HB1.out (Nat.le_refl _) x
 have HE := hid (show aB x.1 x.2.1 x.2.2 = aB T.T none 0 by rw [← Hx.out])
 generalize aa w1 w.heap.size x = WZ at *
 exact bodyPost_ret (v := aB x.1 x.2.1 x.2.2) (by simp [results, Tryz.results138, y0, y1, y2, y3, y4, y5, y6, y7, go_sem]) rfl ⟨by rw [HE.out, HT.out], hBB⟩
theorem kq {c : UInt8} {k : Nat} (hk : k < 256) (h : c = UInt8.ofNat k) : ((c.toNat : Int) == (k : Int)) = true := by
 subst h
 simp [Nat.mod_eq_of_lt hk]
theorem tB (w : World) (p : Nat) (St : Bs) (k : Nat) (op : Int) (c : UInt8) (t : Bs) (grp : Bs → PT) (h : RQ w p St k op (.ok (c :: t)))
 (hG : ∀ (w : World) (k : Nat) (r : Bs), RQ w p St k op (.ok r) → Calls Tryz.prog 135 #[.pointer (some ⟨p, 0, none⟩)] w fun en w' => kx p St op grp (.ok r) w en w') :
 Calls Tryz.prog 120 #[.pointer (some ⟨p, 0, none⟩)] w fun en w' => kx p St op (aN grp) (.ok (c :: t)) w en w' := by
 have hp := h.lt
 have H := hid h; have HG := hid hG
 have hkb : k ≤ 1024 := Nat.le_trans h.rdr.le h.rdr.top
 have hat := h.at_
 have hkS := hat.1
 have hix := hat.2
 have hkI : (k : Int) < (St.length : Int) := by omega
 have sS := dn St
 have hc := c.toNat_lt
 clear h hG hat
 go_enter Tryz.func120, Tryz.ntmps120
 go_upto_region 1 with fail
 generalize hW0 : w.alloc _ = W0
 have hB0 : Below w.heap.size w W0 := by subst hW0; exact nal
 have hN0 : bj W0 w.heap.size (ar (.mk 0 0 0 0 0 0 0 [], none, 0)).toArray := by subst hW0; exact bj.new w _
 clear hW0
 have h0 := H.out.later hB0
 have c0 := h0.rdr.c0
 have c1 := h0.rdr.c1
 have HRr := hid h0; have HNr := hid hN0; have HOr := hid (Off.of_below (p := p) hB0)
 clear H h0 hN0 hB0
 go_quiet (fail)
 have hb := pv W0 nq
 have hR := HRr.out.later hb
 have hO := Off.of_below (p := p) hb
 have hN := HNr.out.keep (hb.block _ HNr.out.lt)
 generalize W0.drewN nq = W1 at *
 have HRr := hid hR; have HNr := hid hN; have HOr := hid (HOr.out.trans hO)
 clear hb hN hO hR c0 c1
 have c1 := HRr.out.rdr.c1
 have y1 := HRr.out.rdr.z 1
 go_upto_region 3 with fail
 have hbx : ∀ hh, (bs St)[k]'hh = c := fun hh => by rw [← hix hkS]; rfl
 rw [hbx]
 have hR := HRr.out.step 1 (by simp)
 rw [show ((1 : Nat) : Int) = 1 from rfl, show (c :: t).drop 1 = t from rfl] at hR
 have hO := (Off.refl p W1).set 1 (.int .i64 ((k : Int) + 1))
 generalize W1.setCell _ _ = W2 at *
 clear c1 y1 hbx hix
 have HNr := hid (Off.blk hO HNr.out (by omega))
 have HOr := hid (HOr.out.trans hO)
 have HRr := hid hR
 clear hO hR
 have hkS : k + 1 ≤ St.length := hkS
 have hlr := HNr.out.lt
 by_cases d40 : c = 40
 · have e40 := kq (k := 40) (by omega) d40
   have HA := hid (show aN grp (c :: t) = grp t by subst d40; simp [aN])
   clear d40
   go_wp2_with fail
   refine (HG.out W2 (k + 1) t HRr.out).mono ?_
   rintro en W3 ⟨x, k3, s3, rfl, hx, hR, hO, ho⟩
   have Ho := hid (show Out (aN grp) (.ok (c :: t)) (fun t => x.1 = t) s3 by simp only [Out, HA.out] at ho ⊢; exact ho)
   have HX := hid hx
   clear ho hx
   have HNr := hid (Off.blk hO HNr.out (by omega))
   have HOr := hid (HOr.out.trans hO)
   have HRr := hid hR
   clear hO hR
   obtain ⟨⟨r0, r1, r2, r3, r4, r5, r6, r7⟩, hz⟩ := HNr.out.cells8
   obtain ⟨z0, z1, z2, z3, z4, z5, z6, z7⟩ := cM hz
   have lr := HNr.out.lt
   clear hz
   go_wp2_with fail
   change bodyPost _ _ _ _ _ (aa W3 w.heap.size x)
   have hfin := ac HNr.out x
   obtain ⟨⟨y0, y1, y2, y3, y4, y5, y6, y7⟩, _⟩ := hfin.cells8
   have hRS := HRr.out.boxX (b := w.heap.size) (by omega) x
   have hOff := Off.boxW HOr.out (Nat.le_refl _) x
   have hNod : NodeAt (aa W3 w.heap.size x) (fun b => w.heap.size ≤ b ∧ b < (aa W3 w.heap.size x).heap.size) x.1 x.2.1 x.2.2 := HX.out.mono fun k (hk : W2.heap.size ≤ k ∧ k < W3.heap.size) => ⟨⟨by omega, by rw [ai]; exact hk.2⟩, fun o => World.cell?_of_block (w := W3) (a := ⟨k, o, none⟩) (af _ _ _ _ (show k ≠ w.heap.size by omega))⟩
   generalize aa W3 w.heap.size x = WZ at *
   exact bodyPost_ret (v := aB x.1 x.2.1 x.2.2) (by simp [results, Tryz.results120, y0, y1, y2, y3, y4, y5, y6, y7, go_sem]) rfl ⟨x, k3, s3, rfl, hNod, hRS, hOff, Ho.out⟩
 have n40 := em (k := 40) (by omega) d40
 by_cases d46 : c = 46
 · have e46 := kq (k := 46) (by omega) d46
   have HA := hid (show aN grp (c :: t) = .ok ((w40.span 0 256).T, t) by subst d46; simp [aN])
   clear d46
   go_wp2_with fail
   refine (vk W2).mono ?_
   rintro en wo ⟨rfl, hb⟩
   have HNr := hid (HNr.out.keep (hb.block _ HNr.out.lt))
   have HOr := hid (HOr.out.trans (Off.of_below (p := p) hb))
   have HRr := hid (HRr.out.later hb)
   clear hb
   generalize w40.span 0 256 = TA at *
   obtain ⟨⟨r0, r1, r2, r3, r4, r5, r6, r7⟩, hz⟩ := HNr.out.cells8
   obtain ⟨z0, z1, z2, z3, z4, z5, z6, z7⟩ := cM hz
   have lr := HNr.out.lt
   clear hz
   go_wp2_with fail
   change bodyPost _ _ _ _ _ (aa wo w.heap.size ((TA.T, none, 0) : Nx))
   generalize hx : ((TA.T, none, 0) : Nx) = x
   have Hx := hid hx
   clear hx
   have hfin := ac HNr.out x
   obtain ⟨⟨y0, y1, y2, y3, y4, y5, y6, y7⟩, _⟩ := hfin.cells8
   have hRS := HRr.out.boxX (b := w.heap.size) (by omega) x
   have hOff := Off.boxW HOr.out (Nat.le_refl _) x
   have hNod : NodeAt (aa wo w.heap.size x) (fun b => w.heap.size ≤ b ∧ b < (aa wo w.heap.size x).heap.size) x.1 x.2.1 x.2.2 := by rw [← Hx.out]; exact aA _ _ _ rfl
   have Hout := hid (show Out (aN grp) (.ok (c :: t)) (fun t => x.1 = t) (.ok t) by rw [← Hx.out]; exact Out.good HA.out rfl)
   generalize aa wo w.heap.size x = WZ at *
   exact bodyPost_ret (v := aB x.1 x.2.1 x.2.2) (by simp [results, Tryz.results120, y0, y1, y2, y3, y4, y5, y6, y7, go_sem]) rfl ⟨x, k + 1, _, rfl, hNod, hRS, hOff, Hout.out⟩
 have n46 := em (k := 46) (by omega) d46
 by_cases d94 : c = 94
 · have e94 := kq (k := 94) (by omega) d94
   have HA := hid (show aN grp (c :: t) = .ok (.mk 2 0 0 0 0 0 0 [], t) by subst d94; simp [aN])
   clear d94
   obtain ⟨⟨r0, r1, r2, r3, r4, r5, r6, r7⟩, hz⟩ := HNr.out.cells8
   obtain ⟨z0, z1, z2, z3, z4, z5, z6, z7⟩ := cM hz
   have lr := HNr.out.lt
   clear hz
   go_wp2_with fail
   change bodyPost _ _ _ _ _ (aa W2 w.heap.size ((.mk 2 0 0 0 0 0 0 [], none, 0) : Nx))
   generalize hx : ((.mk 2 0 0 0 0 0 0 [], none, 0) : Nx) = x
   have Hx := hid hx
   clear hx
   have hfin := ac HNr.out x
   obtain ⟨⟨y0, y1, y2, y3, y4, y5, y6, y7⟩, _⟩ := hfin.cells8
   have hRS := HRr.out.boxX (b := w.heap.size) (by omega) x
   have hOff := Off.boxW HOr.out (Nat.le_refl _) x
   have hNod : NodeAt (aa W2 w.heap.size x) (fun b => w.heap.size ≤ b ∧ b < (aa W2 w.heap.size x).heap.size) x.1 x.2.1 x.2.2 := by rw [← Hx.out]; exact aA _ _ _ rfl
   have Hout := hid (show Out (aN grp) (.ok (c :: t)) (fun t => x.1 = t) (.ok t) by rw [← Hx.out]; exact Out.good HA.out rfl)
   generalize aa W2 w.heap.size x = WZ at *
   exact bodyPost_ret (v := aB x.1 x.2.1 x.2.2) (by simp [results, Tryz.results120, y0, y1, y2, y3, y4, y5, y6, y7, go_sem]) rfl ⟨x, k + 1, _, rfl, hNod, hRS, hOff, Hout.out⟩
 have n94 := em (k := 94) (by omega) d94
 by_cases d36 : c = 36
 · have e36 := kq (k := 36) (by omega) d36
   have HA := hid (show aN grp (c :: t) = .ok (.mk 3 0 0 0 0 0 0 [], t) by subst d36; simp [aN])
   clear d36
   obtain ⟨⟨r0, r1, r2, r3, r4, r5, r6, r7⟩, hz⟩ := HNr.out.cells8
   obtain ⟨z0, z1, z2, z3, z4, z5, z6, z7⟩ := cM hz
   have lr := HNr.out.lt
   clear hz
   go_wp2_with fail
   change bodyPost _ _ _ _ _ (aa W2 w.heap.size ((.mk 3 0 0 0 0 0 0 [], none, 0) : Nx))
   generalize hx : ((.mk 3 0 0 0 0 0 0 [], none, 0) : Nx) = x
   have Hx := hid hx
   clear hx
   have hfin := ac HNr.out x
   obtain ⟨⟨y0, y1, y2, y3, y4, y5, y6, y7⟩, _⟩ := hfin.cells8
   have hRS := HRr.out.boxX (b := w.heap.size) (by omega) x
   have hOff := Off.boxW HOr.out (Nat.le_refl _) x
   have hNod : NodeAt (aa W2 w.heap.size x) (fun b => w.heap.size ≤ b ∧ b < (aa W2 w.heap.size x).heap.size) x.1 x.2.1 x.2.2 := by rw [← Hx.out]; exact aA _ _ _ rfl
   have Hout := hid (show Out (aN grp) (.ok (c :: t)) (fun t => x.1 = t) (.ok t) by rw [← Hx.out]; exact Out.good HA.out rfl)
   generalize aa W2 w.heap.size x = WZ at *
   exact bodyPost_ret (v := aB x.1 x.2.1 x.2.2) (by simp [results, Tryz.results120, y0, y1, y2, y3, y4, y5, y6, y7, go_sem]) rfl ⟨x, k + 1, _, rfl, hNod, hRS, hOff, Hout.out⟩
 have n36 := em (k := 36) (by omega) d36
 by_cases d91 : c = 91
 · have e91 := kq (k := 91) (by omega) d91
   have HA := hid (show aN grp (c :: t) = brT t by subst d91; simp [aN, brT]; rfl)
   clear d91
   go_wp2_with fail
   refine (nQ W2 p St (k + 1) op t HRr.out).mono ?_
   rintro en W3 ⟨x, k3, s3, rfl, hx, hR, hO, ho⟩
   have Ho := hid (show Out (aN grp) (.ok (c :: t)) (fun t => x.1 = t) s3 by simp only [Out, HA.out] at ho ⊢; exact ho)
   have HX := hid hx
   clear ho hx
   have HNr := hid (Off.blk hO HNr.out (by omega))
   have HOr := hid (HOr.out.trans hO)
   have HRr := hid hR
   clear hO hR
   obtain ⟨⟨r0, r1, r2, r3, r4, r5, r6, r7⟩, hz⟩ := HNr.out.cells8
   obtain ⟨z0, z1, z2, z3, z4, z5, z6, z7⟩ := cM hz
   have lr := HNr.out.lt
   clear hz
   go_wp2_with fail
   change bodyPost _ _ _ _ _ (aa W3 w.heap.size x)
   have hfin := ac HNr.out x
   obtain ⟨⟨y0, y1, y2, y3, y4, y5, y6, y7⟩, _⟩ := hfin.cells8
   have hRS := HRr.out.boxX (b := w.heap.size) (by omega) x
   have hOff := Off.boxW HOr.out (Nat.le_refl _) x
   have hNod : NodeAt (aa W3 w.heap.size x) (fun b => w.heap.size ≤ b ∧ b < (aa W3 w.heap.size x).heap.size) x.1 x.2.1 x.2.2 := HX.out.mono fun k (hk : W2.heap.size ≤ k ∧ k < W3.heap.size) => ⟨⟨by omega, by rw [ai]; exact hk.2⟩, fun o => World.cell?_of_block (w := W3) (a := ⟨k, o, none⟩) (af _ _ _ _ (show k ≠ w.heap.size by omega))⟩
   generalize aa W3 w.heap.size x = WZ at *
   exact bodyPost_ret (v := aB x.1 x.2.1 x.2.2) (by simp [results, Tryz.results120, y0, y1, y2, y3, y4, y5, y6, y7, go_sem]) rfl ⟨x, k3, s3, rfl, hNod, hRS, hOff, Ho.out⟩
 have n91 := em (k := 91) (by omega) d91
 by_cases d42 : c = 42
 · have e42 := kq (k := 42) (by omega) d42
   have HA := hid (show aN grp (c :: t) = .error 104 by subst d42; simp [aN])
   clear d42
   go_wp2_with fail
   refine (bS 104 (by omega) HRr.out).mono ?_
   rintro en W3 ⟨rfl, hR, hO⟩
   have HNr := hid (Off.blk hO HNr.out (by omega))
   have HOr := hid (HOr.out.trans hO)
   have HRr := hid hR
   clear hO hR
   go_wp2_with fail
   refine (fF W3 c.toNat hc).mono ?_
   rintro en wo ⟨rfl, hb⟩
   have HNr := hid (HNr.out.keep (hb.block _ HNr.out.lt))
   have HOr := hid (HOr.out.trans (Off.of_below (p := p) hb))
   have HRr := hid (HRr.out.later hb)
   clear hb
   have HO2 := hid (show Out (aN grp) (.ok (c :: t)) (fun t => (w40.add c.toNat).T = t) (.error 104) from Out.bad HA.out)
   generalize w40.add c.toNat = TA at *
   obtain ⟨⟨r0, r1, r2, r3, r4, r5, r6, r7⟩, hz⟩ := HNr.out.cells8
   obtain ⟨z0, z1, z2, z3, z4, z5, z6, z7⟩ := cM hz
   have lr := HNr.out.lt
   clear hz
   go_wp2_with fail
   change bodyPost _ _ _ _ _ (aa wo w.heap.size ((TA.T, none, 0) : Nx))
   generalize hx : ((TA.T, none, 0) : Nx) = x
   have Hx := hid hx
   clear hx
   have hfin := ac HNr.out x
   obtain ⟨⟨y0, y1, y2, y3, y4, y5, y6, y7⟩, _⟩ := hfin.cells8
   have hRS := HRr.out.boxX (b := w.heap.size) (by omega) x
   have hOff := Off.boxW HOr.out (Nat.le_refl _) x
   have hNod : NodeAt (aa wo w.heap.size x) (fun b => w.heap.size ≤ b ∧ b < (aa wo w.heap.size x).heap.size) x.1 x.2.1 x.2.2 := by rw [← Hx.out]; exact aA _ _ _ rfl
   have Hout := hid (show Out (aN grp) (.ok (c :: t)) (fun t => x.1 = t) (.error 104) by rw [← Hx.out]; exact HO2.out)
   generalize aa wo w.heap.size x = WZ at *
   exact bodyPost_ret (v := aB x.1 x.2.1 x.2.2) (by simp [results, Tryz.results120, y0, y1, y2, y3, y4, y5, y6, y7, go_sem]) rfl ⟨x, k + 1, .error 104, rfl, hNod, hRS, hOff, Hout.out⟩
 have n42 := em (k := 42) (by omega) d42
 by_cases d43 : c = 43
 · have e43 := kq (k := 43) (by omega) d43
   have HA := hid (show aN grp (c :: t) = .error 104 by subst d43; simp [aN])
   clear d43
   go_wp2_with fail
   refine (bS 104 (by omega) HRr.out).mono ?_
   rintro en W3 ⟨rfl, hR, hO⟩
   have HNr := hid (Off.blk hO HNr.out (by omega))
   have HOr := hid (HOr.out.trans hO)
   have HRr := hid hR
   clear hO hR
   go_wp2_with fail
   refine (fF W3 c.toNat hc).mono ?_
   rintro en wo ⟨rfl, hb⟩
   have HNr := hid (HNr.out.keep (hb.block _ HNr.out.lt))
   have HOr := hid (HOr.out.trans (Off.of_below (p := p) hb))
   have HRr := hid (HRr.out.later hb)
   clear hb
   have HO2 := hid (show Out (aN grp) (.ok (c :: t)) (fun t => (w40.add c.toNat).T = t) (.error 104) from Out.bad HA.out)
   generalize w40.add c.toNat = TA at *
   obtain ⟨⟨r0, r1, r2, r3, r4, r5, r6, r7⟩, hz⟩ := HNr.out.cells8
   obtain ⟨z0, z1, z2, z3, z4, z5, z6, z7⟩ := cM hz
   have lr := HNr.out.lt
   clear hz
   go_wp2_with fail
   change bodyPost _ _ _ _ _ (aa wo w.heap.size ((TA.T, none, 0) : Nx))
   generalize hx : ((TA.T, none, 0) : Nx) = x
   have Hx := hid hx
   clear hx
   have hfin := ac HNr.out x
   obtain ⟨⟨y0, y1, y2, y3, y4, y5, y6, y7⟩, _⟩ := hfin.cells8
   have hRS := HRr.out.boxX (b := w.heap.size) (by omega) x
   have hOff := Off.boxW HOr.out (Nat.le_refl _) x
   have hNod : NodeAt (aa wo w.heap.size x) (fun b => w.heap.size ≤ b ∧ b < (aa wo w.heap.size x).heap.size) x.1 x.2.1 x.2.2 := by rw [← Hx.out]; exact aA _ _ _ rfl
   have Hout := hid (show Out (aN grp) (.ok (c :: t)) (fun t => x.1 = t) (.error 104) by rw [← Hx.out]; exact HO2.out)
   generalize aa wo w.heap.size x = WZ at *
   exact bodyPost_ret (v := aB x.1 x.2.1 x.2.2) (by simp [results, Tryz.results120, y0, y1, y2, y3, y4, y5, y6, y7, go_sem]) rfl ⟨x, k + 1, .error 104, rfl, hNod, hRS, hOff, Hout.out⟩
 have n43 := em (k := 43) (by omega) d43
 by_cases d63 : c = 63
 · have e63 := kq (k := 63) (by omega) d63
   have HA := hid (show aN grp (c :: t) = .error 104 by subst d63; simp [aN])
   clear d63
   go_wp2_with fail
   refine (bS 104 (by omega) HRr.out).mono ?_
   rintro en W3 ⟨rfl, hR, hO⟩
   have HNr := hid (Off.blk hO HNr.out (by omega))
   have HOr := hid (HOr.out.trans hO)
   have HRr := hid hR
   clear hO hR
   go_wp2_with fail
   refine (fF W3 c.toNat hc).mono ?_
   rintro en wo ⟨rfl, hb⟩
   have HNr := hid (HNr.out.keep (hb.block _ HNr.out.lt))
   have HOr := hid (HOr.out.trans (Off.of_below (p := p) hb))
   have HRr := hid (HRr.out.later hb)
   clear hb
   have HO2 := hid (show Out (aN grp) (.ok (c :: t)) (fun t => (w40.add c.toNat).T = t) (.error 104) from Out.bad HA.out)
   generalize w40.add c.toNat = TA at *
   obtain ⟨⟨r0, r1, r2, r3, r4, r5, r6, r7⟩, hz⟩ := HNr.out.cells8
   obtain ⟨z0, z1, z2, z3, z4, z5, z6, z7⟩ := cM hz
   have lr := HNr.out.lt
   clear hz
   go_wp2_with fail
   change bodyPost _ _ _ _ _ (aa wo w.heap.size ((TA.T, none, 0) : Nx))
   generalize hx : ((TA.T, none, 0) : Nx) = x
   have Hx := hid hx
   clear hx
   have hfin := ac HNr.out x
   obtain ⟨⟨y0, y1, y2, y3, y4, y5, y6, y7⟩, _⟩ := hfin.cells8
   have hRS := HRr.out.boxX (b := w.heap.size) (by omega) x
   have hOff := Off.boxW HOr.out (Nat.le_refl _) x
   have hNod : NodeAt (aa wo w.heap.size x) (fun b => w.heap.size ≤ b ∧ b < (aa wo w.heap.size x).heap.size) x.1 x.2.1 x.2.2 := by rw [← Hx.out]; exact aA _ _ _ rfl
   have Hout := hid (show Out (aN grp) (.ok (c :: t)) (fun t => x.1 = t) (.error 104) by rw [← Hx.out]; exact HO2.out)
   generalize aa wo w.heap.size x = WZ at *
   exact bodyPost_ret (v := aB x.1 x.2.1 x.2.2) (by simp [results, Tryz.results120, y0, y1, y2, y3, y4, y5, y6, y7, go_sem]) rfl ⟨x, k + 1, .error 104, rfl, hNod, hRS, hOff, Hout.out⟩
 have n63 := em (k := 63) (by omega) d63
 by_cases d123 : c = 123
 · have e123 := kq (k := 123) (by omega) d123
   have HA := hid (show aN grp (c :: t) = .error 104 by subst d123; simp [aN])
   clear d123
   go_wp2_with fail
   refine (bS 104 (by omega) HRr.out).mono ?_
   rintro en W3 ⟨rfl, hR, hO⟩
   have HNr := hid (Off.blk hO HNr.out (by omega))
   have HOr := hid (HOr.out.trans hO)
   have HRr := hid hR
   clear hO hR
   go_wp2_with fail
   refine (fF W3 c.toNat hc).mono ?_
   rintro en wo ⟨rfl, hb⟩
   have HNr := hid (HNr.out.keep (hb.block _ HNr.out.lt))
   have HOr := hid (HOr.out.trans (Off.of_below (p := p) hb))
   have HRr := hid (HRr.out.later hb)
   clear hb
   have HO2 := hid (show Out (aN grp) (.ok (c :: t)) (fun t => (w40.add c.toNat).T = t) (.error 104) from Out.bad HA.out)
   generalize w40.add c.toNat = TA at *
   obtain ⟨⟨r0, r1, r2, r3, r4, r5, r6, r7⟩, hz⟩ := HNr.out.cells8
   obtain ⟨z0, z1, z2, z3, z4, z5, z6, z7⟩ := cM hz
   have lr := HNr.out.lt
   clear hz
   go_wp2_with fail
   change bodyPost _ _ _ _ _ (aa wo w.heap.size ((TA.T, none, 0) : Nx))
   generalize hx : ((TA.T, none, 0) : Nx) = x
   have Hx := hid hx
   clear hx
   have hfin := ac HNr.out x
   obtain ⟨⟨y0, y1, y2, y3, y4, y5, y6, y7⟩, _⟩ := hfin.cells8
   have hRS := HRr.out.boxX (b := w.heap.size) (by omega) x
   have hOff := Off.boxW HOr.out (Nat.le_refl _) x
   have hNod : NodeAt (aa wo w.heap.size x) (fun b => w.heap.size ≤ b ∧ b < (aa wo w.heap.size x).heap.size) x.1 x.2.1 x.2.2 := by rw [← Hx.out]; exact aA _ _ _ rfl
   have Hout := hid (show Out (aN grp) (.ok (c :: t)) (fun t => x.1 = t) (.error 104) by rw [← Hx.out]; exact HO2.out)
   generalize aa wo w.heap.size x = WZ at *
   exact bodyPost_ret (v := aB x.1 x.2.1 x.2.2) (by simp [results, Tryz.results120, y0, y1, y2, y3, y4, y5, y6, y7, go_sem]) rfl ⟨x, k + 1, .error 104, rfl, hNod, hRS, hOff, Hout.out⟩
 have n123 := em (k := 123) (by omega) d123
 by_cases d92 : c = 92
 · have e92 := kq (k := 92) (by omega) d92
   have Hd := hid (kC HRr.out)
   cases t with
   | nil =>
    have HA := hid (show aN grp [c] = .error 106 by subst d92; simp [aN])
    clear d92
    go_wp2_with fail
    refine Hd.out.mono ?_
    rintro en W3 ⟨rfl, hR, hO⟩
    rw [show ev (.ok []) = true from rfl]
    clear Hd
    have HNr := hid (Off.blk hO HNr.out (by omega))
    have HOr := hid (HOr.out.trans hO)
    have HRr := hid hR
    clear hO hR
    go_wp2_with fail
    refine (bS 106 (by omega) HRr.out).mono ?_
    rintro en W4 ⟨rfl, hR, hO⟩
    have HNr := hid (Off.blk hO HNr.out (by omega))
    have HOr := hid (HOr.out.trans hO)
    have HRr := hid hR
    clear hO hR
    obtain ⟨⟨r0, r1, r2, r3, r4, r5, r6, r7⟩, hz⟩ := HNr.out.cells8
    obtain ⟨z0, z1, z2, z3, z4, z5, z6, z7⟩ := cM hz
    have lr := HNr.out.lt
    clear hz
    go_wp2_with fail
    change bodyPost _ _ _ _ _ (aa W4 w.heap.size ((.mk 0 0 0 0 0 0 0 [], none, 0) : Nx))
    generalize hx : ((.mk 0 0 0 0 0 0 0 [], none, 0) : Nx) = x
    have Hx := hid hx
    clear hx
    have hfin := ac HNr.out x
    obtain ⟨⟨y0, y1, y2, y3, y4, y5, y6, y7⟩, _⟩ := hfin.cells8
    have hRS := HRr.out.boxX (b := w.heap.size) (by omega) x
    have hOff := Off.boxW HOr.out (Nat.le_refl _) x
    have hNod : NodeAt (aa W4 w.heap.size x) (fun b => w.heap.size ≤ b ∧ b < (aa W4 w.heap.size x).heap.size) x.1 x.2.1 x.2.2 := by rw [← Hx.out]; exact aA _ _ _ rfl
    have Hout := hid (show Out (aN grp) (.ok [c]) (fun t => x.1 = t) (.error 106) from Out.bad HA.out)
    generalize aa W4 w.heap.size x = WZ at *
    exact bodyPost_ret (v := aB x.1 x.2.1 x.2.2) (by simp [results, Tryz.results120, y0, y1, y2, y3, y4, y5, y6, y7, go_sem]) rfl ⟨x, k + 1, _, rfl, hNod, hRS, hOff, Hout.out⟩
   | cons c2 t2 =>
    have HA := hid (show aN grp (c :: c2 :: t2) = .ok ((w40.add c2.toNat).T, t2) by subst d92; simp [aN])
    clear d92
    go_wp2_with fail
    refine Hd.out.mono ?_
    rintro en W3 ⟨rfl, hR, hO⟩
    rw [show ev (.ok (c2 :: t2)) = false from rfl]
    clear Hd
    have HNr := hid (Off.blk hO HNr.out (by omega))
    have HOr := hid (HOr.out.trans hO)
    have HRr := hid hR
    clear hO hR
    have hat2 := HRr.out.at_
    have hkS2 := hat2.1
    have hix2 := hat2.2
    have hkI2 : (k : Int) + 1 < (St.length : Int) := by omega
    have hcc2 := c2.toNat_lt
    obtain ⟨k2, hk2⟩ : ∃ k2, k2 = k + 1 := ⟨_, rfl⟩
    rw [← hk2] at HRr
    have c0 := HRr.out.rdr.c0
    have c1 := HRr.out.rdr.c1
    have hk2b : k2 ≤ 1024 := Nat.le_trans HRr.out.rdr.le HRr.out.rdr.top
    have hkI3 : (k2 : Int) < (St.length : Int) := by omega
    have hbx : ∀ hh, (bs St)[k2]'hh = c2 := fun hh => by subst hk2; rw [← hix2 hkS2]; rfl
    clear hat2 hix2 hk2 hkI2 hkS2
    go_upto_region 23 with fail
    go_quiet (fail)
    have hb := pv W3 nq
    generalize W3.drewN nq = W5 at *
    clear c0 c1
    have HNr := hid (HNr.out.keep (hb.block _ HNr.out.lt))
    have HOr := hid (HOr.out.trans (Off.of_below (p := p) hb))
    have HRr := hid (HRr.out.later hb)
    clear hb
    have c1 := HRr.out.rdr.c1
    have y1 := HRr.out.rdr.z 1
    go_upto_region 25 with fail
    try rw [hbx]
    have hR := HRr.out.step 1 (by simp)
    rw [show ((1 : Nat) : Int) = 1 from rfl, show (c2 :: t2).drop 1 = t2 from rfl] at hR
    have hO := (Off.refl p W5).set 1 (.int .i64 ((k2 : Int) + 1))
    generalize W5.setCell _ _ = W6 at *
    clear c1 y1 hbx
    have HNr := hid (Off.blk hO HNr.out (by omega))
    have HOr := hid (HOr.out.trans hO)
    have HRr := hid hR
    clear hO hR
    go_wp2_with fail
    refine (fF W6 c2.toNat hcc2).mono ?_
    rintro en wo ⟨rfl, hb⟩
    have HNr := hid (HNr.out.keep (hb.block _ HNr.out.lt))
    have HOr := hid (HOr.out.trans (Off.of_below (p := p) hb))
    have HRr := hid (HRr.out.later hb)
    clear hb
    have HO2 := hid (show Out (aN grp) (.ok (c :: c2 :: t2)) (fun t => (w40.add c2.toNat).T = t) (.ok t2) from Out.good HA.out rfl)
    generalize w40.add c2.toNat = TA at *
    obtain ⟨⟨r0, r1, r2, r3, r4, r5, r6, r7⟩, hz⟩ := HNr.out.cells8
    obtain ⟨z0, z1, z2, z3, z4, z5, z6, z7⟩ := cM hz
    have lr := HNr.out.lt
    clear hz
    go_wp2_with fail
    change bodyPost _ _ _ _ _ (aa wo w.heap.size ((TA.T, none, 0) : Nx))
    generalize hx : ((TA.T, none, 0) : Nx) = x
    have Hx := hid hx
    clear hx
    have hfin := ac HNr.out x
    obtain ⟨⟨y0, y1, y2, y3, y4, y5, y6, y7⟩, _⟩ := hfin.cells8
    have hRS := HRr.out.boxX (b := w.heap.size) (by omega) x
    have hOff := Off.boxW HOr.out (Nat.le_refl _) x
    have hNod : NodeAt (aa wo w.heap.size x) (fun b => w.heap.size ≤ b ∧ b < (aa wo w.heap.size x).heap.size) x.1 x.2.1 x.2.2 := by rw [← Hx.out]; exact aA _ _ _ rfl
    have Hout := hid (show Out (aN grp) (.ok (c :: c2 :: t2)) (fun t => x.1 = t) (.ok t2) by rw [← Hx.out]; exact HO2.out)
    generalize aa wo w.heap.size x = WZ at *
    exact bodyPost_ret (v := aB x.1 x.2.1 x.2.2) (by simp [results, Tryz.results120, y0, y1, y2, y3, y4, y5, y6, y7, go_sem]) rfl ⟨x, k2 + 1, .ok t2, rfl, hNod, hRS, hOff, Hout.out⟩
 have n92 := em (k := 92) (by omega) d92
 have HA := hid (show aN grp (c :: t) = .ok ((w40.add c.toNat).T, t) by simp [aN, d40, d46, d94, d36, d91, d42, d43, d63, d123, d92])
 clear d40 d46 d94 d36 d91 d42 d43 d63 d123 d92
 go_wp2_with fail
 refine (fF W2 c.toNat hc).mono ?_
 rintro en wo ⟨rfl, hb⟩
 have HNr := hid (HNr.out.keep (hb.block _ HNr.out.lt))
 have HOr := hid (HOr.out.trans (Off.of_below (p := p) hb))
 have HRr := hid (HRr.out.later hb)
 clear hb
 have HO2 := hid (show Out (aN grp) (.ok (c :: t)) (fun t => (w40.add c.toNat).T = t) (.ok t) from Out.good HA.out rfl)
 generalize w40.add c.toNat = TA at *
 obtain ⟨⟨r0, r1, r2, r3, r4, r5, r6, r7⟩, hz⟩ := HNr.out.cells8
 obtain ⟨z0, z1, z2, z3, z4, z5, z6, z7⟩ := cM hz
 have lr := HNr.out.lt
 clear hz
 go_wp2_with fail
 change bodyPost _ _ _ _ _ (aa wo w.heap.size ((TA.T, none, 0) : Nx))
 generalize hx : ((TA.T, none, 0) : Nx) = x
 have Hx := hid hx
 clear hx
 have hfin := ac HNr.out x
 obtain ⟨⟨y0, y1, y2, y3, y4, y5, y6, y7⟩, _⟩ := hfin.cells8
 have hRS := HRr.out.boxX (b := w.heap.size) (by omega) x
 have hOff := Off.boxW HOr.out (Nat.le_refl _) x
 have hNod : NodeAt (aa wo w.heap.size x) (fun b => w.heap.size ≤ b ∧ b < (aa wo w.heap.size x).heap.size) x.1 x.2.1 x.2.2 := by rw [← Hx.out]; exact aA _ _ _ rfl
 have Hout := hid (show Out (aN grp) (.ok (c :: t)) (fun t => x.1 = t) (.ok t) by rw [← Hx.out]; exact HO2.out)
 generalize aa wo w.heap.size x = WZ at *
 exact bodyPost_ret (v := aB x.1 x.2.1 x.2.2) (by simp [results, Tryz.results120, y0, y1, y2, y3, y4, y5, y6, y7, go_sem]) rfl ⟨x, k + 1, .ok t, rfl, hNod, hRS, hOff, Hout.out⟩
end Go.Proofs.YthlakbjnmbddaaaGreatDoor
