/- PatternKnown holds: whatever comes in, the call of the law returns true, and what came in reads as it read; the listed variables tied to the text of the program. -/
import Derived.Test.YthlakbjnmbddaaaGreatDoorUKnownPA
import Derived.Test.YthlakbjnmbddaaaGreatDoorUKnownPB
import Derived.Test.YthlakbjnmbddaaaGreatDoorUKnownPC
import Derived.Test.YthlakbjnmbddaaaGreatDoorUKnownPD
import Derived.Test.YthlakbjnmbddaaaGreatDoorUKnownPE
import Derived.Test.YthlakbjnmbddaaaGreatDoorUKnownPF
import Derived.WalkKit
import Derived.Deep.LoopGhost
import Derived.Lib.Hide
import Derived.Maps.AppendAt
import Derived.Deep.RegionLaw
import Derived.Deep.QuietTactic
import Derived.BigQuiet
import Derived.Laws.OwnMore
import Derived.StillTailTactics
import Derived.Deep.RegionHeld3
import Derived.ProofKit
import Derived.OpenShut
import Derived.ChangeOld
import Derived.SizedLaws
import Derived.Deep.Slices
import Derived.Deep.Fields
import Derived.HandedShaped
import Derived.LaidMore
import Derived.LaidHandle
import Derived.MakeChecks
import Derived.Stop.LaidErr
import Derived.Lay
import Derived.Test.YthlakbjnmbddaaaGreatDoorCards
import Derived.Test.YthlakbjnmbddaaaGreatDoorTie
import Derived.SevenTiedAt
import Derived.ShutString
import Derived.Below
import Derived.Carry
/- vouchref10.print: walked. -/
set_option linter.unusedVariables false
set_option linter.unusedSimpArgs false
namespace Go.Proofs.YthlakbjnmbddaaaGreatDoor
open Go.RowKit

/-- What print hands back. -/
def GPr (t : T) (w : World) (e : Ending) (w' : World) : Prop := (∃ x : Bs, e = .returned (.tuple #[.string (bs x), .int .i64 (deepT t)]) ∧ Agr x (prT t) ∧ x.length ≤ 1100) ∧ Below w.heap.size w w'
theorem timesT_nine (m n : Int) : (timesT m n).length ≤ 9 := by
  unfold timesT
  have h1 := (tdec_len m.toNat).2
  have h2 := (tdec_len n.toNat).2
  split
  · simp
  split
  · simp
  split
  · simp
  split
  · simp only [List.length_append, List.length_cons, List.length_nil]; omega
  split
  · simp only [List.length_append, List.length_cons, List.length_nil]; omega
  · simp only [List.length_append, List.length_cons, List.length_nil]; omega
theorem restD_le {t : T} (hk : KindP t) : ∀ i, restD t i ≤ restD t 0
  | 0 => Nat.le_refl _
  | i + 1 => by
    have ih := restD_le hk i
    by_cases h : i < t.ps.length
    · have := restD_at hk (List.getElem?_eq_getElem h)
      omega
    · rw [restD_end hk (by omega)]; exact Nat.zero_le _
theorem deep_part {t : T} (hk : KindP t) {i : Nat} {p : T} (h : t.ps[i]? = some p) : deepT p + (if soT t p then 1 else 0) ≤ deepT t := by
  have h1 := restD_at hk h
  have h2 := restD_le hk i
  rw [deepT_rest hk]
  omega

set_option maxRecDepth 100000 in
set_option maxHeartbeats 8000000 in
theorem tprint_leaf (t : T) (hk : t.k = 0 ∨ t.k = 1 ∨ t.k = 2 ∨ t.k = 3) (w : World) (A : Option Addr) (c : Nat) (hw : Words t) :
    Calls Tryz.prog 69 #[nodeV t A c] w fun e w' => GPr t w e w' := by
  have hset := setT_short t.w4
  have hpr := prT_eq t
  have hdp := deepT_eq t
  have Hset := Lib.hid (fun w => tset_any w t.w4 hw.w)
  rw [if_neg (show ¬ t.k = 4 by omega), if_neg (show ¬ t.k = 5 by omega), if_neg (show ¬ t.k = 6 by omega)] at hdp
  rw [if_neg (show ¬ t.k = 4 by omega), if_neg (show ¬ t.k = 5 by omega), if_neg (show ¬ t.k = 6 by omega)] at hpr
  have Hpr := Lib.hid hpr; have Hdp := Lib.hid hdp
  clear hpr hdp hw
  have Hfin := Lib.hid (fun (x : Bs) (e : prT t = x) (hx : x.length ≤ 300) w' (hb : Below w.heap.size w w') => (⟨⟨x, by rw [Hdp.out]; rfl, by rw [e]; exact Agr.self x, by omega⟩, hb⟩ : GPr t w (.returned (.tuple #[.string (bs x), .int .i64 0])) w'))
  rcases hk with hk | hk | hk | hk
  · have e : prT t = [] := by rw [Hpr.out, if_neg (by omega), if_neg (by omega), if_neg (by omega)]
    have He := Lib.hid (Hfin.out _ e (by simp))
    clear e Hpr Hdp Hfin
    go_enter Tryz.func69, Tryz.ntmps69
    go_wp2_with fail
    exact bodyPost_ret (v := .tuple #[.string (bs []), .int .i64 0]) (by simp [results, Tryz.results69, go_sem] <;> rfl) rfl (He.out _ ((Below.refl _ _).alloc (Nat.le_refl _) _))
  · have e : prT t = setT t.w4 := by rw [Hpr.out, if_pos hk]
    have He := Lib.hid (Hfin.out _ e hset)
    clear e Hpr Hdp Hfin
    go_enter Tryz.func69, Tryz.ntmps69
    go_wp2_with fail
    refine (Hset.out _).mono ?_
    rintro e w1 ⟨rfl, hb1⟩
    go_wp2_with fail
    exact bodyPost_ret (v := .tuple #[.string (bs (setT t.w4)), .int .i64 0]) (by simp [results, Tryz.results69, go_sem] <;> rfl) rfl (He.out _ (((Below.refl _ _).alloc (Nat.le_refl _) _).trans (hb1.mono (by simp))))
  · have e : prT t = [94] := by rw [Hpr.out, if_neg (by omega), if_pos hk]
    have He := Lib.hid (Hfin.out _ e (by simp))
    clear e Hpr Hdp Hfin
    go_enter Tryz.func69, Tryz.ntmps69
    go_wp2_with fail
    exact bodyPost_ret (v := .tuple #[.string (bs [94]), .int .i64 0]) (by simp [results, Tryz.results69, go_sem] <;> rfl) rfl (He.out _ ((Below.refl _ _).alloc (Nat.le_refl _) _))
  · have e : prT t = [36] := by rw [Hpr.out, if_neg (by omega), if_neg (by omega), if_pos hk]
    have He := Lib.hid (Hfin.out _ e (by simp))
    clear e Hpr Hdp Hfin
    go_enter Tryz.func69, Tryz.ntmps69
    go_wp2_with fail
    exact bodyPost_ret (v := .tuple #[.string (bs [36]), .int .i64 0]) (by simp [results, Tryz.results69, go_sem] <;> rfl) rfl (He.out _ ((Below.refl _ _).alloc (Nat.le_refl _) _))

theorem tclosed_so (w : World) (t p : T) (s : Bs) (hs : s.length ≤ 1000000) (hd : deepT p ≤ 1000000) {so : Bool} (h : soT t p = so) :
    Calls Tryz.prog 88 #[.string (bs s), .int .i64 (deepT p : Nat), .bool so] w fun en w' => en = .returned (.tuple #[.string (bs (parT (soT t p) s)), .int .i64 ((deepT p + (if soT t p then 1 else 0) : Nat) : Int)]) ∧ Below w.heap.size w w' := by
  subst h
  exact tclosed_any w s hs (deepT p) hd (soT t p)
theorem tcut (X : Bs) (h : 1025 ≤ X.length) (w : World) : (Instr.slice 9 (.string (bs X)) none (some (.int .i64 1025)) none).run Tryz.prog w = .ok (.string (bs (X.take 1025))) w := by
  have hs : (bs X).size = X.length := tsize _
  have e : (bs X).extract 0 1025 = bs (X.take 1025) := by
    rw [Lib.extract_eq]
    rfl
  simp [Instr.slice, go_sem, hs, e]
  omega
set_option maxRecDepth 100000 in
set_option maxHeartbeats 8000000 in
theorem tprint_any (t : T) : rightF t = true → Words t → deepT t ≤ 100000 → ∀ (w : World) (ok : Nat → Prop) (A : Option Addr) (c : Nat), NodeAt w ok t A c → (∀ b, ok b → b < w.heap.size) →
    Calls Tryz.prog 69 #[nodeV t A c] w fun e w' => GPr t w e w' := by
  induction t using T.ind with
  | h t ih =>
    intro hr hw hdeep w ok A c hN hok
    have hcs := right_cases hr
    by_cases hleaf : t.k = 0 ∨ t.k = 1 ∨ t.k = 2 ∨ t.k = 3
    · exact tprint_leaf t hleaf w A c hw
    have hk : t.k = 4 ∨ t.k = 5 ∨ t.k = 6 := by omega
    obtain ⟨hkp, hpos, hrep⟩ := kindP_of hr hk
    have hih : ∀ (i : Nat) (p : T), t.ps[i]? = some p → ∀ (w : World) (ok : Nat → Prop) (A : Option Addr) (c : Nat), NodeAt w ok p A c → (∀ b, ok b → b < w.heap.size) →
        Calls Tryz.prog 69 #[nodeV p A c] w fun e w' => GPr p w e w' := fun i p hp => by
      have hm := List.mem_of_getElem? hp
      have := deep_part hkp hp
      exact ih p hm (right_parts hr p hm) (hw.p p hm) (by omega)
    have Hih := Lib.hid hih; have HN := Lib.hid hN; have Hok := Lib.hid hok; have Hkp := Lib.hid hkp; have Hrep := Lib.hid hrep; have Hdeep := Lib.hid hdeep; have Hpos := Lib.hid hpos
    have hlen := hN.len
    have Ht9 := Lib.hid (timesT_nine t.mn t.mx)
    clear ih hih hN hok hkp hrep hcs hr hw hdeep hpos
    go_enter Tryz.func69, Tryz.ntmps69
    go_upto_region 1 with fail
    generalize hW : w.alloc _ = W0
    have hB0 : Below w.heap.size w W0 := by subst hW; exact (Below.refl _ _).alloc (Nat.le_refl _) _
    have h8 : At8 W0 w.heap.size 0 t A c := by subst hW; constructor <;> simp [go_sem]
    clear hW
    have H8 := Lib.hid h8
    obtain ⟨f0, f1, f2, f3, f4, f5, f6, f7⟩ := h8
    have hz0 : w.heap.size < W0.heap.size := World.block_lt_of_cell? _ ⟨w.heap.size, 0, none⟩ f0
    have hne : t.k ≠ 0 ∧ t.k ≠ 1 ∧ t.k ≠ 2 ∧ t.k ≠ 3 := by omega
    have n0 : (t.k == 0) = false := by rw [beq_eq_false_iff_ne]; exact hne.1
    have n1 : (t.k == 1) = false := by rw [beq_eq_false_iff_ne]; exact hne.2.1
    have n2 : (t.k == 2) = false := by rw [beq_eq_false_iff_ne]; exact hne.2.2.1
    have n3 : (t.k == 3) = false := by rw [beq_eq_false_iff_ne]; exact hne.2.2.2
    clear hne hleaf hk
    go_wp2_with fail
    clear n0 n1 n2 n3 f1 f2 f3 f4 f5 f6 f7
    go_loopg [4, 5, 6] (t.ps.length) (fun m o d i wr => ∃ (k : Nat) (x Y : Bs) (D : Nat), i = .int .i64 k ∧ o = .string (bs x) ∧ d = .int .i64 D ∧ k + m = t.ps.length ∧ Agr x Y ∧ Y ++ restP t k = restP t 0 ∧ max D (restD t k) = deepT t ∧ x.length ≤ 1025 ∧ Below w.heap.size w wr ∧ At8 wr w.heap.size 0 t A c)
    case atStart => exact ⟨0, [], [], 0, rfl, rfl, rfl, by omega, Agr.self [], rfl, by rw [deepT_rest Hkp.out]; omega, by simp, hB0, H8.out⟩
    case round =>
      clear hB0 H8 hz0 f0
      obtain ⟨k, x, Y, D, rfl, rfl, rfl, hk, hagr, hY, hD, hxl, hB, h8⟩ := hrel
      have HB := Lib.hid hB; have H8 := Lib.hid h8; have Hk := Lib.hid hk; have Hagr := Lib.hid hagr; have HY := Lib.hid hY; have HD := Lib.hid hD
      have sz1 : (bs x).size = x.length := tsize _
      have hDl : D ≤ 100000 := by have := Hdeep.out; omega
      obtain ⟨f0, f1, f2, f3, f4, f5, f6, f7⟩ := h8
      have hbz := hB.size
      have hwz : w.heap.size < wr.heap.size := World.block_lt_of_cell? _ ⟨w.heap.size, 0, none⟩ f0
      clear hB hk hagr hY hD
      by_cases hlt : k < t.ps.length
      · obtain ⟨b, ob, rfl, hb, hcell⟩ := HN.out.part (by omega)
        obtain ⟨A', c', h8p, hNj⟩ := hcell k hlt
        have hgp := List.getElem?_eq_getElem hlt
        have HCj := Lib.hid (Hih.out k _ hgp)
        have Hrp := Lib.hid (restP_at Hkp.out hgp); have Hrd := Lib.hid (restD_at Hkp.out hgp); have Hdp := Lib.hid (deep_part Hkp.out hgp)
        have HNj := Lib.hid (hNj.later HB.out Hok.out)
        obtain ⟨e0, e1, e2, e3, e4, e5, e6, e7⟩ := h8p.mono (w' := wr) (fun o => HB.out.cell (p := ⟨b, o, none⟩) (Hok.out b hb))
        have hbw := Nat.lt_of_lt_of_le (Hok.out b hb) hbz
        clear hcell hNj h8p hgp
        generalize t.ps[k] = p at *
        have hok2 : ∀ b, ok b → b < wr.heap.size := fun b h => Nat.lt_of_lt_of_le (Hok.out b h) hbz
        have Hok2 := Lib.hid hok2
        clear hok2
        go_wp2_with fail
        refine (HCj.out wr ok A' c' HNj.out Hok2.out).mono ?_
        rintro e w1 ⟨⟨s, rfl, hagp, hsl⟩, hb1⟩
        have hdl : deepT p ≤ 100000 := by have := Hdp.out; have := Hdeep.out; omega
        have HB1 := Lib.hid (HB.out.trans (hb1.mono HB.out.size)); have H81 := Lib.hid (H8.out.laterX hb1 (by omega))
        have Hagp := Lib.hid hagp; have HBz := Lib.hid hb1.size
        obtain ⟨g0, _, _, _, _, _, _, _⟩ := H81.out
        have sz2 : (bs s).size = s.length := tsize _
        clear hagp hb1 f0 f1 f2 f3 f4 f5 f6 f7 e0 e1 e2 e3 e4 e5 e6 e7 H8 HB
        have hbz1 : wr.heap.size ≤ w1.heap.size := HBz.out
        cases ht5 : (t.k == 5) with
        | true =>
          have ht6 : (t.k != 5) = false := by simp only [bne, ht5, Bool.not_true]
          have ht7 : t.k = 5 := by simpa using ht5
          have Ht7 := Lib.hid ht7
          clear ht7
          cases h5 : (p.k == 5) with
          | true =>
            have hso : soT t p = true := by unfold soT; simp only [*]; rfl
            go_upto_region 18 with fail
            refine (tclosed_so w1 t p s (by omega) (by omega) hso).mono ?_
            rintro e w2 ⟨rfl, hb2⟩
            have HB2 := Lib.hid (HB1.out.trans (hb2.mono HB1.out.size)); have H82 := Lib.hid (H81.out.laterX hb2 (Nat.lt_of_lt_of_le hwz hbz1))
            have hay := Hagp.out.par (soT t p)
            have hyl : (parT (soT t p) s).length ≤ s.length + 2 := by unfold parT; split <;> simp
            have hd2 : deepT p + (if soT t p then 1 else 0) ≤ 100000 := by have := Hdp.out; have := Hdeep.out; omega
            have Hay := Lib.hid hay
            obtain ⟨g0, _, _, _, _, _, _, _⟩ := H82.out
            clear hb2 hay Hagp hso
            generalize parT (soT t p) s = y at *
            generalize deepT p + (if soT t p then 1 else 0) = d2 at *
            have sz6 : (bs y).size = y.length := tsize _
            clear sz2 h5 
            by_cases hk0 : 0 < k
            · have hk1 : (0 : Int) < (k : Int) := by omega
              have c1 : bs x ++ bs [124] = bs (x ++ [124]) := tcat _ _
              have sz3 : (bs (x ++ [124])).size = x.length + 1 := by rw [tsize, List.length_append]; rfl
              have c2 : bs (x ++ [124]) ++ bs y = bs (x ++ 124 :: y) := (tcat _ _).trans (by rw [List.append_assoc]; rfl)
              have hagz : Agr (x ++ 124 :: y) (Y ++ ([124] ++ parT (soT t p) (prT p))) := by
                have := (Hagr.out.app (Agr.self [124])).app Hay.out
                simpa only [List.append_assoc, List.cons_append, List.nil_append] using this
              have hlz : (x ++ 124 :: y).length = x.length + y.length + 1 := by simp only [List.length_append, List.length_cons]; omega
              have hYz : (Y ++ ([124] ++ parT (soT t p) (prT p))) ++ restP t (k + 1) = restP t 0 := by rw [← HY.out, Hrp.out, if_pos ⟨hk0, Ht7.out⟩]; simp only [List.append_assoc]
              generalize (Y ++ ([124] ++ parT (soT t p) (prT p))) = Z at *
              have sz4 : (bs (x ++ 124 :: y)).size = x.length + y.length + 1 := by rw [tsize]; exact hlz
              have hcat : ∀ (q : Bs), (x ++ 124 :: y) = q → bs (x ++ [124]) ++ bs y = bs q := fun q e => by rw [c2, e]
              have hagc := hagz.cut
              have htk := tcut (x ++ 124 :: y)
              have Hagz := Lib.hid hagz; have Hagc := Lib.hid hagc; have HYz := Lib.hid hYz; have Hlz := Lib.hid hlz
              clear hagz hagc hYz hlz
              by_cases hcut : 1024 < x.length + y.length + 1
              · have hcut' : (1024 : Int) < (x.length : Int) + (y.length : Int) + 1 := by omega
                have hagd : Agr ((x ++ 124 :: y).take 1025) Z := by have := Hagc.out; rw [if_pos (by rw [Hlz.out]; exact hcut)] at this; exact this
                have hl5 : ((x ++ 124 :: y).take 1025).length ≤ 1025 := by rw [List.length_take]; omega
                have htk2 := htk (by rw [Hlz.out]; omega)
                have Hagd := Lib.hid hagd; have Hl5 := Lib.hid hl5
                clear hagd hl5 htk
                generalize (x ++ 124 :: y).take 1025 = z at *
                go_wp2_with fail
                all_goals
                  have hk := Hk.out
                  go_roundg (gk - 1)
                  case measure => omega
                  case rel => exact ⟨k + 1, z, Z, max D d2, by go_num, rfl, by first | rfl | (congr 1; omega), by omega, Hagd.out, HYz.out, by have := HD.out; have := Hrd.out; omega, Hl5.out, HB2.out, H82.out⟩
              · have hcut' : (x.length : Int) + (y.length : Int) + 1 ≤ 1024 := by omega
                clear htk
                go_wp2_with fail
                all_goals
                  have hk := Hk.out
                  go_roundg (gk - 1)
                  case measure => omega
                  case rel => exact ⟨k + 1, _, Z, max D d2, by go_num, rfl, by first | rfl | (congr 1; omega), by omega, Hagz.out, HYz.out, by have := HD.out; have := Hrd.out; omega, by rw [Hlz.out]; omega, HB2.out, H82.out⟩
            · have hk1 : (k : Int) ≤ 0 := by omega
              have c2 : bs x ++ bs y = bs (x ++ y) := tcat _ _
              have hagz : Agr (x ++ y) (Y ++ parT (soT t p) (prT p)) := Hagr.out.app Hay.out
              have hlz : (x ++ y).length = x.length + y.length := by simp only [List.length_append]
              have hYz : (Y ++ parT (soT t p) (prT p)) ++ restP t (k + 1) = restP t 0 := by rw [← HY.out, Hrp.out, if_neg (fun e => by have h1 := e.1; have h2 := e.2; first | omega | exact Ht7.out h2)]; simp only [List.append_assoc, List.nil_append]
              generalize (Y ++ parT (soT t p) (prT p)) = Z at *
              have sz4 : (bs (x ++ y)).size = x.length + y.length := by rw [tsize]; exact hlz
              have hagc := hagz.cut
              have htk := tcut (x ++ y)
              have Hagz := Lib.hid hagz; have Hagc := Lib.hid hagc; have HYz := Lib.hid hYz; have Hlz := Lib.hid hlz
              clear hagz hagc hYz hlz
              by_cases hcut : 1024 < x.length + y.length
              · have hcut' : (1024 : Int) < (x.length : Int) + (y.length : Int) := by omega
                have hagd : Agr ((x ++ y).take 1025) Z := by have := Hagc.out; rw [if_pos (by rw [Hlz.out]; exact hcut)] at this; exact this
                have hl5 : ((x ++ y).take 1025).length ≤ 1025 := by rw [List.length_take]; omega
                have htk2 := htk (by rw [Hlz.out]; omega)
                have Hagd := Lib.hid hagd; have Hl5 := Lib.hid hl5
                clear hagd hl5 htk
                generalize (x ++ y).take 1025 = z at *
                go_wp2_with fail
                all_goals
                  have hk := Hk.out
                  go_roundg (gk - 1)
                  case measure => omega
                  case rel => exact ⟨k + 1, z, Z, max D d2, by go_num, rfl, by first | rfl | (congr 1; omega), by omega, Hagd.out, HYz.out, by have := HD.out; have := Hrd.out; omega, Hl5.out, HB2.out, H82.out⟩
              · have hcut' : (x.length : Int) + (y.length : Int) ≤ 1024 := by omega
                clear htk
                go_wp2_with fail
                all_goals
                  have hk := Hk.out
                  go_roundg (gk - 1)
                  case measure => omega
                  case rel => exact ⟨k + 1, _, Z, max D d2, by go_num, rfl, by first | rfl | (congr 1; omega), by omega, Hagz.out, HYz.out, by have := HD.out; have := Hrd.out; omega, by rw [Hlz.out]; omega, HB2.out, H82.out⟩
          | false =>
            have hso : soT t p = false := by unfold soT; simp only [*]; rfl
            go_upto_region 18 with fail
            refine (tclosed_so w1 t p s (by omega) (by omega) hso).mono ?_
            rintro e w2 ⟨rfl, hb2⟩
            have HB2 := Lib.hid (HB1.out.trans (hb2.mono HB1.out.size)); have H82 := Lib.hid (H81.out.laterX hb2 (Nat.lt_of_lt_of_le hwz hbz1))
            have hay := Hagp.out.par (soT t p)
            have hyl : (parT (soT t p) s).length ≤ s.length + 2 := by unfold parT; split <;> simp
            have hd2 : deepT p + (if soT t p then 1 else 0) ≤ 100000 := by have := Hdp.out; have := Hdeep.out; omega
            have Hay := Lib.hid hay
            obtain ⟨g0, _, _, _, _, _, _, _⟩ := H82.out
            clear hb2 hay Hagp hso
            generalize parT (soT t p) s = y at *
            generalize deepT p + (if soT t p then 1 else 0) = d2 at *
            have sz6 : (bs y).size = y.length := tsize _
            clear sz2 h5 
            by_cases hk0 : 0 < k
            · have hk1 : (0 : Int) < (k : Int) := by omega
              have c1 : bs x ++ bs [124] = bs (x ++ [124]) := tcat _ _
              have sz3 : (bs (x ++ [124])).size = x.length + 1 := by rw [tsize, List.length_append]; rfl
              have c2 : bs (x ++ [124]) ++ bs y = bs (x ++ 124 :: y) := (tcat _ _).trans (by rw [List.append_assoc]; rfl)
              have hagz : Agr (x ++ 124 :: y) (Y ++ ([124] ++ parT (soT t p) (prT p))) := by
                have := (Hagr.out.app (Agr.self [124])).app Hay.out
                simpa only [List.append_assoc, List.cons_append, List.nil_append] using this
              have hlz : (x ++ 124 :: y).length = x.length + y.length + 1 := by simp only [List.length_append, List.length_cons]; omega
              have hYz : (Y ++ ([124] ++ parT (soT t p) (prT p))) ++ restP t (k + 1) = restP t 0 := by rw [← HY.out, Hrp.out, if_pos ⟨hk0, Ht7.out⟩]; simp only [List.append_assoc]
              generalize (Y ++ ([124] ++ parT (soT t p) (prT p))) = Z at *
              have sz4 : (bs (x ++ 124 :: y)).size = x.length + y.length + 1 := by rw [tsize]; exact hlz
              have hcat : ∀ (q : Bs), (x ++ 124 :: y) = q → bs (x ++ [124]) ++ bs y = bs q := fun q e => by rw [c2, e]
              have hagc := hagz.cut
              have htk := tcut (x ++ 124 :: y)
              have Hagz := Lib.hid hagz; have Hagc := Lib.hid hagc; have HYz := Lib.hid hYz; have Hlz := Lib.hid hlz
              clear hagz hagc hYz hlz
              by_cases hcut : 1024 < x.length + y.length + 1
              · have hcut' : (1024 : Int) < (x.length : Int) + (y.length : Int) + 1 := by omega
                have hagd : Agr ((x ++ 124 :: y).take 1025) Z := by have := Hagc.out; rw [if_pos (by rw [Hlz.out]; exact hcut)] at this; exact this
                have hl5 : ((x ++ 124 :: y).take 1025).length ≤ 1025 := by rw [List.length_take]; omega
                have htk2 := htk (by rw [Hlz.out]; omega)
                have Hagd := Lib.hid hagd; have Hl5 := Lib.hid hl5
                clear hagd hl5 htk
                generalize (x ++ 124 :: y).take 1025 = z at *
                go_wp2_with fail
                all_goals
                  have hk := Hk.out
                  go_roundg (gk - 1)
                  case measure => omega
                  case rel => exact ⟨k + 1, z, Z, max D d2, by go_num, rfl, by first | rfl | (congr 1; omega), by omega, Hagd.out, HYz.out, by have := HD.out; have := Hrd.out; omega, Hl5.out, HB2.out, H82.out⟩
              · have hcut' : (x.length : Int) + (y.length : Int) + 1 ≤ 1024 := by omega
                clear htk
                go_wp2_with fail
                all_goals
                  have hk := Hk.out
                  go_roundg (gk - 1)
                  case measure => omega
                  case rel => exact ⟨k + 1, _, Z, max D d2, by go_num, rfl, by first | rfl | (congr 1; omega), by omega, Hagz.out, HYz.out, by have := HD.out; have := Hrd.out; omega, by rw [Hlz.out]; omega, HB2.out, H82.out⟩
            · have hk1 : (k : Int) ≤ 0 := by omega
              have c2 : bs x ++ bs y = bs (x ++ y) := tcat _ _
              have hagz : Agr (x ++ y) (Y ++ parT (soT t p) (prT p)) := Hagr.out.app Hay.out
              have hlz : (x ++ y).length = x.length + y.length := by simp only [List.length_append]
              have hYz : (Y ++ parT (soT t p) (prT p)) ++ restP t (k + 1) = restP t 0 := by rw [← HY.out, Hrp.out, if_neg (fun e => by have h1 := e.1; have h2 := e.2; first | omega | exact Ht7.out h2)]; simp only [List.append_assoc, List.nil_append]
              generalize (Y ++ parT (soT t p) (prT p)) = Z at *
              have sz4 : (bs (x ++ y)).size = x.length + y.length := by rw [tsize]; exact hlz
              have hagc := hagz.cut
              have htk := tcut (x ++ y)
              have Hagz := Lib.hid hagz; have Hagc := Lib.hid hagc; have HYz := Lib.hid hYz; have Hlz := Lib.hid hlz
              clear hagz hagc hYz hlz
              by_cases hcut : 1024 < x.length + y.length
              · have hcut' : (1024 : Int) < (x.length : Int) + (y.length : Int) := by omega
                have hagd : Agr ((x ++ y).take 1025) Z := by have := Hagc.out; rw [if_pos (by rw [Hlz.out]; exact hcut)] at this; exact this
                have hl5 : ((x ++ y).take 1025).length ≤ 1025 := by rw [List.length_take]; omega
                have htk2 := htk (by rw [Hlz.out]; omega)
                have Hagd := Lib.hid hagd; have Hl5 := Lib.hid hl5
                clear hagd hl5 htk
                generalize (x ++ y).take 1025 = z at *
                go_wp2_with fail
                all_goals
                  have hk := Hk.out
                  go_roundg (gk - 1)
                  case measure => omega
                  case rel => exact ⟨k + 1, z, Z, max D d2, by go_num, rfl, by first | rfl | (congr 1; omega), by omega, Hagd.out, HYz.out, by have := HD.out; have := Hrd.out; omega, Hl5.out, HB2.out, H82.out⟩
              · have hcut' : (x.length : Int) + (y.length : Int) ≤ 1024 := by omega
                clear htk
                go_wp2_with fail
                all_goals
                  have hk := Hk.out
                  go_roundg (gk - 1)
                  case measure => omega
                  case rel => exact ⟨k + 1, _, Z, max D d2, by go_num, rfl, by first | rfl | (congr 1; omega), by omega, Hagz.out, HYz.out, by have := HD.out; have := Hrd.out; omega, by rw [Hlz.out]; omega, HB2.out, H82.out⟩
        | false =>
          have ht6 : (t.k != 5) = true := by simp only [bne, ht5, Bool.not_false]
          have ht7 : ¬ t.k = 5 := by simpa using ht5
          have Ht7 := Lib.hid ht7
          clear ht7
          cases h5 : (p.k == 5) with
          | true =>
            have hso : soT t p = true := by unfold soT; simp only [*]; rfl
            go_upto_region 18 with fail
            refine (tclosed_so w1 t p s (by omega) (by omega) hso).mono ?_
            rintro e w2 ⟨rfl, hb2⟩
            have HB2 := Lib.hid (HB1.out.trans (hb2.mono HB1.out.size)); have H82 := Lib.hid (H81.out.laterX hb2 (Nat.lt_of_lt_of_le hwz hbz1))
            have hay := Hagp.out.par (soT t p)
            have hyl : (parT (soT t p) s).length ≤ s.length + 2 := by unfold parT; split <;> simp
            have hd2 : deepT p + (if soT t p then 1 else 0) ≤ 100000 := by have := Hdp.out; have := Hdeep.out; omega
            have Hay := Lib.hid hay
            obtain ⟨g0, _, _, _, _, _, _, _⟩ := H82.out
            clear hb2 hay Hagp hso
            generalize parT (soT t p) s = y at *
            generalize deepT p + (if soT t p then 1 else 0) = d2 at *
            have sz6 : (bs y).size = y.length := tsize _
            clear sz2 h5 
            by_cases hk0 : 0 < k
            · have hk1 : (0 : Int) < (k : Int) := by omega
              have c2 : bs x ++ bs y = bs (x ++ y) := tcat _ _
              have hagz : Agr (x ++ y) (Y ++ parT (soT t p) (prT p)) := Hagr.out.app Hay.out
              have hlz : (x ++ y).length = x.length + y.length := by simp only [List.length_append]
              have hYz : (Y ++ parT (soT t p) (prT p)) ++ restP t (k + 1) = restP t 0 := by rw [← HY.out, Hrp.out, if_neg (fun e => by have h1 := e.1; have h2 := e.2; first | omega | exact Ht7.out h2)]; simp only [List.append_assoc, List.nil_append]
              generalize (Y ++ parT (soT t p) (prT p)) = Z at *
              have sz4 : (bs (x ++ y)).size = x.length + y.length := by rw [tsize]; exact hlz
              have hagc := hagz.cut
              have htk := tcut (x ++ y)
              have Hagz := Lib.hid hagz; have Hagc := Lib.hid hagc; have HYz := Lib.hid hYz; have Hlz := Lib.hid hlz
              clear hagz hagc hYz hlz
              by_cases hcut : 1024 < x.length + y.length
              · have hcut' : (1024 : Int) < (x.length : Int) + (y.length : Int) := by omega
                have hagd : Agr ((x ++ y).take 1025) Z := by have := Hagc.out; rw [if_pos (by rw [Hlz.out]; exact hcut)] at this; exact this
                have hl5 : ((x ++ y).take 1025).length ≤ 1025 := by rw [List.length_take]; omega
                have htk2 := htk (by rw [Hlz.out]; omega)
                have Hagd := Lib.hid hagd; have Hl5 := Lib.hid hl5
                clear hagd hl5 htk
                generalize (x ++ y).take 1025 = z at *
                go_wp2_with fail
                all_goals
                  have hk := Hk.out
                  go_roundg (gk - 1)
                  case measure => omega
                  case rel => exact ⟨k + 1, z, Z, max D d2, by go_num, rfl, by first | rfl | (congr 1; omega), by omega, Hagd.out, HYz.out, by have := HD.out; have := Hrd.out; omega, Hl5.out, HB2.out, H82.out⟩
              · have hcut' : (x.length : Int) + (y.length : Int) ≤ 1024 := by omega
                clear htk
                go_wp2_with fail
                all_goals
                  have hk := Hk.out
                  go_roundg (gk - 1)
                  case measure => omega
                  case rel => exact ⟨k + 1, _, Z, max D d2, by go_num, rfl, by first | rfl | (congr 1; omega), by omega, Hagz.out, HYz.out, by have := HD.out; have := Hrd.out; omega, by rw [Hlz.out]; omega, HB2.out, H82.out⟩
            · have hk1 : (k : Int) ≤ 0 := by omega
              have c2 : bs x ++ bs y = bs (x ++ y) := tcat _ _
              have hagz : Agr (x ++ y) (Y ++ parT (soT t p) (prT p)) := Hagr.out.app Hay.out
              have hlz : (x ++ y).length = x.length + y.length := by simp only [List.length_append]
              have hYz : (Y ++ parT (soT t p) (prT p)) ++ restP t (k + 1) = restP t 0 := by rw [← HY.out, Hrp.out, if_neg (fun e => by have h1 := e.1; have h2 := e.2; first | omega | exact Ht7.out h2)]; simp only [List.append_assoc, List.nil_append]
              generalize (Y ++ parT (soT t p) (prT p)) = Z at *
              have sz4 : (bs (x ++ y)).size = x.length + y.length := by rw [tsize]; exact hlz
              have hagc := hagz.cut
              have htk := tcut (x ++ y)
              have Hagz := Lib.hid hagz; have Hagc := Lib.hid hagc; have HYz := Lib.hid hYz; have Hlz := Lib.hid hlz
              clear hagz hagc hYz hlz
              by_cases hcut : 1024 < x.length + y.length
              · have hcut' : (1024 : Int) < (x.length : Int) + (y.length : Int) := by omega
                have hagd : Agr ((x ++ y).take 1025) Z := by have := Hagc.out; rw [if_pos (by rw [Hlz.out]; exact hcut)] at this; exact this
                have hl5 : ((x ++ y).take 1025).length ≤ 1025 := by rw [List.length_take]; omega
                have htk2 := htk (by rw [Hlz.out]; omega)
                have Hagd := Lib.hid hagd; have Hl5 := Lib.hid hl5
                clear hagd hl5 htk
                generalize (x ++ y).take 1025 = z at *
                go_wp2_with fail
                all_goals
                  have hk := Hk.out
                  go_roundg (gk - 1)
                  case measure => omega
                  case rel => exact ⟨k + 1, z, Z, max D d2, by go_num, rfl, by first | rfl | (congr 1; omega), by omega, Hagd.out, HYz.out, by have := HD.out; have := Hrd.out; omega, Hl5.out, HB2.out, H82.out⟩
              · have hcut' : (x.length : Int) + (y.length : Int) ≤ 1024 := by omega
                clear htk
                go_wp2_with fail
                all_goals
                  have hk := Hk.out
                  go_roundg (gk - 1)
                  case measure => omega
                  case rel => exact ⟨k + 1, _, Z, max D d2, by go_num, rfl, by first | rfl | (congr 1; omega), by omega, Hagz.out, HYz.out, by have := HD.out; have := Hrd.out; omega, by rw [Hlz.out]; omega, HB2.out, H82.out⟩
          | false =>
            cases h0 : (p.k == 0) with
            | true =>
              have hso : soT t p = true := by unfold soT; simp only [*]; rfl
              go_upto_region 18 with fail
              refine (tclosed_so w1 t p s (by omega) (by omega) hso).mono ?_
              rintro e w2 ⟨rfl, hb2⟩
              have HB2 := Lib.hid (HB1.out.trans (hb2.mono HB1.out.size)); have H82 := Lib.hid (H81.out.laterX hb2 (Nat.lt_of_lt_of_le hwz hbz1))
              have hay := Hagp.out.par (soT t p)
              have hyl : (parT (soT t p) s).length ≤ s.length + 2 := by unfold parT; split <;> simp
              have hd2 : deepT p + (if soT t p then 1 else 0) ≤ 100000 := by have := Hdp.out; have := Hdeep.out; omega
              have Hay := Lib.hid hay
              obtain ⟨g0, _, _, _, _, _, _, _⟩ := H82.out
              clear hb2 hay Hagp hso
              generalize parT (soT t p) s = y at *
              generalize deepT p + (if soT t p then 1 else 0) = d2 at *
              have sz6 : (bs y).size = y.length := tsize _
              clear sz2 h5 h0
              by_cases hk0 : 0 < k
              · have hk1 : (0 : Int) < (k : Int) := by omega
                have c2 : bs x ++ bs y = bs (x ++ y) := tcat _ _
                have hagz : Agr (x ++ y) (Y ++ parT (soT t p) (prT p)) := Hagr.out.app Hay.out
                have hlz : (x ++ y).length = x.length + y.length := by simp only [List.length_append]
                have hYz : (Y ++ parT (soT t p) (prT p)) ++ restP t (k + 1) = restP t 0 := by rw [← HY.out, Hrp.out, if_neg (fun e => by have h1 := e.1; have h2 := e.2; first | omega | exact Ht7.out h2)]; simp only [List.append_assoc, List.nil_append]
                generalize (Y ++ parT (soT t p) (prT p)) = Z at *
                have sz4 : (bs (x ++ y)).size = x.length + y.length := by rw [tsize]; exact hlz
                have hagc := hagz.cut
                have htk := tcut (x ++ y)
                have Hagz := Lib.hid hagz; have Hagc := Lib.hid hagc; have HYz := Lib.hid hYz; have Hlz := Lib.hid hlz
                clear hagz hagc hYz hlz
                by_cases hcut : 1024 < x.length + y.length
                · have hcut' : (1024 : Int) < (x.length : Int) + (y.length : Int) := by omega
                  have hagd : Agr ((x ++ y).take 1025) Z := by have := Hagc.out; rw [if_pos (by rw [Hlz.out]; exact hcut)] at this; exact this
                  have hl5 : ((x ++ y).take 1025).length ≤ 1025 := by rw [List.length_take]; omega
                  have htk2 := htk (by rw [Hlz.out]; omega)
                  have Hagd := Lib.hid hagd; have Hl5 := Lib.hid hl5
                  clear hagd hl5 htk
                  generalize (x ++ y).take 1025 = z at *
                  go_wp2_with fail
                  all_goals
                    have hk := Hk.out
                    go_roundg (gk - 1)
                    case measure => omega
                    case rel => exact ⟨k + 1, z, Z, max D d2, by go_num, rfl, by first | rfl | (congr 1; omega), by omega, Hagd.out, HYz.out, by have := HD.out; have := Hrd.out; omega, Hl5.out, HB2.out, H82.out⟩
                · have hcut' : (x.length : Int) + (y.length : Int) ≤ 1024 := by omega
                  clear htk
                  go_wp2_with fail
                  all_goals
                    have hk := Hk.out
                    go_roundg (gk - 1)
                    case measure => omega
                    case rel => exact ⟨k + 1, _, Z, max D d2, by go_num, rfl, by first | rfl | (congr 1; omega), by omega, Hagz.out, HYz.out, by have := HD.out; have := Hrd.out; omega, by rw [Hlz.out]; omega, HB2.out, H82.out⟩
              · have hk1 : (k : Int) ≤ 0 := by omega
                have c2 : bs x ++ bs y = bs (x ++ y) := tcat _ _
                have hagz : Agr (x ++ y) (Y ++ parT (soT t p) (prT p)) := Hagr.out.app Hay.out
                have hlz : (x ++ y).length = x.length + y.length := by simp only [List.length_append]
                have hYz : (Y ++ parT (soT t p) (prT p)) ++ restP t (k + 1) = restP t 0 := by rw [← HY.out, Hrp.out, if_neg (fun e => by have h1 := e.1; have h2 := e.2; first | omega | exact Ht7.out h2)]; simp only [List.append_assoc, List.nil_append]
                generalize (Y ++ parT (soT t p) (prT p)) = Z at *
                have sz4 : (bs (x ++ y)).size = x.length + y.length := by rw [tsize]; exact hlz
                have hagc := hagz.cut
                have htk := tcut (x ++ y)
                have Hagz := Lib.hid hagz; have Hagc := Lib.hid hagc; have HYz := Lib.hid hYz; have Hlz := Lib.hid hlz
                clear hagz hagc hYz hlz
                by_cases hcut : 1024 < x.length + y.length
                · have hcut' : (1024 : Int) < (x.length : Int) + (y.length : Int) := by omega
                  have hagd : Agr ((x ++ y).take 1025) Z := by have := Hagc.out; rw [if_pos (by rw [Hlz.out]; exact hcut)] at this; exact this
                  have hl5 : ((x ++ y).take 1025).length ≤ 1025 := by rw [List.length_take]; omega
                  have htk2 := htk (by rw [Hlz.out]; omega)
                  have Hagd := Lib.hid hagd; have Hl5 := Lib.hid hl5
                  clear hagd hl5 htk
                  generalize (x ++ y).take 1025 = z at *
                  go_wp2_with fail
                  all_goals
                    have hk := Hk.out
                    go_roundg (gk - 1)
                    case measure => omega
                    case rel => exact ⟨k + 1, z, Z, max D d2, by go_num, rfl, by first | rfl | (congr 1; omega), by omega, Hagd.out, HYz.out, by have := HD.out; have := Hrd.out; omega, Hl5.out, HB2.out, H82.out⟩
                · have hcut' : (x.length : Int) + (y.length : Int) ≤ 1024 := by omega
                  clear htk
                  go_wp2_with fail
                  all_goals
                    have hk := Hk.out
                    go_roundg (gk - 1)
                    case measure => omega
                    case rel => exact ⟨k + 1, _, Z, max D d2, by go_num, rfl, by first | rfl | (congr 1; omega), by omega, Hagz.out, HYz.out, by have := HD.out; have := Hrd.out; omega, by rw [Hlz.out]; omega, HB2.out, H82.out⟩
            | false =>
              cases h4 : (p.k == 4) with
              | true =>
                have hso : soT t p = true := by unfold soT; simp only [*]; rfl
                go_upto_region 18 with fail
                refine (tclosed_so w1 t p s (by omega) (by omega) hso).mono ?_
                rintro e w2 ⟨rfl, hb2⟩
                have HB2 := Lib.hid (HB1.out.trans (hb2.mono HB1.out.size)); have H82 := Lib.hid (H81.out.laterX hb2 (Nat.lt_of_lt_of_le hwz hbz1))
                have hay := Hagp.out.par (soT t p)
                have hyl : (parT (soT t p) s).length ≤ s.length + 2 := by unfold parT; split <;> simp
                have hd2 : deepT p + (if soT t p then 1 else 0) ≤ 100000 := by have := Hdp.out; have := Hdeep.out; omega
                have Hay := Lib.hid hay
                obtain ⟨g0, _, _, _, _, _, _, _⟩ := H82.out
                clear hb2 hay Hagp hso
                generalize parT (soT t p) s = y at *
                generalize deepT p + (if soT t p then 1 else 0) = d2 at *
                have sz6 : (bs y).size = y.length := tsize _
                clear sz2 h5 h0 h4
                by_cases hk0 : 0 < k
                · have hk1 : (0 : Int) < (k : Int) := by omega
                  have c2 : bs x ++ bs y = bs (x ++ y) := tcat _ _
                  have hagz : Agr (x ++ y) (Y ++ parT (soT t p) (prT p)) := Hagr.out.app Hay.out
                  have hlz : (x ++ y).length = x.length + y.length := by simp only [List.length_append]
                  have hYz : (Y ++ parT (soT t p) (prT p)) ++ restP t (k + 1) = restP t 0 := by rw [← HY.out, Hrp.out, if_neg (fun e => by have h1 := e.1; have h2 := e.2; first | omega | exact Ht7.out h2)]; simp only [List.append_assoc, List.nil_append]
                  generalize (Y ++ parT (soT t p) (prT p)) = Z at *
                  have sz4 : (bs (x ++ y)).size = x.length + y.length := by rw [tsize]; exact hlz
                  have hagc := hagz.cut
                  have htk := tcut (x ++ y)
                  have Hagz := Lib.hid hagz; have Hagc := Lib.hid hagc; have HYz := Lib.hid hYz; have Hlz := Lib.hid hlz
                  clear hagz hagc hYz hlz
                  by_cases hcut : 1024 < x.length + y.length
                  · have hcut' : (1024 : Int) < (x.length : Int) + (y.length : Int) := by omega
                    have hagd : Agr ((x ++ y).take 1025) Z := by have := Hagc.out; rw [if_pos (by rw [Hlz.out]; exact hcut)] at this; exact this
                    have hl5 : ((x ++ y).take 1025).length ≤ 1025 := by rw [List.length_take]; omega
                    have htk2 := htk (by rw [Hlz.out]; omega)
                    have Hagd := Lib.hid hagd; have Hl5 := Lib.hid hl5
                    clear hagd hl5 htk
                    generalize (x ++ y).take 1025 = z at *
                    go_wp2_with fail
                    all_goals
                      have hk := Hk.out
                      go_roundg (gk - 1)
                      case measure => omega
                      case rel => exact ⟨k + 1, z, Z, max D d2, by go_num, rfl, by first | rfl | (congr 1; omega), by omega, Hagd.out, HYz.out, by have := HD.out; have := Hrd.out; omega, Hl5.out, HB2.out, H82.out⟩
                  · have hcut' : (x.length : Int) + (y.length : Int) ≤ 1024 := by omega
                    clear htk
                    go_wp2_with fail
                    all_goals
                      have hk := Hk.out
                      go_roundg (gk - 1)
                      case measure => omega
                      case rel => exact ⟨k + 1, _, Z, max D d2, by go_num, rfl, by first | rfl | (congr 1; omega), by omega, Hagz.out, HYz.out, by have := HD.out; have := Hrd.out; omega, by rw [Hlz.out]; omega, HB2.out, H82.out⟩
                · have hk1 : (k : Int) ≤ 0 := by omega
                  have c2 : bs x ++ bs y = bs (x ++ y) := tcat _ _
                  have hagz : Agr (x ++ y) (Y ++ parT (soT t p) (prT p)) := Hagr.out.app Hay.out
                  have hlz : (x ++ y).length = x.length + y.length := by simp only [List.length_append]
                  have hYz : (Y ++ parT (soT t p) (prT p)) ++ restP t (k + 1) = restP t 0 := by rw [← HY.out, Hrp.out, if_neg (fun e => by have h1 := e.1; have h2 := e.2; first | omega | exact Ht7.out h2)]; simp only [List.append_assoc, List.nil_append]
                  generalize (Y ++ parT (soT t p) (prT p)) = Z at *
                  have sz4 : (bs (x ++ y)).size = x.length + y.length := by rw [tsize]; exact hlz
                  have hagc := hagz.cut
                  have htk := tcut (x ++ y)
                  have Hagz := Lib.hid hagz; have Hagc := Lib.hid hagc; have HYz := Lib.hid hYz; have Hlz := Lib.hid hlz
                  clear hagz hagc hYz hlz
                  by_cases hcut : 1024 < x.length + y.length
                  · have hcut' : (1024 : Int) < (x.length : Int) + (y.length : Int) := by omega
                    have hagd : Agr ((x ++ y).take 1025) Z := by have := Hagc.out; rw [if_pos (by rw [Hlz.out]; exact hcut)] at this; exact this
                    have hl5 : ((x ++ y).take 1025).length ≤ 1025 := by rw [List.length_take]; omega
                    have htk2 := htk (by rw [Hlz.out]; omega)
                    have Hagd := Lib.hid hagd; have Hl5 := Lib.hid hl5
                    clear hagd hl5 htk
                    generalize (x ++ y).take 1025 = z at *
                    go_wp2_with fail
                    all_goals
                      have hk := Hk.out
                      go_roundg (gk - 1)
                      case measure => omega
                      case rel => exact ⟨k + 1, z, Z, max D d2, by go_num, rfl, by first | rfl | (congr 1; omega), by omega, Hagd.out, HYz.out, by have := HD.out; have := Hrd.out; omega, Hl5.out, HB2.out, H82.out⟩
                  · have hcut' : (x.length : Int) + (y.length : Int) ≤ 1024 := by omega
                    clear htk
                    go_wp2_with fail
                    all_goals
                      have hk := Hk.out
                      go_roundg (gk - 1)
                      case measure => omega
                      case rel => exact ⟨k + 1, _, Z, max D d2, by go_num, rfl, by first | rfl | (congr 1; omega), by omega, Hagz.out, HYz.out, by have := HD.out; have := Hrd.out; omega, by rw [Hlz.out]; omega, HB2.out, H82.out⟩
              | false =>
                have hso : soT t p = false := by unfold soT; simp only [*]; rfl
                go_upto_region 18 with fail
                refine (tclosed_so w1 t p s (by omega) (by omega) hso).mono ?_
                rintro e w2 ⟨rfl, hb2⟩
                have HB2 := Lib.hid (HB1.out.trans (hb2.mono HB1.out.size)); have H82 := Lib.hid (H81.out.laterX hb2 (Nat.lt_of_lt_of_le hwz hbz1))
                have hay := Hagp.out.par (soT t p)
                have hyl : (parT (soT t p) s).length ≤ s.length + 2 := by unfold parT; split <;> simp
                have hd2 : deepT p + (if soT t p then 1 else 0) ≤ 100000 := by have := Hdp.out; have := Hdeep.out; omega
                have Hay := Lib.hid hay
                obtain ⟨g0, _, _, _, _, _, _, _⟩ := H82.out
                clear hb2 hay Hagp hso
                generalize parT (soT t p) s = y at *
                generalize deepT p + (if soT t p then 1 else 0) = d2 at *
                have sz6 : (bs y).size = y.length := tsize _
                clear sz2 h5 h0 h4
                by_cases hk0 : 0 < k
                · have hk1 : (0 : Int) < (k : Int) := by omega
                  have c2 : bs x ++ bs y = bs (x ++ y) := tcat _ _
                  have hagz : Agr (x ++ y) (Y ++ parT (soT t p) (prT p)) := Hagr.out.app Hay.out
                  have hlz : (x ++ y).length = x.length + y.length := by simp only [List.length_append]
                  have hYz : (Y ++ parT (soT t p) (prT p)) ++ restP t (k + 1) = restP t 0 := by rw [← HY.out, Hrp.out, if_neg (fun e => by have h1 := e.1; have h2 := e.2; first | omega | exact Ht7.out h2)]; simp only [List.append_assoc, List.nil_append]
                  generalize (Y ++ parT (soT t p) (prT p)) = Z at *
                  have sz4 : (bs (x ++ y)).size = x.length + y.length := by rw [tsize]; exact hlz
                  have hagc := hagz.cut
                  have htk := tcut (x ++ y)
                  have Hagz := Lib.hid hagz; have Hagc := Lib.hid hagc; have HYz := Lib.hid hYz; have Hlz := Lib.hid hlz
                  clear hagz hagc hYz hlz
                  by_cases hcut : 1024 < x.length + y.length
                  · have hcut' : (1024 : Int) < (x.length : Int) + (y.length : Int) := by omega
                    have hagd : Agr ((x ++ y).take 1025) Z := by have := Hagc.out; rw [if_pos (by rw [Hlz.out]; exact hcut)] at this; exact this
                    have hl5 : ((x ++ y).take 1025).length ≤ 1025 := by rw [List.length_take]; omega
                    have htk2 := htk (by rw [Hlz.out]; omega)
                    have Hagd := Lib.hid hagd; have Hl5 := Lib.hid hl5
                    clear hagd hl5 htk
                    generalize (x ++ y).take 1025 = z at *
                    go_wp2_with fail
                    all_goals
                      have hk := Hk.out
                      go_roundg (gk - 1)
                      case measure => omega
                      case rel => exact ⟨k + 1, z, Z, max D d2, by go_num, rfl, by first | rfl | (congr 1; omega), by omega, Hagd.out, HYz.out, by have := HD.out; have := Hrd.out; omega, Hl5.out, HB2.out, H82.out⟩
                  · have hcut' : (x.length : Int) + (y.length : Int) ≤ 1024 := by omega
                    clear htk
                    go_wp2_with fail
                    all_goals
                      have hk := Hk.out
                      go_roundg (gk - 1)
                      case measure => omega
                      case rel => exact ⟨k + 1, _, Z, max D d2, by go_num, rfl, by first | rfl | (congr 1; omega), by omega, Hagz.out, HYz.out, by have := HD.out; have := Hrd.out; omega, by rw [Hlz.out]; omega, HB2.out, H82.out⟩
                · have hk1 : (k : Int) ≤ 0 := by omega
                  have c2 : bs x ++ bs y = bs (x ++ y) := tcat _ _
                  have hagz : Agr (x ++ y) (Y ++ parT (soT t p) (prT p)) := Hagr.out.app Hay.out
                  have hlz : (x ++ y).length = x.length + y.length := by simp only [List.length_append]
                  have hYz : (Y ++ parT (soT t p) (prT p)) ++ restP t (k + 1) = restP t 0 := by rw [← HY.out, Hrp.out, if_neg (fun e => by have h1 := e.1; have h2 := e.2; first | omega | exact Ht7.out h2)]; simp only [List.append_assoc, List.nil_append]
                  generalize (Y ++ parT (soT t p) (prT p)) = Z at *
                  have sz4 : (bs (x ++ y)).size = x.length + y.length := by rw [tsize]; exact hlz
                  have hagc := hagz.cut
                  have htk := tcut (x ++ y)
                  have Hagz := Lib.hid hagz; have Hagc := Lib.hid hagc; have HYz := Lib.hid hYz; have Hlz := Lib.hid hlz
                  clear hagz hagc hYz hlz
                  by_cases hcut : 1024 < x.length + y.length
                  · have hcut' : (1024 : Int) < (x.length : Int) + (y.length : Int) := by omega
                    have hagd : Agr ((x ++ y).take 1025) Z := by have := Hagc.out; rw [if_pos (by rw [Hlz.out]; exact hcut)] at this; exact this
                    have hl5 : ((x ++ y).take 1025).length ≤ 1025 := by rw [List.length_take]; omega
                    have htk2 := htk (by rw [Hlz.out]; omega)
                    have Hagd := Lib.hid hagd; have Hl5 := Lib.hid hl5
                    clear hagd hl5 htk
                    generalize (x ++ y).take 1025 = z at *
                    go_wp2_with fail
                    all_goals
                      have hk := Hk.out
                      go_roundg (gk - 1)
                      case measure => omega
                      case rel => exact ⟨k + 1, z, Z, max D d2, by go_num, rfl, by first | rfl | (congr 1; omega), by omega, Hagd.out, HYz.out, by have := HD.out; have := Hrd.out; omega, Hl5.out, HB2.out, H82.out⟩
                  · have hcut' : (x.length : Int) + (y.length : Int) ≤ 1024 := by omega
                    clear htk
                    go_wp2_with fail
                    all_goals
                      have hk := Hk.out
                      go_roundg (gk - 1)
                      case measure => omega
                      case rel => exact ⟨k + 1, _, Z, max D d2, by go_num, rfl, by first | rfl | (congr 1; omega), by omega, Hagz.out, HYz.out, by have := HD.out; have := Hrd.out; omega, by rw [Hlz.out]; omega, HB2.out, H82.out⟩
      · have hr0 := restP_end Hkp.out (i := k) (by omega) (by have := Hpos.out; omega)
        have hd0 := restD_end Hkp.out (i := k) (by omega)
        have hY := HY.out; have hD := HD.out
        rw [hr0, List.append_nil] at hY
        rw [hd0, Nat.max_eq_left (Nat.zero_le _)] at hD
        have hpr := prT_rest Hkp.out
        have hle : (t.ps.length : Int) ≤ (k : Int) := by omega
        have HY := Lib.hid hY; have HD2 := Lib.hid hD
        have Hpr := Lib.hid hpr
        clear hr0 hd0 hY hD hpr H8
        cases h6 : (t.k == 6) with
        | true =>
          have h6' : t.k = 6 := by simpa using h6
          obtain ⟨m0, m1, n1, n0⟩ := Hrep.out h6'
          have hpr : prT t = restP t 0 ++ timesT t.mn t.mx := by rw [Hpr.out, if_pos h6']
          have hag := Hagr.out
          rw [HY.out] at hag
          have hag2 := hag.app (Agr.self (timesT t.mn t.mx))
          rw [← hpr] at hag2
          have ht9 := Ht9.out
          have Hag2 := Lib.hid hag2
          have Ct := Lib.hid (fun w => ttimes_any w t.mn t.mx m0 m1 n0 n1)
          clear h6' hpr hag hag2
          generalize timesT t.mn t.mx = q at *
          have c1 : bs x ++ bs q = bs (x ++ q) := tcat _ _
          have sz2 : (bs q).size = q.length := tsize _
          go_wp2_with fail
          refine (Ct.out wr).mono ?_
          rintro e w2 ⟨rfl, hb2⟩
          have HB2 := Lib.hid (HB.out.trans (hb2.mono HB.out.size))
          clear hb2
          go_wp2_with fail
          exact bodyPost_ret (v := .tuple #[.string (bs (x ++ q)), .int .i64 (D : Nat)]) (by simp [results, Tryz.results69, go_sem] <;> rfl) rfl ⟨⟨x ++ q, by rw [HD2.out], Hag2.out, by rw [List.length_append]; omega⟩, HB2.out⟩
        | false =>
          have h6' : ¬ t.k = 6 := by simpa using h6
          have hpr : prT t = restP t 0 := by rw [Hpr.out, if_neg h6', List.append_nil]
          have hag := Hagr.out
          rw [HY.out, ← hpr] at hag
          have Hag := Lib.hid hag
          clear h6' hpr hag
          go_wp2_with fail
          exact bodyPost_ret (v := .tuple #[.string (bs x), .int .i64 (D : Nat)]) (by simp [results, Tryz.results69, go_sem] <;> rfl) rfl ⟨⟨x, by rw [HD2.out], Hag.out, by omega⟩, HB.out⟩
end Go.Proofs.YthlakbjnmbddaaaGreatDoor

/- vouchref10.Print: walked. -/
set_option linter.unusedVariables false
set_option linter.unusedSimpArgs false
namespace Go.Proofs.YthlakbjnmbddaaaGreatDoor
open Go.RowKit

set_option maxRecDepth 100000 in
set_option maxHeartbeats 4000000 in
theorem trprint_any (t : T) (w : World) (ok : Nat → Prop) (A : Option Addr) (c : Nat) (hN : NodeAt w ok t A c) (hok : ∀ b, ok b → b < w.heap.size) (hw : checkF t = 0 → Words t) :
    Calls Tryz.prog 49 #[nodeV t A c] w fun e w' => e = .returned (.tuple #[.string (bs (printP t).1), .int .i64 (printP t).2]) ∧ Below w.heap.size w w' := by
  have HW := Lib.hid hw; have HN := Lib.hid hN; have Hok := Lib.hid hok
  have Hpc := Lib.hid (r10check_any t)
  clear hw hN hok
  by_cases h0 : checkF t = 0
  · have Hw := Lib.hid (HW.out h0)
    have Hc := Lib.hid h0
    obtain ⟨hr, hn⟩ := check_deep h0
    have Hcall := Lib.hid (tprint_any t hr Hw.out (by omega))
    have hp0 : printP t = if (prT t).length ≤ 1024 ∧ deepT t ≤ 64 then (prT t, 0) else ([], 3) := by unfold printP; rw [if_neg (by omega)]
    obtain ⟨P, hP⟩ : ∃ P, printP t = P := ⟨_, rfl⟩
    rw [hP] at hp0 ⊢
    have Hp := Lib.hid hp0
    clear h0 hr HW hp0 hP Hw
    go_enter Tryz.func49, Tryz.ntmps49
    go_upto_region 1 with fail
    generalize hW : w.alloc _ = Wa
    have hBa : Below w.heap.size w Wa := by subst hW; exact (Below.refl _ _).alloc (Nat.le_refl _) _
    have h8 : At8 Wa w.heap.size 0 t A c := by subst hW; constructor <;> simp [go_sem]
    clear hW
    have HBa := Lib.hid hBa
    have HNa := Lib.hid (HN.out.later hBa Hok.out)
    have hza : w.heap.size < Wa.heap.size := World.block_lt_of_cell? _ _ h8.f0
    have hok2 : ∀ b, ok b → b < Wa.heap.size := fun b h => by have := Hok.out b h; omega
    have Hok2 := Lib.hid hok2
    have H8 := Lib.hid h8
    obtain ⟨f0, f1, f2, f3, f4, f5, f6, f7⟩ := h8
    clear hBa hok2
    go_wp2_with fail
    refine (Hpc.out _ ok A c HNa.out Hok2.out).mono ?_
    rintro e w1 ⟨rfl, hb1⟩
    have h9 : At8 w1 w.heap.size 0 t A c := H8.out.laterX hb1 hza
    have HN1 := Lib.hid (HNa.out.later hb1 Hok2.out)
    have hok3 : ∀ b, ok b → b < w1.heap.size := fun b h => Nat.lt_of_lt_of_le (Hok2.out b h) hb1.size
    have HB1 := Lib.hid (HBa.out.step hb1)
    have Hok3 := Lib.hid hok3
    rw [Hc.out]
    clear f0 f1 f2 f3 f4 f5 f6 f7 hb1 hok3
    obtain ⟨f0, f1, f2, f3, f4, f5, f6, f7⟩ := h9
    go_wp2_with fail
    refine (Hcall.out w1 ok A c HN1.out Hok3.out).mono ?_
    rintro e w2 ⟨⟨x, rfl, hag, hx⟩, hb2⟩
    have HB2 := Lib.hid (HB1.out.step hb2)
    have sz1 : (bs x).size = x.length := tsize _
    have hlong := hag.long
    have hshort := hag.short
    have Hlong := Lib.hid hlong; have Hshort := Lib.hid hshort
    clear hlong hshort hag hb2 f0 f1 f2 f3 f4 f5 f6 f7
    by_cases hl : 1024 < x.length
    · have hl2 : (1024 : Int) < (x.length : Int) := by omega
      have hPv : P = ([], 3) := by rw [Hp.out, if_neg (fun h => by have := Hlong.out.1 hl; omega)]
      subst hPv
      go_wp2_with fail
      exact bodyPost_ret (v := .tuple #[.string (bs []), .int .i64 3]) (by simp [results, Tryz.results49, go_sem] <;> rfl) rfl ⟨rfl, HB2.out⟩
    · have hl1 : (prT t).length ≤ 1024 := Nat.le_of_not_lt fun h => hl (Hlong.out.2 h)
      have he := Hshort.out hl1
      by_cases hd : deepT t ≤ 64
      · have hPv : P = (x, 0) := by rw [Hp.out, if_pos ⟨hl1, hd⟩, he]
        subst hPv
        have hl2 : (x.length : Int) ≤ 1024 := by omega
        have hd2 : (deepT t : Int) ≤ 64 := by omega
        clear hl1 he Hlong Hshort Hp hl
        go_wp2_with fail
        exact bodyPost_ret (v := .tuple #[.string (bs x), .int .i64 0]) (by simp [results, Tryz.results49, go_sem] <;> rfl) rfl ⟨rfl, HB2.out⟩
      · have hPv : P = ([], 3) := by rw [Hp.out, if_neg (fun h => hd h.2)]
        subst hPv
        have hl2 : (x.length : Int) ≤ 1024 := by omega
        have hd2 : (64 : Int) < (deepT t : Int) := by omega
        clear hl1 he Hlong Hshort Hp hl
        go_wp2_with fail
        exact bodyPost_ret (v := .tuple #[.string (bs []), .int .i64 3]) (by simp [results, Tryz.results49, go_sem] <;> rfl) rfl ⟨rfl, HB2.out⟩
  · have Hp := Lib.hid (show printP t = ([], checkF t) by unfold printP; rw [if_pos h0])
    clear HW
    rw [Hp.out]
    generalize checkF t = e0 at *
    clear Hp
    go_enter Tryz.func49, Tryz.ntmps49
    go_upto_region 1 with fail
    generalize hW : w.alloc _ = Wa
    have hBa : Below w.heap.size w Wa := by subst hW; exact (Below.refl _ _).alloc (Nat.le_refl _) _
    have h8 : At8 Wa w.heap.size 0 t A c := by subst hW; constructor <;> simp [go_sem]
    clear hW
    have HBa := Lib.hid hBa
    have HNa := Lib.hid (HN.out.later hBa Hok.out)
    have hza : w.heap.size < Wa.heap.size := World.block_lt_of_cell? _ _ h8.f0
    have hok2 : ∀ b, ok b → b < Wa.heap.size := fun b h => by have := Hok.out b h; omega
    have Hok2 := Lib.hid hok2
    obtain ⟨f0, f1, f2, f3, f4, f5, f6, f7⟩ := h8
    clear hBa hok2
    go_wp2_with fail
    refine (Hpc.out _ ok A c HNa.out Hok2.out).mono ?_
    rintro e w1 ⟨rfl, hb1⟩
    have HB1 := Lib.hid (HBa.out.step hb1)
    clear f0 f1 f2 f3 f4 f5 f6 f7 hb1
    have hne : (e0 != 0) = true := by simpa using h0
    go_wp2_with fail
    exact bodyPost_ret (v := .tuple #[.string (bs []), .int .i64 e0]) (by simp [results, Tryz.results49, go_sem] <;> rfl) rfl ⟨rfl, HB1.out⟩
end Go.Proofs.YthlakbjnmbddaaaGreatDoor

/- States of machines in memory; a layer; append as one step. -/
set_option linter.unusedVariables false
set_option linter.unusedSimpArgs false
namespace Go.Proofs.YthlakbjnmbddaaaGreatDoor
open Go.RowKit

/-- A state of a machine, as data. -/
structure St where
  k : Int
  s0 : Int
  s1 : Int
  s2 : Int
  s3 : Int
  nx : Int
  ot : Int
deriving Inhabited
def St.cells (s : St) : List Value := [.int .i64 s.k, .int .u64 s.s0, .int .u64 s.s1, .int .u64 s.s2, .int .u64 s.s3, .int .i64 s.nx, .int .i64 s.ot]
def stCells (l : List St) : List Value := l.flatMap St.cells
/-- What a layer's calls leave alone: all but the layer's own cell (block L) and its row's block. -/
structure Lays (L : Nat) (r : Option Nat) (w w' : World) : Prop where
  os : w'.os = w.os
  tape : w'.tape = w.tape
  output : w'.output = w.output
  size : w.heap.size ≤ w'.heap.size
  block : ∀ k, k < w.heap.size → k ≠ L → some k ≠ r → w'.heap[k]? = w.heap[k]?
/-- A layer behind a pointer: block L holds the slice v; v owns the states l. -/
structure Layer (w : World) (L base : Nat) (v : Value) (l : List St) : Prop where
  cell : w.cell? ⟨L, 0, none⟩ = some v
  froz : w.frozen? ⟨L, 0, none⟩ = false
  own : w.ownsRow base 30 7 v l.length (stCells l)
  ne : v.ownBlock ≠ some L
  base : base ≤ w.heap.size
end Go.Proofs.YthlakbjnmbddaaaGreatDoor

/- What laying a tree makes, as plain functions: the states behind those that lie there, and where the tree begins. -/
set_option linter.unusedVariables false
set_option linter.unusedSimpArgs false
namespace Go.Proofs.YthlakbjnmbddaaaGreatDoor
open Go.RowKit

abbrev LF := Int → List St → Int × List St
def splitS (nx ot : Int) : St := ⟨2, 0, 0, 0, 0, nx, ot⟩
def splitsF : List Int → List St → Int × List St
  | [], l => (0, l)
  | [x], l => (x, l)
  | b :: bs, l => ((splitsF bs l).2.length, (splitsF bs l).2 ++ [splitS b (splitsF bs l).1])
/-- n times: the part, and a split behind it. -/
def optF (p : LF) (tu : Int) : Nat → Int → List St → Int × List St
  | 0, t, l => (t, l)
  | n + 1, t, l => optF p tu n (p t l).2.length ((p t l).2 ++ [splitS (p t l).1 tu])
/-- n times the part, as long as it lays something. -/
def minF (p : LF) : Nat → Int → List St → Int × List St
  | 0, t, l => (t, l)
  | n + 1, t, l => if (p t l).2.length = l.length then p t l else minF p n (p t l).1 (p t l).2
def setNx (l : List St) (i : Nat) (x : Int) : List St := l.modify i fun s => { s with nx := x }
/-- A repeat without an end: the split, the part behind it. -/
def starF (p : LF) (tu : Int) (l : List St) : Int × List St :=
  (l.length, setNx (p l.length (l ++ [splitS 0 tu])).2 l.length (p l.length (l ++ [splitS 0 tu])).1)
def repF (mn mx : Int) (p : LF) (tu : Int) (l : List St) : Int × List St :=
  let a := if mx < 0 then starF p tu l else optF p tu (mx - mn).toNat tu l
  minF p mn.toNat a.1 a.2

mutual
def layF : T → LF
  | .mk k s0 s1 s2 s3 mn mx ps, tu, l =>
    if k = 1 then (l.length, l ++ [⟨1, s0, s1, s2, s3, tu, 0⟩])
    else if k = 2 then (l.length, l ++ [⟨3, 0, 0, 0, 0, tu, 0⟩])
    else if k = 3 then (l.length, l ++ [⟨4, 0, 0, 0, 0, tu, 0⟩])
    else if k = 4 then rowF ps tu l
    else if k = 5 then splitsF (begF ps tu l).1 (begF ps tu l).2
    else if k = 6 then repF mn mx (headF ps) tu l
    else (tu, l)
/-- The last part first. -/
def rowF : List T → LF
  | [], tu, l => (tu, l)
  | p :: ps, tu, l => layF p (rowF ps tu l).1 (rowF ps tu l).2
def begF : List T → Int → List St → List Int × List St
  | [], tu, l => ([], l)
  | p :: ps, tu, l => ((layF p tu l).1 :: (begF ps tu (layF p tu l).2).1, (begF ps tu (layF p tu l).2).2)
def headF : List T → LF
  | [], tu, l => (tu, l)
  | p :: _, tu, l => layF p tu l
end
end Go.Proofs.YthlakbjnmbddaaaGreatDoor

/- The walks of nfa's layer: nothing, set, place. -/
set_option linter.unusedVariables false
set_option linter.unusedSimpArgs false
namespace Go.Proofs.YthlakbjnmbddaaaGreatDoor
open Go.RowKit

end Go.Proofs.YthlakbjnmbddaaaGreatDoor

/- Machines in memory; two machines compared. -/
set_option linter.unusedVariables false
set_option linter.unusedSimpArgs false
namespace Go.Proofs.YthlakbjnmbddaaaGreatDoor
open Go.RowKit

deriving instance DecidableEq for St
def eqSt (a b : St) : Bool := a.k == b.k && eq4 a.s0 a.s1 a.s2 a.s3 b.s0 b.s1 b.s2 b.s3 && a.nx == b.nx && a.ot == b.ot
theorem run_eqSt (w : World) (d : Nat) (a0 a1 a2 a3 a4 a5 a6 b0 b1 b2 b3 b4 b5 b6 : Int) :
    (Op.equalIn (d + 3) 30 (.agg #[.int .i64 a0, .int .u64 a1, .int .u64 a2, .int .u64 a3, .int .u64 a4, .int .i64 a5, .int .i64 a6]) (.agg #[.int .i64 b0, .int .u64 b1, .int .u64 b2, .int .u64 b3, .int .u64 b4, .int .i64 b5, .int .i64 b6])).run Tryz.prog w = .ok (a0 == b0 && eq4 a1 a2 a3 a4 b1 b2 b3 b4 && a5 == b5 && a6 == b6) w := by
  rw [Op.equalIn]
  simp only [Sem.run_bind, run_underlying Tryz.underlying30, Result.andThen_ok]
  simp [go_sem, List.range']
  by_cases h0 : a0 = b0 <;> cases h1 : eq4 a1 a2 a3 a4 b1 b2 b3 b4 <;> by_cases h2 : a5 = b5 <;> by_cases h3 : a6 = b6 <;> simp [h0, h2, h3]
@[go_sem high] theorem run_neqSt (w : World) (a0 a1 a2 a3 a4 a5 a6 b0 b1 b2 b3 b4 b5 b6 : Int) :
    (binOp .neq 30 (.agg #[.int .i64 a0, .int .u64 a1, .int .u64 a2, .int .u64 a3, .int .u64 a4, .int .i64 a5, .int .i64 a6]) (.agg #[.int .i64 b0, .int .u64 b1, .int .u64 b2, .int .u64 b3, .int .u64 b4, .int .i64 b5, .int .i64 b6])).run Tryz.prog w = .ok (.bool (!(eqSt ⟨a0, a1, a2, a3, a4, a5, a6⟩ ⟨b0, b1, b2, b3, b4, b5, b6⟩))) w := by
  rw [run_neq_struct, run_eqSt _ 9997]; rfl
/-- A state's seven cells from a place on. -/
structure St7 (w : World) (b o : Nat) (s : St) : Prop where
  f0 : w.cell? ⟨b, o, none⟩ = some (.int .i64 s.k)
  f1 : w.cell? ⟨b, o + 1, none⟩ = some (.int .u64 s.s0)
  f2 : w.cell? ⟨b, o + 2, none⟩ = some (.int .u64 s.s1)
  f3 : w.cell? ⟨b, o + 3, none⟩ = some (.int .u64 s.s2)
  f4 : w.cell? ⟨b, o + 4, none⟩ = some (.int .u64 s.s3)
  f5 : w.cell? ⟨b, o + 5, none⟩ = some (.int .i64 s.nx)
  f6 : w.cell? ⟨b, o + 6, none⟩ = some (.int .i64 s.ot)
/-- A list of states reads at A; each block that is read satisfies ok. -/
structure StsAt (w : World) (ok : Nat → Prop) (l : List St) (A : Option Addr) (c : Nat) : Prop where
  cap : l.length ≤ c
  len : l.length ≤ 17592186044416
  nil : A = none → c = 0
  at_ : 0 < l.length → ∃ b o, A = some ⟨b, o, none⟩ ∧ ok b ∧ ∀ i (hi : i < l.length), St7 w b (o + i * 7) l[i]
end Go.Proofs.YthlakbjnmbddaaaGreatDoor

/- SameNfa, KeptNfa, LentNfa: walked. -/
set_option linter.unusedVariables false
set_option linter.unusedSimpArgs false
namespace Go.Proofs.YthlakbjnmbddaaaGreatDoor
open Go.RowKit

end Go.Proofs.YthlakbjnmbddaaaGreatDoor

/- LentNfa, KeptNfa: walked. -/
set_option linter.unusedVariables false
set_option linter.unusedSimpArgs false
namespace Go.Proofs.YthlakbjnmbddaaaGreatDoor
open Go.RowKit

/-- append of a slice that may be nil or empty. -/
theorem wpList_append_from {P : Program} {ops : Array Oper} {rest : List Oper} {o : Oper} {a : Act} {Q : Exit → Act → World → Prop} {W : World} (base : Nat)
    (hgd : o.guard = none) (s x : Operand) (t e : TypeId) (z : Value) (size bytes : Nat)
    (ho : o.op = .call { callee := .builtin .append, args := #[s, x], argTypes := #[t, t] })
    (ht : P.underlying t = some (.slice e)) (hinfo : (P.info? e).map (fun i => (i.zero, i.size, i.bytes)) = some (some z, size, bytes)) (hz : z.cells.size = size) (hs0 : 0 < size) (hb0 : 0 < bytes)
    (v : Value) (n m : Nat) (xs ys : List Value) (A : Option Addr) (c : Nat) (hs : a.eval s = v) (hx : a.eval x = .slice A m c) (hA : A = none → m = 0 ∧ c = 0) (hys : ys.length = m * size)
    (hnews : ∀ ad, A = some ad → ∀ j u, ys[j]? = some u → W.cell? (ad.add j) = some u) (h1 : ∀ u ∈ ys, u.oneCell' = true)
    (HO : W.ownsRow base e size v n xs) (hbase : base ≤ W.heap.size) (hl : (n + m) * bytes ≤ 140737488355328)
    (h : ∀ A' c' w1, w1.ownsRow base e size (.slice A' (n + m) c') (n + m) (xs ++ ys) → W.grownBy w1 v.ownBlock → ((Value.slice A' (n + m) c').ownBlock = v.ownBlock ∨ (Value.slice A' (n + m) c').ownBlock = some W.heap.size) →
      wpList P ops Q rest (a.put o.dst (.slice A' (n + m) c')) w1) :
    wpList P ops Q (o :: rest) a W := by
  refine wpList_plain hgd fun K hK => ?_
  obtain ⟨i0, hi, hzz⟩ := Option.map_eq_some_iff.1 hinfo
  simp only [Prod.mk.injEq] at hzz
  obtain ⟨hz0, hz1, hz2⟩ := hzz
  have hlen : n + m ≤ 140737488355328 := Nat.le_trans (Nat.le_mul_of_pos_right _ hb0) hl
  unfold Oper.wp execOp
  cases A with
  | none =>
    obtain ⟨rfl, rfl⟩ := hA rfl
    have hy : ys = [] := by simpa using hys
    subst hy
    have hr := run_append_owned_none (P := P) (w := W) base t o.type e i0 size ht hi v n xs HO
    simp only [ho, resolve, invoke, builtin, Sem.run_bind, Sem.run_pure, Result.andThen_ok, List.map_toArray, List.map_cons, List.map_nil, hs, hx, hr]
    have hv : ∃ A' c', v = .slice A' (n + 0) c' := by
      rcases HO.2 with ⟨rfl, rfl⟩ | ⟨g, cap, cur, rfl, _⟩
      · exact ⟨_, _, rfl⟩
      · exact ⟨_, _, rfl⟩
    obtain ⟨A', c', rfl⟩ := hv
    exact hK _ _ (h A' c' W (by simpa using HO) ⟨rfl, rfl, rfl, Nat.le_refl _, fun _ _ _ => rfl⟩ (.inl rfl))
  | some ad =>
    obtain ⟨v1, w1, hr, hown, hg, _, hat⟩ := run_append_own_at (P := P) W base t o.type e i0 z size bytes ht hi hz0 hz1 hz2 hz hs0 v n xs HO ad m c ys hys (hnews ad rfl) h1 (by simp only [maxLen]; omega) hl hbase
    simp only [ho, resolve, invoke, builtin, Sem.run_bind, Sem.run_pure, Result.andThen_ok, List.map_toArray, List.map_cons, List.map_nil, hs, hx, hr]
    have hv : ∃ A' c', v1 = .slice A' (n + m) c' := by
      rcases hown.2 with ⟨rfl, h0⟩ | ⟨g, cap, cur, rfl, _⟩
      · exact ⟨_, _, by rw [h0]⟩
      · exact ⟨_, _, rfl⟩
    obtain ⟨A', c', rfl⟩ := hv
    exact hK _ _ (h A' c' w1 hown hg hat)

theorem addr_add (b o j : Nat) : (⟨b, o, none⟩ : Addr).add j = ⟨b, o + j, none⟩ := by unfold Addr.add; split <;> simp_all
end Go.Proofs.YthlakbjnmbddaaaGreatDoor

/- LentNfa: walked. -/
set_option linter.unusedVariables false
set_option linter.unusedSimpArgs false
namespace Go.Proofs.YthlakbjnmbddaaaGreatDoor
open Go.RowKit

/-- The three boxes of LentNfa: what came in, the result, the copy. -/
structure LentB (n : Nat) (sa : Int) (wr : World) (x v : Value) : Prop where
  p0 : wr.cell? ⟨n, 0, none⟩ = some x
  q0 : wr.cell? ⟨n + 1 + 1, 0, none⟩ = some v
  q1 : wr.cell? ⟨n + 1 + 1, 1, none⟩ = some (.int .i64 sa)
  qf : wr.frozen? ⟨n + 1 + 1, 0, none⟩ = false
  r0 : wr.cell? ⟨n + 1, 0, none⟩ = some (.slice none 0 0)
  r1 : wr.cell? ⟨n + 1, 1, none⟩ = some (.int .i64 0)
  rf0 : wr.frozen? ⟨n + 1, 0, none⟩ = false
  rf1 : wr.frozen? ⟨n + 1, 1, none⟩ = false
  sz : n + 2 < wr.heap.size
theorem own_ge {w : World} {base : Nat} {e : TypeId} {size n : Nat} {v : Value} {xs : List Value} (h : w.ownsRow base e size v n xs) : ∀ k, v.ownBlock = some k → base ≤ k := by
  intro k hk
  rcases h.2 with ⟨rfl, _⟩ | ⟨g, cap, cur, rfl, hb, _⟩
  · simp [Value.ownBlock] at hk
  · simp [Value.ownBlock] at hk; omega
theorem below_grown {B : Nat} {w wr w1 : World} {row : Option Nat} (h : Below B w wr) (hs : B ≤ wr.heap.size) (hg : wr.grownBy w1 row) (hr : ∀ k, row = some k → B ≤ k) : Below B w w1 :=
  ⟨hg.os.trans h.os, hg.tape.trans h.tape, hg.output.trans h.output, Nat.le_trans h.size hg.size, fun k hk => (hg.block k (by omega) (fun e => by have := hr k e.symm; omega)).trans (h.block k hk)⟩

end Go.Proofs.YthlakbjnmbddaaaGreatDoor

/- Trees that are handed in, marks in their spare room: what it means; helper laws. -/
set_option linter.unusedVariables false
set_option linter.unusedSimpArgs false
namespace Go.Proofs.YthlakbjnmbddaaaGreatDoor
open Go.RowKit

/-- A tree reads, three marks behind each list. -/
inductive LentAt (w : World) (ok : Nat → Prop) : T → Option Addr → Nat → Prop where
  | mk (t : T) (g : Nat) (c : Nat) (As : Nat → Option Addr) (cs : Nat → Nat) :
      t.ps.length + 3 ≤ c → t.ps.length ≤ 1000000 → ok g →
      (∀ i p, t.ps[i]? = some p → At8 w g (i * 8) p (As i) (cs i)) →
      (∀ k, k < 3 → w.cell? ⟨g, (t.ps.length + k) * 8, none⟩ = some (.int .i64 (-77)) ∧ w.cell? ⟨g, (t.ps.length + k) * 8 + 7, none⟩ = some (.slice none 0 0)) →
      (∀ i p, t.ps[i]? = some p → LentAt w ok p (As i) (cs i)) →
      LentAt w ok t (some ⟨g, 0, none⟩) c
theorem LentAt.mono {w w' : World} {ok ok' : Nat → Prop} (hk : ∀ b, ok b → ok' b ∧ ∀ o, w'.cell? ⟨b, o, none⟩ = w.cell? ⟨b, o, none⟩) {t : T} {A : Option Addr} {c : Nat} (h : LentAt w ok t A c) : LentAt w' ok' t A c := by
  induction h with
  | mk t g c As cs hc hl hg ha hm hp ih =>
    exact .mk t g c As cs hc hl (hk g hg).1 (fun i p hi => (ha i p hi).mono (hk g hg).2) (fun k hk' => ⟨((hk g hg).2 _).trans (hm k hk').1, ((hk g hg).2 _).trans (hm k hk').2⟩) ih
theorem LentAt.node {w : World} {ok : Nat → Prop} {t : T} {A : Option Addr} {c : Nat} (h : LentAt w ok t A c) : NodeAt w ok t A c := by
  induction h with
  | mk t g c As cs hc hl hg ha hm hp ih =>
    exact .mk t _ c As cs (by omega) (by omega) (fun _ => ⟨g, 0, rfl, hg, fun i p hi => by rw [Nat.zero_add]; exact ha i p hi⟩) ih
def ncell (x : T × Option Addr × Nat) : List Value := [.int .i64 x.1.k, .int .u64 x.1.s0, .int .u64 x.1.s1, .int .u64 x.1.s2, .int .u64 x.1.s3, .int .i64 x.1.mn, .int .i64 x.1.mx, .slice x.2.1 x.1.ps.length x.2.2]
def ncells (l : List (T × Option Addr × Nat)) : List Value := l.flatMap ncell
theorem ncells_snoc (l : List (T × Option Addr × Nat)) (s : T × Option Addr × Nat) : ncells (l ++ [s]) = ncells l ++ ncell s := by simp [ncells]
theorem ncell_one (s : T × Option Addr × Nat) : ∀ u ∈ ncell s, u.oneCell' = true := by
  intro u hu
  simp only [ncell, List.mem_cons, List.not_mem_nil, or_false] at hu
  rcases hu with rfl | rfl | rfl | rfl | rfl | rfl | rfl | rfl <;> rfl
theorem ncells_get : ∀ (l : List (T × Option Addr × Nat)) (i j : Nat) (hi : i < l.length), j < 8 → (ncells l)[i * 8 + j]? = (ncell l[i])[j]?
  | s :: l, 0, j, hi, hj => by
    show (ncell s ++ ncells l)[0 * 8 + j]? = _
    rw [Nat.zero_mul, Nat.zero_add, List.getElem?_append_left (by simp [ncell]; omega)]
    rfl
  | s :: l, i + 1, j, hi, hj => by
    show (ncell s ++ ncells l)[(i + 1) * 8 + j]? = _
    rw [List.getElem?_append_right (by simp [ncell]; omega)]
    simp only [ncell, List.length_cons, List.length_nil]
    rw [show (i + 1) * 8 + j - (0 + 1 + 1 + 1 + 1 + 1 + 1 + 1 + 1) = i * 8 + j by omega, ncells_get l i j (by simpa using hi) hj]
    rfl
theorem At8.of {w : World} {b o : Nat} {x : T × Option Addr × Nat} (h : ∀ j, j < 8 → w.cell? ⟨b, o + j, none⟩ = (ncell x)[j]?) : At8 w b o x.1 x.2.1 x.2.2 :=
  ⟨h 0 (by omega), h 1 (by omega), h 2 (by omega), h 3 (by omega), h 4 (by omega), h 5 (by omega), h 6 (by omega), h 7 (by omega)⟩
abbrev mark : T × Option Addr × Nat := (.mk (-77) 0 0 0 0 0 0 [], none, 0)
theorem Tryz.infoNode : (Tryz.prog.info? 48).map (fun i => (i.zero, i.size, i.bytes)) = some (some (.agg #[.int .i64 0, .int .u64 0, .int .u64 0, .int .u64 0, .int .u64 0, .int .i64 0, .int .i64 0, .slice none 0 0]), 8, 80) := by kernel_rfl

/-- A block of cells, nothing frozen. -/
def Blk (w : World) (b : Nat) (cs : Array Value) : Prop := w.heap[b]? = some (.cells cs 48 (0, 0))
theorem Blk.lt {w : World} {b : Nat} {cs : Array Value} (h : Blk w b cs) : b < w.heap.size := (Array.getElem?_eq_some_iff.1 h).1
theorem Blk.cell {w : World} {b : Nat} {cs : Array Value} (h : Blk w b cs) (o : Nat) : w.cell? ⟨b, o, none⟩ = cs[o]? := cell_of_row w b o cs _ (0, 0) h
theorem Blk.froz {w : World} {b : Nat} {cs : Array Value} (h : Blk w b cs) (o : Nat) : w.frozen? ⟨b, o, none⟩ = false := by
  unfold World.frozen?
  rw [show w.heap[(⟨b, o, none⟩ : Addr).block]? = _ from h]
  simp
theorem Blk.keep {w w' : World} {b : Nat} {cs : Array Value} (h : Blk w b cs) (e : w'.heap[b]? = w.heap[b]?) : Blk w' b cs := e.trans h
theorem Blk.set {w : World} {b : Nat} {cs : Array Value} (h : Blk w b cs) (o : Nat) (u : Value) : Blk (w.setCell ⟨b, o, none⟩ u) b (cs.setIfInBounds o u) := by
  unfold Blk at h ⊢
  simp only [World.setCell, Array.getElem?_modify, ↓reduceIte, h, Option.map_some]
  rfl
theorem Blk.new (w : World) (cs : Array Value) : Blk (w.alloc (.cells cs 48)) w.heap.size cs := heap_alloc_new w _
end Go.Proofs.YthlakbjnmbddaaaGreatDoor

/- LentNode: walked. -/
set_option linter.unusedVariables false
set_option linter.unusedSimpArgs false
namespace Go.Proofs.YthlakbjnmbddaaaGreatDoor
open Go.RowKit

theorem nodesL_mem : ∀ (ps : List T), ∀ p ∈ ps, nodesF p ≤ nodesL ps
  | q :: ps, p, h => by
    rw [nodesL]
    have h1 := nodesF_pos q
    have h2 := nodesL_pos ps (fun q _ => nodesF_pos q)
    cases h with
    | head => omega
    | tail _ h => have := nodesL_mem ps p h; omega
theorem nodesL_len : ∀ (ps : List T), (ps.length : Int) ≤ nodesL ps
  | [] => by simp [nodesL]
  | q :: ps => by
    rw [nodesL, List.length_cons]
    have h1 := nodesF_pos q
    have := nodesL_len ps
    omega
theorem nodes_len (t : T) : t.ps.length ≤ (nodesF t).toNat := by
  have := nodesL_len t.ps
  rw [nodesF_eq]; omega
theorem nodes_part (t : T) : ∀ p ∈ t.ps, nodesF p ≤ nodesF t := fun p hp => by
  have := nodesL_mem t.ps p hp
  rw [nodesF_eq t]; omega
/-- The boxes of LentNode: what came in, the result, the copy. -/
structure LentC (n : Nat) (t : T) (A : Option Addr) (c : Nat) (wr : World) (v : Value) : Prop where
  b0 : Blk wr n #[.int .i64 t.k, .int .u64 t.s0, .int .u64 t.s1, .int .u64 t.s2, .int .u64 t.s3, .int .i64 t.mn, .int .i64 t.mx, .slice A t.ps.length c]
  b1 : Blk wr (n + 1) #[.int .i64 0, .int .u64 0, .int .u64 0, .int .u64 0, .int .u64 0, .int .i64 0, .int .i64 0, .slice none 0 0]
  b2 : Blk wr (n + 1 + 1) #[.int .i64 t.k, .int .u64 t.s0, .int .u64 t.s1, .int .u64 t.s2, .int .u64 t.s3, .int .i64 t.mn, .int .i64 t.mx, v]
theorem LentC.keep {n : Nat} {t : T} {A : Option Addr} {c : Nat} {w w' : World} {v : Value} (h : LentC n t A c w v) (e : ∀ k, k < n + 3 → w'.heap[k]? = w.heap[k]?) : LentC n t A c w' v :=
  ⟨h.b0.keep (e _ (by omega)), h.b1.keep (e _ (by omega)), h.b2.keep (e _ (by omega))⟩
theorem LentC.set {n : Nat} {t : T} {A : Option Addr} {c : Nat} {w : World} {v : Value} (h : LentC n t A c w v) (u : Value) : LentC n t A c (w.setCell ⟨n + 1 + 1, 7, none⟩ u) u :=
  ⟨h.b0.keep (Below.heap_setCell _ _ _ _ (by simp; omega)), h.b1.keep (Below.heap_setCell _ _ _ _ (by simp)), by have := h.b2.set 7 u; simpa using this⟩

/-- The children that are laid: each a lent tree over the blocks S. -/
def Kids (t : T) (wr : World) (S : Nat → Prop) (ns : List (T × Option Addr × Nat)) : Prop := ∀ (i : Nat) (x : T × Option Addr × Nat), ns[i]? = some x → t.ps[i]? = some x.1 ∧ LentAt wr S x.1 x.2.1 x.2.2
theorem Kids.mono {t : T} {w w' : World} {S S' : Nat → Prop} {ns : List (T × Option Addr × Nat)} (h : Kids t w S ns) (hk : ∀ b, S b → S' b ∧ ∀ o, w'.cell? ⟨b, o, none⟩ = w.cell? ⟨b, o, none⟩) : Kids t w' S' ns :=
  fun i x hi => ⟨(h i x hi).1, (h i x hi).2.mono hk⟩
/-- The loop over the parts. -/
def LentJ (w : World) (t : T) (A : Option Addr) (c : Nat) (n : Nat) (i : Value) (wr : World) : Prop :=
  ∃ (j : Nat) (ns : List (T × Option Addr × Nat)) (Av : Option Addr) (cv : Nat) (S : Nat → Prop), i = .int .i64 j ∧ j + n = t.ps.length ∧ ns.length = j ∧ Kids t wr S ns ∧
    (∀ b, S b → w.heap.size + 3 ≤ b ∧ b < wr.heap.size ∧ some b ≠ (Value.slice Av j cv).ownBlock) ∧ Below w.heap.size w wr ∧ LentC w.heap.size t A c wr (.slice Av j cv) ∧
    wr.ownsRow (w.heap.size + 3) 48 8 (.slice Av j cv) j (ncells ns)
/-- The loop over the marks. -/
def LentK (w : World) (t : T) (A : Option Addr) (c : Nat) (ns : List (T × Option Addr × Nat)) (n : Nat) (i : Value) (wr : World) : Prop :=
  ∃ (j : Nat) (Av : Option Addr) (cv : Nat) (S : Nat → Prop), i = .int .i64 j ∧ j + n = 3 ∧ Kids t wr S ns ∧
    (∀ b, S b → w.heap.size + 3 ≤ b ∧ b < wr.heap.size ∧ some b ≠ (Value.slice Av (t.ps.length + j) cv).ownBlock) ∧ Below w.heap.size w wr ∧ LentC w.heap.size t A c wr (.slice Av (t.ps.length + j) cv) ∧
    wr.ownsRow (w.heap.size + 3) 48 8 (.slice Av (t.ps.length + j) cv) (t.ps.length + j) (ncells (ns ++ List.replicate j mark))

theorem grown_two {w1 w3 : World} {o1 o2 : Obj} {row : Option Nat} (hg : ((w1.alloc o1).alloc o2).grownBy w3 row) : ∀ b, b < w1.heap.size → some b ≠ row → w3.heap[b]? = w1.heap[b]? := fun b hb hne =>
  (hg.block b (by simp; omega) hne).trans ((((Below.refl w1.heap.size w1).alloc (Nat.le_refl _) o1).alloc (by simp) o2).block b hb)
theorem grown_one {w1 w3 : World} {o1 : Obj} {row : Option Nat} (hg : (w1.alloc o1).grownBy w3 row) : ∀ b, b < w1.heap.size → some b ≠ row → w3.heap[b]? = w1.heap[b]? := fun b hb hne =>
  (hg.block b (by simp; omega) hne).trans (((Below.refl w1.heap.size w1).alloc (Nat.le_refl _) o1).block b hb)
theorem ncell_two (w1 : World) (x : T × Option Addr × Nat) (o1 : Obj) : ∀ ad, some (⟨w1.heap.size + 1, 0, none⟩ : Addr) = some ad → ∀ j u, (ncell x)[j]? = some u → ((w1.alloc o1).alloc (.cells (ncell x).toArray 48)).cell? (ad.add j) = some u := by
  intro ad e j u hu
  simp only [Option.some.injEq] at e
  subst e
  rw [addr_add, show w1.heap.size + 1 = (w1.alloc o1).heap.size by simp, World.cell?_alloc_new, Nat.zero_add]
  simpa using hu
theorem ncell_new (w1 : World) (x : T × Option Addr × Nat) : ∀ ad, some (⟨w1.heap.size, 0, none⟩ : Addr) = some ad → ∀ j u, (ncell x)[j]? = some u → (w1.alloc (.cells (ncell x).toArray 48)).cell? (ad.add j) = some u := by
  intro ad e j u hu
  simp only [Option.some.injEq] at e
  subst e
  rw [addr_add, World.cell?_alloc_new, Nat.zero_add]
  simpa using hu

/-- What the last two statements of LentNode write. -/
def fillW (wr : World) (n : Nat) (t : T) (v : Value) : World :=
  ((((((((wr.setCell ⟨n + 1 + 1, 7, none⟩ v).setCell ⟨n + 1, 0, none⟩ (.int .i64 t.k)).setCell ⟨n + 1, 1, none⟩ (.int .u64 t.s0)).setCell ⟨n + 1, 2, none⟩ (.int .u64 t.s1)).setCell ⟨n + 1, 3, none⟩ (.int .u64 t.s2)).setCell ⟨n + 1, 4, none⟩ (.int .u64 t.s3)).setCell ⟨n + 1, 5, none⟩ (.int .i64 t.mn)).setCell ⟨n + 1, 6, none⟩ (.int .i64 t.mx)).setCell ⟨n + 1, 7, none⟩ v
theorem fillW_blk {wr : World} {n : Nat} {t : T} {A : Option Addr} {c : Nat} {v0 v : Value} (h : LentC n t A c wr v0) : Blk (fillW wr n t v) (n + 1) #[.int .i64 t.k, .int .u64 t.s0, .int .u64 t.s1, .int .u64 t.s2, .int .u64 t.s3, .int .i64 t.mn, .int .i64 t.mx, v] := by
  have h1 := ((((((((h.b1.keep (w' := wr.setCell ⟨n + 1 + 1, 7, none⟩ v) (Below.heap_setCell _ _ _ _ (by simp))).set 0 (.int .i64 t.k)).set 1 (.int .u64 t.s0)).set 2 (.int .u64 t.s1)).set 3 (.int .u64 t.s2)).set 4 (.int .u64 t.s3)).set 5 (.int .i64 t.mn)).set 6 (.int .i64 t.mx)).set 7 v
  unfold fillW; simpa using h1
theorem fillW_size (wr : World) (n : Nat) (t : T) (v : Value) : (fillW wr n t v).heap.size = wr.heap.size := by simp [fillW]
theorem fillW_other (wr : World) (n : Nat) (t : T) (v : Value) (b : Nat) (h1 : b ≠ n + 1) (h2 : b ≠ n + 1 + 1) : (fillW wr n t v).heap[b]? = wr.heap[b]? := by
  unfold fillW
  iterate 8 rw [Below.heap_setCell _ _ _ _ h1]
  exact Below.heap_setCell _ _ _ _ h2
theorem fillW_below {w wr : World} {t : T} {v : Value} (h : Below w.heap.size w wr) : Below w.heap.size w (fillW wr w.heap.size t v) := by
  unfold fillW
  exact ((((((((h.setCell (by simp; omega) _).setCell (by simp) _).setCell (by simp) _).setCell (by simp) _).setCell (by simp) _).setCell (by simp) _).setCell (by simp) _).setCell (by simp) _).setCell (by simp) _

set_option maxRecDepth 100000 in
set_option maxHeartbeats 4000000 in
theorem lent_any (t : T) : ∀ (w : World) (ok : Nat → Prop) (A : Option Addr) (c : Nat), NodeAt w ok t A c → (∀ b, ok b → b < w.heap.size) → nodesF t ≤ 100000 →
    Calls Tryz.prog 48 #[nodeV t A c] w fun e w' => ∃ A' c', e = .returned (nodeV t A' c') ∧ LentAt w' (fun b => w.heap.size ≤ b ∧ b < w'.heap.size) t A' c' ∧ Below w.heap.size w w' := by
  induction t using T.ind with
  | h t ih =>
    intro w ok A c hN hok hno
    have hlen : t.ps.length ≤ 100000 := Nat.le_trans (nodes_len t) (by omega)
    have hcc := hN.cap
    have Hih := Lib.hid ih; clear ih
    have Hno := Lib.hid hno; clear hno
    go_enter Tryz.func48, Tryz.ntmps48
    go_wp2_with fail
    generalize hW : ((w.alloc _).alloc _).alloc _ = W0
    have hB0 : Below w.heap.size w W0 := by subst hW; exact (((Below.refl _ _).alloc (Nat.le_refl _) _).alloc (by simp) _).alloc (by simp; omega) _
    have hC0 : LentC w.heap.size t A c W0 (.slice none 0 0) := by
      subst hW
      refine ⟨?_, ?_, ?_⟩
      · exact (((Blk.new w _).keep ((Below.refl _ _).alloc (Nat.le_refl _) _ |>.block _ (by simp)))).keep ((Below.refl _ _).alloc (Nat.le_refl _) _ |>.block _ (by simp; omega))
      · have h := (Blk.new (w.alloc (.cells #[.int .i64 t.k, .int .u64 t.s0, .int .u64 t.s1, .int .u64 t.s2, .int .u64 t.s3, .int .i64 t.mn, .int .i64 t.mx, .slice A t.ps.length c] 48)) #[.int .i64 0, .int .u64 0, .int .u64 0, .int .u64 0, .int .u64 0, .int .i64 0, .int .i64 0, .slice none 0 0])
        rw [show (w.alloc (.cells #[.int .i64 t.k, .int .u64 t.s0, .int .u64 t.s1, .int .u64 t.s2, .int .u64 t.s3, .int .i64 t.mn, .int .i64 t.mx, .slice A t.ps.length c] 48)).heap.size = w.heap.size + 1 by simp] at h
        exact h.keep ((Below.refl _ _).alloc (Nat.le_refl _) _ |>.block _ (by simp))
      · have h := Blk.new ((w.alloc (.cells #[.int .i64 t.k, .int .u64 t.s0, .int .u64 t.s1, .int .u64 t.s2, .int .u64 t.s3, .int .i64 t.mn, .int .i64 t.mx, .slice A t.ps.length c] 48)).alloc (.cells #[.int .i64 0, .int .u64 0, .int .u64 0, .int .u64 0, .int .u64 0, .int .i64 0, .int .i64 0, .slice none 0 0] 48)) #[.int .i64 t.k, .int .u64 t.s0, .int .u64 t.s1, .int .u64 t.s2, .int .u64 t.s3, .int .i64 t.mn, .int .i64 t.mx, .slice none 0 0]
        rw [show ((w.alloc (.cells #[.int .i64 t.k, .int .u64 t.s0, .int .u64 t.s1, .int .u64 t.s2, .int .u64 t.s3, .int .i64 t.mn, .int .i64 t.mx, .slice A t.ps.length c] 48)).alloc (.cells #[.int .i64 0, .int .u64 0, .int .u64 0, .int .u64 0, .int .u64 0, .int .i64 0, .int .i64 0, .slice none 0 0] 48)).heap.size = w.heap.size + 1 + 1 by simp] at h
        exact h
    clear hW
    go_loopg [4] (t.ps.length) (fun n i wr => LentJ w t A c n i wr)
    case atStart => exact ⟨0, [], none, 0, fun _ => False, rfl, by omega, rfl, fun i x h => by simp at h, fun b h => h.elim, hB0, hC0, ⟨rfl, .inl ⟨rfl, rfl⟩⟩⟩
    case round =>
      clear hB0 hC0
      obtain ⟨j, ns, Av, cv, S, rfl, hj, hns, hkid, hsep, hB, hC, ho⟩ := hrel
      have k7 : wr.cell? ⟨w.heap.size, 7, none⟩ = some (.slice A t.ps.length c) := by simpa using hC.b0.cell 7
      have hz := hC.b2.lt
      have Ho := Lib.hid ho; have Hns := Lib.hid hns; clear ho hns
      by_cases hlt : j < t.ps.length
      · obtain ⟨b, o, rfl, hb, hcell⟩ := hN.part (by omega)
        obtain ⟨A', c', h8, hNj⟩ := hcell j hlt
        obtain ⟨f0, f1, f2, f3, f4, f5, f6, f7⟩ := h8.mono (w' := wr) (fun o => hB.cell (p := ⟨b, o, none⟩) (hok b hb))
        have hih := Hih.out t.ps[j] (List.getElem_mem _)
        have hpn := nodes_part t t.ps[j] (List.getElem_mem _)
        have hget : t.ps[j]? = some t.ps[j] := List.getElem?_eq_getElem hlt
        have Hget := Lib.hid hget
        clear hcell hget
        generalize t.ps[j] = p at *
        have hcall := hih wr ok A' c' (hNj.later hB hok) (fun b h => by have := hok b h; have := hB.size; omega) (by have := Hno.out; omega)
        have Hcall := Lib.hid hcall; clear hcall hih hpn
        go_wp2_with fail
        refine Hcall.out.mono ?_
        rintro e w1 ⟨A1, c1, rfl, hL1, hb1⟩
        have hz1 := hb1.size
        have hC1 : LentC w.heap.size _ _ c w1 (.slice Av j cv) := hC.keep (fun k hk => hb1.block k (by omega))
        have o7 : w1.cell? ⟨w.heap.size + 1 + 1, 7, none⟩ = some (.slice Av j cv) := by simpa using hC1.b2.cell 7
        have hzz : w.heap.size + 1 + 1 < w1.heap.size := by omega
        have hsb : ∀ k, (Value.slice Av j cv).ownBlock = some k → w.heap.size + 3 ≤ k ∧ k < wr.heap.size := fun k hk => Ho.out.lt k hk
        have ho1 : w1.ownsRow (w.heap.size + 3) 48 8 (.slice Av j cv) j (ncells ns) := Ho.out.kept (row := none) ⟨hb1.os, hb1.tape, hb1.output, hb1.size, fun k hk _ => hb1.block k hk⟩ (by cases Av <;> simp [Value.ownBlock])
        have Ho1 := Lib.hid ho1; have Hsb := Lib.hid hsb; have HB := Lib.hid hB; have Hsep := Lib.hid hsep
        have hnew := ncell_two w1 (p, A1, c1) (.cells (ncell (p, A1, c1)).toArray 48)
        have Hnew := Lib.hid hnew
        clear ho1 hsb hB hsep hnew k7 f0 f1 f2 f3 f4 f5 f6 f7
        go_wp2_with (at_builtin; refine wpList_append_from (w.heap.size + 3) rfl _ _ 46 48 _ 8 80 rfl Tryz.underlying46 Tryz.infoNode rfl (by omega) (by omega) (.slice Av j cv) j 1 (ncells ns) (ncell (p, A1, c1)) (some ⟨w1.heap.size + 1, 0, none⟩) 1 rfl rfl (by simp) rfl Hnew.out (ncell_one _) ((Ho1.out.alloc _).alloc _) (by simp; omega) (by omega) (fun A3 c3 w3 ho3 hg3 hat3 => ?_); have hk3 := grown_two hg3; have hC3 := hC1.keep (fun k hk => hk3 k (by omega) (fun e => by have := Hsb.out k e.symm; omega)); have o73 := hC3.b2.cell 7; have of73 := hC3.b2.froz 7; simp only [List.getElem?_toArray, List.getElem?_cons_succ, List.getElem?_cons_zero] at o73; have Ho3 := Lib.hid ho3; have Hk3 := Lib.hid hk3; have Hat3 := Lib.hid hat3; have Hg3 := Lib.hid hg3; clear ho3 hk3 hat3 hg3)
        go_roundg (gk - 1)
        case measure => omega
        case rel =>
          have hz3 := Hg3.out.size
          simp only [World.size_alloc] at hz3
          have hbl := below_grown (((HB.out.trans (hb1.mono (by omega))).alloc (by omega) _).alloc (by simp only [World.size_alloc]; omega) _) (by simp only [World.size_alloc]; omega) Hg3.out (fun k hk => by have := Hsb.out k hk; omega)
          refine ⟨j + 1, ns ++ [(p, A1, c1)], A3, c3, fun b => S b ∨ (wr.heap.size ≤ b ∧ b < w1.heap.size), by go_num, by omega, by simp [Hns.out], ?_, ?_, hbl.setCell (by simp; omega) _, hC3.set _, ?_⟩
          · intro i x hi
            have hcl : ∀ b, w.heap.size + 3 ≤ b → b < w1.heap.size → some b ≠ (Value.slice Av j cv).ownBlock → ∀ o, (w3.setCell ⟨w.heap.size + 1 + 1, 7, none⟩ (.slice A3 (j + 1) c3)).cell? ⟨b, o, none⟩ = w1.cell? ⟨b, o, none⟩ := fun b h1 h2 h3 o => by
              rw [World.cell?_setCell_other (h := by intro e; injection e with e; omega)]
              exact World.cell?_of_block (w := w1) (Hk3.out b h2 h3)
            rcases Nat.lt_or_ge i ns.length with h | h
            · rw [List.getElem?_append_left h] at hi
              refine ⟨(hkid i x hi).1, (hkid i x hi).2.mono fun b hb => ⟨.inl hb, fun o => ?_⟩⟩
              obtain ⟨s1, s2, s3⟩ := Hsep.out b hb
              exact (hcl b s1 (by omega) s3 o).trans (hb1.cell (p := ⟨b, o, none⟩) s2)
            · have hij : i = j := by
                have := (List.getElem?_eq_some_iff.1 hi).1
                simp [Hns.out] at this
                have := Hns.out
                omega
              subst hij
              rw [List.getElem?_append_right h, Hns.out, Nat.sub_self] at hi
              simp only [List.getElem?_cons_zero, Option.some.injEq] at hi
              subst hi
              refine ⟨Hget.out, hL1.mono fun b hb => ⟨.inr hb, fun o => hcl b (by omega) hb.2 (fun e => ?_) o⟩⟩
              have := Hsb.out b e.symm
              omega
          · intro b hb
            have h3 : w.heap.size + 3 ≤ b ∧ b < w1.heap.size ∧ some b ≠ (Value.slice Av j cv).ownBlock := by
              rcases hb with hb | hb
              · obtain ⟨s1, s2, s3⟩ := Hsep.out b hb
                exact ⟨s1, by omega, s3⟩
              · refine ⟨by omega, hb.2, fun e => ?_⟩
                have := Hsb.out b e.symm
                omega
            refine ⟨h3.1, by simp only [World.size_setCell]; omega, fun e => ?_⟩
            rcases Hat3.out with h | h
            · exact h3.2.2 (e.trans h)
            · rw [h] at e; simp at e; omega
          · rw [ncells_snoc]
            exact Ho3.out.kept (row := some (w.heap.size + 1 + 1)) ⟨rfl, rfl, rfl, by simp, fun k hk hne => Below.heap_setCell _ _ _ _ (fun e => hne (by rw [e]))⟩ (.inr (fun e => by have := own_ge Ho3.out _ e; omega))
      · obtain rfl : j = t.ps.length := by omega
        have hz := hC.b2.lt
        have hcut : List.replicate 0 mark = [] := rfl
        go_wp2_with fail
        go_loopg [6] 3 (fun n i wr => LentK w t A c ns n i wr)
        case atStart => exact ⟨0, Av, cv, S, rfl, rfl, hkid, hsep, hB, hC, by simpa using Ho.out⟩
        case round =>
          clear hkid hsep hB hC Ho k7 hz hcut
          obtain ⟨j, Av, cv, S, rfl, hj, hkid, hsep, hB, hC, ho⟩ := hrel
          have k7 : wr.cell? ⟨w.heap.size, 7, none⟩ = some (.slice A t.ps.length c) := by simpa using hC.b0.cell 7
          have o7 : wr.cell? ⟨w.heap.size + 1 + 1, 7, none⟩ = some (.slice Av (t.ps.length + j) cv) := by simpa using hC.b2.cell 7
          have hz := hC.b2.lt
          have Ho := Lib.hid ho; clear ho
          by_cases hlt : j < 3
          · have hsb : ∀ k, (Value.slice Av (t.ps.length + j) cv).ownBlock = some k → w.heap.size + 3 ≤ k ∧ k < wr.heap.size := fun k hk => Ho.out.lt k hk
            have Hsb := Lib.hid hsb; have HB := Lib.hid hB; have Hsep := Lib.hid hsep
            have hnew := ncell_new wr mark
            have Hnew := Lib.hid hnew
            clear hsb hB hsep hnew
            go_wp2_with (at_builtin; refine wpList_append_from (w.heap.size + 3) rfl _ _ 46 48 _ 8 80 rfl Tryz.underlying46 Tryz.infoNode rfl (by omega) (by omega) (.slice Av (t.ps.length + j) cv) (t.ps.length + j) 1 (ncells (ns ++ List.replicate j mark)) (ncell mark) (some ⟨wr.heap.size, 0, none⟩) 1 rfl rfl (by simp) rfl Hnew.out (ncell_one _) (Ho.out.alloc _) (by simp; omega) (by omega) (fun A3 c3 w3 ho3 hg3 hat3 => ?_); have hk3 := grown_one hg3; have hC3 := hC.keep (fun k hk => hk3 k (by omega) (fun e => by have := Hsb.out k e.symm; omega)); have o73 := hC3.b2.cell 7; have of73 := hC3.b2.froz 7; simp only [List.getElem?_toArray, List.getElem?_cons_succ, List.getElem?_cons_zero] at o73; have Ho3 := Lib.hid ho3; have Hk3 := Lib.hid hk3; have Hat3 := Lib.hid hat3; have Hg3 := Lib.hid hg3; clear ho3 hk3 hat3 hg3)
            go_roundg (gk - 1)
            case measure => omega
            case rel =>
              have hz3 := Hg3.out.size
              simp only [World.size_alloc] at hz3
              have hbl := below_grown (HB.out.alloc (by omega) _) (by simp only [World.size_alloc]; omega) Hg3.out (fun k hk => by have := Hsb.out k hk; omega)
              refine ⟨j + 1, A3, c3, S, by go_num, by omega, ?_, ?_, hbl.setCell (by simp; omega) _, hC3.set _, ?_⟩
              · refine hkid.mono fun b hb => ⟨hb, fun o => ?_⟩
                obtain ⟨s1, s2, s3⟩ := Hsep.out b hb
                rw [World.cell?_setCell_other (h := by intro e; injection e with e; omega)]
                exact World.cell?_of_block (w := wr) (Hk3.out b s2 s3)
              · intro b hb
                obtain ⟨s1, s2, s3⟩ := Hsep.out b hb
                refine ⟨s1, by simp only [World.size_setCell]; omega, fun e => ?_⟩
                rcases Hat3.out with h | h
                · exact s3 (e.trans h)
                · have e2 := e.trans h; simp at e2; omega
              · rw [List.replicate_succ', ← List.append_assoc, ncells_snoc]
                exact Ho3.out.kept (row := some (w.heap.size + 1 + 1)) ⟨rfl, rfl, rfl, by simp, fun k hk hne => Below.heap_setCell _ _ _ _ (fun e => hne (by rw [e]))⟩ (.inr (fun e => by have := own_ge Ho3.out _ e; omega))
          · obtain rfl : j = 3 := by omega
            obtain ⟨g, rfl, hg, hgl⟩ : ∃ g, Av = some ⟨g, 0, none⟩ ∧ w.heap.size + 3 ≤ g ∧ t.ps.length + 3 ≤ cv := by
              rcases Ho.out.2 with ⟨e, h0⟩ | ⟨g, cap, cur, e, hb, _, hn, _⟩
              · omega
              · simp only [Value.slice.injEq] at e; exact ⟨g, e.1, hb, by omega⟩
            have hgz := (Ho.out.lt g rfl).2
            have o0 : wr.cell? ⟨w.heap.size + 1 + 1, 0, none⟩ = some (.int .i64 t.k) := by simpa using hC.b2.cell 0
            have o1 : wr.cell? ⟨w.heap.size + 1 + 1, 1, none⟩ = some (.int .u64 t.s0) := by simpa using hC.b2.cell 1
            have o2 : wr.cell? ⟨w.heap.size + 1 + 1, 2, none⟩ = some (.int .u64 t.s1) := by simpa using hC.b2.cell 2
            have o3 : wr.cell? ⟨w.heap.size + 1 + 1, 3, none⟩ = some (.int .u64 t.s2) := by simpa using hC.b2.cell 3
            have o4 : wr.cell? ⟨w.heap.size + 1 + 1, 4, none⟩ = some (.int .u64 t.s3) := by simpa using hC.b2.cell 4
            have o5 : wr.cell? ⟨w.heap.size + 1 + 1, 5, none⟩ = some (.int .i64 t.mn) := by simpa using hC.b2.cell 5
            have o6 : wr.cell? ⟨w.heap.size + 1 + 1, 6, none⟩ = some (.int .i64 t.mx) := by simpa using hC.b2.cell 6
            have of7 := hC.b2.froz 7
            have r0 : wr.cell? ⟨w.heap.size + 1, 0, none⟩ = some (.int .i64 0) := by simpa using hC.b1.cell 0
            have r1 : wr.cell? ⟨w.heap.size + 1, 1, none⟩ = some (.int .u64 0) := by simpa using hC.b1.cell 1
            have r2 : wr.cell? ⟨w.heap.size + 1, 2, none⟩ = some (.int .u64 0) := by simpa using hC.b1.cell 2
            have r3 : wr.cell? ⟨w.heap.size + 1, 3, none⟩ = some (.int .u64 0) := by simpa using hC.b1.cell 3
            have r4 : wr.cell? ⟨w.heap.size + 1, 4, none⟩ = some (.int .u64 0) := by simpa using hC.b1.cell 4
            have r5 : wr.cell? ⟨w.heap.size + 1, 5, none⟩ = some (.int .i64 0) := by simpa using hC.b1.cell 5
            have r6 : wr.cell? ⟨w.heap.size + 1, 6, none⟩ = some (.int .i64 0) := by simpa using hC.b1.cell 6
            have r7 : wr.cell? ⟨w.heap.size + 1, 7, none⟩ = some (.slice none 0 0) := by simpa using hC.b1.cell 7
            have rf0 := hC.b1.froz 0
            have rf1 := hC.b1.froz 1
            have rf2 := hC.b1.froz 2
            have rf3 := hC.b1.froz 3
            have rf4 := hC.b1.froz 4
            have rf5 := hC.b1.froz 5
            have rf6 := hC.b1.froz 6
            have rf7 := hC.b1.froz 7
            go_wp2_with fail
            change bodyPost _ _ _ _ _ (fillW wr w.heap.size t (.slice (some ⟨g, 0, none⟩) t.ps.length cv))
            have hbk := fillW_blk (v := .slice (some ⟨g, 0, none⟩) t.ps.length cv) hC
            have y0 : (fillW wr w.heap.size t (.slice (some ⟨g, 0, none⟩) t.ps.length cv)).cell? ⟨w.heap.size + 1, 0, none⟩ = some (.int .i64 t.k) := by simpa using hbk.cell 0
            have y1 : (fillW wr w.heap.size t (.slice (some ⟨g, 0, none⟩) t.ps.length cv)).cell? ⟨w.heap.size + 1, 1, none⟩ = some (.int .u64 t.s0) := by simpa using hbk.cell 1
            have y2 : (fillW wr w.heap.size t (.slice (some ⟨g, 0, none⟩) t.ps.length cv)).cell? ⟨w.heap.size + 1, 2, none⟩ = some (.int .u64 t.s1) := by simpa using hbk.cell 2
            have y3 : (fillW wr w.heap.size t (.slice (some ⟨g, 0, none⟩) t.ps.length cv)).cell? ⟨w.heap.size + 1, 3, none⟩ = some (.int .u64 t.s2) := by simpa using hbk.cell 3
            have y4 : (fillW wr w.heap.size t (.slice (some ⟨g, 0, none⟩) t.ps.length cv)).cell? ⟨w.heap.size + 1, 4, none⟩ = some (.int .u64 t.s3) := by simpa using hbk.cell 4
            have y5 : (fillW wr w.heap.size t (.slice (some ⟨g, 0, none⟩) t.ps.length cv)).cell? ⟨w.heap.size + 1, 5, none⟩ = some (.int .i64 t.mn) := by simpa using hbk.cell 5
            have y6 : (fillW wr w.heap.size t (.slice (some ⟨g, 0, none⟩) t.ps.length cv)).cell? ⟨w.heap.size + 1, 6, none⟩ = some (.int .i64 t.mx) := by simpa using hbk.cell 6
            have y7 : (fillW wr w.heap.size t (.slice (some ⟨g, 0, none⟩) t.ps.length cv)).cell? ⟨w.heap.size + 1, 7, none⟩ = some (.slice (some ⟨g, 0, none⟩) t.ps.length cv) := by simpa using hbk.cell 7
            have hfs := fillW_size wr w.heap.size t (.slice (some ⟨g, 0, none⟩) t.ps.length cv)
            have hfo := fillW_other wr w.heap.size t (.slice (some ⟨g, 0, none⟩) t.ps.length cv)
            have hfb := fillW_below (t := t) (v := .slice (some ⟨g, 0, none⟩) t.ps.length cv) hB
            generalize fillW wr w.heap.size t (.slice (some ⟨g, 0, none⟩) t.ps.length cv) = F at *
            refine bodyPost_ret (v := nodeV t (some ⟨g, 0, none⟩) cv) (by simp [results, Tryz.results48, y0, y1, y2, y3, y4, y5, y6, y7, go_sem]) rfl ⟨_, _, rfl, ?_, hfb⟩
            have hcF : ∀ b, w.heap.size + 3 ≤ b → ∀ o, F.cell? ⟨b, o, none⟩ = wr.cell? ⟨b, o, none⟩ := fun b hb o => World.cell?_of_block (w := wr) (hfo b (by omega) (by omega))
            have hnsl : ns.length = t.ps.length := Hns.out
            have hrow : ∀ i j, i < t.ps.length + 3 → j < 8 → wr.cell? ⟨g, i * 8 + j, none⟩ = (ncells (ns ++ List.replicate 3 mark))[i * 8 + j]? := fun i j hi hj => Ho.out.cellAt _ (by omega)
            refine .mk t g cv (fun i => (ns.getD i mark).2.1) (fun i => (ns.getD i mark).2.2) hgl (by omega) ⟨by omega, by omega⟩ (fun i p hi => ?_) (fun k hk => ?_) (fun i p hi => ?_)
            · have hil : i < t.ps.length := (List.getElem?_eq_some_iff.1 hi).1
              have hx : ns[i]? = some ns[i] := List.getElem?_eq_getElem (by omega)
              have hkx := (hkid i _ hx).1
              rw [hi] at hkx
              have hpe : p = ns[i].1 := by simpa using hkx
              have : At8 F g (i * 8) ns[i].1 ns[i].2.1 ns[i].2.2 := .of fun j hj => by
                rw [hcF g hg, hrow i j (by omega) hj, ncells_get _ i j (by simp; omega) hj, List.getElem_append_left (by omega)]
              rw [hpe]
              simpa [List.getD_eq_getElem?_getD, hx] using this
            · have h1 := hrow (t.ps.length + k) 0 (by omega) (by omega)
              have h2 := hrow (t.ps.length + k) 7 (by omega) (by omega)
              rw [ncells_get _ _ _ (by simp; omega) (by omega), List.getElem_append_right (by omega), List.getElem_replicate] at h1 h2
              exact ⟨(hcF g hg _).trans h1, (hcF g hg _).trans h2⟩
            · have hil : i < t.ps.length := (List.getElem?_eq_some_iff.1 hi).1
              have hx : ns[i]? = some ns[i] := List.getElem?_eq_getElem (by omega)
              obtain ⟨hkx, hlx⟩ := hkid i _ hx
              rw [hi] at hkx
              have hpe : p = ns[i].1 := by simpa using hkx
              have := hlx.mono (w' := F) (ok' := fun b => w.heap.size ≤ b ∧ b < F.heap.size) fun b hb => by
                obtain ⟨s1, s2, s3⟩ := hsep b hb
                exact ⟨⟨by omega, by omega⟩, hcF b s1⟩
              rw [hpe]
              simpa [List.getD_eq_getElem?_getD, hx] using this
end Go.Proofs.YthlakbjnmbddaaaGreatDoor

/- KeptNode: walked. -/
set_option linter.unusedVariables false
set_option linter.unusedSimpArgs false
namespace Go.Proofs.YthlakbjnmbddaaaGreatDoor
open Go.RowKit

set_option maxRecDepth 100000 in
set_option maxHeartbeats 4000000 in
theorem kept_any (t : T) : ∀ (w : World) (ok : Nat → Prop) (A B : Option Addr) (c d : Nat), LentAt w ok t A c → NodeAt w ok t B d → (∀ b, ok b → b < w.heap.size) →
    Calls Tryz.prog 51 #[nodeV t A c, nodeV t B d] w fun e w' => e = .returned (.bool true) ∧ Below w.heap.size w w' := by
  induction t using T.ind with
  | h t ih =>
    intro w ok A B c d hL hN hok
    have hlen := hN.len
    have hN1 := hL.node
    cases hL with
    | mk _ g _ As cs hc hl hg ha hm hp =>
    have Hih := Lib.hid ih; clear ih
    have heq : eq4 t.s0 t.s1 t.s2 t.s3 t.s0 t.s1 t.s2 t.s3 = true := eq4_true ⟨rfl, rfl, rfl, rfl⟩
    go_enter Tryz.func51, Tryz.ntmps51
    go_wp2_with fail
    clear heq
    generalize hW : (w.alloc _).alloc _ = W0
    have hB0 : Below w.heap.size w W0 := by subst hW; exact ((Below.refl _ _).alloc (Nat.le_refl _) _).alloc (by simp) _
    have hsz : w.heap.size + 1 < W0.heap.size := by subst hW; simp
    have p7 : W0.cell? ⟨w.heap.size, 7, none⟩ = some (.slice (some ⟨g, 0, none⟩) t.ps.length c) := by subst hW; simp [go_sem]
    have q7 : W0.cell? ⟨w.heap.size + 1, 7, none⟩ = some (.slice B t.ps.length d) := by subst hW; simp [go_sem]
    clear hW
    go_loopg [5] (t.ps.length) (fun n i wr => ∃ j : Nat, i = .int .i64 j ∧ j + n = t.ps.length ∧ Below w.heap.size w wr ∧ w.heap.size + 1 < wr.heap.size ∧ wr.cell? ⟨w.heap.size, 7, none⟩ = some (.slice (some ⟨g, 0, none⟩) t.ps.length c) ∧ wr.cell? ⟨w.heap.size + 1, 7, none⟩ = some (.slice B t.ps.length d))
    case atStart => exact ⟨0, rfl, by omega, hB0, hsz, p7, q7⟩
    case round =>
      clear hB0 hsz p7 q7
      obtain ⟨j, rfl, hj, hB, hz, p7, q7⟩ := hrel
      by_cases hlt : j < t.ps.length
      · obtain ⟨b, o, rfl, hb, hcell⟩ := hN.part (by omega)
        obtain ⟨A', c', h8, hNj⟩ := hcell j hlt
        have hget : t.ps[j]? = some t.ps[j] := List.getElem?_eq_getElem hlt
        obtain ⟨f0, f1, f2, f3, f4, f5, f6, f7⟩ := h8.mono (w' := wr) (fun o => hB.cell (p := ⟨b, o, none⟩) (hok b hb))
        obtain ⟨g0, g1, g2, g3, g4, g5, g6, g7⟩ := (ha j _ hget).mono (w' := wr) (fun o => hB.cell (p := ⟨g, o, none⟩) (hok g hg))
        have hih := Hih.out t.ps[j] (List.getElem_mem _) wr.drew ok (As j) A' (cs j) c' ((hp j _ hget).mono fun b hb => ⟨hb, fun o => hB.drew.cell (p := ⟨b, o, none⟩) (hok b hb)⟩) (hNj.later hB.drew hok) (fun b h => by have := hok b h; have := hB.drew.size; omega)
        clear hcell hget
        generalize t.ps[j] = p at *
        generalize As j = Aj at *
        generalize cs j = cj at *
        have Hcall := Lib.hid hih; clear hih
        have i1 : (j : Int) < (t.ps.length : Int) := by omega
        have i0 : (0 : Int) ≤ (j : Int) := by omega
        go_wp2_with fail
        go_still_tail 10, (by kernel_rfl)
        change wpList _ _ _ _ _ wr.drew
        have hBd := hB.drew
        have hzd : w.heap.size + 1 < wr.drew.heap.size := by simpa using hz
        have p7d : wr.drew.cell? ⟨w.heap.size, 7, none⟩ = some (.slice (some ⟨g, 0, none⟩) t.ps.length c) := by simpa using p7
        have q7d : wr.drew.cell? ⟨w.heap.size + 1, 7, none⟩ = some (.slice (some ⟨b, o, none⟩) t.ps.length d) := by simpa using q7
        generalize wr.drew = w2 at *
        go_wp2_with fail
        refine Hcall.out.mono ?_
        rintro e w3 ⟨rfl, hb3⟩
        have hz3 := hb3.size
        go_wp2_with fail
        go_roundg (gk - 1)
        case measure => omega
        case rel => exact ⟨j + 1, by go_num, by omega, hBd.trans (hb3.mono (by omega)), by omega, (hb3.cell (p := ⟨w.heap.size, 7, none⟩) (by show w.heap.size < _; omega)).trans p7d, (hb3.cell (p := ⟨w.heap.size + 1, 7, none⟩) hzd).trans q7d⟩
      · have w3 : IntKind.i64.wrap ((t.ps.length : Int) + 3) = (t.ps.length + 3 : Nat) := by rw [IntKind.wrap_i64]; push_cast; omega
        have hmm : ∀ k, k < 3 → wr.cell? ⟨g, (t.ps.length + k) * 8, none⟩ = some (.int .i64 (-77)) ∧ wr.cell? ⟨g, (t.ps.length + k) * 8 + 7, none⟩ = some (.slice none 0 0) := fun k hk =>
          ⟨(hB.cell (p := ⟨g, _, none⟩) (hok g hg)).trans (hm k hk).1, (hB.cell (p := ⟨g, _, none⟩) (hok g hg)).trans (hm k hk).2⟩
        have Hmm := Lib.hid hmm
        clear hmm
        go_wp2_with fail
        go_loopg [7] 3 (fun k i w2 => ∃ (j : Nat), i = .int .i64 (t.ps.length + j : Nat) ∧ j + k = 3 ∧ w2 = wr)
        case atStart => exact ⟨0, by simp, rfl, rfl⟩
        case round =>
          obtain ⟨k, rfl, hk, rfl⟩ := hrel
          by_cases hlt3 : k < 3
          · obtain ⟨f0, f7⟩ := Hmm.out k hlt3
            go_wp2_with fail
            go_roundg (gk - 1)
            case measure => omega
            case rel => exact ⟨k + 1, by go_num, by omega, rfl⟩
          · go_wp2_with fail
            go_ret
            exact ⟨rfl, hB⟩
end Go.Proofs.YthlakbjnmbddaaaGreatDoor

/- vouchlaw10.PatternTells: walked. -/
set_option linter.unusedVariables false
set_option linter.unusedSimpArgs false
namespace Go.Proofs.YthlakbjnmbddaaaGreatDoor
open Go.RowKit

theorem LentAt.after {w w' : World} {ok : Nat → Prop} {t : T} {A : Option Addr} {c : Nat} (h : LentAt w ok t A c) (hok : ∀ b, ok b → b < w.heap.size) (hb : Below w.heap.size w w') : LentAt w' ok t A c :=
  h.mono fun b hk => ⟨hk, fun o => hb.cell (p := ⟨b, o, none⟩) (hok b hk)⟩
theorem keep16 {W w w' : World} {p q : Nat} {t : T} {A A' : Option Addr} {c c' : Nat} (hb : Below w.heap.size w w') (h : Below W.heap.size W w) (h0 : w.cell? ⟨p, 0, none⟩ = some (.int .i64 t.k)) (h1 : w.cell? ⟨p, 1, none⟩ = some (.int .u64 t.s0)) (h2 : w.cell? ⟨p, 2, none⟩ = some (.int .u64 t.s1)) (h3 : w.cell? ⟨p, 3, none⟩ = some (.int .u64 t.s2)) (h4 : w.cell? ⟨p, 4, none⟩ = some (.int .u64 t.s3)) (h5 : w.cell? ⟨p, 5, none⟩ = some (.int .i64 t.mn)) (h6 : w.cell? ⟨p, 6, none⟩ = some (.int .i64 t.mx)) (h7 : w.cell? ⟨p, 7, none⟩ = some (.slice A' t.ps.length c')) (k0 : w.cell? ⟨q, 0, none⟩ = some (.int .i64 t.k)) (k1 : w.cell? ⟨q, 1, none⟩ = some (.int .u64 t.s0)) (k2 : w.cell? ⟨q, 2, none⟩ = some (.int .u64 t.s1)) (k3 : w.cell? ⟨q, 3, none⟩ = some (.int .u64 t.s2)) (k4 : w.cell? ⟨q, 4, none⟩ = some (.int .u64 t.s3)) (k5 : w.cell? ⟨q, 5, none⟩ = some (.int .i64 t.mn)) (k6 : w.cell? ⟨q, 6, none⟩ = some (.int .i64 t.mx)) (k7 : w.cell? ⟨q, 7, none⟩ = some (.slice A t.ps.length c)) :
    Below W.heap.size W w' ∧ w'.cell? ⟨p, 0, none⟩ = some (.int .i64 t.k) ∧ w'.cell? ⟨p, 1, none⟩ = some (.int .u64 t.s0) ∧ w'.cell? ⟨p, 2, none⟩ = some (.int .u64 t.s1) ∧ w'.cell? ⟨p, 3, none⟩ = some (.int .u64 t.s2) ∧ w'.cell? ⟨p, 4, none⟩ = some (.int .u64 t.s3) ∧ w'.cell? ⟨p, 5, none⟩ = some (.int .i64 t.mn) ∧ w'.cell? ⟨p, 6, none⟩ = some (.int .i64 t.mx) ∧ w'.cell? ⟨p, 7, none⟩ = some (.slice A' t.ps.length c') ∧ w'.cell? ⟨q, 0, none⟩ = some (.int .i64 t.k) ∧ w'.cell? ⟨q, 1, none⟩ = some (.int .u64 t.s0) ∧ w'.cell? ⟨q, 2, none⟩ = some (.int .u64 t.s1) ∧ w'.cell? ⟨q, 3, none⟩ = some (.int .u64 t.s2) ∧ w'.cell? ⟨q, 4, none⟩ = some (.int .u64 t.s3) ∧ w'.cell? ⟨q, 5, none⟩ = some (.int .i64 t.mn) ∧ w'.cell? ⟨q, 6, none⟩ = some (.int .i64 t.mx) ∧ w'.cell? ⟨q, 7, none⟩ = some (.slice A t.ps.length c) := by
  have hp : p < w.heap.size := World.block_lt_of_cell? w ⟨p, 0, none⟩ h0
  have hq : q < w.heap.size := World.block_lt_of_cell? w ⟨q, 0, none⟩ k0
  refine ⟨h.step hb, ?_, ?_, ?_, ?_, ?_, ?_, ?_, ?_, ?_, ?_, ?_, ?_, ?_, ?_, ?_, ?_⟩
  · exact (hb.cell (p := ⟨p, 0, none⟩) hp).trans h0
  · exact (hb.cell (p := ⟨p, 1, none⟩) hp).trans h1
  · exact (hb.cell (p := ⟨p, 2, none⟩) hp).trans h2
  · exact (hb.cell (p := ⟨p, 3, none⟩) hp).trans h3
  · exact (hb.cell (p := ⟨p, 4, none⟩) hp).trans h4
  · exact (hb.cell (p := ⟨p, 5, none⟩) hp).trans h5
  · exact (hb.cell (p := ⟨p, 6, none⟩) hp).trans h6
  · exact (hb.cell (p := ⟨p, 7, none⟩) hp).trans h7
  · exact (hb.cell (p := ⟨q, 0, none⟩) hq).trans k0
  · exact (hb.cell (p := ⟨q, 1, none⟩) hq).trans k1
  · exact (hb.cell (p := ⟨q, 2, none⟩) hq).trans k2
  · exact (hb.cell (p := ⟨q, 3, none⟩) hq).trans k3
  · exact (hb.cell (p := ⟨q, 4, none⟩) hq).trans k4
  · exact (hb.cell (p := ⟨q, 5, none⟩) hq).trans k5
  · exact (hb.cell (p := ⟨q, 6, none⟩) hq).trans k6
  · exact (hb.cell (p := ⟨q, 7, none⟩) hq).trans k7
set_option maxRecDepth 100000 in
set_option maxHeartbeats 16000000 in
theorem ptells_any (w : World) (hM : MaxOk w) (hT : TabIn w.heap.size w) (t : T) (ok : Nat → Prop) (A : Option Addr) (c : Nat) (hN : NodeAt w ok t A c) (hok : ∀ b, ok b → b < w.heap.size) (hw : Words t) :
    Calls Tryz.prog 27 #[nodeV t A c] w fun e w' => e = .returned (.bool true) ∧ Below w.heap.size w w' := by
  have HE := Lib.hid (Env.start hM hT); have HN := Lib.hid hN; have Hok := Lib.hid hok; have Hw := Lib.hid hw
  have Hmany := Lib.hid (many_any 2500 (by omega) (by omega) t)
  have hnod := manyF_min 2500 (by omega) t
  have Hpr := Lib.hid (print_any t)
  have Hrp := Lib.hid (trprint_any t)
  have Hpc := Lib.hid (pcheck_any t)
  have Hrc := Lib.hid (r10check_any t)
  have Hlent := Lib.hid (lent_any t)
  have Hkept := Lib.hid (kept_any t)
  have Hnod := Lib.hid hnod
  clear hM hT hN hok hw hnod
  go_enter Tryz.func27, Tryz.ntmps27
  go_upto_region 1 with fail
  generalize hW : w.alloc _ = W0
  have hb0 : Below w.heap.size w W0 := by subst hW; exact (Below.refl _ _).alloc (Nat.le_refl _) _
  have h8 : At8 W0 w.heap.size 0 t A c := by subst hW; constructor <;> simp [go_sem]
  clear hW
  have hB0 : Box W0 w.heap.size t A c ok := ⟨h8, HN.out.later hb0 Hok.out, fun b h => Nat.lt_of_lt_of_le (Hok.out b h) hb0.size⟩
  have HB0 := Lib.hid hB0
  have HE0 := Lib.hid (HE.out.step hb0)
  obtain ⟨f0, f1, f2, f3, f4, f5, f6, f7⟩ := h8
  clear hb0 hB0 HE HN Hok
  go_wp2_with fail
  refine (Hmany.out W0 ok A c HB0.out.node HB0.out.okk).mono ?_
  rintro e w1 ⟨rfl, hb1⟩
  have HE1 := Lib.hid (HE0.out.step hb1); have HB1 := Lib.hid (HB0.out.step hb1)
  clear hb1 HB0 HE0 f0 f1 f2 f3 f4 f5 f6 f7
  by_cases hm : 2500 < manyF 2500 t
  · go_wp2_with fail
    all_goals
      go_ret
      exact ⟨rfl, HE1.out.bl⟩
  have hm' : manyF 2500 t ≤ 2500 := by omega
  have hno : nodesF t ≤ 100000 := by have := Hnod.out; omega
  have Hno := Lib.hid hno
  clear hm hno Hnod
  obtain ⟨f0, f1, f2, f3, f4, f5, f6, f7⟩ := HB1.out.at8
  generalize manyF 2500 t = mm at *
  clear Hmany
  go_wp2_with fail
  refine (Hlent.out w1 ok A c HB1.out.node HB1.out.okk Hno.out).mono ?_
  rintro e w2 ⟨A', c', rfl, hL2, hb2⟩
  have HE2 := Lib.hid (HE1.out.step hb2); have HB2 := Lib.hid (HB1.out.step hb2); have HL2 := Lib.hid hL2
  clear hb2 HB1 HE1 f0 f1 f2 f3 f4 f5 f6 f7 hL2
  go_upto_region 4 with fail
  generalize hW : w2.alloc _ = W3
  have hb3 : Below w2.heap.size w2 W3 := by subst hW; exact (Below.refl _ _).alloc (Nat.le_refl _) _
  have h8 : At8 W3 w2.heap.size 0 t A' c' := by subst hW; constructor <;> simp [go_sem]
  clear hW
  have HE3 := Lib.hid (HE2.out.step hb3); have HB3 := Lib.hid (HB2.out.step hb3)
  have hL3 := HL2.out.after (fun b h => h.2) hb3
  have HL3 := Lib.hid hL3
  have hX3 : Box W3 w2.heap.size t A' c' (fun b => w1.heap.size ≤ b ∧ b < w2.heap.size) := ⟨h8, hL3.node, fun b h => Nat.lt_of_lt_of_le h.2 hb3.size⟩
  have HX3 := Lib.hid hX3
  have HokL3 := Lib.hid (fun b (h : w1.heap.size ≤ b ∧ b < w2.heap.size) => Nat.lt_of_lt_of_le h.2 hb3.size)
  obtain ⟨f0, f1, f2, f3, f4, f5, f6, f7⟩ := h8
  clear hb3 hL3 hX3 HE2 HB2 HL2
  generalize w2.heap.size = q at *
  go_wp2_with fail
  refine (Hpr.out W3 _ A' c' HX3.out.node HX3.out.okk (fun _ => Hw.out) HE3.out.tb).mono ?_
  rintro e w4 ⟨rfl, hb4⟩
  have HE4 := Lib.hid (HE3.out.step hb4); have HB4 := Lib.hid (HB3.out.step hb4); have HX4 := Lib.hid (HX3.out.step hb4); have HL4 := Lib.hid (HL3.out.after HokL3.out hb4)
  clear hb4 HE3 HB3 HX3 HL3 f0 f1 f2 f3 f4 f5 f6 f7
  obtain ⟨f0, f1, f2, f3, f4, f5, f6, f7⟩ := HX4.out.at8
  go_wp2_with fail
  refine (Hpr.out w4 _ A' c' HX4.out.node HX4.out.okk (fun _ => Hw.out) HE4.out.tb).mono ?_
  rintro e w5 ⟨rfl, hb5⟩
  have HE5 := Lib.hid (HE4.out.step hb5); have HB5 := Lib.hid (HB4.out.step hb5); have HX5 := Lib.hid (HX4.out.step hb5); have HL5 := Lib.hid (HL4.out.after HX4.out.okk hb5)
  clear hb5 HE4 HB4 HX4 HL4 f0 f1 f2 f3 f4 f5 f6 f7
  obtain ⟨f0, f1, f2, f3, f4, f5, f6, f7⟩ := HB5.out.at8
  go_wp2_with fail
  refine (Hrp.out w5 _ A c HB5.out.node HB5.out.okk (fun _ => Hw.out)).mono ?_
  rintro e w6 ⟨rfl, hb6⟩
  have HE6 := Lib.hid (HE5.out.step hb6); have HB6 := Lib.hid (HB5.out.step hb6); have HX6 := Lib.hid (HX5.out.step hb6); have HL6 := Lib.hid (HL5.out.after HX5.out.okk hb6)
  clear hb6 HE5 HB5 HX5 HL5 f0 f1 f2 f3 f4 f5 f6 f7 Hpr Hrp
  generalize (printP t).1 = s at *
  generalize (printP t).2 = e0 at *
  generalize checkF t = e1 at *
  have hxn : (fun b => w1.heap.size ≤ b ∧ b < q) = (fun b => w1.heap.size ≤ b ∧ b < q) := rfl
  clear hxn
  have arm1 : ∀ w', Below w6.heap.size w6 w' → Calls Tryz.prog 46 #[nodeV t A' c'] w' fun e w'' => e = .returned (.int .i64 e1) ∧ Below w'.heap.size w' w'' := fun w' h =>
    Hpc.out w' _ A' c' (HX6.out.step h).node (HX6.out.step h).okk
  have arm2 : ∀ w', Below w6.heap.size w6 w' → Calls Tryz.prog 50 #[nodeV t A c] w' fun e w'' => e = .returned (.int .i64 e1) ∧ Below w'.heap.size w' w'' := fun w' h =>
    Hrc.out w' _ A c (HB6.out.step h).node (HB6.out.step h).okk
  have arm3 : ∀ w', Below w6.heap.size w6 w' → Calls Tryz.prog 51 #[nodeV t A' c', nodeV t A c] w' fun e w'' => e = .returned (.bool true) ∧ Below w'.heap.size w' w'' := fun w' h =>
    Hkept.out w' (fun b => b < w6.heap.size) A' A c' c ((HL6.out.mono (ok' := fun b => b < w6.heap.size) fun b hb => ⟨HX6.out.okk b hb, fun _ => rfl⟩).after (fun b hb => hb) h) ((HB6.out.node.mono (ok' := fun b => b < w6.heap.size) fun b hb => ⟨HB6.out.okk b hb, fun _ => rfl⟩).later h (fun b hb => hb)) (fun b hb => Nat.lt_of_lt_of_le hb h.size)
  have arm4 : ∀ w', Below w6.heap.size w6 w' → Calls Tryz.prog 24 #[] w' fun e w'' => e = .returned (.bool true) ∧ Below w'.heap.size w' w'' := fun w' h =>
    works10_any w' (HE6.out.step h).mx (HE6.out.step h).tb
  have Arm1 := Lib.hid arm1; have Arm2 := Lib.hid arm2; have Arm3 := Lib.hid arm3; have Arm4 := Lib.hid arm4
  clear arm1 arm2 arm3 arm4 Hpc Hrc Hkept Hlent
  have hself : (e1 == e1) = true := by simp
  have hself0 : (e0 == e0) = true := by simp
  have hB := Below.refl w6.heap.size w6
  obtain ⟨f0, f1, f2, f3, f4, f5, f6, f7⟩ := HX6.out.at8
  obtain ⟨g0, g1, g2, g3, g4, g5, g6, g7⟩ := HB6.out.at8
  simp only [Nat.zero_add] at f1 f2 f3 f4 f5 f6 f7 g1 g2 g3 g4 g5 g6 g7
  go_wp2_with fail
  go_region_held3 (fun w' => Below w6.heap.size w6 w' ∧ w'.cell? ⟨q, 0, none⟩ = some (.int .i64 t.k) ∧ w'.cell? ⟨q, 1, none⟩ = some (.int .u64 t.s0) ∧ w'.cell? ⟨q, 2, none⟩ = some (.int .u64 t.s1) ∧ w'.cell? ⟨q, 3, none⟩ = some (.int .u64 t.s2) ∧ w'.cell? ⟨q, 4, none⟩ = some (.int .u64 t.s3) ∧ w'.cell? ⟨q, 5, none⟩ = some (.int .i64 t.mn) ∧ w'.cell? ⟨q, 6, none⟩ = some (.int .i64 t.mx) ∧ w'.cell? ⟨q, 7, none⟩ = some (.slice A' t.ps.length c') ∧ w'.cell? ⟨w.heap.size, 0, none⟩ = some (.int .i64 t.k) ∧ w'.cell? ⟨w.heap.size, 1, none⟩ = some (.int .u64 t.s0) ∧ w'.cell? ⟨w.heap.size, 2, none⟩ = some (.int .u64 t.s1) ∧ w'.cell? ⟨w.heap.size, 3, none⟩ = some (.int .u64 t.s2) ∧ w'.cell? ⟨w.heap.size, 4, none⟩ = some (.int .u64 t.s3) ∧ w'.cell? ⟨w.heap.size, 5, none⟩ = some (.int .i64 t.mn) ∧ w'.cell? ⟨w.heap.size, 6, none⟩ = some (.int .i64 t.mx) ∧ w'.cell? ⟨w.heap.size, 7, none⟩ = some (.slice A t.ps.length c))
    (first
      | ((try go_split_ands); refine keep16 (by assumption) ?_ ?_ ?_ ?_ ?_ ?_ ?_ ?_ ?_ ?_ ?_ ?_ ?_ ?_ ?_ ?_ ?_ <;> assumption)
      | ((try go_split_ands); refine ⟨Below.drew (by assumption), ?_, ?_, ?_, ?_, ?_, ?_, ?_, ?_, ?_, ?_, ?_, ?_, ?_, ?_, ?_, ?_⟩ <;> (rw [World.cell?_drew]; assumption))
      | ((try go_split_ands); refine ⟨?_, ?_, ?_, ?_, ?_, ?_, ?_, ?_, ?_, ?_, ?_, ?_, ?_, ?_, ?_, ?_, ?_⟩ <;> assumption)
      | go_keep)
    (first
      | (go_at_call 46; (try go_split_ands); refine (Arm1.out _ (by assumption)).mono ?_; rintro e w' ⟨rfl, hb⟩)
      | (go_at_call 50; (try go_split_ands); refine (Arm2.out _ (by assumption)).mono ?_; rintro e w' ⟨rfl, hb⟩)
      | (go_at_call 51; (try go_split_ands); refine (Arm3.out _ (by assumption)).mono ?_; rintro e w' ⟨rfl, hb⟩)
      | (go_at_call 24; (try go_split_ands); refine (Arm4.out _ (by assumption)).mono ?_; rintro e w' ⟨rfl, hb⟩))
  go_split_ands
  rename_i hfin _ _ _ _ _ _ _ _ _ _ _ _ _ _ _ _
  go_wp2_with fail
  go_ret
  exact ⟨rfl, (HE6.out.step hfin).bl⟩
end Go.Proofs.YthlakbjnmbddaaaGreatDoor

/- vouchlaw10.PatternBack: walked. -/
set_option linter.unusedVariables false
set_option linter.unusedSimpArgs false
namespace Go.Proofs.YthlakbjnmbddaaaGreatDoor
open Go.RowKit

set_option maxRecDepth 100000 in
set_option maxHeartbeats 4000000 in
theorem pback_any (w : World) (hM : MaxOk w) (hT : TabIn w.heap.size w) (t : T) (ok : Nat → Prop) (A : Option Addr) (c : Nat) (hN : NodeAt w ok t A c) (hok : ∀ b, ok b → b < w.heap.size) (hw : Words t) :
    Calls Tryz.prog 28 #[nodeV t A c] w fun e w' => e = .returned (.bool true) ∧ Below w.heap.size w w' := by
  have HE := Lib.hid (Env.start hM hT); have HN := Lib.hid hN; have Hok := Lib.hid hok; have Hw := Lib.hid hw
  have Hmany := Lib.hid (many_any 2500 (by omega) (by omega) t)
  have hcs := print_cases hw
  have Hpr := Lib.hid (print_any t)
  have Hpc := Lib.hid (pcheck_any t)
  have Hsame := Lib.hid (sameN_any t)
  clear hM hT hN hok hw
  go_enter Tryz.func28, Tryz.ntmps28
  go_upto_region 1 with fail
  generalize hW : w.alloc _ = W0
  have hb0 : Below w.heap.size w W0 := by subst hW; exact (Below.refl _ _).alloc (Nat.le_refl _) _
  have h8 : At8 W0 w.heap.size 0 t A c := by subst hW; constructor <;> simp [go_sem]
  clear hW
  have hB0 : Box W0 w.heap.size t A c ok := ⟨h8, HN.out.later hb0 Hok.out, fun b h => Nat.lt_of_lt_of_le (Hok.out b h) hb0.size⟩
  have HB0 := Lib.hid hB0
  have HE0 := Lib.hid (HE.out.step hb0)
  obtain ⟨f0, f1, f2, f3, f4, f5, f6, f7⟩ := h8
  clear hb0 hB0 HE HN Hok
  go_wp2_with fail
  refine (Hmany.out W0 ok A c HB0.out.node HB0.out.okk).mono ?_
  rintro e w1 ⟨rfl, hb1⟩
  have HE1 := Lib.hid (HE0.out.step hb1); have HB1 := Lib.hid (HB0.out.step hb1)
  clear hb1 HB0 HE0 f0 f1 f2 f3 f4 f5 f6 f7
  by_cases hm : 2500 < manyF 2500 t
  · go_wp2_with fail
    all_goals
      go_ret
      exact ⟨rfl, HE1.out.bl⟩
  have hm' : manyF 2500 t ≤ 2500 := by omega
  clear hm
  obtain ⟨f0, f1, f2, f3, f4, f5, f6, f7⟩ := HB1.out.at8
  generalize manyF 2500 t = mm at *
  clear Hmany
  go_wp2_with fail
  refine (Hpr.out w1 ok A c HB1.out.node HB1.out.okk (fun _ => Hw.out) HE1.out.tb).mono ?_
  rintro e w2 ⟨rfl, hb2⟩
  have HE2 := Lib.hid (HE1.out.step hb2); have HB2 := Lib.hid (HB1.out.step hb2)
  clear hb2 HB1 HE1 f0 f1 f2 f3 f4 f5 f6 f7
  rcases hcs with hp | ⟨hp, hc⟩ | ⟨hp, hq, hl⟩
  · rw [hp]
    clear hp
    go_wp2_with fail
    refine (works10_any w2 HE2.out.mx HE2.out.tb).mono ?_
    rintro e w3 ⟨rfl, hb3⟩
    go_wp2_with fail
    go_ret
    exact ⟨rfl, (HE2.out.step hb3).bl⟩
  · rw [hp]
    have Hc := Lib.hid hc
    obtain ⟨f0, f1, f2, f3, f4, f5, f6, f7⟩ := HB2.out.at8
    clear hp hc
    go_wp2_with fail
    refine (Hpc.out w2 ok A c HB2.out.node HB2.out.okk).mono ?_
    rintro e w3 ⟨rfl, hb3⟩
    rw [Hc.out]
    have HE3 := Lib.hid (HE2.out.step hb3)
    clear hb3 f0 f1 f2 f3 f4 f5 f6 f7
    go_wp2_with fail
    refine (works10_any w3 HE3.out.mx HE3.out.tb).mono ?_
    rintro e w4 ⟨rfl, hb4⟩
    go_wp2_with fail
    go_ret
    exact ⟨rfl, (HE3.out.step hb4).bl⟩
  · rw [hp]
    have Hq := Lib.hid hq
    clear hp hq
    generalize prT t = x at *
    have hsx : (bs x).size = x.length := by simp [bs, ByteArray.size]
    go_wp2_with fail
    refine (parse_par x w2 HE2.out.mx (fun _ => brC) (fun _ => dotC)).mono ?_
    intro en w3 hG
    obtain ⟨hb3, A', c', rfl, hN3⟩ := parse_is hG Hq.out
    have HE3 := Lib.hid (HE2.out.step hb3); have HB3 := Lib.hid (HB2.out.step hb3); have HN3 := Lib.hid hN3
    clear hG hb3 hN3 HB2 HE2
    go_upto_region 7 with fail
    generalize hW : w3.alloc _ = W4
    have hb4 : Below w3.heap.size w3 W4 := by subst hW; exact (Below.refl _ _).alloc (Nat.le_refl _) _
    have h8 : At8 W4 w3.heap.size 0 t A' c' := by subst hW; constructor <;> simp [go_sem]
    clear hW
    have HM4 := Lib.hid (Box.mk h8 (HN3.out.later hb4 (fun b h => h.2)) (fun b h => Nat.lt_of_lt_of_le h.2 hb4.size))
    have HE4 := Lib.hid (HE3.out.step hb4); have HB4 := Lib.hid (HB3.out.step hb4)
    obtain ⟨f0, f1, f2, f3, f4, f5, f6, f7⟩ := HB4.out.at8
    obtain ⟨g0, g1, g2, g3, g4, g5, g6, g7⟩ := h8
    clear hb4 HE3 HB3 HN3
    go_wp2_with fail
    refine (Hsame.out W4 _ ok A' A c' c HM4.out.node HB4.out.node HM4.out.okk HB4.out.okk).mono ?_
    rintro e w5 ⟨rfl, hb5⟩
    have HE5 := Lib.hid (HE4.out.step hb5)
    clear hb5 f0 f1 f2 f3 f4 f5 f6 f7 g0 g1 g2 g3 g4 g5 g6 g7
    go_wp2_with fail
    refine (works10_any w5 HE5.out.mx HE5.out.tb).mono ?_
    rintro e w6 ⟨rfl, hb6⟩
    go_wp2_with fail
    go_ret
    exact ⟨rfl, (HE5.out.step hb6).bl⟩
end Go.Proofs.YthlakbjnmbddaaaGreatDoor

/- vouchlaw10.PatternSets: walked. -/
set_option linter.unusedVariables false
set_option linter.unusedSimpArgs false
namespace Go.Proofs.YthlakbjnmbddaaaGreatDoor
open Go.RowKit

theorem right_set1 {S : W4} (h : Wok S) : rightF S.T = true ∧ Words S.T ∧ nodesF S.T ≤ 1 := fine_set h
theorem print_set {S : W4} (h : Wok S) : printP S.T = (setT S, 0) ∧ parseP (setT S) = .ok S.T := by
  obtain ⟨a, b, c⟩ := right_set1 h
  have hp : prT S.T = setT S := by rw [prT_eq]; rfl
  have hd : deepT S.T = 0 := by rw [deepT_eq]; rfl
  have hl := setT_short S
  have hc : checkF S.T = 0 := by
    unfold checkF
    rw [sizeF_min _ 2048 (by omega), if_neg (by omega), if_pos a]
  refine ⟨?_, ?_⟩
  · unfold printP
    rw [if_neg (by omega), hp, hd, if_pos ⟨by omega, by omega⟩]
  · have := parse_print a b (by rw [hp]; omega) (by rw [hd]; omega)
    rwa [hp] at this
set_option maxRecDepth 100000 in
set_option maxHeartbeats 8000000 in
theorem psets_any (w : World) (hM : MaxOk w) (hT : TabIn w.heap.size w) (S : W4) (hS : Wok S) :
    Calls Tryz.prog 25 #[S.V] w fun e w' => e = .returned (.bool true) ∧ Below w.heap.size w w' := by
  have HE := Lib.hid (Env.start hM hT)
  have HS := Lib.hid hS
  have Hps := Lib.hid (print_set hS)
  have Hshort := Lib.hid (setT_short S)
  have Hturn := Lib.hid (fun r hr h3 h4 => set_turn hS (r := r) hr h3 h4)
  have Hpr := Lib.hid (print_any S.T)
  have Hsame := Lib.hid (sameN_any S.T)
  clear hM hT hS
  go_enter Tryz.func25, Tryz.ntmps25
  go_upto_region 1 with fail
  generalize hW : w.alloc _ = W0
  have hb0 : Below w.heap.size w W0 := by subst hW; exact (Below.refl _ _).alloc (Nat.le_refl _) _
  have s4 : At4 W0 w.heap.size 0 S := by subst hW; constructor <;> simp [go_sem]
  have hz0 : w.heap.size < W0.heap.size := by subst hW; simp
  clear hW
  have HE0 := Lib.hid (HE.out.step hb0)
  have HS4 := Lib.hid s4
  obtain ⟨s0, s1, s2, s3⟩ := s4
  simp only [Nat.zero_add] at s1 s2 s3
  clear hb0 HE
  go_upto_region 2 with fail
  generalize hW : W0.alloc _ = W1
  obtain ⟨hb1, hB1⟩ := box_new (t := S.T) (leaf_at W0 S.T rfl (ok := fun _ => False)) (fun b h => h.elim) (w := W0) (W := W1) hW.symm
  have HE1 := Lib.hid (HE0.out.step hb1); have HB1 := Lib.hid hB1
  have H41 := Lib.hid (HS4.out.later hb1 hz0)
  obtain ⟨f0, f1, f2, f3, f4, f5, f6, f7⟩ := hB1.at8
  have hz1 : w.heap.size < W1.heap.size := Nat.lt_of_lt_of_le hz0 hb1.size
  clear hW hb1 hB1 HE0 HS4 s0 s1 s2 s3
  go_wp2_with fail
  refine (Hpr.out W1 _ none 0 HB1.out.node HB1.out.okk (fun _ => (right_set1 HS.out).2.1) HE1.out.tb).mono ?_
  rintro e2 w2 ⟨rfl, hb2⟩
  rw [Hps.out.1]
  have HE2 := Lib.hid (HE1.out.step hb2); have HB2 := Lib.hid (HB1.out.step hb2); have H42 := Lib.hid (H41.out.later hb2 hz1)
  have hz2 : w.heap.size < w2.heap.size := Nat.lt_of_lt_of_le hz1 hb2.size
  have Hq := Lib.hid Hps.out.2
  clear hb2 HE1 HB1 H41 f0 f1 f2 f3 f4 f5 f6 f7 Hps
  generalize setT S = x at *
  go_wp2_with fail
  refine (parse_par x w2 HE2.out.mx (fun _ => brC) (fun _ => dotC)).mono ?_
  intro en w3 hG
  obtain ⟨hb3, A', c', rfl, hN3⟩ := parse_is hG Hq.out
  have HE3 := Lib.hid (HE2.out.step hb3); have HB3 := Lib.hid (HB2.out.step hb3); have H43 := Lib.hid (H42.out.later hb3 hz2); have HN3 := Lib.hid hN3
  have hz3 : w.heap.size < w3.heap.size := Nat.lt_of_lt_of_le hz2 hb3.size
  clear hG hb3 hN3 HB2 HE2 H42
  go_upto_region 4 with fail
  generalize hW : w3.alloc _ = W4
  obtain ⟨hb4, hM4⟩ := box_new HN3.out (fun b h => h.2) (W := W4) hW.symm
  have HE4 := Lib.hid (HE3.out.step hb4); have HB4 := Lib.hid (HB3.out.step hb4); have HM4 := Lib.hid hM4; have H44 := Lib.hid (H43.out.later hb4 hz3)
  have hz4 : w.heap.size < W4.heap.size := Nat.lt_of_lt_of_le hz3 hb4.size
  clear hW hb4 hM4 HE3 HB3 HN3 H43
  obtain ⟨f0, f1, f2, f3, f4, f5, f6, f7⟩ := HB4.out.at8
  obtain ⟨g0, g1, g2, g3, g4, g5, g6, g7⟩ := HM4.out.at8
  go_wp2_with fail
  refine (Hsame.out W4 _ _ A' none c' 0 HM4.out.node HB4.out.node HM4.out.okk HB4.out.okk).mono ?_
  rintro e5 w5 ⟨rfl, hb5⟩
  have HE5 := Lib.hid (HE4.out.step hb5); have H45 := Lib.hid (H44.out.later hb5 hz4)
  have hz5 : w.heap.size < w5.heap.size := Nat.lt_of_lt_of_le hz4 hb5.size
  clear hb5 HE4 HB4 HM4 H44 f0 f1 f2 f3 f4 f5 f6 f7 g0 g1 g2 g3 g4 g5 g6 g7
  have hsx : (bs x).size = x.length := by simp [bs, ByteArray.size]
  have hlx : x.length ≤ 300 := Hshort.out
  by_cases h3 : x.length < 3
  · go_wp2_with fail
    refine (works10_any w5 HE5.out.mx HE5.out.tb).mono ?_
    rintro e6 w6 ⟨rfl, hb6⟩
    go_wp2_with fail
    go_ret
    exact ⟨rfl, (HE5.out.step hb6).bl⟩
  obtain ⟨c, d, q, rfl⟩ : ∃ c d q, x = c :: d :: q := by
    match x, h3 with
    | c :: d :: q, _ => exact ⟨c, d, q, rfl⟩
    | [], h => simp at h
    | [_], h => simp at h
  have hq1 : q.length ≤ 298 := by simp only [List.length_cons] at hlx; omega
  have hq2 : 1 ≤ q.length := by simp only [List.length_cons] at h3; omega
  have H3 := Lib.hid h3
  clear hlx h3
  have i0 : ∀ hh, ((bs (c :: d :: q))[0]'hh) = c := fun _ => rfl
  have i1 : ∀ hh, ((bs (c :: d :: q))[1]'hh) = d := fun _ => rfl
  by_cases hc : c = 91
  case neg =>
    have hc0 : c.toNat ≠ 91 := fun e => hc (UInt8.toNat_inj.1 e)
    have hc' : ((c.toNat : Int) != 91) = true := by rw [bne_iff_ne]; omega
    clear hc hc0
    clear i1 Hturn
    go_wp2_with fail
    all_goals
      refine (works10_any w5 HE5.out.mx HE5.out.tb).mono ?_
      rintro e6 w6 ⟨rfl, hb6⟩
      go_wp2_with fail
      go_ret
      exact ⟨rfl, (HE5.out.step hb6).bl⟩
  subst hc
  by_cases hd : d = 94
  · subst hd
    clear Hturn
    go_wp2_with fail
    all_goals
      refine (works10_any w5 HE5.out.mx HE5.out.tb).mono ?_
      rintro e6 w6 ⟨rfl, hb6⟩
      go_wp2_with fail
      go_ret
      exact ⟨rfl, (HE5.out.step hb6).bl⟩
  have hd0 : d.toNat ≠ 94 := fun e => hd (UInt8.toNat_inj.1 e)
  have hd' : ((d.toNat : Int) == 94) = false := by rw [beq_eq_false_iff_ne]; omega
  have Hturn := Lib.hid (Hturn.out (d :: q) rfl (by have := H3.out; omega) (by simpa using hd))
  have ht : (bs (91 :: d :: q)).extract 1 (q.length + 1 + 1) = bs (d :: q) := bs_tail 91 (d :: q)
  have sq : (bs (d :: q)).size = q.length + 1 := by simp [bs, ByteArray.size]
  have c1 : bs [91, 94] ++ bs (d :: q) = bs (91 :: 94 :: d :: q) := bs_cat _ _
  clear hd hd0
  go_wp2_with fail
  all_goals
    refine (parse_par (91 :: 94 :: d :: q) w5 HE5.out.mx (fun _ => brC) (fun _ => dotC)).mono ?_
    intro en w6 hG
    obtain ⟨hb6, A6, c6, rfl, hN6⟩ := parse_is hG Hturn.out
    have HE6 := Lib.hid (HE5.out.step hb6); have H46 := Lib.hid (H45.out.later hb6 hz5); have HN6 := Lib.hid hN6
    have hz6 : w.heap.size < w6.heap.size := Nat.lt_of_lt_of_le hz5 hb6.size
    clear hG hb6 hN6 HE5 H45 ht c1
    go_upto_region 9 with fail
    generalize hW : w6.alloc _ = W7
    obtain ⟨hb7, hM7⟩ := box_new HN6.out (fun b h => h.2) (W := W7) hW.symm
    have HE7 := Lib.hid (HE6.out.step hb7); have H47 := Lib.hid (H46.out.later hb7 hz6)
    obtain ⟨g0, g1, g2, g3, g4, g5, g6, g7⟩ := hM7.at8
    obtain ⟨s0, s1, s2, s3⟩ := H47.out
    simp only [Nat.zero_add] at s1 s2 s3
    clear hW hb7 hM7 HE6 H46 HN6
    have g1' : W7.cell? ⟨w6.heap.size, 0 + 1, none⟩ = some (.int .u64 (notI S.a)) := g1
    have g2' : W7.cell? ⟨w6.heap.size, 0 + 2, none⟩ = some (.int .u64 (notI S.b)) := g2
    have g3' : W7.cell? ⟨w6.heap.size, 0 + 3, none⟩ = some (.int .u64 (notI S.c)) := g3
    have g4' : W7.cell? ⟨w6.heap.size, 0 + 4, none⟩ = some (.int .u64 (notI S.d)) := g4
    have k0 := xor_not HS.out.a; have k1 := xor_not HS.out.b; have k2 := xor_not HS.out.c; have k3 := xor_not HS.out.d
    have k4 : eq4 (notI S.a) (notI S.b) (notI S.c) (notI S.d) (bits BinOp.xor IntKind.u64 IntKind.u64.max S.a) (bits BinOp.xor IntKind.u64 IntKind.u64.max S.b) (bits BinOp.xor IntKind.u64 IntKind.u64.max S.c) (bits BinOp.xor IntKind.u64 IntKind.u64.max S.d) = true := by rw [eq4_iff]; exact ⟨k0.symm, k1.symm, k2.symm, k3.symm⟩
    clear g1 g2 g3 g4 k0 k1 k2 k3
    generalize notI S.a = na at *
    generalize notI S.b = nb at *
    generalize notI S.c = nc at *
    generalize notI S.d = nd at *
    go_wp2_with fail
    refine (works10_any W7 HE7.out.mx HE7.out.tb).mono ?_
    rintro e8 w8 ⟨rfl, hb8⟩
    go_wp2_with fail
    go_ret
    exact ⟨rfl, (HE7.out.step hb8).bl⟩
end Go.Proofs.YthlakbjnmbddaaaGreatDoor

/- vouchlaw10.PatternKnown: walked. -/
set_option linter.unusedVariables false
set_option linter.unusedSimpArgs false
namespace Go.Proofs.YthlakbjnmbddaaaGreatDoor
open Go.RowKit

theorem k_reads : KS 21 := fun w h x hx => preads_any w h.mx h.tb x (by unfold maxLen; omega)
theorem k_once : KS 22 := fun w h x hx => ponce_any w h.mx h.tb x (by unfold maxLen; omega)
theorem k_joins : KSS 23 := fun w h x y hx hy => pjoins_any w h.mx h.tb x (by unfold maxLen; omega) y (by unfold maxLen; omega)
theorem k_tells : KN 27 := fun w h x hx hw => ptells_any w h.mx h.tb x.1 _ x.2.1 x.2.2 hx (fun b hb => hb) hw
theorem k_back : KN 28 := fun w h x hx hw => pback_any w h.mx h.tb x.1 _ x.2.1 x.2.2 hx (fun b hb => hb) hw
theorem k_sets : KB 25 := fun w h S hS => psets_any w h.mx h.tb S hS
theorem k_works : K0 24 := fun w h => works10_any w h.mx h.tb
set_option maxRecDepth 100000 in
set_option maxHeartbeats 2000000 in
theorem pknown_any (w : World) (hM : MaxOk w) (hT : TabIn w.heap.size w) : Calls Tryz.prog 4 #[] w fun e w' => e = .returned (.bool true) ∧ Below w.heap.size w w' := by
  have HE := Lib.hid (KEnv.mk hM hT)
  have H1 := Lib.hid (kshown_any k_reads k_once k_joins k_works)
  have H2 := Lib.hid (kbytes_any k_reads k_once k_sets k_works)
  have H3 := Lib.hid (kbeside_any k_reads)
  have H4 := Lib.hid (klimits_any k_reads k_once k_tells k_back k_works)
  have H5 := Lib.hid (ktrees_any k_tells k_back k_works)
  clear hM hT
  go_enter Tryz.func4, Tryz.ntmps4
  go_wp2_with fail
  refine (H1.out w HE.out).mono ?_
  rintro e w1 ⟨rfl, hb1⟩
  have HB1 := Lib.hid hb1
  clear hb1
  go_wp2_with fail
  refine (H2.out w1 (HE.out.step HB1.out)).mono ?_
  rintro e w2 ⟨rfl, hb2⟩
  have HB2 := Lib.hid (HB1.out.trans (hb2.mono HB1.out.size))
  clear hb2
  go_wp2_with fail
  refine (H3.out w2 (HE.out.step HB2.out)).mono ?_
  rintro e w3 ⟨rfl, hb3⟩
  have HB3 := Lib.hid (HB2.out.trans (hb3.mono HB2.out.size))
  clear hb3
  go_wp2_with fail
  refine (H4.out w3 (HE.out.step HB3.out)).mono ?_
  rintro e w4 ⟨rfl, hb4⟩
  have HB4 := Lib.hid (HB3.out.trans (hb4.mono HB3.out.size))
  clear hb4
  go_wp2_with fail
  refine (H5.out w4 (HE.out.step HB4.out)).mono ?_
  rintro e w5 ⟨rfl, hb5⟩
  go_wp2_with fail
  go_ret
  exact ⟨rfl, HB4.out.trans (hb5.mono HB4.out.size)⟩
end Go.Proofs.YthlakbjnmbddaaaGreatDoor

/- Arguments opened: machines. -/
set_option linter.unusedVariables false
set_option linter.unusedSimpArgs false
namespace Go.Proofs.YthlakbjnmbddaaaGreatDoor
open Go.RowKit Go.ChangeShapes Go.WideShapes Go.Deep

section
variable {H : Type} {enc : TypeId × Value → H} {P : Program} {tSt tSts tNfa tSet tI tU : TypeId} {w : World} {base : Nat} {spare : Nat → Bool} {held : Bool}
/-- What the program says of the types. -/
structure Types (P : Program) (tSt tSts tNfa tSet tI tU : TypeId) : Prop where
  set : P.underlying tSet = some (.array 4 tU)
  u : P.underlying tU = some (.int .u64)
  i : P.underlying tI = some (.int .i64)
  sts : P.underlying tSts = some (.slice tSt)
  st : ∃ f0 f1 f2 f3, P.underlying tSt = some (.struct #[f0, f1, f2, f3]) ∧ (f0.type = tI ∧ f0.offset = 0) ∧ (f1.type = tSet ∧ f1.offset = 1) ∧ (f2.type = tI ∧ f2.offset = 5) ∧ (f3.type = tI ∧ f3.offset = 6)
  nfa : ∃ f0 f1, P.underlying tNfa = some (.struct #[f0, f1]) ∧ (f0.type = tSts ∧ f0.offset = 0) ∧ (f1.type = tI ∧ f1.offset = 1)
  cSet : P.cellsOf tSet = 4
  cU : P.cellsOf tU = 1
  cI : P.cellsOf tI = 1
  cSts : P.cellsOf tSts = 1
  cSt : P.cellsOf tSt = 7
  cNfa : P.cellsOf tNfa = 2
  bSt : P.bytesOf tSt = 56
end
end Go.Proofs.YthlakbjnmbddaaaGreatDoor

/- Arguments opened: trees. -/
set_option linter.unusedVariables false
set_option linter.unusedSimpArgs false
namespace Go.Proofs.YthlakbjnmbddaaaGreatDoor
open Go.RowKit Go.ChangeShapes Go.WideShapes Go.Deep

section
variable {H : Type} {enc : TypeId × Value → H} {P : Program} {tSt tSts tNfa tSet tI tU tN tNs : TypeId} {w : World} {base : Nat} {spare : Nat → Bool} {held : Bool}
/-- What the program says of the types of trees. -/
structure TypesT (P : Program) (tN tNs tSet tI : TypeId) : Prop where
  ns : P.underlying tNs = some (.slice tN)
  n : ∃ f0 f1 f2 f3 f4, P.underlying tN = some (.struct #[f0, f1, f2, f3, f4]) ∧ (f0.type = tI ∧ f0.offset = 0) ∧ (f1.type = tSet ∧ f1.offset = 1) ∧ (f2.type = tI ∧ f2.offset = 5) ∧ (f3.type = tI ∧ f3.offset = 6) ∧ (f4.type = tNs ∧ f4.offset = 7)
  cN : P.cellsOf tN = 8
  cNs : P.cellsOf tNs = 1
  bN : P.bytesOf tN = 80
end
end Go.Proofs.YthlakbjnmbddaaaGreatDoor

/- The wrap for a row that lists variables: the contract gets the listed variables' fact and the world's shape. What the three tables give the walk. -/
set_option linter.unusedVariables false
set_option linter.unusedSimpArgs false
namespace Go.Proofs.YthlakbjnmbddaaaGreatDoor
open Go.RowKit

section
variable {H : Type} {enc : TypeId × Value → H}
theorem handed_laid {a : Assume} {C : Checked} {os : Os} {f : FuncId} {fn : Func} {s : ChangeSpec} {conds : List PathCond} {apart fresh handsOn again : Bool} {X : World → Prop}
    (hX : ∀ (w w' : World), w.heap = w'.heap → X w → X w')
    (own : ownKnob C.prog.godebug = none) (started : os.Started) (noInit : C.prog.inits.idxOf? f = none) (hfn : C.prog.funcs[f]? = some fn)
    (witness : ∃ (w : World) (tape : Tape) (i : Input), w.os = os ∧ (w.forCall tape i).Shaped C.prog ∧ i.vars = [] ∧ Input.okWide C.prog (w.forCall tape i) .any w.heap.size f i ∧
      ((s.pre enc C.prog fn conds apart (w.forCall tape i).memory i.args ∧ X (w.forCall tape i).memory) ∧ sizedMet enc C.prog fn (OpenSpec.ofChange s) apart (w.forCall tape i).memory i.args) ∧ a.holds C.prog (lone (Frame.enter C.prog f i.args .normal) [] (w.forCall tape i)))
    (contract : ∀ (W : World) (args : Array Value) (ds gs : List (DataW H)) (before : List MemPlace) (base : Nat),
      (∀ (j : Nat) t v, fn.params[j]? = some t → args[j]? = some v → Value.okWide C.prog W .any base t v) →
      DataW.Whole enc C.prog fn.params.toList s.vars apart W args.toList ds gs before →
      (DataW.weightsEach C.prog (fn.params.toList ++ s.plain.varTypes C.prog) (ds ++ gs)).all (· ≤ reachBytes) = true → X W → W.ShapedOpen C.prog →
      Calls C.prog f args W fun e W' => ∃ v, e = .returned v ∧ s.post enc C.prog fn apart fresh handsOn again W args v W') :
    ReturnsInHanded a C os f .any (fun w args => (s.pre enc C.prog fn conds apart w args ∧ X w) ∧ sizedMet enc C.prog fn (OpenSpec.ofChange s) apart w args) (s.post enc C.prog fn apart fresh handsOn again) := by
  refine returnsInHanded_of_calls own started noInit witness ?_
  intro w tape i _ hshape _ hin hpre _
  obtain ⟨_, _, _, fn', hfn', _, _, _, _, hvals⟩ := hin
  obtain rfl : fn' = fn := Option.some.inj (hfn'.symm.trans hfn)
  obtain ⟨⟨⟨ds, gs, before, hW, _⟩, hx⟩, hsz⟩ := hpre
  refine (contract (w.forCall tape i) i.args ds gs before w.heap.size hvals (DataW.Whole.of_heap (w' := w.forCall tape i) (by rfl) hW) (hsz.weights hW) (hX _ _ (by rfl) hx) hshape).mono ?_
  rintro e W' ⟨v, rfl, hpost⟩
  exact ChangeSpec.post_blind hpost
end

def laid3 : List (String × DataW Unit) := [("math/bits.deBruijn32tab", Rows.laid_math_bits_deBruijn32tab), ("math/bits.deBruijn64tab", Rows.laid_math_bits_deBruijn64tab), ("internal/strconv.uint64pow10", Rows.laid_internal_strconv_uint64pow10)]
theorem pow10_is : (Rows.laid_internal_strconv_uint64pow10 : DataW Unit) = Lib.tabData .u64 Lib.pow10Tab := by kernel_rfl
theorem tab_of_laid {W : World} (h : laidMetH Tryz.prog laid3 W) : TabIn W.heap.size W := by
  rw [MakeChecks.laidMetH_plain _ _ _ (by kernel_rfl)] at h
  have h2 := (laidMet.tail (laidMet.tail h))
  rw [pow10_is] at h2
  have hT := Lib.tabIs_of_head (g := 1) (t := 158) (e := 26) (n := 20) (by kernel_rfl) (by kernel_rfl) (by kernel_rfl) (by kernel_rfl) (by kernel_rfl) (by kernel_rfl) h2
  refine ⟨hT, fun g hg => ?_⟩
  unfold Lib.TabIs World.var? at hT
  rw [hg, Option.bind_some] at hT
  rcases Nat.lt_or_ge g W.heap.size with h | h
  · exact h
  · rw [show W.heap[g]? = none from Array.getElem?_eq_none h] at hT
    cases hT
theorem laid_start (os : Os) (args : Array Value) : laidMetH Tryz.prog laid3 ((World.laidAll Tryz.prog os laid3).forCall (fun _ _ => 0) ⟨#[], args, []⟩).memory := by
  rw [MakeChecks.laidMetH_plain _ _ _ (by kernel_rfl)]
  exact laidMet_laidAll _ (by kernel_rfl) (by kernel_rfl)
theorem laid_shaped (os : Os) (args : Array Value) : ((World.laidAll Tryz.prog os laid3).forCall (fun _ _ => 0) ⟨#[], args, []⟩).Shaped Tryz.prog := World.shaped_of_ZipB (by kernel_rfl) (by kernel_rfl)
end Go.Proofs.YthlakbjnmbddaaaGreatDoor

/- PatternKnown holds: whatever comes in, the call of the law returns true, and what came in reads as it read; the listed variables tied tu the text of the program. -/
set_option linter.unusedVariables false
set_option linter.unusedSimpArgs false
namespace Go.Proofs.YthlakbjnmbddaaaGreatDoor
open Go.ChangeShapes Go.WideShapes Go.ChangeAt Go.RowKit
open Go.ChangeMaps (open_string shut_string)

theorem own : ownKnob Tryz.prog.godebug = none := by kernel_rfl
set_option maxRecDepth 100000 in
theorem patternKnown_lifted (os : Os) (started : os.Started) (H : Type) (enc : TypeId × Value → H) :
    ReturnsInHanded {} Tryz.checked os 4 .any (fun w args => (Rows.patternKnownSpec.pre enc Tryz.prog Tryz.f4 Rows.patternKnownRow.domain false w args ∧ laidMetH Tryz.prog laid3 w) ∧ sizedMet enc Tryz.prog Tryz.f4 (OpenSpec.ofChange Rows.patternKnownSpec) false w args) (Rows.patternKnownSpec.post enc Tryz.prog Tryz.f4 false true false false) := by
  refine handed_laid (C := Tryz.checked) (X := fun w => laidMetH Tryz.prog laid3 w) (fun _ _ hh h => h.of_heap hh) own started (by kernel_rfl) Tryz.func4
    (ChangeSpec.witness_shaped (enc := enc) (C := Tryz.checked) (os := os) (X := fun w _ => laidMetH Tryz.prog laid3 w) false (World.laidAll Tryz.prog os laid3) #[] 8 (World.laidAll_os _ _ _) (laid_shaped os _) (by kernel_rfl) (by kernel_rfl) (by kernel_rfl) (laid_start os _)) ?_
  intro W args ds gs before base hval0 hW hwz hL hsh
  have hM : MaxOk W := Tryz.laysM219.s1_3 W hsh
  have hT : TabIn W.heap.size W := tab_of_laid hL
  have hval : ∀ (j : Nat) t v, Tryz.f4.params[j]? = some t → args[j]? = some v → Value.okWide Tryz.prog W .any base t v := hval0
  have hW' := hW
  obtain ⟨p, q, hA0, hV, rfl, hfz, hnd⟩ := hW
  have hA : DataW.TrodAll enc Tryz.prog W 0 (fun _ => true) true Tryz.f4.params.toList args.toList ds p := hA0
  have hwz' : (DataW.weightsEach Tryz.prog (Tryz.f4.params.toList ++ Rows.patternKnownSpec.plain.varTypes Tryz.prog) (ds ++ gs)).all (· ≤ reachBytes) = true := hwz
  rw [Tryz.params4] at hA hval hwz'
  obtain ⟨hargs, rfl, rfl⟩ := trodAll_nil hA
  obtain rfl : args = #[] := by cases args; simp_all
  obtain ⟨rfl, rfl⟩ := trodVars_none hV
  clear hA0 hval0 hwz hwz'
  have hcall := pknown_any W hM hT 
  refine hcall.mono fun e W' ⟨he, bel⟩ => ?_
  subst he
  exact ⟨_, rfl, _, _, _, [], _, [], hW', trodAll_mk1 (shut_bool Tryz.underlying4 _), trodAll_mk0, rfl, bel.frame _, fun h => by cases h⟩

theorem patternKnown_over : Rows.patternKnownRow.holds Tryz.pinned (OpenSpec.ofChange Rows.patternKnownSpec) :=
  OpenClaim.holds_of_wide 4 Tryz.f4 rfl rfl rfl rfl rfl rfl rfl ⟨rfl, rfl, rfl, rfl, rfl⟩ rfl rfl rfl rfl rfl (by kernel_rfl) Tryz.func4 (by kernel_rfl)
    (of_decide_eq_true (by kernel_rfl)) (by unfold Func.isWrapper; first | (rw [if_pos (by decide +kernel)]; kernel_rfl) | (rw [if_neg (by decide +kernel)]; exact ⟨rfl, rfl⟩))
    (fun os started H enc _ => patternKnown_lifted os started H enc)

/-- The statement: the card. -/
theorem patternKnown_holds : Rows.PatternKnownCardSaid :=
  Claim7.holds_tied_plain_at .later [] [.data, .data, .data] true (true, "ea75806a8f15080a3f5ef3fcf2a6150eddcf08482ab2a6250ba1a3dc45a4f509") false
    patternKnown_over (fun _ h => by cases h) (by kernel_rfl) (fun _ h => by cases h) patternKnown_row_tie rfl ⟨rfl, rfl⟩ (by kernel_rfl) rfl
    (fun f fn hf hfn => by
      obtain rfl : f = 4 := Option.some.inj ((show Tryz.prog.funcNamed "vouch/vouchlaw10.PatternKnown" = some 4 by kernel_rfl).symm.trans hf) |>.symm
      obtain rfl : fn = Tryz.f4 := (Option.some.inj (Tryz.func4.symm.trans hfn)).symm
      exact ⟨by kernel_rfl, fun j t ht => by
        rw [Tryz.params4] at ht
        simp at ht⟩)
    (by kernel_rfl)
end Go.Proofs.YthlakbjnmbddaaaGreatDoor

