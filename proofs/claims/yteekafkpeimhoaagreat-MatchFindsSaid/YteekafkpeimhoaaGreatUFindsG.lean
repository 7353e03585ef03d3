/- MatchFinds holds: whatever comes in, the call of the law returns true, and what came in reads as it read. -/
import Derived.Test.YteekafkpeimhoaaGreatUFindsA
import Derived.Test.YteekafkpeimhoaaGreatUFindsB
import Derived.Test.YteekafkpeimhoaaGreatUFindsC
import Derived.Test.YteekafkpeimhoaaGreatUFindsD
import Derived.Test.YteekafkpeimhoaaGreatUFindsE
import Derived.Test.YteekafkpeimhoaaGreatUFindsF
import Derived.HandedShaped
import Derived.ShutString
import Derived.Below
import Derived.Carry
/- vouchlaw12.works: walked. -/
set_option linter.unusedVariables false
set_option linter.unusedSimpArgs false
namespace Go.Proofs.YteekafkpeimhoaaGreat
open Go.RowKit

theorem fw1 : findF [97, 36] [98, 97] = (true, 5, 0) := by kernel_rfl
theorem fw2 : findF [94, 97] [98, 97] = (false, 4, 0) := by kernel_rfl
theorem fw3 : (findF [40, 97, 98, 41, 43, 99] [120, 97, 98, 97, 98, 99]).1 = true := by kernel_rfl
theorem fw3' : (findF [40, 97, 98, 41, 43, 99] [120, 97, 98, 97, 98, 99]).2.2 = 0 := by kernel_rfl
theorem fw4 : (findF [97, 40] []).2.2 = 100 := by kernel_rfl
theorem fw5 : hasF [] 0 [] = (false, 0, 110) := by kernel_rfl
set_option maxRecDepth 100000 in
set_option maxHeartbeats 2000000 in
theorem works12_any (w : World) (hM : MaxOk w) :
    Calls Tryz.prog 10 #[] w fun en w' => en = .returned (.bool true) ∧ Below w.heap.size w w' := by
  go_enter Tryz.func10, Tryz.ntmps10
  go_wp2_with fail
  refine (find_any [97, 36] [98, 97] w hM (by simp) (by simp)).mono ?_
  rintro en w1 ⟨rfl, hb1⟩
  have hz1 := hb1.size
  have hM1 := hM.later hb1
  rw [fw1]
  go_wp2_with fail
  refine (find_any [94, 97] [98, 97] w1 hM1 (by simp) (by simp)).mono ?_
  rintro en w2 ⟨rfl, hb2⟩
  have hz2 := hb2.size
  have hM2 := hM1.later hb2
  rw [fw2]
  go_wp2_with fail
  refine (find_any [40, 97, 98, 41, 43, 99] [120, 97, 98, 97, 98, 99] w2 hM2 (by simp) (by simp)).mono ?_
  rintro en w3 ⟨rfl, hb3⟩
  have hz3 := hb3.size
  have hM3 := hM2.later hb3
  rw [fw3, fw3']
  go_wp2_with fail
  refine (find_any [97, 40] [] w3 hM3 (by simp) (by simp)).mono ?_
  rintro en w4 ⟨rfl, hb4⟩
  have hz4 := hb4.size
  rw [fw4]
  go_wp2_with fail
  refine (has_any w4 (fun b => b < w4.heap.size) [] 0 none 0 ⟨by simp, by simp, fun _ => rfl, fun h => by simp at h⟩ (fun b h => h) []).mono ?_
  rintro en w5 ⟨rfl, hb5⟩
  rw [fw5]
  go_wp2_with fail
  exact bodyPost_ret (v := .bool true) (by simp [results, Tryz.results10, go_sem]) rfl ⟨rfl, hb1.trans ((hb2.mono hz1).trans ((hb3.mono (by omega)).trans ((hb4.mono (by omega)).trans (hb5.mono (by omega)))))⟩
end Go.Proofs.YteekafkpeimhoaaGreat

/- The law MatchFinds: walked. -/
set_option linter.unusedVariables false
set_option linter.unusedSimpArgs false
namespace Go.Proofs.YteekafkpeimhoaaGreat
open Go.RowKit

/-- A machine in a box, its states in a row of their own. -/
structure Mch (W : World) (b base : Nat) (l : List St) (sa : Int) (A : Option Addr) (c : Nat) : Prop where
  box : At2 W b (.slice A l.length c) sa
  blt : b < W.heap.size
  own : W.ownsRow base 45 7 (.slice A l.length c) l.length (stCells l)
theorem Mch.later {W W' : World} {b base : Nat} {l : List St} {sa : Int} {A : Option Addr} {c : Nat} (h : Mch W b base l sa A c) (hb : Below W.heap.size W W') : Mch W' b base l sa A c :=
  ⟨h.box.later hb h.blt, Nat.lt_of_lt_of_le h.blt hb.size, own_later h.own hb⟩
theorem Mch.spoil {W W' : World} {b base : Nat} {l : List St} {sa : Int} {A : Option Addr} {c : Nat} (h : Mch W b base l sa A c) {r : Option Nat} (hs : Spoils r W W') {B : Nat} (hr : ∀ k, B ≤ k → some k ≠ r) (hb : B ≤ b) (hB : B ≤ base) : Mch W' b base l sa A c :=
  ⟨⟨(hs.cell h.blt (hr b hb)).trans h.box.f0, (hs.cell h.blt (hr b hb)).trans h.box.f1⟩, Nat.lt_of_lt_of_le h.blt hs.size, hs.own h.own (fun k hk => hr k (Nat.le_trans hB (h.own.lt k hk).1))⟩
theorem Mch.box_new {w1 W : World} {l : List St} {sa : Int} {A : Option Addr} {c base : Nat} (ho : w1.ownsRow base 45 7 (.slice A l.length c) l.length (stCells l)) (hW : W = w1.alloc (.cells #[.slice A l.length c, .int .i64 sa] 24)) : Mch W w1.heap.size base l sa A c := by
  have hb : Below w1.heap.size w1 W := by subst hW; exact (Below.refl _ _).alloc (Nat.le_refl _) _
  refine ⟨?_, by subst hW; simp, own_later ho hb⟩
  subst hW
  constructor <;> simp [go_sem]
theorem find_any2 (s subj : Bs) (w : World) (hM : MaxOk w) :
    Calls Tryz.prog 5 #[.string (bs s), .string (bs subj)] w fun en w' => en = .returned (.tuple #[.bool (findF s subj).1, .int .i64 (findF s subj).2.1, .int .i64 (findF s subj).2.2]) ∧ Below w.heap.size w w' := find_any s subj w hM (fun _ => brC) (fun _ => dotC)
theorem same_self (w : World) (l : List St) (sa : Int) {b1 b2 p1 p2 : Nat} {A1 A2 : Option Addr} {c1 c2 : Nat} (h1 : Mch w b1 p1 l sa A1 c1) (h2 : Mch w b2 p2 l sa A2 c2) (hl : l.length ≤ 4096) :
    Calls Tryz.prog 8 #[nfaV l sa A1 c1, nfaV l sa A2 c2] w fun e w' => e = .returned (.bool true) ∧ Below w.heap.size w w' := by
  have := same_any w _ l l sa sa A1 A2 c1 c2 (sts_all h1.own hl) (sts_all h2.own hl) (fun b h => h)
  rw [sameM_self] at this
  exact this
set_option maxRecDepth 100000 in
set_option maxHeartbeats 8000000 in
theorem mfinds_any (w : World) (hM : MaxOk w) (a : Bs) (hal : a.length ≤ maxLen) (s : Bs) (hsl : s.length ≤ maxLen) :
    Calls Tryz.prog 3 #[.string (bs a), .string (bs s)] w fun e w' => e = .returned (.bool true) ∧ Below w.heap.size w w' := by
  unfold maxLen at hal hsl
  have hsz0 : (bs a).size = a.length := by simp [bs, ByteArray.size]
  have hsz1 : (bs s).size = s.length := by simp [bs, ByteArray.size]
  by_cases b1 : 4096 < (a.length : Int)
  · go_enter Tryz.func3, Tryz.ntmps3
    go_wp2_with fail
    exact bodyPost_ret (v := .bool true) (by simp [results, Tryz.results3, go_sem]) rfl ⟨rfl, Below.refl _ _⟩
  by_cases b2 : 200 < (s.length : Int)
  · go_enter Tryz.func3, Tryz.ntmps3
    go_wp2_with fail
    exact bodyPost_ret (v := .bool true) (by simp [results, Tryz.results3, go_sem]) rfl ⟨rfl, Below.refl _ _⟩
  have HM := Lib.hid hM; clear hM
  have hl := compL_le a
  have hC := fun w hM => comp_any a w hM (fun _ => brC) (fun _ => dotC)
  have hR := fun w => rcomp_any a w
  have hF := fun w hM => find_any2 a s w hM
  have hG := fun w => rfind_any a s w
  have hS := fun (w : World) {b1 b2 p1 p2 : Nat} {A1 A2 : Option Addr} {c1 c2 : Nat} (h1 : Mch w b1 p1 (compL a) (compS a) A1 c1) (h2 : Mch w b2 p2 (compL a) (compS a) A2 c2) => same_self w (compL a) (compS a) h1 h2 hl
  have hP := fun (w : World) (base : Nat) (A : Option Addr) (c : Nat) (ho : w.ownsRow base 45 7 (.slice A (compL a).length c) (compL a).length (stCells (compL a))) (hb : base ≤ w.heap.size) => spoil_any w (compL a) (compS a) base A c ho hb (by omega)
  generalize compL a = l at *
  generalize compS a = sa at *
  generalize compE a = ea at *
  generalize findF a s = fd at *
  obtain ⟨fo, fs, fe⟩ := fd
  have HC := Lib.hid hC; have HR := Lib.hid hR; have HF := Lib.hid hF; have HG := Lib.hid hG; have HS := Lib.hid @hS; have HP := Lib.hid hP
  clear hC hR hF hG hS hP
  have e1 : (ea != ea) = false := by simp
  have e2 : (fe != fe) = false := by simp
  have e3 : (fo != fo) = false := by simp
  have e4 : (fs != fs) = false := by simp
  go_enter Tryz.func3, Tryz.ntmps3
  go_wp2_with fail
  refine (HC.out w HM.out).mono ?_
  rintro en w1 ⟨A1, c1, rfl, ho1, hb1⟩
  have HB := Lib.hid hb1
  have Ho1 := Lib.hid ho1
  have Hrow := Lib.hid (fun k (hk : (Value.slice A1 l.length c1).ownBlock = some k) => ho1.lt k hk)
  have hwz1 : w.heap.size ≤ w1.heap.size := hb1.size
  clear hb1 ho1
  go_upto_region 4 with fail
  generalize hW : w1.alloc _ = W1
  have hb : Below w1.heap.size w1 W1 := by subst hW; exact (Below.refl _ _).alloc (Nat.le_refl _) _
  have M1 := Lib.hid (Mch.box_new Ho1.out hW.symm)
  have HB := Lib.hid (HB.out.trans (hb.mono hwz1))
  have hz1 : w1.heap.size < W1.heap.size := M1.out.blt
  clear hW hb Ho1
  go_wp2_with fail
  refine (HC.out W1 (HM.out.later HB.out)).mono ?_
  rintro en w2 ⟨A2, c2, rfl, ho2, hb2⟩
  have M1 := Lib.hid (M1.out.later hb2)
  have Ho2 := Lib.hid ho2
  have hz2 : W1.heap.size ≤ w2.heap.size := hb2.size
  have HB := Lib.hid (HB.out.trans (hb2.mono (by omega)))
  clear hb2 ho2
  go_upto_region 5 with fail
  generalize hW : w2.alloc _ = W2
  have hb : Below w2.heap.size w2 W2 := by subst hW; exact (Below.refl _ _).alloc (Nat.le_refl _) _
  have M2 := Lib.hid (Mch.box_new Ho2.out hW.symm)
  have M1 := Lib.hid (M1.out.later hb)
  have HB := Lib.hid (HB.out.trans (hb.mono (by omega)))
  have hz3 : w2.heap.size < W2.heap.size := M2.out.blt
  clear hW hb Ho2
  go_wp2_with fail
  refine (HF.out W2 (HM.out.later HB.out)).mono ?_
  rintro en w3 ⟨rfl, hb3⟩
  have M2 := Lib.hid (M2.out.later hb3)
  have M1 := Lib.hid (M1.out.later hb3)
  have HB := Lib.hid (HB.out.trans (hb3.mono (by omega)))
  have hz4 : W2.heap.size ≤ w3.heap.size := hb3.size
  clear hb3
  go_wp2_with fail
  refine (HR.out w3).mono ?_
  rintro en w4 ⟨A4, c4, rfl, ho4, hb4⟩
  have M2 := Lib.hid (M2.out.later hb4)
  have M1 := Lib.hid (M1.out.later hb4)
  have HB := Lib.hid (HB.out.trans (hb4.mono (by omega)))
  have Ho4 := Lib.hid ho4
  have hz5 : w3.heap.size ≤ w4.heap.size := hb4.size
  clear hb4 ho4
  go_upto_region 7 with fail
  generalize hW : w4.alloc _ = W4
  have hb : Below w4.heap.size w4 W4 := by subst hW; exact (Below.refl _ _).alloc (Nat.le_refl _) _
  have M4 := Lib.hid (Mch.box_new Ho4.out hW.symm)
  have M2 := Lib.hid (M2.out.later hb)
  have M1 := Lib.hid (M1.out.later hb)
  have HB := Lib.hid (HB.out.trans (hb.mono (by omega)))
  have hz6 : w4.heap.size < W4.heap.size := M4.out.blt
  clear hW hb Ho4
  go_wp2_with fail
  refine (HG.out W4).mono ?_
  rintro en w5 ⟨rfl, hb5⟩
  have M4 := Lib.hid (M4.out.later hb5)
  have M2 := Lib.hid (M2.out.later hb5)
  have M1 := Lib.hid (M1.out.later hb5)
  have HB := Lib.hid (HB.out.trans (hb5.mono (by omega)))
  have hz7 : W4.heap.size ≤ w5.heap.size := hb5.size
  clear hb5
  obtain ⟨p0, p1⟩ := M1.out.box
  obtain ⟨q0, q1⟩ := M2.out.box
  obtain ⟨r0, r1⟩ := M4.out.box
  go_wp2_with fail
  refine (HS.out w5 M1.out M4.out).mono ?_
  rintro en w6 ⟨rfl, hb6⟩
  have M4 := Lib.hid (M4.out.later hb6)
  have M2 := Lib.hid (M2.out.later hb6)
  have M1 := Lib.hid (M1.out.later hb6)
  have HB := Lib.hid (HB.out.trans (hb6.mono (by omega)))
  have hz8 : w5.heap.size ≤ w6.heap.size := hb6.size
  clear hb6 p0 p1 q0 q1 r0 r1
  obtain ⟨p0, p1⟩ := M1.out.box
  obtain ⟨q0, q1⟩ := M2.out.box
  obtain ⟨r0, r1⟩ := M4.out.box
  go_wp2_with fail
  refine (HS.out w6 M2.out M4.out).mono ?_
  rintro en w7 ⟨rfl, hb7⟩
  have M4 := Lib.hid (M4.out.later hb7)
  have M2 := Lib.hid (M2.out.later hb7)
  have M1 := Lib.hid (M1.out.later hb7)
  have HB := Lib.hid (HB.out.trans (hb7.mono (by omega)))
  have hz9 : w6.heap.size ≤ w7.heap.size := hb7.size
  clear hb7 p0 p1 q0 q1 r0 r1
  obtain ⟨p0, p1⟩ := M1.out.box
  go_wp2_with fail
  refine (HP.out w7 w.heap.size A1 c1 M1.out.own (by omega)).mono ?_
  rintro en w8 ⟨rfl, hs8⟩
  have hne : ∀ k, k < w.heap.size ∨ w1.heap.size ≤ k → some k ≠ (Value.slice A1 l.length c1).ownBlock := fun k hk e => by have := Hrow.out k e.symm; omega
  have M4 := Lib.hid (M4.out.spoil hs8 (B := w1.heap.size) (fun k hk => hne k (.inr hk)) (by omega) (by omega))
  have M2 := Lib.hid (M2.out.spoil hs8 (B := w1.heap.size) (fun k hk => hne k (.inr hk)) (by omega) (by omega))
  have HB := Lib.hid (show Below w.heap.size w w8 from ⟨hs8.os.trans HB.out.os, hs8.tape.trans HB.out.tape, hs8.output.trans HB.out.output, Nat.le_trans HB.out.size hs8.size, fun k hk => (hs8.block k (by omega) (hne k (.inl hk))).trans (HB.out.block k hk)⟩)
  have hz10 : w7.heap.size ≤ w8.heap.size := hs8.size
  clear hs8 hne p0 p1 M1
  obtain ⟨q0, q1⟩ := M2.out.box
  obtain ⟨r0, r1⟩ := M4.out.box
  go_wp2_with fail
  refine (HS.out w8 M2.out M4.out).mono ?_
  rintro en w9 ⟨rfl, hb9⟩
  have HB := Lib.hid (HB.out.trans (hb9.mono (by omega)))
  have hz11 : w8.heap.size ≤ w9.heap.size := hb9.size
  clear hb9 q0 q1 r0 r1
  go_wp2_with fail
  refine (works12_any w9 (HM.out.later HB.out)).mono ?_
  rintro en w10 ⟨rfl, hb10⟩
  go_wp2_with fail
  go_ret
  exact ⟨rfl, HB.out.trans (hb10.mono (by omega))⟩
end Go.Proofs.YteekafkpeimhoaaGreat

/- MatchFinds holds: whatever comes in, the call of the law returns true, and what came in reads as it read. -/
set_option linter.unusedVariables false
set_option linter.unusedSimpArgs false
namespace Go.Proofs.YteekafkpeimhoaaGreat
open Go.ChangeShapes Go.WideShapes Go.ChangeAt Go.RowKit
open Go.ChangeMaps (open_string shut_string)

theorem own : ownKnob Tryz.prog.godebug = none := by kernel_rfl
theorem laidOut : laidOutB Tryz.prog = true := by kernel_rfl
theorem str_bs (s : ByteArray) : ∃ r : Bs, s = bs r := ⟨s.data.toList, by simp [bs]⟩

set_option maxRecDepth 100000 in
theorem matchFinds_lifted (os : Os) (started : os.Started) (H : Type) (enc : TypeId × Value → H) :
    ReturnsInHanded {} Tryz.checked os 3 .any (Rows.matchFindsSpec.pre6 enc Tryz.prog Tryz.f3 Rows.matchFindsRow.domain false) (Rows.matchFindsSpec.post enc Tryz.prog Tryz.f3 false true false false) := by
  refine returnsInHanded_of_change_shaped (C := Tryz.checked) own started (by kernel_rfl) Tryz.func3
    (ChangeSpec.witness6 (enc := enc) (C := Tryz.checked) false ⟨#[], #[.string ⟨#[]⟩, .string ⟨#[]⟩], []⟩ 8 (by kernel_rfl) (by kernel_rfl) (by kernel_rfl) (by kernel_rfl)) ?_
  intro W base args ds gs before hval0 hW hcnd hwz hsh _
  have hM : MaxOk W := Tryz.laysM219.s1_3 W hsh
  have hval : ∀ (j : Nat) t v, Tryz.f3.params[j]? = some t → args[j]? = some v → Value.okWide Tryz.prog W .any base t v := hval0
  have hW' := hW
  obtain ⟨p, q, hA0, hV, rfl, hfz, hnd⟩ := hW
  have hA : DataW.TrodAll enc Tryz.prog W 0 (fun _ => true) true Tryz.f3.params.toList args.toList ds p := hA0
  have hwz' : (DataW.weightsEach Tryz.prog (Tryz.f3.params.toList ++ Rows.matchFindsSpec.plain.varTypes Tryz.prog) (ds ++ gs)).all (· ≤ reachBytes) = true := hwz
  rw [Tryz.params3] at hA hval hwz'
  obtain ⟨v0, vs0, d0, ds0, p0, q0, hargs, rfl, rfl, h0, r0⟩ := trodAll_cons hA
  obtain ⟨v1, vs1, d1, ds1, p1, q1, hargs1, rfl, rfl, h1, r1⟩ := trodAll_cons r0
  obtain ⟨rfl, rfl, rfl⟩ := trodAll_nil r1
  subst hargs1
  obtain rfl : args = #[v0, v1] := by cases args; simp_all
  obtain ⟨rfl, rfl⟩ := trodVars_none hV
  have k0 := h0
  have lt0 : ∀ x ∈ p0, x.block < W.heap.size := by obtain ⟨m, hm⟩ := k0; exact DataW.trod_lt m _ _ _ hm
  obtain ⟨s0, hv0, _, _, hl0⟩ := open_string Tryz.underlying9 (hval 0 9 v0 rfl rfl) h0
  obtain ⟨b0, rfl⟩ := str_bs s0
  have hb0 : b0.length ≤ maxLen := by simpa [bs, ByteArray.size] using hl0
  have k1 := h1
  have lt1 : ∀ x ∈ p1, x.block < W.heap.size := by obtain ⟨m, hm⟩ := k1; exact DataW.trod_lt m _ _ _ hm
  obtain ⟨s1, hv1, _, _, hl1⟩ := open_string Tryz.underlying9 (hval 1 9 v1 rfl rfl) h1
  obtain ⟨b1, rfl⟩ := str_bs s1
  have hb1 : b1.length ≤ maxLen := by simpa [bs, ByteArray.size] using hl1
  clear hA0 hval0 hwz hwz'
  have hcall := mfinds_any W hM b0 hb0 b1 hb1
  rw [← hv0, ← hv1] at hcall
  refine hcall.mono fun e W' ⟨he, bel⟩ => ?_
  subst he
  exact ⟨_, rfl, _, _, _, [], _, [], hW', trodAll_mk1 (shut_bool Tryz.underlying4 _), (trodAll_cons_mk (Below.trod laidOut (by kernel_rfl) (of_decide_eq_true (by kernel_rfl)) k0 bel lt0) (trodAll_cons_mk (Below.trod laidOut (by kernel_rfl) (of_decide_eq_true (by kernel_rfl)) k1 bel lt1) trodAll_mk0)), rfl, bel.frame _, fun h => by cases h⟩

theorem matchFinds_over : Rows.matchFindsRow.holds Tryz.pinned (OpenSpec.ofChange Rows.matchFindsSpec) :=
  OpenClaim.holds_of_wide 3 Tryz.f3 rfl rfl rfl rfl rfl rfl rfl ⟨rfl, rfl, rfl, rfl, rfl⟩ rfl rfl rfl rfl rfl (by kernel_rfl) Tryz.func3 (by kernel_rfl)
    (of_decide_eq_true (by kernel_rfl)) (by unfold Func.isWrapper; first | (rw [if_pos (by decide +kernel)]; kernel_rfl) | (rw [if_neg (by decide +kernel)]; exact ⟨rfl, rfl⟩))
    (fun os started H enc _ => matchFinds_lifted os started H enc)

/-- The statement. -/
theorem matchFinds_holds : Rows.MatchFindsSaid := matchFinds_over
end Go.Proofs.YteekafkpeimhoaaGreat

