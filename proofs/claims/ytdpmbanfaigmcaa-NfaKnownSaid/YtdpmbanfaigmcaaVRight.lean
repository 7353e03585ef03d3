/- The walks of pattern.size, pattern.right, pattern.Check. -/
import Derived.Test.YtdpmbanfaigmcaaVT
import Derived.Test.YtdpmbanfaigmcaaVSem
import Derived.Test.YtdpmbanfaigmcaaRows
import Derived.WalkKit
import Derived.Deep.LoopGhost
import Derived.Lib.Hide
set_option linter.unusedVariables false
set_option linter.unusedSimpArgs false
namespace Go.Proofs.Ytdpmbanfaigmcaa
open Go.RowKit

mutual
def sizeF : T → Int → Int
  | .mk _ _ _ _ _ _ _ ps, most => sizeL ps 1 most
def sizeL : List T → Int → Int → Int
  | [], s, _ => s
  | p :: ps, s, most => if s ≤ most then sizeL ps (s + sizeF p (most - s)) most else s
end
theorem sizeF_eq (t : T) (most : Int) : sizeF t most = sizeL t.ps 1 most := by cases t; rw [sizeF]; rfl
theorem sizeL_stop (ps : List T) (s most : Int) (h : ¬ s ≤ most) : sizeL ps s most = s := by
  cases ps with
  | nil => rw [sizeL]
  | cons p ps => rw [sizeL, if_neg h]
theorem sizeL_bd (ps : List T) (ih : ∀ p ∈ ps, ∀ most, 0 ≤ most → 1 ≤ sizeF p most ∧ sizeF p most ≤ most + 1) : ∀ s most, 1 ≤ s → s ≤ most + 1 → 1 ≤ sizeL ps s most ∧ sizeL ps s most ≤ most + 1 := by
  induction ps with
  | nil => intro s most hs hm; rw [sizeL]; omega
  | cons p ps ih2 =>
    intro s most hs hm
    rw [sizeL]
    split
    · have := ih p (List.mem_cons_self ..) (most - s) (by omega)
      exact ih2 (fun q hq => ih q (List.mem_cons_of_mem _ hq)) _ _ (by omega) (by omega)
    · omega
theorem sizeF_bd (t : T) : ∀ most, 0 ≤ most → 1 ≤ sizeF t most ∧ sizeF t most ≤ most + 1 := by
  induction t using T.ind with
  | h t ih =>
    intro most hm
    rw [sizeF_eq]
    exact sizeL_bd t.ps ih 1 most (by omega) (by omega)

set_option maxRecDepth 100000 in
set_option maxHeartbeats 400000 in
theorem size_any (t : T) : ∀ (most : Int) (h0 : 0 ≤ most) (h1 : most ≤ 1000000) (w : World) (ok : Nat → Prop) (A : Option Addr) (c : Nat), NodeAt w ok t A c → (∀ b, ok b → b < w.heap.size) →
    Calls Try.prog 57 #[nodeV t A c, .int .i64 most] w fun e w' => e = .returned (.int .i64 (sizeF t most)) ∧ Below w.heap.size w w' := by
  induction t using T.ind with
  | h t ih =>
    intro most h0 h1 w ok A c hN hok
    have hlen := hN.len
    go_enter Try.func57, Try.ntmps57
    go_wp2_with fail
    generalize hW : w.alloc _ = W0
    have hB0 : Below w.heap.size w W0 := by subst hW; exact (Below.refl _ _).alloc (Nat.le_refl _) _
    clear hW
    go_loopg [5, 11] (t.ps.length) (fun n s i wr => ∃ (j : Nat) (x : Int), s = .int .i64 x ∧ i = .int .i64 j ∧ j + n = t.ps.length ∧ 1 ≤ x ∧ x ≤ most + 1 ∧ sizeL (t.ps.drop j) x most = sizeL t.ps 1 most ∧ Below w.heap.size w wr)
    case atStart => exact ⟨0, 1, rfl, rfl, by omega, by omega, by omega, rfl, hB0⟩
    case round =>
      obtain ⟨j, x, rfl, rfl, hj, hx1, hx2, hm, hB⟩ := hrel
      have Hm := Lib.hid hm; clear hm
      have hs := hB.size
      clear hB0
      by_cases hlt : j < t.ps.length
      · obtain ⟨b, o, rfl, hb, hcell⟩ := hN.part (by omega)
        obtain ⟨A', c', h8, hNj⟩ := hcell j hlt
        have Hih := Lib.hid (ih t.ps[j] (List.getElem_mem _)); clear ih
        have hNj' := hNj.later hB hok
        obtain ⟨f0, f1, f2, f3, f4, f5, f6, f7⟩ := h8.mono (w' := wr) (fun o => hB.cell (p := ⟨b, o, none⟩) (hok b hb))
        have Hd := Lib.hid (drop_cons hlt)
        clear hcell hN hNj
        generalize t.ps[j] = p at *
        by_cases hx : x ≤ most
        · have hbd := sizeF_bd p (most - x) (by omega)
          go_wp2_with fail
          refine (Hih.out (most - x) (by omega) (by omega) _ ok A' c' (hNj'.later ((Below.refl _ _).alloc (Nat.le_refl _) _) (fun b h => by have := hok b h; omega)) (fun b h => by have := hok b h; simp; omega)).mono ?_
          rintro e w1 ⟨rfl, hb1⟩
          go_wp2_with fail
          go_roundg (gk - 1)
          case measure => omega
          case rel => exact ⟨j + 1, x + sizeF p (most - x), rfl, by go_num, by omega, by omega, by omega, by rw [← Hm.out, Hd.out, sizeL, if_pos hx], (hB.alloc hs _).trans (hb1.mono (by simp; omega))⟩
        · have hres : x = sizeF t most := by rw [sizeF_eq, ← Hm.out, sizeL_stop _ _ _ hx]
          have Hres := Lib.hid hres; clear hres
          go_wp2_with fail
          go_ret
          exact ⟨by rw [← Hres.out]; rfl, hB.alloc hs _⟩
      · have hres : x = sizeF t most := by rw [sizeF_eq, ← Hm.out, List.drop_of_length_le (by omega), sizeL]
        have Hres := Lib.hid hres; clear hres
        go_wp2_with fail
        go_ret
        exact ⟨by rw [← Hres.out]; rfl, hB⟩


mutual
def rightF : T → Bool
  | .mk k s0 s1 s2 s3 mn mx ps =>
    if (k ≠ 1 ∧ ¬ (s0 = 0 ∧ s1 = 0 ∧ s2 = 0 ∧ s3 = 0)) ∨ (k ≠ 6 ∧ (mn ≠ 0 ∨ mx ≠ 0)) then false
    else if k = 0 ∨ k = 1 ∨ k = 2 ∨ k = 3 then decide (ps.length = 0)
    else if k = 4 ∨ k = 5 then (if ps.length < 2 then false else rightL ps)
    else if k = 6 then (if ps.length ≠ 1 ∨ mn < 0 ∨ 255 < max mn mx ∨ (mx ≠ -1 ∧ mx < mn) then false else rightL ps)
    else false
def rightL : List T → Bool
  | [] => true
  | p :: ps => rightF p && rightL ps
end
theorem rightF_eq (t : T) : rightF t = if (t.k ≠ 1 ∧ ¬ (t.s0 = 0 ∧ t.s1 = 0 ∧ t.s2 = 0 ∧ t.s3 = 0)) ∨ (t.k ≠ 6 ∧ (t.mn ≠ 0 ∨ t.mx ≠ 0)) then false
    else if t.k = 0 ∨ t.k = 1 ∨ t.k = 2 ∨ t.k = 3 then decide (t.ps.length = 0)
    else if t.k = 4 ∨ t.k = 5 then (if t.ps.length < 2 then false else rightL t.ps)
    else if t.k = 6 then (if t.ps.length ≠ 1 ∨ t.mn < 0 ∨ 255 < max t.mn t.mx ∨ (t.mx ≠ -1 ∧ t.mx < t.mn) then false else rightL t.ps)
    else false := by cases t; rw [rightF]; rfl

/-- Where right looks at the parts. -/
def loops (t : T) : Prop := (t.k = 4 ∧ t.mn = 0 ∧ t.mx = 0 ∧ eq4 t.s0 t.s1 t.s2 t.s3 0 0 0 0 = true ∧ 2 ≤ t.ps.length) ∨ (t.k = 5 ∧ t.mn = 0 ∧ t.mx = 0 ∧ eq4 t.s0 t.s1 t.s2 t.s3 0 0 0 0 = true ∧ 2 ≤ t.ps.length) ∨
  (t.k = 6 ∧ 0 ≤ t.mn ∧ t.mn ≤ 255 ∧ t.mx = -1 ∧ eq4 t.s0 t.s1 t.s2 t.s3 0 0 0 0 = true ∧ t.ps.length = 1) ∨ (t.k = 6 ∧ 0 ≤ t.mn ∧ t.mn ≤ t.mx ∧ t.mx ≤ 255 ∧ eq4 t.s0 t.s1 t.s2 t.s3 0 0 0 0 = true ∧ t.ps.length = 1)
theorem rightF_loops {t : T} (h : loops t) : rightF t = rightL t.ps := by
  unfold loops at h
  simp only [eq4_iff] at h
  rw [rightF_eq]
  repeat' split
  all_goals first
    | rfl
    | (exfalso; omega)

set_option maxRecDepth 100000 in
set_option maxHeartbeats 1000000 in
theorem right_stops (t : T) (hl : ¬ loops t) (w : World) (ok : Nat → Prop) (A : Option Addr) (c : Nat) (hN : NodeAt w ok t A c) (hok : ∀ b, ok b → b < w.heap.size) :
    Calls Try.prog 58 #[nodeV t A c] w fun e w' => e = .returned (.bool (rightF t)) ∧ Below w.heap.size w w' := by
  have hlen := hN.len
  have Hl := Lib.hid hl; clear hl
  go_enter Try.func58, Try.ntmps58
  go_wp2_with fail
  all_goals (first
    | (go_ret; refine ⟨?_, ((Below.refl _ _).alloc (Nat.le_refl _) _).alloc (by simp) _⟩; refine congrArg (fun b => Ending.returned (.bool b)) ?_; exact Eq.symm (by
        rw [rightF_eq]
        go_tidy
        simp only [eq4_iff, bne_iff_ne, ne_eq, beq_iff_eq, beq_eq_false_iff_ne, bne_eq_false_iff_eq, Bool.not_eq_true] at *
        repeat' split
        all_goals first
          | rfl
          | (exfalso; omega)
          | (rw [Bool.eq_iff_iff, decide_eq_true_iff, beq_iff_eq]; omega)))
    | (exfalso
       refine Hl.out ?_
       unfold loops
       go_tidy
       simp only [eq4_iff, bne_iff_ne, ne_eq, beq_iff_eq, beq_eq_false_iff_ne, bne_eq_false_iff_eq, Bool.not_eq_true] at *
       omega))

set_option maxRecDepth 100000 in
set_option maxHeartbeats 1000000 in
theorem right_any (t : T) : ∀ (w : World) (ok : Nat → Prop) (A : Option Addr) (c : Nat), NodeAt w ok t A c → (∀ b, ok b → b < w.heap.size) →
    Calls Try.prog 58 #[nodeV t A c] w fun e w' => e = .returned (.bool (rightF t)) ∧ Below w.heap.size w w' := by
  induction t using T.ind with
  | h t ih =>
    intro w ok A c hN hok
    by_cases hl : loops t
    case neg => exact right_stops t hl w ok A c hN hok
    have hlen := hN.len
    have Hloop := Lib.hid (rightF_loops hl)
    unfold loops at hl
    rcases hl with ⟨hk, hmn, hmx, hq, hn⟩ | ⟨hk, hmn, hmx, hq, hn⟩ | ⟨hk, hmn, hmn', hmx, hq, hn⟩ | ⟨hk, hmn, hmn', hmx, hq, hn⟩
    case' inr.inr.inr =>
      have h255 : t.mn ≤ 255 := by omega
      have hm1 : (t.mx != -1) = true := by rw [bne_iff_ne]; omega
    all_goals
      go_enter Try.func58, Try.ntmps58
      go_wp2_with fail
    all_goals
      have hn' := Lib.hid hn
      clear hk hmn hmx hq hn
      generalize hW : (w.alloc _).alloc _ = W0
      have hB0 : Below w.heap.size w W0 := by subst hW; exact ((Below.refl _ _).alloc (Nat.le_refl _) _).alloc (by simp) _
      clear hW
      go_loopg [82] (t.ps.length) (fun n i wr => ∃ (j : Nat), i = .int .i64 j ∧ j + n = t.ps.length ∧ rightL (t.ps.drop j) = rightL t.ps ∧ Below w.heap.size w wr)
      case atStart => exact ⟨0, rfl, by omega, rfl, hB0⟩
      case round =>
        obtain ⟨j, rfl, hj, hm, hB⟩ := hrel
        have Hm := Lib.hid hm; clear hm
        have hs := hB.size
        clear hB0
        by_cases hlt : j < t.ps.length
        · obtain ⟨b, o, rfl, hb, hcell⟩ := hN.part (by omega)
          obtain ⟨A', c', h8, hNj⟩ := hcell j hlt
          have Hih := Lib.hid (ih t.ps[j] (List.getElem_mem _)); clear ih
          have hNj' := hNj.later hB hok
          obtain ⟨f0, f1, f2, f3, f4, f5, f6, f7⟩ := h8.mono (w' := wr) (fun o => hB.cell (p := ⟨b, o, none⟩) (hok b hb))
          have Hd := Lib.hid (drop_cons hlt)
          clear hcell hN hNj
          generalize t.ps[j] = p at *
          first
            | (have hj1 : (j : Int) < 1 := by (have := hn'.out; omega)
               go_wp2_with fail)
            | go_wp2_with fail
          refine (Hih.out _ ok A' c' (hNj'.later ((Below.refl _ _).alloc (Nat.le_refl _) _) (fun b h => by have := hok b h; omega)) (fun b h => by have := hok b h; simp; omega)).mono ?_
          rintro e w1 ⟨rfl, hb1⟩
          have hB1 : Below w.heap.size w w1 := (hB.alloc hs _).trans (hb1.mono (by simp; omega))
          cases hp : rightF p with
          | true =>
            have Hp := Lib.hid hp; clear hp
            go_wp2_with fail
            go_roundg (gk - 1)
            case measure => omega
            case rel => exact ⟨j + 1, by go_num, by omega, by rw [← Hm.out, Hd.out, rightL, Hp.out, Bool.true_and], hB1⟩
          | false =>
            have hres : rightF t = false := by rw [Hloop.out, ← Hm.out, Hd.out, rightL, hp, Bool.false_and]
            have Hres := Lib.hid hres; clear hres hp
            go_wp2_with fail
            go_ret
            exact ⟨by rw [Hres.out]; rfl, hB1⟩
        · have hres : rightF t = true := by rw [Hloop.out, ← Hm.out, List.drop_of_length_le (by omega), rightL]
          have Hres := Lib.hid hres; clear hres
          first
            | (have hj1 : ¬ (j : Int) < 1 := by (have := hn'.out; omega)
               go_wp2_with fail)
            | go_wp2_with fail
          go_ret
          exact ⟨by rw [Hres.out]; rfl, hB⟩

def checkF (t : T) : Int := if 2048 < sizeF t 2048 then 3 else if rightF t then 0 else 107

set_option maxRecDepth 100000 in
set_option maxHeartbeats 400000 in
theorem pcheck_any (t : T) (w : World) (ok : Nat → Prop) (A : Option Addr) (c : Nat) (hN : NodeAt w ok t A c) (hok : ∀ b, ok b → b < w.heap.size) :
    Calls Try.prog 38 #[nodeV t A c] w fun e w' => e = .returned (.int .i64 (checkF t)) ∧ Below w.heap.size w w' := by
  have hlen := hN.len
  go_enter Try.func38, Try.ntmps38
  go_wp2_with fail
  have hB0 : Below w.heap.size w (w.alloc (.cells #[.int .i64 t.k, .int .u64 t.s0, .int .u64 t.s1, .int .u64 t.s2, .int .u64 t.s3, .int .i64 t.mn, .int .i64 t.mx, .slice A t.ps.length c] 27)) := (Below.refl _ _).alloc (Nat.le_refl _) _
  refine (size_any t 2048 (by omega) (by omega) _ ok A c (hN.later hB0 hok) (fun b h => by have := hok b h; simp; omega)).mono ?_
  rintro e w1 ⟨rfl, hb1⟩
  have hB1 : Below w.heap.size w w1 := hB0.trans (hb1.mono (by simp))
  have hN1 := hN.later hB1 hok
  have hs1 := hB1.size
  obtain ⟨hc1, hf1⟩ := bcell hb1
  have g0 := hc1 w.heap.size 0 (by simp)
  have g1 := hc1 w.heap.size 1 (by simp)
  have g2 := hc1 w.heap.size 2 (by simp)
  have g3 := hc1 w.heap.size 3 (by simp)
  have g4 := hc1 w.heap.size 4 (by simp)
  have g5 := hc1 w.heap.size 5 (by simp)
  have g6 := hc1 w.heap.size 6 (by simp)
  have g7 := hc1 w.heap.size 7 (by simp)
  simp only [World.cell?_alloc_new, List.getElem?_toArray] at g0 g1 g2 g3 g4 g5 g6 g7
  clear hc1 hf1
  by_cases h : 2048 < sizeF t 2048
  · have hres : checkF t = 3 := by rw [checkF, if_pos h]
    have Hres := Lib.hid hres; clear hres
    go_wp2_with fail
    go_ret
    exact ⟨by rw [Hres.out]; rfl, hB1⟩
  · go_wp2_with fail
    refine (right_any t _ ok A c hN1 (fun b h => by have := hok b h; omega)).mono ?_
    rintro e w2 ⟨rfl, hb2⟩
    have hB2 : Below w.heap.size w w2 := hB1.trans (hb2.mono (by omega))
    cases hr : rightF t with
    | true =>
      have hres : checkF t = 0 := by rw [checkF, if_neg (by omega), if_pos hr]
      have Hres := Lib.hid hres; clear hres
      go_wp2_with fail
      go_ret
      exact ⟨by rw [Hres.out]; rfl, hB2⟩
    | false =>
      have hres : checkF t = 107 := by rw [checkF, if_neg (by omega), hr]; rfl
      have Hres := Lib.hid hres; clear hres
      go_wp2_with fail
      go_ret
      exact ⟨by rw [Hres.out]; rfl, hB2⟩
end Go.Proofs.Ytdpmbanfaigmcaa
