/- vouchref10: count, may, Check: walked; the count of nodes. -/
import Derived.Test.YtdpmbanfaigmcaaVMany
import Derived.Test.YtdpmbanfaigmcaaVCount
set_option linter.unusedVariables false
set_option linter.unusedSimpArgs false
namespace Go.Proofs.Ytdpmbanfaigmcaa
open Go.RowKit

mutual
/-- How many nodes a tree has. -/
def nodesF : T → Int
  | .mk _ _ _ _ _ _ _ ps => 1 + nodesL ps
def nodesL : List T → Int
  | [] => 0
  | p :: ps => nodesF p + nodesL ps
end
theorem nodesF_eq (t : T) : nodesF t = 1 + nodesL t.ps := by cases t; rw [nodesF]; rfl
theorem nodesL_pos (ps : List T) (ih : ∀ p ∈ ps, 1 ≤ nodesF p) : 0 ≤ nodesL ps := by
  induction ps with
  | nil => rw [nodesL]; omega
  | cons p ps ih2 =>
    rw [nodesL]
    have := ih p (List.mem_cons_self ..)
    have := ih2 (fun q hq => ih q (List.mem_cons_of_mem _ hq))
    omega
theorem nodesF_pos (t : T) : 1 ≤ nodesF t := by
  induction t using T.ind with
  | h t ih => rw [nodesF_eq]; have := nodesL_pos t.ps ih; omega
theorem manyL_min (top : Int) (h0 : 0 ≤ top) (ps : List T) (ih : ∀ p ∈ ps, manyF top p = min (nodesF p) (top + 1)) : ∀ s, 1 ≤ s → min (manyL top ps s) (top + 1) = min (s + nodesL ps) (top + 1) := by
  induction ps with
  | nil => intro s hs; rw [manyL, nodesL]; omega
  | cons p ps ih2 =>
    intro s hs
    rw [manyL, nodesL]
    have h1 := nodesL_pos ps (fun q _ => nodesF_pos q)
    have h2 := nodesF_pos p
    split
    · have h3 := ih p (List.mem_cons_self ..)
      rw [ih2 (fun q hq => ih q (List.mem_cons_of_mem _ hq)) _ (by omega), h3]
      omega
    · omega
theorem manyF_min (top : Int) (h0 : 0 ≤ top) (t : T) : manyF top t = min (nodesF t) (top + 1) := by
  induction t using T.ind with
  | h t ih => rw [manyF_eq, manyL_min top h0 t.ps ih 1 (by omega), nodesF_eq]
theorem sizeL_min (ps : List T) (ih : ∀ p ∈ ps, ∀ most, 0 ≤ most → sizeF p most = min (nodesF p) (most + 1)) : ∀ s most, 1 ≤ s → 0 ≤ most → min (sizeL ps s most) (most + 1) = min (s + nodesL ps) (most + 1) := by
  induction ps with
  | nil => intro s most hs hm; rw [sizeL, nodesL]; omega
  | cons p ps ih2 =>
    intro s most hs hm
    rw [sizeL, nodesL]
    have h1 := nodesL_pos ps (fun q _ => nodesF_pos q)
    have h2 := nodesF_pos p
    split
    · have h3 := ih p (List.mem_cons_self ..) (most - s) (by omega)
      rw [ih2 (fun q hq => ih q (List.mem_cons_of_mem _ hq)) _ _ (by omega) hm, h3]
      omega
    · omega
theorem sizeF_min (t : T) : ∀ most, 0 ≤ most → sizeF t most = min (nodesF t) (most + 1) := by
  induction t using T.ind with
  | h t ih =>
    intro most hm
    have h1 := sizeF_bd t most hm
    have h2 := sizeL_min t.ps ih 1 most (by omega) hm
    rw [sizeF_eq] at h1 ⊢
    rw [nodesF_eq]
    omega
theorem count_is (t : T) : manyF 2048 t = sizeF t 2048 := by rw [manyF_min 2048 (by omega), sizeF_min t 2048 (by omega)]

set_option maxRecDepth 100000 in
set_option maxHeartbeats 400000 in
theorem rcount_any (t : T) : ∀ (w : World) (ok : Nat → Prop) (A : Option Addr) (c : Nat), NodeAt w ok t A c → (∀ b, ok b → b < w.heap.size) →
    Calls Try.prog 60 #[nodeV t A c] w fun e w' => e = .returned (.int .i64 (manyF 2048 t)) ∧ Below w.heap.size w w' := by
  induction t using T.ind with
  | h t ih =>
    intro w ok A c hN hok
    have hlen := hN.len
    go_enter Try.func60, Try.ntmps60
    go_wp2_with fail
    generalize hW : w.alloc _ = W0
    have hB0 : Below w.heap.size w W0 := by subst hW; exact (Below.refl _ _).alloc (Nat.le_refl _) _
    have hc7 : W0.cell? ⟨w.heap.size, 7, none⟩ = some (.slice A t.ps.length c) := by subst hW; simp [go_sem]
    have hsz : w.heap.size < W0.heap.size := by subst hW; simp
    clear hW
    go_loopg [3, 4] (t.ps.length) (fun n s i wr => ∃ (j : Nat) (x : Int), s = .int .i64 x ∧ i = .int .i64 j ∧ j + n = t.ps.length ∧ 1 ≤ x ∧ x ≤ 4100 ∧ manyL 2048 (t.ps.drop j) x = manyL 2048 t.ps 1 ∧ Below w.heap.size w wr ∧ w.heap.size < wr.heap.size ∧ wr.cell? ⟨w.heap.size, 7, none⟩ = some (.slice A t.ps.length c))
    case atStart => exact ⟨0, 1, rfl, rfl, by omega, by omega, by omega, rfl, hB0, hsz, hc7⟩
    case round =>
      obtain ⟨j, x, rfl, rfl, hj, hx1, hx2, hm, hB, hs, hc7'⟩ := hrel
      have Hm := Lib.hid hm; clear hm
      clear hc7 hB0 hsz
      by_cases hlt : j < t.ps.length
      · obtain ⟨b, o, rfl, hb, hcell⟩ := hN.part (by omega)
        obtain ⟨A', c', h8, hNj⟩ := hcell j hlt
        have Hih := Lib.hid (ih t.ps[j] (List.getElem_mem _)); clear ih
        have hbd := manyF_bd 2048 (by omega) t.ps[j]
        have hNj' := hNj.later hB hok
        obtain ⟨f0, f1, f2, f3, f4, f5, f6, f7⟩ := h8.mono (w' := wr) (fun o => hB.cell (p := ⟨b, o, none⟩) (hok b hb))
        have Hd := Lib.hid (drop_cons hlt)
        clear hcell hN hNj
        generalize t.ps[j] = p at *
        by_cases hx : x ≤ 2048
        · go_wp2_with fail
          refine (Hih.out wr ok A' c' hNj' (fun b h => by have := hok b h; omega)).mono ?_
          rintro e w1 ⟨rfl, hb1⟩
          obtain ⟨hc1, hf1⟩ := bcell hb1
          have hz1 := hb1.size
          go_wp2_with fail
          go_roundg (gk - 1)
          case measure => omega
          case rel => exact ⟨j + 1, x + manyF 2048 p, rfl, by go_num, by omega, by omega, by omega, by rw [← Hm.out, Hd.out, manyL, if_pos hx], hB.trans (hb1.mono (by omega)), by omega, (hc1 _ _ hs).trans hc7'⟩
        · have hres : min x (2049 : Int) = manyF 2048 t := by rw [manyF_eq, ← Hm.out, manyL_stop _ _ _ hx]; rfl
          have Hres := Lib.hid hres; clear hres
          go_wp2_with fail
          all_goals go_ret
          all_goals exact ⟨by rw [← Hres.out]; go_num, hB⟩
      · have hres : min x (2049 : Int) = manyF 2048 t := by rw [manyF_eq, ← Hm.out, List.drop_of_length_le (by omega), manyL]; rfl
        have Hres := Lib.hid hres; clear hres
        go_wp2_with fail
        all_goals go_ret
        all_goals exact ⟨by rw [← Hres.out]; go_num, hB⟩
set_option maxRecDepth 100000 in
set_option maxHeartbeats 1000000 in
theorem may_stops (t : T) (hl : ¬ loops t) (w : World) (ok : Nat → Prop) (A : Option Addr) (c : Nat) (hN : NodeAt w ok t A c) (hok : ∀ b, ok b → b < w.heap.size) :
    Calls Try.prog 61 #[nodeV t A c] w fun e w' => e = .returned (.bool (rightF t)) ∧ Below w.heap.size w w' := by
  have hlen := hN.len
  have Hl := Lib.hid hl; clear hl
  go_enter Try.func61, Try.ntmps61
  go_wp2_with fail
  all_goals (first
    | (go_ret; refine ⟨?_, ((Below.refl _ _).alloc (Nat.le_refl _) _)⟩; refine congrArg (fun b => Ending.returned (.bool b)) ?_; exact Eq.symm (by
        rw [rightF_eq]
        go_tidy
        simp only [eq4_iff, bne_iff_ne, ne_eq, beq_iff_eq, beq_eq_false_iff_ne, bne_eq_false_iff_eq, Bool.not_eq_true, Bool.not_eq_true', Bool.not_eq_false'] at *
        repeat' split
        all_goals first
          | rfl
          | (exfalso; omega)
          | (rw [Bool.eq_iff_iff, decide_eq_true_iff, beq_iff_eq]; omega)))
    | (exfalso
       refine Hl.out ?_
       unfold loops
       go_tidy
       simp only [eq4_iff, bne_iff_ne, ne_eq, beq_iff_eq, beq_eq_false_iff_ne, bne_eq_false_iff_eq, Bool.not_eq_true, Bool.not_eq_true', Bool.not_eq_false'] at *
       omega))

set_option maxRecDepth 100000 in
set_option maxHeartbeats 1000000 in
theorem may_any (t : T) : ∀ (w : World) (ok : Nat → Prop) (A : Option Addr) (c : Nat), NodeAt w ok t A c → (∀ b, ok b → b < w.heap.size) →
    Calls Try.prog 61 #[nodeV t A c] w fun e w' => e = .returned (.bool (rightF t)) ∧ Below w.heap.size w w' := by
  induction t using T.ind with
  | h t ih =>
    intro w ok A c hN hok
    by_cases hl : loops t
    case neg => exact may_stops t hl w ok A c hN hok
    have hlen := hN.len
    have Hloop := Lib.hid (rightF_loops hl)
    unfold loops at hl
    rcases hl with ⟨hk, hmn, hmx, hq, hn⟩ | ⟨hk, hmn, hmx, hq, hn⟩ | ⟨hk, hmn, hmn', hmx, hq, hn⟩ | ⟨hk, hmn, hmn', hmx, hq, hn⟩
    case' inr.inr.inr =>
      have h255 : t.mn ≤ 255 := by omega
      have hm1 : (t.mx != -1) = true := by rw [bne_iff_ne]; omega
    all_goals
      go_enter Try.func61, Try.ntmps61
      go_wp2_with fail
    all_goals
      have hn' := Lib.hid hn
      clear hk hmn hmx hq hn
      generalize hW : w.alloc _ = W0
      have hB0 : Below w.heap.size w W0 := by subst hW; exact ((Below.refl _ _).alloc (Nat.le_refl _) _)
      have hsz : w.heap.size < W0.heap.size := by subst hW; simp
      have hc7 : W0.cell? ⟨w.heap.size, 7, none⟩ = some (.slice A t.ps.length c) := by subst hW; simp [go_sem]; try (have := hn'.out; omega)
      clear hW
      go_loopg [5] (t.ps.length) (fun n i wr => ∃ (j : Nat), i = .int .i64 j ∧ j + n = t.ps.length ∧ rightL (t.ps.drop j) = rightL t.ps ∧ Below w.heap.size w wr ∧ w.heap.size < wr.heap.size ∧ wr.cell? ⟨w.heap.size, 7, none⟩ = some (.slice A t.ps.length c))
      case atStart => exact ⟨0, rfl, by omega, rfl, hB0, hsz, hc7⟩
      case round =>
        obtain ⟨j, rfl, hj, hm, hB, hz, hc7'⟩ := hrel
        have Hm := Lib.hid hm; clear hm
        have hs := hB.size
        clear hB0 hc7 hsz
        by_cases hlt : j < t.ps.length
        · obtain ⟨b, o, rfl, hb, hcell⟩ := hN.part (by omega)
          obtain ⟨A', c', h8, hNj⟩ := hcell j hlt
          have Hih := Lib.hid (ih t.ps[j] (List.getElem_mem _)); clear ih
          have hNj' := hNj.later hB hok
          obtain ⟨f0, f1, f2, f3, f4, f5, f6, f7⟩ := h8.mono (w' := wr) (fun o => hB.cell (p := ⟨b, o, none⟩) (hok b hb))
          have Hd := Lib.hid (drop_cons hlt)
          clear hcell hN hNj
          generalize t.ps[j] = p at *
          first
            | (have hj1 : (j : Int) < 1 := by (have := hn'.out; omega)
               go_wp2_with fail)
            | go_wp2_with fail
          refine (Hih.out _ ok A' c' hNj' (fun b h => by have := hok b h; omega)).mono ?_
          rintro e w1 ⟨rfl, hb1⟩
          have hB1 : Below w.heap.size w w1 := hB.trans (hb1.mono (by omega))
          have hz1 := hb1.size
          have hc1 := (bcell hb1).1 _ 7 hz
          cases hp : rightF p with
          | true =>
            have Hp := Lib.hid hp; clear hp
            go_wp2_with fail
            go_roundg (gk - 1)
            case measure => omega
            case rel => exact ⟨j + 1, by go_num, by omega, by rw [← Hm.out, Hd.out, rightL, Hp.out, Bool.true_and], hB1, by omega, hc1.trans hc7'⟩
          | false =>
            have hres : rightF t = false := by rw [Hloop.out, ← Hm.out, Hd.out, rightL, hp, Bool.false_and]
            have Hres := Lib.hid hres; clear hres hp
            go_wp2_with fail
            go_ret
            exact ⟨by rw [Hres.out]; rfl, hB1⟩
        · have hres : rightF t = true := by rw [Hloop.out, ← Hm.out, List.drop_of_length_le (by omega), rightL]
          have Hres := Lib.hid hres; clear hres
          first
            | (have hj1 : ¬ (j : Int) < 1 := by (have := hn'.out; omega)
               go_wp2_with fail)
            | go_wp2_with fail
          go_ret
          exact ⟨by rw [Hres.out]; rfl, hB⟩

set_option maxRecDepth 100000 in
set_option maxHeartbeats 400000 in
theorem r10check_any (t : T) (w : World) (ok : Nat → Prop) (A : Option Addr) (c : Nat) (hN : NodeAt w ok t A c) (hok : ∀ b, ok b → b < w.heap.size) :
    Calls Try.prog 42 #[nodeV t A c] w fun e w' => e = .returned (.int .i64 (checkF t)) ∧ Below w.heap.size w w' := by
  have hlen := hN.len
  go_enter Try.func42, Try.ntmps42
  go_wp2_with fail
  have hB0 : Below w.heap.size w (w.alloc (.cells #[.int .i64 t.k, .int .u64 t.s0, .int .u64 t.s1, .int .u64 t.s2, .int .u64 t.s3, .int .i64 t.mn, .int .i64 t.mx, .slice A t.ps.length c] 27)) := (Below.refl _ _).alloc (Nat.le_refl _) _
  refine (rcount_any t _ ok A c (hN.later hB0 hok) (fun b h => by have := hok b h; simp; omega)).mono ?_
  rw [count_is]
  rintro e w1 ⟨rfl, hb1⟩
  have hB1 : Below w.heap.size w w1 := hB0.trans (hb1.mono (by simp))
  have hN1 := hN.later hB1 hok
  have hs1 := hB1.size
  obtain ⟨hc1, hf1⟩ := bcell hb1
  have g0 := hc1 w.heap.size 0 (by simp)
  have g1 := hc1 w.heap.size 1 (by simp)
  have g2 := hc1 w.heap.size 2 (by simp)
  have g3 := hc1 w.heap.size 3 (by simp)
  have g4 := hc1 w.heap.size 4 (by simp)
  have g5 := hc1 w.heap.size 5 (by simp)
  have g6 := hc1 w.heap.size 6 (by simp)
  have g7 := hc1 w.heap.size 7 (by simp)
  simp only [World.cell?_alloc_new, List.getElem?_toArray] at g0 g1 g2 g3 g4 g5 g6 g7
  clear hc1 hf1
  by_cases h : 2048 < sizeF t 2048
  · have hres : checkF t = 3 := by rw [checkF, if_pos h]
    have Hres := Lib.hid hres; clear hres
    go_wp2_with fail
    go_ret
    exact ⟨by rw [Hres.out]; rfl, hB1⟩
  · go_wp2_with fail
    refine (may_any t _ ok A c hN1 (fun b h => by have := hok b h; omega)).mono ?_
    rintro e w2 ⟨rfl, hb2⟩
    have hB2 : Below w.heap.size w w2 := hB1.trans (hb2.mono (by omega))
    cases hr : rightF t with
    | true =>
      have hres : checkF t = 0 := by rw [checkF, if_neg (by omega), if_pos hr]
      have Hres := Lib.hid hres; clear hres
      go_wp2_with fail
      go_ret
      exact ⟨by rw [Hres.out]; rfl, hB2⟩
    | false =>
      have hres : checkF t = 107 := by rw [checkF, if_neg (by omega), hr]; rfl
      have Hres := Lib.hid hres; clear hres
      go_wp2_with fail
      go_ret
      exact ⟨by rw [Hres.out]; rfl, hB2⟩
end Go.Proofs.Ytdpmbanfaigmcaa
