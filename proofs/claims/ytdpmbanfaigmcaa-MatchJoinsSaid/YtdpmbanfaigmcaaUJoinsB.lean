/- Merged texts, part of the proof Joins: Ref10, LentW, Kept, Spoil, Rep, RefRep, Idx, Back, Row, Choice, RefLay, RefCh, RefSize, LayAll, Len, Make, RefMake, RefCheckN. -/
import Derived.Test.YtdpmbanfaigmcaaUJoinsA
import Derived.StillTailTactics
import Derived.RangeFuncNested
import Derived.RangeFuncBound
import Derived.RangeFuncCalls
import Derived.RangeFuncLeaves
import Derived.Shelf.Abstract
import Derived.Shelf.RegionOpen
import Derived.OwnWalkIn
import Derived.TacticsInMore
import Derived.LoopNIn
import Derived.LoopIn
import Derived.BigFrameIn
import Derived.Deep.RegionWith
import Derived.Deep.DeepMust
import Derived.Laws.EntriesVeiled
import Derived.Laws.MakeOwn
import Derived.Deep.OwnRows
/- vouchref10: count, may, Check: walked; the count of nodes. -/
set_option linter.unusedVariables false
set_option linter.unusedSimpArgs false
namespace Go.Proofs.Ytdpmbanfaigmcaa
open Go.RowKit

mutual
/-- How many nodes a tree has. -/
def nodesF : T → Int
  | .mk _ _ _ _ _ _ _ ps => 1 + nodesL ps
def nodesL : List T → Int
  | [] => 0
  | p :: ps => nodesF p + nodesL ps
end
theorem nodesF_eq (t : T) : nodesF t = 1 + nodesL t.ps := by cases t; rw [nodesF]; rfl
theorem nodesL_pos (ps : List T) (ih : ∀ p ∈ ps, 1 ≤ nodesF p) : 0 ≤ nodesL ps := by
  induction ps with
  | nil => rw [nodesL]; omega
  | cons p ps ih2 =>
    rw [nodesL]
    have := ih p (List.mem_cons_self ..)
    have := ih2 (fun q hq => ih q (List.mem_cons_of_mem _ hq))
    omega
theorem nodesF_pos (t : T) : 1 ≤ nodesF t := by
  induction t using T.ind with
  | h t ih => rw [nodesF_eq]; have := nodesL_pos t.ps ih; omega
theorem manyL_min (top : Int) (h0 : 0 ≤ top) (ps : List T) (ih : ∀ p ∈ ps, manyF top p = min (nodesF p) (top + 1)) : ∀ s, 1 ≤ s → min (manyL top ps s) (top + 1) = min (s + nodesL ps) (top + 1) := by
  induction ps with
  | nil => intro s hs; rw [manyL, nodesL]; omega
  | cons p ps ih2 =>
    intro s hs
    rw [manyL, nodesL]
    have h1 := nodesL_pos ps (fun q _ => nodesF_pos q)
    have h2 := nodesF_pos p
    split
    · have h3 := ih p (List.mem_cons_self ..)
      rw [ih2 (fun q hq => ih q (List.mem_cons_of_mem _ hq)) _ (by omega), h3]
      omega
    · omega
theorem manyF_min (top : Int) (h0 : 0 ≤ top) (t : T) : manyF top t = min (nodesF t) (top + 1) := by
  induction t using T.ind with
  | h t ih => rw [manyF_eq, manyL_min top h0 t.ps ih 1 (by omega), nodesF_eq]
theorem sizeL_min (ps : List T) (ih : ∀ p ∈ ps, ∀ most, 0 ≤ most → sizeF p most = min (nodesF p) (most + 1)) : ∀ s most, 1 ≤ s → 0 ≤ most → min (sizeL ps s most) (most + 1) = min (s + nodesL ps) (most + 1) := by
  induction ps with
  | nil => intro s most hs hm; rw [sizeL, nodesL]; omega
  | cons p ps ih2 =>
    intro s most hs hm
    rw [sizeL, nodesL]
    have h1 := nodesL_pos ps (fun q _ => nodesF_pos q)
    have h2 := nodesF_pos p
    split
    · have h3 := ih p (List.mem_cons_self ..) (most - s) (by omega)
      rw [ih2 (fun q hq => ih q (List.mem_cons_of_mem _ hq)) _ _ (by omega) hm, h3]
      omega
    · omega
theorem sizeF_min (t : T) : ∀ most, 0 ≤ most → sizeF t most = min (nodesF t) (most + 1) := by
  induction t using T.ind with
  | h t ih =>
    intro most hm
    have h1 := sizeF_bd t most hm
    have h2 := sizeL_min t.ps ih 1 most (by omega) hm
    rw [sizeF_eq] at h1 ⊢
    rw [nodesF_eq]
    omega
theorem count_is (t : T) : manyF 2048 t = sizeF t 2048 := by rw [manyF_min 2048 (by omega), sizeF_min t 2048 (by omega)]

set_option maxRecDepth 100000 in
set_option maxHeartbeats 400000 in
theorem rcount_any (t : T) : ∀ (w : World) (ok : Nat → Prop) (A : Option Addr) (c : Nat), NodeAt w ok t A c → (∀ b, ok b → b < w.heap.size) →
    Calls Try.prog 60 #[nodeV t A c] w fun e w' => e = .returned (.int .i64 (manyF 2048 t)) ∧ Below w.heap.size w w' := by
  induction t using T.ind with
  | h t ih =>
    intro w ok A c hN hok
    have hlen := hN.len
    go_enter Try.func60, Try.ntmps60
    go_wp2_with fail
    generalize hW : w.alloc _ = W0
    have hB0 : Below w.heap.size w W0 := by subst hW; exact (Below.refl _ _).alloc (Nat.le_refl _) _
    have hc7 : W0.cell? ⟨w.heap.size, 7, none⟩ = some (.slice A t.ps.length c) := by subst hW; simp [go_sem]
    have hsz : w.heap.size < W0.heap.size := by subst hW; simp
    clear hW
    go_loopg [3, 4] (t.ps.length) (fun n s i wr => ∃ (j : Nat) (x : Int), s = .int .i64 x ∧ i = .int .i64 j ∧ j + n = t.ps.length ∧ 1 ≤ x ∧ x ≤ 4100 ∧ manyL 2048 (t.ps.drop j) x = manyL 2048 t.ps 1 ∧ Below w.heap.size w wr ∧ w.heap.size < wr.heap.size ∧ wr.cell? ⟨w.heap.size, 7, none⟩ = some (.slice A t.ps.length c))
    case atStart => exact ⟨0, 1, rfl, rfl, by omega, by omega, by omega, rfl, hB0, hsz, hc7⟩
    case round =>
      obtain ⟨j, x, rfl, rfl, hj, hx1, hx2, hm, hB, hs, hc7'⟩ := hrel
      have Hm := Lib.hid hm; clear hm
      clear hc7 hB0 hsz
      by_cases hlt : j < t.ps.length
      · obtain ⟨b, o, rfl, hb, hcell⟩ := hN.part (by omega)
        obtain ⟨A', c', h8, hNj⟩ := hcell j hlt
        have Hih := Lib.hid (ih t.ps[j] (List.getElem_mem _)); clear ih
        have hbd := manyF_bd 2048 (by omega) t.ps[j]
        have hNj' := hNj.later hB hok
        obtain ⟨f0, f1, f2, f3, f4, f5, f6, f7⟩ := h8.mono (w' := wr) (fun o => hB.cell (p := ⟨b, o, none⟩) (hok b hb))
        have Hd := Lib.hid (drop_cons hlt)
        clear hcell hN hNj
        generalize t.ps[j] = p at *
        by_cases hx : x ≤ 2048
        · go_wp2_with fail
          refine (Hih.out wr ok A' c' hNj' (fun b h => by have := hok b h; omega)).mono ?_
          rintro e w1 ⟨rfl, hb1⟩
          obtain ⟨hc1, hf1⟩ := bcell hb1
          have hz1 := hb1.size
          go_wp2_with fail
          go_roundg (gk - 1)
          case measure => omega
          case rel => exact ⟨j + 1, x + manyF 2048 p, rfl, by go_num, by omega, by omega, by omega, by rw [← Hm.out, Hd.out, manyL, if_pos hx], hB.trans (hb1.mono (by omega)), by omega, (hc1 _ _ hs).trans hc7'⟩
        · have hres : min x (2049 : Int) = manyF 2048 t := by rw [manyF_eq, ← Hm.out, manyL_stop _ _ _ hx]; rfl
          have Hres := Lib.hid hres; clear hres
          go_wp2_with fail
          all_goals go_ret
          all_goals exact ⟨by rw [← Hres.out]; go_num, hB⟩
      · have hres : min x (2049 : Int) = manyF 2048 t := by rw [manyF_eq, ← Hm.out, List.drop_of_length_le (by omega), manyL]; rfl
        have Hres := Lib.hid hres; clear hres
        go_wp2_with fail
        all_goals go_ret
        all_goals exact ⟨by rw [← Hres.out]; go_num, hB⟩
set_option maxRecDepth 100000 in
set_option maxHeartbeats 1000000 in
theorem may_stops (t : T) (hl : ¬ loops t) (w : World) (ok : Nat → Prop) (A : Option Addr) (c : Nat) (hN : NodeAt w ok t A c) (hok : ∀ b, ok b → b < w.heap.size) :
    Calls Try.prog 61 #[nodeV t A c] w fun e w' => e = .returned (.bool (rightF t)) ∧ Below w.heap.size w w' := by
  have hlen := hN.len
  have Hl := Lib.hid hl; clear hl
  go_enter Try.func61, Try.ntmps61
  go_wp2_with fail
  all_goals (first
    | (go_ret; refine ⟨?_, ((Below.refl _ _).alloc (Nat.le_refl _) _)⟩; refine congrArg (fun b => Ending.returned (.bool b)) ?_; exact Eq.symm (by
        rw [rightF_eq]
        go_tidy
        simp only [eq4_iff, bne_iff_ne, ne_eq, beq_iff_eq, beq_eq_false_iff_ne, bne_eq_false_iff_eq, Bool.not_eq_true, Bool.not_eq_true', Bool.not_eq_false'] at *
        repeat' split
        all_goals first
          | rfl
          | (exfalso; omega)
          | (rw [Bool.eq_iff_iff, decide_eq_true_iff, beq_iff_eq]; omega)))
    | (exfalso
       refine Hl.out ?_
       unfold loops
       go_tidy
       simp only [eq4_iff, bne_iff_ne, ne_eq, beq_iff_eq, beq_eq_false_iff_ne, bne_eq_false_iff_eq, Bool.not_eq_true, Bool.not_eq_true', Bool.not_eq_false'] at *
       omega))

set_option maxRecDepth 100000 in
set_option maxHeartbeats 1000000 in
theorem may_any (t : T) : ∀ (w : World) (ok : Nat → Prop) (A : Option Addr) (c : Nat), NodeAt w ok t A c → (∀ b, ok b → b < w.heap.size) →
    Calls Try.prog 61 #[nodeV t A c] w fun e w' => e = .returned (.bool (rightF t)) ∧ Below w.heap.size w w' := by
  induction t using T.ind with
  | h t ih =>
    intro w ok A c hN hok
    by_cases hl : loops t
    case neg => exact may_stops t hl w ok A c hN hok
    have hlen := hN.len
    have Hloop := Lib.hid (rightF_loops hl)
    unfold loops at hl
    rcases hl with ⟨hk, hmn, hmx, hq, hn⟩ | ⟨hk, hmn, hmx, hq, hn⟩ | ⟨hk, hmn, hmn', hmx, hq, hn⟩ | ⟨hk, hmn, hmn', hmx, hq, hn⟩
    case' inr.inr.inr =>
      have h255 : t.mn ≤ 255 := by omega
      have hm1 : (t.mx != -1) = true := by rw [bne_iff_ne]; omega
    all_goals
      go_enter Try.func61, Try.ntmps61
      go_wp2_with fail
    all_goals
      have hn' := Lib.hid hn
      clear hk hmn hmx hq hn
      generalize hW : w.alloc _ = W0
      have hB0 : Below w.heap.size w W0 := by subst hW; exact ((Below.refl _ _).alloc (Nat.le_refl _) _)
      have hsz : w.heap.size < W0.heap.size := by subst hW; simp
      have hc7 : W0.cell? ⟨w.heap.size, 7, none⟩ = some (.slice A t.ps.length c) := by subst hW; simp [go_sem]; try (have := hn'.out; omega)
      clear hW
      go_loopg [5] (t.ps.length) (fun n i wr => ∃ (j : Nat), i = .int .i64 j ∧ j + n = t.ps.length ∧ rightL (t.ps.drop j) = rightL t.ps ∧ Below w.heap.size w wr ∧ w.heap.size < wr.heap.size ∧ wr.cell? ⟨w.heap.size, 7, none⟩ = some (.slice A t.ps.length c))
      case atStart => exact ⟨0, rfl, by omega, rfl, hB0, hsz, hc7⟩
      case round =>
        obtain ⟨j, rfl, hj, hm, hB, hz, hc7'⟩ := hrel
        have Hm := Lib.hid hm; clear hm
        have hs := hB.size
        clear hB0 hc7 hsz
        by_cases hlt : j < t.ps.length
        · obtain ⟨b, o, rfl, hb, hcell⟩ := hN.part (by omega)
          obtain ⟨A', c', h8, hNj⟩ := hcell j hlt
          have Hih := Lib.hid (ih t.ps[j] (List.getElem_mem _)); clear ih
          have hNj' := hNj.later hB hok
          obtain ⟨f0, f1, f2, f3, f4, f5, f6, f7⟩ := h8.mono (w' := wr) (fun o => hB.cell (p := ⟨b, o, none⟩) (hok b hb))
          have Hd := Lib.hid (drop_cons hlt)
          clear hcell hN hNj
          generalize t.ps[j] = p at *
          first
            | (have hj1 : (j : Int) < 1 := by (have := hn'.out; omega)
               go_wp2_with fail)
            | go_wp2_with fail
          refine (Hih.out _ ok A' c' hNj' (fun b h => by have := hok b h; omega)).mono ?_
          rintro e w1 ⟨rfl, hb1⟩
          have hB1 : Below w.heap.size w w1 := hB.trans (hb1.mono (by omega))
          have hz1 := hb1.size
          have hc1 := (bcell hb1).1 _ 7 hz
          cases hp : rightF p with
          | true =>
            have Hp := Lib.hid hp; clear hp
            go_wp2_with fail
            go_roundg (gk - 1)
            case measure => omega
            case rel => exact ⟨j + 1, by go_num, by omega, by rw [← Hm.out, Hd.out, rightL, Hp.out, Bool.true_and], hB1, by omega, hc1.trans hc7'⟩
          | false =>
            have hres : rightF t = false := by rw [Hloop.out, ← Hm.out, Hd.out, rightL, hp, Bool.false_and]
            have Hres := Lib.hid hres; clear hres hp
            go_wp2_with fail
            go_ret
            exact ⟨by rw [Hres.out]; rfl, hB1⟩
        · have hres : rightF t = true := by rw [Hloop.out, ← Hm.out, List.drop_of_length_le (by omega), rightL]
          have Hres := Lib.hid hres; clear hres
          first
            | (have hj1 : ¬ (j : Int) < 1 := by (have := hn'.out; omega)
               go_wp2_with fail)
            | go_wp2_with fail
          go_ret
          exact ⟨by rw [Hres.out]; rfl, hB⟩

set_option maxRecDepth 100000 in
set_option maxHeartbeats 400000 in
theorem r10check_any (t : T) (w : World) (ok : Nat → Prop) (A : Option Addr) (c : Nat) (hN : NodeAt w ok t A c) (hok : ∀ b, ok b → b < w.heap.size) :
    Calls Try.prog 42 #[nodeV t A c] w fun e w' => e = .returned (.int .i64 (checkF t)) ∧ Below w.heap.size w w' := by
  have hlen := hN.len
  go_enter Try.func42, Try.ntmps42
  go_wp2_with fail
  have hB0 : Below w.heap.size w (w.alloc (.cells #[.int .i64 t.k, .int .u64 t.s0, .int .u64 t.s1, .int .u64 t.s2, .int .u64 t.s3, .int .i64 t.mn, .int .i64 t.mx, .slice A t.ps.length c] 27)) := (Below.refl _ _).alloc (Nat.le_refl _) _
  refine (rcount_any t _ ok A c (hN.later hB0 hok) (fun b h => by have := hok b h; simp; omega)).mono ?_
  rw [count_is]
  rintro e w1 ⟨rfl, hb1⟩
  have hB1 : Below w.heap.size w w1 := hB0.trans (hb1.mono (by simp))
  have hN1 := hN.later hB1 hok
  have hs1 := hB1.size
  obtain ⟨hc1, hf1⟩ := bcell hb1
  have g0 := hc1 w.heap.size 0 (by simp)
  have g1 := hc1 w.heap.size 1 (by simp)
  have g2 := hc1 w.heap.size 2 (by simp)
  have g3 := hc1 w.heap.size 3 (by simp)
  have g4 := hc1 w.heap.size 4 (by simp)
  have g5 := hc1 w.heap.size 5 (by simp)
  have g6 := hc1 w.heap.size 6 (by simp)
  have g7 := hc1 w.heap.size 7 (by simp)
  simp only [World.cell?_alloc_new, List.getElem?_toArray] at g0 g1 g2 g3 g4 g5 g6 g7
  clear hc1 hf1
  by_cases h : 2048 < sizeF t 2048
  · have hres : checkF t = 3 := by rw [checkF, if_pos h]
    have Hres := Lib.hid hres; clear hres
    go_wp2_with fail
    go_ret
    exact ⟨by rw [Hres.out]; rfl, hB1⟩
  · go_wp2_with fail
    refine (may_any t _ ok A c hN1 (fun b h => by have := hok b h; omega)).mono ?_
    rintro e w2 ⟨rfl, hb2⟩
    have hB2 : Below w.heap.size w w2 := hB1.trans (hb2.mono (by omega))
    cases hr : rightF t with
    | true =>
      have hres : checkF t = 0 := by rw [checkF, if_neg (by omega), if_pos hr]
      have Hres := Lib.hid hres; clear hres
      go_wp2_with fail
      go_ret
      exact ⟨by rw [Hres.out]; rfl, hB2⟩
    | false =>
      have hres : checkF t = 107 := by rw [checkF, if_neg (by omega), hr]; rfl
      have Hres := Lib.hid hres; clear hres
      go_wp2_with fail
      go_ret
      exact ⟨by rw [Hres.out]; rfl, hB2⟩
end Go.Proofs.Ytdpmbanfaigmcaa

/- LentNode: walked. -/
set_option linter.unusedVariables false
set_option linter.unusedSimpArgs false
namespace Go.Proofs.Ytdpmbanfaigmcaa
open Go.RowKit

theorem nodesL_mem : ∀ (ps : List T), ∀ p ∈ ps, nodesF p ≤ nodesL ps
  | q :: ps, p, h => by
    rw [nodesL]
    have h1 := nodesF_pos q
    have h2 := nodesL_pos ps (fun q _ => nodesF_pos q)
    cases h with
    | head => omega
    | tail _ h => have := nodesL_mem ps p h; omega
theorem nodesL_len : ∀ (ps : List T), (ps.length : Int) ≤ nodesL ps
  | [] => by simp [nodesL]
  | q :: ps => by
    rw [nodesL, List.length_cons]
    have h1 := nodesF_pos q
    have := nodesL_len ps
    omega
theorem nodes_len (t : T) : t.ps.length ≤ (nodesF t).toNat := by
  have := nodesL_len t.ps
  rw [nodesF_eq]; omega
theorem nodes_part (t : T) : ∀ p ∈ t.ps, nodesF p ≤ nodesF t := fun p hp => by
  have := nodesL_mem t.ps p hp
  rw [nodesF_eq t]; omega
/-- The boxes of LentNode: what came in, the result, the copy. -/
structure LentC (n : Nat) (t : T) (A : Option Addr) (c : Nat) (wr : World) (v : Value) : Prop where
  b0 : Blk wr n #[.int .i64 t.k, .int .u64 t.s0, .int .u64 t.s1, .int .u64 t.s2, .int .u64 t.s3, .int .i64 t.mn, .int .i64 t.mx, .slice A t.ps.length c]
  b1 : Blk wr (n + 1) #[.int .i64 0, .int .u64 0, .int .u64 0, .int .u64 0, .int .u64 0, .int .i64 0, .int .i64 0, .slice none 0 0]
  b2 : Blk wr (n + 1 + 1) #[.int .i64 t.k, .int .u64 t.s0, .int .u64 t.s1, .int .u64 t.s2, .int .u64 t.s3, .int .i64 t.mn, .int .i64 t.mx, v]
theorem LentC.keep {n : Nat} {t : T} {A : Option Addr} {c : Nat} {w w' : World} {v : Value} (h : LentC n t A c w v) (e : ∀ k, k < n + 3 → w'.heap[k]? = w.heap[k]?) : LentC n t A c w' v :=
  ⟨h.b0.keep (e _ (by omega)), h.b1.keep (e _ (by omega)), h.b2.keep (e _ (by omega))⟩
theorem LentC.set {n : Nat} {t : T} {A : Option Addr} {c : Nat} {w : World} {v : Value} (h : LentC n t A c w v) (u : Value) : LentC n t A c (w.setCell ⟨n + 1 + 1, 7, none⟩ u) u :=
  ⟨h.b0.keep (Below.heap_setCell _ _ _ _ (by simp; omega)), h.b1.keep (Below.heap_setCell _ _ _ _ (by simp)), by have := h.b2.set 7 u; simpa using this⟩

/-- The children that are laid: each a lent tree over the blocks S. -/
def Kids (t : T) (wr : World) (S : Nat → Prop) (ns : List (T × Option Addr × Nat)) : Prop := ∀ (i : Nat) (x : T × Option Addr × Nat), ns[i]? = some x → t.ps[i]? = some x.1 ∧ LentAt wr S x.1 x.2.1 x.2.2
theorem Kids.mono {t : T} {w w' : World} {S S' : Nat → Prop} {ns : List (T × Option Addr × Nat)} (h : Kids t w S ns) (hk : ∀ b, S b → S' b ∧ ∀ o, w'.cell? ⟨b, o, none⟩ = w.cell? ⟨b, o, none⟩) : Kids t w' S' ns :=
  fun i x hi => ⟨(h i x hi).1, (h i x hi).2.mono hk⟩
/-- The loop over the parts. -/
def LentJ (w : World) (t : T) (A : Option Addr) (c : Nat) (n : Nat) (i : Value) (wr : World) : Prop :=
  ∃ (j : Nat) (ns : List (T × Option Addr × Nat)) (Av : Option Addr) (cv : Nat) (S : Nat → Prop), i = .int .i64 j ∧ j + n = t.ps.length ∧ ns.length = j ∧ Kids t wr S ns ∧
    (∀ b, S b → w.heap.size + 3 ≤ b ∧ b < wr.heap.size ∧ some b ≠ (Value.slice Av j cv).ownBlock) ∧ Below w.heap.size w wr ∧ LentC w.heap.size t A c wr (.slice Av j cv) ∧
    wr.ownsRow (w.heap.size + 3) 27 8 (.slice Av j cv) j (ncells ns)
/-- The loop over the marks. -/
def LentK (w : World) (t : T) (A : Option Addr) (c : Nat) (ns : List (T × Option Addr × Nat)) (n : Nat) (i : Value) (wr : World) : Prop :=
  ∃ (j : Nat) (Av : Option Addr) (cv : Nat) (S : Nat → Prop), i = .int .i64 j ∧ j + n = 3 ∧ Kids t wr S ns ∧
    (∀ b, S b → w.heap.size + 3 ≤ b ∧ b < wr.heap.size ∧ some b ≠ (Value.slice Av (t.ps.length + j) cv).ownBlock) ∧ Below w.heap.size w wr ∧ LentC w.heap.size t A c wr (.slice Av (t.ps.length + j) cv) ∧
    wr.ownsRow (w.heap.size + 3) 27 8 (.slice Av (t.ps.length + j) cv) (t.ps.length + j) (ncells (ns ++ List.replicate j mark))

theorem grown_two {w1 w3 : World} {o1 o2 : Obj} {row : Option Nat} (hg : ((w1.alloc o1).alloc o2).grownBy w3 row) : ∀ b, b < w1.heap.size → some b ≠ row → w3.heap[b]? = w1.heap[b]? := fun b hb hne =>
  (hg.block b (by simp; omega) hne).trans ((((Below.refl w1.heap.size w1).alloc (Nat.le_refl _) o1).alloc (by simp) o2).block b hb)
theorem grown_one {w1 w3 : World} {o1 : Obj} {row : Option Nat} (hg : (w1.alloc o1).grownBy w3 row) : ∀ b, b < w1.heap.size → some b ≠ row → w3.heap[b]? = w1.heap[b]? := fun b hb hne =>
  (hg.block b (by simp; omega) hne).trans (((Below.refl w1.heap.size w1).alloc (Nat.le_refl _) o1).block b hb)
theorem ncell_two (w1 : World) (x : T × Option Addr × Nat) (o1 : Obj) : ∀ ad, some (⟨w1.heap.size + 1, 0, none⟩ : Addr) = some ad → ∀ j u, (ncell x)[j]? = some u → ((w1.alloc o1).alloc (.cells (ncell x).toArray 27)).cell? (ad.add j) = some u := by
  intro ad e j u hu
  simp only [Option.some.injEq] at e
  subst e
  rw [addr_add, show w1.heap.size + 1 = (w1.alloc o1).heap.size by simp, World.cell?_alloc_new, Nat.zero_add]
  simpa using hu
theorem ncell_new (w1 : World) (x : T × Option Addr × Nat) : ∀ ad, some (⟨w1.heap.size, 0, none⟩ : Addr) = some ad → ∀ j u, (ncell x)[j]? = some u → (w1.alloc (.cells (ncell x).toArray 27)).cell? (ad.add j) = some u := by
  intro ad e j u hu
  simp only [Option.some.injEq] at e
  subst e
  rw [addr_add, World.cell?_alloc_new, Nat.zero_add]
  simpa using hu

/-- What the last two statements of LentNode write. -/
def fillW (wr : World) (n : Nat) (t : T) (v : Value) : World :=
  ((((((((wr.setCell ⟨n + 1 + 1, 7, none⟩ v).setCell ⟨n + 1, 0, none⟩ (.int .i64 t.k)).setCell ⟨n + 1, 1, none⟩ (.int .u64 t.s0)).setCell ⟨n + 1, 2, none⟩ (.int .u64 t.s1)).setCell ⟨n + 1, 3, none⟩ (.int .u64 t.s2)).setCell ⟨n + 1, 4, none⟩ (.int .u64 t.s3)).setCell ⟨n + 1, 5, none⟩ (.int .i64 t.mn)).setCell ⟨n + 1, 6, none⟩ (.int .i64 t.mx)).setCell ⟨n + 1, 7, none⟩ v
theorem fillW_blk {wr : World} {n : Nat} {t : T} {A : Option Addr} {c : Nat} {v0 v : Value} (h : LentC n t A c wr v0) : Blk (fillW wr n t v) (n + 1) #[.int .i64 t.k, .int .u64 t.s0, .int .u64 t.s1, .int .u64 t.s2, .int .u64 t.s3, .int .i64 t.mn, .int .i64 t.mx, v] := by
  have h1 := ((((((((h.b1.keep (w' := wr.setCell ⟨n + 1 + 1, 7, none⟩ v) (Below.heap_setCell _ _ _ _ (by simp))).set 0 (.int .i64 t.k)).set 1 (.int .u64 t.s0)).set 2 (.int .u64 t.s1)).set 3 (.int .u64 t.s2)).set 4 (.int .u64 t.s3)).set 5 (.int .i64 t.mn)).set 6 (.int .i64 t.mx)).set 7 v
  unfold fillW; simpa using h1
theorem fillW_size (wr : World) (n : Nat) (t : T) (v : Value) : (fillW wr n t v).heap.size = wr.heap.size := by simp [fillW]
theorem fillW_other (wr : World) (n : Nat) (t : T) (v : Value) (b : Nat) (h1 : b ≠ n + 1) (h2 : b ≠ n + 1 + 1) : (fillW wr n t v).heap[b]? = wr.heap[b]? := by
  unfold fillW
  iterate 8 rw [Below.heap_setCell _ _ _ _ h1]
  exact Below.heap_setCell _ _ _ _ h2
theorem fillW_below {w wr : World} {t : T} {v : Value} (h : Below w.heap.size w wr) : Below w.heap.size w (fillW wr w.heap.size t v) := by
  unfold fillW
  exact ((((((((h.setCell (by simp; omega) _).setCell (by simp) _).setCell (by simp) _).setCell (by simp) _).setCell (by simp) _).setCell (by simp) _).setCell (by simp) _).setCell (by simp) _).setCell (by simp) _

set_option maxRecDepth 100000 in
set_option maxHeartbeats 4000000 in
theorem lent_any (t : T) : ∀ (w : World) (ok : Nat → Prop) (A : Option Addr) (c : Nat), NodeAt w ok t A c → (∀ b, ok b → b < w.heap.size) → nodesF t ≤ 100000 →
    Calls Try.prog 13 #[nodeV t A c] w fun e w' => ∃ A' c', e = .returned (nodeV t A' c') ∧ LentAt w' (fun b => w.heap.size ≤ b ∧ b < w'.heap.size) t A' c' ∧ Below w.heap.size w w' := by
  induction t using T.ind with
  | h t ih =>
    intro w ok A c hN hok hno
    have hlen : t.ps.length ≤ 100000 := Nat.le_trans (nodes_len t) (by omega)
    have hcc := hN.cap
    have Hih := Lib.hid ih; clear ih
    have Hno := Lib.hid hno; clear hno
    go_enter Try.func13, Try.ntmps13
    go_wp2_with fail
    generalize hW : ((w.alloc _).alloc _).alloc _ = W0
    have hB0 : Below w.heap.size w W0 := by subst hW; exact (((Below.refl _ _).alloc (Nat.le_refl _) _).alloc (by simp) _).alloc (by simp; omega) _
    have hC0 : LentC w.heap.size t A c W0 (.slice none 0 0) := by
      subst hW
      refine ⟨?_, ?_, ?_⟩
      · exact (((Blk.new w _).keep ((Below.refl _ _).alloc (Nat.le_refl _) _ |>.block _ (by simp)))).keep ((Below.refl _ _).alloc (Nat.le_refl _) _ |>.block _ (by simp; omega))
      · have h := (Blk.new (w.alloc (.cells #[.int .i64 t.k, .int .u64 t.s0, .int .u64 t.s1, .int .u64 t.s2, .int .u64 t.s3, .int .i64 t.mn, .int .i64 t.mx, .slice A t.ps.length c] 27)) #[.int .i64 0, .int .u64 0, .int .u64 0, .int .u64 0, .int .u64 0, .int .i64 0, .int .i64 0, .slice none 0 0])
        rw [show (w.alloc (.cells #[.int .i64 t.k, .int .u64 t.s0, .int .u64 t.s1, .int .u64 t.s2, .int .u64 t.s3, .int .i64 t.mn, .int .i64 t.mx, .slice A t.ps.length c] 27)).heap.size = w.heap.size + 1 by simp] at h
        exact h.keep ((Below.refl _ _).alloc (Nat.le_refl _) _ |>.block _ (by simp))
      · have h := Blk.new ((w.alloc (.cells #[.int .i64 t.k, .int .u64 t.s0, .int .u64 t.s1, .int .u64 t.s2, .int .u64 t.s3, .int .i64 t.mn, .int .i64 t.mx, .slice A t.ps.length c] 27)).alloc (.cells #[.int .i64 0, .int .u64 0, .int .u64 0, .int .u64 0, .int .u64 0, .int .i64 0, .int .i64 0, .slice none 0 0] 27)) #[.int .i64 t.k, .int .u64 t.s0, .int .u64 t.s1, .int .u64 t.s2, .int .u64 t.s3, .int .i64 t.mn, .int .i64 t.mx, .slice none 0 0]
        rw [show ((w.alloc (.cells #[.int .i64 t.k, .int .u64 t.s0, .int .u64 t.s1, .int .u64 t.s2, .int .u64 t.s3, .int .i64 t.mn, .int .i64 t.mx, .slice A t.ps.length c] 27)).alloc (.cells #[.int .i64 0, .int .u64 0, .int .u64 0, .int .u64 0, .int .u64 0, .int .i64 0, .int .i64 0, .slice none 0 0] 27)).heap.size = w.heap.size + 1 + 1 by simp] at h
        exact h
    clear hW
    go_loopg [4] (t.ps.length) (fun n i wr => LentJ w t A c n i wr)
    case atStart => exact ⟨0, [], none, 0, fun _ => False, rfl, by omega, rfl, fun i x h => by simp at h, fun b h => h.elim, hB0, hC0, ⟨rfl, .inl ⟨rfl, rfl⟩⟩⟩
    case round =>
      clear hB0 hC0
      obtain ⟨j, ns, Av, cv, S, rfl, hj, hns, hkid, hsep, hB, hC, ho⟩ := hrel
      have k7 : wr.cell? ⟨w.heap.size, 7, none⟩ = some (.slice A t.ps.length c) := by simpa using hC.b0.cell 7
      have hz := hC.b2.lt
      have Ho := Lib.hid ho; have Hns := Lib.hid hns; clear ho hns
      by_cases hlt : j < t.ps.length
      · obtain ⟨b, o, rfl, hb, hcell⟩ := hN.part (by omega)
        obtain ⟨A', c', h8, hNj⟩ := hcell j hlt
        obtain ⟨f0, f1, f2, f3, f4, f5, f6, f7⟩ := h8.mono (w' := wr) (fun o => hB.cell (p := ⟨b, o, none⟩) (hok b hb))
        have hih := Hih.out t.ps[j] (List.getElem_mem _)
        have hpn := nodes_part t t.ps[j] (List.getElem_mem _)
        have hget : t.ps[j]? = some t.ps[j] := List.getElem?_eq_getElem hlt
        have Hget := Lib.hid hget
        clear hcell hget
        generalize t.ps[j] = p at *
        have hcall := hih wr ok A' c' (hNj.later hB hok) (fun b h => by have := hok b h; have := hB.size; omega) (by have := Hno.out; omega)
        have Hcall := Lib.hid hcall; clear hcall hih hpn
        go_wp2_with fail
        refine Hcall.out.mono ?_
        rintro e w1 ⟨A1, c1, rfl, hL1, hb1⟩
        have hz1 := hb1.size
        have hC1 : LentC w.heap.size _ _ c w1 (.slice Av j cv) := hC.keep (fun k hk => hb1.block k (by omega))
        have o7 : w1.cell? ⟨w.heap.size + 1 + 1, 7, none⟩ = some (.slice Av j cv) := by simpa using hC1.b2.cell 7
        have hzz : w.heap.size + 1 + 1 < w1.heap.size := by omega
        have hsb : ∀ k, (Value.slice Av j cv).ownBlock = some k → w.heap.size + 3 ≤ k ∧ k < wr.heap.size := fun k hk => Ho.out.lt k hk
        have ho1 : w1.ownsRow (w.heap.size + 3) 27 8 (.slice Av j cv) j (ncells ns) := Ho.out.kept (row := none) ⟨hb1.os, hb1.tape, hb1.output, hb1.size, fun k hk _ => hb1.block k hk⟩ (by cases Av <;> simp [Value.ownBlock])
        have Ho1 := Lib.hid ho1; have Hsb := Lib.hid hsb; have HB := Lib.hid hB; have Hsep := Lib.hid hsep
        have hnew := ncell_two w1 (p, A1, c1) (.cells (ncell (p, A1, c1)).toArray 27)
        have Hnew := Lib.hid hnew
        clear ho1 hsb hB hsep hnew k7 f0 f1 f2 f3 f4 f5 f6 f7
        go_wp2_with (at_builtin; refine wpList_append_from (w.heap.size + 3) rfl _ _ 25 27 _ 8 80 rfl Try.underlying25 Try.infoNode rfl (by omega) (by omega) (.slice Av j cv) j 1 (ncells ns) (ncell (p, A1, c1)) (some ⟨w1.heap.size + 1, 0, none⟩) 1 rfl rfl (by simp) rfl Hnew.out (ncell_one _) ((Ho1.out.alloc _).alloc _) (by simp; omega) (by omega) (fun A3 c3 w3 ho3 hg3 hat3 => ?_); have hk3 := grown_two hg3; have hC3 := hC1.keep (fun k hk => hk3 k (by omega) (fun e => by have := Hsb.out k e.symm; omega)); have o73 := hC3.b2.cell 7; have of73 := hC3.b2.froz 7; simp only [List.getElem?_toArray, List.getElem?_cons_succ, List.getElem?_cons_zero] at o73; have Ho3 := Lib.hid ho3; have Hk3 := Lib.hid hk3; have Hat3 := Lib.hid hat3; have Hg3 := Lib.hid hg3; clear ho3 hk3 hat3 hg3)
        go_roundg (gk - 1)
        case measure => omega
        case rel =>
          have hz3 := Hg3.out.size
          simp only [World.size_alloc] at hz3
          have hbl := below_grown (((HB.out.trans (hb1.mono (by omega))).alloc (by omega) _).alloc (by simp only [World.size_alloc]; omega) _) (by simp only [World.size_alloc]; omega) Hg3.out (fun k hk => by have := Hsb.out k hk; omega)
          refine ⟨j + 1, ns ++ [(p, A1, c1)], A3, c3, fun b => S b ∨ (wr.heap.size ≤ b ∧ b < w1.heap.size), by go_num, by omega, by simp [Hns.out], ?_, ?_, hbl.setCell (by simp; omega) _, hC3.set _, ?_⟩
          · intro i x hi
            have hcl : ∀ b, w.heap.size + 3 ≤ b → b < w1.heap.size → some b ≠ (Value.slice Av j cv).ownBlock → ∀ o, (w3.setCell ⟨w.heap.size + 1 + 1, 7, none⟩ (.slice A3 (j + 1) c3)).cell? ⟨b, o, none⟩ = w1.cell? ⟨b, o, none⟩ := fun b h1 h2 h3 o => by
              rw [World.cell?_setCell_other (h := by intro e; injection e with e; omega)]
              exact World.cell?_of_block (w := w1) (Hk3.out b h2 h3)
            rcases Nat.lt_or_ge i ns.length with h | h
            · rw [List.getElem?_append_left h] at hi
              refine ⟨(hkid i x hi).1, (hkid i x hi).2.mono fun b hb => ⟨.inl hb, fun o => ?_⟩⟩
              obtain ⟨s1, s2, s3⟩ := Hsep.out b hb
              exact (hcl b s1 (by omega) s3 o).trans (hb1.cell (p := ⟨b, o, none⟩) s2)
            · have hij : i = j := by
                have := (List.getElem?_eq_some_iff.1 hi).1
                simp [Hns.out] at this
                have := Hns.out
                omega
              subst hij
              rw [List.getElem?_append_right h, Hns.out, Nat.sub_self] at hi
              simp only [List.getElem?_cons_zero, Option.some.injEq] at hi
              subst hi
              refine ⟨Hget.out, hL1.mono fun b hb => ⟨.inr hb, fun o => hcl b (by omega) hb.2 (fun e => ?_) o⟩⟩
              have := Hsb.out b e.symm
              omega
          · intro b hb
            have h3 : w.heap.size + 3 ≤ b ∧ b < w1.heap.size ∧ some b ≠ (Value.slice Av j cv).ownBlock := by
              rcases hb with hb | hb
              · obtain ⟨s1, s2, s3⟩ := Hsep.out b hb
                exact ⟨s1, by omega, s3⟩
              · refine ⟨by omega, hb.2, fun e => ?_⟩
                have := Hsb.out b e.symm
                omega
            refine ⟨h3.1, by simp only [World.size_setCell]; omega, fun e => ?_⟩
            rcases Hat3.out with h | h
            · exact h3.2.2 (e.trans h)
            · rw [h] at e; simp at e; omega
          · rw [ncells_snoc]
            exact Ho3.out.kept (row := some (w.heap.size + 1 + 1)) ⟨rfl, rfl, rfl, by simp, fun k hk hne => Below.heap_setCell _ _ _ _ (fun e => hne (by rw [e]))⟩ (.inr (fun e => by have := own_ge Ho3.out _ e; omega))
      · obtain rfl : j = t.ps.length := by omega
        have hz := hC.b2.lt
        have hcut : List.replicate 0 mark = [] := rfl
        go_wp2_with fail
        go_loopg [6] 3 (fun n i wr => LentK w t A c ns n i wr)
        case atStart => exact ⟨0, Av, cv, S, rfl, rfl, hkid, hsep, hB, hC, by simpa using Ho.out⟩
        case round =>
          clear hkid hsep hB hC Ho k7 hz hcut
          obtain ⟨j, Av, cv, S, rfl, hj, hkid, hsep, hB, hC, ho⟩ := hrel
          have k7 : wr.cell? ⟨w.heap.size, 7, none⟩ = some (.slice A t.ps.length c) := by simpa using hC.b0.cell 7
          have o7 : wr.cell? ⟨w.heap.size + 1 + 1, 7, none⟩ = some (.slice Av (t.ps.length + j) cv) := by simpa using hC.b2.cell 7
          have hz := hC.b2.lt
          have Ho := Lib.hid ho; clear ho
          by_cases hlt : j < 3
          · have hsb : ∀ k, (Value.slice Av (t.ps.length + j) cv).ownBlock = some k → w.heap.size + 3 ≤ k ∧ k < wr.heap.size := fun k hk => Ho.out.lt k hk
            have Hsb := Lib.hid hsb; have HB := Lib.hid hB; have Hsep := Lib.hid hsep
            have hnew := ncell_new wr mark
            have Hnew := Lib.hid hnew
            clear hsb hB hsep hnew
            go_wp2_with (at_builtin; refine wpList_append_from (w.heap.size + 3) rfl _ _ 25 27 _ 8 80 rfl Try.underlying25 Try.infoNode rfl (by omega) (by omega) (.slice Av (t.ps.length + j) cv) (t.ps.length + j) 1 (ncells (ns ++ List.replicate j mark)) (ncell mark) (some ⟨wr.heap.size, 0, none⟩) 1 rfl rfl (by simp) rfl Hnew.out (ncell_one _) (Ho.out.alloc _) (by simp; omega) (by omega) (fun A3 c3 w3 ho3 hg3 hat3 => ?_); have hk3 := grown_one hg3; have hC3 := hC.keep (fun k hk => hk3 k (by omega) (fun e => by have := Hsb.out k e.symm; omega)); have o73 := hC3.b2.cell 7; have of73 := hC3.b2.froz 7; simp only [List.getElem?_toArray, List.getElem?_cons_succ, List.getElem?_cons_zero] at o73; have Ho3 := Lib.hid ho3; have Hk3 := Lib.hid hk3; have Hat3 := Lib.hid hat3; have Hg3 := Lib.hid hg3; clear ho3 hk3 hat3 hg3)
            go_roundg (gk - 1)
            case measure => omega
            case rel =>
              have hz3 := Hg3.out.size
              simp only [World.size_alloc] at hz3
              have hbl := below_grown (HB.out.alloc (by omega) _) (by simp only [World.size_alloc]; omega) Hg3.out (fun k hk => by have := Hsb.out k hk; omega)
              refine ⟨j + 1, A3, c3, S, by go_num, by omega, ?_, ?_, hbl.setCell (by simp; omega) _, hC3.set _, ?_⟩
              · refine hkid.mono fun b hb => ⟨hb, fun o => ?_⟩
                obtain ⟨s1, s2, s3⟩ := Hsep.out b hb
                rw [World.cell?_setCell_other (h := by intro e; injection e with e; omega)]
                exact World.cell?_of_block (w := wr) (Hk3.out b s2 s3)
              · intro b hb
                obtain ⟨s1, s2, s3⟩ := Hsep.out b hb
                refine ⟨s1, by simp only [World.size_setCell]; omega, fun e => ?_⟩
                rcases Hat3.out with h | h
                · exact s3 (e.trans h)
                · have e2 := e.trans h; simp at e2; omega
              · rw [List.replicate_succ', ← List.append_assoc, ncells_snoc]
                exact Ho3.out.kept (row := some (w.heap.size + 1 + 1)) ⟨rfl, rfl, rfl, by simp, fun k hk hne => Below.heap_setCell _ _ _ _ (fun e => hne (by rw [e]))⟩ (.inr (fun e => by have := own_ge Ho3.out _ e; omega))
          · obtain rfl : j = 3 := by omega
            obtain ⟨g, rfl, hg, hgl⟩ : ∃ g, Av = some ⟨g, 0, none⟩ ∧ w.heap.size + 3 ≤ g ∧ t.ps.length + 3 ≤ cv := by
              rcases Ho.out.2 with ⟨e, h0⟩ | ⟨g, cap, cur, e, hb, _, hn, _⟩
              · omega
              · simp only [Value.slice.injEq] at e; exact ⟨g, e.1, hb, by omega⟩
            have hgz := (Ho.out.lt g rfl).2
            have o0 : wr.cell? ⟨w.heap.size + 1 + 1, 0, none⟩ = some (.int .i64 t.k) := by simpa using hC.b2.cell 0
            have o1 : wr.cell? ⟨w.heap.size + 1 + 1, 1, none⟩ = some (.int .u64 t.s0) := by simpa using hC.b2.cell 1
            have o2 : wr.cell? ⟨w.heap.size + 1 + 1, 2, none⟩ = some (.int .u64 t.s1) := by simpa using hC.b2.cell 2
            have o3 : wr.cell? ⟨w.heap.size + 1 + 1, 3, none⟩ = some (.int .u64 t.s2) := by simpa using hC.b2.cell 3
            have o4 : wr.cell? ⟨w.heap.size + 1 + 1, 4, none⟩ = some (.int .u64 t.s3) := by simpa using hC.b2.cell 4
            have o5 : wr.cell? ⟨w.heap.size + 1 + 1, 5, none⟩ = some (.int .i64 t.mn) := by simpa using hC.b2.cell 5
            have o6 : wr.cell? ⟨w.heap.size + 1 + 1, 6, none⟩ = some (.int .i64 t.mx) := by simpa using hC.b2.cell 6
            have of7 := hC.b2.froz 7
            have r0 : wr.cell? ⟨w.heap.size + 1, 0, none⟩ = some (.int .i64 0) := by simpa using hC.b1.cell 0
            have r1 : wr.cell? ⟨w.heap.size + 1, 1, none⟩ = some (.int .u64 0) := by simpa using hC.b1.cell 1
            have r2 : wr.cell? ⟨w.heap.size + 1, 2, none⟩ = some (.int .u64 0) := by simpa using hC.b1.cell 2
            have r3 : wr.cell? ⟨w.heap.size + 1, 3, none⟩ = some (.int .u64 0) := by simpa using hC.b1.cell 3
            have r4 : wr.cell? ⟨w.heap.size + 1, 4, none⟩ = some (.int .u64 0) := by simpa using hC.b1.cell 4
            have r5 : wr.cell? ⟨w.heap.size + 1, 5, none⟩ = some (.int .i64 0) := by simpa using hC.b1.cell 5
            have r6 : wr.cell? ⟨w.heap.size + 1, 6, none⟩ = some (.int .i64 0) := by simpa using hC.b1.cell 6
            have r7 : wr.cell? ⟨w.heap.size + 1, 7, none⟩ = some (.slice none 0 0) := by simpa using hC.b1.cell 7
            have rf0 := hC.b1.froz 0
            have rf1 := hC.b1.froz 1
            have rf2 := hC.b1.froz 2
            have rf3 := hC.b1.froz 3
            have rf4 := hC.b1.froz 4
            have rf5 := hC.b1.froz 5
            have rf6 := hC.b1.froz 6
            have rf7 := hC.b1.froz 7
            go_wp2_with fail
            change bodyPost _ _ _ _ _ (fillW wr w.heap.size t (.slice (some ⟨g, 0, none⟩) t.ps.length cv))
            have hbk := fillW_blk (v := .slice (some ⟨g, 0, none⟩) t.ps.length cv) hC
            have y0 : (fillW wr w.heap.size t (.slice (some ⟨g, 0, none⟩) t.ps.length cv)).cell? ⟨w.heap.size + 1, 0, none⟩ = some (.int .i64 t.k) := by simpa using hbk.cell 0
            have y1 : (fillW wr w.heap.size t (.slice (some ⟨g, 0, none⟩) t.ps.length cv)).cell? ⟨w.heap.size + 1, 1, none⟩ = some (.int .u64 t.s0) := by simpa using hbk.cell 1
            have y2 : (fillW wr w.heap.size t (.slice (some ⟨g, 0, none⟩) t.ps.length cv)).cell? ⟨w.heap.size + 1, 2, none⟩ = some (.int .u64 t.s1) := by simpa using hbk.cell 2
            have y3 : (fillW wr w.heap.size t (.slice (some ⟨g, 0, none⟩) t.ps.length cv)).cell? ⟨w.heap.size + 1, 3, none⟩ = some (.int .u64 t.s2) := by simpa using hbk.cell 3
            have y4 : (fillW wr w.heap.size t (.slice (some ⟨g, 0, none⟩) t.ps.length cv)).cell? ⟨w.heap.size + 1, 4, none⟩ = some (.int .u64 t.s3) := by simpa using hbk.cell 4
            have y5 : (fillW wr w.heap.size t (.slice (some ⟨g, 0, none⟩) t.ps.length cv)).cell? ⟨w.heap.size + 1, 5, none⟩ = some (.int .i64 t.mn) := by simpa using hbk.cell 5
            have y6 : (fillW wr w.heap.size t (.slice (some ⟨g, 0, none⟩) t.ps.length cv)).cell? ⟨w.heap.size + 1, 6, none⟩ = some (.int .i64 t.mx) := by simpa using hbk.cell 6
            have y7 : (fillW wr w.heap.size t (.slice (some ⟨g, 0, none⟩) t.ps.length cv)).cell? ⟨w.heap.size + 1, 7, none⟩ = some (.slice (some ⟨g, 0, none⟩) t.ps.length cv) := by simpa using hbk.cell 7
            have hfs := fillW_size wr w.heap.size t (.slice (some ⟨g, 0, none⟩) t.ps.length cv)
            have hfo := fillW_other wr w.heap.size t (.slice (some ⟨g, 0, none⟩) t.ps.length cv)
            have hfb := fillW_below (t := t) (v := .slice (some ⟨g, 0, none⟩) t.ps.length cv) hB
            generalize fillW wr w.heap.size t (.slice (some ⟨g, 0, none⟩) t.ps.length cv) = F at *
            refine bodyPost_ret (v := nodeV t (some ⟨g, 0, none⟩) cv) (by simp [results, Try.results13, y0, y1, y2, y3, y4, y5, y6, y7, go_sem]) rfl ⟨_, _, rfl, ?_, hfb⟩
            have hcF : ∀ b, w.heap.size + 3 ≤ b → ∀ o, F.cell? ⟨b, o, none⟩ = wr.cell? ⟨b, o, none⟩ := fun b hb o => World.cell?_of_block (w := wr) (hfo b (by omega) (by omega))
            have hnsl : ns.length = t.ps.length := Hns.out
            have hrow : ∀ i j, i < t.ps.length + 3 → j < 8 → wr.cell? ⟨g, i * 8 + j, none⟩ = (ncells (ns ++ List.replicate 3 mark))[i * 8 + j]? := fun i j hi hj => Ho.out.cellAt _ (by omega)
            refine .mk t g cv (fun i => (ns.getD i mark).2.1) (fun i => (ns.getD i mark).2.2) hgl (by omega) ⟨by omega, by omega⟩ (fun i p hi => ?_) (fun k hk => ?_) (fun i p hi => ?_)
            · have hil : i < t.ps.length := (List.getElem?_eq_some_iff.1 hi).1
              have hx : ns[i]? = some ns[i] := List.getElem?_eq_getElem (by omega)
              have hkx := (hkid i _ hx).1
              rw [hi] at hkx
              have hpe : p = ns[i].1 := by simpa using hkx
              have : At8 F g (i * 8) ns[i].1 ns[i].2.1 ns[i].2.2 := .of fun j hj => by
                rw [hcF g hg, hrow i j (by omega) hj, ncells_get _ i j (by simp; omega) hj, List.getElem_append_left (by omega)]
              rw [hpe]
              simpa [List.getD_eq_getElem?_getD, hx] using this
            · have h1 := hrow (t.ps.length + k) 0 (by omega) (by omega)
              have h2 := hrow (t.ps.length + k) 7 (by omega) (by omega)
              rw [ncells_get _ _ _ (by simp; omega) (by omega), List.getElem_append_right (by omega), List.getElem_replicate] at h1 h2
              exact ⟨(hcF g hg _).trans h1, (hcF g hg _).trans h2⟩
            · have hil : i < t.ps.length := (List.getElem?_eq_some_iff.1 hi).1
              have hx : ns[i]? = some ns[i] := List.getElem?_eq_getElem (by omega)
              obtain ⟨hkx, hlx⟩ := hkid i _ hx
              rw [hi] at hkx
              have hpe : p = ns[i].1 := by simpa using hkx
              have := hlx.mono (w' := F) (ok' := fun b => w.heap.size ≤ b ∧ b < F.heap.size) fun b hb => by
                obtain ⟨s1, s2, s3⟩ := hsep b hb
                exact ⟨⟨by omega, by omega⟩, hcF b s1⟩
              rw [hpe]
              simpa [List.getD_eq_getElem?_getD, hx] using this
end Go.Proofs.Ytdpmbanfaigmcaa

/- KeptNode: walked. -/
set_option linter.unusedVariables false
set_option linter.unusedSimpArgs false
namespace Go.Proofs.Ytdpmbanfaigmcaa
open Go.RowKit

set_option maxRecDepth 100000 in
set_option maxHeartbeats 4000000 in
theorem kept_any (t : T) : ∀ (w : World) (ok : Nat → Prop) (A B : Option Addr) (c d : Nat), LentAt w ok t A c → NodeAt w ok t B d → (∀ b, ok b → b < w.heap.size) →
    Calls Try.prog 19 #[nodeV t A c, nodeV t B d] w fun e w' => e = .returned (.bool true) ∧ Below w.heap.size w w' := by
  induction t using T.ind with
  | h t ih =>
    intro w ok A B c d hL hN hok
    have hlen := hN.len
    have hN1 := hL.node
    cases hL with
    | mk _ g _ As cs hc hl hg ha hm hp =>
    have Hih := Lib.hid ih; clear ih
    have heq : eq4 t.s0 t.s1 t.s2 t.s3 t.s0 t.s1 t.s2 t.s3 = true := eq4_true ⟨rfl, rfl, rfl, rfl⟩
    go_enter Try.func19, Try.ntmps19
    go_wp2_with fail
    clear heq
    generalize hW : (w.alloc _).alloc _ = W0
    have hB0 : Below w.heap.size w W0 := by subst hW; exact ((Below.refl _ _).alloc (Nat.le_refl _) _).alloc (by simp) _
    have hsz : w.heap.size + 1 < W0.heap.size := by subst hW; simp
    have p7 : W0.cell? ⟨w.heap.size, 7, none⟩ = some (.slice (some ⟨g, 0, none⟩) t.ps.length c) := by subst hW; simp [go_sem]
    have q7 : W0.cell? ⟨w.heap.size + 1, 7, none⟩ = some (.slice B t.ps.length d) := by subst hW; simp [go_sem]
    clear hW
    go_loopg [5] (t.ps.length) (fun n i wr => ∃ j : Nat, i = .int .i64 j ∧ j + n = t.ps.length ∧ Below w.heap.size w wr ∧ w.heap.size + 1 < wr.heap.size ∧ wr.cell? ⟨w.heap.size, 7, none⟩ = some (.slice (some ⟨g, 0, none⟩) t.ps.length c) ∧ wr.cell? ⟨w.heap.size + 1, 7, none⟩ = some (.slice B t.ps.length d))
    case atStart => exact ⟨0, rfl, by omega, hB0, hsz, p7, q7⟩
    case round =>
      clear hB0 hsz p7 q7
      obtain ⟨j, rfl, hj, hB, hz, p7, q7⟩ := hrel
      by_cases hlt : j < t.ps.length
      · obtain ⟨b, o, rfl, hb, hcell⟩ := hN.part (by omega)
        obtain ⟨A', c', h8, hNj⟩ := hcell j hlt
        have hget : t.ps[j]? = some t.ps[j] := List.getElem?_eq_getElem hlt
        obtain ⟨f0, f1, f2, f3, f4, f5, f6, f7⟩ := h8.mono (w' := wr) (fun o => hB.cell (p := ⟨b, o, none⟩) (hok b hb))
        obtain ⟨g0, g1, g2, g3, g4, g5, g6, g7⟩ := (ha j _ hget).mono (w' := wr) (fun o => hB.cell (p := ⟨g, o, none⟩) (hok g hg))
        have hih := Hih.out t.ps[j] (List.getElem_mem _) wr.drew ok (As j) A' (cs j) c' ((hp j _ hget).mono fun b hb => ⟨hb, fun o => hB.drew.cell (p := ⟨b, o, none⟩) (hok b hb)⟩) (hNj.later hB.drew hok) (fun b h => by have := hok b h; have := hB.drew.size; omega)
        clear hcell hget
        generalize t.ps[j] = p at *
        generalize As j = Aj at *
        generalize cs j = cj at *
        have Hcall := Lib.hid hih; clear hih
        have i1 : (j : Int) < (t.ps.length : Int) := by omega
        have i0 : (0 : Int) ≤ (j : Int) := by omega
        go_wp2_with fail
        go_still_tail 10, (by kernel_rfl)
        change wpList _ _ _ _ _ wr.drew
        have hBd := hB.drew
        have hzd : w.heap.size + 1 < wr.drew.heap.size := by simpa using hz
        have p7d : wr.drew.cell? ⟨w.heap.size, 7, none⟩ = some (.slice (some ⟨g, 0, none⟩) t.ps.length c) := by simpa using p7
        have q7d : wr.drew.cell? ⟨w.heap.size + 1, 7, none⟩ = some (.slice (some ⟨b, o, none⟩) t.ps.length d) := by simpa using q7
        generalize wr.drew = w2 at *
        go_wp2_with fail
        refine Hcall.out.mono ?_
        rintro e w3 ⟨rfl, hb3⟩
        have hz3 := hb3.size
        go_wp2_with fail
        go_roundg (gk - 1)
        case measure => omega
        case rel => exact ⟨j + 1, by go_num, by omega, hBd.trans (hb3.mono (by omega)), by omega, (hb3.cell (p := ⟨w.heap.size, 7, none⟩) (by show w.heap.size < _; omega)).trans p7d, (hb3.cell (p := ⟨w.heap.size + 1, 7, none⟩) hzd).trans q7d⟩
      · have w3 : IntKind.i64.wrap ((t.ps.length : Int) + 3) = (t.ps.length + 3 : Nat) := by rw [IntKind.wrap_i64]; push_cast; omega
        have hmm : ∀ k, k < 3 → wr.cell? ⟨g, (t.ps.length + k) * 8, none⟩ = some (.int .i64 (-77)) ∧ wr.cell? ⟨g, (t.ps.length + k) * 8 + 7, none⟩ = some (.slice none 0 0) := fun k hk =>
          ⟨(hB.cell (p := ⟨g, _, none⟩) (hok g hg)).trans (hm k hk).1, (hB.cell (p := ⟨g, _, none⟩) (hok g hg)).trans (hm k hk).2⟩
        have Hmm := Lib.hid hmm
        clear hmm
        go_wp2_with fail
        go_loopg [7] 3 (fun k i w2 => ∃ (j : Nat), i = .int .i64 (t.ps.length + j : Nat) ∧ j + k = 3 ∧ w2 = wr)
        case atStart => exact ⟨0, by simp, rfl, rfl⟩
        case round =>
          obtain ⟨k, rfl, hk, rfl⟩ := hrel
          by_cases hlt3 : k < 3
          · obtain ⟨f0, f7⟩ := Hmm.out k hlt3
            go_wp2_with fail
            go_roundg (gk - 1)
            case measure => omega
            case rel => exact ⟨k + 1, by go_num, by omega, rfl⟩
          · go_wp2_with fail
            go_ret
            exact ⟨rfl, hB⟩
end Go.Proofs.Ytdpmbanfaigmcaa

/- SpoilNfa: walked. -/
set_option linter.unusedVariables false
set_option linter.unusedSimpArgs false
namespace Go.Proofs.Ytdpmbanfaigmcaa
open Go.RowKit

/-- Nothing old is touched but one block. -/
structure Spoils (r : Option Nat) (w w' : World) : Prop where
  os : w'.os = w.os
  tape : w'.tape = w.tape
  output : w'.output = w.output
  size : w.heap.size ≤ w'.heap.size
  block : ∀ k, k < w.heap.size → some k ≠ r → w'.heap[k]? = w.heap[k]?
theorem Spoils.grown {r row : Option Nat} {w W W' : World} (h : Spoils r w W) (hg : W.grownBy W' row) (hr : ∀ k, row = some k → r = some k ∨ w.heap.size ≤ k) : Spoils r w W' :=
  ⟨hg.os.trans h.os, hg.tape.trans h.tape, hg.output.trans h.output, Nat.le_trans h.size hg.size, fun k hk hne => (hg.block k (Nat.lt_of_lt_of_le hk h.size) (fun e => by
    rcases hr k e.symm with h1 | h1
    · exact hne h1.symm
    · omega)).trans (h.block k hk hne)⟩
theorem Spoils.set {g : Nat} {w W : World} (h : Spoils (some g) w W) (o : Nat) (u : Value) : Spoils (some g) w (W.setCell ⟨g, o, none⟩ u) :=
  h.grown ⟨rfl, rfl, rfl, by simp, fun k hk hne => Below.heap_setCell _ _ _ _ (fun e => hne (by rw [e]))⟩ (fun k hk => .inl hk)

set_option maxRecDepth 100000 in
set_option maxHeartbeats 4000000 in
theorem spoil_any (w : World) (l : List St) (sa : Int) (base : Nat) (A : Option Addr) (c : Nat) (ho : w.ownsRow base 47 7 (.slice A l.length c) l.length (stCells l)) (hbase : base ≤ w.heap.size) (hl : l.length ≤ 1000000) :
    Calls Try.prog 20 #[nfaV l sa A c] w fun e w' => e = .returned (.tuple #[]) ∧ Spoils (Value.slice A l.length c).ownBlock w w' := by
  go_enter Try.func20, Try.ntmps20
  go_wp2_with fail
  generalize hW : w.alloc _ = W0
  have hS0 : Spoils (Value.slice A l.length c).ownBlock w W0 := by subst hW; exact ⟨rfl, rfl, rfl, by simp, fun k hk _ => (((Below.refl w.heap.size w).alloc (Nat.le_refl _) _).block k hk)⟩
  have hz0 : w.heap.size < W0.heap.size := by subst hW; simp
  have p0 : W0.cell? ⟨w.heap.size, 0, none⟩ = some (.slice A l.length c) := by subst hW; simp [go_sem]
  have ho0 : W0.ownsRow base 47 7 (.slice A l.length c) l.length (stCells l) := by subst hW; exact ho.alloc _
  have hlt0 : ∀ k, (Value.slice A l.length c).ownBlock = some k → k < w.heap.size := fun k hk => (ho.lt k hk).2
  have Hlt0 := Lib.hid hlt0
  clear hW hlt0
  go_loopg [2] (l.length) (fun n i wr => ∃ (j : Nat) (xs : List Value), i = .int .i64 j ∧ j + n = l.length ∧ Spoils (Value.slice A l.length c).ownBlock w wr ∧ w.heap.size < wr.heap.size ∧ wr.cell? ⟨w.heap.size, 0, none⟩ = some (.slice A l.length c) ∧ wr.ownsRow base 47 7 (.slice A l.length c) l.length xs)
  case atStart => exact ⟨0, _, rfl, by omega, hS0, hz0, p0, ho0⟩
  case round =>
    clear hS0 hz0 p0 ho0
    obtain ⟨j, xs, rfl, hj, hS, hz, p0, hor⟩ := hrel
    have Hor := Lib.hid hor; clear hor
    by_cases hlt : j < l.length
    · obtain ⟨g, rfl⟩ : ∃ g, A = some ⟨g, 0, none⟩ := by
        rcases Hor.out.2 with ⟨e, h0⟩ | ⟨g, cap, cur, e, _⟩
        · omega
        · simp only [Value.slice.injEq] at e; exact ⟨g, e.1⟩
      have hxl : xs.length = l.length * 7 := Hor.out.1
      have hc : ∀ k, k < 7 → ∃ u, wr.cell? ⟨g, j * 7 + k, none⟩ = some u := fun k hk => ⟨xs[j * 7 + k]'(by omega), by rw [Hor.out.cellAt _ (by omega), List.getElem?_eq_getElem]⟩
      obtain ⟨x0, f0⟩ := hc 0 (by omega)
      obtain ⟨x1, f1⟩ := hc 1 (by omega)
      obtain ⟨x2, f2⟩ := hc 2 (by omega)
      obtain ⟨x3, f3⟩ := hc 3 (by omega)
      obtain ⟨x4, f4⟩ := hc 4 (by omega)
      obtain ⟨x5, f5⟩ := hc 5 (by omega)
      obtain ⟨x6, f6⟩ := hc 6 (by omega)
      have e0 := Hor.out.frozenAt (j * 7)
      have e1 := Hor.out.frozenAt (j * 7 + 1)
      have e2 := Hor.out.frozenAt (j * 7 + 2)
      have e3 := Hor.out.frozenAt (j * 7 + 3)
      have e4 := Hor.out.frozenAt (j * 7 + 4)
      have e5 := Hor.out.frozenAt (j * 7 + 5)
      have e6 := Hor.out.frozenAt (j * 7 + 6)
      rw [Nat.add_zero] at f0
      have hgne : g ≠ w.heap.size := fun e => by have := Hlt0.out g rfl; omega
      have Hgne := Lib.hid hgne
      clear hc hxl hgne
      go_wp2_with fail
      go_roundg (gk - 1)
      case measure => omega
      case rel =>
        refine ⟨j + 1, _, by go_num, by omega, ((((((hS.set _ _).set _ _).set _ _).set _ _).set _ _).set _ _).set _ _, by simpa using hz, ?_, (((((((Hor.out.stored _ _).1.stored _ _).1.stored _ _).1.stored _ _).1.stored _ _).1.stored _ _).1.stored _ _).1⟩
        have hgne := Hgne.out
        iterate 7 rw [World.cell?_setCell_other (h := by intro e; injection e with e; exact hgne e)]
        exact p0
    · clear Hlt0
      have hj' : (l.length : Int) ≤ (j : Int) := by omega
      go_wp2_with fail
      have hrow0 : ∀ k, (Value.slice A l.length c).ownBlock = some k → (Value.slice A l.length c).ownBlock = some k ∨ w.heap.size ≤ k := fun k hk => .inl hk
      have HS := Lib.hid hS; have Hrow0 := Lib.hid hrow0
      clear hS hrow0 p0 hj'
      go_loopg [3, 4] 8 (fun n lv i W => ∃ (k : Nat) (A2 : Option Addr) (c2 : Nat) (ys : List Value), i = .int .i64 k ∧ k + n = 8 ∧ lv = .slice A2 (l.length + k) c2 ∧ Spoils (Value.slice A l.length c).ownBlock w W ∧ w.heap.size < W.heap.size ∧ W.ownsRow base 47 7 (.slice A2 (l.length + k) c2) (l.length + k) ys ∧
        (∀ b, (Value.slice A2 (l.length + k) c2).ownBlock = some b → (Value.slice A l.length c).ownBlock = some b ∨ w.heap.size ≤ b))
      case atStart => exact ⟨0, A, c, xs, rfl, rfl, rfl, HS.out, hz, Hor.out, Hrow0.out⟩
      case round =>
        clear HS Hor Hrow0 hz
        obtain ⟨k, A2, c2, ys, rfl, hk, rfl, hS, hz, ho2, hrow⟩ := hrel
        have Ho2 := Lib.hid ho2; have HS := Lib.hid hS; have Hrow := Lib.hid hrow
        clear ho2 hS hrow
        by_cases hlt8 : k < 8
        · have hnews : ∀ ad, some (⟨wr.heap.size, 0, none⟩ : Addr) = some ad → ∀ j u, (St.cells ⟨-6, 0, 0, 0, 0, 0, 0⟩)[j]? = some u → (wr.alloc (.cells (St.cells ⟨-6, 0, 0, 0, 0, 0, 0⟩).toArray 47)).cell? (ad.add j) = some u := by
            intro ad e j u hu
            simp only [Option.some.injEq] at e
            subst e
            rw [addr_add, World.cell?_alloc_new, Nat.zero_add]
            simpa using hu
          have Hnews := Lib.hid hnews; clear hnews
          go_wp2_with (at_builtin; refine wpList_append_from base rfl _ _ 33 47 _ 7 56 rfl Try.underlying33 Try.infoState rfl (by omega) (by omega) (.slice A2 (l.length + k) c2) (l.length + k) 1 ys (St.cells ⟨-6, 0, 0, 0, 0, 0, 0⟩) (some ⟨wr.heap.size, 0, none⟩) 1 rfl rfl (by simp) rfl Hnews.out (St.cells_one _) (Ho2.out.alloc _) (by simp; omega) (by omega) (fun A3 c3 w3 ho3 hg3 hat3 => ?_); have Ho3 := Lib.hid ho3; have Hat3 := Lib.hid hat3; have Hg3 := Lib.hid hg3; clear ho3 hat3 hg3)
          go_roundg (gk - 1)
          case measure => omega
          case rel =>
            have hz3 := Hg3.out.size
            simp only [World.size_alloc] at hz3
            refine ⟨k + 1, A3, c3, _, by go_num, by omega, rfl, (HS.out.grown (World.grownBy_alloc _ _ none) (by simp)).grown Hg3.out Hrow.out, by omega, Ho3.out, fun b hb => ?_⟩
            rcases Hat3.out with h | h
            · exact Hrow.out b (h.symm.trans hb)
            · have e2 := hb.symm.trans h
              simp at e2
              exact .inr (by omega)
        · go_wp2_with fail
          go_end0
          exact ⟨rfl, HS.out⟩
end Go.Proofs.Ytdpmbanfaigmcaa

/- The walk of nfa's layer: repeat. -/
set_option linter.unusedVariables false
set_option linter.unusedSimpArgs false
namespace Go.Proofs.Ytdpmbanfaigmcaa
open Go.RowKit

theorem Layer.form {w : World} {L base : Nat} {v : Value} {l : List St} (h : Layer w L base v l) : ∃ A c, v = .slice A l.length c := by
  rcases h.own.2 with ⟨rfl, h0⟩ | ⟨g, cap, cur, rfl, _⟩
  · exact ⟨none, 0, by rw [h0]⟩
  · exact ⟨_, cap, rfl⟩
theorem Layer.form' {w : World} {L base : Nat} {v : Value} {l : List St} (h : Layer w L base v l) (hl : 0 < l.length) : ∃ g cap, v = .slice (some ⟨g, 0, none⟩) l.length cap ∧ g ≠ L ∧ base ≤ g ∧ g < w.heap.size := by
  rcases h.own.2 with ⟨rfl, h0⟩ | ⟨g, cap, cur, rfl, hb, hg, _⟩
  · omega
  · refine ⟨g, cap, rfl, fun e => h.ne (by simp [Value.ownBlock, e]), hb, (Array.getElem?_eq_some_iff.1 hg).1⟩
theorem stCells_at (l : List St) (i : Nat) (hi : i < l.length) : ∀ j, j < 7 → (stCells l)[i * 7 + j]? = (l[i].cells)[j]? := by
  induction l generalizing i with
  | nil => simp at hi
  | cons s l ih =>
    intro j hj
    show (s.cells ++ stCells l)[i * 7 + j]? = _
    have hs : s.cells.length = 7 := rfl
    cases i with
    | zero => rw [List.getElem?_append_left (by rw [hs]; omega)]; simp
    | succ i =>
      rw [List.getElem?_append_right (by rw [hs]; omega), hs, show (i + 1) * 7 + j - 7 = i * 7 + j by omega]
      exact ih i (by simpa using hi) j hj
theorem stCells_setNx (l : List St) (i : Nat) (x : Int) (hi : i < l.length) : (stCells l).set (i * 7 + 5) (.int .i64 x) = stCells (setNx l i x) := by
  induction l generalizing i with
  | nil => simp at hi
  | cons s l ih =>
    have hs : s.cells.length = 7 := rfl
    cases i with
    | zero => simp only [setNx, List.modify_zero_cons]; rfl
    | succ i =>
      have : setNx (s :: l) (i + 1) x = s :: setNx l i x := by simp [setNx]
      rw [this]
      show (s.cells ++ stCells l).set _ _ = s.cells ++ stCells (setNx l i x)
      rw [← ih i (by simpa using hi), List.set_append_right _ _ (by rw [hs]; omega), hs, show (i + 1) * 7 + 5 - 7 = i * 7 + 5 by omega]
/-- A state's Next is written. -/
theorem Layer.setNx {w : World} {L base g cap : Nat} {l : List St} (h : Layer w L base (.slice (some ⟨g, 0, none⟩) l.length cap) l) (i : Nat) (hi : i < l.length) (x : Int) :
    (w.cell? ⟨g, i * 7 + 5, none⟩).isSome = true ∧ w.frozen? ⟨g, i * 7 + 5, none⟩ = false ∧ Layer (w.setCell ⟨g, i * 7 + 5, none⟩ (.int .i64 x)) L base (.slice (some ⟨g, 0, none⟩) l.length cap) (setNx l i x) ∧
    Lays L (some g) w (w.setCell ⟨g, i * 7 + 5, none⟩ (.int .i64 x)) := by
  have hgL : L ≠ g := fun e => h.ne (by simp [Value.ownBlock, e])
  have h1 : w.cell? ⟨g, i * 7 + 5, none⟩ = _ := h.own.cellAt (i * 7 + 5) (by omega)
  rw [stCells_at l i hi 5 (by omega)] at h1
  have hst := h.own.stored (i * 7 + 5) (.int .i64 x)
  rw [stCells_setNx l i x hi] at hst
  refine ⟨by rw [h1]; rfl, h.own.frozenAt _, ⟨?_, ?_, ?_, h.ne, ?_⟩, ?_⟩
  · rw [World.cell?_setCell_other _ _ _ _ (by intro e; injection e with e; exact hgL e.symm)]; exact h.cell
  · rw [World.frozen?_setCell]; exact h.froz
  · have : (Go.Proofs.Ytdpmbanfaigmcaa.setNx l i x).length = l.length := by simp [Go.Proofs.Ytdpmbanfaigmcaa.setNx]
    rw [this]; exact hst.1
  · rw [World.size_setCell]; exact h.base
  · exact ⟨rfl, rfl, rfl, by rw [World.size_setCell]; exact Nat.le_refl _, fun k hk _ hne => Below.heap_setCell _ _ _ _ (fun e => hne (by rw [e]))⟩

theorem headF_at : ∀ (ps : List T) (h : 0 < ps.length), headF ps = layF ps[0]
  | p :: ps, _ => by funext tu l; rw [headF]; rfl
theorem At8.zero {w : World} {b : Nat} {t : T} {A : Option Addr} {c : Nat} (h : At8 w b 0 t A c) : w.cell? ⟨b, 0, none⟩ = some (.int .i64 t.k) := h.f0

set_option maxRecDepth 100000 in
set_option maxHeartbeats 2000000 in
theorem repeat_opt (t : T) (hk : t.k = 6) (hr : rightF t = true) (hmx : ¬ t.mx < 0) (ih : ∀ p ∈ t.ps, LayAt 41 p) : LayAt 72 t := by
  intro w ok A c L base v l tu hN ho hL hlen
  have hN' := hN
  have hps1 : 0 < t.ps.length := by rcases right_cases hr with h | h | h | h | h | h | h <;> omega
  obtain ⟨b, o, rfl, hb, hcell⟩ := hN.part hps1
  obtain ⟨Ap, cp, h8, hNp⟩ := hcell 0 hps1
  have hp0 : t.ps[0] ∈ t.ps := List.getElem_mem _
  have hih := ih t.ps[0] hp0
  have hlc := hN.len
  have hcc := hN.cap
  have hhead : headF t.ps = layF t.ps[0] := headF_at t.ps hps1
  have hrep : layF t tu l = repF t.mn t.mx (headF t.ps) tu l := by rw [layF_eq]; simp [hk]
  rw [hhead] at hrep
  have hb3 : 0 ≤ t.mn ∧ t.mn ≤ 255 ∧ t.mx ≤ 255 ∧ (t.mx = -1 ∨ t.mn ≤ t.mx) := by rcases right_cases hr with h | h | h | h | h | h | h <;> omega
  obtain ⟨hmn0, hmn1, hmx1, hmm⟩ := hb3
  generalize t.ps[0] = p at *
  obtain ⟨f0, f1, f2, f3, f4, f5, f6, f7⟩ := h8
  simp only [Nat.zero_mul, Nat.add_zero] at f0 f1 f2 f3 f4 f5 f6 f7
  have Hih := Lib.hid hih; have Hrep := Lib.hid hrep; have Hk := Lib.hid hk
  have hgp := layF_grows p
  have hlt1 : (0 : Int) < (t.ps.length : Int) := by omega
  clear hih hrep hk hcell hhead
  have hLlt := hL.lt
  have hblt := (ho b hb).1
  rw [Hrep.out] at hlen
  go_enter Try.func72, Try.ntmps72
  go_wp2_with fail
  generalize hW : (w.alloc _).alloc _ = W0
  have hz0 : w.heap.size + 2 = W0.heap.size := by subst hW; simp
  have hL0 : Layer W0 L base v l := by subst hW; exact (hL.alloc _).alloc _
  have ho0w := ho.later (w' := W0) (by omega) (Moves.refl _ _)
  have hlw : Lays L v.ownBlock w W0 := by subst hW; exact (Lays.alloc _ _ _ _).trans (Moves.refl _ v) (Lays.alloc _ _ _ _)
  have hmw : Moves w v v := Moves.refl _ _
  have hP : At8 W0 (w.heap.size + 1) 0 p Ap cp := by subst hW; constructor <;> simp [go_sem]
  have g5 : W0.cell? ⟨w.heap.size, 5, none⟩ = some (.int .i64 t.mn) := by subst hW; simp [go_sem]
  have g6 : W0.cell? ⟨w.heap.size, 6, none⟩ = some (.int .i64 t.mx) := by subst hW; simp [go_sem]
  have hNp0 := hNp.lays ho hlw
  obtain ⟨hv1, hv2⟩ : some w.heap.size ≠ v.ownBlock ∧ some (w.heap.size + 1) ≠ v.ownBlock := by
    constructor
    · intro e; have := (hL.own.lt _ e.symm).2; omega
    · intro e; have := (hL.own.lt _ e.symm).2; omega
  have hB0 : w.heap.size < W0.heap.size ∧ w.heap.size ≠ L ∧ some w.heap.size ≠ v.ownBlock := ⟨by omega, by omega, hv1⟩
  have hB1 : w.heap.size + 1 < W0.heap.size ∧ w.heap.size + 1 ≠ L ∧ some (w.heap.size + 1) ≠ v.ownBlock := ⟨by omega, by omega, hv2⟩
  clear hW
  have ho0 := ho0w
  have ho0' := ho0w
  have hmx' : 0 ≤ t.mx - t.mn := by omega
  have hopt : minF (layF p) t.mn.toNat (optF (layF p) tu (t.mx - t.mn).toNat tu l).1 (optF (layF p) tu (t.mx - t.mn).toNat tu l).2 = layF t tu l := by rw [Hrep.out, repF]; simp only [if_neg (show ¬ t.mx < 0 by omega)]
  have Hopt := Lib.hid hopt; clear hopt
  go_loopg [8, 41] ((t.mx - t.mn).toNat) (fun n tv iv wr => ∃ (i : Nat) (t' : Int) (v' : Value) (l' : List St), iv = .int .i64 i ∧ tv = .int .i64 t' ∧ i + n = (t.mx - t.mn).toNat ∧ optF (layF p) tu n t' l' = optF (layF p) tu (t.mx - t.mn).toNat tu l ∧ Layer wr L base v' l' ∧ Moves W0 v v' ∧ Lays L v.ownBlock W0 wr)
  case atStart => exact ⟨0, tu, v, l, rfl, rfl, by omega, rfl, hL0, Moves.refl _ _, Lays.refl _ _ _⟩
  case round =>
    obtain ⟨i, t', v', l', rfl, rfl, hin, heq, hLr, hmr, hlr⟩ := hrel
    have Heq := Lib.hid heq; clear heq
    have hor := ho0.later hlr.size hmr
    have hNr := hNp0.lays ho0' hlr
    have hzr := hlr.size
    obtain ⟨q0, q1, q2, q3, q4, q5, q6, q7⟩ := hP.mono (fun o => hlr.cell hB1.1 hB1.2.1 hB1.2.2)
    simp only [Nat.zero_add] at q0 q1 q2 q3 q4 q5 q6 q7
    have hfl : (optF (layF p) tu (t.mx - t.mn).toNat tu l).2.length ≤ 1000000 := by
      have := minF_grows hgp t.mn.toNat (optF (layF p) tu (t.mx - t.mn).toNat tu l).1 (optF (layF p) tu (t.mx - t.mn).toNat tu l).2
      rw [Hopt.out, Hrep.out] at this; omega
    have hlc' : l'.length ≤ 1000000 := by have := optF_grows hgp tu gk t' l'; rw [Heq.out] at this; omega
    by_cases hlt : (i : Int) < t.mx - t.mn
    · obtain ⟨n', hgk⟩ : ∃ n', gk = n' + 1 := ⟨gk - 1, by omega⟩
      have hst : (layF p t' l').2.length + 1 ≤ 1000000 := by
        have h1 := optF_grows hgp tu n' (layF p t' l').2.length ((layF p t' l').2 ++ [splitS (layF p t' l').1 tu])
        have h2 := Heq.out
        rw [hgk, optF] at h2
        rw [h2] at h1
        simp only [List.length_append, List.length_cons, List.length_nil] at h1
        omega
      have hnx : optF (layF p) tu n' (layF p t' l').2.length ((layF p t' l').2 ++ [splitS (layF p t' l').1 tu]) = optF (layF p) tu (t.mx - t.mn).toNat tu l := by rw [← Heq.out, hgk, optF]
      have Hnx := Lib.hid hnx; have Hgk := Lib.hid hgk; clear hnx hgk hfl
      go_wp2_with fail
      refine (Hih.out _ ok Ap cp L base _ l' t' hNr hor hLr (by omega)).mono ?_
      rintro e w1 ⟨rfl, v1, hL1, hm1, hl1⟩
      have hmm1 := hmr.trans hzr hm1
      have hll1 := hlr.trans hmr hl1
      go_wp2_with fail
      refine (state_any _ L base v1 _ (splitS (layF p t' l').1 tu) hL1 (by omega)).mono ?_
      rintro e w2 ⟨rfl, v2, hL2, hm2, hl2⟩
      have hmm2 := hmm1.trans hll1.size hm2
      have hll2 := hll1.trans hmm1 hl2
      go_wp2_with fail
      go_roundg n'
      case measure => have := Hgk.out; omega
      case rel => exact ⟨i + 1, (layF p t' l').2.length, _, _, by go_num, rfl, by have := Hgk.out; omega, Hnx.out, hL2, hmm2, hll2⟩
    · have hfin : optF (layF p) tu (t.mx - t.mn).toNat tu l = (t', l') := by rw [← Heq.out, show gk = 0 by omega, optF]
      have hst2 : minF (layF p) t.mn.toNat t' l' = layF t tu l := by rw [← Hopt.out, hfin]
      have Hst2 := Lib.hid hst2; clear hst2 hfin hfl
      have k5 := (hlr.cell (o := 5) hB0.1 hB0.2.1 hB0.2.2).trans g5
      go_wp2_with fail
      go_loopg [8, 55] (t.mn.toNat) (fun n tv iv wr => ∃ (i : Nat) (t' : Int) (v' : Value) (l' : List St), iv = .int .i64 i ∧ tv = .int .i64 t' ∧ i + n = t.mn.toNat ∧ minF (layF p) n t' l' = layF t tu l ∧ Layer wr L base v' l' ∧ Moves W0 v v' ∧ Lays L v.ownBlock W0 wr)
      case atStart => exact ⟨0, t', v', l', rfl, rfl, by omega, Hst2.out, hLr, hmr, hlr⟩
      case round =>
        clear hLr hmr hlr hor hNr hzr q0 q1 q2 q3 q4 q5 q6 q7 hlc' hin Heq Hst2 k5 hlt
        obtain ⟨i, t', v', l', rfl, rfl, hin, heq, hLr, hmr, hlr⟩ := hrel
        have Heq := Lib.hid heq; clear heq
        have hor := ho0.later hlr.size hmr
        have hNr := hNp0.lays ho0' hlr
        have hzr := hlr.size
        obtain ⟨q0, q1, q2, q3, q4, q5, q6, q7⟩ := hP.mono (fun o => hlr.cell hB1.1 hB1.2.1 hB1.2.2)
        simp only [Nat.zero_add] at q0 q1 q2 q3 q4 q5 q6 q7
        have hlc' : l'.length ≤ 1000000 := by have := minF_grows hgp gk t' l'; rw [Heq.out, Hrep.out] at this; omega
        by_cases hlt : (i : Int) < t.mn
        · obtain ⟨n', hgk⟩ : ∃ n', gk = n' + 1 := ⟨gk - 1, by omega⟩
          have hst : (layF p t' l').2.length ≤ 1000000 := by
            have h1 := Heq.out
            rw [hgk, minF] at h1
            have h2 := Hrep.out
            split at h1
            · rw [h1, h2]; exact hlen
            · have := minF_grows hgp n' (layF p t' l').1 (layF p t' l').2; rw [h1, h2] at this; omega
          obtain ⟨Av, cv, rfl⟩ := hLr.form
          have hcL := hLr.cell
          go_wp2_with fail
          refine (Hih.out _ ok Ap cp L base _ l' t' hNr hor hLr hst).mono ?_
          rintro e w1 ⟨rfl, v1, hL1, hm1, hl1⟩
          obtain ⟨Av1, cv1, rfl⟩ := hL1.form
          have hcL1 := hL1.cell
          have hmm1 := hmr.trans hzr hm1
          have hll1 := hlr.trans hmr hl1
          by_cases hsame : (layF p t' l').2.length = l'.length
          · have hfin : layF t tu l = layF p t' l' := by rw [← Heq.out, hgk, minF, if_pos hsame]
            have hq : (((layF p t' l').2.length : Int) == (l'.length : Int)) = true := by rw [beq_iff_eq, hsame]
            have Hfin := Lib.hid hfin; have Hsame := Lib.hid hsame; have Hgk := Lib.hid hgk; clear hfin hsame hgk
            go_wp2_with fail
            go_ret
            rw [Hfin.out]
            exact ⟨rfl, _, hL1, hmw.trans (by omega) hmm1, hlw.trans hmw hll1⟩
          · have hq : (((layF p t' l').2.length : Int) == (l'.length : Int)) = false := by rw [beq_eq_false_iff_ne]; omega
            have hnx : minF (layF p) n' (layF p t' l').1 (layF p t' l').2 = layF t tu l := by rw [← Heq.out, hgk, minF, if_neg hsame]
            have Hnx := Lib.hid hnx; have Hsame := Lib.hid hsame; have Hgk := Lib.hid hgk; clear hnx hsame hgk
            go_wp2_with fail
            go_roundg n'
            case measure => have := Hgk.out; omega
            case rel => exact ⟨i + 1, (layF p t' l').1, _, (layF p t' l').2, by go_num, rfl, by have := Hgk.out; omega, Hnx.out, hL1, hmm1, hll1⟩
        · have hfin : layF t tu l = (t', l') := by rw [← Heq.out, show gk = 0 by omega, minF]
          have Hfin := Lib.hid hfin; clear hfin
          go_wp2_with fail
          go_ret
          rw [Hfin.out]
          exact ⟨rfl, _, hLr, hmw.trans (by omega) hmr, hlw.trans hmw hlr⟩

set_option maxRecDepth 100000 in
set_option maxHeartbeats 2000000 in
theorem repeat_star (t : T) (hk : t.k = 6) (hr : rightF t = true) (hmx : t.mx < 0) (ih : ∀ p ∈ t.ps, LayAt 41 p) : LayAt 72 t := by
  intro w ok A c L base v l tu hN ho hL hlen
  have hN' := hN
  have hps1 : 0 < t.ps.length := by rcases right_cases hr with h | h | h | h | h | h | h <;> omega
  obtain ⟨b, o, rfl, hb, hcell⟩ := hN.part hps1
  obtain ⟨Ap, cp, h8, hNp⟩ := hcell 0 hps1
  have hp0 : t.ps[0] ∈ t.ps := List.getElem_mem _
  have hih := ih t.ps[0] hp0
  have hlc := hN.len
  have hcc := hN.cap
  have hhead : headF t.ps = layF t.ps[0] := headF_at t.ps hps1
  have hrep : layF t tu l = repF t.mn t.mx (headF t.ps) tu l := by rw [layF_eq]; simp [hk]
  rw [hhead] at hrep
  have hb3 : 0 ≤ t.mn ∧ t.mn ≤ 255 ∧ t.mx ≤ 255 ∧ (t.mx = -1 ∨ t.mn ≤ t.mx) := by rcases right_cases hr with h | h | h | h | h | h | h <;> omega
  obtain ⟨hmn0, hmn1, hmx1, hmm⟩ := hb3
  generalize t.ps[0] = p at *
  obtain ⟨f0, f1, f2, f3, f4, f5, f6, f7⟩ := h8
  simp only [Nat.zero_mul, Nat.add_zero] at f0 f1 f2 f3 f4 f5 f6 f7
  have Hih := Lib.hid hih; have Hrep := Lib.hid hrep; have Hk := Lib.hid hk
  have hgp := layF_grows p
  have hlt1 : (0 : Int) < (t.ps.length : Int) := by omega
  clear hih hrep hk hcell hhead
  have hLlt := hL.lt
  have hblt := (ho b hb).1
  rw [Hrep.out] at hlen
  go_enter Try.func72, Try.ntmps72
  have hrp : repF t.mn t.mx (layF p) tu l = minF (layF p) t.mn.toNat (starF (layF p) tu l).1 (starF (layF p) tu l).2 := by rw [repF]; simp only [if_pos hmx]
  have hg1 := minF_grows hgp t.mn.toNat (starF (layF p) tu l).1 (starF (layF p) tu l).2
  rw [← hrp] at hg1
  have hg2 : (starF (layF p) tu l).2.length = (layF p l.length (l ++ [splitS 0 tu])).2.length := by simp [starF, setNx]
  have hg3 := hgp l.length (l ++ [splitS 0 tu])
  simp only [List.length_append, List.length_cons, List.length_nil] at hg3
  have Hrp := Lib.hid hrp; have Hg2 := Lib.hid hg2; clear hrp
  have hlen1 : l.length ≤ 1000000 := by omega
  have hlen2 : (layF p l.length (l ++ [splitS 0 tu])).2.length ≤ 1000000 := by omega
  have Hlen := Lib.hid hlen
  clear hg1 hg2 hlen
  have hnn : ¬ (0 : Int) < t.mx - t.mn := by omega
  go_wp2_with fail
  generalize hW : (w.alloc _).alloc _ = W0
  have hz0 : w.heap.size + 2 = W0.heap.size := by subst hW; simp
  have hL0 : Layer W0 L base v l := by subst hW; exact (hL.alloc _).alloc _
  have ho0w := ho.later (w' := W0) (by omega) (Moves.refl _ _)
  have hlw : Lays L v.ownBlock w W0 := by subst hW; exact (Lays.alloc _ _ _ _).trans (Moves.refl _ v) (Lays.alloc _ _ _ _)
  have hmw : Moves w v v := Moves.refl _ _
  have hP : At8 W0 (w.heap.size + 1) 0 p Ap cp := by subst hW; constructor <;> simp [go_sem]
  have g5 : W0.cell? ⟨w.heap.size, 5, none⟩ = some (.int .i64 t.mn) := by subst hW; simp [go_sem]
  have g6 : W0.cell? ⟨w.heap.size, 6, none⟩ = some (.int .i64 t.mx) := by subst hW; simp [go_sem]
  have hNp0 := hNp.lays ho hlw
  obtain ⟨hv1, hv2⟩ : some w.heap.size ≠ v.ownBlock ∧ some (w.heap.size + 1) ≠ v.ownBlock := by
    constructor
    · intro e; have := (hL.own.lt _ e.symm).2; omega
    · intro e; have := (hL.own.lt _ e.symm).2; omega
  have hB0 : w.heap.size < W0.heap.size ∧ w.heap.size ≠ L ∧ some w.heap.size ≠ v.ownBlock := ⟨by omega, by omega, hv1⟩
  have hB1 : w.heap.size + 1 < W0.heap.size ∧ w.heap.size + 1 ≠ L ∧ some (w.heap.size + 1) ≠ v.ownBlock := ⟨by omega, by omega, hv2⟩
  clear hW
  have ho0 := ho0w
  have ho0' := ho0w
  refine (state_any _ L base v l (splitS 0 tu) hL0 (by omega)).mono ?_
  rintro e w1 ⟨rfl, v1, hL1, hm1, hl1⟩
  obtain ⟨q0, q1, q2, q3, q4, q5, q6, q7⟩ := hP.mono (fun o => hl1.cell hB1.1 hB1.2.1 hB1.2.2)
  simp only [Nat.zero_add] at q0 q1 q2 q3 q4 q5 q6 q7
  go_wp2_with fail
  refine (Hih.out _ ok Ap cp L base v1 _ (l.length : Int) (hNp0.lays ho0' hl1) (ho0.later hl1.size hm1) hL1 hlen2).mono ?_
  rintro e w2 ⟨rfl, v2, hL2, hm2, hl2⟩
  clear q0 q1 q2 q3 q4 q5 q6 q7
  have hmm2 := hm1.trans hl1.size hm2
  have hll2 := hl1.trans hm1 hl2
  have hli : l.length < (layF p l.length (l ++ [splitS 0 tu])).2.length := by omega
  obtain ⟨g, cap, rfl, hgL, hgb, hgz⟩ := hL2.form' (by omega)
  obtain ⟨hc5, hfz, hL3, hl3⟩ := hL2.setNx l.length hli (layF p l.length (l ++ [splitS 0 tu])).1
  obtain ⟨old, hc5'⟩ := Option.isSome_iff_exists.1 hc5
  have hcL2 := hL2.cell
  have hli' : (l.length : Int) < ((layF p l.length (l ++ [splitS 0 tu])).2.length : Int) := by omega
  have h5 : (w2.setCell ⟨g, l.length * 7 + 5, none⟩ (.int .i64 (layF p l.length (l ++ [splitS 0 tu])).1)).cell? ⟨w.heap.size, 5, none⟩ = some (.int .i64 t.mn) := by
    rw [hl3.cell (by have := hll2.size; omega) hB0.2.1 ?_, hll2.cell hB0.1 hB0.2.1 hB0.2.2, g5]
    intro e
    rcases hmm2 with h | ⟨x, hx, hle⟩
    · exact hB0.2.2 (e.trans h)
    · simp only [Value.ownBlock] at hx; rw [← e] at hx; injection hx with hx; omega
  have h6 : (w2.setCell ⟨g, l.length * 7 + 5, none⟩ (.int .i64 (layF p l.length (l ++ [splitS 0 tu])).1)).cell? ⟨w.heap.size, 6, none⟩ = some (.int .i64 t.mx) := by
    rw [hl3.cell (by have := hll2.size; omega) hB0.2.1 ?_, hll2.cell hB0.1 hB0.2.1 hB0.2.2, g6]
    intro e
    rcases hmm2 with h | ⟨x, hx, hle⟩
    · exact hB0.2.2 (e.trans h)
    · simp only [Value.ownBlock] at hx; rw [← e] at hx; injection hx with hx; omega
  have hll3 : Lays L v.ownBlock W0 (w2.setCell ⟨g, l.length * 7 + 5, none⟩ (.int .i64 (layF p l.length (l ++ [splitS 0 tu])).1)) := hll2.trans hmm2 hl3
  have hL3' : Layer (w2.setCell ⟨g, l.length * 7 + 5, none⟩ (.int .i64 (layF p l.length (l ++ [splitS 0 tu])).1)) L base (.slice (some ⟨g, 0, none⟩) (layF p l.length (l ++ [splitS 0 tu])).2.length cap) (starF (layF p) tu l).2 := hL3
  have HL3 := Lib.hid hL3'; have Hll3 := Lib.hid hll3; have Hmm2 := Lib.hid hmm2
  clear hL3 hL3' hll3 hc5 hl3 hll2 hmm2 hm1 hm2 hl1 hl2 hL1 hL2
  have hst2 : minF (layF p) t.mn.toNat (l.length : Int) (starF (layF p) tu l).2 = layF t tu l := by rw [Hrep.out, Hrp.out]; rfl
  have Hst2 := Lib.hid hst2; clear hst2
  go_wp2_with fail
  generalize hW3 : w2.setCell _ _ = W3 at *
  go_loopg [8, 41] 0 (fun n tv iv wr => iv = .int .i64 0 ∧ tv = .int .i64 (l.length : Int) ∧ wr = W3)
  case atStart => exact ⟨rfl, rfl, rfl⟩
  case round =>
    obtain ⟨rfl, rfl, rfl⟩ := hrel
    have hlen := Hlen.out
    clear hW3 hlen2 hli hli' hlen1 hg3 hc5' hfz hcL2
    go_wp2_with fail
    go_loopg [8, 55] (t.mn.toNat) (fun n tv iv wr => ∃ (i : Nat) (t' : Int) (v' : Value) (l' : List St), iv = .int .i64 i ∧ tv = .int .i64 t' ∧ i + n = t.mn.toNat ∧ minF (layF p) n t' l' = layF t tu l ∧ Layer wr L base v' l' ∧ Moves W0 v v' ∧ Lays L v.ownBlock W0 wr)
    case atStart => exact ⟨0, (l.length : Int), _, (starF (layF p) tu l).2, rfl, rfl, by omega, Hst2.out, HL3.out, Hmm2.out, Hll3.out⟩
    case round =>
      clear Hst2 HL3 Hll3 Hmm2
      obtain ⟨i, t', v', l', rfl, rfl, hin, heq, hLr, hmr, hlr⟩ := hrel
      have Heq := Lib.hid heq; clear heq
      have hor := ho0.later hlr.size hmr
      have hNr := hNp0.lays ho0' hlr
      have hzr := hlr.size
      obtain ⟨q0, q1, q2, q3, q4, q5, q6, q7⟩ := hP.mono (fun o => hlr.cell hB1.1 hB1.2.1 hB1.2.2)
      simp only [Nat.zero_add] at q0 q1 q2 q3 q4 q5 q6 q7
      have hlc' : l'.length ≤ 1000000 := by have := minF_grows hgp gk t' l'; rw [Heq.out, Hrep.out] at this; omega
      by_cases hlt : (i : Int) < t.mn
      · obtain ⟨n', hgk⟩ : ∃ n', gk = n' + 1 := ⟨gk - 1, by omega⟩
        have hst : (layF p t' l').2.length ≤ 1000000 := by
          have h1 := Heq.out
          rw [hgk, minF] at h1
          have h2 := Hrep.out
          split at h1
          · rw [h1, h2]; exact hlen
          · have := minF_grows hgp n' (layF p t' l').1 (layF p t' l').2; rw [h1, h2] at this; omega
        obtain ⟨Av, cv, rfl⟩ := hLr.form
        have hcL := hLr.cell
        go_wp2_with fail
        refine (Hih.out _ ok Ap cp L base _ l' t' hNr hor hLr hst).mono ?_
        rintro e w1 ⟨rfl, v1, hL1, hm1, hl1⟩
        obtain ⟨Av1, cv1, rfl⟩ := hL1.form
        have hcL1 := hL1.cell
        have hmm1 := hmr.trans hzr hm1
        have hll1 := hlr.trans hmr hl1
        by_cases hsame : (layF p t' l').2.length = l'.length
        · have hfin : layF t tu l = layF p t' l' := by rw [← Heq.out, hgk, minF, if_pos hsame]
          have hq : (((layF p t' l').2.length : Int) == (l'.length : Int)) = true := by rw [beq_iff_eq, hsame]
          have Hfin := Lib.hid hfin; have Hsame := Lib.hid hsame; have Hgk := Lib.hid hgk; clear hfin hsame hgk
          go_wp2_with fail
          go_ret
          rw [Hfin.out]
          exact ⟨rfl, _, hL1, hmw.trans (by omega) hmm1, hlw.trans hmw hll1⟩
        · have hq : (((layF p t' l').2.length : Int) == (l'.length : Int)) = false := by rw [beq_eq_false_iff_ne]; omega
          have hnx : minF (layF p) n' (layF p t' l').1 (layF p t' l').2 = layF t tu l := by rw [← Heq.out, hgk, minF, if_neg hsame]
          have Hnx := Lib.hid hnx; have Hsame := Lib.hid hsame; have Hgk := Lib.hid hgk; clear hnx hsame hgk
          go_wp2_with fail
          go_roundg n'
          case measure => have := Hgk.out; omega
          case rel => exact ⟨i + 1, (layF p t' l').1, _, (layF p t' l').2, by go_num, rfl, by have := Hgk.out; omega, Hnx.out, hL1, hmm1, hll1⟩
      · have hfin : layF t tu l = (t', l') := by rw [← Heq.out, show gk = 0 by omega, minF]
        have Hfin := Lib.hid hfin; clear hfin
        go_wp2_with fail
        go_ret
        rw [Hfin.out]
        exact ⟨rfl, _, hLr, hmw.trans (by omega) hmr, hlw.trans hmw hlr⟩

theorem repeat_any (t : T) (hk : t.k = 6) (hr : rightF t = true) (ih : ∀ p ∈ t.ps, LayAt 41 p) : LayAt 72 t := by
  by_cases hmx : t.mx < 0
  · exact repeat_star t hk hr hmx ih
  · exact repeat_opt t hk hr hmx ih
end Go.Proofs.Ytdpmbanfaigmcaa

/- vouchref11: the layer's state and repeat: walked. -/
set_option linter.unusedVariables false
set_option linter.unusedSimpArgs false
namespace Go.Proofs.Ytdpmbanfaigmcaa
open Go.RowKit

set_option maxRecDepth 100000 in
set_option maxHeartbeats 1000000 in
theorem rstate_any (w : World) (L base : Nat) (v : Value) (l : List St) (s : St) (h : Layer w L base v l) (hl : l.length ≤ 1000000) :
    Calls Try.prog 44 #[.pointer (some ⟨L, 0, none⟩), s.V] w fun e w' => e = .returned (.int .i64 l.length) ∧ ∃ v', Layer w' L base v' (l ++ [s]) ∧ Moves w v v' ∧ Lays L v.ownBlock w w' := by
  have hL := h.lt
  have hc := h.cell
  have hf := h.froz
  obtain ⟨A, c, rfl⟩ : ∃ A c, v = .slice A l.length c := by
    rcases h.own.2 with ⟨rfl, h0⟩ | ⟨g, cap, cur, rfl, _⟩
    · exact ⟨none, 0, by rw [h0]⟩
    · exact ⟨_, cap, rfl⟩
  go_enter Try.func44, Try.ntmps44
  go_wp2_with fail
  have hown : ((w.alloc (.cells s.cells.toArray 47)).alloc (.cells s.cells.toArray 47)).drew.ownsRow base 47 7 (.slice A l.length c) l.length (stCells l) :=
    ((h.own.alloc _).alloc _).kept (row := none) ⟨rfl, rfl, rfl, Nat.le_refl _, fun _ _ _ => rfl⟩ (by cases A <;> simp [Value.ownBlock])
  have hnews : ∀ j u, s.cells[j]? = some u → ((w.alloc (.cells s.cells.toArray 47)).alloc (.cells s.cells.toArray 47)).drew.cell? ((⟨w.heap.size + 1, 0, none⟩ : Addr).add j) = some u := by
    intro j u hu
    have e : (⟨w.heap.size + 1, 0, none⟩ : Addr).add j = ⟨w.heap.size + 1, j, none⟩ := by unfold Addr.add; split <;> simp_all
    rw [e, World.cell?_drew]
    rw [show w.heap.size + 1 = (w.alloc (.cells s.cells.toArray 47)).heap.size by simp, World.cell?_alloc_new]
    simpa using hu
  have hb0 : base ≤ ((w.alloc (.cells s.cells.toArray 47)).alloc (.cells s.cells.toArray 47)).drew.heap.size := by have := h.base; simp; omega
  have hLA : (Value.slice A l.length c).ownBlock ≠ some L := h.ne
  have hcL : ((w.alloc (.cells s.cells.toArray 47)).alloc (.cells s.cells.toArray 47)).drew.cell? ⟨L, 0, none⟩ = some (.slice A l.length c) := by
    rw [World.cell?_drew, World.cell?_alloc_lt _ _ _ (by simp; omega), World.cell?_alloc_lt _ _ _ hL, hc]
  have hfL : ((w.alloc (.cells s.cells.toArray 47)).alloc (.cells s.cells.toArray 47)).drew.frozen? ⟨L, 0, none⟩ = false := by
    rw [World.frozen?_drew, World.frozen?_alloc_old _ _ _ (by simp; omega), World.frozen?_alloc_old _ _ _ (by simp; omega), hf]
  have Hown := Lib.hid hown; have Hnews := Lib.hid hnews; have HcL := Lib.hid hcL; have HfL := Lib.hid hfL; have Hb0 := Lib.hid hb0; have H := Lib.hid h; have HLA := Lib.hid hLA
  clear hown hnews hcL hfL hb0 h hLA
  go_region_law (refine step_append_at base rfl (.tmp 9) (.tmp 11) 33 47 _ 7 56 rfl Try.underlying33 Try.infoState rfl (by omega) (by omega) (.slice A l.length c) l.length 1 (stCells l) s.cells ⟨w.heap.size + 1, 0, none⟩ 1 rfl rfl (by omega) rfl Hnews.out s.cells_one Hown.out Hb0.out (by omega) (fun g cap w1 hown1 hg1 hat1 => ?_); have k0 : w1.cell? ⟨L, 0, none⟩ = some (.slice A l.length c) := (hg1.cell HcL.out (fun e => HLA.out e.symm)); have e0 : w1.frozen? ⟨L, 0, none⟩ = false := (World.frozen?_of_block (w := ((w.alloc (.cells s.cells.toArray 47)).alloc (.cells s.cells.toArray 47)).drew) (a := ⟨L, 0, none⟩) (hg1.block L (by simp; omega) (fun e => HLA.out e.symm))).trans HfL.out)
  all_goals
    have k1 := World.cell?_setCell_same w1 _ (.slice (some ⟨g, 0, none⟩) (l.length + 1) cap) k0
    have hlt : L < w1.heap.size := World.block_lt_of_cell? _ _ k0
    go_wp2_with fail
    go_ret
    have hg0 : (Value.slice A l.length c).ownBlock = some g ∨ w.heap.size ≤ g := by
      rcases hat1 with e | e
      · exact .inl e
      · exact .inr (by rw [e]; simp; omega)
    have hgL : g ≠ L := by
      intro e
      rcases hg0 with h0 | h0
      · exact HLA.out (by rw [h0, e])
      · omega
    have hz := hg1.size
    simp only [World.size_drew, World.size_alloc] at hz
    refine ⟨by go_num, _, ⟨k1, ?_, ?_, ?_, ?_⟩, ?_, ?_⟩
    · rw [World.frozen?_setCell]; exact e0
    · have := hown1.kept (w' := w1.setCell ⟨L, 0, none⟩ (.slice (some ⟨g, 0, none⟩) (l.length + 1) cap)) (row := some L) ⟨rfl, rfl, rfl, by simp, fun k hk hne => Below.heap_setCell _ _ _ _ (fun e => hne (by rw [e]))⟩ (.inr (by simp [Value.ownBlock]; exact hgL))
      rw [stCells_snoc, List.length_append]
      exact this
    · simp only [Value.ownBlock]; intro e; injection e with e; exact hgL e
    · have := H.out.base; simp only [World.size_setCell]; omega
    · rcases hg0 with h0 | h0
      · exact .inl (by rw [h0]; rfl)
      · exact .inr ⟨g, rfl, h0⟩
    · refine ⟨hg1.os, hg1.tape, hg1.output, by simp only [World.size_setCell]; omega, fun k hk h1 h2 => ?_⟩
      rw [Below.heap_setCell _ _ _ _ h1, hg1.block k (by simp; omega) h2]
      show ((w.heap.push _).push _)[k]? = _
      rw [Array.getElem?_push, Array.getElem?_push]
      simp only [Array.size_push]
      rw [if_neg (by omega), if_neg (by omega)]
set_option maxRecDepth 100000 in
set_option maxHeartbeats 2000000 in
theorem rrepeat_opt (t : T) (hk : t.k = 6) (hr : rightF t = true) (hmx : ¬ t.mx < 0) (ih : ∀ p ∈ t.ps, LayAt 45 p) : LayAt 62 t := by
  intro w ok A c L base v l tu hN ho hL hlen
  have hN' := hN
  have hps1 : 0 < t.ps.length := by rcases right_cases hr with h | h | h | h | h | h | h <;> omega
  obtain ⟨b, o, rfl, hb, hcell⟩ := hN.part hps1
  obtain ⟨Ap, cp, h8, hNp⟩ := hcell 0 hps1
  have hp0 : t.ps[0] ∈ t.ps := List.getElem_mem _
  have hih := ih t.ps[0] hp0
  have hlc := hN.len
  have hcc := hN.cap
  have hhead : headF t.ps = layF t.ps[0] := headF_at t.ps hps1
  have hrep : layF t tu l = repF t.mn t.mx (headF t.ps) tu l := by rw [layF_eq]; simp [hk]
  rw [hhead] at hrep
  have hb3 : 0 ≤ t.mn ∧ t.mn ≤ 255 ∧ t.mx ≤ 255 ∧ (t.mx = -1 ∨ t.mn ≤ t.mx) := by rcases right_cases hr with h | h | h | h | h | h | h <;> omega
  obtain ⟨hmn0, hmn1, hmx1, hmm⟩ := hb3
  generalize t.ps[0] = p at *
  obtain ⟨f0, f1, f2, f3, f4, f5, f6, f7⟩ := h8
  simp only [Nat.zero_mul, Nat.add_zero] at f0 f1 f2 f3 f4 f5 f6 f7
  have Hih := Lib.hid hih; have Hrep := Lib.hid hrep; have Hk := Lib.hid hk
  have hgp := layF_grows p
  have hlt1 : (0 : Int) < (t.ps.length : Int) := by omega
  clear hih hrep hk hcell hhead
  have hLlt := hL.lt
  have hblt := (ho b hb).1
  rw [Hrep.out] at hlen
  go_enter Try.func62, Try.ntmps62
  have hq1 : (t.mx == -1) = false := by rw [beq_eq_false_iff_ne]; omega
  go_wp2_with fail
  generalize hW : (w.alloc _).alloc _ = W0
  have hz0 : w.heap.size + 2 = W0.heap.size := by subst hW; simp
  have hL0 : Layer W0 L base v l := by subst hW; exact (hL.alloc _).alloc _
  have ho0w := ho.later (w' := W0) (by omega) (Moves.refl _ _)
  have hlw : Lays L v.ownBlock w W0 := by subst hW; exact (Lays.alloc _ _ _ _).trans (Moves.refl _ v) (Lays.alloc _ _ _ _)
  have hmw : Moves w v v := Moves.refl _ _
  have hP : At8 W0 (w.heap.size + 1) 0 p Ap cp := by subst hW; constructor <;> simp [go_sem]
  have g5 : W0.cell? ⟨w.heap.size, 5, none⟩ = some (.int .i64 t.mn) := by subst hW; simp [go_sem]
  have g6 : W0.cell? ⟨w.heap.size, 6, none⟩ = some (.int .i64 t.mx) := by subst hW; simp [go_sem]
  have hNp0 := hNp.lays ho hlw
  obtain ⟨hv1, hv2⟩ : some w.heap.size ≠ v.ownBlock ∧ some (w.heap.size + 1) ≠ v.ownBlock := by
    constructor
    · intro e; have := (hL.own.lt _ e.symm).2; omega
    · intro e; have := (hL.own.lt _ e.symm).2; omega
  have hB0 : w.heap.size < W0.heap.size ∧ w.heap.size ≠ L ∧ some w.heap.size ≠ v.ownBlock := ⟨by omega, by omega, hv1⟩
  have hB1 : w.heap.size + 1 < W0.heap.size ∧ w.heap.size + 1 ≠ L ∧ some (w.heap.size + 1) ≠ v.ownBlock := ⟨by omega, by omega, hv2⟩
  clear hW
  have ho0 := ho0w
  have ho0' := ho0w
  have hmx' : 0 ≤ t.mx - t.mn := by omega
  have hopt : minF (layF p) t.mn.toNat (optF (layF p) tu (t.mx - t.mn).toNat tu l).1 (optF (layF p) tu (t.mx - t.mn).toNat tu l).2 = layF t tu l := by rw [Hrep.out, repF]; simp only [if_neg (show ¬ t.mx < 0 by omega)]
  have Hopt := Lib.hid hopt; clear hopt
  go_loopg [8, 11] ((t.mx - t.mn).toNat) (fun n tv iv wr => ∃ (i : Nat) (t' : Int) (v' : Value) (l' : List St), iv = .int .i64 (t.mn + i) ∧ tv = .int .i64 t' ∧ i + n = (t.mx - t.mn).toNat ∧ optF (layF p) tu n t' l' = optF (layF p) tu (t.mx - t.mn).toNat tu l ∧ Layer wr L base v' l' ∧ Moves W0 v v' ∧ Lays L v.ownBlock W0 wr)
  case atStart => exact ⟨0, tu, v, l, by simp, rfl, by omega, rfl, hL0, Moves.refl _ _, Lays.refl _ _ _⟩
  case round =>
    obtain ⟨i, t', v', l', rfl, rfl, hin, heq, hLr, hmr, hlr⟩ := hrel
    have Heq := Lib.hid heq; clear heq
    have hor := ho0.later hlr.size hmr
    have hNr := hNp0.lays ho0' hlr
    have hzr := hlr.size
    obtain ⟨q0, q1, q2, q3, q4, q5, q6, q7⟩ := hP.mono (fun o => hlr.cell hB1.1 hB1.2.1 hB1.2.2)
    simp only [Nat.zero_add] at q0 q1 q2 q3 q4 q5 q6 q7
    have hfl : (optF (layF p) tu (t.mx - t.mn).toNat tu l).2.length ≤ 1000000 := by
      have := minF_grows hgp t.mn.toNat (optF (layF p) tu (t.mx - t.mn).toNat tu l).1 (optF (layF p) tu (t.mx - t.mn).toNat tu l).2
      rw [Hopt.out, Hrep.out] at this; omega
    have hlc' : l'.length ≤ 1000000 := by have := optF_grows hgp tu gk t' l'; rw [Heq.out] at this; omega
    have k6 := (hlr.cell (o := 6) hB0.1 hB0.2.1 hB0.2.2).trans g6
    by_cases hlt : t.mn + (i : Int) < t.mx
    · obtain ⟨n', hgk⟩ : ∃ n', gk = n' + 1 := ⟨gk - 1, by omega⟩
      have hst : (layF p t' l').2.length + 1 ≤ 1000000 := by
        have h1 := optF_grows hgp tu n' (layF p t' l').2.length ((layF p t' l').2 ++ [splitS (layF p t' l').1 tu])
        have h2 := Heq.out
        rw [hgk, optF] at h2
        rw [h2] at h1
        simp only [List.length_append, List.length_cons, List.length_nil] at h1
        omega
      have hnx : optF (layF p) tu n' (layF p t' l').2.length ((layF p t' l').2 ++ [splitS (layF p t' l').1 tu]) = optF (layF p) tu (t.mx - t.mn).toNat tu l := by rw [← Heq.out, hgk, optF]
      have Hnx := Lib.hid hnx; have Hgk := Lib.hid hgk; clear hnx hgk hfl
      go_wp2_with fail
      refine (Hih.out _ ok Ap cp L base _ l' t' hNr hor hLr (by omega)).mono ?_
      rintro e w1 ⟨rfl, v1, hL1, hm1, hl1⟩
      have hmm1 := hmr.trans hzr hm1
      have hll1 := hlr.trans hmr hl1
      go_wp2_with fail
      refine (rstate_any _ L base v1 _ (splitS (layF p t' l').1 tu) hL1 (by omega)).mono ?_
      rintro e w2 ⟨rfl, v2, hL2, hm2, hl2⟩
      have hmm2 := hmm1.trans hll1.size hm2
      have hll2 := hll1.trans hmm1 hl2
      go_wp2_with fail
      go_roundg n'
      case measure => have := Hgk.out; omega
      case rel => exact ⟨i + 1, (layF p t' l').2.length, _, _, by go_num, rfl, by have := Hgk.out; omega, Hnx.out, hL2, hmm2, hll2⟩
    · have hfin : optF (layF p) tu (t.mx - t.mn).toNat tu l = (t', l') := by rw [← Heq.out, show gk = 0 by omega, optF]
      have hst2 : minF (layF p) t.mn.toNat t' l' = layF t tu l := by rw [← Hopt.out, hfin]
      have Hst2 := Lib.hid hst2; clear hst2 hfin hfl
      have k5 := (hlr.cell (o := 5) hB0.1 hB0.2.1 hB0.2.2).trans g5
      go_wp2_with fail
      go_loopg [8, 13] (t.mn.toNat) (fun n tv iv wr => ∃ (i : Nat) (t' : Int) (v' : Value) (l' : List St), iv = .int .i64 i ∧ tv = .int .i64 t' ∧ i + n = t.mn.toNat ∧ minF (layF p) n t' l' = layF t tu l ∧ Layer wr L base v' l' ∧ Moves W0 v v' ∧ Lays L v.ownBlock W0 wr)
      case atStart => exact ⟨0, t', v', l', rfl, rfl, by omega, Hst2.out, hLr, hmr, hlr⟩
      case round =>
        clear hLr hmr hlr hor hNr hzr q0 q1 q2 q3 q4 q5 q6 q7 hlc' hin Heq Hst2 k5 k6 hlt
        obtain ⟨i, t', v', l', rfl, rfl, hin, heq, hLr, hmr, hlr⟩ := hrel
        have Heq := Lib.hid heq; clear heq
        have hor := ho0.later hlr.size hmr
        have hNr := hNp0.lays ho0' hlr
        have hzr := hlr.size
        obtain ⟨q0, q1, q2, q3, q4, q5, q6, q7⟩ := hP.mono (fun o => hlr.cell hB1.1 hB1.2.1 hB1.2.2)
        simp only [Nat.zero_add] at q0 q1 q2 q3 q4 q5 q6 q7
        have hlc' : l'.length ≤ 1000000 := by have := minF_grows hgp gk t' l'; rw [Heq.out, Hrep.out] at this; omega
        have k5' := (hlr.cell (o := 5) hB0.1 hB0.2.1 hB0.2.2).trans g5
        by_cases hlt : (i : Int) < t.mn
        · obtain ⟨n', hgk⟩ : ∃ n', gk = n' + 1 := ⟨gk - 1, by omega⟩
          have hst : (layF p t' l').2.length ≤ 1000000 := by
            have h1 := Heq.out
            rw [hgk, minF] at h1
            have h2 := Hrep.out
            split at h1
            · rw [h1, h2]; exact hlen
            · have := minF_grows hgp n' (layF p t' l').1 (layF p t' l').2; rw [h1, h2] at this; omega
          obtain ⟨Av, cv, rfl⟩ := hLr.form
          have hcL := hLr.cell
          go_wp2_with fail
          refine (Hih.out _ ok Ap cp L base _ l' t' hNr hor hLr hst).mono ?_
          rintro e w1 ⟨rfl, v1, hL1, hm1, hl1⟩
          obtain ⟨Av1, cv1, rfl⟩ := hL1.form
          have hcL1 := hL1.cell
          have hmm1 := hmr.trans hzr hm1
          have hll1 := hlr.trans hmr hl1
          by_cases hsame : (layF p t' l').2.length = l'.length
          · have hfin : layF t tu l = layF p t' l' := by rw [← Heq.out, hgk, minF, if_pos hsame]
            have hq : (((layF p t' l').2.length : Int) == (l'.length : Int)) = true := by rw [beq_iff_eq, hsame]
            have Hfin := Lib.hid hfin; have Hsame := Lib.hid hsame; have Hgk := Lib.hid hgk; clear hfin hsame hgk
            go_wp2_with fail
            go_ret
            rw [Hfin.out]
            exact ⟨rfl, _, hL1, hmw.trans (by omega) hmm1, hlw.trans hmw hll1⟩
          · have hq : (((layF p t' l').2.length : Int) == (l'.length : Int)) = false := by rw [beq_eq_false_iff_ne]; omega
            have hnx : minF (layF p) n' (layF p t' l').1 (layF p t' l').2 = layF t tu l := by rw [← Heq.out, hgk, minF, if_neg hsame]
            have Hnx := Lib.hid hnx; have Hsame := Lib.hid hsame; have Hgk := Lib.hid hgk; clear hnx hsame hgk
            go_wp2_with fail
            go_roundg n'
            case measure => have := Hgk.out; omega
            case rel => exact ⟨i + 1, (layF p t' l').1, _, (layF p t' l').2, by go_num, rfl, by have := Hgk.out; omega, Hnx.out, hL1, hmm1, hll1⟩
        · have hfin : layF t tu l = (t', l') := by rw [← Heq.out, show gk = 0 by omega, minF]
          have Hfin := Lib.hid hfin; clear hfin
          go_wp2_with fail
          go_ret
          rw [Hfin.out]
          exact ⟨rfl, _, hLr, hmw.trans (by omega) hmr, hlw.trans hmw hlr⟩

set_option maxRecDepth 100000 in
set_option maxHeartbeats 2000000 in
theorem rrepeat_star (t : T) (hk : t.k = 6) (hr : rightF t = true) (hmx : t.mx < 0) (ih : ∀ p ∈ t.ps, LayAt 45 p) : LayAt 62 t := by
  intro w ok A c L base v l tu hN ho hL hlen
  have hN' := hN
  have hps1 : 0 < t.ps.length := by rcases right_cases hr with h | h | h | h | h | h | h <;> omega
  obtain ⟨b, o, rfl, hb, hcell⟩ := hN.part hps1
  obtain ⟨Ap, cp, h8, hNp⟩ := hcell 0 hps1
  have hp0 : t.ps[0] ∈ t.ps := List.getElem_mem _
  have hih := ih t.ps[0] hp0
  have hlc := hN.len
  have hcc := hN.cap
  have hhead : headF t.ps = layF t.ps[0] := headF_at t.ps hps1
  have hrep : layF t tu l = repF t.mn t.mx (headF t.ps) tu l := by rw [layF_eq]; simp [hk]
  rw [hhead] at hrep
  have hb3 : 0 ≤ t.mn ∧ t.mn ≤ 255 ∧ t.mx ≤ 255 ∧ (t.mx = -1 ∨ t.mn ≤ t.mx) := by rcases right_cases hr with h | h | h | h | h | h | h <;> omega
  obtain ⟨hmn0, hmn1, hmx1, hmm⟩ := hb3
  generalize t.ps[0] = p at *
  obtain ⟨f0, f1, f2, f3, f4, f5, f6, f7⟩ := h8
  simp only [Nat.zero_mul, Nat.add_zero] at f0 f1 f2 f3 f4 f5 f6 f7
  have Hih := Lib.hid hih; have Hrep := Lib.hid hrep; have Hk := Lib.hid hk
  have hgp := layF_grows p
  have hlt1 : (0 : Int) < (t.ps.length : Int) := by omega
  clear hih hrep hk hcell hhead
  have hLlt := hL.lt
  have hblt := (ho b hb).1
  rw [Hrep.out] at hlen
  go_enter Try.func62, Try.ntmps62
  have hrp : repF t.mn t.mx (layF p) tu l = minF (layF p) t.mn.toNat (starF (layF p) tu l).1 (starF (layF p) tu l).2 := by rw [repF]; simp only [if_pos hmx]
  have hg1 := minF_grows hgp t.mn.toNat (starF (layF p) tu l).1 (starF (layF p) tu l).2
  rw [← hrp] at hg1
  have hg2 : (starF (layF p) tu l).2.length = (layF p l.length (l ++ [splitS 0 tu])).2.length := by simp [starF, setNx]
  have hg3 := hgp l.length (l ++ [splitS 0 tu])
  simp only [List.length_append, List.length_cons, List.length_nil] at hg3
  have Hrp := Lib.hid hrp; have Hg2 := Lib.hid hg2; clear hrp
  have hlen1 : l.length ≤ 1000000 := by omega
  have hlen2 : (layF p l.length (l ++ [splitS 0 tu])).2.length ≤ 1000000 := by omega
  have Hlen := Lib.hid hlen
  clear hg1 hg2 hlen
  have hnn : ¬ t.mn < t.mx := by omega
  have hq1 : (t.mx == -1) = true := by rw [beq_iff_eq]; omega
  go_wp2_with fail
  generalize hW : (w.alloc _).alloc _ = W0
  have hz0 : w.heap.size + 2 = W0.heap.size := by subst hW; simp
  have hL0 : Layer W0 L base v l := by subst hW; exact (hL.alloc _).alloc _
  have ho0w := ho.later (w' := W0) (by omega) (Moves.refl _ _)
  have hlw : Lays L v.ownBlock w W0 := by subst hW; exact (Lays.alloc _ _ _ _).trans (Moves.refl _ v) (Lays.alloc _ _ _ _)
  have hmw : Moves w v v := Moves.refl _ _
  have hP : At8 W0 (w.heap.size + 1) 0 p Ap cp := by subst hW; constructor <;> simp [go_sem]
  have g5 : W0.cell? ⟨w.heap.size, 5, none⟩ = some (.int .i64 t.mn) := by subst hW; simp [go_sem]
  have g6 : W0.cell? ⟨w.heap.size, 6, none⟩ = some (.int .i64 t.mx) := by subst hW; simp [go_sem]
  have hNp0 := hNp.lays ho hlw
  obtain ⟨hv1, hv2⟩ : some w.heap.size ≠ v.ownBlock ∧ some (w.heap.size + 1) ≠ v.ownBlock := by
    constructor
    · intro e; have := (hL.own.lt _ e.symm).2; omega
    · intro e; have := (hL.own.lt _ e.symm).2; omega
  have hB0 : w.heap.size < W0.heap.size ∧ w.heap.size ≠ L ∧ some w.heap.size ≠ v.ownBlock := ⟨by omega, by omega, hv1⟩
  have hB1 : w.heap.size + 1 < W0.heap.size ∧ w.heap.size + 1 ≠ L ∧ some (w.heap.size + 1) ≠ v.ownBlock := ⟨by omega, by omega, hv2⟩
  clear hW
  have ho0 := ho0w
  have ho0' := ho0w
  refine (rstate_any _ L base v l (splitS 0 tu) hL0 (by omega)).mono ?_
  rintro e w1 ⟨rfl, v1, hL1, hm1, hl1⟩
  obtain ⟨q0, q1, q2, q3, q4, q5, q6, q7⟩ := hP.mono (fun o => hl1.cell hB1.1 hB1.2.1 hB1.2.2)
  simp only [Nat.zero_add] at q0 q1 q2 q3 q4 q5 q6 q7
  go_wp2_with fail
  refine (Hih.out _ ok Ap cp L base v1 _ (l.length : Int) (hNp0.lays ho0' hl1) (ho0.later hl1.size hm1) hL1 hlen2).mono ?_
  rintro e w2 ⟨rfl, v2, hL2, hm2, hl2⟩
  clear q0 q1 q2 q3 q4 q5 q6 q7
  have hmm2 := hm1.trans hl1.size hm2
  have hll2 := hl1.trans hm1 hl2
  have hli : l.length < (layF p l.length (l ++ [splitS 0 tu])).2.length := by omega
  obtain ⟨g, cap, rfl, hgL, hgb, hgz⟩ := hL2.form' (by omega)
  obtain ⟨hc5, hfz, hL3, hl3⟩ := hL2.setNx l.length hli (layF p l.length (l ++ [splitS 0 tu])).1
  obtain ⟨old, hc5'⟩ := Option.isSome_iff_exists.1 hc5
  have hcL2 := hL2.cell
  have hli' : (l.length : Int) < ((layF p l.length (l ++ [splitS 0 tu])).2.length : Int) := by omega
  have h5 : (w2.setCell ⟨g, l.length * 7 + 5, none⟩ (.int .i64 (layF p l.length (l ++ [splitS 0 tu])).1)).cell? ⟨w.heap.size, 5, none⟩ = some (.int .i64 t.mn) := by
    rw [hl3.cell (by have := hll2.size; omega) hB0.2.1 ?_, hll2.cell hB0.1 hB0.2.1 hB0.2.2, g5]
    intro e
    rcases hmm2 with h | ⟨x, hx, hle⟩
    · exact hB0.2.2 (e.trans h)
    · simp only [Value.ownBlock] at hx; rw [← e] at hx; injection hx with hx; omega
  have h6 : (w2.setCell ⟨g, l.length * 7 + 5, none⟩ (.int .i64 (layF p l.length (l ++ [splitS 0 tu])).1)).cell? ⟨w.heap.size, 6, none⟩ = some (.int .i64 t.mx) := by
    rw [hl3.cell (by have := hll2.size; omega) hB0.2.1 ?_, hll2.cell hB0.1 hB0.2.1 hB0.2.2, g6]
    intro e
    rcases hmm2 with h | ⟨x, hx, hle⟩
    · exact hB0.2.2 (e.trans h)
    · simp only [Value.ownBlock] at hx; rw [← e] at hx; injection hx with hx; omega
  have hll3 : Lays L v.ownBlock W0 (w2.setCell ⟨g, l.length * 7 + 5, none⟩ (.int .i64 (layF p l.length (l ++ [splitS 0 tu])).1)) := hll2.trans hmm2 hl3
  have hL3' : Layer (w2.setCell ⟨g, l.length * 7 + 5, none⟩ (.int .i64 (layF p l.length (l ++ [splitS 0 tu])).1)) L base (.slice (some ⟨g, 0, none⟩) (layF p l.length (l ++ [splitS 0 tu])).2.length cap) (starF (layF p) tu l).2 := hL3
  have HL3 := Lib.hid hL3'; have Hll3 := Lib.hid hll3; have Hmm2 := Lib.hid hmm2
  clear hL3 hL3' hll3 hc5 hl3 hll2 hmm2 hm1 hm2 hl1 hl2 hL1 hL2
  have hst2 : minF (layF p) t.mn.toNat (l.length : Int) (starF (layF p) tu l).2 = layF t tu l := by rw [Hrep.out, Hrp.out]; rfl
  have Hst2 := Lib.hid hst2; clear hst2
  go_wp2_with fail
  generalize hW3 : w2.setCell _ _ = W3 at *
  go_loopg [8, 11] 0 (fun n tv iv wr => iv = .int .i64 t.mn ∧ tv = .int .i64 (l.length : Int) ∧ wr = W3)
  case atStart => exact ⟨rfl, rfl, rfl⟩
  case round =>
    obtain ⟨rfl, rfl, rfl⟩ := hrel
    have hlen := Hlen.out
    clear hW3 hlen2 hli hli' hlen1 hg3 hc5' hfz hcL2
    go_wp2_with fail
    go_loopg [8, 13] (t.mn.toNat) (fun n tv iv wr => ∃ (i : Nat) (t' : Int) (v' : Value) (l' : List St), iv = .int .i64 i ∧ tv = .int .i64 t' ∧ i + n = t.mn.toNat ∧ minF (layF p) n t' l' = layF t tu l ∧ Layer wr L base v' l' ∧ Moves W0 v v' ∧ Lays L v.ownBlock W0 wr)
    case atStart => exact ⟨0, (l.length : Int), _, (starF (layF p) tu l).2, rfl, rfl, by omega, Hst2.out, HL3.out, Hmm2.out, Hll3.out⟩
    case round =>
      clear Hst2 HL3 Hll3 Hmm2
      obtain ⟨i, t', v', l', rfl, rfl, hin, heq, hLr, hmr, hlr⟩ := hrel
      have Heq := Lib.hid heq; clear heq
      have hor := ho0.later hlr.size hmr
      have hNr := hNp0.lays ho0' hlr
      have hzr := hlr.size
      obtain ⟨q0, q1, q2, q3, q4, q5, q6, q7⟩ := hP.mono (fun o => hlr.cell hB1.1 hB1.2.1 hB1.2.2)
      simp only [Nat.zero_add] at q0 q1 q2 q3 q4 q5 q6 q7
      have hlc' : l'.length ≤ 1000000 := by have := minF_grows hgp gk t' l'; rw [Heq.out, Hrep.out] at this; omega
      have k5' := (hlr.cell (o := 5) hB0.1 hB0.2.1 hB0.2.2).trans g5
      by_cases hlt : (i : Int) < t.mn
      · obtain ⟨n', hgk⟩ : ∃ n', gk = n' + 1 := ⟨gk - 1, by omega⟩
        have hst : (layF p t' l').2.length ≤ 1000000 := by
          have h1 := Heq.out
          rw [hgk, minF] at h1
          have h2 := Hrep.out
          split at h1
          · rw [h1, h2]; exact hlen
          · have := minF_grows hgp n' (layF p t' l').1 (layF p t' l').2; rw [h1, h2] at this; omega
        obtain ⟨Av, cv, rfl⟩ := hLr.form
        have hcL := hLr.cell
        go_wp2_with fail
        refine (Hih.out _ ok Ap cp L base _ l' t' hNr hor hLr hst).mono ?_
        rintro e w1 ⟨rfl, v1, hL1, hm1, hl1⟩
        obtain ⟨Av1, cv1, rfl⟩ := hL1.form
        have hcL1 := hL1.cell
        have hmm1 := hmr.trans hzr hm1
        have hll1 := hlr.trans hmr hl1
        by_cases hsame : (layF p t' l').2.length = l'.length
        · have hfin : layF t tu l = layF p t' l' := by rw [← Heq.out, hgk, minF, if_pos hsame]
          have hq : (((layF p t' l').2.length : Int) == (l'.length : Int)) = true := by rw [beq_iff_eq, hsame]
          have Hfin := Lib.hid hfin; have Hsame := Lib.hid hsame; have Hgk := Lib.hid hgk; clear hfin hsame hgk
          go_wp2_with fail
          go_ret
          rw [Hfin.out]
          exact ⟨rfl, _, hL1, hmw.trans (by omega) hmm1, hlw.trans hmw hll1⟩
        · have hq : (((layF p t' l').2.length : Int) == (l'.length : Int)) = false := by rw [beq_eq_false_iff_ne]; omega
          have hnx : minF (layF p) n' (layF p t' l').1 (layF p t' l').2 = layF t tu l := by rw [← Heq.out, hgk, minF, if_neg hsame]
          have Hnx := Lib.hid hnx; have Hsame := Lib.hid hsame; have Hgk := Lib.hid hgk; clear hnx hsame hgk
          go_wp2_with fail
          go_roundg n'
          case measure => have := Hgk.out; omega
          case rel => exact ⟨i + 1, (layF p t' l').1, _, (layF p t' l').2, by go_num, rfl, by have := Hgk.out; omega, Hnx.out, hL1, hmm1, hll1⟩
      · have hfin : layF t tu l = (t', l') := by rw [← Heq.out, show gk = 0 by omega, minF]
        have Hfin := Lib.hid hfin; clear hfin
        go_wp2_with fail
        go_ret
        rw [Hfin.out]
        exact ⟨rfl, _, hLr, hmw.trans (by omega) hmr, hlw.trans hmw hlr⟩

theorem rrepeat_any (t : T) (hk : t.k = 6) (hr : rightF t = true) (ih : ∀ p ∈ t.ps, LayAt 45 p) : LayAt 62 t := by
  by_cases hmx : t.mx < 0
  · exact rrepeat_star t hk hr hmx ih
  · exact rrepeat_opt t hk hr hmx ih
end Go.Proofs.Ytdpmbanfaigmcaa

/- A range over a function whose rounds are counted: no round leaves early; what comes at round k is told by k. -/
set_option linter.unusedVariables false
set_option linter.unusedSimpArgs false
namespace Go.Proofs.Ytdpmbanfaigmcaa
open Go.RowKit

/-- A step of a loop's book-keeping: cells, and whatever lay below B, lie as they lay. -/
structure GB (B : Nat) (W W' : World) : Prop where
  os : W'.os = W.os
  tape : W'.tape = W.tape
  output : W'.output = W.output
  size : W.heap.size ≤ W'.heap.size
  keep : ∀ (k : Nat) (o : Obj), W.heap[k]? = some o → (k < B ∨ o.isCells = true) → W'.heap[k]? = some o
theorem GB.refl (B : Nat) (W : World) : GB B W W := ⟨rfl, rfl, rfl, Nat.le_refl _, fun _ _ h _ => h⟩
theorem GB.trans {B : Nat} {X Y Z : World} (h : GB B X Y) (k : GB B Y Z) : GB B X Z :=
  ⟨k.os.trans h.os, k.tape.trans h.tape, k.output.trans h.output, Nat.le_trans h.size k.size, fun i o hi hc => k.keep i o (h.keep i o hi hc) hc⟩
theorem GB.alloc (B : Nat) (W : World) (o : Obj) : GB B W (W.alloc o) :=
  ⟨rfl, rfl, rfl, by simp, fun k o' hk _ => (Below.heap_alloc W o k (Array.getElem?_eq_some_iff.1 hk).1).trans hk⟩
theorem GB.put {B : Nat} {W : World} {l : Nat} {o : Obj} (o' : Obj) (h : W.heap[l]? = some o) (ho : o.isCells = false) (hB : B ≤ l) : GB B W (W.putObj l o') :=
  ⟨rfl, rfl, rfl, by simp, fun k o2 hk hc => by
    by_cases e : k = l
    · subst e
      rw [h] at hk
      cases hk
      rcases hc with hc | hc
      · omega
      · rw [ho] at hc; cases hc
    · exact (World.putObj_heap_other e).trans hk⟩
theorem GB.cell {B : Nat} {W W' : World} (h : GB B W W') {a : Addr} {v : Value} (hc : W.cell? a = some v) : W'.cell? a = some v ∧ W'.frozen? a = W.frozen? a := by
  obtain ⟨o, ho, hoc⟩ := cells_of_cell hc
  have := h.keep _ _ ho (.inr hoc)
  exact ⟨(World.cell?_of_block (by rw [this, ho])).trans hc, World.frozen?_of_block (by rw [this, ho])⟩

/-- What a round must leave. -/
def RoundEnd (B : Nat) (Kp : World → World → Prop) (I : Nat → World → Prop) (k : Nat) (W2 : World) (e : Exit) (W' : World) : Prop := e = .normal ∧ KeepsFrom B W2 W' ∧ Kp W2 W' ∧ I (k + 1) W'
section
variable {F : Fence} {n : Nat} {P : Program}
theorem wpIn_range_idx {g : Operand} {ps : Array Tmp} {assign body : Code} {Q : Exit → Act → World → Prop} {a : Act} {w : World}
    (hro : F.round = none) (h1 : 1 ≤ n) {gf : Nat} {lb : Array Value} (hg : a.eval g = .func (.func gf) #[] lb) (hFg : F.fn gf) (eg : ∀ args w, (callFunc gf args).run P w = .ok (.enter gf args) w)
    {enc : Nat → Array Value} {N : Nat} (hps : ∀ k, (enc k).size = ps.size)
    (I : Nat → World → Prop) (hI : ∀ k W W', I k W → GB w.heap.size W W' → I k W') (h0 : I 0 w)
    (Kp : World → World → Prop) (hKp : ∀ W W', w.heap.size ≤ W.heap.size → GB w.heap.size W W' → Kp W W') (hKt : ∀ {A B C : World}, Kp A B → Kp B C → Kp A C)
    (hseq : ∀ (l : Nat) (J : Nat → World → Prop) (W : World), GB w.heap.size w W →
      (∀ k W1, k < N → J k W1 → YieldAt F (n - 1 - 1) P l (enc k) W1 fun e W' => e = .returned (.bool true) ∧ J (k + 1) W' ∧ Kp W1 W') → J 0 W →
      CallsIn F (n - 1) P gf (#[.func (.yield l) #[] #[]] ++ lb) W fun e W' => (∃ v, e = .returned v) ∧ J N W')
    (hround : ∀ (l k : Nat) (W : World), w.heap.size ≤ l → w.heap.size ≤ W.heap.size → k < N → I k W →
      assign.wpIn (F.inRound l) (n - 1 - 1) P (Exit.then (fun a₁ W1 => KeepsFrom w.heap.size W W1 ∧ Kp W W1 ∧ ∀ W2, GB w.heap.size W1 W2 → body.wpIn (F.inRound l) (n - 1 - 1) P (fun e _ W' => RoundEnd w.heap.size Kp I k W2 e W') a₁ W2) (fun _ _ _ => False))
        { tmps := (ps.zip (enc k)).foldl (fun t (p, v) => t.setIfInBounds p v) a.tmps, defers := [] } W)
    (hdone : ∀ (D : Nat) (W : World), w.heap.size ≤ D → I N W → W.heap[D]? = some (.deferred (some [])) → Q .normal { a with defers := { target := .collected D, args := #[] } :: a.defers } W) :
    (Code.rangeFunc g ps assign body).wpIn F n P Q a w := by
  refine wpIn_rangeFunc ?_
  intro fn hfn
  rw [hro]
  obtain ⟨rec, hrec⟩ : ∃ rec : LoopState → Option Code → Loop, rec = fun st pe => { state := st, pending := pe, fn, tmps := a.tmps, params := ps, assign, body, defers := w.heap.size } := ⟨_, rfl⟩
  obtain ⟨W1, hW1⟩ : ∃ W1, (w.alloc (.deferred (some []))).alloc (.loop (rec .ready none)) = W1 := ⟨_, rfl⟩
  have hL1 : W1.heap[w.heap.size + 1]? = some (.loop (rec .ready none)) := by
    rw [← hW1]; have := World.alloc_heap_new (w.alloc (.deferred (some []))) (.loop (rec .ready none)); rwa [World.size_alloc] at this
  have hK1 : W1.heap[w.heap.size]? = some (.deferred (some [])) := by
    rw [← hW1]; exact (Below.heap_alloc _ _ _ (by simp)).trans (World.alloc_heap_new w _)
  have hG1 : GB w.heap.size w W1 := by rw [← hW1]; exact (GB.alloc _ _ _).trans (GB.alloc _ _ _)
  refine ⟨w.heap.size + 1, [{ target := .collected w.heap.size, args := #[] }], W1, { target := .fn (.func gf) lb, args := #[.func (.yield (w.heap.size + 1)) #[] #[]] }, W1, gf,
    #[.func (.yield (w.heap.size + 1)) #[] #[]] ++ lb, W1, ?_, ?_, ?_, ?_, fun _ => h1, ?_⟩
  · rw [← hW1, hrec]; exact run_enterLoop_outer _ _ _ _ _
  · simp only [resolve, hg]
    simp [go_sem]
  · intro f' hf'; simp [Target.leads] at hf'; subst hf'; exact hFg
  · simp [invoke, go_sem, eg]
  · refine (hseq (w.heap.size + 1) (fun k W => (w.heap.size ≤ W.heap.size ∧ I k W) ∧ W.heap[w.heap.size + 1]? = some (.loop (rec .ready none)) ∧ W.heap[w.heap.size]? = some (.deferred (some []))) W1 hG1 ?_ ⟨⟨hG1.size, hI _ _ _ h0 hG1⟩, hL1, hK1⟩).mono ?_
    · rintro k W hk ⟨⟨hzs, hi⟩, hl, hd⟩
      have hy := run_yield (P := P) (args := enc k) hl (by rw [hrec]; exact hps k)
      rw [hrec] at hy
      refine ⟨fn, _, assign, body, hy, roundIn_of_wpIn hfn ?_⟩
      refine wpIn_mono (hround (w.heap.size + 1) k W (by omega) hzs hk hi) ?_
      intro e a1 Wa hq
      cases e with
      | exit id => exact hq.elim
      | goto t => exact hq.elim
      | ret => exact hq.elim
      | panic ch => exact hq.elim
      | outgrown => exact hq.elim
      | normal =>
        obtain ⟨hka, hpa, hbody⟩ := hq
        have hl2 := hka.same _ _ (by omega) hl rfl
        have hd2 := hka.same _ _ (Nat.le_refl _) hd rfl
        refine ⟨_, run_beginRound hl2 (by rw [hrec]), ?_⟩
        have hg2 : GB w.heap.size Wa (Wa.putObj (w.heap.size + 1) (.loop { rec .ready none with state := .busy })) := GB.put _ hl2 rfl (by omega)
        have hl3 : (Wa.putObj (w.heap.size + 1) (.loop { rec .ready none with state := .busy })).heap[w.heap.size + 1]? = some (.loop { rec .ready none with state := .busy }) := World.putObj_heap_same (Array.getElem?_eq_some_iff.1 hl2).1
        have hd3 : (Wa.putObj (w.heap.size + 1) (.loop { rec .ready none with state := .busy })).heap[w.heap.size]? = some (.deferred (some [])) := (World.putObj_heap_other (by omega)).trans hd2
        refine wpIn_mono (hbody _ hg2) ?_
        rintro e a2 Wb ⟨rfl, hkb, hpb, hib⟩
        have hl4 := hkb.same _ _ (by omega) hl3 rfl
        have hd4 := hkb.same _ _ (Nat.le_refl _) hd3 rfl
        have hg4 : GB w.heap.size Wb (Wb.putObj (w.heap.size + 1) (.loop { rec .ready none with state := .ready, pending := none })) := GB.put _ hl4 rfl (by omega)
        have hend := run_endRound (P := P) none hl4
        have hsz : w.heap.size ≤ Wb.heap.size := by have h2 := hka.size; have h3 := hkb.size; simp only [World.putObj_size] at h3; omega
        have hza : w.heap.size ≤ Wa.heap.size := by have h2 := hka.size; omega
        refine ⟨_, _, hend, rfl, ⟨⟨by simpa using hsz, hI _ _ _ hib (by simpa using hg4)⟩, ?_, ?_⟩, ?_⟩
        · refine (World.putObj_heap_same (Array.getElem?_eq_some_iff.1 hl4).1).trans ?_
          rw [hrec]; rfl
        · exact (World.putObj_heap_other (by omega)).trans hd4
        · exact hKt (hKt (hKt hpa (hKp _ _ hza hg2)) hpb) (hKp _ _ hsz (by simpa using hg4))
    · rintro e W2 ⟨⟨v, rfl⟩, ⟨_, hi⟩, hl, hd⟩
      have hend : (Instr.endLoop (w.heap.size + 1)).run P W2 = .ok none (W2.putObj (w.heap.size + 1) (.loop { rec .ready none with state := .exhausted })) := by
        have h := run_endLoop (P := P) hl (by rw [hrec]; simp)
        rw [h, hrec]
      exact ⟨none, _, hend, hdone w.heap.size _ (Nat.le_refl _) (hI _ _ _ hi (GB.put _ hl rfl (by omega))) ((World.putObj_heap_other (by omega)).trans hd)⟩
end
end Go.Proofs.Ytdpmbanfaigmcaa

/- The walks of slices.Backward, at nodes and at ints. -/
set_option linter.unusedVariables false
set_option linter.unusedSimpArgs false
namespace Go.Proofs.Ytdpmbanfaigmcaa
open Go.RowKit Go.Shelf
attribute [local go_sem] Oper.semAt_some

/-- The cells of some blocks lie as they lay. -/
def KeepOn (S : Nat → Prop) (W W' : World) : Prop := ∀ b, S b → ∀ o, W'.cell? ⟨b, o, none⟩ = W.cell? ⟨b, o, none⟩
theorem KeepOn.trans {S : Nat → Prop} {A B C : World} (h : KeepOn S A B) (k : KeepOn S B C) : KeepOn S A C := fun b hb o => (k b hb o).trans (h b hb o)
theorem KeepOn.refl (S : Nat → Prop) (A : World) : KeepOn S A A := fun _ _ _ => rfl
theorem KeepOn.of_gb {S : Nat → Prop} {B : Nat} (hS : ∀ b, S b → b < B) {W W' : World} (hB : B ≤ W.heap.size) (h : GB B W W') : KeepOn S W W' := fun b hb o => by
  have hlt := hS b hb
  have h1 : W.heap[b]? = some W.heap[b] := Array.getElem?_eq_getElem (by omega)
  exact World.cell?_of_block (w := W) (a := ⟨b, o, none⟩) ((h.keep b _ h1 (.inl hlt)).trans h1.symm)

set_option maxRecDepth 100000 in
set_option maxHeartbeats 400000 in
theorem backN_any (w : World) (A : Option Addr) (n c : Nat) :
    Calls Try.prog 76 #[.slice A n c] w fun e w' => e = .returned (.func (.func 80) #[] #[.pointer (some ⟨w.heap.size, 0, none⟩)]) ∧ w' = w.alloc (.cells #[.slice A n c] 25) := by
  go_enter Try.func76, Try.ntmps76
  go_wp2_with fail
  go_ret
  exact ⟨rfl, rfl⟩

/-- What comes at round k, from behind. -/
def encN (ps : List T) (As : Nat → Option Addr) (cs : Nat → Nat) (k : Nat) : Array Value :=
  #[.int .i64 ((ps.length - 1 - k : Nat) : Int), nodeV (ps.getD (ps.length - 1 - k) default) (As (ps.length - 1 - k)) (cs (ps.length - 1 - k))]

set_option maxRecDepth 100000 in
set_option maxHeartbeats 2000000 in
theorem backN_seq (m l Bs b o c : Nat) (ps : List T) (As : Nat → Option Addr) (cs : Nat → Nat) (hlen : ps.length ≤ 17592186044416) (J : Nat → World → Prop) (W : World)
    (hc : W.cell? ⟨Bs, 0, none⟩ = some (.slice (some ⟨b, o, none⟩) ps.length c)) (he : ∀ i (hi : i < ps.length), At8 W b (o + i * 8) ps[i] (As i) (cs i))
    (hY : ∀ k W1, k < ps.length → J k W1 → YieldAt Fence.wide (m - 1) Try.prog l (encN ps As cs k) W1 fun e W' => e = .returned (.bool true) ∧ J (k + 1) W' ∧ KeepOn (fun x => x = b ∨ x = Bs) W1 W') (h0 : J 0 W) :
    CallsIn Fence.wide m Try.prog 80 #[.func (.yield l) #[] #[], .pointer (some ⟨Bs, 0, none⟩)] W fun e W' => (∃ v, e = .returned v) ∧ J ps.length W' := by
  refine callsIn_of_wp Try.func80 rfl trivial ?_ rfl
  simp only [Try.ntmps80, List.size_toArray, List.length_cons, List.length_nil, Nat.reduceAdd, Nat.reduceSub, Array.replicate_succ, Array.replicate_zero, List.push_toArray, List.append_toArray, List.nil_append, List.cons_append]
  gi_wp2
  gi_loopw [3] (fun i wr => ∃ (k : Nat) (j : Int), i = .int .i64 j ∧ j + 1 + k = ps.length ∧ -1 ≤ j ∧ J k wr ∧ KeepOn (fun x => x = b ∨ x = Bs) W wr)
    (fun i _ => (intOf i + 1).toNat)
  case atStart => exact ⟨0, (ps.length : Int) - 1, rfl, by omega, by omega, h0, KeepOn.refl _ _⟩
  case round =>
    obtain ⟨k, j, rfl, hj, hj1, hJ, hK⟩ := hrel
    have hcb := (hK Bs (.inr rfl) 0).trans hc
    by_cases hge : 0 ≤ j
    · obtain ⟨r, rfl⟩ := Int.eq_ofNat_of_zero_le hge
      have hr : r < ps.length := by omega
      obtain ⟨fn, tmps, assign, body, hy, hR⟩ := hY k wr (by omega) hJ
      have e : ps.length - 1 - k = r := by omega
      unfold encN at hy
      have hgd : ps.getD r default = ps[r] := by simp [List.getD_eq_getElem?_getD, hr]
      rw [e, hgd] at hy
      clear hgd
      obtain ⟨f0, f1, f2, f3, f4, f5, f6, f7⟩ := (he r hr).mono (w' := wr) (fun o => hK b (.inl rfl) o)
      generalize ps[r] = p at *
      clear he hY
      gi_wp2
      refine ⟨fun h => by simp [Fence.wide] at h, hR.mono ?_⟩
      rintro e W3 ⟨rfl, hJ3, hk3⟩
      gi_wp2
      go_roundw
      case rel => exact ⟨k + 1, (r : Int) - 1, rfl, by omega, by omega, hJ3, hK.trans hk3⟩
      case measure => simp [intOf]
    · obtain rfl : k = ps.length := by omega
      gi_wp2
      go_end0
      exact ⟨⟨_, rfl⟩, hJ⟩

set_option maxRecDepth 100000 in
set_option maxHeartbeats 400000 in
theorem backI_any (w : World) (A : Option Addr) (n c : Nat) :
    Calls Try.prog 77 #[.slice A n c] w fun e w' => e = .returned (.func (.func 81) #[] #[.pointer (some ⟨w.heap.size, 0, none⟩)]) ∧ w' = w.alloc (.cells #[.slice A n c] 71) := by
  go_enter Try.func77, Try.ntmps77
  go_wp2_with fail
  go_ret
  exact ⟨rfl, rfl⟩

/-- What comes at round k, from behind, of the first n of some ints. -/
def encI (xs : List Int) (n k : Nat) : Array Value :=
  #[.int .i64 ((n - 1 - k : Nat) : Int), .int .i64 (xs.getD (n - 1 - k) 0)]

set_option maxRecDepth 100000 in
set_option maxHeartbeats 2000000 in
theorem backI_seq (m l Bs b o c n : Nat) (xs : List Int) (hlen : n ≤ 17592186044416) (J : Nat → World → Prop) (W : World)
    (hc : W.cell? ⟨Bs, 0, none⟩ = some (.slice (some ⟨b, o, none⟩) n c)) (he : ∀ i, i < n → W.cell? ⟨b, o + i, none⟩ = some (.int .i64 (xs.getD i 0)))
    (hY : ∀ k W1, k < n → J k W1 → YieldAt Fence.wide (m - 1) Try.prog l (encI xs n k) W1 fun e W' => e = .returned (.bool true) ∧ J (k + 1) W' ∧ KeepOn (fun x => x = b ∨ x = Bs) W1 W') (h0 : J 0 W) :
    CallsIn Fence.wide m Try.prog 81 #[.func (.yield l) #[] #[], .pointer (some ⟨Bs, 0, none⟩)] W fun e W' => (∃ v, e = .returned v) ∧ J n W' := by
  refine callsIn_of_wp Try.func81 rfl trivial ?_ rfl
  simp only [Try.ntmps81, List.size_toArray, List.length_cons, List.length_nil, Nat.reduceAdd, Nat.reduceSub, Array.replicate_succ, Array.replicate_zero, List.push_toArray, List.append_toArray, List.nil_append, List.cons_append]
  gi_wp2
  gi_loopw [3] (fun i wr => ∃ (k : Nat) (j : Int), i = .int .i64 j ∧ j + 1 + k = n ∧ -1 ≤ j ∧ J k wr ∧ KeepOn (fun x => x = b ∨ x = Bs) W wr)
    (fun i _ => (intOf i + 1).toNat)
  case atStart => exact ⟨0, (n : Int) - 1, rfl, by omega, by omega, h0, KeepOn.refl _ _⟩
  case round =>
    obtain ⟨k, j, rfl, hj, hj1, hJ, hK⟩ := hrel
    have hcb := (hK Bs (.inr rfl) 0).trans hc
    by_cases hge : 0 ≤ j
    · obtain ⟨r, rfl⟩ := Int.eq_ofNat_of_zero_le hge
      have hr : r < n := by omega
      obtain ⟨fn, tmps, assign, body, hy, hR⟩ := hY k wr (by omega) hJ
      have e : n - 1 - k = r := by omega
      unfold encI at hy
      rw [e] at hy
      have f0 := (hK b (.inl rfl) (o + r)).trans (he r hr)
      generalize xs.getD r 0 = p at *
      clear he hY
      gi_wp2
      refine ⟨fun h => by simp [Fence.wide] at h, hR.mono ?_⟩
      rintro e W3 ⟨rfl, hJ3, hk3⟩
      gi_wp2
      go_roundw
      case rel => exact ⟨k + 1, (r : Int) - 1, rfl, by omega, by omega, hJ3, hK.trans hk3⟩
      case measure => simp [intOf]
    · obtain rfl : k = n := by omega
      gi_wp2
      go_end0
      exact ⟨⟨_, rfl⟩, hJ⟩
end Go.Proofs.Ytdpmbanfaigmcaa

/- The walk of nfa's layer: row. -/
set_option linter.unusedVariables false
set_option linter.unusedSimpArgs false
namespace Go.Proofs.Ytdpmbanfaigmcaa
open Go.RowKit Go.Shelf
attribute [local go_sem] Oper.semAt_some

theorem ownsRow_gb {B : Nat} {W W' : World} (h : GB B W W') {base : Nat} {e : TypeId} {size n : Nat} {v : Value} {xs : List Value} (ho : W.ownsRow base e size v n xs) : W'.ownsRow base e size v n xs := by
  refine ⟨ho.1, ?_⟩
  rcases ho.2 with h0 | ⟨g, cap, cur, rfl, hb, hg, rest⟩
  · exact .inl h0
  · exact .inr ⟨g, cap, cur, rfl, hb, h.keep _ _ hg (.inr rfl), rest⟩
theorem Layer.gb {B : Nat} {W W' : World} (h : GB B W W') {L base : Nat} {v : Value} {l : List St} (hL : Layer W L base v l) : Layer W' L base v l :=
  ⟨(h.cell hL.cell).1, (h.cell hL.cell).2.trans hL.froz, ownsRow_gb h hL.own, hL.ne, Nat.le_trans hL.base h.size⟩
theorem Lays.gb {B : Nat} {w W W' : World} (h : GB B W W') {L : Nat} {r : Option Nat} (hl : Lays L r w W) (hB : w.heap.size ≤ B) : Lays L r w W' :=
  ⟨h.os.trans hl.os, h.tape.trans hl.tape, h.output.trans hl.output, Nat.le_trans hl.size h.size, fun k hk h1 h2 => by
    have e := hl.block k hk h1 h2
    have hkW := Nat.lt_of_lt_of_le hk hl.size
    have h3 : W.heap[k]? = some W.heap[k] := Array.getElem?_eq_getElem hkW
    rw [← e, h3]
    exact h.keep k _ h3 (.inl (by omega))⟩
theorem Layer.setOther {w : World} {L base : Nat} {v : Value} {l : List St} (h : Layer w L base v l) {B o : Nat} (h1 : B ≠ L) (h2 : some B ≠ v.ownBlock) (u : Value) : Layer (w.setCell ⟨B, o, none⟩ u) L base v l := by
  refine ⟨?_, ?_, ?_, h.ne, by rw [World.size_setCell]; exact h.base⟩
  · rw [World.cell?_setCell_other _ _ _ _ (by intro e; injection e with e; exact h1 e)]; exact h.cell
  · rw [World.frozen?_setCell]; exact h.froz
  · exact h.own.kept (row := some B) ⟨rfl, rfl, rfl, by rw [World.size_setCell]; exact Nat.le_refl _, fun k hk hne => Below.heap_setCell _ _ _ _ (fun e => hne (by rw [e]))⟩ (.inr (fun e => h2 e.symm))
theorem Lays.setNew {w W : World} {L : Nat} {r : Option Nat} (h : Lays L r w W) {B o : Nat} (hB : w.heap.size ≤ B) (u : Value) : Lays L r w (W.setCell ⟨B, o, none⟩ u) :=
  ⟨h.os, h.tape, h.output, by rw [World.size_setCell]; exact h.size, fun k hk h1 h2 => (Below.heap_setCell _ _ _ _ (show k ≠ B by omega)).trans (h.block k hk h1 h2)⟩
theorem rowF_drop : ∀ (ps : List T) (j : Nat) (tu : Int) (l : List St), (rowF (ps.drop j) tu l).2.length ≤ (rowF ps tu l).2.length
  | [], j, tu, l => by simp
  | p :: ps, 0, tu, l => by simp
  | p :: ps, j + 1, tu, l => by
    have h1 := rowF_drop ps j tu l
    have h2 := layF_grows p (rowF ps tu l).1 (rowF ps tu l).2
    rw [List.drop_succ_cons, rowF]
    omega
/-- What a layer's call leaves of blocks that are no cells. -/
theorem Lays.keepsFrom {L : Nat} {w W : World} {base : Nat} {v : Value} {l : List St} (h : Lays L v.ownBlock w W) (hL : Layer w L base v l) (B : Nat) : KeepsFrom B w W :=
  ⟨h.size, fun k o _ hk ho => (h.block k (Array.getElem?_eq_some_iff.1 hk).1 (fun e => by
      obtain ⟨o', ho', hc⟩ := cells_of_cell hL.cell
      rw [e] at hk
      rw [show w.heap[L]? = some o' from ho'] at hk
      cases hk
      rw [hc] at ho; cases ho) (fun e => by
      rcases hL.own.2 with ⟨rfl, _⟩ | ⟨g, cap, cur, rfl, _, hg, _⟩
      · simp [Value.ownBlock] at e
      · simp only [Value.ownBlock] at e
        injection e with e
        rw [e, hg] at hk
        cases hk
        cases ho)).trans hk⟩

/-- Between two rounds of row: k parts are laid. -/
def RowI (t : T) (w W0 : World) (L base : Nat) (v : Value) (tu : Int) (l : List St) (k : Nat) (W : World) : Prop :=
  ∃ v', Layer W L base v' (rowF (t.ps.drop (t.ps.length - k)) tu l).2 ∧ Moves W0 v v' ∧ Lays L v.ownBlock w W ∧ W.cell? ⟨w.heap.size, 0, none⟩ = some (.pointer (some ⟨L, 0, none⟩)) ∧ W.cell? ⟨w.heap.size + 2, 0, none⟩ = some (.int .i64 (rowF (t.ps.drop (t.ps.length - k)) tu l).1) ∧ W.frozen? ⟨w.heap.size + 2, 0, none⟩ = false

set_option maxRecDepth 100000 in
set_option maxHeartbeats 2000000 in
theorem row_any (t : T) (hk : t.k = 4) (hr : rightF t = true) (ih : ∀ p ∈ t.ps, LayAt 41 p) : LayAt 70 t := by
  intro w ok A c L base v l tu hN ho hL hlen
  have hps1 : 0 < t.ps.length := by rcases right_cases hr with h | h | h | h | h | h | h <;> omega
  have hrow : layF t tu l = rowF t.ps tu l := by rw [layF_eq]; simp [hk]
  have hll := hN.len
  cases hN with
  | mk _ _ _ As cs hcap _ ha hp =>
  obtain ⟨b, o, rfl, hb, hcell⟩ := ha (fun e => by simp [e] at hps1)
  rw [hrow] at hlen
  have Hrow := Lib.hid hrow; have Hlen := Lib.hid hlen; have Hih := Lib.hid ih
  clear hrow hk hlen ih
  have hLlt := hL.lt
  have hblt := (ho b hb).1
  refine (callsIn_wide (n := 3)).1 ?_
  refine callsIn_of_wp_marks Try.func70 rfl trivial ?_ rfl
  simp only [Try.ntmps70, List.size_toArray, List.length_cons, List.length_nil, Nat.reduceAdd, Nat.reduceSub, Array.replicate_succ, Array.replicate_zero, List.push_toArray, List.append_toArray, List.nil_append, List.cons_append]
  gi_wp2
  refine ⟨trivial, (callsIn_wide.2 (backN_any _ _ _ _)).mono ?_⟩
  rintro e w' ⟨rfl, rfl⟩
  gi_wp2
  have hz4 : ((((w.alloc (.cells #[.pointer (some ⟨L, 0, none⟩)] 61)).alloc (.cells #[.int .i64 t.k, .int .u64 t.s0, .int .u64 t.s1, .int .u64 t.s2, .int .u64 t.s3, .int .i64 t.mn, .int .i64 t.mx, .slice (some ⟨b, o, none⟩) t.ps.length c] 27)).alloc (.cells #[.int .i64 tu] 3)).alloc (.cells #[.slice (some ⟨b, o, none⟩) t.ps.length c] 25)).heap.size = w.heap.size + 4 := by simp
  generalize hW : (((w.alloc _).alloc _).alloc _).alloc _ = W0 at *
  have hz4a : w.heap.size + 4 ≤ W0.heap.size := by omega
  have hz4b : W0.heap.size ≤ w.heap.size + 4 := by omega
  clear hz4
  have hb0 : Below w.heap.size w W0 := by subst hW; exact (((((Below.refl _ _).alloc (Nat.le_refl _) _).alloc (by simp) _).alloc (by simp; omega) _).alloc (by simp; omega) _)
  have c0 : W0.cell? ⟨w.heap.size, 0, none⟩ = some (.pointer (some ⟨L, 0, none⟩)) := by subst hW; simp [go_sem]
  have c2 : W0.cell? ⟨w.heap.size + 2, 0, none⟩ = some (.int .i64 tu) := by subst hW; simp [go_sem]
  have e2 : W0.frozen? ⟨w.heap.size + 2, 0, none⟩ = false := by subst hW; simp [go_sem]
  have c3 : W0.cell? ⟨w.heap.size + 3, 0, none⟩ = some (.slice (some ⟨b, o, none⟩) t.ps.length c) := by subst hW; simp [go_sem]
  clear hW
  have hL0 := hL.later hb0
  have hno : ∀ j, w.heap.size ≤ j → some j ≠ v.ownBlock := fun j hj e => by have := (hL.own.lt _ e.symm).2; omega
  have hmv : ∀ v' : Value, Moves W0 v v' → ∀ j, w.heap.size ≤ j → j < W0.heap.size → some j ≠ v'.ownBlock := fun v' hm j h1 h2 e => by
    rcases hm with hm | ⟨x, hx, hle⟩
    · exact hno j h1 (e.trans hm)
    · rw [hx] at e; injection e with e; omega
  have HR : ∀ k, k < t.ps.length → rowF (t.ps.drop (t.ps.length - (k + 1))) tu l = layF (t.ps.getD (t.ps.length - 1 - k) default) (rowF (t.ps.drop (t.ps.length - k)) tu l).1 (rowF (t.ps.drop (t.ps.length - k)) tu l).2 := fun k hk => by
    have h1 : t.ps.length - 1 - k < t.ps.length := by omega
    rw [show t.ps.length - (k + 1) = t.ps.length - 1 - k by omega, List.drop_eq_getElem_cons h1, rowF, show t.ps.length - 1 - k + 1 = t.ps.length - k by omega]
    simp [List.getD_eq_getElem?_getD, h1]
  refine wpIn_range_idx rfl (by omega) (gf := 80) (lb := #[.pointer (some ⟨w.heap.size + 3, 0, none⟩)]) rfl trivial (enters_of Try.func80 (by kernel_rfl) rfl) (enc := encN t.ps As cs) (N := t.ps.length) (fun k => rfl)
    (RowI t w W0 L base v tu l)
    ?hI ?h0 (KeepOn (fun x => x = b ∨ x = w.heap.size + 3)) (fun W W' h1 h2 => KeepOn.of_gb (by intro x hx; rcases hx with rfl | rfl <;> omega) h1 h2) (fun h k => h.trans k)
    ?hseq ?hround ?hdone
  case hI =>
    rintro k W W' ⟨v', h1, h2, h3, h4, h5, h6⟩ hg
    exact ⟨v', h1.gb hg, h2, h3.gb hg (by omega), (hg.cell h4).1, (hg.cell h5).1, (hg.cell h5).2.trans h6⟩
  case h0 =>
    refine ⟨v, ?_, Moves.refl _ _, Lays.of_below hb0, c0, ?_, e2⟩
    · rw [List.drop_of_length_le (by omega), rowF]; exact hL0
    · rw [List.drop_of_length_le (by omega), rowF]; exact c2
  case hseq =>
    intro l0 J W hg hY hJ
    refine backN_seq 2 l0 (w.heap.size + 3) b o c t.ps As cs hll J W (hg.cell c3).1 ?_ hY hJ
    intro i hi
    have h8 := hcell i _ (List.getElem?_eq_getElem hi)
    refine h8.mono fun o' => ?_
    have hw0 := hb0.cell (p := ⟨b, o', none⟩) hblt
    have hbz : b < W0.heap.size := by omega
    have hk1 : W0.heap[b]? = some W0.heap[b] := Array.getElem?_eq_getElem hbz
    exact (World.cell?_of_block (w := W0) (a := ⟨b, o', none⟩) ((hg.keep b _ hk1 (.inl hbz)).trans hk1.symm)).trans hw0
  case hround =>
    intro l0 k W hl0 hzW hk hIk
    obtain ⟨v', hL', hm', hlays, d0, d2, g2⟩ := hIk
    have hkl : t.ps.length - 1 - k < t.ps.length := by omega
    have hpk : t.ps[t.ps.length - 1 - k]? = some (t.ps.getD (t.ps.length - 1 - k) default) := by simp [List.getD_eq_getElem?_getD, hkl]
    have hNk := (hp _ _ hpk).lays ho hlays
    have hmem : t.ps.getD (t.ps.length - 1 - k) default ∈ t.ps := List.mem_of_getElem? hpk
    have hihk := Hih.out _ hmem
    have hlk : (layF (t.ps.getD (t.ps.length - 1 - k) default) (rowF (t.ps.drop (t.ps.length - k)) tu l).1 (rowF (t.ps.drop (t.ps.length - k)) tu l).2).2.length ≤ 1000000 := by
      rw [← HR k hk]
      exact Nat.le_trans (rowF_drop _ _ _ _) Hlen.out
    have HRk := Lib.hid (HR k hk)
    unfold encN
    generalize As (t.ps.length - 1 - k) = Ak at *
    generalize cs (t.ps.length - 1 - k) = ck at *
    generalize t.ps.getD (t.ps.length - 1 - k) default = p at *
    have Hihk := Lib.hid hihk
    clear hihk HR hp hcell hpk Hih
    gi_wp2
    have hbW : Below W.heap.size W (W.alloc (.cells #[.int .i64 p.k, .int .u64 p.s0, .int .u64 p.s1, .int .u64 p.s2, .int .u64 p.s3, .int .i64 p.mn, .int .i64 p.mx, .slice Ak p.ps.length ck] 27)) := (Below.refl _ _).alloc (Nat.le_refl _) _
    refine ⟨(KeepsOthers.alloc _ _).from _, fun x hx o' => hbW.cell (p := ⟨x, o', none⟩) (by show x < _; rcases hx with rfl | rfl <;> omega), fun W2 hg2 => ?_⟩
    have hP : At8 (W.alloc (.cells #[.int .i64 p.k, .int .u64 p.s0, .int .u64 p.s1, .int .u64 p.s2, .int .u64 p.s3, .int .i64 p.mn, .int .i64 p.mx, .slice Ak p.ps.length ck] 27)) W.heap.size 0 p Ak ck := by constructor <;> simp [go_sem]
    obtain ⟨q0, q1, q2, q3, q4, q5, q6, q7⟩ := (⟨(hg2.cell hP.f0).1, (hg2.cell hP.f1).1, (hg2.cell hP.f2).1, (hg2.cell hP.f3).1, (hg2.cell hP.f4).1, (hg2.cell hP.f5).1, (hg2.cell hP.f6).1, (hg2.cell hP.f7).1⟩ : At8 W2 W.heap.size 0 p Ak ck)
    simp only [Nat.zero_add] at q1 q2 q3 q4 q5 q6 q7
    have hmw' : Moves w v v' := by
      rcases hm' with h | ⟨y, hy, hle⟩
      · exact .inl h
      · exact .inr ⟨y, hy, by omega⟩
    have hLW := hL'.later hbW
    have hL2 := hLW.gb hg2
    have hlays2 := (hlays.trans hmw' (Lays.of_below hbW)).gb hg2 (show w.heap.size ≤ W0.heap.size by omega)
    have k0 := (hg2.cell ((hbW.cell (p := ⟨w.heap.size, 0, none⟩) (show w.heap.size < W.heap.size by omega)).trans d0)).1
    have k2 := (hg2.cell ((hbW.cell (p := ⟨w.heap.size + 2, 0, none⟩) (show w.heap.size + 2 < W.heap.size by omega)).trans d2)).1
    have j2 : W2.frozen? ⟨w.heap.size + 2, 0, none⟩ = false := (hg2.cell ((hbW.cell (p := ⟨w.heap.size + 2, 0, none⟩) (show w.heap.size + 2 < W.heap.size by omega)).trans d2)).2.trans ((hbW.frozen (p := ⟨w.heap.size + 2, 0, none⟩) (show w.heap.size + 2 < W.heap.size by omega)).trans g2)
    have hz2 : W.heap.size + 1 ≤ W2.heap.size := by have := hg2.size; simpa using this
    have hNk2 := hNk.later hbW (fun x hx => Nat.lt_of_lt_of_le (ho x hx).1 hlays.size)
    have hok2 : OkL W2 L v' ok := fun x hx => by
      obtain ⟨a1, a2, a3⟩ := ho x hx
      refine ⟨by omega, a2, fun e => ?_⟩
      rcases hm' with hm' | ⟨y, hy, hle⟩
      · exact a3 (e.trans hm')
      · rw [hy] at e; injection e with e; omega
    have hNk3 : NodeAt W2 ok p Ak ck := hNk2.mono fun x hx => ⟨hx, fun o' => by
      have hxz : x < (W.alloc (.cells #[.int .i64 p.k, .int .u64 p.s0, .int .u64 p.s1, .int .u64 p.s2, .int .u64 p.s3, .int .i64 p.mn, .int .i64 p.mx, .slice Ak p.ps.length ck] 27)).heap.size := by have := (ho x hx).1; simp; omega
      have hk1 := Array.getElem?_eq_getElem hxz
      exact World.cell?_of_block (a := ⟨x, o', none⟩) ((hg2.keep x _ hk1 (.inl (by have := (ho x hx).1; omega))).trans hk1.symm)⟩
    gi_wp2
    refine ⟨trivial, (CallsIn.inRound l0 (callsIn_wide.2 (Hihk.out W2 ok Ak ck L base v' _ _ hNk3 hok2 hL2 hlk))).mono ?_⟩
    rintro e W3 ⟨rfl, v3, hL3, hm3, hl3⟩
    have hBt : w.heap.size + 2 < W2.heap.size ∧ w.heap.size + 2 ≠ L ∧ some (w.heap.size + 2) ≠ v'.ownBlock := ⟨by omega, by omega, hmv v' hm' _ (by omega) (by omega)⟩
    have hBl : w.heap.size < W2.heap.size ∧ w.heap.size ≠ L ∧ some w.heap.size ≠ v'.ownBlock := ⟨by omega, by omega, hmv v' hm' _ (by omega) (by omega)⟩
    have r0 := (hl3.cell (o := 0) hBl.1 hBl.2.1 hBl.2.2).trans k0
    have r2 := (hl3.cell (o := 0) hBt.1 hBt.2.1 hBt.2.2).trans k2
    have i2 := (hl3.frozen (o := 0) hBt.1 hBt.2.1 hBt.2.2).trans j2
    have hm4 : Moves W0 v v3 := hm'.trans (by omega) hm3
    have hl4 := hlays2.trans hmw' hl3
    have hBt3 := hmv v3 hm4 (w.heap.size + 2) (by omega) (by omega)
    have hz3 := hl3.size
    gi_wp2
    refine ⟨rfl, ?_, ?_, v3, ?_, hm4, hl4.setNew (by omega) _, ?_, ?_, ?_⟩
    · exact (hl3.keepsFrom hL2 _).trans ((KeepsOthers.setCell _ _ _).from _)
    · intro x hx o'
      have hx1 : x ≠ w.heap.size + 2 := by rcases hx with rfl | rfl <;> omega
      rw [World.cell?_setCell_other _ _ _ _ (by intro e; injection e with e; omega)]
      refine hl3.cell (by rcases hx with rfl | rfl <;> omega) ?_ ?_
      · rcases hx with rfl | rfl
        · exact (ho _ hb).2.1
        · omega
      · rcases hx with rfl | rfl
        · exact (hok2 _ hb).2.2
        · exact hmv v' hm' _ (by omega) (by omega)
    · rw [HRk.out]; exact hL3.setOther (by omega) hBt3 _
    · rw [World.cell?_setCell_other _ _ _ _ (by intro e; injection e with e; omega)]; exact r0
    · rw [HRk.out]; exact World.cell?_setCell_same _ _ _ r2
    · rw [World.frozen?_setCell]; exact i2
  case hdone =>
    rintro D W hD ⟨v', h1, h2, h3, h4, h5, h6⟩ hK
    rw [Nat.sub_self, List.drop_zero] at h1 h5
    gi_wp2
    refine ⟨by simp, .inl ⟨_, _, rfl, run_takeDeferred hK, ?_⟩⟩
    have hg : GB W0.heap.size W (W.putObj D (.deferred none)) := GB.put _ hK rfl hD
    refine ⟨_, results_tmp rfl _ _ _, ?_⟩
    rw [Hrow.out]
    exact ⟨rfl, v', h1.gb hg, (by
      rcases h2 with h | ⟨y, hy, hle⟩
      · exact .inl h
      · exact .inr ⟨y, hy, by omega⟩), h3.gb hg (by omega)⟩
end Go.Proofs.Ytdpmbanfaigmcaa

/- The walk of nfa's layer: choice. -/
set_option linter.unusedVariables false
set_option linter.unusedSimpArgs false
namespace Go.Proofs.Ytdpmbanfaigmcaa
open Go.RowKit Go.Shelf
attribute [local go_sem] Oper.semAt_some


def ivl (x : Int) : Value := .int .i64 x
/-- Two rows of different elements share no block. -/
theorem own_ne {w : World} {b b' : Nat} {e e' : TypeId} {s s' n n' : Nat} {v v' : Value} {xs xs' : List Value} (h : w.ownsRow b e s v n xs) (h' : w.ownsRow b' e' s' v' n' xs') (hne : e ≠ e') {g : Nat} (h1 : v.ownBlock = some g) (h2 : v'.ownBlock = some g) : False := by
  rcases h.2 with ⟨rfl, _⟩ | ⟨x, cap, cur, rfl, _, hh, _⟩
  · simp [Value.ownBlock] at h1
  · rcases h'.2 with ⟨rfl, _⟩ | ⟨x', cap', cur', rfl, _, hh', _⟩
    · simp [Value.ownBlock] at h2
    · simp only [Value.ownBlock, Option.some.injEq] at h1 h2
      subst h1
      subst h2
      rw [hh] at hh'
      injection hh' with hh'
      injection hh' with _ ht
      exact hne ht
theorem Lays.own {L : Nat} {w w' : World} {b e s n : Nat} {v v7 : Value} {xs : List Value} {base : Nat} {l : List St} (h : Lays L v.ownBlock w w') (hL : Layer w L base v l) (ho : w.ownsRow b e s v7 n xs) (he : e ≠ 47) (hb : L < b) : w'.ownsRow b e s v7 n xs := by
  refine ⟨ho.1, ?_⟩
  rcases ho.2 with h0 | ⟨g, cap, cur, rfl, hbg, hg, rest⟩
  · exact .inl h0
  · refine .inr ⟨g, cap, cur, rfl, hbg, ?_, rest⟩
    rw [h.block g (Array.getElem?_eq_some_iff.1 hg).1 (by omega) (fun e' => own_ne ho hL.own he (by rfl) e'.symm)]
    exact hg
theorem Layer.grown {w w' : World} {L base : Nat} {v v7 : Value} {l : List St} (h : Layer w L base v l) {b e s n : Nat} {xs : List Value} (ho : w.ownsRow b e s v7 n xs) (he : e ≠ 47) (hb : L < b) (hg : w.grownBy w' v7.ownBlock) : Layer w' L base v l := by
  have h1 : some L ≠ v7.ownBlock := fun e' => by have := (ho.lt L e'.symm).1; omega
  have hL := h.lt
  refine ⟨hg.cell h.cell h1, (World.frozen?_of_block (w := w) (a := ⟨L, 0, none⟩) (hg.block L hL h1)).trans h.froz, h.own.kept hg ?_, h.ne, Nat.le_trans h.base hg.size⟩
  cases hv : v.ownBlock with
  | none => exact .inl rfl
  | some g => exact .inr fun e' => own_ne ho h.own he e'.symm hv
theorem Lays.grownNew {w W W1 : World} {L : Nat} {r row : Option Nat} (h : Lays L r w W) (hg : W.grownBy W1 row) (hr : ∀ g, row = some g → w.heap.size ≤ g) : Lays L r w W1 :=
  ⟨hg.os.trans h.os, hg.tape.trans h.tape, hg.output.trans h.output, Nat.le_trans h.size hg.size, fun k hk h1 h2 => (hg.block k (Nat.lt_of_lt_of_le hk h.size) (fun e => by have := hr k e.symm; omega)).trans (h.block k hk h1 h2)⟩
theorem Moves.older {w W : World} {v v' : Value} (h : Moves W v v') (hz : w.heap.size ≤ W.heap.size) : Moves w v v' := by
  rcases h with h | ⟨y, hy, hle⟩
  · exact .inl h
  · exact .inr ⟨y, hy, by omega⟩
theorem ownBlock_ge {w : World} {b e s n : Nat} {v : Value} {xs : List Value} (ho : w.ownsRow b e s v n xs) {g : Nat} (h : v.ownBlock = some g) : b ≤ g ∧ g < w.heap.size := ho.lt g h
theorem splits_step (bs : List Int) (l : List St) (k : Nat) (hk : k + 1 < bs.length) :
    splitsF (bs.drop (bs.length - 1 - (k + 1))) l = (((splitsF (bs.drop (bs.length - 1 - k)) l).2.length : Int), (splitsF (bs.drop (bs.length - 1 - k)) l).2 ++ [splitS (bs.getD (bs.length - 1 - 1 - k) 0) (splitsF (bs.drop (bs.length - 1 - k)) l).1]) := by
  have h1 : bs.length - 1 - (k + 1) < bs.length := by omega
  rw [List.drop_eq_getElem_cons h1, show bs.length - 1 - (k + 1) + 1 = bs.length - 1 - k by omega]
  have h2 : 0 < (bs.drop (bs.length - 1 - k)).length := by rw [List.length_drop]; omega
  cases hd : bs.drop (bs.length - 1 - k) with
  | nil => rw [hd] at h2; simp at h2
  | cons y ys =>
    rw [splitsF]
    · have : bs.getD (bs.length - 1 - 1 - k) 0 = bs[bs.length - 1 - (k + 1)] := by
        rw [show bs.length - 1 - 1 - k = bs.length - 1 - (k + 1) by omega]
        simp [List.getD_eq_getElem?_getD, h1]
      rw [this]
    · simp
theorem splits_zero (bs : List Int) (l : List St) (h : 0 < bs.length) : splitsF (bs.drop (bs.length - 1 - 0)) l = (bs.getD (bs.length - 1) 0, l) := by
  have h1 : bs.length - 1 < bs.length := by omega
  rw [Nat.sub_zero, List.drop_eq_getElem_cons h1, List.drop_of_length_le (by omega), splitsF]
  simp [List.getD_eq_getElem?_getD, h1]
theorem splits_drop_len (bs : List Int) (l : List St) (j : Nat) : (splitsF (bs.drop j) l).2.length ≤ (splitsF bs l).2.length := by
  rw [splitsF_len, splitsF_len, List.length_drop]; omega

/-- Between two rounds of choice's second loop. -/
def ChI (bs : List Int) (w W0 : World) (L base Bx : Nat) (v vb : Value) (l : List St) (k : Nat) (W : World) : Prop :=
  ∃ v', Layer W L base v' (splitsF (bs.drop (bs.length - 1 - k)) l).2 ∧ Moves W0 vb v' ∧ Lays L v.ownBlock w W ∧ W.cell? ⟨w.heap.size, 0, none⟩ = some (.pointer (some ⟨L, 0, none⟩)) ∧ W.cell? ⟨Bx, 0, none⟩ = some (.int .i64 (splitsF (bs.drop (bs.length - 1 - k)) l).1) ∧ W.frozen? ⟨Bx, 0, none⟩ = false

set_option maxRecDepth 100000 in
set_option maxHeartbeats 2000000 in
theorem choice_any (t : T) (hk : t.k = 5) (hr : rightF t = true) (ih : ∀ p ∈ t.ps, LayAt 41 p) : LayAt 71 t := by
  intro w ok A c L base v l tu hN ho hL hlen
  have hps1 : 2 ≤ t.ps.length := by rcases right_cases hr with h | h | h | h | h | h | h <;> omega
  have hch : layF t tu l = splitsF (begF t.ps tu l).1 (begF t.ps tu l).2 := by rw [layF_eq]; simp [hk]
  have hll := hN.len
  cases hN with
  | mk _ _ _ As cs hcap _ ha hp =>
  obtain ⟨b, o, rfl, hb, hcell⟩ := ha (fun e => by simp [e] at hps1)
  rw [hch] at hlen
  have hl2 : (begF t.ps tu l).2.length ≤ 1000000 := by rw [splitsF_len] at hlen; omega
  have Hch := Lib.hid hch; have Hlen := Lib.hid hlen; have Hih := Lib.hid ih; have Hp := Lib.hid hp; have Hcell := Lib.hid hcell
  have Hbl := Lib.hid (begF_len t.ps tu l)
  clear hch hk hlen ih hp hcell ha
  have hLlt := hL.lt
  have hblt := (ho b hb).1
  refine (callsIn_wide (n := 3)).1 ?_
  refine callsIn_of_wp_marks Try.func71 rfl trivial ?_ rfl
  refine wpIn_wide.2 ?_
  simp only [Try.ntmps71, List.size_toArray, List.length_cons, List.length_nil, Nat.reduceAdd, Nat.reduceSub, Array.replicate_succ, Array.replicate_zero, List.push_toArray, List.append_toArray, List.nil_append, List.cons_append]
  go_wp2_with fail
  generalize hW : (w.alloc _).alloc _ = W0
  have hb0 : Below w.heap.size w W0 := by subst hW; exact ((Below.refl _ _).alloc (Nat.le_refl _) _).alloc (by simp) _
  have hz0 : w.heap.size + 2 ≤ W0.heap.size := by subst hW; simp
  have c0 : W0.cell? ⟨w.heap.size, 0, none⟩ = some (.pointer (some ⟨L, 0, none⟩)) := by subst hW; simp [go_sem]
  clear hW
  have hL0 := hL.later hb0
  go_loopg [7, 17] (t.ps.length) (fun n sv iv wr => ∃ (j : Nat) (bs : List Int) (v' : Value) (l' : List St), iv = .int .i64 j ∧ j + n = t.ps.length ∧ bs.length = j ∧ bs ++ (begF (t.ps.drop j) tu l').1 = (begF t.ps tu l).1 ∧ (begF (t.ps.drop j) tu l').2 = (begF t.ps tu l).2 ∧
    Layer wr L base v' l' ∧ Moves W0 v v' ∧ Lays L v.ownBlock W0 wr ∧ wr.ownsRow W0.heap.size 3 1 sv bs.length (bs.map ivl))
  case atStart => exact ⟨0, [], v, l, rfl, by omega, rfl, rfl, rfl, hL0, Moves.refl _ _, Lays.refl _ _ _, World.ownsRow_nil _ _ _ _⟩
  case round =>
    obtain ⟨j, bs, v', l', rfl, hj, hbs, hq1, hq2, hLr, hmr, hlr, hor⟩ := hrel
    have hlw : Lays L v.ownBlock w wr := (Lays.of_below hb0).trans (Moves.refl w v) hlr
    have hmw := hmr.older (show w.heap.size ≤ W0.heap.size by omega)
    have hzr := hlr.size
    have hno : ∀ (v'' : Value) (W : World), Moves W v v'' → ∀ j, w.heap.size ≤ j → j < W.heap.size → some j ≠ v''.ownBlock := fun v'' W hm j h1 h2 e => by
      rcases hm with hm | ⟨x, hx, hle⟩
      · have := (hL.own.lt _ (e.trans hm).symm).2; omega
      · rw [hx] at e; injection e with e; omega
    have k0 := (hlr.cell (o := 0) (show w.heap.size < W0.heap.size by omega) (by omega) (by intro e; have := (hL.own.lt _ e.symm).2; omega)).trans c0
    have hzz : w.heap.size < wr.heap.size := by omega
    have Hq1 := Lib.hid hq1; have Hq2 := Lib.hid hq2; have Hbs := Lib.hid hbs
    clear hq1 hq2 hbs c0
    by_cases hlt : j < t.ps.length
    · have hpj := List.getElem?_eq_getElem hlt
      have hNj := (Hp.out j _ hpj).lays ho hlw
      obtain ⟨f0, f1, f2, f3, f4, f5, f6, f7⟩ := (Hcell.out j _ hpj).mono (w' := wr) (fun o' => hlw.cell hblt (ho b hb).2.1 (ho b hb).2.2)
      have hihj := Hih.out _ (List.getElem_mem hlt)
      have hbstep : begF (t.ps.drop j) tu l' = ((layF t.ps[j] tu l').1 :: (begF (t.ps.drop (j + 1)) tu (layF t.ps[j] tu l').2).1, (begF (t.ps.drop (j + 1)) tu (layF t.ps[j] tu l').2).2) := by rw [drop_cons hlt, begF]
      have hst : (layF t.ps[j] tu l').2.length ≤ 1000000 := by
        have h1 := begF_grows (t.ps.drop (j + 1)) (fun p _ => layF_grows p) tu (layF t.ps[j] tu l').2
        have h2 := Hq2.out
        rw [hbstep] at h2
        simp only at h2
        rw [h2] at h1
        omega
      have Hbstep := Lib.hid hbstep; clear hbstep hpj
      generalize t.ps[j] = p at *
      generalize As j = Aj at *
      generalize cs j = cj at *
      have Hihj := Lib.hid hihj; clear hihj
      have hokr : OkL wr L v' ok := ho.later hlw.size hmw
      obtain ⟨A7, c7, rfl⟩ : ∃ A7 c7, u7 = .slice A7 bs.length c7 := by
        rcases hor.2 with ⟨rfl, h0⟩ | ⟨g, cap, cur, rfl, _⟩
        · exact ⟨none, 0, by rw [h0]⟩
        · exact ⟨_, cap, rfl⟩
      go_wp2_with fail
      refine (Hihj.out _ ok Aj cj L base v' l' tu (hNj.alloc (fun x hx => (hokr x hx).1) _) (hokr.alloc _) (hLr.alloc _) hst).mono ?_
      rintro e w1 ⟨rfl, v1, hL1, hm1, hl1⟩
      have hor1 := hl1.own (hLr.alloc _) (hor.alloc _) (by decide) (by omega)
      have hz1 := hl1.size
      simp only [World.size_alloc] at hz1
      have hm1' : Moves W0 v v1 := hmr.trans (by simp; omega) hm1
      have hl1' : Lays L v.ownBlock W0 w1 := (hlr.trans hmr (Lays.alloc _ _ _ _)).trans hmr hl1
      have hbl7 : bs.length + 1 ≤ 17592186044416 := by have := Hbs.out; omega
      go_wp2_with (at_builtin; refine wpList_append_at W0.heap.size rfl (.tmp 21) (.tmp 26) 71 3 _ 1 8 rfl Try.underlying71 Try.infoInt rfl (by omega) (by omega) (.slice A7 bs.length c7) bs.length 1 (bs.map ivl) [.int .i64 (layF p tu l').1] ⟨w1.heap.size, 0, none⟩ 1 rfl rfl (by omega) rfl (cell_one_new _ _ _) (by intro u hu; simp at hu; subst hu; rfl) (hor1.alloc _) (by simp; omega) (by omega) (fun g cap w2 ho2 hg2 hat2 => ?_))
      have hL2 : Layer w2 L base v1 (layF p tu l').2 := (hL1.alloc _).grown (hor1.alloc _) (by decide) (by omega) hg2
      have hl2' : Lays L v.ownBlock W0 w2 := (hl1'.trans hm1' (Lays.alloc _ _ _ _)).grownNew hg2 (fun g hg => (hor1.lt g hg).1)
      go_wp2_with fail
      go_roundg (gk - 1)
      case measure => omega
      case rel =>
        refine ⟨j + 1, bs ++ [(layF p tu l').1], v1, (layF p tu l').2, by go_num, by omega, by rw [List.length_append, Hbs.out]; rfl, ?_, ?_, hL2, hm1', hl2', ?_⟩
        · have := Hq1.out
          rw [Hbstep.out] at this
          simpa using this
        · have := Hq2.out
          rw [Hbstep.out] at this
          exact this
        · rw [List.length_append, List.map_append]; exact ho2
    · have hgk : t.ps.drop j = [] := List.drop_of_length_le (by omega)
      have hq1 := Hq1.out
      have hq2 := Hq2.out
      rw [hgk, begF, List.append_nil] at hq1
      rw [hgk, begF] at hq2
      simp only at hq1 hq2
      subst hq2
      have hbl : bs.length = t.ps.length := by have := Hbs.out; omega
      obtain ⟨m, hm⟩ : ∃ m, bs.length = m + 1 := ⟨bs.length - 1, by omega⟩
      have hor' := hor
      rw [hm] at hor'
      obtain ⟨g, cap, rfl, hgcap⟩ : ∃ g cap, u7 = .slice (some ⟨g, 0, none⟩) (m + 1) cap ∧ m + 1 ≤ cap := by
        rcases hor'.2 with ⟨rfl, h0⟩ | ⟨g, cap, cur, rfl, _, _, hh, _⟩
        · omega
        · exact ⟨g, cap, rfl, hh⟩
      have hgz := hor'.lt g rfl
      have hcells : ∀ i, i < m + 1 → wr.cell? ⟨g, i, none⟩ = some (.int .i64 (bs.getD i 0)) := fun i hi => by
        have h1 := hor'.cells (g := g) rfl i (ivl (bs.getD i 0)) (by rw [List.getElem?_map, List.getElem?_eq_getElem (by omega)]; simp [List.getD_eq_getElem?_getD, show i < bs.length by omega])
        rwa [show (⟨g, 0, none⟩ : Addr).add i = ⟨g, i, none⟩ by unfold Addr.add; split <;> simp_all] at h1
      have hlast := hcells m (by omega)
      obtain ⟨xl, hxl⟩ : ∃ xl, bs.getD m 0 = xl := ⟨_, rfl⟩
      rw [hxl] at hlast
      have Hxl := Lib.hid hxl; clear hxl
      have Hm := Lib.hid hm; have Hq := Lib.hid hq1; have Hcells := Lib.hid hcells; have Hbl2 := Lib.hid hbl
      have hmz : m + 1 ≤ 17592186044416 := by omega
      have hm1 : 1 ≤ m := by omega
      have hgne : some g ≠ v'.ownBlock := fun e => own_ne hor' hLr.own (by decide) rfl e.symm
      clear hm hq1 hcells hbl hor hor' Hq1 Hq2 Hbs Hih Hp Hcell Hbl hgk
      go_wp2_with fail
      refine (backI_any _ _ _ _).mono ?_
      rintro e w' ⟨rfl, rfl⟩
      go_wp2_with fail
      have hz4 : ((wr.alloc (.cells #[.int .i64 xl] 3)).alloc (.cells #[.slice (some ⟨g, 0, none⟩) m cap] 71)).heap.size = wr.heap.size + 2 := by simp
      generalize hW : (wr.alloc _).alloc _ = W3 at *
      have hz4a : wr.heap.size + 2 ≤ W3.heap.size := by omega
      have hz4b : W3.heap.size ≤ wr.heap.size + 2 := by omega
      clear hz4
      have hbr : Below wr.heap.size wr W3 := by subst hW; exact ((Below.refl _ _).alloc (Nat.le_refl _) _).alloc (by simp) _
      have cx : W3.cell? ⟨wr.heap.size, 0, none⟩ = some (.int .i64 xl) := by subst hW; simp [go_sem]
      have ex : W3.frozen? ⟨wr.heap.size, 0, none⟩ = false := by subst hW; simp [go_sem]
      have cb : W3.cell? ⟨wr.heap.size + 1, 0, none⟩ = some (.slice (some ⟨g, 0, none⟩) m cap) := by subst hW; simp [go_sem]
      clear hW
      have hL3 := hLr.later hbr
      have k3 := (hbr.cell (p := ⟨w.heap.size, 0, none⟩) hzz).trans k0
      have hl3 : Lays L v.ownBlock w W3 := hlw.trans hmw (Lays.of_below hbr)
      have hmg : ∀ (v'' : Value), Moves W3 v' v'' → ∀ i, w.heap.size ≤ i → i < W3.heap.size → some i ≠ v'.ownBlock → some i ≠ v''.ownBlock := fun v'' hm i h1 h2 h3 e => by
        rcases hm with hm | ⟨x, hx, hle⟩
        · exact h3 (e.trans hm)
        · rw [hx] at e; injection e with e; omega
      have hxne : some wr.heap.size ≠ v'.ownBlock := fun e => by have := (hLr.own.lt _ e.symm).2; omega
      have hbne : some (wr.heap.size + 1) ≠ v'.ownBlock := fun e => by have := (hLr.own.lt _ e.symm).2; omega
      have hlne : some w.heap.size ≠ v'.ownBlock := hno v' W0 hmr _ (by omega) (by omega)
      refine (wpIn_wide (n := 3)).1 ?_
      refine wpIn_range_idx rfl (by omega) (gf := 81) (lb := #[.pointer (some ⟨wr.heap.size + 1, 0, none⟩)]) rfl trivial (enters_of Try.func81 (by kernel_rfl) rfl) (enc := encI bs m) (N := m) (fun k => rfl)
        (ChI bs w W3 L base wr.heap.size v v' (begF t.ps tu l).2)
        ?hI ?h0 (KeepOn (fun x => x = g ∨ x = wr.heap.size + 1)) (fun W W' h1 h2 => KeepOn.of_gb (by intro x hx; rcases hx with rfl | rfl <;> omega) h1 h2) (fun h k => h.trans k)
        ?hseq ?hround ?hdone
      case hI =>
        rintro k W W' ⟨v1, h1, h2, h3, h4, h5, h6⟩ hg
        exact ⟨v1, h1.gb hg, h2, h3.gb hg (by omega), (hg.cell h4).1, (hg.cell h5).1, (hg.cell h5).2.trans h6⟩
      case h0 =>
        have hsz := splits_zero bs (begF t.ps tu l).2 (by have := Hm.out; omega)
        have hm' : bs.length - 1 = m := by have := Hm.out; omega
        rw [hm', Hxl.out] at hsz
        unfold ChI
        rw [hm', hsz]
        exact ⟨v', hL3, Moves.refl _ _, hl3, k3, cx, ex⟩
      case hseq =>
        intro l0 J W hg hY hJ
        refine backI_seq 2 l0 (wr.heap.size + 1) g 0 cap m bs (by omega) J W (hg.cell cb).1 ?_ hY hJ
        intro i hi
        rw [Nat.zero_add]
        exact (hg.cell ((hbr.cell (p := ⟨g, i, none⟩) hgz.2).trans (Hcells.out i (by omega)))).1
      case hround =>
        intro l0 k W hl0 hzW hk hIk
        obtain ⟨v1, hL1, hm1', hlays, d0, dx, gx⟩ := hIk
        have hm' : bs.length - 1 = m := by have := Hm.out; omega
        have hstep := splits_step bs (begF t.ps tu l).2 k (by omega)
        rw [hm'] at hstep hL1 dx
        have hlk : (splitsF (bs.drop (m - k)) (begF t.ps tu l).2).2.length ≤ 1000000 := by
          have h1 := splits_drop_len bs (begF t.ps tu l).2 (m - k)
          have h2 := Hlen.out
          rw [← Hq.out] at h2
          omega
        have Hstep := Lib.hid hstep; have Hm' := Lib.hid hm'; clear hstep hm'
        unfold encI
        generalize bs.getD (m - 1 - k) 0 = bk at *
        generalize hs1 : splitsF (bs.drop (m - k)) (begF t.ps tu l).2 = sk at *
        have Hs1 := Lib.hid hs1; clear hs1
        gi_wp2
        refine ⟨KeepsFrom.refl _ _, KeepOn.refl _ _, fun W2 hg2 => ?_⟩
        have hL2 := hL1.gb hg2
        have hlays2 := hlays.gb hg2 (show w.heap.size ≤ W3.heap.size by omega)
        have q0 := (hg2.cell d0).1
        have qx := (hg2.cell dx).1
        have jx := (hg2.cell dx).2.trans gx
        have hz2 := hg2.size
        have hmw1 : Moves w v v1 := hmw.trans (by omega) (hm1'.older (by omega) : Moves wr v' v1)
        gi_wp2
        refine ⟨trivial, (CallsIn.inRound l0 (callsIn_wide.2 (state_any W2 L base v1 sk.2 (splitS bk sk.1) hL2 hlk))).mono ?_⟩
        rintro e W4 ⟨rfl, v4, hL4, hm4, hl4⟩
        have hBx : wr.heap.size < W2.heap.size ∧ wr.heap.size ≠ L ∧ some wr.heap.size ≠ v1.ownBlock := ⟨by omega, by omega, hmg v1 hm1' _ (by omega) (by omega) hxne⟩
        have hBl : w.heap.size < W2.heap.size ∧ w.heap.size ≠ L ∧ some w.heap.size ≠ v1.ownBlock := ⟨by omega, by omega, hmg v1 hm1' _ (by omega) (by omega) hlne⟩
        have r0 := (hl4.cell (o := 0) hBl.1 hBl.2.1 hBl.2.2).trans q0
        have rx := (hl4.cell (o := 0) hBx.1 hBx.2.1 hBx.2.2).trans qx
        have ix := (hl4.frozen (o := 0) hBx.1 hBx.2.1 hBx.2.2).trans jx
        have hm5 : Moves W3 v' v4 := hm1'.trans (by omega) hm4
        have hl5 := hlays2.trans hmw1 hl4
        have hBx4 := hmg v4 hm5 wr.heap.size (by omega) (by omega) hxne
        have hz4 := hl4.size
        gi_wp2
        have hm2 := Hm'.out
        refine ⟨rfl, ?_, ?_, v4, ?_, hm5, hl5.setNew (by omega) _, ?_, ?_, ?_⟩
        · exact (hl4.keepsFrom hL2 _).trans ((KeepsOthers.setCell _ _ _).from _)
        · intro x hx o'
          have hx1 : x ≠ wr.heap.size := by rcases hx with rfl | rfl <;> omega
          rw [World.cell?_setCell_other _ _ _ _ (by intro e; injection e with e; omega)]
          refine hl4.cell (by rcases hx with rfl | rfl <;> omega) ?_ ?_
          · rcases hx with rfl | rfl <;> omega
          · rcases hx with rfl | rfl
            · exact hmg v1 hm1' _ (by omega) (by omega) hgne
            · exact hmg v1 hm1' _ (by omega) (by omega) hbne
        · rw [hm2, Hstep.out]; exact hL4.setOther (by omega) hBx4 _
        · rw [World.cell?_setCell_other _ _ _ _ (by intro e; injection e with e; omega)]; exact r0
        · rw [hm2, Hstep.out]; exact World.cell?_setCell_same _ _ _ rx
        · rw [World.frozen?_setCell]; exact ix
      case hdone =>
        rintro D W hD ⟨v1, h1, h2, h3, h4, h5, h6⟩ hK
        rw [show bs.length - 1 - m = 0 by have := Hm.out; omega, List.drop_zero, Hq.out, ← Hch.out] at h1 h5
        go_wp2_with fail
        refine ⟨by simp, .inl ⟨_, _, rfl, run_takeDeferred hK, ?_⟩⟩
        have hg : GB W3.heap.size W (W.putObj D (.deferred none)) := GB.put _ hK rfl hD
        refine ⟨_, results_tmp rfl _ _ _, ?_⟩
        exact ⟨rfl, v1, h1.gb hg, hmw.trans (by omega) (h2.older (by omega) : Moves wr v' v1), h3.gb hg (by omega)⟩
end Go.Proofs.Ytdpmbanfaigmcaa

/- vouchref11: the layer's lay: walked. -/
set_option linter.unusedVariables false
set_option linter.unusedSimpArgs false
namespace Go.Proofs.Ytdpmbanfaigmcaa
open Go.RowKit

theorem own_hno {L base : Nat} {v : Value} {l : List St} {w : World} (hL : Layer w L base v l) : ∀ j, w.heap.size ≤ j → some j ≠ v.ownBlock := fun j hj e => by have := (hL.own.lt _ e.symm).2; omega

set_option maxRecDepth 100000 in
set_option maxHeartbeats 400000 in
theorem rlay_0 (t : T) (hk : t.k = 0) : LayAt 45 t := by
  intro w ok A c L base v l tu hN ho hL hlen
  have hr : layF t tu l = (tu, l) := by rw [layF_eq]; simp [hk]
  have Hr := Lib.hid hr; clear hr
  go_enter Try.func45, Try.ntmps45
  go_wp2_with fail
  go_ret
  rw [Hr.out]
  exact ⟨rfl, v, hL.alloc _, Moves.refl _ _, Lays.alloc _ _ _ _⟩

set_option maxRecDepth 100000 in
set_option maxHeartbeats 400000 in
theorem rlay_1 (t : T) (hk : t.k = 1) : LayAt 45 t := by
  intro w ok A c L base v l tu hN ho hL hlen
  have hr : layF t tu l = ((l.length : Int), l ++ [⟨1, t.s0, t.s1, t.s2, t.s3, tu, 0⟩]) := by rw [layF_eq]; simp [hk]
  rw [hr] at hlen
  have Hr := Lib.hid hr; clear hr
  simp only [List.length_append, List.length_cons, List.length_nil] at hlen
  go_enter Try.func45, Try.ntmps45
  go_wp2_with fail
  refine (rstate_any _ L base v l ⟨1, t.s0, t.s1, t.s2, t.s3, tu, 0⟩ (hL.alloc _) (by omega)).mono ?_
  rintro e w1 ⟨rfl, v1, hL1, hm1, hl1⟩
  go_wp2_with fail
  go_ret
  rw [Hr.out]
  exact ⟨rfl, v1, hL1, (Moves.refl w v).trans (by simp) hm1, (Lays.alloc _ _ _ _).trans (Moves.refl _ _) hl1⟩

set_option maxRecDepth 100000 in
set_option maxHeartbeats 400000 in
theorem rlay_23 (t : T) (hk : t.k = 2 ∨ t.k = 3) : LayAt 45 t := by
  intro w ok A c L base v l tu hN ho hL hlen
  rcases hk with hk | hk
  · have hr : layF t tu l = ((l.length : Int), l ++ [⟨3, 0, 0, 0, 0, tu, 0⟩]) := by rw [layF_eq]; simp [hk]
    rw [hr] at hlen
    have Hr := Lib.hid hr; clear hr
    simp only [List.length_append, List.length_cons, List.length_nil] at hlen
    go_enter Try.func45, Try.ntmps45
    go_wp2_with fail
    refine (rstate_any _ L base v l ⟨3, 0, 0, 0, 0, tu, 0⟩ (hL.alloc _) (by omega)).mono ?_
    rintro e w1 ⟨rfl, v1, hL1, hm1, hl1⟩
    go_wp2_with fail
    go_ret
    rw [Hr.out]
    exact ⟨rfl, v1, hL1, (Moves.refl w v).trans (by simp) hm1, (Lays.alloc _ _ _ _).trans (Moves.refl _ _) hl1⟩
  · have hr : layF t tu l = ((l.length : Int), l ++ [⟨4, 0, 0, 0, 0, tu, 0⟩]) := by rw [layF_eq]; simp [hk]
    rw [hr] at hlen
    have Hr := Lib.hid hr; clear hr
    simp only [List.length_append, List.length_cons, List.length_nil] at hlen
    go_enter Try.func45, Try.ntmps45
    go_wp2_with fail
    refine (rstate_any _ L base v l ⟨4, 0, 0, 0, 0, tu, 0⟩ (hL.alloc _) (by omega)).mono ?_
    rintro e w1 ⟨rfl, v1, hL1, hm1, hl1⟩
    go_wp2_with fail
    go_ret
    rw [Hr.out]
    exact ⟨rfl, v1, hL1, (Moves.refl w v).trans (by simp) hm1, (Lays.alloc _ _ _ _).trans (Moves.refl _ _) hl1⟩

set_option maxRecDepth 100000 in
set_option maxHeartbeats 400000 in
theorem rlay_6 (t : T) (hk : t.k = 6) (h : LayAt 62 t) : LayAt 45 t := by
  intro w ok A c L base v l tu hN ho hL hlen
  have Hlen := Lib.hid hlen; have H := Lib.hid h; clear hlen h
  have Hk := Lib.hid hk
  have e : nodeV t A c = .agg #[.int .i64 6, .int .u64 t.s0, .int .u64 t.s1, .int .u64 t.s2, .int .u64 t.s3, .int .i64 t.mn, .int .i64 t.mx, .slice A t.ps.length c] := by simp [nodeV, hk]
  have hcall := H.out (w.alloc (.cells #[.int .i64 6, .int .u64 t.s0, .int .u64 t.s1, .int .u64 t.s2, .int .u64 t.s3, .int .i64 t.mn, .int .i64 t.mx, .slice A t.ps.length c] 27)) ok A c L base v l tu (hN.alloc (fun b hb => (ho b hb).1) _) (ho.alloc _) (hL.alloc _) Hlen.out
  rw [e] at hcall
  rw [e]
  have Hcall := Lib.hid hcall; clear hcall hk e
  go_enter Try.func45, Try.ntmps45
  go_wp2_with fail
  refine Hcall.out.mono ?_
  rintro e w1 ⟨rfl, v1, hL1, hm1, hl1⟩
  go_wp2_with fail
  go_ret
  exact ⟨rfl, v1, hL1, (Moves.refl w v).trans (by simp) hm1, (Lays.alloc _ _ _ _).trans (Moves.refl _ _) hl1⟩

/-- The loop over a row, the last part first. -/
def RRowI (t : T) (W0 : World) (L base : Nat) (v : Value) (tu : Int) (l : List St) (n : Nat) (tv iv : Value) (wr : World) : Prop :=
  ∃ (x : Int) (v' : Value), iv = .int .i64 x ∧ x = (n : Int) - 1 ∧ n ≤ t.ps.length ∧ tv = .int .i64 (rowF (t.ps.drop n) tu l).1 ∧ Layer wr L base v' (rowF (t.ps.drop n) tu l).2 ∧ Moves W0 v v' ∧ Lays L v.ownBlock W0 wr

set_option maxRecDepth 100000 in
set_option maxHeartbeats 2000000 in
theorem rlay_4 (t : T) (hk : t.k = 4) (ih : ∀ p ∈ t.ps, LayAt 45 p) : LayAt 45 t := by
  intro w ok A c L base v l tu hN ho hL hlen
  have hrow : layF t tu l = rowF t.ps tu l := by rw [layF_eq]; simp [hk]
  have hll := hN.len
  have hcc := hN.cap
  rw [hrow] at hlen
  have Hrow := Lib.hid hrow; have Hlen := Lib.hid hlen; have Hih := Lib.hid ih
  clear hrow hlen ih
  have hLlt := hL.lt
  go_enter Try.func45, Try.ntmps45
  go_wp2_with fail
  clear hk
  generalize hW : w.alloc _ = W0
  have hb0 : Below w.heap.size w W0 := by subst hW; exact ((Below.refl _ _).alloc (Nat.le_refl _) _)
  have hz0 : w.heap.size < W0.heap.size := by subst hW; simp
  have c7 : W0.cell? ⟨w.heap.size, 7, none⟩ = some (.slice A t.ps.length c) := by subst hW; simp [go_sem]
  clear hW
  have hL0 := hL.later hb0
  have hno := own_hno hL
  have hlw0 : Lays L v.ownBlock w W0 := Lays.of_below hb0
  have ho0 : OkL W0 L v ok := ho.later hb0.size (Moves.refl _ _)
  have hN0 := hN.later hb0 (fun b hb => (ho b hb).1)
  go_loopg [2, 7] (t.ps.length) (fun n tv iv wr => RRowI t W0 L base v tu l n tv iv wr)
  case atStart => exact ⟨_, v, rfl, rfl, Nat.le_refl _, by rw [List.drop_of_length_le (Nat.le_refl _), rowF], by rw [List.drop_of_length_le (Nat.le_refl _), rowF]; exact hL0, Moves.refl _ _, Lays.refl _ _ _⟩
  case round =>
    obtain ⟨x, v', rfl, hx, hn, rfl, hLr, hmr, hlr⟩ := hrel
    have hor := ho0.later hlr.size hmr
    have hNr := hN0.lays ho0 hlr
    have hzr := hlr.size
    have k7 := (hlr.cell (o := 7) hz0 (by omega) (hno _ (Nat.le_refl _))).trans c7
    by_cases hlt : 0 < gk
    · obtain ⟨i, rfl⟩ : ∃ i, gk = i + 1 := ⟨gk - 1, by omega⟩
      obtain rfl : x = (i : Int) := by omega
      clear hx
      have hi : i < t.ps.length := by omega
      obtain ⟨b, o, rfl, hb, hcell⟩ := hNr.part (by omega)
      obtain ⟨A', c', h8, hNj⟩ := hcell i hi
      obtain ⟨f0, f1, f2, f3, f4, f5, f6, f7⟩ := h8
      have hstep : rowF (t.ps.drop i) tu l = layF t.ps[i] (rowF (t.ps.drop (i + 1)) tu l).1 (rowF (t.ps.drop (i + 1)) tu l).2 := by rw [drop_cons hi, rowF]
      have hst : (rowF (t.ps.drop i) tu l).2.length ≤ 1000000 := Nat.le_trans (rowF_drop _ _ _ _) Hlen.out
      have hihj := Hih.out _ (List.getElem_mem hi)
      generalize t.ps[i] = p at *
      have Hihj := Lib.hid hihj; have Hstep := Lib.hid hstep; clear hihj hstep hcell
      go_wp2_with fail
      refine (Hihj.out _ ok A' c' L base v' _ _ hNj hor hLr (by rw [← Hstep.out]; exact hst)).mono ?_
      rintro e w1 ⟨rfl, v1, hL1, hm1, hl1⟩
      rw [← Hstep.out] at hL1 ⊢
      go_wp2_with fail
      go_roundg i
      case measure => omega
      case rel => exact ⟨_, v1, rfl, by omega, by omega, rfl, hL1, hmr.trans hzr hm1, hlr.trans hmr hl1⟩
    · obtain rfl : gk = 0 := by omega
      obtain rfl : x = -1 := by omega
      clear hx hlt
      rw [List.drop_zero, ← Hrow.out] at hLr ⊢
      go_wp2_with fail
      go_ret
      exact ⟨rfl, v', hLr, (Moves.refl w v).trans hb0.size hmr, hlw0.trans (Moves.refl _ _) hlr⟩
end Go.Proofs.Ytdpmbanfaigmcaa

/- vouchref11: the layer's lay at a choice; lay as a whole: walked. -/
set_option linter.unusedVariables false
set_option linter.unusedSimpArgs false
namespace Go.Proofs.Ytdpmbanfaigmcaa
open Go.RowKit

/-- The loop that lays the parts. -/
def RChI (t : T) (W0 : World) (L base : Nat) (v : Value) (tu : Int) (l : List St) (n : Nat) (sv iv : Value) (wr : World) : Prop :=
  ∃ (j : Nat) (bs : List Int) (v' : Value) (l' : List St), iv = .int .i64 j ∧ j + n = t.ps.length ∧ bs.length = j ∧ bs ++ (begF (t.ps.drop j) tu l').1 = (begF t.ps tu l).1 ∧ (begF (t.ps.drop j) tu l').2 = (begF t.ps tu l).2 ∧
    Layer wr L base v' l' ∧ Moves W0 v v' ∧ Lays L v.ownBlock W0 wr ∧ wr.ownsRow W0.heap.size 3 1 sv bs.length (bs.map ivl)
/-- The loop that lays the splits. -/
def RChJ (bs : List Int) (W0 : World) (L base : Nat) (v : Value) (l : List St) (m n : Nat) (tv iv : Value) (wr : World) : Prop :=
  ∃ (k : Nat) (x : Int) (v' : Value), iv = .int .i64 x ∧ x = (m : Int) - 1 - k ∧ k + n = m ∧ tv = .int .i64 (splitsF (bs.drop (m - k)) l).1 ∧ Layer wr L base v' (splitsF (bs.drop (m - k)) l).2 ∧ Moves W0 v v' ∧ Lays L v.ownBlock W0 wr

set_option maxRecDepth 100000 in
set_option maxHeartbeats 4000000 in
theorem rlay_5 (t : T) (hk : t.k = 5) (hr : rightF t = true) (ih : ∀ p ∈ t.ps, LayAt 45 p) : LayAt 45 t := by
  intro w ok A c L base v l tu hN ho hL hlen
  have hps1 : 2 ≤ t.ps.length := by rcases right_cases hr with h | h | h | h | h | h | h <;> omega
  have hch : layF t tu l = splitsF (begF t.ps tu l).1 (begF t.ps tu l).2 := by rw [layF_eq]; simp [hk]
  have hll := hN.len
  have hcc := hN.cap
  rw [hch] at hlen
  have hl2 : (begF t.ps tu l).2.length ≤ 1000000 := by rw [splitsF_len] at hlen; omega
  have Hch := Lib.hid hch; have Hlen := Lib.hid hlen; have Hih := Lib.hid ih
  have Hbl := Lib.hid (begF_len t.ps tu l)
  clear hch hlen ih hr
  have hLlt := hL.lt
  go_enter Try.func45, Try.ntmps45
  go_wp2_with fail
  clear hk
  generalize hW : w.alloc _ = W0
  have hb0 : Below w.heap.size w W0 := by subst hW; exact ((Below.refl _ _).alloc (Nat.le_refl _) _)
  have hz0 : w.heap.size < W0.heap.size := by subst hW; simp
  have c7 : W0.cell? ⟨w.heap.size, 7, none⟩ = some (.slice A t.ps.length c) := by subst hW; simp [go_sem]
  clear hW
  have hL0 := hL.later hb0
  have hno := own_hno hL
  have hlw0 : Lays L v.ownBlock w W0 := Lays.of_below hb0
  have ho0 : OkL W0 L v ok := ho.later hb0.size (Moves.refl _ _)
  have hN0 := hN.later hb0 (fun b hb => (ho b hb).1)
  clear hN ho hb0 hL
  go_loopg [8, 9] (t.ps.length) (fun n sv iv wr => RChI t W0 L base v tu l n sv iv wr)
  case atStart => exact ⟨0, [], v, l, rfl, by omega, rfl, rfl, rfl, hL0, Moves.refl _ _, Lays.refl _ _ _, World.ownsRow_nil _ _ _ _⟩
  case round =>
    clear hL0
    obtain ⟨j, bs, v', l', rfl, hj, hbs, hq1, hq2, hLr, hmr, hlr, hor⟩ := hrel
    have hok := ho0.later hlr.size hmr
    have hNr := hN0.lays ho0 hlr
    have hzr := hlr.size
    have k7 := (hlr.cell (o := 7) hz0 (by omega) (hno _ (Nat.le_refl _))).trans c7
    have Hq1 := Lib.hid hq1; have Hq2 := Lib.hid hq2; have Hbs := Lib.hid hbs
    clear hq1 hq2 hbs
    by_cases hlt : j < t.ps.length
    · obtain ⟨b, o, rfl, hb, hcell⟩ := hNr.part (by omega)
      obtain ⟨A', c', h8, hNj⟩ := hcell j hlt
      obtain ⟨f0, f1, f2, f3, f4, f5, f6, f7⟩ := h8
      have hihj := Hih.out _ (List.getElem_mem hlt)
      have hbstep : begF (t.ps.drop j) tu l' = ((layF t.ps[j] tu l').1 :: (begF (t.ps.drop (j + 1)) tu (layF t.ps[j] tu l').2).1, (begF (t.ps.drop (j + 1)) tu (layF t.ps[j] tu l').2).2) := by rw [drop_cons hlt, begF]
      have hst : (layF t.ps[j] tu l').2.length ≤ 1000000 := by
        have h1 := begF_grows (t.ps.drop (j + 1)) (fun p _ => layF_grows p) tu (layF t.ps[j] tu l').2
        have h2 := Hq2.out
        rw [hbstep] at h2
        simp only at h2
        rw [h2] at h1
        omega
      have Hbstep := Lib.hid hbstep; clear hbstep hcell
      generalize t.ps[j] = p at *
      have Hihj := Lib.hid hihj; clear hihj
      obtain ⟨A7, c7', rfl⟩ : ∃ A7 c7, u8 = .slice A7 bs.length c7 := by
        rcases hor.2 with ⟨rfl, h0⟩ | ⟨g, cap, cur, rfl, _⟩
        · exact ⟨none, 0, by rw [h0]⟩
        · exact ⟨_, cap, rfl⟩
      have Hor := Lib.hid hor; clear hor
      go_wp2_with fail
      refine (Hihj.out _ ok A' c' L base v' l' tu hNj hok hLr hst).mono ?_
      rintro e w1 ⟨rfl, v1, hL1, hm1, hl1⟩
      have hor1 := hl1.own hLr Hor.out (by decide) (by omega)
      have hz1 := hl1.size
      have hm1' : Moves W0 v v1 := hmr.trans hzr hm1
      have hl1' : Lays L v.ownBlock W0 w1 := hlr.trans hmr hl1
      have hbl7 : bs.length + 1 ≤ 17592186044416 := by have := Hbs.out; omega
      have Hor1 := Lib.hid hor1; clear hor1
      go_wp2_with (at_builtin; refine wpList_append_at W0.heap.size rfl _ _ 71 3 _ 1 8 rfl Try.underlying71 Try.infoInt rfl (by omega) (by omega) (.slice A7 bs.length c7') bs.length 1 (bs.map ivl) [.int .i64 (layF p tu l').1] ⟨w1.heap.size, 0, none⟩ 1 rfl rfl (by omega) rfl (cell_one_new _ _ _) (by intro u hu; simp at hu; subst hu; rfl) (Hor1.out.alloc _) (by simp; omega) (by omega) (fun g cap w2 ho2 hg2 hat2 => ?_))
      have hL2 : Layer w2 L base v1 (layF p tu l').2 := (hL1.alloc _).grown (Hor1.out.alloc _) (by decide) (by omega) hg2
      have hl2' : Lays L v.ownBlock W0 w2 := (hl1'.trans hm1' (Lays.alloc _ _ _ _)).grownNew hg2 (fun g hg => (Hor1.out.lt g hg).1)
      go_wp2_with fail
      go_roundg (gk - 1)
      case measure => omega
      case rel =>
        refine ⟨j + 1, bs ++ [(layF p tu l').1], v1, (layF p tu l').2, by go_num, by omega, by rw [List.length_append, Hbs.out]; rfl, ?_, ?_, hL2, hm1', hl2', ?_⟩
        · have := Hq1.out
          rw [Hbstep.out] at this
          simpa using this
        · have := Hq2.out
          rw [Hbstep.out] at this
          exact this
        · rw [List.length_append, List.map_append]; exact ho2
    · have hgk : t.ps.drop j = [] := List.drop_of_length_le (by omega)
      have hq1 := Hq1.out
      have hq2 := Hq2.out
      rw [hgk, begF, List.append_nil] at hq1
      rw [hgk, begF] at hq2
      simp only at hq1 hq2
      subst hq2
      have hbl : bs.length = t.ps.length := by have := Hbs.out; omega
      obtain ⟨m, hm⟩ : ∃ m, bs.length = m + 1 := ⟨bs.length - 1, by omega⟩
      have hor' := hor
      rw [hm] at hor'
      obtain ⟨g, cap, rfl, hgcap⟩ : ∃ g cap, u8 = .slice (some ⟨g, 0, none⟩) (m + 1) cap ∧ m + 1 ≤ cap := by
        rcases hor'.2 with ⟨rfl, h0⟩ | ⟨g, cap, cur, rfl, _, _, hh, _⟩
        · omega
        · exact ⟨g, cap, rfl, hh⟩
      have hgz := hor'.lt g rfl
      have hcells : ∀ i, i < m + 1 → wr.cell? ⟨g, i, none⟩ = some (.int .i64 (bs.getD i 0)) := fun i hi => by
        have h1 := hor'.cells (g := g) rfl i (ivl (bs.getD i 0)) (by rw [List.getElem?_map, List.getElem?_eq_getElem (by omega)]; simp [List.getD_eq_getElem?_getD, show i < bs.length by omega])
        rwa [show (⟨g, 0, none⟩ : Addr).add i = ⟨g, i, none⟩ by unfold Addr.add; split <;> simp_all] at h1
      have hlast := hcells m (by omega)
      obtain ⟨xl, hxl⟩ : ∃ xl, bs.getD m 0 = xl := ⟨_, rfl⟩
      rw [hxl] at hlast
      have Hxl := Lib.hid hxl; clear hxl
      have Hm := Lib.hid hm; have Hq := Lib.hid hq1; have Hcells := Lib.hid hcells
      have hmz : m + 1 ≤ 17592186044416 := by omega
      have hm1 : 1 ≤ m := by omega
      have hgne : some g ≠ v'.ownBlock := fun e => own_ne hor' hLr.own (by decide) rfl e.symm
      have Hgne := Lib.hid hgne
      have hgL : L < g := by have := hgz.1; omega
      have hgz2 := hgz.2
      clear hm hq1 hcells hbl hor hor' Hq1 Hq2 Hbs Hih Hbl hgk hgne hgz
      go_wp2_with fail
      go_loopg [2, 11] m (fun n tv iv W => RChJ bs wr L base v' (begF t.ps tu l).2 m n tv iv W)
      case atStart =>
        have hsz := splits_zero bs (begF t.ps tu l).2 (by have := Hm.out; omega)
        have hm' : bs.length - 1 = m := by have := Hm.out; omega
        rw [hm', Hxl.out] at hsz
        refine ⟨0, _, v', rfl, by push_cast; omega, by omega, ?_, ?_, Moves.refl _ _, Lays.refl _ _ _⟩
        · rw [hsz]
        · rw [hsz]; exact hLr
      case round =>
        obtain ⟨k, x, v4, rfl, hx, hkm, rfl, hL4, hm4, hl4⟩ := hrel
        have hm' : bs.length - 1 = m := by have := Hm.out; omega
        have hz4 := hl4.size
        by_cases hkl : k < m
        · obtain ⟨i, hi⟩ : ∃ i, m = k + 1 + i := ⟨m - 1 - k, by omega⟩
          obtain rfl : x = (i : Int) := by omega
          have hstep := splits_step bs (begF t.ps tu l).2 k (by have := Hm.out; omega)
          rw [hm', show m - 1 - k = i by omega] at hstep
          have hst : (splitsF (bs.drop (m - k)) (begF t.ps tu l).2).2.length ≤ 1000000 := by
            have h1 := splits_drop_len bs (begF t.ps tu l).2 (m - k)
            have h2 := Hlen.out
            rw [← Hq.out] at h2
            omega
          have hci := (hl4.cell (o := i) hgz2 (by omega) Hgne.out).trans (Hcells.out i (by omega))
          have him : i < m + 1 := by omega
          have Hstep := Lib.hid hstep; have Hi := Lib.hid hi
          clear hstep hx hi hm'
          generalize bs.getD i 0 = bi at *
          generalize splitsF (bs.drop (m - k)) (begF t.ps tu l).2 = sk at *
          go_wp2_with fail
          refine (rstate_any _ L base v4 sk.2 (splitS bi sk.1) hL4 (by omega)).mono ?_
          rintro e w5 ⟨rfl, v5, hL5, hm5, hl5⟩
          go_wp2_with fail
          go_roundg (gk - 1)
          case measure => omega
          case rel =>
            have hi := Hi.out
            refine ⟨k + 1, (i : Int) - 1, v5, by go_num, by omega, by omega, ?_, ?_, hm4.trans hz4 hm5, hl4.trans hm4 hl5⟩
            · rw [Hstep.out]
            · rw [Hstep.out]; exact hL5
        · obtain rfl : k = m := by omega
          obtain rfl : x = -1 := by omega
          rw [Nat.sub_self, List.drop_zero, Hq.out, ← Hch.out] at hL4
          have hfin : (splitsF (bs.drop (k - k)) (begF t.ps tu l).2).1 = (layF t tu l).1 := by rw [Nat.sub_self, List.drop_zero, Hq.out, ← Hch.out]
          have Hfin := Lib.hid hfin
          clear hx hkl hfin hm'
          go_wp2_with fail
          go_ret
          refine ⟨by rw [← Hfin.out]; rfl, v4, hL4, ?_, ?_⟩
          · exact (Moves.refl w v).trans (by omega) (hmr.trans hzr hm4)
          · exact hlw0.trans (Moves.refl _ _) (hlr.trans hmr hl4)

theorem rlay_any (t : T) : rightF t = true → LayAt 45 t := by
  induction t using T.ind with
  | h t ih =>
    intro hr
    have ih' : ∀ p ∈ t.ps, LayAt 45 p := fun p hp => ih p hp (right_parts hr p hp)
    rcases right_cases hr with h | h | h | h | h | h | h
    · exact rlay_0 t h.1
    · exact rlay_1 t h.1
    · exact rlay_23 t (.inl h.1)
    · exact rlay_23 t (.inr h.1)
    · exact rlay_4 t h.1 ih'
    · exact rlay_5 t h.1 hr ih'
    · exact rlay_6 t h.1 (rrepeat_any t h.1 hr ih')
end Go.Proofs.Ytdpmbanfaigmcaa

/- vouchref11: states, Size: walked. -/
set_option linter.unusedVariables false
set_option linter.unusedSimpArgs false
namespace Go.Proofs.Ytdpmbanfaigmcaa
open Go.RowKit

set_option maxRecDepth 100000 in
set_option maxHeartbeats 1000000 in
theorem rstates_any (t : T) : ∀ (w : World) (ok : Nat → Prop) (A : Option Addr) (c : Nat), rightF t = true → NodeAt w ok t A c → (∀ b, ok b → b < w.heap.size) →
    Calls Try.prog 43 #[nodeV t A c] w fun e w' => e = .returned (.int .i64 (countF t)) ∧ Below w.heap.size w w' := by
  induction t using T.ind with
  | h t ih =>
    intro w ok A c hr hN hok
    have hlen := hN.len
    have hcs := right_cases hr
    have Hps := Lib.hid (right_parts hr)
    have Hlb := Lib.hid (fun s (h0 : 0 ≤ s) (h1 : s ≤ 4097) (j : Nat) => countL_bd (t.ps.drop j) s (fun p hp => countF_bd p (right_parts hr p (List.mem_of_mem_drop hp))) h0 h1)
    have Heq := Lib.hid (countF_eq t)
    have Hr := Lib.hid hr; clear hr
    have Hk : Hid True := trivial
    rcases hcs with ⟨hk, hn, hmn, hmx⟩ | ⟨hk, hn, hmn, hmx⟩ | ⟨hk, hn, hmn, hmx⟩ | ⟨hk, hn, hmn, hmx⟩ | ⟨hk, hn, hmn, hmx⟩ | ⟨hk, hn, hmn, hmx⟩ | ⟨hk, hn, h0, h1, h2, h3⟩
    · have Hres := Lib.hid (show countF t = 0 by rw [Heq.out, hk]; simp)
      clear hn hmn hmx
      go_enter Try.func43, Try.ntmps43
      go_wp2_with fail
      go_ret
      exact ⟨by rw [Hres.out]; rfl, (Below.refl _ _).alloc (Nat.le_refl _) _⟩
    · have Hres := Lib.hid (show countF t = 1 by rw [Heq.out, hk]; simp)
      clear hn hmn hmx
      go_enter Try.func43, Try.ntmps43
      go_wp2_with fail
      go_ret
      exact ⟨by rw [Hres.out]; rfl, (Below.refl _ _).alloc (Nat.le_refl _) _⟩
    · have Hres := Lib.hid (show countF t = 1 by rw [Heq.out, hk]; simp)
      clear hn hmn hmx
      go_enter Try.func43, Try.ntmps43
      go_wp2_with fail
      go_ret
      exact ⟨by rw [Hres.out]; rfl, (Below.refl _ _).alloc (Nat.le_refl _) _⟩
    · have Hres := Lib.hid (show countF t = 1 by rw [Heq.out, hk]; simp)
      clear hn hmn hmx
      go_enter Try.func43, Try.ntmps43
      go_wp2_with fail
      go_ret
      exact ⟨by rw [Hres.out]; rfl, (Below.refl _ _).alloc (Nat.le_refl _) _⟩
    · have Hk := Lib.hid hk
      have Hmn := Lib.hid hmn
      have Hmx := Lib.hid hmx
      go_enter Try.func43, Try.ntmps43
      go_wp2_with fail
      generalize hW : w.alloc _ = W0
      have hB0 : Below w.heap.size w W0 := by subst hW; exact (Below.refl _ _).alloc (Nat.le_refl _) _
      have g0 : W0.cell? ⟨w.heap.size, 0, none⟩ = some (.int .i64 4) := by subst hW; simp [go_sem]
      have g5 : W0.cell? ⟨w.heap.size, 5, none⟩ = some (.int .i64 0) := by subst hW; simp [go_sem]
      have g6 : W0.cell? ⟨w.heap.size, 6, none⟩ = some (.int .i64 0) := by subst hW; simp [go_sem]
      have g7 : W0.cell? ⟨w.heap.size, 7, none⟩ = some (.slice A t.ps.length c) := by subst hW; simp [go_sem]
      have hsz : w.heap.size < W0.heap.size := by subst hW; simp
      clear hW
      go_loopg [3, 4] (t.ps.length) (fun n s i wr => ∃ (j : Nat) (x : Int), s = .int .i64 x ∧ i = .int .i64 j ∧ j + n = t.ps.length ∧ 0 ≤ x ∧ x ≤ 4097 ∧ countL (t.ps.drop j) x = countL t.ps 0 ∧ Below w.heap.size w wr ∧ w.heap.size < wr.heap.size ∧
        wr.cell? ⟨w.heap.size, 0, none⟩ = some (.int .i64 4) ∧ wr.cell? ⟨w.heap.size, 5, none⟩ = some (.int .i64 0) ∧ wr.cell? ⟨w.heap.size, 6, none⟩ = some (.int .i64 0) ∧ wr.cell? ⟨w.heap.size, 7, none⟩ = some (.slice A t.ps.length c))
      case atStart => exact ⟨0, 0, rfl, rfl, by omega, by omega, by omega, rfl, hB0, hsz, g0, g5, g6, g7⟩
      case round =>
        clear hB0 hsz g0 g5 g6 g7
        obtain ⟨j, x, rfl, rfl, hj, hx1, hx2, hm, hB, hs, g0, g5, g6, g7⟩ := hrel
        have Hm := Lib.hid hm; clear hm
        by_cases hlt : j < t.ps.length
        · obtain ⟨b, o, rfl, hb, hcell⟩ := hN.part (by omega)
          obtain ⟨A', c', h8, hNj⟩ := hcell j hlt
          have Hih := Lib.hid (ih t.ps[j] (List.getElem_mem _)); clear ih
          have Hrj := Lib.hid (Hps.out t.ps[j] (List.getElem_mem _))
          have hNj' := hNj.later hB hok
          obtain ⟨f0, f1, f2, f3, f4, f5, f6, f7⟩ := h8.mono (w' := wr) (fun o => hB.cell (p := ⟨b, o, none⟩) (hok b hb))
          have Hd := Lib.hid (drop_cons hlt)
          clear hcell hN hNj
          generalize t.ps[j] = p at *
          have hbd := countF_bd p Hrj.out
          go_wp2_with fail
          refine (Hih.out _ ok A' c' Hrj.out hNj' (fun b h => by have := hok b h; omega)).mono ?_
          rintro e w1 ⟨rfl, hb1⟩
          have hB1 : Below w.heap.size w w1 := hB.trans (hb1.mono (by omega))
          obtain ⟨hc1, hf1⟩ := bcell hb1
          have hz1 := hb1.size
          have k0 := (hc1 w.heap.size 0 hs).trans g0
          have k5 := (hc1 w.heap.size 5 hs).trans g5
          have k6 := (hc1 w.heap.size 6 hs).trans g6
          have k7 := (hc1 w.heap.size 7 hs).trans g7
          clear hc1 hf1
          go_wp2_with fail
          all_goals
            go_roundg (gk - 1)
            case measure => omega
            case rel => exact ⟨j + 1, min 4097 (x + countF p), by go_num, by go_num, by omega, by omega, by omega, by rw [← Hm.out, Hd.out, countL], hB1, by omega, k0, k5, k6, k7⟩
        · have hx : x = countL t.ps 0 := by rw [← Hm.out, List.drop_of_length_le (by omega), countL]
          have Hres := Lib.hid (show countF t = min 4097 (countK 4 0 0 x t.ps.length) by rw [Heq.out, Hk.out, Hmn.out, Hmx.out, ← hx]; simp)
          clear hx
          go_wp2_with fail
          all_goals
            go_ret
            exact ⟨by rw [Hres.out]; simp only [countK]; go_num, hB⟩
    · have Hk := Lib.hid hk
      have Hmn := Lib.hid hmn
      have Hmx := Lib.hid hmx
      go_enter Try.func43, Try.ntmps43
      go_wp2_with fail
      generalize hW : w.alloc _ = W0
      have hB0 : Below w.heap.size w W0 := by subst hW; exact (Below.refl _ _).alloc (Nat.le_refl _) _
      have g0 : W0.cell? ⟨w.heap.size, 0, none⟩ = some (.int .i64 5) := by subst hW; simp [go_sem]
      have g5 : W0.cell? ⟨w.heap.size, 5, none⟩ = some (.int .i64 0) := by subst hW; simp [go_sem]
      have g6 : W0.cell? ⟨w.heap.size, 6, none⟩ = some (.int .i64 0) := by subst hW; simp [go_sem]
      have g7 : W0.cell? ⟨w.heap.size, 7, none⟩ = some (.slice A t.ps.length c) := by subst hW; simp [go_sem]
      have hsz : w.heap.size < W0.heap.size := by subst hW; simp
      clear hW
      go_loopg [3, 4] (t.ps.length) (fun n s i wr => ∃ (j : Nat) (x : Int), s = .int .i64 x ∧ i = .int .i64 j ∧ j + n = t.ps.length ∧ 0 ≤ x ∧ x ≤ 4097 ∧ countL (t.ps.drop j) x = countL t.ps 0 ∧ Below w.heap.size w wr ∧ w.heap.size < wr.heap.size ∧
        wr.cell? ⟨w.heap.size, 0, none⟩ = some (.int .i64 5) ∧ wr.cell? ⟨w.heap.size, 5, none⟩ = some (.int .i64 0) ∧ wr.cell? ⟨w.heap.size, 6, none⟩ = some (.int .i64 0) ∧ wr.cell? ⟨w.heap.size, 7, none⟩ = some (.slice A t.ps.length c))
      case atStart => exact ⟨0, 0, rfl, rfl, by omega, by omega, by omega, rfl, hB0, hsz, g0, g5, g6, g7⟩
      case round =>
        clear hB0 hsz g0 g5 g6 g7
        obtain ⟨j, x, rfl, rfl, hj, hx1, hx2, hm, hB, hs, g0, g5, g6, g7⟩ := hrel
        have Hm := Lib.hid hm; clear hm
        by_cases hlt : j < t.ps.length
        · obtain ⟨b, o, rfl, hb, hcell⟩ := hN.part (by omega)
          obtain ⟨A', c', h8, hNj⟩ := hcell j hlt
          have Hih := Lib.hid (ih t.ps[j] (List.getElem_mem _)); clear ih
          have Hrj := Lib.hid (Hps.out t.ps[j] (List.getElem_mem _))
          have hNj' := hNj.later hB hok
          obtain ⟨f0, f1, f2, f3, f4, f5, f6, f7⟩ := h8.mono (w' := wr) (fun o => hB.cell (p := ⟨b, o, none⟩) (hok b hb))
          have Hd := Lib.hid (drop_cons hlt)
          clear hcell hN hNj
          generalize t.ps[j] = p at *
          have hbd := countF_bd p Hrj.out
          go_wp2_with fail
          refine (Hih.out _ ok A' c' Hrj.out hNj' (fun b h => by have := hok b h; omega)).mono ?_
          rintro e w1 ⟨rfl, hb1⟩
          have hB1 : Below w.heap.size w w1 := hB.trans (hb1.mono (by omega))
          obtain ⟨hc1, hf1⟩ := bcell hb1
          have hz1 := hb1.size
          have k0 := (hc1 w.heap.size 0 hs).trans g0
          have k5 := (hc1 w.heap.size 5 hs).trans g5
          have k6 := (hc1 w.heap.size 6 hs).trans g6
          have k7 := (hc1 w.heap.size 7 hs).trans g7
          clear hc1 hf1
          go_wp2_with fail
          all_goals
            go_roundg (gk - 1)
            case measure => omega
            case rel => exact ⟨j + 1, min 4097 (x + countF p), by go_num, by go_num, by omega, by omega, by omega, by rw [← Hm.out, Hd.out, countL], hB1, by omega, k0, k5, k6, k7⟩
        · have hx : x = countL t.ps 0 := by rw [← Hm.out, List.drop_of_length_le (by omega), countL]
          have Hres := Lib.hid (show countF t = min 4097 (countK 5 0 0 x t.ps.length) by rw [Heq.out, Hk.out, Hmn.out, Hmx.out, ← hx]; simp)
          clear hx
          go_wp2_with fail
          all_goals
            go_ret
            exact ⟨by rw [Hres.out]; simp only [countK]; go_num, hB⟩
    · have Hk := Lib.hid hk
      have hn1 : t.ps.length ≤ 1 := by omega
      have hn2 : 1 ≤ t.ps.length := by omega
      clear hn
      go_enter Try.func43, Try.ntmps43
      go_wp2_with fail
      generalize hW : w.alloc _ = W0
      have hB0 : Below w.heap.size w W0 := by subst hW; exact (Below.refl _ _).alloc (Nat.le_refl _) _
      have g0 : W0.cell? ⟨w.heap.size, 0, none⟩ = some (.int .i64 6) := by subst hW; simp [go_sem]
      have g5 : W0.cell? ⟨w.heap.size, 5, none⟩ = some (.int .i64 t.mn) := by subst hW; simp [go_sem]
      have g6 : W0.cell? ⟨w.heap.size, 6, none⟩ = some (.int .i64 t.mx) := by subst hW; simp [go_sem]
      have g7 : W0.cell? ⟨w.heap.size, 7, none⟩ = some (.slice A t.ps.length c) := by subst hW; simp [go_sem]
      have hsz : w.heap.size < W0.heap.size := by subst hW; simp
      clear hW
      go_loopg [3, 4] (t.ps.length) (fun n s i wr => ∃ (j : Nat) (x : Int), s = .int .i64 x ∧ i = .int .i64 j ∧ j + n = t.ps.length ∧ 0 ≤ x ∧ x ≤ 4097 ∧ countL (t.ps.drop j) x = countL t.ps 0 ∧ Below w.heap.size w wr ∧ w.heap.size < wr.heap.size ∧
        wr.cell? ⟨w.heap.size, 0, none⟩ = some (.int .i64 6) ∧ wr.cell? ⟨w.heap.size, 5, none⟩ = some (.int .i64 t.mn) ∧ wr.cell? ⟨w.heap.size, 6, none⟩ = some (.int .i64 t.mx) ∧ wr.cell? ⟨w.heap.size, 7, none⟩ = some (.slice A t.ps.length c))
      case atStart => exact ⟨0, 0, rfl, rfl, by omega, by omega, by omega, rfl, hB0, hsz, g0, g5, g6, g7⟩
      case round =>
        clear hB0 hsz g0 g5 g6 g7
        obtain ⟨j, x, rfl, rfl, hj, hx1, hx2, hm, hB, hs, g0, g5, g6, g7⟩ := hrel
        have Hm := Lib.hid hm; clear hm
        by_cases hlt : j < t.ps.length
        · obtain ⟨b, o, rfl, hb, hcell⟩ := hN.part (by omega)
          obtain ⟨A', c', h8, hNj⟩ := hcell j hlt
          have Hih := Lib.hid (ih t.ps[j] (List.getElem_mem _)); clear ih
          have Hrj := Lib.hid (Hps.out t.ps[j] (List.getElem_mem _))
          have hNj' := hNj.later hB hok
          obtain ⟨f0, f1, f2, f3, f4, f5, f6, f7⟩ := h8.mono (w' := wr) (fun o => hB.cell (p := ⟨b, o, none⟩) (hok b hb))
          have Hd := Lib.hid (drop_cons hlt)
          clear hcell hN hNj
          generalize t.ps[j] = p at *
          have hbd := countF_bd p Hrj.out
          go_wp2_with fail
          refine (Hih.out _ ok A' c' Hrj.out hNj' (fun b h => by have := hok b h; omega)).mono ?_
          rintro e w1 ⟨rfl, hb1⟩
          have hB1 : Below w.heap.size w w1 := hB.trans (hb1.mono (by omega))
          obtain ⟨hc1, hf1⟩ := bcell hb1
          have hz1 := hb1.size
          have k0 := (hc1 w.heap.size 0 hs).trans g0
          have k5 := (hc1 w.heap.size 5 hs).trans g5
          have k6 := (hc1 w.heap.size 6 hs).trans g6
          have k7 := (hc1 w.heap.size 7 hs).trans g7
          clear hc1 hf1
          go_wp2_with fail
          all_goals
            go_roundg (gk - 1)
            case measure => omega
            case rel => exact ⟨j + 1, min 4097 (x + countF p), by go_num, by go_num, by omega, by omega, by omega, by rw [← Hm.out, Hd.out, countL], hB1, by omega, k0, k5, k6, k7⟩
        · have hx : x = countL t.ps 0 := by rw [← Hm.out, List.drop_of_length_le (by omega), countL]
          have Hres := Lib.hid (show countF t = min 4097 (countK 6 t.mn t.mx x t.ps.length) by rw [Heq.out, Hk.out, ← hx]; simp)
          clear hx
          by_cases hm : t.mx < 0
          · have hb1 : (t.mx == -1) = true := by rw [beq_iff_eq]; omega
            have hp := mul_bd (a := x) (b := t.mn + 1) (A := 4097) (B := 256) hx1 (by omega) hx2 (by omega)
            have hK : countK 6 t.mn t.mx x t.ps.length = x * (t.mn + 1) + 1 := by unfold countK; rw [if_neg (by omega), if_pos rfl, if_pos hm]
            have HK := Lib.hid hK; clear hK
            obtain ⟨hp1, hp2⟩ := hp
            go_wp2_with fail
            all_goals
              go_ret
              exact ⟨by rw [Hres.out, HK.out]; go_num, hB⟩
          · have hb1 : (t.mx == -1) = false := by rw [beq_eq_false_iff_ne]; omega
            have hp := mul_bd (a := x) (b := t.mx) (A := 4097) (B := 255) hx1 (by omega) hx2 (by omega)
            have hK : countK 6 t.mn t.mx x t.ps.length = x * t.mx + t.mx - t.mn := by unfold countK; rw [if_neg (by omega), if_pos rfl, if_neg hm]
            have HK := Lib.hid hK; clear hK
            obtain ⟨hp1, hp2⟩ := hp
            go_wp2_with fail
            all_goals
              go_ret
              exact ⟨by rw [Hres.out, HK.out]; go_num, hB⟩

set_option maxRecDepth 100000 in
set_option maxHeartbeats 400000 in
theorem rsize_any (t : T) (w : World) (ok : Nat → Prop) (A : Option Addr) (c : Nat) (hN : NodeAt w ok t A c) (hok : ∀ b, ok b → b < w.heap.size) :
    Calls Try.prog 16 #[nodeV t A c] w fun e w' => e = .returned (.tuple #[.int .i64 (sizeK t), .int .i64 (sizeE t)]) ∧ Below w.heap.size w w' := by
  have hlen := hN.len
  go_enter Try.func16, Try.ntmps16
  go_wp2_with fail
  have hB0 : Below w.heap.size w (w.alloc (.cells #[.int .i64 t.k, .int .u64 t.s0, .int .u64 t.s1, .int .u64 t.s2, .int .u64 t.s3, .int .i64 t.mn, .int .i64 t.mx, .slice A t.ps.length c] 27)) := (Below.refl _ _).alloc (Nat.le_refl _) _
  refine (r10check_any t _ ok A c (hN.later hB0 hok) (fun b h => by have := hok b h; simp; omega)).mono ?_
  rintro e w1 ⟨rfl, hb1⟩
  have hB1 : Below w.heap.size w w1 := hB0.trans (hb1.mono (by simp))
  have hN1 := hN.later hB1 hok
  have hs1 := hB1.size
  obtain ⟨hc1, hf1⟩ := bcell hb1
  have g0 := hc1 w.heap.size 0 (by simp)
  have g1 := hc1 w.heap.size 1 (by simp)
  have g2 := hc1 w.heap.size 2 (by simp)
  have g3 := hc1 w.heap.size 3 (by simp)
  have g4 := hc1 w.heap.size 4 (by simp)
  have g5 := hc1 w.heap.size 5 (by simp)
  have g6 := hc1 w.heap.size 6 (by simp)
  have g7 := hc1 w.heap.size 7 (by simp)
  simp only [World.cell?_alloc_new, List.getElem?_toArray] at g0 g1 g2 g3 g4 g5 g6 g7
  clear hc1 hf1
  by_cases h : checkF t = 0
  · have hr := (check_right h).1
    have hbd := countF_bd t hr
    have hb : (checkF t != 0) = false := by rw [h]; rfl
    have H := Lib.hid h; clear h
    go_wp2_with fail
    refine (rstates_any t _ ok A c hr hN1 (fun b h => by have := hok b h; omega)).mono ?_
    rintro e w2 ⟨rfl, hb2⟩
    have hB2 : Below w.heap.size w w2 := hB1.trans (hb2.mono (by omega))
    by_cases h2 : 4096 < 1 + countF t
    · have hk : sizeK t = 0 := by rw [sizeK, if_neg (by simp [H.out]), if_pos h2]
      have he : sizeE t = 3 := by rw [sizeE, if_neg (by simp [H.out]), if_pos h2]
      have Hk := Lib.hid hk; have He := Lib.hid he; clear hk he
      go_wp2_with fail
      go_ret2
      exact ⟨by rw [Hk.out, He.out]; go_num, hB2⟩
    · have hk : sizeK t = 1 + countF t := by rw [sizeK, if_neg (by simp [H.out]), if_neg h2]
      have he : sizeE t = 0 := by rw [sizeE, if_neg (by simp [H.out]), if_neg h2]
      have Hk := Lib.hid hk; have He := Lib.hid he; clear hk he
      go_wp2_with fail
      go_ret2
      exact ⟨by rw [Hk.out, He.out]; go_num, hB2⟩
  · have hb : (checkF t != 0) = true := by rw [bne_iff_ne]; exact h
    have hk : sizeK t = 0 := by rw [sizeK, if_pos h]
    have he : sizeE t = checkF t := by rw [sizeE, if_pos h]
    have Hk := Lib.hid hk; have He := Lib.hid he; clear hk he h
    go_wp2_with fail
    go_ret2
    exact ⟨by rw [Hk.out, He.out]; rfl, hB1⟩
end Go.Proofs.Ytdpmbanfaigmcaa

/- The walks of nfa.kinds and of nfa's layer: lay. -/
set_option linter.unusedVariables false
set_option linter.unusedSimpArgs false
namespace Go.Proofs.Ytdpmbanfaigmcaa
open Go.RowKit Go.Shelf

abbrev fv (f : Nat) : Value := .func (.func f) #[] #[]
abbrev kindsV : Value := .agg #[fv 67, fv 68, fv 69, fv 69, fv 70, fv 71, fv 72]

set_option maxRecDepth 100000 in
set_option maxHeartbeats 1000000 in
theorem kinds_any (w : World) : Calls Try.prog 59 #[] w fun e w' => e = .returned kindsV ∧ Below w.heap.size w w' := by
  go_enter Try.func59, Try.ntmps59
  go_wp2_with fail
  exact bodyPost_ret (v := kindsV) (by simp [results, Try.results59, go_sem]) rfl ⟨rfl, (Below.refl _ _).alloc (Nat.le_refl _) _⟩

set_option maxRecDepth 100000 in
set_option maxHeartbeats 1000000 in
theorem lay_by (f : Nat) (henter : ∀ args w, (callFunc f args).run Try.prog w = .ok (.enter f args) w) (t : T)
    (hix : ∀ w : World, (Instr.index 84 kindsV (.int .i64 t.k)).run Try.prog w = .ok (fv f) w) (h : LayAt f t) : LayAt 41 t := by
  intro w ok A c L base v l tu hN ho hL hlen
  have H := Lib.hid h; clear h
  have Hlen := Lib.hid hlen; clear hlen
  go_enter Try.func41, Try.ntmps41
  go_wp2_with fail
  go_region_with (first
    | (go_at_call 59; refine (kinds_any _).mono ?_; rintro e w1 ⟨rfl, hb1⟩; obtain ⟨hc1, hf1⟩ := bcell hb1; have hB1 : Below w.heap.size w w1 := (((Below.refl _ _).alloc (Nat.le_refl _) _).drew).trans (hb1.mono (by simp)))
    | (refine (H.out w1 ok A c L base v l tu (hN.later hB1 (fun b hb => (ho b hb).1)) (ho.later hB1.size (Moves.refl _ _)) (hL.later hB1) Hlen.out).mono ?_; rintro e w2 ⟨rfl, v2, hL2, hm2, hl2⟩))
  all_goals
    go_wp2_with fail
    go_ret
    exact ⟨rfl, v2, hL2, (Moves.refl w v).trans hB1.size hm2, (Lays.of_below hB1).trans (Moves.refl _ _) hl2⟩

theorem index0 : ∀ w : World, (Instr.index 84 kindsV (.int .i64 0)).run Try.prog w = .ok (fv 67) w := fun _ => by kernel_rfl
theorem lay_0 (t : T) (hk : t.k = 0) (h : LayAt 67 t) : LayAt 41 t :=
  lay_by 67 (enters_of Try.func67 (by kernel_rfl) rfl) t (by rw [hk]; exact index0) h
theorem index1 : ∀ w : World, (Instr.index 84 kindsV (.int .i64 1)).run Try.prog w = .ok (fv 68) w := fun _ => by kernel_rfl
theorem lay_1 (t : T) (hk : t.k = 1) (h : LayAt 68 t) : LayAt 41 t :=
  lay_by 68 (enters_of Try.func68 (by kernel_rfl) rfl) t (by rw [hk]; exact index1) h
theorem index2 : ∀ w : World, (Instr.index 84 kindsV (.int .i64 2)).run Try.prog w = .ok (fv 69) w := fun _ => by kernel_rfl
theorem lay_2 (t : T) (hk : t.k = 2) (h : LayAt 69 t) : LayAt 41 t :=
  lay_by 69 (enters_of Try.func69 (by kernel_rfl) rfl) t (by rw [hk]; exact index2) h
theorem index3 : ∀ w : World, (Instr.index 84 kindsV (.int .i64 3)).run Try.prog w = .ok (fv 69) w := fun _ => by kernel_rfl
theorem lay_3 (t : T) (hk : t.k = 3) (h : LayAt 69 t) : LayAt 41 t :=
  lay_by 69 (enters_of Try.func69 (by kernel_rfl) rfl) t (by rw [hk]; exact index3) h
theorem index4 : ∀ w : World, (Instr.index 84 kindsV (.int .i64 4)).run Try.prog w = .ok (fv 70) w := fun _ => by kernel_rfl
theorem lay_4 (t : T) (hk : t.k = 4) (h : LayAt 70 t) : LayAt 41 t :=
  lay_by 70 (enters_of Try.func70 (by kernel_rfl) rfl) t (by rw [hk]; exact index4) h
theorem index5 : ∀ w : World, (Instr.index 84 kindsV (.int .i64 5)).run Try.prog w = .ok (fv 71) w := fun _ => by kernel_rfl
theorem lay_5 (t : T) (hk : t.k = 5) (h : LayAt 71 t) : LayAt 41 t :=
  lay_by 71 (enters_of Try.func71 (by kernel_rfl) rfl) t (by rw [hk]; exact index5) h
theorem index6 : ∀ w : World, (Instr.index 84 kindsV (.int .i64 6)).run Try.prog w = .ok (fv 72) w := fun _ => by kernel_rfl
theorem lay_6 (t : T) (hk : t.k = 6) (h : LayAt 72 t) : LayAt 41 t :=
  lay_by 72 (enters_of Try.func72 (by kernel_rfl) rfl) t (by rw [hk]; exact index6) h
/-- nfa's layer lays a tree as layF does. -/
theorem lay_any (t : T) : rightF t = true → LayAt 41 t := by
  induction t using T.ind with
  | h t ih =>
    intro hr
    have ih' : ∀ p ∈ t.ps, LayAt 41 p := fun p hp => ih p hp (right_parts hr p hp)
    rcases right_cases hr with h | h | h | h | h | h | h
    · exact lay_0 t h.1 (nothing_any t h.1)
    · exact lay_1 t h.1 (set_any t h.1)
    · exact lay_2 t h.1 (place_any t (.inl h.1))
    · exact lay_3 t h.1 (place_any t (.inr h.1))
    · exact lay_4 t h.1 (row_any t h.1 hr ih')
    · exact lay_5 t h.1 (choice_any t h.1 hr ih')
    · exact lay_6 t h.1 (repeat_any t h.1 hr ih')
end Go.Proofs.Ytdpmbanfaigmcaa

/- How many states a tree lays: plain. -/
set_option linter.unusedVariables false
set_option linter.unusedSimpArgs false
namespace Go.Proofs.Ytdpmbanfaigmcaa
open Go.RowKit

/-- A way of laying that lays n states, whatever lies there. -/
def LaysN (p : LF) (n : Nat) : Prop := ∀ tu l, (p tu l).2.length = l.length + n
theorem optF_len {p : LF} {n : Nat} (hp : LaysN p n) (tu : Int) : ∀ m t l, (optF p tu m t l).2.length = l.length + m * (n + 1)
  | 0, t, l => by simp [optF]
  | m + 1, t, l => by
    rw [optF, optF_len hp tu m, List.length_append, hp, Nat.succ_mul]
    simp only [List.length_cons, List.length_nil]
    omega
theorem minF_len {p : LF} {n : Nat} (hp : LaysN p n) : ∀ m t l, (minF p m t l).2.length = l.length + m * n
  | 0, t, l => by simp [minF]
  | m + 1, t, l => by
    rw [minF]
    split
    · rename_i h
      rw [hp] at h
      have : n = 0 := by omega
      subst this
      rw [hp]; simp
    · rw [minF_len hp m, hp, Nat.succ_mul]
      omega
theorem starF_len {p : LF} {n : Nat} (hp : LaysN p n) (tu : Int) (l : List St) : (starF p tu l).2.length = l.length + (n + 1) := by
  simp only [starF, setNx, List.length_modify, hp _ _, List.length_append, List.length_cons, List.length_nil]
  omega
theorem countL_sum : ∀ (ps : List T) (s : Int), (∀ p ∈ ps, 0 ≤ countF p) → 0 ≤ s → countL ps s ≤ 4096 → s ≤ countL ps s ∧ (∀ p ∈ ps, countF p ≤ 4096) ∧ countL ps s = s + (ps.map countF).sum
  | [], s, _, h0, h => by rw [countL] at *; simp
  | p :: ps, s, hp, h0, h => by
    rw [countL] at h ⊢
    have h1 := hp p (List.mem_cons_self ..)
    obtain ⟨a, b, c⟩ := countL_sum ps _ (fun q hq => hp q (List.mem_cons_of_mem _ hq)) (by omega) h
    refine ⟨by omega, ?_, ?_⟩
    · intro q hq
      cases hq with
      | head => omega
      | tail _ hq => exact b q hq
    · rw [c, List.map_cons, List.sum_cons]; omega
theorem rowF_len : ∀ (ps : List T), (∀ p ∈ ps, 0 ≤ countF p) → (∀ p ∈ ps, LaysN (layF p) (countF p).toNat) → ∀ tu l, ((rowF ps tu l).2.length : Int) = l.length + (ps.map countF).sum
  | [], _, _, tu, l => by simp [rowF]
  | p :: ps, h0, h, tu, l => by
    have ih := rowF_len ps (fun q hq => h0 q (List.mem_cons_of_mem _ hq)) (fun q hq => h q (List.mem_cons_of_mem _ hq)) tu l
    have h1 := h p (List.mem_cons_self ..) (rowF ps tu l).1 (rowF ps tu l).2
    have h2 := h0 p (List.mem_cons_self ..)
    rw [rowF, List.map_cons, List.sum_cons]
    omega
theorem begF_len2 : ∀ (ps : List T), (∀ p ∈ ps, 0 ≤ countF p) → (∀ p ∈ ps, LaysN (layF p) (countF p).toNat) → ∀ tu l, ((begF ps tu l).2.length : Int) = l.length + (ps.map countF).sum
  | [], _, _, tu, l => by simp [begF]
  | p :: ps, h0, h, tu, l => by
    have h1 := h p (List.mem_cons_self ..) tu l
    have ih := begF_len2 ps (fun q hq => h0 q (List.mem_cons_of_mem _ hq)) (fun q hq => h q (List.mem_cons_of_mem _ hq)) tu (layF p tu l).2
    have h2 := h0 p (List.mem_cons_self ..)
    rw [begF, List.map_cons, List.sum_cons]
    simp only
    omega
theorem headF_eq : ∀ (ps : List T) (h : ps.length = 1), ∃ p, ps = [p] ∧ headF ps = layF p
  | [p], _ => ⟨p, rfl, by funext tu l; rw [headF]⟩

theorem lay_len (t : T) : rightF t = true → countF t ≤ 4096 → LaysN (layF t) (countF t).toNat := by
  induction t using T.ind with
  | h t ih =>
    intro hr hc tu l
    have h0 : ∀ p ∈ t.ps, 0 ≤ countF p := fun p hp => (countF_bd p (right_parts hr p hp)).1
    have hlb := countL_bd t.ps 0 (fun p hp => countF_bd p (right_parts hr p hp)) (by omega) (by omega)
    rw [countF_eq] at hc ⊢
    rw [layF_eq]
    rcases right_cases hr with ⟨hk, h⟩ | ⟨hk, h⟩ | ⟨hk, h⟩ | ⟨hk, h⟩ | ⟨hk, h⟩ | ⟨hk, h⟩ | ⟨hk, h⟩
    · simp [hk]
    · simp [hk]
    · simp [hk]
    · simp [hk]
    · simp only [hk] at hc ⊢
      simp only [countK] at hc ⊢
      simp at hc ⊢
      obtain ⟨_, h2, h3⟩ := countL_sum t.ps 0 h0 (by omega) (by omega)
      have := rowF_len t.ps h0 (fun p hp => ih p hp (right_parts hr p hp) (h2 p hp)) tu l
      omega
    · simp only [hk] at hc ⊢
      simp only [countK] at hc ⊢
      simp at hc ⊢
      obtain ⟨_, h2, h3⟩ := countL_sum t.ps 0 h0 (by omega) (by omega)
      have := begF_len2 t.ps h0 (fun p hp => ih p hp (right_parts hr p hp) (h2 p hp)) tu l
      rw [splitsF_len, begF_len]
      omega
    · obtain ⟨p, hp, hh⟩ := headF_eq t.ps h.1
      have hcl : countL t.ps 0 = min 4097 (countF p) := by rw [hp]; simp [countL]
      have hp0 := countF_bd p (right_parts hr p (by rw [hp]; exact List.mem_cons_self ..))
      simp only [hk] at hc ⊢
      simp only [countK] at hc ⊢
      rw [hh]
      rw [hcl] at hc ⊢
      simp only [show min 4097 (countF p) = countF p by omega] at hc ⊢
      simp only [if_true, if_false, show ¬ ((6 : Int) = 0) by omega, show ¬ ((6 : Int) = 1) by omega, show ¬ ((6 : Int) = 2) by omega, show ¬ ((6 : Int) = 3) by omega, show ¬ ((6 : Int) = 4) by omega, show ¬ ((6 : Int) = 5) by omega, or_self] at hc ⊢
      unfold repF
      simp only
      by_cases hmx : t.mx < 0
      · simp only [if_pos hmx] at hc ⊢
        have hb := mul_bd (a := countF p) (b := t.mn + 1) (A := 4097) (B := 256) hp0.1 (by omega) hp0.2 (by omega)
        have hle : countF p ≤ countF p * (t.mn + 1) := by
          have := Int.mul_le_mul_of_nonneg_left (show (1 : Int) ≤ t.mn + 1 by omega) hp0.1
          omega
        have hl := ih p (by rw [hp]; exact List.mem_cons_self ..) (right_parts hr p (by rw [hp]; exact List.mem_cons_self ..)) (by omega)
        rw [minF_len hl, starF_len hl]
        obtain ⟨a, ha⟩ := Int.eq_ofNat_of_zero_le hp0.1
        obtain ⟨m, hm⟩ := Int.eq_ofNat_of_zero_le (show 0 ≤ t.mn by omega)
        rw [ha, hm] at hc ⊢
        simp only [Int.toNat_natCast]
        have e : ((a : Int) * ((m : Int) + 1) + 1) = ((a * (m + 1) + 1 : Nat) : Int) := by push_cast; rfl
        rw [e] at hc ⊢
        rw [show min (4097 : Int) ((a * (m + 1) + 1 : Nat) : Int) = ((a * (m + 1) + 1 : Nat) : Int) by omega, Int.toNat_natCast, Nat.mul_succ, Nat.mul_comm m a]
        omega
      · simp only [if_neg hmx] at hc ⊢
        by_cases hz : t.mx = 0
        · have hz2 : t.mn = 0 := by omega
          simp [hz, hz2, optF, minF]; try omega
        · have hb := mul_bd (a := countF p) (b := t.mx) (A := 4097) (B := 255) hp0.1 (by omega) hp0.2 (by omega)
          have hle : countF p ≤ countF p * t.mx := by
            have := Int.mul_le_mul_of_nonneg_left (show (1 : Int) ≤ t.mx by omega) hp0.1
            omega
          have hl := ih p (by rw [hp]; exact List.mem_cons_self ..) (right_parts hr p (by rw [hp]; exact List.mem_cons_self ..)) (by omega)
          rw [minF_len hl, optF_len hl]
          obtain ⟨a, ha⟩ := Int.eq_ofNat_of_zero_le hp0.1
          obtain ⟨m, hm⟩ := Int.eq_ofNat_of_zero_le (show 0 ≤ t.mn by omega)
          obtain ⟨d, hd⟩ := Int.eq_ofNat_of_zero_le (show 0 ≤ t.mx - t.mn by omega)
          have hx : t.mx = (m : Int) + d := by omega
          rw [hd]
          clear hb hle hd
          rw [hx] at hc ⊢
          rw [ha, hm] at hc ⊢
          simp only [Int.toNat_natCast]
          have e : ((a : Int) * ((m : Int) + (d : Int)) + ((m : Int) + (d : Int)) - (m : Int)) = ((a * (m + d) + d : Nat) : Int) := by push_cast; omega
          rw [e] at hc ⊢
          rw [show min (4097 : Int) ((a * (m + d) + d : Nat) : Int) = ((a * (m + d) + d : Nat) : Int) by omega, Int.toNat_natCast, Nat.mul_add, Nat.mul_succ, Nat.mul_comm m a, Nat.mul_comm d a]
          simp only [Nat.mul_add, Nat.mul_succ, Nat.mul_comm m a, Nat.mul_comm d a] at hc ⊢
          omega
end Go.Proofs.Ytdpmbanfaigmcaa

/- The walk of nfa.Make. -/
set_option linter.unusedVariables false
set_option linter.unusedSimpArgs false
namespace Go.Proofs.Ytdpmbanfaigmcaa
open Go.RowKit

/-- make([]T, 0, c), c a variable, any element: for the walk. -/
theorem wpList_make_own {P : Program} {w : World} {ops : Array Oper} {rest : List Oper} {o : Oper} {a : Act} {Q : Exit → Act → World → Prop} (base : Nat)
    (hg : o.guard = none) (l c : Operand) (t : TypeId) (hop : o.op = Op.makeSlice t l c)
    (e : TypeId) (z : Value) (size bytes : Nat) (ht : P.underlying t = some (.slice e)) (hinfo : (P.info? e).map (fun i => (i.zero, i.size, i.bytes)) = some (some z, size, bytes))
    (kl kc : IntKind) (n : Nat) (hl : a.eval l = .int kl 0) (hc : a.eval c = .int kc (n : Int)) (hbytes : bytes * n ≤ 281474976710656) (h63 : n ≤ maxLen) (hbase : base ≤ w.heap.size)
    (hK : ∀ w1, w1.ownsRow base e size (.slice (some ⟨w.heap.size, 0, none⟩) 0 n) 0 [] → Below w.heap.size w w1 → w.heap.size < w1.heap.size → wpList P ops Q rest (a.put o.dst (.slice (some ⟨w.heap.size, 0, none⟩) 0 n)) w1) :
    wpList P ops Q (o :: rest) a w := by
  obtain ⟨i, hi, hzz⟩ := Option.map_eq_some_iff.1 hinfo
  simp only [Prod.mk.injEq] at hzz
  obtain ⟨hz0, hz1, hz2⟩ := hzz
  refine wpList_plain hg fun K hK' => ?_
  have hb' : (i.bytes : Int) * (n : Int) ≤ 281474976710656 := by
    have h : ((i.bytes * n : Nat) : Int) ≤ 281474976710656 := by rw [hz2]; omega
    rwa [Int.natCast_mul] at h
  have h63' : (n : Int) ≤ 9223372036854775807 := by have h := h63; simp [maxLen] at h; omega
  have hrun := run_make (P := P) w t e i z ht hi hz0 kl kc 0 n (Int.le_refl _) (by omega) hb' h63'
  simp only [Int.toNat_zero, Int.toNat_natCast] at hrun
  have hk := hK _ (by subst hz1; exact World.ownsRow_made w (madeCells z.cells (n * i.size)) n hbase h63 (size_madeCells _ _)) ((Below.refl _ _).alloc (Nat.le_refl _) _) (by simp)
  unfold Oper.wp
  simp [execOp, hop, hl, hc, hrun, Result.andThen]
  exact hK' _ _ hk

/-- What nfa.Make makes: the states, and the start. -/
def makeL (t : T) : List St := if sizeE t = 0 then (layF t 0 [⟨5, 0, 0, 0, 0, 0, 0⟩]).2 else []
def makeS (t : T) : Int := if sizeE t = 0 then (layF t 0 [⟨5, 0, 0, 0, 0, 0, 0⟩]).1 else 0
theorem sizeE_zero {t : T} (h : sizeE t = 0) : rightF t = true ∧ countF t ≤ 4095 ∧ sizeK t = 1 + countF t := by
  unfold sizeE at h
  unfold sizeK
  by_cases h1 : checkF t = 0
  · simp only [h1, ne_eq, not_true_eq_false, if_false] at h ⊢
    have := (check_right h1).1
    split at h
    · omega
    · rename_i hh
      rw [if_neg hh]
      exact ⟨this, by omega, rfl⟩
  · simp [h1] at h
theorem makeL_len {t : T} (h : sizeE t = 0) : ((makeL t).length : Int) = sizeK t := by
  obtain ⟨h1, h2, h3⟩ := sizeE_zero h
  rw [makeL, if_pos h, lay_len t h1 (by omega), h3]
  have := (countF_bd t h1).1
  simp only [List.length_cons, List.length_nil]
  omega
theorem sizeK_bd (t : T) : 0 ≤ sizeK t ∧ sizeK t ≤ 4096 := by
  unfold sizeK
  by_cases h1 : checkF t = 0
  · have := (countF_bd t (check_right h1).1).1
    simp only [h1, ne_eq, not_true_eq_false, if_false]
    split <;> omega
  · simp [h1]
theorem makeL_le (t : T) : (makeL t).length ≤ 4096 := by
  by_cases h : sizeE t = 0
  · have := makeL_len h
    have := sizeK_bd t
    omega
  · simp [makeL, h]

set_option maxRecDepth 100000 in
set_option maxHeartbeats 2000000 in
theorem make_any (t : T) (w : World) (ok : Nat → Prop) (A : Option Addr) (c : Nat) (hN : NodeAt w ok t A c) (hok : ∀ b, ok b → b < w.heap.size) :
    Calls Try.prog 15 #[nodeV t A c] w fun e w' => ∃ v, e = .returned (.tuple #[.agg #[v, .int .i64 (makeS t)], .int .i64 (sizeE t)]) ∧
      w'.ownsRow w.heap.size 47 7 v (makeL t).length (stCells (makeL t)) ∧ Below w.heap.size w w' := by
  have hlen := hN.len
  go_enter Try.func15, Try.ntmps15
  go_wp2_with fail
  generalize hW : (w.alloc _).alloc _ = W0
  have hB0 : Below w.heap.size w W0 := by subst hW; exact ((Below.refl _ _).alloc (Nat.le_refl _) _).alloc (by simp) _
  have hsz : W0.heap.size = w.heap.size + 2 := by subst hW; simp
  have p0 : W0.cell? ⟨w.heap.size, 0, none⟩ = some (.int .i64 t.k) := by subst hW; simp [go_sem]
  have p1 : W0.cell? ⟨w.heap.size, 1, none⟩ = some (.int .u64 t.s0) := by subst hW; simp [go_sem]
  have p2 : W0.cell? ⟨w.heap.size, 2, none⟩ = some (.int .u64 t.s1) := by subst hW; simp [go_sem]
  have p3 : W0.cell? ⟨w.heap.size, 3, none⟩ = some (.int .u64 t.s2) := by subst hW; simp [go_sem]
  have p4 : W0.cell? ⟨w.heap.size, 4, none⟩ = some (.int .u64 t.s3) := by subst hW; simp [go_sem]
  have p5 : W0.cell? ⟨w.heap.size, 5, none⟩ = some (.int .i64 t.mn) := by subst hW; simp [go_sem]
  have p6 : W0.cell? ⟨w.heap.size, 6, none⟩ = some (.int .i64 t.mx) := by subst hW; simp [go_sem]
  have p7 : W0.cell? ⟨w.heap.size, 7, none⟩ = some (.slice A t.ps.length c) := by subst hW; simp [go_sem]
  have q0 : W0.cell? ⟨w.heap.size + 1, 0, none⟩ = some (.slice none 0 0) := by subst hW; simp [go_sem]
  have q1 : W0.cell? ⟨w.heap.size + 1, 1, none⟩ = some (.int .i64 0) := by subst hW; simp [go_sem]
  have qf0 : W0.frozen? ⟨w.heap.size + 1, 0, none⟩ = false := by subst hW; simp [go_sem]
  have qf1 : W0.frozen? ⟨w.heap.size + 1, 1, none⟩ = false := by subst hW; simp [go_sem]
  clear hW
  refine (nsize_any t W0 ok A c (hN.later hB0 hok) (fun b h => by have := hok b h; omega)).mono ?_
  rintro e w1 ⟨rfl, hb1⟩
  have hB1 : Below w.heap.size w w1 := hB0.trans (hb1.mono (by omega))
  have hN1 := hN.later hB1 hok
  have hs1 := hb1.size
  obtain ⟨hc1, hf1⟩ := bcell hb1
  rw [← hc1 _ _ (by omega)] at p0 p1 p2 p3 p4 p5 p6 p7 q0 q1
  rw [← hf1 _ _ (by omega)] at qf0 qf1
  clear hc1 hf1
  have h12 : w.heap.size + 2 ≤ w1.heap.size := by omega
  clear hsz
  by_cases h : sizeE t = 0
  · have hkk := makeL_len h
    have hll := makeL_le t
    have hlo : makeL t = (layF t 0 [⟨5, 0, 0, 0, 0, 0, 0⟩]).2 := by rw [makeL, if_pos h]
    have hso : makeS t = (layF t 0 [⟨5, 0, 0, 0, 0, 0, 0⟩]).1 := by rw [makeS, if_pos h]
    have hr := (sizeE_zero h).1
    have hb : (sizeE t != 0) = false := by rw [h]; rfl
    obtain ⟨k, hk⟩ : ∃ k : Nat, sizeK t = k := ⟨_, hkk.symm⟩
    have hk4 : k ≤ 4096 := by omega
    have H := Lib.hid h; have Hlo := Lib.hid hlo; have Hso := Lib.hid hso; have Hr := Lib.hid hr; clear h hlo hso hr hkk
    rw [hk]
    clear hk
    go_wp2_with (refine wpList_make_own w.heap.size rfl _ _ 33 rfl 47 _ 7 56 Try.underlying33 Try.infoState .i64 .i64 k rfl rfl (by omega) (by simp [maxLen]; omega) (by omega) (fun w2 ho2 hb2 hs2 => ?_))
    generalize hW2 : w2.alloc _ = W2
    have hl0 : Layer W2 w2.heap.size w.heap.size (.slice (some ⟨w1.heap.size, 0, none⟩) 0 k) [] := by
      subst hW2
      exact ⟨by simp [go_sem], by simp [go_sem], ho2.alloc _, by simp [Value.ownBlock]; omega, by simp; omega⟩
    have hBW : Below w1.heap.size w1 W2 := by subst hW2; exact hb2.alloc (by omega) _
    have hBW' : Below w.heap.size w W2 := hB1.trans (hBW.mono (by omega))
    clear hW2
    have hok2 : OkL W2 w2.heap.size (.slice (some ⟨w1.heap.size, 0, none⟩) 0 k) ok := fun b hb => by
      have := hok b hb
      have := hBW'.size
      refine ⟨by omega, by omega, ?_⟩
      simp [Value.ownBlock]; omega
    refine (state_any W2 w2.heap.size w.heap.size _ [] ⟨5, 0, 0, 0, 0, 0, 0⟩ hl0 (by simp)).mono ?_
    rintro e w3 ⟨rfl, v3, hL3, hm3, hl3⟩
    simp only [List.nil_append] at hL3
    have hs3 := hl3.size
    have hsW := hBW.size
    obtain ⟨hcW, hfW⟩ := bcell hBW
    have hc3 : ∀ b o, b < w1.heap.size → w3.cell? ⟨b, o, none⟩ = w1.cell? ⟨b, o, none⟩ := fun b o hb =>
      (hl3.cell (by omega) (by omega) (by simp [Value.ownBlock]; omega)).trans (hcW b o hb)
    have hf3 : ∀ b o, b < w1.heap.size → w3.frozen? ⟨b, o, none⟩ = w1.frozen? ⟨b, o, none⟩ := fun b o hb =>
      (hl3.frozen (by omega) (by omega) (by simp [Value.ownBlock]; omega)).trans (hfW b o hb)
    rw [← hc3 _ _ (by omega)] at p0 p1 p2 p3 p4 p5 p6 p7 q0 q1
    rw [← hf3 _ _ (by omega)] at qf0 qf1
    clear hcW hfW
    go_wp2_with fail
    refine (lay_any t Hr.out w3 ok A c w2.heap.size w.heap.size v3 _ 0 ((hN.later hBW' hok).lays hok2 hl3) (hok2.later hl3.size hm3) hL3 (by rw [← Hlo.out]; omega)).mono ?_
    rintro e w4 ⟨rfl, v4, hL4, hm4, hl4⟩
    have hs4 := hl4.size
    have hm34 := hm3.trans hl3.size hm4
    have hl34 := hl3.trans hm3 hl4
    have hc4 : ∀ b o, b < w1.heap.size → w4.cell? ⟨b, o, none⟩ = w1.cell? ⟨b, o, none⟩ := fun b o hb =>
      (hl34.cell (by omega) (by omega) (by simp [Value.ownBlock]; omega)).trans ((bcell hBW).1 b o hb)
    have hf4 : ∀ b o, b < w1.heap.size → w4.frozen? ⟨b, o, none⟩ = w1.frozen? ⟨b, o, none⟩ := fun b o hb =>
      (hl34.frozen (by omega) (by omega) (by simp [Value.ownBlock]; omega)).trans ((bcell hBW).2 b o hb)
    rw [hc3 _ _ (by omega), ← hc4 _ _ (by omega)] at p0 p1 p2 p3 p4 p5 p6 p7 q0 q1
    rw [hf3 _ _ (by omega), ← hf4 _ _ (by omega)] at qf0 qf1
    clear hc3 hf3
    rw [← Hlo.out, ← Hso.out] at *
    have hcL := hL4.cell
    have ho4 := Lib.hid hL4.own
    have hB4 : Below w.heap.size w w4 := ⟨hl34.os.trans hBW'.os, hl34.tape.trans hBW'.tape, hl34.output.trans hBW'.output, Nat.le_trans hBW'.size hl34.size, fun j hj => (hl34.block j (by omega) (by omega) (by simp [Value.ownBlock]; omega)).trans (hBW'.block j hj)⟩
    have hvb : v4.ownBlock ≠ some (w.heap.size + 1) := by
      rcases hm34 with e | ⟨b, e, hle⟩
      · rw [e]; simp [Value.ownBlock]; omega
      · rw [e]; simp; omega
    have Hvb := Lib.hid hvb; clear hvb
    clear hc4 hf4 hL4
    obtain ⟨A4, n4, c4, rfl⟩ : ∃ A n c, v4 = .slice A n c := by
      rcases ho4.out.2 with ⟨e, _⟩ | ⟨g, cap, cur, e, _⟩
      · exact ⟨_, _, _, e⟩
      · exact ⟨_, _, _, e⟩
    go_wp2_with fail
    have r1 := World.cell?_setCell_same (w4.setCell ⟨w.heap.size + 1, 0, none⟩ (Value.slice A4 n4 c4)) ⟨w.heap.size + 1, 1, none⟩ (.int .i64 (makeS t)) (by rw [World.cell?_setCell_other (h := by simp)]; exact q1)
    have r0 : ((w4.setCell ⟨w.heap.size + 1, 0, none⟩ (Value.slice A4 n4 c4)).setCell ⟨w.heap.size + 1, 1, none⟩ (.int .i64 (makeS t))).cell? ⟨w.heap.size + 1, 0, none⟩ = some (.slice A4 n4 c4) := by
      rw [World.cell?_setCell_other (h := by simp)]
      exact World.cell?_setCell_same w4 _ _ q0
    refine bodyPost_ret (v := .tuple #[.agg #[.slice A4 n4 c4, .int .i64 (makeS t)], .int .i64 0]) (by simp [results, Try.results15, r0, r1, go_sem]) rfl ⟨_, by rw [H.out], ?_, ?_⟩
    · refine ho4.out.kept (row := some (w.heap.size + 1)) ⟨rfl, rfl, rfl, by simp, fun j hj hne => ?_⟩ (.inr (fun e => Hvb.out e))
      rw [Below.heap_setCell _ _ _ _ (fun e => hne (by rw [e])), Below.heap_setCell _ _ _ _ (fun e => hne (by rw [e]))]
    · exact (hB4.setCell (by simp) _).setCell (by simp) _
  · have hlo : makeL t = [] := by rw [makeL, if_neg h]
    have hso : makeS t = 0 := by rw [makeS, if_neg h]
    have hb : (sizeE t != 0) = true := by rw [bne_iff_ne]; exact h
    clear h
    go_wp2_with fail
    have r1 := World.cell?_setCell_same (w1.setCell ⟨w.heap.size + 1, 0, none⟩ (Value.slice none 0 0)) ⟨w.heap.size + 1, 1, none⟩ (.int .i64 0) (by rw [World.cell?_setCell_other (h := by simp)]; exact q1)
    have r0 : ((w1.setCell ⟨w.heap.size + 1, 0, none⟩ (Value.slice none 0 0)).setCell ⟨w.heap.size + 1, 1, none⟩ (.int .i64 0)).cell? ⟨w.heap.size + 1, 0, none⟩ = some (.slice none 0 0) := by
      rw [World.cell?_setCell_other (h := by simp)]
      exact World.cell?_setCell_same w1 _ _ q0
    refine bodyPost_ret (v := .tuple #[.agg #[.slice none 0 0, .int .i64 0], .int .i64 (sizeE t)]) (by simp [results, Try.results15, r0, r1, go_sem]) rfl ⟨.slice none 0 0, by rw [hso], ?_, ?_⟩
    · rw [hlo]; exact ⟨rfl, .inl ⟨rfl, rfl⟩⟩
    · exact (hB1.setCell (by simp) _).setCell (by simp) _
end Go.Proofs.Ytdpmbanfaigmcaa

/- vouchref11.Make: walked. -/
set_option linter.unusedVariables false
set_option linter.unusedSimpArgs false
namespace Go.Proofs.Ytdpmbanfaigmcaa
open Go.RowKit

set_option maxRecDepth 100000 in
set_option maxHeartbeats 2000000 in
theorem rmake_any (t : T) (w : World) (ok : Nat → Prop) (A : Option Addr) (c : Nat) (hN : NodeAt w ok t A c) (hok : ∀ b, ok b → b < w.heap.size) :
    Calls Try.prog 17 #[nodeV t A c] w fun e w' => ∃ v, e = .returned (.tuple #[.agg #[v, .int .i64 (makeS t)], .int .i64 (sizeE t)]) ∧
      w'.ownsRow w.heap.size 47 7 v (makeL t).length (stCells (makeL t)) ∧ Below w.heap.size w w' := by
  have hlen := hN.len
  go_enter Try.func17, Try.ntmps17
  go_wp2_with fail
  generalize hW : (w.alloc _).alloc _ = W0
  have hB0 : Below w.heap.size w W0 := by subst hW; exact ((Below.refl _ _).alloc (Nat.le_refl _) _).alloc (by simp) _
  have hsz : W0.heap.size = w.heap.size + 2 := by subst hW; simp
  have p0 : W0.cell? ⟨w.heap.size, 0, none⟩ = some (.int .i64 t.k) := by subst hW; simp [go_sem]
  have p1 : W0.cell? ⟨w.heap.size, 1, none⟩ = some (.int .u64 t.s0) := by subst hW; simp [go_sem]
  have p2 : W0.cell? ⟨w.heap.size, 2, none⟩ = some (.int .u64 t.s1) := by subst hW; simp [go_sem]
  have p3 : W0.cell? ⟨w.heap.size, 3, none⟩ = some (.int .u64 t.s2) := by subst hW; simp [go_sem]
  have p4 : W0.cell? ⟨w.heap.size, 4, none⟩ = some (.int .u64 t.s3) := by subst hW; simp [go_sem]
  have p5 : W0.cell? ⟨w.heap.size, 5, none⟩ = some (.int .i64 t.mn) := by subst hW; simp [go_sem]
  have p6 : W0.cell? ⟨w.heap.size, 6, none⟩ = some (.int .i64 t.mx) := by subst hW; simp [go_sem]
  have p7 : W0.cell? ⟨w.heap.size, 7, none⟩ = some (.slice A t.ps.length c) := by subst hW; simp [go_sem]
  have q0 : W0.cell? ⟨w.heap.size + 1, 0, none⟩ = some (.slice none 0 0) := by subst hW; simp [go_sem]
  have q1 : W0.cell? ⟨w.heap.size + 1, 1, none⟩ = some (.int .i64 0) := by subst hW; simp [go_sem]
  have qf0 : W0.frozen? ⟨w.heap.size + 1, 0, none⟩ = false := by subst hW; simp [go_sem]
  have qf1 : W0.frozen? ⟨w.heap.size + 1, 1, none⟩ = false := by subst hW; simp [go_sem]
  clear hW
  refine (rsize_any t W0 ok A c (hN.later hB0 hok) (fun b h => by have := hok b h; omega)).mono ?_
  rintro e w1 ⟨rfl, hb1⟩
  have hB1 : Below w.heap.size w w1 := hB0.trans (hb1.mono (by omega))
  have hN1 := hN.later hB1 hok
  have hs1 := hb1.size
  obtain ⟨hc1, hf1⟩ := bcell hb1
  rw [← hc1 _ _ (by omega)] at p0 p1 p2 p3 p4 p5 p6 p7 q0 q1
  rw [← hf1 _ _ (by omega)] at qf0 qf1
  clear hc1 hf1
  have h12 : w.heap.size + 2 ≤ w1.heap.size := by omega
  clear hsz
  by_cases h : sizeE t = 0
  · have hkk := makeL_len h
    have hll := makeL_le t
    have hlo : makeL t = (layF t 0 [⟨5, 0, 0, 0, 0, 0, 0⟩]).2 := by rw [makeL, if_pos h]
    have hso : makeS t = (layF t 0 [⟨5, 0, 0, 0, 0, 0, 0⟩]).1 := by rw [makeS, if_pos h]
    have hr := (sizeE_zero h).1
    have hb : (sizeE t != 0) = false := by rw [h]; rfl
    obtain ⟨k, hk⟩ : ∃ k : Nat, sizeK t = k := ⟨_, hkk.symm⟩
    have hk4 : k ≤ 4096 := by omega
    have H := Lib.hid h; have Hlo := Lib.hid hlo; have Hso := Lib.hid hso; have Hr := Lib.hid hr; clear h hlo hso hr hkk
    rw [hk]
    clear hk
    go_wp2_with fail
    generalize hW2 : w1.alloc _ = W2
    have hl0 : Layer W2 w1.heap.size w.heap.size (.slice none 0 0) [] := by
      subst hW2
      exact ⟨by simp [go_sem], by simp [go_sem], ⟨rfl, .inl ⟨rfl, rfl⟩⟩, by simp [Value.ownBlock], by simp; omega⟩
    have hBW : Below w1.heap.size w1 W2 := by subst hW2; exact (Below.refl _ _).alloc (Nat.le_refl _) _
    have hBW' : Below w.heap.size w W2 := hB1.trans (hBW.mono (by omega))
    clear hW2
    have hok2 : OkL W2 w1.heap.size (.slice none 0 0) ok := fun b hb => by
      have := hok b hb
      have := hBW'.size
      refine ⟨by omega, by omega, ?_⟩
      simp [Value.ownBlock]
    refine (rstate_any W2 w1.heap.size w.heap.size _ [] ⟨5, 0, 0, 0, 0, 0, 0⟩ hl0 (by simp)).mono ?_
    rintro e w3 ⟨rfl, v3, hL3, hm3, hl3⟩
    simp only [List.nil_append] at hL3
    have hs3 := hl3.size
    have hsW := hBW.size
    obtain ⟨hcW, hfW⟩ := bcell hBW
    have hc3 : ∀ b o, b < w1.heap.size → w3.cell? ⟨b, o, none⟩ = w1.cell? ⟨b, o, none⟩ := fun b o hb =>
      (hl3.cell (by omega) (by omega) (by simp [Value.ownBlock])).trans (hcW b o hb)
    have hf3 : ∀ b o, b < w1.heap.size → w3.frozen? ⟨b, o, none⟩ = w1.frozen? ⟨b, o, none⟩ := fun b o hb =>
      (hl3.frozen (by omega) (by omega) (by simp [Value.ownBlock])).trans (hfW b o hb)
    rw [← hc3 _ _ (by omega)] at p0 p1 p2 p3 p4 p5 p6 p7 q0 q1
    rw [← hf3 _ _ (by omega)] at qf0 qf1
    clear hcW hfW
    go_wp2_with fail
    refine (rlay_any t Hr.out w3 ok A c w1.heap.size w.heap.size v3 _ 0 ((hN.later hBW' hok).lays hok2 hl3) (hok2.later hl3.size hm3) hL3 (by rw [← Hlo.out]; omega)).mono ?_
    rintro e w4 ⟨rfl, v4, hL4, hm4, hl4⟩
    have hs4 := hl4.size
    have hm34 := hm3.trans hl3.size hm4
    have hl34 := hl3.trans hm3 hl4
    have hc4 : ∀ b o, b < w1.heap.size → w4.cell? ⟨b, o, none⟩ = w1.cell? ⟨b, o, none⟩ := fun b o hb =>
      (hl34.cell (by omega) (by omega) (by simp [Value.ownBlock])).trans ((bcell hBW).1 b o hb)
    have hf4 : ∀ b o, b < w1.heap.size → w4.frozen? ⟨b, o, none⟩ = w1.frozen? ⟨b, o, none⟩ := fun b o hb =>
      (hl34.frozen (by omega) (by omega) (by simp [Value.ownBlock])).trans ((bcell hBW).2 b o hb)
    rw [hc3 _ _ (by omega), ← hc4 _ _ (by omega)] at p0 p1 p2 p3 p4 p5 p6 p7 q0 q1
    rw [hf3 _ _ (by omega), ← hf4 _ _ (by omega)] at qf0 qf1
    clear hc3 hf3
    rw [← Hlo.out, ← Hso.out] at *
    have hcL := hL4.cell
    have ho4 := Lib.hid hL4.own
    have hB4 : Below w.heap.size w w4 := ⟨hl34.os.trans hBW'.os, hl34.tape.trans hBW'.tape, hl34.output.trans hBW'.output, Nat.le_trans hBW'.size hl34.size, fun j hj => (hl34.block j (by omega) (by omega) (by simp [Value.ownBlock])).trans (hBW'.block j hj)⟩
    have hvb : v4.ownBlock ≠ some (w.heap.size + 1) := by
      rcases hm34 with e | ⟨b, e, hle⟩
      · rw [e]; simp [Value.ownBlock]
      · rw [e]; simp; omega
    have Hvb := Lib.hid hvb; clear hvb
    clear hc4 hf4 hL4
    obtain ⟨A4, n4, c4, rfl⟩ : ∃ A n c, v4 = .slice A n c := by
      rcases ho4.out.2 with ⟨e, _⟩ | ⟨g, cap, cur, e, _⟩
      · exact ⟨_, _, _, e⟩
      · exact ⟨_, _, _, e⟩
    go_wp2_with fail
    have r1 := World.cell?_setCell_same (w4.setCell ⟨w.heap.size + 1, 0, none⟩ (Value.slice A4 n4 c4)) ⟨w.heap.size + 1, 1, none⟩ (.int .i64 (makeS t)) (by rw [World.cell?_setCell_other (h := by simp)]; exact q1)
    have r0 : ((w4.setCell ⟨w.heap.size + 1, 0, none⟩ (Value.slice A4 n4 c4)).setCell ⟨w.heap.size + 1, 1, none⟩ (.int .i64 (makeS t))).cell? ⟨w.heap.size + 1, 0, none⟩ = some (.slice A4 n4 c4) := by
      rw [World.cell?_setCell_other (h := by simp)]
      exact World.cell?_setCell_same w4 _ _ q0
    refine bodyPost_ret (v := .tuple #[.agg #[.slice A4 n4 c4, .int .i64 (makeS t)], .int .i64 0]) (by simp [results, Try.results17, r0, r1, go_sem]) rfl ⟨_, by rw [H.out], ?_, ?_⟩
    · refine ho4.out.kept (row := some (w.heap.size + 1)) ⟨rfl, rfl, rfl, by simp, fun j hj hne => ?_⟩ (.inr (fun e => Hvb.out e))
      rw [Below.heap_setCell _ _ _ _ (fun e => hne (by rw [e])), Below.heap_setCell _ _ _ _ (fun e => hne (by rw [e]))]
    · exact (hB4.setCell (by simp) _).setCell (by simp) _
  · have hlo : makeL t = [] := by rw [makeL, if_neg h]
    have hso : makeS t = 0 := by rw [makeS, if_neg h]
    have hb : (sizeE t != 0) = true := by rw [bne_iff_ne]; exact h
    clear h
    go_wp2_with fail
    have r1 := World.cell?_setCell_same (w1.setCell ⟨w.heap.size + 1, 0, none⟩ (Value.slice none 0 0)) ⟨w.heap.size + 1, 1, none⟩ (.int .i64 0) (by rw [World.cell?_setCell_other (h := by simp)]; exact q1)
    have r0 : ((w1.setCell ⟨w.heap.size + 1, 0, none⟩ (Value.slice none 0 0)).setCell ⟨w.heap.size + 1, 1, none⟩ (.int .i64 0)).cell? ⟨w.heap.size + 1, 0, none⟩ = some (.slice none 0 0) := by
      rw [World.cell?_setCell_other (h := by simp)]
      exact World.cell?_setCell_same w1 _ _ q0
    refine bodyPost_ret (v := .tuple #[.agg #[.slice none 0 0, .int .i64 0], .int .i64 (sizeE t)]) (by simp [results, Try.results17, r0, r1, go_sem]) rfl ⟨.slice none 0 0, by rw [hso], ?_, ?_⟩
    · rw [hlo]; exact ⟨rfl, .inl ⟨rfl, rfl⟩⟩
    · exact (hB1.setCell (by simp) _).setCell (by simp) _
end Go.Proofs.Ytdpmbanfaigmcaa

/- vouchref11.Check: walked. -/
set_option linter.unusedVariables false
set_option linter.unusedSimpArgs false
namespace Go.Proofs.Ytdpmbanfaigmcaa
open Go.RowKit

theorem inR_true {n i : Int} (h : 0 ≤ i) (h2 : i < n) : inR n i = true := by simp [inR, h, h2]
theorem inR_false {n i : Int} (h : i < 0 ∨ n ≤ i) : inR n i = false := by simp [inR]; omega
set_option maxRecDepth 100000 in
set_option maxHeartbeats 4000000 in
theorem rcheck_any (w : World) (ok : Nat → Prop) (l : List St) (sa : Int) (A : Option Addr) (c : Nat) (ha : StsAt w ok l A c) (hok : ∀ b, ok b → b < w.heap.size) :
    Calls Try.prog 24 #[nfaV l sa A c] w fun e w' => e = .returned (.int .i64 (mcheck l sa)) ∧ Below w.heap.size w w' := by
  have hlen := ha.len
  by_cases hbad : ((l.length : Int) < 1 ∨ 4096 < (l.length : Int)) ∨ sa < 0 ∨ (l.length : Int) ≤ sa
  · have hres : mcheck l sa = 110 := by
      rw [mcheck, if_neg]
      rintro ⟨h1, h2⟩
      simp [inR] at h2
      omega
    have Hres := Lib.hid hres; clear hres
    have fin : Below w.heap.size w (w.alloc (.cells #[.slice A l.length c, .int .i64 sa] 35)) := (Below.refl _ _).alloc (Nat.le_refl _) _
    go_enter Try.func24, Try.ntmps24
    by_cases h1 : (l.length : Int) < 1
    · clear hbad
      go_wp2_with fail
      go_ret
      exact ⟨by rw [Hres.out]; rfl, fin⟩
    by_cases h2 : 4096 < (l.length : Int)
    · clear hbad
      go_wp2_with fail
      go_ret
      exact ⟨by rw [Hres.out]; rfl, fin⟩
    by_cases h3 : sa < 0
    · clear hbad
      go_wp2_with fail
      go_ret
      exact ⟨by rw [Hres.out]; rfl, fin⟩
    · have h4 : (l.length : Int) ≤ sa := by omega
      clear hbad
      go_wp2_with fail
      go_ret
      exact ⟨by rw [Hres.out]; rfl, fin⟩
  have h1 : 1 ≤ (l.length : Int) := by omega
  have h2 : (l.length : Int) ≤ 4096 := by omega
  have h3 : 0 ≤ sa := by omega
  have h4 : sa < (l.length : Int) := by omega
  clear hbad
  have hres : mcheck l sa = if l.all (okSt l.length) then 0 else 110 := by rw [mcheck, if_pos ⟨by omega, inR_true h3 h4⟩]
  have Hres := Lib.hid hres; clear hres
  go_enter Try.func24, Try.ntmps24
  go_wp2_with fail
  generalize hW : w.alloc _ = W0
  have hB0 : Below w.heap.size w W0 := by subst hW; exact ((Below.refl _ _).alloc (Nat.le_refl _) _)
  have hsz : w.heap.size < W0.heap.size := by subst hW; simp
  have p0 : W0.cell? ⟨w.heap.size, 0, none⟩ = some (.slice A l.length c) := by subst hW; simp [go_sem]
  clear hW h1 h3 h4
  go_loopg [4] (l.length) (fun n i wr => ∃ j : Nat, i = .int .i64 j ∧ j + n = l.length ∧ (l.drop j).all (okSt l.length) = l.all (okSt l.length) ∧ Below w.heap.size w wr ∧ w.heap.size < wr.heap.size ∧ wr.cell? ⟨w.heap.size, 0, none⟩ = some (.slice A l.length c))
  case atStart => exact ⟨0, rfl, by omega, rfl, hB0, hsz, p0⟩
  case round =>
    obtain ⟨j, rfl, hj, hm, hB, hz, hq⟩ := hrel
    have Hm := Lib.hid hm; clear hm
    clear hsz p0 hB0
    by_cases hlt : j < l.length
    · obtain ⟨b, o, rfl, hb, hcell⟩ := ha.at_ (by omega)
      obtain ⟨f0, f1, f2, f3, f4, f5, f6⟩ := (hcell j hlt).mono (w' := wr) (fun o => hB.cell (p := ⟨b, o, none⟩) (hok b hb))
      have Hd := Lib.hid (drop_cons hlt)
      clear hcell
      generalize l[j] = s at *
      have hbz := hok b hb
      have fin : okSt l.length s = false → mcheck l sa = 110 := fun h => by
        rw [Hres.out, ← Hm.out, Hd.out, List.all_cons, h]; rfl
      have go : okSt l.length s = true → (l.drop (j + 1)).all (okSt l.length) = l.all (okSt l.length) := fun h => by
        rw [← Hm.out, Hd.out, List.all_cons, h, Bool.true_and]
      have Fin := Lib.hid fin; have Go := Lib.hid go; clear fin go
      obtain ⟨k, s0, s1, s2, s3, nx, ot⟩ := s
      simp only at f0 f1 f2 f3 f4 f5 f6
      have q1 : (wr.alloc (.cells #[.int .i64 k, .int .u64 s0, .int .u64 s1, .int .u64 s2, .int .u64 s3, .int .i64 nx, .int .i64 ot] 47)).cell? ⟨w.heap.size, 0, none⟩ = some (.slice (some ⟨b, o, none⟩) l.length c) := by
        rw [World.cell?_alloc_lt _ _ _ hz]; exact hq
      have hB1 := hB.alloc (by omega : w.heap.size ≤ wr.heap.size) (.cells #[.int .i64 k, .int .u64 s0, .int .u64 s1, .int .u64 s2, .int .u64 s3, .int .i64 nx, .int .i64 ot] 47)
      by_cases c1 : k < 1
      · have hg := Lib.hid (Fin.out (by simp only [okSt]; rw [if_neg (by omega), if_neg (by omega), if_neg (by omega)])); clear Go Fin
        go_wp2_with fail
        go_ret
        exact ⟨by rw [hg.out]; rfl, hB1⟩
      by_cases c2 : 5 < k
      · have hg := Lib.hid (Fin.out (by simp only [okSt]; rw [if_neg (by omega), if_neg (by omega), if_neg (by omega)])); clear Go Fin
        go_wp2_with fail
        go_ret
        exact ⟨by rw [hg.out]; rfl, hB1⟩
      by_cases c3 : k = 5
      · subst c3
        have hg := Lib.hid (Go.out (by simp [okSt])); clear Go Fin
        go_wp2_with fail
        go_roundg (gk - 1)
        case measure => omega
        case rel => exact ⟨j + 1, by go_num, by omega, hg.out, hB1, by simp; omega, q1⟩
      have b5 : (k != 5) = true := by simp; omega
      by_cases c4 : nx < 0
      · have hg := Lib.hid (Fin.out (by
          simp only [okSt, inR_false (.inl c4 : nx < 0 ∨ (l.length : Int) ≤ nx), Bool.false_and]; rw [if_neg c3]; split
          · rfl
          · split <;> rfl)); clear Go Fin c3
        go_wp2_with fail
        go_ret
        exact ⟨by rw [hg.out]; rfl, hB1⟩
      by_cases c5 : (l.length : Int) ≤ nx
      · have hg := Lib.hid (Fin.out (by
          simp only [okSt, inR_false (.inr c5 : nx < 0 ∨ (l.length : Int) ≤ nx), Bool.false_and]; rw [if_neg c3]; split
          · rfl
          · split <;> rfl)); clear Go Fin c3
        go_wp2_with fail
        go_ret
        exact ⟨by rw [hg.out]; rfl, hB1⟩
      have hnx : inR l.length nx = true := inR_true (by omega) (by omega)
      by_cases c6 : k = 2
      · subst c6
        have hstep : okSt l.length ⟨2, s0, s1, s2, s3, nx, ot⟩ = inR l.length ot := by simp [okSt, hnx]
        clear c3 hnx
        by_cases c7 : ot < 0
        · have hg := Lib.hid (Fin.out (by rw [hstep, inR_false (.inl c7)])); clear Go Fin hstep
          go_wp2_with fail
          go_ret
          exact ⟨by rw [hg.out]; rfl, hB1⟩
        by_cases c8 : (l.length : Int) ≤ ot
        · have hg := Lib.hid (Fin.out (by rw [hstep, inR_false (.inr c8)])); clear Go Fin hstep
          go_wp2_with fail
          go_ret
          exact ⟨by rw [hg.out]; rfl, hB1⟩
        · have hg := Lib.hid (Go.out (by rw [hstep, inR_true (by omega) (by omega)])); clear Go Fin hstep
          go_wp2_with fail
          go_roundg (gk - 1)
          case measure => omega
          case rel => exact ⟨j + 1, by go_num, by omega, hg.out, hB1, by simp; omega, q1⟩
      · have b2 : (k == 2) = false := by simp; omega
        have hg := Lib.hid (Go.out (by simp only [okSt, hnx]; rw [if_neg c3, if_pos (by omega)])); clear Go Fin c3 c6 hnx
        go_wp2_with fail
        go_roundg (gk - 1)
        case measure => omega
        case rel => exact ⟨j + 1, by go_num, by omega, hg.out, hB1, by simp; omega, q1⟩
    · have hg : l.all (okSt l.length) = true := by rw [← Hm.out, List.drop_of_length_le (by omega)]; rfl
      have hg2 := Lib.hid (by rw [Hres.out, hg]; rfl : mcheck l sa = 0); clear hg
      have i1 : (l.length : Int) ≤ (j : Int) := by omega
      go_wp2_with fail
      go_ret
      exact ⟨by rw [hg2.out]; rfl, hB⟩
end Go.Proofs.Ytdpmbanfaigmcaa

