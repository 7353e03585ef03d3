/- low: walked; low trees lay few states. -/
import Derived.Test.YtdpmbanfaigmcaaVRef10
import Derived.Test.YtdpmbanfaigmcaaVLen
set_option linter.unusedVariables false
set_option linter.unusedSimpArgs false
namespace Go.Proofs.Ytdpmbanfaigmcaa
open Go.RowKit

def lowBad (t : T) : Prop := t.k = 6 ∧ (1 < t.mn ∨ 1 < t.mx ∨ (t.mn = 1 ∧ t.mx = -1))
instance (t : T) : Decidable (lowBad t) := by unfold lowBad; infer_instance
mutual
def lowF : T → Bool
  | .mk k _ _ _ _ mn mx ps => if k = 6 ∧ (1 < mn ∨ 1 < mx ∨ (mn = 1 ∧ mx = -1)) then false else lowL ps
def lowL : List T → Bool
  | [] => true
  | p :: ps => lowF p && lowL ps
end
theorem lowF_eq (t : T) : lowF t = if lowBad t then false else lowL t.ps := by cases t; rw [lowF]; rfl
theorem countL_low : ∀ (ps : List T) (s : Int), (∀ p ∈ ps, countF p ≤ 2 * nodesF p - 1) → countL ps s ≤ s + 2 * nodesL ps - ps.length
  | [], s, _ => by rw [countL, nodesL]; simp
  | p :: ps, s, h => by
    rw [countL, nodesL]
    have h1 := h p (List.mem_cons_self ..)
    have h2 := countL_low ps (min 4097 (s + countF p)) (fun q hq => h q (List.mem_cons_of_mem _ hq))
    simp only [List.length_cons]
    omega
theorem lowL_mem : ∀ {ps : List T}, lowL ps = true → ∀ p ∈ ps, lowF p = true
  | q :: ps, h, p, hp => by
    rw [lowL, Bool.and_eq_true] at h
    cases hp with
    | head => exact h.1
    | tail _ hp => exact lowL_mem h.2 p hp
theorem count_low (t : T) : rightF t = true → lowF t = true → countF t ≤ 2 * nodesF t - 1 := by
  induction t using T.ind with
  | h t ih =>
    intro hr hl
    rw [lowF_eq] at hl
    split at hl
    · cases hl
    rename_i hbad
    have hps : ∀ p ∈ t.ps, countF p ≤ 2 * nodesF p - 1 := fun p hp => ih p hp (right_parts hr p hp) (lowL_mem hl p hp)
    have hL := countL_low t.ps 0 hps
    have hn := nodesL_pos t.ps (fun q _ => nodesF_pos q)
    rw [countF_eq, nodesF_eq]
    unfold lowBad at hbad
    rcases right_cases hr with ⟨hk, h⟩ | ⟨hk, h⟩ | ⟨hk, h⟩ | ⟨hk, h⟩ | ⟨hk, h⟩ | ⟨hk, h⟩ | ⟨hk, h⟩
    · simp only [hk, if_true]; omega
    · simp only [hk]; simp; omega
    · simp only [hk]; simp; omega
    · simp only [hk]; simp; omega
    · simp only [hk, countK]; simp; omega
    · simp only [hk, countK]; simp; omega
    · have hbad : ¬ (1 < t.mn ∨ 1 < t.mx ∨ (t.mn = 1 ∧ t.mx = -1)) := fun e => hbad ⟨hk, e⟩
      simp only [hk]
      simp only [countK, if_neg (show ¬ ((6 : Int) = 0) by omega), if_neg (show ¬ ((6 : Int) = 1 ∨ (6 : Int) = 2 ∨ (6 : Int) = 3) by omega), if_neg (show ¬ ((6 : Int) = 5) by omega), if_true]
      have h1 : t.ps.length = 1 := h.1
      by_cases hm : t.mx < 0
      · have e1 : t.mn = 0 := by omega
        rw [if_pos hm, e1, Int.zero_add, Int.mul_one]
        omega
      · rw [if_neg hm]
        have e : t.mx = 0 ∨ t.mx = 1 := by omega
        rcases e with e | e
        · rw [e, Int.mul_zero]; omega
        · rw [e, Int.mul_one]; omega

set_option maxRecDepth 100000 in
set_option maxHeartbeats 2000000 in
theorem low_any (t : T) : ∀ (w : World) (ok : Nat → Prop) (A : Option Addr) (c : Nat), NodeAt w ok t A c → (∀ b, ok b → b < w.heap.size) →
    Calls Try.prog 26 #[nodeV t A c] w fun e w' => e = .returned (.bool (lowF t)) ∧ Below w.heap.size w w' := by
  induction t using T.ind with
  | h t ih =>
    intro w ok A c hN hok
    have hlen := hN.len
    by_cases hb : lowBad t
    · have hres : lowF t = false := by rw [lowF_eq, if_pos hb]
      have Hres := Lib.hid hres; clear hres
      obtain ⟨hk, hb | hb | ⟨hb, hb2⟩⟩ := hb
      · go_enter Try.func26, Try.ntmps26
        go_wp2_with fail
        go_ret
        exact ⟨by rw [Hres.out]; rfl, (Below.refl _ _).alloc (Nat.le_refl _) _⟩
      · by_cases hb1 : 1 < t.mn
        · go_enter Try.func26, Try.ntmps26
          go_wp2_with fail
          go_ret
          exact ⟨by rw [Hres.out]; rfl, (Below.refl _ _).alloc (Nat.le_refl _) _⟩
        · go_enter Try.func26, Try.ntmps26
          go_wp2_with fail
          go_ret
          exact ⟨by rw [Hres.out]; rfl, (Below.refl _ _).alloc (Nat.le_refl _) _⟩
      · go_enter Try.func26, Try.ntmps26
        go_wp2_with fail
        go_ret
        exact ⟨by rw [Hres.out]; rfl, (Below.refl _ _).alloc (Nat.le_refl _) _⟩
    have hloop : lowF t = lowL t.ps := by rw [lowF_eq, if_neg hb]
    have Hloop := Lib.hid hloop; clear hloop
    unfold lowBad at hb
    have hcase : (t.k ≠ 6) ∨ (t.k = 6 ∧ ¬ 1 < t.mn ∧ ¬ 1 < t.mx ∧ t.mn ≠ 1) ∨ (t.k = 6 ∧ ¬ 1 < t.mn ∧ ¬ 1 < t.mx ∧ t.mn = 1 ∧ t.mx ≠ -1) := by omega
    clear hb
    rcases hcase with h1 | ⟨h1, h2, h3, h4⟩ | ⟨h1, h2, h3, h4, h5⟩
    case' inl => have b1 : (t.k == 6) = false := by rw [beq_eq_false_iff_ne]; exact h1
    case' inr.inl => have b2 : (t.mn == 1) = false := by rw [beq_eq_false_iff_ne]; exact h4
    case' inr.inr => have b3 : (t.mx == -1) = false := by rw [beq_eq_false_iff_ne]; exact h5
    all_goals
      go_enter Try.func26, Try.ntmps26
      go_wp2_with fail
    all_goals try clear b1
    all_goals try clear b2
    all_goals try clear b3
    all_goals try clear h5
    all_goals try clear h4
    all_goals try clear h3
    all_goals try clear h2
    all_goals try clear h1
    all_goals
      generalize hW : w.alloc _ = W0
      have hB0 : Below w.heap.size w W0 := by subst hW; exact ((Below.refl _ _).alloc (Nat.le_refl _) _)
      have hsz : w.heap.size < W0.heap.size := by subst hW; simp
      have hc7 : W0.cell? ⟨w.heap.size, 7, none⟩ = some (.slice A t.ps.length c) := by subst hW; simp [go_sem]
      clear hW
      go_loopg [3] (t.ps.length) (fun n i wr => ∃ (j : Nat), i = .int .i64 j ∧ j + n = t.ps.length ∧ lowL (t.ps.drop j) = lowL t.ps ∧ Below w.heap.size w wr ∧ w.heap.size < wr.heap.size ∧ wr.cell? ⟨w.heap.size, 7, none⟩ = some (.slice A t.ps.length c))
      case atStart => exact ⟨0, rfl, by omega, rfl, hB0, hsz, hc7⟩
      case round =>
        obtain ⟨j, rfl, hj, hm, hB, hz, hc7'⟩ := hrel
        have Hm := Lib.hid hm; clear hm
        clear hB0 hc7 hsz
        by_cases hlt : j < t.ps.length
        · obtain ⟨b, o, rfl, hb, hcell⟩ := hN.part (by omega)
          obtain ⟨A', c', h8, hNj⟩ := hcell j hlt
          have Hih := Lib.hid (ih t.ps[j] (List.getElem_mem _)); clear ih
          have hNj' := hNj.later hB hok
          obtain ⟨f0, f1, f2, f3, f4, f5, f6, f7⟩ := h8.mono (w' := wr) (fun o => hB.cell (p := ⟨b, o, none⟩) (hok b hb))
          have Hd := Lib.hid (drop_cons hlt)
          clear hcell hN hNj
          generalize t.ps[j] = p at *
          go_wp2_with fail
          refine (Hih.out _ ok A' c' hNj' (fun b h => by have := hok b h; omega)).mono ?_
          rintro e w1 ⟨rfl, hb1⟩
          have hB1 : Below w.heap.size w w1 := hB.trans (hb1.mono (by omega))
          have hz1 := hb1.size
          have hc1 := (bcell hb1).1 _ 7 hz
          cases hp : lowF p with
          | true =>
            have Hp := Lib.hid hp; clear hp
            go_wp2_with fail
            go_roundg (gk - 1)
            case measure => omega
            case rel => exact ⟨j + 1, by go_num, by omega, by rw [← Hm.out, Hd.out, lowL, Hp.out, Bool.true_and], hB1, by omega, hc1.trans hc7'⟩
          | false =>
            have hres : lowF t = false := by rw [Hloop.out, ← Hm.out, Hd.out, lowL, hp, Bool.false_and]
            have Hres := Lib.hid hres; clear hres hp
            go_wp2_with fail
            go_ret
            exact ⟨by rw [Hres.out]; rfl, hB1⟩
        · have hres : lowF t = true := by rw [Hloop.out, ← Hm.out, List.drop_of_length_le (by omega), lowL]
          have Hres := Lib.hid hres; clear hres
          go_wp2_with fail
          go_ret
          exact ⟨by rw [Hres.out]; rfl, hB⟩
end Go.Proofs.Ytdpmbanfaigmcaa
