/- How many states a tree lays: plain. -/
import Derived.Test.YtdpmbanfaigmcaaVLayS
set_option linter.unusedVariables false
set_option linter.unusedSimpArgs false
namespace Go.Proofs.Ytdpmbanfaigmcaa
open Go.RowKit

/-- A way of laying that lays n states, whatever lies there. -/
def LaysN (p : LF) (n : Nat) : Prop := ∀ to l, (p to l).2.length = l.length + n
theorem optF_len {p : LF} {n : Nat} (hp : LaysN p n) (to : Int) : ∀ m t l, (optF p to m t l).2.length = l.length + m * (n + 1)
  | 0, t, l => by simp [optF]
  | m + 1, t, l => by
    rw [optF, optF_len hp to m, List.length_append, hp, Nat.succ_mul]
    simp only [List.length_cons, List.length_nil]
    omega
theorem minF_len {p : LF} {n : Nat} (hp : LaysN p n) : ∀ m t l, (minF p m t l).2.length = l.length + m * n
  | 0, t, l => by simp [minF]
  | m + 1, t, l => by
    rw [minF]
    split
    · rename_i h
      rw [hp] at h
      have : n = 0 := by omega
      subst this
      rw [hp]; simp
    · rw [minF_len hp m, hp, Nat.succ_mul]
      omega
theorem starF_len {p : LF} {n : Nat} (hp : LaysN p n) (to : Int) (l : List St) : (starF p to l).2.length = l.length + (n + 1) := by
  simp only [starF, setNx, List.length_modify, hp _ _, List.length_append, List.length_cons, List.length_nil]
  omega
theorem countL_sum : ∀ (ps : List T) (s : Int), (∀ p ∈ ps, 0 ≤ countF p) → 0 ≤ s → countL ps s ≤ 4096 → s ≤ countL ps s ∧ (∀ p ∈ ps, countF p ≤ 4096) ∧ countL ps s = s + (ps.map countF).sum
  | [], s, _, h0, h => by rw [countL] at *; simp
  | p :: ps, s, hp, h0, h => by
    rw [countL] at h ⊢
    have h1 := hp p (List.mem_cons_self ..)
    obtain ⟨a, b, c⟩ := countL_sum ps _ (fun q hq => hp q (List.mem_cons_of_mem _ hq)) (by omega) h
    refine ⟨by omega, ?_, ?_⟩
    · intro q hq
      cases hq with
      | head => omega
      | tail _ hq => exact b q hq
    · rw [c, List.map_cons, List.sum_cons]; omega
theorem rowF_len : ∀ (ps : List T), (∀ p ∈ ps, 0 ≤ countF p) → (∀ p ∈ ps, LaysN (layF p) (countF p).toNat) → ∀ to l, ((rowF ps to l).2.length : Int) = l.length + (ps.map countF).sum
  | [], _, _, to, l => by simp [rowF]
  | p :: ps, h0, h, to, l => by
    have ih := rowF_len ps (fun q hq => h0 q (List.mem_cons_of_mem _ hq)) (fun q hq => h q (List.mem_cons_of_mem _ hq)) to l
    have h1 := h p (List.mem_cons_self ..) (rowF ps to l).1 (rowF ps to l).2
    have h2 := h0 p (List.mem_cons_self ..)
    rw [rowF, List.map_cons, List.sum_cons]
    omega
theorem begF_len2 : ∀ (ps : List T), (∀ p ∈ ps, 0 ≤ countF p) → (∀ p ∈ ps, LaysN (layF p) (countF p).toNat) → ∀ to l, ((begF ps to l).2.length : Int) = l.length + (ps.map countF).sum
  | [], _, _, to, l => by simp [begF]
  | p :: ps, h0, h, to, l => by
    have h1 := h p (List.mem_cons_self ..) to l
    have ih := begF_len2 ps (fun q hq => h0 q (List.mem_cons_of_mem _ hq)) (fun q hq => h q (List.mem_cons_of_mem _ hq)) to (layF p to l).2
    have h2 := h0 p (List.mem_cons_self ..)
    rw [begF, List.map_cons, List.sum_cons]
    simp only
    omega
theorem headF_eq : ∀ (ps : List T) (h : ps.length = 1), ∃ p, ps = [p] ∧ headF ps = layF p
  | [p], _ => ⟨p, rfl, by funext to l; rw [headF]⟩

theorem lay_len (t : T) : rightF t = true → countF t ≤ 4096 → LaysN (layF t) (countF t).toNat := by
  induction t using T.ind with
  | h t ih =>
    intro hr hc to l
    have h0 : ∀ p ∈ t.ps, 0 ≤ countF p := fun p hp => (countF_bd p (right_parts hr p hp)).1
    have hlb := countL_bd t.ps 0 (fun p hp => countF_bd p (right_parts hr p hp)) (by omega) (by omega)
    rw [countF_eq] at hc ⊢
    rw [layF_eq]
    rcases right_cases hr with ⟨hk, h⟩ | ⟨hk, h⟩ | ⟨hk, h⟩ | ⟨hk, h⟩ | ⟨hk, h⟩ | ⟨hk, h⟩ | ⟨hk, h⟩
    · simp [hk]
    · simp [hk]
    · simp [hk]
    · simp [hk]
    · simp only [hk] at hc ⊢
      simp only [countK] at hc ⊢
      simp at hc ⊢
      obtain ⟨_, h2, h3⟩ := countL_sum t.ps 0 h0 (by omega) (by omega)
      have := rowF_len t.ps h0 (fun p hp => ih p hp (right_parts hr p hp) (h2 p hp)) to l
      omega
    · simp only [hk] at hc ⊢
      simp only [countK] at hc ⊢
      simp at hc ⊢
      obtain ⟨_, h2, h3⟩ := countL_sum t.ps 0 h0 (by omega) (by omega)
      have := begF_len2 t.ps h0 (fun p hp => ih p hp (right_parts hr p hp) (h2 p hp)) to l
      rw [splitsF_len, begF_len]
      omega
    · obtain ⟨p, hp, hh⟩ := headF_eq t.ps h.1
      have hcl : countL t.ps 0 = min 4097 (countF p) := by rw [hp]; simp [countL]
      have hp0 := countF_bd p (right_parts hr p (by rw [hp]; exact List.mem_cons_self ..))
      simp only [hk] at hc ⊢
      simp only [countK] at hc ⊢
      rw [hh]
      rw [hcl] at hc ⊢
      simp only [show min 4097 (countF p) = countF p by omega] at hc ⊢
      simp only [if_true, if_false, show ¬ ((6 : Int) = 0) by omega, show ¬ ((6 : Int) = 1) by omega, show ¬ ((6 : Int) = 2) by omega, show ¬ ((6 : Int) = 3) by omega, show ¬ ((6 : Int) = 4) by omega, show ¬ ((6 : Int) = 5) by omega, or_self] at hc ⊢
      unfold repF
      simp only
      by_cases hmx : t.mx < 0
      · simp only [if_pos hmx] at hc ⊢
        have hb := mul_bd (a := countF p) (b := t.mn + 1) (A := 4097) (B := 256) hp0.1 (by omega) hp0.2 (by omega)
        have hle : countF p ≤ countF p * (t.mn + 1) := by
          have := Int.mul_le_mul_of_nonneg_left (show (1 : Int) ≤ t.mn + 1 by omega) hp0.1
          omega
        have hl := ih p (by rw [hp]; exact List.mem_cons_self ..) (right_parts hr p (by rw [hp]; exact List.mem_cons_self ..)) (by omega)
        rw [minF_len hl, starF_len hl]
        obtain ⟨a, ha⟩ := Int.eq_ofNat_of_zero_le hp0.1
        obtain ⟨m, hm⟩ := Int.eq_ofNat_of_zero_le (show 0 ≤ t.mn by omega)
        rw [ha, hm] at hc ⊢
        simp only [Int.toNat_natCast]
        have e : ((a : Int) * ((m : Int) + 1) + 1) = ((a * (m + 1) + 1 : Nat) : Int) := by push_cast; rfl
        rw [e] at hc ⊢
        rw [show min (4097 : Int) ((a * (m + 1) + 1 : Nat) : Int) = ((a * (m + 1) + 1 : Nat) : Int) by omega, Int.toNat_natCast, Nat.mul_succ, Nat.mul_comm m a]
        omega
      · simp only [if_neg hmx] at hc ⊢
        by_cases hz : t.mx = 0
        · have hz2 : t.mn = 0 := by omega
          simp [hz, hz2, optF, minF]; try omega
        · have hb := mul_bd (a := countF p) (b := t.mx) (A := 4097) (B := 255) hp0.1 (by omega) hp0.2 (by omega)
          have hle : countF p ≤ countF p * t.mx := by
            have := Int.mul_le_mul_of_nonneg_left (show (1 : Int) ≤ t.mx by omega) hp0.1
            omega
          have hl := ih p (by rw [hp]; exact List.mem_cons_self ..) (right_parts hr p (by rw [hp]; exact List.mem_cons_self ..)) (by omega)
          rw [minF_len hl, optF_len hl]
          obtain ⟨a, ha⟩ := Int.eq_ofNat_of_zero_le hp0.1
          obtain ⟨m, hm⟩ := Int.eq_ofNat_of_zero_le (show 0 ≤ t.mn by omega)
          obtain ⟨d, hd⟩ := Int.eq_ofNat_of_zero_le (show 0 ≤ t.mx - t.mn by omega)
          have hx : t.mx = (m : Int) + d := by omega
          rw [hd]
          clear hb hle hd
          rw [hx] at hc ⊢
          rw [ha, hm] at hc ⊢
          simp only [Int.toNat_natCast]
          have e : ((a : Int) * ((m : Int) + (d : Int)) + ((m : Int) + (d : Int)) - (m : Int)) = ((a * (m + d) + d : Nat) : Int) := by push_cast; omega
          rw [e] at hc ⊢
          rw [show min (4097 : Int) ((a * (m + d) + d : Nat) : Int) = ((a * (m + d) + d : Nat) : Int) by omega, Int.toNat_natCast, Nat.mul_add, Nat.mul_succ, Nat.mul_comm m a, Nat.mul_comm d a]
          simp only [Nat.mul_add, Nat.mul_succ, Nat.mul_comm m a, Nat.mul_comm d a] at hc ⊢
          omega
end Go.Proofs.Ytdpmbanfaigmcaa
