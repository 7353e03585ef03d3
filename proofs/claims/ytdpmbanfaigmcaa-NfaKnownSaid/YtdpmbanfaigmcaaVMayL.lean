/- What is laid is a right machine: plain. -/
import Derived.Test.YtdpmbanfaigmcaaVMake
import Derived.Test.YtdpmbanfaigmcaaVCheckN
set_option linter.unusedVariables false
set_option linter.unusedSimpArgs false
namespace Go.Proofs.Ytdpmbanfaigmcaa
open Go.RowKit

/-- A state that is no end, among n. -/
structure OkS (n : Nat) (s : St) : Prop where
  k : s.k = 1 ∨ s.k = 2 ∨ s.k = 3 ∨ s.k = 4
  nx : 0 ≤ s.nx ∧ s.nx < n
  ot : (s.k = 2 → 0 ≤ s.ot ∧ s.ot < n) ∧ (s.k ≠ 2 → s.ot = 0)
  set : s.k ≠ 1 → s.s0 = 0 ∧ s.s1 = 0 ∧ s.s2 = 0 ∧ s.s3 = 0
theorem OkS.le {n m : Nat} {s : St} (h : OkS n s) (hnm : n ≤ m) : OkS m s := ⟨h.k, by have := h.nx; omega, ⟨fun e => by have := h.ot.1 e; omega, h.ot.2⟩, h.set⟩
/-- The end first, then right states. -/
structure Inv (l : List St) : Prop where
  zero : l[0]? = some ⟨5, 0, 0, 0, 0, 0, 0⟩
  rest : ∀ (i : Nat) (s : St), l[i]? = some s → i ≠ 0 → OkS l.length s
theorem Inv.pos {l : List St} (h : Inv l) : 0 < l.length := (List.getElem?_eq_some_iff.1 h.zero).1
theorem Inv.push {l : List St} (h : Inv l) {s : St} (hs : OkS (l.length + 1) s) : Inv (l ++ [s]) := by
  have hp := h.pos
  refine ⟨by rw [List.getElem?_append_left hp]; exact h.zero, fun i x hi h0 => ?_⟩
  rw [List.length_append]
  rcases Nat.lt_or_ge i l.length with hl | hl
  · rw [List.getElem?_append_left hl] at hi
    exact (h.rest i x hi h0).le (by simp)
  · rw [List.getElem?_append_right hl] at hi
    have : x = s := by
      have h1 := (List.getElem?_eq_some_iff.1 hi).1
      simp at h1
      rw [show i - l.length = 0 by omega] at hi
      simpa using hi.symm
    subst this
    exact hs
/-- A way of laying that keeps it right. -/
def Pres (p : LF) : Prop := ∀ (to : Int) (l : List St), Inv l → 0 ≤ to → to < l.length → Inv (p to l).2 ∧ 0 ≤ (p to l).1 ∧ (p to l).1 < (p to l).2.length ∧ l.length ≤ (p to l).2.length
theorem push_pres {to : Int} {l : List St} (h : Inv l) (s : St) (hs : OkS (l.length + 1) s) : Inv (l ++ [s]) ∧ 0 ≤ (l.length : Int) ∧ (l.length : Int) < (l ++ [s]).length ∧ l.length ≤ (l ++ [s]).length :=
  ⟨h.push hs, by omega, by simp only [List.length_append, List.length_cons, List.length_nil]; omega, by simp⟩
theorem splitS_ok {n : Nat} {b to : Int} (h1 : 0 ≤ b ∧ b < n) (h2 : 0 ≤ to ∧ to < n) : OkS n (splitS b to) :=
  ⟨.inr (.inl rfl), h1, ⟨fun _ => h2, fun e => absurd rfl e⟩, fun _ => ⟨rfl, rfl, rfl, rfl⟩⟩
theorem splits_pres : ∀ (bs : List Int) (l : List St), bs ≠ [] → Inv l → (∀ b ∈ bs, 0 ≤ b ∧ b < l.length) → Inv (splitsF bs l).2 ∧ 0 ≤ (splitsF bs l).1 ∧ (splitsF bs l).1 < (splitsF bs l).2.length ∧ l.length ≤ (splitsF bs l).2.length
  | [], l, h, _, _ => absurd rfl h
  | [x], l, _, hI, hb => by
    have := hb x (List.mem_cons_self ..)
    rw [splitsF]; exact ⟨hI, this.1, this.2, Nat.le_refl _⟩
  | a :: b :: bs, l, _, hI, hb => by
    obtain ⟨h1, h2, h3, h4⟩ := splits_pres (b :: bs) l (by simp) hI (fun x hx => hb x (List.mem_cons_of_mem _ hx))
    have ha := hb a (List.mem_cons_self ..)
    rw [splitsF]
    · obtain ⟨g1, g2, g3, g4⟩ := push_pres (to := 0) h1 (splitS a (splitsF (b :: bs) l).1) (splitS_ok ⟨ha.1, by omega⟩ ⟨h2, by omega⟩)
      exact ⟨g1, g2, g3, by simp only at g4 ⊢; omega⟩
    · simp
theorem opt_pres {p : LF} (hp : Pres p) {to : Int} (h0 : 0 ≤ to) : ∀ (n : Nat) (t : Int) (l : List St), Inv l → to < l.length → 0 ≤ t → t < l.length → Inv (optF p to n t l).2 ∧ 0 ≤ (optF p to n t l).1 ∧ (optF p to n t l).1 < (optF p to n t l).2.length ∧ l.length ≤ (optF p to n t l).2.length
  | 0, t, l, hI, _, h1, h2 => by rw [optF]; exact ⟨hI, h1, h2, Nat.le_refl _⟩
  | n + 1, t, l, hI, ht, h1, h2 => by
    obtain ⟨a1, a2, a3, a4⟩ := hp t l hI h1 h2
    obtain ⟨g1, g2, g3, g4⟩ := push_pres (to := 0) a1 (splitS (p t l).1 to) (splitS_ok ⟨a2, by omega⟩ ⟨h0, by omega⟩)
    obtain ⟨b1, b2, b3, b4⟩ := opt_pres hp h0 n _ _ g1 (by omega) g2 g3
    rw [optF]
    exact ⟨b1, b2, b3, by omega⟩
theorem min_pres {p : LF} (hp : Pres p) : ∀ n, Pres (minF p n)
  | 0, t, l, hI, h1, h2 => by rw [minF]; exact ⟨hI, h1, h2, Nat.le_refl _⟩
  | n + 1, t, l, hI, h1, h2 => by
    obtain ⟨a1, a2, a3, a4⟩ := hp t l hI h1 h2
    rw [minF]
    split
    · exact ⟨a1, a2, a3, a4⟩
    · obtain ⟨b1, b2, b3, b4⟩ := min_pres hp n _ _ a1 a2 a3
      exact ⟨b1, b2, b3, by omega⟩
theorem setNx_inv {l : List St} (h : Inv l) {i : Nat} (hi : i ≠ 0) {x : Int} (hx : 0 ≤ x ∧ x < l.length) : Inv (setNx l i x) := by
  have hl : (setNx l i x).length = l.length := by simp [setNx]
  refine ⟨?_, fun j s hj h0 => ?_⟩
  · simp only [setNx, List.getElem?_modify, if_neg hi]
    rw [h.zero]; rfl
  · rw [hl]
    rw [setNx, List.getElem?_modify] at hj
    split at hj
    · obtain ⟨y, hy, rfl⟩ := Option.map_eq_some_iff.1 hj
      have := h.rest j y hy h0
      exact ⟨this.k, hx, this.ot, this.set⟩
    · exact h.rest j s (by simpa using hj) h0
theorem star_pres {p : LF} (hp : Pres p) : Pres (starF p) := fun to l hI h1 h2 => by
  have hpos := hI.pos
  obtain ⟨g1, g2, g3, g4⟩ := push_pres (to := 0) hI (splitS 0 to) (splitS_ok ⟨by omega, by omega⟩ ⟨h1, by omega⟩)
  obtain ⟨a1, a2, a3, a4⟩ := hp l.length _ g1 g2 g3
  simp only [List.length_append, List.length_cons, List.length_nil] at a4
  refine ⟨setNx_inv a1 (by omega) ⟨a2, a3⟩, by simp only [starF]; omega, ?_, ?_⟩
  · simp only [starF, setNx, List.length_modify]; omega
  · simp only [starF, setNx, List.length_modify]; omega
theorem rep_pres {p : LF} (hp : Pres p) (mn mx : Int) : Pres (repF mn mx p) := fun to l hI h1 h2 => by
  unfold repF
  simp only
  split
  · obtain ⟨a1, a2, a3, a4⟩ := star_pres hp to l hI h1 h2
    obtain ⟨b1, b2, b3, b4⟩ := min_pres hp mn.toNat _ _ a1 a2 a3
    exact ⟨b1, b2, b3, by omega⟩
  · obtain ⟨a1, a2, a3, a4⟩ := opt_pres hp h1 (mx - mn).toNat to l hI h2 h1 h2
    obtain ⟨b1, b2, b3, b4⟩ := min_pres hp mn.toNat _ _ a1 a2 a3
    exact ⟨b1, b2, b3, by omega⟩
theorem row_pres : ∀ (ps : List T), (∀ p ∈ ps, Pres (layF p)) → Pres (rowF ps)
  | [], _, to, l, hI, h1, h2 => by rw [rowF]; exact ⟨hI, h1, h2, Nat.le_refl _⟩
  | p :: ps, h, to, l, hI, h1, h2 => by
    obtain ⟨a1, a2, a3, a4⟩ := row_pres ps (fun q hq => h q (List.mem_cons_of_mem _ hq)) to l hI h1 h2
    obtain ⟨b1, b2, b3, b4⟩ := h p (List.mem_cons_self ..) _ _ a1 a2 a3
    rw [rowF]
    exact ⟨b1, b2, b3, by omega⟩
theorem beg_pres : ∀ (ps : List T), (∀ p ∈ ps, Pres (layF p)) → ∀ (to : Int) (l : List St), Inv l → 0 ≤ to → to < l.length → Inv (begF ps to l).2 ∧ (∀ b ∈ (begF ps to l).1, 0 ≤ b ∧ b < (begF ps to l).2.length) ∧ l.length ≤ (begF ps to l).2.length
  | [], _, to, l, hI, h1, h2 => by rw [begF]; exact ⟨hI, fun b hb => (List.not_mem_nil hb).elim, Nat.le_refl _⟩
  | p :: ps, h, to, l, hI, h1, h2 => by
    obtain ⟨a1, a2, a3, a4⟩ := h p (List.mem_cons_self ..) to l hI h1 h2
    obtain ⟨b1, b2, b3⟩ := beg_pres ps (fun q hq => h q (List.mem_cons_of_mem _ hq)) to _ a1 h1 (by omega)
    rw [begF]
    refine ⟨b1, fun b hb => ?_, by simp only; omega⟩
    cases hb with
    | head => simp only; omega
    | tail _ hb => exact b2 b hb
theorem lay_pres (t : T) : rightF t = true → Pres (layF t) := by
  induction t using T.ind with
  | h t ih =>
    intro hr to l hI h1 h2
    have hps : ∀ p ∈ t.ps, Pres (layF p) := fun p hp => ih p hp (right_parts hr p hp)
    rw [layF_eq]
    rcases right_cases hr with ⟨hk, h⟩ | ⟨hk, h⟩ | ⟨hk, h⟩ | ⟨hk, h⟩ | ⟨hk, h⟩ | ⟨hk, h⟩ | ⟨hk, h⟩
    · simp only [hk]; simp; exact ⟨hI, h1, h2⟩
    · simp only [hk, if_true]
      exact push_pres (to := 0) hI _ ⟨.inl rfl, ⟨h1, by simp only; omega⟩, ⟨fun e => by simp at e, fun _ => rfl⟩, fun e => absurd rfl e⟩
    · simp only [hk, show ¬ ((2 : Int) = 1) by omega, if_true, if_false]
      exact push_pres (to := 0) hI _ ⟨.inr (.inr (.inl rfl)), ⟨h1, by simp only; omega⟩, ⟨fun e => by simp at e, fun _ => rfl⟩, fun _ => ⟨rfl, rfl, rfl, rfl⟩⟩
    · simp only [hk, show ¬ ((3 : Int) = 1) by omega, show ¬ ((3 : Int) = 2) by omega, if_true, if_false]
      exact push_pres (to := 0) hI _ ⟨.inr (.inr (.inr rfl)), ⟨h1, by simp only; omega⟩, ⟨fun e => by simp at e, fun _ => rfl⟩, fun _ => ⟨rfl, rfl, rfl, rfl⟩⟩
    · simp only [hk, show ¬ ((4 : Int) = 1) by omega, show ¬ ((4 : Int) = 2) by omega, show ¬ ((4 : Int) = 3) by omega, if_true, if_false]
      exact row_pres t.ps hps to l hI h1 h2
    · simp only [hk, show ¬ ((5 : Int) = 1) by omega, show ¬ ((5 : Int) = 2) by omega, show ¬ ((5 : Int) = 3) by omega, show ¬ ((5 : Int) = 4) by omega, if_true, if_false]
      obtain ⟨b1, b2, b3⟩ := beg_pres t.ps hps to l hI h1 h2
      have hne : (begF t.ps to l).1 ≠ [] := fun e => by have := begF_len t.ps to l; rw [e] at this; simp at this; omega
      obtain ⟨c1, c2, c3, c4⟩ := splits_pres _ _ hne b1 b2
      exact ⟨c1, c2, c3, by omega⟩
    · simp only [hk, show ¬ ((6 : Int) = 1) by omega, show ¬ ((6 : Int) = 2) by omega, show ¬ ((6 : Int) = 3) by omega, show ¬ ((6 : Int) = 4) by omega, show ¬ ((6 : Int) = 5) by omega, if_true, if_false]
      obtain ⟨p, hp, hh⟩ := headF_eq t.ps h.1
      rw [hh]
      exact rep_pres (hps p (by rw [hp]; exact List.mem_cons_self ..)) _ _ to l hI h1 h2
theorem make_inv {t : T} (h : sizeE t = 0) : Inv (makeL t) ∧ 0 ≤ makeS t ∧ makeS t < (makeL t).length := by
  have hr := (sizeE_zero h).1
  rw [makeL, makeS, if_pos h, if_pos h]
  obtain ⟨a1, a2, a3, a4⟩ := lay_pres t hr 0 [⟨5, 0, 0, 0, 0, 0, 0⟩] ⟨rfl, fun i s hi h0 => by
    have := (List.getElem?_eq_some_iff.1 hi).1
    simp at this
    exact absurd this h0⟩ (by omega) (by simp)
  exact ⟨a1, a2, a3⟩
theorem make_check {t : T} (h : sizeE t = 0) : mcheck (makeL t) (makeS t) = 0 := by
  obtain ⟨hI, h1, h2⟩ := make_inv h
  have hle := makeL_le t
  rw [mcheck, if_pos ⟨by omega, by simp [inR]; omega⟩, if_pos]
  rw [List.all_eq_true]
  intro s hs
  obtain ⟨i, hi, rfl⟩ := List.getElem_of_mem hs
  by_cases h0 : i = 0
  · subst h0
    have hz := hI.zero
    rw [List.getElem?_eq_getElem hi] at hz
    simp only [Option.some.injEq] at hz
    rw [hz]; rfl
  · have ho := hI.rest i _ (List.getElem?_eq_getElem hi) h0
    have hnx : inR (makeL t).length (makeL t)[i].nx = true := by simp [inR]; exact ho.nx
    unfold okSt
    rcases ho.k with e | e | e | e
    · rw [if_neg (by omega), if_pos (by omega)]; exact hnx
    · have hot : inR (makeL t).length (makeL t)[i].ot = true := by simp [inR]; exact ho.ot.1 e
      rw [if_neg (by omega), if_neg (by omega), if_pos e, hnx, hot]; rfl
    · rw [if_neg (by omega), if_pos (by omega)]; exact hnx
    · rw [if_neg (by omega), if_pos (by omega)]; exact hnx
end Go.Proofs.Ytdpmbanfaigmcaa
