/- PatternSets holds: whatever comes in, the call of the law returns true, and what came in reads as it read; the listed variables tied to the text of the program. -/
import Derived.Test.YtdpmbanfaigmcaaDoorUBackA
import Derived.Test.YtdpmbanfaigmcaaDoorUBackB
import Derived.Test.YtdpmbanfaigmcaaDoorUBackC
import Derived.Deep.DeepCutAuto
import Derived.Deep.RegionWith
import Derived.WalkKit
import Derived.Deep.LoopGhost
import Derived.Lib.Hide
import Derived.Maps.AppendAt
import Derived.Deep.RegionLaw
import Derived.Deep.QuietTactic
import Derived.BigQuiet
import Derived.ProofKit
import Derived.OpenShut
import Derived.ChangeOld
import Derived.SizedLaws
import Derived.Deep.Slices
import Derived.Deep.Fields
import Derived.HandedShaped
import Derived.LaidMore
import Derived.LaidHandle
import Derived.MakeChecks
import Derived.Stop.LaidErr
import Derived.Lay
import Derived.Test.YtdpmbanfaigmcaaDoorCards
import Derived.Test.YtdpmbanfaigmcaaDoorTie
import Derived.SevenTiedAt
import Derived.ShutString
import Derived.Below
import Derived.Carry
/- What reads well is a tree that may be, plain. -/
set_option linter.unusedVariables false
set_option linter.unusedSimpArgs false
namespace Go.Proofs.YtdpmbanfaigmcaaDoor
open Go.RowKit

/-- A tree that may be, at most so many nodes. -/
def Fine (n : T) (m : Int) : Prop := rightF n = true ∧ Words n ∧ nodesF n ≤ m
def FineG (f : Bs → PT) : Prop := ∀ r n r1, f r = .ok (n, r1) → r1.length < r.length ∧ Fine n (2 * ((r.length : Int) - r1.length) - 1)
theorem Fine.mono {n : T} {m m' : Int} (h : Fine n m) (k : m ≤ m') : Fine n m' := ⟨h.1, h.2.1, Int.le_trans h.2.2 k⟩
theorem takeF_len {q r r' : Bs} (h : takeP q r = some r') : r'.length + q.length = r.length := takeP_len h
theorem items_fine : ∀ (k : Nat) {s s' : W4} {r r' : Bs}, Wok s → itemsP k s r = .ok (s', r') → Wok s' ∧ r'.length < r.length
  | 0, _, _, _, _, _, h => by simp [itemsP] at h
  | k + 1, s, s', r, r', hs, h => by
    rw [itemsP] at h
    cases hi : itemP s r with
    | error e => rw [hi] at h; simp at h
    | ok v =>
      obtain ⟨s1, r1⟩ := v
      rw [hi] at h
      have h1 := item_ok hs hi
      have h2 := item_lt hi
      simp only at h
      cases ht : takeP [93] r1 with
      | some r2 =>
        rw [ht] at h
        simp only [Except.ok.injEq, Prod.mk.injEq] at h
        obtain ⟨rfl, rfl⟩ := h
        have := takeP_len ht
        exact ⟨h1, by omega⟩
      | none =>
        rw [ht] at h
        have := items_fine k h1 h
        exact ⟨this.1, by omega⟩
theorem bracket_fine {s : W4} {r r' : Bs} (h : bracketP r = .ok (s, r')) : Wok s ∧ r'.length < r.length := by
  unfold bracketP at h
  cases ht : takeP [94] r with
  | none => rw [ht] at h; exact items_fine _ wok0 h
  | some r1 =>
    rw [ht] at h
    have := takeP_len ht
    simp only at h
    cases hi : itemsP (r1.length + 1) w40 r1 with
    | error e => rw [hi] at h; simp at h
    | ok v =>
      obtain ⟨s1, r2⟩ := v
      rw [hi] at h
      simp only [Except.ok.injEq, Prod.mk.injEq] at h
      obtain ⟨rfl, rfl⟩ := h
      have := items_fine _ wok0 hi
      exact ⟨not_ok this.1, by omega⟩
theorem fine_leaf (k : Int) (hk : k = 0 ∨ k = 2 ∨ k = 3) : Fine (.mk k 0 0 0 0 0 0 []) 1 := by
  refine ⟨?_, .mk _ wok0 (fun p hp => by cases hp), by rw [nodesF, nodesL]; omega⟩
  rcases hk with rfl | rfl | rfl <;> decide
theorem fine_set {s : W4} (h : Wok s) : Fine s.T 1 := by
  refine ⟨?_, .mk _ h (fun p hp => by cases hp), by unfold W4.T; rw [nodesF, nodesL]; omega⟩
  unfold W4.T
  rw [rightF]
  simp
theorem atom_fine {grp : Bs → PT} (hg : FineG grp) : FineG (atomP grp) := fun r n r1 h => by
  unfold atomP at h
  cases r with
  | nil => simp at h
  | cons c t =>
    simp only at h
    split at h
    · have := hg _ _ _ h
      exact ⟨by simp; omega, this.2.mono (by simp; omega)⟩
    split at h
    · simp only [Except.ok.injEq, Prod.mk.injEq] at h
      obtain ⟨rfl, rfl⟩ := h
      exact ⟨by simp, (fine_leaf 2 (by simp)).mono (by simp; omega)⟩
    split at h
    · simp only [Except.ok.injEq, Prod.mk.injEq] at h
      obtain ⟨rfl, rfl⟩ := h
      exact ⟨by simp, (fine_leaf 3 (by simp)).mono (by simp; omega)⟩
    split at h
    · cases hb : bracketP t with
      | error e => rw [hb] at h; simp at h
      | ok v =>
        obtain ⟨s, r2⟩ := v
        rw [hb] at h
        simp only [Except.ok.injEq, Prod.mk.injEq] at h
        obtain ⟨rfl, rfl⟩ := h
        have := bracket_fine hb
        exact ⟨by simp; omega, (fine_set this.1).mono (by simp; omega)⟩
    split at h
    · simp only [Except.ok.injEq, Prod.mk.injEq] at h
      obtain ⟨rfl, rfl⟩ := h
      exact ⟨by simp, (fine_set (span_spec wok0 0 256 (by omega)).1).mono (by simp; omega)⟩
    split at h
    · simp at h
    split at h
    · cases t with
      | nil => simp at h
      | cons x t' =>
        simp only [Except.ok.injEq, Prod.mk.injEq] at h
        obtain ⟨rfl, rfl⟩ := h
        exact ⟨by simp; omega, (fine_set (add_ok wok0 _ x.toNat_lt)).mono (by simp; omega)⟩
    · simp only [Except.ok.injEq, Prod.mk.injEq] at h
      obtain ⟨rfl, rfl⟩ := h
      exact ⟨by simp, (fine_set (add_ok wok0 _ c.toNat_lt)).mono (by simp; omega)⟩
theorem fine_rep {m n : Int} {x : T} {k : Int} (hx : Fine x k) (h0 : 0 ≤ m) (h1 : max m n ≤ 255) (h2 : n = -1 ∨ m ≤ n) : Fine (repT m n x) (k + 1) := by
  obtain ⟨a, b, c⟩ := hx
  refine ⟨?_, .mk _ wok0 (fun p hp => by rw [show (repT m n x).ps = [x] from rfl, List.mem_singleton] at hp; subst hp; exact b), by unfold repT; rw [nodesF, nodesL, nodesL]; omega⟩
  unfold repT
  rw [rightF, rightL, rightL, a]
  simp
  omega
theorem number_fine {r r' : Bs} {n : Int} (h : numberP r = .ok (n, r')) : 0 ≤ n ∧ n ≤ 255 := by
  unfold numberP at h
  have := digits_bd 4 0 0 r (by omega) (by omega) (by unfold lim10; omega)
  split at h
  · simp at h
  · rename_i hn
    simp only [Except.ok.injEq, Prod.mk.injEq] at h
    obtain ⟨rfl, rfl⟩ := h
    exact ⟨this.1, by omega⟩
theorem interval_fine {r r' : Bs} {m n : Int} (h : intervalP r = .ok (m, n, r')) : 0 ≤ m ∧ max m n ≤ 255 ∧ (n = -1 ∨ m ≤ n) := by
  unfold intervalP at h
  cases hn : numberP r with
  | error e => rw [hn] at h; simp at h
  | ok v =>
    obtain ⟨a, r1⟩ := v
    rw [hn] at h
    have ha := number_fine hn
    simp only at h
    cases h1 : takeP [125] r1 with
    | some r2 =>
      rw [h1] at h
      simp only [Except.ok.injEq, Prod.mk.injEq] at h
      obtain ⟨rfl, rfl, rfl⟩ := h
      omega
    | none =>
      rw [h1] at h
      simp only at h
      cases h2 : takeP [44, 125] r1 with
      | some r2 =>
        rw [h2] at h
        simp only [Except.ok.injEq, Prod.mk.injEq] at h
        obtain ⟨rfl, rfl, rfl⟩ := h
        omega
      | none =>
        rw [h2] at h
        simp only at h
        cases h3 : takeP [44] r1 with
        | none => rw [h3] at h; simp at h
        | some r2 =>
          rw [h3] at h
          simp only at h
          cases h4 : numberP r2 with
          | error e => rw [h4] at h; simp at h
          | ok v =>
            obtain ⟨b, r3⟩ := v
            rw [h4] at h
            have hb := number_fine h4
            simp only at h
            split at h
            · simp at h
            · cases h5 : takeP [125] r3 with
              | none => rw [h5] at h; simp at h
              | some r4 =>
                rw [h5] at h
                simp only [Except.ok.injEq, Prod.mk.injEq] at h
                obtain ⟨rfl, rfl, rfl⟩ := h
                omega
theorem suf_fine : ∀ (k : Nat) {n n' : T} {r r' : Bs} {m : Int}, Fine n m → sufP k n r = .ok (n', r') → r'.length ≤ r.length ∧ Fine n' (m + 2 * ((r.length : Int) - r'.length))
  | 0, n, n', r, r', m, hn, h => by
    rw [sufP] at h
    simp only [Except.ok.injEq, Prod.mk.injEq] at h
    obtain ⟨rfl, rfl⟩ := h
    exact ⟨Nat.le_refl _, hn.mono (by omega)⟩
  | k + 1, n, n', r, r', m, hn, h => by
    rw [sufP] at h
    have go : ∀ (a b : Int) (r1 : Bs), 0 ≤ a → max a b ≤ 255 → (b = -1 ∨ a ≤ b) → r1.length < r.length → sufP k (repT a b n) r1 = .ok (n', r') → r'.length ≤ r.length ∧ Fine n' (m + 2 * ((r.length : Int) - r'.length)) := fun a b r1 h0 h1 h2 hl hh => by
      have := suf_fine k (fine_rep hn h0 h1 h2) hh
      exact ⟨by omega, this.2.mono (by omega)⟩
    cases h1 : takeP [42] r with
    | some r1 =>
      rw [h1] at h
      have := takeP_len h1
      exact go 0 (-1) r1 (by omega) (by omega) (.inl rfl) (by simp at this; omega) h
    | none =>
      rw [h1] at h
      simp only at h
      cases h2 : takeP [43] r with
      | some r1 =>
        rw [h2] at h
        have := takeP_len h2
        exact go 1 (-1) r1 (by omega) (by omega) (.inl rfl) (by simp at this; omega) h
      | none =>
        rw [h2] at h
        simp only at h
        cases h3 : takeP [63] r with
        | some r1 =>
          rw [h3] at h
          have := takeP_len h3
          exact go 0 1 r1 (by omega) (by omega) (.inr (by omega)) (by simp at this; omega) h
        | none =>
          rw [h3] at h
          simp only at h
          cases h4 : takeP [123] r with
          | none =>
            rw [h4] at h
            simp only [Except.ok.injEq, Prod.mk.injEq] at h
            obtain ⟨rfl, rfl⟩ := h
            exact ⟨Nat.le_refl _, hn.mono (by omega)⟩
          | some r1 =>
            rw [h4] at h
            have := takeP_len h4
            simp only at h
            cases h5 : intervalP r1 with
            | error e => rw [h5] at h; simp at h
            | ok v =>
              obtain ⟨a, b, r2⟩ := v
              rw [h5] at h
              have h6 := interval_fine h5
              have h7 := interval_len h5
              exact go a b r2 h6.1 h6.2.1 h6.2.2 (by simp at this; omega) h
theorem piece_fine {grp : Bs → PT} (hg : FineG grp) : FineG (pieceP grp) := fun r n r1 h => by
  unfold pieceP at h
  cases ha : atomP grp r with
  | error e => rw [ha] at h; simp at h
  | ok v =>
    obtain ⟨n0, r0⟩ := v
    rw [ha] at h
    have h1 := atom_fine hg _ _ _ ha
    have h2 := suf_fine _ h1.2 h
    exact ⟨by omega, h2.2.mono (by omega)⟩
theorem nodesL_app (a b : List T) : nodesL (a ++ b) = nodesL a + nodesL b := by
  induction a with
  | nil => rw [List.nil_append]; rw [show nodesL [] = 0 by rw [nodesL]]; omega
  | cons p a ih => rw [List.cons_append, nodesL, nodesL, ih]; omega
theorem rightL_all : ∀ {l : List T}, (∀ p ∈ l, rightF p = true) → rightL l = true
  | [], _ => by rw [rightL]
  | p :: l, h => by rw [rightL, h p (by simp), rightL_all (fun q hq => h q (by simp [hq]))]; rfl
theorem pieces_fine {grp : Bs → PT} (hg : FineG grp) : ∀ (k : Nat) {l l' : List T} {r r' : Bs}, piecesP grp k l r = .ok (l', r') → r'.length ≤ r.length ∧ ∃ l2, l' = l ++ l2 ∧ (∀ p ∈ l2, rightF p = true ∧ Words p) ∧ nodesL l2 ≤ 2 * ((r.length : Int) - r'.length) - l2.length ∧ l2.length ≤ r.length - r'.length
  | 0, l, l', r, r', h => by
    rw [piecesP] at h
    simp only [Except.ok.injEq, Prod.mk.injEq] at h
    obtain ⟨rfl, rfl⟩ := h
    exact ⟨Nat.le_refl _, [], by simp, by simp, by rw [nodesL]; simp, by simp⟩
  | k + 1, l, l', r, r', h => by
    rw [piecesP] at h
    split at h
    · simp only [Except.ok.injEq, Prod.mk.injEq] at h
      obtain ⟨rfl, rfl⟩ := h
      exact ⟨Nat.le_refl _, [], by simp, by simp, by rw [nodesL]; simp, by simp⟩
    · cases hp : pieceP grp r with
      | error e => rw [hp] at h; simp at h
      | ok v =>
        obtain ⟨n, r1⟩ := v
        rw [hp] at h
        have h1 := piece_fine hg _ _ _ hp
        obtain ⟨h2, l2, rfl, h3, h4, h5⟩ := pieces_fine hg k h
        obtain ⟨g1, g2, g3, g4⟩ := h1
        refine ⟨by omega, n :: l2, by simp, fun p hp => ?_, by rw [nodesL]; simp only [List.length_cons]; omega, by simp only [List.length_cons]; omega⟩
        rcases List.mem_cons.1 hp with rfl | hp
        · exact ⟨g2, g3⟩
        · exact h3 p hp
theorem fine_join {k : Int} (hk : k = 4 ∨ k = 5) {l : List T} (h : ∀ p ∈ l, rightF p = true ∧ Words p) (h2 : 2 ≤ l.length) : Fine (.mk k 0 0 0 0 0 0 l) (1 + nodesL l) := by
  refine ⟨?_, .mk _ wok0 (fun p hp => (h p hp).2), by rw [nodesF]; omega⟩
  rw [rightF, rightL_all (fun p hp => (h p hp).1)]
  rcases hk with rfl | rfl <;> simp <;> omega
theorem row_fine {grp : Bs → PT} (hg : FineG grp) {r r' : Bs} {n : T} (h : rowP grp r = .ok (n, r')) : r'.length ≤ r.length ∧ Fine n (2 * ((r.length : Int) - r'.length) + 1) ∧ (r'.length < r.length → Fine n (2 * ((r.length : Int) - r'.length) - 1)) := by
  unfold rowP at h
  cases hp : piecesP grp (r.length + 1) [] r with
  | error e => rw [hp] at h; simp at h
  | ok v =>
    obtain ⟨l, r1⟩ := v
    rw [hp] at h
    simp only [Except.ok.injEq, Prod.mk.injEq] at h
    obtain ⟨rfl, rfl⟩ := h
    obtain ⟨h1, l2, h2, h3, h4, h5⟩ := pieces_fine hg _ hp
    rw [List.nil_append] at h2
    subst h2
    refine ⟨h1, ?_⟩
    match l, h3, h4, h5 with
    | [], _, _, _ => exact ⟨(fine_leaf 0 (by simp)).mono (by omega), fun hl => (fine_leaf 0 (by simp)).mono (by omega)⟩
    | [n], h3, h4, h5 =>
      rw [nodesL, nodesL] at h4
      simp only [List.length_cons, List.length_nil] at h4 h5
      have hF : Fine n (2 * ((r.length : Int) - r1.length) - 1) := ⟨(h3 n (by simp)).1, (h3 n (by simp)).2, by omega⟩
      exact ⟨hF.mono (by omega), fun _ => hF⟩
    | a :: b :: l, h3, h4, h5 =>
      have hF := fine_join (k := 4) (.inl rfl) h3 (by simp)
      simp only [List.length_cons] at h4 h5
      have hF' : Fine (joinT 4 (a :: b :: l)) (2 * ((r.length : Int) - r1.length) - 1) := hF.mono (by omega)
      exact ⟨hF'.mono (by omega), fun _ => hF'⟩
theorem alts_fine {grp : Bs → PT} (hg : FineG grp) : ∀ (k : Nat) {l l' : List T} {r r' : Bs} (C : Int), (∀ p ∈ l, rightF p = true ∧ Words p) → nodesL l ≤ 2 * C + 2 - l.length → (C = (l.length : Int) - 1 ∨ nodesL l ≤ 2 * C - l.length) → 1 ≤ l.length →
    altsP grp k l r = .ok (l', r') → r'.length ≤ r.length ∧ (∀ p ∈ l', rightF p = true ∧ Words p) ∧ 1 ≤ l'.length ∧ nodesL l' ≤ 2 * (C + ((r.length : Int) - r'.length)) + 2 - l'.length ∧ (C + ((r.length : Int) - r'.length) = (l'.length : Int) - 1 ∨ nodesL l' ≤ 2 * (C + ((r.length : Int) - r'.length)) - l'.length) ∧ (l'.length = l.length → r' = r ∧ l' = l)
  | 0, l, l', r, r', C, hl, h1, h2, h0, h => by
    rw [altsP] at h
    simp only [Except.ok.injEq, Prod.mk.injEq] at h
    obtain ⟨rfl, rfl⟩ := h
    exact ⟨Nat.le_refl _, hl, h0, by omega, by omega, fun _ => ⟨rfl, rfl⟩⟩
  | k + 1, l, l', r, r', C, hl, h1, h2, h0, h => by
    rw [altsP] at h
    cases ht : takeP [124] r with
    | none =>
      rw [ht] at h
      simp only [Except.ok.injEq, Prod.mk.injEq] at h
      obtain ⟨rfl, rfl⟩ := h
      exact ⟨Nat.le_refl _, hl, h0, by omega, by omega, fun _ => ⟨rfl, rfl⟩⟩
    | some r1 =>
      rw [ht] at h
      have hlen := takeP_len ht
      simp only [List.length_cons, List.length_nil] at hlen
      simp only at h
      cases hr : rowP grp r1 with
      | error e => rw [hr] at h; simp at h
      | ok v =>
        obtain ⟨n, r2⟩ := v
        rw [hr] at h
        obtain ⟨g1, g2, g3⟩ := row_fine hg hr
        have hN : nodesL (l ++ [n]) = nodesL l + nodesF n := by rw [nodesL_app, nodesL, nodesL]; omega
        have hlen2 : (l ++ [n]).length = l.length + 1 := by simp
        have hb : nodesF n ≤ 2 * ((r1.length : Int) - r2.length) + 1 := g2.2.2
        have hc : r2.length < r1.length → nodesF n ≤ 2 * ((r1.length : Int) - r2.length) - 1 := fun hh => (g3 hh).2.2
        have hdis : C + 1 + ((r1.length : Int) - r2.length) = ((l ++ [n]).length : Int) - 1 ∨ nodesL (l ++ [n]) ≤ 2 * (C + 1 + ((r1.length : Int) - r2.length)) - (l ++ [n]).length := by
          rw [hN, hlen2]
          by_cases hh : r2.length < r1.length
          · have := hc hh; omega
          · omega
        have := alts_fine hg k (C + 1 + ((r1.length : Int) - r2.length)) (l := l ++ [n]) (fun p hp => by
          rcases List.mem_append.1 hp with hp | hp
          · exact hl p hp
          · rw [List.mem_singleton] at hp; subst hp; exact ⟨g2.1, g2.2.1⟩) (by rw [hN, hlen2]; omega) (hdis) (by omega) h
        obtain ⟨e1, e2, e3, e4, e5, e6⟩ := this
        refine ⟨by omega, e2, e3, by omega, by omega, fun e => ?_⟩
        exfalso
        have : l.length + 1 ≤ l'.length := by
          have hmono : ∀ (k : Nat) (l l' : List T) (r r' : Bs), altsP grp k l r = .ok (l', r') → l.length ≤ l'.length := by
            intro k
            induction k with
            | zero =>
              intro l l' r r' hh
              rw [altsP] at hh
              simp only [Except.ok.injEq, Prod.mk.injEq] at hh
              obtain ⟨rfl, rfl⟩ := hh
              exact Nat.le_refl _
            | succ k ih =>
              intro l l' r r' hh
              rw [altsP] at hh
              split at hh
              · simp only [Except.ok.injEq, Prod.mk.injEq] at hh
                obtain ⟨rfl, rfl⟩ := hh
                exact Nat.le_refl _
              · split at hh
                · simp at hh
                · have := ih _ _ _ _ hh
                  simp at this
                  omega
          have := hmono _ _ _ _ _ h
          omega
        omega
theorem choice_fine {grp : Bs → PT} (hg : FineG grp) {r r' : Bs} {n : T} (h : choiceP grp r = .ok (n, r')) : r'.length ≤ r.length ∧ Fine n (2 * ((r.length : Int) - r'.length) + 1) ∧ (r'.length + 2 ≤ r.length → Fine n (2 * ((r.length : Int) - r'.length))) := by
  unfold choiceP at h
  cases hr : rowP grp r with
  | error e => rw [hr] at h; simp at h
  | ok v =>
    obtain ⟨n0, r1⟩ := v
    rw [hr] at h
    obtain ⟨g1, g2, g3⟩ := row_fine hg hr
    simp only at h
    cases ha : altsP grp (r1.length + 1) [n0] r1 with
    | error e => rw [ha] at h; simp at h
    | ok v =>
      obtain ⟨l, r2⟩ := v
      rw [ha] at h
      simp only [Except.ok.injEq, Prod.mk.injEq] at h
      obtain ⟨rfl, rfl⟩ := h
      have hb : nodesF n0 ≤ 2 * ((r.length : Int) - r1.length) + 1 := g2.2.2
      have hc : r1.length < r.length → nodesF n0 ≤ 2 * ((r.length : Int) - r1.length) - 1 := fun hh => (g3 hh).2.2
      have hN : nodesL [n0] = nodesF n0 := by rw [nodesL, nodesL]; omega
      have hdis : ((r.length : Int) - r1.length) = (([n0] : List T).length : Int) - 1 ∨ nodesL [n0] ≤ 2 * ((r.length : Int) - r1.length) - ([n0] : List T).length := by
        rw [hN]
        simp only [List.length_cons, List.length_nil]
        by_cases hh : r1.length < r.length
        · have := hc hh; omega
        · omega
      obtain ⟨e1, e2, e3, e4, e5, e6⟩ := alts_fine hg _ ((r.length : Int) - r1.length) (l := [n0]) (fun p hp => by rw [List.mem_singleton] at hp; subst hp; exact ⟨g2.1, g2.2.1⟩) (by rw [hN]; simp; omega) (hdis) (by simp) ha
      refine ⟨by omega, ?_⟩
      match l, e2, e3, e4, e5, e6 with
      | [n], e2, e3, e4, e5, e6 =>
        obtain ⟨rfl, q⟩ := e6 rfl
        simp only [List.cons.injEq, and_true] at q
        subst q
        exact ⟨g2, fun hh => (g3 (by omega)).mono (by omega)⟩
      | a :: b :: l, e2, e3, e4, e5, e6 =>
        have hF := fine_join (k := 5) (.inr rfl) e2 (by simp)
        simp only [List.length_cons] at e4 e5
        exact ⟨hF.mono (by omega), fun hh => hF.mono (by omega)⟩
theorem group_fine : ∀ d, FineG (groupP d)
  | 0 => fun r n r1 h => by simp [groupP] at h
  | d + 1 => fun r n r1 h => by
    rw [groupP] at h
    cases hc : choiceP (groupP d) r with
    | error e => rw [hc] at h; simp at h
    | ok v =>
      obtain ⟨n0, r0⟩ := v
      rw [hc] at h
      have h1 := choice_fine (group_fine d) hc
      simp only at h
      cases ht : takeP [41] r0 with
      | none => rw [ht] at h; simp at h
      | some r2 =>
        rw [ht] at h
        have := takeP_len ht
        simp only [List.length_cons, List.length_nil] at this
        simp only [Except.ok.injEq, Prod.mk.injEq] at h
        obtain ⟨rfl, rfl⟩ := h
        exact ⟨by omega, h1.2.1.mono (by omega)⟩
theorem parse_fine {s : Bs} {t : T} (h : parseP s = .ok t) : rightF t = true ∧ Words t ∧ nodesF t ≤ 2048 := by
  obtain ⟨h1, h2⟩ := parse_ok h
  have h3 := choice_fine (group_fine 64) h2
  obtain ⟨a, b, c⟩ := h3.2.1
  refine ⟨a, b, ?_⟩
  simp only [List.length_nil] at c h3
  by_cases hs : 2 ≤ s.length
  · have := (h3.2.2 (by omega)).2.2
    omega
  · omega
end Go.Proofs.YtdpmbanfaigmcaaDoor

/- vouchlaw10.works: walked. -/
set_option linter.unusedVariables false
set_option linter.unusedSimpArgs false
namespace Go.Proofs.YtdpmbanfaigmcaaDoor
open Go.RowKit

theorem TabIn.mono {B B' : Nat} {w : World} (h : TabIn B w) (k : B ≤ B') : TabIn B' w := ⟨h.1, fun g hg => Nat.lt_of_lt_of_le (h.2 g hg) k⟩
theorem TabIn.step {w w' : World} (h : TabIn w.heap.size w) (hb : Below w.heap.size w w') : TabIn w'.heap.size w' := (h.later hb).mono hb.size
def wt1 : T := .mk 4 0 0 0 0 0 0 [.mk 6 0 0 0 0 0 (-1) [.mk 4 0 0 0 0 0 0 [.mk 1 0 8589934592 0 0 0 0 [], .mk 1 0 17179869184 0 0 0 0 []]], .mk 1 0 60666413056 0 0 0 0 []]
theorem wq1 : parseP [40, 97, 98, 41, 42, 91, 93, 97, 45, 99, 93] = .ok wt1 := by kernel_rfl
theorem wq2 : printP wt1 = ([40, 97, 98, 41, 42, 91, 91, 46, 93, 46, 93, 97, 45, 99, 93], 0) := by kernel_rfl
theorem wq3 : parseP [97, 123, 51, 44, 50, 125] = .error 105 := by kernel_rfl
theorem wq4 : parseP [91, 98, 45, 97, 93] = .error 102 := by kernel_rfl
theorem wq5 : checkF (.mk 4 0 0 0 0 0 0 []) = 107 := by kernel_rfl
theorem parse_is {s : Bs} {w w' : World} {en : Ending} {t : T} (h : GPar s w en w') (hp : parseP s = .ok t) : Below w.heap.size w w' ∧ ∃ A c, en = .returned (.tuple #[nodeV t A c, .int .i64 0]) ∧ NodeAt w' (fun b => w.heap.size ≤ b ∧ b < w'.heap.size) t A c := by
  obtain ⟨hb, ⟨t', A, c, hp', he, hN⟩ | ⟨e, hp', _⟩⟩ := h
  · rw [hp] at hp'; cases hp'; exact ⟨hb, A, c, he, hN⟩
  · rw [hp] at hp'; cases hp'
theorem parse_no {s : Bs} {w w' : World} {en : Ending} {e : Int} (h : GPar s w en w') (hp : parseP s = .error e) : Below w.heap.size w w' ∧ e ≠ 0 ∧ en = .returned (.tuple #[nodeV none0 none 0, .int .i64 e]) := by
  obtain ⟨hb, ⟨t', A, c, hp', he, hN⟩ | ⟨e', hp', h1, h2⟩⟩ := h
  · rw [hp] at hp'; cases hp'
  · rw [hp] at hp'; cases hp'; exact ⟨hb, h1, h2⟩
theorem leaf_at (w : World) (t : T) (h : t.ps = []) {ok : Nat → Prop} : NodeAt w ok t none 0 := .mk t none 0 (fun _ => none) (fun _ => 0) (by rw [h]; exact Nat.le_refl _) (by rw [h]; simp) (fun e => absurd h e) (fun i p hp => by rw [h] at hp; simp at hp)
theorem wt1_at {w : World} {ok : Nat → Prop} {A : Option Addr} {c : Nat} (h : NodeAt w ok wt1 A c) : ∃ b o, A = some ⟨b, o, none⟩ ∧ ok b ∧ w.cell? ⟨b, o, none⟩ = some (.int .i64 6) ∧
    w.cell? ⟨b, o + 9, none⟩ = some (.int .u64 0) ∧ w.cell? ⟨b, o + 10, none⟩ = some (.int .u64 60666413056) ∧ w.cell? ⟨b, o + 11, none⟩ = some (.int .u64 0) ∧ w.cell? ⟨b, o + 12, none⟩ = some (.int .u64 0) := by
  obtain ⟨b, o, rfl, hb, hcell⟩ := h.part (show 0 < 2 by omega)
  obtain ⟨_, _, h0, _⟩ := hcell 0 (show 0 < 2 by omega)
  obtain ⟨_, _, h1, _⟩ := hcell 1 (show 1 < 2 by omega)
  exact ⟨b, o, rfl, hb, h0.f0, h1.f1, h1.f2, h1.f3, h1.f4⟩
set_option maxRecDepth 100000 in
set_option maxHeartbeats 4000000 in
theorem works10_any (w : World) (hM : MaxOk w) (hT : TabIn w.heap.size w) :
    Calls Tryd.prog 18 #[] w fun en w' => en = .returned (.bool true) ∧ Below w.heap.size w w' := by
  have HM := Lib.hid hM; have HT := Lib.hid hT
  clear hM hT
  go_enter Tryd.func18, Tryd.ntmps18
  go_wp2_with fail
  refine (parse_par [40, 97, 98, 41, 42, 91, 93, 97, 45, 99, 93] w HM.out (fun _ => brC) (fun _ => dotC)).mono ?_
  intro en w1 hG
  obtain ⟨hb1, A, c, rfl, hN⟩ := parse_is hG wq1
  have Hfine := Lib.hid (parse_fine wq1)
  have Hp := Lib.hid wq2
  have hk : wt1.k = 4 := rfl
  have hl : wt1.ps.length = 2 := rfl
  obtain ⟨b, o, rfl, hbb, q0, q1, q2, q3, q4⟩ := wt1_at hN
  have HN := Lib.hid hN
  have HM1 := Lib.hid (HM.out.later hb1); have HT1 := Lib.hid (HT.out.step hb1)
  have HB1 := Lib.hid hb1
  have hlt1 : b < w1.heap.size := hbb.2
  have hpr := Lib.hid (print_any wt1)
  have Hk := Lib.hid hk; have Hl := Lib.hid hl
  clear hG hN hb1 hk hl hbb
  generalize wt1 = t at *
  go_upto_region 2 with fail
  generalize hW : w1.alloc _ = W2
  have hb2 : Below w1.heap.size w1 W2 := by subst hW; exact (Below.refl _ _).alloc (Nat.le_refl _) _
  have h8 : At8 W2 w1.heap.size 0 t (some ⟨b, o, none⟩) c := by subst hW; constructor <;> simp [go_sem]
  clear hW
  have hlt2 : w1.heap.size < W2.heap.size := World.block_lt_of_cell? _ _ h8.f0
  have HN2 := Lib.hid (HN.out.later hb2 (fun b h => h.2))
  have HM2 := Lib.hid (HM1.out.later hb2); have HT2 := Lib.hid (HT1.out.step hb2); have HB2 := Lib.hid (HB1.out.step hb2)
  have HQ := Lib.hid (fun o' => hb2.cell (p := ⟨b, o', none⟩) hlt1)
  have H8 := Lib.hid h8
  obtain ⟨f0, f1, f2, f3, f4, f5, f6, f7⟩ := h8
  go_wp2_with fail
  refine (hpr.out W2 _ (some ⟨b, o, none⟩) c HN2.out (fun b h => by have := h.2; omega) (fun _ => Hfine.out.2.1) HT2.out).mono ?_
  rintro e w3 ⟨rfl, hb3⟩
  rw [Hp.out]
  have HM3 := Lib.hid (HM2.out.later hb3); have HB3 := Lib.hid (HB2.out.step hb3)
  have H83 := Lib.hid (H8.out.mono (fun o => hb3.cell (p := ⟨w1.heap.size, o, none⟩) hlt2))
  have hlt3 : w1.heap.size < w3.heap.size := by have := hb3.size; omega
  have HQ3 := Lib.hid (fun o' => (hb3.cell (p := ⟨b, o', none⟩) (by show b < _; omega)).trans (HQ.out o'))
  clear f0 f1 f2 f3 f4 f5 f6 f7 hb3 hb2 HN HN2 H8 HQ
  go_wp2_with fail
  refine (parse_par [97, 123, 51, 44, 50, 125] w3 HM3.out (fun _ => brC) (fun _ => dotC)).mono ?_
  intro en w4 hG
  obtain ⟨hb4, _, rfl⟩ := parse_no hG wq3
  have HM4 := Lib.hid (HM3.out.later hb4); have HB4 := Lib.hid (HB3.out.step hb4)
  have H84 := Lib.hid (H83.out.mono (fun o => hb4.cell (p := ⟨w1.heap.size, o, none⟩) hlt3))
  have HQ4 := Lib.hid (fun o' => (hb4.cell (p := ⟨b, o', none⟩) (by show b < _; omega)).trans (HQ3.out o'))
  have hlt4 : w1.heap.size < w4.heap.size := by have := hb4.size; omega
  clear hG hb4 H83 HQ3
  go_upto_region 4 with fail
  generalize hW : w4.alloc _ = W5
  have hb5 : Below w4.heap.size w4 W5 := by subst hW; exact (Below.refl _ _).alloc (Nat.le_refl _) _
  clear hW
  have HM5 := Lib.hid (HM4.out.later hb5); have HB5 := Lib.hid (HB4.out.step hb5)
  have H85 := Lib.hid (H84.out.mono (fun o => hb5.cell (p := ⟨w1.heap.size, o, none⟩) hlt4))
  have HQ5 := Lib.hid (fun o' => (hb5.cell (p := ⟨b, o', none⟩) (by show b < _; omega)).trans (HQ4.out o'))
  have hlt5 : w1.heap.size < W5.heap.size := by have := hb5.size; omega
  clear hb5 H84 HQ4
  go_wp2_with fail
  refine (parse_par [91, 98, 45, 97, 93] W5 HM5.out (fun _ => brC) (fun _ => dotC)).mono ?_
  intro en w6 hG
  obtain ⟨hb6, _, rfl⟩ := parse_no hG wq4
  have HB6 := Lib.hid (HB5.out.step hb6)
  have H86 := Lib.hid (H85.out.mono (fun o => hb6.cell (p := ⟨w1.heap.size, o, none⟩) hlt5))
  have HQ6 := Lib.hid (fun o' => (hb6.cell (p := ⟨b, o', none⟩) (by show b < _; omega)).trans (HQ5.out o'))
  have hlt6 : w1.heap.size < w6.heap.size := by have := hb6.size; omega
  clear hG hb6 H85 HQ5
  go_upto_region 5 with fail
  generalize hW : w6.alloc _ = W7
  have hb7 : Below w6.heap.size w6 W7 := by subst hW; exact (Below.refl _ _).alloc (Nat.le_refl _) _
  clear hW
  have HB7 := Lib.hid (HB6.out.step hb7)
  obtain ⟨f0, f1, f2, f3, f4, f5, f6, f7⟩ := H86.out.mono (fun o => hb7.cell (p := ⟨w1.heap.size, o, none⟩) hlt6)
  have HQ7 := fun o' => (hb7.cell (p := ⟨b, o', none⟩) (by show b < _; omega)).trans (HQ6.out o')
  have x0 := (HQ7 _).trans q0; have x1 := (HQ7 _).trans q1; have x2 := (HQ7 _).trans q2; have x3 := (HQ7 _).trans q3; have x4 := (HQ7 _).trans q4
  rw [Hk.out] at f0
  rw [Hl.out] at f7
  clear hb7 H86 HQ6 HQ7 q0 q1 q2 q3 q4 Hk Hl Hp Hfine hpr
  have h4 : eq4 0 60666413056 0 0 0 60666413056 0 0 = true := by rw [eq4_iff]; exact ⟨rfl, rfl, rfl, rfl⟩
  go_wp2_with fail
  refine (pcheck_any (.mk 4 0 0 0 0 0 0 []) W7 (fun _ => False) none 0 (leaf_at W7 _ rfl) (fun _ h => h.elim)).mono ?_
  rintro e w8 ⟨rfl, hb8⟩
  rw [wq5]
  have HB8 := Lib.hid (HB7.out.step hb8)
  clear hb8 f0 f1 f2 f3 f4 f5 f6 f7 x0 x1 x2 x3 x4
  go_wp2_with fail
  go_ret
  exact ⟨rfl, HB8.out⟩

/-- What stays true as a law's walk goes on. -/
structure Env (w0 w : World) : Prop where
  mx : MaxOk w
  tb : TabIn w.heap.size w
  bl : Below w0.heap.size w0 w
theorem Env.start {w : World} (h : MaxOk w) (k : TabIn w.heap.size w) : Env w w := ⟨h, k, Below.refl _ _⟩
theorem Env.step {w0 w w' : World} (h : Env w0 w) (k : Below w.heap.size w w') : Env w0 w' := ⟨h.mx.later k, h.tb.step k, h.bl.step k⟩
theorem Env.drew {w0 w : World} (h : Env w0 w) : Env w0 w.drew := h.step (Below.refl _ _).drew
/-- A tree in a box. -/
structure Box (w : World) (p : Nat) (t : T) (A : Option Addr) (c : Nat) (ok : Nat → Prop) : Prop where
  at8 : At8 w p 0 t A c
  node : NodeAt w ok t A c
  okk : ∀ b, ok b → b < w.heap.size
theorem Box.lt {w : World} {p : Nat} {t : T} {A : Option Addr} {c : Nat} {ok : Nat → Prop} (h : Box w p t A c ok) : p < w.heap.size := World.block_lt_of_cell? _ _ h.at8.f0
theorem Box.step {w w' : World} {p : Nat} {t : T} {A : Option Addr} {c : Nat} {ok : Nat → Prop} (h : Box w p t A c ok) (k : Below w.heap.size w w') : Box w' p t A c ok :=
  ⟨h.at8.mono (fun o => k.cell (p := ⟨p, o, none⟩) h.lt), h.node.later k h.okk, fun b hb => Nat.lt_of_lt_of_le (h.okk b hb) k.size⟩
theorem Box.drew {w : World} {p : Nat} {t : T} {A : Option Addr} {c : Nat} {ok : Nat → Prop} (h : Box w p t A c ok) : Box w.drew p t A c ok := h.step (Below.refl _ _).drew
theorem print_cases {t : T} (hw : Words t) : printP t = ([], 3) ∨ (printP t = ([], 107) ∧ checkF t = 107) ∨ (printP t = (prT t, 0) ∧ parseP (prT t) = .ok t ∧ (prT t).length ≤ 1024) := by
  unfold printP
  by_cases h0 : checkF t = 0
  · rw [if_neg (by omega)]
    by_cases h : (prT t).length ≤ 1024 ∧ deepT t ≤ 64
    · rw [if_pos h]
      exact .inr (.inr ⟨rfl, parse_print (check_right h0).1 hw h.1 h.2, h.1⟩)
    · rw [if_neg h]; exact .inl rfl
  · rw [if_pos h0]
    unfold checkF at h0 ⊢
    split at h0
    · rename_i h; rw [if_pos h]; exact .inl rfl
    · rename_i h
      rw [if_neg h]
      split at h0
      · exact absurd rfl h0
      · rename_i h2; rw [if_neg h2]; exact .inr (.inl ⟨rfl, rfl⟩)
end Go.Proofs.YtdpmbanfaigmcaaDoor

/- vouchkit.SameNode of two trees that are alike: walked. -/
set_option linter.unusedVariables false
set_option linter.unusedSimpArgs false
namespace Go.Proofs.YtdpmbanfaigmcaaDoor
open Go.RowKit

set_option maxRecDepth 100000 in
set_option maxHeartbeats 4000000 in
theorem sameN_any (t : T) : ∀ (w : World) (ok1 ok2 : Nat → Prop) (A B : Option Addr) (c d : Nat), NodeAt w ok1 t A c → NodeAt w ok2 t B d → (∀ b, ok1 b → b < w.heap.size) → (∀ b, ok2 b → b < w.heap.size) →
    Calls Tryd.prog 16 #[nodeV t A c, nodeV t B d] w fun e w' => e = .returned (.bool true) ∧ Below w.heap.size w w' := by
  induction t using T.ind with
  | h t ih =>
    intro w ok1 ok2 A B c d hN hM ho1 ho2
    have hlen := hN.len
    have h4 : eq4 t.s0 t.s1 t.s2 t.s3 t.s0 t.s1 t.s2 t.s3 = true := by rw [eq4_iff]; exact ⟨rfl, rfl, rfl, rfl⟩
    have HN := Lib.hid hN; have HM := Lib.hid hM; have Ho1 := Lib.hid ho1; have Ho2 := Lib.hid ho2; have Hih := Lib.hid ih
    clear hN hM ho1 ho2 ih
    go_enter Tryd.func16, Tryd.ntmps16
    go_upto_region 1 with fail
    generalize hW : (w.alloc _).alloc _ = W0
    have hB0 : Below w.heap.size w W0 := by subst hW; exact ((Below.refl _ _).alloc (Nat.le_refl _) _).alloc (by simp) _
    have h8 : At8 W0 w.heap.size 0 t A c := by subst hW; constructor <;> simp [go_sem]
    have h9 : At8 W0 (w.heap.size + 1) 0 t B d := by subst hW; constructor <;> simp [go_sem]
    clear hW
    obtain ⟨f0, f1, f2, f3, f4, f5, f6, f7⟩ := h8
    obtain ⟨g0, g1, g2, g3, g4, g5, g6, g7⟩ := h9
    have hz0 : w.heap.size + 1 < W0.heap.size := World.block_lt_of_cell? _ _ g0
    go_wp2_with fail
    go_loopg [5] (t.ps.length) (fun k i wr => ∃ (j : Nat), i = .int .i64 j ∧ j + k = t.ps.length ∧ Below w.heap.size w wr ∧ W0.heap.size ≤ wr.heap.size ∧ wr.cell? ⟨w.heap.size, 7, none⟩ = some (.slice A t.ps.length c) ∧ wr.cell? ⟨w.heap.size + 1, 7, none⟩ = some (.slice B t.ps.length d))
    case atStart => exact ⟨0, rfl, by omega, hB0, Nat.le_refl _, f7, g7⟩
    case round =>
      obtain ⟨j, rfl, hj, hB, hz, q7, r7⟩ := hrel
      clear f0 f1 f2 f3 f4 f5 f6 f7 g0 g1 g2 g3 g4 g5 g6 g7 hB0 h4
      by_cases hlt : j < t.ps.length
      · obtain ⟨b, o, rfl, hb, hcell⟩ := HN.out.part (by omega)
        obtain ⟨b', o', rfl, hb', hcell'⟩ := HM.out.part (by omega)
        obtain ⟨A1, c1, h8, hN1⟩ := hcell j hlt
        obtain ⟨A2, c2, h9, hN2⟩ := hcell' j hlt
        have Hc := Lib.hid (Hih.out t.ps[j] (List.getElem_mem _))
        have HN1 := Lib.hid ((hN1.later hB Ho1.out).later (B := wr.heap.size) (Below.refl _ _).drew (fun x h => by have := Ho1.out x h; omega))
        have HN2 := Lib.hid ((hN2.later hB Ho2.out).later (B := wr.heap.size) (Below.refl _ _).drew (fun x h => by have := Ho2.out x h; omega))
        obtain ⟨f0, f1, f2, f3, f4, f5, f6, f7⟩ := h8.mono (w' := wr) (fun o => hB.cell (p := ⟨b, o, none⟩) (Ho1.out b hb))
        obtain ⟨g0, g1, g2, g3, g4, g5, g6, g7⟩ := h9.mono (w' := wr) (fun o => hB.cell (p := ⟨b', o, none⟩) (Ho2.out b' hb'))
        have hk1 : ∀ b, ok1 b → b < wr.drew.heap.size := fun b h => by have := Ho1.out b h; show b < wr.heap.size; omega
        have hk2 : ∀ b, ok2 b → b < wr.drew.heap.size := fun b h => by have := Ho2.out b h; show b < wr.heap.size; omega
        have Hk1 := Lib.hid hk1; have Hk2 := Lib.hid hk2
        clear hcell hcell' hN1 hN2 h8 h9 hk1 hk2
        generalize t.ps[j] = q at *
        go_upto_region 6 with fail
        go_region_with (go_at_call 16; refine (Hc.out _ ok1 ok2 A1 A2 c1 c2 HN1.out HN2.out Hk1.out Hk2.out).mono ?_; rintro e w2 ⟨rfl, hb2⟩)
        all_goals
          have hb3 : Below wr.heap.size wr w2 := (Below.refl _ _).drew.step hb2
          have q7' := (hb3.cell (p := ⟨w.heap.size, 7, none⟩) (by show w.heap.size < _; omega)).trans q7
          have r7' := (hb3.cell (p := ⟨w.heap.size + 1, 7, none⟩) (by show w.heap.size + 1 < _; omega)).trans r7
          have hB' := hB.step hb3
          have hz' := hb3.size
          go_wp2_with fail
          go_roundg (gk - 1)
          case measure => omega
          case rel => exact ⟨j + 1, by go_num, by omega, hB', by omega, q7', r7'⟩
      · go_wp2_with fail
        go_ret
        exact ⟨rfl, hB⟩
end Go.Proofs.YtdpmbanfaigmcaaDoor

/- vouchlaw10.PatternOnce: walked. -/
set_option linter.unusedVariables false
set_option linter.unusedSimpArgs false
namespace Go.Proofs.YtdpmbanfaigmcaaDoor
open Go.RowKit

theorem check_fine {s : Bs} {t : T} (h : parseP s = .ok t) : checkF t = 0 := by
  obtain ⟨a, b, c⟩ := parse_fine h
  unfold checkF
  rw [sizeF_min t 2048 (by omega), if_neg (by omega), if_pos a]
theorem box_new {w : World} {t : T} {A : Option Addr} {c : Nat} {ok : Nat → Prop} (hN : NodeAt w ok t A c) (hok : ∀ b, ok b → b < w.heap.size) {W : World} (hW : W = w.alloc (.cells #[.int .i64 t.k, .int .u64 t.s0, .int .u64 t.s1, .int .u64 t.s2, .int .u64 t.s3, .int .i64 t.mn, .int .i64 t.mx, .slice A t.ps.length c] 27)) :
    Below w.heap.size w W ∧ Box W w.heap.size t A c ok := by
  subst hW
  have hb : Below w.heap.size w (w.alloc (.cells #[.int .i64 t.k, .int .u64 t.s0, .int .u64 t.s1, .int .u64 t.s2, .int .u64 t.s3, .int .i64 t.mn, .int .i64 t.mx, .slice A t.ps.length c] 27)) := (Below.refl _ _).alloc (Nat.le_refl _) _
  exact ⟨hb, ⟨by constructor <;> simp [go_sem], hN.later hb hok, fun b h => Nat.lt_of_lt_of_le (hok b h) hb.size⟩⟩
set_option maxRecDepth 100000 in
set_option maxHeartbeats 4000000 in
theorem ponce_any (w : World) (hM : MaxOk w) (hT : TabIn w.heap.size w) (s : Bs) (hs : s.length ≤ maxLen) :
    Calls Tryd.prog 7 #[.string (bs s)] w fun e w' => e = .returned (.bool true) ∧ Below w.heap.size w w' := by
  have HE := Lib.hid (Env.start hM hT)
  have hsz : (bs s).size = s.length := by simp [bs, ByteArray.size]
  clear hM hT
  go_enter Tryd.func7, Tryd.ntmps7
  by_cases hl : 4096 < s.length
  · go_wp2_with fail
    all_goals
      go_ret
      exact ⟨rfl, Below.refl _ _⟩
  go_wp2_with fail
  refine (parse_par s w HE.out.mx (fun _ => brC) (fun _ => dotC)).mono ?_
  intro en w1 hG
  cases hp : parseP s with
  | error e =>
    obtain ⟨hb1, he, rfl⟩ := parse_no hG hp
    have heb : (e != 0) = true := by simpa using he
    have HE1 := Lib.hid (HE.out.step hb1)
    clear hG hp he hb1 HE
    go_upto_region 4 with fail
    generalize hW : w1.alloc _ = W2
    obtain ⟨hb2, hB2⟩ := box_new (leaf_at w1 none0 rfl (ok := fun _ => False)) (fun b h => h.elim) hW.symm
    have HE2 := Lib.hid (HE1.out.step hb2); have HB2 := Lib.hid hB2
    obtain ⟨f0, f1, f2, f3, f4, f5, f6, f7⟩ := hB2.at8
    clear hW hb2 hB2 HE1
    go_wp2_with fail
    refine (sameN_any none0 W2 (fun _ => False) (fun _ => False) none none 0 0 HB2.out.node (leaf_at _ _ rfl) (fun b h => h.elim) (fun b h => h.elim)).mono ?_
    rintro e3 w3 ⟨rfl, hb3⟩
    have HE3 := Lib.hid (HE2.out.step hb3)
    clear hb3 f0 f1 f2 f3 f4 f5 f6 f7
    go_wp2_with fail
    refine (works10_any w3 HE3.out.mx HE3.out.tb).mono ?_
    rintro e4 w4 ⟨rfl, hb4⟩
    go_wp2_with fail
    go_ret
    exact ⟨rfl, (HE3.out.step hb4).bl⟩
  | ok t =>
    obtain ⟨hb1, A, c, rfl, hN⟩ := parse_is hG hp
    have Hfine := Lib.hid (parse_fine hp).2.1
    have hc0 := check_fine hp
    have Hc0 := Lib.hid hc0
    have hcs := print_cases (parse_fine hp).2.1
    have HE1 := Lib.hid (HE.out.step hb1)
    have HN1 := Lib.hid hN
    have Hpr := Lib.hid (print_any t)
    have Hpc := Lib.hid (pcheck_any t)
    have Hsame := Lib.hid (sameN_any t)
    clear hG hp hN hb1 HE
    have hcs2 : printP t = ([], 3) ∨ (printP t = (prT t, 0) ∧ parseP (prT t) = .ok t ∧ (prT t).length ≤ 1024) := by
      rcases hcs with h | ⟨_, h⟩ | h
      · exact .inl h
      · omega
      · exact .inr h
    clear hcs hc0
    go_upto_region 4 with fail
    generalize hW : w1.alloc _ = W2
    obtain ⟨hb2, hB2⟩ := box_new HN1.out (fun b h => h.2) hW.symm
    have HE2 := Lib.hid (HE1.out.step hb2); have HB2 := Lib.hid hB2
    obtain ⟨f0, f1, f2, f3, f4, f5, f6, f7⟩ := hB2.at8
    clear hW hb2 hB2 HE1 HN1
    go_wp2_with fail
    refine (Hpr.out W2 _ A c HB2.out.node HB2.out.okk (fun _ => Hfine.out) HE2.out.tb).mono ?_
    rintro e3 w3 ⟨rfl, hb3⟩
    have HE3 := Lib.hid (HE2.out.step hb3); have HB3 := Lib.hid (HB2.out.step hb3)
    clear hb3 HE2 HB2 f0 f1 f2 f3 f4 f5 f6 f7
    obtain ⟨f0, f1, f2, f3, f4, f5, f6, f7⟩ := HB3.out.at8
    rcases hcs2 with hp | ⟨hp, hq, hl⟩
    · rw [hp]
      clear hp
      go_wp2_with fail
      refine (Hpc.out w3 _ A c HB3.out.node HB3.out.okk).mono ?_
      rintro e4 w4 ⟨rfl, hb4⟩
      rw [Hc0.out]
      have HE4 := Lib.hid (HE3.out.step hb4)
      clear hb4 f0 f1 f2 f3 f4 f5 f6 f7
      go_wp2_with fail
      refine (works10_any w4 HE4.out.mx HE4.out.tb).mono ?_
      rintro e5 w5 ⟨rfl, hb5⟩
      go_wp2_with fail
      go_ret
      exact ⟨rfl, (HE4.out.step hb5).bl⟩
    · have Hp := Lib.hid hp
      have Hq := Lib.hid hq
      rw [hp]
      clear hp hq
      generalize prT t = x at *
      go_wp2_with fail
      refine (Hpc.out w3 _ A c HB3.out.node HB3.out.okk).mono ?_
      rintro e4 w4 ⟨rfl, hb4⟩
      rw [Hc0.out]
      have HE4 := Lib.hid (HE3.out.step hb4); have HB4 := Lib.hid (HB3.out.step hb4)
      clear hb4 f0 f1 f2 f3 f4 f5 f6 f7 HE3 HB3
      go_wp2_with fail
      refine (parse_par x w4 HE4.out.mx (fun _ => brC) (fun _ => dotC)).mono ?_
      intro en5 w5 hG
      obtain ⟨hb5, A', c', rfl, hN5⟩ := parse_is hG Hq.out
      have HE5 := Lib.hid (HE4.out.step hb5); have HB5 := Lib.hid (HB4.out.step hb5); have HN5 := Lib.hid hN5
      clear hG hb5 hN5 HB4 HE4
      go_upto_region 12 with fail
      generalize hW : w5.alloc _ = W6
      obtain ⟨hb6, hM6⟩ := box_new HN5.out (fun b h => h.2) hW.symm
      have HE6 := Lib.hid (HE5.out.step hb6); have HB6 := Lib.hid (HB5.out.step hb6); have HM6 := Lib.hid hM6
      obtain ⟨g0, g1, g2, g3, g4, g5, g6, g7⟩ := hM6.at8
      clear hW hb6 hM6 HE5 HB5 HN5
      go_wp2_with fail
      refine (Hpr.out W6 _ A' c' HM6.out.node HM6.out.okk (fun _ => Hfine.out) HE6.out.tb).mono ?_
      rintro e7 w7 ⟨rfl, hb7⟩
      rw [Hp.out]
      have HE7 := Lib.hid (HE6.out.step hb7); have HB7 := Lib.hid (HB6.out.step hb7); have HM7 := Lib.hid (HM6.out.step hb7)
      clear hb7 g0 g1 g2 g3 g4 g5 g6 g7 HE6 HB6 HM6
      obtain ⟨f0, f1, f2, f3, f4, f5, f6, f7⟩ := HB7.out.at8
      obtain ⟨g0, g1, g2, g3, g4, g5, g6, g7⟩ := HM7.out.at8
      go_wp2_with fail
      refine (Hsame.out w7 _ _ A' A c' c HM7.out.node HB7.out.node HM7.out.okk HB7.out.okk).mono ?_
      rintro e8 w8 ⟨rfl, hb8⟩
      have HE8 := Lib.hid (HE7.out.step hb8)
      clear hb8 f0 f1 f2 f3 f4 f5 f6 f7 g0 g1 g2 g3 g4 g5 g6 g7
      go_wp2_with fail
      refine (works10_any w8 HE8.out.mx HE8.out.tb).mono ?_
      rintro e9 w9 ⟨rfl, hb9⟩
      go_wp2_with fail
      go_ret
      exact ⟨rfl, (HE8.out.step hb9).bl⟩
end Go.Proofs.YtdpmbanfaigmcaaDoor

/- A set's text: how long; turned about. Plain. -/
set_option linter.unusedVariables false
set_option linter.unusedSimpArgs false
namespace Go.Proofs.YtdpmbanfaigmcaaDoor
open Go.RowKit

def memS : List Nat → Nat
  | [] => 0
  | x :: l => (memT x).length + memS l
theorem memS_app (a b : List Nat) : memS (a ++ b) = memS a + memS b := by
  induction a with
  | nil => simp [memS]
  | cons x a ih => simp [memS, ih]; omega
theorem memS_ge : ∀ (l : List Nat), l.length ≤ memS l
  | [] => Nat.le_refl _
  | x :: l => by have := memS_ge l; have := memT_pos x; simp [memS]; omega
theorem memS_filter (p : Nat → Bool) : ∀ (l : List Nat), memS (l.filter p) ≤ memS l
  | [] => Nat.le_refl _
  | x :: l => by
    have := memS_filter p l
    rw [List.filter_cons]
    split
    · simp [memS]; exact this
    · simp [memS]; omega
theorem memS_range (a n : Nat) : memS (List.range' a (n + 1)) = memS (List.range' a n) + (memT (a + n)).length := by
  rw [List.range'_concat, memS_app]
  simp [memS]
theorem runsT_sum : ∀ (k : Nat) (l : List Nat), (runsT k l).length ≤ memS l
  | 0, l => by rw [runsT]; exact Nat.zero_le _
  | k + 1, [] => by rw [runsT]; exact Nat.zero_le _
  | k + 1, c :: t => by
    have h0 := runsT_sum k (t.drop (runN c t))
    have htk := runN_take c t
    have h1 : memS t = memS (List.range' (c + 1) (runN c t)) + memS (t.drop (runN c t)) := by
      conv => lhs; rw [← List.take_append_drop (runN c t) t, memS_app, htk]
    rw [runsT]
    generalize runN c t = n at *
    simp only [List.length_append, memS]
    rcases n with _ | n
    · rw [List.drop_zero] at h0 h1
      simp; omega
    · have h2 := memS_range (c + 1) n
      have h3 := memS_ge (List.range' (c + 1) n)
      rw [List.length_range'] at h3
      rw [show c + 1 + n = c + (n + 1) by omega] at h2
      rw [if_pos (show 0 < n + 1 by omega)]
      split
      · simp only [List.length_cons, List.length_nil]; omega
      · simp only [List.length_nil]; omega
theorem memS_all : memS (List.range 256) = 272 := by decide +kernel
theorem setT_short (s : W4) : (setT s).length ≤ 300 := by
  have h1 := runsT_sum (bytesW s).length (bytesW s)
  have h2 : memS (bytesW s) ≤ 272 := by rw [← memS_all]; exact memS_filter _ _
  unfold setT
  split
  · simp
  split
  · simp
  split
  · split <;> simp
  · simp only [List.length_append, List.length_cons, List.length_nil]; omega
theorem set_turn {S : W4} (h : Wok S) {r : Bs} (hs : setT S = 91 :: r) (h3 : 3 ≤ (setT S).length) (h94 : r.head? ≠ some 94) : parseP (91 :: 94 :: r) = .ok S.not.T := by
  have hlen := setT_short S
  have hr : ∃ hne : bytesW S ≠ [], r = runsT (bytesW S).length (bytesW S) ++ [93] := by
    unfold setT at hs h3
    split at hs
    · simp at hs
    · rename_i g0
      split at hs
      · simp only [List.cons.injEq, true_and] at hs
        subst hs
        exact absurd rfl h94
      · rename_i g1
        split at hs
        · rename_i g2
          rw [if_neg g0, if_neg g1, if_pos g2] at h3
          split at hs
          · simp at hs
          · rename_i g3
            rw [if_neg g3] at h3
            simp at h3
        · refine ⟨fun e => g1 (by rw [e]; rfl), ?_⟩
          simp only [List.cons_append, List.nil_append, List.cons.injEq, true_and] at hs
          exact hs.symm
  obtain ⟨hne, hr⟩ := hr
  have hrl : r.length + 1 = (setT S).length := by rw [hs]; rfl
  have hit : itemsP (r.length + 1) w40 r = .ok (S, []) := by
    have := runs_read (bytesW S).length (bytesW S) w40 [] (r.length + 1) hne (Nat.le_refl _) (by rw [← hr]; omega) (bytesW_lt S)
    rw [← hr, fold_bytes h] at this
    exact this
  have hb : bracketP (94 :: r) = .ok (S.not, []) := by
    rw [bracketP, takeP_one, if_pos rfl]
    simp only [hit]
  have ha : atomP (groupP 64) (91 :: 94 :: r) = .ok (S.not.T, []) := by
    simp only [atomP, show ¬ ((91 : UInt8) = 40) by decide, show ¬ ((91 : UInt8) = 94) by decide, show ¬ ((91 : UInt8) = 36) by decide, if_true, if_false, hb]
  have hp : pieceP (groupP 64) (91 :: 94 :: r) = .ok (S.not.T, []) := by
    rw [pieceP, ha]
    exact suf_stop _ _ (fun c t e => by cases e)
  unfold parseP
  rw [if_neg (by simp; omega), choice_one (one_row rfl hp rfl (by simp)) rfl]
end Go.Proofs.YtdpmbanfaigmcaaDoor

/- vouchlaw10.PatternSets: walked. -/
set_option linter.unusedVariables false
set_option linter.unusedSimpArgs false
namespace Go.Proofs.YtdpmbanfaigmcaaDoor
open Go.RowKit

theorem right_set1 {S : W4} (h : Wok S) : rightF S.T = true ∧ Words S.T ∧ nodesF S.T ≤ 1 := fine_set h
theorem print_set {S : W4} (h : Wok S) : printP S.T = (setT S, 0) ∧ parseP (setT S) = .ok S.T := by
  obtain ⟨a, b, c⟩ := right_set1 h
  have hp : prT S.T = setT S := by rw [prT_eq]; rfl
  have hd : deepT S.T = 0 := by rw [deepT_eq]; rfl
  have hl := setT_short S
  have hc : checkF S.T = 0 := by
    unfold checkF
    rw [sizeF_min _ 2048 (by omega), if_neg (by omega), if_pos a]
  refine ⟨?_, ?_⟩
  · unfold printP
    rw [if_neg (by omega), hp, hd, if_pos ⟨by omega, by omega⟩]
  · have := parse_print a b (by rw [hp]; omega) (by rw [hd]; omega)
    rwa [hp] at this
set_option maxRecDepth 100000 in
set_option maxHeartbeats 8000000 in
theorem psets_any (w : World) (hM : MaxOk w) (hT : TabIn w.heap.size w) (S : W4) (hS : Wok S) :
    Calls Tryd.prog 9 #[S.V] w fun e w' => e = .returned (.bool true) ∧ Below w.heap.size w w' := by
  have HE := Lib.hid (Env.start hM hT)
  have HS := Lib.hid hS
  have Hps := Lib.hid (print_set hS)
  have Hshort := Lib.hid (setT_short S)
  have Hturn := Lib.hid (fun r hr h3 h4 => set_turn hS (r := r) hr h3 h4)
  have Hpr := Lib.hid (print_any S.T)
  have Hsame := Lib.hid (sameN_any S.T)
  clear hM hT hS
  go_enter Tryd.func9, Tryd.ntmps9
  go_upto_region 1 with fail
  generalize hW : w.alloc _ = W0
  have hb0 : Below w.heap.size w W0 := by subst hW; exact (Below.refl _ _).alloc (Nat.le_refl _) _
  have s4 : At4 W0 w.heap.size 0 S := by subst hW; constructor <;> simp [go_sem]
  have hz0 : w.heap.size < W0.heap.size := by subst hW; simp
  clear hW
  have HE0 := Lib.hid (HE.out.step hb0)
  have HS4 := Lib.hid s4
  obtain ⟨s0, s1, s2, s3⟩ := s4
  simp only [Nat.zero_add] at s1 s2 s3
  clear hb0 HE
  go_upto_region 2 with fail
  generalize hW : W0.alloc _ = W1
  obtain ⟨hb1, hB1⟩ := box_new (t := S.T) (leaf_at W0 S.T rfl (ok := fun _ => False)) (fun b h => h.elim) (w := W0) (W := W1) hW.symm
  have HE1 := Lib.hid (HE0.out.step hb1); have HB1 := Lib.hid hB1
  have H41 := Lib.hid (HS4.out.later hb1 hz0)
  obtain ⟨f0, f1, f2, f3, f4, f5, f6, f7⟩ := hB1.at8
  have hz1 : w.heap.size < W1.heap.size := Nat.lt_of_lt_of_le hz0 hb1.size
  clear hW hb1 hB1 HE0 HS4 s0 s1 s2 s3
  go_wp2_with fail
  refine (Hpr.out W1 _ none 0 HB1.out.node HB1.out.okk (fun _ => (right_set1 HS.out).2.1) HE1.out.tb).mono ?_
  rintro e2 w2 ⟨rfl, hb2⟩
  rw [Hps.out.1]
  have HE2 := Lib.hid (HE1.out.step hb2); have HB2 := Lib.hid (HB1.out.step hb2); have H42 := Lib.hid (H41.out.later hb2 hz1)
  have hz2 : w.heap.size < w2.heap.size := Nat.lt_of_lt_of_le hz1 hb2.size
  have Hq := Lib.hid Hps.out.2
  clear hb2 HE1 HB1 H41 f0 f1 f2 f3 f4 f5 f6 f7 Hps
  generalize setT S = x at *
  go_wp2_with fail
  refine (parse_par x w2 HE2.out.mx (fun _ => brC) (fun _ => dotC)).mono ?_
  intro en w3 hG
  obtain ⟨hb3, A', c', rfl, hN3⟩ := parse_is hG Hq.out
  have HE3 := Lib.hid (HE2.out.step hb3); have HB3 := Lib.hid (HB2.out.step hb3); have H43 := Lib.hid (H42.out.later hb3 hz2); have HN3 := Lib.hid hN3
  have hz3 : w.heap.size < w3.heap.size := Nat.lt_of_lt_of_le hz2 hb3.size
  clear hG hb3 hN3 HB2 HE2 H42
  go_upto_region 4 with fail
  generalize hW : w3.alloc _ = W4
  obtain ⟨hb4, hM4⟩ := box_new HN3.out (fun b h => h.2) (W := W4) hW.symm
  have HE4 := Lib.hid (HE3.out.step hb4); have HB4 := Lib.hid (HB3.out.step hb4); have HM4 := Lib.hid hM4; have H44 := Lib.hid (H43.out.later hb4 hz3)
  have hz4 : w.heap.size < W4.heap.size := Nat.lt_of_lt_of_le hz3 hb4.size
  clear hW hb4 hM4 HE3 HB3 HN3 H43
  obtain ⟨f0, f1, f2, f3, f4, f5, f6, f7⟩ := HB4.out.at8
  obtain ⟨g0, g1, g2, g3, g4, g5, g6, g7⟩ := HM4.out.at8
  go_wp2_with fail
  refine (Hsame.out W4 _ _ A' none c' 0 HM4.out.node HB4.out.node HM4.out.okk HB4.out.okk).mono ?_
  rintro e5 w5 ⟨rfl, hb5⟩
  have HE5 := Lib.hid (HE4.out.step hb5); have H45 := Lib.hid (H44.out.later hb5 hz4)
  have hz5 : w.heap.size < w5.heap.size := Nat.lt_of_lt_of_le hz4 hb5.size
  clear hb5 HE4 HB4 HM4 H44 f0 f1 f2 f3 f4 f5 f6 f7 g0 g1 g2 g3 g4 g5 g6 g7
  have hsx : (bs x).size = x.length := by simp [bs, ByteArray.size]
  have hlx : x.length ≤ 300 := Hshort.out
  by_cases h3 : x.length < 3
  · go_wp2_with fail
    refine (works10_any w5 HE5.out.mx HE5.out.tb).mono ?_
    rintro e6 w6 ⟨rfl, hb6⟩
    go_wp2_with fail
    go_ret
    exact ⟨rfl, (HE5.out.step hb6).bl⟩
  obtain ⟨c, d, q, rfl⟩ : ∃ c d q, x = c :: d :: q := by
    match x, h3 with
    | c :: d :: q, _ => exact ⟨c, d, q, rfl⟩
    | [], h => simp at h
    | [_], h => simp at h
  have hq1 : q.length ≤ 298 := by simp only [List.length_cons] at hlx; omega
  have hq2 : 1 ≤ q.length := by simp only [List.length_cons] at h3; omega
  have H3 := Lib.hid h3
  clear hlx h3
  have i0 : ∀ hh, ((bs (c :: d :: q))[0]'hh) = c := fun _ => rfl
  have i1 : ∀ hh, ((bs (c :: d :: q))[1]'hh) = d := fun _ => rfl
  by_cases hc : c = 91
  case neg =>
    have hc0 : c.toNat ≠ 91 := fun e => hc (UInt8.toNat_inj.1 e)
    have hc' : ((c.toNat : Int) != 91) = true := by rw [bne_iff_ne]; omega
    clear hc hc0
    clear i1 Hturn
    go_wp2_with fail
    all_goals
      refine (works10_any w5 HE5.out.mx HE5.out.tb).mono ?_
      rintro e6 w6 ⟨rfl, hb6⟩
      go_wp2_with fail
      go_ret
      exact ⟨rfl, (HE5.out.step hb6).bl⟩
  subst hc
  by_cases hd : d = 94
  · subst hd
    clear Hturn
    go_wp2_with fail
    all_goals
      refine (works10_any w5 HE5.out.mx HE5.out.tb).mono ?_
      rintro e6 w6 ⟨rfl, hb6⟩
      go_wp2_with fail
      go_ret
      exact ⟨rfl, (HE5.out.step hb6).bl⟩
  have hd0 : d.toNat ≠ 94 := fun e => hd (UInt8.toNat_inj.1 e)
  have hd' : ((d.toNat : Int) == 94) = false := by rw [beq_eq_false_iff_ne]; omega
  have Hturn := Lib.hid (Hturn.out (d :: q) rfl (by have := H3.out; omega) (by simpa using hd))
  have ht : (bs (91 :: d :: q)).extract 1 (q.length + 1 + 1) = bs (d :: q) := bs_tail 91 (d :: q)
  have sq : (bs (d :: q)).size = q.length + 1 := by simp [bs, ByteArray.size]
  have c1 : bs [91, 94] ++ bs (d :: q) = bs (91 :: 94 :: d :: q) := bs_cat _ _
  clear hd hd0
  go_wp2_with fail
  all_goals
    refine (parse_par (91 :: 94 :: d :: q) w5 HE5.out.mx (fun _ => brC) (fun _ => dotC)).mono ?_
    intro en w6 hG
    obtain ⟨hb6, A6, c6, rfl, hN6⟩ := parse_is hG Hturn.out
    have HE6 := Lib.hid (HE5.out.step hb6); have H46 := Lib.hid (H45.out.later hb6 hz5); have HN6 := Lib.hid hN6
    have hz6 : w.heap.size < w6.heap.size := Nat.lt_of_lt_of_le hz5 hb6.size
    clear hG hb6 hN6 HE5 H45 ht c1
    go_upto_region 9 with fail
    generalize hW : w6.alloc _ = W7
    obtain ⟨hb7, hM7⟩ := box_new HN6.out (fun b h => h.2) (W := W7) hW.symm
    have HE7 := Lib.hid (HE6.out.step hb7); have H47 := Lib.hid (H46.out.later hb7 hz6)
    obtain ⟨g0, g1, g2, g3, g4, g5, g6, g7⟩ := hM7.at8
    obtain ⟨s0, s1, s2, s3⟩ := H47.out
    simp only [Nat.zero_add] at s1 s2 s3
    clear hW hb7 hM7 HE6 H46 HN6
    have g1' : W7.cell? ⟨w6.heap.size, 0 + 1, none⟩ = some (.int .u64 (notI S.a)) := g1
    have g2' : W7.cell? ⟨w6.heap.size, 0 + 2, none⟩ = some (.int .u64 (notI S.b)) := g2
    have g3' : W7.cell? ⟨w6.heap.size, 0 + 3, none⟩ = some (.int .u64 (notI S.c)) := g3
    have g4' : W7.cell? ⟨w6.heap.size, 0 + 4, none⟩ = some (.int .u64 (notI S.d)) := g4
    have k0 := xor_not HS.out.a; have k1 := xor_not HS.out.b; have k2 := xor_not HS.out.c; have k3 := xor_not HS.out.d
    have k4 : eq4 (notI S.a) (notI S.b) (notI S.c) (notI S.d) (bits BinOp.xor IntKind.u64 IntKind.u64.max S.a) (bits BinOp.xor IntKind.u64 IntKind.u64.max S.b) (bits BinOp.xor IntKind.u64 IntKind.u64.max S.c) (bits BinOp.xor IntKind.u64 IntKind.u64.max S.d) = true := by rw [eq4_iff]; exact ⟨k0.symm, k1.symm, k2.symm, k3.symm⟩
    clear g1 g2 g3 g4 k0 k1 k2 k3
    generalize notI S.a = na at *
    generalize notI S.b = nb at *
    generalize notI S.c = nc at *
    generalize notI S.d = nd at *
    go_wp2_with fail
    refine (works10_any W7 HE7.out.mx HE7.out.tb).mono ?_
    rintro e8 w8 ⟨rfl, hb8⟩
    go_wp2_with fail
    go_ret
    exact ⟨rfl, (HE7.out.step hb8).bl⟩
end Go.Proofs.YtdpmbanfaigmcaaDoor

/- States of machines in memory; a layer; append as one step. -/
set_option linter.unusedVariables false
set_option linter.unusedSimpArgs false
namespace Go.Proofs.YtdpmbanfaigmcaaDoor
open Go.RowKit

/-- append, as one step of a region that draws its order; the new slice is not nil. -/
theorem step_append_at {P : Program} {ops : Array Oper} {o : Oper} {a : Act} {Q : Exit → Act → World → Prop} {K : Act → World → Prop} {E : Prop} {W : World} (base : Nat)
    (hgd : o.guard = none) (s x : Operand) (t e : TypeId) (z : Value) (size bytes : Nat)
    (ho : o.op = .call { callee := .builtin .append, args := #[s, x], argTypes := #[t, t] })
    (ht : P.underlying t = some (.slice e)) (hinfo : (P.info? e).map (fun i => (i.zero, i.size, i.bytes)) = some (some z, size, bytes)) (hz : z.cells.size = size) (hs0 : 0 < size) (hb0 : 0 < bytes)
    (v : Value) (n m : Nat) (xs ys : List Value) (ad : Addr) (c : Nat) (hs : a.eval s = v) (hx : a.eval x = .slice (some ad) m c) (hm : 0 < m) (hys : ys.length = m * size)
    (hnews : ∀ j u, ys[j]? = some u → W.cell? (ad.add j) = some u) (h1 : ∀ u ∈ ys, u.oneCell' = true)
    (HO : W.ownsRow base e size v n xs) (hbase : base ≤ W.heap.size) (hl : (n + m) * bytes ≤ 140737488355328)
    (h : ∀ g cap w1, w1.ownsRow base e size (.slice (some ⟨g, 0, none⟩) (n + m) cap) (n + m) (xs ++ ys) → W.grownBy w1 v.ownBlock → (v.ownBlock = some g ∨ g = W.heap.size) →
      K (a.put o.dst (.slice (some ⟨g, 0, none⟩) (n + m) cap)) w1) :
    if Region.wanted o (yielded ops a.tmps) = true then Oper.wp P o a W K Q else E := by
  obtain ⟨i0, hi, hzz⟩ := Option.map_eq_some_iff.1 hinfo
  simp only [Prod.mk.injEq] at hzz
  obtain ⟨hz0, hz1, hz2⟩ := hzz
  have hlen : n + m ≤ 140737488355328 := Nat.le_trans (Nat.le_mul_of_pos_right _ hb0) hl
  rw [if_pos (by simp [Region.wanted, hgd])]
  obtain ⟨v1, w1, hr, hown, hg, _, hat⟩ := run_append_own_at (P := P) W base t o.type e i0 z size bytes ht hi hz0 hz1 hz2 hz hs0 v n xs HO ad m c ys hys hnews h1 (by simp only [maxLen]; omega) hl hbase
  unfold Oper.wp execOp
  simp only [ho, resolve, invoke, builtin, Sem.run_bind, Sem.run_pure, Result.andThen_ok, List.map_toArray, List.map_cons, List.map_nil, hs, hx, hr]
  rcases hown.2 with ⟨_, h0⟩ | ⟨g, cap, cur, rfl, _⟩
  · omega
  · refine h g cap w1 hown hg ?_
    rcases hat with hat | hat
    · exact .inl hat.symm
    · exact .inr (by simpa [Value.ownBlock] using hat)

/-- The same, in a region that keeps its order; behind 'at_builtin'. -/
theorem wpList_append_at {P : Program} {ops : Array Oper} {rest : List Oper} {o : Oper} {a : Act} {Q : Exit → Act → World → Prop} {W : World} (base : Nat)
    (hgd : o.guard = none) (s x : Operand) (t e : TypeId) (z : Value) (size bytes : Nat)
    (ho : o.op = .call { callee := .builtin .append, args := #[s, x], argTypes := #[t, t] })
    (ht : P.underlying t = some (.slice e)) (hinfo : (P.info? e).map (fun i => (i.zero, i.size, i.bytes)) = some (some z, size, bytes)) (hz : z.cells.size = size) (hs0 : 0 < size) (hb0 : 0 < bytes)
    (v : Value) (n m : Nat) (xs ys : List Value) (ad : Addr) (c : Nat) (hs : a.eval s = v) (hx : a.eval x = .slice (some ad) m c) (hm : 0 < m) (hys : ys.length = m * size)
    (hnews : ∀ j u, ys[j]? = some u → W.cell? (ad.add j) = some u) (h1 : ∀ u ∈ ys, u.oneCell' = true)
    (HO : W.ownsRow base e size v n xs) (hbase : base ≤ W.heap.size) (hl : (n + m) * bytes ≤ 140737488355328)
    (h : ∀ g cap w1, w1.ownsRow base e size (.slice (some ⟨g, 0, none⟩) (n + m) cap) (n + m) (xs ++ ys) → W.grownBy w1 v.ownBlock → (v.ownBlock = some g ∨ g = W.heap.size) →
      wpList P ops Q rest (a.put o.dst (.slice (some ⟨g, 0, none⟩) (n + m) cap)) w1) :
    wpList P ops Q (o :: rest) a W := by
  refine wpList_plain hgd fun K hK => ?_
  have := step_append_at (ops := ops) (o := o) (a := a) (Q := Q) (K := K) (E := True) base hgd s x t e z size bytes ho ht hinfo hz hs0 hb0 v n m xs ys ad c hs hx hm hys hnews h1 HO hbase hl (fun g cap w1 h1 h2 h3 => hK _ _ (h g cap w1 h1 h2 h3))
  rwa [if_pos (by simp [Region.wanted, hgd])] at this

/-- A state of a machine, as data. -/
structure St where
  k : Int
  s0 : Int
  s1 : Int
  s2 : Int
  s3 : Int
  nx : Int
  ot : Int
deriving Inhabited
abbrev St.V (s : St) : Value := .agg #[.int .i64 s.k, .int .u64 s.s0, .int .u64 s.s1, .int .u64 s.s2, .int .u64 s.s3, .int .i64 s.nx, .int .i64 s.ot]
def St.cells (s : St) : List Value := [.int .i64 s.k, .int .u64 s.s0, .int .u64 s.s1, .int .u64 s.s2, .int .u64 s.s3, .int .i64 s.nx, .int .i64 s.ot]
def stCells (l : List St) : List Value := l.flatMap St.cells
theorem stCells_length (l : List St) : (stCells l).length = l.length * 7 := by
  induction l with
  | nil => rfl
  | cons s l ih =>
    show (s.cells ++ stCells l).length = _
    rw [List.length_append, ih, List.length_cons]
    simp only [St.cells, List.length_cons, List.length_nil]
    omega
theorem stCells_snoc (l : List St) (s : St) : stCells (l ++ [s]) = stCells l ++ s.cells := by simp [stCells]

/-- What a layer's calls leave alone: all but the layer's own cell (block L) and its row's block. -/
structure Lays (L : Nat) (r : Option Nat) (w w' : World) : Prop where
  os : w'.os = w.os
  tape : w'.tape = w.tape
  output : w'.output = w.output
  size : w.heap.size ≤ w'.heap.size
  block : ∀ k, k < w.heap.size → k ≠ L → some k ≠ r → w'.heap[k]? = w.heap[k]?
/-- The row's block is the old one, or a new one. -/
def Moves (w : World) (v v' : Value) : Prop := v'.ownBlock = v.ownBlock ∨ ∃ b, v'.ownBlock = some b ∧ w.heap.size ≤ b
/-- A layer behind a pointer: block L holds the slice v; v owns the states l. -/
structure Layer (w : World) (L base : Nat) (v : Value) (l : List St) : Prop where
  cell : w.cell? ⟨L, 0, none⟩ = some v
  froz : w.frozen? ⟨L, 0, none⟩ = false
  own : w.ownsRow base 90 7 v l.length (stCells l)
  ne : v.ownBlock ≠ some L
  base : base ≤ w.heap.size
theorem Layer.lt {w : World} {L base : Nat} {v : Value} {l : List St} (h : Layer w L base v l) : L < w.heap.size := World.block_lt_of_cell? _ _ h.cell
theorem Lays.refl (L : Nat) (r : Option Nat) (w : World) : Lays L r w w := ⟨rfl, rfl, rfl, Nat.le_refl _, fun _ _ _ _ => rfl⟩
theorem Lays.of_below {L : Nat} {r : Option Nat} {w w' : World} (h : Below w.heap.size w w') : Lays L r w w' := ⟨h.os, h.tape, h.output, h.size, fun k hk _ _ => h.block k hk⟩
theorem Lays.trans {L : Nat} {v v1 : Value} {a b c : World} (h : Lays L v.ownBlock a b) (hm : Moves a v v1) (k : Lays L v1.ownBlock b c) : Lays L v.ownBlock a c :=
  ⟨k.os.trans h.os, k.tape.trans h.tape, k.output.trans h.output, Nat.le_trans h.size k.size, fun i hi h1 h2 => (k.block i (Nat.lt_of_lt_of_le hi h.size) h1 (fun e => by
    rcases hm with hm | ⟨b, hb, hle⟩
    · exact h2 (e.trans hm)
    · rw [hb] at e; injection e with e; omega)).trans (h.block i hi h1 h2)⟩
theorem Moves.refl (w : World) (v : Value) : Moves w v v := .inl rfl
theorem Moves.trans {a b : World} {v v1 v2 : Value} (h : Moves a v v1) (hs : a.heap.size ≤ b.heap.size) (k : Moves b v1 v2) : Moves a v v2 := by
  rcases k with k | ⟨x, hx, hle⟩
  · rcases h with h | ⟨y, hy, hle⟩
    · exact .inl (k.trans h)
    · exact .inr ⟨y, k.trans hy, hle⟩
  · exact .inr ⟨x, hx, by omega⟩
theorem Lays.cell {L : Nat} {r : Option Nat} {w w' : World} (h : Lays L r w w') {b o : Nat} (h0 : b < w.heap.size) (h1 : b ≠ L) (h2 : some b ≠ r) : w'.cell? ⟨b, o, none⟩ = w.cell? ⟨b, o, none⟩ := World.cell?_of_block (w := w) (h.block b h0 h1 h2)
theorem Lays.frozen {L : Nat} {r : Option Nat} {w w' : World} (h : Lays L r w w') {b o : Nat} (h0 : b < w.heap.size) (h1 : b ≠ L) (h2 : some b ≠ r) : w'.frozen? ⟨b, o, none⟩ = w.frozen? ⟨b, o, none⟩ := World.frozen?_of_block (w := w) (h.block b h0 h1 h2)
/-- What leaves all old blocks alone leaves a layer. -/
theorem Layer.later {w w' : World} {L base : Nat} {v : Value} {l : List St} (h : Layer w L base v l) (hb : Below w.heap.size w w') : Layer w' L base v l :=
  ⟨(hb.cell (p := ⟨L, 0, none⟩) h.lt).trans h.cell, (hb.frozen (p := ⟨L, 0, none⟩) h.lt).trans h.froz, h.own.kept (row := none) ⟨hb.os, hb.tape, hb.output, hb.size, fun k hk _ => hb.block k hk⟩ (by cases hv : v.ownBlock <;> simp), h.ne, Nat.le_trans h.base hb.size⟩
theorem St.cells_one (s : St) : ∀ u ∈ s.cells, u.oneCell' = true := by
  intro u hu
  simp only [St.cells, List.mem_cons, List.not_mem_nil, or_false] at hu
  rcases hu with rfl | rfl | rfl | rfl | rfl | rfl | rfl <;> rfl

theorem Tryd.infoState : (Tryd.prog.info? 90).map (fun i => (i.zero, i.size, i.bytes)) = some (some (.agg #[.int .i64 0, .int .u64 0, .int .u64 0, .int .u64 0, .int .u64 0, .int .i64 0, .int .i64 0]), 7, 56) := by kernel_rfl

set_option maxRecDepth 100000 in
set_option maxHeartbeats 1000000 in
theorem state_any (w : World) (L base : Nat) (v : Value) (l : List St) (s : St) (h : Layer w L base v l) (hl : l.length ≤ 1000000) :
    Calls Tryd.prog 63 #[.pointer (some ⟨L, 0, none⟩), s.V] w fun e w' => e = .returned (.int .i64 l.length) ∧ ∃ v', Layer w' L base v' (l ++ [s]) ∧ Moves w v v' ∧ Lays L v.ownBlock w w' := by
  have hL := h.lt
  have hc := h.cell
  have hf := h.froz
  obtain ⟨A, c, rfl⟩ : ∃ A c, v = .slice A l.length c := by
    rcases h.own.2 with ⟨rfl, h0⟩ | ⟨g, cap, cur, rfl, _⟩
    · exact ⟨none, 0, by rw [h0]⟩
    · exact ⟨_, cap, rfl⟩
  go_enter Tryd.func63, Tryd.ntmps63
  go_wp2_with fail
  have hown : ((w.alloc (.cells s.cells.toArray 90)).alloc (.cells s.cells.toArray 90)).drew.ownsRow base 90 7 (.slice A l.length c) l.length (stCells l) :=
    ((h.own.alloc _).alloc _).kept (row := none) ⟨rfl, rfl, rfl, Nat.le_refl _, fun _ _ _ => rfl⟩ (by cases A <;> simp [Value.ownBlock])
  have hnews : ∀ j u, s.cells[j]? = some u → ((w.alloc (.cells s.cells.toArray 90)).alloc (.cells s.cells.toArray 90)).drew.cell? ((⟨w.heap.size + 1, 0, none⟩ : Addr).add j) = some u := by
    intro j u hu
    have e : (⟨w.heap.size + 1, 0, none⟩ : Addr).add j = ⟨w.heap.size + 1, j, none⟩ := by unfold Addr.add; split <;> simp_all
    rw [e, World.cell?_drew]
    rw [show w.heap.size + 1 = (w.alloc (.cells s.cells.toArray 90)).heap.size by simp, World.cell?_alloc_new]
    simpa using hu
  have hb0 : base ≤ ((w.alloc (.cells s.cells.toArray 90)).alloc (.cells s.cells.toArray 90)).drew.heap.size := by have := h.base; simp; omega
  have hLA : (Value.slice A l.length c).ownBlock ≠ some L := h.ne
  have hcL : ((w.alloc (.cells s.cells.toArray 90)).alloc (.cells s.cells.toArray 90)).drew.cell? ⟨L, 0, none⟩ = some (.slice A l.length c) := by
    rw [World.cell?_drew, World.cell?_alloc_lt _ _ _ (by simp; omega), World.cell?_alloc_lt _ _ _ hL, hc]
  have hfL : ((w.alloc (.cells s.cells.toArray 90)).alloc (.cells s.cells.toArray 90)).drew.frozen? ⟨L, 0, none⟩ = false := by
    rw [World.frozen?_drew, World.frozen?_alloc_old _ _ _ (by simp; omega), World.frozen?_alloc_old _ _ _ (by simp; omega), hf]
  have Hown := Lib.hid hown; have Hnews := Lib.hid hnews; have HcL := Lib.hid hcL; have HfL := Lib.hid hfL; have Hb0 := Lib.hid hb0; have H := Lib.hid h; have HLA := Lib.hid hLA
  clear hown hnews hcL hfL hb0 h hLA
  go_region_law (refine step_append_at base rfl (.tmp 9) (.tmp 11) 55 90 _ 7 56 rfl Tryd.underlying55 Tryd.infoState rfl (by omega) (by omega) (.slice A l.length c) l.length 1 (stCells l) s.cells ⟨w.heap.size + 1, 0, none⟩ 1 rfl rfl (by omega) rfl Hnews.out s.cells_one Hown.out Hb0.out (by omega) (fun g cap w1 hown1 hg1 hat1 => ?_); have k0 : w1.cell? ⟨L, 0, none⟩ = some (.slice A l.length c) := (hg1.cell HcL.out (fun e => HLA.out e.symm)); have e0 : w1.frozen? ⟨L, 0, none⟩ = false := (World.frozen?_of_block (w := ((w.alloc (.cells s.cells.toArray 90)).alloc (.cells s.cells.toArray 90)).drew) (a := ⟨L, 0, none⟩) (hg1.block L (by simp; omega) (fun e => HLA.out e.symm))).trans HfL.out)
  all_goals
    have k1 := World.cell?_setCell_same w1 _ (.slice (some ⟨g, 0, none⟩) (l.length + 1) cap) k0
    have hlt : L < w1.heap.size := World.block_lt_of_cell? _ _ k0
    go_wp2_with fail
    go_ret
    have hg0 : (Value.slice A l.length c).ownBlock = some g ∨ w.heap.size ≤ g := by
      rcases hat1 with e | e
      · exact .inl e
      · exact .inr (by rw [e]; simp; omega)
    have hgL : g ≠ L := by
      intro e
      rcases hg0 with h0 | h0
      · exact HLA.out (by rw [h0, e])
      · omega
    have hz := hg1.size
    simp only [World.size_drew, World.size_alloc] at hz
    refine ⟨by go_num, _, ⟨k1, ?_, ?_, ?_, ?_⟩, ?_, ?_⟩
    · rw [World.frozen?_setCell]; exact e0
    · have := hown1.kept (w' := w1.setCell ⟨L, 0, none⟩ (.slice (some ⟨g, 0, none⟩) (l.length + 1) cap)) (row := some L) ⟨rfl, rfl, rfl, by simp, fun k hk hne => Below.heap_setCell _ _ _ _ (fun e => hne (by rw [e]))⟩ (.inr (by simp [Value.ownBlock]; exact hgL))
      rw [stCells_snoc, List.length_append]
      exact this
    · simp only [Value.ownBlock]; intro e; injection e with e; exact hgL e
    · have := H.out.base; simp only [World.size_setCell]; omega
    · rcases hg0 with h0 | h0
      · exact .inl (by rw [h0]; rfl)
      · exact .inr ⟨g, rfl, h0⟩
    · refine ⟨hg1.os, hg1.tape, hg1.output, by simp only [World.size_setCell]; omega, fun k hk h1 h2 => ?_⟩
      rw [Below.heap_setCell _ _ _ _ h1, hg1.block k (by simp; omega) h2]
      show ((w.heap.push _).push _)[k]? = _
      rw [Array.getElem?_push, Array.getElem?_push]
      simp only [Array.size_push]
      rw [if_neg (by omega), if_neg (by omega)]
end Go.Proofs.YtdpmbanfaigmcaaDoor

/- Machines in memory; two machines compared. -/
set_option linter.unusedVariables false
set_option linter.unusedSimpArgs false
namespace Go.Proofs.YtdpmbanfaigmcaaDoor
open Go.RowKit

deriving instance DecidableEq for St
def eqSt (a b : St) : Bool := a.k == b.k && eq4 a.s0 a.s1 a.s2 a.s3 b.s0 b.s1 b.s2 b.s3 && a.nx == b.nx && a.ot == b.ot
theorem eqSt_iff {a b : St} : eqSt a b = true ↔ a = b := by
  cases a; cases b
  simp [eqSt, eq4, and_assoc]
theorem eqSt_false {a b : St} (h : a ≠ b) : eqSt a b = false := by rw [Bool.eq_false_iff]; exact fun e => h (eqSt_iff.1 e)

theorem run_eqSt (w : World) (d : Nat) (a0 a1 a2 a3 a4 a5 a6 b0 b1 b2 b3 b4 b5 b6 : Int) :
    (Op.equalIn (d + 3) 90 (.agg #[.int .i64 a0, .int .u64 a1, .int .u64 a2, .int .u64 a3, .int .u64 a4, .int .i64 a5, .int .i64 a6]) (.agg #[.int .i64 b0, .int .u64 b1, .int .u64 b2, .int .u64 b3, .int .u64 b4, .int .i64 b5, .int .i64 b6])).run Tryd.prog w = .ok (a0 == b0 && eq4 a1 a2 a3 a4 b1 b2 b3 b4 && a5 == b5 && a6 == b6) w := by
  rw [Op.equalIn]
  simp only [Sem.run_bind, run_underlying Tryd.underlying90, Result.andThen_ok]
  simp [go_sem, List.range']
  by_cases h0 : a0 = b0 <;> cases h1 : eq4 a1 a2 a3 a4 b1 b2 b3 b4 <;> by_cases h2 : a5 = b5 <;> by_cases h3 : a6 = b6 <;> simp [h0, h2, h3]
@[go_sem high] theorem run_neqSt (w : World) (a0 a1 a2 a3 a4 a5 a6 b0 b1 b2 b3 b4 b5 b6 : Int) :
    (binOp .neq 90 (.agg #[.int .i64 a0, .int .u64 a1, .int .u64 a2, .int .u64 a3, .int .u64 a4, .int .i64 a5, .int .i64 a6]) (.agg #[.int .i64 b0, .int .u64 b1, .int .u64 b2, .int .u64 b3, .int .u64 b4, .int .i64 b5, .int .i64 b6])).run Tryd.prog w = .ok (.bool (!(eqSt ⟨a0, a1, a2, a3, a4, a5, a6⟩ ⟨b0, b1, b2, b3, b4, b5, b6⟩))) w := by
  rw [run_neq_struct, run_eqSt _ 9997]; rfl
/-- A state's seven cells from a place on. -/
structure St7 (w : World) (b o : Nat) (s : St) : Prop where
  f0 : w.cell? ⟨b, o, none⟩ = some (.int .i64 s.k)
  f1 : w.cell? ⟨b, o + 1, none⟩ = some (.int .u64 s.s0)
  f2 : w.cell? ⟨b, o + 2, none⟩ = some (.int .u64 s.s1)
  f3 : w.cell? ⟨b, o + 3, none⟩ = some (.int .u64 s.s2)
  f4 : w.cell? ⟨b, o + 4, none⟩ = some (.int .u64 s.s3)
  f5 : w.cell? ⟨b, o + 5, none⟩ = some (.int .i64 s.nx)
  f6 : w.cell? ⟨b, o + 6, none⟩ = some (.int .i64 s.ot)
theorem St7.mono {w w' : World} {b o : Nat} {s : St} (h : St7 w b o s) (hk : ∀ o, w'.cell? ⟨b, o, none⟩ = w.cell? ⟨b, o, none⟩) : St7 w' b o s :=
  ⟨(hk _).trans h.f0, (hk _).trans h.f1, (hk _).trans h.f2, (hk _).trans h.f3, (hk _).trans h.f4, (hk _).trans h.f5, (hk _).trans h.f6⟩
theorem addr_add' (b o j : Nat) : (⟨b, o, none⟩ : Addr).add j = ⟨b, o + j, none⟩ := by unfold Addr.add; split <;> simp_all
theorem St7.of {w : World} {b o : Nat} {s : St} (h : ∀ j, j < 7 → w.cell? ⟨b, o + j, none⟩ = s.cells[j]?) : St7 w b o s :=
  ⟨h 0 (by omega), h 1 (by omega), h 2 (by omega), h 3 (by omega), h 4 (by omega), h 5 (by omega), h 6 (by omega)⟩
/-- A list of states reads at A; each block that is read satisfies ok. -/
structure StsAt (w : World) (ok : Nat → Prop) (l : List St) (A : Option Addr) (c : Nat) : Prop where
  cap : l.length ≤ c
  len : l.length ≤ 17592186044416
  nil : A = none → c = 0
  at_ : 0 < l.length → ∃ b o, A = some ⟨b, o, none⟩ ∧ ok b ∧ ∀ i (hi : i < l.length), St7 w b (o + i * 7) l[i]
theorem StsAt.mono {w w' : World} {ok ok' : Nat → Prop} {l : List St} {A : Option Addr} {c : Nat} (h : StsAt w ok l A c) (hk : ∀ b, ok b → ok' b ∧ ∀ o, w'.cell? ⟨b, o, none⟩ = w.cell? ⟨b, o, none⟩) : StsAt w' ok' l A c :=
  ⟨h.cap, h.len, h.nil, fun hne => by
    obtain ⟨b, o, e, hb, hc⟩ := h.at_ hne
    exact ⟨b, o, e, (hk b hb).1, fun i hi => (hc i hi).mono (hk b hb).2⟩⟩
theorem StsAt.later {w w' : World} {ok : Nat → Prop} {B : Nat} {l : List St} {A : Option Addr} {c : Nat} (h : StsAt w ok l A c) (hb : Below B w w') (hok : ∀ b, ok b → b < B) : StsAt w' ok l A c :=
  h.mono fun b hk => ⟨hk, fun _ => hb.cell (p := ⟨b, _, none⟩) (hok b hk)⟩
abbrev nfaV (l : List St) (s : Int) (A : Option Addr) (c : Nat) : Value := .agg #[.slice A l.length c, .int .i64 s]

end Go.Proofs.YtdpmbanfaigmcaaDoor

/- Arguments opened: machines. -/
set_option linter.unusedVariables false
set_option linter.unusedSimpArgs false
namespace Go.Proofs.YtdpmbanfaigmcaaDoor
open Go.RowKit Go.ChangeShapes Go.WideShapes Go.Deep

theorem Tryd.cellsState : Tryd.prog.cellsOf 90 = 7 := by kernel_rfl
theorem Tryd.cellsSet : Tryd.prog.cellsOf 24 = 4 := by kernel_rfl
theorem Tryd.cellsInt : Tryd.prog.cellsOf 3 = 1 := by kernel_rfl
theorem Tryd.cellsU : Tryd.prog.cellsOf 22 = 1 := by kernel_rfl
theorem Tryd.cellsNfa : Tryd.prog.cellsOf 57 = 2 := by kernel_rfl
theorem Tryd.cellsSts : Tryd.prog.cellsOf 55 = 1 := by kernel_rfl
theorem Tryd.bytesState : Tryd.prog.bytesOf 90 = 56 := by kernel_rfl

theorem len2 {α : Type} {l : List α} (h : l.length = 2) : ∃ a b, l = [a, b] := by
  match l, h with
  | [a, b], _ => exact ⟨a, b, rfl⟩
theorem len4 {α : Type} {l : List α} (h : l.length = 4) : ∃ a b c d, l = [a, b, c, d] := by
  match l, h with
  | [a, b, c, d], _ => exact ⟨a, b, c, d, rfl⟩
theorem len7 {α : Type} {l : List α} (h : l.length = 7) : ∃ a b c d e f g, l = [a, b, c, d, e, f, g] := by
  match l, h with
  | [a, b, c, d, e, f, g], _ => exact ⟨a, b, c, d, e, f, g, rfl⟩
section
variable {H : Type} {enc : TypeId × Value → H} {P : Program} {tSt tSts tNfa tSet tI tU : TypeId} {w : World} {base : Nat} {spare : Nat → Bool} {held : Bool}
/-- What the program says of the types. -/
structure Types (P : Program) (tSt tSts tNfa tSet tI tU : TypeId) : Prop where
  set : P.underlying tSet = some (.array 4 tU)
  u : P.underlying tU = some (.int .u64)
  i : P.underlying tI = some (.int .i64)
  sts : P.underlying tSts = some (.slice tSt)
  st : ∃ f0 f1 f2 f3, P.underlying tSt = some (.struct #[f0, f1, f2, f3]) ∧ (f0.type = tI ∧ f0.offset = 0) ∧ (f1.type = tSet ∧ f1.offset = 1) ∧ (f2.type = tI ∧ f2.offset = 5) ∧ (f3.type = tI ∧ f3.offset = 6)
  nfa : ∃ f0 f1, P.underlying tNfa = some (.struct #[f0, f1]) ∧ (f0.type = tSts ∧ f0.offset = 0) ∧ (f1.type = tI ∧ f1.offset = 1)
  cSet : P.cellsOf tSet = 4
  cU : P.cellsOf tU = 1
  cI : P.cellsOf tI = 1
  cSts : P.cellsOf tSts = 1
  cSt : P.cellsOf tSt = 7
  cNfa : P.cellsOf tNfa = 2
  bSt : P.bytesOf tSt = 56
def WSt (s : St) : Prop := Wok ⟨s.s0, s.s1, s.s2, s.s3⟩
theorem open_set (K : Types P tSt tSts tNfa tSet tI tU) {fuel : Nat} {cs : List Value} {x : DataW H × List MemPlace} (h : DataW.trod enc P w base spare held fuel tSet cs = some x) :
    ∃ a b c d : Int, cs = [.int .u64 a, .int .u64 b, .int .u64 c, .int .u64 d] ∧ Wok ⟨a, b, c, d⟩ := by
  obtain ⟨xs, m, rfl, hx, hl, hxl, hi⟩ := DataW.trod_array K.set h
  rw [K.cSet] at hl
  rw [K.cU] at hi
  obtain ⟨c0, c1, c2, c3, rfl⟩ := len4 hl
  · clear h
    have g : ∀ (i : Nat) (v : Value), [c0, c1, c2, c3][i]? = some v → ∃ n, v = .int .u64 n ∧ In64 n := by
      intro i v hv
      have hi4 : i < 4 := (List.getElem?_eq_some_iff.1 hv).1
      have h1 := hi i hi4
      have hxi : xs[i]? = some (xs[i]'(by omega)) := List.getElem?_eq_getElem (by omega)
      rw [hxi] at h1
      obtain ⟨n, hn, _, hw⟩ := DataW.trod_int K.u h1
      refine ⟨n, ?_, in64_wf hw⟩
      have := congrArg (·[0]?) hn
      simpa [List.getElem?_take, List.getElem?_drop, hv] using this
    obtain ⟨a, rfl, ha⟩ := g 0 _ rfl
    obtain ⟨b, rfl, hb⟩ := g 1 _ rfl
    obtain ⟨c, rfl, hc⟩ := g 2 _ rfl
    obtain ⟨d, rfl, hd⟩ := g 3 _ rfl
    exact ⟨a, b, c, d, rfl, ha, hb, hc, hd⟩
theorem open_state (K : Types P tSt tSts tNfa tSet tI tU) {fuel : Nat} {cs : List Value} {x : DataW H × List MemPlace} (h : DataW.trod enc P w base spare held fuel tSt cs = some x) : ∃ s : St, cs = s.cells ∧ WSt s := by
  obtain ⟨f0, f1, f2, f3, hst, ⟨t0, o0⟩, ⟨t1, o1⟩, ⟨t2, o2⟩, t3, o3⟩ := K.st
  obtain ⟨xs, m, rfl, hx, hl, hxl, hi⟩ := DataW.trod_struct hst h
  rw [K.cSt] at hl
  have hxl4 : xs.length = 4 := hxl
  obtain ⟨c0, c1, c2, c3, c4, c5, c6, rfl⟩ := len7 hl
  · clear h
    have h0 := hi 0 f0 rfl
    have h1 := hi 1 f1 rfl
    have h2 := hi 2 f2 rfl
    have h3 := hi 3 f3 rfl
    rw [t0, o0, K.cI] at h0
    rw [t1, o1, K.cSet] at h1
    rw [t2, o2, K.cI] at h2
    rw [t3, o3, K.cI] at h3
    rw [List.getElem?_eq_getElem (by omega)] at h0 h1 h2 h3
    obtain ⟨k, hk, _⟩ := DataW.trod_int K.i h0
    obtain ⟨a, b, c, d, hs, hw⟩ := open_set K h1
    obtain ⟨nx, hn, _⟩ := DataW.trod_int K.i h2
    obtain ⟨ot, ho, _⟩ := DataW.trod_int K.i h3
    simp at hk hs hn ho
    obtain ⟨rfl, rfl, rfl, rfl⟩ := hs
    subst hk hn ho
    exact ⟨⟨k, a, b, c, d, nx, ot⟩, rfl, hw⟩
theorem open_nfaW (K : Types P tSt tSts tNfa tSet tI tU) {b0 : Nat} {v : Value} {d : DataW H} {p : List MemPlace} (hv : Value.okWide P w .any b0 tNfa v) (h : DataW.Trod enc P w base spare held tNfa v d p) (hz : ∀ n ∈ d.weights P tNfa, n ≤ reachBytes) :
    ∃ (l : List St) (sa : Int) (A : Option Addr) (c : Nat), v = nfaV l sa A c ∧ StsAt w (fun b => b < w.heap.size) l A c ∧ ∀ s ∈ l, WSt s := by
  obtain ⟨f0, f1, hst, ⟨t0, o0⟩, t1, o1⟩ := K.nfa
  obtain ⟨cs, rfl, hsz⟩ := okWide_struct hst hv
  rw [K.cNfa] at hsz
  obtain ⟨l⟩ := cs
  obtain ⟨c0, c1, rfl⟩ := len2 (l := l) hsz
  · clear hv
    obtain ⟨fuel, hf⟩ := h
    obtain ⟨xs, m, rfl, hx, hl, hxl, hi⟩ := DataW.trod_struct hst hf
    have hxl2 : xs.length = 2 := hxl
    have h0 := hi 0 f0 rfl
    have h1 := hi 1 f1 rfl
    rw [t0, o0, K.cSts] at h0
    rw [t1, o1, K.cI] at h1
    rw [List.getElem?_eq_getElem (by omega)] at h0 h1
    obtain ⟨sa, hs, _⟩ := DataW.trod_int K.i h1
    simp [Value.cells] at hs
    subst hs
    rcases open_slice K.sts h0 with ⟨hc, hx0⟩ | ⟨a, len, cap, mm, n, D, Pl, hc, hb, hlc, hcm, hmm, hx0, hel⟩
    · simp [Value.cells] at hc
      subst hc
      exact ⟨[], sa, none, 0, rfl, ⟨by simp, by simp, fun _ => rfl, fun h => by simp at h⟩, by simp⟩
    · simp [Value.cells] at hc
      subst hc
      have hlen : len ≤ 17592186044416 := by
        have := hz ((len + (mm - len)) * 56) (by
          have hd : d = .agg (xs.map (·.1)) := by have := congrArg Prod.fst hx; simpa using this
          rw [hd]
          obtain ⟨x0, x1, rfl⟩ := len2 hxl2
          · clear hf hi
            simp only [List.getElem_cons_zero] at hx0
            simp only [List.map_cons, List.map_nil, DataW.weights, hst, DataW.weightsEach, List.mem_append, t0, t1]
            left
            rw [hx0]
            simp [DataW.weights, K.sts, K.bSt])
        have h2 := reachBytes_lt
        omega
      have hlm : len ≤ mm := by rw [hmm]; split <;> omega
      rw [K.cSt] at hel
      have hst : ∀ i, i < len → ∃ s : St, (∀ j, j < 7 → w.cell? ((a.add (i * 7)).add j) = s.cells[j]?) ∧ WSt s := by
        intro i hi
        obtain ⟨cs', hcs, ht⟩ := hel i (by omega)
        obtain ⟨_, _, hat⟩ := World.cells?_some hcs
        obtain ⟨s, rfl, hw⟩ := open_state K ht
        exact ⟨s, hat, hw⟩
      let g : Nat → St := fun i => if h : i < len then Classical.choose (hst i h) else default
      have hg : ∀ i, i < len → ∀ j, j < 7 → w.cell? ((a.add (i * 7)).add j) = (g i).cells[j]? := fun i hi => by
        simp only [g, dif_pos hi]; exact (Classical.choose_spec (hst i hi)).1
      have hgw : ∀ i, i < len → WSt (g i) := fun i hi => by
        simp only [g, dif_pos hi]; exact (Classical.choose_spec (hst i hi)).2
      refine ⟨(List.range len).map g, sa, some a, cap, by simp [nfaV], ⟨by simpa using hlc, by simpa using hlen, fun e => by simp at e, fun hne => ?_⟩, fun s hs => by obtain ⟨i, hi, rfl⟩ := List.mem_map.1 hs; exact hgw i (List.mem_range.1 hi)⟩
      simp only [List.length_map, List.length_range] at hne
      obtain ⟨b, o, spot⟩ := a
      have hc0 := hg 0 hne 0 (by omega)
      have hspot : spot = none := by
        have := World.cell?_spot (v := .int .i64 (g 0).k) (by simpa [St.cells] using hc0)
        simpa [Addr.add] using this
      subst hspot
      refine ⟨b, o, rfl, ?_, fun i hi => .of fun j hj => ?_⟩
      · have : w.cell? ⟨b, o, none⟩ = some (.int .i64 (g 0).k) := by simpa [addr_add', St.cells] using hc0
        exact World.block_lt_of_cell? _ _ this
      · have := hg i (by simpa using hi) j hj
        simpa [addr_add'] using this
theorem open_nfa (K : Types P tSt tSts tNfa tSet tI tU) {b0 : Nat} {v : Value} {d : DataW H} {p : List MemPlace} (hv : Value.okWide P w .any b0 tNfa v) (h : DataW.Trod enc P w base spare held tNfa v d p) (hz : ∀ n ∈ d.weights P tNfa, n ≤ reachBytes) :
    ∃ (l : List St) (sa : Int) (A : Option Addr) (c : Nat), v = nfaV l sa A c ∧ StsAt w (fun b => b < w.heap.size) l A c := by
  obtain ⟨l, sa, A, c, h1, h2, _⟩ := open_nfaW K hv h hz
  exact ⟨l, sa, A, c, h1, h2⟩
end
theorem types_ok : Types Tryd.prog 90 55 57 24 3 22 :=
  ⟨Tryd.underlying24, Tryd.underlying22, Tryd.underlying3, Tryd.underlying55, ⟨_, _, _, _, Tryd.underlying90, ⟨rfl, rfl⟩, ⟨rfl, rfl⟩, ⟨rfl, rfl⟩, rfl, rfl⟩, ⟨_, _, Tryd.underlying57, ⟨rfl, rfl⟩, rfl, rfl⟩, Tryd.cellsSet, Tryd.cellsU, Tryd.cellsInt, Tryd.cellsSts, Tryd.cellsState, Tryd.cellsNfa, Tryd.bytesState⟩
end Go.Proofs.YtdpmbanfaigmcaaDoor

/- Arguments opened: sets of bytes. -/
set_option linter.unusedVariables false
set_option linter.unusedSimpArgs false
namespace Go.Proofs.YtdpmbanfaigmcaaDoor
open Go.RowKit Go.ChangeShapes Go.WideShapes Go.Deep

theorem open_set4 {H : Type} {enc : TypeId × Value → H} {P : Program} {tSt tSts tNfa tSet tI tU : TypeId} {w : World} {base : Nat} {spare : Nat → Bool} {held : Bool} (K : Types P tSt tSts tNfa tSet tI tU) {b0 : Nat} {v : Value} {d : DataW H} {p : List MemPlace} (hv : Value.okWide P w .any b0 tSet v) (h : DataW.Trod enc P w base spare held tSet v d p) :
    ∃ S : W4, v = S.V ∧ Wok S := by
  simp only [Value.okWide, K.set] at hv
  obtain ⟨cs, rfl, hsz, _⟩ := hv
  obtain ⟨fuel, hf⟩ := h
  obtain ⟨a, b, c, d, hcs, hw⟩ := open_set K hf
  refine ⟨⟨a, b, c, d⟩, ?_, hw⟩
  obtain ⟨l⟩ := cs
  simp only [Value.cells] at hcs
  subst hcs
  rfl
end Go.Proofs.YtdpmbanfaigmcaaDoor

/- The wrap for a row that lists variables: the contract gets the listed variables' fact and the world's shape. What the three tables give the walk. -/
set_option linter.unusedVariables false
set_option linter.unusedSimpArgs false
namespace Go.Proofs.YtdpmbanfaigmcaaDoor
open Go.RowKit

section
variable {H : Type} {enc : TypeId × Value → H}
theorem handed_laid {a : Assume} {C : Checked} {os : Os} {f : FuncId} {fn : Func} {s : ChangeSpec} {conds : List PathCond} {apart fresh handsOn again : Bool} {X : World → Prop}
    (hX : ∀ (w w' : World), w.heap = w'.heap → X w → X w')
    (own : ownKnob C.prog.godebug = none) (started : os.Started) (noInit : C.prog.inits.idxOf? f = none) (hfn : C.prog.funcs[f]? = some fn)
    (witness : ∃ (w : World) (tape : Tape) (i : Input), w.os = os ∧ (w.forCall tape i).Shaped C.prog ∧ i.vars = [] ∧ Input.okWide C.prog (w.forCall tape i) .any w.heap.size f i ∧
      ((s.pre enc C.prog fn conds apart (w.forCall tape i).memory i.args ∧ X (w.forCall tape i).memory) ∧ sizedMet enc C.prog fn (OpenSpec.ofChange s) apart (w.forCall tape i).memory i.args) ∧ a.holds C.prog (lone (Frame.enter C.prog f i.args .normal) [] (w.forCall tape i)))
    (contract : ∀ (W : World) (args : Array Value) (ds gs : List (DataW H)) (before : List MemPlace) (base : Nat),
      (∀ (j : Nat) t v, fn.params[j]? = some t → args[j]? = some v → Value.okWide C.prog W .any base t v) →
      DataW.Whole enc C.prog fn.params.toList s.vars apart W args.toList ds gs before →
      (DataW.weightsEach C.prog (fn.params.toList ++ s.plain.varTypes C.prog) (ds ++ gs)).all (· ≤ reachBytes) = true → X W → W.ShapedOpen C.prog →
      Calls C.prog f args W fun e W' => ∃ v, e = .returned v ∧ s.post enc C.prog fn apart fresh handsOn again W args v W') :
    ReturnsInHanded a C os f .any (fun w args => (s.pre enc C.prog fn conds apart w args ∧ X w) ∧ sizedMet enc C.prog fn (OpenSpec.ofChange s) apart w args) (s.post enc C.prog fn apart fresh handsOn again) := by
  refine returnsInHanded_of_calls own started noInit witness ?_
  intro w tape i _ hshape _ hin hpre _
  obtain ⟨_, _, _, fn', hfn', _, _, _, _, hvals⟩ := hin
  obtain rfl : fn' = fn := Option.some.inj (hfn'.symm.trans hfn)
  obtain ⟨⟨⟨ds, gs, before, hW, _⟩, hx⟩, hsz⟩ := hpre
  refine (contract (w.forCall tape i) i.args ds gs before w.heap.size hvals (DataW.Whole.of_heap (w' := w.forCall tape i) (by rfl) hW) (hsz.weights hW) (hX _ _ (by rfl) hx) hshape).mono ?_
  rintro e W' ⟨v, rfl, hpost⟩
  exact ChangeSpec.post_blind hpost
end

def laid3 : List (String × DataW Unit) := [("math/bits.deBruijn32tab", Rows.laid_math_bits_deBruijn32tab), ("math/bits.deBruijn64tab", Rows.laid_math_bits_deBruijn64tab), ("internal/strconv.uint64pow10", Rows.laid_internal_strconv_uint64pow10)]
theorem pow10_is : (Rows.laid_internal_strconv_uint64pow10 : DataW Unit) = Lib.tabData .u64 Lib.pow10Tab := by kernel_rfl
theorem tab_of_laid {W : World} (h : laidMetH Tryd.prog laid3 W) : TabIn W.heap.size W := by
  rw [MakeChecks.laidMetH_plain _ _ _ (by kernel_rfl)] at h
  have h2 := (laidMet.tail (laidMet.tail h))
  rw [pow10_is] at h2
  have hT := Lib.tabIs_of_head (g := 1) (t := 144) (e := 22) (n := 20) (by kernel_rfl) (by kernel_rfl) (by kernel_rfl) (by kernel_rfl) (by kernel_rfl) (by kernel_rfl) h2
  refine ⟨hT, fun g hg => ?_⟩
  unfold Lib.TabIs World.var? at hT
  rw [hg, Option.bind_some] at hT
  rcases Nat.lt_or_ge g W.heap.size with h | h
  · exact h
  · rw [show W.heap[g]? = none from Array.getElem?_eq_none h] at hT
    cases hT
theorem laid_start (os : Os) (args : Array Value) : laidMetH Tryd.prog laid3 ((World.laidAll Tryd.prog os laid3).forCall (fun _ _ => 0) ⟨#[], args, []⟩).memory := by
  rw [MakeChecks.laidMetH_plain _ _ _ (by kernel_rfl)]
  exact laidMet_laidAll _ (by kernel_rfl) (by kernel_rfl)
theorem laid_shaped (os : Os) (args : Array Value) : ((World.laidAll Tryd.prog os laid3).forCall (fun _ _ => 0) ⟨#[], args, []⟩).Shaped Tryd.prog := World.shaped_of_ZipB (by kernel_rfl) (by kernel_rfl)
end Go.Proofs.YtdpmbanfaigmcaaDoor

/- PatternSets holds: whatever comes in, the call of the law returns true, and what came in reads as it read; the listed variables tied tu the text of the program. -/
set_option linter.unusedVariables false
set_option linter.unusedSimpArgs false
namespace Go.Proofs.YtdpmbanfaigmcaaDoor
open Go.ChangeShapes Go.WideShapes Go.ChangeAt Go.RowKit
open Go.ChangeMaps (open_string shut_string)

theorem own : ownKnob Tryd.prog.godebug = none := by kernel_rfl
theorem laidOut : laidOutB Tryd.prog = true := by kernel_rfl
theorem str_bs (s : ByteArray) : ∃ r : Bs, s = bs r := ⟨s.data.toList, by simp [bs]⟩

set_option maxRecDepth 100000 in
theorem patternSets_lifted (os : Os) (started : os.Started) (H : Type) (enc : TypeId × Value → H) :
    ReturnsInHanded {} Tryd.checked os 9 .any (fun w args => (Rows.patternSetsSpec.pre enc Tryd.prog Tryd.f9 Rows.patternSetsRow.domain false w args ∧ laidMetH Tryd.prog laid3 w) ∧ sizedMet enc Tryd.prog Tryd.f9 (OpenSpec.ofChange Rows.patternSetsSpec) false w args) (Rows.patternSetsSpec.post enc Tryd.prog Tryd.f9 false true false false) := by
  refine handed_laid (C := Tryd.checked) (X := fun w => laidMetH Tryd.prog laid3 w) (fun _ _ hh h => h.of_heap hh) own started (by kernel_rfl) Tryd.func9
    (ChangeSpec.witness_shaped (enc := enc) (C := Tryd.checked) (os := os) (X := fun w _ => laidMetH Tryd.prog laid3 w) false (World.laidAll Tryd.prog os laid3) #[.agg #[.int .u64 0, .int .u64 0, .int .u64 0, .int .u64 0]] 8 (World.laidAll_os _ _ _) (laid_shaped os _) (by kernel_rfl) (by kernel_rfl) (by kernel_rfl) (laid_start os _)) ?_
  intro W args ds gs before base hval0 hW hwz hL hsh
  have hM : MaxOk W := Tryd.laysM219.s1_3 W hsh
  have hT : TabIn W.heap.size W := tab_of_laid hL
  have hval : ∀ (j : Nat) t v, Tryd.f9.params[j]? = some t → args[j]? = some v → Value.okWide Tryd.prog W .any base t v := hval0
  have hW' := hW
  obtain ⟨p, q, hA0, hV, rfl, hfz, hnd⟩ := hW
  have hA : DataW.TrodAll enc Tryd.prog W 0 (fun _ => true) true Tryd.f9.params.toList args.toList ds p := hA0
  have hwz' : (DataW.weightsEach Tryd.prog (Tryd.f9.params.toList ++ Rows.patternSetsSpec.plain.varTypes Tryd.prog) (ds ++ gs)).all (· ≤ reachBytes) = true := hwz
  rw [Tryd.params9] at hA hval hwz'
  obtain ⟨v0, vs0, d0, ds0, p0, q0, hargs, rfl, rfl, h0, r0⟩ := trodAll_cons hA
  obtain ⟨rfl, rfl, rfl⟩ := trodAll_nil r0
  obtain rfl : args = #[v0] := by cases args; simp_all
  obtain ⟨rfl, rfl⟩ := trodVars_none hV
  have k0 := h0
  have lt0 : ∀ x ∈ p0, x.block < W.heap.size := by obtain ⟨m, hm⟩ := k0; exact DataW.trod_lt m _ _ _ hm
  obtain ⟨S0, hv0, hws0⟩ := open_set4 types_ok (hval 0 24 v0 rfl rfl) h0
  clear hA0 hval0 hwz hwz'
  have hcall := psets_any W hM hT S0 hws0
  rw [← hv0] at hcall
  refine hcall.mono fun e W' ⟨he, bel⟩ => ?_
  subst he
  exact ⟨_, rfl, _, _, _, [], _, [], hW', trodAll_mk1 (shut_bool Tryd.underlying4 _), (trodAll_cons_mk (Below.trod laidOut (by kernel_rfl) (of_decide_eq_true (by kernel_rfl)) k0 bel lt0) trodAll_mk0), rfl, bel.frame _, fun h => by cases h⟩

theorem patternSets_over : Rows.patternSetsRow.holds Tryd.pinned (OpenSpec.ofChange Rows.patternSetsSpec) :=
  OpenClaim.holds_of_wide 9 Tryd.f9 rfl rfl rfl rfl rfl rfl rfl ⟨rfl, rfl, rfl, rfl, rfl⟩ rfl rfl rfl rfl rfl (by kernel_rfl) Tryd.func9 (by kernel_rfl)
    (of_decide_eq_true (by kernel_rfl)) (by unfold Func.isWrapper; first | (rw [if_pos (by decide +kernel)]; kernel_rfl) | (rw [if_neg (by decide +kernel)]; exact ⟨rfl, rfl⟩))
    (fun os started H enc _ => patternSets_lifted os started H enc)

/-- The statement: the card. -/
theorem patternSets_holds : Rows.PatternSetsCardSaid :=
  Claim7.holds_tied_plain_at .later [] [.data, .data, .data] true (true, "a6abc91ec4128a4b8bc474f08fb92ea6aca3b5120e8e58c41cad5efd768e827b") false
    patternSets_over (fun _ h => by cases h) (by kernel_rfl) (fun _ h => by cases h) patternSets_row_tie rfl ⟨rfl, rfl⟩ (by kernel_rfl) rfl
    (fun f fn hf hfn => by
      obtain rfl : f = 9 := Option.some.inj ((show Tryd.prog.funcNamed "vouch/vouchlaw10.PatternSets" = some 9 by kernel_rfl).symm.trans hf) |>.symm
      obtain rfl : fn = Tryd.f9 := (Option.some.inj (Tryd.func9.symm.trans hfn)).symm
      exact ⟨by kernel_rfl, fun j t ht => by
        rw [Tryd.params9] at ht
        have h3 : t ∈ [24] := by
          rcases j with _ | j
          · simp at ht; subst ht; simp
          · simp at ht
        simp only [List.mem_cons, List.not_mem_nil, or_false] at h3
        rcases h3 with rfl
        all_goals first | exact (show Tryd.prog.wantsStandIn 24 = false by kernel_rfl)⟩)
    (by kernel_rfl)
end Go.Proofs.YtdpmbanfaigmcaaDoor

