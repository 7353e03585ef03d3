/- NfaParts, plain: the sizes of a row, of a choice and of repeats of right trees; and trees over literal blocks. -/
import Derived.Test.YtdpmbanfaigmcaaVRef10
import Derived.Test.YtdpmbanfaigmcaaVMake
import Derived.Test.YtdpmbanfaigmcaaVParL
set_option linter.unusedVariables false
set_option linter.unusedSimpArgs false
namespace Go.Proofs.Ytdpmbanfaigmcaa
open Go.RowKit

/-- fits: a number told, or refused where it is too great. -/
def fitsF (n e want : Int) : Bool := if 4096 < want then (e == 3 && n == 0) else (e == 0 && n == want)
def rowT (l : List T) : T := .mk 4 0 0 0 0 0 0 l
def orT (l : List T) : T := .mk 5 0 0 0 0 0 0 l


theorem size_of {t : T} (hr : rightF t = true) (hn : nodesF t ≤ 2048) : sizeK t = (if 4096 < 1 + countF t then 0 else 1 + countF t) ∧ sizeE t = (if 4096 < 1 + countF t then 3 else 0) := by
  have hc : checkF t = 0 := by
    have := sizeF_min t 2048 (by omega)
    rw [checkF, if_neg (by omega), if_pos hr]
  have hc' : ¬ checkF t ≠ 0 := by omega
  rw [sizeK, sizeE, if_neg hc', if_neg hc']
  exact ⟨rfl, rfl⟩
theorem fits_of {t : T} {s want : Int} (hr : rightF t = true) (hn : nodesF t ≤ 2048) (hs : countF t = min 4097 s) (hw : want = 1 + s) : fitsF (sizeK t) (sizeE t) want = true := by
  obtain ⟨h1, h2⟩ := size_of hr hn
  unfold fitsF
  rw [h1, h2, hs, hw]
  split
  · rw [if_pos (by omega), if_pos (by omega)]; rfl
  · rw [if_neg (by omega), if_neg (by omega)]
    simp only [beq_self_eq_true, Bool.true_and, beq_iff_eq]
    omega
theorem right_row {t u : T} (ht : rightF t = true) (hu : rightF u = true) : rightF (rowT [t, u]) = true := by
  rw [rightF_eq]; simp [rowT, T.k, T.s0, T.s1, T.s2, T.s3, T.mn, T.mx, T.ps, rightL, ht, hu]
theorem right_or {t u : T} (ht : rightF t = true) (hu : rightF u = true) : rightF (orT [t, u]) = true := by
  rw [rightF_eq]; simp [orT, T.k, T.s0, T.s1, T.s2, T.s3, T.mn, T.mx, T.ps, rightL, ht, hu]
theorem right_rep {t : T} {m n : Int} (ht : rightF t = true) (h0 : 0 ≤ m) (h1 : m ≤ 255) (h2 : n ≤ 255) (h3 : n = -1 ∨ m ≤ n) : rightF (repT m n t) = true := by
  rw [rightF_eq]
  simp only [repT, T.k, T.s0, T.s1, T.s2, T.s3, T.mn, T.mx, T.ps, rightL, ht, List.length_cons, List.length_nil]
  rw [if_neg (by simp), if_neg (by simp), if_neg (by simp), if_pos trivial, if_neg (by omega)]
  rfl
theorem parts_fits {t u : T} (et : sizeE t = 0) (eu : sizeE u = 0) (nt : nodesF t ≤ 1000) (nu : nodesF u ≤ 1000) {m n : Int} (hm0 : 0 ≤ m) (hm : m ≤ 5) (hn0 : m ≤ n) (hn : n ≤ 10) :
    fitsF (sizeK (rowT [t, u])) (sizeE (rowT [t, u])) (sizeK t + sizeK u - 1) = true ∧ fitsF (sizeK (orT [t, u])) (sizeE (orT [t, u])) (sizeK t + sizeK u) = true ∧
    fitsF (sizeK (repT m n t)) (sizeE (repT m n t)) ((sizeK t - 1) * n + n - m + 1) = true ∧ fitsF (sizeK (repT m (-1) t)) (sizeE (repT m (-1) t)) ((sizeK t - 1) * (m + 1) + 2) = true := by
  obtain ⟨rt, ct, kt⟩ := sizeE_zero et
  obtain ⟨ru, cu, ku⟩ := sizeE_zero eu
  have bt := (countF_bd t rt).1
  have bu := (countF_bd u ru).1
  have e1 : sizeK t - 1 = countF t := by omega
  rw [e1]
  have cl : countL [t, u] 0 = min 4097 (countF t + countF u) := by rw [countL, countL, countL]; omega
  have c1 : countL [t] 0 = countF t := by rw [countL, countL]; omega
  refine ⟨fits_of (s := countF t + countF u) (right_row rt ru) ?_ ?_ (by omega), fits_of (s := countF t + countF u + 1) (right_or rt ru) ?_ ?_ (by omega), fits_of (s := countF t * n + n - m) (right_rep rt hm0 (by omega) (by omega) (.inr hn0)) ?_ ?_ (by omega), fits_of (s := countF t * (m + 1) + 1) (right_rep rt hm0 (by omega) (by omega) (.inl rfl)) ?_ ?_ (by omega)⟩
  · rw [nodesF_eq]; simp only [rowT, T.ps, nodesL]; omega
  · rw [countF_eq]; simp only [rowT, T.k, T.mn, T.mx, T.ps, cl, countK]; rw [if_neg (by omega), if_neg (by omega), if_neg (by omega), if_neg (by omega)]; omega
  · rw [nodesF_eq]; simp only [orT, T.ps, nodesL]; omega
  · rw [countF_eq]; simp only [orT, T.k, T.mn, T.mx, T.ps, cl, countK, List.length_cons, List.length_nil]; rw [if_neg (by omega), if_neg (by omega), if_pos trivial]; omega
  · rw [nodesF_eq]; simp only [repT, T.ps, nodesL]; omega
  · rw [countF_eq]; simp only [repT, T.k, T.mn, T.mx, T.ps, c1, countK]; rw [if_neg (by omega), if_neg (by omega), if_neg (by omega), if_pos trivial, if_neg (by omega)]
  · rw [nodesF_eq]; simp only [repT, T.ps, nodesL]; omega
  · rw [countF_eq]; simp only [repT, T.k, T.mn, T.mx, T.ps, c1, countK]; rw [if_neg (by omega), if_neg (by omega), if_neg (by omega), if_pos trivial, if_pos (by omega)]

/-- A tree over a block of nodes. -/
theorem node_lit {W : World} {ok : Nat → Prop} {g : Nat} (R : T) (L : List (T × Option Addr × Nat)) (hps : R.ps = L.map (·.1)) (hlen : L.length ≤ 17592186044416) (hg : ok g)
    (h8 : ∀ (i : Nat) (x : T × Option Addr × Nat), L[i]? = some x → At8 W g (i * 8) x.1 x.2.1 x.2.2) (hN : ∀ (i : Nat) (x : T × Option Addr × Nat), L[i]? = some x → NodeAt W ok x.1 x.2.1 x.2.2) : NodeAt W ok R (some ⟨g, 0, none⟩) L.length := by
  have hx : ∀ (i : Nat) (p : T), R.ps[i]? = some p → ∃ x : T × Option Addr × Nat, L[i]? = some x ∧ x.1 = p := fun i p h => by
    rw [hps, List.getElem?_map, Option.map_eq_some_iff] at h
    exact h
  refine .mk R _ _ (fun i => match L[i]? with | some x => x.2.1 | none => none) (fun i => match L[i]? with | some x => x.2.2 | none => 0) (by rw [hps]; simp) (by rw [hps]; simpa using hlen) (fun _ => ⟨g, 0, rfl, hg, fun i p h => ?_⟩) (fun i p h => ?_)
  · obtain ⟨x, hi, rfl⟩ := hx i p h
    simp only [hi, Nat.zero_add]
    exact h8 i x hi
  · obtain ⟨x, hi, rfl⟩ := hx i p h
    simp only [hi]
    exact hN i x hi
theorem get1 {α : Type} {P : Nat → α → Prop} {a : α} (h0 : P 0 a) : ∀ (i : Nat) (x : α), [a][i]? = some x → P i x
  | 0, x, h => by simp at h; subst h; exact h0
  | i + 1, x, h => by simp at h
theorem get2 {α : Type} {P : Nat → α → Prop} {a b : α} (h0 : P 0 a) (h1 : P 1 b) : ∀ (i : Nat) (x : α), [a, b][i]? = some x → P i x
  | 0, x, h => by simp at h; subst h; exact h0
  | 1, x, h => by simp at h; subst h; exact h1
  | i + 2, x, h => by simp at h
theorem NodeAt.wide {W w : World} {ok ok' : Nat → Prop} {t : T} {A : Option Addr} {c : Nat} (h : NodeAt w ok t A c) {B : Nat} (hb : Below B w W) (hok : ∀ b, ok b → b < B) (hk : ∀ b, b < B → ok' b) : NodeAt W ok' t A c :=
  h.mono fun b hbk => ⟨hk b (hok b hbk), fun o => hb.cell (p := ⟨b, o, none⟩) (hok b hbk)⟩
theorem NodeAt.wider {w : World} {ok : Nat → Prop} {t : T} {A : Option Addr} {c c' : Nat} (h : NodeAt w ok t A c) (hc : t.ps.length ≤ c') : NodeAt w ok t A c' := by
  cases h with
  | mk _ _ _ As cs h1 h2 h3 h4 => exact .mk t A c' As cs hc h2 h3 h4
end Go.Proofs.Ytdpmbanfaigmcaa
