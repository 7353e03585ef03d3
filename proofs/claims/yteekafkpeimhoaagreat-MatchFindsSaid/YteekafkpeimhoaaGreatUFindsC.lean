/- Merged texts, part of the proof Finds: ParN, ParI, ParA, ParC, ParP, ParQ, ParS, ParW, ParX, ParY, ParZ, Comp, Qa, Qb, Qc. -/
import Derived.Test.YteekafkpeimhoaaGreatUFindsA
import Derived.Test.YteekafkpeimhoaaGreatUFindsB
import Derived.BigRegion
import Derived.Deep.DeepCutAuto
import Derived.Laws.Strings2
import Derived.Deep.QuietTactic
import Derived.BigQuiet
/- The pattern reader's number, interval: walked. -/
set_option linter.unusedVariables false
set_option linter.unusedSimpArgs false
namespace Go.Proofs.YteekafkpeimhoaaGreat
open Go.RowKit

/-- What a reading step leaves: nothing read behind an error; else what is read, or the error. -/
def Out {α : Type} (f : Bs → Except Int (α × Bs)) (s : Rs) (v : α → Prop) (s' : Rs) : Prop :=
  match s with
  | .error e => s' = .error e
  | .ok r => match f r with
    | .error e => s' = .error e
    | .ok (x, r') => v x ∧ s' = .ok r'
theorem Out.err {α : Type} {f : Bs → Except Int (α × Bs)} {e : Int} {v : α → Prop} : Out f (.error e) v (.error e) := rfl
theorem Out.bad {α : Type} {f : Bs → Except Int (α × Bs)} {r : Bs} {e : Int} {v : α → Prop} (h : f r = .error e) : Out f (.ok r) v (.error e) := by simp only [Out, h]
theorem Out.good {α : Type} {f : Bs → Except Int (α × Bs)} {r r' : Bs} {x : α} {v : α → Prop} (h : f r = .ok (x, r')) (hv : v x) : Out f (.ok r) v (.ok r') := by simp only [Out, h]; exact ⟨hv, trivial⟩
/-- What number hands back. -/
def GNum (p : Nat) (op : Int) (s : Rs) (w : World) (en : Ending) (w' : World) : Prop :=
  ∃ (n : Int) (s' : Rs), en = .returned (.int .i64 n) ∧ -9223372036854775808 ≤ n ∧ n ≤ 9223372036854775807 ∧ RS w' p op s' ∧ Off p w w' ∧ Out numberP s (fun m => n = m ∧ 0 ≤ n ∧ n ≤ 255) s'
def lim10 (w : Nat) : Int := if w = 0 then 0 else if w = 1 then 9 else if w = 2 then 99 else if w = 3 then 999 else 9999
theorem digits_bd : ∀ (k : Nat) (n : Int) (w : Nat) (r : Bs), k + w ≤ 4 → 0 ≤ n → n ≤ lim10 w → 0 ≤ (digitsP k n w r).1 ∧ (digitsP k n w r).1 ≤ 9999 ∧ (digitsP k n w r).2.1 ≤ 4
  | 0, n, w, r, h, h0, h1 => by
    rw [digitsP]; simp only
    unfold lim10 at h1
    refine ⟨h0, ?_, by omega⟩
    split at h1; omega; split at h1; omega; split at h1; omega; split at h1; omega; omega
  | k + 1, n, w, [], h, h0, h1 => by
    rw [digitsP]; simp only
    unfold lim10 at h1
    refine ⟨h0, ?_, by omega⟩
    split at h1; omega; split at h1; omega; split at h1; omega; split at h1; omega; omega
  | k + 1, n, w, c :: t, h, h0, h1 => by
    rw [digitsP]
    split
    · rename_i hc
      simp only [isDigit, Bool.and_eq_true, decide_eq_true_eq] at hc
      refine digits_bd k _ (w + 1) t (by omega) (by omega) ?_
      unfold lim10 at h1 ⊢
      rcases (show w = 0 ∨ w = 1 ∨ w = 2 ∨ w = 3 by omega) with rfl | rfl | rfl | rfl <;> simp at h1 ⊢ <;> omega
    · simp only
      unfold lim10 at h1
      refine ⟨h0, ?_, by omega⟩
      split at h1; omega; split at h1; omega; split at h1; omega; split at h1; omega; omega

set_option maxRecDepth 100000 in
set_option maxHeartbeats 2000000 in
theorem number_any (w : World) (p : Nat) (op : Int) (s : Rs) (h : RS w p op s) :
    Calls Tryz.prog 73 #[.pointer (some ⟨p, 0, none⟩)] w fun en w' => GNum p op s w en w' := by
  rcases s with e | r
  · have c0 := h.rdr.c0
    simp only [Rs.rest] at c0
    have H := Lib.hid h; clear h
    go_enter Tryz.func73, Tryz.ntmps73
    go_wp2_with fail
    go_loopg [3, 4] 1 (fun n a b wr => a = .int .i64 0 ∧ b = .int .i64 0 ∧ wr = w)
    case atStart => exact ⟨rfl, rfl, rfl⟩
    case round =>
      obtain ⟨rfl, rfl, rfl⟩ := hrel
      go_wp2_with fail
      refine (fail_any _ p op _ 105 (by omega) H.out).mono ?_
      rintro en w1 ⟨rfl, h1, hb1⟩
      go_wp2_with fail
      go_ret
      exact ⟨0, _, rfl, by omega, by omega, h1, hb1, Out.err⟩
  · have H := Lib.hid h; clear h
    have hbd := digits_bd 4 0 0 r (by omega) (by omega) (by simp [lim10])
    have Hbd := Lib.hid hbd; clear hbd
    go_enter Tryz.func73, Tryz.ntmps73
    go_wp2_with fail
    go_loopg [3, 4] 4 (fun k a b wr => ∃ (n : Int) (wd : Nat) (r' : Bs), a = .int .i64 n ∧ b = .int .i64 wd ∧ k + wd = 4 ∧ 0 ≤ n ∧ n ≤ lim10 wd ∧ digitsP k n wd r' = digitsP 4 0 0 r ∧ RS wr p op (.ok r') ∧ Off p w wr)
    case atStart => exact ⟨0, 0, r, rfl, rfl, rfl, by omega, by simp [lim10], rfl, H.out, Off.refl p w⟩
    case round =>
      obtain ⟨n, wd, r', rfl, rfl, hk, hn0, hn1, hd, hR, hO⟩ := hrel
      have hn2 : n ≤ 9999 := by
        unfold lim10 at hn1
        split at hn1; omega; split at hn1; omega; split at hn1; omega; split at hn1; omega; omega
      have c0 := hR.rdr.c0
      simp only [Rs.rest] at c0
      have HR := Lib.hid hR; have Hd := Lib.hid hd; have Hn1 := Lib.hid hn1; clear hR hd hn1
      have done : gk = 0 ∨ r' = [] ∨ (∃ c t, r' = c :: t ∧ isDigit c = false) → digitsP 4 0 0 r = (n, wd, r') := fun hh => by
        rw [← Hd.out]
        rcases hh with rfl | rfl | ⟨c, t, rfl, hc⟩
        · rw [digitsP]
        · cases gk <;> rw [digitsP]
        · cases gk with
          | zero => rw [digitsP]
          | succ k => rw [digitsP, hc]; rfl
      have Done := Lib.hid done; clear done
      rcases r' with _ | ⟨c, t⟩
      · have Done := Lib.hid (Done.out (.inr (.inl rfl)))
        have hnum : numberP r = if wd = 0 ∨ 3 < wd ∨ 255 < n then .error 105 else .ok (n, []) := by
          unfold numberP; rw [Done.out]
        have Hnum := Lib.hid hnum; clear hnum
        clear Done Hd Hn1
        by_cases b1 : wd = 0
        · subst b1
          have Hnum := Lib.hid (show numberP r = .error 105 by rw [Hnum.out, if_pos (.inl rfl)])
          go_wp2_with fail
          all_goals
            refine (fail_any _ p op _ 105 (by omega) HR.out).mono ?_
            rintro en w1 ⟨rfl, h1, hb1⟩
            go_wp2_with fail
            go_ret
            exact ⟨n, _, rfl, by omega, by omega, h1, hO.trans hb1, Out.bad Hnum.out⟩
        by_cases b2 : 3 < wd
        · have Hnum := Lib.hid (show numberP r = .error 105 by rw [Hnum.out, if_pos (.inr (.inl b2))])
          go_wp2_with fail
          all_goals
            refine (fail_any _ p op _ 105 (by omega) HR.out).mono ?_
            rintro en w1 ⟨rfl, h1, hb1⟩
            go_wp2_with fail
            go_ret
            exact ⟨n, _, rfl, by omega, by omega, h1, hO.trans hb1, Out.bad Hnum.out⟩
        by_cases b3 : 255 < n
        · have Hnum := Lib.hid (show numberP r = .error 105 by rw [Hnum.out, if_pos (.inr (.inr b3))])
          go_wp2_with fail
          all_goals
            refine (fail_any _ p op _ 105 (by omega) HR.out).mono ?_
            rintro en w1 ⟨rfl, h1, hb1⟩
            go_wp2_with fail
            go_ret
            exact ⟨n, _, rfl, by omega, by omega, h1, hO.trans hb1, Out.bad Hnum.out⟩
        · have Hnum := Lib.hid (show numberP r = .ok (n, []) by rw [Hnum.out, if_neg (by omega)])
          have hb1 : ((wd : Int) == 0) = false := by rw [beq_eq_false_iff_ne]; omega
          have hb2 : decide (3 < (wd : Int)) = false := by rw [decide_eq_false_iff_not]; omega
          clear b1 b2
          go_wp2_with fail
          all_goals
            go_ret
            exact ⟨n, _, rfl, by omega, by omega, HR.out, hO, Out.good Hnum.out ⟨rfl, hn0, by omega⟩⟩
      · have hc2 : c.toNat < 256 := c.toNat_lt
        by_cases d1 : 48 ≤ c.toNat
        case' neg =>
          have Done := Lib.hid (Done.out (.inr (.inr ⟨c, t, rfl, by simp [isDigit]; omega⟩)))
          have hnum : numberP r = if wd = 0 ∨ 3 < wd ∨ 255 < n then .error 105 else .ok (n, c :: t) := by
            unfold numberP; rw [Done.out]
          have Hnum := Lib.hid hnum; clear hnum
          clear Done Hd Hn1
          by_cases b1 : wd = 0
          · subst b1
            have Hnum := Lib.hid (show numberP r = .error 105 by rw [Hnum.out, if_pos (.inl rfl)])
            go_wp2_with fail
            all_goals
              refine (fail_any _ p op _ 105 (by omega) HR.out).mono ?_
              rintro en w1 ⟨rfl, h1, hb1⟩
              go_wp2_with fail
              go_ret
              exact ⟨n, _, rfl, by omega, by omega, h1, hO.trans hb1, Out.bad Hnum.out⟩
          by_cases b2 : 3 < wd
          · have Hnum := Lib.hid (show numberP r = .error 105 by rw [Hnum.out, if_pos (.inr (.inl b2))])
            go_wp2_with fail
            all_goals
              refine (fail_any _ p op _ 105 (by omega) HR.out).mono ?_
              rintro en w1 ⟨rfl, h1, hb1⟩
              go_wp2_with fail
              go_ret
              exact ⟨n, _, rfl, by omega, by omega, h1, hO.trans hb1, Out.bad Hnum.out⟩
          by_cases b3 : 255 < n
          · have Hnum := Lib.hid (show numberP r = .error 105 by rw [Hnum.out, if_pos (.inr (.inr b3))])
            go_wp2_with fail
            all_goals
              refine (fail_any _ p op _ 105 (by omega) HR.out).mono ?_
              rintro en w1 ⟨rfl, h1, hb1⟩
              go_wp2_with fail
              go_ret
              exact ⟨n, _, rfl, by omega, by omega, h1, hO.trans hb1, Out.bad Hnum.out⟩
          · have Hnum := Lib.hid (show numberP r = .ok (n, c :: t) by rw [Hnum.out, if_neg (by omega)])
            have hb1 : ((wd : Int) == 0) = false := by rw [beq_eq_false_iff_ne]; omega
            have hb2 : decide (3 < (wd : Int)) = false := by rw [decide_eq_false_iff_not]; omega
            clear b1 b2
            go_wp2_with fail
            all_goals
              go_ret
              exact ⟨n, _, rfl, by omega, by omega, HR.out, hO, Out.good Hnum.out ⟨rfl, hn0, by omega⟩⟩
        by_cases d2 : c.toNat ≤ 57
        case' neg =>
          have Done := Lib.hid (Done.out (.inr (.inr ⟨c, t, rfl, by simp [isDigit]; omega⟩)))
          have hnum : numberP r = if wd = 0 ∨ 3 < wd ∨ 255 < n then .error 105 else .ok (n, c :: t) := by
            unfold numberP; rw [Done.out]
          have Hnum := Lib.hid hnum; clear hnum
          clear Done Hd Hn1
          by_cases b1 : wd = 0
          · subst b1
            have Hnum := Lib.hid (show numberP r = .error 105 by rw [Hnum.out, if_pos (.inl rfl)])
            go_wp2_with fail
            all_goals
              refine (fail_any _ p op _ 105 (by omega) HR.out).mono ?_
              rintro en w1 ⟨rfl, h1, hb1⟩
              go_wp2_with fail
              go_ret
              exact ⟨n, _, rfl, by omega, by omega, h1, hO.trans hb1, Out.bad Hnum.out⟩
          by_cases b2 : 3 < wd
          · have Hnum := Lib.hid (show numberP r = .error 105 by rw [Hnum.out, if_pos (.inr (.inl b2))])
            go_wp2_with fail
            all_goals
              refine (fail_any _ p op _ 105 (by omega) HR.out).mono ?_
              rintro en w1 ⟨rfl, h1, hb1⟩
              go_wp2_with fail
              go_ret
              exact ⟨n, _, rfl, by omega, by omega, h1, hO.trans hb1, Out.bad Hnum.out⟩
          by_cases b3 : 255 < n
          · have Hnum := Lib.hid (show numberP r = .error 105 by rw [Hnum.out, if_pos (.inr (.inr b3))])
            go_wp2_with fail
            all_goals
              refine (fail_any _ p op _ 105 (by omega) HR.out).mono ?_
              rintro en w1 ⟨rfl, h1, hb1⟩
              go_wp2_with fail
              go_ret
              exact ⟨n, _, rfl, by omega, by omega, h1, hO.trans hb1, Out.bad Hnum.out⟩
          · have Hnum := Lib.hid (show numberP r = .ok (n, c :: t) by rw [Hnum.out, if_neg (by omega)])
            have hb1 : ((wd : Int) == 0) = false := by rw [beq_eq_false_iff_ne]; omega
            have hb2 : decide (3 < (wd : Int)) = false := by rw [decide_eq_false_iff_not]; omega
            clear b1 b2
            go_wp2_with fail
            all_goals
              go_ret
              exact ⟨n, _, rfl, by omega, by omega, HR.out, hO, Out.good Hnum.out ⟨rfl, hn0, by omega⟩⟩
        by_cases d3 : gk = 0
        · have Done := Lib.hid (Done.out (.inl d3))
          have hw4 : 3 < wd := by omega
          have hnum : numberP r = .error 105 := by
            unfold numberP; rw [Done.out, if_pos (.inr (.inl hw4))]
          have Hnum := Lib.hid hnum; clear hnum
          have hb2 : decide ((wd : Int) < 4) = false := by rw [decide_eq_false_iff_not]; omega
          clear Done Hd Hn1 d3
          go_wp2_with fail
          all_goals
            refine (fail_any _ p op _ 105 (by omega) HR.out).mono ?_
            rintro en w1 ⟨rfl, h1, hb1⟩
            go_wp2_with fail
            go_ret
            exact ⟨n, _, rfl, by omega, by omega, h1, hO.trans hb1, Out.bad Hnum.out⟩
        · have hw4 : wd < 4 := by omega
          have hn3 : n ≤ 999 := by
            have := Hn1.out
            unfold lim10 at this
            rcases (show wd = 0 ∨ wd = 1 ∨ wd = 2 ∨ wd = 3 by omega) with rfl | rfl | rfl | rfl <;> simp at this <;> omega
          have hs1 : IntKind.u8.wrap ((c.toNat : Int) - 48) = (c.toNat : Int) - 48 := by simp [IntKind.wrap, IntKind.signed, IntKind.bits]; omega
          go_wp2_with fail
          refine (next_any wr p op _ 105 (by omega) HR.out).mono ?_
          rintro en w1 ⟨rfl, h1, hb1⟩
          have H1 := Lib.hid h1
          clear h1
          have hcn : (nextS (.ok (c :: t)) 105).1 = c.toNat := rfl
          rw [hcn]
          clear hcn
          go_wp2_with fail
          go_roundg (gk - 1)
          case measure => omega
          case rel =>
            refine ⟨10 * n + (c.toNat - 48), wd + 1, t, by go_num, by go_num, by omega, by omega, ?_, ?_, H1.out, hO.trans hb1⟩
            · have := Hn1.out
              unfold lim10 at this ⊢
              rcases (show wd = 0 ∨ wd = 1 ∨ wd = 2 ∨ wd = 3 by omega) with rfl | rfl | rfl | rfl <;> simp at this ⊢ <;> omega
            · rw [← Hd.out]
              obtain ⟨k, rfl⟩ : ∃ k, gk = k + 1 := ⟨gk - 1, by omega⟩
              rw [digitsP, if_pos (by simp [isDigit, d1, d2])]
              rfl
end Go.Proofs.YteekafkpeimhoaaGreat

/- The pattern reader's interval: walked. -/
set_option linter.unusedVariables false
set_option linter.unusedSimpArgs false
namespace Go.Proofs.YteekafkpeimhoaaGreat
open Go.RowKit

/-- What interval hands back. -/
def GInt (p : Nat) (op : Int) (s : Rs) (w : World) (en : Ending) (w' : World) : Prop :=
  ∃ (m n : Int) (s' : Rs), en = .returned (.tuple #[.int .i64 m, .int .i64 n]) ∧ RS w' p op s' ∧ Off p w w' ∧
    match s with
    | .error e => s' = .error e
    | .ok r => match intervalP r with
      | .error e => s' = .error e
      | .ok (a, b, r') => m = a ∧ n = b ∧ s' = .ok r'
theorem GInt.bad {p : Nat} {op : Int} {r : Bs} {w w' : World} {e : Int} (m n : Int) (hi : intervalP r = .error e) (h : RS w' p op (.error e)) (hO : Off p w w') : GInt p op (.ok r) w (.returned (.tuple #[.int .i64 m, .int .i64 n])) w' := by
  refine ⟨m, n, _, rfl, h, hO, ?_⟩
  simp only [hi]
theorem GInt.good {p : Nat} {op : Int} {r r' : Bs} {w w' : World} {m n : Int} (hi : intervalP r = .ok (m, n, r')) (h : RS w' p op (.ok r')) (hO : Off p w w') : GInt p op (.ok r) w (.returned (.tuple #[.int .i64 m, .int .i64 n])) w' := by
  refine ⟨m, n, _, rfl, h, hO, ?_⟩
  simp only [hi]
  exact ⟨trivial, trivial, trivial⟩
set_option maxRecDepth 100000 in
set_option maxHeartbeats 2000000 in
theorem interval_any (w : World) (p : Nat) (op : Int) (s : Rs) (h : RS w p op s) :
    Calls Tryz.prog 61 #[.pointer (some ⟨p, 0, none⟩)] w fun en w' => GInt p op s w en w' := by
  have H := Lib.hid h; clear h
  go_enter Tryz.func61, Tryz.ntmps61
  go_wp2_with fail
  refine (number_any w p op s H.out).mono ?_
  rintro en w1 ⟨m, s1, rfl, hm0, hm1, h1, hO1, ho1⟩
  rcases s1 with e | r1
  · -- an error
    have hfin : ∀ w', RS w' p op (.error e) → Off p w w' → GInt p op s w (.returned (.tuple #[.int .i64 0, .int .i64 0])) w' := fun w' h hO => by
      rcases s with e' | r
      · have : (Except.error e : Rs) = .error e' := ho1
        cases this
        exact ⟨0, 0, _, rfl, h, hO, rfl⟩
      · refine GInt.bad 0 0 ?_ h hO
        cases hn : numberP r with
        | error e' =>
          simp only [Out, hn] at ho1
          cases ho1
          simp only [intervalP, hn]
        | ok y => simp only [Out, hn] at ho1; cases ho1.2
    have Hfin := Lib.hid hfin; clear hfin ho1
    go_wp2_with fail
    refine (take_err [125] (by simp) h1).mono ?_
    rintro en w2 ⟨rfl, h2, hO2⟩
    go_wp2_with fail
    refine (take_err [44, 125] (by simp) h2).mono ?_
    rintro en w3 ⟨rfl, h3, hO3⟩
    go_wp2_with fail
    refine (take_err [44] (by simp) h3).mono ?_
    rintro en w4 ⟨rfl, h4, hO4⟩
    go_wp2_with fail
    refine (fail_err 105 (by omega) h4).mono ?_
    rintro en w5 ⟨rfl, h5, hO5⟩
    go_wp2_with fail
    go_ret2
    exact Hfin.out _ h5 ((((hO1.trans hO2).trans hO3).trans hO4).trans hO5)
  · rcases s with e' | r
    · cases (show (Except.ok r1 : Rs) = .error e' from ho1)
    obtain ⟨hn, hmn⟩ : numberP r = .ok (m, r1) ∧ 0 ≤ m := by
      cases hn : numberP r with
      | error e' => simp only [Out, hn] at ho1; cases ho1
      | ok y =>
        obtain ⟨a, b⟩ := y
        simp only [Out, hn] at ho1
        obtain ⟨⟨rfl, h0, _⟩, h2⟩ := ho1
        cases h2
        exact ⟨rfl, h0⟩
    clear ho1
    have Hn := Lib.hid hn; clear hn
    rcases ht : takeP [125] r1 with _ | r2
    case' some =>
      have hi : intervalP r = .ok (m, m, r2) := by simp only [intervalP, Hn.out, ht]
      have Hi := Lib.hid hi; have Ht := Lib.hid ht; clear hi ht
      go_wp2_with fail
      refine (take_hit [125] (by simp) Ht.out h1).mono ?_
      rintro en w2 ⟨rfl, h2, hO2⟩
      go_wp2_with fail
      go_ret2
      exact GInt.good Hi.out h2 (hO1.trans hO2)
    rcases ht2 : takeP [44, 125] r1 with _ | r2
    case' some =>
      have hi : intervalP r = .ok (m, -1, r2) := by simp only [intervalP, Hn.out, ht, ht2]
      have Hi := Lib.hid hi; have Ht := Lib.hid ht; have Ht2 := Lib.hid ht2; clear hi ht ht2
      go_wp2_with fail
      refine (take_miss [125] (by simp) Ht.out h1).mono ?_
      rintro en w2 ⟨rfl, h2, hO2⟩
      go_wp2_with fail
      refine (take_hit [44, 125] (by simp) Ht2.out h2).mono ?_
      rintro en w3 ⟨rfl, h3, hO3⟩
      go_wp2_with fail
      go_ret2
      exact GInt.good Hi.out h3 ((hO1.trans hO2).trans hO3)
    have Ht := Lib.hid ht; have Ht2 := Lib.hid ht2; clear ht ht2
    go_wp2_with fail
    refine (take_miss [125] (by simp) Ht.out h1).mono ?_
    rintro en w2 ⟨rfl, h2, hO2⟩
    go_wp2_with fail
    refine (take_miss [44, 125] (by simp) Ht2.out h2).mono ?_
    rintro en w3 ⟨rfl, h3, hO3⟩
    have hO13 := (hO1.trans hO2).trans hO3
    clear h1 h2 hO1 hO2 hO3
    rcases ht3 : takeP [44] r1 with _ | r2
    · have hi : intervalP r = .error 105 := by simp only [intervalP, Hn.out, Ht.out, Ht2.out, ht3]
      have Hi := Lib.hid hi; have Ht3 := Lib.hid ht3; clear hi ht3
      go_wp2_with fail
      refine (take_miss [44] (by simp) Ht3.out h3).mono ?_
      rintro en w4 ⟨rfl, h4, hO4⟩
      go_wp2_with fail
      refine (fail_ok 105 (by omega) h4).mono ?_
      rintro en w5 ⟨rfl, h5, hO5⟩
      go_wp2_with fail
      go_ret2
      exact GInt.bad 0 0 Hi.out h5 ((hO13.trans hO4).trans hO5)
    have Ht3 := Lib.hid ht3; clear ht3
    go_wp2_with fail
    refine (take_hit [44] (by simp) Ht3.out h3).mono ?_
    rintro en w4 ⟨rfl, h4, hO4⟩
    go_wp2_with fail
    refine (number_any w4 p op (.ok r2) h4).mono ?_
    rintro en w5 ⟨n, s5, rfl, hn0, hn1, h5, hO5, ho5⟩
    have hO15 := (hO13.trans hO4).trans hO5
    clear h3 h4 hO13 hO4 hO5
    rcases s5 with e5 | r3
    · have hi : intervalP r = .error e5 := by
        cases hn : numberP r2 with
        | error e' =>
          simp only [Out, hn] at ho5
          cases ho5
          simp only [intervalP, Hn.out, Ht.out, Ht2.out, Ht3.out, hn]
        | ok y => simp only [Out, hn] at ho5; cases ho5.2
      have Hi := Lib.hid hi; clear hi ho5
      by_cases hnm : m ≤ n
      · go_wp2_with fail
        refine (take_err [125] (by simp) h5).mono ?_
        rintro en w6 ⟨rfl, h6, hO6⟩
        go_wp2_with fail
        refine (fail_err 105 (by omega) h6).mono ?_
        rintro en w7 ⟨rfl, h7, hO7⟩
        go_wp2_with fail
        go_ret2
        exact GInt.bad 0 0 Hi.out h7 ((hO15.trans hO6).trans hO7)
      · go_wp2_with fail
        refine (fail_err 105 (by omega) h5).mono ?_
        rintro en w7 ⟨rfl, h7, hO7⟩
        go_wp2_with fail
        go_ret2
        exact GInt.bad 0 0 Hi.out h7 (hO15.trans hO7)
    · have hnn : numberP r2 = .ok (n, r3) := by
        cases hn : numberP r2 with
        | error e' => simp only [Out, hn] at ho5; cases ho5
        | ok y =>
          obtain ⟨a, b⟩ := y
          simp only [Out, hn] at ho5
          obtain ⟨⟨rfl, _, _⟩, h2⟩ := ho5
          cases h2
          rfl
      have Hnn := Lib.hid hnn; clear hnn ho5
      by_cases hnm : m ≤ n
      · rcases ht4 : takeP [125] r3 with _ | r4
        · have hi : intervalP r = .error 105 := by simp only [intervalP, Hn.out, Ht.out, Ht2.out, Ht3.out, Hnn.out, ht4]; rw [if_neg (by omega)]
          have Hi := Lib.hid hi; have Ht4 := Lib.hid ht4; clear hi ht4
          go_wp2_with fail
          refine (take_miss [125] (by simp) Ht4.out h5).mono ?_
          rintro en w6 ⟨rfl, h6, hO6⟩
          go_wp2_with fail
          refine (fail_ok 105 (by omega) h6).mono ?_
          rintro en w7 ⟨rfl, h7, hO7⟩
          go_wp2_with fail
          go_ret2
          exact GInt.bad 0 0 Hi.out h7 ((hO15.trans hO6).trans hO7)
        · have hi : intervalP r = .ok (m, n, r4) := by simp only [intervalP, Hn.out, Ht.out, Ht2.out, Ht3.out, Hnn.out, ht4]; rw [if_neg (by omega)]
          have Hi := Lib.hid hi; have Ht4 := Lib.hid ht4; clear hi ht4
          go_wp2_with fail
          refine (take_hit [125] (by simp) Ht4.out h5).mono ?_
          rintro en w6 ⟨rfl, h6, hO6⟩
          go_wp2_with fail
          go_ret2
          exact GInt.good Hi.out h6 (hO15.trans hO6)
      · have hi : intervalP r = .error 105 := by simp only [intervalP, Hn.out, Ht.out, Ht2.out, Ht3.out, Hnn.out]; rw [if_pos (by omega)]
        have Hi := Lib.hid hi; clear hi
        go_wp2_with fail
        refine (fail_ok 105 (by omega) h5).mono ?_
        rintro en w7 ⟨rfl, h7, hO7⟩
        go_wp2_with fail
        go_ret2
        exact GInt.bad 0 0 Hi.out h7 (hO15.trans hO7)
end Go.Proofs.YteekafkpeimhoaaGreat

/- The pattern reader's add, atom: walked. -/
set_option linter.unusedVariables false
set_option linter.unusedSimpArgs false
namespace Go.Proofs.YteekafkpeimhoaaGreat
open Go.RowKit

abbrev W4.V (s : W4) : Value := .agg #[.int .u64 s.a, .int .u64 s.b, .int .u64 s.c, .int .u64 s.d]
def W4.word (s : W4) (i : Nat) : Int := if i = 0 then s.a else if i = 1 then s.b else if i = 2 then s.c else s.d
/-- A set's four cells. -/
structure At4 (w : World) (b o : Nat) (s : W4) : Prop where
  f0 : w.cell? ⟨b, o, none⟩ = some (.int .u64 s.a)
  f1 : w.cell? ⟨b, o + 1, none⟩ = some (.int .u64 s.b)
  f2 : w.cell? ⟨b, o + 2, none⟩ = some (.int .u64 s.c)
  f3 : w.cell? ⟨b, o + 3, none⟩ = some (.int .u64 s.d)
/-- What add writes. -/
def addW (w : World) (b o : Nat) (s : W4) (c : Nat) : World := w.setCell ⟨b, o + c / 64, none⟩ (.int .u64 (orI (s.word (c / 64)) (2 ^ (c % 64))))
theorem wrap_pow (k : Nat) (h : k < 64) : IntKind.u64.wrap (2 ^ k) = 2 ^ k := by
  have h0 : 2 ^ k < 2 ^ 64 := Nat.pow_lt_pow_right (by omega) h
  have h3 : ((2 ^ k : Nat) : Int) = (2 : Int) ^ k := by rw [Int.natCast_pow]; rfl
  have h1 : (2 : Int) ^ k < 18446744073709551616 := by
    rw [← h3]
    exact Int.ofNat_lt.2 (show 2 ^ k < 18446744073709551616 from h0)
  have h2 : (0 : Int) ≤ 2 ^ k := by rw [← h3]; exact Int.natCast_nonneg _
  simp only [IntKind.wrap, IntKind.signed, IntKind.bits]
  generalize (2 : Int) ^ k = x at *
  simp
  omega
set_option maxRecDepth 100000 in
set_option maxHeartbeats 2000000 in
theorem add_any (w : World) (b o : Nat) (s : W4) (c : Nat) (hc : c < 256) (h : At4 w b o s) (hz : ∀ k, w.frozen? ⟨b, k, none⟩ = false) :
    Calls Tryz.prog 72 #[.pointer (some ⟨b, o, none⟩), .int .u8 c] w fun en w' => en = .returned (.tuple #[]) ∧ w' = (addW w b o s c).drew := by
  obtain ⟨f0, f1, f2, f3⟩ := h
  have hq : (c : Int).tdiv 64 = ((c / 64 : Nat) : Int) := by rw [Int.tdiv_eq_ediv_of_nonneg (by omega)]; omega
  have hr : (c : Int).tmod 64 = ((c % 64 : Nat) : Int) := by rw [Int.tmod_eq_emod_of_nonneg (by omega)]; omega
  have hw := wrap_pow (c % 64) (by omega)
  unfold addW
  have hk4 : c % 64 < 64 := by omega
  rcases (show c / 64 = 0 ∨ c / 64 = 1 ∨ c / 64 = 2 ∨ c / 64 = 3 by omega) with e | e | e | e
  all_goals
    rw [e] at hq ⊢
    have z := hz (o + c / 64)
    rw [e] at z
    clear hz e
    try simp only [Nat.add_zero] at z ⊢
    generalize hk : c % 64 = k at *
    clear hk
    go_enter Tryz.func72, Tryz.ntmps72
    go_region
    all_goals go_wp2_with fail
    all_goals go_end0
    all_goals exact ⟨rfl, rfl⟩
end Go.Proofs.YteekafkpeimhoaaGreat

/- The pattern reader's atom: walked. -/
set_option linter.unusedVariables false
set_option linter.unusedSimpArgs false
namespace Go.Proofs.YteekafkpeimhoaaGreat
open Go.RowKit

/-- What a reading step hands back that makes a node. -/
def GNode (p : Nat) (op : Int) (f : Bs → PT) (s : Rs) (w : World) (en : Ending) (w' : World) : Prop :=
  ∃ (x : Nx) (s' : Rs), en = .returned (nodeV x.1 x.2.1 x.2.2) ∧ NodeAt w' (fun b => w.heap.size ≤ b ∧ b < w'.heap.size) x.1 x.2.1 x.2.2 ∧ RS w' p op s' ∧ Off p w w' ∧ Out f s (fun t => x.1 = t) s'
/-- What bracket does. -/
def BrC : Prop := ∀ (w : World) (p : Nat) (op : Int) (r : Bs), RS w p op (.ok r) → r.length ≤ 1024 → Calls Tryz.prog 69 #[.pointer (some ⟨p, 0, none⟩)] w fun en w' => ∃ (S : W4) (s' : Rs), en = .returned S.V ∧ RS w' p op s' ∧ Off p w w' ∧ Out bracketP (.ok r) (fun x => S = x) s'
/-- What where does with the test that is always true. -/
def DotC : Prop := ∀ (w : World), Calls Tryz.prog 70 #[.func (.func 71) #[] #[]] w fun en w' => en = .returned (w40.span 0 256).V ∧ Below w.heap.size w w'
theorem addW_blk {w : World} {b : Nat} {s : W4} (h : BlkX w b (xcell (s.T, none, 0)).toArray) (c : Nat) (hc : c < 256) : BlkX (addW w b 1 s c) b (xcell ((s.add c).T, none, 0)).toArray := by
  have h1 := h.set (1 + c / 64) (.int .u64 (orI (s.word (c / 64)) (2 ^ (c % 64))))
  unfold addW
  have e : (xcell (s.T, none, 0)).toArray.setIfInBounds (1 + c / 64) (.int .u64 (orI (s.word (c / 64)) (2 ^ (c % 64)))) = (xcell ((s.add c).T, none, 0)).toArray := by
    rcases (show c < 64 ∨ (64 ≤ c ∧ c < 128) ∨ (128 ≤ c ∧ c < 192) ∨ (192 ≤ c ∧ c < 256) by omega) with h | h | h | h
    · rw [show c / 64 = 0 by omega, show c % 64 = c by omega]
      simp [xcell, W4.T, W4.add, W4.word, T.k, T.s0, T.s1, T.s2, T.s3, T.mn, T.mx, T.ps, h]
    · rw [show c / 64 = 1 by omega, show c % 64 = c - 64 by omega]
      simp [xcell, W4.T, W4.add, W4.word, T.k, T.s0, T.s1, T.s2, T.s3, T.mn, T.mx, T.ps, show ¬ c < 64 by omega, h.2]
    · rw [show c / 64 = 2 by omega, show c % 64 = c - 128 by omega]
      simp [xcell, W4.T, W4.add, W4.word, T.k, T.s0, T.s1, T.s2, T.s3, T.mn, T.mx, T.ps, show ¬ c < 64 by omega, show ¬ c < 128 by omega, h.2]
    · rw [show c / 64 = 3 by omega, show c % 64 = c - 192 by omega]
      simp [xcell, W4.T, W4.add, W4.word, T.k, T.s0, T.s1, T.s2, T.s3, T.mn, T.mx, T.ps, show ¬ c < 64 by omega, show ¬ c < 128 by omega, show ¬ c < 192 by omega]
  rw [e] at h1
  exact h1
theorem BlkX.at4 {w : World} {b : Nat} {s : W4} (h : BlkX w b (xcell (s.T, none, 0)).toArray) : At4 w b 1 s := by
  obtain ⟨⟨_, f1, f2, f3, f4, _⟩, _⟩ := h.cells8
  exact ⟨f1, f2, f3, f4⟩
theorem Off.blk {p : Nat} {w w' : World} (h : Off p w w') {b : Nat} {cs : Array Value} (hb : BlkX w b cs) (hn : b ≠ p) : BlkX w' b cs := hb.keep (h.block b hb.lt (by simpa using hn))
/-- The reader's state where other blocks are written. -/
theorem RS.kept {w w' : World} {p : Nat} {op : Int} {s : Rs} (h : RS w p op s) (hz : w.heap.size ≤ w'.heap.size) (hb : w'.heap[p]? = w.heap[p]?) (hb0 : w'.heap[0]? = w.heap[0]?) : RS w' p op s :=
  ⟨⟨(World.cell?_of_block (w := w) hb).trans h.rdr.c0, (World.cell?_of_block (w := w) hb).trans h.rdr.c1, (World.cell?_of_block (w := w) hb).trans h.rdr.c2, fun o => (World.frozen?_of_block (w := w) (a := ⟨p, o, none⟩) hb).trans (h.rdr.z o), Nat.lt_of_lt_of_le h.lt hz, h.rdr.mx.of hb0, h.rdr.pn⟩, h.ne⟩

/-- The four cells of a set written. -/
def setW (w : World) (b : Nat) (S : W4) : World := (((w.setCell ⟨b, 1, none⟩ (.int .u64 S.a)).setCell ⟨b, 2, none⟩ (.int .u64 S.b)).setCell ⟨b, 3, none⟩ (.int .u64 S.c)).setCell ⟨b, 4, none⟩ (.int .u64 S.d)
theorem setW_blk {w : World} {b : Nat} {s : W4} (h : BlkX w b (xcell (s.T, none, 0)).toArray) (S : W4) : BlkX (setW w b S) b (xcell (S.T, none, 0)).toArray := by
  have h1 := (((h.set 1 (.int .u64 S.a)).set 2 (.int .u64 S.b)).set 3 (.int .u64 S.c)).set 4 (.int .u64 S.d)
  unfold setW; simpa [xcell, W4.T, T.k, T.s0, T.s1, T.s2, T.s3, T.mn, T.mx, T.ps] using h1
theorem setW_other (w : World) (b : Nat) (S : W4) (k : Nat) (hk : k ≠ b) : (setW w b S).heap[k]? = w.heap[k]? := by
  unfold setW
  iterate 3 rw [Below.heap_setCell _ _ _ _ hk]
  exact Below.heap_setCell _ _ _ _ hk
theorem setW_size (w : World) (b : Nat) (S : W4) : (setW w b S).heap.size = w.heap.size := by simp [setW]
theorem addW_other (w : World) (b o : Nat) (s : W4) (c k : Nat) (hk : k ≠ b) : (addW w b o s c).heap[k]? = w.heap[k]? := Below.heap_setCell _ _ _ _ hk
theorem addW_size (w : World) (b o : Nat) (s : W4) (c : Nat) : (addW w b o s c).heap.size = w.heap.size := by simp [addW]
theorem Off.far {p : Nat} {w w1 w2 : World} (h : Off p w w1) {b : Nat} (hb : w.heap.size ≤ b) (ho : w2.os = w1.os) (ht : w2.tape = w1.tape) (hp : w2.output = w1.output) (hz : w2.heap.size = w1.heap.size) (hk : ∀ k, k ≠ b → w2.heap[k]? = w1.heap[k]?) : Off p w w2 :=
  ⟨ho.trans h.os, ht.trans h.tape, hp.trans h.output, by rw [hz]; exact h.size, fun k hk1 hn => (hk k (by omega)).trans (h.block k hk1 hn)⟩
theorem Off.boxW {p : Nat} {w w1 : World} (h : Off p w w1) {b : Nat} (hb : w.heap.size ≤ b) (x : Nx) : Off p w (writeX w1 b x) := (fun hbel => h.far hb (Below.os hbel) (Below.tape hbel) (Below.output hbel) (writeX_size _ _ _) (fun k hk => writeX_other _ _ _ _ hk)) (writeX_below (Below.refl 0 w1) (Nat.zero_le b) x)
theorem Off.putW {p : Nat} {w w1 : World} (h : Off p w w1) {b : Nat} (hb : w.heap.size ≤ b) (o : Nat) (s : W4) (c : Nat) : Off p w (addW w1 b o s c).drew := h.far hb rfl rfl rfl (addW_size _ _ _ _ _) (fun k hk => addW_other _ _ _ _ _ _ hk)
theorem RS.boxW {w : World} {p : Nat} {op : Int} {s : Rs} (h : RS w p op s) {b : Nat} (hb : p < b) (x : Nx) : RS (writeX w b x) p op s := h.kept (by rw [writeX_size]; exact Nat.le_refl _) (writeX_other _ _ _ _ (by omega)) (writeX_other _ _ _ _ (by omega))
theorem RS.putW {w : World} {p : Nat} {op : Int} {s : Rs} (h : RS w p op s) {b : Nat} (hb : p < b) (o : Nat) (t : W4) (c : Nat) : RS (addW w b o t c).drew p op s := h.kept (by show w.heap.size ≤ (addW w b o t c).heap.size; rw [addW_size]; exact Nat.le_refl _) (addW_other _ _ _ _ _ _ (by omega)) (addW_other _ _ _ _ _ _ (by omega))
theorem Off.fillW {p : Nat} {w w1 : World} (h : Off p w w1) {b : Nat} (hb : w.heap.size ≤ b) (S : W4) : Off p w (setW w1 b S) := (fun hbel => h.far hb (Below.os hbel) (Below.tape hbel) (Below.output hbel) (setW_size _ _ _) (fun k hk => setW_other _ _ _ _ hk)) (((((Below.refl 0 w1).setCell (Nat.zero_le _) (p := ⟨b, 1, none⟩) (.int .u64 S.a)).setCell (Nat.zero_le _) (p := ⟨b, 2, none⟩) (.int .u64 S.b)).setCell (Nat.zero_le _) (p := ⟨b, 3, none⟩) (.int .u64 S.c)).setCell (Nat.zero_le _) (p := ⟨b, 4, none⟩) (.int .u64 S.d))
theorem RS.fillW {w : World} {p : Nat} {op : Int} {s : Rs} (h : RS w p op s) {b : Nat} (hb : p < b) (S : W4) : RS (setW w b S) p op s := h.kept (by rw [setW_size]; exact Nat.le_refl _) (setW_other _ _ _ _ (by omega)) (setW_other _ _ _ _ (by omega))
theorem u8_ne {c : UInt8} {k : Nat} (hk : k < 256) (h : c ≠ UInt8.ofNat k) : ((c.toNat : Int) == (k : Int)) = false := by
  rw [beq_eq_false_iff_ne]
  intro e
  apply h
  have e' : c.toNat = k := by omega
  rw [← e']
  simp

set_option maxRecDepth 100000 in
set_option maxHeartbeats 4000000 in
theorem atom_any (w : World) (p : Nat) (op : Int) (s : Rs) (h : RS w p op s) (hs : s.rest.length ≤ 1024) (grp : Bs → PT) (hB : ∀ r, s = .ok r → 91 ∈ r → BrC) (hD : ∀ r, s = .ok r → 46 ∈ r → DotC)
    (hG : ∀ (w : World) (s : Rs), RS w p op s → s.rest.length ≤ 1024 → (∀ r, s = .ok r → 91 ∈ r → BrC) → (∀ r, s = .ok r → 46 ∈ r → DotC) → Calls Tryz.prog 68 #[.pointer (some ⟨p, 0, none⟩)] w fun en w' => GNode p op grp s w en w') :
    Calls Tryz.prog 60 #[.pointer (some ⟨p, 0, none⟩)] w fun en w' => GNode p op (atomP grp) s w en w' := by
  have hlt := h.lt
  have HB := Lib.hid hB; have HD := Lib.hid hD; have HG := Lib.hid hG; have HL := Lib.hid hs; clear hB hD hG hs
  have H := Lib.hid h; clear h
  go_enter Tryz.func60, Tryz.ntmps60
  go_wp2_with fail
  generalize hW : (w.alloc _).alloc _ = W0
  have hB0 : Below w.heap.size w W0 := by subst hW; exact ((Below.refl _ _).alloc (Nat.le_refl _) _).alloc (by simp) _
  have R0 : BlkX W0 w.heap.size (xcell (.mk 0 0 0 0 0 0 0 [], none, 0)).toArray := by
    subst hW
    exact (BlkX.new w _).keep (((Below.refl _ _).alloc (Nat.le_refl _) _).block _ (by simp))
  have N0 : BlkX W0 (w.heap.size + 1) (xcell (w40.T, none, 0)).toArray := by
    have hz : (w.alloc (.cells (xcell (.mk 0 0 0 0 0 0 0 [], none, 0)).toArray 39)).heap.size = w.heap.size + 1 := by simp
    have := BlkX.new (w.alloc (.cells (xcell (.mk 0 0 0 0 0 0 0 [], none, 0)).toArray 39)) (xcell (w40.T, none, 0)).toArray
    rw [hz] at this
    subst hW
    exact this
  clear hW
  have HR0 := Lib.hid (H.out.later hB0)
  rcases s with e | (_ | ⟨c, t⟩)
  · refine (next_err 104 (by omega) HR0.out).mono ?_
    rintro en w1 ⟨rfl, h1, hO1⟩
    have R1 := hO1.blk R0 (by omega)
    have N1 := hO1.blk N0 (by omega)
    have hO1 : Off p w w1 := (Off.of_below hB0).trans hO1
    clear R0 N0
    go_wp2_with fail
    refine (add_any w1 (w.heap.size + 1) 1 w40 0 (by omega) N1.at4 N1.froz).mono ?_
    rintro en w2 ⟨rfl, rfl⟩
    have R2 : BlkX (addW w1 (w.heap.size + 1) 1 w40 0).drew w.heap.size (xcell (.mk 0 0 0 0 0 0 0 [], none, 0)).toArray := R1.keep (addW_other _ _ _ _ _ _ (by omega))
    have N2 : BlkX (addW w1 (w.heap.size + 1) 1 w40 0).drew (w.heap.size + 1) (xcell ((w40.add 0).T, none, 0)).toArray := addW_blk N1 0 (by omega)
    have h2 := h1.putW (b := w.heap.size + 1) (by omega) 1 w40 0
    have hO2 := Off.putW hO1 (b := w.heap.size + 1) (by omega) 1 w40 0
    obtain ⟨x, hx⟩ : ∃ x : Nx, x = ((w40.add 0).T, none, 0) := ⟨_, rfl⟩
    rw [← hx] at N2
    have Hx := Lib.hid hx
    clear hx R1 N1 h1 hO1
    generalize (addW w1 (w.heap.size + 1) 1 w40 0).drew = W2 at *
    obtain ⟨⟨f0, f1, f2, f3, f4, f5, f6, f7⟩, _⟩ := N2.cells8
    obtain ⟨⟨r0, r1, r2, r3, r4, r5, r6, r7⟩, hz⟩ := R2.cells8
    have z0 := hz 0; have z1 := hz 1; have z2 := hz 2; have z3 := hz 3; have z4 := hz 4; have z5 := hz 5; have z6 := hz 6; have z7 := hz 7
    have lr := R2.lt
    have ln := N2.lt
    clear hz
    have HR2 := Lib.hid R2; have H2 := Lib.hid h2; have HO2 := Lib.hid hO2
    clear R2 N2 h2 hO2
    go_wp2_with fail
    change bodyPost _ _ _ _ _ (writeX W2 w.heap.size x)
    have hfin := writeX_blk HR2.out x
    obtain ⟨⟨y0, y1, y2, y3, y4, y5, y6, y7⟩, _⟩ := hfin.cells8
    have hRS := H2.out.boxW (b := w.heap.size) (by omega) x
    have hOff := Off.boxW HO2.out (Nat.le_refl _) x
    have hNod : NodeAt (writeX W2 w.heap.size x) (fun b => w.heap.size ≤ b ∧ b < (writeX W2 w.heap.size x).heap.size) x.1 x.2.1 x.2.2 := by rw [Hx.out]; exact nodeAt_leafX _ _ _ rfl
    generalize writeX W2 w.heap.size x = W3 at *
    refine bodyPost_ret (v := nodeV x.1 x.2.1 x.2.2) (by simp [results, Tryz.results60, y0, y1, y2, y3, y4, y5, y6, y7, go_sem]) rfl ⟨x, _, rfl, hNod, hRS, hOff, ?_⟩
    exact Out.err
  · refine (next_end 104 (by omega) HR0.out).mono ?_
    rintro en w1 ⟨rfl, h1, hO1⟩
    have R1 := hO1.blk R0 (by omega)
    have N1 := hO1.blk N0 (by omega)
    have hO1 : Off p w w1 := (Off.of_below hB0).trans hO1
    clear R0 N0
    go_wp2_with fail
    refine (add_any w1 (w.heap.size + 1) 1 w40 0 (by omega) N1.at4 N1.froz).mono ?_
    rintro en w2 ⟨rfl, rfl⟩
    have R2 : BlkX (addW w1 (w.heap.size + 1) 1 w40 0).drew w.heap.size (xcell (.mk 0 0 0 0 0 0 0 [], none, 0)).toArray := R1.keep (addW_other _ _ _ _ _ _ (by omega))
    have N2 : BlkX (addW w1 (w.heap.size + 1) 1 w40 0).drew (w.heap.size + 1) (xcell ((w40.add 0).T, none, 0)).toArray := addW_blk N1 0 (by omega)
    have h2 := h1.putW (b := w.heap.size + 1) (by omega) 1 w40 0
    have hO2 := Off.putW hO1 (b := w.heap.size + 1) (by omega) 1 w40 0
    obtain ⟨x, hx⟩ : ∃ x : Nx, x = ((w40.add 0).T, none, 0) := ⟨_, rfl⟩
    rw [← hx] at N2
    have Hx := Lib.hid hx
    clear hx R1 N1 h1 hO1
    generalize (addW w1 (w.heap.size + 1) 1 w40 0).drew = W2 at *
    obtain ⟨⟨f0, f1, f2, f3, f4, f5, f6, f7⟩, _⟩ := N2.cells8
    obtain ⟨⟨r0, r1, r2, r3, r4, r5, r6, r7⟩, hz⟩ := R2.cells8
    have z0 := hz 0; have z1 := hz 1; have z2 := hz 2; have z3 := hz 3; have z4 := hz 4; have z5 := hz 5; have z6 := hz 6; have z7 := hz 7
    have lr := R2.lt
    have ln := N2.lt
    clear hz
    have HR2 := Lib.hid R2; have H2 := Lib.hid h2; have HO2 := Lib.hid hO2
    clear R2 N2 h2 hO2
    go_wp2_with fail
    change bodyPost _ _ _ _ _ (writeX W2 w.heap.size x)
    have hfin := writeX_blk HR2.out x
    obtain ⟨⟨y0, y1, y2, y3, y4, y5, y6, y7⟩, _⟩ := hfin.cells8
    have hRS := H2.out.boxW (b := w.heap.size) (by omega) x
    have hOff := Off.boxW HO2.out (Nat.le_refl _) x
    have hNod : NodeAt (writeX W2 w.heap.size x) (fun b => w.heap.size ≤ b ∧ b < (writeX W2 w.heap.size x).heap.size) x.1 x.2.1 x.2.2 := by rw [Hx.out]; exact nodeAt_leafX _ _ _ rfl
    generalize writeX W2 w.heap.size x = W3 at *
    refine bodyPost_ret (v := nodeV x.1 x.2.1 x.2.2) (by simp [results, Tryz.results60, y0, y1, y2, y3, y4, y5, y6, y7, go_sem]) rfl ⟨x, _, rfl, hNod, hRS, hOff, ?_⟩
    exact Out.bad rfl
  · refine (next_ok 104 (by omega) HR0.out).mono ?_
    rintro en w1 ⟨rfl, h1, hO1⟩
    have R1 := hO1.blk R0 (by omega)
    have N1 := hO1.blk N0 (by omega)
    have hO1 : Off p w w1 := (Off.of_below hB0).trans hO1
    clear R0 N0
    by_cases c40 : c = 40
    · subst c40
      have hz1 := hO1.size
      obtain ⟨⟨r0, r1, r2, r3, r4, r5, r6, r7⟩, hz⟩ := R1.cells8
      clear r0 r1 r2 r3 r4 r5 r6 r7 hz
      go_wp2_with fail
      refine (HG.out w1 (.ok t) h1 (by have := HL.out; simp only [Rs.rest, List.length_cons] at this ⊢; omega) (fun r e hr => HB.out _ rfl (List.mem_cons_of_mem _ (by cases e; exact hr))) (fun r e hr => HD.out _ rfl (List.mem_cons_of_mem _ (by cases e; exact hr)))).mono ?_
      rintro en W2 ⟨x, s', rfl, hx, h2, hO2, ho⟩
      have R2 := hO2.blk R1 (by omega)
      have lr1 := R1.lt
      have hO2 := hO1.trans hO2
      obtain ⟨⟨r0, r1, r2, r3, r4, r5, r6, r7⟩, hz⟩ := R2.cells8
      have z0 := hz 0; have z1 := hz 1; have z2 := hz 2; have z3 := hz 3; have z4 := hz 4; have z5 := hz 5; have z6 := hz 6; have z7 := hz 7
      have lr := R2.lt
      clear hz
      have HR2 := Lib.hid R2; have H2 := Lib.hid h2; have HO2 := Lib.hid hO2; have Hx := Lib.hid hx; have Ho := Lib.hid ho
      clear R2 h2 hO2 R1 N1 h1 hO1 hx ho
      go_wp2_with fail
      change bodyPost _ _ _ _ _ (writeX W2 w.heap.size x)
      have hfin := writeX_blk HR2.out x
      obtain ⟨⟨y0, y1, y2, y3, y4, y5, y6, y7⟩, _⟩ := hfin.cells8
      have hRS := H2.out.boxW (b := w.heap.size) (by omega) x
      have hOff := Off.boxW HO2.out (Nat.le_refl _) x
      have hNod : NodeAt (writeX W2 w.heap.size x) (fun b => w.heap.size ≤ b ∧ b < (writeX W2 w.heap.size x).heap.size) x.1 x.2.1 x.2.2 := Hx.out.mono fun k (hk : w1.heap.size ≤ k ∧ k < W2.heap.size) => ⟨⟨by omega, by rw [writeX_size]; exact hk.2⟩, fun o => World.cell?_of_block (w := W2) (a := ⟨k, o, none⟩) (writeX_other _ _ _ _ (show k ≠ w.heap.size by omega))⟩
      generalize writeX W2 w.heap.size x = W3 at *
      refine bodyPost_ret (v := nodeV x.1 x.2.1 x.2.2) (by simp [results, Tryz.results60, y0, y1, y2, y3, y4, y5, y6, y7, go_sem]) rfl ⟨x, _, rfl, hNod, hRS, hOff, ?_⟩
      have e : atomP grp (40 :: t) = grp t := by simp [atomP]
      simp only [Out, e]
      exact Ho.out
    have n40 := u8_ne (k := 40) (by omega) c40
    by_cases c94 : c = 94
    · subst c94
      obtain ⟨⟨r0, r1, r2, r3, r4, r5, r6, r7⟩, hz⟩ := R1.cells8
      have z0 := hz 0; have z1 := hz 1; have z2 := hz 2; have z3 := hz 3; have z4 := hz 4; have z5 := hz 5; have z6 := hz 6; have z7 := hz 7
      have lr := R1.lt
      clear hz
      have HR2 := Lib.hid R1; have H2 := Lib.hid h1; have HO2 := Lib.hid hO1
      clear R1 N1 h1 hO1
      go_wp2_with fail
      change bodyPost _ _ _ _ _ (writeX w1 w.heap.size (.mk 2 0 0 0 0 0 0 [], none, 0))
      have hfin := writeX_blk HR2.out (.mk 2 0 0 0 0 0 0 [], none, 0)
      obtain ⟨⟨y0, y1, y2, y3, y4, y5, y6, y7⟩, _⟩ := hfin.cells8
      have hRS := H2.out.boxW (b := w.heap.size) (by omega) (.mk 2 0 0 0 0 0 0 [], none, 0)
      have hOff := Off.boxW HO2.out (Nat.le_refl _) (.mk 2 0 0 0 0 0 0 [], none, 0)
      generalize writeX w1 w.heap.size (.mk 2 0 0 0 0 0 0 [], none, 0) = W3 at *
      exact bodyPost_ret (v := nodeV (.mk 2 0 0 0 0 0 0 []) none 0) (by simp [results, Tryz.results60, y0, y1, y2, y3, y4, y5, y6, y7, go_sem]) rfl ⟨(.mk 2 0 0 0 0 0 0 [], none, 0), _, rfl, nodeAt_leafX _ _ _ rfl, hRS, hOff, Out.good (by simp [atomP]) rfl⟩
    have n94 := u8_ne (k := 94) (by omega) c94
    by_cases c36 : c = 36
    · subst c36
      obtain ⟨⟨r0, r1, r2, r3, r4, r5, r6, r7⟩, hz⟩ := R1.cells8
      have z0 := hz 0; have z1 := hz 1; have z2 := hz 2; have z3 := hz 3; have z4 := hz 4; have z5 := hz 5; have z6 := hz 6; have z7 := hz 7
      have lr := R1.lt
      clear hz
      have HR2 := Lib.hid R1; have H2 := Lib.hid h1; have HO2 := Lib.hid hO1
      clear R1 N1 h1 hO1
      go_wp2_with fail
      change bodyPost _ _ _ _ _ (writeX w1 w.heap.size (.mk 3 0 0 0 0 0 0 [], none, 0))
      have hfin := writeX_blk HR2.out (.mk 3 0 0 0 0 0 0 [], none, 0)
      obtain ⟨⟨y0, y1, y2, y3, y4, y5, y6, y7⟩, _⟩ := hfin.cells8
      have hRS := H2.out.boxW (b := w.heap.size) (by omega) (.mk 3 0 0 0 0 0 0 [], none, 0)
      have hOff := Off.boxW HO2.out (Nat.le_refl _) (.mk 3 0 0 0 0 0 0 [], none, 0)
      generalize writeX w1 w.heap.size (.mk 3 0 0 0 0 0 0 [], none, 0) = W3 at *
      exact bodyPost_ret (v := nodeV (.mk 3 0 0 0 0 0 0 []) none 0) (by simp [results, Tryz.results60, y0, y1, y2, y3, y4, y5, y6, y7, go_sem]) rfl ⟨(.mk 3 0 0 0 0 0 0 [], none, 0), _, rfl, nodeAt_leafX _ _ _ rfl, hRS, hOff, Out.good (by simp [atomP]) rfl⟩
    have n36 := u8_ne (k := 36) (by omega) c36
    by_cases c91 : c = 91
    · subst c91
      go_wp2_with fail
      refine (HB.out _ rfl (by simp) w1 p op t h1 (by have := HL.out; simp only [Rs.rest, List.length_cons] at this; omega)).mono ?_
      rintro en w2 ⟨S, s', rfl, h2, hO2, ho⟩
      have Ho := Lib.hid ho; clear ho
      have R2 := hO2.blk R1 (by omega)
      have N2 := hO2.blk N1 (by omega)
      have hO2 := hO1.trans hO2
      have HS := Lib.hid N2
      obtain ⟨⟨_, g1, g2, g3, g4, _⟩, gz⟩ := N2.cells8
      have gz1 := gz 1; have gz2 := gz 2; have gz3 := gz 3; have gz4 := gz 4
      have ln := N2.lt
      obtain ⟨⟨r0, r1, r2, r3, r4, r5, r6, r7⟩, hz⟩ := R2.cells8
      obtain ⟨⟨f0, _, _, _, _, f5, f6, f7⟩, _⟩ := N2.cells8
      have z0 := hz 0; have z1 := hz 1; have z2 := hz 2; have z3 := hz 3; have z4 := hz 4; have z5 := hz 5; have z6 := hz 6; have z7 := hz 7
      have lr := R2.lt
      clear hz gz
      have HR2 := Lib.hid R2; have H2 := Lib.hid h2; have HO2 := Lib.hid hO2
      clear R2 N2 h2 hO2 R1 N1 h1 hO1
      go_upto_region 22 with fail
      change Code.wp _ _ _ _ (setW w2 (w.heap.size + 1) S)
      have R2 := HR2.out.keep (setW_other w2 (w.heap.size + 1) S w.heap.size (by omega))
      have N2 := setW_blk HS.out S
      have h2 := H2.out.fillW (b := w.heap.size + 1) (by omega) S
      have hO2 := Off.fillW HO2.out (b := w.heap.size + 1) (by omega) S
      clear r0 r1 r2 r3 r4 r5 r6 r7 f0 f5 f6 f7 g1 g2 g3 g4 gz1 gz2 gz3 gz4 z0 z1 z2 z3 z4 z5 z6 z7 lr ln HR2 H2 HO2 HS
      obtain ⟨x, hx⟩ : ∃ x : Nx, x = (S.T, none, 0) := ⟨_, rfl⟩
      rw [← hx] at N2
      have Hx := Lib.hid hx
      clear hx
      generalize setW w2 (w.heap.size + 1) S = W2 at *
      obtain ⟨⟨f0, f1, f2, f3, f4, f5, f6, f7⟩, _⟩ := N2.cells8
      obtain ⟨⟨r0, r1, r2, r3, r4, r5, r6, r7⟩, hz⟩ := R2.cells8
      have z0 := hz 0; have z1 := hz 1; have z2 := hz 2; have z3 := hz 3; have z4 := hz 4; have z5 := hz 5; have z6 := hz 6; have z7 := hz 7
      have lr := R2.lt
      have ln := N2.lt
      clear hz
      have HR2 := Lib.hid R2; have H2 := Lib.hid h2; have HO2 := Lib.hid hO2
      clear R2 N2 h2 hO2
      go_wp2_with fail
      change bodyPost _ _ _ _ _ (writeX W2 w.heap.size x)
      have hfin := writeX_blk HR2.out x
      obtain ⟨⟨y0, y1, y2, y3, y4, y5, y6, y7⟩, _⟩ := hfin.cells8
      have hRS := H2.out.boxW (b := w.heap.size) (by omega) x
      have hOff := Off.boxW HO2.out (Nat.le_refl _) x
      have hNod : NodeAt (writeX W2 w.heap.size x) (fun b => w.heap.size ≤ b ∧ b < (writeX W2 w.heap.size x).heap.size) x.1 x.2.1 x.2.2 := by rw [Hx.out]; exact nodeAt_leafX _ _ _ rfl
      generalize writeX W2 w.heap.size x = W3 at *
      refine bodyPost_ret (v := nodeV x.1 x.2.1 x.2.2) (by simp [results, Tryz.results60, y0, y1, y2, y3, y4, y5, y6, y7, go_sem]) rfl ⟨x, _, rfl, hNod, hRS, hOff, ?_⟩
      have e : atomP grp (91 :: t) = (match bracketP t with | .error e => .error e | .ok (s, r1) => .ok (s.T, r1)) := by simp [atomP] <;> rfl
      have hho := Ho.out
      simp only [Out, e] at hho ⊢
      cases hb : bracketP t with
      | error e' => simp only [hb] at hho ⊢; exact hho
      | ok y => obtain ⟨S', r'⟩ := y; simp only [hb] at hho ⊢; obtain ⟨rfl, h'⟩ := hho; exact ⟨by rw [Hx.out], h'⟩
    have n91 := u8_ne (k := 91) (by omega) c91
    by_cases c46 : c = 46
    · subst c46
      go_wp2_with fail
      refine (HD.out _ rfl (by simp) w1).mono ?_
      rintro en w2 ⟨rfl, hb2⟩
      have h2 := h1.later hb2
      have hO2 : Off p w1 w2 := Off.of_below hb2
      generalize hS : w40.span 0 256 = S
      have HSe := Lib.hid hS; clear hS
      have R2 := hO2.blk R1 (by omega)
      have N2 := hO2.blk N1 (by omega)
      have hO2 := hO1.trans hO2
      have HS := Lib.hid N2
      obtain ⟨⟨_, g1, g2, g3, g4, _⟩, gz⟩ := N2.cells8
      have gz1 := gz 1; have gz2 := gz 2; have gz3 := gz 3; have gz4 := gz 4
      have ln := N2.lt
      obtain ⟨⟨r0, r1, r2, r3, r4, r5, r6, r7⟩, hz⟩ := R2.cells8
      obtain ⟨⟨f0, _, _, _, _, f5, f6, f7⟩, _⟩ := N2.cells8
      have z0 := hz 0; have z1 := hz 1; have z2 := hz 2; have z3 := hz 3; have z4 := hz 4; have z5 := hz 5; have z6 := hz 6; have z7 := hz 7
      have lr := R2.lt
      clear hz gz
      have HR2 := Lib.hid R2; have H2 := Lib.hid h2; have HO2 := Lib.hid hO2
      clear R2 N2 h2 hO2 R1 N1 h1 hO1
      go_upto_region 22 with fail
      change Code.wp _ _ _ _ (setW w2 (w.heap.size + 1) S)
      have R2 := HR2.out.keep (setW_other w2 (w.heap.size + 1) S w.heap.size (by omega))
      have N2 := setW_blk HS.out S
      have h2 := H2.out.fillW (b := w.heap.size + 1) (by omega) S
      have hO2 := Off.fillW HO2.out (b := w.heap.size + 1) (by omega) S
      clear r0 r1 r2 r3 r4 r5 r6 r7 f0 f5 f6 f7 g1 g2 g3 g4 gz1 gz2 gz3 gz4 z0 z1 z2 z3 z4 z5 z6 z7 lr ln HR2 H2 HO2 HS
      obtain ⟨x, hx⟩ : ∃ x : Nx, x = (S.T, none, 0) := ⟨_, rfl⟩
      rw [← hx] at N2
      have Hx := Lib.hid hx
      clear hx
      generalize setW w2 (w.heap.size + 1) S = W2 at *
      obtain ⟨⟨f0, f1, f2, f3, f4, f5, f6, f7⟩, _⟩ := N2.cells8
      obtain ⟨⟨r0, r1, r2, r3, r4, r5, r6, r7⟩, hz⟩ := R2.cells8
      have z0 := hz 0; have z1 := hz 1; have z2 := hz 2; have z3 := hz 3; have z4 := hz 4; have z5 := hz 5; have z6 := hz 6; have z7 := hz 7
      have lr := R2.lt
      have ln := N2.lt
      clear hz
      have HR2 := Lib.hid R2; have H2 := Lib.hid h2; have HO2 := Lib.hid hO2
      clear R2 N2 h2 hO2
      go_wp2_with fail
      change bodyPost _ _ _ _ _ (writeX W2 w.heap.size x)
      have hfin := writeX_blk HR2.out x
      obtain ⟨⟨y0, y1, y2, y3, y4, y5, y6, y7⟩, _⟩ := hfin.cells8
      have hRS := H2.out.boxW (b := w.heap.size) (by omega) x
      have hOff := Off.boxW HO2.out (Nat.le_refl _) x
      have hNod : NodeAt (writeX W2 w.heap.size x) (fun b => w.heap.size ≤ b ∧ b < (writeX W2 w.heap.size x).heap.size) x.1 x.2.1 x.2.2 := by rw [Hx.out]; exact nodeAt_leafX _ _ _ rfl
      generalize writeX W2 w.heap.size x = W3 at *
      refine bodyPost_ret (v := nodeV x.1 x.2.1 x.2.2) (by simp [results, Tryz.results60, y0, y1, y2, y3, y4, y5, y6, y7, go_sem]) rfl ⟨x, _, rfl, hNod, hRS, hOff, ?_⟩
      exact Out.good (x := (w40.span 0 256).T) (by simp [atomP]) (by rw [Hx.out, HSe.out])
    have n46 := u8_ne (k := 46) (by omega) c46
    by_cases c42 : c = 42
    · subst c42
      go_wp2_with fail
      refine (fail_ok 104 (by omega) h1).mono ?_
      rintro en W2 ⟨rfl, h2, hO2⟩
      have R2 := hO2.blk R1 (by omega)
      have N2 := hO2.blk N1 (by omega)
      have hO2 := hO1.trans hO2
      obtain ⟨x, hx⟩ : ∃ x : Nx, x = (w40.T, none, 0) := ⟨_, rfl⟩
      rw [← hx] at N2
      have Hx := Lib.hid hx
      clear hx R1 N1 h1 hO1
      obtain ⟨⟨f0, f1, f2, f3, f4, f5, f6, f7⟩, _⟩ := N2.cells8
      obtain ⟨⟨r0, r1, r2, r3, r4, r5, r6, r7⟩, hz⟩ := R2.cells8
      have z0 := hz 0; have z1 := hz 1; have z2 := hz 2; have z3 := hz 3; have z4 := hz 4; have z5 := hz 5; have z6 := hz 6; have z7 := hz 7
      have lr := R2.lt
      have ln := N2.lt
      clear hz
      have HR2 := Lib.hid R2; have H2 := Lib.hid h2; have HO2 := Lib.hid hO2
      clear R2 N2 h2 hO2
      go_wp2_with fail
      change bodyPost _ _ _ _ _ (writeX W2 w.heap.size x)
      have hfin := writeX_blk HR2.out x
      obtain ⟨⟨y0, y1, y2, y3, y4, y5, y6, y7⟩, _⟩ := hfin.cells8
      have hRS := H2.out.boxW (b := w.heap.size) (by omega) x
      have hOff := Off.boxW HO2.out (Nat.le_refl _) x
      have hNod : NodeAt (writeX W2 w.heap.size x) (fun b => w.heap.size ≤ b ∧ b < (writeX W2 w.heap.size x).heap.size) x.1 x.2.1 x.2.2 := by rw [Hx.out]; exact nodeAt_leafX _ _ _ rfl
      generalize writeX W2 w.heap.size x = W3 at *
      refine bodyPost_ret (v := nodeV x.1 x.2.1 x.2.2) (by simp [results, Tryz.results60, y0, y1, y2, y3, y4, y5, y6, y7, go_sem]) rfl ⟨x, _, rfl, hNod, hRS, hOff, ?_⟩
      exact Out.bad (by simp [atomP])
    have n42 := u8_ne (k := 42) (by omega) c42
    by_cases c43 : c = 43
    · subst c43
      go_wp2_with fail
      refine (fail_ok 104 (by omega) h1).mono ?_
      rintro en W2 ⟨rfl, h2, hO2⟩
      have R2 := hO2.blk R1 (by omega)
      have N2 := hO2.blk N1 (by omega)
      have hO2 := hO1.trans hO2
      obtain ⟨x, hx⟩ : ∃ x : Nx, x = (w40.T, none, 0) := ⟨_, rfl⟩
      rw [← hx] at N2
      have Hx := Lib.hid hx
      clear hx R1 N1 h1 hO1
      obtain ⟨⟨f0, f1, f2, f3, f4, f5, f6, f7⟩, _⟩ := N2.cells8
      obtain ⟨⟨r0, r1, r2, r3, r4, r5, r6, r7⟩, hz⟩ := R2.cells8
      have z0 := hz 0; have z1 := hz 1; have z2 := hz 2; have z3 := hz 3; have z4 := hz 4; have z5 := hz 5; have z6 := hz 6; have z7 := hz 7
      have lr := R2.lt
      have ln := N2.lt
      clear hz
      have HR2 := Lib.hid R2; have H2 := Lib.hid h2; have HO2 := Lib.hid hO2
      clear R2 N2 h2 hO2
      go_wp2_with fail
      change bodyPost _ _ _ _ _ (writeX W2 w.heap.size x)
      have hfin := writeX_blk HR2.out x
      obtain ⟨⟨y0, y1, y2, y3, y4, y5, y6, y7⟩, _⟩ := hfin.cells8
      have hRS := H2.out.boxW (b := w.heap.size) (by omega) x
      have hOff := Off.boxW HO2.out (Nat.le_refl _) x
      have hNod : NodeAt (writeX W2 w.heap.size x) (fun b => w.heap.size ≤ b ∧ b < (writeX W2 w.heap.size x).heap.size) x.1 x.2.1 x.2.2 := by rw [Hx.out]; exact nodeAt_leafX _ _ _ rfl
      generalize writeX W2 w.heap.size x = W3 at *
      refine bodyPost_ret (v := nodeV x.1 x.2.1 x.2.2) (by simp [results, Tryz.results60, y0, y1, y2, y3, y4, y5, y6, y7, go_sem]) rfl ⟨x, _, rfl, hNod, hRS, hOff, ?_⟩
      exact Out.bad (by simp [atomP])
    have n43 := u8_ne (k := 43) (by omega) c43
    by_cases c63 : c = 63
    · subst c63
      go_wp2_with fail
      refine (fail_ok 104 (by omega) h1).mono ?_
      rintro en W2 ⟨rfl, h2, hO2⟩
      have R2 := hO2.blk R1 (by omega)
      have N2 := hO2.blk N1 (by omega)
      have hO2 := hO1.trans hO2
      obtain ⟨x, hx⟩ : ∃ x : Nx, x = (w40.T, none, 0) := ⟨_, rfl⟩
      rw [← hx] at N2
      have Hx := Lib.hid hx
      clear hx R1 N1 h1 hO1
      obtain ⟨⟨f0, f1, f2, f3, f4, f5, f6, f7⟩, _⟩ := N2.cells8
      obtain ⟨⟨r0, r1, r2, r3, r4, r5, r6, r7⟩, hz⟩ := R2.cells8
      have z0 := hz 0; have z1 := hz 1; have z2 := hz 2; have z3 := hz 3; have z4 := hz 4; have z5 := hz 5; have z6 := hz 6; have z7 := hz 7
      have lr := R2.lt
      have ln := N2.lt
      clear hz
      have HR2 := Lib.hid R2; have H2 := Lib.hid h2; have HO2 := Lib.hid hO2
      clear R2 N2 h2 hO2
      go_wp2_with fail
      change bodyPost _ _ _ _ _ (writeX W2 w.heap.size x)
      have hfin := writeX_blk HR2.out x
      obtain ⟨⟨y0, y1, y2, y3, y4, y5, y6, y7⟩, _⟩ := hfin.cells8
      have hRS := H2.out.boxW (b := w.heap.size) (by omega) x
      have hOff := Off.boxW HO2.out (Nat.le_refl _) x
      have hNod : NodeAt (writeX W2 w.heap.size x) (fun b => w.heap.size ≤ b ∧ b < (writeX W2 w.heap.size x).heap.size) x.1 x.2.1 x.2.2 := by rw [Hx.out]; exact nodeAt_leafX _ _ _ rfl
      generalize writeX W2 w.heap.size x = W3 at *
      refine bodyPost_ret (v := nodeV x.1 x.2.1 x.2.2) (by simp [results, Tryz.results60, y0, y1, y2, y3, y4, y5, y6, y7, go_sem]) rfl ⟨x, _, rfl, hNod, hRS, hOff, ?_⟩
      exact Out.bad (by simp [atomP])
    have n63 := u8_ne (k := 63) (by omega) c63
    by_cases c123 : c = 123
    · subst c123
      go_wp2_with fail
      refine (fail_ok 104 (by omega) h1).mono ?_
      rintro en W2 ⟨rfl, h2, hO2⟩
      have R2 := hO2.blk R1 (by omega)
      have N2 := hO2.blk N1 (by omega)
      have hO2 := hO1.trans hO2
      obtain ⟨x, hx⟩ : ∃ x : Nx, x = (w40.T, none, 0) := ⟨_, rfl⟩
      rw [← hx] at N2
      have Hx := Lib.hid hx
      clear hx R1 N1 h1 hO1
      obtain ⟨⟨f0, f1, f2, f3, f4, f5, f6, f7⟩, _⟩ := N2.cells8
      obtain ⟨⟨r0, r1, r2, r3, r4, r5, r6, r7⟩, hz⟩ := R2.cells8
      have z0 := hz 0; have z1 := hz 1; have z2 := hz 2; have z3 := hz 3; have z4 := hz 4; have z5 := hz 5; have z6 := hz 6; have z7 := hz 7
      have lr := R2.lt
      have ln := N2.lt
      clear hz
      have HR2 := Lib.hid R2; have H2 := Lib.hid h2; have HO2 := Lib.hid hO2
      clear R2 N2 h2 hO2
      go_wp2_with fail
      change bodyPost _ _ _ _ _ (writeX W2 w.heap.size x)
      have hfin := writeX_blk HR2.out x
      obtain ⟨⟨y0, y1, y2, y3, y4, y5, y6, y7⟩, _⟩ := hfin.cells8
      have hRS := H2.out.boxW (b := w.heap.size) (by omega) x
      have hOff := Off.boxW HO2.out (Nat.le_refl _) x
      have hNod : NodeAt (writeX W2 w.heap.size x) (fun b => w.heap.size ≤ b ∧ b < (writeX W2 w.heap.size x).heap.size) x.1 x.2.1 x.2.2 := by rw [Hx.out]; exact nodeAt_leafX _ _ _ rfl
      generalize writeX W2 w.heap.size x = W3 at *
      refine bodyPost_ret (v := nodeV x.1 x.2.1 x.2.2) (by simp [results, Tryz.results60, y0, y1, y2, y3, y4, y5, y6, y7, go_sem]) rfl ⟨x, _, rfl, hNod, hRS, hOff, ?_⟩
      exact Out.bad (by simp [atomP])
    have n123 := u8_ne (k := 123) (by omega) c123
    by_cases c92 : c = 92
    · subst c92
      rcases t with _ | ⟨y, t'⟩
      · go_wp2_with fail
        refine (next_end 106 (by omega) h1).mono ?_
        rintro en w3 ⟨rfl, h3, hO3⟩
        have R1 := hO3.blk R1 (by omega)
        have N1 := hO3.blk N1 (by omega)
        have hO1 := hO1.trans hO3
        have h1 := h3
        clear h3 hO3
        go_wp2_with fail
        refine (add_any w3 (w.heap.size + 1) 1 w40 0 (by omega) N1.at4 N1.froz).mono ?_
        rintro en w2 ⟨rfl, rfl⟩
        have R2 : BlkX (addW w3 (w.heap.size + 1) 1 w40 0).drew w.heap.size (xcell (.mk 0 0 0 0 0 0 0 [], none, 0)).toArray := R1.keep (addW_other _ _ _ _ _ _ (by omega))
        have N2 : BlkX (addW w3 (w.heap.size + 1) 1 w40 0).drew (w.heap.size + 1) (xcell ((w40.add 0).T, none, 0)).toArray := addW_blk N1 0 (by omega)
        have h2 := h1.putW (b := w.heap.size + 1) (by omega) 1 w40 0
        have hO2 := Off.putW hO1 (b := w.heap.size + 1) (by omega) 1 w40 0
        obtain ⟨x, hx⟩ : ∃ x : Nx, x = ((w40.add 0).T, none, 0) := ⟨_, rfl⟩
        rw [← hx] at N2
        have Hx := Lib.hid hx
        clear hx R1 N1 h1 hO1
        generalize (addW w3 (w.heap.size + 1) 1 w40 0).drew = W2 at *
        obtain ⟨⟨f0, f1, f2, f3, f4, f5, f6, f7⟩, _⟩ := N2.cells8
        obtain ⟨⟨r0, r1, r2, r3, r4, r5, r6, r7⟩, hz⟩ := R2.cells8
        have z0 := hz 0; have z1 := hz 1; have z2 := hz 2; have z3 := hz 3; have z4 := hz 4; have z5 := hz 5; have z6 := hz 6; have z7 := hz 7
        have lr := R2.lt
        have ln := N2.lt
        clear hz
        have HR2 := Lib.hid R2; have H2 := Lib.hid h2; have HO2 := Lib.hid hO2
        clear R2 N2 h2 hO2
        go_wp2_with fail
        change bodyPost _ _ _ _ _ (writeX W2 w.heap.size x)
        have hfin := writeX_blk HR2.out x
        obtain ⟨⟨y0, y1, y2, y3, y4, y5, y6, y7⟩, _⟩ := hfin.cells8
        have hRS := H2.out.boxW (b := w.heap.size) (by omega) x
        have hOff := Off.boxW HO2.out (Nat.le_refl _) x
        have hNod : NodeAt (writeX W2 w.heap.size x) (fun b => w.heap.size ≤ b ∧ b < (writeX W2 w.heap.size x).heap.size) x.1 x.2.1 x.2.2 := by rw [Hx.out]; exact nodeAt_leafX _ _ _ rfl
        generalize writeX W2 w.heap.size x = W3 at *
        refine bodyPost_ret (v := nodeV x.1 x.2.1 x.2.2) (by simp [results, Tryz.results60, y0, y1, y2, y3, y4, y5, y6, y7, go_sem]) rfl ⟨x, _, rfl, hNod, hRS, hOff, ?_⟩
        exact Out.bad (by simp [atomP])
      · have hy := y.toNat_lt
        go_wp2_with fail
        refine (next_ok 106 (by omega) h1).mono ?_
        rintro en w3 ⟨rfl, h3, hO3⟩
        have R1 := hO3.blk R1 (by omega)
        have N1 := hO3.blk N1 (by omega)
        have hO1 := hO1.trans hO3
        have h1 := h3
        clear h3 hO3
        go_wp2_with fail
        refine (add_any w3 (w.heap.size + 1) 1 w40 y.toNat (by omega) N1.at4 N1.froz).mono ?_
        rintro en w2 ⟨rfl, rfl⟩
        have R2 : BlkX (addW w3 (w.heap.size + 1) 1 w40 y.toNat).drew w.heap.size (xcell (.mk 0 0 0 0 0 0 0 [], none, 0)).toArray := R1.keep (addW_other _ _ _ _ _ _ (by omega))
        have N2 : BlkX (addW w3 (w.heap.size + 1) 1 w40 y.toNat).drew (w.heap.size + 1) (xcell ((w40.add y.toNat).T, none, 0)).toArray := addW_blk N1 y.toNat (by omega)
        have h2 := h1.putW (b := w.heap.size + 1) (by omega) 1 w40 y.toNat
        have hO2 := Off.putW hO1 (b := w.heap.size + 1) (by omega) 1 w40 y.toNat
        obtain ⟨x, hx⟩ : ∃ x : Nx, x = ((w40.add y.toNat).T, none, 0) := ⟨_, rfl⟩
        rw [← hx] at N2
        have Hx := Lib.hid hx
        clear hx R1 N1 h1 hO1
        generalize (addW w3 (w.heap.size + 1) 1 w40 y.toNat).drew = W2 at *
        obtain ⟨⟨f0, f1, f2, f3, f4, f5, f6, f7⟩, _⟩ := N2.cells8
        obtain ⟨⟨r0, r1, r2, r3, r4, r5, r6, r7⟩, hz⟩ := R2.cells8
        have z0 := hz 0; have z1 := hz 1; have z2 := hz 2; have z3 := hz 3; have z4 := hz 4; have z5 := hz 5; have z6 := hz 6; have z7 := hz 7
        have lr := R2.lt
        have ln := N2.lt
        clear hz
        have HR2 := Lib.hid R2; have H2 := Lib.hid h2; have HO2 := Lib.hid hO2
        clear R2 N2 h2 hO2
        go_wp2_with fail
        change bodyPost _ _ _ _ _ (writeX W2 w.heap.size x)
        have hfin := writeX_blk HR2.out x
        obtain ⟨⟨y0, y1, y2, y3, y4, y5, y6, y7⟩, _⟩ := hfin.cells8
        have hRS := H2.out.boxW (b := w.heap.size) (by omega) x
        have hOff := Off.boxW HO2.out (Nat.le_refl _) x
        have hNod : NodeAt (writeX W2 w.heap.size x) (fun b => w.heap.size ≤ b ∧ b < (writeX W2 w.heap.size x).heap.size) x.1 x.2.1 x.2.2 := by rw [Hx.out]; exact nodeAt_leafX _ _ _ rfl
        generalize writeX W2 w.heap.size x = W3 at *
        refine bodyPost_ret (v := nodeV x.1 x.2.1 x.2.2) (by simp [results, Tryz.results60, y0, y1, y2, y3, y4, y5, y6, y7, go_sem]) rfl ⟨x, _, rfl, hNod, hRS, hOff, ?_⟩
        exact Out.good (x := (w40.add y.toNat).T) (by simp [atomP]) (by rw [Hx.out])
    have n92 := u8_ne (k := 92) (by omega) c92
    have hy := c.toNat_lt
    have hres : atomP grp (c :: t) = .ok ((w40.add c.toNat).T, t) := by simp [atomP, c40, c94, c36, c91, c46, c42, c43, c63, c123, c92]
    have Hres := Lib.hid hres; clear hres c40 c94 c36 c91 c46 c42 c43 c63 c123 c92
    go_wp2_with fail
    refine (add_any w1 (w.heap.size + 1) 1 w40 c.toNat (by omega) N1.at4 N1.froz).mono ?_
    rintro en w2 ⟨rfl, rfl⟩
    have R2 : BlkX (addW w1 (w.heap.size + 1) 1 w40 c.toNat).drew w.heap.size (xcell (.mk 0 0 0 0 0 0 0 [], none, 0)).toArray := R1.keep (addW_other _ _ _ _ _ _ (by omega))
    have N2 : BlkX (addW w1 (w.heap.size + 1) 1 w40 c.toNat).drew (w.heap.size + 1) (xcell ((w40.add c.toNat).T, none, 0)).toArray := addW_blk N1 c.toNat (by omega)
    have h2 := h1.putW (b := w.heap.size + 1) (by omega) 1 w40 c.toNat
    have hO2 := Off.putW hO1 (b := w.heap.size + 1) (by omega) 1 w40 c.toNat
    obtain ⟨x, hx⟩ : ∃ x : Nx, x = ((w40.add c.toNat).T, none, 0) := ⟨_, rfl⟩
    rw [← hx] at N2
    have Hx := Lib.hid hx
    clear hx R1 N1 h1 hO1
    generalize (addW w1 (w.heap.size + 1) 1 w40 c.toNat).drew = W2 at *
    obtain ⟨⟨f0, f1, f2, f3, f4, f5, f6, f7⟩, _⟩ := N2.cells8
    obtain ⟨⟨r0, r1, r2, r3, r4, r5, r6, r7⟩, hz⟩ := R2.cells8
    have z0 := hz 0; have z1 := hz 1; have z2 := hz 2; have z3 := hz 3; have z4 := hz 4; have z5 := hz 5; have z6 := hz 6; have z7 := hz 7
    have lr := R2.lt
    have ln := N2.lt
    clear hz
    have HR2 := Lib.hid R2; have H2 := Lib.hid h2; have HO2 := Lib.hid hO2
    clear R2 N2 h2 hO2
    go_wp2_with fail
    change bodyPost _ _ _ _ _ (writeX W2 w.heap.size x)
    have hfin := writeX_blk HR2.out x
    obtain ⟨⟨y0, y1, y2, y3, y4, y5, y6, y7⟩, _⟩ := hfin.cells8
    have hRS := H2.out.boxW (b := w.heap.size) (by omega) x
    have hOff := Off.boxW HO2.out (Nat.le_refl _) x
    have hNod : NodeAt (writeX W2 w.heap.size x) (fun b => w.heap.size ≤ b ∧ b < (writeX W2 w.heap.size x).heap.size) x.1 x.2.1 x.2.2 := by rw [Hx.out]; exact nodeAt_leafX _ _ _ rfl
    generalize writeX W2 w.heap.size x = W3 at *
    refine bodyPost_ret (v := nodeV x.1 x.2.1 x.2.2) (by simp [results, Tryz.results60, y0, y1, y2, y3, y4, y5, y6, y7, go_sem]) rfl ⟨x, _, rfl, hNod, hRS, hOff, ?_⟩
    exact Out.good (x := (w40.add c.toNat).T) Hres.out (by rw [Hx.out])
end Go.Proofs.YteekafkpeimhoaaGreat

/- The pattern reader's piece: walked. (Printed by wip/genpiece.py.) -/
set_option linter.unusedVariables false
set_option linter.unusedSimpArgs false
namespace Go.Proofs.YteekafkpeimhoaaGreat
open Go.RowKit

theorem takeP_len {q r r' : Bs} (h : takeP q r = some r') : r'.length + q.length = r.length := by
  unfold takeP at h
  split at h
  · rename_i hp
    cases h
    have := pref_len hp
    simp; omega
  · cases h
theorem digits_len : ∀ (k : Nat) (n : Int) (w : Nat) (r : Bs), (digitsP k n w r).2.2.length ≤ r.length
  | 0, n, w, r => by rw [digitsP]; exact Nat.le_refl _
  | k + 1, n, w, [] => by rw [digitsP]; exact Nat.le_refl _
  | k + 1, n, w, c :: t => by
    rw [digitsP]
    split
    · have := digits_len k (10 * n + (c.toNat - 48)) (w + 1) t
      simp only [List.length_cons]; omega
    · exact Nat.le_refl _
theorem number_len {r r' : Bs} {n : Int} (h : numberP r = .ok (n, r')) : r'.length ≤ r.length := by
  unfold numberP at h
  split at h
  · cases h
  · cases h; exact digits_len 4 0 0 r
theorem interval_len {r r' : Bs} {m n : Int} (h : intervalP r = .ok (m, n, r')) : r'.length ≤ r.length := by
  unfold intervalP at h
  split at h
  · cases h
  rename_i m1 r1 hn
  have l1 := number_len hn
  split at h
  · rename_i r2 ht; cases h; have := takeP_len ht; simp at this; omega
  split at h
  · rename_i r2 ht; cases h; have := takeP_len ht; simp at this; omega
  split at h
  · cases h
  rename_i r2 ht
  have l2 := takeP_len ht
  split at h
  · cases h
  rename_i n1 r3 hn2
  have l3 := number_len hn2
  split at h
  · cases h
  split at h
  · rename_i r4 ht4; cases h; have := takeP_len ht4; simp at this l2; omega
  · cases h
/-- Where the loop of piece stands. -/
def PieceI (p : Nat) (op : Int) (grp : Bs → PT) (s : Rs) (w : World) (bn : Nat) (wr : World) (n : Nat) : Prop :=
  ∃ (x : Nx) (s' : Rs), n = s'.rest.length + 1 ∧ BlkX wr w.heap.size (xcell (.mk 0 0 0 0 0 0 0 [], none, 0)).toArray ∧ BlkX wr bn (xcell x).toArray ∧ NodeAt wr (fun b => w.heap.size < b ∧ b < wr.heap.size ∧ b ≠ bn) x.1 x.2.1 x.2.2 ∧ RS wr p op s' ∧ Off p w wr ∧
    ((∃ e, s' = .error e ∧ (s = .error e ∨ ∃ r, s = .ok r ∧ pieceP grp r = .error e)) ∨ ∃ r r' k, s = .ok r ∧ s' = .ok r' ∧ r'.length < k ∧ pieceP grp r = sufP k x.1 r')

/-- Within a round of piece: the new node's box, what it may become. -/
structure PieceR (p : Nat) (op : Int) (w wr : World) (bn : Nat) (t : T) (A : Option Addr) (c : Nat) (mm mx : Int) (s : Rs) (W : World) : Prop where
  R : BlkX W w.heap.size (xcell (.mk 0 0 0 0 0 0 0 [], none, 0)).toArray
  N : BlkX W bn (xcell (t, A, c)).toArray
  X : BlkX W (wr.heap.size + 1) (xcell (repT mm mx t, some ⟨wr.heap.size, 0, none⟩, 1)).toArray
  node : ∀ m n, NodeAt W (fun b => w.heap.size < b ∧ b < wr.heap.size + 1 ∧ b ≠ bn) (repT m n t) (some ⟨wr.heap.size, 0, none⟩) 1
  x : NodeAt W (fun b => w.heap.size < b ∧ b < wr.heap.size ∧ b ≠ bn) t A c
  S : RS W p op s
  O : Off p w W
theorem PieceR.off {p : Nat} {op : Int} {w wr : World} {bn : Nat} {t : T} {A : Option Addr} {c : Nat} {mm mx : Int} {s : Rs} {W : World} (h : PieceR p op w wr bn t A c mm mx s W) {s' : Rs} {W' : World} (hp : p < w.heap.size) (hbn : w.heap.size < bn) (hwr : bn < wr.heap.size) (hO : Off p W W') (hS : RS W' p op s') : PieceR p op w wr bn t A c mm mx s' W' := by
  have lx := h.X.lt
  exact ⟨Off.blk hO h.R (by omega), Off.blk hO h.N (by omega), Off.blk hO h.X (by omega), fun m n => (h.node m n).mono fun b (hb : w.heap.size < b ∧ b < wr.heap.size + 1 ∧ b ≠ bn) => ⟨hb, fun o => Off.cell hO (by omega) (by omega)⟩, h.x.mono fun b (hb : w.heap.size < b ∧ b < wr.heap.size ∧ b ≠ bn) => ⟨hb, fun o => Off.cell hO (by omega) (by omega)⟩, hS, Off.trans h.O hO⟩
theorem PieceR.put {p : Nat} {op : Int} {w wr : World} {bn : Nat} {t : T} {A : Option Addr} {c : Nat} {mm mx : Int} {s : Rs} {W : World} (h : PieceR p op w wr bn t A c mm mx s W) {m' n' : Int} {W' : World} (hp : p < w.heap.size) (hbn : w.heap.size < bn) (hwr : bn < wr.heap.size)
    (hX : BlkX W' (wr.heap.size + 1) (xcell (repT m' n' t, some ⟨wr.heap.size, 0, none⟩, 1)).toArray) (hz : W'.heap.size = W.heap.size) (hb : Below 0 W W') (hk : ∀ k, k ≠ wr.heap.size + 1 → W'.heap[k]? = W.heap[k]?) : PieceR p op w wr bn t A c m' n' s W' := by
  have lx := h.X.lt
  have hc : ∀ b o, b ≠ wr.heap.size + 1 → W'.cell? ⟨b, o, none⟩ = W.cell? ⟨b, o, none⟩ := fun b o hb => World.cell?_of_block (w := W) (a := ⟨b, o, none⟩) (hk b hb)
  exact ⟨h.R.keep (hk _ (by omega)), h.N.keep (hk _ (by omega)), hX, fun m n => (h.node m n).mono fun b (hb : w.heap.size < b ∧ b < wr.heap.size + 1 ∧ b ≠ bn) => ⟨hb, fun o => hc b o (by omega)⟩, h.x.mono fun b (hb : w.heap.size < b ∧ b < wr.heap.size ∧ b ≠ bn) => ⟨hb, fun o => hc b o (by omega)⟩, h.S.kept (by omega) (hk _ (by omega)) (hk _ (by omega)), Off.far h.O (b := wr.heap.size + 1) (by omega) hb.os hb.tape hb.output hz hk⟩
theorem PieceR.set5 {p : Nat} {op : Int} {w wr : World} {bn : Nat} {t : T} {A : Option Addr} {c : Nat} {mm mx : Int} {s : Rs} {W : World} (h : PieceR p op w wr bn t A c mm mx s W) (hp : p < w.heap.size) (hbn : w.heap.size < bn) (hwr : bn < wr.heap.size) (m' : Int) : PieceR p op w wr bn t A c m' mx s (W.setCell ⟨wr.heap.size + 1, 5, none⟩ (.int .i64 m')) := by
  refine h.put hp hbn hwr ?_ (by simp) ((Below.refl 0 W).setCell (Nat.zero_le _) _) (fun k hk => Below.heap_setCell _ _ _ _ hk)
  have h1 := h.X.set 5 (.int .i64 m')
  simpa [xcell, repT, T.k, T.s0, T.s1, T.s2, T.s3, T.mn, T.mx, T.ps] using h1
theorem PieceR.set6 {p : Nat} {op : Int} {w wr : World} {bn : Nat} {t : T} {A : Option Addr} {c : Nat} {mm mx : Int} {s : Rs} {W : World} (h : PieceR p op w wr bn t A c mm mx s W) (hp : p < w.heap.size) (hbn : w.heap.size < bn) (hwr : bn < wr.heap.size) (m' : Int) : PieceR p op w wr bn t A c mm m' s (W.setCell ⟨wr.heap.size + 1, 6, none⟩ (.int .i64 m')) := by
  refine h.put hp hbn hwr ?_ (by simp) ((Below.refl 0 W).setCell (Nat.zero_le _) _) (fun k hk => Below.heap_setCell _ _ _ _ hk)
  have h1 := h.X.set 6 (.int .i64 m')
  simpa [xcell, repT, T.k, T.s0, T.s1, T.s2, T.s3, T.mn, T.mx, T.ps] using h1
/-- The round's end: the new node is the node. -/
theorem PieceR.done {p : Nat} {op : Int} {w wr : World} {bn : Nat} {t : T} {A : Option Addr} {c : Nat} {mm mx : Int} {s : Rs} {W : World} (h : PieceR p op w wr bn t A c mm mx s W) (hp : p < w.heap.size) (hbn : w.heap.size < bn) (hwr : bn < wr.heap.size) :
    (fun W' => BlkX W' w.heap.size (xcell (.mk 0 0 0 0 0 0 0 [], none, 0)).toArray ∧ BlkX W' bn (xcell (repT mm mx t, some ⟨wr.heap.size, 0, none⟩, 1)).toArray ∧ NodeAt W' (fun b => w.heap.size < b ∧ b < W'.heap.size ∧ b ≠ bn) (repT mm mx t) (some ⟨wr.heap.size, 0, none⟩) 1 ∧ RS W' p op s ∧ Off p w W') (writeX W bn (repT mm mx t, some ⟨wr.heap.size, 0, none⟩, 1)) := by
  have lx := h.X.lt
  refine ⟨h.R.keep (writeX_other _ _ _ _ (by omega)), writeX_blk h.N _, (h.node mm mx).mono fun b (hb : w.heap.size < b ∧ b < wr.heap.size + 1 ∧ b ≠ bn) => ⟨⟨hb.1, by rw [writeX_size]; omega, hb.2.2⟩, fun o => World.cell?_of_block (w := W) (a := ⟨b, o, none⟩) (writeX_other _ _ _ _ hb.2.2)⟩, h.S.boxW (by omega) _, Off.boxW h.O (by omega) _⟩

set_option maxRecDepth 100000 in
set_option maxHeartbeats 4000000 in
theorem piece_any (w : World) (p : Nat) (op : Int) (s : Rs) (h : RS w p op s) (hs : s.rest.length ≤ 1024) (grp : Bs → PT) (hB : ∀ r, s = .ok r → 91 ∈ r → BrC) (hD : ∀ r, s = .ok r → 46 ∈ r → DotC)
    (hG : ∀ (w : World) (s : Rs), RS w p op s → s.rest.length ≤ 1024 → (∀ r, s = .ok r → 91 ∈ r → BrC) → (∀ r, s = .ok r → 46 ∈ r → DotC) → Calls Tryz.prog 68 #[.pointer (some ⟨p, 0, none⟩)] w fun en w' => GNode p op grp s w en w') :
    Calls Tryz.prog 46 #[.pointer (some ⟨p, 0, none⟩)] w fun en w' => GNode p op (pieceP grp) s w en w' := by
  have hlt := h.lt
  have hat : ∀ (w : World), RS w p op s → Calls Tryz.prog 60 #[.pointer (some ⟨p, 0, none⟩)] w fun en w' => GNode p op (atomP grp) s w en w' := fun w h => atom_any w p op s h hs grp hB hD hG
  have HA := Lib.hid hat; clear hat hB hD hG hs
  have H := Lib.hid h; clear h
  go_enter Tryz.func46, Tryz.ntmps46
  go_wp2_with fail
  generalize hW : w.alloc _ = W0
  have hB0 : Below w.heap.size w W0 := by subst hW; exact (Below.refl _ _).alloc (Nat.le_refl _) _
  have R0 : BlkX W0 w.heap.size (xcell (.mk 0 0 0 0 0 0 0 [], none, 0)).toArray := by subst hW; exact BlkX.new w _
  have hz0 : W0.heap.size = w.heap.size + 1 := by subst hW; simp
  clear hW
  refine (HA.out W0 (H.out.later hB0)).mono ?_
  rintro en w1 ⟨⟨t1, A1, c1⟩, s1, rfl, hx1, h1, hO1, ho1⟩
  have R1 := hO1.blk R0 (by omega)
  have hz1 := hO1.size
  have Hx1 := Lib.hid hx1; have Ho1 := Lib.hid ho1; have Hz0 := Lib.hid hz0
  have hz0' : w.heap.size < W0.heap.size := by omega
  clear hx1 ho1 hz0
  go_wp2_with fail
  generalize hW : w1.alloc _ = W1
  have hb1 : Below w1.heap.size w1 W1 := by subst hW; exact (Below.refl _ _).alloc (Nat.le_refl _) _
  have N1 : BlkX W1 w1.heap.size (xcell (t1, A1, c1)).toArray := by subst hW; exact BlkX.new w1 _
  have hz2 : w1.heap.size < W1.heap.size := by subst hW; simp
  have hI : PieceI p op grp s w w1.heap.size W1 (s1.rest.length + 1) := by
    refine ⟨(t1, A1, c1), s1, rfl, R1.keep (hb1.block _ R1.lt), N1, Hx1.out.mono fun b (hb : W0.heap.size ≤ b ∧ b < w1.heap.size) => ⟨⟨by omega, by omega, by omega⟩, fun o => hb1.cell (p := ⟨b, o, none⟩) hb.2⟩, h1.later hb1, ((Off.of_below hB0).trans hO1).trans (Off.of_below hb1), ?_⟩
    have ho := Ho1.out
    rcases s with e | r
    · cases (show s1 = .error e from ho)
      exact .inl ⟨e, rfl, .inl rfl⟩
    · cases ha : atomP grp r with
      | error e =>
        simp only [Out, ha] at ho
        exact .inl ⟨e, ho, .inr ⟨r, rfl, by simp only [pieceP, ha]⟩⟩
      | ok y =>
        obtain ⟨n, r1⟩ := y
        simp only [Out, ha] at ho
        obtain ⟨rfl, rfl⟩ := ho
        exact .inr ⟨r, r1, r1.length + 1, rfl, rfl, by omega, by simp only [pieceP, ha]⟩
  have HI := Lib.hid hI
  generalize hbn : w1.heap.size = bn at *
  have hbw : w.heap.size < bn := by omega
  clear hW hI N1 R1 h1 hO1 hb1 Hx1 Ho1 Hz0 hz0' hz1 hbn hB0 R0
  go_loopg [] (s1.rest.length + 1) (fun n wr => PieceI p op grp s w bn wr n)
  case atStart => exact HI.out
  case round =>
    clear HI
    obtain ⟨⟨t, A, c⟩, s', hn, hR, hN, hX, hS, hO, hcase⟩ := hrel
    have Hn := Lib.hid hn; have HX := Lib.hid hX; have HC := Lib.hid hcase; have HN := Lib.hid hN; have HR := Lib.hid hR; have HS := Lib.hid hS; have HO := Lib.hid hO
    have ltn := hN.lt
    have lts := hS.lt
    obtain ⟨⟨f0, f1, f2, f3, f4, f5, f6, f7⟩, _⟩ := hN.cells8
    clear hn hX hcase hN hR hS hO
    go_wp2_with fail
    generalize hW : (wr.alloc _).alloc _ = W2
    have hP : PieceR p op w wr bn t A c 0 (-1) s' W2 := by
      obtain ⟨wa, ha⟩ : ∃ wa, wa = wr.alloc (.cells (xcells [(t, A, c)]).toArray 39) := ⟨_, rfl⟩
      have hza : wa.heap.size = wr.heap.size + 1 := by rw [ha]; simp
      have hba : Below wr.heap.size wr wa := by rw [ha]; exact (Below.refl _ _).alloc (Nat.le_refl _) _
      have h8 := at8_litX [(t, A, c)] ha 0 _ rfl
      have hW' : W2 = wa.alloc (.cells (xcell (repT 0 (-1) t, some ⟨wr.heap.size, 0, none⟩, 1)).toArray 39) := by rw [← hW, ha]; rfl
      have hbb : Below wa.heap.size wa W2 := by rw [hW']; exact (Below.refl _ _).alloc (Nat.le_refl _) _
      have hX := BlkX.new wa (xcell (repT 0 (-1) t, some ⟨wr.heap.size, 0, none⟩, 1)).toArray
      rw [← hW', hza] at hX
      have hbel : Below wr.heap.size wr W2 := hba.trans (hbb.mono hba.size)
      have hx : NodeAt W2 (fun b => w.heap.size < b ∧ b < wr.heap.size ∧ b ≠ bn) t A c := HX.out.mono fun b hb => ⟨hb, fun o => hbel.cell (p := ⟨b, o, none⟩) hb.2.1⟩
      refine ⟨HR.out.keep (hbel.block _ HR.out.lt), HN.out.keep (hbel.block _ HN.out.lt), hX, fun m n => ?_, hx, HS.out.later hbel, Off.trans HO.out (Off.of_below hbel)⟩
      exact node_litX (repT m n t) [(t, A, c)] rfl (by simp) ⟨by omega, by omega, by omega⟩ (getX1 (h8.laterX hbb (by omega))) (getX1 (hx.mono fun b hb => ⟨⟨hb.1, by omega, hb.2.2⟩, fun o => rfl⟩))
    clear hW f0 f1 f2 f3 f4 f5 f6 f7 HR HN HX HS HO
    rcases s' with e | r'
    · go_wp2_with fail
      refine (take_err [42] (by simp) hP.S).mono ?_
      rintro en W3 ⟨rfl, h2, hO2⟩
      have hP := hP.off hlt hbw ltn hO2 h2
      clear h2 hO2
      go_wp2_with fail
      refine (take_err [43] (by simp) hP.S).mono ?_
      rintro en W4 ⟨rfl, h2, hO2⟩
      have hP := hP.off hlt hbw ltn hO2 h2
      clear h2 hO2
      go_wp2_with fail
      refine (take_err [63] (by simp) hP.S).mono ?_
      rintro en W5 ⟨rfl, h2, hO2⟩
      have hP := hP.off hlt hbw ltn hO2 h2
      clear h2 hO2
      go_wp2_with fail
      refine (take_err [123] (by simp) hP.S).mono ?_
      rintro en W6 ⟨rfl, h2, hO2⟩
      have hP := hP.off hlt hbw ltn hO2 h2
      clear h2 hO2
      obtain ⟨⟨n0, n1, n2, n3, n4, n5, n6, n7⟩, _⟩ := hP.N.cells8
      have ln := hP.N.lt
      obtain ⟨⟨r0, r1_, r2_, r3, r4, r5, r6, r7⟩, hz⟩ := hP.R.cells8
      have z0 := hz 0; have z1 := hz 1; have z2 := hz 2; have z3 := hz 3; have z4 := hz 4; have z5 := hz 5; have z6 := hz 6; have z7 := hz 7
      have lr := hP.R.lt
      clear hz
      have HP := Lib.hid hP; clear hP
      go_wp2_with fail
      change bodyPost _ _ _ _ _ (writeX W6 w.heap.size (t, A, c))
      have hfin := writeX_blk HP.out.R (t, A, c)
      obtain ⟨⟨y0, y1, y2, y3, y4, y5, y6, y7⟩, _⟩ := hfin.cells8
      have hRS := HP.out.S.boxW (b := w.heap.size) (by omega) (t, A, c)
      have hOff := Off.boxW HP.out.O (Nat.le_refl _) (t, A, c)
      have hlw := HP.out.X.lt
      have hNod : NodeAt (writeX W6 w.heap.size (t, A, c)) (fun b => w.heap.size ≤ b ∧ b < (writeX W6 w.heap.size (t, A, c)).heap.size) t A c := HP.out.x.mono fun k (hk : w.heap.size < k ∧ k < wr.heap.size ∧ k ≠ bn) => ⟨⟨by omega, by rw [writeX_size]; omega⟩, fun o => World.cell?_of_block (w := W6) (a := ⟨k, o, none⟩) (writeX_other _ _ _ _ (show k ≠ w.heap.size by omega))⟩
      generalize writeX W6 w.heap.size (t, A, c) = W3 at *
      refine bodyPost_ret (v := nodeV t A c) (by simp [results, Tryz.results46, y0, y1, y2, y3, y4, y5, y6, y7, go_sem]) rfl ⟨(t, A, c), _, rfl, hNod, hRS, hOff, ?_⟩
      rcases HC.out with ⟨e', he, hs⟩ | ⟨r, r', k, _, he, _⟩
      · cases he
        rcases hs with rfl | ⟨r, rfl, hp⟩
        · exact Out.err
        · exact Out.bad hp
      · cases he
    · have hcs : ∃ r k, s = .ok r ∧ r'.length < k + 1 ∧ pieceP grp r = sufP (k + 1) t r' := by
        rcases HC.out with ⟨e', he, hs⟩ | ⟨r, r2, k, hs, he, hk, hpp⟩
        · cases he
        · cases he
          obtain ⟨k', rfl⟩ : ∃ k', k = k' + 1 := ⟨k - 1, by omega⟩
          exact ⟨r, k', hs, hk, hpp⟩
      obtain ⟨r, k, hsr, hk, hpp⟩ := hcs
      have Hpp := Lib.hid hpp; have Hsr := Lib.hid hsr; clear hpp hsr HC
      rcases ht : takeP [42] r' with _ | r2
      case' some =>
        have hsu : sufP (k + 1) t r' = sufP k (repT (0) (-1) t) r2 := by rw [sufP]; simp only [ht]
        have hl := takeP_len ht
        simp only [List.length_cons, List.length_nil] at hl
        have Hsu := Lib.hid hsu; have Ht := Lib.hid ht; clear hsu ht
        go_wp2_with fail
        refine (take_hit [42] (by simp) Ht.out hP.S).mono ?_
        rintro en W3 ⟨rfl, h2, hO2⟩
        have hP := hP.off hlt hbw ltn hO2 h2
        clear h2 hO2
        obtain ⟨⟨n0, n1, n2, n3, n4, n5, n6, n7⟩, hz⟩ := hP.N.cells8
        have zn0 := hz 0; have zn1 := hz 1; have zn2 := hz 2; have zn3 := hz 3; have zn4 := hz 4; have zn5 := hz 5; have zn6 := hz 6; have zn7 := hz 7
        have ln := hP.N.lt
        clear hz
        obtain ⟨⟨x0, x1, x2, x3, x4, x5, x6, x7⟩, hz⟩ := hP.X.cells8
        have zx5 := hz 5; have zx6 := hz 6
        have lx := hP.X.lt
        clear hz
        have HP := Lib.hid hP; clear hP
        go_wp2_with fail
        go_roundg (r2.length + 1)
        case measure => have := Hn.out; simp only [Rs.rest] at this; omega
        case rel =>
          obtain ⟨d1, d2, d3, d4, d5⟩ := HP.out.done hlt hbw ltn
          exact ⟨(repT (0) (-1) t, some ⟨wr.heap.size, 0, none⟩, 1), .ok r2, rfl, d1, d2, d3, d4, d5, (.inr ⟨r, r2, k, Hsr.out, rfl, by omega, by rw [Hpp.out, Hsu.out]⟩)⟩
      have Ht42 := Lib.hid ht; clear ht
      rcases ht : takeP [43] r' with _ | r2
      case' some =>
        have hsu : sufP (k + 1) t r' = sufP k (repT (1) (-1) t) r2 := by rw [sufP]; simp only [Ht42.out, ht]
        have hl := takeP_len ht
        simp only [List.length_cons, List.length_nil] at hl
        have Hsu := Lib.hid hsu; have Ht := Lib.hid ht; clear hsu ht
        go_wp2_with fail
        refine (take_miss [42] (by simp) Ht42.out hP.S).mono ?_
        rintro en W3 ⟨rfl, h2, hO2⟩
        have hP := hP.off hlt hbw ltn hO2 h2
        clear h2 hO2
        go_wp2_with fail
        refine (take_hit [43] (by simp) Ht.out hP.S).mono ?_
        rintro en W4 ⟨rfl, h2, hO2⟩
        have hP := hP.off hlt hbw ltn hO2 h2
        clear h2 hO2
        obtain ⟨⟨n0, n1, n2, n3, n4, n5, n6, n7⟩, hz⟩ := hP.N.cells8
        have zn0 := hz 0; have zn1 := hz 1; have zn2 := hz 2; have zn3 := hz 3; have zn4 := hz 4; have zn5 := hz 5; have zn6 := hz 6; have zn7 := hz 7
        have ln := hP.N.lt
        clear hz
        obtain ⟨⟨x0, x1, x2, x3, x4, x5, x6, x7⟩, hz⟩ := hP.X.cells8
        have zx5 := hz 5; have zx6 := hz 6
        have lx := hP.X.lt
        clear hz
        have HP := Lib.hid (hP.set5 hlt hbw ltn 1); clear hP
        go_wp2_with fail
        go_roundg (r2.length + 1)
        case measure => have := Hn.out; simp only [Rs.rest] at this; omega
        case rel =>
          obtain ⟨d1, d2, d3, d4, d5⟩ := HP.out.done hlt hbw ltn
          exact ⟨(repT (1) (-1) t, some ⟨wr.heap.size, 0, none⟩, 1), .ok r2, rfl, d1, d2, d3, d4, d5, (.inr ⟨r, r2, k, Hsr.out, rfl, by omega, by rw [Hpp.out, Hsu.out]⟩)⟩
      have Ht43 := Lib.hid ht; clear ht
      rcases ht : takeP [63] r' with _ | r2
      case' some =>
        have hsu : sufP (k + 1) t r' = sufP k (repT (0) (1) t) r2 := by rw [sufP]; simp only [Ht42.out, Ht43.out, ht]
        have hl := takeP_len ht
        simp only [List.length_cons, List.length_nil] at hl
        have Hsu := Lib.hid hsu; have Ht := Lib.hid ht; clear hsu ht
        go_wp2_with fail
        refine (take_miss [42] (by simp) Ht42.out hP.S).mono ?_
        rintro en W3 ⟨rfl, h2, hO2⟩
        have hP := hP.off hlt hbw ltn hO2 h2
        clear h2 hO2
        go_wp2_with fail
        refine (take_miss [43] (by simp) Ht43.out hP.S).mono ?_
        rintro en W4 ⟨rfl, h2, hO2⟩
        have hP := hP.off hlt hbw ltn hO2 h2
        clear h2 hO2
        go_wp2_with fail
        refine (take_hit [63] (by simp) Ht.out hP.S).mono ?_
        rintro en W5 ⟨rfl, h2, hO2⟩
        have hP := hP.off hlt hbw ltn hO2 h2
        clear h2 hO2
        obtain ⟨⟨n0, n1, n2, n3, n4, n5, n6, n7⟩, hz⟩ := hP.N.cells8
        have zn0 := hz 0; have zn1 := hz 1; have zn2 := hz 2; have zn3 := hz 3; have zn4 := hz 4; have zn5 := hz 5; have zn6 := hz 6; have zn7 := hz 7
        have ln := hP.N.lt
        clear hz
        obtain ⟨⟨x0, x1, x2, x3, x4, x5, x6, x7⟩, hz⟩ := hP.X.cells8
        have zx5 := hz 5; have zx6 := hz 6
        have lx := hP.X.lt
        clear hz
        have HP := Lib.hid (hP.set6 hlt hbw ltn 1); clear hP
        go_wp2_with fail
        go_roundg (r2.length + 1)
        case measure => have := Hn.out; simp only [Rs.rest] at this; omega
        case rel =>
          obtain ⟨d1, d2, d3, d4, d5⟩ := HP.out.done hlt hbw ltn
          exact ⟨(repT (0) (1) t, some ⟨wr.heap.size, 0, none⟩, 1), .ok r2, rfl, d1, d2, d3, d4, d5, (.inr ⟨r, r2, k, Hsr.out, rfl, by omega, by rw [Hpp.out, Hsu.out]⟩)⟩
      have Ht63 := Lib.hid ht; clear ht
      rcases ht : takeP [123] r' with _ | r1
      case' none =>
        have hsu : sufP (k + 1) t r' = .ok (t, r') := by rw [sufP]; simp only [Ht42.out, Ht43.out, Ht63.out, ht]
        have Hsu := Lib.hid hsu; have Ht := Lib.hid ht; clear hsu ht
        go_wp2_with fail
        refine (take_miss [42] (by simp) Ht42.out hP.S).mono ?_
        rintro en W3 ⟨rfl, h2, hO2⟩
        have hP := hP.off hlt hbw ltn hO2 h2
        clear h2 hO2
        go_wp2_with fail
        refine (take_miss [43] (by simp) Ht43.out hP.S).mono ?_
        rintro en W4 ⟨rfl, h2, hO2⟩
        have hP := hP.off hlt hbw ltn hO2 h2
        clear h2 hO2
        go_wp2_with fail
        refine (take_miss [63] (by simp) Ht63.out hP.S).mono ?_
        rintro en W5 ⟨rfl, h2, hO2⟩
        have hP := hP.off hlt hbw ltn hO2 h2
        clear h2 hO2
        go_wp2_with fail
        refine (take_miss [123] (by simp) Ht.out hP.S).mono ?_
        rintro en W6 ⟨rfl, h2, hO2⟩
        have hP := hP.off hlt hbw ltn hO2 h2
        clear h2 hO2
        obtain ⟨⟨n0, n1, n2, n3, n4, n5, n6, n7⟩, _⟩ := hP.N.cells8
        have ln := hP.N.lt
        obtain ⟨⟨r0, r1_, r2_, r3, r4, r5, r6, r7⟩, hz⟩ := hP.R.cells8
        have z0 := hz 0; have z1 := hz 1; have z2 := hz 2; have z3 := hz 3; have z4 := hz 4; have z5 := hz 5; have z6 := hz 6; have z7 := hz 7
        have lr := hP.R.lt
        clear hz
        have HP := Lib.hid hP; clear hP
        go_wp2_with fail
        change bodyPost _ _ _ _ _ (writeX W6 w.heap.size (t, A, c))
        have hfin := writeX_blk HP.out.R (t, A, c)
        obtain ⟨⟨y0, y1, y2, y3, y4, y5, y6, y7⟩, _⟩ := hfin.cells8
        have hRS := HP.out.S.boxW (b := w.heap.size) (by omega) (t, A, c)
        have hOff := Off.boxW HP.out.O (Nat.le_refl _) (t, A, c)
        have hlw := HP.out.X.lt
        have hNod : NodeAt (writeX W6 w.heap.size (t, A, c)) (fun b => w.heap.size ≤ b ∧ b < (writeX W6 w.heap.size (t, A, c)).heap.size) t A c := HP.out.x.mono fun k (hk : w.heap.size < k ∧ k < wr.heap.size ∧ k ≠ bn) => ⟨⟨by omega, by rw [writeX_size]; omega⟩, fun o => World.cell?_of_block (w := W6) (a := ⟨k, o, none⟩) (writeX_other _ _ _ _ (show k ≠ w.heap.size by omega))⟩
        generalize writeX W6 w.heap.size (t, A, c) = W3 at *
        refine bodyPost_ret (v := nodeV t A c) (by simp [results, Tryz.results46, y0, y1, y2, y3, y4, y5, y6, y7, go_sem]) rfl ⟨(t, A, c), _, rfl, hNod, hRS, hOff, ?_⟩
        rw [Hsr.out]
        exact Out.good (by rw [Hpp.out, Hsu.out]) rfl
      have hl := takeP_len ht
      simp only [List.length_cons, List.length_nil] at hl
      have Ht := Lib.hid ht; clear ht
      go_wp2_with fail
      refine (take_miss [42] (by simp) Ht42.out hP.S).mono ?_
      rintro en W3 ⟨rfl, h2, hO2⟩
      have hP := hP.off hlt hbw ltn hO2 h2
      clear h2 hO2
      go_wp2_with fail
      refine (take_miss [43] (by simp) Ht43.out hP.S).mono ?_
      rintro en W4 ⟨rfl, h2, hO2⟩
      have hP := hP.off hlt hbw ltn hO2 h2
      clear h2 hO2
      go_wp2_with fail
      refine (take_miss [63] (by simp) Ht63.out hP.S).mono ?_
      rintro en W5 ⟨rfl, h2, hO2⟩
      have hP := hP.off hlt hbw ltn hO2 h2
      clear h2 hO2
      go_wp2_with fail
      refine (take_hit [123] (by simp) Ht.out hP.S).mono ?_
      rintro en W6 ⟨rfl, h2, hO2⟩
      have hP := hP.off hlt hbw ltn hO2 h2
      clear h2 hO2
      go_wp2_with fail
      refine (interval_any _ p op _ hP.S).mono ?_
      rintro en W7 ⟨m, x, s7, rfl, h7, hO7, ho7⟩
      have hP := hP.off hlt hbw ltn hO7 h7
      clear h7 hO7
      have hcase : s7.rest.length < r'.length ∧ ((∃ e, s7 = .error e ∧ (s = .error e ∨ ∃ r, s = .ok r ∧ pieceP grp r = .error e)) ∨ ∃ r r' k, s = .ok r ∧ s7 = .ok r' ∧ r'.length < k ∧ pieceP grp r = sufP k (repT m x t) r') := by
        cases hi : intervalP r1 with
        | error e =>
          simp only [hi] at ho7
          subst ho7
          exact ⟨by simp only [Rs.rest, List.length_nil]; omega, .inl ⟨e, rfl, .inr ⟨r, Hsr.out, by rw [Hpp.out, sufP]; simp only [Ht42.out, Ht43.out, Ht63.out, Ht.out, hi]⟩⟩⟩
        | ok y =>
          obtain ⟨a, b, r2⟩ := y
          simp only [hi] at ho7
          obtain ⟨rfl, rfl, rfl⟩ := ho7
          have := interval_len hi
          exact ⟨by simp only [Rs.rest]; omega, .inr ⟨r, r2, k, Hsr.out, rfl, by omega, by rw [Hpp.out, sufP]; simp only [Ht42.out, Ht43.out, Ht63.out, Ht.out, hi]⟩⟩
      have HCA := Lib.hid hcase
      clear hcase ho7
      obtain ⟨⟨n0, n1, n2, n3, n4, n5, n6, n7⟩, hz⟩ := hP.N.cells8
      have zn0 := hz 0; have zn1 := hz 1; have zn2 := hz 2; have zn3 := hz 3; have zn4 := hz 4; have zn5 := hz 5; have zn6 := hz 6; have zn7 := hz 7
      have ln := hP.N.lt
      clear hz
      obtain ⟨⟨x0, x1, x2, x3, x4, x5, x6, x7⟩, hz⟩ := hP.X.cells8
      have zx5 := hz 5; have zx6 := hz 6
      have lx := hP.X.lt
      clear hz
      have HP := Lib.hid ((hP.set5 hlt hbw ltn m).set6 hlt hbw ltn x); clear hP
      go_wp2_with fail
      go_roundg (s7.rest.length + 1)
      case measure => have := Hn.out; have := HCA.out.1; simp only [Rs.rest] at *; omega
      case rel =>
        obtain ⟨d1, d2, d3, d4, d5⟩ := HP.out.done hlt hbw ltn
        exact ⟨(repT m x t, some ⟨wr.heap.size, 0, none⟩, 1), s7, rfl, d1, d2, d3, d4, d5, HCA.out.2⟩
end Go.Proofs.YteekafkpeimhoaaGreat

/- Lists of nodes that grow, beside the pattern reader; what reading leaves is no longer than what it met. -/
set_option linter.unusedVariables false
set_option linter.unusedSimpArgs false
namespace Go.Proofs.YteekafkpeimhoaaGreat
open Go.RowKit

theorem single_len {g : UInt8} {r r' : Bs} {c : Nat} (h : singleP g r = .ok (c, r')) : r'.length ≤ r.length := by
  unfold singleP at h
  split at h
  · cases h
  · split at h
    · rename_i ht; cases h; have := takeP_len ht; simp at this ⊢; omega
    · cases h
theorem member_len {r r' : Bs} {c : Nat} (h : memberP r = .ok (c, r')) : r'.length ≤ r.length := by
  unfold memberP at h
  split at h
  · rename_i ht; have := takeP_len ht; have := single_len h; simp at *; omega
  · split at h
    · cases h
    · cases h; simp
theorem cutP_len : ∀ {r a b : Bs}, cutP r = some (a, b) → b.length ≤ r.length
  | [], a, b, h => by rw [cutP] at h; cases h
  | c :: t, a, b, h => by
    rw [cutP] at h
    split at h
    · rename_i ht; cases h; have := takeP_len ht; simp at *; omega
    · split at h
      · rename_i a' b' hc; cases h; have := cutP_len hc; simp at *; omega
      · cases h
theorem class_len {s s' : W4} {r r' : Bs} (h : classP s r = .ok (s', r')) : r'.length ≤ r.length := by
  unfold classP at h
  split at h
  · cases h
  · rename_i hc
    split at h
    · cases h
    · cases h; exact cutP_len hc
theorem range_len {s s' : W4} {f : Nat} {r r' : Bs} (h : rangeP s f r = .ok (s', r')) : r'.length ≤ r.length := by
  unfold rangeP at h
  split at h
  · rename_i ht _
    split at h
    · cases h
    · split at h
      · cases h
      · rename_i hm
        split at h
        · cases h
        · cases h; have := takeP_len ht; have := member_len hm; simp at *; omega
  · cases h; exact Nat.le_refl _
theorem item_len {s s' : W4} {r r' : Bs} (h : itemP s r = .ok (s', r')) : r'.length ≤ r.length := by
  unfold itemP at h
  split at h
  · rename_i ht; have := takeP_len ht; have := class_len h; simp at *; omega
  · split at h
    · rename_i ht
      split at h
      · cases h
      · rename_i hs; cases h; have := takeP_len ht; have := single_len hs; simp at *; omega
    · split at h
      · cases h
      · rename_i hm; have := member_len hm; have := range_len h; omega
theorem items_len : ∀ {k : Nat} {s s' : W4} {r r' : Bs}, itemsP k s r = .ok (s', r') → r'.length ≤ r.length
  | 0, s, s', r, r', h => by rw [itemsP] at h; cases h
  | k + 1, s, s', r, r', h => by
    rw [itemsP] at h
    split at h
    · cases h
    · rename_i hi
      have := item_len hi
      split at h
      · rename_i ht; cases h; have := takeP_len ht; simp at *; omega
      · have := items_len h; omega
theorem bracket_len {s' : W4} {r r' : Bs} (h : bracketP r = .ok (s', r')) : r'.length ≤ r.length := by
  unfold bracketP at h
  split at h
  · rename_i ht
    split at h
    · cases h
    · rename_i hi; cases h; have := takeP_len ht; have := items_len hi; simp at *; omega
  · exact items_len h
/-- A reader of groups that leaves no more than it met. -/
def GrpLen (grp : Bs → PT) : Prop := ∀ r n r', grp r = .ok (n, r') → r'.length ≤ r.length
theorem atom_len {grp : Bs → PT} (hg : GrpLen grp) {r r' : Bs} {n : T} (h : atomP grp r = .ok (n, r')) : r'.length < r.length := by
  unfold atomP at h
  split at h
  · cases h
  · rename_i c t
    simp only [List.length_cons]
    split at h
    · have := hg _ _ _ h; omega
    split at h
    · cases h; omega
    split at h
    · cases h; omega
    split at h
    · split at h
      · cases h
      · rename_i hb; cases h; have := bracket_len hb; omega
    split at h
    · cases h; omega
    split at h
    · cases h
    split at h
    · split at h
      · cases h
      · cases h; simp; omega
    · cases h; omega
theorem suf_len : ∀ (k : Nat) {n n' : T} {r r' : Bs}, sufP k n r = .ok (n', r') → r'.length ≤ r.length
  | 0, n, n', r, r', h => by rw [sufP] at h; cases h; exact Nat.le_refl _
  | k + 1, n, n', r, r', h => by
    rw [sufP] at h
    split at h
    · rename_i ht; have := takeP_len ht; have := suf_len k h; omega
    split at h
    · rename_i ht; have := takeP_len ht; have := suf_len k h; omega
    split at h
    · rename_i ht; have := takeP_len ht; have := suf_len k h; omega
    split at h
    · rename_i ht
      split at h
      · cases h
      · rename_i hi; have := takeP_len ht; have := interval_len hi; have := suf_len k h; omega
    · cases h; exact Nat.le_refl _
theorem piece_len {grp : Bs → PT} (hg : GrpLen grp) {r r' : Bs} {n : T} (h : pieceP grp r = .ok (n, r')) : r'.length < r.length := by
  unfold pieceP at h
  split at h
  · cases h
  · rename_i ha; have := atom_len hg ha; have := suf_len _ h; omega
theorem pieces_len {grp : Bs → PT} (hg : GrpLen grp) : ∀ (k : Nat) {l l' : List T} {r r' : Bs}, piecesP grp k l r = .ok (l', r') → r'.length ≤ r.length
  | 0, l, l', r, r', h => by rw [piecesP] at h; cases h; exact Nat.le_refl _
  | k + 1, l, l', r, r', h => by
    rw [piecesP] at h
    split at h
    · cases h; exact Nat.le_refl _
    · split at h
      · cases h
      · rename_i hp; have := piece_len hg hp; have := pieces_len hg k h; omega
theorem row_len {grp : Bs → PT} (hg : GrpLen grp) {r r' : Bs} {n : T} (h : rowP grp r = .ok (n, r')) : r'.length ≤ r.length := by
  unfold rowP at h
  split at h
  · cases h
  · rename_i hp; cases h; exact pieces_len hg _ hp
theorem alts_len {grp : Bs → PT} (hg : GrpLen grp) : ∀ (k : Nat) {l l' : List T} {r r' : Bs}, altsP grp k l r = .ok (l', r') → r'.length ≤ r.length
  | 0, l, l', r, r', h => by rw [altsP] at h; cases h; exact Nat.le_refl _
  | k + 1, l, l', r, r', h => by
    rw [altsP] at h
    split at h
    · cases h; exact Nat.le_refl _
    · rename_i ht
      split at h
      · cases h
      · rename_i hp; have := takeP_len ht; have := row_len hg hp; have := alts_len hg k h; omega
theorem choice_len {grp : Bs → PT} (hg : GrpLen grp) {r r' : Bs} {n : T} (h : choiceP grp r = .ok (n, r')) : r'.length ≤ r.length := by
  unfold choiceP at h
  split at h
  · cases h
  · rename_i hr
    split at h
    · cases h
    · rename_i ha; cases h; have := row_len hg hr; have := alts_len hg _ ha; omega
theorem group_len : ∀ d, GrpLen (groupP d)
  | 0 => fun r n r' h => by rw [groupP] at h; cases h
  | d + 1 => fun r n r' h => by
    rw [groupP] at h
    split at h
    · cases h
    · rename_i hc
      split at h
      · rename_i ht; cases h; have := choice_len (group_len d) hc; have := takeP_len ht; omega
      · cases h

/-- A list of nodes that a call lays, in its own row; beside the result's box and the reader. -/
structure LstR (p : Nat) (op : Int) (w : World) (n : Nat) (ns : List Nx) (Av : Option Addr) (cv : Nat) (s : Rs) (wr : World) : Prop where
  len : ns.length = n
  R : BlkX wr w.heap.size (xcell (.mk 0 0 0 0 0 0 0 [], none, 0)).toArray
  own : wr.ownsRow (w.heap.size + 1) 39 8 (.slice Av n cv) n (xcells ns)
  nodes : ∀ x ∈ ns, NodeAt wr (fun b => w.heap.size < b ∧ b < wr.heap.size ∧ some b ≠ (Value.slice Av n cv).ownBlock) x.1 x.2.1 x.2.2
  S : RS wr p op s
  O : Off p w wr
theorem LstR.off {p : Nat} {op : Int} {w : World} {n : Nat} {ns : List Nx} {Av : Option Addr} {cv : Nat} {s s' : Rs} {wr w1 : World} (h : LstR p op w n ns Av cv s wr) (hp : p < w.heap.size) (hO : Off p wr w1) (hS : RS w1 p op s') : LstR p op w n ns Av cv s' w1 := by
  have hz := hO.size
  refine ⟨h.len, Off.blk hO h.R (by omega), h.own.kept hO ?_, fun x hx => (h.nodes x hx).mono fun b (hb : w.heap.size < b ∧ b < wr.heap.size ∧ some b ≠ (Value.slice Av n cv).ownBlock) => ⟨⟨hb.1, by omega, hb.2.2⟩, fun o => Off.cell hO hb.2.1 (by omega)⟩, hS, Off.trans h.O hO⟩
  cases hv : (Value.slice Av n cv).ownBlock with
  | none => exact .inl rfl
  | some k => have := h.own.lt k hv; exact .inr (by simp; omega)
theorem LstR.push {p : Nat} {op : Int} {w : World} {n : Nat} {ns : List Nx} {Av A' : Option Addr} {cv c' : Nat} {s : Rs} {W w0 w2 : World} (h : LstR p op w n ns Av cv s W) (hp : p < w.heap.size) {B : Nat} (hB : w.heap.size < B) (hrow : ∀ k, (Value.slice Av n cv).ownBlock = some k → k < B) (x : Nx) (hx : NodeAt W (fun b => B ≤ b ∧ b < W.heap.size) x.1 x.2.1 x.2.2)
    (h0 : Below W.heap.size W w0) (h1 : w2.ownsRow (w.heap.size + 1) 39 8 (.slice A' (n + 1) c') (n + 1) (xcells ns ++ xcell x)) (h2 : w0.grownBy w2 (Value.slice Av n cv).ownBlock) (h3 : (Value.slice A' (n + 1) c').ownBlock = (Value.slice Av n cv).ownBlock ∨ (Value.slice A' (n + 1) c').ownBlock = some w0.heap.size) :
    LstR p op w (n + 1) (ns ++ [x]) A' c' s w2 := by
  have hz0 := h0.size
  have hz2 := h2.size
  have hblk : ∀ b, b < W.heap.size → some b ≠ (Value.slice Av n cv).ownBlock → w2.heap[b]? = W.heap[b]? := fun b hb hne => (h2.block b (by omega) hne).trans (h0.block b hb)
  have hrow1 : ∀ k, (Value.slice Av n cv).ownBlock = some k → w.heap.size + 1 ≤ k := fun k hk => (h.own.lt k hk).1
  have hne : ∀ b, b < w.heap.size + 1 → some b ≠ (Value.slice Av n cv).ownBlock := fun b hb e => by have := hrow1 b e.symm; omega
  have hpW := h.S.lt
  refine ⟨by simp [h.len], h.R.keep (hblk _ h.R.lt (hne _ (by omega))), by rw [xcells_snoc]; exact h1, fun y hy => ?_, h.S.kept (by omega) (hblk p hpW (hne _ (by omega))) (hblk 0 (by omega) (hne _ (by omega))), ?_⟩
  · have key : ∀ b, w.heap.size < b → b < W.heap.size → some b ≠ (Value.slice Av n cv).ownBlock → (w.heap.size < b ∧ b < w2.heap.size ∧ some b ≠ (Value.slice A' (n + 1) c').ownBlock) ∧ ∀ o, w2.cell? ⟨b, o, none⟩ = W.cell? ⟨b, o, none⟩ := fun b hb1 hb2 hb3 => by
      refine ⟨⟨hb1, by omega, ?_⟩, fun o => World.cell?_of_block (w := W) (a := ⟨b, o, none⟩) (hblk b hb2 hb3)⟩
      rcases h3 with e | e
      · rw [e]; exact hb3
      · rw [e]; intro e'; simp only [Option.some.injEq] at e'; omega
    rcases List.mem_append.1 hy with hy | hy
    · exact (h.nodes y hy).mono fun b (hb : w.heap.size < b ∧ b < W.heap.size ∧ some b ≠ (Value.slice Av n cv).ownBlock) => key b hb.1 hb.2.1 hb.2.2
    · simp only [List.mem_singleton] at hy
      subst hy
      exact hx.mono fun b (hb : B ≤ b ∧ b < W.heap.size) => key b (by omega) hb.2 (fun e => by have := hrow b e.symm; omega)
  · have hO := h.O
    have hzW := hO.size
    exact ⟨(h2.os.trans h0.os).trans hO.os, (h2.tape.trans h0.tape).trans hO.tape, (h2.output.trans h0.output).trans hO.output, by omega, fun k hk hkp => (hblk k (by omega) (hne k (by omega))).trans (hO.block k hk hkp)⟩
/-- The list's own node. -/
theorem LstR.node {p : Nat} {op : Int} {w : World} {n : Nat} {ns : List Nx} {Av : Option Addr} {cv : Nat} {s : Rs} {wr : World} (h : LstR p op w n ns Av cv s wr) (hn : 0 < n) (hn2 : n ≤ 17592186044416) (R : T) (hR : R.ps = ns.map (·.1)) : NodeAt wr (fun b => w.heap.size < b ∧ b < wr.heap.size) R Av cv := by
  obtain ⟨g, hA, hg0, hg, hc⟩ : ∃ g, Av = some ⟨g, 0, none⟩ ∧ w.heap.size + 1 ≤ g ∧ g < wr.heap.size ∧ n ≤ cv := by
    rcases h.own.2 with ⟨_, h0⟩ | ⟨g, cap, cur, e, hb, hh, hcap, _⟩
    · omega
    · simp only [Value.slice.injEq] at e
      exact ⟨g, e.1, hb, by (rcases Nat.lt_or_ge g wr.heap.size with h' | h'; exact h'; rw [Array.getElem?_eq_none h'] at hh; simp at hh), by omega⟩
  subst hA
  have h8 : ∀ (i : Nat) (x : Nx), ns[i]? = some x → At8 wr g (i * 8) x.1 x.2.1 x.2.2 := fun i x hi => .ofX fun j hj => by
    have hl := (List.getElem?_eq_some_iff.1 hi).1
    have hx : ns[i] = x := (List.getElem?_eq_some_iff.1 hi).2
    rw [h.own.cellAt (i * 8 + j) (by have := h.len; omega), xcells_get ns i j hl hj, hx]
  have hm := node_litX (W := wr) (ok := fun b => w.heap.size < b ∧ b < wr.heap.size) (g := g) R ns hR (by rw [h.len]; exact hn2) ⟨by omega, hg⟩ h8 (fun i x hi => (h.nodes x (List.mem_of_getElem? hi)).mono fun b (hb : w.heap.size < b ∧ b < wr.heap.size ∧ some b ≠ _) => ⟨⟨hb.1, hb.2.1⟩, fun o => rfl⟩)
  exact hm.widerX (by rw [hR, List.length_map, h.len]; exact hc)
/-- The first node of a list, in memory. -/
theorem LstR.first {p : Nat} {op : Int} {w : World} {n : Nat} {ns : List Nx} {Av : Option Addr} {cv : Nat} {s : Rs} {wr : World} (h : LstR p op w n ns Av cv s wr) (hn : 0 < n) : ∃ g x, Av = some ⟨g, 0, none⟩ ∧ ns[0]? = some x ∧ At8 wr g 0 x.1 x.2.1 x.2.2 ∧ g < wr.heap.size ∧ n ≤ cv ∧ NodeAt wr (fun b => w.heap.size < b ∧ b < wr.heap.size) x.1 x.2.1 x.2.2 := by
  obtain ⟨g, hA, hg0, hg, hc⟩ : ∃ g, Av = some ⟨g, 0, none⟩ ∧ w.heap.size + 1 ≤ g ∧ g < wr.heap.size ∧ n ≤ cv := by
    rcases h.own.2 with ⟨_, h0⟩ | ⟨g, cap, cur, e, hb, hh, hcap, _⟩
    · omega
    · simp only [Value.slice.injEq] at e
      exact ⟨g, e.1, hb, by (rcases Nat.lt_or_ge g wr.heap.size with h' | h'; exact h'; rw [Array.getElem?_eq_none h'] at hh; simp at hh), by omega⟩
  subst hA
  have hl : 0 < ns.length := by rw [h.len]; exact hn
  refine ⟨g, ns[0], rfl, List.getElem?_eq_getElem hl, .ofX fun j hj => ?_, hg, hc, (h.nodes _ (List.getElem_mem hl)).mono fun b (hb : w.heap.size < b ∧ b < wr.heap.size ∧ some b ≠ _) => ⟨⟨hb.1, hb.2.1⟩, fun o => rfl⟩⟩
  have := h.own.cellAt j (by have := h.len; omega)
  rw [Nat.zero_add, this]
  have e := xcells_get ns 0 j hl hj
  simpa using e
end Go.Proofs.YteekafkpeimhoaaGreat

/- What reading leaves is an end of what it met. Plain. -/
set_option linter.unusedVariables false
set_option linter.unusedSimpArgs false
namespace Go.Proofs.YteekafkpeimhoaaGreat
open Go.RowKit

theorem takeP_suf {q r r' : Bs} (h : takeP q r = some r') : r' <:+ r := by
  unfold takeP at h
  split at h
  · cases h; exact List.drop_suffix _ _
  · cases h
theorem digits_suf : ∀ (k : Nat) (n : Int) (w : Nat) (r : Bs), (digitsP k n w r).2.2 <:+ r
  | 0, n, w, r => by rw [digitsP]; exact List.suffix_refl _
  | k + 1, n, w, [] => by rw [digitsP]; exact List.suffix_refl _
  | k + 1, n, w, c :: t => by
    rw [digitsP]
    split
    · exact (digits_suf k _ _ t).trans (List.suffix_cons c t)
    · exact List.suffix_refl _
theorem number_suf {r r' : Bs} {n : Int} (h : numberP r = .ok (n, r')) : r' <:+ r := by
  unfold numberP at h
  split at h
  · cases h
  · cases h; exact digits_suf 4 0 0 r
theorem interval_suf {r r' : Bs} {m n : Int} (h : intervalP r = .ok (m, n, r')) : r' <:+ r := by
  unfold intervalP at h
  split at h
  · cases h
  rename_i m1 r1 hn
  have l1 := number_suf hn
  split at h
  · rename_i r2 ht; cases h; exact (takeP_suf ht).trans l1
  split at h
  · rename_i r2 ht; cases h; exact (takeP_suf ht).trans l1
  split at h
  · cases h
  rename_i r2 ht
  have l2 := takeP_suf ht
  split at h
  · cases h
  rename_i n1 r3 hn2
  have l3 := number_suf hn2
  split at h
  · cases h
  split at h
  · rename_i r4 ht4; cases h; exact (((takeP_suf ht4).trans l3).trans l2).trans l1
  · cases h
theorem single_suf {g : UInt8} {r r' : Bs} {c : Nat} (h : singleP g r = .ok (c, r')) : r' <:+ r := by
  unfold singleP at h
  split at h
  · cases h
  · split at h
    · rename_i ht; cases h; exact (takeP_suf ht).trans (List.suffix_cons _ _)
    · cases h
theorem member_suf {r r' : Bs} {c : Nat} (h : memberP r = .ok (c, r')) : r' <:+ r := by
  unfold memberP at h
  split at h
  · rename_i ht; exact (single_suf h).trans (takeP_suf ht)
  · split at h
    · cases h
    · cases h; exact List.suffix_cons _ _
theorem cutP_suf : ∀ {r a b : Bs}, cutP r = some (a, b) → b <:+ r
  | [], a, b, h => by rw [cutP] at h; cases h
  | c :: t, a, b, h => by
    rw [cutP] at h
    split at h
    · rename_i ht; cases h; exact takeP_suf ht
    · split at h
      · rename_i a' b' hc; cases h; exact (cutP_suf hc).trans (List.suffix_cons _ _)
      · cases h
theorem class_suf {s s' : W4} {r r' : Bs} (h : classP s r = .ok (s', r')) : r' <:+ r := by
  unfold classP at h
  split at h
  · cases h
  · rename_i hc
    split at h
    · cases h
    · cases h; exact cutP_suf hc
theorem range_suf {s s' : W4} {f : Nat} {r r' : Bs} (h : rangeP s f r = .ok (s', r')) : r' <:+ r := by
  unfold rangeP at h
  split at h
  · rename_i ht _
    split at h
    · cases h
    · split at h
      · cases h
      · rename_i hm
        split at h
        · cases h
        · cases h; exact (member_suf hm).trans (takeP_suf ht)
  · cases h; exact List.suffix_refl _
theorem item_suf {s s' : W4} {r r' : Bs} (h : itemP s r = .ok (s', r')) : r' <:+ r := by
  unfold itemP at h
  split at h
  · rename_i ht; exact (class_suf h).trans (takeP_suf ht)
  · split at h
    · rename_i ht
      split at h
      · cases h
      · rename_i hs; cases h; exact (single_suf hs).trans (takeP_suf ht)
    · split at h
      · cases h
      · rename_i hm; exact (range_suf h).trans (member_suf hm)
theorem items_suf : ∀ {k : Nat} {s s' : W4} {r r' : Bs}, itemsP k s r = .ok (s', r') → r' <:+ r
  | 0, s, s', r, r', h => by rw [itemsP] at h; cases h
  | k + 1, s, s', r, r', h => by
    rw [itemsP] at h
    split at h
    · cases h
    · rename_i hi
      have := item_suf hi
      split at h
      · rename_i ht; cases h; exact (takeP_suf ht).trans this
      · exact (items_suf h).trans this
theorem bracket_suf {s' : W4} {r r' : Bs} (h : bracketP r = .ok (s', r')) : r' <:+ r := by
  unfold bracketP at h
  split at h
  · rename_i ht
    split at h
    · cases h
    · rename_i hi; cases h; exact (items_suf hi).trans (takeP_suf ht)
  · exact items_suf h
def GrpSuf (grp : Bs → PT) : Prop := ∀ r n r', grp r = .ok (n, r') → r' <:+ r
theorem atom_suf {grp : Bs → PT} (hg : GrpSuf grp) {r r' : Bs} {n : T} (h : atomP grp r = .ok (n, r')) : r' <:+ r := by
  unfold atomP at h
  split at h
  · cases h
  · rename_i c t
    have sc := List.suffix_cons c t
    split at h
    · exact (hg _ _ _ h).trans sc
    split at h
    · cases h; exact sc
    split at h
    · cases h; exact sc
    split at h
    · split at h
      · cases h
      · rename_i hb; cases h; exact (bracket_suf hb).trans sc
    split at h
    · cases h; exact sc
    split at h
    · cases h
    split at h
    · split at h
      · cases h
      · cases h; exact (List.suffix_cons _ _).trans sc
    · cases h; exact sc
theorem suf_suf : ∀ (k : Nat) {n n' : T} {r r' : Bs}, sufP k n r = .ok (n', r') → r' <:+ r
  | 0, n, n', r, r', h => by rw [sufP] at h; cases h; exact List.suffix_refl _
  | k + 1, n, n', r, r', h => by
    rw [sufP] at h
    split at h
    · rename_i ht; exact (suf_suf k h).trans (takeP_suf ht)
    split at h
    · rename_i ht; exact (suf_suf k h).trans (takeP_suf ht)
    split at h
    · rename_i ht; exact (suf_suf k h).trans (takeP_suf ht)
    split at h
    · rename_i ht
      split at h
      · cases h
      · rename_i hi; exact ((suf_suf k h).trans (interval_suf hi)).trans (takeP_suf ht)
    · cases h; exact List.suffix_refl _
theorem piece_suf {grp : Bs → PT} (hg : GrpSuf grp) {r r' : Bs} {n : T} (h : pieceP grp r = .ok (n, r')) : r' <:+ r := by
  unfold pieceP at h
  split at h
  · cases h
  · rename_i ha; exact (suf_suf _ h).trans (atom_suf hg ha)
theorem pieces_suf {grp : Bs → PT} (hg : GrpSuf grp) : ∀ (k : Nat) {l l' : List T} {r r' : Bs}, piecesP grp k l r = .ok (l', r') → r' <:+ r
  | 0, l, l', r, r', h => by rw [piecesP] at h; cases h; exact List.suffix_refl _
  | k + 1, l, l', r, r', h => by
    rw [piecesP] at h
    split at h
    · cases h; exact List.suffix_refl _
    · split at h
      · cases h
      · rename_i hp; exact (pieces_suf hg k h).trans (piece_suf hg hp)
theorem row_suf {grp : Bs → PT} (hg : GrpSuf grp) {r r' : Bs} {n : T} (h : rowP grp r = .ok (n, r')) : r' <:+ r := by
  unfold rowP at h
  split at h
  · cases h
  · rename_i hp; cases h; exact pieces_suf hg _ hp
theorem alts_suf {grp : Bs → PT} (hg : GrpSuf grp) : ∀ (k : Nat) {l l' : List T} {r r' : Bs}, altsP grp k l r = .ok (l', r') → r' <:+ r
  | 0, l, l', r, r', h => by rw [altsP] at h; cases h; exact List.suffix_refl _
  | k + 1, l, l', r, r', h => by
    rw [altsP] at h
    split at h
    · cases h; exact List.suffix_refl _
    · rename_i ht
      split at h
      · cases h
      · rename_i hp; exact ((alts_suf hg k h).trans (row_suf hg hp)).trans (takeP_suf ht)
theorem choice_suf {grp : Bs → PT} (hg : GrpSuf grp) {r r' : Bs} {n : T} (h : choiceP grp r = .ok (n, r')) : r' <:+ r := by
  unfold choiceP at h
  split at h
  · cases h
  · rename_i hr
    split at h
    · cases h
    · rename_i ha; cases h; exact (alts_suf hg _ ha).trans (row_suf hg hr)
theorem group_suf : ∀ d, GrpSuf (groupP d)
  | 0 => fun r n r' h => by rw [groupP] at h; cases h
  | d + 1 => fun r n r' h => by
    rw [groupP] at h
    split at h
    · cases h
    · rename_i hc
      split at h
      · rename_i ht; cases h; exact (takeP_suf ht).trans (choice_suf (group_suf d) hc)
      · cases h
end Go.Proofs.YteekafkpeimhoaaGreat

/- The pattern reader's row: walked. -/
set_option linter.unusedVariables false
set_option linter.unusedSimpArgs false
namespace Go.Proofs.YteekafkpeimhoaaGreat
open Go.RowKit

/-- Where the loop of row stands. -/
def RowL (p : Nat) (op : Int) (grp : Bs → PT) (s : Rs) (w : World) (v : Value) (wr : World) (m : Nat) : Prop :=
  ∃ (n : Nat) (ns : List Nx) (Av : Option Addr) (cv : Nat) (s' : Rs), v = .slice Av n cv ∧ m = s'.rest.length + 1 ∧ n + s'.rest.length ≤ 1024 ∧ LstR p op w n ns Av cv s' wr ∧
    ((∃ e, s' = .error e ∧ (s = .error e ∨ ∃ r, s = .ok r ∧ rowP grp r = .error e)) ∨ ∃ r r' k, s = .ok r ∧ s' = .ok r' ∧ r' <:+ r ∧ r'.length < k ∧ piecesP grp (r.length + 1) [] r = piecesP grp k (ns.map fun x : Nx => x.1) r')
theorem u8_neq {c : UInt8} {k : Nat} (hk : k < 256) (h : c ≠ UInt8.ofNat k) : ((c.toNat : Int) != (k : Int)) = true := by
  have := u8_ne hk h
  simp only [bne, this, Bool.not_false]
theorem ends_false {c : UInt8} {t : Bs} (h1 : c ≠ 124) (h2 : c ≠ 41) : endsRow (c :: t) = false := by simp [endsRow, h1, h2]

set_option maxRecDepth 100000 in
set_option maxHeartbeats 4000000 in
theorem prow_any (w : World) (p : Nat) (op : Int) (s : Rs) (h : RS w p op s) (hs : s.rest.length ≤ 1024) (grp : Bs → PT) (hgl : GrpLen grp) (hgs : GrpSuf grp) (hB : ∀ r, s = .ok r → 91 ∈ r → BrC) (hD : ∀ r, s = .ok r → 46 ∈ r → DotC)
    (hG : ∀ (w : World) (s : Rs), RS w p op s → s.rest.length ≤ 1024 → (∀ r, s = .ok r → 91 ∈ r → BrC) → (∀ r, s = .ok r → 46 ∈ r → DotC) → Calls Tryz.prog 68 #[.pointer (some ⟨p, 0, none⟩)] w fun en w' => GNode p op grp s w en w') :
    Calls Tryz.prog 34 #[.pointer (some ⟨p, 0, none⟩)] w fun en w' => GNode p op (rowP grp) s w en w' := by
  have hlt := h.lt
  have hpc : ∀ (w : World) (s : Rs), RS w p op s → s.rest.length ≤ 1024 → (∀ r, s = .ok r → 91 ∈ r → BrC) → (∀ r, s = .ok r → 46 ∈ r → DotC) → Calls Tryz.prog 46 #[.pointer (some ⟨p, 0, none⟩)] w fun en w' => GNode p op (pieceP grp) s w en w' := fun w s h hs hB hD => piece_any w p op s h hs grp hB hD hG
  have HP := Lib.hid hpc; have HB := Lib.hid hB; have HD := Lib.hid hD; have HGl := Lib.hid hgl; have HGs := Lib.hid hgs
  clear hpc hB hD hG hgl hgs
  have H := Lib.hid h; clear h
  go_enter Tryz.func34, Tryz.ntmps34
  go_wp2_with fail
  generalize hW : w.alloc _ = W0
  have hB0 : Below w.heap.size w W0 := by subst hW; exact (Below.refl _ _).alloc (Nat.le_refl _) _
  have R0 : BlkX W0 w.heap.size (xcell (.mk 0 0 0 0 0 0 0 [], none, 0)).toArray := by subst hW; exact BlkX.new w _
  clear hW
  have hI : RowL p op grp s w (.slice none 0 0) W0 (s.rest.length + 1) := by
    refine ⟨0, [], none, 0, s, rfl, rfl, by omega, ⟨rfl, R0, ⟨rfl, .inl ⟨rfl, rfl⟩⟩, fun x hx => by simp at hx, H.out.later hB0, Off.of_below hB0⟩, ?_⟩
    rcases s with e | r
    · exact .inl ⟨e, rfl, .inl rfl⟩
    · exact .inr ⟨r, r, r.length + 1, rfl, rfl, List.suffix_refl _, by omega, rfl⟩
  have HI := Lib.hid hI; clear hI hB0 R0
  go_loopg [3] (s.rest.length + 1) (fun m v wr => RowL p op grp s w v wr m)
  case atStart => exact HI.out
  case round =>
    clear HI
    obtain ⟨n, ns, Av, cv, s', rfl, hm, hnl, hL, hcase⟩ := hrel
    have c0 := hL.S.rdr.c0
    have lts := hL.S.lt
    have HL := Lib.hid hL; have HC := Lib.hid hcase; have Hm := Lib.hid hm
    clear hL hcase hm
    by_cases hgo : ∃ c t, s' = .ok (c :: t) ∧ c ≠ 124 ∧ c ≠ 41
    · obtain ⟨c, t, rfl, hc1, hc2⟩ := hgo
      simp only [Rs.rest] at c0 hnl
      have n1 : ((c.toNat : Int) != 124) = true := u8_neq (k := 124) (by omega) hc1
      have n2 : ((c.toNat : Int) != 41) = true := u8_neq (k := 41) (by omega) hc2
      obtain ⟨r, k, hsr, hsf, hk, hpp⟩ : ∃ r k, s = .ok r ∧ (c :: t) <:+ r ∧ (c :: t).length < k + 1 ∧ piecesP grp (r.length + 1) [] r = piecesP grp (k + 1) (ns.map fun x : Nx => x.1) (c :: t) := by
        rcases HC.out with ⟨e', he, _⟩ | ⟨r, r2, k, hs, he, hsf, hk, hpp⟩
        · cases he
        · cases he
          obtain ⟨k', rfl⟩ : ∃ k', k = k' + 1 := ⟨k - 1, by omega⟩
          exact ⟨r, k', hs, hsf, hk, hpp⟩
      have Hpp := Lib.hid hpp; have Hsr := Lib.hid hsr; have Hsf := Lib.hid hsf
      clear hpp hsr hsf HC
      have hres : piecesP grp (k + 1) (ns.map fun x : Nx => x.1) (c :: t) = match pieceP grp (c :: t) with | .error e => .error e | .ok (n, r1) => piecesP grp k ((ns.map fun x : Nx => x.1) ++ [n]) r1 := by
        rw [piecesP, ends_false hc1 hc2]; rfl
      have Hres := Lib.hid hres; clear hres hc1 hc2
      go_wp2_with fail
      refine (HP.out wr (.ok (c :: t)) HL.out.S (by simp only [Rs.rest]; omega) (fun r' e hr => HB.out r Hsr.out (by cases e; exact Hsf.out.mem hr)) (fun r' e hr => HD.out r Hsr.out (by cases e; exact Hsf.out.mem hr))).mono ?_
      rintro en w1 ⟨⟨t1, A1, c1⟩, s1, rfl, hx1, h1, hO1, ho1⟩
      have HL1 := Lib.hid (HL.out.off hlt hO1 h1)
      have Hx1 := Lib.hid hx1; have Ho1 := Lib.hid ho1; have HO1 := Lib.hid hO1
      have hz1 := hO1.size
      have hwr : w.heap.size < wr.heap.size := HL.out.R.lt
      clear hx1 ho1 hO1 h1 c0
      have hnews : ∀ ad, some (⟨w1.heap.size, 0, none⟩ : Addr) = some ad → ∀ j u, (xcell (t1, A1, c1))[j]? = some u → (w1.alloc (.cells (xcell (t1, A1, c1)).toArray 39)).cell? (ad.add j) = some u := fun ad e j u hu => by
        simp only [Option.some.injEq] at e
        subst e
        rw [addr_addX, World.cell?_alloc_new, Nat.zero_add]
        simpa using hu
      have Hnews := Lib.hid hnews; clear hnews
      go_wp2_with (at_builtin; refine wpList_append_fromX (w.heap.size + 1) rfl _ _ 37 39 _ 8 80 rfl Tryz.underlying37 Tryz.infoNodeX rfl (by omega) (by omega) (.slice Av n cv) n 1 (xcells ns) (xcell (t1, A1, c1)) (some ⟨w1.heap.size, 0, none⟩) 1 rfl rfl (by simp) rfl Hnews.out (xcell_one _) (HL1.out.own.alloc _) (by simp; omega) (by omega) (fun A5 c5 w5 ho5 hg5 hat5 => ?_); have HL5 := Lib.hid (HL1.out.push hlt hwr (fun k hk => (HL.out.own.lt k hk).2) (t1, A1, c1) Hx1.out ((Below.refl _ _).alloc (Nat.le_refl _) _) ho5 hg5 hat5); clear ho5 hg5 hat5)
      have hcs : s1.rest.length ≤ t.length ∧ ((∃ e, s1 = .error e ∧ (s = .error e ∨ ∃ r, s = .ok r ∧ rowP grp r = .error e)) ∨ ∃ r r' k, s = .ok r ∧ s1 = .ok r' ∧ r' <:+ r ∧ r'.length < k ∧ piecesP grp (r.length + 1) [] r = piecesP grp k ((ns ++ [(t1, A1, c1)]).map fun x : Nx => x.1) r') := by
        have hoo := Ho1.out
        cases hpc : pieceP grp (c :: t) with
        | error e =>
          simp only [Out, hpc] at hoo
          subst hoo
          exact ⟨by simp [Rs.rest], .inl ⟨e, rfl, .inr ⟨r, Hsr.out, by unfold rowP; rw [Hpp.out, Hres.out, hpc]⟩⟩⟩
        | ok y =>
          obtain ⟨n', r'⟩ := y
          simp only [Out, hpc] at hoo
          obtain ⟨rfl, rfl⟩ := hoo
          have hl := piece_len HGl.out hpc
          simp only [List.length_cons] at hl hk
          exact ⟨by simp only [Rs.rest]; omega, .inr ⟨r, r', k, Hsr.out, rfl, (piece_suf HGs.out hpc).trans Hsf.out, by omega, by rw [Hpp.out, Hres.out, hpc]; simp⟩⟩
      obtain ⟨hl1, hcs⟩ := hcs
      have HCS := Lib.hid hcs; clear hcs
      go_roundg (s1.rest.length + 1)
      case measure => have := Hm.out; simp only [Rs.rest, List.length_cons] at this; omega
      case rel => exact ⟨n + 1, _, A5, c5, s1, rfl, rfl, by simp only [List.length_cons] at hnl; omega, HL5.out, HCS.out⟩
    · have hfin : Out (rowP grp) s (fun t => joinT 4 (ns.map fun x : Nx => x.1) = t) s' := by
        rcases HC.out with ⟨e, rfl, rfl | ⟨r, rfl, hr⟩⟩ | ⟨r, r', k, rfl, rfl, _, hk, hpp⟩
        · exact Out.err
        · exact Out.bad hr
        · have he : endsRow r' = true := by
            rcases r' with _ | ⟨c, t⟩
            · rfl
            · by_cases h1 : c = 124
              · subst h1; rfl
              · by_cases h2 : c = 41
                · subst h2; rfl
                · exact absurd ⟨c, t, rfl, h1, h2⟩ hgo
          obtain ⟨k', rfl⟩ : ∃ k', k = k' + 1 := ⟨k - 1, by omega⟩
          refine Out.good (x := joinT 4 (ns.map fun x : Nx => x.1)) ?_ rfl
          unfold rowP
          rw [hpp, piecesP, if_pos he]
      have Hfin := Lib.hid hfin
      have hsh : s'.rest = [] ∨ (∃ t, s'.rest = 124 :: t) ∨ ∃ t, s'.rest = 41 :: t := by
        rcases s' with e | (_ | ⟨c, t⟩)
        · exact .inl rfl
        · exact .inl rfl
        · by_cases h1 : c = 124
          · subst h1; exact .inr (.inl ⟨t, rfl⟩)
          · by_cases h2 : c = 41
            · subst h2; exact .inr (.inr ⟨t, rfl⟩)
            · exact absurd ⟨c, t, rfl, h1, h2⟩ hgo
      clear hfin hgo HC Hm
      have hn3 : n = 0 ∨ n = 1 ∨ 2 ≤ n := by omega
      rcases hn3 with rfl | rfl | hn2
      · have hns : ns = [] := List.eq_nil_of_length_eq_zero HL.out.len
        subst hns
        obtain ⟨⟨r0, r1, r2, r3, r4, r5, r6, r7⟩, hz⟩ := HL.out.R.cells8
        have z0 := hz 0; have z1 := hz 1; have z2 := hz 2; have z3 := hz 3; have z4 := hz 4; have z5 := hz 5; have z6 := hz 6; have z7 := hz 7
        have lr := HL.out.R.lt
        clear hz
        rcases hsh with hr | ⟨t, hr⟩ | ⟨t, hr⟩
        all_goals
          rw [hr] at c0
          have Hr := Lib.hid hr; clear hr
          go_wp2_with fail
          change bodyPost _ _ _ _ _ (writeX wr w.heap.size (.mk 0 0 0 0 0 0 0 [], none, 0))
          have hfn := writeX_blk HL.out.R (.mk 0 0 0 0 0 0 0 [], none, 0)
          obtain ⟨⟨y0, y1, y2, y3, y4, y5, y6, y7⟩, _⟩ := hfn.cells8
          have hRS := HL.out.S.boxW (b := w.heap.size) (by omega) (.mk 0 0 0 0 0 0 0 [], none, 0)
          have hOff := Off.boxW HL.out.O (Nat.le_refl _) (.mk 0 0 0 0 0 0 0 [], none, 0)
          have hNod : NodeAt (writeX wr w.heap.size (.mk 0 0 0 0 0 0 0 [], none, 0)) (fun b => w.heap.size ≤ b ∧ b < (writeX wr w.heap.size (.mk 0 0 0 0 0 0 0 [], none, 0)).heap.size) ((T.mk 0 0 0 0 0 0 0 [], none, 0) : Nx).1 ((T.mk 0 0 0 0 0 0 0 [], none, 0) : Nx).2.1 ((T.mk 0 0 0 0 0 0 0 [], none, 0) : Nx).2.2 := nodeAt_leafX _ _ _ rfl
          generalize writeX wr w.heap.size (.mk 0 0 0 0 0 0 0 [], none, 0) = W3 at *
          exact bodyPost_ret (v := nodeV ((T.mk 0 0 0 0 0 0 0 [], none, 0) : Nx).1 ((T.mk 0 0 0 0 0 0 0 [], none, 0) : Nx).2.1 ((T.mk 0 0 0 0 0 0 0 [], none, 0) : Nx).2.2) (by simp [results, Tryz.results34, y0, y1, y2, y3, y4, y5, y6, y7, go_sem]) rfl ⟨(.mk 0 0 0 0 0 0 0 [], none, 0), _, rfl, hNod, hRS, hOff, Hfin.out⟩
      · obtain ⟨g, ⟨t1, A1, c1⟩, rfl, hx, h8, hg, hcv, hnd⟩ := HL.out.first (by omega)
        have hj : joinT 4 (ns.map fun x : Nx => x.1) = t1 := by
          have hl := HL.out.len
          match ns, hl, hx with
          | [y], _, hx => simp at hx; subst hx; rfl
        have Hj := Lib.hid hj; have Hnd := Lib.hid hnd
        obtain ⟨f0, f1, f2, f3, f4, f5, f6, f7⟩ := h8
        simp only [Nat.zero_add] at f1 f2 f3 f4 f5 f6 f7
        clear hj hnd hx
        obtain ⟨⟨r0, r1, r2, r3, r4, r5, r6, r7⟩, hz⟩ := HL.out.R.cells8
        have z0 := hz 0; have z1 := hz 1; have z2 := hz 2; have z3 := hz 3; have z4 := hz 4; have z5 := hz 5; have z6 := hz 6; have z7 := hz 7
        have lr := HL.out.R.lt
        clear hz
        rcases hsh with hr | ⟨t, hr⟩ | ⟨t, hr⟩
        all_goals
          rw [hr] at c0
          have Hr := Lib.hid hr; clear hr
          go_wp2_with fail
          change bodyPost _ _ _ _ _ (writeX wr w.heap.size (t1, A1, c1))
          have hfn := writeX_blk HL.out.R (t1, A1, c1)
          obtain ⟨⟨y0, y1, y2, y3, y4, y5, y6, y7⟩, _⟩ := hfn.cells8
          have hRS := HL.out.S.boxW (b := w.heap.size) (by omega) (t1, A1, c1)
          have hOff := Off.boxW HL.out.O (Nat.le_refl _) (t1, A1, c1)
          have hNod : NodeAt (writeX wr w.heap.size (t1, A1, c1)) (fun b => w.heap.size ≤ b ∧ b < (writeX wr w.heap.size (t1, A1, c1)).heap.size) (t1, A1, c1).1 (t1, A1, c1).2.1 (t1, A1, c1).2.2 := Hnd.out.mono fun k (hk : w.heap.size < k ∧ k < wr.heap.size) => ⟨⟨by omega, by rw [writeX_size]; exact hk.2⟩, fun o => World.cell?_of_block (w := wr) (a := ⟨k, o, none⟩) (writeX_other _ _ _ _ (show k ≠ w.heap.size by omega))⟩
          generalize writeX wr w.heap.size (t1, A1, c1) = W3 at *
          exact bodyPost_ret (v := nodeV (t1, A1, c1).1 (t1, A1, c1).2.1 (t1, A1, c1).2.2) (by simp [results, Tryz.results34, y0, y1, y2, y3, y4, y5, y6, y7, go_sem]) rfl ⟨(t1, A1, c1), _, rfl, hNod, hRS, hOff, by have := Hfin.out; rw [Hj.out] at this; exact this⟩
      · obtain rfl : n = (ns.map fun x : Nx => x.1).length := by simp [HL.out.len]
        have hnd := HL.out.node (by omega) (by omega) (.mk 4 0 0 0 0 0 0 (ns.map fun x : Nx => x.1)) rfl
        have hj : joinT 4 (ns.map fun x : Nx => x.1) = .mk 4 0 0 0 0 0 0 (ns.map fun x : Nx => x.1) := by
          generalize ns.map (fun x : Nx => x.1) = l at hn2
          match l, hn2 with
          | a :: b :: l, _ => rfl
        have hb0 : (((ns.map fun x : Nx => x.1).length : Int) == 0) = false := by rw [beq_eq_false_iff_ne]; omega
        have hb1 : (((ns.map fun x : Nx => x.1).length : Int) == 1) = false := by rw [beq_eq_false_iff_ne]; omega
        have Hj := Lib.hid hj; have Hnd := Lib.hid hnd
        clear hj hnd
        generalize hl : (ns.map fun x : Nx => x.1) = l at *
        obtain ⟨⟨r0, r1, r2, r3, r4, r5, r6, r7⟩, hz⟩ := HL.out.R.cells8
        have z0 := hz 0; have z1 := hz 1; have z2 := hz 2; have z3 := hz 3; have z4 := hz 4; have z5 := hz 5; have z6 := hz 6; have z7 := hz 7
        have lr := HL.out.R.lt
        clear hz
        rcases hsh with hr | ⟨t, hr⟩ | ⟨t, hr⟩
        all_goals
          rw [hr] at c0
          have Hr := Lib.hid hr; clear hr
          go_wp2_with fail
          change bodyPost _ _ _ _ _ (writeX wr w.heap.size (.mk 4 0 0 0 0 0 0 l, Av, cv))
          have hfn := writeX_blk HL.out.R (.mk 4 0 0 0 0 0 0 l, Av, cv)
          obtain ⟨⟨y0, y1, y2, y3, y4, y5, y6, y7⟩, _⟩ := hfn.cells8
          have hRS := HL.out.S.boxW (b := w.heap.size) (by omega) (.mk 4 0 0 0 0 0 0 l, Av, cv)
          have hOff := Off.boxW HL.out.O (Nat.le_refl _) (.mk 4 0 0 0 0 0 0 l, Av, cv)
          have hNod : NodeAt (writeX wr w.heap.size (.mk 4 0 0 0 0 0 0 l, Av, cv)) (fun b => w.heap.size ≤ b ∧ b < (writeX wr w.heap.size (.mk 4 0 0 0 0 0 0 l, Av, cv)).heap.size) ((T.mk 4 0 0 0 0 0 0 l, Av, cv) : Nx).1 ((T.mk 4 0 0 0 0 0 0 l, Av, cv) : Nx).2.1 ((T.mk 4 0 0 0 0 0 0 l, Av, cv) : Nx).2.2 := Hnd.out.mono fun k (hk : w.heap.size < k ∧ k < wr.heap.size) => ⟨⟨by omega, by rw [writeX_size]; exact hk.2⟩, fun o => World.cell?_of_block (w := wr) (a := ⟨k, o, none⟩) (writeX_other _ _ _ _ (show k ≠ w.heap.size by omega))⟩
          generalize writeX wr w.heap.size (.mk 4 0 0 0 0 0 0 l, Av, cv) = W3 at *
          exact bodyPost_ret (v := nodeV ((T.mk 4 0 0 0 0 0 0 l, Av, cv) : Nx).1 ((T.mk 4 0 0 0 0 0 0 l, Av, cv) : Nx).2.1 ((T.mk 4 0 0 0 0 0 0 l, Av, cv) : Nx).2.2) (by simp [results, Tryz.results34, y0, y1, y2, y3, y4, y5, y6, y7, go_sem]) rfl ⟨(.mk 4 0 0 0 0 0 0 l, Av, cv), _, rfl, hNod, hRS, hOff, by have := Hfin.out; rw [Hj.out] at this; exact this⟩
end Go.Proofs.YteekafkpeimhoaaGreat

/- The pattern reader's choice: walked. (Printed by wip/genchoice.py.) -/
set_option linter.unusedVariables false
set_option linter.unusedSimpArgs false
namespace Go.Proofs.YteekafkpeimhoaaGreat
open Go.RowKit

/-- Where the loop of choice stands. -/
def ChoL (p : Nat) (op : Int) (grp : Bs → PT) (s : Rs) (w : World) (v : Value) (wr : World) (m : Nat) : Prop :=
  ∃ (n : Nat) (ns : List Nx) (Av : Option Addr) (cv : Nat) (s' : Rs), v = .slice Av n cv ∧ 1 ≤ n ∧ m = s'.rest.length + 1 ∧ n + s'.rest.length ≤ 1025 ∧ LstR p op w n ns Av cv s' wr ∧
    ((∃ e, s' = .error e ∧ (s = .error e ∨ ∃ r, s = .ok r ∧ choiceP grp r = .error e)) ∨ ∃ r r' k, s = .ok r ∧ s' = .ok r' ∧ r' <:+ r ∧ r'.length < k ∧ choiceP grp r = match altsP grp k (ns.map fun x : Nx => x.1) r' with | .error e => .error e | .ok (l, r2) => .ok (joinT 5 l, r2))

set_option maxRecDepth 100000 in
set_option maxHeartbeats 4000000 in
theorem choice_par (w : World) (p : Nat) (op : Int) (s : Rs) (h : RS w p op s) (hs : s.rest.length ≤ 1024) (grp : Bs → PT) (hgl : GrpLen grp) (hgs : GrpSuf grp) (hB : ∀ r, s = .ok r → 91 ∈ r → BrC) (hD : ∀ r, s = .ok r → 46 ∈ r → DotC)
    (hG : ∀ (w : World) (s : Rs), RS w p op s → s.rest.length ≤ 1024 → (∀ r, s = .ok r → 91 ∈ r → BrC) → (∀ r, s = .ok r → 46 ∈ r → DotC) → Calls Tryz.prog 68 #[.pointer (some ⟨p, 0, none⟩)] w fun en w' => GNode p op grp s w en w') :
    Calls Tryz.prog 17 #[.pointer (some ⟨p, 0, none⟩)] w fun en w' => GNode p op (choiceP grp) s w en w' := by
  have hlt := h.lt
  have hpc : ∀ (w : World) (s : Rs), RS w p op s → s.rest.length ≤ 1024 → (∀ r, s = .ok r → 91 ∈ r → BrC) → (∀ r, s = .ok r → 46 ∈ r → DotC) → Calls Tryz.prog 34 #[.pointer (some ⟨p, 0, none⟩)] w fun en w' => GNode p op (rowP grp) s w en w' := fun w s h hs hB hD => prow_any w p op s h hs grp hgl hgs hB hD hG
  have HP := Lib.hid hpc; have HB := Lib.hid hB; have HD := Lib.hid hD; have HGl := Lib.hid hgl; have HGs := Lib.hid hgs
  clear hpc hB hD hG hgl hgs
  have H := Lib.hid h; clear h
  go_enter Tryz.func17, Tryz.ntmps17
  go_wp2_with fail
  generalize hW : w.alloc _ = W0
  have hB0 : Below w.heap.size w W0 := by subst hW; exact (Below.refl _ _).alloc (Nat.le_refl _) _
  have R0 : BlkX W0 w.heap.size (xcell (.mk 0 0 0 0 0 0 0 [], none, 0)).toArray := by subst hW; exact BlkX.new w _
  have hz0 : w.heap.size + 1 ≤ W0.heap.size := by subst hW; simp
  clear hW
  refine (HP.out W0 s (H.out.later hB0) hs HB.out HD.out).mono ?_
  rintro en w1 ⟨⟨t1, A1, c1⟩, s1, rfl, hx1, h1, hO1, ho1⟩
  have R1 := Off.blk hO1 R0 (by omega)
  have hz1 := hO1.size
  have Hx1 := Lib.hid hx1; have Ho1 := Lib.hid ho1
  clear hx1 ho1
  go_wp2_with fail
  generalize hW : w1.alloc _ = W1
  have hb1 : Below w1.heap.size w1 W1 := by subst hW; exact (Below.refl _ _).alloc (Nat.le_refl _) _
  have hI : ChoL p op grp s w (.slice (some ⟨w1.heap.size, 0, none⟩) 1 1) W1 (s1.rest.length + 1) := by
    have hoo := Ho1.out
    have hl1 : s1.rest.length ≤ 1024 ∧ ((∃ e, s1 = .error e ∧ (s = .error e ∨ ∃ r, s = .ok r ∧ choiceP grp r = .error e)) ∨ ∃ r r' k, s = .ok r ∧ s1 = .ok r' ∧ r' <:+ r ∧ r'.length < k ∧ choiceP grp r = match altsP grp k ([(t1, A1, c1)].map fun x : Nx => x.1) r' with | .error e => .error e | .ok (l, r2) => .ok (joinT 5 l, r2)) := by
      rcases s with e | r
      · cases (show s1 = .error e from hoo)
        exact ⟨by simp [Rs.rest], .inl ⟨e, rfl, .inl rfl⟩⟩
      · cases hr : rowP grp r with
        | error e =>
          simp only [Out, hr] at hoo
          subst hoo
          exact ⟨by simp [Rs.rest], .inl ⟨e, rfl, .inr ⟨r, rfl, by unfold choiceP; rw [hr]⟩⟩⟩
        | ok y =>
          obtain ⟨n', r'⟩ := y
          simp only [Out, hr] at hoo
          obtain ⟨rfl, rfl⟩ := hoo
          have hl := row_len HGl.out hr
          simp only [Rs.rest] at hs ⊢
          exact ⟨by omega, .inr ⟨r, r', r'.length + 1, rfl, rfl, row_suf HGs.out hr, by omega, by unfold choiceP; rw [hr]; rfl⟩⟩
    refine ⟨1, [(t1, A1, c1)], _, 1, s1, rfl, by omega, rfl, by have := hl1.1; omega, ⟨rfl, R1.keep (hb1.block _ R1.lt), ?_, fun x hx => ?_, h1.later hb1, Off.trans (Off.trans (Off.of_below hB0) hO1) (Off.of_below hb1)⟩, hl1.2⟩
    · have h := World.ownsRow_lit (base := w.heap.size + 1) (e := 39) (size := 8) w1 (xcells [(t1, A1, c1)]).toArray 1 (by omega) (by simp [maxLen]) (by rfl)
      subst hW
      exact h
    · simp only [List.mem_singleton] at hx
      subst hx
      exact Hx1.out.mono fun b (hb : W0.heap.size ≤ b ∧ b < w1.heap.size) => ⟨⟨by omega, by have := hb1.size; omega, by simp [Value.ownBlock]; omega⟩, fun o => hb1.cell (p := ⟨b, o, none⟩) hb.2⟩
  have HI := Lib.hid hI
  have hwb : w.heap.size < w1.heap.size := by omega
  generalize w1.heap.size = bl at *
  clear hI hB0 R0 R1 hW hb1 h1 hO1 hz1 hz0 Hx1 Ho1
  go_loopg [3] (s1.rest.length + 1) (fun m v wr => ChoL p op grp s w v wr m)
  case atStart => exact HI.out
  case round =>
    clear HI
    obtain ⟨n, ns, Av, cv, s', rfl, hn1, hm, hnl, hL, hcase⟩ := hrel
    have lts := hL.S.lt
    have HL := Lib.hid hL; have HC := Lib.hid hcase; have Hm := Lib.hid hm
    clear hL hcase hm
    rcases s' with e | r'
    · go_wp2_with fail
      refine (take_err [124] (by simp) HL.out.S).mono ?_
      rintro en W2 ⟨rfl, h2, hO2⟩
      have HL := Lib.hid (HL.out.off hlt hO2 h2)
      clear h2 hO2
      have hfin : Out (choiceP grp) s (fun t => joinT 5 (ns.map fun x : Nx => x.1) = t) (.error e) := by
        rcases HC.out with ⟨e', he, hs⟩ | ⟨r, r', k, _, he, _⟩
        · cases he
          rcases hs with rfl | ⟨r, rfl, hr⟩
          · exact Out.err
          · exact Out.bad hr
        · cases he
      have Hfin := Lib.hid hfin
      clear hfin
      have hn3 : n = 1 ∨ 2 ≤ n := by omega
      rcases hn3 with rfl | hn2
      · obtain ⟨g, ⟨t1, A1, c1⟩, rfl, hx, h8, hg, hcv, hnd⟩ := HL.out.first (by omega)
        have hj : joinT 5 (ns.map fun x : Nx => x.1) = t1 := by
          have hl := HL.out.len
          match ns, hl, hx with
          | [y], _, hx => simp at hx; subst hx; rfl
        have Hj := Lib.hid hj; have Hnd := Lib.hid hnd
        obtain ⟨f0, f1, f2, f3, f4, f5, f6, f7⟩ := h8
        simp only [Nat.zero_add] at f1 f2 f3 f4 f5 f6 f7
        clear hj hnd hx
        obtain ⟨⟨r0, r1, r2, r3, r4, r5, r6, r7⟩, hz⟩ := HL.out.R.cells8
        have z0 := hz 0; have z1 := hz 1; have z2 := hz 2; have z3 := hz 3; have z4 := hz 4; have z5 := hz 5; have z6 := hz 6; have z7 := hz 7
        have lr := HL.out.R.lt
        clear hz
        go_wp2_with fail
        change bodyPost _ _ _ _ _ (writeX W2 w.heap.size (t1, A1, c1))
        have hfn := writeX_blk HL.out.R (t1, A1, c1)
        obtain ⟨⟨y0, y1, y2, y3, y4, y5, y6, y7⟩, _⟩ := hfn.cells8
        have hRS := HL.out.S.boxW (b := w.heap.size) (by omega) (t1, A1, c1)
        have hOff := Off.boxW HL.out.O (Nat.le_refl _) (t1, A1, c1)
        have hNod : NodeAt (writeX W2 w.heap.size (t1, A1, c1)) (fun b => w.heap.size ≤ b ∧ b < (writeX W2 w.heap.size (t1, A1, c1)).heap.size) (t1, A1, c1).1 (t1, A1, c1).2.1 (t1, A1, c1).2.2 := Hnd.out.mono fun k (hk : w.heap.size < k ∧ k < W2.heap.size) => ⟨⟨by omega, by rw [writeX_size]; exact hk.2⟩, fun o => World.cell?_of_block (w := W2) (a := ⟨k, o, none⟩) (writeX_other _ _ _ _ (show k ≠ w.heap.size by omega))⟩
        generalize writeX W2 w.heap.size (t1, A1, c1) = W3 at *
        exact bodyPost_ret (v := nodeV (t1, A1, c1).1 (t1, A1, c1).2.1 (t1, A1, c1).2.2) (by simp [results, Tryz.results17, y0, y1, y2, y3, y4, y5, y6, y7, go_sem]) rfl ⟨(t1, A1, c1), _, rfl, hNod, hRS, hOff, by have := Hfin.out; rw [Hj.out] at this; exact this⟩
      · obtain rfl : n = (ns.map fun x : Nx => x.1).length := by simp [HL.out.len]
        have hnd := HL.out.node (by omega) (by omega) (.mk 5 0 0 0 0 0 0 (ns.map fun x : Nx => x.1)) rfl
        have hj : joinT 5 (ns.map fun x : Nx => x.1) = .mk 5 0 0 0 0 0 0 (ns.map fun x : Nx => x.1) := by
          generalize ns.map (fun x : Nx => x.1) = l at hn2
          match l, hn2 with
          | a :: b :: l, _ => rfl
        have hb1 : (((ns.map fun x : Nx => x.1).length : Int) == 1) = false := by rw [beq_eq_false_iff_ne]; omega
        have Hj := Lib.hid hj; have Hnd := Lib.hid hnd
        clear hj hnd
        generalize hl : (ns.map fun x : Nx => x.1) = l at *
        obtain ⟨⟨r0, r1, r2, r3, r4, r5, r6, r7⟩, hz⟩ := HL.out.R.cells8
        have z0 := hz 0; have z1 := hz 1; have z2 := hz 2; have z3 := hz 3; have z4 := hz 4; have z5 := hz 5; have z6 := hz 6; have z7 := hz 7
        have lr := HL.out.R.lt
        clear hz
        go_wp2_with fail
        change bodyPost _ _ _ _ _ (writeX W2 w.heap.size (T.mk 5 0 0 0 0 0 0 l, Av, cv))
        have hfn := writeX_blk HL.out.R (T.mk 5 0 0 0 0 0 0 l, Av, cv)
        obtain ⟨⟨y0, y1, y2, y3, y4, y5, y6, y7⟩, _⟩ := hfn.cells8
        have hRS := HL.out.S.boxW (b := w.heap.size) (by omega) (T.mk 5 0 0 0 0 0 0 l, Av, cv)
        have hOff := Off.boxW HL.out.O (Nat.le_refl _) (T.mk 5 0 0 0 0 0 0 l, Av, cv)
        have hNod : NodeAt (writeX W2 w.heap.size (T.mk 5 0 0 0 0 0 0 l, Av, cv)) (fun b => w.heap.size ≤ b ∧ b < (writeX W2 w.heap.size (T.mk 5 0 0 0 0 0 0 l, Av, cv)).heap.size) ((T.mk 5 0 0 0 0 0 0 l, Av, cv) : Nx).1 ((T.mk 5 0 0 0 0 0 0 l, Av, cv) : Nx).2.1 ((T.mk 5 0 0 0 0 0 0 l, Av, cv) : Nx).2.2 := Hnd.out.mono fun k (hk : w.heap.size < k ∧ k < W2.heap.size) => ⟨⟨by omega, by rw [writeX_size]; exact hk.2⟩, fun o => World.cell?_of_block (w := W2) (a := ⟨k, o, none⟩) (writeX_other _ _ _ _ (show k ≠ w.heap.size by omega))⟩
        generalize writeX W2 w.heap.size (T.mk 5 0 0 0 0 0 0 l, Av, cv) = W3 at *
        exact bodyPost_ret (v := nodeV ((T.mk 5 0 0 0 0 0 0 l, Av, cv) : Nx).1 ((T.mk 5 0 0 0 0 0 0 l, Av, cv) : Nx).2.1 ((T.mk 5 0 0 0 0 0 0 l, Av, cv) : Nx).2.2) (by simp [results, Tryz.results17, y0, y1, y2, y3, y4, y5, y6, y7, go_sem]) rfl ⟨(T.mk 5 0 0 0 0 0 0 l, Av, cv), _, rfl, hNod, hRS, hOff, by have := Hfin.out; rw [Hj.out] at this; exact this⟩
    · obtain ⟨r, k, hsr, hsf, hk, hpp⟩ : ∃ r k, s = .ok r ∧ r' <:+ r ∧ r'.length < k + 1 ∧ choiceP grp r = match altsP grp (k + 1) (ns.map fun x : Nx => x.1) r' with | .error e => .error e | .ok (l, r2) => .ok (joinT 5 l, r2) := by
        rcases HC.out with ⟨e', he, _⟩ | ⟨r, r2, k, hs, he, hsf, hk, hpp⟩
        · cases he
        · cases he
          obtain ⟨k', rfl⟩ : ∃ k', k = k' + 1 := ⟨k - 1, by omega⟩
          exact ⟨r, k', hs, hsf, hk, hpp⟩
      have Hpp := Lib.hid hpp; have Hsr := Lib.hid hsr; have Hsf := Lib.hid hsf
      clear hpp hsr hsf HC
      rcases ht : takeP [124] r' with _ | r2
      · have hfin : Out (choiceP grp) s (fun t => joinT 5 (ns.map fun x : Nx => x.1) = t) (.ok r') := by
          rw [Hsr.out]
          refine Out.good (x := joinT 5 (ns.map fun x : Nx => x.1)) ?_ rfl
          rw [Hpp.out, altsP, ht]
        have Ht := Lib.hid ht; clear ht
        go_wp2_with fail
        refine (take_miss [124] (by simp) Ht.out HL.out.S).mono ?_
        rintro en W2 ⟨rfl, h2, hO2⟩
        have HL := Lib.hid (HL.out.off hlt hO2 h2)
        clear h2 hO2
        have Hfin := Lib.hid hfin
        clear hfin
        have hn3 : n = 1 ∨ 2 ≤ n := by omega
        rcases hn3 with rfl | hn2
        · obtain ⟨g, ⟨t1, A1, c1⟩, rfl, hx, h8, hg, hcv, hnd⟩ := HL.out.first (by omega)
          have hj : joinT 5 (ns.map fun x : Nx => x.1) = t1 := by
            have hl := HL.out.len
            match ns, hl, hx with
            | [y], _, hx => simp at hx; subst hx; rfl
          have Hj := Lib.hid hj; have Hnd := Lib.hid hnd
          obtain ⟨f0, f1, f2, f3, f4, f5, f6, f7⟩ := h8
          simp only [Nat.zero_add] at f1 f2 f3 f4 f5 f6 f7
          clear hj hnd hx
          obtain ⟨⟨r0, r1, r2, r3, r4, r5, r6, r7⟩, hz⟩ := HL.out.R.cells8
          have z0 := hz 0; have z1 := hz 1; have z2 := hz 2; have z3 := hz 3; have z4 := hz 4; have z5 := hz 5; have z6 := hz 6; have z7 := hz 7
          have lr := HL.out.R.lt
          clear hz
          go_wp2_with fail
          change bodyPost _ _ _ _ _ (writeX W2 w.heap.size (t1, A1, c1))
          have hfn := writeX_blk HL.out.R (t1, A1, c1)
          obtain ⟨⟨y0, y1, y2, y3, y4, y5, y6, y7⟩, _⟩ := hfn.cells8
          have hRS := HL.out.S.boxW (b := w.heap.size) (by omega) (t1, A1, c1)
          have hOff := Off.boxW HL.out.O (Nat.le_refl _) (t1, A1, c1)
          have hNod : NodeAt (writeX W2 w.heap.size (t1, A1, c1)) (fun b => w.heap.size ≤ b ∧ b < (writeX W2 w.heap.size (t1, A1, c1)).heap.size) (t1, A1, c1).1 (t1, A1, c1).2.1 (t1, A1, c1).2.2 := Hnd.out.mono fun k (hk : w.heap.size < k ∧ k < W2.heap.size) => ⟨⟨by omega, by rw [writeX_size]; exact hk.2⟩, fun o => World.cell?_of_block (w := W2) (a := ⟨k, o, none⟩) (writeX_other _ _ _ _ (show k ≠ w.heap.size by omega))⟩
          generalize writeX W2 w.heap.size (t1, A1, c1) = W3 at *
          exact bodyPost_ret (v := nodeV (t1, A1, c1).1 (t1, A1, c1).2.1 (t1, A1, c1).2.2) (by simp [results, Tryz.results17, y0, y1, y2, y3, y4, y5, y6, y7, go_sem]) rfl ⟨(t1, A1, c1), _, rfl, hNod, hRS, hOff, by have := Hfin.out; rw [Hj.out] at this; exact this⟩
        · obtain rfl : n = (ns.map fun x : Nx => x.1).length := by simp [HL.out.len]
          have hnd := HL.out.node (by omega) (by omega) (.mk 5 0 0 0 0 0 0 (ns.map fun x : Nx => x.1)) rfl
          have hj : joinT 5 (ns.map fun x : Nx => x.1) = .mk 5 0 0 0 0 0 0 (ns.map fun x : Nx => x.1) := by
            generalize ns.map (fun x : Nx => x.1) = l at hn2
            match l, hn2 with
            | a :: b :: l, _ => rfl
          have hb1 : (((ns.map fun x : Nx => x.1).length : Int) == 1) = false := by rw [beq_eq_false_iff_ne]; omega
          have Hj := Lib.hid hj; have Hnd := Lib.hid hnd
          clear hj hnd
          generalize hl : (ns.map fun x : Nx => x.1) = l at *
          obtain ⟨⟨r0, r1, r2, r3, r4, r5, r6, r7⟩, hz⟩ := HL.out.R.cells8
          have z0 := hz 0; have z1 := hz 1; have z2 := hz 2; have z3 := hz 3; have z4 := hz 4; have z5 := hz 5; have z6 := hz 6; have z7 := hz 7
          have lr := HL.out.R.lt
          clear hz
          go_wp2_with fail
          change bodyPost _ _ _ _ _ (writeX W2 w.heap.size (T.mk 5 0 0 0 0 0 0 l, Av, cv))
          have hfn := writeX_blk HL.out.R (T.mk 5 0 0 0 0 0 0 l, Av, cv)
          obtain ⟨⟨y0, y1, y2, y3, y4, y5, y6, y7⟩, _⟩ := hfn.cells8
          have hRS := HL.out.S.boxW (b := w.heap.size) (by omega) (T.mk 5 0 0 0 0 0 0 l, Av, cv)
          have hOff := Off.boxW HL.out.O (Nat.le_refl _) (T.mk 5 0 0 0 0 0 0 l, Av, cv)
          have hNod : NodeAt (writeX W2 w.heap.size (T.mk 5 0 0 0 0 0 0 l, Av, cv)) (fun b => w.heap.size ≤ b ∧ b < (writeX W2 w.heap.size (T.mk 5 0 0 0 0 0 0 l, Av, cv)).heap.size) ((T.mk 5 0 0 0 0 0 0 l, Av, cv) : Nx).1 ((T.mk 5 0 0 0 0 0 0 l, Av, cv) : Nx).2.1 ((T.mk 5 0 0 0 0 0 0 l, Av, cv) : Nx).2.2 := Hnd.out.mono fun k (hk : w.heap.size < k ∧ k < W2.heap.size) => ⟨⟨by omega, by rw [writeX_size]; exact hk.2⟩, fun o => World.cell?_of_block (w := W2) (a := ⟨k, o, none⟩) (writeX_other _ _ _ _ (show k ≠ w.heap.size by omega))⟩
          generalize writeX W2 w.heap.size (T.mk 5 0 0 0 0 0 0 l, Av, cv) = W3 at *
          exact bodyPost_ret (v := nodeV ((T.mk 5 0 0 0 0 0 0 l, Av, cv) : Nx).1 ((T.mk 5 0 0 0 0 0 0 l, Av, cv) : Nx).2.1 ((T.mk 5 0 0 0 0 0 0 l, Av, cv) : Nx).2.2) (by simp [results, Tryz.results17, y0, y1, y2, y3, y4, y5, y6, y7, go_sem]) rfl ⟨(T.mk 5 0 0 0 0 0 0 l, Av, cv), _, rfl, hNod, hRS, hOff, by have := Hfin.out; rw [Hj.out] at this; exact this⟩
      · have hres : altsP grp (k + 1) (ns.map fun x : Nx => x.1) r' = match rowP grp r2 with | .error e => .error e | .ok (n, r1) => altsP grp k ((ns.map fun x : Nx => x.1) ++ [n]) r1 := by
          rw [altsP, ht]; rfl
        have hl := takeP_len ht
        have hsf2 := (takeP_suf ht).trans Hsf.out
        simp only [List.length_cons, List.length_nil] at hl
        simp only [Rs.rest] at hnl
        have Hres := Lib.hid hres; have Ht := Lib.hid ht; have Hsf2 := Lib.hid hsf2; clear hres ht hsf2
        go_wp2_with fail
        refine (take_hit [124] (by simp) Ht.out HL.out.S).mono ?_
        rintro en W2 ⟨rfl, h2, hO2⟩
        have HL := Lib.hid (HL.out.off hlt hO2 h2)
        have H2 := Lib.hid h2
        clear h2 hO2
        go_wp2_with fail
        refine (HP.out W2 (.ok r2) H2.out (by simp only [Rs.rest]; omega) (fun r' e hr => HB.out r Hsr.out (by cases e; exact Hsf2.out.mem hr)) (fun r' e hr => HD.out r Hsr.out (by cases e; exact Hsf2.out.mem hr))).mono ?_
        rintro en w3 ⟨⟨t3, A3, c3⟩, s3, rfl, hx3, h3, hO3, ho3⟩
        have HL3 := Lib.hid (HL.out.off hlt hO3 h3)
        have Hx3 := Lib.hid hx3; have Ho3 := Lib.hid ho3
        have hz3 := hO3.size
        have hwr : w.heap.size < W2.heap.size := HL.out.R.lt
        clear hx3 ho3 hO3 h3
        have hnews : ∀ ad, some (⟨w3.heap.size, 0, none⟩ : Addr) = some ad → ∀ j u, (xcell (t3, A3, c3))[j]? = some u → (w3.alloc (.cells (xcell (t3, A3, c3)).toArray 39)).cell? (ad.add j) = some u := fun ad e j u hu => by
          simp only [Option.some.injEq] at e
          subst e
          rw [addr_addX, World.cell?_alloc_new, Nat.zero_add]
          simpa using hu
        have Hnews := Lib.hid hnews; clear hnews
        go_wp2_with (at_builtin; refine wpList_append_fromX (w.heap.size + 1) rfl _ _ 37 39 _ 8 80 rfl Tryz.underlying37 Tryz.infoNodeX rfl (by omega) (by omega) (.slice Av n cv) n 1 (xcells ns) (xcell (t3, A3, c3)) (some ⟨w3.heap.size, 0, none⟩) 1 rfl rfl (by simp) rfl Hnews.out (xcell_one _) (HL3.out.own.alloc _) (by simp; omega) (by omega) (fun A5 c5 w5 ho5 hg5 hat5 => ?_); have HL5 := Lib.hid (HL3.out.push hlt hwr (fun k hk => (HL.out.own.lt k hk).2) (t3, A3, c3) Hx3.out ((Below.refl _ _).alloc (Nat.le_refl _) _) ho5 hg5 hat5); clear ho5 hg5 hat5)
        have hcs : s3.rest.length ≤ r2.length ∧ ((∃ e, s3 = .error e ∧ (s = .error e ∨ ∃ r, s = .ok r ∧ choiceP grp r = .error e)) ∨ ∃ r r' k, s = .ok r ∧ s3 = .ok r' ∧ r' <:+ r ∧ r'.length < k ∧ choiceP grp r = match altsP grp k ((ns ++ [(t3, A3, c3)]).map fun x : Nx => x.1) r' with | .error e => .error e | .ok (l, r2) => .ok (joinT 5 l, r2)) := by
          have hoo := Ho3.out
          cases hpc : rowP grp r2 with
          | error e =>
            simp only [Out, hpc] at hoo
            subst hoo
            exact ⟨by simp [Rs.rest], .inl ⟨e, rfl, .inr ⟨r, Hsr.out, by rw [Hpp.out, Hres.out, hpc]⟩⟩⟩
          | ok y =>
            obtain ⟨n', r3⟩ := y
            simp only [Out, hpc] at hoo
            obtain ⟨rfl, rfl⟩ := hoo
            have hl3 := row_len HGl.out hpc
            exact ⟨by simp only [Rs.rest]; omega, .inr ⟨r, r3, k, Hsr.out, rfl, (row_suf HGs.out hpc).trans Hsf2.out, by omega, by rw [Hpp.out, Hres.out, hpc]; simp⟩⟩
        obtain ⟨hl1, hcs⟩ := hcs
        have HCS := Lib.hid hcs; clear hcs
        go_roundg (s3.rest.length + 1)
        case measure => have := Hm.out; simp only [Rs.rest] at this; omega
        case rel => exact ⟨n + 1, _, A5, c5, s3, rfl, by omega, rfl, by omega, HL5.out, HCS.out⟩
end Go.Proofs.YteekafkpeimhoaaGreat

/- The pattern reader's group, Parse: walked. -/
set_option linter.unusedVariables false
set_option linter.unusedSimpArgs false
namespace Go.Proofs.YteekafkpeimhoaaGreat
open Go.RowKit

set_option maxRecDepth 100000 in
set_option maxHeartbeats 4000000 in
theorem group_any : ∀ (d : Nat) (p : Nat) (op : Int) (hop : op + d = 64) (h0 : 0 ≤ op) (w : World) (s : Rs), RS w p op s → s.rest.length ≤ 1024 → (∀ r, s = .ok r → 91 ∈ r → BrC) → (∀ r, s = .ok r → 46 ∈ r → DotC) →
    Calls Tryz.prog 68 #[.pointer (some ⟨p, 0, none⟩)] w fun en w' => GNode p op (groupP d) s w en w' := by
  intro d
  induction d with
  | zero =>
    intro p op hop h0 w s h hs hB hD
    obtain rfl : op = 64 := by omega
    clear hB hD hs h0 hop
    have hlt := h.lt
    have c1 := h.rdr.c1
    have H := Lib.hid h; clear h
    go_enter Tryz.func68, Tryz.ntmps68
    go_wp2_with fail
    generalize hW : w.alloc _ = W0
    have hB0 : Below w.heap.size w W0 := by subst hW; exact (Below.refl _ _).alloc (Nat.le_refl _) _
    have R0 : BlkX W0 w.heap.size (xcell (.mk 0 0 0 0 0 0 0 [], none, 0)).toArray := by subst hW; exact BlkX.new w _
    clear hW
    refine (fail_any W0 p 64 s 3 (by omega) (H.out.later hB0)).mono ?_
    rintro en w1 ⟨rfl, h1, hO1⟩
    have R1 := Off.blk hO1 R0 (by omega)
    have hO := Off.trans (Off.of_below hB0) hO1
    have hout : Out (groupP 0) s (fun t => ((T.mk 0 0 0 0 0 0 0 [], none, 0) : Nx).1 = t) (failS s 3) := by
      rcases s with e | r
      · exact Out.err
      · exact Out.bad rfl
    have Hout := Lib.hid hout; have H1 := Lib.hid h1; have HO := Lib.hid hO; have HR := Lib.hid R1
    obtain ⟨⟨r0, r1, r2, r3, r4, r5, r6, r7⟩, hz⟩ := R1.cells8
    have z0 := hz 0; have z1 := hz 1; have z2 := hz 2; have z3 := hz 3; have z4 := hz 4; have z5 := hz 5; have z6 := hz 6; have z7 := hz 7
    have lr := R1.lt
    clear hz hout h1 hO R1 hO1 R0
    go_wp2_with fail
    change bodyPost _ _ _ _ _ (writeX w1 w.heap.size (T.mk 0 0 0 0 0 0 0 [], none, 0))
    have hfn := writeX_blk HR.out (T.mk 0 0 0 0 0 0 0 [], none, 0)
    obtain ⟨⟨y0, y1, y2, y3, y4, y5, y6, y7⟩, _⟩ := hfn.cells8
    have hRS := H1.out.boxW (b := w.heap.size) (by omega) (T.mk 0 0 0 0 0 0 0 [], none, 0)
    have hOff := Off.boxW HO.out (Nat.le_refl _) (T.mk 0 0 0 0 0 0 0 [], none, 0)
    generalize writeX w1 w.heap.size (T.mk 0 0 0 0 0 0 0 [], none, 0) = W3 at *
    exact bodyPost_ret (v := nodeV (T.mk 0 0 0 0 0 0 0 []) none 0) (by simp [results, Tryz.results68, y0, y1, y2, y3, y4, y5, y6, y7, go_sem]) rfl ⟨(T.mk 0 0 0 0 0 0 0 [], none, 0), _, rfl, nodeAt_leafX _ _ _ rfl, hRS, hOff, Hout.out⟩
  | succ d ih =>
    intro p op hop h0 w s h hs hB hD
    have hlt := h.lt
    have c1 := h.rdr.c1
    have z1 := h.rdr.z 1
    have hch : ∀ (w : World), RS w p (op + 1) s → Calls Tryz.prog 17 #[.pointer (some ⟨p, 0, none⟩)] w fun en w' => GNode p (op + 1) (choiceP (groupP d)) s w en w' := fun w h =>
      choice_par w p (op + 1) s h hs (groupP d) (group_len d) (group_suf d) hB hD (fun w s h hs hB hD => ih p (op + 1) (by omega) (by omega) w s h hs hB hD)
    have HCH := Lib.hid hch
    have H := Lib.hid h; clear h hch ih hB hD
    have hopb : (op == 64) = false := by rw [beq_eq_false_iff_ne]; omega
    have hop2 : op ≤ 63 := by omega
    clear hop hs
    go_enter Tryz.func68, Tryz.ntmps68
    go_wp2_with fail
    generalize hW : World.setCell _ _ _ = W0
    have hz0 : W0.heap.size = w.heap.size := by subst hW; simp
    have h0S : RS W0 p (op + 1) s := by subst hW; exact ⟨H.out.rdr.set1 (op + 1), H.out.ne⟩
    have hO0 : Off p w W0 := by subst hW; exact Off.set (Off.refl p w) _ _
    clear hW
    generalize hW : W0.alloc _ = W1
    have hB1 : Below W0.heap.size W0 W1 := by subst hW; exact (Below.refl _ _).alloc (Nat.le_refl _) _
    have R1 : BlkX W1 w.heap.size (xcell (T.mk 0 0 0 0 0 0 0 [], none, 0)).toArray := by
      have := BlkX.new W0 (xcell (T.mk 0 0 0 0 0 0 0 [], none, 0)).toArray
      rw [hz0] at this
      subst hW
      exact this
    have hzW : w.heap.size < W1.heap.size := R1.lt
    have hO1 := Off.trans hO0 (Off.of_below hB1)
    have h1S := h0S.later hB1
    clear hW hB1 hO0 h0S hz0
    refine (HCH.out W1 h1S).mono ?_
    rintro en w2 ⟨⟨t, A, c⟩, s2, rfl, hx2, h2, hO2, ho2⟩
    have R2 := Off.blk hO2 R1 (by omega)
    have hO2 := Off.trans hO1 hO2
    have hz2 : w.heap.size < w2.heap.size := R2.lt
    have Hx2 := Lib.hid hx2; have Ho2 := Lib.hid ho2
    clear hx2 ho2 R1 hO1 h1S
    have d1 := h2.rdr.c1
    have dz := h2.rdr.z 1
    have dl := h2.lt
    go_upto_region 7 with fail
    generalize hW : (World.setCell w2 _ _).alloc _ = W3
    have hzs : (w2.setCell ⟨p, 1, none⟩ (.int .i64 op)).heap.size = w2.heap.size := by simp
    have hBs : Below w2.heap.size (w2.setCell ⟨p, 1, none⟩ (.int .i64 op)) W3 := by rw [← hW, ← hzs]; exact (Below.refl _ _).alloc (Nat.le_refl _) _
    have N3 : BlkX W3 w2.heap.size (xcell (t, A, c)).toArray := by
      have := BlkX.new (w2.setCell ⟨p, 1, none⟩ (.int .i64 op)) (xcell (t, A, c)).toArray
      rw [hzs] at this
      rw [← hW]
      exact this
    have h3 : RS W3 p op s2 := RS.later (w := w2.setCell ⟨p, 1, none⟩ (.int .i64 op)) ⟨h2.rdr.set1 op, h2.ne⟩ (by rw [hzs]; exact hBs)
    have R3 : BlkX W3 w.heap.size (xcell (T.mk 0 0 0 0 0 0 0 [], none, 0)).toArray := (R2.keep (Below.heap_setCell _ _ _ _ (show w.heap.size ≠ p by omega))).keep (hBs.block _ hz2)
    have hO3 : Off p w W3 := Off.trans (Off.set hO2 _ _) (Off.of_below (by rw [hzs]; exact hBs))
    have hW1 : w.heap.size < W1.heap.size := hzW
    have Hx3 := Lib.hid (Hx2.out.mono (w' := W3) (ok' := fun b => w.heap.size < b ∧ b < w2.heap.size) fun b (hb : W1.heap.size ≤ b ∧ b < w2.heap.size) => ⟨⟨by omega, hb.2⟩, fun o => (hBs.cell (p := ⟨b, o, none⟩) hb.2).trans (World.cell?_of_block (w := w2) (a := ⟨b, o, none⟩) (Below.heap_setCell _ _ _ _ (show b ≠ p by omega)))⟩)
    generalize hbn : w2.heap.size = bn at *
    have lbn := N3.lt
    clear hW hBs hzs R2 h2 hO2 Hx2 d1 dz dl hbn
    rcases s2 with e | r2
    · have hout : Out (groupP (d + 1)) s (fun u => ((t, A, c) : Nx).1 = u) (.error e) := by
        have hoo := Ho2.out
        rcases s with e' | r
        · cases (show (Except.error e : Rs) = .error e' from hoo); exact Out.err
        · cases hc : choiceP (groupP d) r with
          | error e' => simp only [Out, hc] at hoo; cases hoo; exact Out.bad (by rw [groupP, hc])
          | ok y => obtain ⟨n, r'⟩ := y; simp only [Out, hc] at hoo; cases hoo.2
      have Hout := Lib.hid hout; clear hout
      go_wp2_with fail
      refine (take_err [41] (by simp) h3).mono ?_
      rintro en W4 ⟨rfl, h4, hO4⟩
      go_wp2_with fail
      refine (fail_err 100 (by omega) h4).mono ?_
      rintro en W5 ⟨rfl, h5, hO5⟩
      have hO5' := Off.trans hO4 hO5
      clear hO4 hO5 h4 h3
      have R5 := Off.blk hO5' R3 (by omega)
      have N5 := Off.blk hO5' N3 (by omega)
      have hO5 := Off.trans hO3 hO5'
      have Hx5 := Lib.hid (Hx3.out.mono (w' := W5) (ok' := fun b => w.heap.size < b ∧ b < bn) fun b (hb : w.heap.size < b ∧ b < bn) => ⟨hb, fun o => Off.cell hO5' (by omega) (by omega)⟩)
      obtain ⟨⟨f0, f1, f2, f3, f4, f5, f6, f7⟩, _⟩ := N5.cells8
      obtain ⟨⟨r0, r1, r2, r3, r4, r5, r6, r7⟩, hz⟩ := R5.cells8
      have z0 := hz 0; have zz1 := hz 1; have z2 := hz 2; have z3 := hz 3; have z4 := hz 4; have z5 := hz 5; have z6 := hz 6; have z7 := hz 7
      have lr := R5.lt
      have ln := N5.lt
      have HR := Lib.hid R5; have H5 := Lib.hid h5; have HO := Lib.hid hO5
      clear hz R5 N5 h5 hO5 hO5' R3 N3 hO3
      go_wp2_with fail
      change bodyPost _ _ _ _ _ (writeX W5 w.heap.size (t, A, c))
      have hfn := writeX_blk HR.out (t, A, c)
      obtain ⟨⟨y0, y1, y2, y3, y4, y5, y6, y7⟩, _⟩ := hfn.cells8
      have hRS := H5.out.boxW (b := w.heap.size) (by omega) (t, A, c)
      have hOff := Off.boxW HO.out (Nat.le_refl _) (t, A, c)
      have hNod : NodeAt (writeX W5 w.heap.size (t, A, c)) (fun b => w.heap.size ≤ b ∧ b < (writeX W5 w.heap.size (t, A, c)).heap.size) t A c := Hx5.out.mono fun k (hk : w.heap.size < k ∧ k < bn) => ⟨⟨by omega, by rw [writeX_size]; omega⟩, fun o => World.cell?_of_block (w := W5) (a := ⟨k, o, none⟩) (writeX_other _ _ _ _ (show k ≠ w.heap.size by omega))⟩
      generalize writeX W5 w.heap.size (t, A, c) = W6 at *
      exact bodyPost_ret (v := nodeV t A c) (by simp [results, Tryz.results68, y0, y1, y2, y3, y4, y5, y6, y7, go_sem]) rfl ⟨(t, A, c), _, rfl, hNod, hRS, hOff, Hout.out⟩
    · obtain ⟨r, hsr, hcc⟩ : ∃ r, s = .ok r ∧ choiceP (groupP d) r = .ok (t, r2) := by
        have hoo := Ho2.out
        rcases s with e' | r
        · cases (show (Except.ok r2 : Rs) = .error e' from hoo)
        · cases hc : choiceP (groupP d) r with
          | error e' => simp only [Out, hc] at hoo; cases hoo
          | ok y =>
            obtain ⟨n, r'⟩ := y
            simp only [Out, hc] at hoo
            obtain ⟨rfl, h'⟩ := hoo
            cases h'
            exact ⟨r, rfl, hc⟩
      have Hsr := Lib.hid hsr; have Hcc := Lib.hid hcc; clear hsr hcc
      rcases ht : takeP [41] r2 with _ | r3
      · have hout : Out (groupP (d + 1)) s (fun u => ((t, A, c) : Nx).1 = u) (.error 100) := by
          rw [Hsr.out]; exact Out.bad (by rw [groupP, Hcc.out]; simp only [ht])
        have Hout := Lib.hid hout; have Ht := Lib.hid ht; clear hout ht
        go_wp2_with fail
        refine (take_miss [41] (by simp) Ht.out h3).mono ?_
        rintro en W4 ⟨rfl, h4, hO4⟩
        go_wp2_with fail
        refine (fail_ok 100 (by omega) h4).mono ?_
        rintro en W5 ⟨rfl, h5, hO5⟩
        have hO5' := Off.trans hO4 hO5
        clear hO4 hO5 h4 h3
        have R5 := Off.blk hO5' R3 (by omega)
        have N5 := Off.blk hO5' N3 (by omega)
        have hO5 := Off.trans hO3 hO5'
        have Hx5 := Lib.hid (Hx3.out.mono (w' := W5) (ok' := fun b => w.heap.size < b ∧ b < bn) fun b (hb : w.heap.size < b ∧ b < bn) => ⟨hb, fun o => Off.cell hO5' (by omega) (by omega)⟩)
        obtain ⟨⟨f0, f1, f2, f3, f4, f5, f6, f7⟩, _⟩ := N5.cells8
        obtain ⟨⟨r0, r1, r2, r3, r4, r5, r6, r7⟩, hz⟩ := R5.cells8
        have z0 := hz 0; have zz1 := hz 1; have z2 := hz 2; have z3 := hz 3; have z4 := hz 4; have z5 := hz 5; have z6 := hz 6; have z7 := hz 7
        have lr := R5.lt
        have ln := N5.lt
        have HR := Lib.hid R5; have H5 := Lib.hid h5; have HO := Lib.hid hO5
        clear hz R5 N5 h5 hO5 hO5' R3 N3 hO3
        go_wp2_with fail
        change bodyPost _ _ _ _ _ (writeX W5 w.heap.size (t, A, c))
        have hfn := writeX_blk HR.out (t, A, c)
        obtain ⟨⟨y0, y1, y2, y3, y4, y5, y6, y7⟩, _⟩ := hfn.cells8
        have hRS := H5.out.boxW (b := w.heap.size) (by omega) (t, A, c)
        have hOff := Off.boxW HO.out (Nat.le_refl _) (t, A, c)
        have hNod : NodeAt (writeX W5 w.heap.size (t, A, c)) (fun b => w.heap.size ≤ b ∧ b < (writeX W5 w.heap.size (t, A, c)).heap.size) t A c := Hx5.out.mono fun k (hk : w.heap.size < k ∧ k < bn) => ⟨⟨by omega, by rw [writeX_size]; omega⟩, fun o => World.cell?_of_block (w := W5) (a := ⟨k, o, none⟩) (writeX_other _ _ _ _ (show k ≠ w.heap.size by omega))⟩
        generalize writeX W5 w.heap.size (t, A, c) = W6 at *
        exact bodyPost_ret (v := nodeV t A c) (by simp [results, Tryz.results68, y0, y1, y2, y3, y4, y5, y6, y7, go_sem]) rfl ⟨(t, A, c), _, rfl, hNod, hRS, hOff, Hout.out⟩
      · have hout : Out (groupP (d + 1)) s (fun u => ((t, A, c) : Nx).1 = u) (.ok r3) := by
          rw [Hsr.out]; exact Out.good (x := t) (by rw [groupP, Hcc.out]; simp only [ht]) rfl
        have Hout := Lib.hid hout; have Ht := Lib.hid ht; clear hout ht
        go_wp2_with fail
        refine (take_hit [41] (by simp) Ht.out h3).mono ?_
        rintro en W5 ⟨rfl, h5, hO5'⟩
        clear h3
        have R5 := Off.blk hO5' R3 (by omega)
        have N5 := Off.blk hO5' N3 (by omega)
        have hO5 := Off.trans hO3 hO5'
        have Hx5 := Lib.hid (Hx3.out.mono (w' := W5) (ok' := fun b => w.heap.size < b ∧ b < bn) fun b (hb : w.heap.size < b ∧ b < bn) => ⟨hb, fun o => Off.cell hO5' (by omega) (by omega)⟩)
        obtain ⟨⟨f0, f1, f2, f3, f4, f5, f6, f7⟩, _⟩ := N5.cells8
        obtain ⟨⟨r0, r1, r2, r3, r4, r5, r6, r7⟩, hz⟩ := R5.cells8
        have z0 := hz 0; have zz1 := hz 1; have z2 := hz 2; have z3 := hz 3; have z4 := hz 4; have z5 := hz 5; have z6 := hz 6; have z7 := hz 7
        have lr := R5.lt
        have ln := N5.lt
        have HR := Lib.hid R5; have H5 := Lib.hid h5; have HO := Lib.hid hO5
        clear hz R5 N5 h5 hO5 hO5' R3 N3 hO3
        go_wp2_with fail
        change bodyPost _ _ _ _ _ (writeX W5 w.heap.size (t, A, c))
        have hfn := writeX_blk HR.out (t, A, c)
        obtain ⟨⟨y0, y1, y2, y3, y4, y5, y6, y7⟩, _⟩ := hfn.cells8
        have hRS := H5.out.boxW (b := w.heap.size) (by omega) (t, A, c)
        have hOff := Off.boxW HO.out (Nat.le_refl _) (t, A, c)
        have hNod : NodeAt (writeX W5 w.heap.size (t, A, c)) (fun b => w.heap.size ≤ b ∧ b < (writeX W5 w.heap.size (t, A, c)).heap.size) t A c := Hx5.out.mono fun k (hk : w.heap.size < k ∧ k < bn) => ⟨⟨by omega, by rw [writeX_size]; omega⟩, fun o => World.cell?_of_block (w := W5) (a := ⟨k, o, none⟩) (writeX_other _ _ _ _ (show k ≠ w.heap.size by omega))⟩
        generalize writeX W5 w.heap.size (t, A, c) = W6 at *
        exact bodyPost_ret (v := nodeV t A c) (by simp [results, Tryz.results68, y0, y1, y2, y3, y4, y5, y6, y7, go_sem]) rfl ⟨(t, A, c), _, rfl, hNod, hRS, hOff, Hout.out⟩

end Go.Proofs.YteekafkpeimhoaaGreat

/- pattern.Parse: walked. -/
set_option linter.unusedVariables false
set_option linter.unusedSimpArgs false
namespace Go.Proofs.YteekafkpeimhoaaGreat
open Go.RowKit

abbrev none0 : T := .mk 0 0 0 0 0 0 0 []
/-- What Parse hands back. -/
def GPar (s : Bs) (w : World) (en : Ending) (w' : World) : Prop :=
  Below w.heap.size w w' ∧ ((∃ t A c, parseP s = .ok t ∧ en = .returned (.tuple #[nodeV t A c, .int .i64 0]) ∧ NodeAt w' (fun b => w.heap.size ≤ b ∧ b < w'.heap.size) t A c) ∨ ∃ e, parseP s = .error e ∧ e ≠ 0 ∧ en = .returned (.tuple #[nodeV none0 none 0, .int .i64 e]))

set_option maxRecDepth 100000 in
set_option maxHeartbeats 4000000 in
theorem parse_par (s : Bs) (w : World) (hM : MaxOk w) (hB : 91 ∈ s → BrC) (hD : 46 ∈ s → DotC) :
    Calls Tryz.prog 11 #[.string (bs s)] w fun en w' => GPar s w en w' := by
  by_cases hlen : 1024 < s.length
  · have hp : parseP s = .error 3 := by rw [parseP, if_pos hlen]
    have Hp := Lib.hid hp; clear hp hB hD
    go_enter Tryz.func11, Tryz.ntmps11
    go_wp2_with fail
    exact bodyPost_ret (v := .tuple #[nodeV none0 none 0, .int .i64 3]) (by simp [results, Tryz.results11, go_sem, T.k, T.s0, T.s1, T.s2, T.s3, T.mn, T.mx, T.ps]) rfl ⟨(Below.refl _ _).alloc (Nat.le_refl _) _, .inr ⟨3, Hp.out, by omega, rfl⟩⟩
  · have hch : ∀ (w : World) (p : Nat), RS w p 0 (.ok s) → Calls Tryz.prog 17 #[.pointer (some ⟨p, 0, none⟩)] w fun en w' => GNode p 0 (choiceP (groupP 64)) (.ok s) w en w' := fun w p h =>
      choice_par w p 0 (.ok s) h (by simp only [Rs.rest]; omega) (groupP 64) (group_len 64) (group_suf 64) (fun r e hr => hB (by cases e; exact hr)) (fun r e hr => hD (by cases e; exact hr)) (fun w s h hs hB hD => group_any 64 p 0 (by omega) (by omega) w s h hs hB hD)
    have HCH := Lib.hid hch; clear hch hB hD
    go_enter Tryz.func11, Tryz.ntmps11
    go_wp2_with fail
    generalize hW : (w.alloc _).alloc _ = W1
    have hB1 : Below w.heap.size w W1 := by subst hW; exact ((Below.refl _ _).alloc (Nat.le_refl _) _).alloc (by simp) _
    have R1 : BlkX W1 w.heap.size (xcell (none0, none, 0)).toArray := by
      subst hW
      exact (BlkX.new w _).keep (((Below.refl _ _).alloc (Nat.le_refl _) _).block _ (by simp))
    have h1 : RS W1 (w.heap.size + 1) 0 (.ok s) := by
      have hM1 := hM.later hB1
      subst hW
      refine ⟨⟨?_, ?_, ?_, fun o => ?_, by simp, hM1, by omega⟩, fun e he => by cases he⟩
      · simp [go_sem, Rs.rest]
      · simp [go_sem]
      · simp [go_sem, Rs.no]
      · simp [go_sem]
    have hz1 : W1.heap.size = w.heap.size + 2 := by subst hW; simp
    clear hW
    refine (HCH.out W1 (w.heap.size + 1) h1).mono ?_
    rintro en w2 ⟨⟨t, A, c⟩, s2, rfl, hx2, h2, hO2, ho2⟩
    have R2 := Off.blk hO2 R1 (by omega)
    have hz2 := hO2.size
    have hBw2 : Below w.heap.size w w2 := hB1.trans (Off.below hO2 (by omega) (by omega))
    have Hx2 := Lib.hid hx2; have Ho2 := Lib.hid ho2
    have hzz : w.heap.size + 2 ≤ W1.heap.size := by omega
    clear hx2 ho2 R1 h1 hO2 hz1 hB1
    go_upto_region 5 with fail
    generalize hW : w2.alloc _ = W3
    have hB3 : Below w2.heap.size w2 W3 := by subst hW; exact (Below.refl _ _).alloc (Nat.le_refl _) _
    have N3 : BlkX W3 w2.heap.size (xcell (t, A, c)).toArray := by subst hW; exact BlkX.new w2 _
    have R3 := R2.keep (hB3.block _ R2.lt)
    have h3 := h2.later hB3
    have hBw3 := hBw2.trans (hB3.mono (by omega))
    have Hx3 := Lib.hid (Hx2.out.mono (w' := W3) (ok' := fun b => w.heap.size + 2 ≤ b ∧ b < w2.heap.size) fun b (hb : W1.heap.size ≤ b ∧ b < w2.heap.size) => ⟨⟨by omega, hb.2⟩, fun o => hB3.cell (p := ⟨b, o, none⟩) hb.2⟩)
    generalize hbn : w2.heap.size = bn at *
    have lbn := N3.lt
    have lp3 := h3.lt
    clear hW hB3 R2 h2 hBw2 Hx2 hbn
    have c0 := h3.rdr.c0
    have c2 := h3.rdr.c2
    rcases s2 with e | r2
    · have hne := h3.ne e rfl
      have hp : parseP s = .error e := by
        have hoo := Ho2.out
        rw [parseP, if_neg hlen]
        cases hc : choiceP (groupP 64) s with
        | error e' => simp only [Out, hc] at hoo; cases hoo; rfl
        | ok y => obtain ⟨n, r'⟩ := y; simp only [Out, hc] at hoo; cases hoo.2
      have Hp := Lib.hid hp; clear hp
      have hb : (e != 0) = true := by rw [bne_iff_ne]; exact hne
      have Hne := Lib.hid hne; clear hne
      simp only [Rs.rest, Rs.no] at c0 c2
      obtain ⟨⟨r0, r1, r2_, r3, r4, r5, r6, r7⟩, hz⟩ := R3.cells8
      have z0 := hz 0; have zz1 := hz 1; have z2 := hz 2; have z3 := hz 3; have z4 := hz 4; have z5 := hz 5; have z6 := hz 6; have z7 := hz 7
      have lr := R3.lt
      clear hz
      go_wp2_with fail
      go_region
      all_goals go_wp2_with fail
      change bodyPost _ _ _ _ _ (writeX W3 w.heap.size (none0, none, 0)).drew
      have hfn := writeX_blk R3 (none0, none, 0)
      obtain ⟨⟨y0, y1, y2, y3, y4, y5, y6, y7⟩, _⟩ := hfn.cells8
      have hbel := (writeX_below hBw3 (Nat.le_refl w.heap.size) (none0, none, 0)).drew
      generalize writeX W3 w.heap.size (none0, none, 0) = W5 at *
      exact bodyPost_ret (v := .tuple #[nodeV none0 none 0, .int .i64 e]) (by simp [results, Tryz.results11, y0, y1, y2, y3, y4, y5, y6, y7, go_sem]) rfl ⟨hbel, .inr ⟨_, Hp.out, Hne.out, rfl⟩⟩
    · have hcc : choiceP (groupP 64) s = .ok (t, r2) := by
        have hoo := Ho2.out
        cases hc : choiceP (groupP 64) s with
        | error e' => simp only [Out, hc] at hoo; cases hoo
        | ok y =>
          obtain ⟨n, r'⟩ := y
          simp only [Out, hc] at hoo
          obtain ⟨rfl, h'⟩ := hoo
          cases h'
          rfl
      have Hcc := Lib.hid hcc; clear hcc Ho2
      simp only [Rs.rest, Rs.no] at c0 c2
      rcases r2 with _ | ⟨c1, t1⟩
      · have hp : parseP s = .ok t := by rw [parseP, if_neg hlen, Hcc.out]
        have Hp := Lib.hid hp; clear hp
        obtain ⟨⟨f0, f1, f2, f3, f4, f5, f6, f7⟩, _⟩ := N3.cells8
        obtain ⟨⟨r0, r1, r2_, r3, r4, r5, r6, r7⟩, hz⟩ := R3.cells8
        have z0 := hz 0; have zz1 := hz 1; have z2 := hz 2; have z3 := hz 3; have z4 := hz 4; have z5 := hz 5; have z6 := hz 6; have z7 := hz 7
        have lr := R3.lt
        clear hz
        have HR := Lib.hid R3
        clear R3 N3 h3
        go_wp2_with fail
        change bodyPost _ _ _ _ _ (writeX W3 w.heap.size (t, A, c))
        have hfn := writeX_blk HR.out (t, A, c)
        obtain ⟨⟨y0, y1, y2, y3, y4, y5, y6, y7⟩, _⟩ := hfn.cells8
        have hbel := writeX_below hBw3 (Nat.le_refl w.heap.size) (t, A, c)
        have hNod : NodeAt (writeX W3 w.heap.size (t, A, c)) (fun b => w.heap.size ≤ b ∧ b < (writeX W3 w.heap.size (t, A, c)).heap.size) t A c := Hx3.out.mono fun k (hk : w.heap.size + 2 ≤ k ∧ k < bn) => ⟨⟨by omega, by rw [writeX_size]; omega⟩, fun o => World.cell?_of_block (w := W3) (a := ⟨k, o, none⟩) (writeX_other _ _ _ _ (show k ≠ w.heap.size by omega))⟩
        generalize writeX W3 w.heap.size (t, A, c) = W5 at *
        exact bodyPost_ret (v := .tuple #[nodeV t A c, .int .i64 0]) (by simp [results, Tryz.results11, y0, y1, y2, y3, y4, y5, y6, y7, go_sem]) rfl ⟨hbel, .inl ⟨t, A, c, Hp.out, rfl, hNod⟩⟩
      · have hp : parseP s = .error 100 := by rw [parseP, if_neg hlen, Hcc.out]
        have Hp := Lib.hid hp; clear hp
        have H3 := Lib.hid h3
        go_wp2_with fail
        refine (fail_ok 100 (by omega) H3.out).mono ?_
        rintro en W4 ⟨rfl, h4, hO4⟩
        have R4 := Off.blk hO4 R3 (by omega)
        have hz3 : w.heap.size ≤ W3.heap.size := by omega
        have hBw4 := hBw3.trans (Off.below hO4 (B := w.heap.size) (by omega) hz3)
        have d2 := h4.rdr.c2
        have lp4 := h4.lt
        simp only [Rs.no] at d2
        clear c0 c2 R3 N3 h3 h4 hO4 H3
        obtain ⟨⟨r0, r1, r2_, r3, r4, r5, r6, r7⟩, hz⟩ := R4.cells8
        have z0 := hz 0; have zz1 := hz 1; have z2 := hz 2; have z3 := hz 3; have z4 := hz 4; have z5 := hz 5; have z6 := hz 6; have z7 := hz 7
        have lr := R4.lt
        clear hz
        go_wp2_with fail
        go_region
        all_goals go_wp2_with fail
        change bodyPost _ _ _ _ _ (writeX W4 w.heap.size (none0, none, 0)).drew
        have hfn := writeX_blk R4 (none0, none, 0)
        obtain ⟨⟨y0, y1, y2, y3, y4, y5, y6, y7⟩, _⟩ := hfn.cells8
        have hbel := (writeX_below hBw4 (Nat.le_refl w.heap.size) (none0, none, 0)).drew
        generalize writeX W4 w.heap.size (none0, none, 0) = W5 at *
        exact bodyPost_ret (v := .tuple #[nodeV none0 none 0, .int .i64 100]) (by simp [results, Tryz.results11, y0, y1, y2, y3, y4, y5, y6, y7, go_sem]) rfl ⟨hbel, .inr ⟨_, Hp.out, (by omega), rfl⟩⟩
end Go.Proofs.YteekafkpeimhoaaGreat

/- match.Compile, match.Find: walked. -/
set_option linter.unusedVariables false
set_option linter.unusedSimpArgs false
namespace Go.Proofs.YteekafkpeimhoaaGreat
open Go.RowKit

def compE (s : Bs) : Int := match parseP s with | .error e => e | .ok t => sizeE t
def compL (s : Bs) : List St := match parseP s with | .error _ => [] | .ok t => makeL t
def compS (s : Bs) : Int := match parseP s with | .error _ => 0 | .ok t => makeS t
/-- match.Find: found?, steps, error. -/
def findF (s subj : Bs) : Bool × Int × Int := if compE s ≠ 0 then (false, 0, compE s) else hasF (compL s) (compS s) subj

/-- Two cells written. -/
theorem two_set {w1 W : World} {b : Nat} {u0 u1 : Value} (v0 v1 : Value) (h0 : w1.cell? ⟨b, 0, none⟩ = some u0) (h1 : w1.cell? ⟨b, 1, none⟩ = some u1) (hW : W = (w1.setCell ⟨b, 0, none⟩ v0).setCell ⟨b, 1, none⟩ v1) :
    W.cell? ⟨b, 0, none⟩ = some v0 ∧ W.cell? ⟨b, 1, none⟩ = some v1 ∧ W.heap.size = w1.heap.size ∧ (∀ k, k ≠ b → W.heap[k]? = w1.heap[k]?) ∧ ∀ B w, B ≤ b → Below B w w1 → Below B w W := by
  subst hW
  refine ⟨?_, World.cell?_setCell_same _ _ _ (by rw [World.cell?_setCell_other (h := by simp)]; exact h1), by simp, fun k hk => ?_, fun B w hB hb => (hb.setCell (by simpa using hB) _).setCell (by simpa using hB) _⟩
  · rw [World.cell?_setCell_other (h := by simp)]
    exact World.cell?_setCell_same _ _ _ h0
  · rw [Below.heap_setCell _ _ _ _ hk, Below.heap_setCell _ _ _ _ hk]
set_option maxRecDepth 100000 in
set_option maxHeartbeats 4000000 in
theorem comp_any (s : Bs) (w : World) (hM : MaxOk w) (hB : 91 ∈ s → BrC) (hD : 46 ∈ s → DotC) :
    Calls Tryz.prog 4 #[.string (bs s)] w fun en w' => ∃ A c, en = .returned (.tuple #[nfaV (compL s) (compS s) A c, .int .i64 (compE s)]) ∧ w'.ownsRow w.heap.size 45 7 (.slice A (compL s).length c) (compL s).length (stCells (compL s)) ∧ Below w.heap.size w w' := by
  have HB := Lib.hid hB; have HD := Lib.hid hD; clear hB hD
  go_enter Tryz.func4, Tryz.ntmps4
  go_wp2_with fail
  generalize hW : w.alloc _ = W0
  have hB0 : Below w.heap.size w W0 := by subst hW; exact (Below.refl _ _).alloc (Nat.le_refl _) _
  have hz0 : w.heap.size < W0.heap.size := by subst hW; simp
  have P0 : At2 W0 w.heap.size (.slice none 0 0) 0 := by subst hW; constructor <;> simp [go_sem]
  have y0 : ∀ o, W0.frozen? ⟨w.heap.size, o, none⟩ = false := fun o => by subst hW; simp [go_sem]
  clear hW
  refine (parse_par s W0 (hM.later hB0) HB.out HD.out).mono ?_
  rintro en w1 ⟨hb1, ⟨t, A, c, hp, rfl, hN⟩ | ⟨e, hp, he, rfl⟩⟩
  case inr =>
    have hz1 := hb1.size
    have P1 := P0.later hb1 hz0
    have y1 : ∀ o, w1.frozen? ⟨w.heap.size, o, none⟩ = false := fun o => (hb1.frozen (p := ⟨w.heap.size, o, none⟩) hz0).trans (y0 o)
    have hB1 := hB0.trans (hb1.mono (by omega))
    have hE : compE s = e := by unfold compE; rw [hp]
    have hL : compL s = [] := by unfold compL; rw [hp]
    have hS : compS s = 0 := by unfold compS; rw [hp]
    have HE := Lib.hid hE; have HL := Lib.hid hL; have HS := Lib.hid hS
    have heb : (e != 0) = true := by simpa using he
    obtain ⟨p0, p1⟩ := P1
    have q0 := y1 0; have q1 := y1 1
    have lq : w.heap.size < w1.heap.size := by omega
    clear hE hL hS hp he P0 y0 y1 hb1
    go_wp2_with fail
    generalize hW2 : (w1.setCell _ _).setCell _ _ = W2
    obtain ⟨r0, r1, hs2, hk2, hb2⟩ := two_set _ _ p0 p1 hW2.symm
    have hB2 := hb2 _ _ (Nat.le_refl _) hB1
    have lq2 : w.heap.size < W2.heap.size := by omega
    clear hW2 hk2
    have r0' := (((Below.refl W2.heap.size W2).alloc (Nat.le_refl _) (.cells #[.int .i64 none0.k, .int .u64 none0.s0, .int .u64 none0.s1, .int .u64 none0.s2, .int .u64 none0.s3, .int .i64 none0.mn, .int .i64 none0.mx, .slice none none0.ps.length 0] 39)).cell (p := ⟨w.heap.size, 0, none⟩) lq2).trans r0
    have r1' := (((Below.refl W2.heap.size W2).alloc (Nat.le_refl _) (.cells #[.int .i64 none0.k, .int .u64 none0.s0, .int .u64 none0.s1, .int .u64 none0.s2, .int .u64 none0.s3, .int .i64 none0.mn, .int .i64 none0.mx, .slice none none0.ps.length 0] 39)).cell (p := ⟨w.heap.size, 1, none⟩) lq2).trans r1
    have hB3 := hB2.trans (((Below.refl W2.heap.size W2).alloc (Nat.le_refl _) (.cells #[.int .i64 none0.k, .int .u64 none0.s0, .int .u64 none0.s1, .int .u64 none0.s2, .int .u64 none0.s3, .int .i64 none0.mn, .int .i64 none0.mx, .slice none none0.ps.length 0] 39)).mono (by omega))
    generalize hW3 : W2.alloc _ = W3 at *
    refine bodyPost_ret (v := .tuple #[.agg #[.slice none 0 0, .int .i64 0], .int .i64 e]) (by simp [results, Tryz.results4, r0', r1', go_sem]) rfl ⟨none, 0, by rw [HE.out, HL.out, HS.out]; rfl, ?_, hB3⟩
    rw [HL.out]; exact ⟨rfl, .inl ⟨rfl, rfl⟩⟩
  case inl =>
    have hz1 := hb1.size
    have P1 := P0.later hb1 hz0
    have y1 : ∀ o, w1.frozen? ⟨w.heap.size, o, none⟩ = false := fun o => (hb1.frozen (p := ⟨w.heap.size, o, none⟩) hz0).trans (y0 o)
    have hB1 := hB0.trans (hb1.mono (by omega))
    have hE : compE s = sizeE t := by unfold compE; rw [hp]
    have hL : compL s = makeL t := by unfold compL; rw [hp]
    have hS : compS s = makeS t := by unfold compS; rw [hp]
    have HE := Lib.hid hE; have HL := Lib.hid hL; have HS := Lib.hid hS
    have HN := Lib.hid hN
    have lq : w.heap.size < w1.heap.size := by omega
    clear hE hL hS hp P0 y0 hN
    go_wp2_with fail
    generalize hW2 : w1.alloc _ = W2
    have hb2 : Below w1.heap.size w1 W2 := by subst hW2; exact (Below.refl _ _).alloc (Nat.le_refl _) _
    have hN2 := HN.out.later hb2 (fun b hb => hb.2)
    have P2 := P1.later hb2 lq
    have y2 : ∀ o, W2.frozen? ⟨w.heap.size, o, none⟩ = false := fun o => (hb2.frozen (p := ⟨w.heap.size, o, none⟩) lq).trans (y1 o)
    have hz2 := hb2.size
    have hB2 := hB1.trans (hb2.mono (by omega))
    clear hW2 P1 y1
    refine (make_any t W2 _ A c hN2 (fun b hb => by omega)).mono ?_
    rintro en w3 ⟨v, rfl, ho3, hb3⟩
    obtain ⟨A3, c3, rfl⟩ := own_form ho3
    have P3 := P2.later hb3 (by omega)
    have y3 : ∀ o, w3.frozen? ⟨w.heap.size, o, none⟩ = false := fun o => (hb3.frozen (p := ⟨w.heap.size, o, none⟩) (by show w.heap.size < _; omega)).trans (y2 o)
    have hB3 := hB2.trans (hb3.mono (by omega))
    have hz3 := hb3.size
    obtain ⟨p0, p1⟩ := P3
    have q0 := y3 0; have q1 := y3 1
    have lq3 : w.heap.size < w3.heap.size := by omega
    have Ho3 := Lib.hid ho3
    clear P2 y2 y3 ho3 hN2
    go_wp2_with fail
    generalize hW4 : (w3.setCell _ _).setCell _ _ = W4
    obtain ⟨r0, r1, hs4, hk4, hb4⟩ := two_set _ _ p0 p1 hW4.symm
    have hB4 := hb4 _ _ (Nat.le_refl _) hB3
    have ho4 : W4.ownsRow W2.heap.size 45 7 (.slice A3 (makeL t).length c3) (makeL t).length (stCells (makeL t)) := by
      refine Ho3.out.kept (row := some w.heap.size) ⟨by subst hW4; rfl, by subst hW4; rfl, by subst hW4; rfl, by omega, fun k hk hne => hk4 k (by simpa using hne)⟩ (.inr fun e => ?_)
      have := (Ho3.out.lt _ e).1
      omega
    refine bodyPost_ret (v := .tuple #[.agg #[.slice A3 (makeL t).length c3, .int .i64 (makeS t)], .int .i64 (sizeE t)]) (by simp [results, Tryz.results4, r0, r1, go_sem]) rfl ⟨A3, c3, by rw [HE.out, HL.out, HS.out], ?_, hB4⟩
    rw [HL.out]
    exact ho4.mono (by omega)

theorem compL_le (s : Bs) : (compL s).length ≤ 4096 := by
  unfold compL
  split
  · simp
  · exact makeL_le _
set_option maxRecDepth 100000 in
set_option maxHeartbeats 4000000 in
theorem find_any (s subj : Bs) (w : World) (hM : MaxOk w) (hB : 91 ∈ s → BrC) (hD : 46 ∈ s → DotC) :
    Calls Tryz.prog 5 #[.string (bs s), .string (bs subj)] w fun en w' => en = .returned (.tuple #[.bool (findF s subj).1, .int .i64 (findF s subj).2.1, .int .i64 (findF s subj).2.2]) ∧ Below w.heap.size w w' := by
  have HB := Lib.hid hB; have HD := Lib.hid hD; clear hB hD
  go_enter Tryz.func5, Tryz.ntmps5
  go_wp2_with fail
  refine (comp_any s w hM HB.out HD.out).mono ?_
  rintro en w1 ⟨A, c, rfl, ho1, hb1⟩
  have hl := compL_le s
  have Ho1 := Lib.hid ho1
  have hz1 := hb1.size
  clear ho1
  by_cases he : compE s = 0
  · have hres : findF s subj = hasF (compL s) (compS s) subj := by unfold findF; rw [if_neg (by simpa using he)]
    have Hres := Lib.hid hres
    have hb : (compE s != 0) = false := by rw [he]; rfl
    clear hres he
    go_wp2_with fail
    generalize hW2 : w1.alloc _ = W2
    have hb2 : Below w1.heap.size w1 W2 := by subst hW2; exact (Below.refl _ _).alloc (Nat.le_refl _) _
    have hz2 := hb2.size
    clear hW2
    refine (has_any W2 (fun b => b < W2.heap.size) (compL s) (compS s) A c (sts_all (own_later Ho1.out hb2) hl) (fun b h => h) subj).mono ?_
    rintro en w3 ⟨rfl, hb3⟩
    go_wp2_with fail
    exact bodyPost_ret (v := .tuple #[.bool (hasF (compL s) (compS s) subj).1, .int .i64 (hasF (compL s) (compS s) subj).2.1, .int .i64 (hasF (compL s) (compS s) subj).2.2]) (by simp [results, Tryz.results5, go_sem]) rfl ⟨by rw [Hres.out], hb1.trans ((hb2.mono hz1).trans (hb3.mono (by omega)))⟩
  · have hres : findF s subj = (false, 0, compE s) := by unfold findF; rw [if_pos he]
    have Hres := Lib.hid hres
    have hb : (compE s != 0) = true := by rw [bne_iff_ne]; exact he
    clear hres he
    go_wp2_with fail
    exact bodyPost_ret (v := .tuple #[.bool false, .int .i64 0, .int .i64 (compE s)]) (by simp [results, Tryz.results5, go_sem]) rfl ⟨by rw [Hres.out], hb1.alloc hz1 _⟩
end Go.Proofs.YteekafkpeimhoaaGreat

/- vouchref10's Reader: its state; fail, is, take, done: walked. -/
set_option linter.unusedVariables false
set_option linter.unusedSimpArgs false
namespace Go.Proofs.YteekafkpeimhoaaGreat
open Go.RowKit

/-- The Reader's four cells: the text, where it stands, open brackets, what is wrong. -/
structure Rdq (w : World) (p : Nat) (S : Bs) (k : Nat) (op e : Int) : Prop where
  c0 : w.cell? ⟨p, 0, none⟩ = some (.string (bs S))
  c1 : w.cell? ⟨p, 1, none⟩ = some (.int .i64 k)
  c2 : w.cell? ⟨p, 2, none⟩ = some (.int .i64 op)
  c3 : w.cell? ⟨p, 3, none⟩ = some (.int .i64 e)
  z : ∀ o, w.frozen? ⟨p, o, none⟩ = false
  lt : p < w.heap.size
  le : k ≤ S.length
  top : S.length ≤ 1024
theorem Rdq.later {w w' : World} {p : Nat} {S : Bs} {k : Nat} {op e : Int} (h : Rdq w p S k op e) (hb : Below w.heap.size w w') : Rdq w' p S k op e :=
  ⟨(hb.cell (p := ⟨p, 0, none⟩) h.lt).trans h.c0, (hb.cell (p := ⟨p, 1, none⟩) h.lt).trans h.c1, (hb.cell (p := ⟨p, 2, none⟩) h.lt).trans h.c2, (hb.cell (p := ⟨p, 3, none⟩) h.lt).trans h.c3, fun o => (hb.frozen (p := ⟨p, o, none⟩) h.lt).trans (h.z o), Nat.lt_of_lt_of_le h.lt hb.size, h.le, h.top⟩
theorem Rdq.set1 {w : World} {p : Nat} {S : Bs} {k : Nat} {op e : Int} (h : Rdq w p S k op e) {k' : Nat} (hk : k' ≤ S.length) : Rdq (w.setCell ⟨p, 1, none⟩ (.int .i64 k')) p S k' op e :=
  ⟨(World.cell?_setCell_other _ _ _ _ (by simp)).trans h.c0, World.cell?_setCell_same _ _ _ h.c1, (World.cell?_setCell_other _ _ _ _ (by simp)).trans h.c2, (World.cell?_setCell_other _ _ _ _ (by simp)).trans h.c3, fun o => by rw [World.frozen?_setCell]; exact h.z o, by simpa using h.lt, hk, h.top⟩
theorem Rdq.set2 {w : World} {p : Nat} {S : Bs} {k : Nat} {op e : Int} (h : Rdq w p S k op e) (op' : Int) : Rdq (w.setCell ⟨p, 2, none⟩ (.int .i64 op')) p S k op' e :=
  ⟨(World.cell?_setCell_other _ _ _ _ (by simp)).trans h.c0, (World.cell?_setCell_other _ _ _ _ (by simp)).trans h.c1, World.cell?_setCell_same _ _ _ h.c2, (World.cell?_setCell_other _ _ _ _ (by simp)).trans h.c3, fun o => by rw [World.frozen?_setCell]; exact h.z o, by simpa using h.lt, h.le, h.top⟩
theorem Rdq.set3 {w : World} {p : Nat} {S : Bs} {k : Nat} {op e : Int} (h : Rdq w p S k op e) (e' : Int) : Rdq (w.setCell ⟨p, 3, none⟩ (.int .i64 e')) p S k op e' :=
  ⟨(World.cell?_setCell_other _ _ _ _ (by simp)).trans h.c0, (World.cell?_setCell_other _ _ _ _ (by simp)).trans h.c1, (World.cell?_setCell_other _ _ _ _ (by simp)).trans h.c2, World.cell?_setCell_same _ _ _ h.c3, fun o => by rw [World.frozen?_setCell]; exact h.z o, by simpa using h.lt, h.le, h.top⟩

/-- The Reader over a text: what is left tu read, or what is wrong; then it stands anywhere. -/
structure RQ (w : World) (p : Nat) (S : Bs) (k : Nat) (op : Int) (s : Rs) : Prop where
  rdr : Rdq w p S k op s.no
  ok : ∀ r, s = .ok r → r = S.drop k
  ne : ∀ e, s = .error e → e ≠ 0
theorem RQ.later {w w' : World} {p : Nat} {S : Bs} {k : Nat} {op : Int} {s : Rs} (h : RQ w p S k op s) (hb : Below w.heap.size w w') : RQ w' p S k op s := ⟨h.rdr.later hb, h.ok, h.ne⟩
theorem RQ.lt {w : World} {p : Nat} {S : Bs} {k : Nat} {op : Int} {s : Rs} (h : RQ w p S k op s) : p < w.heap.size := h.rdr.lt
theorem RQ.off {w w' : World} {p : Nat} {S : Bs} {k : Nat} {op : Int} {s : Rs} (h : RQ w p S k op s) (hb : Below w.heap.size w w') : RQ w' p S k op s := h.later hb
theorem RQ.len {w : World} {p : Nat} {S : Bs} {k : Nat} {op : Int} {r : Bs} (h : RQ w p S k op (.ok r)) : r.length = S.length - k := by rw [h.ok r rfl]; simp
theorem bsq_size (r : Bs) : (bs r).size = r.length := by simp [bs, ByteArray.size]
theorem bsq_slice (S : Bs) (k n : Nat) (h : k + n ≤ S.length) : (bs S).extract k (k + n) = bs ((S.drop k).take n) := by
  rw [Lib.extract_eq]
  congr 2
  simp only [bs]
  rw [show k + n - k = n by omega]
theorem qrun_cut (S : Bs) (i n : Nat) (h : i + n ≤ S.length) (w : World) : (Instr.slice 9 (.string (bs S)) (some (.int .i64 (i : Int))) (some (.int .i64 ((i : Int) + (n : Int)))) none).run Tryz.prog w = .ok (.string (bs ((S.drop i).take n))) w := by
  rw [run_slice_string (h := Tryz.underlying9) (h0 := by omega) (h1 := by omega) (h2 := by rw [bsq_size]; omega), ← bsq_slice S i n h]
  rfl
theorem take_pref (q r : Bs) (h : q.length ≤ r.length) : (r.take q.length == q) = q.isPrefixOf r := by
  rw [Bool.eq_iff_iff, beq_iff_eq, List.isPrefixOf_iff_prefix]
  constructor
  · intro e; rw [← e]; exact List.take_prefix _ _
  · rintro ⟨t, rfl⟩; simp

set_option maxRecDepth 100000 in
set_option maxHeartbeats 400000 in
theorem qfail_any (w : World) (p : Nat) (S : Bs) (k : Nat) (op : Int) (s : Rs) (x : Int) (hx : x ≠ 0) (h : RQ w p S k op s) :
    Calls Tryz.prog 27 #[.pointer (some ⟨p, 0, none⟩), .int .i64 x] w fun en w' => en = .returned (.tuple #[]) ∧ RQ w' p S k op (failS s x) ∧ Off p w w' := by
  have c3 := h.rdr.c3
  have z3 := h.rdr.z 3
  cases s with
  | ok r =>
    simp only [Rs.no] at c3
    have H := Lib.hid h; clear h
    go_enter Tryz.func27, Tryz.ntmps27
    go_wp2_with fail
    go_end0
    exact ⟨rfl, ⟨H.out.rdr.set3 x, (fun r he => by cases he), fun e he => by cases he; exact hx⟩, (Off.refl p w).set _ _⟩
  | error e =>
    have hne := h.ne e rfl
    simp only [Rs.no] at c3
    have hb : (e == 0) = false := by rw [beq_eq_false_iff_ne]; exact hne
    have H := Lib.hid h; clear h hne
    go_enter Tryz.func27, Tryz.ntmps27
    go_wp2_with fail
    go_end0
    exact ⟨rfl, H.out, Off.refl p w⟩
theorem belowQ (w : World) (n : Nat) : Below w.heap.size w (w.drewN n) := ⟨rfl, rfl, rfl, Nat.le_refl _, fun _ _ => rfl⟩
theorem RQ.drewN {w : World} {p : Nat} {S : Bs} {k : Nat} {op : Int} {s : Rs} (h : RQ w p S k op s) (n : Nat) : RQ (w.drewN n) p S k op s := h.later (belowQ w n)
theorem offQ (p : Nat) (w : World) (n : Nat) : Off p w (w.drewN n) := Off.of_below (belowQ w n)
set_option maxRecDepth 100000 in
set_option maxHeartbeats 1000000 in
theorem is_any (w : World) (p : Nat) (S : Bs) (k : Nat) (op : Int) (s : Rs) (q : Bs) (hq : q.length ≤ 100) (h : RQ w p S k op s) :
    Calls Tryz.prog 56 #[.pointer (some ⟨p, 0, none⟩), .string (bs q)] w fun en w' => en = .returned (.bool (takeS q s).1) ∧ ∃ m, w' = w.drewN m := by
  obtain ⟨c0, c1, c2, c3, z, lt, le, top⟩ := h.rdr
  have sq := bsq_size q
  have sS := bsq_size S
  cases s with
  | error e =>
    have hne := h.ne e rfl
    simp only [Rs.no] at c3
    have hb : (e == 0) = false := by rw [beq_eq_false_iff_ne]; exact hne
    have HT := Lib.hid (show (takeS q (.error e)).1 = false from rfl)
    clear h hne z
    go_enter Tryz.func56, Tryz.ntmps56
    go_wp2_with fail
    go_quiet (fail)
    go_wp2_with fail
    go_ret
    exact ⟨by rw [HT.out]; rfl, _, rfl⟩
  | ok r =>
    simp only [Rs.no] at c3
    have hr := h.ok r rfl
    have hrl := h.len
    have Hr := Lib.hid hr
    clear h z hr
    by_cases hlt : k + q.length ≤ S.length
    · have he := fun w => qrun_cut S k q.length hlt w
      have hp : ((S.drop k).take q.length == q) = (takeS q (.ok r)).1 := by
        rw [take_pref _ _ (by simp; omega), takeS_ok, Hr.out]
      have HP := Lib.hid hp
      have hle : (k : Int) + (q.length : Int) ≤ (S.length : Int) := by omega
      clear hp Hr hlt
      go_enter Tryz.func56, Tryz.ntmps56
      go_wp2_with fail
      go_quiet (fail)
      go_wp2_with fail
      go_ret
      exact ⟨by rw [← HP.out]; rfl, _, rfl⟩
    · have hp : (takeS q (.ok r)).1 = false := by
        rw [takeS_ok]
        show q.isPrefixOf r = false
        rw [← Bool.not_eq_true]
        intro hh
        have := pref_len hh
        omega
      have HP := Lib.hid hp
      have hle : decide ((k : Int) + (q.length : Int) ≤ (S.length : Int)) = false := by rw [decide_eq_false_iff_not]; omega
      clear hp Hr hlt
      go_enter Tryz.func56, Tryz.ntmps56
      go_wp2_with fail
      go_quiet (fail)
      go_wp2_with fail
      go_ret
      exact ⟨by rw [HP.out]; rfl, _, rfl⟩
set_option maxRecDepth 100000 in
set_option maxHeartbeats 1000000 in
theorem qtake_any (w : World) (p : Nat) (S : Bs) (k : Nat) (op : Int) (s : Rs) (q : Bs) (hq : q.length ≤ 100) (h : RQ w p S k op s) :
    Calls Tryz.prog 42 #[.pointer (some ⟨p, 0, none⟩), .string (bs q)] w fun en w' => en = .returned (.bool (takeS q s).1) ∧ (∃ k', RQ w' p S k' op (takeS q s).2) ∧ Off p w w' := by
  have sq := bsq_size q
  have H := Lib.hid h
  have Ci := Lib.hid (is_any w p S k op s q hq h)
  clear h
  cases hi : (takeS q s).1 with
  | false =>
    have ht : (takeS q s).2 = s := by
      cases s with
      | error e => rfl
      | ok r =>
        rw [takeS_ok] at hi ⊢
        simp only at hi
        unfold cutR
        rw [hi]; rfl
    have HT := Lib.hid ht
    have HI := Lib.hid hi
    clear ht hi
    go_enter Tryz.func42, Tryz.ntmps42
    go_wp2_with fail
    refine Ci.out.mono ?_
    rintro en w1 ⟨rfl, m, rfl⟩
    rw [HI.out]
    go_wp2_with fail
    go_ret
    exact ⟨rfl, ⟨k, by rw [HT.out]; exact H.out.drewN m⟩, offQ p w m⟩
  | true =>
    cases s with
    | error e => cases hi
    | ok r =>
      have hs := hi
      rw [takeS_ok] at hs
      simp only at hs
      have hlen := pref_len hs
      have hr := H.out.len
      have ht : (takeS q (.ok r)).2 = .ok (r.drop q.length) := by
        rw [takeS_ok]
        show Except.ok (cutR q r) = _
        unfold cutR
        rw [if_pos hs]
      have HT := Lib.hid ht
      have HI := Lib.hid hi
      clear ht hi hs
      go_enter Tryz.func42, Tryz.ntmps42
      go_wp2_with fail
      refine Ci.out.mono ?_
      rintro en w1 ⟨rfl, m, rfl⟩
      rw [HI.out]
      have hR := H.out.drewN m
      have c1 := hR.rdr.c1
      have z1 := hR.rdr.z 1
      have hkb : k ≤ 1024 := Nat.le_trans hR.rdr.le hR.rdr.top
      have HR := Lib.hid hR
      have HO := Lib.hid (offQ p w m)
      generalize w.drewN m = w1 at *
      clear hR
      go_wp2_with fail
      go_ret
      refine ⟨rfl, ⟨k + q.length, ?_⟩, HO.out.set _ _⟩
      rw [HT.out]
      have := HR.out.rdr.set1 (k' := k + q.length) (by have := HR.out.rdr.le; omega)
      refine ⟨?_, fun r' he => ?_, fun e he => by cases he⟩
      · rw [show ((k + q.length : Nat) : Int) = (k : Int) + q.length by omega] at this
        exact this
      · cases he
        rw [HR.out.ok r rfl, List.drop_drop]
/-- Is nothing left, or something wrong? -/
def doneS (s : Rs) : Bool := match s with
  | .ok [] => true
  | .ok (_ :: _) => false
  | .error _ => true
set_option maxRecDepth 100000 in
set_option maxHeartbeats 1000000 in
theorem done_any (w : World) (p : Nat) (S : Bs) (k : Nat) (op : Int) (s : Rs) (h : RQ w p S k op s) :
    Calls Tryz.prog 26 #[.pointer (some ⟨p, 0, none⟩)] w fun en w' => en = .returned (.bool (doneS s)) ∧ ∃ m, w' = w.drewN m := by
  obtain ⟨c0, c1, c2, c3, z, lt, le, top⟩ := h.rdr
  have sS := bsq_size S
  clear z
  rcases s with e | (_ | ⟨c, t⟩)
  · have hne := h.ne e rfl
    simp only [Rs.no] at c3
    have hb : (e != 0) = true := by rw [bne_iff_ne]; exact hne
    clear h
    go_enter Tryz.func26, Tryz.ntmps26
    go_wp2_with fail
    go_quiet (fail)
    go_wp2_with fail
    go_ret
    exact ⟨rfl, _, rfl⟩
  · have hl := h.len
    simp only [Rs.no] at c3
    simp only [List.length_nil] at hl
    have hle : (S.length : Int) ≤ (k : Int) := by omega
    clear h hl
    go_enter Tryz.func26, Tryz.ntmps26
    go_wp2_with fail
    go_quiet (fail)
    go_wp2_with fail
    go_ret
    exact ⟨rfl, _, rfl⟩
  · have hl := h.len
    simp only [Rs.no] at c3
    simp only [List.length_cons] at hl
    have Hge := Lib.hid (show ¬ S.length ≤ k by omega)
    have hle : decide ((S.length : Int) ≤ (k : Int)) = false := by rw [decide_eq_false_iff_not]; omega
    clear h hl
    go_enter Tryz.func26, Tryz.ntmps26
    go_wp2_with fail
    go_quiet (fail)
    go_wp2_with fail
    go_ret
    exact ⟨congrArg (fun b => Ending.returned (.bool b)) (decide_eq_false Hge.out), _, rfl⟩
/-- The same two, the world behind them a name. -/
theorem is_q {w : World} {p : Nat} {S : Bs} {k : Nat} {op : Int} {s : Rs} (q : Bs) (hq : q.length ≤ 100) (h : RQ w p S k op s) :
    Calls Tryz.prog 56 #[.pointer (some ⟨p, 0, none⟩), .string (bs q)] w fun en w' => en = .returned (.bool (takeS q s).1) ∧ RQ w' p S k op s ∧ Off p w w' := by
  refine (is_any w p S k op s q hq h).mono ?_
  rintro en w' ⟨rfl, m, rfl⟩
  exact ⟨rfl, h.drewN m, offQ p w m⟩
theorem done_q {w : World} {p : Nat} {S : Bs} {k : Nat} {op : Int} {s : Rs} (h : RQ w p S k op s) :
    Calls Tryz.prog 26 #[.pointer (some ⟨p, 0, none⟩)] w fun en w' => en = .returned (.bool (doneS s)) ∧ RQ w' p S k op s ∧ Off p w w' := by
  refine (done_any w p S k op s h).mono ?_
  rintro en w' ⟨rfl, m, rfl⟩
  exact ⟨rfl, h.drewN m, offQ p w m⟩
theorem Off.drew {p : Nat} {w w' : World} (h : Off p w w') : Off p w w'.drew := h.trans (Off.of_below (Below.refl _ _).drew)
theorem RQ.drew {w : World} {p : Nat} {S : Bs} {k : Nat} {op : Int} {s : Rs} (h : RQ w p S k op s) : RQ w.drew p S k op s := h.later (Below.refl _ _).drew
end Go.Proofs.YteekafkpeimhoaaGreat

/- vouchref10's Reader: single, member: walked. -/
set_option linter.unusedVariables false
set_option linter.unusedSimpArgs false
namespace Go.Proofs.YteekafkpeimhoaaGreat
open Go.RowKit

theorem bsq_cat (a b : Bs) : bs a ++ bs b = bs (a ++ b) := by
  apply ByteArray.ext
  simp [bs]
theorem done_n {w : World} {p : Nat} {S : Bs} {k : Nat} {op : Int} {s : Rs} (b : Bool) (hb : doneS s = b) (h : RQ w p S k op s) (n : Nat) :
    Calls Tryz.prog 26 #[.pointer (some ⟨p, 0, none⟩)] (w.drewN n) fun en w' => en = .returned (.bool b) ∧ ∃ m, w' = (w.drewN n).drewN m := by
  subst hb
  exact done_any (w.drewN n) p S k op s (h.drewN n)
/-- What a step hands back that reads a byte. -/
def QByte (p : Nat) (S : Bs) (op : Int) (f : Bs → Except Int (Nat × Bs)) (r : Bs) (w : World) (en : Ending) (w' : World) : Prop :=
  ∃ (c : Nat) (k' : Nat) (s' : Rs), c < 256 ∧ en = .returned (.int .u8 (c : Nat)) ∧ RQ w' p S k' op s' ∧ Off p w w' ∧ Out f (.ok r) (fun x => c = x) s'
theorem single_short {g : UInt8} {r : Bs} (h : r.length < 3) : singleP g r = .error 101 := by
  unfold singleP
  match r, h with
  | [], _ => rfl
  | [c], _ => simp [takeP, List.isPrefixOf]
  | [c, d], _ => simp [takeP, List.isPrefixOf]
theorem single_three {g c d e : UInt8} {t : Bs} : singleP g (c :: d :: e :: t) = if d = g ∧ e = 93 then .ok (c.toNat, t) else .error 101 := by
  unfold singleP
  simp only [takeP, List.isPrefixOf, Bool.and_true]
  by_cases h1 : d = g
  · by_cases h2 : e = 93
    · subst h1 h2; simp
    · rw [if_neg (by simp [h1]; exact fun h => h2 h.symm)]
      rw [if_neg (fun h => h2 h.2)]
  · rw [if_neg (by simp; intro h; exact absurd h.symm h1), if_neg (fun h => h1 h.1)]
theorem RQ.at_ {w : World} {p : Nat} {S : Bs} {k : Nat} {op : Int} {c : UInt8} {t : Bs} (h : RQ w p S k op (.ok (c :: t))) : k < S.length ∧ ∀ hh, S[k]'hh = c := by
  have hl := h.len
  have hr := h.ok _ rfl
  simp only [List.length_cons] at hl
  have hk : k < S.length := by omega
  refine ⟨hk, fun hh => ?_⟩
  rw [List.drop_eq_getElem_cons hk] at hr
  simp only [List.cons.injEq] at hr
  exact hr.1.symm
theorem RQ.step {w : World} {p : Nat} {S : Bs} {k : Nat} {op : Int} {r : Bs} (h : RQ w p S k op (.ok r)) (n : Nat) (hn : n ≤ r.length) : RQ (w.setCell ⟨p, 1, none⟩ (.int .i64 ((k : Int) + (n : Int)))) p S (k + n) op (.ok (r.drop n)) := by
  have hl := h.len
  have := h.rdr.set1 (k' := k + n) (by have := h.rdr.le; omega)
  refine ⟨?_, fun r' he => ?_, fun e he => by cases he⟩
  · rw [show ((k + n : Nat) : Int) = (k : Int) + n by omega] at this
    exact this
  · cases he
    rw [h.ok r rfl, List.drop_drop]
set_option maxRecDepth 100000 in
set_option maxHeartbeats 2000000 in
theorem qsingle_any (w : World) (p : Nat) (S : Bs) (k : Nat) (op : Int) (a b : UInt8) (r : Bs) (g : UInt8) (h : RQ w p S k op (.ok (a :: b :: r))) :
    Calls Tryz.prog 91 #[.pointer (some ⟨p, 0, none⟩), .string (bs [g])] w fun en w' => QByte p S op (singleP g) r w en w' := by
  obtain ⟨c0, c1, c2, c3, z, lt, le, top⟩ := h.rdr
  have z1 := z 1
  have sS := bsq_size S
  have hl := h.len
  simp only [List.length_cons] at hl
  have hkb : k ≤ 1000 + 24 := by omega
  have hst := h.step 2 (by simp)
  simp only [List.drop_succ_cons, List.drop_zero] at hst
  have HST := Lib.hid hst
  have cc : bs [g] ++ bs [93] = bs [g, 93] := bsq_cat _ _
  have Hl := Lib.hid hl
  clear h z hst hl
  go_enter Tryz.func91, Tryz.ntmps91
  go_upto_region 2 with fail
  generalize hW : w.setCell ⟨p, 1, none⟩ _ = W1
  have hr1 : RQ W1 p S (k + 2) op (.ok r) := by subst hW; exact HST.out
  have hO1 : Off p w W1 := by subst hW; exact (Off.refl p w).set _ _
  clear hW HST c0 c1 c2 c3 z1
  have hk2 : ∃ k2, RQ W1 p S k2 op (.ok r) := ⟨_, hr1⟩
  clear hr1 Hl hkb le
  obtain ⟨k2, hr1⟩ := hk2
  obtain ⟨c0, c1, c2, c3, z, lt1, le1, top1⟩ := hr1.rdr
  have hlen1 := hr1.len
  have HR1 := Lib.hid hr1; have HO1 := Lib.hid hO1
  have hkb2 : k2 ≤ 1024 := by omega
  clear z hr1 hO1
  by_cases hs : r.length < 3
  · have Hs := Lib.hid (single_short (g := g) hs)
    have hgt : (S.length : Int) < (k2 : Int) + 3 := by have := hlen1; have := HR1.out.rdr.le; omega
    clear hs hlen1
    go_quiet (fail)
    go_wp2_with fail
    refine (qfail_any _ p S k2 op (.ok r) 101 (by omega) (HR1.out.drewN _)).mono ?_
    rintro en w3 ⟨rfl, h3, hO3⟩
    go_wp2_with fail
    go_ret
    exact ⟨0, k2, _, by omega, rfl, h3, (HO1.out.trans (offQ p _ _)).trans hO3, Out.bad Hs.out⟩
  · obtain ⟨c, d, e, t, rfl⟩ : ∃ c d e t, r = c :: d :: e :: t := by
      match r, hs with
      | c :: d :: e :: t, _ => exact ⟨c, d, e, t, rfl⟩
      | [], h => simp at h
      | [_], h => simp at h
      | [_, _], h => simp at h
    simp only [List.length_cons] at hlen1
    have hgt : decide ((S.length : Int) < (k2 : Int) + 3) = false := by rw [decide_eq_false_iff_not]; omega
    have hcut := fun w => qrun_cut S (k2 + 1) 2 (by omega) w
    have hdr : (S.drop (k2 + 1)).take 2 = [d, e] := by
      have h0 := HR1.out.ok _ rfl
      rw [← List.drop_drop, ← h0]; rfl
    rw [hdr] at hcut
    have hcut' : ∀ w, (Instr.slice 9 (.string (bs S)) (some (.int .i64 ((k2 : Int) + 1))) (some (.int .i64 ((k2 : Int) + 3))) none).run Tryz.prog w = .ok (.string (bs [d, e])) w := fun w => by
      have := hcut w
      rw [show ((k2 + 1 : Nat) : Int) + ((2 : Nat) : Int) = (k2 : Int) + 3 by omega, show ((k2 + 1 : Nat) : Int) = (k2 : Int) + 1 by omega] at this
      exact this
    clear hcut hdr hs
    have hat := HR1.out.at_
    have hkS := hat.1
    have Hlen1 := Lib.hid hlen1
    clear hlen1
    have H3 := Lib.hid (single_three (g := g) (c := c) (d := d) (e := e) (t := t))
    have hcl := c.toNat_lt
    by_cases hde : d = g ∧ e = 93
    · obtain ⟨rfl, rfl⟩ := hde
      have Hs := Lib.hid (show singleP d (c :: d :: 93 :: t) = .ok (c.toNat, t) by rw [H3.out, if_pos ⟨rfl, rfl⟩])
      have hne : (([d, 93] : Bs) != [d, 93]) = false := by simp
      have hix := hat.2
      have hkI : (k2 : Int) < (S.length : Int) := by omega
      clear H3 hat
      go_quiet (fail)
      go_wp2_with fail
      have hq := HR1.out.drewN nq
      have HO2 := Lib.hid (HO1.out.trans (offQ p W1 nq))
      generalize W1.drewN nq = Wa at *
      have HRa := Lib.hid hq
      have b0 := hq.rdr.c0
      have b1 := hq.rdr.c1
      clear hq c0 c1 c2 c3 hcut' HO1
      go_quiet (fail)
      have hq := HRa.out.drewN nq
      have HO3 := Lib.hid (HO2.out.trans (offQ p Wa nq))
      generalize Wa.drewN nq = Wb at *
      have HRb := Lib.hid hq
      have c1 := hq.rdr.c1
      have z1 := hq.rdr.z 1
      clear hq b0 b1 HO2 HRa
      go_wp2_with fail
      go_ret
      have hst := HRb.out.step 3 (by simp)
      refine ⟨c.toNat, k2 + 3, _, hcl, by rw [← hix hkS]; rfl, hst, HO3.out.set _ _, Out.good Hs.out rfl⟩
    · have Hs := Lib.hid (show singleP g (c :: d :: e :: t) = .error 101 by rw [H3.out, if_neg hde])
      have hne : (([d, e] : Bs) != [g, 93]) = true := by
        rw [bne_iff_ne]; intro h; simp at h; exact hde h
      have hne2 : ((!d == g) || (!e == 93)) = true := by
        rw [Bool.or_eq_true, Bool.not_eq_true', Bool.not_eq_true', beq_eq_false_iff_ne, beq_eq_false_iff_ne]
        by_cases h : d = g
        · exact .inr (fun h2 => hde ⟨h, h2⟩)
        · exact .inl h
      clear H3 hat hde
      go_quiet (fail)
      go_wp2_with fail
      refine (qfail_any _ p S k2 op (.ok (c :: d :: e :: t)) 101 (by omega) (HR1.out.drewN _)).mono ?_
      rintro en w3 ⟨rfl, h3, hO3⟩
      go_wp2_with fail
      go_ret
      exact ⟨0, k2, _, by omega, rfl, h3, (HO1.out.trans (offQ p _ _)).trans hO3, Out.bad Hs.out⟩
/-- A member; the second one of a range is no class, no [=. -/
def memberQ (sec : Bool) (r : Bs) : Except Int (Nat × Bs) := if (sec && ((takeS [91, 58] (.ok r)).1 || (takeS [91, 61] (.ok r)).1)) = true then .error 101 else memberP r
theorem takeS_some {q r r' : Bs} (h : takeP q r = some r') : takeS q (.ok r) = (true, .ok r') := by simp only [takeS, h]
theorem takeS_none {q r : Bs} (h : takeP q r = none) : takeS q (.ok r) = (false, .ok r) := by simp only [takeS, h]
theorem pref_two {a b : UInt8} {r r' : Bs} (h : takeP [a, b] r = some r') : r = a :: b :: r' := by
  unfold takeP at h
  split at h
  · rename_i hp
    simp only [Option.some.injEq] at h
    subst h
    obtain ⟨t, ht⟩ := List.isPrefixOf_iff_prefix.1 hp
    subst ht
    rfl
  · cases h
set_option maxRecDepth 100000 in
set_option maxHeartbeats 4000000 in
theorem qmember_any (w : World) (p : Nat) (S : Bs) (k : Nat) (op : Int) (r : Bs) (sec : Bool) (h : RQ w p S k op (.ok r)) :
    Calls Tryz.prog 92 #[.pointer (some ⟨p, 0, none⟩), .bool sec] w fun en w' => QByte p S op (memberQ sec) r w en w' := by
  have H := Lib.hid h
  have Hd := Lib.hid (done_q h)
  clear h
  cases r with
  | nil =>
    have hs : memberQ sec [] = .error 101 := by unfold memberQ; split <;> rfl
    have Hs := Lib.hid hs
    clear hs
    go_enter Tryz.func92, Tryz.ntmps92
    go_wp2_with fail
    refine Hd.out.mono ?_
    rintro en w1 ⟨rfl, h1, hO1⟩
    rw [show doneS (.ok []) = true from rfl]
    go_wp2_with fail
    refine (qfail_any _ p S k op (.ok []) 101 (by omega) h1).mono ?_
    rintro en wz ⟨rfl, hz, hOz⟩
    go_wp2_with fail
    go_ret
    exact ⟨0, k, _, by omega, rfl, hz, hO1.trans hOz, Out.bad Hs.out⟩
  | cons c t =>
    have hc := c.toNat_lt
    have Hi := Lib.hid (fun w (h : RQ w p S k op (.ok (c :: t))) => is_q [91, 46] (by simp) h)
    have Hj := Lib.hid (fun w (h : RQ w p S k op (.ok (c :: t))) => is_q [91, 58] (by simp) h)
    have Hk := Lib.hid (fun w (h : RQ w p S k op (.ok (c :: t))) => is_q [91, 61] (by simp) h)
    cases ht : takeP [91, 46] (c :: t) with
    | some r1 =>
      have e := pref_two ht
      simp only [List.cons.injEq] at e
      obtain ⟨rfl, rfl⟩ := e
      have hs : memberQ sec (91 :: 46 :: r1) = singleP 46 r1 := by
        unfold memberQ
        rw [if_neg (by simp [takeS, takeP, List.isPrefixOf])]
        simp only [memberP, ht]
      have Hs := Lib.hid hs
      have HT := Lib.hid (congrArg Prod.fst (takeS_some ht))
      clear hs ht Hj Hk
      go_enter Tryz.func92, Tryz.ntmps92
      go_wp2_with fail
      refine Hd.out.mono ?_
      rintro en w1 ⟨rfl, h1, hO1⟩
      rw [show doneS (.ok (91 :: 46 :: r1)) = false from rfl]
      go_wp2_with fail
      refine (Hi.out _ h1).mono ?_
      rintro en w2 ⟨rfl, h2, hO2⟩
      rw [HT.out]
      go_wp2_with fail
      refine (qsingle_any _ p S k op 91 46 r1 46 h2).mono ?_
      rintro en wz ⟨c3, k3, s3, hc3, rfl, hz, hOz, ho3⟩
      have Ho := Lib.hid ho3
      clear ho3
      go_wp2_with fail
      go_ret
      exact ⟨c3, k3, s3, hc3, rfl, hz, (hO1.trans hO2).trans hOz, by have := Ho.out; simp only [Out] at this ⊢; rw [Hs.out]; exact this⟩
    | none =>
      have HT := Lib.hid (congrArg Prod.fst (takeS_none ht))
      have hmem : memberP (c :: t) = .ok (c.toNat, t) := by simp only [memberP, ht]
      have Hmem := Lib.hid hmem
      clear ht hmem
      cases hsec : (sec && ((takeS [91, 58] (.ok (c :: t))).1 || (takeS [91, 61] (.ok (c :: t))).1)) with
      | true =>
        have Hs := Lib.hid (show memberQ sec (c :: t) = .error 101 by unfold memberQ; rw [if_pos hsec])
        cases sec with
        | false => cases hsec
        | true =>
        rw [Bool.true_and] at hsec
        cases h58 : (takeS [91, 58] (.ok (c :: t))).1 with
        | true =>
          have H58 := Lib.hid h58
          clear hsec h58
          go_enter Tryz.func92, Tryz.ntmps92
          go_wp2_with fail
          refine Hd.out.mono ?_
          rintro en w1 ⟨rfl, h1, hO1⟩
          rw [show doneS (.ok (c :: t)) = false from rfl]
          go_wp2_with fail
          refine (Hi.out _ h1).mono ?_
          rintro en w2 ⟨rfl, h2, hO2⟩
          rw [HT.out]
          go_wp2_with fail
          refine (Hj.out _ h2).mono ?_
          rintro en w3 ⟨rfl, h3, hO3⟩
          rw [H58.out]
          go_wp2_with fail
          refine (qfail_any _ p S k op (.ok (c :: t)) 101 (by omega) h3).mono ?_
          rintro en wz ⟨rfl, hz, hOz⟩
          go_wp2_with fail
          go_ret
          exact ⟨0, k, _, by omega, rfl, hz, ((hO1.trans hO2).trans hO3).trans hOz, Out.bad Hs.out⟩
        | false =>
          rw [h58, Bool.false_or] at hsec
          have H58 := Lib.hid h58
          have H61 := Lib.hid hsec
          clear hsec h58
          go_enter Tryz.func92, Tryz.ntmps92
          go_wp2_with fail
          refine Hd.out.mono ?_
          rintro en w1 ⟨rfl, h1, hO1⟩
          rw [show doneS (.ok (c :: t)) = false from rfl]
          go_wp2_with fail
          refine (Hi.out _ h1).mono ?_
          rintro en w2 ⟨rfl, h2, hO2⟩
          rw [HT.out]
          go_wp2_with fail
          refine (Hj.out _ h2).mono ?_
          rintro en w3 ⟨rfl, h3, hO3⟩
          rw [H58.out]
          go_wp2_with fail
          refine (Hk.out _ h3).mono ?_
          rintro en w4 ⟨rfl, h4, hO4⟩
          rw [H61.out]
          go_wp2_with fail
          refine (qfail_any _ p S k op (.ok (c :: t)) 101 (by omega) h4).mono ?_
          rintro en wz ⟨rfl, hz, hOz⟩
          go_wp2_with fail
          go_ret
          exact ⟨0, k, _, by omega, rfl, hz, (((hO1.trans hO2).trans hO3).trans hO4).trans hOz, Out.bad Hs.out⟩
      | false =>
        have Hs := Lib.hid (show memberQ sec (c :: t) = .ok (c.toNat, t) by unfold memberQ; rw [if_neg (by rw [hsec]; simp), Hmem.out])
        have Hsec := Lib.hid hsec
        clear hsec
        have last : ∀ (W : World), RQ W p S k op (.ok (c :: t)) → RQ W p S k op (.ok (c :: t)) ∧ W.cell? ⟨p, 0, none⟩ = some (.string (bs S)) ∧ W.cell? ⟨p, 1, none⟩ = some (.int .i64 k) ∧ W.frozen? ⟨p, 1, none⟩ = false := fun W hW => ⟨hW, hW.rdr.c0, hW.rdr.c1, hW.rdr.z 1⟩
        have Last := Lib.hid last
        clear last
        have hat := H.out.at_
        have hkS := hat.1
        have hix := hat.2
        have hkI : (k : Int) < (S.length : Int) := by omega
        have sS := bsq_size S
        have hkb : k ≤ 1024 := Nat.le_trans H.out.rdr.le H.out.rdr.top
        clear hat
        cases sec with
        | false =>
          go_enter Tryz.func92, Tryz.ntmps92
          go_wp2_with fail
          refine Hd.out.mono ?_
          rintro en w1 ⟨rfl, h1, hO1⟩
          rw [show doneS (.ok (c :: t)) = false from rfl]
          go_wp2_with fail
          refine (Hi.out _ h1).mono ?_
          rintro en w2 ⟨rfl, h2, hO2⟩
          rw [HT.out]
          obtain ⟨hR, c0, c1, z1⟩ := Last.out _ h2
          have HR := Lib.hid hR
          have HO := Lib.hid (hO1.trans hO2)
          clear hR h1 h2 hO1 hO2
          go_upto_region 9 with fail
          go_quiet (fail)
          have hq := HR.out.drewN nq
          have HO3 := Lib.hid (HO.out.trans (offQ p w2 nq))
          generalize w2.drewN nq = Wb at *
          have HRb := Lib.hid hq
          have b1 := hq.rdr.c1
          have bz := hq.rdr.z 1
          clear hq c0 c1 z1 HO HR
          go_wp2_with fail
          go_ret
          have hst := HRb.out.step 1 (by simp)
          exact ⟨c.toNat, k + 1, _, hc, by rw [← hix hkS]; rfl, hst, HO3.out.set _ _, Out.good Hs.out rfl⟩
        | true =>
          have hs2 := Hsec.out
          rw [Bool.true_and, Bool.or_eq_false_iff] at hs2
          have H58 := Lib.hid hs2.1
          have H61 := Lib.hid hs2.2
          clear hs2 Hsec
          go_enter Tryz.func92, Tryz.ntmps92
          go_wp2_with fail
          refine Hd.out.mono ?_
          rintro en w1 ⟨rfl, h1, hO1⟩
          rw [show doneS (.ok (c :: t)) = false from rfl]
          go_wp2_with fail
          refine (Hi.out _ h1).mono ?_
          rintro en w2 ⟨rfl, h2, hO2⟩
          rw [HT.out]
          go_wp2_with fail
          refine (Hj.out _ h2).mono ?_
          rintro en w3 ⟨rfl, h3, hO3⟩
          rw [H58.out]
          go_wp2_with fail
          refine (Hk.out _ h3).mono ?_
          rintro en w4 ⟨rfl, h4, hO4⟩
          rw [H61.out]
          obtain ⟨hR, c0, c1, z1⟩ := Last.out _ h4
          have HR := Lib.hid hR
          have HO := Lib.hid (((hO1.trans hO2).trans hO3).trans hO4)
          clear hR h1 h2 h3 h4 hO1 hO2 hO3 hO4
          go_upto_region 9 with fail
          go_quiet (fail)
          have hq := HR.out.drewN nq
          have HO3 := Lib.hid (HO.out.trans (offQ p w4 nq))
          generalize w4.drewN nq = Wb at *
          have HRb := Lib.hid hq
          have b1 := hq.rdr.c1
          have bz := hq.rdr.z 1
          clear hq c0 c1 z1 HO HR
          go_wp2_with fail
          go_ret
          have hst := HRb.out.step 1 (by simp)
          exact ⟨c.toNat, k + 1, _, hc, by rw [← hix hkS]; rfl, hst, HO3.out.set _ _, Out.good Hs.out rfl⟩

end Go.Proofs.YteekafkpeimhoaaGreat

/- vouchref10's Reader: digits, interval: walked. -/
set_option linter.unusedVariables false
set_option linter.unusedSimpArgs false
namespace Go.Proofs.YteekafkpeimhoaaGreat
open Go.RowKit

/-- What digits hands back. -/
def QDig (p : Nat) (S : Bs) (op : Int) (s : Rs) (w : World) (en : Ending) (w' : World) : Prop :=
  ∃ (n : Int) (k' : Nat) (s' : Rs), en = .returned (.int .i64 n) ∧ RQ w' p S k' op s' ∧ Off p w w' ∧
    match s with
    | .error e => n = -1 ∧ s' = .error e
    | .ok r => (∃ m r', numberP r = .ok (m, r') ∧ n = m ∧ 0 ≤ m ∧ m ≤ 255 ∧ s' = .ok r') ∨ (numberP r = .error 105 ∧ n = -1 ∧ ∃ r', s' = .ok r' ∧ r'.length ≤ r.length)
set_option maxRecDepth 100000 in
set_option maxHeartbeats 4000000 in
theorem qdigits_err (w : World) (p : Nat) (S : Bs) (k : Nat) (op : Int) (e : Int) (h : RQ w p S k op (.error e)) :
    Calls Tryz.prog 81 #[.pointer (some ⟨p, 0, none⟩)] w fun en w' => QDig p S op (.error e) w en w' := by
  have c0 := h.rdr.c0
  have c1 := h.rdr.c1
  have hkb : k ≤ 1024 := Nat.le_trans h.rdr.le h.rdr.top
  have H := Lib.hid h
  clear h
  go_enter Tryz.func81, Tryz.ntmps81
  go_wp2_with fail
  go_loopg [3] 1 (fun n a wr => a = .int .i64 0 ∧ wr = w)
  case atStart => exact ⟨rfl, rfl⟩
  case round =>
    obtain ⟨rfl, rfl⟩ := hrel
    have Hdone := Lib.hid (done_n true rfl H.out)
    go_upto_region 3 with fail
    go_quiet (first | (go_at_call 26; refine Calls.quiet_of (Hdone.out _)))
    have hq := H.out.drewN nq
    have HOq := Lib.hid (offQ p wr nq)
    generalize wr.drewN nq = W1 at *
    have HQ := Lib.hid hq
    have d1 := hq.rdr.c1
    clear hq c0 c1 H Hdone
    go_wp2_with fail
    all_goals
      go_ret
      exact ⟨-1, k, _, rfl, HQ.out, HOq.out, rfl, rfl⟩
set_option maxRecDepth 100000 in
set_option maxHeartbeats 8000000 in
theorem qdigits_ok (w : World) (p : Nat) (S : Bs) (k0 : Nat) (op : Int) (r : Bs) (h : RQ w p S k0 op (.ok r)) :
    Calls Tryz.prog 81 #[.pointer (some ⟨p, 0, none⟩)] w fun en w' => QDig p S op (.ok r) w en w' := by
  have c1 := h.rdr.c1
  have sS := bsq_size S
  have hkb : k0 ≤ 1024 := Nat.le_trans h.rdr.le h.rdr.top
  have H := Lib.hid h
  clear h
  go_enter Tryz.func81, Tryz.ntmps81
  go_wp2_with fail
  go_loopg [3] 4 (fun k a wr => ∃ (n : Int) (wd kk : Nat) (r' : Bs), a = .int .i64 n ∧ k + wd = 4 ∧ kk = k0 + wd ∧ 0 ≤ n ∧ n ≤ lim10 wd ∧ digitsP k n wd r' = digitsP 4 0 0 r ∧ r'.length ≤ r.length ∧ RQ wr p S kk op (.ok r') ∧ Off p w wr)
  case atStart => exact ⟨0, 0, k0, r, rfl, rfl, rfl, by omega, by simp [lim10], rfl, Nat.le_refl _, H.out, Off.refl p w⟩
  case round =>
    obtain ⟨n, wd, kk, r', rfl, hk, hkk, hn0, hn1, hd, hlen, hR, hO⟩ := hrel
    have hn2 : n ≤ 9999 := by
      unfold lim10 at hn1
      split at hn1; omega; split at hn1; omega; split at hn1; omega; split at hn1; omega; omega
    have c0 := hR.rdr.c0
    have c1 := hR.rdr.c1
    have hkb2 : kk ≤ 1024 := Nat.le_trans hR.rdr.le hR.rdr.top
    have HR := Lib.hid hR; have Hd := Lib.hid hd; have Hn1 := Lib.hid hn1; have HO := Lib.hid hO; have Hlen := Lib.hid hlen; have Hkk := Lib.hid hkk
    clear hR hd hn1 hO hlen hkk H
    have done : gk = 0 ∨ r' = [] ∨ (∃ c t, r' = c :: t ∧ isDigit c = false) → digitsP 4 0 0 r = (n, wd, r') := fun hh => by
      rw [← Hd.out]
      rcases hh with rfl | rfl | ⟨c, t, rfl, hc⟩
      · rw [digitsP]
      · cases gk <;> rw [digitsP]
      · cases gk with
        | zero => rw [digitsP]
        | succ k => rw [digitsP, hc]; rfl
    have Done := Lib.hid done; clear done
    rcases r' with _ | ⟨c, t⟩
    · have Hdone := Lib.hid (done_n true rfl HR.out)
      go_upto_region 3 with fail
      go_quiet (first | (go_at_call 26; refine Calls.quiet_of (Hdone.out _)))
      have hq := HR.out.drewN nq
      have HOq := Lib.hid (HO.out.trans (offQ p wr nq))
      generalize wr.drewN nq = W1 at *
      have HQ := Lib.hid hq
      have d1 := hq.rdr.c1
      clear hq c0 c1 HR HO Hdone
      have Done := Lib.hid (Done.out (.inr (.inl rfl)))
      by_cases bad : wd = 0 ∨ 3 < wd ∨ 255 < n
      · have Hn := Lib.hid (show numberP r = .error 105 by unfold numberP; rw [Done.out]; exact if_pos bad)
        clear Done Hd
        by_cases b1 : wd = 0
        · have hb1 : ((kk : Int) == (k0 : Int)) = true := by have := Hkk.out; rw [beq_iff_eq]; omega
          clear bad b1
          go_wp2_with fail
          all_goals
            go_ret
            exact ⟨-1, kk, _, rfl, HQ.out, HOq.out, .inr ⟨Hn.out, rfl, _, rfl, Hlen.out⟩⟩
        have hb1 : ((kk : Int) == (k0 : Int)) = false := by have := Hkk.out; rw [beq_eq_false_iff_ne]; omega
        by_cases b2 : 3 < wd
        · have hb2 : (k0 : Int) + 3 < (kk : Int) := by have := Hkk.out; omega
          clear bad b1 b2
          go_wp2_with fail
          all_goals
            go_ret
            exact ⟨-1, kk, _, rfl, HQ.out, HOq.out, .inr ⟨Hn.out, rfl, _, rfl, Hlen.out⟩⟩
        have hb2 : decide ((k0 : Int) + 3 < (kk : Int)) = false := by have := Hkk.out; rw [decide_eq_false_iff_not]; omega
        have b3 : 255 < n := by omega
        clear bad b1 b2
        go_wp2_with fail
        all_goals
          go_ret
          exact ⟨-1, kk, _, rfl, HQ.out, HOq.out, .inr ⟨Hn.out, rfl, _, rfl, Hlen.out⟩⟩
      · have Hn := Lib.hid (show numberP r = .ok (n, []) by unfold numberP; rw [Done.out]; exact if_neg bad)
        have hb1 : ((kk : Int) == (k0 : Int)) = false := by have := Hkk.out; rw [beq_eq_false_iff_ne]; omega
        have hb2 : decide ((k0 : Int) + 3 < (kk : Int)) = false := by have := Hkk.out; rw [decide_eq_false_iff_not]; omega
        have hb3 : decide ((255 : Int) < n) = false := by rw [decide_eq_false_iff_not]; omega
        have Hb := Lib.hid (show 0 ≤ n ∧ n ≤ 255 by omega)
        clear bad Done Hd
        go_wp2_with fail
        all_goals
          go_ret
          exact ⟨n, kk, _, rfl, HQ.out, HOq.out, .inl ⟨n, _, Hn.out, rfl, Hb.out.1, Hb.out.2, rfl⟩⟩
    · have hc2 : c.toNat < 256 := c.toNat_lt
      have hat := HR.out.at_
      have hkI : (kk : Int) < (S.length : Int) := by have := hat.1; omega
      have hidx : ∀ (hh : kk < (bs S).size), ((bs S)[kk]'hh) = c := fun hh => hat.2 (by rw [sS] at hh; exact hh)
      clear hat
      have Hdone := Lib.hid (done_n false rfl HR.out)
      by_cases e1 : 48 ≤ c.toNat
      case neg =>
        have t1 : decide ((48 : Int) ≤ (c.toNat : Int)) = false := by rw [decide_eq_false_iff_not]; omega
        go_upto_region 3 with fail
        go_quiet (first | (go_at_call 26; refine Calls.quiet_of (Hdone.out _)))
        have hq := HR.out.drewN nq
        have HOq := Lib.hid (HO.out.trans (offQ p wr nq))
        generalize wr.drewN nq = W1 at *
        have HQ := Lib.hid hq
        have d1 := hq.rdr.c1
        clear hq c0 c1 HR HO Hdone
        have Done := Lib.hid (Done.out (.inr (.inr ⟨c, t, rfl, by simp [isDigit]; omega⟩)))
        by_cases bad : wd = 0 ∨ 3 < wd ∨ 255 < n
        · have Hn := Lib.hid (show numberP r = .error 105 by unfold numberP; rw [Done.out]; exact if_pos bad)
          clear Done Hd
          by_cases b1 : wd = 0
          · have hb1 : ((kk : Int) == (k0 : Int)) = true := by have := Hkk.out; rw [beq_iff_eq]; omega
            clear bad b1
            go_wp2_with fail
            all_goals
              go_ret
              exact ⟨-1, kk, _, rfl, HQ.out, HOq.out, .inr ⟨Hn.out, rfl, _, rfl, Hlen.out⟩⟩
          have hb1 : ((kk : Int) == (k0 : Int)) = false := by have := Hkk.out; rw [beq_eq_false_iff_ne]; omega
          by_cases b2 : 3 < wd
          · have hb2 : (k0 : Int) + 3 < (kk : Int) := by have := Hkk.out; omega
            clear bad b1 b2
            go_wp2_with fail
            all_goals
              go_ret
              exact ⟨-1, kk, _, rfl, HQ.out, HOq.out, .inr ⟨Hn.out, rfl, _, rfl, Hlen.out⟩⟩
          have hb2 : decide ((k0 : Int) + 3 < (kk : Int)) = false := by have := Hkk.out; rw [decide_eq_false_iff_not]; omega
          have b3 : 255 < n := by omega
          clear bad b1 b2
          go_wp2_with fail
          all_goals
            go_ret
            exact ⟨-1, kk, _, rfl, HQ.out, HOq.out, .inr ⟨Hn.out, rfl, _, rfl, Hlen.out⟩⟩
        · have Hn := Lib.hid (show numberP r = .ok (n, c :: t) by unfold numberP; rw [Done.out]; exact if_neg bad)
          have hb1 : ((kk : Int) == (k0 : Int)) = false := by have := Hkk.out; rw [beq_eq_false_iff_ne]; omega
          have hb2 : decide ((k0 : Int) + 3 < (kk : Int)) = false := by have := Hkk.out; rw [decide_eq_false_iff_not]; omega
          have hb3 : decide ((255 : Int) < n) = false := by rw [decide_eq_false_iff_not]; omega
          have Hb := Lib.hid (show 0 ≤ n ∧ n ≤ 255 by omega)
          clear bad Done Hd
          go_wp2_with fail
          all_goals
            go_ret
            exact ⟨n, kk, _, rfl, HQ.out, HOq.out, .inl ⟨n, _, Hn.out, rfl, Hb.out.1, Hb.out.2, rfl⟩⟩
      have t1 : (48 : Int) ≤ (c.toNat : Int) := by omega
      by_cases e2 : c.toNat ≤ 57
      case neg =>
        have t2 : decide ((c.toNat : Int) ≤ 57) = false := by rw [decide_eq_false_iff_not]; omega
        go_upto_region 3 with fail
        go_quiet (first | (go_at_call 26; refine Calls.quiet_of (Hdone.out _)))
        have hq := HR.out.drewN nq
        have HOq := Lib.hid (HO.out.trans (offQ p wr nq))
        generalize wr.drewN nq = W1 at *
        have HQ := Lib.hid hq
        have d1 := hq.rdr.c1
        clear hq c0 c1 HR HO Hdone
        have Done := Lib.hid (Done.out (.inr (.inr ⟨c, t, rfl, by simp [isDigit]; omega⟩)))
        by_cases bad : wd = 0 ∨ 3 < wd ∨ 255 < n
        · have Hn := Lib.hid (show numberP r = .error 105 by unfold numberP; rw [Done.out]; exact if_pos bad)
          clear Done Hd
          by_cases b1 : wd = 0
          · have hb1 : ((kk : Int) == (k0 : Int)) = true := by have := Hkk.out; rw [beq_iff_eq]; omega
            clear bad b1
            go_wp2_with fail
            all_goals
              go_ret
              exact ⟨-1, kk, _, rfl, HQ.out, HOq.out, .inr ⟨Hn.out, rfl, _, rfl, Hlen.out⟩⟩
          have hb1 : ((kk : Int) == (k0 : Int)) = false := by have := Hkk.out; rw [beq_eq_false_iff_ne]; omega
          by_cases b2 : 3 < wd
          · have hb2 : (k0 : Int) + 3 < (kk : Int) := by have := Hkk.out; omega
            clear bad b1 b2
            go_wp2_with fail
            all_goals
              go_ret
              exact ⟨-1, kk, _, rfl, HQ.out, HOq.out, .inr ⟨Hn.out, rfl, _, rfl, Hlen.out⟩⟩
          have hb2 : decide ((k0 : Int) + 3 < (kk : Int)) = false := by have := Hkk.out; rw [decide_eq_false_iff_not]; omega
          have b3 : 255 < n := by omega
          clear bad b1 b2
          go_wp2_with fail
          all_goals
            go_ret
            exact ⟨-1, kk, _, rfl, HQ.out, HOq.out, .inr ⟨Hn.out, rfl, _, rfl, Hlen.out⟩⟩
        · have Hn := Lib.hid (show numberP r = .ok (n, c :: t) by unfold numberP; rw [Done.out]; exact if_neg bad)
          have hb1 : ((kk : Int) == (k0 : Int)) = false := by have := Hkk.out; rw [beq_eq_false_iff_ne]; omega
          have hb2 : decide ((k0 : Int) + 3 < (kk : Int)) = false := by have := Hkk.out; rw [decide_eq_false_iff_not]; omega
          have hb3 : decide ((255 : Int) < n) = false := by rw [decide_eq_false_iff_not]; omega
          have Hb := Lib.hid (show 0 ≤ n ∧ n ≤ 255 by omega)
          clear bad Done Hd
          go_wp2_with fail
          all_goals
            go_ret
            exact ⟨n, kk, _, rfl, HQ.out, HOq.out, .inl ⟨n, _, Hn.out, rfl, Hb.out.1, Hb.out.2, rfl⟩⟩
      have t2 : (c.toNat : Int) ≤ 57 := by omega
      by_cases e3 : wd < 4
      case neg =>
        have t3 : decide ((kk : Int) < (k0 : Int) + 4) = false := by have := Hkk.out; rw [decide_eq_false_iff_not]; omega
        go_upto_region 3 with fail
        go_quiet (first | (go_at_call 26; refine Calls.quiet_of (Hdone.out _)))
        have hq := HR.out.drewN nq
        have HOq := Lib.hid (HO.out.trans (offQ p wr nq))
        generalize wr.drewN nq = W1 at *
        have HQ := Lib.hid hq
        have d1 := hq.rdr.c1
        clear hq c0 c1 HR HO Hdone
        have Done := Lib.hid (Done.out (.inl (by omega)))
        by_cases bad : wd = 0 ∨ 3 < wd ∨ 255 < n
        · have Hn := Lib.hid (show numberP r = .error 105 by unfold numberP; rw [Done.out]; exact if_pos bad)
          clear Done Hd
          by_cases b1 : wd = 0
          · have hb1 : ((kk : Int) == (k0 : Int)) = true := by have := Hkk.out; rw [beq_iff_eq]; omega
            clear bad b1
            go_wp2_with fail
            all_goals
              go_ret
              exact ⟨-1, kk, _, rfl, HQ.out, HOq.out, .inr ⟨Hn.out, rfl, _, rfl, Hlen.out⟩⟩
          have hb1 : ((kk : Int) == (k0 : Int)) = false := by have := Hkk.out; rw [beq_eq_false_iff_ne]; omega
          by_cases b2 : 3 < wd
          · have hb2 : (k0 : Int) + 3 < (kk : Int) := by have := Hkk.out; omega
            clear bad b1 b2
            go_wp2_with fail
            all_goals
              go_ret
              exact ⟨-1, kk, _, rfl, HQ.out, HOq.out, .inr ⟨Hn.out, rfl, _, rfl, Hlen.out⟩⟩
          have hb2 : decide ((k0 : Int) + 3 < (kk : Int)) = false := by have := Hkk.out; rw [decide_eq_false_iff_not]; omega
          have b3 : 255 < n := by omega
          clear bad b1 b2
          go_wp2_with fail
          all_goals
            go_ret
            exact ⟨-1, kk, _, rfl, HQ.out, HOq.out, .inr ⟨Hn.out, rfl, _, rfl, Hlen.out⟩⟩
        · have Hn := Lib.hid (show numberP r = .ok (n, c :: t) by unfold numberP; rw [Done.out]; exact if_neg bad)
          have hb1 : ((kk : Int) == (k0 : Int)) = false := by have := Hkk.out; rw [beq_eq_false_iff_ne]; omega
          have hb2 : decide ((k0 : Int) + 3 < (kk : Int)) = false := by have := Hkk.out; rw [decide_eq_false_iff_not]; omega
          have hb3 : decide ((255 : Int) < n) = false := by rw [decide_eq_false_iff_not]; omega
          have Hb := Lib.hid (show 0 ≤ n ∧ n ≤ 255 by omega)
          clear bad Done Hd
          go_wp2_with fail
          all_goals
            go_ret
            exact ⟨n, kk, _, rfl, HQ.out, HOq.out, .inl ⟨n, _, Hn.out, rfl, Hb.out.1, Hb.out.2, rfl⟩⟩
      have t3 : (kk : Int) < (k0 : Int) + 4 := by have := Hkk.out; omega
      obtain ⟨g, rfl⟩ : ∃ g, gk = g + 1 := ⟨gk - 1, by omega⟩
      have hdg : isDigit c = true := by simp [isDigit]; omega
      have hstep : digitsP g (10 * n + (c.toNat - 48)) (wd + 1) t = digitsP 4 0 0 r := by
        rw [← Hd.out]
        conv => rhs; rw [digitsP, hdg]
        rfl
      have hl10 : 10 * n + ((c.toNat : Int) - 48) ≤ lim10 (wd + 1) := by
        have h1 := Hn1.out
        unfold lim10 at h1 ⊢
        rcases (show wd = 0 ∨ wd = 1 ∨ wd = 2 ∨ wd = 3 by omega) with rfl | rfl | rfl | rfl <;> simp at h1 ⊢ <;> omega
      have Hstep := Lib.hid hstep; have Hl10 := Lib.hid hl10
      clear hstep hl10 hdg Done Hd Hn1
      go_upto_region 3 with fail
      go_quiet (first | (go_at_call 26; refine Calls.quiet_of (Hdone.out _)))
      have hq := HR.out.drewN nq
      have HOq := Lib.hid (HO.out.trans (offQ p wr nq))
      generalize wr.drewN nq = W1 at *
      have HQ := Lib.hid hq
      have d0 := hq.rdr.c0
      have d1 := hq.rdr.c1
      clear hq c0 c1 HR HO Hdone
      go_wp2_with fail
      go_quiet (fail)
      have hq := HQ.out.drewN nq
      have HO2 := Lib.hid (HOq.out.trans (offQ p W1 nq))
      generalize W1.drewN nq = W2 at *
      have HQ2 := Lib.hid hq
      have b1 := hq.rdr.c1
      have bz := hq.rdr.z 1
      clear hq d0 d1 HQ HOq
      go_wp2_with fail
      have hst := HQ2.out.step 1 (by simp)
      go_roundg g
      case measure => omega
      case rel => exact ⟨10 * n + ((c.toNat : Int) - 48), wd + 1, kk + 1, t, by first | rfl | go_num, by omega, by have := Hkk.out; omega, by omega, Hl10.out, Hstep.out, by have := Hlen.out; simp at this; omega, hst, HO2.out.set _ _⟩
end Go.Proofs.YteekafkpeimhoaaGreat

