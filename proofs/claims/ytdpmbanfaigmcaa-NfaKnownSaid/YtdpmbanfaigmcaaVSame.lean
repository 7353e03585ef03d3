/- SameNfa, KeptNfa, LentNfa: walked. -/
import Derived.Test.YtdpmbanfaigmcaaVMach
set_option linter.unusedVariables false
set_option linter.unusedSimpArgs false
namespace Go.Proofs.Ytdpmbanfaigmcaa
open Go.RowKit

theorem belowN {B : Nat} {a w : World} (h : Below B a w) (n : Nat) : Below B a (w.drewN n) := ⟨h.os, h.tape, h.output, h.size, h.block⟩
/-- Are two machines the same? -/
def sameM (a : List St) (sa : Int) (b : List St) (sb : Int) : Bool := decide (sa = sb ∧ a = b)
set_option maxRecDepth 100000 in
set_option maxHeartbeats 2000000 in
theorem same_any (w : World) (ok : Nat → Prop) (a b : List St) (sa sb : Int) (A B : Option Addr) (c d : Nat) (ha : StsAt w ok a A c) (hb : StsAt w ok b B d) (hok : ∀ b, ok b → b < w.heap.size) :
    Calls Try.prog 18 #[nfaV a sa A c, nfaV b sb B d] w fun e w' => e = .returned (.bool (sameM a sa b sb)) ∧ Below w.heap.size w w' := by
  have hla := ha.len
  have hlb := hb.len
  by_cases h1 : sa = sb
  case neg =>
    have hres : sameM a sa b sb = false := by simp [sameM, h1]
    have Hres := Lib.hid hres; clear hres
    go_enter Try.func18, Try.ntmps18
    go_wp2_with fail
    go_ret
    exact ⟨by rw [Hres.out]; rfl, ((Below.refl _ _).alloc (Nat.le_refl _) _).alloc (by simp) _⟩
  subst h1
  by_cases h2 : a.length = b.length
  case neg =>
    have hres : sameM a sa b sa = false := by simp [sameM]; intro e; exact h2 (by rw [e])
    have Hres := Lib.hid hres; clear hres
    have h2' : ¬ ((a.length : Int) = b.length) := by omega
    go_enter Try.func18, Try.ntmps18
    go_wp2_with fail
    go_ret
    exact ⟨by rw [Hres.out]; rfl, ((Below.refl _ _).alloc (Nat.le_refl _) _).alloc (by simp) _⟩
  go_enter Try.func18, Try.ntmps18
  have h2' : (a.length : Int) = b.length := by omega
  go_wp2_with fail
  clear h2'
  generalize hW : (w.alloc _).alloc _ = W0
  have hB0 : Below w.heap.size w W0 := by subst hW; exact ((Below.refl _ _).alloc (Nat.le_refl _) _).alloc (by simp) _
  have p0 : W0.cell? ⟨w.heap.size, 0, none⟩ = some (.slice A a.length c) := by subst hW; simp [go_sem, h2]
  have q0 : W0.cell? ⟨w.heap.size + 1, 0, none⟩ = some (.slice B b.length d) := by subst hW; simp [go_sem]
  clear hW
  have ha0 := ha.later hB0 hok
  have hb0 := hb.later hB0 hok
  have h2a : a.length ≤ b.length := by omega
  have h2b : b.length ≤ a.length := by omega
  clear h2
  go_loopg [5] (a.length) (fun n i wr => ∃ (j : Nat) (m : Nat), i = .int .i64 j ∧ j + n = a.length ∧ (∀ k, k < j → a[k]? = b[k]?) ∧ wr = W0.drewN m)
  case atStart => exact ⟨0, 0, rfl, by omega, by omega, rfl⟩
  case round =>
    obtain ⟨j, m, rfl, hj, hm, rfl⟩ := hrel
    by_cases hlt : j < a.length
    · obtain ⟨x, o, rfl, hx, hcell⟩ := ha0.at_ (by omega)
      obtain ⟨y, u, rfl, hy, hcellb⟩ := hb0.at_ (by omega)
      obtain ⟨f0, f1, f2, f3, f4, f5, f6⟩ := hcell j hlt
      obtain ⟨g0, g1, g2, g3, g4, g5, g6⟩ := hcellb j (by omega)
      have i1 : (j : Int) < (a.length : Int) := by omega
      have i2 : (j : Int) < (b.length : Int) := by omega
      have i0 : (0 : Int) ≤ (j : Int) := by omega
      go_wp2_with fail
      go_quiet (fail)
      generalize hq : eqSt _ _ = q
      have hq' : eqSt a[j] b[j] = q := hq
      clear hq
      cases q with
      | false =>
        have hres : sameM a sa b sa = false := by
          simp only [sameM, decide_eq_false_iff_not, true_and]
          intro e
          subst e
          rw [eqSt_iff.2 rfl] at hq'
          simp at hq'
        have Hres := Lib.hid hres; clear hres hq'
        go_wp2_with fail
        go_ret
        exact ⟨by rw [Hres.out]; rfl, by simpa using belowN hB0 (m + nq)⟩
      | true =>
        have hq2 := Lib.hid (eqSt_iff.1 hq'); clear hq'
        go_wp2_with fail
        go_roundg (gk - 1)
        case measure => omega
        case rel => exact ⟨j + 1, m + nq, by go_num, by omega, fun k hk => by
          rcases Nat.lt_or_ge k j with h | h
          · exact hm k h
          · have : k = j := by omega
            subst this
            rw [List.getElem?_eq_getElem hlt, List.getElem?_eq_getElem (by omega), hq2.out], by simp⟩
    · have hres : sameM a sa b sa = true := by
        simp only [sameM, decide_eq_true_eq, true_and]
        refine List.ext_getElem? fun k => ?_
        rcases Nat.lt_or_ge k j with h | h
        · exact hm k h
        · rw [List.getElem?_eq_none (by omega), List.getElem?_eq_none (by omega)]
      have Hres := Lib.hid hres; clear hres
      have i1 : (a.length : Int) ≤ (j : Int) := by omega
      go_wp2_with fail
      go_ret
      exact ⟨by rw [Hres.out]; rfl, belowN hB0 _⟩
end Go.Proofs.Ytdpmbanfaigmcaa
