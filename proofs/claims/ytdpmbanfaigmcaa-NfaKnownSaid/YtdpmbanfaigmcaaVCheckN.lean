/- nfa.Check: walked. -/
import Derived.Test.YtdpmbanfaigmcaaVKeptN
set_option linter.unusedVariables false
set_option linter.unusedSimpArgs false
namespace Go.Proofs.Ytdpmbanfaigmcaa
open Go.RowKit

def inR (n i : Int) : Bool := decide (0 ≤ i) && decide (i < n)
/-- May a state be, among n? -/
def okSt (n : Int) (s : St) : Bool := if s.k = 5 then true else if s.k = 1 ∨ s.k = 3 ∨ s.k = 4 then inR n s.nx else if s.k = 2 then inR n s.nx && inR n s.ot else false
/-- May a machine be? -/
def mcheck (l : List St) (sa : Int) : Int := if (l.length : Int) ≤ 4096 ∧ inR l.length sa = true then (if l.all (okSt l.length) then 0 else 110) else 110

set_option maxRecDepth 100000 in
set_option maxHeartbeats 1000000 in
theorem in_any (w : World) (b : Nat) (n i : Int) (h : w.cell? ⟨b, 0, none⟩ = some (.int .i64 n)) : Calls Try.prog 46 #[.int .i64 i, .pointer (some ⟨b, 0, none⟩)] w fun e w' => e = .returned (.bool (inR n i)) ∧ w' = w := by
  go_enter Try.func46, Try.ntmps46
  by_cases h1 : 0 ≤ i
  · by_cases h2 : i < n
    · have hr : inR n i = true := by simp [inR, h1, h2]
      have Hr := Lib.hid hr; clear hr
      go_wp2_with fail
      go_ret
      exact ⟨by rw [Hr.out]; rfl, rfl⟩
    · have hr : inR n i = false := by simp [inR]; omega
      have Hr := Lib.hid hr; clear hr
      go_wp2_with fail
      go_ret
      exact ⟨by rw [Hr.out]; rfl, rfl⟩
  · have hr : inR n i = false := by simp [inR]; omega
    have Hr := Lib.hid hr; clear hr
    go_wp2_with fail
    go_ret
    exact ⟨by rw [Hr.out]; rfl, rfl⟩

set_option maxRecDepth 100000 in
set_option maxHeartbeats 4000000 in
theorem ncheck_any (w : World) (ok : Nat → Prop) (l : List St) (sa : Int) (A : Option Addr) (c : Nat) (ha : StsAt w ok l A c) (hok : ∀ b, ok b → b < w.heap.size) :
    Calls Try.prog 23 #[nfaV l sa A c] w fun e w' => e = .returned (.int .i64 (mcheck l sa)) ∧ Below w.heap.size w w' := by
  have hmf : ∀ (fn : Fn) (first cap : Array Value) (w : World), (Instr.makeFunc fn first cap).run Try.prog w = .ok (.func fn first cap) w := fun _ _ _ _ => rfl
  have hlen := ha.len
  by_cases hbig : 4096 < (l.length : Int)
  · have hres : mcheck l sa = 110 := by rw [mcheck, if_neg (by omega)]
    have Hres := Lib.hid hres; clear hres
    go_enter Try.func23, Try.ntmps23
    go_wp2_with fail
    go_ret
    exact ⟨by rw [Hres.out]; rfl, ((Below.refl _ _).alloc (Nat.le_refl _) _).alloc (by simp) _⟩
  go_enter Try.func23, Try.ntmps23
  go_wp2_with fail
  generalize hW : (w.alloc _).alloc _ = W0
  have hB0 : Below w.heap.size w W0 := by subst hW; exact ((Below.refl _ _).alloc (Nat.le_refl _) _).alloc (by simp) _
  have hsz : w.heap.size + 2 ≤ W0.heap.size := by subst hW; simp
  have p0 : W0.cell? ⟨w.heap.size, 0, none⟩ = some (.slice A l.length c) := by subst hW; simp [go_sem]
  have p1 : W0.cell? ⟨w.heap.size, 1, none⟩ = some (.int .i64 sa) := by subst hW; simp [go_sem]
  have q0 : W0.cell? ⟨w.heap.size + 1, 0, none⟩ = some (.int .i64 l.length) := by subst hW; simp [go_sem]
  clear hW
  refine (in_any _ (w.heap.size + 1) l.length sa q0).mono ?_
  rintro e wx ⟨rfl, rfl⟩
  cases hs : inR l.length sa with
  | false =>
    have hres : mcheck l sa = 110 := by rw [mcheck, if_neg (by simp [hs])]
    have Hres := Lib.hid hres; clear hres
    go_wp2_with fail
    go_ret
    exact ⟨by rw [Hres.out]; rfl, hB0⟩
  | true =>
    have hres : mcheck l sa = if l.all (okSt l.length) then 0 else 110 := by rw [mcheck, if_pos ⟨by omega, hs⟩]
    have Hres := Lib.hid hres; clear hres hs
    go_wp2_with fail
    go_loopg [24] (l.length) (fun n i wr => ∃ j : Nat, i = .int .i64 j ∧ j + n = l.length ∧ (l.drop j).all (okSt l.length) = l.all (okSt l.length) ∧ Below w.heap.size w wr ∧ w.heap.size + 2 ≤ wr.heap.size ∧ wr.cell? ⟨w.heap.size + 1, 0, none⟩ = some (.int .i64 l.length))
    case atStart => exact ⟨0, rfl, by omega, rfl, hB0, hsz, q0⟩
    case round =>
      obtain ⟨j, rfl, hj, hm, hB, hz, hq⟩ := hrel
      have Hm := Lib.hid hm; clear hm
      clear hsz p0 p1 q0 hB0
      by_cases hlt : j < l.length
      · obtain ⟨b, o, rfl, hb, hcell⟩ := ha.at_ (by omega)
        obtain ⟨f0, f1, f2, f3, f4, f5, f6⟩ := (hcell j hlt).mono (w' := wr) (fun o => hB.cell (p := ⟨b, o, none⟩) (hok b hb))
        have Hd := Lib.hid (drop_cons hlt)
        clear hcell
        generalize l[j] = s at *
        have hbz := hok b hb
        have fin : okSt l.length s = false → mcheck l sa = 110 := fun h => by
          rw [Hres.out, ← Hm.out, Hd.out, List.all_cons, h]; rfl
        have go : okSt l.length s = true → (l.drop (j + 1)).all (okSt l.length) = l.all (okSt l.length) := fun h => by
          rw [← Hm.out, Hd.out, List.all_cons, h, Bool.true_and]
        have Fin := Lib.hid fin; have Go := Lib.hid go; clear fin go
        obtain ⟨k, s0, s1, s2, s3, nx, ot⟩ := s
        simp only at f0 f1 f2 f3 f4 f5 f6
        have q1 : (wr.alloc (.cells #[.int .i64 k, .int .u64 s0, .int .u64 s1, .int .u64 s2, .int .u64 s3, .int .i64 nx, .int .i64 ot] 47)).cell? ⟨w.heap.size + 1, 0, none⟩ = some (.int .i64 l.length) := by
          rw [World.cell?_alloc_lt _ _ _ (by show w.heap.size + 1 < _; omega)]; exact hq
        by_cases k5 : k = 5
        · subst k5
          have hg := Lib.hid (Go.out (by simp [okSt])); clear Go Fin
          go_wp2_with fail
          go_roundg (gk - 1)
          case measure => omega
          case rel => exact ⟨j + 1, by go_num, by omega, hg.out, hB.alloc (by omega) _, by simp; omega, q1⟩
        by_cases k134 : k = 1 ∨ k = 3 ∨ k = 4
        · have hstep : ∀ r, inR l.length nx = r → okSt l.length ⟨k, s0, s1, s2, s3, nx, ot⟩ = r := fun r h => by
            simp only [okSt]; rw [if_neg k5, if_pos k134, h]
          rcases k134 with rfl | rfl | rfl
          all_goals
            go_wp2_with fail
            refine (in_any _ (w.heap.size + 1) l.length nx q1).mono ?_
            rintro e wx ⟨rfl, rfl⟩
            cases hr : inR l.length nx with
            | true =>
              have hg := Lib.hid (Go.out (hstep _ hr)); clear Go Fin hr hstep
              go_wp2_with fail
              go_roundg (gk - 1)
              case measure => omega
              case rel => exact ⟨j + 1, by go_num, by omega, hg.out, hB.alloc (by omega) _, by simp; omega, q1⟩
            | false =>
              have hg := Lib.hid (Fin.out (hstep _ hr)); clear Go Fin hr hstep
              go_wp2_with fail
              go_ret
              exact ⟨by rw [hg.out]; rfl, hB.alloc (by omega) _⟩
        by_cases k2 : k = 2
        · subst k2
          have hstep : okSt l.length ⟨2, s0, s1, s2, s3, nx, ot⟩ = (inR l.length nx && inR l.length ot) := by simp [okSt]
          clear k134 k5
          go_wp2_with fail
          refine (in_any _ (w.heap.size + 1) l.length nx q1).mono ?_
          rintro e wx ⟨rfl, rfl⟩
          cases hr : inR l.length nx with
          | true =>
            go_wp2_with fail
            refine (in_any _ (w.heap.size + 1) l.length ot q1).mono ?_
            rintro e wx ⟨rfl, rfl⟩
            cases hr2 : inR l.length ot with
            | true =>
              have hg := Lib.hid (Go.out (by rw [hstep, hr, hr2]; rfl)); clear Go Fin hr hr2 hstep
              go_wp2_with fail
              go_roundg (gk - 1)
              case measure => omega
              case rel => exact ⟨j + 1, by go_num, by omega, hg.out, hB.alloc (by omega) _, by simp; omega, q1⟩
            | false =>
              have hg := Lib.hid (Fin.out (by rw [hstep, hr, hr2]; rfl)); clear Go Fin hr hr2 hstep
              go_wp2_with fail
              go_ret
              exact ⟨by rw [hg.out]; rfl, hB.alloc (by omega) _⟩
          | false =>
            have hg := Lib.hid (Fin.out (by rw [hstep, hr]; rfl)); clear Go Fin hr hstep
            go_wp2_with fail
            go_ret
            exact ⟨by rw [hg.out]; rfl, hB.alloc (by omega) _⟩
        · have hg := Lib.hid (Fin.out (by simp [okSt, k5, k134, k2]))
          have b1 : (k == 1) = false := by simp; omega
          have b2 : (k == 2) = false := by simp; omega
          have b3 : (k == 3) = false := by simp; omega
          have b4 : (k == 4) = false := by simp; omega
          have b5 : (k == 5) = false := by simp; omega
          clear Go Fin k5 k134 k2
          go_wp2_with fail
          go_ret
          exact ⟨by rw [hg.out]; rfl, hB.alloc (by omega) _⟩
      · have hg : l.all (okSt l.length) = true := by rw [← Hm.out, List.drop_of_length_le (by omega)]; rfl
        have hg2 := Lib.hid (by rw [Hres.out, hg]; rfl : mcheck l sa = 0); clear hg
        have i1 : (l.length : Int) ≤ (j : Int) := by omega
        go_wp2_with fail
        go_ret
        exact ⟨by rw [hg2.out]; rfl, hB⟩
end Go.Proofs.Ytdpmbanfaigmcaa
