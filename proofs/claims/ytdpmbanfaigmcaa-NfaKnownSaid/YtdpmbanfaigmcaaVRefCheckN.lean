/- vouchref11.Check: walked. -/
import Derived.Test.YtdpmbanfaigmcaaVCheckN
set_option linter.unusedVariables false
set_option linter.unusedSimpArgs false
namespace Go.Proofs.Ytdpmbanfaigmcaa
open Go.RowKit

theorem inR_true {n i : Int} (h : 0 ≤ i) (h2 : i < n) : inR n i = true := by simp [inR, h, h2]
theorem inR_false {n i : Int} (h : i < 0 ∨ n ≤ i) : inR n i = false := by simp [inR]; omega
set_option maxRecDepth 100000 in
set_option maxHeartbeats 4000000 in
theorem rcheck_any (w : World) (ok : Nat → Prop) (l : List St) (sa : Int) (A : Option Addr) (c : Nat) (ha : StsAt w ok l A c) (hok : ∀ b, ok b → b < w.heap.size) :
    Calls Try.prog 24 #[nfaV l sa A c] w fun e w' => e = .returned (.int .i64 (mcheck l sa)) ∧ Below w.heap.size w w' := by
  have hlen := ha.len
  by_cases hbad : ((l.length : Int) < 1 ∨ 4096 < (l.length : Int)) ∨ sa < 0 ∨ (l.length : Int) ≤ sa
  · have hres : mcheck l sa = 110 := by
      rw [mcheck, if_neg]
      rintro ⟨h1, h2⟩
      simp [inR] at h2
      omega
    have Hres := Lib.hid hres; clear hres
    have fin : Below w.heap.size w (w.alloc (.cells #[.slice A l.length c, .int .i64 sa] 35)) := (Below.refl _ _).alloc (Nat.le_refl _) _
    go_enter Try.func24, Try.ntmps24
    by_cases h1 : (l.length : Int) < 1
    · clear hbad
      go_wp2_with fail
      go_ret
      exact ⟨by rw [Hres.out]; rfl, fin⟩
    by_cases h2 : 4096 < (l.length : Int)
    · clear hbad
      go_wp2_with fail
      go_ret
      exact ⟨by rw [Hres.out]; rfl, fin⟩
    by_cases h3 : sa < 0
    · clear hbad
      go_wp2_with fail
      go_ret
      exact ⟨by rw [Hres.out]; rfl, fin⟩
    · have h4 : (l.length : Int) ≤ sa := by omega
      clear hbad
      go_wp2_with fail
      go_ret
      exact ⟨by rw [Hres.out]; rfl, fin⟩
  have h1 : 1 ≤ (l.length : Int) := by omega
  have h2 : (l.length : Int) ≤ 4096 := by omega
  have h3 : 0 ≤ sa := by omega
  have h4 : sa < (l.length : Int) := by omega
  clear hbad
  have hres : mcheck l sa = if l.all (okSt l.length) then 0 else 110 := by rw [mcheck, if_pos ⟨by omega, inR_true h3 h4⟩]
  have Hres := Lib.hid hres; clear hres
  go_enter Try.func24, Try.ntmps24
  go_wp2_with fail
  generalize hW : w.alloc _ = W0
  have hB0 : Below w.heap.size w W0 := by subst hW; exact ((Below.refl _ _).alloc (Nat.le_refl _) _)
  have hsz : w.heap.size < W0.heap.size := by subst hW; simp
  have p0 : W0.cell? ⟨w.heap.size, 0, none⟩ = some (.slice A l.length c) := by subst hW; simp [go_sem]
  clear hW h1 h3 h4
  go_loopg [4] (l.length) (fun n i wr => ∃ j : Nat, i = .int .i64 j ∧ j + n = l.length ∧ (l.drop j).all (okSt l.length) = l.all (okSt l.length) ∧ Below w.heap.size w wr ∧ w.heap.size < wr.heap.size ∧ wr.cell? ⟨w.heap.size, 0, none⟩ = some (.slice A l.length c))
  case atStart => exact ⟨0, rfl, by omega, rfl, hB0, hsz, p0⟩
  case round =>
    obtain ⟨j, rfl, hj, hm, hB, hz, hq⟩ := hrel
    have Hm := Lib.hid hm; clear hm
    clear hsz p0 hB0
    by_cases hlt : j < l.length
    · obtain ⟨b, o, rfl, hb, hcell⟩ := ha.at_ (by omega)
      obtain ⟨f0, f1, f2, f3, f4, f5, f6⟩ := (hcell j hlt).mono (w' := wr) (fun o => hB.cell (p := ⟨b, o, none⟩) (hok b hb))
      have Hd := Lib.hid (drop_cons hlt)
      clear hcell
      generalize l[j] = s at *
      have hbz := hok b hb
      have fin : okSt l.length s = false → mcheck l sa = 110 := fun h => by
        rw [Hres.out, ← Hm.out, Hd.out, List.all_cons, h]; rfl
      have go : okSt l.length s = true → (l.drop (j + 1)).all (okSt l.length) = l.all (okSt l.length) := fun h => by
        rw [← Hm.out, Hd.out, List.all_cons, h, Bool.true_and]
      have Fin := Lib.hid fin; have Go := Lib.hid go; clear fin go
      obtain ⟨k, s0, s1, s2, s3, nx, ot⟩ := s
      simp only at f0 f1 f2 f3 f4 f5 f6
      have q1 : (wr.alloc (.cells #[.int .i64 k, .int .u64 s0, .int .u64 s1, .int .u64 s2, .int .u64 s3, .int .i64 nx, .int .i64 ot] 47)).cell? ⟨w.heap.size, 0, none⟩ = some (.slice (some ⟨b, o, none⟩) l.length c) := by
        rw [World.cell?_alloc_lt _ _ _ hz]; exact hq
      have hB1 := hB.alloc (by omega : w.heap.size ≤ wr.heap.size) (.cells #[.int .i64 k, .int .u64 s0, .int .u64 s1, .int .u64 s2, .int .u64 s3, .int .i64 nx, .int .i64 ot] 47)
      by_cases c1 : k < 1
      · have hg := Lib.hid (Fin.out (by simp only [okSt]; rw [if_neg (by omega), if_neg (by omega), if_neg (by omega)])); clear Go Fin
        go_wp2_with fail
        go_ret
        exact ⟨by rw [hg.out]; rfl, hB1⟩
      by_cases c2 : 5 < k
      · have hg := Lib.hid (Fin.out (by simp only [okSt]; rw [if_neg (by omega), if_neg (by omega), if_neg (by omega)])); clear Go Fin
        go_wp2_with fail
        go_ret
        exact ⟨by rw [hg.out]; rfl, hB1⟩
      by_cases c3 : k = 5
      · subst c3
        have hg := Lib.hid (Go.out (by simp [okSt])); clear Go Fin
        go_wp2_with fail
        go_roundg (gk - 1)
        case measure => omega
        case rel => exact ⟨j + 1, by go_num, by omega, hg.out, hB1, by simp; omega, q1⟩
      have b5 : (k != 5) = true := by simp; omega
      by_cases c4 : nx < 0
      · have hg := Lib.hid (Fin.out (by
          simp only [okSt, inR_false (.inl c4 : nx < 0 ∨ (l.length : Int) ≤ nx), Bool.false_and]; rw [if_neg c3]; split
          · rfl
          · split <;> rfl)); clear Go Fin c3
        go_wp2_with fail
        go_ret
        exact ⟨by rw [hg.out]; rfl, hB1⟩
      by_cases c5 : (l.length : Int) ≤ nx
      · have hg := Lib.hid (Fin.out (by
          simp only [okSt, inR_false (.inr c5 : nx < 0 ∨ (l.length : Int) ≤ nx), Bool.false_and]; rw [if_neg c3]; split
          · rfl
          · split <;> rfl)); clear Go Fin c3
        go_wp2_with fail
        go_ret
        exact ⟨by rw [hg.out]; rfl, hB1⟩
      have hnx : inR l.length nx = true := inR_true (by omega) (by omega)
      by_cases c6 : k = 2
      · subst c6
        have hstep : okSt l.length ⟨2, s0, s1, s2, s3, nx, ot⟩ = inR l.length ot := by simp [okSt, hnx]
        clear c3 hnx
        by_cases c7 : ot < 0
        · have hg := Lib.hid (Fin.out (by rw [hstep, inR_false (.inl c7)])); clear Go Fin hstep
          go_wp2_with fail
          go_ret
          exact ⟨by rw [hg.out]; rfl, hB1⟩
        by_cases c8 : (l.length : Int) ≤ ot
        · have hg := Lib.hid (Fin.out (by rw [hstep, inR_false (.inr c8)])); clear Go Fin hstep
          go_wp2_with fail
          go_ret
          exact ⟨by rw [hg.out]; rfl, hB1⟩
        · have hg := Lib.hid (Go.out (by rw [hstep, inR_true (by omega) (by omega)])); clear Go Fin hstep
          go_wp2_with fail
          go_roundg (gk - 1)
          case measure => omega
          case rel => exact ⟨j + 1, by go_num, by omega, hg.out, hB1, by simp; omega, q1⟩
      · have b2 : (k == 2) = false := by simp; omega
        have hg := Lib.hid (Go.out (by simp only [okSt, hnx]; rw [if_neg c3, if_pos (by omega)])); clear Go Fin c3 c6 hnx
        go_wp2_with fail
        go_roundg (gk - 1)
        case measure => omega
        case rel => exact ⟨j + 1, by go_num, by omega, hg.out, hB1, by simp; omega, q1⟩
    · have hg : l.all (okSt l.length) = true := by rw [← Hm.out, List.drop_of_length_le (by omega)]; rfl
      have hg2 := Lib.hid (by rw [Hres.out, hg]; rfl : mcheck l sa = 0); clear hg
      have i1 : (l.length : Int) ≤ (j : Int) := by omega
      go_wp2_with fail
      go_ret
      exact ⟨by rw [hg2.out]; rfl, hB⟩
end Go.Proofs.Ytdpmbanfaigmcaa
