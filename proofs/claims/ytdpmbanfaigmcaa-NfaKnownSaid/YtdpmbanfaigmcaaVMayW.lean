/- The law NfaMay: walked. -/
import Derived.Test.YtdpmbanfaigmcaaVMakesW
import Derived.Test.YtdpmbanfaigmcaaVMayL
import Derived.Test.YtdpmbanfaigmcaaVLow
set_option linter.unusedVariables false
set_option linter.unusedSimpArgs false
namespace Go.Proofs.Ytdpmbanfaigmcaa
open Go.RowKit

set_option maxRecDepth 100000 in
set_option maxHeartbeats 8000000 in
theorem may_law (t : T) (w : World) (ok : Nat → Prop) (A : Option Addr) (c : Nat) (hN : NodeAt w ok t A c) (hok : ∀ b, ok b → b < w.heap.size) :
    Calls Try.prog 5 #[nodeV t A c] w fun e w' => e = .returned (.bool true) ∧ Below w.heap.size w w' := by
  have hm := manyF_min 2500 (by omega) t
  have hnp := nodesF_pos t
  have Hm := Lib.hid hm; clear hm
  have HN := Lib.hid hN; have Hok := Lib.hid hok; clear hN hok
  go_enter Try.func5, Try.ntmps5
  go_wp2_with fail
  generalize hW : w.alloc _ = W0
  have hB0 : Below w.heap.size w W0 := by subst hW; exact (Below.refl _ _).alloc (Nat.le_refl _) _
  have hz0 : w.heap.size < W0.heap.size := by subst hW; simp
  have P0 : At8 W0 w.heap.size 0 t A c := by subst hW; constructor <;> simp [go_sem]
  clear hW
  refine (many_any 2500 (by omega) (by omega) t W0 ok A c (HN.out.later hB0 Hok.out) (fun b h => by have := Hok.out b h; omega)).mono ?_
  rintro e w1 ⟨rfl, hb1⟩
  have hz1 := hb1.size
  have hB1 := hB0.trans (hb1.mono (by omega))
  have P1 := P0.later hb1 hz0
  have HOK : ∀ B : Nat, w.heap.size < B → Hid (∀ b, ok b → b < B) := fun B hB => Lib.hid fun b h => by have := Hok.out b h; omega
  clear P0
  obtain ⟨p0, p1, p2, p3, p4, p5, p6, p7⟩ := id P1
  simp only [Nat.zero_add] at p1 p2 p3 p4 p5 p6 p7
  by_cases hbig : 2500 < manyF 2500 t
  · go_wp2_with fail
    go_ret
    exact ⟨rfl, hB1⟩
  have hno : manyF 2500 t = nodesF t := by have := Hm.out; omega
  have hno2 : nodesF t ≤ 2500 := by omega
  rw [hno]
  have Hno := Lib.hid hno; clear hno hbig
  go_wp2_with fail
  clear p0 p1 p2 p3 p4 p5 p6 p7
  refine (nsize_any t w1 ok A c (HN.out.later hB1 Hok.out) (HOK _ (by omega)).out).mono ?_
  rintro e w2 ⟨rfl, hb2⟩
  have hz2 := hb2.size
  have hB2 := hB1.trans (hb2.mono (by omega))
  have P2 := P1.later hb2 (by omega)
  clear P1 hB1
  obtain ⟨p0, p1, p2, p3, p4, p5, p6, p7⟩ := id P2
  simp only [Nat.zero_add] at p1 p2 p3 p4 p5 p6 p7
  go_wp2_with fail
  clear p0 p1 p2 p3 p4 p5 p6 p7
  refine (make_any t w2 ok A c (HN.out.later hB2 Hok.out) (HOK _ (by omega)).out).mono ?_
  rintro e w3 ⟨va, rfl, hoa, hb3⟩
  obtain ⟨Aa, ca, rfl⟩ := own_form hoa
  have hz3 := hb3.size
  have hB3 := hB2.trans (hb3.mono (by omega))
  have P3 := P2.later hb3 (by omega)
  have HOA := Lib.hid hoa
  clear P2 hB2 hoa
  by_cases he : sizeE t = 0
  · have hkl := makeL_len he
    have hll := makeL_le t
    have hck := make_check he
    have hin := make_inv he
    have hcnt : lowF t = true → ((makeL t).length : Int) ≤ 2 * nodesF t := fun h => by
      obtain ⟨h1, h2, h3⟩ := sizeE_zero he
      have := count_low t h1 h
      omega
    have Hcnt := Lib.hid hcnt; have Hin := Lib.hid hin; have Hck := Lib.hid hck; have He := Lib.hid he
    have hb : (sizeE t != 0) = false := by rw [he]; rfl
    rw [← hkl]
    clear hcnt hin hck he hkl
    go_wp2_with fail
    generalize hW : w3.alloc _ = W3
    have hb3' : Below w3.heap.size w3 W3 := by subst hW; exact (Below.refl _ _).alloc (Nat.le_refl _) _
    have hz3' : w3.heap.size < W3.heap.size := by subst hW; simp
    have A3 : At2 W3 w3.heap.size (.slice Aa (makeL t).length ca) (makeS t) := by subst hW; constructor <;> simp [go_sem]
    clear hW
    have P3' := P3.later hb3' (by omega)
    have hB3' := hB3.trans (hb3'.mono (by omega))
    have HOA' := Lib.hid (own_later HOA.out hb3')
    clear P3 hB3 HOA
    refine (ncheck_any W3 _ (makeL t) (makeS t) Aa ca (sts_all HOA'.out hll) (fun b h => h)).mono ?_
    rintro e w4 ⟨rfl, hb4⟩
    rw [Hck.out]
    have hz4 := hb4.size
    have P4 := P3'.later hb4 (by omega)
    have A4 := A3.later hb4 hz3'
    have hB4 := hB3'.trans (hb4.mono (by omega))
    have HOA4 := Lib.hid (own_later HOA'.out hb4)
    clear P3' A3 hB3' HOA'
    obtain ⟨p0, p1, p2, p3, p4, p5, p6, p7⟩ := id P4
    simp only [Nat.zero_add] at p1 p2 p3 p4 p5 p6 p7
    obtain ⟨a0, a1⟩ := id A4
    go_wp2_with fail
    clear p0 p1 p2 p3 p4 p5 p6 p7 a0 a1
    refine (low_any t w4 ok A c (HN.out.later hB4 Hok.out) (HOK _ (by omega)).out).mono ?_
    rintro e w5 ⟨rfl, hb5⟩
    have hz5 := hb5.size
    have A5 := A4.later hb5 (by omega)
    have hB5 := hB4.trans (hb5.mono (by omega))
    have HS5 := Lib.hid (sts_all (own_later HOA4.out hb5) hll)
    have hza : w3.heap.size < w5.heap.size := by omega
    clear P4 A4 hB4 HOA4
    obtain ⟨a0, a1⟩ := id A5
    have h00 : eq4 0 0 0 0 0 0 0 0 = true := rfl
    clear a0 a1
    obtain ⟨a0, a1⟩ := id A5
    cases hl : lowF t
    case' true => have hle := Hcnt.out hl
    all_goals
      clear hl
      go_wp2_with fail
      clear a0 a1
      go_loopg [8] ((makeL t).length) (fun n i wr => ∃ j : Nat, i = .int .i64 j ∧ j + n = (makeL t).length ∧ Below w5.heap.size w5 wr)
      case atStart => exact ⟨0, rfl, by omega, Below.refl _ _⟩
      case round =>
        obtain ⟨j, rfl, hj, hB⟩ := hrel
        have k0 := (hB.cell (p := ⟨w3.heap.size, 0, none⟩) hza).trans A5.f0
        have hzr := hB.size
        by_cases hlt : j < (makeL t).length
        · obtain ⟨g, o, rfl, hg, hcell⟩ := HS5.out.at_ (by omega)
          obtain ⟨f0, f1, f2, f3, f4, f5, f6⟩ := (hcell j hlt).mono (w' := wr) (fun o => hB.cell (p := ⟨g, o, none⟩) hg)
          have hst : (j = 0 ∧ (makeL t)[j] = ⟨5, 0, 0, 0, 0, 0, 0⟩) ∨ (j ≠ 0 ∧ OkS (makeL t).length (makeL t)[j]) := by
            by_cases h0 : j = 0
            · left
              refine ⟨h0, ?_⟩
              have hz := Hin.out.1.zero
              subst h0
              rw [List.getElem?_eq_getElem hlt] at hz
              simpa using hz
            · exact .inr ⟨h0, Hin.out.1.rest j _ (List.getElem?_eq_getElem hlt) h0⟩
          clear hcell
          generalize (makeL t)[j] = s at *
          have fin : ∀ o, Below w5.heap.size w5 (wr.alloc o) := fun o => hB.alloc (by omega) o
          rcases hst with ⟨rfl, rfl⟩ | ⟨h0, ho⟩
          · simp only [Nat.zero_mul, Nat.add_zero] at f0 f1 f2 f3 f4 f5 f6
            go_wp2_with fail
            go_roundg (gk - 1)
            case measure => omega
            case rel => exact ⟨1, by go_num, by omega, fin _⟩
          · obtain ⟨k, s0, s1, s2, s3, nx, ot⟩ := s
            obtain ⟨hk, _, ⟨_, hot⟩, hset⟩ := ho
            simp only at hk hot hset f0 f1 f2 f3 f4 f5 f6
            have hj0 : ((j : Int) == 0) = false := by rw [beq_eq_false_iff_ne]; omega
            rcases hk with rfl | rfl | rfl | rfl
            · have := hot (by omega); subst this
              clear hot hset h0
              go_wp2_with fail
              go_roundg (gk - 1)
              case measure => omega
              case rel => exact ⟨j + 1, by go_num, by omega, fin _⟩
            · obtain ⟨rfl, rfl, rfl, rfl⟩ := hset (by omega)
              clear hot hset h0
              go_wp2_with fail
              go_roundg (gk - 1)
              case measure => omega
              case rel => exact ⟨j + 1, by go_num, by omega, fin _⟩
            · have := hot (by omega); subst this
              obtain ⟨rfl, rfl, rfl, rfl⟩ := hset (by omega)
              clear hot hset h0
              go_wp2_with fail
              go_roundg (gk - 1)
              case measure => omega
              case rel => exact ⟨j + 1, by go_num, by omega, fin _⟩
            · have := hot (by omega); subst this
              obtain ⟨rfl, rfl, rfl, rfl⟩ := hset (by omega)
              clear hot hset h0
              go_wp2_with fail
              go_roundg (gk - 1)
              case measure => omega
              case rel => exact ⟨j + 1, by go_num, by omega, fin _⟩
        · go_wp2_with fail
          refine (works_any wr).mono ?_
          rintro e w6 ⟨rfl, hb6⟩
          go_wp2_with fail
          go_ret
          exact ⟨rfl, (hB5.trans (hB.mono (by omega))).trans (hb6.mono (by omega))⟩
  · have hb : (sizeE t != 0) = true := by rw [bne_iff_ne]; exact he
    have hl0 : makeL t = [] := by rw [makeL, if_neg he]
    have hs0 : makeS t = 0 := by rw [makeS, if_neg he]
    have hk0 : sizeK t = 0 := by
      unfold sizeE at he
      unfold sizeK
      split
      · rfl
      · rename_i h; rw [if_neg h] at he; split
        · rfl
        · rename_i h2; rw [if_neg h2] at he; exact absurd rfl he
    rw [hl0, hs0, hk0]
    clear he hl0 hs0 hk0
    go_wp2_with fail
    generalize hW : w3.alloc _ = W3
    have hb3' : Below w3.heap.size w3 W3 := by subst hW; exact (Below.refl _ _).alloc (Nat.le_refl _) _
    clear hW
    refine (works_any W3).mono ?_
    rintro e w4 ⟨rfl, hb4⟩
    have := hb3'.size
    go_wp2_with fail
    go_ret
    exact ⟨rfl, (hB3.trans (hb3'.mono (by omega))).trans (hb4.mono (by omega))⟩
end Go.Proofs.Ytdpmbanfaigmcaa
