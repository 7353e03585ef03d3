/- KeptNfa: walked. -/
import Derived.Test.YtdpmbanfaigmcaaVLentN
import Derived.Test.YtdpmbanfaigmcaaVT
set_option linter.unusedVariables false
set_option linter.unusedSimpArgs false
namespace Go.Proofs.Ytdpmbanfaigmcaa
open Go.RowKit

set_option maxRecDepth 100000 in
set_option maxHeartbeats 2000000 in
theorem keptN_any (w : World) (ok : Nat → Prop) (l n : List St) (sa sb : Int) (A B : Option Addr) (c d : Nat) (ha : StsAt w ok (l ++ List.replicate 5 s77) A c) (hb : StsAt w ok n B d) (hok : ∀ b, ok b → b < w.heap.size) (hl : l.length ≤ 1000000) :
    Calls Try.prog 25 #[nfaV l sa A c, nfaV n sb B d] w fun e w' => e = .returned (.bool (sameM l sa n sb)) ∧ Below w.heap.size w w' := by
  have hln := hb.len
  obtain ⟨g, o, rfl, hg, hcell⟩ := ha.at_ (by simp)
  have hcap := ha.cap
  simp only [List.length_append, List.length_replicate] at hcap
  go_enter Try.func25, Try.ntmps25
  go_wp2_with fail
  generalize hW : (w.alloc _).alloc _ = W0
  have hB0 : Below w.heap.size w W0 := by subst hW; exact ((Below.refl _ _).alloc (Nat.le_refl _) _).alloc (by simp) _
  have hsz : w.heap.size + 2 ≤ W0.heap.size := by subst hW; simp
  have p0 : W0.cell? ⟨w.heap.size, 0, none⟩ = some (.slice (some ⟨g, o, none⟩) l.length c) := by subst hW; simp [go_sem]
  have q0 : W0.cell? ⟨w.heap.size + 1, 0, none⟩ = some (.slice B n.length d) := by subst hW; simp [go_sem]
  clear hW
  refine (same_any W0 ok l n sa sb (some ⟨g, o, none⟩) B c d (ha.take.later hB0 hok) (hb.later hB0 hok) (fun b h => by have := hok b h; omega)).mono ?_
  rintro e w1 ⟨rfl, hb1⟩
  have hB1 : Below w.heap.size w w1 := hB0.trans (hb1.mono (by omega))
  have hs1 := hb1.size
  obtain ⟨hc1, _⟩ := bcell hb1
  rw [← hc1 _ _ (by omega)] at p0 q0
  clear hc1
  cases hs : sameM l sa n sb with
  | false =>
    go_wp2_with fail
    go_ret
    exact ⟨by rw [hs]; rfl, hB1⟩
  | true =>
    have hls : l.length = n.length := by simp [sameM] at hs; rw [hs.2]
    have hcells : ∀ i, l.length ≤ i → i < l.length + 5 → w1.cell? ⟨g, o + i * 7, none⟩ = some (.int .i64 (-77)) := by
      intro i h1 h2
      have := (hcell i (by simp; omega)).f0
      rw [List.getElem_append_right h1, List.getElem_replicate] at this
      exact (hB1.cell (p := ⟨g, _, none⟩) (hok g hg)).trans this
    have hle : n.length + 5 ≤ c := by omega
    have hn6 : n.length ≤ 1000000 := by omega
    have Hcells := Lib.hid hcells
    have h1 : l.length ≤ n.length := by omega
    have h2 : n.length ≤ l.length := by omega
    have Hs := Lib.hid hs
    clear hcells hcell hs hls hcap
    have w5 : IntKind.i64.wrap ((n.length : Int) + 5) = (n.length + 5 : Nat) := by rw [IntKind.wrap_i64]; push_cast; omega
    go_wp2_with fail
    go_loopg [6] 5 (fun k i wr => ∃ (j : Nat), i = .int .i64 (n.length + j : Nat) ∧ j + k = 5 ∧ wr = w1)
    case atStart => exact ⟨0, by simp, rfl, rfl⟩
    case round =>
      obtain ⟨j, rfl, hj, rfl⟩ := hrel
      by_cases hlt : j < 5
      · have f0 := Hcells.out (n.length + j) (by omega) (by omega)
        go_wp2_with fail
        go_roundg (gk - 1)
        case measure => omega
        case rel => exact ⟨j + 1, by go_num, by omega, rfl⟩
      · go_wp2_with fail
        go_ret
        exact ⟨by rw [Hs.out]; rfl, hB1⟩
end Go.Proofs.Ytdpmbanfaigmcaa
