/- The law NfaChecks: walked. -/
import Derived.Test.YtdpmbanfaigmcaaVWorks
import Derived.Deep.RegionHeld3
set_option linter.unusedVariables false
set_option linter.unusedSimpArgs false
namespace Go.Proofs.Ytdpmbanfaigmcaa
open Go.RowKit

/-- What a region's calls keep: old blocks, and the boxes. -/
theorem keep_held {W w w' : World} {b1 b3 : Nat} {u1 u2 u3 u4 : Value} (hb : Below w.heap.size w w') (h : Below W.heap.size W w) (h1 : w.cell? ⟨b1, 0, none⟩ = some u1) (h2 : w.cell? ⟨b1, 1, none⟩ = some u2) (h3 : w.cell? ⟨b3, 0, none⟩ = some u3) (h4 : w.cell? ⟨b3, 1, none⟩ = some u4) :
    Below W.heap.size W w' ∧ w'.cell? ⟨b1, 0, none⟩ = some u1 ∧ w'.cell? ⟨b1, 1, none⟩ = some u2 ∧ w'.cell? ⟨b3, 0, none⟩ = some u3 ∧ w'.cell? ⟨b3, 1, none⟩ = some u4 :=
  ⟨h.trans (hb.mono h.size), (hb.cell (World.block_lt_of_cell? _ _ h1)).trans h1, (hb.cell (World.block_lt_of_cell? _ _ h2)).trans h2, (hb.cell (World.block_lt_of_cell? _ _ h3)).trans h3, (hb.cell (World.block_lt_of_cell? _ _ h4)).trans h4⟩

set_option maxRecDepth 100000 in
set_option maxHeartbeats 4000000 in
theorem checks_any (w : World) (ok : Nat → Prop) (l : List St) (sa : Int) (A : Option Addr) (c : Nat) (ha : StsAt w ok l A c) (hok : ∀ b, ok b → b < w.heap.size) :
    Calls Try.prog 4 #[nfaV l sa A c] w fun e w' => e = .returned (.bool true) ∧ Below w.heap.size w w' := by
  have hlen := ha.len
  by_cases hbig : 5000 < (l.length : Int)
  · go_enter Try.func4, Try.ntmps4
    go_wp2_with fail
    go_ret
    exact ⟨rfl, ((Below.refl _ _).alloc (Nat.le_refl _) _)⟩
  go_enter Try.func4, Try.ntmps4
  go_wp2_with fail
  generalize hW : w.alloc _ = W0
  have hB0 : Below w.heap.size w W0 := by subst hW; exact ((Below.refl _ _).alloc (Nat.le_refl _) _)
  have hsz : w.heap.size < W0.heap.size := by subst hW; simp
  have p0 : W0.cell? ⟨w.heap.size, 0, none⟩ = some (.slice A l.length c) := by subst hW; simp [go_sem]
  have p1 : W0.cell? ⟨w.heap.size, 1, none⟩ = some (.int .i64 sa) := by subst hW; simp [go_sem]
  clear hW
  refine (lentN_any W0 ok l sa A c (ha.later hB0 hok) (fun b h => by have := hok b h; omega) (by omega)).mono ?_
  rintro e w1 ⟨A', c', rfl, hx, hb1⟩
  have hz1 := hb1.size
  have hB1 : Below w.heap.size w w1 := hB0.trans (hb1.mono (by omega))
  rw [← hb1.cell (p := ⟨w.heap.size, _, none⟩) hsz] at p0 p1
  have ha1 := ha.later hB1 hok
  have hlt1 : w.heap.size < w1.heap.size := by omega
  go_wp2_with fail
  generalize hW : w1.alloc _ = W
  have hb2 : Below w1.heap.size w1 W := by subst hW; exact ((Below.refl _ _).alloc (Nat.le_refl _) _)
  have q0 : W.cell? ⟨w1.heap.size, 0, none⟩ = some (.slice A' l.length c') := by subst hW; simp [go_sem]
  have q1 : W.cell? ⟨w1.heap.size, 1, none⟩ = some (.int .i64 sa) := by subst hW; simp [go_sem]
  have hz2 : w1.heap.size < W.heap.size := by subst hW; simp
  clear hW
  rw [← hb2.cell (p := ⟨w.heap.size, _, none⟩) hlt1] at p0 p1
  have haW := ha1.later hb2 (fun b h => by have := hok b h; omega)
  have hxW := hx.later hb2 (fun b h => h.2)
  have hBW : Below w.heap.size w W := hB1.trans (hb2.mono (by omega))
  have okA : ∀ b, ok b → b < W.heap.size := fun b h => by have := hok b h; omega
  have okX : ∀ b, (W0.heap.size ≤ b ∧ b < w1.heap.size) → b < W.heap.size := fun b h => by omega
  have HA := Lib.hid haW; have HX := Lib.hid hxW; have OA := Lib.hid okA; have OX := Lib.hid okX; have HB := Lib.hid hBW
  have hself : (mcheck l sa == mcheck l sa) = true := by simp
  have hsm := sameM_self l sa
  clear haW hxW okA okX hBW ha1 hx ha hok hb1 hb2 hB1 hB0 hlt1 hz2 hsz hz1
  have hB := Below.refl W.heap.size W
  have arm1 : ∀ w', Below W.heap.size W w' → Calls Try.prog 23 #[nfaV l sa A' c'] w' fun e w'' => e = .returned (.int .i64 (mcheck l sa)) ∧ Below w'.heap.size w' w'' := fun w' h =>
    ncheck_any w' _ l sa A' c' (HX.out.take.later h OX.out) (fun b hb => Nat.lt_of_lt_of_le (OX.out b hb) h.size)
  have arm2 : ∀ w', Below W.heap.size W w' → Calls Try.prog 24 #[nfaV l sa A c] w' fun e w'' => e = .returned (.int .i64 (mcheck l sa)) ∧ Below w'.heap.size w' w'' := fun w' h =>
    rcheck_any w' _ l sa A c (HA.out.later h OA.out) (fun b hb => Nat.lt_of_lt_of_le (OA.out b hb) h.size)
  have arm3 : ∀ w', Below W.heap.size W w' → Calls Try.prog 25 #[nfaV l sa A' c', nfaV l sa A c] w' fun e w'' => e = .returned (.bool (sameM l sa l sa)) ∧ Below w'.heap.size w' w'' := fun w' h =>
    keptN_any w' (fun b => b < W.heap.size) l l sa sa A' A c' c ((HX.out.mono fun b hb => ⟨OX.out b hb, fun _ => rfl⟩).later h (fun b hb => hb)) ((HA.out.mono fun b hb => ⟨OA.out b hb, fun _ => rfl⟩).later h (fun b hb => hb)) (fun b hb => Nat.lt_of_lt_of_le hb h.size) (by omega)
  have Arm1 := Lib.hid arm1; have Arm2 := Lib.hid arm2; have Arm3 := Lib.hid arm3
  clear arm1 arm2 arm3
  go_region_held3 (fun w' => Below W.heap.size W w' ∧ w'.cell? ⟨w.heap.size, 0, none⟩ = some (.slice A l.length c) ∧ w'.cell? ⟨w.heap.size, 1, none⟩ = some (.int .i64 sa) ∧ w'.cell? ⟨w1.heap.size, 0, none⟩ = some (.slice A' l.length c') ∧ w'.cell? ⟨w1.heap.size, 1, none⟩ = some (.int .i64 sa))
    (first
      | ((try go_split_ands); refine keep_held (by assumption) ?_ ?_ ?_ ?_ ?_ <;> assumption)
      | ((try go_split_ands); refine ⟨Below.drew (by assumption), ?_, ?_, ?_, ?_⟩ <;> (rw [World.cell?_drew]; assumption))
      | ((try go_split_ands); refine ⟨?_, ?_, ?_, ?_, ?_⟩ <;> assumption)
      | go_keep)
    (first
      | (go_at_call 23; (try go_split_ands); refine (Arm1.out _ (by assumption)).mono ?_; rintro e w' ⟨rfl, hb⟩)
      | (go_at_call 24; (try go_split_ands); refine (Arm2.out _ (by assumption)).mono ?_; rintro e w' ⟨rfl, hb⟩)
      | (go_at_call 25; (try go_split_ands); refine (Arm3.out _ (by assumption)).mono ?_; rintro e w' ⟨rfl, hb⟩)
      | (go_at_call 21; (try go_split_ands); refine (works_any _).mono ?_; rintro e w' ⟨rfl, hb⟩))
  go_split_ands
  rename_i hfin _ _ _ _
  go_wp2_with fail
  go_ret
  exact ⟨rfl, HB.out.trans (hfin.mono HB.out.size)⟩
end Go.Proofs.Ytdpmbanfaigmcaa
