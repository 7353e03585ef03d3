/- works: walked. -/
import Derived.Test.YtdpmbanfaigmcaaVMake
import Derived.Test.YtdpmbanfaigmcaaVRefCheckN
set_option linter.unusedVariables false
set_option linter.unusedSimpArgs false
namespace Go.Proofs.Ytdpmbanfaigmcaa
open Go.RowKit

def tA : T := .mk 1 0 2 0 0 0 0 []
def tW : T := .mk 6 0 0 0 0 1 2 [tA]
def t9 : T := .mk 9 0 0 0 0 0 0 []
def wantW : List St := [⟨5, 0, 0, 0, 0, 0, 0⟩, ⟨1, 0, 2, 0, 0, 0, 0⟩, ⟨2, 0, 0, 0, 0, 1, 0⟩, ⟨1, 0, 2, 0, 0, 2, 0⟩]
theorem tW_E : sizeE tW = 0 := by rfl
theorem tW_L : makeL tW = wantW := by rfl
theorem tW_S : makeS tW = 3 := by rfl
theorem t9_E : sizeE t9 = 107 := by rfl

theorem nodeAt_leaf (w : World) (ok : Nat → Prop) (t : T) (h : t.ps = []) : NodeAt w ok t none 0 :=
  .mk t none 0 (fun _ => none) (fun _ => 0) (by simp [h]) (by simp [h]) (fun e => absurd h e) (fun i p hi => by simp [h] at hi)
theorem sameM_self (l : List St) (s : Int) : sameM l s l s = true := by simp [sameM]
theorem mcheck_W : mcheck wantW 3 = 0 := by rfl
theorem mcheck_nil : mcheck [] 0 = 110 := by rfl

set_option maxRecDepth 100000 in
set_option maxHeartbeats 4000000 in
theorem works_any (w : World) : Calls Try.prog 21 #[] w fun e w' => e = .returned (.bool true) ∧ Below w.heap.size w w' := by
  go_enter Try.func21, Try.ntmps21
  go_wp2_with fail
  generalize hW : (w.alloc _).alloc _ = W0
  have hB0 : Below w.heap.size w W0 := by subst hW; exact ((Below.refl _ _).alloc (Nat.le_refl _) _).alloc (by simp) _
  have hsz : w.heap.size + 1 < W0.heap.size := by subst hW; simp
  have hN : NodeAt W0 (fun b => b < W0.heap.size) tW (some ⟨w.heap.size + 1, 0, none⟩) 1 := by
    refine .mk tW _ 1 (fun _ => none) (fun _ => 0) (by simp [tW, T.ps]) (by simp [tW, T.ps]) (fun _ => ⟨_, _, rfl, hsz, fun i p hi => ?_⟩) (fun i p hi => ?_)
    · have : i = 0 ∧ p = tA := by
        cases i with
        | zero => simp [tW, T.ps] at hi; exact ⟨rfl, hi.symm⟩
        | succ i => simp [tW, T.ps] at hi
      obtain ⟨rfl, rfl⟩ := this
      subst hW
      refine ⟨?_, ?_, ?_, ?_, ?_, ?_, ?_, ?_⟩ <;> simp [go_sem] <;> rfl
    · have : p = tA := by
        cases i with
        | zero => simp [tW, T.ps] at hi; exact hi.symm
        | succ i => simp [tW, T.ps] at hi
      subst this
      exact nodeAt_leaf _ _ _ rfl
  clear hW
  refine (make_any tW W0 _ _ 1 hN (fun b h => h)).mono ?_
  rintro e w1 ⟨v, rfl, ho1, hb1⟩
  rw [tW_E, tW_S]
  rw [tW_L] at ho1
  obtain ⟨A1, c1, rfl⟩ : ∃ A c, v = .slice A 4 c := by
    rcases ho1.2 with ⟨_, h0⟩ | ⟨g, cap, cur, e, _⟩
    · simp [wantW] at h0
    · exact ⟨_, _, e⟩
  have hS1 := stsAt_own (l := wantW) ho1 (by simp [wantW])
  have hB1 : Below w.heap.size w w1 := hB0.trans (hb1.mono (by omega))
  have hs1 := hb1.size
  have h01 : w.heap.size < w1.heap.size := by omega
  clear ho1 hN hB0
  go_wp2_with fail
  generalize hW : (w1.alloc _).alloc _ = W2
  have hb2 : Below w1.heap.size w1 W2 := by subst hW; exact ((Below.refl _ _).alloc (Nat.le_refl _) _).alloc (by simp) _
  have hz2 : w1.heap.size + 2 ≤ W2.heap.size := by subst hW; simp
  have p0 : W2.cell? ⟨w1.heap.size, 0, none⟩ = some (.slice A1 4 c1) := by subst hW; simp [go_sem]
  have p1 : W2.cell? ⟨w1.heap.size, 1, none⟩ = some (.int .i64 3) := by subst hW; simp [go_sem]
  have hS2 : StsAt W2 (fun b => b < W2.heap.size) wantW (some ⟨w1.heap.size + 1, 0, none⟩) 4 := by
    subst hW
    have h := World.ownsRow_lit (base := 0) (e := 47) (size := 7) (w1.alloc (.cells #[.slice A1 4 c1, .int .i64 3] 35)) (stCells wantW).toArray 4 (by simp) (by simp [maxLen]) (by rfl)
    have h2 := stsAt_own (l := wantW) h (by simp [wantW])
    rw [show (w1.alloc (.cells #[.slice A1 4 c1, .int .i64 3] 35)).heap.size = w1.heap.size + 1 by simp] at h2
    exact h2.mono fun b hb => ⟨hb.2, fun o => rfl⟩
  have hS1 := hS1.mono (w' := W2) (ok' := fun b => b < W2.heap.size) fun b hb => ⟨by omega, fun o => hb2.cell (p := ⟨b, o, none⟩) hb.2⟩
  have hB2 : Below w.heap.size w W2 := hB1.trans (hb2.mono (by omega))
  clear hW
  refine (make_any t9 W2 (fun b => b < W2.heap.size) _ 0 (nodeAt_leaf W2 _ t9 rfl) (fun b h => h)).mono ?_
  rintro e w3 ⟨v3, rfl, ho3, hb3⟩
  have hB3 : Below w.heap.size w w3 := hB2.trans (hb3.mono (by omega))
  have hs3 := hb3.size
  have hL3 : makeL t9 = [] := by rfl
  have hS3 : makeS t9 = 0 := by rfl
  rw [hL3] at ho3
  rw [t9_E, hS3]
  have hv : v3 = .slice none 0 0 ∨ ∃ g c, v3 = .slice (some ⟨g, 0, none⟩) 0 c := by
    rcases ho3.2 with ⟨e, _⟩ | ⟨g, cap, cur, e, _⟩
    · exact .inl e
    · exact .inr ⟨g, cap, e⟩
  obtain ⟨A3, c3, rfl⟩ : ∃ A c, v3 = .slice A 0 c := by
    rcases hv with e | ⟨g, c, e⟩
    · exact ⟨_, _, e⟩
    · exact ⟨_, _, e⟩
  obtain ⟨hc3, _⟩ := bcell hb3
  rw [← hc3 _ _ (by omega)] at p0 p1
  have hS1 := hS1.later hb3 (fun b h => h)
  have hS2 := hS2.later hb3 (fun b h => h)
  clear hc3 ho3 hv hL3 hS3 hb3
  generalize hW4 : w3.alloc (.cells #[.slice A3 0 c3, .int .i64 0] 35) = W4
  have hB4 : Below w.heap.size w W4 := by subst hW4; exact hB3.alloc (by omega) _
  have hb4 : Below W2.heap.size w3 W4 := by subst hW4; exact (Below.refl _ _).alloc (by omega) _
  have hz4 : W2.heap.size ≤ W4.heap.size := by subst hW4; simp; omega
  rw [← hb4.cell (p := ⟨w1.heap.size, _, none⟩) (by simp; omega)] at p0 p1
  have hS1 := hS1.later hb4 (fun b h => h)
  have hS2 := hS2.later hb4 (fun b h => h)
  subst hW4
  clear hb4
  go_wp2_with fail
  refine (same_any _ (fun b => b < W2.heap.size) wantW wantW 3 3 A1 (some ⟨w1.heap.size + 1, 0, none⟩) c1 4 hS1 hS2 (fun b h => by omega)).mono ?_
  rintro e w5 ⟨rfl, hb5⟩
  rw [sameM_self]
  have hz5 := hb5.size
  have hB5 : Below w.heap.size w w5 := hB4.trans (hb5.mono (by omega))
  rw [← hb5.cell (p := ⟨w1.heap.size, _, none⟩) (by show w1.heap.size < _; omega)] at p0 p1
  have hS1 := hS1.later hb5 (fun b h => by omega)
  clear hS2 hb5
  go_wp2_with fail
  refine (ncheck_any w5 (fun b => b < W2.heap.size) wantW 3 A1 c1 hS1 (fun b h => by omega)).mono ?_
  rintro e w6 ⟨rfl, hb6⟩
  rw [mcheck_W]
  have hB6 : Below w.heap.size w w6 := hB5.trans (hb6.mono (by omega))
  have hz6 := hb6.size
  clear hb6
  go_wp2_with fail
  refine (ncheck_any w6 (fun b => b < W2.heap.size) [] 0 none 0 ⟨by simp, by simp, fun _ => rfl, fun h => by simp at h⟩ (fun b h => by omega)).mono ?_
  rintro e w7 ⟨rfl, hb7⟩
  rw [mcheck_nil]
  have hB7 : Below w.heap.size w w7 := hB6.trans (hb7.mono (by omega))
  clear hb7
  go_wp2_with fail
  go_ret
  exact ⟨rfl, hB7⟩
end Go.Proofs.Ytdpmbanfaigmcaa
