/- KeptNode: walked. -/
import Derived.Test.YtdpmbanfaigmcaaVLentW
import Derived.StillTailTactics
set_option linter.unusedVariables false
set_option linter.unusedSimpArgs false
namespace Go.Proofs.Ytdpmbanfaigmcaa
open Go.RowKit

set_option maxRecDepth 100000 in
set_option maxHeartbeats 4000000 in
theorem kept_any (t : T) : ∀ (w : World) (ok : Nat → Prop) (A B : Option Addr) (c d : Nat), LentAt w ok t A c → NodeAt w ok t B d → (∀ b, ok b → b < w.heap.size) →
    Calls Try.prog 19 #[nodeV t A c, nodeV t B d] w fun e w' => e = .returned (.bool true) ∧ Below w.heap.size w w' := by
  induction t using T.ind with
  | h t ih =>
    intro w ok A B c d hL hN hok
    have hlen := hN.len
    have hN1 := hL.node
    cases hL with
    | mk _ g _ As cs hc hl hg ha hm hp =>
    have Hih := Lib.hid ih; clear ih
    have heq : eq4 t.s0 t.s1 t.s2 t.s3 t.s0 t.s1 t.s2 t.s3 = true := eq4_true ⟨rfl, rfl, rfl, rfl⟩
    go_enter Try.func19, Try.ntmps19
    go_wp2_with fail
    clear heq
    generalize hW : (w.alloc _).alloc _ = W0
    have hB0 : Below w.heap.size w W0 := by subst hW; exact ((Below.refl _ _).alloc (Nat.le_refl _) _).alloc (by simp) _
    have hsz : w.heap.size + 1 < W0.heap.size := by subst hW; simp
    have p7 : W0.cell? ⟨w.heap.size, 7, none⟩ = some (.slice (some ⟨g, 0, none⟩) t.ps.length c) := by subst hW; simp [go_sem]
    have q7 : W0.cell? ⟨w.heap.size + 1, 7, none⟩ = some (.slice B t.ps.length d) := by subst hW; simp [go_sem]
    clear hW
    go_loopg [5] (t.ps.length) (fun n i wr => ∃ j : Nat, i = .int .i64 j ∧ j + n = t.ps.length ∧ Below w.heap.size w wr ∧ w.heap.size + 1 < wr.heap.size ∧ wr.cell? ⟨w.heap.size, 7, none⟩ = some (.slice (some ⟨g, 0, none⟩) t.ps.length c) ∧ wr.cell? ⟨w.heap.size + 1, 7, none⟩ = some (.slice B t.ps.length d))
    case atStart => exact ⟨0, rfl, by omega, hB0, hsz, p7, q7⟩
    case round =>
      clear hB0 hsz p7 q7
      obtain ⟨j, rfl, hj, hB, hz, p7, q7⟩ := hrel
      by_cases hlt : j < t.ps.length
      · obtain ⟨b, o, rfl, hb, hcell⟩ := hN.part (by omega)
        obtain ⟨A', c', h8, hNj⟩ := hcell j hlt
        have hget : t.ps[j]? = some t.ps[j] := List.getElem?_eq_getElem hlt
        obtain ⟨f0, f1, f2, f3, f4, f5, f6, f7⟩ := h8.mono (w' := wr) (fun o => hB.cell (p := ⟨b, o, none⟩) (hok b hb))
        obtain ⟨g0, g1, g2, g3, g4, g5, g6, g7⟩ := (ha j _ hget).mono (w' := wr) (fun o => hB.cell (p := ⟨g, o, none⟩) (hok g hg))
        have hih := Hih.out t.ps[j] (List.getElem_mem _) wr.drew ok (As j) A' (cs j) c' ((hp j _ hget).mono fun b hb => ⟨hb, fun o => hB.drew.cell (p := ⟨b, o, none⟩) (hok b hb)⟩) (hNj.later hB.drew hok) (fun b h => by have := hok b h; have := hB.drew.size; omega)
        clear hcell hget
        generalize t.ps[j] = p at *
        generalize As j = Aj at *
        generalize cs j = cj at *
        have Hcall := Lib.hid hih; clear hih
        have i1 : (j : Int) < (t.ps.length : Int) := by omega
        have i0 : (0 : Int) ≤ (j : Int) := by omega
        go_wp2_with fail
        go_still_tail 10, (by kernel_rfl)
        change wpList _ _ _ _ _ wr.drew
        have hBd := hB.drew
        have hzd : w.heap.size + 1 < wr.drew.heap.size := by simpa using hz
        have p7d : wr.drew.cell? ⟨w.heap.size, 7, none⟩ = some (.slice (some ⟨g, 0, none⟩) t.ps.length c) := by simpa using p7
        have q7d : wr.drew.cell? ⟨w.heap.size + 1, 7, none⟩ = some (.slice (some ⟨b, o, none⟩) t.ps.length d) := by simpa using q7
        generalize wr.drew = w2 at *
        go_wp2_with fail
        refine Hcall.out.mono ?_
        rintro e w3 ⟨rfl, hb3⟩
        have hz3 := hb3.size
        go_wp2_with fail
        go_roundg (gk - 1)
        case measure => omega
        case rel => exact ⟨j + 1, by go_num, by omega, hBd.trans (hb3.mono (by omega)), by omega, (hb3.cell (p := ⟨w.heap.size, 7, none⟩) (by show w.heap.size < _; omega)).trans p7d, (hb3.cell (p := ⟨w.heap.size + 1, 7, none⟩) hzd).trans q7d⟩
      · have w3 : IntKind.i64.wrap ((t.ps.length : Int) + 3) = (t.ps.length + 3 : Nat) := by rw [IntKind.wrap_i64]; push_cast; omega
        have hmm : ∀ k, k < 3 → wr.cell? ⟨g, (t.ps.length + k) * 8, none⟩ = some (.int .i64 (-77)) ∧ wr.cell? ⟨g, (t.ps.length + k) * 8 + 7, none⟩ = some (.slice none 0 0) := fun k hk =>
          ⟨(hB.cell (p := ⟨g, _, none⟩) (hok g hg)).trans (hm k hk).1, (hB.cell (p := ⟨g, _, none⟩) (hok g hg)).trans (hm k hk).2⟩
        have Hmm := Lib.hid hmm
        clear hmm
        go_wp2_with fail
        go_loopg [7] 3 (fun k i w2 => ∃ (j : Nat), i = .int .i64 (t.ps.length + j : Nat) ∧ j + k = 3 ∧ w2 = wr)
        case atStart => exact ⟨0, by simp, rfl, rfl⟩
        case round =>
          obtain ⟨k, rfl, hk, rfl⟩ := hrel
          by_cases hlt3 : k < 3
          · obtain ⟨f0, f7⟩ := Hmm.out k hlt3
            go_wp2_with fail
            go_roundg (gk - 1)
            case measure => omega
            case rel => exact ⟨k + 1, by go_num, by omega, rfl⟩
          · go_wp2_with fail
            go_ret
            exact ⟨rfl, hB⟩
end Go.Proofs.Ytdpmbanfaigmcaa
