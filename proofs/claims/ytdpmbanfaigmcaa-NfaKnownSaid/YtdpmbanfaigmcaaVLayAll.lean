/- The walks of nfa.kinds and of nfa's layer: lay. -/
import Derived.Test.YtdpmbanfaigmcaaVChoice
import Derived.Deep.RegionWith
import Derived.Deep.DeepMust
import Derived.Laws.EntriesVeiled
import Derived.Shelf.Abstract
set_option linter.unusedVariables false
set_option linter.unusedSimpArgs false
namespace Go.Proofs.Ytdpmbanfaigmcaa
open Go.RowKit Go.Shelf

abbrev fv (f : Nat) : Value := .func (.func f) #[] #[]
abbrev kindsV : Value := .agg #[fv 67, fv 68, fv 69, fv 69, fv 70, fv 71, fv 72]

set_option maxRecDepth 100000 in
set_option maxHeartbeats 1000000 in
theorem kinds_any (w : World) : Calls Try.prog 59 #[] w fun e w' => e = .returned kindsV ∧ Below w.heap.size w w' := by
  go_enter Try.func59, Try.ntmps59
  go_wp2_with fail
  exact bodyPost_ret (v := kindsV) (by simp [results, Try.results59, go_sem]) rfl ⟨rfl, (Below.refl _ _).alloc (Nat.le_refl _) _⟩

set_option maxRecDepth 100000 in
set_option maxHeartbeats 1000000 in
theorem lay_by (f : Nat) (henter : ∀ args w, (callFunc f args).run Try.prog w = .ok (.enter f args) w) (t : T)
    (hix : ∀ w : World, (Instr.index 84 kindsV (.int .i64 t.k)).run Try.prog w = .ok (fv f) w) (h : LayAt f t) : LayAt 41 t := by
  intro w ok A c L base v l to hN ho hL hlen
  have H := Lib.hid h; clear h
  have Hlen := Lib.hid hlen; clear hlen
  go_enter Try.func41, Try.ntmps41
  go_wp2_with fail
  go_region_with (first
    | (go_at_call 59; refine (kinds_any _).mono ?_; rintro e w1 ⟨rfl, hb1⟩; obtain ⟨hc1, hf1⟩ := bcell hb1; have hB1 : Below w.heap.size w w1 := (((Below.refl _ _).alloc (Nat.le_refl _) _).drew).trans (hb1.mono (by simp)))
    | (refine (H.out w1 ok A c L base v l to (hN.later hB1 (fun b hb => (ho b hb).1)) (ho.later hB1.size (Moves.refl _ _)) (hL.later hB1) Hlen.out).mono ?_; rintro e w2 ⟨rfl, v2, hL2, hm2, hl2⟩))
  all_goals
    go_wp2_with fail
    go_ret
    exact ⟨rfl, v2, hL2, (Moves.refl w v).trans hB1.size hm2, (Lays.of_below hB1).trans (Moves.refl _ _) hl2⟩

theorem index0 : ∀ w : World, (Instr.index 84 kindsV (.int .i64 0)).run Try.prog w = .ok (fv 67) w := fun _ => by kernel_rfl
theorem lay_0 (t : T) (hk : t.k = 0) (h : LayAt 67 t) : LayAt 41 t :=
  lay_by 67 (enters_of Try.func67 (by kernel_rfl) rfl) t (by rw [hk]; exact index0) h
theorem index1 : ∀ w : World, (Instr.index 84 kindsV (.int .i64 1)).run Try.prog w = .ok (fv 68) w := fun _ => by kernel_rfl
theorem lay_1 (t : T) (hk : t.k = 1) (h : LayAt 68 t) : LayAt 41 t :=
  lay_by 68 (enters_of Try.func68 (by kernel_rfl) rfl) t (by rw [hk]; exact index1) h
theorem index2 : ∀ w : World, (Instr.index 84 kindsV (.int .i64 2)).run Try.prog w = .ok (fv 69) w := fun _ => by kernel_rfl
theorem lay_2 (t : T) (hk : t.k = 2) (h : LayAt 69 t) : LayAt 41 t :=
  lay_by 69 (enters_of Try.func69 (by kernel_rfl) rfl) t (by rw [hk]; exact index2) h
theorem index3 : ∀ w : World, (Instr.index 84 kindsV (.int .i64 3)).run Try.prog w = .ok (fv 69) w := fun _ => by kernel_rfl
theorem lay_3 (t : T) (hk : t.k = 3) (h : LayAt 69 t) : LayAt 41 t :=
  lay_by 69 (enters_of Try.func69 (by kernel_rfl) rfl) t (by rw [hk]; exact index3) h
theorem index4 : ∀ w : World, (Instr.index 84 kindsV (.int .i64 4)).run Try.prog w = .ok (fv 70) w := fun _ => by kernel_rfl
theorem lay_4 (t : T) (hk : t.k = 4) (h : LayAt 70 t) : LayAt 41 t :=
  lay_by 70 (enters_of Try.func70 (by kernel_rfl) rfl) t (by rw [hk]; exact index4) h
theorem index5 : ∀ w : World, (Instr.index 84 kindsV (.int .i64 5)).run Try.prog w = .ok (fv 71) w := fun _ => by kernel_rfl
theorem lay_5 (t : T) (hk : t.k = 5) (h : LayAt 71 t) : LayAt 41 t :=
  lay_by 71 (enters_of Try.func71 (by kernel_rfl) rfl) t (by rw [hk]; exact index5) h
theorem index6 : ∀ w : World, (Instr.index 84 kindsV (.int .i64 6)).run Try.prog w = .ok (fv 72) w := fun _ => by kernel_rfl
theorem lay_6 (t : T) (hk : t.k = 6) (h : LayAt 72 t) : LayAt 41 t :=
  lay_by 72 (enters_of Try.func72 (by kernel_rfl) rfl) t (by rw [hk]; exact index6) h
/-- nfa's layer lays a tree as layF does. -/
theorem lay_any (t : T) : rightF t = true → LayAt 41 t := by
  induction t using T.ind with
  | h t ih =>
    intro hr
    have ih' : ∀ p ∈ t.ps, LayAt 41 p := fun p hp => ih p hp (right_parts hr p hp)
    rcases right_cases hr with h | h | h | h | h | h | h
    · exact lay_0 t h.1 (nothing_any t h.1)
    · exact lay_1 t h.1 (set_any t h.1)
    · exact lay_2 t h.1 (place_any t (.inl h.1))
    · exact lay_3 t h.1 (place_any t (.inr h.1))
    · exact lay_4 t h.1 (row_any t h.1 hr ih')
    · exact lay_5 t h.1 (choice_any t h.1 hr ih')
    · exact lay_6 t h.1 (repeat_any t h.1 hr ih')
end Go.Proofs.Ytdpmbanfaigmcaa
