/- The walks of nfa's layer: nothing, set, place. -/
import Derived.Test.YtdpmbanfaigmcaaVLayS
set_option linter.unusedVariables false
set_option linter.unusedSimpArgs false
namespace Go.Proofs.Ytdpmbanfaigmcaa
open Go.RowKit

/-- What a way of laying leaves. -/
def LayPost (w : World) (L base : Nat) (v : Value) (r : Int × List St) (e : Ending) (w' : World) : Prop :=
  e = .returned (.int .i64 r.1) ∧ ∃ v', Layer w' L base v' r.2 ∧ Moves w v v' ∧ Lays L v.ownBlock w w'
/-- The blocks that are read are none of the layer's. -/
def OkL (w : World) (L : Nat) (v : Value) (ok : Nat → Prop) : Prop := ∀ b, ok b → b < w.heap.size ∧ b ≠ L ∧ some b ≠ v.ownBlock
/-- A function of the program lays a tree as layF does. -/
def LayAt (f : Nat) (t : T) : Prop := ∀ (w : World) (ok : Nat → Prop) (A : Option Addr) (c L base : Nat) (v : Value) (l : List St) (to : Int), NodeAt w ok t A c → OkL w L v ok → Layer w L base v l → (layF t to l).2.length ≤ 1000000 →
  Calls Try.prog f #[.pointer (some ⟨L, 0, none⟩), nodeV t A c, .int .i64 to] w (LayPost w L base v (layF t to l))

theorem OkL.later {w w' : World} {L : Nat} {v v' : Value} {ok : Nat → Prop} (h : OkL w L v ok) (hs : w.heap.size ≤ w'.heap.size) (hm : Moves w v v') : OkL w' L v' ok := fun b hb => by
  obtain ⟨h1, h2, h3⟩ := h b hb
  refine ⟨by omega, h2, fun e => ?_⟩
  rcases hm with hm | ⟨g, hg, hle⟩
  · exact h3 (e.trans hm)
  · rw [hg] at e; injection e with e; omega
theorem NodeAt.lays {w w' : World} {L : Nat} {v : Value} {ok : Nat → Prop} {t : T} {A : Option Addr} {c : Nat} (h : NodeAt w ok t A c) (ho : OkL w L v ok) (hl : Lays L v.ownBlock w w') : NodeAt w' ok t A c :=
  h.mono fun b hb => ⟨hb, fun o => hl.cell (ho b hb).1 (ho b hb).2.1 (ho b hb).2.2⟩
theorem OkL.alloc {w : World} {L : Nat} {v : Value} {ok : Nat → Prop} (h : OkL w L v ok) (o : Obj) : OkL (w.alloc o) L v ok := h.later (by simp) (Moves.refl _ _)
theorem Layer.alloc {w : World} {L base : Nat} {v : Value} {l : List St} (h : Layer w L base v l) (o : Obj) : Layer (w.alloc o) L base v l := h.later ((Below.refl _ _).alloc (Nat.le_refl _) _)
theorem Lays.alloc (L : Nat) (r : Option Nat) (w : World) (o : Obj) : Lays L r w (w.alloc o) := .of_below ((Below.refl _ _).alloc (Nat.le_refl _) _)
theorem NodeAt.alloc {w : World} {ok : Nat → Prop} {t : T} {A : Option Addr} {c : Nat} (h : NodeAt w ok t A c) (ho : ∀ b, ok b → b < w.heap.size) (o : Obj) : NodeAt (w.alloc o) ok t A c := h.later ((Below.refl _ _).alloc (Nat.le_refl _) _) ho

set_option maxRecDepth 100000 in
set_option maxHeartbeats 400000 in
theorem nothing_any (t : T) (hk : t.k = 0) : LayAt 67 t := by
  intro w ok A c L base v l to hN ho hL hlen
  have hr : layF t to l = (to, l) := by rw [layF_eq]; simp [hk]
  have Hr := Lib.hid hr; clear hr hk
  go_enter Try.func67, Try.ntmps67
  go_wp2_with fail
  go_ret
  rw [Hr.out]
  exact ⟨rfl, v, hL.alloc _, Moves.refl _ _, Lays.alloc _ _ _ _⟩

set_option maxRecDepth 100000 in
set_option maxHeartbeats 400000 in
theorem set_any (t : T) (hk : t.k = 1) : LayAt 68 t := by
  intro w ok A c L base v l to hN ho hL hlen
  have hr : layF t to l = ((l.length : Int), l ++ [⟨1, t.s0, t.s1, t.s2, t.s3, to, 0⟩]) := by rw [layF_eq]; simp [hk]
  rw [hr] at hlen
  have Hr := Lib.hid hr; clear hr hk
  simp only [List.length_append, List.length_cons, List.length_nil] at hlen
  go_enter Try.func68, Try.ntmps68
  go_wp2_with fail
  refine (state_any _ L base v l ⟨1, t.s0, t.s1, t.s2, t.s3, to, 0⟩ (hL.alloc _) (by omega)).mono ?_
  rintro e w1 ⟨rfl, v1, hL1, hm1, hl1⟩
  go_wp2_with fail
  go_ret
  rw [Hr.out]
  exact ⟨rfl, v1, hL1, (Moves.refl w v).trans (by simp) hm1, (Lays.alloc _ _ _ _).trans (Moves.refl _ _) hl1⟩

set_option maxRecDepth 100000 in
set_option maxHeartbeats 400000 in
theorem place_any (t : T) (hk : t.k = 2 ∨ t.k = 3) : LayAt 69 t := by
  intro w ok A c L base v l to hN ho hL hlen
  rcases hk with hk | hk
  · have hr : layF t to l = ((l.length : Int), l ++ [⟨3, 0, 0, 0, 0, to, 0⟩]) := by rw [layF_eq]; simp [hk]
    rw [hr] at hlen
    have Hr := Lib.hid hr; clear hr
    simp only [List.length_append, List.length_cons, List.length_nil] at hlen
    go_enter Try.func69, Try.ntmps69
    go_wp2_with fail
    refine (state_any _ L base v l ⟨3, 0, 0, 0, 0, to, 0⟩ (hL.alloc _) (by omega)).mono ?_
    rintro e w1 ⟨rfl, v1, hL1, hm1, hl1⟩
    go_wp2_with fail
    go_ret
    rw [Hr.out]
    exact ⟨rfl, v1, hL1, (Moves.refl w v).trans (by simp) hm1, (Lays.alloc _ _ _ _).trans (Moves.refl _ _) hl1⟩
  · have hr : layF t to l = ((l.length : Int), l ++ [⟨4, 0, 0, 0, 0, to, 0⟩]) := by rw [layF_eq]; simp [hk]
    rw [hr] at hlen
    have Hr := Lib.hid hr; clear hr
    simp only [List.length_append, List.length_cons, List.length_nil] at hlen
    go_enter Try.func69, Try.ntmps69
    go_wp2_with fail
    refine (state_any _ L base v l ⟨4, 0, 0, 0, 0, to, 0⟩ (hL.alloc _) (by omega)).mono ?_
    rintro e w1 ⟨rfl, v1, hL1, hm1, hl1⟩
    go_wp2_with fail
    go_ret
    rw [Hr.out]
    exact ⟨rfl, v1, hL1, (Moves.refl w v).trans (by simp) hm1, (Lays.alloc _ _ _ _).trans (Moves.refl _ _) hl1⟩
end Go.Proofs.Ytdpmbanfaigmcaa
