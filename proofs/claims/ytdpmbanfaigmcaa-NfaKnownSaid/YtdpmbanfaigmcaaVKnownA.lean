/- NfaKnown's helpers: set, repeat: walked. -/
import Derived.Test.YtdpmbanfaigmcaaVPartsW
set_option linter.unusedVariables false
set_option linter.unusedSimpArgs false
namespace Go.Proofs.Ytdpmbanfaigmcaa
open Go.RowKit

abbrev Nd := T × Option Addr × Nat
/-- A node reads, whatever block is read lying in the world. -/
def Own (w : World) (x : Nd) : Prop := NodeAt w (fun b => b < w.heap.size) x.1 x.2.1 x.2.2
def Owns (w : World) (L : List Nd) : Prop := ∀ x ∈ L, Own w x
theorem Own.later {w w' : World} {x : Nd} (h : Own w x) (hb : Below w.heap.size w w') : Own w' x := NodeAt.wide h hb (fun b h => h) (fun b h => Nat.lt_of_lt_of_le h hb.size)
theorem Owns.later {w w' : World} {L : List Nd} (h : Owns w L) (hb : Below w.heap.size w w') : Owns w' L := fun x hx => (h x hx).later hb
theorem Owns.cons {w w' : World} {L : List Nd} (h : Owns w L) (hb : Below w.heap.size w w') {x : Nd} (hx : Own w' x) : Owns w' (x :: L) := fun y hy => by
  rcases List.mem_cons.1 hy with rfl | hy
  · exact hx
  · exact (h y hy).later hb
theorem own_leaf (w : World) (t : T) (h : t.ps = []) : Own w (t, none, 0) := nodeAt_leaf w _ t h
/-- Some node is handed out. -/
def Gives (w' : World) (e : Ending) : Prop := ∃ x : Nd, e = .returned (nodeV x.1 x.2.1 x.2.2) ∧ Own w' x
/-- A literal block of nodes. -/
theorem at8_lit {w W : World} (L : List Nd) (hW : W = w.alloc (.cells (ncells L).toArray 27)) : ∀ (i : Nat) (x : Nd), L[i]? = some x → At8 W w.heap.size (i * 8) x.1 x.2.1 x.2.2 := fun i x hi => .of fun j hj => by
  have hl := (List.getElem?_eq_some_iff.1 hi).1
  have hx : L[i] = x := (List.getElem?_eq_some_iff.1 hi).2
  rw [hW, World.cell?_alloc_new, List.getElem?_toArray, ncells_get L i j hl hj, hx]
theorem own_lit {w W : World} (L : List Nd) (hW : W = w.alloc (.cells (ncells L).toArray 27)) (hl : L.length ≤ 17592186044416) (H : Owns w L) (R : T) (hps : R.ps = L.map (·.1)) : Own W (R, some ⟨w.heap.size, 0, none⟩, L.length) := by
  have hb : Below w.heap.size w W := by subst hW; exact (Below.refl _ _).alloc (Nat.le_refl _) _
  have hz : w.heap.size < W.heap.size := by subst hW; simp
  exact node_lit R L hps hl hz (at8_lit L hW) (fun i x hi => (H x (List.mem_of_getElem? hi)).later hb)

set_option maxRecDepth 100000 in
set_option maxHeartbeats 400000 in
theorem kset_leaf (c : Int) (h0 : 64 ≤ c) (h1 : c < 128) (w : World) : Calls Try.prog 47 #[.int .u8 c] w fun e w' => (∃ t : T, t.ps = [] ∧ e = .returned (nodeV t none 0)) ∧ Below w.heap.size w w' := by
  have hq : c.tdiv 64 = 1 := by rw [Int.tdiv_eq_ediv_of_nonneg (by omega)]; omega
  have hr : c.tmod 64 = c - 64 := by rw [Int.tmod_eq_emod_of_nonneg (by omega)]; omega
  go_enter Try.func47, Try.ntmps47
  go_wp2_with fail
  exact bodyPost_ret (v := nodeV (.mk 1 0 (IntKind.u64.wrap (2 ^ (c - 64).toNat)) 0 0 0 0 []) none 0) (by simp [results, Try.results47, go_sem, T.k, T.s0, T.s1, T.s2, T.s3, T.mn, T.mx, T.ps]) rfl ⟨⟨.mk 1 0 (IntKind.u64.wrap (2 ^ (c - 64).toNat)) 0 0 0 0 [], rfl, rfl⟩, ((Below.refl _ _).alloc (Nat.le_refl _) _).alloc (by simp) _⟩
theorem kset_any (c : Int) (h0 : 64 ≤ c) (h1 : c < 128) (w : World) : Calls Try.prog 47 #[.int .u8 c] w fun e w' => Gives w' e ∧ Below w.heap.size w w' :=
  (kset_leaf c h0 h1 w).mono fun e w' ⟨⟨t, ht, he⟩, hb⟩ => ⟨⟨(t, none, 0), he, own_leaf _ _ ht⟩, hb⟩

set_option maxRecDepth 100000 in
set_option maxHeartbeats 400000 in
theorem krep_any (m n : Int) (t : T) (A : Option Addr) (c : Nat) (w : World) (h : NodeAt w (fun b => b < w.heap.size) t A c) : Calls Try.prog 48 #[.int .i64 m, .int .i64 n, nodeV t A c] w fun e w' => Gives w' e ∧ Below w.heap.size w w' := by
  have H := Lib.hid h; clear h
  go_enter Try.func48, Try.ntmps48
  go_wp2_with fail
  generalize hW2 : World.alloc (World.alloc w _) _ = W2
  have hb2 : Below w.heap.size w W2 := by subst hW2; exact ((Below.refl _ _).alloc (Nat.le_refl _) _).alloc (by simp) _
  have hz2 : w.heap.size + 1 + 1 = W2.heap.size := by subst hW2; simp
  have q1 : W2.cell? ⟨w.heap.size + 1, 0, none⟩ = some (.int .i64 6) ∧ W2.cell? ⟨w.heap.size + 1, 1, none⟩ = some (.int .u64 0) ∧ W2.cell? ⟨w.heap.size + 1, 2, none⟩ = some (.int .u64 0) ∧ W2.cell? ⟨w.heap.size + 1, 3, none⟩ = some (.int .u64 0) ∧ W2.cell? ⟨w.heap.size + 1, 4, none⟩ = some (.int .u64 0) ∧ W2.cell? ⟨w.heap.size + 1, 5, none⟩ = some (.int .i64 m) ∧ W2.cell? ⟨w.heap.size + 1, 6, none⟩ = some (.int .i64 n) ∧ W2.cell? ⟨w.heap.size + 1, 7, none⟩ = some (.slice (some ⟨w.heap.size + 1 + 1, 0, none⟩) 1 1) := by
    subst hW2; refine ⟨?_, ?_, ?_, ?_, ?_, ?_, ?_, ?_⟩ <;> simp [go_sem]
  clear hW2
  have hx : Own W2 (t, A, c) := NodeAt.wide H.out hb2 (fun b h => h) (fun b h => by omega)
  have hown := own_lit (w := W2) [(t, A, c)] rfl (by simp) (fun y hy => by simp at hy; subst hy; exact hx) (repT m n t) rfl
  rw [hz2] at q1 ⊢
  obtain ⟨q0, q1, q2, q3, q4, q5, q6, q7⟩ := q1
  have hlt : w.heap.size + 1 < W2.heap.size := by omega
  exact bodyPost_ret (v := nodeV (repT m n t) (some ⟨W2.heap.size, 0, none⟩) 1) (by simp [results, Try.results48, go_sem, hlt, q0, q1, q2, q3, q4, q5, q6, q7, repT, T.k, T.s0, T.s1, T.s2, T.s3, T.mn, T.mx, T.ps]) rfl ⟨⟨_, rfl, hown⟩, hb2.alloc (by omega) _⟩
end Go.Proofs.Ytdpmbanfaigmcaa
