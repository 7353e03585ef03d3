/- vouchlaw11.limits: walked. -/
import Derived.Test.YtdpmbanfaigmcaaVKindsA
import Derived.Deep.RegionLaw
set_option linter.unusedVariables false
set_option linter.unusedSimpArgs false
namespace Go.Proofs.Ytdpmbanfaigmcaa
open Go.RowKit

/-- A node in a box. -/
structure Box (w : World) (b : Nat) (x : Nd) : Prop where
  at8 : At8 w b 0 x.1 x.2.1 x.2.2
  lt : b < w.heap.size
  own : Own w x
theorem Box.later {w w' : World} {b : Nat} {x : Nd} (h : Box w b x) (hb : Below w.heap.size w w') : Box w' b x := ⟨h.at8.later hb h.lt, Nat.lt_of_lt_of_le h.lt hb.size, h.own.later hb⟩
theorem Box.new {w W : World} (x : Nd) (hx : Own w x) (hW : W = w.alloc (.cells (ncell x).toArray 27)) : Box W w.heap.size x := by
  have hb : Below w.heap.size w W := by subst hW; exact (Below.refl _ _).alloc (Nat.le_refl _) _
  exact ⟨At8.one x hW, by subst hW; simp, hx.later hb⟩
theorem Box.cells {w : World} {b : Nat} {x : Nd} (h : Box w b x) : w.cell? ⟨b, 0, none⟩ = some (.int .i64 x.1.k) ∧ w.cell? ⟨b, 1, none⟩ = some (.int .u64 x.1.s0) ∧ w.cell? ⟨b, 2, none⟩ = some (.int .u64 x.1.s1) ∧ w.cell? ⟨b, 3, none⟩ = some (.int .u64 x.1.s2) ∧ w.cell? ⟨b, 4, none⟩ = some (.int .u64 x.1.s3) ∧ w.cell? ⟨b, 5, none⟩ = some (.int .i64 x.1.mn) ∧ w.cell? ⟨b, 6, none⟩ = some (.int .i64 x.1.mx) ∧ w.cell? ⟨b, 7, none⟩ = some (.slice x.2.1 x.1.ps.length x.2.2) := by
  obtain ⟨f0, f1, f2, f3, f4, f5, f6, f7⟩ := h.at8
  simp only [Nat.zero_add] at f1 f2 f3 f4 f5 f6 f7
  exact ⟨f0, f1, f2, f3, f4, f5, f6, f7⟩

theorem ownN_later {w w' : World} {base n : Nat} {v : Value} {xs : List Value} (h : w.ownsRow base 27 8 v n xs) (hb : Below w.heap.size w w') : w'.ownsRow base 27 8 v n xs :=
  h.kept (row := none) ⟨hb.os, hb.tape, hb.output, hb.size, fun k hk _ => hb.block k hk⟩ (by cases hv : v.ownBlock <;> simp)
/-- A row that grows in a box. -/
structure GrowR (B : Nat) (Wb : World) (br n : Nat) (L : List Nd) (A : Option Addr) (c : Nat) (w : World) : Prop where
  f0 : w.cell? ⟨br, 0, none⟩ = some (.int .i64 4)
  f1 : w.cell? ⟨br, 1, none⟩ = some (.int .u64 0)
  f2 : w.cell? ⟨br, 2, none⟩ = some (.int .u64 0)
  f3 : w.cell? ⟨br, 3, none⟩ = some (.int .u64 0)
  f4 : w.cell? ⟨br, 4, none⟩ = some (.int .u64 0)
  f5 : w.cell? ⟨br, 5, none⟩ = some (.int .i64 0)
  f6 : w.cell? ⟨br, 6, none⟩ = some (.int .i64 0)
  f7 : w.cell? ⟨br, 7, none⟩ = some (.slice A n c)
  z7 : w.frozen? ⟨br, 7, none⟩ = false
  lt : br < w.heap.size
  ge : B ≤ br
  ne : (Value.slice A n c).ownBlock ≠ some br
  own : w.ownsRow B 27 8 (.slice A n c) n (ncells L)
  nodes : ∀ x ∈ L, NodeAt w (fun b => b < B) x.1 x.2.1 x.2.2
  bel : Below B Wb w
  len : L.length = n
  hB : B ≤ w.heap.size
theorem GrowR.push {B : Nat} {Wb : World} {br n : Nat} {L : List Nd} {A A' : Option Addr} {c c' : Nat} {w w0 w1 : World} (h : GrowR B Wb br n L A c w) (hb : Below w.heap.size w w0) (t : T) (ht : t.ps = [])
    (h1 : w1.ownsRow B 27 8 (.slice A' (n + 1) c') (n + 1) (ncells L ++ ncell (t, none, 0))) (h2 : w0.grownBy w1 (Value.slice A n c).ownBlock) (h3 : (Value.slice A n c).ownBlock = (Value.slice A' (n + 1) c').ownBlock ∨ (Value.slice A' (n + 1) c').ownBlock = some w0.heap.size) :
    GrowR B Wb br (n + 1) (L ++ [(t, none, 0)]) A' c' (w1.setCell ⟨br, 7, none⟩ (.slice A' (n + 1) c')) := by
  have hz := hb.size
  have hlt := h.lt
  have hblk : ∀ b, b < w.heap.size → some b ≠ (Value.slice A n c).ownBlock → w1.heap[b]? = w.heap[b]? := fun b hb' hne => (h2.block b (by omega) hne).trans (hb.block b hb')
  have hbr : w1.heap[br]? = w.heap[br]? := hblk br hlt (fun e => h.ne e.symm)
  have keep : ∀ o, o ≠ 7 → (w1.setCell ⟨br, 7, none⟩ (.slice A' (n + 1) c')).cell? ⟨br, o, none⟩ = w.cell? ⟨br, o, none⟩ := fun o ho =>
    (World.cell?_setCell_other _ _ _ _ (by simp <;> omega)).trans (World.cell?_of_block (w := w) hbr)
  have k7 : w1.cell? ⟨br, 7, none⟩ = some (.slice A n c) := (World.cell?_of_block (w := w) hbr).trans h.f7
  have hA : ∀ k, (Value.slice A n c).ownBlock = some k → B ≤ k := fun k hk => (h.own.lt k hk).1
  have hlow : ∀ b, b < B → w1.heap[b]? = w.heap[b]? := fun b hb' => hblk b (by have := h.hB; omega) (fun e => by have := hA b e.symm; omega)
  have hz1 : w.heap.size ≤ w1.heap.size := Nat.le_trans hz h2.size
  refine ⟨(keep 0 (by omega)).trans h.f0, (keep 1 (by omega)).trans h.f1, (keep 2 (by omega)).trans h.f2, (keep 3 (by omega)).trans h.f3, (keep 4 (by omega)).trans h.f4, (keep 5 (by omega)).trans h.f5, (keep 6 (by omega)).trans h.f6, World.cell?_setCell_same _ _ _ k7, ?_, by simp; omega, h.ge, ?_, ?_, ?_, ?_, by simp [h.len], by have := h.hB; simp; omega⟩
  · rw [World.frozen?_setCell]; exact (World.frozen?_of_block (w := w) (a := ⟨br, 7, none⟩) hbr).trans h.z7
  · rcases h3 with e | e
    · rw [← e]; exact h.ne
    · rw [e]; intro e'; simp only [Option.some.injEq] at e'; omega
  · rw [show ncells (L ++ [(t, none, 0)]) = ncells L ++ ncell (t, none, 0) from ncells_snoc _ _]
    exact h1.kept (row := some br) ⟨rfl, rfl, rfl, by simp, fun k hk hne => Below.heap_setCell _ _ _ _ (fun e => hne (by rw [e]))⟩ (.inr (by
      rcases h3 with e | e
      · rw [← e]; exact h.ne
      · rw [e]; intro e'; simp only [Option.some.injEq] at e'; omega))
  · intro x hx
    rcases List.mem_append.1 hx with hx | hx
    · exact (h.nodes x hx).mono fun b hb' => ⟨hb', fun o => World.cell?_of_block (w := w) (a := ⟨b, o, none⟩) ((Below.heap_setCell _ _ _ _ (by have := h.ge; simp; omega)).trans (hlow b hb'))⟩
    · simp only [List.mem_singleton] at hx; subst hx; exact nodeAt_leaf _ _ _ ht
  · exact (h.bel.trans ⟨h2.os.trans hb.os, h2.tape.trans hb.tape, h2.output.trans hb.output, hz1, hlow⟩).setCell (by have := h.ge; exact this) _
theorem GrowR.node {B : Nat} {Wb : World} {br n : Nat} {L : List Nd} {A : Option Addr} {c : Nat} {w : World} (h : GrowR B Wb br n L A c w) (hn : 0 < n) (hn2 : n ≤ 17592186044416) : Own w (.mk 4 0 0 0 0 0 0 (L.map (·.1)), A, c) := by
  obtain ⟨g, hA, hg, hc⟩ : ∃ g, A = some ⟨g, 0, none⟩ ∧ g < w.heap.size ∧ n ≤ c := by
    rcases h.own.2 with ⟨_, h0⟩ | ⟨g, cap, cur, e, hb, hh, hcap, _⟩
    · omega
    · simp only [Value.slice.injEq] at e
      exact ⟨g, e.1, by (rcases Nat.lt_or_ge g w.heap.size with h' | h'; exact h'; rw [Array.getElem?_eq_none h'] at hh; simp at hh), by omega⟩
  subst hA
  have h8 : ∀ (i : Nat) (x : Nd), L[i]? = some x → At8 w g (i * 8) x.1 x.2.1 x.2.2 := fun i x hi => .of fun j hj => by
    have hl := (List.getElem?_eq_some_iff.1 hi).1
    have hx : L[i] = x := (List.getElem?_eq_some_iff.1 hi).2
    rw [h.own.cellAt (i * 8 + j) (by have := h.len; omega), ncells_get L i j hl hj, hx]
  have hB := h.hB
  have hm := node_lit (W := w) (ok := fun b => b < w.heap.size) (g := g) (.mk 4 0 0 0 0 0 0 (L.map (·.1))) L rfl (by rw [h.len]; exact hn2) hg h8 (fun i x hi => (h.nodes x (List.mem_of_getElem? hi)).mono fun b hb => ⟨by omega, fun o => rfl⟩)
  exact hm.wider (by show (L.map (·.1)).length ≤ c; rw [List.length_map, h.len]; exact hc)
set_option maxRecDepth 100000 in
set_option maxHeartbeats 400000 in
theorem krep_ok (m n : Int) (t : T) (A : Option Addr) (c : Nat) (w : World) (ok : Nat → Prop) (h : NodeAt w ok t A c) (hok : ∀ b, ok b → b < w.heap.size) : Calls Try.prog 48 #[.int .i64 m, .int .i64 n, nodeV t A c] w fun e w' => (∃ x : Nd, e = .returned (nodeV x.1 x.2.1 x.2.2) ∧ NodeAt w' (fun b => ok b ∨ w.heap.size ≤ b ∧ b < w'.heap.size) x.1 x.2.1 x.2.2) ∧ Below w.heap.size w w' := by
  have H := Lib.hid h; have Hok := Lib.hid hok; clear h hok
  go_enter Try.func48, Try.ntmps48
  go_wp2_with fail
  generalize hW2 : World.alloc (World.alloc w _) _ = W2
  have hb2 : Below w.heap.size w W2 := by subst hW2; exact ((Below.refl _ _).alloc (Nat.le_refl _) _).alloc (by simp) _
  have hz2 : w.heap.size + 1 + 1 = W2.heap.size := by subst hW2; simp
  have q1 : W2.cell? ⟨w.heap.size + 1, 0, none⟩ = some (.int .i64 6) ∧ W2.cell? ⟨w.heap.size + 1, 1, none⟩ = some (.int .u64 0) ∧ W2.cell? ⟨w.heap.size + 1, 2, none⟩ = some (.int .u64 0) ∧ W2.cell? ⟨w.heap.size + 1, 3, none⟩ = some (.int .u64 0) ∧ W2.cell? ⟨w.heap.size + 1, 4, none⟩ = some (.int .u64 0) ∧ W2.cell? ⟨w.heap.size + 1, 5, none⟩ = some (.int .i64 m) ∧ W2.cell? ⟨w.heap.size + 1, 6, none⟩ = some (.int .i64 n) ∧ W2.cell? ⟨w.heap.size + 1, 7, none⟩ = some (.slice (some ⟨w.heap.size + 1 + 1, 0, none⟩) 1 1) := by
    subst hW2; refine ⟨?_, ?_, ?_, ?_, ?_, ?_, ?_, ?_⟩ <;> simp [go_sem]
  clear hW2
  have hb3 : Below w.heap.size w (W2.alloc (.cells (ncells [(t, A, c)]).toArray 27)) := hb2.alloc (by omega) _
  have hown := node_lit (W := W2.alloc (.cells (ncells [(t, A, c)]).toArray 27)) (ok := fun b => ok b ∨ w.heap.size ≤ b ∧ b < (W2.alloc (.cells (ncells [(t, A, c)]).toArray 27)).heap.size) (g := W2.heap.size) (repT m n t) [(t, A, c)] rfl (by simp) (.inr ⟨by omega, by simp⟩) (at8_lit _ rfl) (fun i x hx => by
    have := List.mem_of_getElem? hx
    simp only [List.mem_singleton] at this
    subst this
    exact H.out.mono fun b hb => ⟨.inl hb, fun o => hb3.cell (p := ⟨b, o, none⟩) (Hok.out b hb)⟩)
  rw [hz2] at q1 ⊢
  obtain ⟨q0, q1, q2, q3, q4, q5, q6, q7⟩ := q1
  have hlt : w.heap.size + 1 < W2.heap.size := by omega
  exact bodyPost_ret (v := nodeV (repT m n t) (some ⟨W2.heap.size, 0, none⟩) 1) (by simp [results, Try.results48, go_sem, hlt, q0, q1, q2, q3, q4, q5, q6, q7, repT, T.k, T.s0, T.s1, T.s2, T.s3, T.mn, T.mx, T.ps]) rfl ⟨⟨(repT m n t, some ⟨W2.heap.size, 0, none⟩, 1), rfl, hown⟩, hb3⟩
/-- A node in a box that is written again and again: the blocks that it reads are other ones. -/
structure Two (b c : Nat) (x y : Nd) (w : World) : Prop where
  bx : Blk w b (ncell x).toArray
  cx : Blk w c (ncell y).toArray
  x : NodeAt w (fun k => k < w.heap.size ∧ k ≠ b ∧ k ≠ c) x.1 x.2.1 x.2.2
  y : NodeAt w (fun k => k < w.heap.size ∧ k ≠ b ∧ k ≠ c) y.1 y.2.1 y.2.2
theorem Two.later {b c : Nat} {x y : Nd} {w w' : World} (h : Two b c x y w) (hb : Below w.heap.size w w') : Two b c x y w' :=
  ⟨h.bx.keep (hb.block b h.bx.lt), h.cx.keep (hb.block c h.cx.lt), h.x.mono fun k hk => ⟨⟨Nat.lt_of_lt_of_le hk.1 hb.size, hk.2⟩, fun o => hb.cell (p := ⟨k, o, none⟩) hk.1⟩, h.y.mono fun k hk => ⟨⟨Nat.lt_of_lt_of_le hk.1 hb.size, hk.2⟩, fun o => hb.cell (p := ⟨k, o, none⟩) hk.1⟩⟩
theorem Two.swap {b c : Nat} {x y : Nd} {w : World} (h : Two b c x y w) : Two c b y x w := ⟨h.cx, h.bx, h.y.mono fun k hk => ⟨⟨hk.1, hk.2.2, hk.2.1⟩, fun _ => rfl⟩, h.x.mono fun k hk => ⟨⟨hk.1, hk.2.2, hk.2.1⟩, fun _ => rfl⟩⟩
/-- The eight cells of a box written. -/
def writeN (w : World) (b : Nat) (x : Nd) : World :=
  (((((((w.setCell ⟨b, 0, none⟩ (.int .i64 x.1.k)).setCell ⟨b, 1, none⟩ (.int .u64 x.1.s0)).setCell ⟨b, 2, none⟩ (.int .u64 x.1.s1)).setCell ⟨b, 3, none⟩ (.int .u64 x.1.s2)).setCell ⟨b, 4, none⟩ (.int .u64 x.1.s3)).setCell ⟨b, 5, none⟩ (.int .i64 x.1.mn)).setCell ⟨b, 6, none⟩ (.int .i64 x.1.mx)).setCell ⟨b, 7, none⟩ (.slice x.2.1 x.1.ps.length x.2.2)
theorem writeN_blk {w : World} {b : Nat} {y : Nd} (h : Blk w b (ncell y).toArray) (x : Nd) : Blk (writeN w b x) b (ncell x).toArray := by
  have h1 := (((((((h.set 0 (.int .i64 x.1.k)).set 1 (.int .u64 x.1.s0)).set 2 (.int .u64 x.1.s1)).set 3 (.int .u64 x.1.s2)).set 4 (.int .u64 x.1.s3)).set 5 (.int .i64 x.1.mn)).set 6 (.int .i64 x.1.mx)).set 7 (.slice x.2.1 x.1.ps.length x.2.2)
  unfold writeN; simpa [ncell] using h1
theorem writeN_other (w : World) (b : Nat) (x : Nd) (k : Nat) (hk : k ≠ b) : (writeN w b x).heap[k]? = w.heap[k]? := by
  unfold writeN
  iterate 7 rw [Below.heap_setCell _ _ _ _ hk]
  exact Below.heap_setCell _ _ _ _ hk
theorem writeN_size (w : World) (b : Nat) (x : Nd) : (writeN w b x).heap.size = w.heap.size := by simp [writeN]
theorem writeN_below {B : Nat} {w0 w : World} {b : Nat} (h : Below B w0 w) (hb : B ≤ b) (x : Nd) : Below B w0 (writeN w b x) := by
  unfold writeN
  exact (((((((h.setCell hb _).setCell hb _).setCell hb _).setCell hb _).setCell hb _).setCell hb _).setCell hb _).setCell hb _
/-- A new node into the first box. -/
theorem Two.write {b c : Nat} {x y z : Nd} {w : World} (h : Two b c x y w) (hbc : b ≠ c) (hz : NodeAt w (fun k => k < w.heap.size ∧ k ≠ b ∧ k ≠ c) z.1 z.2.1 z.2.2) : Two b c z y (writeN w b z) := by
  have hk : ∀ k, (k < w.heap.size ∧ k ≠ b ∧ k ≠ c) → (k < (writeN w b z).heap.size ∧ k ≠ b ∧ k ≠ c) ∧ ∀ o, (writeN w b z).cell? ⟨k, o, none⟩ = w.cell? ⟨k, o, none⟩ := fun k hk => ⟨⟨by rw [writeN_size]; exact hk.1, hk.2⟩, fun o => World.cell?_of_block (w := w) (a := ⟨k, o, none⟩) (writeN_other w b z k hk.2.1)⟩
  exact ⟨writeN_blk h.bx z, h.cx.keep (writeN_other w b z c (fun e => hbc e.symm)), hz.mono hk, h.y.mono hk⟩
theorem Blk.cells8 {w : World} {b : Nat} {x : Nd} (h : Blk w b (ncell x).toArray) : (w.cell? ⟨b, 0, none⟩ = some (.int .i64 x.1.k) ∧ w.cell? ⟨b, 1, none⟩ = some (.int .u64 x.1.s0) ∧ w.cell? ⟨b, 2, none⟩ = some (.int .u64 x.1.s1) ∧ w.cell? ⟨b, 3, none⟩ = some (.int .u64 x.1.s2) ∧ w.cell? ⟨b, 4, none⟩ = some (.int .u64 x.1.s3) ∧ w.cell? ⟨b, 5, none⟩ = some (.int .i64 x.1.mn) ∧ w.cell? ⟨b, 6, none⟩ = some (.int .i64 x.1.mx) ∧ w.cell? ⟨b, 7, none⟩ = some (.slice x.2.1 x.1.ps.length x.2.2)) ∧ ∀ o, w.frozen? ⟨b, o, none⟩ = false := by
  refine ⟨⟨?_, ?_, ?_, ?_, ?_, ?_, ?_, ?_⟩, h.froz⟩ <;> (rw [h.cell]; rfl)

theorem krep_zero (m n : Int) (w : World) : Calls Try.prog 48 #[.int .i64 m, .int .i64 n, .agg #[.int .i64 0, .int .u64 0, .int .u64 0, .int .u64 0, .int .u64 0, .int .i64 0, .int .i64 0, .slice none 0 0]] w fun e w' => Gives w' e ∧ Below w.heap.size w w' := krep_any m n zeroT none 0 w (own_leaf _ _ rfl)

set_option maxRecDepth 100000 in
set_option maxHeartbeats 8000000 in
theorem limits_any (w : World) : Calls Try.prog 30 #[] w fun e w' => e = .returned (.bool true) ∧ Below w.heap.size w w' := by
  go_enter Try.func30, Try.ntmps30
  go_wp2_with fail
  refine (kset_any 97 (by omega) (by omega) w).mono ?_
  rintro e w1 ⟨⟨⟨ta, Aa, ca⟩, rfl, hxa⟩, hb1⟩
  have Hxa := Lib.hid hxa; clear hxa
  go_upto_region 2 with fail
  generalize hW : w1.alloc _ = W1
  have hBa := Box.new (w := w1) (W := W1) (ta, Aa, ca) Hxa.out (by rw [← hW]; rfl)
  have hB1 : Below w.heap.size w W1 := by subst hW; exact hb1.alloc hb1.size _
  clear hW Hxa
  have HBa := Lib.hid hBa; clear hBa
  generalize hb0 : w1.heap.size = ba at *
  have hz1 := hB1.size
  clear hb0 hb1
  go_wp2_with fail
  generalize hW : W1.alloc _ = W2
  have hb2 : Below W1.heap.size W1 W2 := by subst hW; exact (Below.refl _ _).alloc (Nat.le_refl _) _
  have hz2 : W1.heap.size < W2.heap.size := by subst hW; simp
  have hv : ∀ m, m < 4 → ∃ v : Int, W2.cell? ⟨W1.heap.size, m, none⟩ = some (.int .i64 v) := fun m hm => by
    subst hW
    rcases (show m = 0 ∨ m = 1 ∨ m = 2 ∨ m = 3 by omega) with rfl | rfl | rfl | rfl <;> exact ⟨_, by simp [go_sem]; rfl⟩
  have Hv := Lib.hid hv; clear hv hW
  have HB2 := Lib.hid (HBa.out.later hb2)
  have hB2 := hB1.trans (hb2.mono (by omega))
  clear HBa hb2 hB1
  go_loopg [16] 4 (fun n i wr => ∃ m : Nat, i = .int .i64 m ∧ m + n = 4 ∧ Below W2.heap.size W2 wr)
  case atStart => exact ⟨0, rfl, rfl, Below.refl _ _⟩
  case round =>
    obtain ⟨m, rfl, hm, hB3⟩ := hrel
    have hz3 := hB3.size
    by_cases hlm : m < 4
    · obtain ⟨v, hv⟩ := Hv.out m hlm
      have hv3 := (hB3.cell (p := ⟨W1.heap.size, m, none⟩) hz2).trans hv
      clear hv
      have hd4 : decide ((m : Int) < 4) = true := by rw [decide_eq_true_eq]; omega
      have HBr := Lib.hid (HB2.out.later hB3)
      obtain ⟨p0, p1, p2, p3, p4, p5, p6, p7⟩ := HBr.out.cells
      have hbr := HBr.out.lt
      go_upto_region 5 with fail
      clear hv3 hd4
      go_cut [48, 49, 50] (fun v n i wx => ∃ (g6 : Nat) (L6 : List Nd), v = .slice (some ⟨g6, 0, none⟩) 6 6 ∧ n = .int .i64 6 ∧ i = .int .i64 0 ∧ Lst wr wx L6 6 g6)
      case first =>
        have Hacc := Lib.hid (Owns.later (show Owns wr [(ta, Aa, ca), (zeroT, none, 0)] from two_owns HBr.out.own (own_leaf _ _ rfl)) ((Below.refl _ _).drew))
        generalize wr = W0 at *
        have hBd := (Below.refl W0.heap.size W0).drew
        go_region_held3 (fun w' => Below W0.heap.size W0 w' ∧ ∀ b o, b < W0.heap.size → w'.cell? ⟨b, o, none⟩ = W0.cell? ⟨b, o, none⟩) (first | exact below_held (by assumption) | exact below_held (Below.alloc (by assumption) (Below.size (by assumption)) _) | go_keep) ((go_at_call 48; (try go_split_ands); (first | with_reducible refine (krep_zero _ _ _).mono ?_ | refine (krep_any _ _ _ _ _ _ (Hacc.out (_, _, _) (by simp))).mono ?_); rintro e w' ⟨⟨⟨t9, A9, c9⟩, rfl, hx9⟩, hb⟩; have Hacc := Lib.hid (Hacc.out.cons hb hx9); have hBd := hBd.trans (hb.mono hBd.size); clear hx9))
        all_goals go_wp2_with fail
        all_goals go_meet
        exact ⟨_, _, rfl, rfl, rfl, Lst.lit [(_, _, _), (_, _, _), (_, _, _), (_, _, _), (_, _, _), (_, _, _)] rfl rfl (fun y hy => by
          simp only [List.mem_cons, List.not_mem_nil, or_false] at hy
          rcases hy with rfl | rfl | rfl | rfl | rfl | rfl <;> exact Hacc.out _ (by simp)) hBd⟩
      case rest =>
        obtain ⟨g6, L6, rfl, rfl, rfl, hL6⟩ := hcut
        have hbel6 := hL6.bel
        have hz6 := hbel6.size
        have HL6 := Lib.hid hL6
        have hBm := hB3.trans (hbel6.mono hz3)
        clear hL6 hbel6 p0 p1 p2 p3 p4 p5 p6 p7
        go_wp2_with fail
        go_loopg [50] 6 (fun n i wr => ∃ m : Nat, i = .int .i64 m ∧ m + n = 6 ∧ Below wc.heap.size wc wr)
        case atStart => exact ⟨0, rfl, rfl, Below.refl _ _⟩
        case round =>
          obtain ⟨k, rfl, hk, hB6⟩ := hrel
          have HLm := Lib.hid (HL6.out.later hB6)
          have hzm := hB6.size
          by_cases hlk : k < 6
          · obtain ⟨⟨t6, A6, c6⟩, hx6⟩ : ∃ x, L6[k]? = some x := ⟨_, List.getElem?_eq_getElem (by rw [HL6.out.len]; exact hlk)⟩
            have h86 := HLm.out.at8 k _ hx6
            have hown6 := HLm.out.own _ (List.mem_of_getElem? hx6)
            have hgm : g6 < wr.heap.size := HLm.out.lt
            have HO6 := Lib.hid hown6; clear hown6 hx6
            obtain ⟨f0, f1, f2, f3, f4, f5, f6, f7⟩ := id h86
            simp only [Nat.zero_add] at f0 f1 f2 f3 f4 f5 f6 f7
            go_wp2_with fail
            generalize hW : wr.alloc _ = W6
            have hb6 : Below wr.heap.size wr W6 := by subst hW; exact (Below.refl _ _).alloc (Nat.le_refl _) _
            have P6 : At8 W6 wr.heap.size 0 t6 A6 c6 := by subst hW; constructor <;> simp [go_sem]
            have hzz6 : wr.heap.size < W6.heap.size := by subst hW; simp
            clear hW f0 f1 f2 f3 f4 f5 f6 f7 h86
            refine (makes_any t6 W6 _ A6 c6 (HO6.out.later hb6) (fun b h => h)).mono ?_
            rintro e w7 ⟨rfl, hb7⟩
            have hz7 := hb7.size
            have P7 := P6.later hb7 hzz6
            obtain ⟨f0, f1, f2, f3, f4, f5, f6, f7⟩ := id P7
            simp only [Nat.zero_add] at f0 f1 f2 f3 f4 f5 f6 f7
            go_wp2_with fail
            refine (may_law t6 w7 _ A6 c6 ((HO6.out.later hb6).later hb7) (fun b h => h)).mono ?_
            rintro e w8 ⟨rfl, hb8⟩
            go_wp2_with fail
            go_roundg (5 - k)
            case measure => omega
            case rel => exact ⟨k + 1, by go_num, by omega, ((hB6.trans (hb6.mono (by omega))).trans (hb7.mono (by omega))).trans (hb8.mono (by omega))⟩
          · go_wp2_with fail
            go_roundg (3 - m)
            case measure => omega
            case rel => exact ⟨m + 1, by go_num, by omega, hBm.trans (hB6.mono (by omega))⟩
    · have HB4 := Lib.hid (HB2.out.later hB3)
      have hB4 := hB2.trans (hB3.mono (by omega))
      generalize wr = W3 at *
      go_wp2_with fail
      clear HB2 hB2 hB3
      generalize hW : W3.alloc _ = W4
      have hb4 : Below W3.heap.size W3 W4 := by subst hW; exact (Below.refl _ _).alloc (Nat.le_refl _) _
      have hz4 : W3.heap.size < W4.heap.size := by subst hW; simp
      have hv : ∀ m, m < 3 → ∃ v : Nat, W4.cell? ⟨W3.heap.size, m, none⟩ = some (.int .i64 v) ∧ v ≤ 16 := fun m hm => by
        subst hW
        rcases (show m = 0 ∨ m = 1 ∨ m = 2 by omega) with rfl | rfl | rfl
        · exact ⟨14, by simp [go_sem], by omega⟩
        · exact ⟨15, by simp [go_sem], by omega⟩
        · exact ⟨16, by simp [go_sem], by omega⟩
      have Hv3 := Lib.hid hv; clear hv hW
      have HB5 := Lib.hid (HB4.out.later hb4)
      have hB5 := hB4.trans (hb4.mono (by omega))
      clear HB4 hb4 hB4
      go_loopg [66] 3 (fun n i wr => ∃ m : Nat, i = .int .i64 m ∧ m + n = 3 ∧ Below W4.heap.size W4 wr)
      case atStart => exact ⟨0, rfl, rfl, Below.refl _ _⟩
      case round =>
        obtain ⟨m, rfl, hm, hB3⟩ := hrel
        have hz3 := hB3.size
        by_cases hlm : m < 3
        · obtain ⟨v, hv, hv16⟩ := Hv3.out m hlm
          have hv3 := (hB3.cell (p := ⟨W3.heap.size, m, none⟩) hz4).trans hv
          clear hv
          have hd4 : decide ((m : Int) < 3) = true := by rw [decide_eq_true_eq]; omega
          have HBr := Lib.hid (HB5.out.later hB3)
          obtain ⟨p0, p1, p2, p3, p4, p5, p6, p7⟩ := HBr.out.cells
          have hbr := HBr.out.lt
          go_wp2_with fail
          clear hv3 hd4 p0 p1 p2 p3 p4 p5 p6 p7
          refine (krep_any 16 16 ta Aa ca wr HBr.out.own).mono ?_
          rintro e w5 ⟨⟨⟨t5, A5, c5⟩, rfl, hx5⟩, hb5⟩
          have hz5 := hb5.size
          go_wp2_with fail
          refine (krep_any 255 255 t5 A5 c5 w5 hx5).mono ?_
          rintro e w6 ⟨⟨⟨t6, A6, c6⟩, rfl, hx6⟩, hb6⟩
          have hz6 := hb6.size
          clear hx5
          have hBw := (hB3.trans (hb5.mono (by omega))).trans (hb6.mono (by omega))
          go_upto_region 16 with fail
          generalize hW : (w6.alloc _).alloc _ = W7
          have hG : GrowR w6.heap.size w6 (w6.heap.size + 1) 1 [(t6, A6, c6)] (some ⟨w6.heap.size, 0, none⟩) 1 W7 := by
            have hbel : Below w6.heap.size w6 W7 := by subst hW; exact ((Below.refl _ _).alloc (Nat.le_refl _) _).alloc (by simp) _
            refine ⟨?_, ?_, ?_, ?_, ?_, ?_, ?_, ?_, ?_, by subst hW; simp, by omega, by simp [Value.ownBlock], ?_, fun x hx => ?_, hbel, rfl, hbel.size⟩
            · subst hW; simp [go_sem]
            · subst hW; simp [go_sem]
            · subst hW; simp [go_sem]
            · subst hW; simp [go_sem]
            · subst hW; simp [go_sem]
            · subst hW; simp [go_sem]
            · subst hW; simp [go_sem]
            · subst hW; simp [go_sem]
            · subst hW; simp [go_sem]
            · have h := World.ownsRow_lit (base := w6.heap.size) (e := 27) (size := 8) w6 (ncells [(t6, A6, c6)]).toArray 1 (by simp) (by simp [maxLen]) (by rfl)
              subst hW
              exact h.alloc _
            · simp only [List.mem_singleton] at hx; subst hx
              exact NodeAt.wide hx6 hbel (fun b h => h) (fun b h => h)
          clear hW hx6
          have HG := Lib.hid hG; clear hG
          generalize hbr7 : w6.heap.size + 1 = br at *
          have hzW7 := HG.out.hB
          have hlt7 := HG.out.lt
          go_wp2_with fail
          go_loopg [9] v (fun n i wr => ∃ (j : Nat) (L : List Nd) (A : Option Addr) (c : Nat), i = .int .i64 j ∧ j + n = v ∧ GrowR w6.heap.size w6 br (j + 1) L A c wr)
          case atStart => exact ⟨0, _, _, _, rfl, by omega, HG.out⟩
          case round =>
            obtain ⟨j, L, A, c, rfl, hj, hG⟩ := hrel
            have HG := Lib.hid hG
            have f7 := hG.f7
            have z7 := hG.z7
            have ltr := hG.lt
            have hBr := hG.hB
            by_cases hlj : j < v
            · have hdj : decide ((j : Int) < (v : Int)) = true := by rw [decide_eq_true_eq]; omega
              have ha1 : IntKind.i64.wrap (97 + (j : Int)) = 97 + j := by simp [IntKind.wrap, IntKind.signed, IntKind.bits]; omega
              have ha2 : IntKind.u8.wrap (97 + (j : Int)) = 97 + j := by simp [IntKind.wrap, IntKind.signed, IntKind.bits]; omega
              clear hG
              go_upto_region 19 with fail
              go_region_law (first | (go_simp; go_at_call 47; refine (kset_leaf (97 + j) (by omega) (by omega) _).mono ?_; rintro e w9 ⟨⟨t9, ht9, rfl⟩, hb9⟩; have Ht9 := Lib.hid ht9; clear ht9; have hz9 := hb9.size; have f79 := (hb9.cell (p := ⟨br, 7, none⟩) (by simpa using ltr)).trans ((World.cell?_drew _ _).trans f7); have ltr9 : br < w9.heap.size := by (have := hb9.size; simp at this; omega)) | (refine step_append_at w6.heap.size rfl (.tmp 81) (.tmp 86) 25 27 _ 8 80 rfl Try.underlying25 Try.infoNode rfl (by omega) (by omega) (.slice A (j + 1) c) (j + 1) 1 (ncells L) (ncell (t9, none, 0)) ⟨w9.heap.size, 0, none⟩ 1 rfl rfl (by omega) rfl (ncell_new w9 (t9, none, 0) _ rfl) (ncell_one _) ((ownN_later HG.out.own ((Below.refl _ _).drew.trans (hb9.mono (by simp)))).alloc _) (by simp at hz9 ⊢; omega) (by omega) (fun g cap w1 hown1 hg1 hat1 => ?_); have hnb : some br ≠ (Value.slice A (j + 1) c).ownBlock := fun e => HG.out.ne e.symm; have hh : w1.heap[br]? = wr.heap[br]? := (hg1.block br (by simp; omega) hnb).trans ((((Below.refl w9.heap.size w9).alloc (Nat.le_refl _) _).block br ltr9).trans (hb9.block br (by simpa using ltr))); have k0 : w1.cell? ⟨br, 7, none⟩ = some (.slice A (j + 1) c) := (World.cell?_of_block (w := wr) (a := ⟨br, 7, none⟩) hh).trans f7; have e0 : w1.frozen? ⟨br, 7, none⟩ = false := (World.frozen?_of_block (w := wr) (a := ⟨br, 7, none⟩) hh).trans z7; clear hh))
              all_goals
                have hbw : Below wr.heap.size wr (w9.alloc (.cells (ncell (t9, none, 0)).toArray 27)) := ((Below.refl _ _).drew.trans (hb9.mono (by simp))).alloc (by simp at hz9 ⊢; omega) _
                have hP := HG.out.push hbw t9 Ht9.out hown1 (by simpa [ncell, T.k, Ht9.out] using hg1) (hat1.imp (fun e => e) (fun e => by rw [e]; rfl))
                clear hbw
                go_wp2_with fail
                go_roundg (gk - 1)
                case measure => omega
                case rel => exact ⟨j + 1, _, _, _, by go_num, by omega, hP⟩
            · have hvj : v = j := by omega
              have hown := hG.node (by omega) (by omega)
              have hmk : ∀ w', Below wr.heap.size wr w' → Calls Try.prog 3 #[.agg #[.int .i64 4, .int .u64 0, .int .u64 0, .int .u64 0, .int .u64 0, .int .i64 0, .int .i64 0, .slice A (j + 1) c]] w' fun e w'' => e = .returned (.bool true) ∧ Below w'.heap.size w' w'' := fun w' hb => by
                have h := makes_any (.mk 4 0 0 0 0 0 0 (L.map fun x : Nd => x.1)) w' _ A c (hown.later hb) (fun b h => h)
                simpa only [nodeV, T.k, T.s0, T.s1, T.s2, T.s3, T.mn, T.mx, T.ps, List.length_map, hG.len] using h
              have hmy : ∀ w', Below wr.heap.size wr w' → Calls Try.prog 5 #[.agg #[.int .i64 4, .int .u64 0, .int .u64 0, .int .u64 0, .int .u64 0, .int .i64 0, .int .i64 0, .slice A (j + 1) c]] w' fun e w'' => e = .returned (.bool true) ∧ Below w'.heap.size w' w'' := fun w' hb => by
                have h := may_law (.mk 4 0 0 0 0 0 0 (L.map fun x : Nd => x.1)) w' _ A c (hown.later hb) (fun b h => h)
                simpa only [nodeV, T.k, T.s0, T.s1, T.s2, T.s3, T.mn, T.mx, T.ps, List.length_map, hG.len] using h
              obtain ⟨g0, g1, g2, g3, g4, g5, g6, g7, _⟩ := hG
              have Hmk := Lib.hid hmk; have Hmy := Lib.hid hmy
              clear hmk hmy hown hvj
              go_wp2_with fail
              refine (Hmk.out wr (Below.refl _ _)).mono ?_
              rintro e w8 ⟨rfl, hb8⟩
              obtain ⟨hc8, _⟩ := bcell hb8
              have h0 := (hc8 br 0 ltr).trans g0; have h1 := (hc8 br 1 ltr).trans g1; have h2 := (hc8 br 2 ltr).trans g2; have h3 := (hc8 br 3 ltr).trans g3
              have h4 := (hc8 br 4 ltr).trans g4; have h5 := (hc8 br 5 ltr).trans g5; have h6 := (hc8 br 6 ltr).trans g6; have h7 := (hc8 br 7 ltr).trans g7
              have hz8 := hb8.size
              clear hc8 g0 g1 g2 g3 g4 g5 g6 g7
              go_wp2_with fail
              refine (Hmy.out w8 hb8).mono ?_
              rintro e w9 ⟨rfl, hb9⟩
              go_wp2_with fail
              go_roundg (2 - m)
              case measure => omega
              case rel => exact ⟨m + 1, by go_num, by omega, ((hBw.trans (HG.out.bel.mono (by omega))).trans (hb8.mono (by omega))).trans (hb9.mono (by omega))⟩
        · have HB6 := Lib.hid (HB5.out.later hB3)
          have hB6 := hB5.trans (hB3.mono (by omega))
          generalize wr = W5 at *
          clear HB5 hB5 hB3
          obtain ⟨p0, p1, p2, p3, p4, p5, p6, p7⟩ := HB6.out.cells
          have hba5 := HB6.out.lt
          go_wp2_with fail
          clear p0 p1 p2 p3 p4 p5 p6 p7
          generalize hW : W5.alloc _ = W6
          have hZ : Blk W6 W5.heap.size (ncell (zeroT, none, 0)).toArray := by subst hW; exact Blk.new W5 _
          have hb6 : Below W5.heap.size W5 W6 := by subst hW; exact (Below.refl _ _).alloc (Nat.le_refl _) _
          have hz6 : W6.heap.size = W5.heap.size + 1 := by subst hW; simp
          clear hW
          refine (krep_ok 1 1 ta Aa ca W6 (fun b => b < W5.heap.size) (NodeAt.later hb6 (fun b h => h) (show NodeAt W5 (fun b => b < W5.heap.size) ta Aa ca from HB6.out.own)) (fun b h => by omega)).mono ?_
          rintro e w7 ⟨⟨⟨t1, A1, c1⟩, rfl, hx1⟩, hb7⟩
          have hz7 := hb7.size
          have Hx1 := Lib.hid hx1; have HZ := Lib.hid hZ
          have Hz6 := Lib.hid hz6
          have hz6a : W5.heap.size < W6.heap.size := by omega
          clear hx1 hZ hz6
          go_upto_region 25 with fail
          generalize hW : w7.alloc _ = W8
          have hb8 : Below w7.heap.size w7 W8 := by subst hW; exact (Below.refl _ _).alloc (Nat.le_refl _) _
          have hC : Blk W8 w7.heap.size (ncell (t1, A1, c1)).toArray := by subst hW; exact Blk.new w7 _
          have hz8 : w7.heap.size < W8.heap.size := by subst hW; simp
          have hT : Two W5.heap.size w7.heap.size (zeroT, none, 0) (t1, A1, c1) W8 :=
            ⟨(HZ.out.keep (hb7.block _ hz6a)).keep (hb8.block _ (by omega)), hC, nodeAt_leaf _ _ _ rfl, Hx1.out.mono fun k hk => ⟨by
              have := Hz6.out
              rcases hk with hk | hk
              · exact ⟨by omega, by omega, by omega⟩
              · exact ⟨by omega, by omega, by omega⟩, fun o => hb8.cell (p := ⟨k, o, none⟩) (by have := Hz6.out; rcases hk with hk | hk <;> (show k < _; omega))⟩⟩
          have HT := Lib.hid hT
          have hB8 := (hb6.trans (hb7.mono (by omega))).trans (hb8.mono (by omega))
          generalize hb11 : w7.heap.size = b11 at *
          have hne : W5.heap.size ≠ b11 := by omega
          have hge : W5.heap.size ≤ b11 := by omega
          generalize hb10 : W5.heap.size = b10 at *
          clear hW hT hC hb8 hb7 hb6 HZ Hx1 hz6a hz7 hb11
          go_wp2_with fail
          go_loopg [12] 60 (fun n i wr => ∃ (q : Nat) (x y : Nd), i = .int .i64 q ∧ q + n = 60 ∧ Two b10 b11 x y wr ∧ Below b10 W5 wr)
          case atStart => exact ⟨0, _, _, rfl, rfl, HT.out, hB8⟩
          case round =>
            obtain ⟨q, ⟨t2, A2, c2⟩, ⟨t3, A3, c3⟩, rfl, hq, hT, hB9⟩ := hrel
            clear HT hB8
            have HT := Lib.hid hT
            by_cases hlq : q < 60
            · obtain ⟨⟨f0, f1, f2, f3, f4, f5, f6, f7⟩, _⟩ := hT.bx.cells8
              have l10 := hT.bx.lt
              have l11 := hT.cx.lt
              clear hT
              go_wp2_with fail
              refine (krep_ok 255 255 t2 A2 c2 wr _ HT.out.x (fun b h => h.1)).mono ?_
              rintro e w9 ⟨⟨⟨t4, A4, c4⟩, rfl, hx4⟩, hb9⟩
              have hz9 := hb9.size
              have hx4' : NodeAt w9 (fun k => k < w9.heap.size ∧ k ≠ b10 ∧ k ≠ b11) t4 A4 c4 := hx4.mono fun k hk => ⟨by
                rcases hk with ⟨hk1, hk2, hk3⟩ | hk
                · exact ⟨by omega, hk2, hk3⟩
                · exact ⟨by omega, by omega, by omega⟩, fun _ => rfl⟩
              have HT9 := Lib.hid (HT.out.later hb9)
              have Hx4 := Lib.hid hx4'; clear hx4 hx4' f0 f1 f2 f3 f4 f5 f6 f7
              obtain ⟨⟨f0, f1, f2, f3, f4, f5, f6, f7⟩, hz⟩ := HT9.out.bx.cells8
              have z0 := hz 0; have z1 := hz 1; have z2 := hz 2; have z3 := hz 3; have z4 := hz 4; have z5 := hz 5; have z6 := hz 6; have z7 := hz 7
              clear hz
              have hB10 := hB9.trans (hb9.mono (by omega))
              go_upto_region 29 with fail
              generalize hW : World.setCell _ _ _ = Wa
              have hTa : Two b10 b11 (t4, A4, c4) (t3, A3, c3) Wa := by rw [← hW]; exact HT9.out.write hne Hx4.out
              have hBa : Below b10 W5 Wa := by rw [← hW]; exact writeN_below hB10 (Nat.le_refl _) (t4, A4, c4)
              clear hW f0 f1 f2 f3 f4 f5 f6 f7 z0 z1 z2 z3 z4 z5 z6 z7 HT9 Hx4 hB9 HT hB10
              obtain ⟨⟨f0, f1, f2, f3, f4, f5, f6, f7⟩, _⟩ := hTa.cx.cells8
              have la := hTa.bx.lt
              have lb := hTa.cx.lt
              have HTa := Lib.hid hTa; clear hTa
              go_wp2_with fail
              refine (krep_ok 2 2 t3 A3 c3 Wa _ HTa.out.y (fun b h => h.1)).mono ?_
              rintro e wb ⟨⟨⟨t5, A5, c5⟩, rfl, hx5⟩, hbb⟩
              have hzb := hbb.size
              have hx5' : NodeAt wb (fun k => k < wb.heap.size ∧ k ≠ b11 ∧ k ≠ b10) t5 A5 c5 := hx5.mono fun k hk => ⟨by
                rcases hk with ⟨hk1, hk2, hk3⟩ | hk
                · exact ⟨by omega, hk3, hk2⟩
                · exact ⟨by omega, by omega, by omega⟩, fun _ => rfl⟩
              have HTb := Lib.hid (HTa.out.later hbb).swap
              have Hx5 := Lib.hid hx5'; clear hx5 hx5' f0 f1 f2 f3 f4 f5 f6 f7
              obtain ⟨⟨f0, f1, f2, f3, f4, f5, f6, f7⟩, hz⟩ := HTb.out.bx.cells8
              have z0 := hz 0; have z1 := hz 1; have z2 := hz 2; have z3 := hz 3; have z4 := hz 4; have z5 := hz 5; have z6 := hz 6; have z7 := hz 7
              clear hz
              have hBb := hBa.trans (hbb.mono (by omega))
              have hTc : Two b10 b11 (t4, A4, c4) (t5, A5, c5) (writeN wb b11 (t5, A5, c5)) := (HTb.out.write (fun e => hne e.symm) Hx5.out).swap
              have hBc : Below b10 W5 (writeN wb b11 (t5, A5, c5)) := writeN_below hBb hge _
              have HTc := Lib.hid hTc; have HBc := Lib.hid hBc
              clear hTc hBc
              go_wp2_with fail
              go_roundg (gk - 1)
              case measure => omega
              case rel => exact ⟨q + 1, _, _, by go_num, by omega, HTc.out, HBc.out⟩
            · have HBf := Lib.hid (HB6.out.later (by rw [hb10]; exact hB9))
              obtain ⟨⟨f0, f1, f2, f3, f4, f5, f6, f7⟩, _⟩ := hT.bx.cells8
              have l10 := hT.bx.lt
              have l11 := hT.cx.lt
              have hox : Own wr (t2, A2, c2) := hT.x.mono fun k hk => ⟨hk.1, fun _ => rfl⟩
              have hoy : Own wr (t3, A3, c3) := hT.y.mono fun k hk => ⟨hk.1, fun _ => rfl⟩
              have Hox := Lib.hid hox; have Hoy := Lib.hid hoy; clear hox hoy hT
              have hz9 := hB9.size
              go_wp2_with fail
              refine (makes_any t2 wr _ A2 c2 Hox.out (fun b h => h)).mono ?_
              rintro e wa ⟨rfl, hba⟩
              have hza := hba.size
              have HTa := Lib.hid (HT.out.later hba)
              have l10a : b10 < wa.heap.size := by omega
              have l11a : b11 < wa.heap.size := by omega
              clear f0 f1 f2 f3 f4 f5 f6 f7
              obtain ⟨⟨g0, g1, g2, g3, g4, g5, g6, g7⟩, _⟩ := HTa.out.cx.cells8
              go_wp2_with fail
              refine (makes_any t3 wa _ A3 c3 (Hoy.out.later hba) (fun b h => h)).mono ?_
              rintro e wb ⟨rfl, hbb⟩
              have hzb := hbb.size
              have HTb := Lib.hid (HTa.out.later hbb)
              have HBb := Lib.hid ((HBf.out.later hba).later hbb)
              have l10b : b10 < wb.heap.size := by omega
              have hbab := HBb.out.lt
              clear g0 g1 g2 g3 g4 g5 g6 g7
              obtain ⟨⟨f0, f1, f2, f3, f4, f5, f6, f7⟩, _⟩ := HTb.out.bx.cells8
              obtain ⟨p0, p1, p2, p3, p4, p5, p6, p7⟩ := HBb.out.cells
              have Hoxb := Lib.hid ((Hox.out.later hba).later hbb)
              go_wp2_with fail
              generalize hW : wb.alloc _ = Wc
              have hOw := own_lit (w := wb) (W := Wc) [(t2, A2, c2), (ta, Aa, ca)] (by rw [← hW]; rfl) (by simp) (two_owns Hoxb.out HBb.out.own) (.mk 4 0 0 0 0 0 0 [t2, ta]) rfl
              have hbc : Below wb.heap.size wb Wc := by subst hW; exact (Below.refl _ _).alloc (Nat.le_refl _) _
              have hzc : wb.heap.size < Wc.heap.size := by subst hW; simp
              have HOw := Lib.hid hOw
              clear hW hOw f0 f1 f2 f3 f4 f5 f6 f7 p0 p1 p2 p3 p4 p5 p6 p7
              refine (makes_any (.mk 4 0 0 0 0 0 0 [t2, ta]) Wc _ (some ⟨wb.heap.size, 0, none⟩) 2 HOw.out (fun b h => h)).mono ?_
              rintro e wd ⟨rfl, hbd⟩
              have hzd := hbd.size
              have HTd := Lib.hid ((HTb.out.later hbc).later hbd)
              have Hoxd := Lib.hid ((Hoxb.out.later hbc).later hbd)
              have l10d : b10 < wd.heap.size := by omega
              obtain ⟨⟨f0, f1, f2, f3, f4, f5, f6, f7⟩, _⟩ := HTd.out.bx.cells8
              go_wp2_with fail
              refine (krep_any 0 255 t2 A2 c2 wd Hoxd.out).mono ?_
              rintro e we ⟨⟨⟨t6, A6, c6⟩, rfl, hx6⟩, hbe⟩
              have hze := hbe.size
              clear f0 f1 f2 f3 f4 f5 f6 f7
              go_wp2_with fail
              refine (makes_any t6 we _ A6 c6 hx6 (fun b h => h)).mono ?_
              rintro e wf ⟨rfl, hbf⟩
              have hzf := hbf.size
              clear hx6
              go_wp2_with fail
              refine (works_any wf).mono ?_
              rintro e wg ⟨rfl, hbg⟩
              have hbig := ((((((hB9.trans (hba.mono (by omega))).trans (hbb.mono (by omega))).trans (hbc.mono (by omega))).trans (hbd.mono (by omega))).trans (hbe.mono (by omega))).trans (hbf.mono (by omega))).trans (hbg.mono (by omega))
              have hfin := hB6.trans (hbig.mono (by have := hB6.size; omega))
              clear hbig
              go_wp2_with fail
              go_ret
              exact ⟨rfl, hfin⟩
end Go.Proofs.Ytdpmbanfaigmcaa
