/- LentNfa: walked. -/
import Derived.Test.YtdpmbanfaigmcaaVLent
set_option linter.unusedVariables false
set_option linter.unusedSimpArgs false
namespace Go.Proofs.Ytdpmbanfaigmcaa
open Go.RowKit

theorem grown_cells {W w1 : World} (hg : W.grownBy w1 none) : (∀ b o, b < W.heap.size → w1.cell? ⟨b, o, none⟩ = W.cell? ⟨b, o, none⟩) ∧ (∀ b o, b < W.heap.size → w1.frozen? ⟨b, o, none⟩ = W.frozen? ⟨b, o, none⟩) ∧ W.heap.size ≤ w1.heap.size :=
  ⟨fun b o h => World.cell?_of_block (w := W) (hg.block b h (by simp)), fun b o h => World.frozen?_of_block (w := W) (hg.block b h (by simp)), hg.size⟩
abbrev s77 : St := ⟨-77, 0, 0, 0, 0, 0, 0⟩
/-- The three boxes of LentNfa: what came in, the result, the copy. -/
structure LentB (n : Nat) (sa : Int) (wr : World) (x v : Value) : Prop where
  p0 : wr.cell? ⟨n, 0, none⟩ = some x
  q0 : wr.cell? ⟨n + 1 + 1, 0, none⟩ = some v
  q1 : wr.cell? ⟨n + 1 + 1, 1, none⟩ = some (.int .i64 sa)
  qf : wr.frozen? ⟨n + 1 + 1, 0, none⟩ = false
  r0 : wr.cell? ⟨n + 1, 0, none⟩ = some (.slice none 0 0)
  r1 : wr.cell? ⟨n + 1, 1, none⟩ = some (.int .i64 0)
  rf0 : wr.frozen? ⟨n + 1, 0, none⟩ = false
  rf1 : wr.frozen? ⟨n + 1, 1, none⟩ = false
  sz : n + 2 < wr.heap.size
theorem LentB.grown {n : Nat} {sa : Int} {wr w1 : World} {x v : Value} {row : Option Nat} (h : LentB n sa wr x v) (hg : wr.grownBy w1 row) (hr : ∀ k, row = some k → n + 3 ≤ k) : LentB n sa w1 x v := by
  have hz := h.sz
  have k : ∀ b o, b < n + 3 → w1.cell? ⟨b, o, none⟩ = wr.cell? ⟨b, o, none⟩ := fun b o hb => World.cell?_of_block (w := wr) (hg.block b (by omega) (fun e => by have := hr b e.symm; omega))
  have f : ∀ b o, b < n + 3 → w1.frozen? ⟨b, o, none⟩ = wr.frozen? ⟨b, o, none⟩ := fun b o hb => World.frozen?_of_block (w := wr) (hg.block b (by omega) (fun e => by have := hr b e.symm; omega))
  have := hg.size
  exact ⟨(k _ _ (by omega)).trans h.p0, (k _ _ (by omega)).trans h.q0, (k _ _ (by omega)).trans h.q1, (f _ _ (by omega)).trans h.qf, (k _ _ (by omega)).trans h.r0, (k _ _ (by omega)).trans h.r1, (f _ _ (by omega)).trans h.rf0, (f _ _ (by omega)).trans h.rf1, by omega⟩
theorem LentB.set {n : Nat} {sa : Int} {wr : World} {x v : Value} (h : LentB n sa wr x v) (u : Value) : LentB n sa (wr.setCell ⟨n + 1 + 1, 0, none⟩ u) x u :=
  ⟨by rw [World.cell?_setCell_other (h := by simp)]; exact h.p0, World.cell?_setCell_same _ _ _ h.q0, by rw [World.cell?_setCell_other (h := by simp)]; exact h.q1, by rw [World.frozen?_setCell]; exact h.qf,
    by rw [World.cell?_setCell_other (h := by simp)]; exact h.r0, by rw [World.cell?_setCell_other (h := by simp)]; exact h.r1, by rw [World.frozen?_setCell]; exact h.rf0, by rw [World.frozen?_setCell]; exact h.rf1, by simpa using h.sz⟩
theorem lentB_new {w : World} {x y v : Value} {sa : Int} {t : TypeId} : LentB w.heap.size sa (((w.alloc (.cells #[x, y] t)).alloc (.cells #[.slice none 0 0, .int .i64 0] t)).alloc (.cells #[v, .int .i64 sa] t)) x v := by
  have e : w.heap.size + 1 + 1 = (((w.alloc (.cells #[x, y] t)).alloc (.cells #[.slice none 0 0, .int .i64 0] t))).heap.size := by simp only [World.size_alloc]
  have e1 : w.heap.size + 1 = ((w.alloc (.cells #[x, y] t))).heap.size := by simp only [World.size_alloc]
  refine ⟨?_, ?_, ?_, ?_, ?_, ?_, ?_, ?_, ?_⟩
  · rw [World.cell?_alloc_lt _ _ _ (by simp only [World.size_alloc]; omega), World.cell?_alloc_lt _ _ _ (by simp only [World.size_alloc]; omega), World.cell?_alloc_new]; rfl
  · rw [e, World.cell?_alloc_new]; rfl
  · rw [e, World.cell?_alloc_new]; rfl
  · rw [e, World.frozen?_alloc_new]
  · rw [World.cell?_alloc_lt _ _ _ (by simp only [World.size_alloc]; omega), e1, World.cell?_alloc_new]; rfl
  · rw [World.cell?_alloc_lt _ _ _ (by simp only [World.size_alloc]; omega), e1, World.cell?_alloc_new]; rfl
  · rw [World.frozen?_alloc_old _ _ _ (by simp only [World.size_alloc]; omega), e1, World.frozen?_alloc_new]
  · rw [World.frozen?_alloc_old _ _ _ (by simp only [World.size_alloc]; omega), e1, World.frozen?_alloc_new]
  · simp only [World.size_alloc]; omega
/-- The loop of LentNfa. -/
def LentI (w : World) (l : List St) (sa : Int) (A : Option Addr) (c n : Nat) (i : Value) (wr : World) : Prop :=
  ∃ (j : Nat) (A' : Option Addr) (c' : Nat), i = .int .i64 j ∧ j + n = 5 ∧ Below w.heap.size w wr ∧ LentB w.heap.size sa wr (.slice A l.length c) (.slice A' (l.length + j) c') ∧
    wr.ownsRow (w.heap.size + 3) 47 7 (.slice A' (l.length + j) c') (l.length + j) (stCells (l ++ List.replicate j s77))
theorem own_ge {w : World} {base : Nat} {e : TypeId} {size n : Nat} {v : Value} {xs : List Value} (h : w.ownsRow base e size v n xs) : ∀ k, v.ownBlock = some k → base ≤ k := by
  intro k hk
  rcases h.2 with ⟨rfl, _⟩ | ⟨g, cap, cur, rfl, hb, _⟩
  · simp [Value.ownBlock] at hk
  · simp [Value.ownBlock] at hk; omega
theorem below_grown {B : Nat} {w wr w1 : World} {row : Option Nat} (h : Below B w wr) (hs : B ≤ wr.heap.size) (hg : wr.grownBy w1 row) (hr : ∀ k, row = some k → B ≤ k) : Below B w w1 :=
  ⟨hg.os.trans h.os, hg.tape.trans h.tape, hg.output.trans h.output, Nat.le_trans h.size hg.size, fun k hk => (hg.block k (by omega) (fun e => by have := hr k e.symm; omega)).trans (h.block k hk)⟩

set_option maxRecDepth 100000 in
set_option maxHeartbeats 2000000 in
theorem lentN_any (w : World) (ok : Nat → Prop) (l : List St) (sa : Int) (A : Option Addr) (c : Nat) (ha : StsAt w ok l A c) (hok : ∀ b, ok b → b < w.heap.size) (hl : l.length ≤ 1000000) :
    Calls Try.prog 22 #[nfaV l sa A c] w fun e w' => ∃ A' c', e = .returned (nfaV l sa A' c') ∧ StsAt w' (fun b => w.heap.size ≤ b ∧ b < w'.heap.size) (l ++ List.replicate 5 s77) A' c' ∧ Below w.heap.size w w' := by
  go_enter Try.func22, Try.ntmps22
  have hA : A = none → l.length = 0 ∧ c = 0 := fun e => ⟨by
    rcases Nat.eq_zero_or_pos l.length with h | h
    · exact h
    · obtain ⟨b, o, e', _⟩ := ha.at_ h; rw [e] at e'; simp at e', ha.nil e⟩
  have hys := stCells_length l
  have hnews : ∀ ad, A = some ad → ∀ j u, (stCells l)[j]? = some u → (((w.alloc (.cells #[.slice A l.length c, .int .i64 sa] 35)).alloc (.cells #[.slice none 0 0, .int .i64 0] 35)).alloc (.cells #[.slice none 0 0, .int .i64 sa] 35)).cell? (ad.add j) = some u := by
    intro ad e j u hu
    have hj : j < l.length * 7 := by rw [← stCells_length]; exact (List.getElem?_eq_some_iff.1 hu).1
    obtain ⟨b, o, e', hb, _⟩ := ha.at_ (by omega)
    rw [e'] at e
    simp only [Option.some.injEq] at e
    subst e
    have hlt := hok b hb
    subst e'
    rw [addr_add, World.cell?_alloc_lt _ _ _ (by simp; omega), World.cell?_alloc_lt _ _ _ (by simp; omega), World.cell?_alloc_lt _ _ _ hlt]
    exact ha.cells j u hu
  go_wp2_with (at_builtin; refine wpList_append_from (w.heap.size + 3) rfl _ _ 33 47 _ 7 56 rfl Try.underlying33 Try.infoState rfl (by omega) (by omega) (.slice none 0 0) 0 l.length [] (stCells l) A c rfl rfl hA hys hnews (stCells_one l) ⟨rfl, .inl ⟨rfl, rfl⟩⟩ (by simp) (by omega) (fun A1 c1 w1 ho1 hg1 hat1 => ?_); have hb1 := lentB_new.grown hg1 (by simp [Value.ownBlock]); have hbl := below_grown (((((Below.refl w.heap.size w).alloc (Nat.le_refl _) _).alloc (by simp) _).alloc (by simp; omega) _)) (by simp; omega) hg1 (by simp [Value.ownBlock]); obtain ⟨p0, q0, q1, qf, r0, r1, rf0, rf1, sz⟩ := hb1; clear hnews hA hys hat1)
  go_loopg [4] 5 (fun n i wr => LentI w l sa A c n i wr)
  case atStart =>
    refine ⟨0, A1, c1, rfl, rfl, hbl.setCell (by simp; omega) _, LentB.set ⟨p0, q0, q1, qf, r0, r1, rf0, rf1, sz⟩ _, ?_⟩
    have := ho1.kept (w' := w1.setCell ⟨w.heap.size + 1 + 1, 0, none⟩ (.slice A1 l.length c1)) (row := some (w.heap.size + 1 + 1)) ⟨rfl, rfl, rfl, by simp, fun k hk hne => Below.heap_setCell _ _ _ _ (fun e => hne (by rw [e]))⟩ (.inr (fun e => by have := own_ge ho1 _ e; omega))
    simpa using this
  case round =>
    obtain ⟨j, A2, c2, rfl, hj, hB, hb2, ho2⟩ := hrel
    have HB := Lib.hid hB; have Hb2 := Lib.hid hb2; have Ho2 := Lib.hid ho2
    obtain ⟨p0, q0, q1, qf, r0, r1, rf0, rf1, sz⟩ := hb2
    clear hB ho2
    by_cases hlt : j < 5
    · have hnews : ∀ ad, some (⟨wr.heap.size, 0, none⟩ : Addr) = some ad → ∀ j u, s77.cells[j]? = some u → (wr.alloc (.cells s77.cells.toArray 47)).cell? (ad.add j) = some u := by
        intro ad e j u hu
        simp only [Option.some.injEq] at e
        subst e
        rw [addr_add, World.cell?_alloc_new, Nat.zero_add]
        simpa using hu
      go_wp2_with (at_builtin; refine wpList_append_from (w.heap.size + 3) rfl _ _ 33 47 _ 7 56 rfl Try.underlying33 Try.infoState rfl (by omega) (by omega) (.slice A2 (l.length + j) c2) (l.length + j) 1 (stCells (l ++ List.replicate j s77)) s77.cells (some ⟨wr.heap.size, 0, none⟩) 1 rfl rfl (by simp) rfl hnews s77.cells_one (Ho2.out.alloc _) (by simp; omega) (by omega) (fun A3 c3 w3 ho3 hg3 hat3 => ?_); have hb3 := (Hb2.out.grown (World.grownBy_alloc wr _ none) (by simp)).grown hg3 (own_ge Ho2.out); have hbl3 := below_grown (HB.out.alloc (by omega) _) (by simp; omega) hg3 (fun k hk => by have := own_ge Ho2.out k hk; omega); have Hb3 := Lib.hid hb3; obtain ⟨p0, q0, q1, qf, r0, r1, rf0, rf1, sz⟩ := hb3; clear hnews hat3)
      go_roundg (gk - 1)
      case measure => omega
      case rel =>
        refine ⟨j + 1, A3, c3, by go_num, by omega, hbl3.setCell (by simp; omega) _, Hb3.out.set _, ?_⟩
        have := ho3.kept (w' := w3.setCell ⟨w.heap.size + 1 + 1, 0, none⟩ (.slice A3 (l.length + j + 1) c3)) (row := some (w.heap.size + 1 + 1)) ⟨rfl, rfl, rfl, by simp, fun k hk hne => Below.heap_setCell _ _ _ _ (fun e => hne (by rw [e]))⟩ (.inr (fun e => by have := own_ge ho3 _ e; omega))
        rw [List.replicate_succ', ← List.append_assoc, stCells_snoc]
        exact this
    · have hj5 : j = 5 := by omega
      subst hj5
      obtain ⟨g, rfl, hg⟩ : ∃ g, A2 = some ⟨g, 0, none⟩ ∧ w.heap.size + 3 ≤ g := by
        rcases Ho2.out.2 with ⟨e, h0⟩ | ⟨g, cap, cur, e, hb, _⟩
        · omega
        · simp only [Value.slice.injEq] at e; exact ⟨g, e.1, hb⟩
      have hcap : l.length + 5 ≤ c2 := by
        rcases Ho2.out.2 with ⟨e, h0⟩ | ⟨g, cap, cur, e, hb, _, hn, _⟩
        · omega
        · simp only [Value.slice.injEq] at e; omega
      go_wp2_with fail
      generalize hX : wr.setCell _ _ = X
      have x0 : X.cell? ⟨w.heap.size + 1, 0, none⟩ = some (.slice none 0 0) := by subst hX; rw [World.cell?_setCell_other (h := by simp)]; exact r0
      have x1 : X.cell? ⟨w.heap.size + 1, 1, none⟩ = some (.int .i64 0) := by subst hX; rw [World.cell?_setCell_other (h := by simp)]; exact r1
      have hXz : X.heap.size = wr.heap.size := by subst hX; simp
      have hXb : ∀ k, k ≠ w.heap.size + 1 + 1 → X.heap[k]? = wr.heap[k]? := fun k hk => by subst hX; exact Below.heap_setCell _ _ _ _ hk
      have hXB : Below w.heap.size w X := by subst hX; exact HB.out.setCell (by simp; omega) _
      clear hX
      have y1 := World.cell?_setCell_same (X.setCell ⟨w.heap.size + 1, 0, none⟩ (.slice (some ⟨g, 0, none⟩) l.length c2)) ⟨w.heap.size + 1, 1, none⟩ (.int .i64 sa) (by rw [World.cell?_setCell_other (h := by simp)]; exact x1)
      have y0 : ((X.setCell ⟨w.heap.size + 1, 0, none⟩ (.slice (some ⟨g, 0, none⟩) l.length c2)).setCell ⟨w.heap.size + 1, 1, none⟩ (.int .i64 sa)).cell? ⟨w.heap.size + 1, 0, none⟩ = some (.slice (some ⟨g, 0, none⟩) l.length c2) := by
        rw [World.cell?_setCell_other (h := by simp)]
        exact World.cell?_setCell_same X _ _ x0
      refine bodyPost_ret (v := nfaV l sa (some ⟨g, 0, none⟩) c2) (by simp [results, Try.results22, y0, y1, go_sem]) rfl ⟨_, _, rfl, ?_, ?_⟩
      · have h5 : (l ++ List.replicate 5 s77).length = l.length + 5 := by simp
        have hs := stsAt_own (A := some ⟨g, 0, none⟩) (c := c2) (l := l ++ List.replicate 5 s77) (w := wr) (base := w.heap.size + 3) (by rw [h5]; exact Ho2.out) (by omega)
        refine hs.mono fun b hb => ⟨?_, fun o => ?_⟩
        · simp only [World.size_setCell]; omega
        · exact World.cell?_of_block (w := wr) (by rw [Below.heap_setCell _ _ _ _ (by simp; omega), Below.heap_setCell _ _ _ _ (by simp; omega), hXb b (by omega)])
      · exact (hXB.setCell (by simp) _).setCell (by simp) _
end Go.Proofs.Ytdpmbanfaigmcaa
