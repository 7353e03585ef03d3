/- Merged texts, part of the proof Tells: Where, Ws, Wm, Wset, Wn, Wl, Many, Sem, Right, Count, Ref10, WnA, Wno, NodeA, NodeR, NodeC, NodeP, Node, PrW, ParP, ParQ, ParS, ParW, ParX. -/
import Derived.Test.YteekafkpeimhoaaDoorUTellsA
import Derived.Deep.DeepCutAuto
import Derived.Laws.IdiomStrings
import Derived.BigRegion
import Derived.Test.YteekafkpeimhoaaDoorRows
import Derived.WalkKit
import Derived.Deep.LoopGhost
import Derived.Lib.Hide
/- Tests on bytes, handed round as functions; where: walked. -/
set_option linter.unusedVariables false
set_option linter.unusedSimpArgs false
namespace Go.Proofs.YteekafkpeimhoaaDoor
open Go.RowKit

/-- Blocks of cells stay as they are; maps may change. -/
structure CExt (w w' : World) : Prop where
  size : w.heap.size ≤ w'.heap.size
  cells : ∀ (k : Nat) (cs : Array Value) (t : TypeId) (z : Nat × Nat), w.heap[k]? = some (.cells cs t z) → w'.heap[k]? = some (.cells cs t z)
theorem CExt.refl (w : World) : CExt w w := ⟨Nat.le_refl _, fun _ _ _ _ h => h⟩
theorem CExt.trans {w w1 w2 : World} (h : CExt w w1) (k : CExt w1 w2) : CExt w w2 := ⟨Nat.le_trans h.size k.size, fun b cs t z e => k.cells b cs t z (h.cells b cs t z e)⟩
theorem CExt.of_below {w w' : World} (h : Below w.heap.size w w') : CExt w w' :=
  ⟨h.size, fun k cs t z e => (h.block k (Array.getElem?_eq_some_iff.1 e).1).trans e⟩
/-- A function on bytes that tests so. -/
def FnOf (w : World) (v : Value) (f : Nat → Bool) : Prop :=
  ∃ (fn : FuncId) (caps : Array Value), v = .func (.func fn) #[] caps ∧ (∀ args w, (callFunc fn args).run Tryd.prog w = .ok (.enter fn args) w) ∧ ∀ w', CExt w w' → ∀ c < 256, Calls Tryd.prog fn (#[.int .u8 (c : Nat)] ++ caps) w' fun en w'' => en = .returned (.bool (f c)) ∧ Below w'.heap.size w' w''
theorem FnOf.later {w w' : World} {v : Value} {f : Nat → Bool} (h : FnOf w v f) (k : CExt w w') : FnOf w' v f := by
  obtain ⟨fn, caps, rfl, hc, h⟩ := h
  exact ⟨fn, caps, rfl, hc, fun w2 k2 => h w2 (k.trans k2)⟩
theorem whereW_def (f : Nat → Bool) : whereW f = (List.range 256).foldl (fun s c => if f c then s.add c else s) w40 := rfl
theorem foldl_from (f : Nat → Bool) (j : Nat) (hj : j < 256) (s : W4) : (List.range' j (256 - j)).foldl (fun s c => if f c then s.add c else s) s = (List.range' (j + 1) (256 - (j + 1))).foldl (fun s c => if f c then s.add c else s) (if f j then s.add j else s) := by
  rw [show 256 - j = (256 - (j + 1)) + 1 by omega, List.range'_succ, List.foldl_cons]

theorem At4.addW {w : World} {b o : Nat} {s : W4} (h : At4 w b o s) (c : Nat) (hc : c < 256) : At4 (addW w b o s c) b o (s.add c) := by
  obtain ⟨f0, f1, f2, f3⟩ := h
  unfold Go.Proofs.YteekafkpeimhoaaDoor.addW
  rcases (show c < 64 ∨ (64 ≤ c ∧ c < 128) ∨ (128 ≤ c ∧ c < 192) ∨ (192 ≤ c ∧ c < 256) by omega) with h | h | h | h
  · rw [show c / 64 = 0 by omega, show c % 64 = c by omega]
    have e : s.add c = { s with a := orI s.a (2 ^ c) } := by simp [W4.add, h]
    rw [e]
    exact ⟨World.cell?_setCell_same _ _ _ f0, (World.cell?_setCell_other _ _ _ _ (by simp)).trans f1, (World.cell?_setCell_other _ _ _ _ (by simp)).trans f2, (World.cell?_setCell_other _ _ _ _ (by simp)).trans f3⟩
  · rw [show c / 64 = 1 by omega, show c % 64 = c - 64 by omega]
    have e : s.add c = { s with b := orI s.b (2 ^ (c - 64)) } := by simp [W4.add, show ¬ c < 64 by omega, h.2]
    rw [e]
    exact ⟨(World.cell?_setCell_other _ _ _ _ (by simp)).trans f0, World.cell?_setCell_same _ _ _ f1, (World.cell?_setCell_other _ _ _ _ (by simp)).trans f2, (World.cell?_setCell_other _ _ _ _ (by simp)).trans f3⟩
  · rw [show c / 64 = 2 by omega, show c % 64 = c - 128 by omega]
    have e : s.add c = { s with c := orI s.c (2 ^ (c - 128)) } := by simp [W4.add, show ¬ c < 64 by omega, show ¬ c < 128 by omega, h.2]
    rw [e]
    exact ⟨(World.cell?_setCell_other _ _ _ _ (by simp)).trans f0, (World.cell?_setCell_other _ _ _ _ (by simp)).trans f1, World.cell?_setCell_same _ _ _ f2, (World.cell?_setCell_other _ _ _ _ (by simp)).trans f3⟩
  · rw [show c / 64 = 3 by omega, show c % 64 = c - 192 by omega]
    have e : s.add c = { s with d := orI s.d (2 ^ (c - 192)) } := by simp [W4.add, show ¬ c < 64 by omega, show ¬ c < 128 by omega, show ¬ c < 192 by omega]
    rw [e]
    exact ⟨(World.cell?_setCell_other _ _ _ _ (by simp)).trans f0, (World.cell?_setCell_other _ _ _ _ (by simp)).trans f1, (World.cell?_setCell_other _ _ _ _ (by simp)).trans f2, World.cell?_setCell_same _ _ _ f3⟩
theorem At4.keep {w w' : World} {b o : Nat} {s : W4} (h : At4 w b o s) (hb : w'.heap[b]? = w.heap[b]?) : At4 w' b o s := by
  obtain ⟨f0, f1, f2, f3⟩ := h
  exact ⟨(World.cell?_of_block (w := w) hb).trans f0, (World.cell?_of_block (w := w) hb).trans f1, (World.cell?_of_block (w := w) hb).trans f2, (World.cell?_of_block (w := w) hb).trans f3⟩
/-- Four cells written. -/
def setV (w : World) (b : Nat) (S : W4) : World := (((w.setCell ⟨b, 0, none⟩ (.int .u64 S.a)).setCell ⟨b, 1, none⟩ (.int .u64 S.b)).setCell ⟨b, 2, none⟩ (.int .u64 S.c)).setCell ⟨b, 3, none⟩ (.int .u64 S.d)
theorem At4.setV {w : World} {b : Nat} {s : W4} (h : At4 w b 0 s) (S : W4) : At4 (setV w b S) b 0 S := by
  obtain ⟨f0, f1, f2, f3⟩ := h
  simp only [Nat.zero_add] at f1 f2 f3
  unfold Go.Proofs.YteekafkpeimhoaaDoor.setV
  constructor
  · rw [World.cell?_setCell_other _ _ _ _ (by simp), World.cell?_setCell_other _ _ _ _ (by simp), World.cell?_setCell_other _ _ _ _ (by simp)]
    exact World.cell?_setCell_same _ _ _ f0
  · rw [World.cell?_setCell_other _ _ _ _ (by simp), World.cell?_setCell_other _ _ _ _ (by simp)]
    exact World.cell?_setCell_same _ _ _ ((World.cell?_setCell_other _ _ _ _ (by simp)).trans f1)
  · rw [World.cell?_setCell_other _ _ _ _ (by simp)]
    exact World.cell?_setCell_same _ _ _ ((World.cell?_setCell_other _ _ _ _ (by simp)).trans ((World.cell?_setCell_other _ _ _ _ (by simp)).trans f2))
  · exact World.cell?_setCell_same _ _ _ ((World.cell?_setCell_other _ _ _ _ (by simp)).trans ((World.cell?_setCell_other _ _ _ _ (by simp)).trans ((World.cell?_setCell_other _ _ _ _ (by simp)).trans f3)))
theorem _root_.Go.RowKit.Below.setV {w w1 : World} {B : Nat} (h : Below B w w1) {b : Nat} (hb : B ≤ b) (S : W4) : Below B w (Go.Proofs.YteekafkpeimhoaaDoor.setV w1 b S) :=
  (((h.setCell hb (p := ⟨b, 0, none⟩) _).setCell hb (p := ⟨b, 1, none⟩) _).setCell hb (p := ⟨b, 2, none⟩) _).setCell hb (p := ⟨b, 3, none⟩) _
theorem At4.later {w w' : World} {b o B : Nat} {s : W4} (h : At4 w b o s) (hb : Below B w w') (hl : b < B) : At4 w' b o s := h.keep (hb.block b hl)
theorem _root_.Go.RowKit.Below.addW {w w1 : World} {B : Nat} (h : Below B w w1) {b : Nat} (hb : B ≤ b) (o : Nat) (s : W4) (c : Nat) : Below B w (Go.Proofs.YteekafkpeimhoaaDoor.addW w1 b o s c).drew :=
  ⟨h.os, h.tape, h.output, by show w.heap.size ≤ (Go.Proofs.YteekafkpeimhoaaDoor.addW w1 b o s c).heap.size; rw [addW_size]; exact h.size, fun k hk => (addW_other _ _ _ _ _ _ (by omega)).trans (h.block k hk)⟩
theorem _root_.Go.RowKit.Below.step {w w1 w2 : World} (h : Below w.heap.size w w1) (k : Below w1.heap.size w1 w2) : Below w.heap.size w w2 :=
  ⟨k.os.trans h.os, k.tape.trans h.tape, k.output.trans h.output, Nat.le_trans h.size k.size, fun b hb => (k.block b (Nat.lt_of_lt_of_le hb h.size)).trans (h.block b hb)⟩

set_option maxRecDepth 100000 in
set_option maxHeartbeats 4000000 in
theorem where_any (w : World) (v : Value) (f : Nat → Bool) (hf : FnOf w v f) :
    Calls Tryd.prog 69 #[v] w fun en w' => en = .returned (whereW f).V ∧ Below w.heap.size w w' := by
  obtain ⟨fn, caps, rfl, hcf, hf⟩ := hf
  have Hf := Lib.hid hf; clear hf
  go_enter Tryd.func69, Tryd.ntmps69
  go_wp2_with fail
  generalize hW : (w.alloc _).alloc _ = W0
  have hB0 : Below w.heap.size w W0 := by subst hW; exact ((Below.refl _ _).alloc (Nat.le_refl _) _).alloc (by simp) _
  have hsz : w.heap.size + 2 ≤ W0.heap.size := by subst hW; simp
  have r0 : At4 W0 w.heap.size 0 w40 := by subst hW; constructor <;> simp [go_sem, w40]
  have n0 : At4 W0 (w.heap.size + 1) 0 w40 := by subst hW; constructor <;> simp [go_sem, w40]
  have z0 : ∀ o, W0.frozen? ⟨w.heap.size, o, none⟩ = false := by subst hW; intro o; simp [go_sem]
  have z1 : ∀ o, W0.frozen? ⟨w.heap.size + 1, o, none⟩ = false := by subst hW; intro o; simp [go_sem]
  clear hW
  go_loopg [5] 256 (fun k i wr => ∃ (j : Nat) (S : W4), i = .int .i64 j ∧ j + k = 256 ∧ (List.range' j (256 - j)).foldl (fun s c => if f c then s.add c else s) S = whereW f ∧ Below w.heap.size w wr ∧ w.heap.size + 2 ≤ wr.heap.size ∧ At4 wr (w.heap.size + 1) 0 S ∧ At4 wr w.heap.size 0 w40 ∧ (∀ o, wr.frozen? ⟨w.heap.size, o, none⟩ = false) ∧ (∀ o, wr.frozen? ⟨w.heap.size + 1, o, none⟩ = false))
  case atStart => exact ⟨0, w40, rfl, rfl, by rw [whereW_def, List.range_eq_range'], hB0, hsz, n0, r0, z0, z1⟩
  case round =>
    obtain ⟨j, S, rfl, hj, hm, hB, hz, hn, hr, y0, y1⟩ := hrel
    clear hB0 hsz n0 r0 z0 z1
    have Hm := Lib.hid hm; clear hm
    have HN := Lib.hid hn; have HR := Lib.hid hr; have HB := Lib.hid hB; have HY0 := Lib.hid y0; have HY1 := Lib.hid y1
    clear hn hr hB y0 y1
    by_cases hlt : j < 256
    · have hmod : IntKind.u8.wrap (j : Int) = (j : Int) := by simp [IntKind.wrap, IntKind.signed, IntKind.bits]; omega
      go_wp2_with fail
      refine (Hf.out wr (CExt.of_below HB.out) j hlt).mono ?_
      rintro en w1 ⟨rfl, hb1⟩
      have hB1 := HB.out.step hb1
      have hz1 : w.heap.size + 2 ≤ w1.heap.size := Nat.le_trans hz hb1.size
      have n1 := HN.out.later hb1 (by omega)
      have r1 := HR.out.later hb1 (by omega)
      have y0 : ∀ o, w1.frozen? ⟨w.heap.size, o, none⟩ = false := fun o => (hb1.frozen (p := ⟨w.heap.size, o, none⟩) (by show w.heap.size < _; omega)).trans (HY0.out o)
      have y1 : ∀ o, w1.frozen? ⟨w.heap.size + 1, o, none⟩ = false := fun o => (hb1.frozen (p := ⟨w.heap.size + 1, o, none⟩) (by show w.heap.size + 1 < _; omega)).trans (HY1.out o)
      have Hm := Lib.hid ((foldl_from f j hlt S).symm.trans Hm.out)
      clear HN HR HB HY0 HY1 hcf
      have HN := Lib.hid n1; have HR := Lib.hid r1; have HB := Lib.hid hB1; have HY0 := Lib.hid y0; have HY1 := Lib.hid y1
      clear n1 r1 hB1 y0 y1
      cases hfj : f j with
      | false =>
        rw [hfj] at Hm
        clear hfj Hf
        go_wp2_with fail
        go_roundg (gk - 1)
        case measure => omega
        case rel => exact ⟨j + 1, S, by go_num, by omega, Hm.out, HB.out, hz1, HN.out, HR.out, HY0.out, HY1.out⟩
      | true =>
        rw [hfj] at Hm
        clear hfj Hf
        go_wp2_with fail
        refine (add_any w1 (w.heap.size + 1) 0 S j hlt HN.out HY1.out).mono ?_
        rintro en w2 ⟨rfl, rfl⟩
        go_wp2_with fail
        go_roundg (gk - 1)
        case measure => omega
        case rel => exact ⟨j + 1, S.add j, by go_num, by omega, Hm.out, HB.out.addW (by omega) _ _ _, by show _ ≤ (addW w1 _ _ _ _).heap.size; rw [addW_size]; exact hz1, (HN.out.addW j hlt).keep rfl, HR.out.keep (addW_other _ _ _ _ _ _ (by omega)), fun o => (World.frozen?_of_block (w := w1) (addW_other _ _ _ _ _ _ (by show w.heap.size ≠ _; omega))).trans (HY0.out o), fun o => by show (addW w1 _ _ _ _).frozen? _ = _; rw [addW, World.frozen?_setCell]; exact HY1.out o⟩
    · have hS : S = whereW f := by rw [← Hm.out, show 256 - j = 0 by omega]; rfl
      obtain ⟨f0, f1, f2, f3⟩ := HN.out
      obtain ⟨g0, g1, g2, g3⟩ := HR.out
      have y0 := HY0.out 0; have y1 := HY0.out 1; have y2 := HY0.out 2; have y3 := HY0.out 3
      clear HN HR HY0 HY1 Hm Hf
      simp only [Nat.zero_add] at f1 f2 f3 g1 g2 g3
      go_wp2_with fail
      change bodyPost _ _ _ _ _ (setV wr w.heap.size (whereW f))
      have hB := HB.out.setV (b := w.heap.size) (Nat.le_refl _) (whereW f)
      obtain ⟨q0, q1, q2, q3⟩ := At4.setV ⟨g0, g1, g2, g3⟩ (whereW f)
      simp only [Nat.zero_add] at q1 q2 q3
      clear f0 f1 f2 f3 g0 g1 g2 g3 y0 y1 y2 y3
      generalize setV wr w.heap.size (whereW f) = W at *
      exact bodyPost_ret (v := (whereW f).V) (by simp [results, Tryd.results69, go_sem, q0, q1, q2, q3]) rfl ⟨rfl, hB⟩
end Go.Proofs.YteekafkpeimhoaaDoor

/- A writer of patterns: a set's bytes: walked. -/
set_option linter.unusedVariables false
set_option linter.unusedSimpArgs false
namespace Go.Proofs.YteekafkpeimhoaaDoor
open Go.RowKit

set_option maxRecDepth 100000 in
set_option maxHeartbeats 1000000 in
theorem phas_any (w : World) (S : W4) (hw : Wok S) (c : Nat) (hc : c < 256) :
    Calls Tryd.prog 62 #[S.V, .int .u8 (c : Int)] w fun en w' => en = .returned (.bool (S.has c)) ∧ Below w.heap.size w w' := by
  have hq : (c : Int).tdiv 64 = ((c / 64 : Nat) : Int) := by rw [Int.tdiv_eq_ediv_of_nonneg (by omega)]; omega
  have hr : (c : Int).tmod 64 = ((c % 64 : Nat) : Int) := by rw [Int.tmod_eq_emod_of_nonneg (by omega)]; omega
  have h64 : c % 64 < 64 := by omega
  have hi4 : c / 64 < 4 := by omega
  have hat := hw.at c
  have hhas := has_div hw c
  have hword : S.word (c / 64) = S.at c := by
    unfold W4.word W4.at
    rcases (show c < 64 ∨ (64 ≤ c ∧ c < 128) ∨ (128 ≤ c ∧ c < 192) ∨ (192 ≤ c ∧ c < 256) by omega) with h | h | h | h
    · rw [if_pos (by omega), if_pos h]
    · rw [if_neg (by omega), if_pos (by omega), if_neg (by omega), if_pos h.2]
    · rw [if_neg (by omega), if_neg (by omega), if_pos (by omega), if_neg (by omega), if_neg (by omega), if_pos h.2]
    · rw [if_neg (by omega), if_neg (by omega), if_neg (by omega), if_neg (by omega), if_neg (by omega), if_neg (by omega)]
  go_enter Tryd.func62, Tryd.ntmps62
  go_upto_region 1 with fail
  generalize hW : w.alloc _ = W0
  have hB0 : Below w.heap.size w W0 := by subst hW; exact (Below.refl _ _).alloc (Nat.le_refl _) _
  have b0 : W0.cell? ⟨w.heap.size, c / 64, none⟩ = some (.int .u64 (S.at c)) := by
    rw [← hword]
    subst hW
    rcases (by omega : c / 64 = 0 ∨ c / 64 = 1 ∨ c / 64 = 2 ∨ c / 64 = 3) with h | h | h | h <;> rw [h] <;> simp [go_sem, W4.word]
  clear hW hword
  generalize S.at c = wd at *
  generalize c / 64 = wi at *
  generalize c % 64 = k at *
  have Hhas := Lib.hid hhas
  clear hhas
  have hand : bits .and .u64 (wd / 2 ^ k) 1 = wd / 2 ^ k % 2 := by
    have hp : (0 : Int) < 2 ^ k := Int.pow_pos (by omega)
    have h0 : 0 ≤ wd / 2 ^ k := Int.ediv_nonneg hat.1 (Int.le_of_lt hp)
    have h1 : wd / 2 ^ k ≤ wd := Int.ediv_le_self _ hat.1
    have h2 := hat.2
    generalize wd / 2 ^ k = x at *
    rw [u64_and x 1 h0 (by omega) (by decide) (by decide)]
    show ((x.toNat &&& 1 : Nat) : Int) = _
    rw [Nat.and_one_is_mod]
    omega
  have Hand := Lib.hid hand
  clear hand
  go_wp2_with fail
  exact bodyPost_ret (v := .bool (bits .and .u64 (wd / 2 ^ k) 1 == 1)) (by simp [results, Tryd.results62, go_sem]) rfl ⟨by rw [Hand.out, Hhas.out], hB0⟩

/-- A set's block, of whatever is boxed. -/
abbrev b8s (l : List Nat) : Bs := l.map UInt8.ofNat
theorem byteCells_b8s {l : List Nat} (h : ∀ x ∈ l, x < 256) : Lib.byteCells (b8s l) = l.map fun x => Value.int .u8 (x : Nat) := by
  unfold Lib.byteCells b8s
  rw [List.map_map]
  apply List.map_congr_left
  intro x hx
  have := h x hx
  simp only [Function.comp_apply, b8 this]
/-- A row of bytes that is owned. -/
def Row8 (B : Nat) (w : World) (v : Value) (l : List Nat) : Prop := w.ownsRow B 5 1 v l.length (l.map fun x => Value.int .u8 (x : Nat))
theorem Row8.form {B : Nat} {w : World} {v : Value} {l : List Nat} (h : Row8 B w v l) : ∃ A c, v = .slice A l.length c := by
  rcases h.2 with ⟨hv, h0⟩ | ⟨g, cap, cur, hv, _⟩
  · exact ⟨none, 0, by rw [hv, h0]⟩
  · exact ⟨_, _, hv⟩
set_option maxRecDepth 100000 in
set_option maxHeartbeats 4000000 in
theorem bytes_any (w : World) (S : W4) (hw : Wok S) :
    Calls Tryd.prog 47 #[S.V] w fun en w' => ∃ v, en = .returned v ∧ Row8 w.heap.size w' v (bytesW S) ∧ Below w.heap.size w w' := by
  obtain ⟨i0, hi, hi0, hi1, hi2⟩ := info_parts infoU8
  go_enter Tryd.func47, Tryd.ntmps47
  go_wp2_with fail
  generalize hW : w.alloc _ = W0
  have hB0 : Below w.heap.size w W0 := by subst hW; exact (Below.refl _ _).alloc (Nat.le_refl _) _
  have hS0 : At4 W0 w.heap.size 0 S := by subst hW; constructor <;> simp [go_sem]
  have hz0' : w.heap.size < W0.heap.size := by subst hW; simp
  clear hW
  go_loopg [3, 5] 256 (fun k a i wr => ∃ (j : Nat) (acc : List Nat) (A : Option Addr) (cp : Nat), i = .int .i64 j ∧ a = .slice A acc.length cp ∧ j + k = 256 ∧ acc.length ≤ j ∧ acc ++ (List.range' j (256 - j)).filter S.has = bytesW S ∧ Row8 (w.heap.size + 1) wr (.slice A acc.length cp) acc ∧ At4 wr w.heap.size 0 S ∧ w.heap.size < wr.heap.size ∧ Below w.heap.size w wr)
  case atStart => exact ⟨0, [], none, 0, rfl, rfl, rfl, Nat.le_refl _, by rw [bytesW, List.range_eq_range']; rfl, ⟨rfl, .inl ⟨rfl, rfl⟩⟩, hS0, hz0', hB0⟩
  case round =>
    obtain ⟨j, acc, A, cp, rfl, rfl, hj, hal, hacc, hrow, hS, hz, hB⟩ := hrel
    have Hacc := Lib.hid hacc; have Hrow := Lib.hid hrow; have HS := Lib.hid hS; have HB := Lib.hid hB
    clear hacc hrow hS hB hS0 hB0 hz0'
    by_cases hlt : j < 256
    · have hmod : IntKind.u8.wrap (j : Int) = (j : Int) := by simp [IntKind.wrap, IntKind.signed, IntKind.bits]; omega
      obtain ⟨f0, f1, f2, f3⟩ := HS.out
      simp only [Nat.zero_add] at f1 f2 f3
      have hstep : (List.range' j (256 - j)).filter S.has = (if S.has j then [j] else []) ++ (List.range' (j + 1) (256 - (j + 1))).filter S.has := by
        rw [show 256 - j = (256 - (j + 1)) + 1 by omega, List.range'_succ, List.filter_cons]
        split <;> simp
      have Hst := Lib.hid hstep
      clear hstep
      go_wp2_with fail
      refine (phas_any wr S hw j hlt).mono ?_
      rintro en w1 ⟨rfl, hb1⟩
      have hS1 := HS.out.later hb1 hz
      have hr1 : Row8 (w.heap.size + 1) w1 (.slice A acc.length cp) acc := Hrow.out.kept (row := none) ⟨hb1.os, hb1.tape, hb1.output, hb1.size, fun k hk _ => hb1.block k hk⟩ (by cases h : (Value.slice A acc.length cp).ownBlock <;> simp)
      have hB1 := HB.out.step hb1
      have hz1 := Nat.lt_of_lt_of_le hz hb1.size
      have HS1 := Lib.hid hS1; have Hr1 := Lib.hid hr1; have HB1 := Lib.hid hB1
      clear f0 f1 f2 f3 HS Hrow HB hS1 hr1 hB1 hb1
      cases hh : S.has j with
      | false =>
        have Hacc := Lib.hid (show acc ++ (List.range' (j + 1) (256 - (j + 1))).filter S.has = bytesW S by rw [← Hacc.out, Hst.out, hh]; rfl)
        clear hh Hst
        go_wp2_with fail
        go_roundg (gk - 1)
        case measure => omega
        case rel => exact ⟨j + 1, acc, A, cp, by go_num, rfl, by omega, by omega, Hacc.out, Hr1.out, HS1.out, hz1, HB1.out⟩
      | true =>
        have Hacc := Lib.hid (show (acc ++ [j]) ++ (List.range' (j + 1) (256 - (j + 1))).filter S.has = bytesW S by rw [← Hacc.out, Hst.out, hh]; simp)
        clear hh Hst
        go_upto_region 7 with (at_builtin; refine wpList_append_own _ rfl _ _ 51 rfl (w.heap.size + 1) 5 i0 (.int .u8 0) 1 1 Tryd.underlying51 hi hi0 hi1 hi2 rfl (by decide) _ _ _ rfl (Hr1.out.alloc _) ⟨w1.heap.size, 0, none⟩ 1 1 [.int .u8 (j : Nat)] rfl rfl ?c1 ?c2 ?c3 ?c4 ?c5 ?_)
        case c1 =>
          intro i u hj
          match i, hj with
          | 0, hj => simp at hj; subst hj; simp [Addr.add]
        case c2 => intro u hu; simp at hu; subst hu; rfl
        case c3 => unfold maxLen; omega
        case c4 => omega
        case c5 => simp; omega
        intro v' w2 hown' hgrow _
        have hx : Row8 (w.heap.size + 1) w2 v' (acc ++ [j]) := by
          show w2.ownsRow _ _ _ _ _ _
          simpa using hown'
        obtain ⟨A', cp', rfl⟩ := hx.form
        have hne : ∀ g, (Value.slice A acc.length cp).ownBlock = some g → w.heap.size + 1 ≤ g := fun g hg => (Hr1.out.lt g hg).1
        have hblk : w2.heap[w.heap.size]? = w1.heap[w.heap.size]? := (hgrow.block w.heap.size (by simp; omega) (fun e => by have := hne _ e.symm; omega)).trans (((Below.refl w1.heap.size w1).alloc (Nat.le_refl _) (.cells #[.int .u8 (j : Nat)] 5)).block _ hz1)
        have hS2 : At4 w2 w.heap.size 0 S := HS1.out.keep hblk
        have hB2 : Below w.heap.size w w2 := (HB1.out.alloc (by omega) _).grown hgrow (by simp; omega) (fun k hk => by have := hne k hk; omega)
        have hz2 : w.heap.size < w2.heap.size := by have := hgrow.size; simp at this; omega
        have Hx := Lib.hid hx; have HS2 := Lib.hid hS2; have HB2 := Lib.hid hB2
        clear hx hS2 hB2 hown' hgrow hblk hne HS1 Hr1 HB1
        go_wp2_with fail
        go_roundg (gk - 1)
        case measure => omega
        case rel => exact ⟨j + 1, acc ++ [j], A', cp', by go_num, rfl, by omega, by simp; omega, Hacc.out, Hx.out, HS2.out, hz2, HB2.out⟩
    · have hb : acc = bytesW S := by rw [← Hacc.out, show 256 - j = 0 by omega]; simp
      subst hb
      clear Hacc HS
      go_wp2_with fail
      go_ret
      exact ⟨_, rfl, ⟨Hrow.out.1, Hrow.out.2.imp id (fun ⟨g, cap, cur, h1, h2, h3⟩ => ⟨g, cap, cur, h1, by omega, h3⟩)⟩, HB.out⟩
end Go.Proofs.YteekafkpeimhoaaDoor

/- A writer of patterns: members, sets: walked. -/
set_option linter.unusedVariables false
set_option linter.unusedSimpArgs false
namespace Go.Proofs.YteekafkpeimhoaaDoor
open Go.RowKit

theorem idx_mem : ∀ k < 256, decide (0 ≤ Lib.indexByte [93, 91, 94, 45] (UInt8.ofNat k)) = decide (k = 93 ∨ k = 91 ∨ k = 94 ∨ k = 45) := by decide +kernel
theorem idx_spec : ∀ k < 256, decide (0 ≤ Lib.indexByte [92, 94, 46, 91, 36, 40, 41, 124, 42, 43, 63, 123] (UInt8.ofNat k)) = specB k := by decide +kernel
theorem sindex_any (l : Bs) (c : Nat) (hc : c < 256) (w : World) : Calls Tryd.prog 49 #[.string (bs l), .int .u8 (c : Nat)] w fun e w' => e = .returned (.int .i64 (Lib.indexByte l (UInt8.ofNat c))) ∧ w' = w := by
  refine (Tryd.strings_IndexByte (bs l) c w).mono ?_
  rintro e w' ⟨rfl, rfl⟩
  refine ⟨?_, rfl⟩
  have e1 : (bs l).data.toList = l := by simp [bs]
  rw [e1]
  rfl
set_option maxRecDepth 100000 in
set_option maxHeartbeats 4000000 in
theorem wmember_any (B p : Nat) (l : Bs) (o d : Int) (w : World) (h : WAt B p l o d w) (hl : l.length ≤ 1000000) (hB : B ≤ w.heap.size) (c : Nat) (hc : c < 256) :
    Calls Tryd.prog 50 #[.pointer (some ⟨p, 0, none⟩), .int .u8 (c : Nat)] w fun e w' => e = .returned (.tuple #[]) ∧ WAt B p (l ++ memT c) o d w' ∧ Below B w w' ∧ Fr p w w' := by
  have H := Lib.hid h
  clear h
  have hi := idx_mem c hc
  have Ci := Lib.hid (sindex_any [93, 91, 94, 45] c hc)
  generalize Lib.indexByte [93, 91, 94, 45] (UInt8.ofNat c) = ix at *
  by_cases hm : c = 93 ∨ c = 91 ∨ c = 94 ∨ c = 45
  · have h0 : 0 ≤ ix := by rw [decide_eq_true hm] at hi; exact of_decide_eq_true hi
    have Hm := Lib.hid (show memT c = [91, 46, UInt8.ofNat c, 46, 93] by unfold memT; rw [if_pos hm])
    clear hi hm
    go_enter Tryd.func50, Tryd.ntmps50
    go_wp2_with fail
    refine (Ci.out w).mono ?_
    rintro e w1 ⟨rfl, rfl⟩
    go_wp2_with fail
    have hconv : (convert 51 9 (.slice (some ⟨w1.heap.size, 0, none⟩) 1 1)).run Tryd.prog (w1.alloc (.cells #[.int .u8 (c : Nat)] 5)).drew = .ok (.string (bs [UInt8.ofNat c])) (w1.alloc (.cells #[.int .u8 (c : Nat)] 5)).drew := by
      refine run_convert_bytes_back _ _ _ 5 ⟨w1.heap.size, 0, none⟩ 1 [UInt8.ofNat c] Tryd.underlying51 Tryd.underlying5 Tryd.underlying9 ?_
      intro j hj
      have : j = 0 := by simpa using hj
      subst this
      have hb8 : (UInt8.ofNat c).toNat = c := b8 hc
      simp only [List.getElem_cons_zero, hb8]
      exact World.cell?_alloc_new w1 #[.int .u8 (c : Nat)] 5 0
    have sz1 : (bs [UInt8.ofNat c]).size = 1 := by simp [bs, ByteArray.size]
    have c1 : bs [91, 46] ++ bs [UInt8.ofNat c] = bs [91, 46, UInt8.ofNat c] := bs_cat _ _
    have c2 : bs [91, 46, UInt8.ofNat c] ++ bs [46, 93] = bs [91, 46, UInt8.ofNat c, 46, 93] := bs_cat _ _
    have hW : Below w1.heap.size w1 (w1.alloc (.cells #[.int .u8 (c : Nat)] 5)).drew := ((Below.refl _ _).alloc (Nat.le_refl _) _).drew
    have HWt := Lib.hid (H.out.later hW)
    have HWb := Lib.hid (hW.mono hB)
    have HWf := Lib.hid (Fr.of_below H.out.lt hW)
    clear hW
    go_region_with (go_at_call 48; refine (wstr_any B p l o d _ HWt.out hl (Nat.le_trans hB HWb.out.size) [91, 46, UInt8.ofNat c, 46, 93] (by simp) (by simp)).mono ?_; rintro e w9 ⟨⟨k9, rfl⟩, h9, hb9, hf9⟩)
    all_goals
      go_wp2_with fail
      exact bodyPost_ret (v := .tuple #[]) (by simp [results, Tryd.results50, go_sem]) rfl ⟨rfl, by rw [Hm.out]; exact h9, HWb.out.trans hb9, HWf.out.trans hf9⟩
  · have h0 : ix < 0 := by rw [decide_eq_false hm] at hi; have := of_decide_eq_false hi; omega
    have Hm := Lib.hid (show memT c = [UInt8.ofNat c] by unfold memT; rw [if_neg hm])
    clear hi hm
    have hb8 : (UInt8.ofNat c).toNat = c := b8 hc
    have cw := wbyte_any B p l o d w H.out hl hB (UInt8.ofNat c)
    rw [hb8] at cw
    have Cw := Lib.hid cw
    clear cw hb8
    go_enter Tryd.func50, Tryd.ntmps50
    go_wp2_with fail
    refine (Ci.out w).mono ?_
    rintro e w1 ⟨rfl, rfl⟩
    go_wp2_with fail
    refine Cw.out.mono ?_
    rintro e w2 ⟨rfl, h2, hb2, hf2⟩
    go_wp2_with fail
    go_end0
    exact ⟨rfl, by rw [Hm.out]; exact h2, hb2, hf2⟩
end Go.Proofs.YteekafkpeimhoaaDoor

/- A writer of patterns: sets: walked. -/
set_option linter.unusedVariables false
set_option linter.unusedSimpArgs false
namespace Go.Proofs.YteekafkpeimhoaaDoor
open Go.RowKit

theorem runN_at : ∀ (c : Nat) (t : List Nat) (m : Nat), m ≤ runN c t → (c :: t)[m]? = some (c + m)
  | c, t, 0, _ => rfl
  | c, [], m + 1, h => by simp [runN] at h
  | c, d :: t, m + 1, h => by
    rw [runN] at h
    split at h
    · rename_i hd
      subst hd
      have := runN_at (c + 1) t m (by omega)
      rw [List.getElem?_cons_succ, this]
      congr 1; omega
    · omega
theorem runN_end : ∀ (c : Nat) (t : List Nat), runN c t < t.length → ∃ x, (c :: t)[1 + runN c t]? = some x ∧ x ≠ c + (1 + runN c t)
  | c, [], h => by simp [runN] at h
  | c, d :: t, h => by
    rw [runN] at h ⊢
    split
    · rename_i hd
      subst hd
      rw [if_pos rfl] at h
      obtain ⟨x, h1, h2⟩ := runN_end (c + 1) t (by simp at h; omega)
      refine ⟨x, ?_, by omega⟩
      rw [show 1 + (1 + runN (c + 1) t) = (1 + runN (c + 1) t) + 1 by omega, List.getElem?_cons_succ]
      exact h1
    · rename_i hd
      exact ⟨d, rfl, by omega⟩
theorem runsT_step (f c : Nat) (t : List Nat) : runsT (f + 1) (c :: t) = memT c ++ ((if 1 < runN c t then [45] else []) ++ ((if 0 < runN c t then memT (c + runN c t) else []) ++ runsT f (t.drop (runN c t)))) := by rw [runsT]
theorem memT_len (c : Nat) : (memT c).length ≤ 5 := by unfold memT; split <;> simp
set_option maxRecDepth 100000 in
set_option maxHeartbeats 8000000 in
theorem wset_any (B p : Nat) (l : Bs) (o d : Int) (w : World) (h : WAt B p l o d w) (hl : l.length ≤ 2000) (hB : B ≤ w.heap.size) (S : W4) (hS : Wok S) :
    Calls Tryd.prog 35 #[.pointer (some ⟨p, 0, none⟩), S.V] w fun e w' => e = .returned (.tuple #[]) ∧ WAt B p (l ++ setT S) o d w' ∧ Below B w w' ∧ Fr p w w' := by
  have H := Lib.hid h
  have hp := h.lt
  clear h
  go_enter Tryd.func35, Tryd.ntmps35
  go_wp2_with fail
  generalize hW : w.alloc _ = W0
  have hB0 : Below w.heap.size w W0 := by subst hW; exact (Below.refl _ _).alloc (Nat.le_refl _) _
  clear hW
  refine (bytes_any W0 S hS).mono ?_
  rintro en w1 ⟨v, rfl, hrow, hb1⟩
  obtain ⟨A, cp, rfl⟩ := hrow.form
  have hB1 := hB0.step hb1
  have H1 := Lib.hid (H.out.later hB1)
  have HB1 := Lib.hid (hB1.mono hB)
  have HG1 := Lib.hid (Fr.of_below hp hB1)
  have hz01 : w.heap.size ≤ W0.heap.size := hB0.size
  have hblt := bytesW_lt S
  have hL256 := bytesW_le S
  have Hrow := Lib.hid hrow; have Hblt := Lib.hid hblt
  have hset : setT S = if (bytesW S).length = 256 then [46]
      else if (bytesW S).length = 0 then [91, 94, 0, 45, 255, 93]
      else if (bytesW S).length = 1 then (if specB ((bytesW S).headD 0) then [92, UInt8.ofNat ((bytesW S).headD 0)] else [UInt8.ofNat ((bytesW S).headD 0)])
      else [91] ++ (runsT (bytesW S).length (bytesW S) ++ [93]) := rfl
  have Hset := Lib.hid hset
  have hB1w := hB1
  clear hrow hblt hset hB0 hB1 hb1
  generalize bytesW S = L at *
  have hcells : ∀ (h0 : L ≠ []), ∃ g, A = some ⟨g, 0, none⟩ ∧ Foreign w1 p g ∧ L.length ≤ cp ∧ ∀ i c, L[i]? = some c → w1.cell? ⟨g, i, none⟩ = some (.int .u8 (c : Nat)) := fun h0 => by
    rcases Hrow.out.2 with ⟨_, hz⟩ | ⟨g, cap, cur, hv, hbg, hg, hnc, hcm, hcs, htake⟩
    · exact absurd (List.eq_nil_of_length_eq_zero hz) h0
    · cases hv
      refine ⟨g, rfl, ⟨(Array.getElem?_eq_some_iff.1 hg).1, by omega, fun v hv e => ?_⟩, hnc, fun i c hi => ?_⟩
      · obtain ⟨_, a, v', hb, _, hown, _⟩ := H.out
        have hc := hb.cells.2.1
        have hc' := (hB1w.cell (p := ⟨p, 1, none⟩) hp).trans hc
        rw [hv] at hc'
        cases hc'
        have := (hown.lt g e).2
        omega
      · have := World.ownsRow.cells Hrow.out (g := g) rfl i (.int .u8 (c : Nat)) (by simp [hi])
        rcases i with _ | i
        · simpa [Addr.add] using this
        · simpa [Addr.add] using this
  have Hcells := Lib.hid hcells
  clear hcells Hrow H hB1w
  by_cases h256 : L.length = 256
  · have Hs := Lib.hid (show setT S = [46] by rw [Hset.out, if_pos h256])
    clear Hset
    go_wp2_with fail
    refine (wbyte_any B p l o d w1 H1.out (by omega) (Nat.le_trans hB HB1.out.size) 46).mono ?_
    rintro e w2 ⟨rfl, h2, hb2, hf2⟩
    go_wp2_with fail
    exact bodyPost_ret (v := .tuple #[]) (by simp [results, Tryd.results35, go_sem]) rfl ⟨rfl, by rw [Hs.out]; exact h2, HB1.out.trans hb2, HG1.out.trans hf2⟩
  by_cases hl0 : L.length = 0
  · have Hs := Lib.hid (show setT S = [91, 94, 0, 45, 255, 93] by rw [Hset.out, if_neg h256, if_pos hl0])
    clear Hset
    rw [hl0]
    go_wp2_with fail
    refine (wstr_any B p l o d w1 H1.out (by omega) (Nat.le_trans hB HB1.out.size) [91, 94, 0, 45, 255, 93] (by simp) (by simp)).mono ?_
    rintro e w2 ⟨⟨k, rfl⟩, h2, hb2, hf2⟩
    go_wp2_with fail
    exact bodyPost_ret (v := .tuple #[]) (by simp [results, Tryd.results35, go_sem]) rfl ⟨rfl, by rw [Hs.out]; exact h2, HB1.out.trans hb2, HG1.out.trans hf2⟩
  have hne : L ≠ [] := fun e => hl0 (by rw [e]; rfl)
  obtain ⟨g, rfl, hF, hcp, hce⟩ := Hcells.out hne
  by_cases hl1 : L.length = 1
  · obtain ⟨c, rfl⟩ : ∃ c, L = [c] := List.length_eq_one_iff.1 hl1
    have hc := Hblt.out c (by simp)
    have f0 := hce 0 c rfl
    have hspec := idx_spec c hc
    have Ci := Lib.hid (sindex_any [92, 94, 46, 91, 36, 40, 41, 124, 42, 43, 63, 123] c hc)
    have hb8 : (UInt8.ofNat c).toNat = c := b8 hc
    generalize Lib.indexByte [92, 94, 46, 91, 36, 40, 41, 124, 42, 43, 63, 123] (UInt8.ofNat c) = ix at *
    simp only [List.length_cons, List.length_nil, Nat.zero_add] at hcp ⊢
    cases hsp : specB c with
    | true =>
      have hx : 0 ≤ ix := by rw [hsp] at hspec; exact of_decide_eq_true hspec
      have Hs := Lib.hid (show setT S = [92, UInt8.ofNat c] by rw [Hset.out]; simp [hsp])
      clear Hset hspec hsp hce Hcells
      go_wp2_with fail
      refine (Ci.out w1).mono ?_
      rintro e w1' ⟨rfl, rfl⟩
      go_wp2_with fail
      refine (wbyte_any B p l o d w1' H1.out (by omega) (Nat.le_trans hB HB1.out.size) 92).mono ?_
      rintro e w2 ⟨rfl, h2, hb2, hf2⟩
      have f0' : w2.cell? ⟨g, 0, none⟩ = some (.int .u8 (c : Nat)) := (World.cell?_of_block (w := w1') (a := ⟨g, 0, none⟩) (hf2 g hF).1).trans f0
      have H2 := Lib.hid h2; have HP2 := h2.lt; have HG2 := Lib.hid (HG1.out.trans hf2); have HB2 := Lib.hid (HB1.out.trans hb2)
      have cw := wbyte_any B p (l ++ [92]) o d w2.drew (h2.later (Below.refl _ _).drew) (by simp; omega) (Nat.le_trans hB HB2.out.size) (UInt8.ofNat c)
      rw [hb8] at cw
      have Cw := Lib.hid cw
      clear h2 hb2 hf2 f0 cw
      go_wp2_with fail
      go_region_with (go_at_call 34; refine Cw.out.mono ?_; rintro e w3 ⟨rfl, h3, hb3, hf3⟩)
      all_goals
        go_wp2_with fail
        exact bodyPost_ret (v := .tuple #[]) (by simp [results, Tryd.results35, go_sem]) rfl ⟨rfl, by rw [Hs.out]; simpa using h3, (HB2.out.drew).trans hb3, (HG2.out.trans (Fr.of_below HP2 (Below.refl _ _).drew)).trans hf3⟩
    | false =>
      have hx : ix < 0 := by rw [hsp] at hspec; have := of_decide_eq_false hspec; omega
      have Hs := Lib.hid (show setT S = [UInt8.ofNat c] by rw [Hset.out]; simp [hsp])
      clear Hset hspec hsp hce Hcells
      have cw := wbyte_any B p l o d w1.drew (H1.out.later (Below.refl _ _).drew) (by omega) (Nat.le_trans hB HB1.out.size) (UInt8.ofNat c)
      rw [hb8] at cw
      have Cw := Lib.hid cw
      clear cw
      go_wp2_with fail
      refine (Ci.out w1).mono ?_
      rintro e w1' ⟨rfl, rfl⟩
      go_wp2_with fail
      go_region_with (go_at_call 34; refine Cw.out.mono ?_; rintro e w3 ⟨rfl, h3, hb3, hf3⟩)
      all_goals
        go_wp2_with fail
        exact bodyPost_ret (v := .tuple #[]) (by simp [results, Tryd.results35, go_sem]) rfl ⟨rfl, by rw [Hs.out]; exact h3, (HB1.out.drew).trans hb3, (HG1.out.trans (Fr.of_below H1.out.lt (Below.refl _ _).drew)).trans hf3⟩
  · have Hs := Lib.hid (show setT S = [91] ++ (runsT L.length L ++ [93]) by rw [Hset.out, if_neg h256, if_neg hl0, if_neg hl1])
    have hle : L.length ≤ 256 := hL256
    clear Hset
    have hn0 : (L.length : Int) ≠ 0 := by omega
    go_wp2_with fail
    refine (wbyte_any B p l o d w1 H1.out (by omega) (Nat.le_trans hB HB1.out.size) 91).mono ?_
    rintro e w2 ⟨rfl, h2, hb2, hf2⟩
    have hce2 : ∀ i c, L[i]? = some c → w2.cell? ⟨g, i, none⟩ = some (.int .u8 (c : Nat)) := fun i c hi => (World.cell?_of_block (w := w1) (a := ⟨g, i, none⟩) (hf2 g hF).1).trans (hce i c hi)
    have HF2 := Lib.hid (hf2 g hF).2
    have H2 := Lib.hid h2; have HP2 := h2.lt; have HG2 := Lib.hid (HG1.out.trans hf2); have HB2 := Lib.hid (HB1.out.trans hb2); have Hce2 := Lib.hid hce2
    clear h2 hb2 hf2 hce2 hce hF Hcells H1 HB1
    go_wp2_with fail
    go_loopg [4, 5] (L.length) (fun k a n wr => ∃ (q f : Nat) (X : Bs) (A' : Option Addr) (cp' : Nat), a = .slice A' (L.length - q) cp' ∧ q + k = L.length ∧ (q < L.length → A' = some ⟨g, q, none⟩ ∧ L.length - q ≤ cp') ∧ L.length - q ≤ f ∧ X.length ≤ 11 * q ∧ X ++ runsT f (L.drop q) = runsT L.length L ∧ WAt B p (l ++ [91] ++ X) o d wr ∧ (∀ i c, L[i]? = some c → wr.cell? ⟨g, i, none⟩ = some (.int .u8 (c : Nat))) ∧ Foreign wr p g ∧ Below B w wr ∧ Fr p w wr)
    case atStart => exact ⟨0, L.length, [], some ⟨g, 0, none⟩, cp, rfl, by omega, fun _ => ⟨rfl, hcp⟩, Nat.le_refl _, by simp, rfl, by simpa using H2.out, Hce2.out, HF2.out, HB2.out, HG2.out⟩
    case round =>
      obtain ⟨q, f, X, A', cp', rfl, hq, hA, hf, hX, hrun, hW, hce, hF, hBr, hGr⟩ := hrel
      have HWr := Lib.hid hW; have HCe := Lib.hid hce; have HF := Lib.hid hF; have HB := Lib.hid hBr; have HG := Lib.hid hGr; have Hrun := Lib.hid hrun
      clear hW hce hF hBr hrun H2 HB2 Hce2 HF2
      by_cases hql : q < L.length
      · obtain ⟨rfl, hc'⟩ := hA hql
        obtain ⟨f', rfl⟩ : ∃ f', f = f' + 1 := ⟨f - 1, by omega⟩
        have hpos : (0 : Int) < ((L.length - q : Nat) : Int) := by omega
        obtain ⟨c, t, hdrop⟩ : ∃ c t, L.drop q = c :: t := by
          rw [List.drop_eq_getElem_cons hql]; exact ⟨_, _, rfl⟩
        have hget : ∀ m x, (c :: t)[m]? = some x → L[q + m]? = some x := fun m x hx => by rw [← hdrop, List.getElem?_drop] at hx; exact hx
        have htl : t.length = L.length - q - 1 := by have := congrArg List.length hdrop; simp at this; omega
        have hcx := hget 0 c rfl
        have Hget := Lib.hid hget; have Hdrop := Lib.hid hdrop
        have c0 := HCe.out (q + 0) c hcx
        simp only [Nat.add_zero] at c0
        have hc256 := Hblt.out c (List.mem_of_getElem? hcx)
        have hrN := runN_le c t
        clear hget hdrop hcx
        go_wp2_with fail
        go_loopg [5] (runN c t) (fun k n wr' => ∃ m : Nat, n = .int .i64 m ∧ m + k = 1 + runN c t ∧ 1 ≤ m ∧ WAt B p (l ++ [91] ++ X) o d wr' ∧ (∀ i c, L[i]? = some c → wr'.cell? ⟨g, i, none⟩ = some (.int .u8 (c : Nat))) ∧ Foreign wr' p g ∧ Below B w wr' ∧ Fr p w wr')
        case atStart => exact ⟨1, rfl, by omega, Nat.le_refl _, HWr.out, HCe.out, HF.out, HB.out, HG.out⟩
        case round =>
          obtain ⟨m, rfl, hmk, hm1, hW3, hce3, hF3, hB3, hG3⟩ := hrel
          have HW3 := Lib.hid hW3; have HC3 := Lib.hid hce3; have HF3 := Lib.hid hF3; have HB3 := Lib.hid hB3
          have c0 := hce3 (q + 0) c (Hget.out 0 c rfl)
          simp only [Nat.add_zero] at c0
          have hbd : Below wr.heap.size wr wr.drew := (Below.refl _ _).drew
          have HW4 := Lib.hid (hW3.later hbd)
          have HC4 := Lib.hid (fun i c hi => ((hbd.cell (p := ⟨g, i, none⟩) hF3.1).trans (hce3 i c hi) : wr.drew.cell? ⟨g, i, none⟩ = some (.int .u8 (c : Nat))))
          have HF4 := Lib.hid (Fr.of_below hW3.lt hbd g hF3).2
          have HB4 := Lib.hid hB3.drew
          have HG4 := Lib.hid (hG3.trans (Fr.of_below hW3.lt hbd))
          clear hW3 hce3 hF3 hB3 hbd HWr HCe HF HB
          by_cases hmr : m ≤ runN c t
          · have hcm := HC3.out (q + m) (c + m) (Hget.out m (c + m) (runN_at c t m hmr))
            have hml : m < L.length - q := by omega
            clear HW3 HC3 HF3 HB3
            go_wp2_with fail
            go_region
            all_goals
              go_wp2_with fail
              go_roundg (gk - 1)
              case measure => omega
              case rel => exact ⟨m + 1, by go_num, by omega, by omega, HW4.out, HC4.out, HF4.out, HB4.out, HG4.out⟩
          · have hmr1 : m = 1 + runN c t := by omega
            subst hmr1
            have hstop : (1 + runN c t ≤ L.length - q ∧ L.length - q ≤ 1 + runN c t) ∨ ∃ x, 1 + runN c t < L.length - q ∧ L[q + (1 + runN c t)]? = some x ∧ x ≠ c + (1 + runN c t) := by
              by_cases he : runN c t < t.length
              · obtain ⟨x, hx1, hx2⟩ := runN_end c t he
                exact .inr ⟨x, by omega, Hget.out _ x hx1, hx2⟩
              · exact .inl (by omega)
            have hdq : L.drop (q + (1 + runN c t)) = t.drop (runN c t) := by
              rw [← List.drop_drop, Hdrop.out, Nat.add_comm 1, List.drop_succ_cons]
            have hrs := Hrun.out
            rw [Hdrop.out, runsT_step, ← hdq] at hrs
            have Hrs := Lib.hid hrs
            have Hrun1 := Lib.hid (fun m hm => runN_at c t m hm)
            clear hrs hdq Hrun hmk
            generalize runN c t = r at *
            have hbz1 : 1 + r ≤ L.length - q := by rcases hstop with h | ⟨x, h, _⟩ <;> omega
            generalize hmq : 1 + r = m1 at *
            have Hm1 := Lib.hid hmq
            rcases hstop with ⟨hst1, hst2⟩ | ⟨x, hst, hxc, hxn⟩
            · clear HW3 HC3 HF3 HB3 hmq
              have hnb : decide ((m1 : Int) < ((L.length - q : Nat) : Int)) = false := by rw [decide_eq_false_iff_not]; omega
              generalize hnn : ((m1 : Nat) : Int) = nn at *
              have Hnn := Lib.hid hnn
              clear hnn hst1 hbz1
              go_wp2_with fail
              go_region
              have hmm := Hm1.out
              have hnn := Hnn.out
              subst hnn
              subst hmm
              clear Hm1 Hnn hnb
              have hll : (l ++ [91] ++ X).length ≤ 10000 := by simp; omega
              have lm := memT_len c
              go_wp2_with fail
              refine (wmember_any B p (l ++ [91] ++ X) o d _ HW4.out (by simp; omega) (Nat.le_trans hB HB4.out.size) c hc256).mono ?_
              rintro e w5 ⟨rfl, h5, hb5, hf5⟩
              have HC5 := Lib.hid (fun i c hi => ((World.cell?_of_block (a := ⟨g, i, none⟩) (hf5 g HF4.out).1).trans (HC4.out i c hi) : w5.cell? ⟨g, i, none⟩ = some (.int .u8 (c : Nat))))
              have HF5 := Lib.hid (hf5 g HF4.out).2
              have HB5 := Lib.hid (HB4.out.trans hb5)
              have HG5 := Lib.hid (HG4.out.trans hf5)
              have HW5 := Lib.hid h5
              clear h5 hb5 hf5 HC4 HF4 HB4 HW4
              clear c0
              rcases (show r = 0 ∨ r = 1 ∨ 2 ≤ r by omega) with hr0 | hr0 | hr0
              · subst hr0
                have Hrs := Lib.hid (show X ++ (memT c ++ runsT f' (L.drop (q + (1 + 0)))) = runsT L.length L by have := Hrs.out; simpa using this)
                have HC9 := HC5
                clear HC5
                have HF9 := HF5
                clear HF5
                have HB9 := HB5
                have HG9 := HG5
                clear HB5
                have HW9 := HW5
                clear HW5
                go_wp2_with fail
                all_goals
                  go_roundg (L.length - (q + (1 + 0)))
                  case measure => omega
                  case rel => exact ⟨q + (1 + 0), f', X ++ memT c, _, _, (by rw [Value.slice.injEq]; exact ⟨rfl, by omega, rfl⟩), by omega, (fun h => by first | exact ⟨rfl, by omega⟩ | (exfalso; omega)), by omega, by simp; omega, by rw [← Hrs.out]; simp, by simpa using HW9.out, HC9.out, HF9.out, HB9.out, HG9.out⟩
              · subst hr0
                have Hrs := Lib.hid (show X ++ (memT c ++ (memT (c + 1) ++ runsT f' (L.drop (q + (1 + 1))))) = runsT L.length L by have := Hrs.out; simpa using this)
                have c1 := HC5.out (q + 1) (c + 1) (Hget.out 1 (c + 1) (Hrun1.out 1 (by omega)))
                have lm1 := memT_len (c + 1)
                have hc1 := Hblt.out (c + 1) (List.mem_of_getElem? (Hget.out 1 (c + 1) (Hrun1.out 1 (by omega))))
                go_wp2_with fail
                refine (wmember_any B p (l ++ [91] ++ X ++ memT c) o d _ HW5.out (by simp; omega) (Nat.le_trans hB HB5.out.size) (c + 1) hc1).mono ?_
                rintro e w6 ⟨rfl, h6, hb6, hf6⟩
                have HC6 := Lib.hid (fun i c hi => ((World.cell?_of_block (a := ⟨g, i, none⟩) (hf6 g HF5.out).1).trans (HC5.out i c hi) : w6.cell? ⟨g, i, none⟩ = some (.int .u8 (c : Nat))))
                have HF6 := Lib.hid (hf6 g HF5.out).2
                have HB6 := Lib.hid (HB5.out.trans hb6)
                have HG6 := Lib.hid (HG5.out.trans hf6)
                have HW6 := Lib.hid h6
                clear h6 hb6 hf6 HC5 HF5 HB5 HW5
                clear c1
                have HC9 := HC6
                clear HC6
                have HF9 := HF6
                clear HF6
                have HB9 := HB6
                have HG9 := HG6
                clear HB6
                have HW9 := HW6
                clear HW6
                go_wp2_with fail
                all_goals
                  go_roundg (L.length - (q + (1 + 1)))
                  case measure => omega
                  case rel => exact ⟨q + (1 + 1), f', X ++ (memT c ++ memT (c + 1)), _, _, (by rw [Value.slice.injEq]; exact ⟨rfl, by omega, rfl⟩), by omega, (fun h => by first | exact ⟨rfl, by omega⟩ | (exfalso; omega)), by omega, by simp; omega, by rw [← Hrs.out]; simp, by simpa using HW9.out, HC9.out, HF9.out, HB9.out, HG9.out⟩
              · have Hrs := Lib.hid (show X ++ (memT c ++ ([45] ++ (memT (c + r) ++ runsT f' (L.drop (q + (1 + r)))))) = runsT L.length L by have := Hrs.out; rw [if_pos (by omega), if_pos (by omega)] at this; exact this)
                have lm1 := memT_len (c + r)
                have hcr := Hget.out r (c + r) (Hrun1.out r (by omega))
                have hc1 := Hblt.out (c + r) (List.mem_of_getElem? hcr)
                have Hcr := Lib.hid hcr
                clear hcr
                go_wp2_with fail
                refine (wbyte_any B p (l ++ [91] ++ X ++ memT c) o d _ HW5.out (by simp; omega) (Nat.le_trans hB HB5.out.size) 45).mono ?_
                rintro e w6 ⟨rfl, h6, hb6, hf6⟩
                have HC6 := Lib.hid (fun i c hi => ((World.cell?_of_block (a := ⟨g, i, none⟩) (hf6 g HF5.out).1).trans (HC5.out i c hi) : w6.cell? ⟨g, i, none⟩ = some (.int .u8 (c : Nat))))
                have HF6 := Lib.hid (hf6 g HF5.out).2
                have HB6 := Lib.hid (HB5.out.trans hb6)
                have HG6 := Lib.hid (HG5.out.trans hf6)
                have HW6 := Lib.hid h6
                clear h6 hb6 hf6 HC5 HF5 HB5 HW5
                have c1 := HC6.out (q + r) (c + r) Hcr.out
                have hrr : ((1 + r : Nat) : Int) - 1 = (r : Int) := by omega
                go_wp2_with fail
                refine (wmember_any B p (l ++ [91] ++ X ++ memT c ++ [45]) o d _ HW6.out (by simp; omega) (Nat.le_trans hB HB6.out.size) (c + r) hc1).mono ?_
                rintro e w7 ⟨rfl, h7, hb7, hf7⟩
                have HC7 := Lib.hid (fun i c hi => ((World.cell?_of_block (a := ⟨g, i, none⟩) (hf7 g HF6.out).1).trans (HC6.out i c hi) : w7.cell? ⟨g, i, none⟩ = some (.int .u8 (c : Nat))))
                have HF7 := Lib.hid (hf7 g HF6.out).2
                have HB7 := Lib.hid (HB6.out.trans hb7)
                have HG7 := Lib.hid (HG6.out.trans hf7)
                have HW7 := Lib.hid h7
                clear h7 hb7 hf7 HC6 HF6 HB6 HW6
                clear c1 hrr
                have HC9 := HC7
                clear HC7
                have HF9 := HF7
                clear HF7
                have HB9 := HB7
                have HG9 := HG7
                clear HB7
                have HW9 := HW7
                clear HW7
                go_wp2_with fail
                all_goals
                  go_roundg (L.length - (q + (1 + r)))
                  case measure => omega
                  case rel => exact ⟨q + (1 + r), f', X ++ (memT c ++ ([45] ++ memT (c + r))), _, _, (by rw [Value.slice.injEq]; exact ⟨rfl, by omega, rfl⟩), by omega, (fun h => by first | exact ⟨rfl, by omega⟩ | (exfalso; omega)), by omega, by simp; omega, by rw [← Hrs.out]; simp, by simpa using HW9.out, HC9.out, HF9.out, HB9.out, HG9.out⟩
            · have hcm := HC3.out (q + m1) x hxc
              have hx256 := Hblt.out x (List.mem_of_getElem? hxc)
              have hnb : ((x : Int) == (c : Int) + (m1 : Int)) = false := by rw [beq_eq_false_iff_ne]; omega
              have Hst := Lib.hid hst
              clear HW3 HC3 HF3 HB3 hxc hxn hmq hbz1
              go_wp2_with fail
              go_region
              have hmm := Hm1.out
              subst hmm
              clear Hm1 hnb hcm
              have hll : (l ++ [91] ++ X).length ≤ 10000 := by simp; omega
              have lm := memT_len c
              go_wp2_with fail
              refine (wmember_any B p (l ++ [91] ++ X) o d _ HW4.out (by simp; omega) (Nat.le_trans hB HB4.out.size) c hc256).mono ?_
              rintro e w5 ⟨rfl, h5, hb5, hf5⟩
              have HC5 := Lib.hid (fun i c hi => ((World.cell?_of_block (a := ⟨g, i, none⟩) (hf5 g HF4.out).1).trans (HC4.out i c hi) : w5.cell? ⟨g, i, none⟩ = some (.int .u8 (c : Nat))))
              have HF5 := Lib.hid (hf5 g HF4.out).2
              have HB5 := Lib.hid (HB4.out.trans hb5)
              have HG5 := Lib.hid (HG4.out.trans hf5)
              have HW5 := Lib.hid h5
              clear h5 hb5 hf5 HC4 HF4 HB4 HW4
              clear c0
              rcases (show r = 0 ∨ r = 1 ∨ 2 ≤ r by omega) with hr0 | hr0 | hr0
              · subst hr0
                have Hrs := Lib.hid (show X ++ (memT c ++ runsT f' (L.drop (q + (1 + 0)))) = runsT L.length L by have := Hrs.out; simpa using this)
                have HC9 := HC5
                clear HC5
                have HF9 := HF5
                clear HF5
                have HB9 := HB5
                have HG9 := HG5
                clear HB5
                have HW9 := HW5
                clear HW5
                go_wp2_with fail
                all_goals
                  go_roundg (L.length - (q + (1 + 0)))
                  case measure => omega
                  case rel => exact ⟨q + (1 + 0), f', X ++ memT c, _, _, (by rw [Value.slice.injEq]; exact ⟨rfl, by omega, rfl⟩), by omega, (fun h => by first | exact ⟨rfl, by omega⟩ | (exfalso; omega)), by omega, by simp; omega, by rw [← Hrs.out]; simp, by simpa using HW9.out, HC9.out, HF9.out, HB9.out, HG9.out⟩
              · subst hr0
                have Hrs := Lib.hid (show X ++ (memT c ++ (memT (c + 1) ++ runsT f' (L.drop (q + (1 + 1))))) = runsT L.length L by have := Hrs.out; simpa using this)
                have c1 := HC5.out (q + 1) (c + 1) (Hget.out 1 (c + 1) (Hrun1.out 1 (by omega)))
                have lm1 := memT_len (c + 1)
                have hc1 := Hblt.out (c + 1) (List.mem_of_getElem? (Hget.out 1 (c + 1) (Hrun1.out 1 (by omega))))
                go_wp2_with fail
                refine (wmember_any B p (l ++ [91] ++ X ++ memT c) o d _ HW5.out (by simp; omega) (Nat.le_trans hB HB5.out.size) (c + 1) hc1).mono ?_
                rintro e w6 ⟨rfl, h6, hb6, hf6⟩
                have HC6 := Lib.hid (fun i c hi => ((World.cell?_of_block (a := ⟨g, i, none⟩) (hf6 g HF5.out).1).trans (HC5.out i c hi) : w6.cell? ⟨g, i, none⟩ = some (.int .u8 (c : Nat))))
                have HF6 := Lib.hid (hf6 g HF5.out).2
                have HB6 := Lib.hid (HB5.out.trans hb6)
                have HG6 := Lib.hid (HG5.out.trans hf6)
                have HW6 := Lib.hid h6
                clear h6 hb6 hf6 HC5 HF5 HB5 HW5
                clear c1
                have HC9 := HC6
                clear HC6
                have HF9 := HF6
                clear HF6
                have HB9 := HB6
                have HG9 := HG6
                clear HB6
                have HW9 := HW6
                clear HW6
                go_wp2_with fail
                all_goals
                  go_roundg (L.length - (q + (1 + 1)))
                  case measure => omega
                  case rel => exact ⟨q + (1 + 1), f', X ++ (memT c ++ memT (c + 1)), _, _, (by rw [Value.slice.injEq]; exact ⟨rfl, by omega, rfl⟩), by omega, (fun h => by first | exact ⟨rfl, by omega⟩ | (exfalso; omega)), by omega, by simp; omega, by rw [← Hrs.out]; simp, by simpa using HW9.out, HC9.out, HF9.out, HB9.out, HG9.out⟩
              · have Hrs := Lib.hid (show X ++ (memT c ++ ([45] ++ (memT (c + r) ++ runsT f' (L.drop (q + (1 + r)))))) = runsT L.length L by have := Hrs.out; rw [if_pos (by omega), if_pos (by omega)] at this; exact this)
                have lm1 := memT_len (c + r)
                have hcr := Hget.out r (c + r) (Hrun1.out r (by omega))
                have hc1 := Hblt.out (c + r) (List.mem_of_getElem? hcr)
                have Hcr := Lib.hid hcr
                clear hcr
                go_wp2_with fail
                refine (wbyte_any B p (l ++ [91] ++ X ++ memT c) o d _ HW5.out (by simp; omega) (Nat.le_trans hB HB5.out.size) 45).mono ?_
                rintro e w6 ⟨rfl, h6, hb6, hf6⟩
                have HC6 := Lib.hid (fun i c hi => ((World.cell?_of_block (a := ⟨g, i, none⟩) (hf6 g HF5.out).1).trans (HC5.out i c hi) : w6.cell? ⟨g, i, none⟩ = some (.int .u8 (c : Nat))))
                have HF6 := Lib.hid (hf6 g HF5.out).2
                have HB6 := Lib.hid (HB5.out.trans hb6)
                have HG6 := Lib.hid (HG5.out.trans hf6)
                have HW6 := Lib.hid h6
                clear h6 hb6 hf6 HC5 HF5 HB5 HW5
                have c1 := HC6.out (q + r) (c + r) Hcr.out
                have hrr : ((1 + r : Nat) : Int) - 1 = (r : Int) := by omega
                go_wp2_with fail
                refine (wmember_any B p (l ++ [91] ++ X ++ memT c ++ [45]) o d _ HW6.out (by simp; omega) (Nat.le_trans hB HB6.out.size) (c + r) hc1).mono ?_
                rintro e w7 ⟨rfl, h7, hb7, hf7⟩
                have HC7 := Lib.hid (fun i c hi => ((World.cell?_of_block (a := ⟨g, i, none⟩) (hf7 g HF6.out).1).trans (HC6.out i c hi) : w7.cell? ⟨g, i, none⟩ = some (.int .u8 (c : Nat))))
                have HF7 := Lib.hid (hf7 g HF6.out).2
                have HB7 := Lib.hid (HB6.out.trans hb7)
                have HG7 := Lib.hid (HG6.out.trans hf7)
                have HW7 := Lib.hid h7
                clear h7 hb7 hf7 HC6 HF6 HB6 HW6
                clear c1 hrr
                have HC9 := HC7
                clear HC7
                have HF9 := HF7
                clear HF7
                have HB9 := HB7
                have HG9 := HG7
                clear HB7
                have HW9 := HW7
                clear HW7
                go_wp2_with fail
                all_goals
                  go_roundg (L.length - (q + (1 + r)))
                  case measure => omega
                  case rel => exact ⟨q + (1 + r), f', X ++ (memT c ++ ([45] ++ memT (c + r))), _, _, (by rw [Value.slice.injEq]; exact ⟨rfl, by omega, rfl⟩), by omega, (fun h => by first | exact ⟨rfl, by omega⟩ | (exfalso; omega)), by omega, by simp; omega, by rw [← Hrs.out]; simp, by simpa using HW9.out, HC9.out, HF9.out, HB9.out, HG9.out⟩
      · have hq0 : L.length - q = 0 := by omega
        have hXe : X = runsT L.length L := by rw [← Hrun.out, List.drop_eq_nil_of_le (by omega)]; cases f <;> simp [runsT]
        have HXe := Lib.hid hXe
        clear hXe hA
        rw [hq0]
        go_wp2_with fail
        refine (wbyte_any B p (l ++ [91] ++ X) o d wr HWr.out (by simp; omega) (Nat.le_trans hB HB.out.size) 93).mono ?_
        rintro e w9 ⟨rfl, h9, hb9, hf9⟩
        go_wp2_with fail
        go_end0
        exact ⟨rfl, by rw [Hs.out, ← HXe.out]; simpa using h9, HB.out.trans hb9, HG.out.trans hf9⟩
end Go.Proofs.YteekafkpeimhoaaDoor

/- A writer of patterns: what a tree's writing leaves, beyond the limit too. Plain. -/
set_option linter.unusedVariables false
set_option linter.unusedSimpArgs false
namespace Go.Proofs.YteekafkpeimhoaaDoor
open Go.RowKit

/-- What stands behind the writing of a text x, its brackets k deep: the text, or more than the limit. -/
def Wrote (b x : Bs) (o d : Int) (k : Nat) (b' : Bs) (d' : Int) : Prop :=
  if b.length + x.length ≤ 1024 then b' = b ++ x ∧ d' = max d (o + k) else 1024 < b'.length
theorem Wrote.trans {b x y b1 b2 : Bs} {o d d1 d2 : Int} {k m : Nat} (h : Wrote b x o d k b1 d1) (g : Wrote b1 y o d1 m b2 d2) : Wrote b (x ++ y) o d (max k m) b2 d2 := by
  unfold Wrote at *
  by_cases h1 : b.length + x.length ≤ 1024
  · rw [if_pos h1] at h
    obtain ⟨rfl, rfl⟩ := h
    rw [List.length_append] at g
    by_cases h2 : b.length + x.length + y.length ≤ 1024
    · rw [if_pos h2] at g
      obtain ⟨rfl, rfl⟩ := g
      rw [if_pos (by simp; omega)]
      exact ⟨by simp, by omega⟩
    · rw [if_neg h2] at g
      rw [if_neg (by simp; omega)]
      exact g
  · rw [if_neg h1] at h
    rw [if_neg (by simp; omega)]
    rw [if_neg (by omega)] at g
    exact g
theorem Wrote.refl {b : Bs} {o d : Int} (h : o ≤ d) : Wrote b [] o d 0 b d := by
  unfold Wrote
  split
  · exact ⟨by simp, by omega⟩
  · rename_i h1; simp at h1; exact h1
end Go.Proofs.YteekafkpeimhoaaDoor

/- A writer of patterns: does a text fall apart beside others: walked. -/
set_option linter.unusedVariables false
set_option linter.unusedSimpArgs false
namespace Go.Proofs.YteekafkpeimhoaaDoor
open Go.RowKit

set_option maxRecDepth 100000 in
set_option maxHeartbeats 1000000 in
theorem loose_any (w : World) (t : T) (A : Option Addr) (c : Nat) :
    Calls Tryd.prog 37 #[nodeV t A c] w fun e w' => e = .returned (.bool (looseT t)) ∧ Below w.heap.size w w' := by
  obtain ⟨k, s0, s1, s2, s3, mn, mx, ps⟩ := t
  by_cases k0 : k = 0
  · subst k0
    go_enter Tryd.func37, Tryd.ntmps37
    go_wp2_with fail
    go_ret
    exact ⟨rfl, (Below.refl _ _).alloc (Nat.le_refl _) _⟩
  by_cases k4 : k = 4
  · subst k4
    go_enter Tryd.func37, Tryd.ntmps37
    go_wp2_with fail
    go_ret
    exact ⟨rfl, (Below.refl _ _).alloc (Nat.le_refl _) _⟩
  by_cases k5 : k = 5
  · subst k5
    go_enter Tryd.func37, Tryd.ntmps37
    go_wp2_with fail
    go_ret
    exact ⟨rfl, (Below.refl _ _).alloc (Nat.le_refl _) _⟩
  · go_enter Tryd.func37, Tryd.ntmps37
    go_wp2_with fail
    go_ret
    exact ⟨rfl, (Below.refl _ _).alloc (Nat.le_refl _) _⟩
end Go.Proofs.YteekafkpeimhoaaDoor

/- The walk of vouchlaw11.many. -/
set_option linter.unusedVariables false
namespace Go.Proofs.YteekafkpeimhoaaDoor
open Go.RowKit

mutual
def manyF (top : Int) : T → Int
  | .mk _ _ _ _ _ _ _ ps => min (manyL top ps 1) (top + 1)
def manyL (top : Int) : List T → Int → Int
  | [], s => s
  | p :: ps, s => if s ≤ top then manyL top ps (s + manyF top p) else s
end
theorem manyF_eq (top : Int) (t : T) : manyF top t = min (manyL top t.ps 1) (top + 1) := by cases t; rw [manyF]; rfl

theorem manyL_ge (top : Int) (h : 0 ≤ top) (ps : List T) (ih : ∀ p ∈ ps, 1 ≤ manyF top p) : ∀ s, 1 ≤ s → 1 ≤ manyL top ps s := by
  induction ps with
  | nil => intro s hs; simpa [manyL] using hs
  | cons p ps ih2 =>
    intro s hs
    rw [manyL]
    split
    · exact ih2 (fun q hq => ih q (List.mem_cons_of_mem _ hq)) _ (by have := ih p (List.mem_cons_self ..); omega)
    · exact hs
theorem manyF_bd (top : Int) (h : 0 ≤ top) (t : T) : 1 ≤ manyF top t ∧ manyF top t ≤ top + 1 := by
  induction t using T.ind with
  | h t ih =>
    rw [manyF_eq]
    have := manyL_ge top h t.ps (fun p hp => (ih p hp).1) 1 (by omega)
    omega
theorem manyL_stop (top : Int) (ps : List T) (s : Int) (h : ¬ s ≤ top) : manyL top ps s = s := by
  cases ps with
  | nil => rw [manyL]
  | cons p ps => rw [manyL, if_neg h]

set_option maxRecDepth 100000 in
set_option maxHeartbeats 400000 in
theorem many_any (top : Int) (h0 : 0 ≤ top) (h1 : top ≤ 1000000) (t : T) : ∀ (w : World) (ok : Nat → Prop) (A : Option Addr) (c : Nat), NodeAt w ok t A c → (∀ b, ok b → b < w.heap.size) →
    Calls Tryd.prog 10 #[nodeV t A c, .int .i64 top] w fun e w' => e = .returned (.int .i64 (manyF top t)) ∧ Below w.heap.size w w' := by
  induction t using T.ind with
  | h t ih =>
    intro w ok A c hN hok
    have hlen := hN.len
    go_enter Tryd.func10, Tryd.ntmps10
    go_wp2_with fail
    generalize hW : w.alloc _ = W0
    have hB0 : Below w.heap.size w W0 := by subst hW; exact (Below.refl _ _).alloc (Nat.le_refl _) _
    have hc7 : W0.cell? ⟨w.heap.size, 7, none⟩ = some (.slice A t.ps.length c) := by subst hW; simp [go_sem]
    have hsz : w.heap.size < W0.heap.size := by subst hW; simp
    clear hW
    go_loopg [5, 6] (t.ps.length) (fun n s i wr => ∃ (j : Nat) (x : Int), s = .int .i64 x ∧ i = .int .i64 j ∧ j + n = t.ps.length ∧ 1 ≤ x ∧ x ≤ 2 * top + 2 ∧ manyL top (t.ps.drop j) x = manyL top t.ps 1 ∧ Below w.heap.size w wr ∧ w.heap.size < wr.heap.size ∧ wr.cell? ⟨w.heap.size, 7, none⟩ = some (.slice A t.ps.length c))
    case atStart => exact ⟨0, 1, rfl, rfl, by omega, by omega, by omega, rfl, hB0, hsz, hc7⟩
    case round =>
      obtain ⟨j, x, rfl, rfl, hj, hx1, hx2, hm, hB, hs, hc7'⟩ := hrel
      have Hm := Lib.hid hm; clear hm
      clear hc7 hB0 hsz
      by_cases hlt : j < t.ps.length
      · obtain ⟨b, o, rfl, hb, hcell⟩ := hN.part (by omega)
        obtain ⟨A', c', h8, hNj⟩ := hcell j hlt
        have Hih := Lib.hid (ih t.ps[j] (List.getElem_mem _)); clear ih
        have hbd := manyF_bd top h0 t.ps[j]
        have hNj' := hNj.later hB hok
        obtain ⟨f0, f1, f2, f3, f4, f5, f6, f7⟩ := h8.mono (w' := wr) (fun o => hB.cell (p := ⟨b, o, none⟩) (hok b hb))
        have Hd := Lib.hid (drop_cons hlt)
        clear hcell hN hNj
        generalize t.ps[j] = p at *
        by_cases hx : x ≤ top
        · go_wp2_with fail
          refine (Hih.out wr ok A' c' hNj' (fun b h => by have := hok b h; omega)).mono ?_
          rintro e w1 ⟨rfl, hb1⟩
          obtain ⟨hc1, hf1⟩ := bcell hb1
          have hz1 := hb1.size
          go_wp2_with fail
          go_roundg (gk - 1)
          case measure => omega
          case rel => exact ⟨j + 1, x + manyF top p, rfl, by go_num, by omega, by omega, by omega, by rw [← Hm.out, Hd.out, manyL, if_pos hx], hB.trans (hb1.mono (by omega)), by omega, (hc1 _ _ hs).trans hc7'⟩
        · have hres : min x (top + 1) = manyF top t := by rw [manyF_eq, ← Hm.out, manyL_stop _ _ _ hx]
          have Hres := Lib.hid hres; clear hres
          go_wp2_with fail
          all_goals go_ret
          all_goals exact ⟨by rw [← Hres.out]; go_num, hB⟩
      · have hres : min x (top + 1) = manyF top t := by rw [manyF_eq, ← Hm.out, List.drop_of_length_le (by omega), manyL]
        have Hres := Lib.hid hres; clear hres
        go_wp2_with fail
        all_goals go_ret
        all_goals exact ⟨by rw [← Hres.out]; go_num, hB⟩
end Go.Proofs.YteekafkpeimhoaaDoor

/- Runs of operations that the kit's walk does not carry out by itself: sets (arrays of four words) compared, and states of machines. -/
set_option linter.unusedVariables false
set_option linter.unusedSimpArgs false
namespace Go.Proofs.YteekafkpeimhoaaDoor
open Go.RowKit

/-- Are two sets the same? -/
def eq4 (a0 a1 a2 a3 b0 b1 b2 b3 : Int) : Bool := a0 == b0 && a1 == b1 && a2 == b2 && a3 == b3
theorem eq4_true {a0 a1 a2 a3 b0 b1 b2 b3 : Int} (h : a0 = b0 ∧ a1 = b1 ∧ a2 = b2 ∧ a3 = b3) : eq4 a0 a1 a2 a3 b0 b1 b2 b3 = true := by
  obtain ⟨rfl, rfl, rfl, rfl⟩ := h; simp [eq4]
theorem eq4_false {a0 a1 a2 a3 b0 b1 b2 b3 : Int} (h : ¬ (a0 = b0 ∧ a1 = b1 ∧ a2 = b2 ∧ a3 = b3)) : eq4 a0 a1 a2 a3 b0 b1 b2 b3 = false := by
  rw [Bool.eq_false_iff]; intro e; simp [eq4] at e; exact h ⟨e.1.1.1, e.1.1.2, e.1.2, e.2⟩
theorem eq4_iff {a0 a1 a2 a3 b0 b1 b2 b3 : Int} : eq4 a0 a1 a2 a3 b0 b1 b2 b3 = true ↔ (a0 = b0 ∧ a1 = b1 ∧ a2 = b2 ∧ a3 = b3) := by
  simp [eq4, and_assoc]

@[go_sem] theorem run_eq4 (w : World) (d : Nat) (a0 a1 a2 a3 b0 b1 b2 b3 : Int) :
    (Op.equalIn (d + 2) 24 (.agg #[.int .u64 a0, .int .u64 a1, .int .u64 a2, .int .u64 a3]) (.agg #[.int .u64 b0, .int .u64 b1, .int .u64 b2, .int .u64 b3])).run Tryd.prog w = .ok (eq4 a0 a1 a2 a3 b0 b1 b2 b3) w := by
  rw [Op.equalIn]
  simp only [Sem.run_bind, run_underlying Tryd.underlying24, Result.andThen_ok]
  simp [go_sem, List.range']
  unfold eq4
  by_cases h0 : a0 = b0 <;> by_cases h1 : a1 = b1 <;> by_cases h2 : a2 = b2 <;> by_cases h3 : a3 = b3 <;> simp [h0, h1, h2, h3]
end Go.Proofs.YteekafkpeimhoaaDoor

/- The walks of pattern.size, pattern.right, pattern.Check. -/
set_option linter.unusedVariables false
set_option linter.unusedSimpArgs false
namespace Go.Proofs.YteekafkpeimhoaaDoor
open Go.RowKit

mutual
def sizeF : T → Int → Int
  | .mk _ _ _ _ _ _ _ ps, most => sizeL ps 1 most
def sizeL : List T → Int → Int → Int
  | [], s, _ => s
  | p :: ps, s, most => if s ≤ most then sizeL ps (s + sizeF p (most - s)) most else s
end
theorem sizeF_eq (t : T) (most : Int) : sizeF t most = sizeL t.ps 1 most := by cases t; rw [sizeF]; rfl
theorem sizeL_stop (ps : List T) (s most : Int) (h : ¬ s ≤ most) : sizeL ps s most = s := by
  cases ps with
  | nil => rw [sizeL]
  | cons p ps => rw [sizeL, if_neg h]
theorem sizeL_bd (ps : List T) (ih : ∀ p ∈ ps, ∀ most, 0 ≤ most → 1 ≤ sizeF p most ∧ sizeF p most ≤ most + 1) : ∀ s most, 1 ≤ s → s ≤ most + 1 → 1 ≤ sizeL ps s most ∧ sizeL ps s most ≤ most + 1 := by
  induction ps with
  | nil => intro s most hs hm; rw [sizeL]; omega
  | cons p ps ih2 =>
    intro s most hs hm
    rw [sizeL]
    split
    · have := ih p (List.mem_cons_self ..) (most - s) (by omega)
      exact ih2 (fun q hq => ih q (List.mem_cons_of_mem _ hq)) _ _ (by omega) (by omega)
    · omega
theorem sizeF_bd (t : T) : ∀ most, 0 ≤ most → 1 ≤ sizeF t most ∧ sizeF t most ≤ most + 1 := by
  induction t using T.ind with
  | h t ih =>
    intro most hm
    rw [sizeF_eq]
    exact sizeL_bd t.ps ih 1 most (by omega) (by omega)

set_option maxRecDepth 100000 in
set_option maxHeartbeats 400000 in
theorem size_any (t : T) : ∀ (most : Int) (h0 : 0 ≤ most) (h1 : most ≤ 1000000) (w : World) (ok : Nat → Prop) (A : Option Addr) (c : Nat), NodeAt w ok t A c → (∀ b, ok b → b < w.heap.size) →
    Calls Tryd.prog 26 #[nodeV t A c, .int .i64 most] w fun e w' => e = .returned (.int .i64 (sizeF t most)) ∧ Below w.heap.size w w' := by
  induction t using T.ind with
  | h t ih =>
    intro most h0 h1 w ok A c hN hok
    have hlen := hN.len
    go_enter Tryd.func26, Tryd.ntmps26
    go_wp2_with fail
    generalize hW : w.alloc _ = W0
    have hB0 : Below w.heap.size w W0 := by subst hW; exact (Below.refl _ _).alloc (Nat.le_refl _) _
    clear hW
    go_loopg [5, 11] (t.ps.length) (fun n s i wr => ∃ (j : Nat) (x : Int), s = .int .i64 x ∧ i = .int .i64 j ∧ j + n = t.ps.length ∧ 1 ≤ x ∧ x ≤ most + 1 ∧ sizeL (t.ps.drop j) x most = sizeL t.ps 1 most ∧ Below w.heap.size w wr)
    case atStart => exact ⟨0, 1, rfl, rfl, by omega, by omega, by omega, rfl, hB0⟩
    case round =>
      obtain ⟨j, x, rfl, rfl, hj, hx1, hx2, hm, hB⟩ := hrel
      have Hm := Lib.hid hm; clear hm
      have hs := hB.size
      clear hB0
      by_cases hlt : j < t.ps.length
      · obtain ⟨b, o, rfl, hb, hcell⟩ := hN.part (by omega)
        obtain ⟨A', c', h8, hNj⟩ := hcell j hlt
        have Hih := Lib.hid (ih t.ps[j] (List.getElem_mem _)); clear ih
        have hNj' := hNj.later hB hok
        obtain ⟨f0, f1, f2, f3, f4, f5, f6, f7⟩ := h8.mono (w' := wr) (fun o => hB.cell (p := ⟨b, o, none⟩) (hok b hb))
        have Hd := Lib.hid (drop_cons hlt)
        clear hcell hN hNj
        generalize t.ps[j] = p at *
        by_cases hx : x ≤ most
        · have hbd := sizeF_bd p (most - x) (by omega)
          go_wp2_with fail
          refine (Hih.out (most - x) (by omega) (by omega) _ ok A' c' (hNj'.later ((Below.refl _ _).alloc (Nat.le_refl _) _) (fun b h => by have := hok b h; omega)) (fun b h => by have := hok b h; simp; omega)).mono ?_
          rintro e w1 ⟨rfl, hb1⟩
          go_wp2_with fail
          go_roundg (gk - 1)
          case measure => omega
          case rel => exact ⟨j + 1, x + sizeF p (most - x), rfl, by go_num, by omega, by omega, by omega, by rw [← Hm.out, Hd.out, sizeL, if_pos hx], (hB.alloc hs _).trans (hb1.mono (by simp; omega))⟩
        · have hres : x = sizeF t most := by rw [sizeF_eq, ← Hm.out, sizeL_stop _ _ _ hx]
          have Hres := Lib.hid hres; clear hres
          go_wp2_with fail
          go_ret
          exact ⟨by rw [← Hres.out]; rfl, hB.alloc hs _⟩
      · have hres : x = sizeF t most := by rw [sizeF_eq, ← Hm.out, List.drop_of_length_le (by omega), sizeL]
        have Hres := Lib.hid hres; clear hres
        go_wp2_with fail
        go_ret
        exact ⟨by rw [← Hres.out]; rfl, hB⟩


mutual
def rightF : T → Bool
  | .mk k s0 s1 s2 s3 mn mx ps =>
    if (k ≠ 1 ∧ ¬ (s0 = 0 ∧ s1 = 0 ∧ s2 = 0 ∧ s3 = 0)) ∨ (k ≠ 6 ∧ (mn ≠ 0 ∨ mx ≠ 0)) then false
    else if k = 0 ∨ k = 1 ∨ k = 2 ∨ k = 3 then decide (ps.length = 0)
    else if k = 4 ∨ k = 5 then (if ps.length < 2 then false else rightL ps)
    else if k = 6 then (if ps.length ≠ 1 ∨ mn < 0 ∨ 255 < max mn mx ∨ (mx ≠ -1 ∧ mx < mn) then false else rightL ps)
    else false
def rightL : List T → Bool
  | [] => true
  | p :: ps => rightF p && rightL ps
end
theorem rightF_eq (t : T) : rightF t = if (t.k ≠ 1 ∧ ¬ (t.s0 = 0 ∧ t.s1 = 0 ∧ t.s2 = 0 ∧ t.s3 = 0)) ∨ (t.k ≠ 6 ∧ (t.mn ≠ 0 ∨ t.mx ≠ 0)) then false
    else if t.k = 0 ∨ t.k = 1 ∨ t.k = 2 ∨ t.k = 3 then decide (t.ps.length = 0)
    else if t.k = 4 ∨ t.k = 5 then (if t.ps.length < 2 then false else rightL t.ps)
    else if t.k = 6 then (if t.ps.length ≠ 1 ∨ t.mn < 0 ∨ 255 < max t.mn t.mx ∨ (t.mx ≠ -1 ∧ t.mx < t.mn) then false else rightL t.ps)
    else false := by cases t; rw [rightF]; rfl

/-- Where right looks at the parts. -/
def loops (t : T) : Prop := (t.k = 4 ∧ t.mn = 0 ∧ t.mx = 0 ∧ eq4 t.s0 t.s1 t.s2 t.s3 0 0 0 0 = true ∧ 2 ≤ t.ps.length) ∨ (t.k = 5 ∧ t.mn = 0 ∧ t.mx = 0 ∧ eq4 t.s0 t.s1 t.s2 t.s3 0 0 0 0 = true ∧ 2 ≤ t.ps.length) ∨
  (t.k = 6 ∧ 0 ≤ t.mn ∧ t.mn ≤ 255 ∧ t.mx = -1 ∧ eq4 t.s0 t.s1 t.s2 t.s3 0 0 0 0 = true ∧ t.ps.length = 1) ∨ (t.k = 6 ∧ 0 ≤ t.mn ∧ t.mn ≤ t.mx ∧ t.mx ≤ 255 ∧ eq4 t.s0 t.s1 t.s2 t.s3 0 0 0 0 = true ∧ t.ps.length = 1)
theorem rightF_loops {t : T} (h : loops t) : rightF t = rightL t.ps := by
  unfold loops at h
  simp only [eq4_iff] at h
  rw [rightF_eq]
  repeat' split
  all_goals first
    | rfl
    | (exfalso; omega)

set_option maxRecDepth 100000 in
set_option maxHeartbeats 1000000 in
theorem right_stops (t : T) (hl : ¬ loops t) (w : World) (ok : Nat → Prop) (A : Option Addr) (c : Nat) (hN : NodeAt w ok t A c) (hok : ∀ b, ok b → b < w.heap.size) :
    Calls Tryd.prog 27 #[nodeV t A c] w fun e w' => e = .returned (.bool (rightF t)) ∧ Below w.heap.size w w' := by
  have hlen := hN.len
  have Hl := Lib.hid hl; clear hl
  go_enter Tryd.func27, Tryd.ntmps27
  go_wp2_with fail
  all_goals (first
    | (go_ret; refine ⟨?_, ((Below.refl _ _).alloc (Nat.le_refl _) _).alloc (by simp) _⟩; refine congrArg (fun b => Ending.returned (.bool b)) ?_; exact Eq.symm (by
        rw [rightF_eq]
        go_tidy
        simp only [eq4_iff, bne_iff_ne, ne_eq, beq_iff_eq, beq_eq_false_iff_ne, bne_eq_false_iff_eq, Bool.not_eq_true] at *
        repeat' split
        all_goals first
          | rfl
          | (exfalso; omega)
          | (rw [Bool.eq_iff_iff, decide_eq_true_iff, beq_iff_eq]; omega)))
    | (exfalso
       refine Hl.out ?_
       unfold loops
       go_tidy
       simp only [eq4_iff, bne_iff_ne, ne_eq, beq_iff_eq, beq_eq_false_iff_ne, bne_eq_false_iff_eq, Bool.not_eq_true] at *
       omega))

set_option maxRecDepth 100000 in
set_option maxHeartbeats 1000000 in
theorem right_any (t : T) : ∀ (w : World) (ok : Nat → Prop) (A : Option Addr) (c : Nat), NodeAt w ok t A c → (∀ b, ok b → b < w.heap.size) →
    Calls Tryd.prog 27 #[nodeV t A c] w fun e w' => e = .returned (.bool (rightF t)) ∧ Below w.heap.size w w' := by
  induction t using T.ind with
  | h t ih =>
    intro w ok A c hN hok
    by_cases hl : loops t
    case neg => exact right_stops t hl w ok A c hN hok
    have hlen := hN.len
    have Hloop := Lib.hid (rightF_loops hl)
    unfold loops at hl
    rcases hl with ⟨hk, hmn, hmx, hq, hn⟩ | ⟨hk, hmn, hmx, hq, hn⟩ | ⟨hk, hmn, hmn', hmx, hq, hn⟩ | ⟨hk, hmn, hmn', hmx, hq, hn⟩
    case' inr.inr.inr =>
      have h255 : t.mn ≤ 255 := by omega
      have hm1 : (t.mx != -1) = true := by rw [bne_iff_ne]; omega
    all_goals
      go_enter Tryd.func27, Tryd.ntmps27
      go_wp2_with fail
    all_goals
      have hn' := Lib.hid hn
      clear hk hmn hmx hq hn
      generalize hW : (w.alloc _).alloc _ = W0
      have hB0 : Below w.heap.size w W0 := by subst hW; exact ((Below.refl _ _).alloc (Nat.le_refl _) _).alloc (by simp) _
      clear hW
      go_loopg [82] (t.ps.length) (fun n i wr => ∃ (j : Nat), i = .int .i64 j ∧ j + n = t.ps.length ∧ rightL (t.ps.drop j) = rightL t.ps ∧ Below w.heap.size w wr)
      case atStart => exact ⟨0, rfl, by omega, rfl, hB0⟩
      case round =>
        obtain ⟨j, rfl, hj, hm, hB⟩ := hrel
        have Hm := Lib.hid hm; clear hm
        have hs := hB.size
        clear hB0
        by_cases hlt : j < t.ps.length
        · obtain ⟨b, o, rfl, hb, hcell⟩ := hN.part (by omega)
          obtain ⟨A', c', h8, hNj⟩ := hcell j hlt
          have Hih := Lib.hid (ih t.ps[j] (List.getElem_mem _)); clear ih
          have hNj' := hNj.later hB hok
          obtain ⟨f0, f1, f2, f3, f4, f5, f6, f7⟩ := h8.mono (w' := wr) (fun o => hB.cell (p := ⟨b, o, none⟩) (hok b hb))
          have Hd := Lib.hid (drop_cons hlt)
          clear hcell hN hNj
          generalize t.ps[j] = p at *
          first
            | (have hj1 : (j : Int) < 1 := by (have := hn'.out; omega)
               go_wp2_with fail)
            | go_wp2_with fail
          refine (Hih.out _ ok A' c' (hNj'.later ((Below.refl _ _).alloc (Nat.le_refl _) _) (fun b h => by have := hok b h; omega)) (fun b h => by have := hok b h; simp; omega)).mono ?_
          rintro e w1 ⟨rfl, hb1⟩
          have hB1 : Below w.heap.size w w1 := (hB.alloc hs _).trans (hb1.mono (by simp; omega))
          cases hp : rightF p with
          | true =>
            have Hp := Lib.hid hp; clear hp
            go_wp2_with fail
            go_roundg (gk - 1)
            case measure => omega
            case rel => exact ⟨j + 1, by go_num, by omega, by rw [← Hm.out, Hd.out, rightL, Hp.out, Bool.true_and], hB1⟩
          | false =>
            have hres : rightF t = false := by rw [Hloop.out, ← Hm.out, Hd.out, rightL, hp, Bool.false_and]
            have Hres := Lib.hid hres; clear hres hp
            go_wp2_with fail
            go_ret
            exact ⟨by rw [Hres.out]; rfl, hB1⟩
        · have hres : rightF t = true := by rw [Hloop.out, ← Hm.out, List.drop_of_length_le (by omega), rightL]
          have Hres := Lib.hid hres; clear hres
          first
            | (have hj1 : ¬ (j : Int) < 1 := by (have := hn'.out; omega)
               go_wp2_with fail)
            | go_wp2_with fail
          go_ret
          exact ⟨by rw [Hres.out]; rfl, hB⟩

def checkF (t : T) : Int := if 2048 < sizeF t 2048 then 3 else if rightF t then 0 else 107

set_option maxRecDepth 100000 in
set_option maxHeartbeats 400000 in
theorem pcheck_any (t : T) (w : World) (ok : Nat → Prop) (A : Option Addr) (c : Nat) (hN : NodeAt w ok t A c) (hok : ∀ b, ok b → b < w.heap.size) :
    Calls Tryd.prog 14 #[nodeV t A c] w fun e w' => e = .returned (.int .i64 (checkF t)) ∧ Below w.heap.size w w' := by
  have hlen := hN.len
  go_enter Tryd.func14, Tryd.ntmps14
  go_wp2_with fail
  have hB0 : Below w.heap.size w (w.alloc (.cells #[.int .i64 t.k, .int .u64 t.s0, .int .u64 t.s1, .int .u64 t.s2, .int .u64 t.s3, .int .i64 t.mn, .int .i64 t.mx, .slice A t.ps.length c] 27)) := (Below.refl _ _).alloc (Nat.le_refl _) _
  refine (size_any t 2048 (by omega) (by omega) _ ok A c (hN.later hB0 hok) (fun b h => by have := hok b h; simp; omega)).mono ?_
  rintro e w1 ⟨rfl, hb1⟩
  have hB1 : Below w.heap.size w w1 := hB0.trans (hb1.mono (by simp))
  have hN1 := hN.later hB1 hok
  have hs1 := hB1.size
  obtain ⟨hc1, hf1⟩ := bcell hb1
  have g0 := hc1 w.heap.size 0 (by simp)
  have g1 := hc1 w.heap.size 1 (by simp)
  have g2 := hc1 w.heap.size 2 (by simp)
  have g3 := hc1 w.heap.size 3 (by simp)
  have g4 := hc1 w.heap.size 4 (by simp)
  have g5 := hc1 w.heap.size 5 (by simp)
  have g6 := hc1 w.heap.size 6 (by simp)
  have g7 := hc1 w.heap.size 7 (by simp)
  simp only [World.cell?_alloc_new, List.getElem?_toArray] at g0 g1 g2 g3 g4 g5 g6 g7
  clear hc1 hf1
  by_cases h : 2048 < sizeF t 2048
  · have hres : checkF t = 3 := by rw [checkF, if_pos h]
    have Hres := Lib.hid hres; clear hres
    go_wp2_with fail
    go_ret
    exact ⟨by rw [Hres.out]; rfl, hB1⟩
  · go_wp2_with fail
    refine (right_any t _ ok A c hN1 (fun b h => by have := hok b h; omega)).mono ?_
    rintro e w2 ⟨rfl, hb2⟩
    have hB2 : Below w.heap.size w w2 := hB1.trans (hb2.mono (by omega))
    cases hr : rightF t with
    | true =>
      have hres : checkF t = 0 := by rw [checkF, if_neg (by omega), if_pos hr]
      have Hres := Lib.hid hres; clear hres
      go_wp2_with fail
      go_ret
      exact ⟨by rw [Hres.out]; rfl, hB2⟩
    | false =>
      have hres : checkF t = 107 := by rw [checkF, if_neg (by omega), hr]; rfl
      have Hres := Lib.hid hres; clear hres
      go_wp2_with fail
      go_ret
      exact ⟨by rw [Hres.out]; rfl, hB2⟩
end Go.Proofs.YteekafkpeimhoaaDoor

/- The walks of nfa.count, nfa.Size. -/
set_option linter.unusedVariables false
set_option linter.unusedSimpArgs false
namespace Go.Proofs.YteekafkpeimhoaaDoor
open Go.RowKit

/-- What a node lays, its parts laying s together. -/
def countK (k mn mx s n : Int) : Int :=
  if k = 5 then s + (n - 1) else if k = 6 then (if mx < 0 then s * (mn + 1) + 1 else s * mx + mx - mn) else s
mutual
def countF : T → Int
  | .mk k _ _ _ _ mn mx ps => if k = 0 then 0 else if k = 1 ∨ k = 2 ∨ k = 3 then 1 else min 4097 (countK k mn mx (countL ps 0) ps.length)
def countL : List T → Int → Int
  | [], s => s
  | p :: ps, s => countL ps (min 4097 (s + countF p))
end
theorem countF_eq (t : T) : countF t = if t.k = 0 then 0 else if t.k = 1 ∨ t.k = 2 ∨ t.k = 3 then 1 else min 4097 (countK t.k t.mn t.mx (countL t.ps 0) t.ps.length) := by cases t; rw [countF]; rfl

theorem rightL_mem : ∀ {ps : List T}, rightL ps = true → ∀ p ∈ ps, rightF p = true
  | [], _, p, hp => by cases hp
  | q :: ps, h, p, hp => by
    rw [rightL, Bool.and_eq_true] at h
    cases hp with
    | head => exact h.1
    | tail _ hp => exact rightL_mem h.2 p hp
/-- What is right: its shape. -/
theorem right_cases {t : T} (h : rightF t = true) : (t.k = 0 ∧ t.ps.length = 0 ∧ t.mn = 0 ∧ t.mx = 0) ∨ (t.k = 1 ∧ t.ps.length = 0 ∧ t.mn = 0 ∧ t.mx = 0) ∨ (t.k = 2 ∧ t.ps.length = 0 ∧ t.mn = 0 ∧ t.mx = 0) ∨ (t.k = 3 ∧ t.ps.length = 0 ∧ t.mn = 0 ∧ t.mx = 0) ∨
    (t.k = 4 ∧ 2 ≤ t.ps.length ∧ t.mn = 0 ∧ t.mx = 0) ∨ (t.k = 5 ∧ 2 ≤ t.ps.length ∧ t.mn = 0 ∧ t.mx = 0) ∨ (t.k = 6 ∧ t.ps.length = 1 ∧ 0 ≤ t.mn ∧ t.mn ≤ 255 ∧ t.mx ≤ 255 ∧ (t.mx = -1 ∨ t.mn ≤ t.mx)) := by
  rw [rightF_eq] at h
  split at h
  · cases h
  rename_i g1
  split at h
  · rename_i g2
    rw [decide_eq_true_eq] at h
    rcases g2 with g | g | g | g
    · exact .inl ⟨g, h, by omega, by omega⟩
    · exact .inr (.inl ⟨g, h, by omega, by omega⟩)
    · exact .inr (.inr (.inl ⟨g, h, by omega, by omega⟩))
    · exact .inr (.inr (.inr (.inl ⟨g, h, by omega, by omega⟩)))
  split at h
  · rename_i g2
    split at h
    · cases h
    rcases g2 with g | g
    · exact .inr (.inr (.inr (.inr (.inl ⟨g, by omega, by omega, by omega⟩))))
    · exact .inr (.inr (.inr (.inr (.inr (.inl ⟨g, by omega, by omega, by omega⟩)))))
  split at h
  · rename_i g2
    split at h
    · cases h
    exact .inr (.inr (.inr (.inr (.inr (.inr ⟨g2, by omega, by omega, by omega, by omega, by omega⟩)))))
  · cases h
theorem right_parts {t : T} (h : rightF t = true) : ∀ p ∈ t.ps, rightF p = true := by
  rw [rightF_eq] at h
  split at h
  · cases h
  split at h
  · rw [decide_eq_true_eq] at h
    have := List.eq_nil_of_length_eq_zero h
    intro p hp
    rw [this] at hp
    cases hp
  split at h
  · split at h
    · cases h
    · exact rightL_mem h
  split at h
  · split at h
    · cases h
    · exact rightL_mem h
  · cases h

theorem countL_bd : ∀ (ps : List T) (s : Int), (∀ p ∈ ps, 0 ≤ countF p ∧ countF p ≤ 4097) → 0 ≤ s → s ≤ 4097 → 0 ≤ countL ps s ∧ countL ps s ≤ 4097
  | [], s, _, h0, h1 => by rw [countL]; omega
  | p :: ps, s, h, h0, h1 => by
    rw [countL]
    have := h p (List.mem_cons_self ..)
    exact countL_bd ps _ (fun q hq => h q (List.mem_cons_of_mem _ hq)) (by omega) (by omega)
theorem mul_bd {a b A B : Int} (a0 : 0 ≤ a) (b0 : 0 ≤ b) (hA : a ≤ A) (hB : b ≤ B) : 0 ≤ a * b ∧ a * b ≤ A * B :=
  ⟨Int.mul_nonneg a0 b0, Int.mul_le_mul hA hB b0 (by omega)⟩
theorem countK_bd {t : T} (h : rightF t = true) (s : Int) (h0 : 0 ≤ s) (h1 : s ≤ 4097) (hk : t.k ≠ 0) : 0 ≤ countK t.k t.mn t.mx s t.ps.length := by
  unfold countK
  rcases right_cases h with h | h | h | h | h | h | h
  all_goals
    repeat' split
    all_goals first | omega | skip
  · have := mul_bd (a := s) (b := t.mn + 1) (A := 4097) (B := 256) h0 (by omega) h1 (by omega); omega
  · have := mul_bd (a := s) (b := t.mx) (A := 4097) (B := 255) h0 (by omega) h1 (by omega); omega
theorem countF_bd (t : T) : rightF t = true → 0 ≤ countF t ∧ countF t ≤ 4097 := by
  induction t using T.ind with
  | h t ih =>
    intro h
    rw [countF_eq]
    have hl := countL_bd t.ps 0 (fun p hp => ih p hp (right_parts h p hp)) (by omega) (by omega)
    split
    · omega
    · split
      · omega
      · have := countK_bd h _ hl.1 hl.2 (by assumption)
        omega

/-- nfa.Size's two results. -/
def sizeK (t : T) : Int := if checkF t ≠ 0 then 0 else if 4096 < 1 + countF t then 0 else 1 + countF t
def sizeE (t : T) : Int := if checkF t ≠ 0 then checkF t else if 4096 < 1 + countF t then 3 else 0
theorem check_right {t : T} (h : checkF t = 0) : rightF t = true ∧ sizeF t 2048 ≤ 2048 := by
  unfold checkF at h
  split at h
  · omega
  · split at h
    · exact ⟨by assumption, by omega⟩
    · omega

end Go.Proofs.YteekafkpeimhoaaDoor

/- vouchref10: count, may, Check: walked; the count of nodes. -/
set_option linter.unusedVariables false
set_option linter.unusedSimpArgs false
namespace Go.Proofs.YteekafkpeimhoaaDoor
open Go.RowKit

mutual
/-- How many nodes a tree has. -/
def nodesF : T → Int
  | .mk _ _ _ _ _ _ _ ps => 1 + nodesL ps
def nodesL : List T → Int
  | [] => 0
  | p :: ps => nodesF p + nodesL ps
end
theorem nodesF_eq (t : T) : nodesF t = 1 + nodesL t.ps := by cases t; rw [nodesF]; rfl
theorem nodesL_pos (ps : List T) (ih : ∀ p ∈ ps, 1 ≤ nodesF p) : 0 ≤ nodesL ps := by
  induction ps with
  | nil => rw [nodesL]; omega
  | cons p ps ih2 =>
    rw [nodesL]
    have := ih p (List.mem_cons_self ..)
    have := ih2 (fun q hq => ih q (List.mem_cons_of_mem _ hq))
    omega
theorem nodesF_pos (t : T) : 1 ≤ nodesF t := by
  induction t using T.ind with
  | h t ih => rw [nodesF_eq]; have := nodesL_pos t.ps ih; omega
theorem manyL_min (top : Int) (h0 : 0 ≤ top) (ps : List T) (ih : ∀ p ∈ ps, manyF top p = min (nodesF p) (top + 1)) : ∀ s, 1 ≤ s → min (manyL top ps s) (top + 1) = min (s + nodesL ps) (top + 1) := by
  induction ps with
  | nil => intro s hs; rw [manyL, nodesL]; omega
  | cons p ps ih2 =>
    intro s hs
    rw [manyL, nodesL]
    have h1 := nodesL_pos ps (fun q _ => nodesF_pos q)
    have h2 := nodesF_pos p
    split
    · have h3 := ih p (List.mem_cons_self ..)
      rw [ih2 (fun q hq => ih q (List.mem_cons_of_mem _ hq)) _ (by omega), h3]
      omega
    · omega
theorem manyF_min (top : Int) (h0 : 0 ≤ top) (t : T) : manyF top t = min (nodesF t) (top + 1) := by
  induction t using T.ind with
  | h t ih => rw [manyF_eq, manyL_min top h0 t.ps ih 1 (by omega), nodesF_eq]
theorem sizeL_min (ps : List T) (ih : ∀ p ∈ ps, ∀ most, 0 ≤ most → sizeF p most = min (nodesF p) (most + 1)) : ∀ s most, 1 ≤ s → 0 ≤ most → min (sizeL ps s most) (most + 1) = min (s + nodesL ps) (most + 1) := by
  induction ps with
  | nil => intro s most hs hm; rw [sizeL, nodesL]; omega
  | cons p ps ih2 =>
    intro s most hs hm
    rw [sizeL, nodesL]
    have h1 := nodesL_pos ps (fun q _ => nodesF_pos q)
    have h2 := nodesF_pos p
    split
    · have h3 := ih p (List.mem_cons_self ..) (most - s) (by omega)
      rw [ih2 (fun q hq => ih q (List.mem_cons_of_mem _ hq)) _ _ (by omega) hm, h3]
      omega
    · omega
theorem sizeF_min (t : T) : ∀ most, 0 ≤ most → sizeF t most = min (nodesF t) (most + 1) := by
  induction t using T.ind with
  | h t ih =>
    intro most hm
    have h1 := sizeF_bd t most hm
    have h2 := sizeL_min t.ps ih 1 most (by omega) hm
    rw [sizeF_eq] at h1 ⊢
    rw [nodesF_eq]
    omega
theorem count_is (t : T) : manyF 2048 t = sizeF t 2048 := by rw [manyF_min 2048 (by omega), sizeF_min t 2048 (by omega)]

set_option maxRecDepth 100000 in
set_option maxHeartbeats 400000 in
theorem rcount_any (t : T) : ∀ (w : World) (ok : Nat → Prop) (A : Option Addr) (c : Nat), NodeAt w ok t A c → (∀ b, ok b → b < w.heap.size) →
    Calls Tryd.prog 28 #[nodeV t A c] w fun e w' => e = .returned (.int .i64 (manyF 2048 t)) ∧ Below w.heap.size w w' := by
  induction t using T.ind with
  | h t ih =>
    intro w ok A c hN hok
    have hlen := hN.len
    go_enter Tryd.func28, Tryd.ntmps28
    go_wp2_with fail
    generalize hW : w.alloc _ = W0
    have hB0 : Below w.heap.size w W0 := by subst hW; exact (Below.refl _ _).alloc (Nat.le_refl _) _
    have hc7 : W0.cell? ⟨w.heap.size, 7, none⟩ = some (.slice A t.ps.length c) := by subst hW; simp [go_sem]
    have hsz : w.heap.size < W0.heap.size := by subst hW; simp
    clear hW
    go_loopg [3, 4] (t.ps.length) (fun n s i wr => ∃ (j : Nat) (x : Int), s = .int .i64 x ∧ i = .int .i64 j ∧ j + n = t.ps.length ∧ 1 ≤ x ∧ x ≤ 4100 ∧ manyL 2048 (t.ps.drop j) x = manyL 2048 t.ps 1 ∧ Below w.heap.size w wr ∧ w.heap.size < wr.heap.size ∧ wr.cell? ⟨w.heap.size, 7, none⟩ = some (.slice A t.ps.length c))
    case atStart => exact ⟨0, 1, rfl, rfl, by omega, by omega, by omega, rfl, hB0, hsz, hc7⟩
    case round =>
      obtain ⟨j, x, rfl, rfl, hj, hx1, hx2, hm, hB, hs, hc7'⟩ := hrel
      have Hm := Lib.hid hm; clear hm
      clear hc7 hB0 hsz
      by_cases hlt : j < t.ps.length
      · obtain ⟨b, o, rfl, hb, hcell⟩ := hN.part (by omega)
        obtain ⟨A', c', h8, hNj⟩ := hcell j hlt
        have Hih := Lib.hid (ih t.ps[j] (List.getElem_mem _)); clear ih
        have hbd := manyF_bd 2048 (by omega) t.ps[j]
        have hNj' := hNj.later hB hok
        obtain ⟨f0, f1, f2, f3, f4, f5, f6, f7⟩ := h8.mono (w' := wr) (fun o => hB.cell (p := ⟨b, o, none⟩) (hok b hb))
        have Hd := Lib.hid (drop_cons hlt)
        clear hcell hN hNj
        generalize t.ps[j] = p at *
        by_cases hx : x ≤ 2048
        · go_wp2_with fail
          refine (Hih.out wr ok A' c' hNj' (fun b h => by have := hok b h; omega)).mono ?_
          rintro e w1 ⟨rfl, hb1⟩
          obtain ⟨hc1, hf1⟩ := bcell hb1
          have hz1 := hb1.size
          go_wp2_with fail
          go_roundg (gk - 1)
          case measure => omega
          case rel => exact ⟨j + 1, x + manyF 2048 p, rfl, by go_num, by omega, by omega, by omega, by rw [← Hm.out, Hd.out, manyL, if_pos hx], hB.trans (hb1.mono (by omega)), by omega, (hc1 _ _ hs).trans hc7'⟩
        · have hres : min x (2049 : Int) = manyF 2048 t := by rw [manyF_eq, ← Hm.out, manyL_stop _ _ _ hx]; rfl
          have Hres := Lib.hid hres; clear hres
          go_wp2_with fail
          all_goals go_ret
          all_goals exact ⟨by rw [← Hres.out]; go_num, hB⟩
      · have hres : min x (2049 : Int) = manyF 2048 t := by rw [manyF_eq, ← Hm.out, List.drop_of_length_le (by omega), manyL]; rfl
        have Hres := Lib.hid hres; clear hres
        go_wp2_with fail
        all_goals go_ret
        all_goals exact ⟨by rw [← Hres.out]; go_num, hB⟩
set_option maxRecDepth 100000 in
set_option maxHeartbeats 1000000 in
theorem may_stops (t : T) (hl : ¬ loops t) (w : World) (ok : Nat → Prop) (A : Option Addr) (c : Nat) (hN : NodeAt w ok t A c) (hok : ∀ b, ok b → b < w.heap.size) :
    Calls Tryd.prog 29 #[nodeV t A c] w fun e w' => e = .returned (.bool (rightF t)) ∧ Below w.heap.size w w' := by
  have hlen := hN.len
  have Hl := Lib.hid hl; clear hl
  go_enter Tryd.func29, Tryd.ntmps29
  go_wp2_with fail
  all_goals (first
    | (go_ret; refine ⟨?_, ((Below.refl _ _).alloc (Nat.le_refl _) _)⟩; refine congrArg (fun b => Ending.returned (.bool b)) ?_; exact Eq.symm (by
        rw [rightF_eq]
        go_tidy
        simp only [eq4_iff, bne_iff_ne, ne_eq, beq_iff_eq, beq_eq_false_iff_ne, bne_eq_false_iff_eq, Bool.not_eq_true, Bool.not_eq_true', Bool.not_eq_false'] at *
        repeat' split
        all_goals first
          | rfl
          | (exfalso; omega)
          | (rw [Bool.eq_iff_iff, decide_eq_true_iff, beq_iff_eq]; omega)))
    | (exfalso
       refine Hl.out ?_
       unfold loops
       go_tidy
       simp only [eq4_iff, bne_iff_ne, ne_eq, beq_iff_eq, beq_eq_false_iff_ne, bne_eq_false_iff_eq, Bool.not_eq_true, Bool.not_eq_true', Bool.not_eq_false'] at *
       omega))

set_option maxRecDepth 100000 in
set_option maxHeartbeats 1000000 in
theorem may_any (t : T) : ∀ (w : World) (ok : Nat → Prop) (A : Option Addr) (c : Nat), NodeAt w ok t A c → (∀ b, ok b → b < w.heap.size) →
    Calls Tryd.prog 29 #[nodeV t A c] w fun e w' => e = .returned (.bool (rightF t)) ∧ Below w.heap.size w w' := by
  induction t using T.ind with
  | h t ih =>
    intro w ok A c hN hok
    by_cases hl : loops t
    case neg => exact may_stops t hl w ok A c hN hok
    have hlen := hN.len
    have Hloop := Lib.hid (rightF_loops hl)
    unfold loops at hl
    rcases hl with ⟨hk, hmn, hmx, hq, hn⟩ | ⟨hk, hmn, hmx, hq, hn⟩ | ⟨hk, hmn, hmn', hmx, hq, hn⟩ | ⟨hk, hmn, hmn', hmx, hq, hn⟩
    case' inr.inr.inr =>
      have h255 : t.mn ≤ 255 := by omega
      have hm1 : (t.mx != -1) = true := by rw [bne_iff_ne]; omega
    all_goals
      go_enter Tryd.func29, Tryd.ntmps29
      go_wp2_with fail
    all_goals
      have hn' := Lib.hid hn
      clear hk hmn hmx hq hn
      generalize hW : w.alloc _ = W0
      have hB0 : Below w.heap.size w W0 := by subst hW; exact ((Below.refl _ _).alloc (Nat.le_refl _) _)
      have hsz : w.heap.size < W0.heap.size := by subst hW; simp
      have hc7 : W0.cell? ⟨w.heap.size, 7, none⟩ = some (.slice A t.ps.length c) := by subst hW; simp [go_sem]; try (have := hn'.out; omega)
      clear hW
      go_loopg [5] (t.ps.length) (fun n i wr => ∃ (j : Nat), i = .int .i64 j ∧ j + n = t.ps.length ∧ rightL (t.ps.drop j) = rightL t.ps ∧ Below w.heap.size w wr ∧ w.heap.size < wr.heap.size ∧ wr.cell? ⟨w.heap.size, 7, none⟩ = some (.slice A t.ps.length c))
      case atStart => exact ⟨0, rfl, by omega, rfl, hB0, hsz, hc7⟩
      case round =>
        obtain ⟨j, rfl, hj, hm, hB, hz, hc7'⟩ := hrel
        have Hm := Lib.hid hm; clear hm
        have hs := hB.size
        clear hB0 hc7 hsz
        by_cases hlt : j < t.ps.length
        · obtain ⟨b, o, rfl, hb, hcell⟩ := hN.part (by omega)
          obtain ⟨A', c', h8, hNj⟩ := hcell j hlt
          have Hih := Lib.hid (ih t.ps[j] (List.getElem_mem _)); clear ih
          have hNj' := hNj.later hB hok
          obtain ⟨f0, f1, f2, f3, f4, f5, f6, f7⟩ := h8.mono (w' := wr) (fun o => hB.cell (p := ⟨b, o, none⟩) (hok b hb))
          have Hd := Lib.hid (drop_cons hlt)
          clear hcell hN hNj
          generalize t.ps[j] = p at *
          first
            | (have hj1 : (j : Int) < 1 := by (have := hn'.out; omega)
               go_wp2_with fail)
            | go_wp2_with fail
          refine (Hih.out _ ok A' c' hNj' (fun b h => by have := hok b h; omega)).mono ?_
          rintro e w1 ⟨rfl, hb1⟩
          have hB1 : Below w.heap.size w w1 := hB.trans (hb1.mono (by omega))
          have hz1 := hb1.size
          have hc1 := (bcell hb1).1 _ 7 hz
          cases hp : rightF p with
          | true =>
            have Hp := Lib.hid hp; clear hp
            go_wp2_with fail
            go_roundg (gk - 1)
            case measure => omega
            case rel => exact ⟨j + 1, by go_num, by omega, by rw [← Hm.out, Hd.out, rightL, Hp.out, Bool.true_and], hB1, by omega, hc1.trans hc7'⟩
          | false =>
            have hres : rightF t = false := by rw [Hloop.out, ← Hm.out, Hd.out, rightL, hp, Bool.false_and]
            have Hres := Lib.hid hres; clear hres hp
            go_wp2_with fail
            go_ret
            exact ⟨by rw [Hres.out]; rfl, hB1⟩
        · have hres : rightF t = true := by rw [Hloop.out, ← Hm.out, List.drop_of_length_le (by omega), rightL]
          have Hres := Lib.hid hres; clear hres
          first
            | (have hj1 : ¬ (j : Int) < 1 := by (have := hn'.out; omega)
               go_wp2_with fail)
            | go_wp2_with fail
          go_ret
          exact ⟨by rw [Hres.out]; rfl, hB⟩

set_option maxRecDepth 100000 in
set_option maxHeartbeats 400000 in
theorem r10check_any (t : T) (w : World) (ok : Nat → Prop) (A : Option Addr) (c : Nat) (hN : NodeAt w ok t A c) (hok : ∀ b, ok b → b < w.heap.size) :
    Calls Tryd.prog 15 #[nodeV t A c] w fun e w' => e = .returned (.int .i64 (checkF t)) ∧ Below w.heap.size w w' := by
  have hlen := hN.len
  go_enter Tryd.func15, Tryd.ntmps15
  go_wp2_with fail
  have hB0 : Below w.heap.size w (w.alloc (.cells #[.int .i64 t.k, .int .u64 t.s0, .int .u64 t.s1, .int .u64 t.s2, .int .u64 t.s3, .int .i64 t.mn, .int .i64 t.mx, .slice A t.ps.length c] 27)) := (Below.refl _ _).alloc (Nat.le_refl _) _
  refine (rcount_any t _ ok A c (hN.later hB0 hok) (fun b h => by have := hok b h; simp; omega)).mono ?_
  rw [count_is]
  rintro e w1 ⟨rfl, hb1⟩
  have hB1 : Below w.heap.size w w1 := hB0.trans (hb1.mono (by simp))
  have hN1 := hN.later hB1 hok
  have hs1 := hB1.size
  obtain ⟨hc1, hf1⟩ := bcell hb1
  have g0 := hc1 w.heap.size 0 (by simp)
  have g1 := hc1 w.heap.size 1 (by simp)
  have g2 := hc1 w.heap.size 2 (by simp)
  have g3 := hc1 w.heap.size 3 (by simp)
  have g4 := hc1 w.heap.size 4 (by simp)
  have g5 := hc1 w.heap.size 5 (by simp)
  have g6 := hc1 w.heap.size 6 (by simp)
  have g7 := hc1 w.heap.size 7 (by simp)
  simp only [World.cell?_alloc_new, List.getElem?_toArray] at g0 g1 g2 g3 g4 g5 g6 g7
  clear hc1 hf1
  by_cases h : 2048 < sizeF t 2048
  · have hres : checkF t = 3 := by rw [checkF, if_pos h]
    have Hres := Lib.hid hres; clear hres
    go_wp2_with fail
    go_ret
    exact ⟨by rw [Hres.out]; rfl, hB1⟩
  · go_wp2_with fail
    refine (may_any t _ ok A c hN1 (fun b h => by have := hok b h; omega)).mono ?_
    rintro e w2 ⟨rfl, hb2⟩
    have hB2 : Below w.heap.size w w2 := hB1.trans (hb2.mono (by omega))
    cases hr : rightF t with
    | true =>
      have hres : checkF t = 0 := by rw [checkF, if_neg (by omega), if_pos hr]
      have Hres := Lib.hid hres; clear hres
      go_wp2_with fail
      go_ret
      exact ⟨by rw [Hres.out]; rfl, hB2⟩
    | false =>
      have hres : checkF t = 107 := by rw [checkF, if_neg (by omega), hr]; rfl
      have Hres := Lib.hid hres; clear hres
      go_wp2_with fail
      go_ret
      exact ⟨by rw [Hres.out]; rfl, hB2⟩
end Go.Proofs.YteekafkpeimhoaaDoor

/- A writer of patterns: how long what is written is; plain. And the writer's cells. -/
set_option linter.unusedVariables false
set_option linter.unusedSimpArgs false
namespace Go.Proofs.YteekafkpeimhoaaDoor
open Go.RowKit

theorem Wrote.le {b x : Bs} {o d : Int} {k : Nat} {b' : Bs} {d' : Int} (h : Wrote b x o d k b' d') (hl : b'.length ≤ 1024) : o ≤ d' := by
  unfold Wrote at h
  split at h
  · obtain ⟨_, h⟩ := h; omega
  · omega
theorem Wrote.late {b x : Bs} {o d : Int} {k : Nat} (h : 1024 < b.length) : Wrote b x o d k b d := by
  unfold Wrote
  rw [if_neg (by omega)]
  exact h
theorem Wrote.one {b x : Bs} {o d : Int} (h : b.length ≤ 1024 → o ≤ d) : Wrote b x o d 0 (b ++ x) d := by
  unfold Wrote
  split
  · exact ⟨rfl, by omega⟩
  · simp; omega
theorem Wrote.wrap {b x : Bs} {o d : Int} {k : Nat} {b' : Bs} {d' : Int} (h : Wrote (b ++ [40]) x (o + 1) (max d (o + 1)) k b' d') : Wrote b (parT true x) o d (k + 1) (b' ++ [41]) d' := by
  unfold Wrote at h ⊢
  simp only [List.length_append, List.length_cons, List.length_nil, parT, if_true] at h ⊢
  by_cases h1 : b.length + x.length + 2 ≤ 1024
  · rw [if_pos (by omega)] at h
    obtain ⟨rfl, rfl⟩ := h
    rw [if_pos (by omega)]
    exact ⟨by simp, by omega⟩
  · rw [if_neg (by omega)]
    split at h
    · obtain ⟨rfl, _⟩ := h
      simp only [List.length_append, List.length_cons, List.length_nil]; omega
    · omega
theorem runsT_len : ∀ (k : Nat) (l : List Nat), (runsT k l).length ≤ 11 * l.length
  | 0, l => by rw [runsT]; simp
  | k + 1, [] => by rw [runsT]; simp
  | k + 1, c :: t => by
    rw [runsT_step]
    have h1 := memT_len c
    have h2 := memT_len (c + runN c t)
    have h3 := runsT_len k (t.drop (runN c t))
    have h4 := runN_le c t
    simp only [List.length_append, List.length_drop, List.length_cons] at h3 ⊢
    split <;> split <;> simp only [List.length_cons, List.length_nil] <;> omega
theorem setT_len (s : W4) : (setT s).length ≤ 2900 := by
  unfold setT
  have h1 := runsT_len (bytesW s).length (bytesW s)
  have h2 := bytesW_le s
  split
  · simp
  split
  · simp
  split
  · split <;> simp
  · simp only [List.length_append, List.length_cons, List.length_nil]; omega
theorem timesT_top (m n : Int) : (timesT m n).length ≤ 9 := by
  unfold timesT
  have h1 := decT_len3 m.toNat
  have h2 := decT_len3 n.toNat
  repeat' split
  all_goals simp only [List.length_append, List.length_cons, List.length_nil] <;> omega
theorem WAt.cells {B p : Nat} {l : Bs} {o d : Int} {w : World} (h : WAt B p l o d w) : w.cell? ⟨p, 2, none⟩ = some (.int .i64 o) ∧ w.cell? ⟨p, 3, none⟩ = some (.int .i64 d) ∧ w.frozen? ⟨p, 2, none⟩ = false ∧ w.frozen? ⟨p, 3, none⟩ = false := by
  obtain ⟨_, a, v, hb, _⟩ := h
  exact ⟨hb.cells.2.2.1, hb.cells.2.2.2, hb.froz 2, hb.froz 3⟩
theorem WAt.put2 {B p : Nat} {l : Bs} {o d : Int} {w : World} (h : WAt B p l o d w) (o' : Int) : WAt B p l o' d (w.setCell ⟨p, 2, none⟩ (.int .i64 o')) := by
  obtain ⟨h1, a, v, h2, h3, h4, h5⟩ := h
  exact ⟨h1, a, v, h2.put2 _, h3, h4.kept (row := some p) ⟨rfl, rfl, rfl, by simp, fun k _ hk => Below.heap_setCell _ _ _ _ (fun e => hk (by rw [e]))⟩ (Or.inr (own_ne h4 h2)), h5⟩
theorem WAt.put3 {B p : Nat} {l : Bs} {o d : Int} {w : World} (h : WAt B p l o d w) (d' : Int) : WAt B p l o d' (w.setCell ⟨p, 3, none⟩ (.int .i64 d')) := by
  obtain ⟨h1, a, v, h2, h3, h4, h5⟩ := h
  exact ⟨h1, a, v, h2.put3 _, h3, h4.kept (row := some p) ⟨rfl, rfl, rfl, by simp, fun k _ hk => Below.heap_setCell _ _ _ _ (fun e => hk (by rw [e]))⟩ (Or.inr (own_ne h4 h2)), h5⟩
theorem WAt.drew {B p : Nat} {l : Bs} {o d : Int} {w : World} (h : WAt B p l o d w) : WAt B p l o d w.drew := h.later (Below.refl _ _).drew
theorem TabIn.drew {B : Nat} {w : World} (h : TabIn B w) : TabIn B w.drew := h.later (Below.refl _ _).drew
theorem put_below {B p : Nat} {l : Bs} {o d : Int} {w : World} (h : WAt B p l o d w) (i : Nat) (v : Value) : Below B w (w.setCell ⟨p, i, none⟩ v) := (Below.refl _ _).setCell (p := ⟨p, i, none⟩) h.1 _

theorem foreign_new {B p : Nat} {l : Bs} {o d : Int} {w W : World} (h : WAt B p l o d w) (hb : Below w.heap.size w W) {k : Nat} (hk : w.heap.size ≤ k) (hz : k < W.heap.size) : Foreign W p k := by
  have hp := h.lt
  obtain ⟨_, a, v, h2, _, h4, _⟩ := h
  refine ⟨hz, by omega, fun u hu e => ?_⟩
  rw [hb.cell (p := ⟨p, 1, none⟩) hp, h2.cells.2.1] at hu
  cases hu
  have := (h4.lt k e).2
  omega
theorem Foreign.put {w : World} {p k : Nat} (h : Foreign w p k) (i : Nat) (hi : i ≠ 1) (v : Value) : Foreign (w.setCell ⟨p, i, none⟩ v) p k := by
  refine ⟨by simpa using h.1, h.2.1, fun u hu => h.2.2 u ?_⟩
  rw [World.cell?_setCell_other _ _ _ _ (by simp [Ne.symm hi])] at hu
  exact hu
theorem Foreign.drew {w : World} {p k : Nat} (h : Foreign w p k) : Foreign w.drew p k := h

theorem Fr.put {p : Nat} (w : World) (i : Nat) (hi : i ≠ 1) (v : Value) : Fr p w (w.setCell ⟨p, i, none⟩ v) := fun k hk => ⟨Below.heap_setCell _ _ _ _ hk.2.1, hk.put i hi v⟩
theorem WAt.drewF {B p : Nat} {l : Bs} {o d : Int} {w : World} (h : WAt B p l o d w) : Fr p w w.drew := Fr.of_below h.lt (Below.refl _ _).drew

/-- What a writing step of a text x leaves, its brackets k deep, at most m bytes beyond the limit. -/
def GW (B p : Nat) (l : Bs) (o d : Int) (x : Bs) (k : Nat) (m : Int) (w : World) (e : Ending) (w' : World) : Prop :=
  ∃ (l' : Bs) (d' : Int), e = .returned (.tuple #[]) ∧ WAt B p l' o d' w' ∧ Wrote l x o d k l' d' ∧ (l'.length : Int) ≤ max (l.length : Int) 4000 + m ∧ Below B w w' ∧ Fr p w w'
/-- What node does with a tree. -/
def NodeC (t : T) : Prop := ∀ (B p : Nat) (l : Bs) (o d : Int) (w : World) (ok : Nat → Prop) (A : Option Addr) (c : Nat), NodeAt w ok t A c → (∀ b, ok b → b < B) → WAt B p l o d w → B ≤ w.heap.size → TabIn B w → rightF t = true → Words t →
  0 ≤ o → (l.length ≤ 1024 → o ≤ d) → o + nodesF t ≤ 100000 → max (l.length : Int) 4000 + 16 * nodesF t ≤ 500000 →
  Calls Tryd.prog 22 #[.pointer (some ⟨p, 0, none⟩), nodeV t A c] w fun e w' => GW B p l o d (prT t) (deepT t) (16 * nodesF t - 4) w e w'
end Go.Proofs.YteekafkpeimhoaaDoor

/- A writer of patterns: part, given node: walked. -/
set_option linter.unusedVariables false
set_option linter.unusedSimpArgs false
namespace Go.Proofs.YteekafkpeimhoaaDoor
open Go.RowKit

set_option maxRecDepth 100000 in
set_option maxHeartbeats 4000000 in
theorem part_any (t : T) (hC : NodeC t) (so : Bool) (B p : Nat) (l : Bs) (o d : Int) (w : World) (ok : Nat → Prop) (A : Option Addr) (c : Nat) (hN : NodeAt w ok t A c) (hok : ∀ b, ok b → b < B) (h : WAt B p l o d w) (hB : B ≤ w.heap.size) (ht : TabIn B w) (hr : rightF t = true) (hw : Words t)
    (h0 : 0 ≤ o) (hod : l.length ≤ 1024 → o ≤ d) (hon : o + 1 + nodesF t ≤ 100000) (hl : max (l.length : Int) 4000 + 16 * nodesF t + 4 ≤ 500000) :
    Calls Tryd.prog 36 #[.pointer (some ⟨p, 0, none⟩), nodeV t A c, .bool so] w fun e w' => GW B p l o d (parT so (prT t)) (deepT t + (if so then 1 else 0)) (16 * nodesF t - 2) w e w' := by
  have hpos := nodesF_pos t
  have HN := Lib.hid hN; have Hok := Lib.hid hok; have H := Lib.hid h; have HT := Lib.hid ht; have HC := Lib.hid hC; have Hr := Lib.hid hr; have Hw := Lib.hid hw; have Hod := Lib.hid hod; have Hl := Lib.hid hl; have Hon := Lib.hid hon; have Hpos := Lib.hid hpos
  clear hN hok h ht hC hr hw hod hl hon hpos
  go_enter Tryd.func36, Tryd.ntmps36
  go_upto_region 1 with fail
  generalize hW : w.alloc _ = W0
  have hB0 : Below w.heap.size w W0 := by subst hW; exact (Below.refl _ _).alloc (Nat.le_refl _) _
  have h8 : At8 W0 w.heap.size 0 t A c := by subst hW; constructor <;> simp [go_sem]
  have hz : w.heap.size < W0.heap.size := by subst hW; simp
  clear hW
  obtain ⟨f0, f1, f2, f3, f4, f5, f6, f7⟩ := h8
  have HA := Lib.hid (H.out.later hB0)
  have HB := Lib.hid (hB0.mono hB)
  have hpw := H.out.lt
  have hBz : B ≤ W0.heap.size := by omega
  have HF0 := Lib.hid (foreign_new H.out hB0 (Nat.le_refl _) hz)
  have HG := Lib.hid (Fr.of_below H.out.lt hB0)
  clear hB0 H
  cases so with
  | false =>
    go_wp2_with fail
    refine (HC.out B p l o d W0 ok A c (HN.out.later HB.out Hok.out) Hok.out HA.out hBz (HT.out.later HB.out) Hr.out Hw.out h0 Hod.out (by have := Hon.out; omega) (by have := Hl.out; omega)).mono ?_
    rintro e w1 ⟨l', d', rfl, hA, hwr, hl', hb, hf⟩
    have HG1 := Lib.hid (HG.out.trans hf)
    have HA1 := Lib.hid hA; have Hwr := Lib.hid hwr; have Hl1 := Lib.hid hl'; have HB1 := Lib.hid (HB.out.trans hb)
    clear hA hwr hl' hb f0 f1 f2 f3 f4 f5 f6 f7
    go_wp2_with fail
    exact bodyPost_ret (v := .tuple #[]) (by simp [results, Tryd.results36, go_sem]) rfl ⟨l', d', rfl, HA1.out, by simpa [parT] using Hwr.out, by have := Hl1.out; omega, HB1.out, HG1.out⟩
  | true =>
    obtain ⟨c2, c3, y2, y3⟩ := HA.out.cells
    have ho : o + 1 ≤ 100000 := by have := Hon.out; have := Hpos.out; omega
    have hpn : p ≠ w.heap.size := by omega
    go_upto_region 4 with fail
    generalize hW1 : W0.setCell ⟨p, 2, none⟩ _ = W1
    have hA1 : WAt B p l (o + 1) d W1 := by subst hW1; exact HA.out.put2 _
    have hb1 : Below B W0 W1 := by subst hW1; exact put_below HA.out _ _
    have HG1 := Lib.hid (show Fr p w W1 by subst hW1; exact HG.out.trans (Fr.put _ 2 (by omega) _))
    have HF1 := Lib.hid (show Foreign W1 p w.heap.size by subst hW1; exact HF0.out.put 2 (by omega) _)
    have hk1 : ∀ i, W1.cell? ⟨w.heap.size, i, none⟩ = W0.cell? ⟨w.heap.size, i, none⟩ := fun i => by subst hW1; exact World.cell?_setCell_other _ _ _ _ (by simp [hpn, Ne.symm hpn])
    clear hW1
    obtain ⟨d2, d3, x2, x3⟩ := hA1.cells
    have HA1 := Lib.hid hA1; have HB1 := Lib.hid (HB.out.trans hb1); have HK1 := Lib.hid hk1
    have h8 : At8 W0 w.heap.size 0 t A c := ⟨f0, f1, f2, f3, f4, f5, f6, f7⟩
    have H8 := Lib.hid h8
    clear c2 c3 y2 y3 hA1 hb1 hk1 h8 f0 f1 f2 f3 f4 f5 f6 f7
    go_region
    have hA2 : WAt B p l (o + 1) (max d (o + 1)) (W1.setCell ⟨p, 3, none⟩ (.int .i64 (max d (o + 1)))).drew := (HA1.out.put3 _).drew
    have hb2 : Below B W1 (W1.setCell ⟨p, 3, none⟩ (.int .i64 (max d (o + 1)))).drew := (put_below HA1.out _ _).drew
    have hk2 : ∀ i, (W1.setCell ⟨p, 3, none⟩ (.int .i64 (max d (o + 1)))).drew.cell? ⟨w.heap.size, i, none⟩ = W1.cell? ⟨w.heap.size, i, none⟩ := fun i => World.cell?_setCell_other W1 _ _ _ (by simp [hpn, Ne.symm hpn])
    have HG2 : Fr p w (W1.setCell ⟨p, 3, none⟩ (.int .i64 (max d (o + 1)))).drew := (HG1.out.trans (Fr.put _ 3 (by omega) _)).trans (HA1.out.put3 _).drewF
    have hF2 : Foreign (W1.setCell ⟨p, 3, none⟩ (.int .i64 (max d (o + 1)))).drew p w.heap.size := (HF1.out.put 3 (by omega) _).drew
    have hz2 : (W1.setCell ⟨p, 3, none⟩ (.int .i64 (max d (o + 1)))).drew.heap.size = W1.heap.size := by simp
    generalize (W1.setCell ⟨p, 3, none⟩ (.int .i64 (max d (o + 1)))).drew = W2 at *
    have hl0 : l.length ≤ 500000 := by have := Hl.out; have := Hpos.out; omega
    have HG2 := Lib.hid HG2; have HF2 := Lib.hid hF2; have HA2 := Lib.hid hA2; have HB2 := Lib.hid (HB1.out.trans hb2); have HK2 := Lib.hid (fun i => (hk2 i).trans (HK1.out i)); have HZ2 := Lib.hid hz2
    clear hA2 hb2 hk2 hz2 hF2 d2 d3 x2 x3 HA1
    go_wp2_with fail
    refine (wbyte_any B p l (o + 1) (max d (o + 1)) W2 HA2.out (by omega) (Nat.le_trans hB HB2.out.size) 40).mono ?_
    rintro e w3 ⟨rfl, hA3, hb3, hf3⟩
    have hF := HF2.out
    have h8 : At8 w3 w.heap.size 0 t A c := H8.out.mono (fun i => (World.cell?_of_block (w := W2) (a := ⟨w.heap.size, i, none⟩) (hf3 _ hF).1).trans (HK2.out i))
    have HG3 := Lib.hid (HG2.out.trans hf3); have HA3 := Lib.hid hA3; have HB3 := Lib.hid (HB2.out.trans hb3)
    clear hA3 hb3 hf3 hF
    obtain ⟨f0, f1, f2, f3, f4, f5, f6, f7⟩ := h8
    go_wp2_with fail
    refine (HC.out B p (l ++ [40]) (o + 1) (max d (o + 1)) w3 ok A c (HN.out.later HB3.out Hok.out) Hok.out HA3.out (Nat.le_trans hB HB3.out.size) (HT.out.later HB3.out) Hr.out Hw.out (by omega) (fun _ => by omega) (by have := Hon.out; omega) (by have := Hl.out; simp; omega)).mono ?_
    rintro e w4 ⟨l', d', rfl, hA4, hwr, hl4, hb4, hf4⟩
    have HG4 := Lib.hid (HG3.out.trans hf4)
    have HA4 := Lib.hid hA4; have HB4 := Lib.hid (HB3.out.trans hb4); have Hwr := Lib.hid hwr.wrap
    have hl4' : l'.length ≤ 500000 := by have := Hl.out; simp at hl4; omega
    have Hl4 := Lib.hid hl4
    clear hA4 hb4 hwr hl4 f0 f1 f2 f3 f4 f5 f6 f7
    go_wp2_with fail
    refine (wbyte_any B p l' (o + 1) d' w4 HA4.out (by omega) (Nat.le_trans hB HB4.out.size) 41).mono ?_
    rintro e w5 ⟨rfl, hA5, hb5, hf5⟩
    have HG5 := Lib.hid (HG4.out.trans hf5)
    obtain ⟨c2, c3, y2, y3⟩ := hA5.cells
    have HA5 := Lib.hid hA5; have HB5 := Lib.hid (HB4.out.trans hb5)
    clear hA5 hb5
    go_wp2_with fail
    go_end0
    refine ⟨l' ++ [41], d', rfl, ?_, Hwr.out, by have := Hl4.out; simp at this ⊢; omega, HB5.out.trans (put_below HA5.out _ _), HG5.out.trans (Fr.put _ 2 (by omega) _)⟩
    have := HA5.out.put2 o
    first
      | exact this
      | simpa using this
end Go.Proofs.YteekafkpeimhoaaDoor

/- A writer of patterns: node, what needs no part: walked. -/
set_option linter.unusedVariables false
set_option linter.unusedSimpArgs false
namespace Go.Proofs.YteekafkpeimhoaaDoor
open Go.RowKit

set_option maxRecDepth 100000 in
set_option maxHeartbeats 2000000 in
theorem node_late (t : T) (B p : Nat) (l : Bs) (o d : Int) (w : World) (A : Option Addr) (c : Nat) (h : WAt B p l o d w) (hB : B ≤ w.heap.size) (hl : 1024 < l.length) (x : Bs) (k : Nat) (m : Int) (hm : 0 ≤ m) :
    Calls Tryd.prog 22 #[.pointer (some ⟨p, 0, none⟩), nodeV t A c] w fun e w' => GW B p l o d x k m w e w' := by
  have H := Lib.hid h; clear h
  go_enter Tryd.func22, Tryd.ntmps22
  go_upto_region 1 with fail
  generalize hW : w.alloc _ = W0
  have hB0 : Below w.heap.size w W0 := by subst hW; exact (Below.refl _ _).alloc (Nat.le_refl _) _
  clear hW
  have HA := Lib.hid (H.out.later hB0)
  have HB := Lib.hid (hB0.mono hB)
  have HG := Lib.hid (Fr.of_below H.out.lt hB0)
  clear hB0 H
  go_wp2_with fail
  refine (blen_any B p l o d W0 HA.out).mono ?_
  rintro e w1 ⟨rfl, rfl⟩
  go_wp2_with fail
  exact bodyPost_ret (v := .tuple #[]) (by simp [results, Tryd.results22, go_sem]) rfl ⟨l, d, rfl, HA.out, Wrote.late hl, by omega, HB.out, HG.out⟩
set_option maxRecDepth 100000 in
set_option maxHeartbeats 4000000 in
theorem node_leaf (t : T) (hk : t.k = 0 ∨ t.k = 1 ∨ t.k = 2 ∨ t.k = 3) : NodeC t := by
  intro B p l o d w ok A c hN hok h hB ht hr hw h0 hod hon hl
  have hpos := nodesF_pos t
  by_cases hlt : 1024 < l.length
  · exact node_late t B p l o d w A c h hB hlt _ _ _ (by omega)
  have H := Lib.hid h; have Hw := Lib.hid hw.w
  have hod' := hod (by omega)
  have Hpr := Lib.hid (prT_eq t)
  have Hdp := Lib.hid (deepT_eq t)
  clear hN hok h ht hr hw hod hon hl
  go_enter Tryd.func22, Tryd.ntmps22
  go_upto_region 1 with fail
  generalize hW : w.alloc _ = W0
  have hB0 : Below w.heap.size w W0 := by subst hW; exact (Below.refl _ _).alloc (Nat.le_refl _) _
  have h8 : At8 W0 w.heap.size 0 t A c := by subst hW; constructor <;> simp [go_sem]
  have hz : w.heap.size < W0.heap.size := by subst hW; simp
  clear hW
  obtain ⟨f0, f1, f2, f3, f4, f5, f6, f7⟩ := h8
  have HA := Lib.hid (H.out.later hB0)
  have HB := Lib.hid (hB0.mono hB)
  have HG := Lib.hid (Fr.of_below H.out.lt hB0)
  clear hB0 H f5 f6 f7
  have Hpos := Lib.hid hpos; clear hpos
  go_wp2_with fail
  refine (blen_any B p l o d W0 HA.out).mono ?_
  rintro e w1 ⟨rfl, rfl⟩
  rcases hk with hk | hk | hk | hk
  · have hp := Lib.hid (show prT t = [] by rw [Hpr.out, hk]; simp)
    have hdp := Lib.hid (show deepT t = 0 by rw [Hdp.out, hk]; simp)
    clear Hpr Hdp
    go_wp2_with fail
    go_end0
    exact ⟨l, d, rfl, HA.out, by rw [hp.out, hdp.out]; exact Wrote.refl hod', by have := Hpos.out; omega, HB.out, HG.out⟩
  · have hp := Lib.hid (show prT t = setT t.w4 by rw [Hpr.out, if_pos hk])
    have hdp := Lib.hid (show deepT t = 0 by rw [Hdp.out, hk]; simp)
    clear Hpr Hdp
    have hs := setT_len t.w4
    go_wp2_with fail
    refine (wset_any B p l o d w1 HA.out (by omega) (Nat.le_trans hB HB.out.size) t.w4 Hw.out).mono ?_
    rintro e w2 ⟨rfl, hA2, hb2, hf2⟩
    have HA2 := Lib.hid hA2; have HB2 := Lib.hid (HB.out.trans hb2); have HG2 := Lib.hid (HG.out.trans hf2)
    clear hA2 hb2
    go_wp2_with fail
    go_end0
    exact ⟨_, d, rfl, HA2.out, by rw [hp.out, hdp.out]; exact Wrote.one (fun _ => hod'), by have := Hpos.out; simp; omega, HB2.out, HG2.out⟩
  · have hp := Lib.hid (show prT t = [94] by rw [Hpr.out, hk]; simp)
    have hdp := Lib.hid (show deepT t = 0 by rw [Hdp.out, hk]; simp)
    clear Hpr Hdp
    go_wp2_with fail
    refine (wbyte_any B p l o d w1 HA.out (by omega) (Nat.le_trans hB HB.out.size) 94).mono ?_
    rintro e w2 ⟨rfl, hA2, hb2, hf2⟩
    have HA2 := Lib.hid hA2; have HB2 := Lib.hid (HB.out.trans hb2); have HG2 := Lib.hid (HG.out.trans hf2)
    clear hA2 hb2
    go_wp2_with fail
    go_end0
    exact ⟨_, d, rfl, HA2.out, by rw [hp.out, hdp.out]; exact Wrote.one (fun _ => hod'), by have := Hpos.out; simp; omega, HB2.out, HG2.out⟩
  · have hp := Lib.hid (show prT t = [36] by rw [Hpr.out, hk]; simp)
    have hdp := Lib.hid (show deepT t = 0 by rw [Hdp.out, hk]; simp)
    clear Hpr Hdp
    go_wp2_with fail
    refine (wbyte_any B p l o d w1 HA.out (by omega) (Nat.le_trans hB HB.out.size) 36).mono ?_
    rintro e w2 ⟨rfl, hA2, hb2, hf2⟩
    have HA2 := Lib.hid hA2; have HB2 := Lib.hid (HB.out.trans hb2); have HG2 := Lib.hid (HG.out.trans hf2)
    clear hA2 hb2
    go_wp2_with fail
    go_end0
    exact ⟨_, d, rfl, HA2.out, by rw [hp.out, hdp.out]; exact Wrote.one (fun _ => hod'), by have := Hpos.out; simp; omega, HB2.out, HG2.out⟩
end Go.Proofs.YteekafkpeimhoaaDoor

/- A writer of patterns: node, rows: walked. -/
set_option linter.unusedVariables false
set_option linter.unusedSimpArgs false
namespace Go.Proofs.YteekafkpeimhoaaDoor
open Go.RowKit

theorem prRow_cons (p : T) (ps : List T) : prRow (p :: ps) = parT (looseT p) (prT p) ++ prRow ps := by rw [prRow]
theorem deepRow_cons (p : T) (ps : List T) : deepRow (p :: ps) = max (deepT p + (if looseT p then 1 else 0)) (deepRow ps) := by rw [deepRow]
set_option maxRecDepth 100000 in
set_option maxHeartbeats 4000000 in
theorem node_row (t : T) (hk : t.k = 4) (ih : ∀ p ∈ t.ps, NodeC p) : NodeC t := by
  intro B p l o d w ok A c hN hok h hB ht hr hw h0 hod hon hl
  have hpos := nodesF_pos t
  by_cases hlt : 1024 < l.length
  · exact node_late t B p l o d w A c h hB hlt _ _ _ (by omega)
  have hlen := hN.len
  have hod' := hod (by omega)
  have hpr : prT t = prRow t.ps := by rw [prT_eq, hk]; simp
  have hdp : deepT t = deepRow t.ps := by rw [deepT_eq, hk]; simp
  have hnn : nodesF t = 1 + nodesL t.ps := nodesF_eq t
  rw [hpr, hdp]
  have H := Lib.hid h; have HT := Lib.hid ht; have HN := Lib.hid hN; have Hok := Lib.hid hok
  have Hps := Lib.hid (right_parts hr)
  have Hwp := Lib.hid hw.p
  have Hl := Lib.hid (show max (l.length : Int) 4000 + 16 * (1 + nodesL t.ps) ≤ 500000 by omega)
  have Hon := Lib.hid (show o + (1 + nodesL t.ps) ≤ 100000 by omega)
  have Hnn := Lib.hid hnn
  have Hih := Lib.hid ih
  clear hN hok h ht hr hw hod hon hl hpr hdp hnn ih hpos
  go_enter Tryd.func22, Tryd.ntmps22
  go_upto_region 1 with fail
  generalize hW : w.alloc _ = W0
  have hB0 : Below w.heap.size w W0 := by subst hW; exact (Below.refl _ _).alloc (Nat.le_refl _) _
  have h8 : At8 W0 w.heap.size 0 t A c := by subst hW; constructor <;> simp [go_sem, hk]
  clear hW
  obtain ⟨f0, f1, f2, f3, f4, f5, f6, f7⟩ := h8
  have HA := Lib.hid (H.out.later hB0)
  have HB := Lib.hid (hB0.mono hB)
  have HG := Lib.hid (Fr.of_below H.out.lt hB0)
  have hbz : w.heap.size ≤ W0.heap.size := hB0.size
  clear hB0 H f1 f2 f3 f4 f5 f6
  go_wp2_with fail
  refine (blen_any B p l o d W0 HA.out).mono ?_
  rintro e w1 ⟨rfl, rfl⟩
  go_wp2_with fail
  go_loopg [38] (t.ps.length) (fun k i wr => ∃ (j : Nat) (l' X : Bs) (d' : Int) (K : Nat) (S : Int), i = .int .i64 j ∧ j + k = t.ps.length ∧ WAt B p l' o d' wr ∧ Wrote l X o d K l' d' ∧ X ++ prRow (t.ps.drop j) = prRow t.ps ∧ max K (deepRow (t.ps.drop j)) = deepRow t.ps ∧ S + nodesL (t.ps.drop j) = nodesL t.ps ∧ 0 ≤ S ∧ (l'.length : Int) ≤ max (l.length : Int) 4000 + 16 * S ∧ Below B w wr ∧ Fr p w wr)
  case atStart => exact ⟨0, l, [], d, 0, 0, rfl, by omega, HA.out, Wrote.refl hod', rfl, by simp, by simp, by omega, by omega, HB.out, HG.out⟩
  case round =>
    obtain ⟨j, l', X, d', K, S, rfl, hj, hA, hwr, hX, hK, hS, hS0, hll, hBr, hGr⟩ := hrel
    have HGr := Lib.hid hGr
    have HAr := Lib.hid hA; have Hwr := Lib.hid hwr; have HX := Lib.hid hX; have HK := Lib.hid hK; have HS := Lib.hid hS; have Hll := Lib.hid hll; have HBr := Lib.hid hBr
    clear hA hwr hX hK hS hll hBr HA HB f0 f7
    by_cases hjl : j < t.ps.length
    · obtain ⟨b, ob, rfl, hb, hcell⟩ := HN.out.part (by omega)
      obtain ⟨A', c', h8, hNj⟩ := hcell j hjl
      have hmem := List.getElem_mem hjl
      have HCj := Lib.hid (Hih.out _ hmem)
      have Hrj := Lib.hid (Hps.out _ hmem)
      have Hwj := Lib.hid (Hwp.out _ hmem)
      have HNj := Lib.hid (hNj.later HBr.out Hok.out)
      obtain ⟨f0, f1, f2, f3, f4, f5, f6, f7⟩ := h8.mono (w' := wr) (fun o => HBr.out.cell (p := ⟨b, o, none⟩) (Hok.out b hb))
      have Hd := Lib.hid (drop_cons hjl)
      have hbw : b < wr.heap.size := by have := Hok.out b hb; have := HBr.out.size; omega
      clear hcell hNj h8 hmem
      generalize t.ps[j] = q at *
      have hq := nodesF_pos q
      have hrest := nodesL_pos (t.ps.drop (j + 1)) (fun q _ => nodesF_pos q)
      have hSq : S + nodesF q + nodesL (t.ps.drop (j + 1)) = nodesL t.ps := by rw [← HS.out, Hd.out, nodesL]; omega
      have HSq := Lib.hid hSq; have Hrest := Lib.hid hrest; have Hq := Lib.hid hq
      clear hSq hrest hq
      go_upto_region 13 with fail
      generalize hW : wr.alloc _ = W1
      have hb1 : Below wr.heap.size wr W1 := by subst hW; exact (Below.refl _ _).alloc (Nat.le_refl _) _
      have h8 : At8 W1 wr.heap.size 0 q A' c' := by subst hW; constructor <;> simp [go_sem]
      clear hW
      obtain ⟨g0, g1, g2, g3, g4, g5, g6, g7⟩ := h8
      have HA1 := Lib.hid ((HAr.out.later hb1).drew)
      have HB1 := Lib.hid ((HBr.out.trans (hb1.mono (Nat.le_trans hB HBr.out.size))).drew)
      have HN1 := Lib.hid (HNj.out.later (B := wr.heap.size) hb1.drew (fun b' h => by have := Hok.out b' h; have := HBr.out.size; omega))
      have HG1 := Lib.hid (HGr.out.trans (Fr.of_below HAr.out.lt hb1.drew))
      have hbz1 : wr.heap.size < W1.heap.size := World.block_lt_of_cell? _ _ g0
      clear hb1 f0 f1 f2 f3 f4 f5 f6 f7 HAr HBr HNj
      have h8 : At8 W1.drew wr.heap.size 0 q A' c' := ⟨g0, g1, g2, g3, g4, g5, g6, g7⟩
      have H8 := Lib.hid h8
      clear h8
      have hbz2 : wr.heap.size < W1.drew.heap.size := hbz1
      go_region_with (first
        | (go_at_call 37
           refine (loose_any _ q A' c').mono ?_
           rintro e w2 ⟨rfl, hb2⟩
           have HA2 := Lib.hid (HA1.out.later hb2)
           have HB2 := Lib.hid (HB1.out.trans (hb2.mono (Nat.le_trans hB HB1.out.size)))
           have HG2 := Lib.hid (HG1.out.trans (Fr.of_below HA1.out.lt hb2))
           have HN2 := Lib.hid (HN1.out.later hb2 (fun b' h => by have := Hok.out b' h; have := HB1.out.size; omega))
           obtain ⟨m0, m1, m2, m3, m4, m5, m6, m7⟩ := H8.out.mono (w' := w2) (fun o => hb2.cell (p := ⟨wr.heap.size, o, none⟩) hbz2)
           clear hb2)
        | (go_at_call 36
           refine (part_any q HCj.out (looseT q) B p l' o d' w2 ok A' c' HN2.out Hok.out HA2.out (Nat.le_trans hB HB2.out.size) (HT.out.later HB2.out) Hrj.out Hwj.out h0 (fun hh => Hwr.out.le hh) (by have := Hon.out; have := HSq.out; have := Hrest.out; omega) (by have := Hl.out; have := HSq.out; have := Hrest.out; have := Hll.out; omega)).mono ?_
           rintro e w3 ⟨l2, d2, rfl, hA3, hwr3, hl3, hb3, hf3⟩))
      all_goals
        have HG3 := Lib.hid (HG2.out.trans hf3)
        have HA3 := Lib.hid hA3; have Hwr3 := Lib.hid (Hwr.out.trans hwr3); have HB3 := Lib.hid (HB2.out.trans hb3); have Hl3 := Lib.hid hl3
        clear hA3 hwr3 hb3 hl3 HA2 HB2 HN2 HA1 HB1 HN1 H8 m0 m1 m2 m3 m4 m5 m6 m7 g0 g1 g2 g3 g4 g5 g6 g7
        go_wp2_with fail
        go_roundg (gk - 1)
        case measure => omega
        case rel => exact ⟨j + 1, l2, X ++ parT (looseT q) (prT q), d2, max K (deepT q + (if looseT q then 1 else 0)), S + nodesF q, by go_num, by omega, HA3.out, Hwr3.out, by rw [← HX.out, Hd.out, prRow_cons, List.append_assoc], by rw [← HK.out, Hd.out, deepRow_cons]; omega, HSq.out, by have := Hq.out; omega, by have := Hl3.out; have := Hll.out; have := Hq.out; omega, HB3.out, HG3.out⟩
    · have hj0 : j = t.ps.length := by omega
      have hdr : t.ps.drop j = [] := List.drop_of_length_le (by omega)
      have hXe : X = prRow t.ps := by rw [← HX.out, hdr]; simp [prRow]
      have hKe : K = deepRow t.ps := by rw [← HK.out, hdr]; simp [deepRow]
      have hSe : S = nodesL t.ps := by rw [← HS.out, hdr, nodesL]; omega
      have HXe := Lib.hid hXe; have HKe := Lib.hid hKe; have HSe := Lib.hid hSe
      clear hdr hXe hKe hSe HX HK HS
      go_wp2_with fail
      go_end0
      exact ⟨l', d', rfl, HAr.out, by rw [← HXe.out, ← HKe.out]; exact Hwr.out, by have := Hll.out; have := HSe.out; have := Hnn.out; omega, HBr.out, HGr.out⟩
end Go.Proofs.YteekafkpeimhoaaDoor

/- A writer of patterns: node, choices: walked. -/
set_option linter.unusedVariables false
set_option linter.unusedSimpArgs false
namespace Go.Proofs.YteekafkpeimhoaaDoor
open Go.RowKit

/-- What is left tu write of a choice. -/
def altR (ps : List T) (j : Nat) : Bs := if j = 0 then prAlt ps else prBar (ps.drop j)
theorem deepAlt_cons (p : T) (ps : List T) : deepAlt (p :: ps) = max (deepT p + (if p.k == 5 then 1 else 0)) (deepAlt ps) := by rw [deepAlt]
theorem altR_cons {ps : List T} {j : Nat} {q : T} (h : j < ps.length) (hd : ps.drop j = q :: ps.drop (j + 1)) : altR ps j = (if j = 0 then [] else [124]) ++ (parT (q.k == 5) (prT q) ++ altR ps (j + 1)) := by
  unfold altR
  rw [if_neg (show ¬ j + 1 = 0 by omega)]
  by_cases hj : j = 0
  · subst hj
    rw [if_pos rfl, if_pos rfl]
    rw [List.drop_zero] at hd
    rw [hd]
    simp [prAlt]
  · rw [if_neg hj, if_neg hj, hd, prBar]
set_option maxRecDepth 100000 in
set_option maxHeartbeats 4000000 in
theorem node_alt (t : T) (hk : t.k = 5) (ih : ∀ p ∈ t.ps, NodeC p) : NodeC t := by
  intro B p l o d w ok A c hN hok h hB ht hr hw h0 hod hon hl
  have hpos := nodesF_pos t
  by_cases hlt : 1024 < l.length
  · exact node_late t B p l o d w A c h hB hlt _ _ _ (by omega)
  have hlen := hN.len
  have hod' := hod (by omega)
  have hpr : prT t = prAlt t.ps := by rw [prT_eq, hk]; simp
  have hdp : deepT t = deepAlt t.ps := by rw [deepT_eq, hk]; simp
  have hnn : nodesF t = 1 + nodesL t.ps := nodesF_eq t
  rw [hpr, hdp]
  have H := Lib.hid h; have HT := Lib.hid ht; have HN := Lib.hid hN; have Hok := Lib.hid hok
  have Hps := Lib.hid (right_parts hr)
  have Hwp := Lib.hid hw.p
  have Hl := Lib.hid (show max (l.length : Int) 4000 + 16 * (1 + nodesL t.ps) ≤ 500000 by omega)
  have Hon := Lib.hid (show o + (1 + nodesL t.ps) ≤ 100000 by omega)
  have Hnn := Lib.hid hnn
  have Hih := Lib.hid ih
  have Hl2 : 2 ≤ t.ps.length := by rcases right_cases hr with h | h | h | h | h | h | h <;> omega
  clear hN hok h ht hr hw hod hon hl hpr hdp hnn ih hpos
  go_enter Tryd.func22, Tryd.ntmps22
  go_upto_region 1 with fail
  generalize hW : w.alloc _ = W0
  have hB0 : Below w.heap.size w W0 := by subst hW; exact (Below.refl _ _).alloc (Nat.le_refl _) _
  have h8 : At8 W0 w.heap.size 0 t A c := by subst hW; constructor <;> simp [go_sem, hk]
  clear hW
  obtain ⟨f0, f1, f2, f3, f4, f5, f6, f7⟩ := h8
  have HA := Lib.hid (H.out.later hB0)
  have HB := Lib.hid (hB0.mono hB)
  have HG := Lib.hid (Fr.of_below H.out.lt hB0)
  have hbz : w.heap.size ≤ W0.heap.size := hB0.size
  clear hB0 H f1 f2 f3 f4 f5 f6
  go_wp2_with fail
  refine (blen_any B p l o d W0 HA.out).mono ?_
  rintro e w1 ⟨rfl, rfl⟩
  go_wp2_with fail
  go_loopg [53] (t.ps.length) (fun k i wr => ∃ (j : Nat) (l' X : Bs) (d' : Int) (K : Nat) (S : Int), i = .int .i64 j ∧ j + k = t.ps.length ∧ WAt B p l' o d' wr ∧ Wrote l X o d K l' d' ∧ X ++ altR t.ps j = prAlt t.ps ∧ max K (deepAlt (t.ps.drop j)) = deepAlt t.ps ∧ S + nodesL (t.ps.drop j) = nodesL t.ps ∧ 0 ≤ S ∧ (l'.length : Int) ≤ max (l.length : Int) 4000 + 16 * S ∧ Below B w wr ∧ Fr p w wr)
  case atStart => exact ⟨0, l, [], d, 0, 0, rfl, by omega, HA.out, Wrote.refl hod', rfl, by simp, by simp, by omega, by omega, HB.out, HG.out⟩
  case round =>
    obtain ⟨j, l', X, d', K, S, rfl, hj, hA, hwr, hX, hK, hS, hS0, hll, hBr, hGr⟩ := hrel
    have HGr := Lib.hid hGr
    have HAr := Lib.hid hA; have Hwr := Lib.hid hwr; have HX := Lib.hid hX; have HK := Lib.hid hK; have HS := Lib.hid hS; have Hll := Lib.hid hll; have HBr := Lib.hid hBr
    clear hA hwr hX hK hS hll hBr HA HB f0 f7
    by_cases hjl : j < t.ps.length
    · obtain ⟨b, ob, rfl, hb, hcell⟩ := HN.out.part (by omega)
      obtain ⟨A', c', h8, hNj⟩ := hcell j hjl
      have hmem := List.getElem_mem hjl
      have HCj := Lib.hid (Hih.out _ hmem)
      have Hrj := Lib.hid (Hps.out _ hmem)
      have Hwj := Lib.hid (Hwp.out _ hmem)
      have HNj := Lib.hid (hNj.later HBr.out Hok.out)
      have hcellW : ∀ W, Below B w W → NodeAt W ok t.ps[j] A' c' := fun W hW => hNj.later hW Hok.out
      obtain ⟨f0, f1, f2, f3, f4, f5, f6, f7⟩ := h8.mono (w' := wr) (fun o => HBr.out.cell (p := ⟨b, o, none⟩) (Hok.out b hb))
      have Hd := Lib.hid (drop_cons hjl)
      have hbw : b < wr.heap.size := by have := Hok.out b hb; have := HBr.out.size; omega
      have hlen2 : 2 ≤ t.ps.length := Hl2
      clear hcell hNj h8 hmem
      generalize t.ps[j] = q at *
      have hq := nodesF_pos q
      have hrest := nodesL_pos (t.ps.drop (j + 1)) (fun q _ => nodesF_pos q)
      have hSq : S + nodesF q + nodesL (t.ps.drop (j + 1)) = nodesL t.ps := by rw [← HS.out, Hd.out, nodesL]; omega
      have HSq := Lib.hid hSq; have Hrest := Lib.hid hrest; have Hq := Lib.hid hq
      clear hSq hrest hq
      go_upto_region 19 with fail
      generalize hW : wr.alloc _ = W1
      have hb1 : Below wr.heap.size wr W1 := by subst hW; exact (Below.refl _ _).alloc (Nat.le_refl _) _
      have h8 : At8 W1 wr.heap.size 0 q A' c' := by subst hW; constructor <;> simp [go_sem]
      clear hW
      have HA1 := Lib.hid (HAr.out.later hb1)
      have HB1 := Lib.hid (HBr.out.trans (hb1.mono (Nat.le_trans hB HBr.out.size)))
      have HN1 := Lib.hid (HNj.out.later (B := wr.heap.size) hb1 (fun b' h => by have := Hok.out b' h; have := HBr.out.size; omega))
      have HG1 := Lib.hid (HGr.out.trans (Fr.of_below HAr.out.lt hb1))
      have hbz1 : wr.heap.size < W1.heap.size := World.block_lt_of_cell? _ _ h8.f0
      have HF1 := Lib.hid (foreign_new HAr.out hb1 (Nat.le_refl _) hbz1)
      have HRest := Lib.hid (altR_cons hjl Hd.out)
      have H8 := Lib.hid h8
      clear hb1 f0 f1 f2 f3 f4 f5 f6 f7 HAr HBr HNj h8
      have hll0 : l'.length ≤ 500000 := by have := Hq.out; have := Hl.out; have := HSq.out; have := Hrest.out; have := Hll.out; omega
      have part : ∀ (W : World) (m : Bs) (Y : Bs), WAt B p m o d' W → Below B w W → Fr p w W → Wrote l Y o d K m d' → (m.length : Int) ≤ max (l.length : Int) 4000 + 16 * S + 1 → ∀ so, Calls Tryd.prog 36 #[.pointer (some ⟨p, 0, none⟩), nodeV q A' c', .bool so] W fun e w' => ∃ l2 d2, e = .returned (.tuple #[]) ∧ WAt B p l2 o d2 w' ∧ Wrote l (Y ++ parT so (prT q)) o d (max K (deepT q + (if so then 1 else 0))) l2 d2 ∧ (l2.length : Int) ≤ max (l.length : Int) 4000 + 16 * (S + nodesF q) ∧ Below B w w' ∧ Fr p w w' := fun W m Y hA hBW hGW hwm hmm so => by
        have hNW := HN1.out
        refine (part_any q HCj.out so B p m o d' W ok A' c' (hcellW W hBW) Hok.out hA (Nat.le_trans hB hBW.size) (HT.out.later hBW) Hrj.out Hwj.out h0 (fun hh => hwm.le hh) (by have := Hon.out; have := HSq.out; have := Hrest.out; omega) (by have := Hl.out; have := HSq.out; have := Hrest.out; omega)).mono ?_
        rintro e w3 ⟨l2, d2, rfl, hA3, hwr3, hl3, hb3, hf3⟩
        exact ⟨l2, d2, rfl, hA3, hwm.trans hwr3, by have := Hq.out; omega, hBW.trans hb3, hGW.trans hf3⟩
      have Part := Lib.hid part
      clear part
      by_cases hj0 : j = 0
      · subst hj0
        obtain ⟨g0, g1, g2, g3, g4, g5, g6, g7⟩ := H8.out
        go_wp2_with fail
        refine (Part.out W1 l' X HA1.out HB1.out HG1.out Hwr.out (by have := Hll.out; omega) (q.k == 5)).mono ?_
        rintro e w3 ⟨l2, d2, rfl, hA3, hwr3, hl3, hb3, hf3⟩
        have HG3 := Lib.hid hf3
        have HA3 := Lib.hid hA3; have Hwr3 := Lib.hid hwr3; have HB3 := Lib.hid hb3; have Hl3 := Lib.hid hl3
        clear hA3 hwr3 hb3 hl3 HA1 HB1 HN1 H8 g0 g1 g2 g3 g4 g5 g6 g7 Part HF1
        go_wp2_with fail
        go_roundg (gk - 1)
        case measure => omega
        case rel => exact ⟨0 + 1, l2, X ++ parT (q.k == 5) (prT q), d2, max K (deepT q + (if q.k == 5 then 1 else 0)), S + nodesF q, by go_num, by omega, HA3.out, Hwr3.out, by rw [← HX.out, HRest.out]; simp, by rw [← HK.out, Hd.out, deepAlt_cons]; omega, HSq.out, by have := Hq.out; omega, Hl3.out, HB3.out, HG3.out⟩
      · have hjp : (0 : Int) < (j : Int) := by omega
        go_wp2_with fail
        refine (wbyte_any B p l' o d' W1 HA1.out (by omega) (Nat.le_trans hB HB1.out.size) 124).mono ?_
        rintro e w2 ⟨rfl, hA2, hb2, hf2⟩
        have h8 : At8 w2 wr.heap.size 0 q A' c' := H8.out.mono (fun i => World.cell?_of_block (w := W1) (a := ⟨wr.heap.size, i, none⟩) (hf2 _ HF1.out).1)
        have HG2 := Lib.hid (HG1.out.trans hf2); have HA2 := Lib.hid hA2; have HB2 := Lib.hid (HB1.out.trans hb2)
        have Hwr2 := Lib.hid (Hwr.out.trans (Wrote.one (x := [124]) (fun hh => Hwr.out.le hh)))
        clear hA2 hb2 hf2 HA1 HB1
        obtain ⟨g0, g1, g2, g3, g4, g5, g6, g7⟩ := h8
        go_wp2_with fail
        refine (Part.out w2 (l' ++ [124]) (X ++ [124]) HA2.out HB2.out HG2.out (by have := Hwr2.out; simpa using this) (by have := Hll.out; simp; omega) (q.k == 5)).mono ?_
        rintro e w3 ⟨l2, d2, rfl, hA3, hwr3, hl3, hb3, hf3⟩
        have HG3 := Lib.hid hf3
        have HA3 := Lib.hid hA3; have Hwr3 := Lib.hid hwr3; have HB3 := Lib.hid hb3; have Hl3 := Lib.hid hl3
        clear hA3 hwr3 hb3 hl3 HA2 HB2 HN1 H8 g0 g1 g2 g3 g4 g5 g6 g7 Part HF1
        go_wp2_with fail
        go_roundg (gk - 1)
        case measure => omega
        case rel => exact ⟨j + 1, l2, X ++ [124] ++ parT (q.k == 5) (prT q), d2, max K (deepT q + (if q.k == 5 then 1 else 0)), S + nodesF q, by go_num, by omega, HA3.out, Hwr3.out, by rw [← HX.out, HRest.out, if_neg hj0]; simp, by rw [← HK.out, Hd.out, deepAlt_cons]; omega, HSq.out, by have := Hq.out; omega, Hl3.out, HB3.out, HG3.out⟩
    · have hj0 : j = t.ps.length := by omega
      have hdr : t.ps.drop j = [] := List.drop_of_length_le (by omega)
      have hXe : X = prAlt t.ps := by rw [← HX.out, altR, if_neg (by omega), hdr]; simp [prBar]
      have hKe : K = deepAlt t.ps := by rw [← HK.out, hdr]; simp [deepAlt]
      have hSe : S = nodesL t.ps := by rw [← HS.out, hdr, nodesL]; omega
      have HXe := Lib.hid hXe; have HKe := Lib.hid hKe; have HSe := Lib.hid hSe
      clear hdr hXe hKe hSe HX HK HS
      go_wp2_with fail
      go_end0
      exact ⟨l', d', rfl, HAr.out, by rw [← HXe.out, ← HKe.out]; exact Hwr.out, by have := Hll.out; have := HSe.out; have := Hnn.out; omega, HBr.out, HGr.out⟩
end Go.Proofs.YteekafkpeimhoaaDoor

/- A writer of patterns: node, repeats: walked. -/
set_option linter.unusedVariables false
set_option linter.unusedSimpArgs false
namespace Go.Proofs.YteekafkpeimhoaaDoor
open Go.RowKit

theorem one_part {l : List T} (h : l.length = 1) (h0 : 0 < l.length) : l = [l[0]] := by
  match l, h with
  | [q], _ => rfl
theorem prHead_one (q : T) : prHead [q] = parT (looseT q) (prT q) := by rw [prHead]
theorem deepHead_one (q : T) : deepHead [q] = deepT q + (if looseT q then 1 else 0) := by rw [deepHead]
theorem nodesL_one (q : T) : nodesL [q] = nodesF q := by rw [nodesL, nodesL]; omega
set_option maxRecDepth 100000 in
set_option maxHeartbeats 4000000 in
theorem node_rep (t : T) (hk : t.k = 6) (ih : ∀ p ∈ t.ps, NodeC p) : NodeC t := by
  intro B p l o d w ok A c hN hok h hB ht hr hw h0 hod hon hl
  have hpos := nodesF_pos t
  by_cases hlt : 1024 < l.length
  · exact node_late t B p l o d w A c h hB hlt _ _ _ (by omega)
  have hlen := hN.len
  have hod' := hod (by omega)
  have hpr : prT t = prHead t.ps ++ timesT t.mn t.mx := by rw [prT_eq, hk]; simp
  have hdp : deepT t = deepHead t.ps := by rw [deepT_eq, hk]; simp
  have hcs : t.ps.length = 1 ∧ 0 ≤ t.mn ∧ t.mn ≤ 255 ∧ t.mx ≤ 255 ∧ -1 ≤ t.mx := by rcases right_cases hr with h | h | h | h | h | h | h <;> omega
  obtain ⟨hl1, m0, m1, m2, m3⟩ := hcs
  have Hl1 := Lib.hid hl1
  have hl0 : 0 < t.ps.length := by omega
  clear hl1
  have hnn : nodesF t = 1 + nodesL t.ps := nodesF_eq t
  rw [hpr, hdp]
  have H := Lib.hid h; have HT := Lib.hid ht; have HN := Lib.hid hN; have Hok := Lib.hid hok
  have Hps := Lib.hid (right_parts hr)
  have Hwp := Lib.hid hw.p
  have Hl := Lib.hid (show max (l.length : Int) 4000 + 16 * (1 + nodesL t.ps) ≤ 500000 by omega)
  have Hon := Lib.hid (show o + (1 + nodesL t.ps) ≤ 100000 by omega)
  have Hnn := Lib.hid hnn
  have Hih := Lib.hid ih
  clear hN hok h ht hr hw hod hon hl hpr hdp hnn ih hpos
  go_enter Tryd.func22, Tryd.ntmps22
  go_upto_region 1 with fail
  generalize hW : w.alloc _ = W0
  have hB0 : Below w.heap.size w W0 := by subst hW; exact (Below.refl _ _).alloc (Nat.le_refl _) _
  have h8 : At8 W0 w.heap.size 0 t A c := by subst hW; constructor <;> simp [go_sem, hk]
  clear hW
  obtain ⟨f0, f1, f2, f3, f4, f5, f6, f7⟩ := h8
  have HA := Lib.hid (H.out.later hB0)
  have HB := Lib.hid (hB0.mono hB)
  have HG := Lib.hid (Fr.of_below H.out.lt hB0)
  have HFo := Lib.hid (foreign_new H.out hB0 (Nat.le_refl _) (by have := World.block_lt_of_cell? _ _ f0; exact this))
  have hbz : w.heap.size ≤ W0.heap.size := hB0.size
  clear hB0 H f1 f2 f3 f4
  go_wp2_with fail
  refine (blen_any B p l o d W0 HA.out).mono ?_
  rintro e w1 ⟨rfl, rfl⟩
  obtain ⟨b, ob, rfl, hb, hcell⟩ := HN.out.part (by omega)
  obtain ⟨A', c', h8, hNj⟩ := hcell 0 (by omega)
  have hmem := List.getElem_mem (show 0 < t.ps.length by omega)
  have HCj := Lib.hid (Hih.out _ hmem)
  have Hrj := Lib.hid (Hps.out _ hmem)
  have Hwj := Lib.hid (Hwp.out _ hmem)
  have HNj := Lib.hid (hNj.later HB.out Hok.out)
  obtain ⟨e0, e1, e2, e3, e4, e5, e6, e7⟩ := h8.mono (w' := w1) (fun o => HB.out.cell (p := ⟨b, o, none⟩) (Hok.out b hb))
  simp only [Nat.zero_mul, Nat.add_zero] at e0 e1 e2 e3 e4 e5 e6 e7
  have hps : t.ps = [t.ps[0]] := one_part Hl1.out hl0
  have hprh : prHead t.ps = parT (looseT t.ps[0]) (prT t.ps[0]) := (congrArg prHead hps).trans (prHead_one _)
  have hdh : deepHead t.ps = deepT t.ps[0] + (if looseT t.ps[0] then 1 else 0) := (congrArg deepHead hps).trans (deepHead_one _)
  have hnl : nodesL t.ps = nodesF t.ps[0] := (congrArg nodesL hps).trans (nodesL_one _)
  have Hprh := Lib.hid hprh; have Hdh := Lib.hid hdh; have Hnl := Lib.hid hnl
  clear hcell hNj h8 hmem hps hprh hdh hnl
  generalize t.ps[0] = q at *
  have hq := nodesF_pos q
  have Hq := Lib.hid hq; clear hq
  have hw1z : w.heap.size < w1.heap.size := World.block_lt_of_cell? _ _ f0
  have ht1 := timesT_top t.mn t.mx
  have hbw : b < w1.heap.size := by have := Hok.out b hb; have := HB.out.size; omega
  go_upto_region 24 with fail
  have HA1 := Lib.hid HA.out.drew
  have HB1 := Lib.hid HB.out.drew
  have HG1 := Lib.hid (HG.out.trans HA.out.drewF)
  have HF1 := Lib.hid (HA.out.drewF _ HFo.out).2
  have HN1 := Lib.hid (HNj.out.later (B := w1.heap.size) (Below.refl _ _).drew (fun b' h => by have := Hok.out b' h; have := HB.out.size; omega))
  have x7 : w1.drew.cell? ⟨w.heap.size, 7, none⟩ = some (.slice (some ⟨b, ob, none⟩) t.ps.length c) := f7
  go_region_with (first
    | (go_at_call 37
       refine (loose_any _ q A' c').mono ?_
       rintro e w2 ⟨rfl, hb2⟩
       have HA2 := Lib.hid (HA1.out.later hb2)
       have HB2 := Lib.hid (HB1.out.trans (hb2.mono (Nat.le_trans hB HB1.out.size)))
       have HG2 := Lib.hid (HG1.out.trans (Fr.of_below HA1.out.lt hb2))
       have HF2 := Lib.hid (Fr.of_below HA1.out.lt hb2 _ HF1.out).2
       have HN2 := Lib.hid (HN1.out.later hb2 (fun b' h => by have := Hok.out b' h; have := HB1.out.size; omega))
       have m7 : w2.cell? ⟨w.heap.size, 7, none⟩ = some (.slice (some ⟨b, ob, none⟩) t.ps.length c) := (hb2.cell (p := ⟨w.heap.size, 7, none⟩) hw1z).trans f7
       have n0 := (hb2.cell (p := ⟨b, ob, none⟩) hbw).trans e0
       have n1 := (hb2.cell (p := ⟨b, ob + 1, none⟩) hbw).trans e1
       have n2 := (hb2.cell (p := ⟨b, ob + 2, none⟩) hbw).trans e2
       have n3 := (hb2.cell (p := ⟨b, ob + 3, none⟩) hbw).trans e3
       have n4 := (hb2.cell (p := ⟨b, ob + 4, none⟩) hbw).trans e4
       have n5 := (hb2.cell (p := ⟨b, ob + 5, none⟩) hbw).trans e5
       have n6 := (hb2.cell (p := ⟨b, ob + 6, none⟩) hbw).trans e6
       have n7 := (hb2.cell (p := ⟨b, ob + 7, none⟩) hbw).trans e7
       have g5 := (hb2.cell (p := ⟨w.heap.size, 5, none⟩) hw1z).trans f5
       have g6 := (hb2.cell (p := ⟨w.heap.size, 6, none⟩) hw1z).trans f6
       have hz2 : w1.drew.heap.size ≤ w2.heap.size := hb2.size
       clear hb2)
    | (go_at_call 36
       refine (part_any q HCj.out (looseT q) B p l o d w2 ok A' c' HN2.out Hok.out HA2.out (Nat.le_trans hB HB2.out.size) (HT.out.later HB2.out) Hrj.out Hwj.out h0 (fun hh => hod') (by have := Hon.out; have := Hnl.out; omega) (by have := Hl.out; have := Hnl.out; omega)).mono ?_
       rintro e w3 ⟨l2, d2, rfl, hA3, hwr3, hl3, hb3, hf3⟩))
  all_goals
    have y5 : w3.cell? ⟨w.heap.size, 5, none⟩ = some (.int .i64 t.mn) := (World.cell?_of_block (w := w2) (a := ⟨w.heap.size, 5, none⟩) (hf3 _ HF2.out).1).trans g5
    have y6 : w3.cell? ⟨w.heap.size, 6, none⟩ = some (.int .i64 t.mx) := (World.cell?_of_block (w := w2) (a := ⟨w.heap.size, 6, none⟩) (hf3 _ HF2.out).1).trans g6
    have HG3 := Lib.hid (HG2.out.trans hf3); have HB3 := Lib.hid (HB2.out.trans hb3); have HA3 := Lib.hid hA3; have Hwr3 := Lib.hid hwr3; have Hl3 := Lib.hid hl3
    have hll2 : l2.length ≤ 500000 := by have := Hl.out; have := Hnl.out; have := Hq.out; omega
    clear hf3 hb3 hA3 hwr3 hl3 g5 g6 m7 n0 n1 n2 n3 n4 n5 n6 n7 HN2 HA2 HB2 HG2 HF2
    go_wp2_with fail
    refine (wtimes_any B p l2 o d2 w3 HA3.out (by omega) (Nat.le_trans hB HB3.out.size) (HT.out.later HB3.out) t.mn t.mx m0 m1 m3 m2).mono ?_
    rintro e w4 ⟨rfl, hA4, hb4, hf4⟩
    have HA4 := Lib.hid hA4; have HB4 := Lib.hid (HB3.out.trans hb4); have HG4 := Lib.hid (HG3.out.trans hf4)
    clear hA4 hb4 hf4
    go_wp2_with fail
    go_end0
    exact ⟨_, d2, rfl, HA4.out, by rw [Hprh.out, Hdh.out]; simpa using Hwr3.out.trans (Wrote.one (x := timesT t.mn t.mx) (fun hh => Hwr3.out.le hh)), by have := Hl3.out; have := Hnn.out; have := Hnl.out; simp; omega, HB4.out, HG4.out⟩
end Go.Proofs.YteekafkpeimhoaaDoor

/- A writer of patterns: node: walked. -/
set_option linter.unusedVariables false
set_option linter.unusedSimpArgs false
namespace Go.Proofs.YteekafkpeimhoaaDoor
open Go.RowKit

/-- node writes a tree's text. -/
theorem node_any (t : T) : NodeC t := by
  induction t using T.ind with
  | h t ih =>
    intro B p l o d w ok A c hN hok h hB ht hr hw h0 hod hon hl
    have go : ∀ {t : T}, NodeC t → NodeC t := fun h => h
    rcases right_cases hr with ⟨hk, _⟩ | ⟨hk, _⟩ | ⟨hk, _⟩ | ⟨hk, _⟩ | ⟨hk, _⟩ | ⟨hk, _⟩ | ⟨hk, _⟩
    · exact node_leaf t (.inl hk) B p l o d w ok A c hN hok h hB ht hr hw h0 hod hon hl
    · exact node_leaf t (.inr (.inl hk)) B p l o d w ok A c hN hok h hB ht hr hw h0 hod hon hl
    · exact node_leaf t (.inr (.inr (.inl hk))) B p l o d w ok A c hN hok h hB ht hr hw h0 hod hon hl
    · exact node_leaf t (.inr (.inr (.inr hk))) B p l o d w ok A c hN hok h hB ht hr hw h0 hod hon hl
    · exact node_row t hk ih B p l o d w ok A c hN hok h hB ht hr hw h0 hod hon hl
    · exact node_alt t hk ih B p l o d w ok A c hN hok h hB ht hr hw h0 hod hon hl
    · exact node_rep t hk ih B p l o d w ok A c hN hok h hB ht hr hw h0 hod hon hl
end Go.Proofs.YteekafkpeimhoaaDoor

/- pattern.Print: walked. -/
set_option linter.unusedVariables false
set_option linter.unusedSimpArgs false
namespace Go.Proofs.YteekafkpeimhoaaDoor
open Go.RowKit

/-- Print. -/
def printP (t : T) : Bs × Int := if checkF t ≠ 0 then ([], checkF t) else if (prT t).length ≤ 1024 ∧ deepT t ≤ 64 then (prT t, 0) else ([], 3)
theorem check_nodes {t : T} (h : checkF t = 0) : rightF t = true ∧ nodesF t ≤ 2048 := by
  have := check_right h
  rw [sizeF_min t 2048 (by omega)] at this
  exact ⟨this.1, by omega⟩
theorem writer_new (w : World) : WAt w.heap.size w.heap.size [] 0 0 (w.alloc (.cells #[.pointer none, .slice none 0 0, .int .i64 0, .int .i64 0] 55)) :=
  ⟨Nat.le_refl _, none, .slice none 0 0, heap_alloc_new w _, .inl rfl, ⟨rfl, .inl ⟨rfl, rfl⟩⟩, fun _ => rfl⟩
set_option maxRecDepth 100000 in
set_option maxHeartbeats 2000000 in
theorem print_any (t : T) (w : World) (ok : Nat → Prop) (A : Option Addr) (c : Nat) (hN : NodeAt w ok t A c) (hok : ∀ b, ok b → b < w.heap.size) (hw : checkF t = 0 → Words t) (ht : TabIn w.heap.size w) :
    Calls Tryd.prog 12 #[nodeV t A c] w fun e w' => e = .returned (.tuple #[.string (bs (printP t).1), .int .i64 (printP t).2]) ∧ Below w.heap.size w w' := by
  have HW := Lib.hid hw; have HT := Lib.hid ht; have HN := Lib.hid hN; have Hok := Lib.hid hok
  clear hw ht hN hok
  by_cases h0 : checkF t = 0
  · have Hw := Lib.hid (HW.out h0)
    have Hc := Lib.hid h0
    obtain ⟨hr, hn⟩ := check_nodes h0
    have Hr := Lib.hid hr; have Hn := Lib.hid hn
    have Hpc := Lib.hid (pcheck_any t)
    have hp0 : printP t = if (prT t).length ≤ 1024 ∧ deepT t ≤ 64 then (prT t, 0) else ([], 3) := by unfold printP; rw [if_neg (by omega)]
    have Hp := Lib.hid hp0
    clear h0 hr hn HW hp0
    go_enter Tryd.func12, Tryd.ntmps12
    go_upto_region 1 with fail
    generalize hW : w.alloc _ = Wa
    have hBa : Below w.heap.size w Wa := by subst hW; exact (Below.refl _ _).alloc (Nat.le_refl _) _
    have h8 : At8 Wa w.heap.size 0 t A c := by subst hW; constructor <;> simp [go_sem]
    clear hW
    have HBa := Lib.hid hBa
    have HNa := Lib.hid (HN.out.later hBa Hok.out)
    have hok2 : ∀ b, ok b → b < Wa.heap.size := fun b h => by have := Hok.out b h; have := HBa.out.size; omega
    have Hok2 := Lib.hid hok2
    have hza : w.heap.size < Wa.heap.size := World.block_lt_of_cell? _ _ h8.f0
    clear hBa hok2
    have H8 := Lib.hid h8
    obtain ⟨f0, f1, f2, f3, f4, f5, f6, f7⟩ := h8
    go_wp2_with fail
    refine (Hpc.out _ ok A c HNa.out Hok2.out).mono ?_
    rintro e w1 ⟨rfl, hb1⟩
    have h9 : At8 w1 w.heap.size 0 t A c := H8.out.mono (fun o => hb1.cell (p := ⟨w.heap.size, o, none⟩) hza)
    have H9 := Lib.hid h9
    have hb1 := HBa.out.step hb1
    clear f0 f1 f2 f3 f4 f5 f6 f7 h9
    rw [Hc.out]
    have HB1 := Lib.hid hb1
    clear hb1
    go_upto_region 5 with fail
    generalize hW : w1.alloc _ = W0
    have h8 : At8 W0 w.heap.size 0 t A c := by subst hW; exact H9.out.mono (fun o => ((Below.refl w1.heap.size w1).alloc (Nat.le_refl _) _).cell (p := ⟨w.heap.size, o, none⟩) (by have := World.block_lt_of_cell? _ _ H9.out.f0; exact this))
    obtain ⟨f0, f1, f2, f3, f4, f5, f6, f7⟩ := h8
    have hA0 : WAt w1.heap.size w1.heap.size [] 0 0 W0 := by subst hW; exact writer_new w1
    have hB0 : Below w1.heap.size w1 W0 := by subst hW; exact (Below.refl _ _).alloc (Nat.le_refl _) _
    have hz0 : w.heap.size ≤ w1.heap.size := HB1.out.size
    have hA1 : WAt w.heap.size w1.heap.size [] 0 0 W0 := ⟨hz0, by obtain ⟨_, a, v, h2, h3, h4, h5⟩ := hA0; exact ⟨a, v, h2, h3, by have := h5 rfl; subst this; exact ⟨rfl, .inl ⟨rfl, rfl⟩⟩, h5⟩⟩
    have HA := Lib.hid hA1
    have HB := Lib.hid (HB1.out.step hB0)
    clear hW hA0 hB0 hA1
    go_wp2_with fail
    refine (node_any t w.heap.size w1.heap.size [] 0 0 W0 ok A c (HN.out.later HB.out Hok.out) Hok.out HA.out HB.out.size (HT.out.later HB.out) Hr.out Hw.out (by omega) (fun _ => by omega) (by have := Hn.out; omega) (by have := Hn.out; simp; omega)).mono ?_
    rintro e w2 ⟨l', d', rfl, hA2, hwr, -, hb2, -⟩
    have HB2 := Lib.hid (HB.out.trans hb2)
    obtain ⟨c2, c3, _, _⟩ := hA2.cells
    have HA2 := Lib.hid hA2
    unfold Wrote at hwr
    rw [List.length_nil, Nat.zero_add] at hwr
    clear HA HB hb2 hA2 f0 f1 f2 f3 f4 f5 f6 f7
    by_cases hl : (prT t).length ≤ 1024
    · rw [if_pos hl] at hwr
      obtain ⟨rfl, rfl⟩ := hwr
      rw [List.nil_append] at HA2
      have hd : max (0 : Int) (0 + (deepT t : Int)) = (deepT t : Int) := by omega
      rw [hd] at HA2 c3
      clear hd
      by_cases hd : deepT t ≤ 64
      · rw [if_pos ⟨hl, hd⟩] at Hp
        generalize prT t = x at *
        generalize deepT t = k at *
        go_wp2_with fail
        refine (blen_any w.heap.size w1.heap.size x 0 k w2 HA2.out).mono ?_
        rintro e w3 ⟨rfl, rfl⟩
        go_wp2_with fail
        refine (bstring_any w.heap.size w1.heap.size x 0 k w3 HA2.out).mono ?_
        rintro e w4 ⟨rfl, hb4⟩
        go_wp2_with fail
        go_ret2
        exact ⟨by rw [Hp.out]; rfl, HB2.out.trans hb4⟩
      · rw [if_neg (fun h => hd h.2)] at Hp
        generalize prT t = x at *
        generalize deepT t = k at *
        go_wp2_with fail
        refine (blen_any w.heap.size w1.heap.size x 0 k w2 HA2.out).mono ?_
        rintro e w3 ⟨rfl, rfl⟩
        go_wp2_with fail
        go_ret2
        exact ⟨by rw [Hp.out]; rfl, HB2.out⟩
    · rw [if_neg hl] at hwr
      rw [if_neg (fun h => hl h.1)] at Hp
      clear hl
      go_wp2_with fail
      refine (blen_any w.heap.size w1.heap.size l' 0 d' w2 HA2.out).mono ?_
      rintro e w3 ⟨rfl, rfl⟩
      go_wp2_with fail
      go_ret2
      exact ⟨by rw [Hp.out]; rfl, HB2.out⟩
  · have Hp := Lib.hid (show printP t = ([], checkF t) by unfold printP; rw [if_pos h0])
    have Hpc := Lib.hid (pcheck_any t)
    clear HW
    generalize checkF t = e0 at *
    rw [Hp.out]
    clear Hp
    go_enter Tryd.func12, Tryd.ntmps12
    go_upto_region 1 with fail
    generalize hW : w.alloc _ = Wa
    have hBa : Below w.heap.size w Wa := by subst hW; exact (Below.refl _ _).alloc (Nat.le_refl _) _
    have h8 : At8 Wa w.heap.size 0 t A c := by subst hW; constructor <;> simp [go_sem]
    clear hW
    have HBa := Lib.hid hBa
    have HNa := Lib.hid (HN.out.later hBa Hok.out)
    have hok2 : ∀ b, ok b → b < Wa.heap.size := fun b h => by have := Hok.out b h; have := HBa.out.size; omega
    have Hok2 := Lib.hid hok2
    have hza : w.heap.size < Wa.heap.size := World.block_lt_of_cell? _ _ h8.f0
    clear hBa hok2
    have H8 := Lib.hid h8
    obtain ⟨f0, f1, f2, f3, f4, f5, f6, f7⟩ := h8
    go_wp2_with fail
    refine (Hpc.out _ ok A c HNa.out Hok2.out).mono ?_
    rintro e w1 ⟨rfl, hb1⟩
    have hb1 := HBa.out.step hb1
    go_wp2_with fail
    go_ret2
    exact ⟨rfl, hb1⟩
end Go.Proofs.YteekafkpeimhoaaDoor

/- The pattern reader's piece: walked. (Printed by wip/genpiece.py.) -/
set_option linter.unusedVariables false
set_option linter.unusedSimpArgs false
namespace Go.Proofs.YteekafkpeimhoaaDoor
open Go.RowKit

theorem takeP_len {q r r' : Bs} (h : takeP q r = some r') : r'.length + q.length = r.length := by
  unfold takeP at h
  split at h
  · rename_i hp
    cases h
    have := pref_len hp
    simp; omega
  · cases h
theorem digits_len : ∀ (k : Nat) (n : Int) (w : Nat) (r : Bs), (digitsP k n w r).2.2.length ≤ r.length
  | 0, n, w, r => by rw [digitsP]; exact Nat.le_refl _
  | k + 1, n, w, [] => by rw [digitsP]; exact Nat.le_refl _
  | k + 1, n, w, c :: t => by
    rw [digitsP]
    split
    · have := digits_len k (10 * n + (c.toNat - 48)) (w + 1) t
      simp only [List.length_cons]; omega
    · exact Nat.le_refl _
theorem number_len {r r' : Bs} {n : Int} (h : numberP r = .ok (n, r')) : r'.length ≤ r.length := by
  unfold numberP at h
  split at h
  · cases h
  · cases h; exact digits_len 4 0 0 r
theorem interval_len {r r' : Bs} {m n : Int} (h : intervalP r = .ok (m, n, r')) : r'.length ≤ r.length := by
  unfold intervalP at h
  split at h
  · cases h
  rename_i m1 r1 hn
  have l1 := number_len hn
  split at h
  · rename_i r2 ht; cases h; have := takeP_len ht; simp at this; omega
  split at h
  · rename_i r2 ht; cases h; have := takeP_len ht; simp at this; omega
  split at h
  · cases h
  rename_i r2 ht
  have l2 := takeP_len ht
  split at h
  · cases h
  rename_i n1 r3 hn2
  have l3 := number_len hn2
  split at h
  · cases h
  split at h
  · rename_i r4 ht4; cases h; have := takeP_len ht4; simp at this l2; omega
  · cases h
/-- Where the loop of piece stands. -/
def PieceI (p : Nat) (op : Int) (grp : Bs → PT) (s : Rs) (w : World) (bn : Nat) (wr : World) (n : Nat) : Prop :=
  ∃ (x : Nx) (s' : Rs), n = s'.rest.length + 1 ∧ BlkX wr w.heap.size (xcell (.mk 0 0 0 0 0 0 0 [], none, 0)).toArray ∧ BlkX wr bn (xcell x).toArray ∧ NodeAt wr (fun b => w.heap.size < b ∧ b < wr.heap.size ∧ b ≠ bn) x.1 x.2.1 x.2.2 ∧ RS wr p op s' ∧ Off p w wr ∧
    ((∃ e, s' = .error e ∧ (s = .error e ∨ ∃ r, s = .ok r ∧ pieceP grp r = .error e)) ∨ ∃ r r' k, s = .ok r ∧ s' = .ok r' ∧ r'.length < k ∧ pieceP grp r = sufP k x.1 r')

/-- Within a round of piece: the new node's box, what it may become. -/
structure PieceR (p : Nat) (op : Int) (w wr : World) (bn : Nat) (t : T) (A : Option Addr) (c : Nat) (mm mx : Int) (s : Rs) (W : World) : Prop where
  R : BlkX W w.heap.size (xcell (.mk 0 0 0 0 0 0 0 [], none, 0)).toArray
  N : BlkX W bn (xcell (t, A, c)).toArray
  X : BlkX W (wr.heap.size + 1) (xcell (repT mm mx t, some ⟨wr.heap.size, 0, none⟩, 1)).toArray
  node : ∀ m n, NodeAt W (fun b => w.heap.size < b ∧ b < wr.heap.size + 1 ∧ b ≠ bn) (repT m n t) (some ⟨wr.heap.size, 0, none⟩) 1
  x : NodeAt W (fun b => w.heap.size < b ∧ b < wr.heap.size ∧ b ≠ bn) t A c
  S : RS W p op s
  O : Off p w W
theorem PieceR.off {p : Nat} {op : Int} {w wr : World} {bn : Nat} {t : T} {A : Option Addr} {c : Nat} {mm mx : Int} {s : Rs} {W : World} (h : PieceR p op w wr bn t A c mm mx s W) {s' : Rs} {W' : World} (hp : p < w.heap.size) (hbn : w.heap.size < bn) (hwr : bn < wr.heap.size) (hO : Off p W W') (hS : RS W' p op s') : PieceR p op w wr bn t A c mm mx s' W' := by
  have lx := h.X.lt
  exact ⟨Off.blk hO h.R (by omega), Off.blk hO h.N (by omega), Off.blk hO h.X (by omega), fun m n => (h.node m n).mono fun b (hb : w.heap.size < b ∧ b < wr.heap.size + 1 ∧ b ≠ bn) => ⟨hb, fun o => Off.cell hO (by omega) (by omega)⟩, h.x.mono fun b (hb : w.heap.size < b ∧ b < wr.heap.size ∧ b ≠ bn) => ⟨hb, fun o => Off.cell hO (by omega) (by omega)⟩, hS, Off.trans h.O hO⟩
theorem PieceR.put {p : Nat} {op : Int} {w wr : World} {bn : Nat} {t : T} {A : Option Addr} {c : Nat} {mm mx : Int} {s : Rs} {W : World} (h : PieceR p op w wr bn t A c mm mx s W) {m' n' : Int} {W' : World} (hp : p < w.heap.size) (hbn : w.heap.size < bn) (hwr : bn < wr.heap.size)
    (hX : BlkX W' (wr.heap.size + 1) (xcell (repT m' n' t, some ⟨wr.heap.size, 0, none⟩, 1)).toArray) (hz : W'.heap.size = W.heap.size) (hb : Below 0 W W') (hk : ∀ k, k ≠ wr.heap.size + 1 → W'.heap[k]? = W.heap[k]?) : PieceR p op w wr bn t A c m' n' s W' := by
  have lx := h.X.lt
  have hc : ∀ b o, b ≠ wr.heap.size + 1 → W'.cell? ⟨b, o, none⟩ = W.cell? ⟨b, o, none⟩ := fun b o hb => World.cell?_of_block (w := W) (a := ⟨b, o, none⟩) (hk b hb)
  exact ⟨h.R.keep (hk _ (by omega)), h.N.keep (hk _ (by omega)), hX, fun m n => (h.node m n).mono fun b (hb : w.heap.size < b ∧ b < wr.heap.size + 1 ∧ b ≠ bn) => ⟨hb, fun o => hc b o (by omega)⟩, h.x.mono fun b (hb : w.heap.size < b ∧ b < wr.heap.size ∧ b ≠ bn) => ⟨hb, fun o => hc b o (by omega)⟩, h.S.kept (by omega) (hk _ (by omega)) (hk _ (by omega)), Off.far h.O (b := wr.heap.size + 1) (by omega) hb.os hb.tape hb.output hz hk⟩
theorem PieceR.set5 {p : Nat} {op : Int} {w wr : World} {bn : Nat} {t : T} {A : Option Addr} {c : Nat} {mm mx : Int} {s : Rs} {W : World} (h : PieceR p op w wr bn t A c mm mx s W) (hp : p < w.heap.size) (hbn : w.heap.size < bn) (hwr : bn < wr.heap.size) (m' : Int) : PieceR p op w wr bn t A c m' mx s (W.setCell ⟨wr.heap.size + 1, 5, none⟩ (.int .i64 m')) := by
  refine h.put hp hbn hwr ?_ (by simp) ((Below.refl 0 W).setCell (Nat.zero_le _) _) (fun k hk => Below.heap_setCell _ _ _ _ hk)
  have h1 := h.X.set 5 (.int .i64 m')
  simpa [xcell, repT, T.k, T.s0, T.s1, T.s2, T.s3, T.mn, T.mx, T.ps] using h1
theorem PieceR.set6 {p : Nat} {op : Int} {w wr : World} {bn : Nat} {t : T} {A : Option Addr} {c : Nat} {mm mx : Int} {s : Rs} {W : World} (h : PieceR p op w wr bn t A c mm mx s W) (hp : p < w.heap.size) (hbn : w.heap.size < bn) (hwr : bn < wr.heap.size) (m' : Int) : PieceR p op w wr bn t A c mm m' s (W.setCell ⟨wr.heap.size + 1, 6, none⟩ (.int .i64 m')) := by
  refine h.put hp hbn hwr ?_ (by simp) ((Below.refl 0 W).setCell (Nat.zero_le _) _) (fun k hk => Below.heap_setCell _ _ _ _ hk)
  have h1 := h.X.set 6 (.int .i64 m')
  simpa [xcell, repT, T.k, T.s0, T.s1, T.s2, T.s3, T.mn, T.mx, T.ps] using h1
/-- The round's end: the new node is the node. -/
theorem PieceR.done {p : Nat} {op : Int} {w wr : World} {bn : Nat} {t : T} {A : Option Addr} {c : Nat} {mm mx : Int} {s : Rs} {W : World} (h : PieceR p op w wr bn t A c mm mx s W) (hp : p < w.heap.size) (hbn : w.heap.size < bn) (hwr : bn < wr.heap.size) :
    (fun W' => BlkX W' w.heap.size (xcell (.mk 0 0 0 0 0 0 0 [], none, 0)).toArray ∧ BlkX W' bn (xcell (repT mm mx t, some ⟨wr.heap.size, 0, none⟩, 1)).toArray ∧ NodeAt W' (fun b => w.heap.size < b ∧ b < W'.heap.size ∧ b ≠ bn) (repT mm mx t) (some ⟨wr.heap.size, 0, none⟩) 1 ∧ RS W' p op s ∧ Off p w W') (writeX W bn (repT mm mx t, some ⟨wr.heap.size, 0, none⟩, 1)) := by
  have lx := h.X.lt
  refine ⟨h.R.keep (writeX_other _ _ _ _ (by omega)), writeX_blk h.N _, (h.node mm mx).mono fun b (hb : w.heap.size < b ∧ b < wr.heap.size + 1 ∧ b ≠ bn) => ⟨⟨hb.1, by rw [writeX_size]; omega, hb.2.2⟩, fun o => World.cell?_of_block (w := W) (a := ⟨b, o, none⟩) (writeX_other _ _ _ _ hb.2.2)⟩, h.S.boxW (by omega) _, Off.boxW h.O (by omega) _⟩

set_option maxRecDepth 100000 in
set_option maxHeartbeats 4000000 in
theorem piece_any (w : World) (p : Nat) (op : Int) (s : Rs) (h : RS w p op s) (hs : s.rest.length ≤ 1024) (grp : Bs → PT) (hB : ∀ r, s = .ok r → 91 ∈ r → BrC) (hD : ∀ r, s = .ok r → 46 ∈ r → DotC)
    (hG : ∀ (w : World) (s : Rs), RS w p op s → s.rest.length ≤ 1024 → (∀ r, s = .ok r → 91 ∈ r → BrC) → (∀ r, s = .ok r → 46 ∈ r → DotC) → Calls Tryd.prog 67 #[.pointer (some ⟨p, 0, none⟩)] w fun en w' => GNode p op grp s w en w') :
    Calls Tryd.prog 42 #[.pointer (some ⟨p, 0, none⟩)] w fun en w' => GNode p op (pieceP grp) s w en w' := by
  have hlt := h.lt
  have hat : ∀ (w : World), RS w p op s → Calls Tryd.prog 56 #[.pointer (some ⟨p, 0, none⟩)] w fun en w' => GNode p op (atomP grp) s w en w' := fun w h => atom_any w p op s h hs grp hB hD hG
  have HA := Lib.hid hat; clear hat hB hD hG hs
  have H := Lib.hid h; clear h
  go_enter Tryd.func42, Tryd.ntmps42
  go_wp2_with fail
  generalize hW : w.alloc _ = W0
  have hB0 : Below w.heap.size w W0 := by subst hW; exact (Below.refl _ _).alloc (Nat.le_refl _) _
  have R0 : BlkX W0 w.heap.size (xcell (.mk 0 0 0 0 0 0 0 [], none, 0)).toArray := by subst hW; exact BlkX.new w _
  have hz0 : W0.heap.size = w.heap.size + 1 := by subst hW; simp
  clear hW
  refine (HA.out W0 (H.out.later hB0)).mono ?_
  rintro en w1 ⟨⟨t1, A1, c1⟩, s1, rfl, hx1, h1, hO1, ho1⟩
  have R1 := hO1.blk R0 (by omega)
  have hz1 := hO1.size
  have Hx1 := Lib.hid hx1; have Ho1 := Lib.hid ho1; have Hz0 := Lib.hid hz0
  have hz0' : w.heap.size < W0.heap.size := by omega
  clear hx1 ho1 hz0
  go_wp2_with fail
  generalize hW : w1.alloc _ = W1
  have hb1 : Below w1.heap.size w1 W1 := by subst hW; exact (Below.refl _ _).alloc (Nat.le_refl _) _
  have N1 : BlkX W1 w1.heap.size (xcell (t1, A1, c1)).toArray := by subst hW; exact BlkX.new w1 _
  have hz2 : w1.heap.size < W1.heap.size := by subst hW; simp
  have hI : PieceI p op grp s w w1.heap.size W1 (s1.rest.length + 1) := by
    refine ⟨(t1, A1, c1), s1, rfl, R1.keep (hb1.block _ R1.lt), N1, Hx1.out.mono fun b (hb : W0.heap.size ≤ b ∧ b < w1.heap.size) => ⟨⟨by omega, by omega, by omega⟩, fun o => hb1.cell (p := ⟨b, o, none⟩) hb.2⟩, h1.later hb1, ((Off.of_below hB0).trans hO1).trans (Off.of_below hb1), ?_⟩
    have ho := Ho1.out
    rcases s with e | r
    · cases (show s1 = .error e from ho)
      exact .inl ⟨e, rfl, .inl rfl⟩
    · cases ha : atomP grp r with
      | error e =>
        simp only [Out, ha] at ho
        exact .inl ⟨e, ho, .inr ⟨r, rfl, by simp only [pieceP, ha]⟩⟩
      | ok y =>
        obtain ⟨n, r1⟩ := y
        simp only [Out, ha] at ho
        obtain ⟨rfl, rfl⟩ := ho
        exact .inr ⟨r, r1, r1.length + 1, rfl, rfl, by omega, by simp only [pieceP, ha]⟩
  have HI := Lib.hid hI
  generalize hbn : w1.heap.size = bn at *
  have hbw : w.heap.size < bn := by omega
  clear hW hI N1 R1 h1 hO1 hb1 Hx1 Ho1 Hz0 hz0' hz1 hbn hB0 R0
  go_loopg [] (s1.rest.length + 1) (fun n wr => PieceI p op grp s w bn wr n)
  case atStart => exact HI.out
  case round =>
    clear HI
    obtain ⟨⟨t, A, c⟩, s', hn, hR, hN, hX, hS, hO, hcase⟩ := hrel
    have Hn := Lib.hid hn; have HX := Lib.hid hX; have HC := Lib.hid hcase; have HN := Lib.hid hN; have HR := Lib.hid hR; have HS := Lib.hid hS; have HO := Lib.hid hO
    have ltn := hN.lt
    have lts := hS.lt
    obtain ⟨⟨f0, f1, f2, f3, f4, f5, f6, f7⟩, _⟩ := hN.cells8
    clear hn hX hcase hN hR hS hO
    go_wp2_with fail
    generalize hW : (wr.alloc _).alloc _ = W2
    have hP : PieceR p op w wr bn t A c 0 (-1) s' W2 := by
      obtain ⟨wa, ha⟩ : ∃ wa, wa = wr.alloc (.cells (xcells [(t, A, c)]).toArray 27) := ⟨_, rfl⟩
      have hza : wa.heap.size = wr.heap.size + 1 := by rw [ha]; simp
      have hba : Below wr.heap.size wr wa := by rw [ha]; exact (Below.refl _ _).alloc (Nat.le_refl _) _
      have h8 := at8_litX [(t, A, c)] ha 0 _ rfl
      have hW' : W2 = wa.alloc (.cells (xcell (repT 0 (-1) t, some ⟨wr.heap.size, 0, none⟩, 1)).toArray 27) := by rw [← hW, ha]; rfl
      have hbb : Below wa.heap.size wa W2 := by rw [hW']; exact (Below.refl _ _).alloc (Nat.le_refl _) _
      have hX := BlkX.new wa (xcell (repT 0 (-1) t, some ⟨wr.heap.size, 0, none⟩, 1)).toArray
      rw [← hW', hza] at hX
      have hbel : Below wr.heap.size wr W2 := hba.trans (hbb.mono hba.size)
      have hx : NodeAt W2 (fun b => w.heap.size < b ∧ b < wr.heap.size ∧ b ≠ bn) t A c := HX.out.mono fun b hb => ⟨hb, fun o => hbel.cell (p := ⟨b, o, none⟩) hb.2.1⟩
      refine ⟨HR.out.keep (hbel.block _ HR.out.lt), HN.out.keep (hbel.block _ HN.out.lt), hX, fun m n => ?_, hx, HS.out.later hbel, Off.trans HO.out (Off.of_below hbel)⟩
      exact node_litX (repT m n t) [(t, A, c)] rfl (by simp) ⟨by omega, by omega, by omega⟩ (getX1 (h8.laterX hbb (by omega))) (getX1 (hx.mono fun b hb => ⟨⟨hb.1, by omega, hb.2.2⟩, fun o => rfl⟩))
    clear hW f0 f1 f2 f3 f4 f5 f6 f7 HR HN HX HS HO
    rcases s' with e | r'
    · go_wp2_with fail
      refine (take_err [42] (by simp) hP.S).mono ?_
      rintro en W3 ⟨rfl, h2, hO2⟩
      have hP := hP.off hlt hbw ltn hO2 h2
      clear h2 hO2
      go_wp2_with fail
      refine (take_err [43] (by simp) hP.S).mono ?_
      rintro en W4 ⟨rfl, h2, hO2⟩
      have hP := hP.off hlt hbw ltn hO2 h2
      clear h2 hO2
      go_wp2_with fail
      refine (take_err [63] (by simp) hP.S).mono ?_
      rintro en W5 ⟨rfl, h2, hO2⟩
      have hP := hP.off hlt hbw ltn hO2 h2
      clear h2 hO2
      go_wp2_with fail
      refine (take_err [123] (by simp) hP.S).mono ?_
      rintro en W6 ⟨rfl, h2, hO2⟩
      have hP := hP.off hlt hbw ltn hO2 h2
      clear h2 hO2
      obtain ⟨⟨n0, n1, n2, n3, n4, n5, n6, n7⟩, _⟩ := hP.N.cells8
      have ln := hP.N.lt
      obtain ⟨⟨r0, r1_, r2_, r3, r4, r5, r6, r7⟩, hz⟩ := hP.R.cells8
      have z0 := hz 0; have z1 := hz 1; have z2 := hz 2; have z3 := hz 3; have z4 := hz 4; have z5 := hz 5; have z6 := hz 6; have z7 := hz 7
      have lr := hP.R.lt
      clear hz
      have HP := Lib.hid hP; clear hP
      go_wp2_with fail
      change bodyPost _ _ _ _ _ (writeX W6 w.heap.size (t, A, c))
      have hfin := writeX_blk HP.out.R (t, A, c)
      obtain ⟨⟨y0, y1, y2, y3, y4, y5, y6, y7⟩, _⟩ := hfin.cells8
      have hRS := HP.out.S.boxW (b := w.heap.size) (by omega) (t, A, c)
      have hOff := Off.boxW HP.out.O (Nat.le_refl _) (t, A, c)
      have hlw := HP.out.X.lt
      have hNod : NodeAt (writeX W6 w.heap.size (t, A, c)) (fun b => w.heap.size ≤ b ∧ b < (writeX W6 w.heap.size (t, A, c)).heap.size) t A c := HP.out.x.mono fun k (hk : w.heap.size < k ∧ k < wr.heap.size ∧ k ≠ bn) => ⟨⟨by omega, by rw [writeX_size]; omega⟩, fun o => World.cell?_of_block (w := W6) (a := ⟨k, o, none⟩) (writeX_other _ _ _ _ (show k ≠ w.heap.size by omega))⟩
      generalize writeX W6 w.heap.size (t, A, c) = W3 at *
      refine bodyPost_ret (v := nodeV t A c) (by simp [results, Tryd.results42, y0, y1, y2, y3, y4, y5, y6, y7, go_sem]) rfl ⟨(t, A, c), _, rfl, hNod, hRS, hOff, ?_⟩
      rcases HC.out with ⟨e', he, hs⟩ | ⟨r, r', k, _, he, _⟩
      · cases he
        rcases hs with rfl | ⟨r, rfl, hp⟩
        · exact Out.err
        · exact Out.bad hp
      · cases he
    · have hcs : ∃ r k, s = .ok r ∧ r'.length < k + 1 ∧ pieceP grp r = sufP (k + 1) t r' := by
        rcases HC.out with ⟨e', he, hs⟩ | ⟨r, r2, k, hs, he, hk, hpp⟩
        · cases he
        · cases he
          obtain ⟨k', rfl⟩ : ∃ k', k = k' + 1 := ⟨k - 1, by omega⟩
          exact ⟨r, k', hs, hk, hpp⟩
      obtain ⟨r, k, hsr, hk, hpp⟩ := hcs
      have Hpp := Lib.hid hpp; have Hsr := Lib.hid hsr; clear hpp hsr HC
      rcases ht : takeP [42] r' with _ | r2
      case' some =>
        have hsu : sufP (k + 1) t r' = sufP k (repT (0) (-1) t) r2 := by rw [sufP]; simp only [ht]
        have hl := takeP_len ht
        simp only [List.length_cons, List.length_nil] at hl
        have Hsu := Lib.hid hsu; have Ht := Lib.hid ht; clear hsu ht
        go_wp2_with fail
        refine (take_hit [42] (by simp) Ht.out hP.S).mono ?_
        rintro en W3 ⟨rfl, h2, hO2⟩
        have hP := hP.off hlt hbw ltn hO2 h2
        clear h2 hO2
        obtain ⟨⟨n0, n1, n2, n3, n4, n5, n6, n7⟩, hz⟩ := hP.N.cells8
        have zn0 := hz 0; have zn1 := hz 1; have zn2 := hz 2; have zn3 := hz 3; have zn4 := hz 4; have zn5 := hz 5; have zn6 := hz 6; have zn7 := hz 7
        have ln := hP.N.lt
        clear hz
        obtain ⟨⟨x0, x1, x2, x3, x4, x5, x6, x7⟩, hz⟩ := hP.X.cells8
        have zx5 := hz 5; have zx6 := hz 6
        have lx := hP.X.lt
        clear hz
        have HP := Lib.hid hP; clear hP
        go_wp2_with fail
        go_roundg (r2.length + 1)
        case measure => have := Hn.out; simp only [Rs.rest] at this; omega
        case rel =>
          obtain ⟨d1, d2, d3, d4, d5⟩ := HP.out.done hlt hbw ltn
          exact ⟨(repT (0) (-1) t, some ⟨wr.heap.size, 0, none⟩, 1), .ok r2, rfl, d1, d2, d3, d4, d5, (.inr ⟨r, r2, k, Hsr.out, rfl, by omega, by rw [Hpp.out, Hsu.out]⟩)⟩
      have Ht42 := Lib.hid ht; clear ht
      rcases ht : takeP [43] r' with _ | r2
      case' some =>
        have hsu : sufP (k + 1) t r' = sufP k (repT (1) (-1) t) r2 := by rw [sufP]; simp only [Ht42.out, ht]
        have hl := takeP_len ht
        simp only [List.length_cons, List.length_nil] at hl
        have Hsu := Lib.hid hsu; have Ht := Lib.hid ht; clear hsu ht
        go_wp2_with fail
        refine (take_miss [42] (by simp) Ht42.out hP.S).mono ?_
        rintro en W3 ⟨rfl, h2, hO2⟩
        have hP := hP.off hlt hbw ltn hO2 h2
        clear h2 hO2
        go_wp2_with fail
        refine (take_hit [43] (by simp) Ht.out hP.S).mono ?_
        rintro en W4 ⟨rfl, h2, hO2⟩
        have hP := hP.off hlt hbw ltn hO2 h2
        clear h2 hO2
        obtain ⟨⟨n0, n1, n2, n3, n4, n5, n6, n7⟩, hz⟩ := hP.N.cells8
        have zn0 := hz 0; have zn1 := hz 1; have zn2 := hz 2; have zn3 := hz 3; have zn4 := hz 4; have zn5 := hz 5; have zn6 := hz 6; have zn7 := hz 7
        have ln := hP.N.lt
        clear hz
        obtain ⟨⟨x0, x1, x2, x3, x4, x5, x6, x7⟩, hz⟩ := hP.X.cells8
        have zx5 := hz 5; have zx6 := hz 6
        have lx := hP.X.lt
        clear hz
        have HP := Lib.hid (hP.set5 hlt hbw ltn 1); clear hP
        go_wp2_with fail
        go_roundg (r2.length + 1)
        case measure => have := Hn.out; simp only [Rs.rest] at this; omega
        case rel =>
          obtain ⟨d1, d2, d3, d4, d5⟩ := HP.out.done hlt hbw ltn
          exact ⟨(repT (1) (-1) t, some ⟨wr.heap.size, 0, none⟩, 1), .ok r2, rfl, d1, d2, d3, d4, d5, (.inr ⟨r, r2, k, Hsr.out, rfl, by omega, by rw [Hpp.out, Hsu.out]⟩)⟩
      have Ht43 := Lib.hid ht; clear ht
      rcases ht : takeP [63] r' with _ | r2
      case' some =>
        have hsu : sufP (k + 1) t r' = sufP k (repT (0) (1) t) r2 := by rw [sufP]; simp only [Ht42.out, Ht43.out, ht]
        have hl := takeP_len ht
        simp only [List.length_cons, List.length_nil] at hl
        have Hsu := Lib.hid hsu; have Ht := Lib.hid ht; clear hsu ht
        go_wp2_with fail
        refine (take_miss [42] (by simp) Ht42.out hP.S).mono ?_
        rintro en W3 ⟨rfl, h2, hO2⟩
        have hP := hP.off hlt hbw ltn hO2 h2
        clear h2 hO2
        go_wp2_with fail
        refine (take_miss [43] (by simp) Ht43.out hP.S).mono ?_
        rintro en W4 ⟨rfl, h2, hO2⟩
        have hP := hP.off hlt hbw ltn hO2 h2
        clear h2 hO2
        go_wp2_with fail
        refine (take_hit [63] (by simp) Ht.out hP.S).mono ?_
        rintro en W5 ⟨rfl, h2, hO2⟩
        have hP := hP.off hlt hbw ltn hO2 h2
        clear h2 hO2
        obtain ⟨⟨n0, n1, n2, n3, n4, n5, n6, n7⟩, hz⟩ := hP.N.cells8
        have zn0 := hz 0; have zn1 := hz 1; have zn2 := hz 2; have zn3 := hz 3; have zn4 := hz 4; have zn5 := hz 5; have zn6 := hz 6; have zn7 := hz 7
        have ln := hP.N.lt
        clear hz
        obtain ⟨⟨x0, x1, x2, x3, x4, x5, x6, x7⟩, hz⟩ := hP.X.cells8
        have zx5 := hz 5; have zx6 := hz 6
        have lx := hP.X.lt
        clear hz
        have HP := Lib.hid (hP.set6 hlt hbw ltn 1); clear hP
        go_wp2_with fail
        go_roundg (r2.length + 1)
        case measure => have := Hn.out; simp only [Rs.rest] at this; omega
        case rel =>
          obtain ⟨d1, d2, d3, d4, d5⟩ := HP.out.done hlt hbw ltn
          exact ⟨(repT (0) (1) t, some ⟨wr.heap.size, 0, none⟩, 1), .ok r2, rfl, d1, d2, d3, d4, d5, (.inr ⟨r, r2, k, Hsr.out, rfl, by omega, by rw [Hpp.out, Hsu.out]⟩)⟩
      have Ht63 := Lib.hid ht; clear ht
      rcases ht : takeP [123] r' with _ | r1
      case' none =>
        have hsu : sufP (k + 1) t r' = .ok (t, r') := by rw [sufP]; simp only [Ht42.out, Ht43.out, Ht63.out, ht]
        have Hsu := Lib.hid hsu; have Ht := Lib.hid ht; clear hsu ht
        go_wp2_with fail
        refine (take_miss [42] (by simp) Ht42.out hP.S).mono ?_
        rintro en W3 ⟨rfl, h2, hO2⟩
        have hP := hP.off hlt hbw ltn hO2 h2
        clear h2 hO2
        go_wp2_with fail
        refine (take_miss [43] (by simp) Ht43.out hP.S).mono ?_
        rintro en W4 ⟨rfl, h2, hO2⟩
        have hP := hP.off hlt hbw ltn hO2 h2
        clear h2 hO2
        go_wp2_with fail
        refine (take_miss [63] (by simp) Ht63.out hP.S).mono ?_
        rintro en W5 ⟨rfl, h2, hO2⟩
        have hP := hP.off hlt hbw ltn hO2 h2
        clear h2 hO2
        go_wp2_with fail
        refine (take_miss [123] (by simp) Ht.out hP.S).mono ?_
        rintro en W6 ⟨rfl, h2, hO2⟩
        have hP := hP.off hlt hbw ltn hO2 h2
        clear h2 hO2
        obtain ⟨⟨n0, n1, n2, n3, n4, n5, n6, n7⟩, _⟩ := hP.N.cells8
        have ln := hP.N.lt
        obtain ⟨⟨r0, r1_, r2_, r3, r4, r5, r6, r7⟩, hz⟩ := hP.R.cells8
        have z0 := hz 0; have z1 := hz 1; have z2 := hz 2; have z3 := hz 3; have z4 := hz 4; have z5 := hz 5; have z6 := hz 6; have z7 := hz 7
        have lr := hP.R.lt
        clear hz
        have HP := Lib.hid hP; clear hP
        go_wp2_with fail
        change bodyPost _ _ _ _ _ (writeX W6 w.heap.size (t, A, c))
        have hfin := writeX_blk HP.out.R (t, A, c)
        obtain ⟨⟨y0, y1, y2, y3, y4, y5, y6, y7⟩, _⟩ := hfin.cells8
        have hRS := HP.out.S.boxW (b := w.heap.size) (by omega) (t, A, c)
        have hOff := Off.boxW HP.out.O (Nat.le_refl _) (t, A, c)
        have hlw := HP.out.X.lt
        have hNod : NodeAt (writeX W6 w.heap.size (t, A, c)) (fun b => w.heap.size ≤ b ∧ b < (writeX W6 w.heap.size (t, A, c)).heap.size) t A c := HP.out.x.mono fun k (hk : w.heap.size < k ∧ k < wr.heap.size ∧ k ≠ bn) => ⟨⟨by omega, by rw [writeX_size]; omega⟩, fun o => World.cell?_of_block (w := W6) (a := ⟨k, o, none⟩) (writeX_other _ _ _ _ (show k ≠ w.heap.size by omega))⟩
        generalize writeX W6 w.heap.size (t, A, c) = W3 at *
        refine bodyPost_ret (v := nodeV t A c) (by simp [results, Tryd.results42, y0, y1, y2, y3, y4, y5, y6, y7, go_sem]) rfl ⟨(t, A, c), _, rfl, hNod, hRS, hOff, ?_⟩
        rw [Hsr.out]
        exact Out.good (by rw [Hpp.out, Hsu.out]) rfl
      have hl := takeP_len ht
      simp only [List.length_cons, List.length_nil] at hl
      have Ht := Lib.hid ht; clear ht
      go_wp2_with fail
      refine (take_miss [42] (by simp) Ht42.out hP.S).mono ?_
      rintro en W3 ⟨rfl, h2, hO2⟩
      have hP := hP.off hlt hbw ltn hO2 h2
      clear h2 hO2
      go_wp2_with fail
      refine (take_miss [43] (by simp) Ht43.out hP.S).mono ?_
      rintro en W4 ⟨rfl, h2, hO2⟩
      have hP := hP.off hlt hbw ltn hO2 h2
      clear h2 hO2
      go_wp2_with fail
      refine (take_miss [63] (by simp) Ht63.out hP.S).mono ?_
      rintro en W5 ⟨rfl, h2, hO2⟩
      have hP := hP.off hlt hbw ltn hO2 h2
      clear h2 hO2
      go_wp2_with fail
      refine (take_hit [123] (by simp) Ht.out hP.S).mono ?_
      rintro en W6 ⟨rfl, h2, hO2⟩
      have hP := hP.off hlt hbw ltn hO2 h2
      clear h2 hO2
      go_wp2_with fail
      refine (interval_any _ p op _ hP.S).mono ?_
      rintro en W7 ⟨m, x, s7, rfl, h7, hO7, ho7⟩
      have hP := hP.off hlt hbw ltn hO7 h7
      clear h7 hO7
      have hcase : s7.rest.length < r'.length ∧ ((∃ e, s7 = .error e ∧ (s = .error e ∨ ∃ r, s = .ok r ∧ pieceP grp r = .error e)) ∨ ∃ r r' k, s = .ok r ∧ s7 = .ok r' ∧ r'.length < k ∧ pieceP grp r = sufP k (repT m x t) r') := by
        cases hi : intervalP r1 with
        | error e =>
          simp only [hi] at ho7
          subst ho7
          exact ⟨by simp only [Rs.rest, List.length_nil]; omega, .inl ⟨e, rfl, .inr ⟨r, Hsr.out, by rw [Hpp.out, sufP]; simp only [Ht42.out, Ht43.out, Ht63.out, Ht.out, hi]⟩⟩⟩
        | ok y =>
          obtain ⟨a, b, r2⟩ := y
          simp only [hi] at ho7
          obtain ⟨rfl, rfl, rfl⟩ := ho7
          have := interval_len hi
          exact ⟨by simp only [Rs.rest]; omega, .inr ⟨r, r2, k, Hsr.out, rfl, by omega, by rw [Hpp.out, sufP]; simp only [Ht42.out, Ht43.out, Ht63.out, Ht.out, hi]⟩⟩
      have HCA := Lib.hid hcase
      clear hcase ho7
      obtain ⟨⟨n0, n1, n2, n3, n4, n5, n6, n7⟩, hz⟩ := hP.N.cells8
      have zn0 := hz 0; have zn1 := hz 1; have zn2 := hz 2; have zn3 := hz 3; have zn4 := hz 4; have zn5 := hz 5; have zn6 := hz 6; have zn7 := hz 7
      have ln := hP.N.lt
      clear hz
      obtain ⟨⟨x0, x1, x2, x3, x4, x5, x6, x7⟩, hz⟩ := hP.X.cells8
      have zx5 := hz 5; have zx6 := hz 6
      have lx := hP.X.lt
      clear hz
      have HP := Lib.hid ((hP.set5 hlt hbw ltn m).set6 hlt hbw ltn x); clear hP
      go_wp2_with fail
      go_roundg (s7.rest.length + 1)
      case measure => have := Hn.out; have := HCA.out.1; simp only [Rs.rest] at *; omega
      case rel =>
        obtain ⟨d1, d2, d3, d4, d5⟩ := HP.out.done hlt hbw ltn
        exact ⟨(repT m x t, some ⟨wr.heap.size, 0, none⟩, 1), s7, rfl, d1, d2, d3, d4, d5, HCA.out.2⟩
end Go.Proofs.YteekafkpeimhoaaDoor

/- Lists of nodes that grow, beside the pattern reader; what reading leaves is no longer than what it met. -/
set_option linter.unusedVariables false
set_option linter.unusedSimpArgs false
namespace Go.Proofs.YteekafkpeimhoaaDoor
open Go.RowKit

theorem single_len {g : UInt8} {r r' : Bs} {c : Nat} (h : singleP g r = .ok (c, r')) : r'.length ≤ r.length := by
  unfold singleP at h
  split at h
  · cases h
  · split at h
    · rename_i ht; cases h; have := takeP_len ht; simp at this ⊢; omega
    · cases h
theorem member_len {r r' : Bs} {c : Nat} (h : memberP r = .ok (c, r')) : r'.length ≤ r.length := by
  unfold memberP at h
  split at h
  · rename_i ht; have := takeP_len ht; have := single_len h; simp at *; omega
  · split at h
    · cases h
    · cases h; simp
theorem cutP_len : ∀ {r a b : Bs}, cutP r = some (a, b) → b.length ≤ r.length
  | [], a, b, h => by rw [cutP] at h; cases h
  | c :: t, a, b, h => by
    rw [cutP] at h
    split at h
    · rename_i ht; cases h; have := takeP_len ht; simp at *; omega
    · split at h
      · rename_i a' b' hc; cases h; have := cutP_len hc; simp at *; omega
      · cases h
theorem class_len {s s' : W4} {r r' : Bs} (h : classP s r = .ok (s', r')) : r'.length ≤ r.length := by
  unfold classP at h
  split at h
  · cases h
  · rename_i hc
    split at h
    · cases h
    · cases h; exact cutP_len hc
theorem range_len {s s' : W4} {f : Nat} {r r' : Bs} (h : rangeP s f r = .ok (s', r')) : r'.length ≤ r.length := by
  unfold rangeP at h
  split at h
  · rename_i ht _
    split at h
    · cases h
    · split at h
      · cases h
      · rename_i hm
        split at h
        · cases h
        · cases h; have := takeP_len ht; have := member_len hm; simp at *; omega
  · cases h; exact Nat.le_refl _
theorem item_len {s s' : W4} {r r' : Bs} (h : itemP s r = .ok (s', r')) : r'.length ≤ r.length := by
  unfold itemP at h
  split at h
  · rename_i ht; have := takeP_len ht; have := class_len h; simp at *; omega
  · split at h
    · rename_i ht
      split at h
      · cases h
      · rename_i hs; cases h; have := takeP_len ht; have := single_len hs; simp at *; omega
    · split at h
      · cases h
      · rename_i hm; have := member_len hm; have := range_len h; omega
theorem items_len : ∀ {k : Nat} {s s' : W4} {r r' : Bs}, itemsP k s r = .ok (s', r') → r'.length ≤ r.length
  | 0, s, s', r, r', h => by rw [itemsP] at h; cases h
  | k + 1, s, s', r, r', h => by
    rw [itemsP] at h
    split at h
    · cases h
    · rename_i hi
      have := item_len hi
      split at h
      · rename_i ht; cases h; have := takeP_len ht; simp at *; omega
      · have := items_len h; omega
theorem bracket_len {s' : W4} {r r' : Bs} (h : bracketP r = .ok (s', r')) : r'.length ≤ r.length := by
  unfold bracketP at h
  split at h
  · rename_i ht
    split at h
    · cases h
    · rename_i hi; cases h; have := takeP_len ht; have := items_len hi; simp at *; omega
  · exact items_len h
/-- A reader of groups that leaves no more than it met. -/
def GrpLen (grp : Bs → PT) : Prop := ∀ r n r', grp r = .ok (n, r') → r'.length ≤ r.length
theorem atom_len {grp : Bs → PT} (hg : GrpLen grp) {r r' : Bs} {n : T} (h : atomP grp r = .ok (n, r')) : r'.length < r.length := by
  unfold atomP at h
  split at h
  · cases h
  · rename_i c t
    simp only [List.length_cons]
    split at h
    · have := hg _ _ _ h; omega
    split at h
    · cases h; omega
    split at h
    · cases h; omega
    split at h
    · split at h
      · cases h
      · rename_i hb; cases h; have := bracket_len hb; omega
    split at h
    · cases h; omega
    split at h
    · cases h
    split at h
    · split at h
      · cases h
      · cases h; simp; omega
    · cases h; omega
theorem suf_len : ∀ (k : Nat) {n n' : T} {r r' : Bs}, sufP k n r = .ok (n', r') → r'.length ≤ r.length
  | 0, n, n', r, r', h => by rw [sufP] at h; cases h; exact Nat.le_refl _
  | k + 1, n, n', r, r', h => by
    rw [sufP] at h
    split at h
    · rename_i ht; have := takeP_len ht; have := suf_len k h; omega
    split at h
    · rename_i ht; have := takeP_len ht; have := suf_len k h; omega
    split at h
    · rename_i ht; have := takeP_len ht; have := suf_len k h; omega
    split at h
    · rename_i ht
      split at h
      · cases h
      · rename_i hi; have := takeP_len ht; have := interval_len hi; have := suf_len k h; omega
    · cases h; exact Nat.le_refl _
theorem piece_len {grp : Bs → PT} (hg : GrpLen grp) {r r' : Bs} {n : T} (h : pieceP grp r = .ok (n, r')) : r'.length < r.length := by
  unfold pieceP at h
  split at h
  · cases h
  · rename_i ha; have := atom_len hg ha; have := suf_len _ h; omega
theorem pieces_len {grp : Bs → PT} (hg : GrpLen grp) : ∀ (k : Nat) {l l' : List T} {r r' : Bs}, piecesP grp k l r = .ok (l', r') → r'.length ≤ r.length
  | 0, l, l', r, r', h => by rw [piecesP] at h; cases h; exact Nat.le_refl _
  | k + 1, l, l', r, r', h => by
    rw [piecesP] at h
    split at h
    · cases h; exact Nat.le_refl _
    · split at h
      · cases h
      · rename_i hp; have := piece_len hg hp; have := pieces_len hg k h; omega
theorem row_len {grp : Bs → PT} (hg : GrpLen grp) {r r' : Bs} {n : T} (h : rowP grp r = .ok (n, r')) : r'.length ≤ r.length := by
  unfold rowP at h
  split at h
  · cases h
  · rename_i hp; cases h; exact pieces_len hg _ hp
theorem alts_len {grp : Bs → PT} (hg : GrpLen grp) : ∀ (k : Nat) {l l' : List T} {r r' : Bs}, altsP grp k l r = .ok (l', r') → r'.length ≤ r.length
  | 0, l, l', r, r', h => by rw [altsP] at h; cases h; exact Nat.le_refl _
  | k + 1, l, l', r, r', h => by
    rw [altsP] at h
    split at h
    · cases h; exact Nat.le_refl _
    · rename_i ht
      split at h
      · cases h
      · rename_i hp; have := takeP_len ht; have := row_len hg hp; have := alts_len hg k h; omega
theorem choice_len {grp : Bs → PT} (hg : GrpLen grp) {r r' : Bs} {n : T} (h : choiceP grp r = .ok (n, r')) : r'.length ≤ r.length := by
  unfold choiceP at h
  split at h
  · cases h
  · rename_i hr
    split at h
    · cases h
    · rename_i ha; cases h; have := row_len hg hr; have := alts_len hg _ ha; omega
theorem group_len : ∀ d, GrpLen (groupP d)
  | 0 => fun r n r' h => by rw [groupP] at h; cases h
  | d + 1 => fun r n r' h => by
    rw [groupP] at h
    split at h
    · cases h
    · rename_i hc
      split at h
      · rename_i ht; cases h; have := choice_len (group_len d) hc; have := takeP_len ht; omega
      · cases h

/-- A list of nodes that a call lays, in its own row; beside the result's box and the reader. -/
structure LstR (p : Nat) (op : Int) (w : World) (n : Nat) (ns : List Nx) (Av : Option Addr) (cv : Nat) (s : Rs) (wr : World) : Prop where
  len : ns.length = n
  R : BlkX wr w.heap.size (xcell (.mk 0 0 0 0 0 0 0 [], none, 0)).toArray
  own : wr.ownsRow (w.heap.size + 1) 27 8 (.slice Av n cv) n (xcells ns)
  nodes : ∀ x ∈ ns, NodeAt wr (fun b => w.heap.size < b ∧ b < wr.heap.size ∧ some b ≠ (Value.slice Av n cv).ownBlock) x.1 x.2.1 x.2.2
  S : RS wr p op s
  O : Off p w wr
theorem LstR.off {p : Nat} {op : Int} {w : World} {n : Nat} {ns : List Nx} {Av : Option Addr} {cv : Nat} {s s' : Rs} {wr w1 : World} (h : LstR p op w n ns Av cv s wr) (hp : p < w.heap.size) (hO : Off p wr w1) (hS : RS w1 p op s') : LstR p op w n ns Av cv s' w1 := by
  have hz := hO.size
  refine ⟨h.len, Off.blk hO h.R (by omega), h.own.kept hO ?_, fun x hx => (h.nodes x hx).mono fun b (hb : w.heap.size < b ∧ b < wr.heap.size ∧ some b ≠ (Value.slice Av n cv).ownBlock) => ⟨⟨hb.1, by omega, hb.2.2⟩, fun o => Off.cell hO hb.2.1 (by omega)⟩, hS, Off.trans h.O hO⟩
  cases hv : (Value.slice Av n cv).ownBlock with
  | none => exact .inl rfl
  | some k => have := h.own.lt k hv; exact .inr (by simp; omega)
theorem LstR.push {p : Nat} {op : Int} {w : World} {n : Nat} {ns : List Nx} {Av A' : Option Addr} {cv c' : Nat} {s : Rs} {W w0 w2 : World} (h : LstR p op w n ns Av cv s W) (hp : p < w.heap.size) {B : Nat} (hB : w.heap.size < B) (hrow : ∀ k, (Value.slice Av n cv).ownBlock = some k → k < B) (x : Nx) (hx : NodeAt W (fun b => B ≤ b ∧ b < W.heap.size) x.1 x.2.1 x.2.2)
    (h0 : Below W.heap.size W w0) (h1 : w2.ownsRow (w.heap.size + 1) 27 8 (.slice A' (n + 1) c') (n + 1) (xcells ns ++ xcell x)) (h2 : w0.grownBy w2 (Value.slice Av n cv).ownBlock) (h3 : (Value.slice A' (n + 1) c').ownBlock = (Value.slice Av n cv).ownBlock ∨ (Value.slice A' (n + 1) c').ownBlock = some w0.heap.size) :
    LstR p op w (n + 1) (ns ++ [x]) A' c' s w2 := by
  have hz0 := h0.size
  have hz2 := h2.size
  have hblk : ∀ b, b < W.heap.size → some b ≠ (Value.slice Av n cv).ownBlock → w2.heap[b]? = W.heap[b]? := fun b hb hne => (h2.block b (by omega) hne).trans (h0.block b hb)
  have hrow1 : ∀ k, (Value.slice Av n cv).ownBlock = some k → w.heap.size + 1 ≤ k := fun k hk => (h.own.lt k hk).1
  have hne : ∀ b, b < w.heap.size + 1 → some b ≠ (Value.slice Av n cv).ownBlock := fun b hb e => by have := hrow1 b e.symm; omega
  have hpW := h.S.lt
  refine ⟨by simp [h.len], h.R.keep (hblk _ h.R.lt (hne _ (by omega))), by rw [xcells_snoc]; exact h1, fun y hy => ?_, h.S.kept (by omega) (hblk p hpW (hne _ (by omega))) (hblk 0 (by omega) (hne _ (by omega))), ?_⟩
  · have key : ∀ b, w.heap.size < b → b < W.heap.size → some b ≠ (Value.slice Av n cv).ownBlock → (w.heap.size < b ∧ b < w2.heap.size ∧ some b ≠ (Value.slice A' (n + 1) c').ownBlock) ∧ ∀ o, w2.cell? ⟨b, o, none⟩ = W.cell? ⟨b, o, none⟩ := fun b hb1 hb2 hb3 => by
      refine ⟨⟨hb1, by omega, ?_⟩, fun o => World.cell?_of_block (w := W) (a := ⟨b, o, none⟩) (hblk b hb2 hb3)⟩
      rcases h3 with e | e
      · rw [e]; exact hb3
      · rw [e]; intro e'; simp only [Option.some.injEq] at e'; omega
    rcases List.mem_append.1 hy with hy | hy
    · exact (h.nodes y hy).mono fun b (hb : w.heap.size < b ∧ b < W.heap.size ∧ some b ≠ (Value.slice Av n cv).ownBlock) => key b hb.1 hb.2.1 hb.2.2
    · simp only [List.mem_singleton] at hy
      subst hy
      exact hx.mono fun b (hb : B ≤ b ∧ b < W.heap.size) => key b (by omega) hb.2 (fun e => by have := hrow b e.symm; omega)
  · have hO := h.O
    have hzW := hO.size
    exact ⟨(h2.os.trans h0.os).trans hO.os, (h2.tape.trans h0.tape).trans hO.tape, (h2.output.trans h0.output).trans hO.output, by omega, fun k hk hkp => (hblk k (by omega) (hne k (by omega))).trans (hO.block k hk hkp)⟩
/-- The list's own node. -/
theorem LstR.node {p : Nat} {op : Int} {w : World} {n : Nat} {ns : List Nx} {Av : Option Addr} {cv : Nat} {s : Rs} {wr : World} (h : LstR p op w n ns Av cv s wr) (hn : 0 < n) (hn2 : n ≤ 17592186044416) (R : T) (hR : R.ps = ns.map (·.1)) : NodeAt wr (fun b => w.heap.size < b ∧ b < wr.heap.size) R Av cv := by
  obtain ⟨g, hA, hg0, hg, hc⟩ : ∃ g, Av = some ⟨g, 0, none⟩ ∧ w.heap.size + 1 ≤ g ∧ g < wr.heap.size ∧ n ≤ cv := by
    rcases h.own.2 with ⟨_, h0⟩ | ⟨g, cap, cur, e, hb, hh, hcap, _⟩
    · omega
    · simp only [Value.slice.injEq] at e
      exact ⟨g, e.1, hb, by (rcases Nat.lt_or_ge g wr.heap.size with h' | h'; exact h'; rw [Array.getElem?_eq_none h'] at hh; simp at hh), by omega⟩
  subst hA
  have h8 : ∀ (i : Nat) (x : Nx), ns[i]? = some x → At8 wr g (i * 8) x.1 x.2.1 x.2.2 := fun i x hi => .ofX fun j hj => by
    have hl := (List.getElem?_eq_some_iff.1 hi).1
    have hx : ns[i] = x := (List.getElem?_eq_some_iff.1 hi).2
    rw [h.own.cellAt (i * 8 + j) (by have := h.len; omega), xcells_get ns i j hl hj, hx]
  have hm := node_litX (W := wr) (ok := fun b => w.heap.size < b ∧ b < wr.heap.size) (g := g) R ns hR (by rw [h.len]; exact hn2) ⟨by omega, hg⟩ h8 (fun i x hi => (h.nodes x (List.mem_of_getElem? hi)).mono fun b (hb : w.heap.size < b ∧ b < wr.heap.size ∧ some b ≠ _) => ⟨⟨hb.1, hb.2.1⟩, fun o => rfl⟩)
  exact hm.widerX (by rw [hR, List.length_map, h.len]; exact hc)
/-- The first node of a list, in memory. -/
theorem LstR.first {p : Nat} {op : Int} {w : World} {n : Nat} {ns : List Nx} {Av : Option Addr} {cv : Nat} {s : Rs} {wr : World} (h : LstR p op w n ns Av cv s wr) (hn : 0 < n) : ∃ g x, Av = some ⟨g, 0, none⟩ ∧ ns[0]? = some x ∧ At8 wr g 0 x.1 x.2.1 x.2.2 ∧ g < wr.heap.size ∧ n ≤ cv ∧ NodeAt wr (fun b => w.heap.size < b ∧ b < wr.heap.size) x.1 x.2.1 x.2.2 := by
  obtain ⟨g, hA, hg0, hg, hc⟩ : ∃ g, Av = some ⟨g, 0, none⟩ ∧ w.heap.size + 1 ≤ g ∧ g < wr.heap.size ∧ n ≤ cv := by
    rcases h.own.2 with ⟨_, h0⟩ | ⟨g, cap, cur, e, hb, hh, hcap, _⟩
    · omega
    · simp only [Value.slice.injEq] at e
      exact ⟨g, e.1, hb, by (rcases Nat.lt_or_ge g wr.heap.size with h' | h'; exact h'; rw [Array.getElem?_eq_none h'] at hh; simp at hh), by omega⟩
  subst hA
  have hl : 0 < ns.length := by rw [h.len]; exact hn
  refine ⟨g, ns[0], rfl, List.getElem?_eq_getElem hl, .ofX fun j hj => ?_, hg, hc, (h.nodes _ (List.getElem_mem hl)).mono fun b (hb : w.heap.size < b ∧ b < wr.heap.size ∧ some b ≠ _) => ⟨⟨hb.1, hb.2.1⟩, fun o => rfl⟩⟩
  have := h.own.cellAt j (by have := h.len; omega)
  rw [Nat.zero_add, this]
  have e := xcells_get ns 0 j hl hj
  simpa using e
end Go.Proofs.YteekafkpeimhoaaDoor

/- What reading leaves is an end of what it met. Plain. -/
set_option linter.unusedVariables false
set_option linter.unusedSimpArgs false
namespace Go.Proofs.YteekafkpeimhoaaDoor
open Go.RowKit

theorem takeP_suf {q r r' : Bs} (h : takeP q r = some r') : r' <:+ r := by
  unfold takeP at h
  split at h
  · cases h; exact List.drop_suffix _ _
  · cases h
theorem digits_suf : ∀ (k : Nat) (n : Int) (w : Nat) (r : Bs), (digitsP k n w r).2.2 <:+ r
  | 0, n, w, r => by rw [digitsP]; exact List.suffix_refl _
  | k + 1, n, w, [] => by rw [digitsP]; exact List.suffix_refl _
  | k + 1, n, w, c :: t => by
    rw [digitsP]
    split
    · exact (digits_suf k _ _ t).trans (List.suffix_cons c t)
    · exact List.suffix_refl _
theorem number_suf {r r' : Bs} {n : Int} (h : numberP r = .ok (n, r')) : r' <:+ r := by
  unfold numberP at h
  split at h
  · cases h
  · cases h; exact digits_suf 4 0 0 r
theorem interval_suf {r r' : Bs} {m n : Int} (h : intervalP r = .ok (m, n, r')) : r' <:+ r := by
  unfold intervalP at h
  split at h
  · cases h
  rename_i m1 r1 hn
  have l1 := number_suf hn
  split at h
  · rename_i r2 ht; cases h; exact (takeP_suf ht).trans l1
  split at h
  · rename_i r2 ht; cases h; exact (takeP_suf ht).trans l1
  split at h
  · cases h
  rename_i r2 ht
  have l2 := takeP_suf ht
  split at h
  · cases h
  rename_i n1 r3 hn2
  have l3 := number_suf hn2
  split at h
  · cases h
  split at h
  · rename_i r4 ht4; cases h; exact (((takeP_suf ht4).trans l3).trans l2).trans l1
  · cases h
theorem single_suf {g : UInt8} {r r' : Bs} {c : Nat} (h : singleP g r = .ok (c, r')) : r' <:+ r := by
  unfold singleP at h
  split at h
  · cases h
  · split at h
    · rename_i ht; cases h; exact (takeP_suf ht).trans (List.suffix_cons _ _)
    · cases h
theorem member_suf {r r' : Bs} {c : Nat} (h : memberP r = .ok (c, r')) : r' <:+ r := by
  unfold memberP at h
  split at h
  · rename_i ht; exact (single_suf h).trans (takeP_suf ht)
  · split at h
    · cases h
    · cases h; exact List.suffix_cons _ _
theorem cutP_suf : ∀ {r a b : Bs}, cutP r = some (a, b) → b <:+ r
  | [], a, b, h => by rw [cutP] at h; cases h
  | c :: t, a, b, h => by
    rw [cutP] at h
    split at h
    · rename_i ht; cases h; exact takeP_suf ht
    · split at h
      · rename_i a' b' hc; cases h; exact (cutP_suf hc).trans (List.suffix_cons _ _)
      · cases h
theorem class_suf {s s' : W4} {r r' : Bs} (h : classP s r = .ok (s', r')) : r' <:+ r := by
  unfold classP at h
  split at h
  · cases h
  · rename_i hc
    split at h
    · cases h
    · cases h; exact cutP_suf hc
theorem range_suf {s s' : W4} {f : Nat} {r r' : Bs} (h : rangeP s f r = .ok (s', r')) : r' <:+ r := by
  unfold rangeP at h
  split at h
  · rename_i ht _
    split at h
    · cases h
    · split at h
      · cases h
      · rename_i hm
        split at h
        · cases h
        · cases h; exact (member_suf hm).trans (takeP_suf ht)
  · cases h; exact List.suffix_refl _
theorem item_suf {s s' : W4} {r r' : Bs} (h : itemP s r = .ok (s', r')) : r' <:+ r := by
  unfold itemP at h
  split at h
  · rename_i ht; exact (class_suf h).trans (takeP_suf ht)
  · split at h
    · rename_i ht
      split at h
      · cases h
      · rename_i hs; cases h; exact (single_suf hs).trans (takeP_suf ht)
    · split at h
      · cases h
      · rename_i hm; exact (range_suf h).trans (member_suf hm)
theorem items_suf : ∀ {k : Nat} {s s' : W4} {r r' : Bs}, itemsP k s r = .ok (s', r') → r' <:+ r
  | 0, s, s', r, r', h => by rw [itemsP] at h; cases h
  | k + 1, s, s', r, r', h => by
    rw [itemsP] at h
    split at h
    · cases h
    · rename_i hi
      have := item_suf hi
      split at h
      · rename_i ht; cases h; exact (takeP_suf ht).trans this
      · exact (items_suf h).trans this
theorem bracket_suf {s' : W4} {r r' : Bs} (h : bracketP r = .ok (s', r')) : r' <:+ r := by
  unfold bracketP at h
  split at h
  · rename_i ht
    split at h
    · cases h
    · rename_i hi; cases h; exact (items_suf hi).trans (takeP_suf ht)
  · exact items_suf h
def GrpSuf (grp : Bs → PT) : Prop := ∀ r n r', grp r = .ok (n, r') → r' <:+ r
theorem atom_suf {grp : Bs → PT} (hg : GrpSuf grp) {r r' : Bs} {n : T} (h : atomP grp r = .ok (n, r')) : r' <:+ r := by
  unfold atomP at h
  split at h
  · cases h
  · rename_i c t
    have sc := List.suffix_cons c t
    split at h
    · exact (hg _ _ _ h).trans sc
    split at h
    · cases h; exact sc
    split at h
    · cases h; exact sc
    split at h
    · split at h
      · cases h
      · rename_i hb; cases h; exact (bracket_suf hb).trans sc
    split at h
    · cases h; exact sc
    split at h
    · cases h
    split at h
    · split at h
      · cases h
      · cases h; exact (List.suffix_cons _ _).trans sc
    · cases h; exact sc
theorem suf_suf : ∀ (k : Nat) {n n' : T} {r r' : Bs}, sufP k n r = .ok (n', r') → r' <:+ r
  | 0, n, n', r, r', h => by rw [sufP] at h; cases h; exact List.suffix_refl _
  | k + 1, n, n', r, r', h => by
    rw [sufP] at h
    split at h
    · rename_i ht; exact (suf_suf k h).trans (takeP_suf ht)
    split at h
    · rename_i ht; exact (suf_suf k h).trans (takeP_suf ht)
    split at h
    · rename_i ht; exact (suf_suf k h).trans (takeP_suf ht)
    split at h
    · rename_i ht
      split at h
      · cases h
      · rename_i hi; exact ((suf_suf k h).trans (interval_suf hi)).trans (takeP_suf ht)
    · cases h; exact List.suffix_refl _
theorem piece_suf {grp : Bs → PT} (hg : GrpSuf grp) {r r' : Bs} {n : T} (h : pieceP grp r = .ok (n, r')) : r' <:+ r := by
  unfold pieceP at h
  split at h
  · cases h
  · rename_i ha; exact (suf_suf _ h).trans (atom_suf hg ha)
theorem pieces_suf {grp : Bs → PT} (hg : GrpSuf grp) : ∀ (k : Nat) {l l' : List T} {r r' : Bs}, piecesP grp k l r = .ok (l', r') → r' <:+ r
  | 0, l, l', r, r', h => by rw [piecesP] at h; cases h; exact List.suffix_refl _
  | k + 1, l, l', r, r', h => by
    rw [piecesP] at h
    split at h
    · cases h; exact List.suffix_refl _
    · split at h
      · cases h
      · rename_i hp; exact (pieces_suf hg k h).trans (piece_suf hg hp)
theorem row_suf {grp : Bs → PT} (hg : GrpSuf grp) {r r' : Bs} {n : T} (h : rowP grp r = .ok (n, r')) : r' <:+ r := by
  unfold rowP at h
  split at h
  · cases h
  · rename_i hp; cases h; exact pieces_suf hg _ hp
theorem alts_suf {grp : Bs → PT} (hg : GrpSuf grp) : ∀ (k : Nat) {l l' : List T} {r r' : Bs}, altsP grp k l r = .ok (l', r') → r' <:+ r
  | 0, l, l', r, r', h => by rw [altsP] at h; cases h; exact List.suffix_refl _
  | k + 1, l, l', r, r', h => by
    rw [altsP] at h
    split at h
    · cases h; exact List.suffix_refl _
    · rename_i ht
      split at h
      · cases h
      · rename_i hp; exact ((alts_suf hg k h).trans (row_suf hg hp)).trans (takeP_suf ht)
theorem choice_suf {grp : Bs → PT} (hg : GrpSuf grp) {r r' : Bs} {n : T} (h : choiceP grp r = .ok (n, r')) : r' <:+ r := by
  unfold choiceP at h
  split at h
  · cases h
  · rename_i hr
    split at h
    · cases h
    · rename_i ha; cases h; exact (alts_suf hg _ ha).trans (row_suf hg hr)
theorem group_suf : ∀ d, GrpSuf (groupP d)
  | 0 => fun r n r' h => by rw [groupP] at h; cases h
  | d + 1 => fun r n r' h => by
    rw [groupP] at h
    split at h
    · cases h
    · rename_i hc
      split at h
      · rename_i ht; cases h; exact (takeP_suf ht).trans (choice_suf (group_suf d) hc)
      · cases h
end Go.Proofs.YteekafkpeimhoaaDoor

/- The pattern reader's row: walked. -/
set_option linter.unusedVariables false
set_option linter.unusedSimpArgs false
namespace Go.Proofs.YteekafkpeimhoaaDoor
open Go.RowKit

/-- Where the loop of row stands. -/
def RowL (p : Nat) (op : Int) (grp : Bs → PT) (s : Rs) (w : World) (v : Value) (wr : World) (m : Nat) : Prop :=
  ∃ (n : Nat) (ns : List Nx) (Av : Option Addr) (cv : Nat) (s' : Rs), v = .slice Av n cv ∧ m = s'.rest.length + 1 ∧ n + s'.rest.length ≤ 1024 ∧ LstR p op w n ns Av cv s' wr ∧
    ((∃ e, s' = .error e ∧ (s = .error e ∨ ∃ r, s = .ok r ∧ rowP grp r = .error e)) ∨ ∃ r r' k, s = .ok r ∧ s' = .ok r' ∧ r' <:+ r ∧ r'.length < k ∧ piecesP grp (r.length + 1) [] r = piecesP grp k (ns.map fun x : Nx => x.1) r')
theorem u8_neq {c : UInt8} {k : Nat} (hk : k < 256) (h : c ≠ UInt8.ofNat k) : ((c.toNat : Int) != (k : Int)) = true := by
  have := u8_ne hk h
  simp only [bne, this, Bool.not_false]
theorem ends_false {c : UInt8} {t : Bs} (h1 : c ≠ 124) (h2 : c ≠ 41) : endsRow (c :: t) = false := by simp [endsRow, h1, h2]

set_option maxRecDepth 100000 in
set_option maxHeartbeats 4000000 in
theorem prow_any (w : World) (p : Nat) (op : Int) (s : Rs) (h : RS w p op s) (hs : s.rest.length ≤ 1024) (grp : Bs → PT) (hgl : GrpLen grp) (hgs : GrpSuf grp) (hB : ∀ r, s = .ok r → 91 ∈ r → BrC) (hD : ∀ r, s = .ok r → 46 ∈ r → DotC)
    (hG : ∀ (w : World) (s : Rs), RS w p op s → s.rest.length ≤ 1024 → (∀ r, s = .ok r → 91 ∈ r → BrC) → (∀ r, s = .ok r → 46 ∈ r → DotC) → Calls Tryd.prog 67 #[.pointer (some ⟨p, 0, none⟩)] w fun en w' => GNode p op grp s w en w') :
    Calls Tryd.prog 30 #[.pointer (some ⟨p, 0, none⟩)] w fun en w' => GNode p op (rowP grp) s w en w' := by
  have hlt := h.lt
  have hpc : ∀ (w : World) (s : Rs), RS w p op s → s.rest.length ≤ 1024 → (∀ r, s = .ok r → 91 ∈ r → BrC) → (∀ r, s = .ok r → 46 ∈ r → DotC) → Calls Tryd.prog 42 #[.pointer (some ⟨p, 0, none⟩)] w fun en w' => GNode p op (pieceP grp) s w en w' := fun w s h hs hB hD => piece_any w p op s h hs grp hB hD hG
  have HP := Lib.hid hpc; have HB := Lib.hid hB; have HD := Lib.hid hD; have HGl := Lib.hid hgl; have HGs := Lib.hid hgs
  clear hpc hB hD hG hgl hgs
  have H := Lib.hid h; clear h
  go_enter Tryd.func30, Tryd.ntmps30
  go_wp2_with fail
  generalize hW : w.alloc _ = W0
  have hB0 : Below w.heap.size w W0 := by subst hW; exact (Below.refl _ _).alloc (Nat.le_refl _) _
  have R0 : BlkX W0 w.heap.size (xcell (.mk 0 0 0 0 0 0 0 [], none, 0)).toArray := by subst hW; exact BlkX.new w _
  clear hW
  have hI : RowL p op grp s w (.slice none 0 0) W0 (s.rest.length + 1) := by
    refine ⟨0, [], none, 0, s, rfl, rfl, by omega, ⟨rfl, R0, ⟨rfl, .inl ⟨rfl, rfl⟩⟩, fun x hx => by simp at hx, H.out.later hB0, Off.of_below hB0⟩, ?_⟩
    rcases s with e | r
    · exact .inl ⟨e, rfl, .inl rfl⟩
    · exact .inr ⟨r, r, r.length + 1, rfl, rfl, List.suffix_refl _, by omega, rfl⟩
  have HI := Lib.hid hI; clear hI hB0 R0
  go_loopg [3] (s.rest.length + 1) (fun m v wr => RowL p op grp s w v wr m)
  case atStart => exact HI.out
  case round =>
    clear HI
    obtain ⟨n, ns, Av, cv, s', rfl, hm, hnl, hL, hcase⟩ := hrel
    have c0 := hL.S.rdr.c0
    have lts := hL.S.lt
    have HL := Lib.hid hL; have HC := Lib.hid hcase; have Hm := Lib.hid hm
    clear hL hcase hm
    by_cases hgo : ∃ c t, s' = .ok (c :: t) ∧ c ≠ 124 ∧ c ≠ 41
    · obtain ⟨c, t, rfl, hc1, hc2⟩ := hgo
      simp only [Rs.rest] at c0 hnl
      have n1 : ((c.toNat : Int) != 124) = true := u8_neq (k := 124) (by omega) hc1
      have n2 : ((c.toNat : Int) != 41) = true := u8_neq (k := 41) (by omega) hc2
      obtain ⟨r, k, hsr, hsf, hk, hpp⟩ : ∃ r k, s = .ok r ∧ (c :: t) <:+ r ∧ (c :: t).length < k + 1 ∧ piecesP grp (r.length + 1) [] r = piecesP grp (k + 1) (ns.map fun x : Nx => x.1) (c :: t) := by
        rcases HC.out with ⟨e', he, _⟩ | ⟨r, r2, k, hs, he, hsf, hk, hpp⟩
        · cases he
        · cases he
          obtain ⟨k', rfl⟩ : ∃ k', k = k' + 1 := ⟨k - 1, by omega⟩
          exact ⟨r, k', hs, hsf, hk, hpp⟩
      have Hpp := Lib.hid hpp; have Hsr := Lib.hid hsr; have Hsf := Lib.hid hsf
      clear hpp hsr hsf HC
      have hres : piecesP grp (k + 1) (ns.map fun x : Nx => x.1) (c :: t) = match pieceP grp (c :: t) with | .error e => .error e | .ok (n, r1) => piecesP grp k ((ns.map fun x : Nx => x.1) ++ [n]) r1 := by
        rw [piecesP, ends_false hc1 hc2]; rfl
      have Hres := Lib.hid hres; clear hres hc1 hc2
      go_wp2_with fail
      refine (HP.out wr (.ok (c :: t)) HL.out.S (by simp only [Rs.rest]; omega) (fun r' e hr => HB.out r Hsr.out (by cases e; exact Hsf.out.mem hr)) (fun r' e hr => HD.out r Hsr.out (by cases e; exact Hsf.out.mem hr))).mono ?_
      rintro en w1 ⟨⟨t1, A1, c1⟩, s1, rfl, hx1, h1, hO1, ho1⟩
      have HL1 := Lib.hid (HL.out.off hlt hO1 h1)
      have Hx1 := Lib.hid hx1; have Ho1 := Lib.hid ho1; have HO1 := Lib.hid hO1
      have hz1 := hO1.size
      have hwr : w.heap.size < wr.heap.size := HL.out.R.lt
      clear hx1 ho1 hO1 h1 c0
      have hnews : ∀ ad, some (⟨w1.heap.size, 0, none⟩ : Addr) = some ad → ∀ j u, (xcell (t1, A1, c1))[j]? = some u → (w1.alloc (.cells (xcell (t1, A1, c1)).toArray 27)).cell? (ad.add j) = some u := fun ad e j u hu => by
        simp only [Option.some.injEq] at e
        subst e
        rw [addr_addX, World.cell?_alloc_new, Nat.zero_add]
        simpa using hu
      have Hnews := Lib.hid hnews; clear hnews
      go_wp2_with (at_builtin; refine wpList_append_fromX (w.heap.size + 1) rfl _ _ 25 27 _ 8 80 rfl Tryd.underlying25 Tryd.infoNodeX rfl (by omega) (by omega) (.slice Av n cv) n 1 (xcells ns) (xcell (t1, A1, c1)) (some ⟨w1.heap.size, 0, none⟩) 1 rfl rfl (by simp) rfl Hnews.out (xcell_one _) (HL1.out.own.alloc _) (by simp; omega) (by omega) (fun A5 c5 w5 ho5 hg5 hat5 => ?_); have HL5 := Lib.hid (HL1.out.push hlt hwr (fun k hk => (HL.out.own.lt k hk).2) (t1, A1, c1) Hx1.out ((Below.refl _ _).alloc (Nat.le_refl _) _) ho5 hg5 hat5); clear ho5 hg5 hat5)
      have hcs : s1.rest.length ≤ t.length ∧ ((∃ e, s1 = .error e ∧ (s = .error e ∨ ∃ r, s = .ok r ∧ rowP grp r = .error e)) ∨ ∃ r r' k, s = .ok r ∧ s1 = .ok r' ∧ r' <:+ r ∧ r'.length < k ∧ piecesP grp (r.length + 1) [] r = piecesP grp k ((ns ++ [(t1, A1, c1)]).map fun x : Nx => x.1) r') := by
        have hoo := Ho1.out
        cases hpc : pieceP grp (c :: t) with
        | error e =>
          simp only [Out, hpc] at hoo
          subst hoo
          exact ⟨by simp [Rs.rest], .inl ⟨e, rfl, .inr ⟨r, Hsr.out, by unfold rowP; rw [Hpp.out, Hres.out, hpc]⟩⟩⟩
        | ok y =>
          obtain ⟨n', r'⟩ := y
          simp only [Out, hpc] at hoo
          obtain ⟨rfl, rfl⟩ := hoo
          have hl := piece_len HGl.out hpc
          simp only [List.length_cons] at hl hk
          exact ⟨by simp only [Rs.rest]; omega, .inr ⟨r, r', k, Hsr.out, rfl, (piece_suf HGs.out hpc).trans Hsf.out, by omega, by rw [Hpp.out, Hres.out, hpc]; simp⟩⟩
      obtain ⟨hl1, hcs⟩ := hcs
      have HCS := Lib.hid hcs; clear hcs
      go_roundg (s1.rest.length + 1)
      case measure => have := Hm.out; simp only [Rs.rest, List.length_cons] at this; omega
      case rel => exact ⟨n + 1, _, A5, c5, s1, rfl, rfl, by simp only [List.length_cons] at hnl; omega, HL5.out, HCS.out⟩
    · have hfin : Out (rowP grp) s (fun t => joinT 4 (ns.map fun x : Nx => x.1) = t) s' := by
        rcases HC.out with ⟨e, rfl, rfl | ⟨r, rfl, hr⟩⟩ | ⟨r, r', k, rfl, rfl, _, hk, hpp⟩
        · exact Out.err
        · exact Out.bad hr
        · have he : endsRow r' = true := by
            rcases r' with _ | ⟨c, t⟩
            · rfl
            · by_cases h1 : c = 124
              · subst h1; rfl
              · by_cases h2 : c = 41
                · subst h2; rfl
                · exact absurd ⟨c, t, rfl, h1, h2⟩ hgo
          obtain ⟨k', rfl⟩ : ∃ k', k = k' + 1 := ⟨k - 1, by omega⟩
          refine Out.good (x := joinT 4 (ns.map fun x : Nx => x.1)) ?_ rfl
          unfold rowP
          rw [hpp, piecesP, if_pos he]
      have Hfin := Lib.hid hfin
      have hsh : s'.rest = [] ∨ (∃ t, s'.rest = 124 :: t) ∨ ∃ t, s'.rest = 41 :: t := by
        rcases s' with e | (_ | ⟨c, t⟩)
        · exact .inl rfl
        · exact .inl rfl
        · by_cases h1 : c = 124
          · subst h1; exact .inr (.inl ⟨t, rfl⟩)
          · by_cases h2 : c = 41
            · subst h2; exact .inr (.inr ⟨t, rfl⟩)
            · exact absurd ⟨c, t, rfl, h1, h2⟩ hgo
      clear hfin hgo HC Hm
      have hn3 : n = 0 ∨ n = 1 ∨ 2 ≤ n := by omega
      rcases hn3 with rfl | rfl | hn2
      · have hns : ns = [] := List.eq_nil_of_length_eq_zero HL.out.len
        subst hns
        obtain ⟨⟨r0, r1, r2, r3, r4, r5, r6, r7⟩, hz⟩ := HL.out.R.cells8
        have z0 := hz 0; have z1 := hz 1; have z2 := hz 2; have z3 := hz 3; have z4 := hz 4; have z5 := hz 5; have z6 := hz 6; have z7 := hz 7
        have lr := HL.out.R.lt
        clear hz
        rcases hsh with hr | ⟨t, hr⟩ | ⟨t, hr⟩
        all_goals
          rw [hr] at c0
          have Hr := Lib.hid hr; clear hr
          go_wp2_with fail
          change bodyPost _ _ _ _ _ (writeX wr w.heap.size (.mk 0 0 0 0 0 0 0 [], none, 0))
          have hfn := writeX_blk HL.out.R (.mk 0 0 0 0 0 0 0 [], none, 0)
          obtain ⟨⟨y0, y1, y2, y3, y4, y5, y6, y7⟩, _⟩ := hfn.cells8
          have hRS := HL.out.S.boxW (b := w.heap.size) (by omega) (.mk 0 0 0 0 0 0 0 [], none, 0)
          have hOff := Off.boxW HL.out.O (Nat.le_refl _) (.mk 0 0 0 0 0 0 0 [], none, 0)
          have hNod : NodeAt (writeX wr w.heap.size (.mk 0 0 0 0 0 0 0 [], none, 0)) (fun b => w.heap.size ≤ b ∧ b < (writeX wr w.heap.size (.mk 0 0 0 0 0 0 0 [], none, 0)).heap.size) ((T.mk 0 0 0 0 0 0 0 [], none, 0) : Nx).1 ((T.mk 0 0 0 0 0 0 0 [], none, 0) : Nx).2.1 ((T.mk 0 0 0 0 0 0 0 [], none, 0) : Nx).2.2 := nodeAt_leafX _ _ _ rfl
          generalize writeX wr w.heap.size (.mk 0 0 0 0 0 0 0 [], none, 0) = W3 at *
          exact bodyPost_ret (v := nodeV ((T.mk 0 0 0 0 0 0 0 [], none, 0) : Nx).1 ((T.mk 0 0 0 0 0 0 0 [], none, 0) : Nx).2.1 ((T.mk 0 0 0 0 0 0 0 [], none, 0) : Nx).2.2) (by simp [results, Tryd.results30, y0, y1, y2, y3, y4, y5, y6, y7, go_sem]) rfl ⟨(.mk 0 0 0 0 0 0 0 [], none, 0), _, rfl, hNod, hRS, hOff, Hfin.out⟩
      · obtain ⟨g, ⟨t1, A1, c1⟩, rfl, hx, h8, hg, hcv, hnd⟩ := HL.out.first (by omega)
        have hj : joinT 4 (ns.map fun x : Nx => x.1) = t1 := by
          have hl := HL.out.len
          match ns, hl, hx with
          | [y], _, hx => simp at hx; subst hx; rfl
        have Hj := Lib.hid hj; have Hnd := Lib.hid hnd
        obtain ⟨f0, f1, f2, f3, f4, f5, f6, f7⟩ := h8
        simp only [Nat.zero_add] at f1 f2 f3 f4 f5 f6 f7
        clear hj hnd hx
        obtain ⟨⟨r0, r1, r2, r3, r4, r5, r6, r7⟩, hz⟩ := HL.out.R.cells8
        have z0 := hz 0; have z1 := hz 1; have z2 := hz 2; have z3 := hz 3; have z4 := hz 4; have z5 := hz 5; have z6 := hz 6; have z7 := hz 7
        have lr := HL.out.R.lt
        clear hz
        rcases hsh with hr | ⟨t, hr⟩ | ⟨t, hr⟩
        all_goals
          rw [hr] at c0
          have Hr := Lib.hid hr; clear hr
          go_wp2_with fail
          change bodyPost _ _ _ _ _ (writeX wr w.heap.size (t1, A1, c1))
          have hfn := writeX_blk HL.out.R (t1, A1, c1)
          obtain ⟨⟨y0, y1, y2, y3, y4, y5, y6, y7⟩, _⟩ := hfn.cells8
          have hRS := HL.out.S.boxW (b := w.heap.size) (by omega) (t1, A1, c1)
          have hOff := Off.boxW HL.out.O (Nat.le_refl _) (t1, A1, c1)
          have hNod : NodeAt (writeX wr w.heap.size (t1, A1, c1)) (fun b => w.heap.size ≤ b ∧ b < (writeX wr w.heap.size (t1, A1, c1)).heap.size) (t1, A1, c1).1 (t1, A1, c1).2.1 (t1, A1, c1).2.2 := Hnd.out.mono fun k (hk : w.heap.size < k ∧ k < wr.heap.size) => ⟨⟨by omega, by rw [writeX_size]; exact hk.2⟩, fun o => World.cell?_of_block (w := wr) (a := ⟨k, o, none⟩) (writeX_other _ _ _ _ (show k ≠ w.heap.size by omega))⟩
          generalize writeX wr w.heap.size (t1, A1, c1) = W3 at *
          exact bodyPost_ret (v := nodeV (t1, A1, c1).1 (t1, A1, c1).2.1 (t1, A1, c1).2.2) (by simp [results, Tryd.results30, y0, y1, y2, y3, y4, y5, y6, y7, go_sem]) rfl ⟨(t1, A1, c1), _, rfl, hNod, hRS, hOff, by have := Hfin.out; rw [Hj.out] at this; exact this⟩
      · obtain rfl : n = (ns.map fun x : Nx => x.1).length := by simp [HL.out.len]
        have hnd := HL.out.node (by omega) (by omega) (.mk 4 0 0 0 0 0 0 (ns.map fun x : Nx => x.1)) rfl
        have hj : joinT 4 (ns.map fun x : Nx => x.1) = .mk 4 0 0 0 0 0 0 (ns.map fun x : Nx => x.1) := by
          generalize ns.map (fun x : Nx => x.1) = l at hn2
          match l, hn2 with
          | a :: b :: l, _ => rfl
        have hb0 : (((ns.map fun x : Nx => x.1).length : Int) == 0) = false := by rw [beq_eq_false_iff_ne]; omega
        have hb1 : (((ns.map fun x : Nx => x.1).length : Int) == 1) = false := by rw [beq_eq_false_iff_ne]; omega
        have Hj := Lib.hid hj; have Hnd := Lib.hid hnd
        clear hj hnd
        generalize hl : (ns.map fun x : Nx => x.1) = l at *
        obtain ⟨⟨r0, r1, r2, r3, r4, r5, r6, r7⟩, hz⟩ := HL.out.R.cells8
        have z0 := hz 0; have z1 := hz 1; have z2 := hz 2; have z3 := hz 3; have z4 := hz 4; have z5 := hz 5; have z6 := hz 6; have z7 := hz 7
        have lr := HL.out.R.lt
        clear hz
        rcases hsh with hr | ⟨t, hr⟩ | ⟨t, hr⟩
        all_goals
          rw [hr] at c0
          have Hr := Lib.hid hr; clear hr
          go_wp2_with fail
          change bodyPost _ _ _ _ _ (writeX wr w.heap.size (.mk 4 0 0 0 0 0 0 l, Av, cv))
          have hfn := writeX_blk HL.out.R (.mk 4 0 0 0 0 0 0 l, Av, cv)
          obtain ⟨⟨y0, y1, y2, y3, y4, y5, y6, y7⟩, _⟩ := hfn.cells8
          have hRS := HL.out.S.boxW (b := w.heap.size) (by omega) (.mk 4 0 0 0 0 0 0 l, Av, cv)
          have hOff := Off.boxW HL.out.O (Nat.le_refl _) (.mk 4 0 0 0 0 0 0 l, Av, cv)
          have hNod : NodeAt (writeX wr w.heap.size (.mk 4 0 0 0 0 0 0 l, Av, cv)) (fun b => w.heap.size ≤ b ∧ b < (writeX wr w.heap.size (.mk 4 0 0 0 0 0 0 l, Av, cv)).heap.size) ((T.mk 4 0 0 0 0 0 0 l, Av, cv) : Nx).1 ((T.mk 4 0 0 0 0 0 0 l, Av, cv) : Nx).2.1 ((T.mk 4 0 0 0 0 0 0 l, Av, cv) : Nx).2.2 := Hnd.out.mono fun k (hk : w.heap.size < k ∧ k < wr.heap.size) => ⟨⟨by omega, by rw [writeX_size]; exact hk.2⟩, fun o => World.cell?_of_block (w := wr) (a := ⟨k, o, none⟩) (writeX_other _ _ _ _ (show k ≠ w.heap.size by omega))⟩
          generalize writeX wr w.heap.size (.mk 4 0 0 0 0 0 0 l, Av, cv) = W3 at *
          exact bodyPost_ret (v := nodeV ((T.mk 4 0 0 0 0 0 0 l, Av, cv) : Nx).1 ((T.mk 4 0 0 0 0 0 0 l, Av, cv) : Nx).2.1 ((T.mk 4 0 0 0 0 0 0 l, Av, cv) : Nx).2.2) (by simp [results, Tryd.results30, y0, y1, y2, y3, y4, y5, y6, y7, go_sem]) rfl ⟨(.mk 4 0 0 0 0 0 0 l, Av, cv), _, rfl, hNod, hRS, hOff, by have := Hfin.out; rw [Hj.out] at this; exact this⟩
end Go.Proofs.YteekafkpeimhoaaDoor

/- The pattern reader's choice: walked. (Printed by wip/genchoice.py.) -/
set_option linter.unusedVariables false
set_option linter.unusedSimpArgs false
namespace Go.Proofs.YteekafkpeimhoaaDoor
open Go.RowKit

/-- Where the loop of choice stands. -/
def ChoL (p : Nat) (op : Int) (grp : Bs → PT) (s : Rs) (w : World) (v : Value) (wr : World) (m : Nat) : Prop :=
  ∃ (n : Nat) (ns : List Nx) (Av : Option Addr) (cv : Nat) (s' : Rs), v = .slice Av n cv ∧ 1 ≤ n ∧ m = s'.rest.length + 1 ∧ n + s'.rest.length ≤ 1025 ∧ LstR p op w n ns Av cv s' wr ∧
    ((∃ e, s' = .error e ∧ (s = .error e ∨ ∃ r, s = .ok r ∧ choiceP grp r = .error e)) ∨ ∃ r r' k, s = .ok r ∧ s' = .ok r' ∧ r' <:+ r ∧ r'.length < k ∧ choiceP grp r = match altsP grp k (ns.map fun x : Nx => x.1) r' with | .error e => .error e | .ok (l, r2) => .ok (joinT 5 l, r2))

set_option maxRecDepth 100000 in
set_option maxHeartbeats 4000000 in
theorem choice_par (w : World) (p : Nat) (op : Int) (s : Rs) (h : RS w p op s) (hs : s.rest.length ≤ 1024) (grp : Bs → PT) (hgl : GrpLen grp) (hgs : GrpSuf grp) (hB : ∀ r, s = .ok r → 91 ∈ r → BrC) (hD : ∀ r, s = .ok r → 46 ∈ r → DotC)
    (hG : ∀ (w : World) (s : Rs), RS w p op s → s.rest.length ≤ 1024 → (∀ r, s = .ok r → 91 ∈ r → BrC) → (∀ r, s = .ok r → 46 ∈ r → DotC) → Calls Tryd.prog 67 #[.pointer (some ⟨p, 0, none⟩)] w fun en w' => GNode p op grp s w en w') :
    Calls Tryd.prog 17 #[.pointer (some ⟨p, 0, none⟩)] w fun en w' => GNode p op (choiceP grp) s w en w' := by
  have hlt := h.lt
  have hpc : ∀ (w : World) (s : Rs), RS w p op s → s.rest.length ≤ 1024 → (∀ r, s = .ok r → 91 ∈ r → BrC) → (∀ r, s = .ok r → 46 ∈ r → DotC) → Calls Tryd.prog 30 #[.pointer (some ⟨p, 0, none⟩)] w fun en w' => GNode p op (rowP grp) s w en w' := fun w s h hs hB hD => prow_any w p op s h hs grp hgl hgs hB hD hG
  have HP := Lib.hid hpc; have HB := Lib.hid hB; have HD := Lib.hid hD; have HGl := Lib.hid hgl; have HGs := Lib.hid hgs
  clear hpc hB hD hG hgl hgs
  have H := Lib.hid h; clear h
  go_enter Tryd.func17, Tryd.ntmps17
  go_wp2_with fail
  generalize hW : w.alloc _ = W0
  have hB0 : Below w.heap.size w W0 := by subst hW; exact (Below.refl _ _).alloc (Nat.le_refl _) _
  have R0 : BlkX W0 w.heap.size (xcell (.mk 0 0 0 0 0 0 0 [], none, 0)).toArray := by subst hW; exact BlkX.new w _
  have hz0 : w.heap.size + 1 ≤ W0.heap.size := by subst hW; simp
  clear hW
  refine (HP.out W0 s (H.out.later hB0) hs HB.out HD.out).mono ?_
  rintro en w1 ⟨⟨t1, A1, c1⟩, s1, rfl, hx1, h1, hO1, ho1⟩
  have R1 := Off.blk hO1 R0 (by omega)
  have hz1 := hO1.size
  have Hx1 := Lib.hid hx1; have Ho1 := Lib.hid ho1
  clear hx1 ho1
  go_wp2_with fail
  generalize hW : w1.alloc _ = W1
  have hb1 : Below w1.heap.size w1 W1 := by subst hW; exact (Below.refl _ _).alloc (Nat.le_refl _) _
  have hI : ChoL p op grp s w (.slice (some ⟨w1.heap.size, 0, none⟩) 1 1) W1 (s1.rest.length + 1) := by
    have hoo := Ho1.out
    have hl1 : s1.rest.length ≤ 1024 ∧ ((∃ e, s1 = .error e ∧ (s = .error e ∨ ∃ r, s = .ok r ∧ choiceP grp r = .error e)) ∨ ∃ r r' k, s = .ok r ∧ s1 = .ok r' ∧ r' <:+ r ∧ r'.length < k ∧ choiceP grp r = match altsP grp k ([(t1, A1, c1)].map fun x : Nx => x.1) r' with | .error e => .error e | .ok (l, r2) => .ok (joinT 5 l, r2)) := by
      rcases s with e | r
      · cases (show s1 = .error e from hoo)
        exact ⟨by simp [Rs.rest], .inl ⟨e, rfl, .inl rfl⟩⟩
      · cases hr : rowP grp r with
        | error e =>
          simp only [Out, hr] at hoo
          subst hoo
          exact ⟨by simp [Rs.rest], .inl ⟨e, rfl, .inr ⟨r, rfl, by unfold choiceP; rw [hr]⟩⟩⟩
        | ok y =>
          obtain ⟨n', r'⟩ := y
          simp only [Out, hr] at hoo
          obtain ⟨rfl, rfl⟩ := hoo
          have hl := row_len HGl.out hr
          simp only [Rs.rest] at hs ⊢
          exact ⟨by omega, .inr ⟨r, r', r'.length + 1, rfl, rfl, row_suf HGs.out hr, by omega, by unfold choiceP; rw [hr]; rfl⟩⟩
    refine ⟨1, [(t1, A1, c1)], _, 1, s1, rfl, by omega, rfl, by have := hl1.1; omega, ⟨rfl, R1.keep (hb1.block _ R1.lt), ?_, fun x hx => ?_, h1.later hb1, Off.trans (Off.trans (Off.of_below hB0) hO1) (Off.of_below hb1)⟩, hl1.2⟩
    · have h := World.ownsRow_lit (base := w.heap.size + 1) (e := 27) (size := 8) w1 (xcells [(t1, A1, c1)]).toArray 1 (by omega) (by simp [maxLen]) (by rfl)
      subst hW
      exact h
    · simp only [List.mem_singleton] at hx
      subst hx
      exact Hx1.out.mono fun b (hb : W0.heap.size ≤ b ∧ b < w1.heap.size) => ⟨⟨by omega, by have := hb1.size; omega, by simp [Value.ownBlock]; omega⟩, fun o => hb1.cell (p := ⟨b, o, none⟩) hb.2⟩
  have HI := Lib.hid hI
  have hwb : w.heap.size < w1.heap.size := by omega
  generalize w1.heap.size = bl at *
  clear hI hB0 R0 R1 hW hb1 h1 hO1 hz1 hz0 Hx1 Ho1
  go_loopg [3] (s1.rest.length + 1) (fun m v wr => ChoL p op grp s w v wr m)
  case atStart => exact HI.out
  case round =>
    clear HI
    obtain ⟨n, ns, Av, cv, s', rfl, hn1, hm, hnl, hL, hcase⟩ := hrel
    have lts := hL.S.lt
    have HL := Lib.hid hL; have HC := Lib.hid hcase; have Hm := Lib.hid hm
    clear hL hcase hm
    rcases s' with e | r'
    · go_wp2_with fail
      refine (take_err [124] (by simp) HL.out.S).mono ?_
      rintro en W2 ⟨rfl, h2, hO2⟩
      have HL := Lib.hid (HL.out.off hlt hO2 h2)
      clear h2 hO2
      have hfin : Out (choiceP grp) s (fun t => joinT 5 (ns.map fun x : Nx => x.1) = t) (.error e) := by
        rcases HC.out with ⟨e', he, hs⟩ | ⟨r, r', k, _, he, _⟩
        · cases he
          rcases hs with rfl | ⟨r, rfl, hr⟩
          · exact Out.err
          · exact Out.bad hr
        · cases he
      have Hfin := Lib.hid hfin
      clear hfin
      have hn3 : n = 1 ∨ 2 ≤ n := by omega
      rcases hn3 with rfl | hn2
      · obtain ⟨g, ⟨t1, A1, c1⟩, rfl, hx, h8, hg, hcv, hnd⟩ := HL.out.first (by omega)
        have hj : joinT 5 (ns.map fun x : Nx => x.1) = t1 := by
          have hl := HL.out.len
          match ns, hl, hx with
          | [y], _, hx => simp at hx; subst hx; rfl
        have Hj := Lib.hid hj; have Hnd := Lib.hid hnd
        obtain ⟨f0, f1, f2, f3, f4, f5, f6, f7⟩ := h8
        simp only [Nat.zero_add] at f1 f2 f3 f4 f5 f6 f7
        clear hj hnd hx
        obtain ⟨⟨r0, r1, r2, r3, r4, r5, r6, r7⟩, hz⟩ := HL.out.R.cells8
        have z0 := hz 0; have z1 := hz 1; have z2 := hz 2; have z3 := hz 3; have z4 := hz 4; have z5 := hz 5; have z6 := hz 6; have z7 := hz 7
        have lr := HL.out.R.lt
        clear hz
        go_wp2_with fail
        change bodyPost _ _ _ _ _ (writeX W2 w.heap.size (t1, A1, c1))
        have hfn := writeX_blk HL.out.R (t1, A1, c1)
        obtain ⟨⟨y0, y1, y2, y3, y4, y5, y6, y7⟩, _⟩ := hfn.cells8
        have hRS := HL.out.S.boxW (b := w.heap.size) (by omega) (t1, A1, c1)
        have hOff := Off.boxW HL.out.O (Nat.le_refl _) (t1, A1, c1)
        have hNod : NodeAt (writeX W2 w.heap.size (t1, A1, c1)) (fun b => w.heap.size ≤ b ∧ b < (writeX W2 w.heap.size (t1, A1, c1)).heap.size) (t1, A1, c1).1 (t1, A1, c1).2.1 (t1, A1, c1).2.2 := Hnd.out.mono fun k (hk : w.heap.size < k ∧ k < W2.heap.size) => ⟨⟨by omega, by rw [writeX_size]; exact hk.2⟩, fun o => World.cell?_of_block (w := W2) (a := ⟨k, o, none⟩) (writeX_other _ _ _ _ (show k ≠ w.heap.size by omega))⟩
        generalize writeX W2 w.heap.size (t1, A1, c1) = W3 at *
        exact bodyPost_ret (v := nodeV (t1, A1, c1).1 (t1, A1, c1).2.1 (t1, A1, c1).2.2) (by simp [results, Tryd.results17, y0, y1, y2, y3, y4, y5, y6, y7, go_sem]) rfl ⟨(t1, A1, c1), _, rfl, hNod, hRS, hOff, by have := Hfin.out; rw [Hj.out] at this; exact this⟩
      · obtain rfl : n = (ns.map fun x : Nx => x.1).length := by simp [HL.out.len]
        have hnd := HL.out.node (by omega) (by omega) (.mk 5 0 0 0 0 0 0 (ns.map fun x : Nx => x.1)) rfl
        have hj : joinT 5 (ns.map fun x : Nx => x.1) = .mk 5 0 0 0 0 0 0 (ns.map fun x : Nx => x.1) := by
          generalize ns.map (fun x : Nx => x.1) = l at hn2
          match l, hn2 with
          | a :: b :: l, _ => rfl
        have hb1 : (((ns.map fun x : Nx => x.1).length : Int) == 1) = false := by rw [beq_eq_false_iff_ne]; omega
        have Hj := Lib.hid hj; have Hnd := Lib.hid hnd
        clear hj hnd
        generalize hl : (ns.map fun x : Nx => x.1) = l at *
        obtain ⟨⟨r0, r1, r2, r3, r4, r5, r6, r7⟩, hz⟩ := HL.out.R.cells8
        have z0 := hz 0; have z1 := hz 1; have z2 := hz 2; have z3 := hz 3; have z4 := hz 4; have z5 := hz 5; have z6 := hz 6; have z7 := hz 7
        have lr := HL.out.R.lt
        clear hz
        go_wp2_with fail
        change bodyPost _ _ _ _ _ (writeX W2 w.heap.size (T.mk 5 0 0 0 0 0 0 l, Av, cv))
        have hfn := writeX_blk HL.out.R (T.mk 5 0 0 0 0 0 0 l, Av, cv)
        obtain ⟨⟨y0, y1, y2, y3, y4, y5, y6, y7⟩, _⟩ := hfn.cells8
        have hRS := HL.out.S.boxW (b := w.heap.size) (by omega) (T.mk 5 0 0 0 0 0 0 l, Av, cv)
        have hOff := Off.boxW HL.out.O (Nat.le_refl _) (T.mk 5 0 0 0 0 0 0 l, Av, cv)
        have hNod : NodeAt (writeX W2 w.heap.size (T.mk 5 0 0 0 0 0 0 l, Av, cv)) (fun b => w.heap.size ≤ b ∧ b < (writeX W2 w.heap.size (T.mk 5 0 0 0 0 0 0 l, Av, cv)).heap.size) ((T.mk 5 0 0 0 0 0 0 l, Av, cv) : Nx).1 ((T.mk 5 0 0 0 0 0 0 l, Av, cv) : Nx).2.1 ((T.mk 5 0 0 0 0 0 0 l, Av, cv) : Nx).2.2 := Hnd.out.mono fun k (hk : w.heap.size < k ∧ k < W2.heap.size) => ⟨⟨by omega, by rw [writeX_size]; exact hk.2⟩, fun o => World.cell?_of_block (w := W2) (a := ⟨k, o, none⟩) (writeX_other _ _ _ _ (show k ≠ w.heap.size by omega))⟩
        generalize writeX W2 w.heap.size (T.mk 5 0 0 0 0 0 0 l, Av, cv) = W3 at *
        exact bodyPost_ret (v := nodeV ((T.mk 5 0 0 0 0 0 0 l, Av, cv) : Nx).1 ((T.mk 5 0 0 0 0 0 0 l, Av, cv) : Nx).2.1 ((T.mk 5 0 0 0 0 0 0 l, Av, cv) : Nx).2.2) (by simp [results, Tryd.results17, y0, y1, y2, y3, y4, y5, y6, y7, go_sem]) rfl ⟨(T.mk 5 0 0 0 0 0 0 l, Av, cv), _, rfl, hNod, hRS, hOff, by have := Hfin.out; rw [Hj.out] at this; exact this⟩
    · obtain ⟨r, k, hsr, hsf, hk, hpp⟩ : ∃ r k, s = .ok r ∧ r' <:+ r ∧ r'.length < k + 1 ∧ choiceP grp r = match altsP grp (k + 1) (ns.map fun x : Nx => x.1) r' with | .error e => .error e | .ok (l, r2) => .ok (joinT 5 l, r2) := by
        rcases HC.out with ⟨e', he, _⟩ | ⟨r, r2, k, hs, he, hsf, hk, hpp⟩
        · cases he
        · cases he
          obtain ⟨k', rfl⟩ : ∃ k', k = k' + 1 := ⟨k - 1, by omega⟩
          exact ⟨r, k', hs, hsf, hk, hpp⟩
      have Hpp := Lib.hid hpp; have Hsr := Lib.hid hsr; have Hsf := Lib.hid hsf
      clear hpp hsr hsf HC
      rcases ht : takeP [124] r' with _ | r2
      · have hfin : Out (choiceP grp) s (fun t => joinT 5 (ns.map fun x : Nx => x.1) = t) (.ok r') := by
          rw [Hsr.out]
          refine Out.good (x := joinT 5 (ns.map fun x : Nx => x.1)) ?_ rfl
          rw [Hpp.out, altsP, ht]
        have Ht := Lib.hid ht; clear ht
        go_wp2_with fail
        refine (take_miss [124] (by simp) Ht.out HL.out.S).mono ?_
        rintro en W2 ⟨rfl, h2, hO2⟩
        have HL := Lib.hid (HL.out.off hlt hO2 h2)
        clear h2 hO2
        have Hfin := Lib.hid hfin
        clear hfin
        have hn3 : n = 1 ∨ 2 ≤ n := by omega
        rcases hn3 with rfl | hn2
        · obtain ⟨g, ⟨t1, A1, c1⟩, rfl, hx, h8, hg, hcv, hnd⟩ := HL.out.first (by omega)
          have hj : joinT 5 (ns.map fun x : Nx => x.1) = t1 := by
            have hl := HL.out.len
            match ns, hl, hx with
            | [y], _, hx => simp at hx; subst hx; rfl
          have Hj := Lib.hid hj; have Hnd := Lib.hid hnd
          obtain ⟨f0, f1, f2, f3, f4, f5, f6, f7⟩ := h8
          simp only [Nat.zero_add] at f1 f2 f3 f4 f5 f6 f7
          clear hj hnd hx
          obtain ⟨⟨r0, r1, r2, r3, r4, r5, r6, r7⟩, hz⟩ := HL.out.R.cells8
          have z0 := hz 0; have z1 := hz 1; have z2 := hz 2; have z3 := hz 3; have z4 := hz 4; have z5 := hz 5; have z6 := hz 6; have z7 := hz 7
          have lr := HL.out.R.lt
          clear hz
          go_wp2_with fail
          change bodyPost _ _ _ _ _ (writeX W2 w.heap.size (t1, A1, c1))
          have hfn := writeX_blk HL.out.R (t1, A1, c1)
          obtain ⟨⟨y0, y1, y2, y3, y4, y5, y6, y7⟩, _⟩ := hfn.cells8
          have hRS := HL.out.S.boxW (b := w.heap.size) (by omega) (t1, A1, c1)
          have hOff := Off.boxW HL.out.O (Nat.le_refl _) (t1, A1, c1)
          have hNod : NodeAt (writeX W2 w.heap.size (t1, A1, c1)) (fun b => w.heap.size ≤ b ∧ b < (writeX W2 w.heap.size (t1, A1, c1)).heap.size) (t1, A1, c1).1 (t1, A1, c1).2.1 (t1, A1, c1).2.2 := Hnd.out.mono fun k (hk : w.heap.size < k ∧ k < W2.heap.size) => ⟨⟨by omega, by rw [writeX_size]; exact hk.2⟩, fun o => World.cell?_of_block (w := W2) (a := ⟨k, o, none⟩) (writeX_other _ _ _ _ (show k ≠ w.heap.size by omega))⟩
          generalize writeX W2 w.heap.size (t1, A1, c1) = W3 at *
          exact bodyPost_ret (v := nodeV (t1, A1, c1).1 (t1, A1, c1).2.1 (t1, A1, c1).2.2) (by simp [results, Tryd.results17, y0, y1, y2, y3, y4, y5, y6, y7, go_sem]) rfl ⟨(t1, A1, c1), _, rfl, hNod, hRS, hOff, by have := Hfin.out; rw [Hj.out] at this; exact this⟩
        · obtain rfl : n = (ns.map fun x : Nx => x.1).length := by simp [HL.out.len]
          have hnd := HL.out.node (by omega) (by omega) (.mk 5 0 0 0 0 0 0 (ns.map fun x : Nx => x.1)) rfl
          have hj : joinT 5 (ns.map fun x : Nx => x.1) = .mk 5 0 0 0 0 0 0 (ns.map fun x : Nx => x.1) := by
            generalize ns.map (fun x : Nx => x.1) = l at hn2
            match l, hn2 with
            | a :: b :: l, _ => rfl
          have hb1 : (((ns.map fun x : Nx => x.1).length : Int) == 1) = false := by rw [beq_eq_false_iff_ne]; omega
          have Hj := Lib.hid hj; have Hnd := Lib.hid hnd
          clear hj hnd
          generalize hl : (ns.map fun x : Nx => x.1) = l at *
          obtain ⟨⟨r0, r1, r2, r3, r4, r5, r6, r7⟩, hz⟩ := HL.out.R.cells8
          have z0 := hz 0; have z1 := hz 1; have z2 := hz 2; have z3 := hz 3; have z4 := hz 4; have z5 := hz 5; have z6 := hz 6; have z7 := hz 7
          have lr := HL.out.R.lt
          clear hz
          go_wp2_with fail
          change bodyPost _ _ _ _ _ (writeX W2 w.heap.size (T.mk 5 0 0 0 0 0 0 l, Av, cv))
          have hfn := writeX_blk HL.out.R (T.mk 5 0 0 0 0 0 0 l, Av, cv)
          obtain ⟨⟨y0, y1, y2, y3, y4, y5, y6, y7⟩, _⟩ := hfn.cells8
          have hRS := HL.out.S.boxW (b := w.heap.size) (by omega) (T.mk 5 0 0 0 0 0 0 l, Av, cv)
          have hOff := Off.boxW HL.out.O (Nat.le_refl _) (T.mk 5 0 0 0 0 0 0 l, Av, cv)
          have hNod : NodeAt (writeX W2 w.heap.size (T.mk 5 0 0 0 0 0 0 l, Av, cv)) (fun b => w.heap.size ≤ b ∧ b < (writeX W2 w.heap.size (T.mk 5 0 0 0 0 0 0 l, Av, cv)).heap.size) ((T.mk 5 0 0 0 0 0 0 l, Av, cv) : Nx).1 ((T.mk 5 0 0 0 0 0 0 l, Av, cv) : Nx).2.1 ((T.mk 5 0 0 0 0 0 0 l, Av, cv) : Nx).2.2 := Hnd.out.mono fun k (hk : w.heap.size < k ∧ k < W2.heap.size) => ⟨⟨by omega, by rw [writeX_size]; exact hk.2⟩, fun o => World.cell?_of_block (w := W2) (a := ⟨k, o, none⟩) (writeX_other _ _ _ _ (show k ≠ w.heap.size by omega))⟩
          generalize writeX W2 w.heap.size (T.mk 5 0 0 0 0 0 0 l, Av, cv) = W3 at *
          exact bodyPost_ret (v := nodeV ((T.mk 5 0 0 0 0 0 0 l, Av, cv) : Nx).1 ((T.mk 5 0 0 0 0 0 0 l, Av, cv) : Nx).2.1 ((T.mk 5 0 0 0 0 0 0 l, Av, cv) : Nx).2.2) (by simp [results, Tryd.results17, y0, y1, y2, y3, y4, y5, y6, y7, go_sem]) rfl ⟨(T.mk 5 0 0 0 0 0 0 l, Av, cv), _, rfl, hNod, hRS, hOff, by have := Hfin.out; rw [Hj.out] at this; exact this⟩
      · have hres : altsP grp (k + 1) (ns.map fun x : Nx => x.1) r' = match rowP grp r2 with | .error e => .error e | .ok (n, r1) => altsP grp k ((ns.map fun x : Nx => x.1) ++ [n]) r1 := by
          rw [altsP, ht]; rfl
        have hl := takeP_len ht
        have hsf2 := (takeP_suf ht).trans Hsf.out
        simp only [List.length_cons, List.length_nil] at hl
        simp only [Rs.rest] at hnl
        have Hres := Lib.hid hres; have Ht := Lib.hid ht; have Hsf2 := Lib.hid hsf2; clear hres ht hsf2
        go_wp2_with fail
        refine (take_hit [124] (by simp) Ht.out HL.out.S).mono ?_
        rintro en W2 ⟨rfl, h2, hO2⟩
        have HL := Lib.hid (HL.out.off hlt hO2 h2)
        have H2 := Lib.hid h2
        clear h2 hO2
        go_wp2_with fail
        refine (HP.out W2 (.ok r2) H2.out (by simp only [Rs.rest]; omega) (fun r' e hr => HB.out r Hsr.out (by cases e; exact Hsf2.out.mem hr)) (fun r' e hr => HD.out r Hsr.out (by cases e; exact Hsf2.out.mem hr))).mono ?_
        rintro en w3 ⟨⟨t3, A3, c3⟩, s3, rfl, hx3, h3, hO3, ho3⟩
        have HL3 := Lib.hid (HL.out.off hlt hO3 h3)
        have Hx3 := Lib.hid hx3; have Ho3 := Lib.hid ho3
        have hz3 := hO3.size
        have hwr : w.heap.size < W2.heap.size := HL.out.R.lt
        clear hx3 ho3 hO3 h3
        have hnews : ∀ ad, some (⟨w3.heap.size, 0, none⟩ : Addr) = some ad → ∀ j u, (xcell (t3, A3, c3))[j]? = some u → (w3.alloc (.cells (xcell (t3, A3, c3)).toArray 27)).cell? (ad.add j) = some u := fun ad e j u hu => by
          simp only [Option.some.injEq] at e
          subst e
          rw [addr_addX, World.cell?_alloc_new, Nat.zero_add]
          simpa using hu
        have Hnews := Lib.hid hnews; clear hnews
        go_wp2_with (at_builtin; refine wpList_append_fromX (w.heap.size + 1) rfl _ _ 25 27 _ 8 80 rfl Tryd.underlying25 Tryd.infoNodeX rfl (by omega) (by omega) (.slice Av n cv) n 1 (xcells ns) (xcell (t3, A3, c3)) (some ⟨w3.heap.size, 0, none⟩) 1 rfl rfl (by simp) rfl Hnews.out (xcell_one _) (HL3.out.own.alloc _) (by simp; omega) (by omega) (fun A5 c5 w5 ho5 hg5 hat5 => ?_); have HL5 := Lib.hid (HL3.out.push hlt hwr (fun k hk => (HL.out.own.lt k hk).2) (t3, A3, c3) Hx3.out ((Below.refl _ _).alloc (Nat.le_refl _) _) ho5 hg5 hat5); clear ho5 hg5 hat5)
        have hcs : s3.rest.length ≤ r2.length ∧ ((∃ e, s3 = .error e ∧ (s = .error e ∨ ∃ r, s = .ok r ∧ choiceP grp r = .error e)) ∨ ∃ r r' k, s = .ok r ∧ s3 = .ok r' ∧ r' <:+ r ∧ r'.length < k ∧ choiceP grp r = match altsP grp k ((ns ++ [(t3, A3, c3)]).map fun x : Nx => x.1) r' with | .error e => .error e | .ok (l, r2) => .ok (joinT 5 l, r2)) := by
          have hoo := Ho3.out
          cases hpc : rowP grp r2 with
          | error e =>
            simp only [Out, hpc] at hoo
            subst hoo
            exact ⟨by simp [Rs.rest], .inl ⟨e, rfl, .inr ⟨r, Hsr.out, by rw [Hpp.out, Hres.out, hpc]⟩⟩⟩
          | ok y =>
            obtain ⟨n', r3⟩ := y
            simp only [Out, hpc] at hoo
            obtain ⟨rfl, rfl⟩ := hoo
            have hl3 := row_len HGl.out hpc
            exact ⟨by simp only [Rs.rest]; omega, .inr ⟨r, r3, k, Hsr.out, rfl, (row_suf HGs.out hpc).trans Hsf2.out, by omega, by rw [Hpp.out, Hres.out, hpc]; simp⟩⟩
        obtain ⟨hl1, hcs⟩ := hcs
        have HCS := Lib.hid hcs; clear hcs
        go_roundg (s3.rest.length + 1)
        case measure => have := Hm.out; simp only [Rs.rest] at this; omega
        case rel => exact ⟨n + 1, _, A5, c5, s3, rfl, by omega, rfl, by omega, HL5.out, HCS.out⟩
end Go.Proofs.YteekafkpeimhoaaDoor

