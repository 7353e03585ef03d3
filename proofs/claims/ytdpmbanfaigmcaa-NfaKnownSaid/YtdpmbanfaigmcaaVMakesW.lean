/- The law NfaMakes: walked. (Printed by wip/genmakes.py.) -/
import Derived.Test.YtdpmbanfaigmcaaVKept
import Derived.Test.YtdpmbanfaigmcaaVSpoil
import Derived.Test.YtdpmbanfaigmcaaVRefMake
import Derived.Test.YtdpmbanfaigmcaaVWorks
import Derived.Test.YtdpmbanfaigmcaaVMany
set_option linter.unusedVariables false
set_option linter.unusedSimpArgs false
namespace Go.Proofs.Ytdpmbanfaigmcaa
open Go.RowKit

theorem At8.later {w w' : World} {B b o : Nat} {t : T} {A : Option Addr} {c : Nat} (h : At8 w b o t A c) (hb : Below B w w') (hlt : b < B) : At8 w' b o t A c :=
  h.mono fun o => hb.cell (p := ⟨b, o, none⟩) hlt
/-- A machine's two cells. -/
structure At2 (w : World) (b : Nat) (v : Value) (s : Int) : Prop where
  f0 : w.cell? ⟨b, 0, none⟩ = some v
  f1 : w.cell? ⟨b, 1, none⟩ = some (.int .i64 s)
theorem At2.later {w w' : World} {B b : Nat} {v : Value} {s : Int} (h : At2 w b v s) (hb : Below B w w') (hlt : b < B) : At2 w' b v s :=
  ⟨(hb.cell (p := ⟨b, 0, none⟩) hlt).trans h.f0, (hb.cell (p := ⟨b, 1, none⟩) hlt).trans h.f1⟩
theorem own_later {w w' : World} {base n : Nat} {v : Value} {xs : List Value} (h : w.ownsRow base 47 7 v n xs) (hb : Below w.heap.size w w') : w'.ownsRow base 47 7 v n xs :=
  h.kept (row := none) ⟨hb.os, hb.tape, hb.output, hb.size, fun k hk _ => hb.block k hk⟩ (by cases hv : v.ownBlock <;> simp)
theorem own_form {w : World} {base n : Nat} {v : Value} {xs : List Value} (h : w.ownsRow base 47 7 v n xs) : ∃ A c, v = .slice A n c := by
  rcases h.2 with ⟨rfl, h0⟩ | ⟨g, cap, cur, rfl, _⟩
  · exact ⟨none, 0, by rw [h0]⟩
  · exact ⟨_, cap, rfl⟩

theorem sts_all {w : World} {base : Nat} {l : List St} {A : Option Addr} {c : Nat} (h : w.ownsRow base 47 7 (.slice A l.length c) l.length (stCells l)) (hl : l.length ≤ 4096) : StsAt w (fun b => b < w.heap.size) l A c :=
  (stsAt_own h (by omega)).mono fun b hb => ⟨hb.2, fun _ => rfl⟩
theorem Spoils.cell {r : Option Nat} {w w' : World} (h : Spoils r w w') {b o : Nat} (h0 : b < w.heap.size) (h1 : some b ≠ r) : w'.cell? ⟨b, o, none⟩ = w.cell? ⟨b, o, none⟩ := World.cell?_of_block (w := w) (h.block b h0 h1)
theorem Spoils.own {r : Option Nat} {w w' : World} (h : Spoils r w w') {base n : Nat} {v : Value} {xs : List Value} (ho : w.ownsRow base 47 7 v n xs) (hne : ∀ k, v.ownBlock = some k → some k ≠ r) : w'.ownsRow base 47 7 v n xs :=
  ho.kept (row := r) ⟨h.os, h.tape, h.output, h.size, h.block⟩ (by
    cases hv : v.ownBlock with
    | none => exact .inl rfl
    | some k => exact .inr (hne k hv))

set_option maxRecDepth 100000 in
set_option maxHeartbeats 8000000 in
theorem makes_any (t : T) (w : World) (ok : Nat → Prop) (A : Option Addr) (c : Nat) (hN : NodeAt w ok t A c) (hok : ∀ b, ok b → b < w.heap.size) :
    Calls Try.prog 3 #[nodeV t A c] w fun e w' => e = .returned (.bool true) ∧ Below w.heap.size w w' := by
  have hm := manyF_min 2500 (by omega) t
  have Hm := Lib.hid hm; clear hm
  have HN := Lib.hid hN; have Hok := Lib.hid hok; clear hN hok
  go_enter Try.func3, Try.ntmps3
  go_wp2_with fail
  generalize hW : w.alloc _ = W0
  have hB0 : Below w.heap.size w W0 := by subst hW; exact (Below.refl _ _).alloc (Nat.le_refl _) _
  have hz0 : w.heap.size < W0.heap.size := by subst hW; simp
  have P0 : At8 W0 w.heap.size 0 t A c := by subst hW; constructor <;> simp [go_sem]
  clear hW
  refine (many_any 2500 (by omega) (by omega) t W0 ok A c (HN.out.later hB0 Hok.out) (fun b h => by have := Hok.out b h; omega)).mono ?_
  rintro e w1 ⟨rfl, hb1⟩
  have hz1 := hb1.size
  have hB1 := hB0.trans (hb1.mono (by omega))
  have P1 := P0.later hb1 hz0
  have hokw : ∀ {B : Nat}, w.heap.size < B → ∀ b, ok b → b < B := fun hB b h => by have := Hok.out b h; omega
  have Hokw : ∀ B : Nat, w.heap.size < B → Hid (∀ b, ok b → b < B) := fun B hB => Lib.hid (hokw hB)
  clear hokw P0
  obtain ⟨p0, p1, p2, p3, p4, p5, p6, p7⟩ := id P1
  simp only [Nat.zero_add] at p1 p2 p3 p4 p5 p6 p7
  by_cases hbig : 2500 < manyF 2500 t
  · go_wp2_with fail
    go_ret
    exact ⟨rfl, hB1⟩
  have hno : nodesF t ≤ 2500 := by have := Hm.out; omega
  have Hno := Lib.hid hno; clear hno
  go_wp2_with fail
  clear hbig p0 p1 p2 p3 p4 p5 p6 p7
  refine (lent_any t w1 ok A c (HN.out.later hB1 Hok.out) (Hokw _ (by omega)).out (by have := Hno.out; omega)).mono ?_
  rintro e w2 ⟨A', c', rfl, hX, hb2⟩
  have hz2 := hb2.size
  have hB2 := hB1.trans (hb2.mono (by omega))
  have P2 := P1.later hb2 (by omega)
  have HX := Lib.hid hX; clear hX P1 hb1 hB1
  go_wp2_with fail
  generalize hW : w2.alloc _ = W2
  have hb2' : Below w2.heap.size w2 W2 := by subst hW; exact (Below.refl _ _).alloc (Nat.le_refl _) _
  have hz2' : w2.heap.size < W2.heap.size := by subst hW; simp
  have X2 : At8 W2 w2.heap.size 0 t A' c' := by subst hW; constructor <;> simp [go_sem]
  have Q2 := P2.later hb2' (by omega)
  have hC2 := hB2.trans (hb2'.mono (by omega))
  clear hW P2 hB2
  have okx : ∀ b, (w1.heap.size ≤ b ∧ b < w2.heap.size) → b < W2.heap.size := fun b h => by omega
  have OKX := Lib.hid okx; clear okx
  have HX2 := Lib.hid (HX.out.mono (w' := W2) (ok' := fun b => w1.heap.size ≤ b ∧ b < w2.heap.size) fun b h => ⟨h, fun o => hb2'.cell (p := ⟨b, o, none⟩) h.2⟩)
  clear HX
  refine (nsize_any t W2 _ A' c' HX2.out.node OKX.out).mono ?_
  rintro e w3 ⟨rfl, hb3⟩
  have hz3 := hb3.size
  have hC3 := hC2.trans (hb3.mono (by omega))
  have X3 := X2.later hb3 hz2'
  have Q3 := Q2.later hb3 (by omega)
  have HX3 := Lib.hid (HX2.out.mono (w' := w3) (ok' := fun b => w1.heap.size ≤ b ∧ b < w2.heap.size) fun b h => ⟨h, fun o => hb3.cell (p := ⟨b, o, none⟩) (OKX.out b h)⟩)
  clear X2 Q2 hC2 HX2
  obtain ⟨x0, x1, x2, x3, x4, x5, x6, x7⟩ := id X3
  simp only [Nat.zero_add] at x1 x2 x3 x4 x5 x6 x7
  go_wp2_with fail
  clear x0 x1 x2 x3 x4 x5 x6 x7
  refine (make_any t w3 _ A' c' HX3.out.node (fun b h => by have := OKX.out b h; omega)).mono ?_
  rintro e w4 ⟨va, rfl, hoa, hb4⟩
  obtain ⟨Aa, ca, rfl⟩ := own_form hoa
  have hz4 := hb4.size
  have hC4 := hC3.trans (hb4.mono (by omega))
  have X4 := X3.later hb4 (by omega)
  have Q4 := Q3.later hb4 (by omega)
  have HX4 := Lib.hid (HX3.out.mono (w' := w4) (ok' := fun b => w1.heap.size ≤ b ∧ b < w2.heap.size) fun b h => ⟨h, fun o => hb4.cell (p := ⟨b, o, none⟩) (by have := OKX.out b h; show b < _; omega)⟩)
  have HOA := Lib.hid hoa
  have HRA := Lib.hid (fun k (hk : (Value.slice Aa (makeL t).length ca).ownBlock = some k) => hoa.lt k hk)
  clear X3 Q3 hC3 HX3 hoa
  have hz24 : w2.heap.size < w4.heap.size := by omega
  obtain ⟨x0, x1, x2, x3, x4, x5, x6, x7⟩ := id X4
  simp only [Nat.zero_add] at x1 x2 x3 x4 x5 x6 x7
  go_wp2_with fail
  clear x0 x1 x2 x3 x4 x5 x6 x7
  generalize hW : w4.alloc _ = W4
  have hb4' : Below w4.heap.size w4 W4 := by subst hW; exact (Below.refl _ _).alloc (Nat.le_refl _) _
  have hz4' : w4.heap.size < W4.heap.size := by subst hW; simp
  have A4 : At2 W4 w4.heap.size (.slice Aa (makeL t).length ca) (makeS t) := by subst hW; constructor <;> simp [go_sem]
  have X4' := X4.later hb4' (by omega)
  have Q4' := Q4.later hb4' (by omega)
  have hC4' := hC4.trans (hb4'.mono (by omega))
  have HX4' := Lib.hid (HX4.out.mono (w' := W4) (ok' := fun b => w1.heap.size ≤ b ∧ b < w2.heap.size) fun b h => ⟨h, fun o => hb4'.cell (p := ⟨b, o, none⟩) (by have := OKX.out b h; show b < _; omega)⟩)
  have HOA' := Lib.hid (own_later HOA.out hb4')
  clear hW X4 Q4 hC4 HX4 HOA
  refine (make_any t W4 _ A' c' HX4'.out.node (fun b h => by have := OKX.out b h; omega)).mono ?_
  rintro e w5 ⟨vb, rfl, hob, hb5⟩
  obtain ⟨Ab, cb, rfl⟩ := own_form hob
  have hz5 := hb5.size
  have hC5 := hC4'.trans (hb5.mono (by omega))
  have X5 := X4'.later hb5 (by omega)
  have Q5 := Q4'.later hb5 (by omega)
  have A5 := A4.later hb5 hz4'
  have HX5 := Lib.hid (HX4'.out.mono (w' := w5) (ok' := fun b => w1.heap.size ≤ b ∧ b < w2.heap.size) fun b h => ⟨h, fun o => hb5.cell (p := ⟨b, o, none⟩) (by have := OKX.out b h; show b < _; omega)⟩)
  have HOA5 := Lib.hid (own_later HOA'.out hb5)
  have HOB5 := Lib.hid hob
  have HRB := Lib.hid (fun k (hk : (Value.slice Ab (makeL t).length cb).ownBlock = some k) => hob.lt k hk)
  clear X4' Q4' hC4' HX4' HOA' hob A4
  have hz05 : w.heap.size < w5.heap.size := by omega
  obtain ⟨p0, p1, p2, p3, p4, p5, p6, p7⟩ := id Q5
  simp only [Nat.zero_add] at p1 p2 p3 p4 p5 p6 p7
  go_wp2_with fail
  clear p0 p1 p2 p3 p4 p5 p6 p7
  generalize hW : w5.alloc _ = W5
  have hb5' : Below w5.heap.size w5 W5 := by subst hW; exact (Below.refl _ _).alloc (Nat.le_refl _) _
  have hz5' : w5.heap.size < W5.heap.size := by subst hW; simp
  have B5 : At2 W5 w5.heap.size (.slice Ab (makeL t).length cb) (makeS t) := by subst hW; constructor <;> simp [go_sem]
  have X5' := X5.later hb5' (by omega)
  have Q5' := Q5.later hb5' (by omega)
  have A5' := A5.later hb5' (by omega)
  have hC5' := hC5.trans (hb5'.mono (by omega))
  have HX5' := Lib.hid (HX5.out.mono (w' := W5) (ok' := fun b => w1.heap.size ≤ b ∧ b < w2.heap.size) fun b h => ⟨h, fun o => hb5'.cell (p := ⟨b, o, none⟩) (by have := OKX.out b h; show b < _; omega)⟩)
  have HOA5' := Lib.hid (own_later HOA5.out hb5')
  have HOB5' := Lib.hid (own_later HOB5.out hb5')
  clear hW X5 Q5 hC5 HX5 HOA5 HOB5 A5
  refine (rsize_any t W5 ok A c (HN.out.later hC5' Hok.out) (Hokw _ (by omega)).out).mono ?_
  rintro e w6 ⟨rfl, hb6⟩
  have hz6 := hb6.size
  have hC6 := hC5'.trans (hb6.mono (by omega))
  have X6 := X5'.later hb6 (by omega)
  have Q6 := Q5'.later hb6 (by omega)
  have A6 := A5'.later hb6 (by omega)
  have B6 := B5.later hb6 (by omega)
  have HX6 := Lib.hid (HX5'.out.mono (w' := w6) (ok' := fun b => w1.heap.size ≤ b ∧ b < w2.heap.size) fun b h => ⟨h, fun o => hb6.cell (p := ⟨b, o, none⟩) (by have := OKX.out b h; show b < _; omega)⟩)
  have HOA6 := Lib.hid (own_later HOA5'.out hb6)
  have HOB6 := Lib.hid (own_later HOB5'.out hb6)
  clear X5' Q5' A5' B5 hC5' HX5' HOA5' HOB5'
  obtain ⟨p0, p1, p2, p3, p4, p5, p6, p7⟩ := id Q6
  simp only [Nat.zero_add] at p1 p2 p3 p4 p5 p6 p7
  go_wp2_with fail
  clear p0 p1 p2 p3 p4 p5 p6 p7
  refine (rmake_any t w6 ok A c (HN.out.later hC6 Hok.out) (Hokw _ (by omega)).out).mono ?_
  rintro e w7 ⟨vw, rfl, how, hb7⟩
  obtain ⟨Aw, cw, rfl⟩ := own_form how
  have hz7 := hb7.size
  have hC7 := hC6.trans (hb7.mono (by omega))
  have X7 := X6.later hb7 (by omega)
  have Q7 := Q6.later hb7 (by omega)
  have A7 := A6.later hb7 (by omega)
  have B7 := B6.later hb7 (by omega)
  have HX7 := Lib.hid (HX6.out.mono (w' := w7) (ok' := fun b => w1.heap.size ≤ b ∧ b < w2.heap.size) fun b h => ⟨h, fun o => hb7.cell (p := ⟨b, o, none⟩) (by have := OKX.out b h; show b < _; omega)⟩)
  have HOA7 := Lib.hid (own_later HOA6.out hb7)
  have HOB7 := Lib.hid (own_later HOB6.out hb7)
  have HOW7 := Lib.hid how
  have HRW := Lib.hid (fun k (hk : (Value.slice Aw (makeL t).length cw).ownBlock = some k) => how.lt k hk)
  clear X6 Q6 A6 B6 hC6 HX6 HOA6 HOB6 how
  obtain ⟨a0, a1⟩ := id A7
  obtain ⟨b0, b1⟩ := id B7
  have hza : w4.heap.size < w7.heap.size := by omega
  have hzb : w5.heap.size < w7.heap.size := by omega
  go_wp2_with fail
  clear a0 a1 b0 b1
  generalize hW : w7.alloc _ = W7
  have hb7' : Below w7.heap.size w7 W7 := by subst hW; exact (Below.refl _ _).alloc (Nat.le_refl _) _
  have hz7' : w7.heap.size < W7.heap.size := by subst hW; simp
  have C7 : At2 W7 w7.heap.size (.slice Aw (makeL t).length cw) (makeS t) := by subst hW; constructor <;> simp [go_sem]
  clear hW
  have hll := makeL_le t
  have hC8 := hC7.trans (hb7'.mono (by omega))
  have X8 := X7.later hb7' (by omega)
  have Q8 := Q7.later hb7' (by omega)
  have A8 := A7.later hb7' (by omega)
  have B8 := B7.later hb7' (by omega)
  have HX8 := Lib.hid (HX7.out.mono (w' := W7) (ok' := fun b => w1.heap.size ≤ b ∧ b < w2.heap.size) fun b h => ⟨h, fun o => hb7'.cell (p := ⟨b, o, none⟩) (by have := OKX.out b h; show b < _; omega)⟩)
  have HOA8 := Lib.hid (own_later HOA7.out hb7')
  have HOB8 := Lib.hid (own_later HOB7.out hb7')
  have HOW8 := Lib.hid (own_later HOW7.out hb7')
  clear X7 Q7 A7 B7 hC7 HX7 HOA7 HOB7 HOW7
  refine (same_any W7 _ (makeL t) (makeL t) (makeS t) (makeS t) Aa Aw ca cw (sts_all HOA8.out hll) (sts_all HOW8.out hll) (fun b h => h)).mono ?_
  rintro e w8 ⟨rfl, hb8⟩
  rw [sameM_self]
  have hz8 := hb8.size
  have hC9 := hC8.trans (hb8.mono (by omega))
  have X9 := X8.later hb8 (by omega)
  have Q9 := Q8.later hb8 (by omega)
  have A9 := A8.later hb8 (by omega)
  have B9 := B8.later hb8 (by omega)
  have C9 := C7.later hb8 (by omega)
  have HX9 := Lib.hid (HX8.out.mono (w' := w8) (ok' := fun b => w1.heap.size ≤ b ∧ b < w2.heap.size) fun b h => ⟨h, fun o => hb8.cell (p := ⟨b, o, none⟩) (by have := OKX.out b h; show b < _; omega)⟩)
  have HOA9 := Lib.hid (own_later HOA8.out hb8)
  have HOB9 := Lib.hid (own_later HOB8.out hb8)
  have HOW9 := Lib.hid (own_later HOW8.out hb8)
  clear X8 Q8 A8 B8 C7 hC8 HX8 HOA8 HOB8 HOW8
  obtain ⟨b0, b1⟩ := id B9
  obtain ⟨c0, c1⟩ := id C9
  go_wp2_with fail
  clear b0 b1 c0 c1
  refine (same_any w8 _ (makeL t) (makeL t) (makeS t) (makeS t) Ab Aw cb cw (sts_all HOB9.out hll) (sts_all HOW9.out hll) (fun b h => h)).mono ?_
  rintro e w9 ⟨rfl, hb9⟩
  rw [sameM_self]
  have hz9 := hb9.size
  have hC10 := hC9.trans (hb9.mono (by omega))
  have X10 := X9.later hb9 (by omega)
  have Q10 := Q9.later hb9 (by omega)
  have A10 := A9.later hb9 (by omega)
  have B10 := B9.later hb9 (by omega)
  have C10 := C9.later hb9 (by omega)
  have HX10 := Lib.hid (HX9.out.mono (w' := w9) (ok' := fun b => w1.heap.size ≤ b ∧ b < w2.heap.size) fun b h => ⟨h, fun o => hb9.cell (p := ⟨b, o, none⟩) (by have := OKX.out b h; show b < _; omega)⟩)
  have HOA10 := Lib.hid (own_later HOA9.out hb9)
  have HOB10 := Lib.hid (own_later HOB9.out hb9)
  have HOW10 := Lib.hid (own_later HOW9.out hb9)
  clear X9 Q9 A9 B9 C9 hC9 HX9 HOA9 HOB9 HOW9
  obtain ⟨p0, p1, p2, p3, p4, p5, p6, p7⟩ := id Q10
  simp only [Nat.zero_add] at p1 p2 p3 p4 p5 p6 p7
  obtain ⟨x0, x1, x2, x3, x4, x5, x6, x7⟩ := id X10
  simp only [Nat.zero_add] at x1 x2 x3 x4 x5 x6 x7
  go_wp2_with fail
  clear p0 p1 p2 p3 p4 p5 p6 p7 x0 x1 x2 x3 x4 x5 x6 x7
  have hNx : ∀ {W : World}, Below w.heap.size w W → NodeAt W (fun b => b < W.heap.size) t A c := fun hB => (HN.out.later hB Hok.out).mono fun b h => ⟨by have := Hok.out b h; have := hB.size; omega, fun _ => rfl⟩
  have HNx : ∀ (W : World), Below w.heap.size w W → Hid (NodeAt W (fun b => b < W.heap.size) t A c) := fun W hB => Lib.hid (hNx hB)
  clear hNx
  refine (kept_any t w9 (fun b => b < w9.heap.size) A' A c' c (HX10.out.mono fun b h => ⟨by have := OKX.out b h; omega, fun _ => rfl⟩) (HNx w9 hC10).out (fun b h => h)).mono ?_
  rintro e w10 ⟨rfl, hb10⟩
  have hz10 := hb10.size
  have hC11 := hC10.trans (hb10.mono (by omega))
  have X11 := X10.later hb10 (by omega)
  have Q11 := Q10.later hb10 (by omega)
  have A11 := A10.later hb10 (by omega)
  have B11 := B10.later hb10 (by omega)
  have C11 := C10.later hb10 (by omega)
  have HX11 := Lib.hid (HX10.out.mono (w' := w10) (ok' := fun b => w1.heap.size ≤ b ∧ b < w2.heap.size) fun b h => ⟨h, fun o => hb10.cell (p := ⟨b, o, none⟩) (by have := OKX.out b h; show b < _; omega)⟩)
  have HOA11 := Lib.hid (own_later HOA10.out hb10)
  have HOB11 := Lib.hid (own_later HOB10.out hb10)
  have HOW11 := Lib.hid (own_later HOW10.out hb10)
  clear X10 Q10 A10 B10 C10 hC10 HX10 HOA10 HOB10 HOW10
  obtain ⟨a0, a1⟩ := id A11
  go_wp2_with fail
  clear a0 a1
  refine (spoil_any w10 (makeL t) (makeS t) w3.heap.size Aa ca HOA11.out (by omega) (by omega)).mono ?_
  rintro e w11 ⟨rfl, hs11⟩
  have hz11 := hs11.size
  have hne : ∀ b, b < w3.heap.size ∨ w4.heap.size ≤ b → some b ≠ (Value.slice Aa (makeL t).length ca).ownBlock := fun b hb e => by have := HRA.out b e.symm; omega
  have hC12 : Below w.heap.size w w11 := ⟨hs11.os.trans hC11.os, hs11.tape.trans hC11.tape, hs11.output.trans hC11.output, Nat.le_trans hC11.size hs11.size, fun k hk => (hs11.block k (by omega) (hne k (by omega))).trans (hC11.block k hk)⟩
  have X12 : At8 w11 w2.heap.size 0 t A' c' := X11.mono fun o => hs11.cell (by omega) (hne _ (by omega))
  have Q12 : At8 w11 w.heap.size 0 t A c := Q11.mono fun o => hs11.cell (by omega) (hne _ (by omega))
  have B12 : At2 w11 w5.heap.size (.slice Ab (makeL t).length cb) (makeS t) := ⟨(hs11.cell (by omega) (hne _ (by omega))).trans B11.f0, (hs11.cell (by omega) (hne _ (by omega))).trans B11.f1⟩
  have C12 : At2 w11 w7.heap.size (.slice Aw (makeL t).length cw) (makeS t) := ⟨(hs11.cell (by omega) (hne _ (by omega))).trans C11.f0, (hs11.cell (by omega) (hne _ (by omega))).trans C11.f1⟩
  have HX12 := Lib.hid (HX11.out.mono (w' := w11) (ok' := fun b => w1.heap.size ≤ b ∧ b < w2.heap.size) fun b h => ⟨h, fun o => hs11.cell (by omega) (hne _ (by omega))⟩)
  have HOB12 := Lib.hid (hs11.own HOB11.out (fun k hk => hne k (by have := HRB.out k hk; omega)))
  have HOW12 := Lib.hid (hs11.own HOW11.out (fun k hk => hne k (by have := HRW.out k hk; omega)))
  clear X11 Q11 A11 B11 C11 hC11 HX11 HOA11 HOB11 HOW11 hne
  obtain ⟨b0, b1⟩ := id B12
  obtain ⟨c0, c1⟩ := id C12
  go_wp2_with fail
  clear b0 b1 c0 c1
  refine (same_any w11 _ (makeL t) (makeL t) (makeS t) (makeS t) Ab Aw cb cw (sts_all HOB12.out hll) (sts_all HOW12.out hll) (fun b h => h)).mono ?_
  rintro e w12 ⟨rfl, hb12⟩
  rw [sameM_self]
  have hz12 := hb12.size
  have hC13 := hC12.trans (hb12.mono (by omega))
  have X13 := X12.later hb12 (by omega)
  have Q13 := Q12.later hb12 (by omega)
  have HX13 := Lib.hid (HX12.out.mono (w' := w12) (ok' := fun b => w1.heap.size ≤ b ∧ b < w2.heap.size) fun b h => ⟨h, fun o => hb12.cell (p := ⟨b, o, none⟩) (by have := OKX.out b h; show b < _; omega)⟩)
  clear X12 Q12 B12 C12 hC12 HX12 HOB12 HOW12
  obtain ⟨p0, p1, p2, p3, p4, p5, p6, p7⟩ := id Q13
  simp only [Nat.zero_add] at p1 p2 p3 p4 p5 p6 p7
  obtain ⟨x0, x1, x2, x3, x4, x5, x6, x7⟩ := id X13
  simp only [Nat.zero_add] at x1 x2 x3 x4 x5 x6 x7
  go_wp2_with fail
  clear p0 p1 p2 p3 p4 p5 p6 p7 x0 x1 x2 x3 x4 x5 x6 x7
  refine (kept_any t w12 (fun b => b < w12.heap.size) A' A c' c (HX13.out.mono fun b h => ⟨by have := OKX.out b h; omega, fun _ => rfl⟩) (HNx w12 hC13).out (fun b h => h)).mono ?_
  rintro e w13 ⟨rfl, hb13⟩
  have hz13 := hb13.size
  go_wp2_with fail
  refine (works_any w13).mono ?_
  rintro e w14 ⟨rfl, hb14⟩
  go_wp2_with fail
  go_ret
  exact ⟨rfl, (hC13.trans (hb13.mono (by omega))).trans (hb14.mono (by omega))⟩
end Go.Proofs.Ytdpmbanfaigmcaa
