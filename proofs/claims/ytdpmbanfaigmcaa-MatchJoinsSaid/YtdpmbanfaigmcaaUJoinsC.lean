/- Merged texts, part of the proof Joins: Works, MakesW, Has, ParN, ParI, ParA, ParC, ParP, ParQ, ParS, ParW, ParX, ParY, ParZ. -/
import Derived.Test.YtdpmbanfaigmcaaUJoinsA
import Derived.Test.YtdpmbanfaigmcaaUJoinsB
import Derived.Deep.DeepCutAuto
import Derived.Laws.MakeOwn
import Derived.Laws.OwnMore
import Derived.WalkMore
import Derived.Deep.QuietTactic
import Derived.BigQuiet
import Derived.IntWalk
import Derived.BigRegion
/- works: walked. -/
set_option linter.unusedVariables false
set_option linter.unusedSimpArgs false
namespace Go.Proofs.Ytdpmbanfaigmcaa
open Go.RowKit

def tA : T := .mk 1 0 2 0 0 0 0 []
def tW : T := .mk 6 0 0 0 0 1 2 [tA]
def t9 : T := .mk 9 0 0 0 0 0 0 []
def wantW : List St := [⟨5, 0, 0, 0, 0, 0, 0⟩, ⟨1, 0, 2, 0, 0, 0, 0⟩, ⟨2, 0, 0, 0, 0, 1, 0⟩, ⟨1, 0, 2, 0, 0, 2, 0⟩]
theorem tW_E : sizeE tW = 0 := by rfl
theorem tW_L : makeL tW = wantW := by rfl
theorem tW_S : makeS tW = 3 := by rfl
theorem t9_E : sizeE t9 = 107 := by rfl

theorem nodeAt_leaf (w : World) (ok : Nat → Prop) (t : T) (h : t.ps = []) : NodeAt w ok t none 0 :=
  .mk t none 0 (fun _ => none) (fun _ => 0) (by simp [h]) (by simp [h]) (fun e => absurd h e) (fun i p hi => by simp [h] at hi)
theorem sameM_self (l : List St) (s : Int) : sameM l s l s = true := by simp [sameM]
theorem mcheck_W : mcheck wantW 3 = 0 := by rfl
theorem mcheck_nil : mcheck [] 0 = 110 := by rfl

set_option maxRecDepth 100000 in
set_option maxHeartbeats 4000000 in
theorem works_any (w : World) : Calls Try.prog 21 #[] w fun e w' => e = .returned (.bool true) ∧ Below w.heap.size w w' := by
  go_enter Try.func21, Try.ntmps21
  go_wp2_with fail
  generalize hW : (w.alloc _).alloc _ = W0
  have hB0 : Below w.heap.size w W0 := by subst hW; exact ((Below.refl _ _).alloc (Nat.le_refl _) _).alloc (by simp) _
  have hsz : w.heap.size + 1 < W0.heap.size := by subst hW; simp
  have hN : NodeAt W0 (fun b => b < W0.heap.size) tW (some ⟨w.heap.size + 1, 0, none⟩) 1 := by
    refine .mk tW _ 1 (fun _ => none) (fun _ => 0) (by simp [tW, T.ps]) (by simp [tW, T.ps]) (fun _ => ⟨_, _, rfl, hsz, fun i p hi => ?_⟩) (fun i p hi => ?_)
    · have : i = 0 ∧ p = tA := by
        cases i with
        | zero => simp [tW, T.ps] at hi; exact ⟨rfl, hi.symm⟩
        | succ i => simp [tW, T.ps] at hi
      obtain ⟨rfl, rfl⟩ := this
      subst hW
      refine ⟨?_, ?_, ?_, ?_, ?_, ?_, ?_, ?_⟩ <;> simp [go_sem] <;> rfl
    · have : p = tA := by
        cases i with
        | zero => simp [tW, T.ps] at hi; exact hi.symm
        | succ i => simp [tW, T.ps] at hi
      subst this
      exact nodeAt_leaf _ _ _ rfl
  clear hW
  refine (make_any tW W0 _ _ 1 hN (fun b h => h)).mono ?_
  rintro e w1 ⟨v, rfl, ho1, hb1⟩
  rw [tW_E, tW_S]
  rw [tW_L] at ho1
  obtain ⟨A1, c1, rfl⟩ : ∃ A c, v = .slice A 4 c := by
    rcases ho1.2 with ⟨_, h0⟩ | ⟨g, cap, cur, e, _⟩
    · simp [wantW] at h0
    · exact ⟨_, _, e⟩
  have hS1 := stsAt_own (l := wantW) ho1 (by simp [wantW])
  have hB1 : Below w.heap.size w w1 := hB0.trans (hb1.mono (by omega))
  have hs1 := hb1.size
  have h01 : w.heap.size < w1.heap.size := by omega
  clear ho1 hN hB0
  go_wp2_with fail
  generalize hW : (w1.alloc _).alloc _ = W2
  have hb2 : Below w1.heap.size w1 W2 := by subst hW; exact ((Below.refl _ _).alloc (Nat.le_refl _) _).alloc (by simp) _
  have hz2 : w1.heap.size + 2 ≤ W2.heap.size := by subst hW; simp
  have p0 : W2.cell? ⟨w1.heap.size, 0, none⟩ = some (.slice A1 4 c1) := by subst hW; simp [go_sem]
  have p1 : W2.cell? ⟨w1.heap.size, 1, none⟩ = some (.int .i64 3) := by subst hW; simp [go_sem]
  have hS2 : StsAt W2 (fun b => b < W2.heap.size) wantW (some ⟨w1.heap.size + 1, 0, none⟩) 4 := by
    subst hW
    have h := World.ownsRow_lit (base := 0) (e := 47) (size := 7) (w1.alloc (.cells #[.slice A1 4 c1, .int .i64 3] 35)) (stCells wantW).toArray 4 (by simp) (by simp [maxLen]) (by rfl)
    have h2 := stsAt_own (l := wantW) h (by simp [wantW])
    rw [show (w1.alloc (.cells #[.slice A1 4 c1, .int .i64 3] 35)).heap.size = w1.heap.size + 1 by simp] at h2
    exact h2.mono fun b hb => ⟨hb.2, fun o => rfl⟩
  have hS1 := hS1.mono (w' := W2) (ok' := fun b => b < W2.heap.size) fun b hb => ⟨by omega, fun o => hb2.cell (p := ⟨b, o, none⟩) hb.2⟩
  have hB2 : Below w.heap.size w W2 := hB1.trans (hb2.mono (by omega))
  clear hW
  refine (make_any t9 W2 (fun b => b < W2.heap.size) _ 0 (nodeAt_leaf W2 _ t9 rfl) (fun b h => h)).mono ?_
  rintro e w3 ⟨v3, rfl, ho3, hb3⟩
  have hB3 : Below w.heap.size w w3 := hB2.trans (hb3.mono (by omega))
  have hs3 := hb3.size
  have hL3 : makeL t9 = [] := by rfl
  have hS3 : makeS t9 = 0 := by rfl
  rw [hL3] at ho3
  rw [t9_E, hS3]
  have hv : v3 = .slice none 0 0 ∨ ∃ g c, v3 = .slice (some ⟨g, 0, none⟩) 0 c := by
    rcases ho3.2 with ⟨e, _⟩ | ⟨g, cap, cur, e, _⟩
    · exact .inl e
    · exact .inr ⟨g, cap, e⟩
  obtain ⟨A3, c3, rfl⟩ : ∃ A c, v3 = .slice A 0 c := by
    rcases hv with e | ⟨g, c, e⟩
    · exact ⟨_, _, e⟩
    · exact ⟨_, _, e⟩
  obtain ⟨hc3, _⟩ := bcell hb3
  rw [← hc3 _ _ (by omega)] at p0 p1
  have hS1 := hS1.later hb3 (fun b h => h)
  have hS2 := hS2.later hb3 (fun b h => h)
  clear hc3 ho3 hv hL3 hS3 hb3
  generalize hW4 : w3.alloc (.cells #[.slice A3 0 c3, .int .i64 0] 35) = W4
  have hB4 : Below w.heap.size w W4 := by subst hW4; exact hB3.alloc (by omega) _
  have hb4 : Below W2.heap.size w3 W4 := by subst hW4; exact (Below.refl _ _).alloc (by omega) _
  have hz4 : W2.heap.size ≤ W4.heap.size := by subst hW4; simp; omega
  rw [← hb4.cell (p := ⟨w1.heap.size, _, none⟩) (by simp; omega)] at p0 p1
  have hS1 := hS1.later hb4 (fun b h => h)
  have hS2 := hS2.later hb4 (fun b h => h)
  subst hW4
  clear hb4
  go_wp2_with fail
  refine (same_any _ (fun b => b < W2.heap.size) wantW wantW 3 3 A1 (some ⟨w1.heap.size + 1, 0, none⟩) c1 4 hS1 hS2 (fun b h => by omega)).mono ?_
  rintro e w5 ⟨rfl, hb5⟩
  rw [sameM_self]
  have hz5 := hb5.size
  have hB5 : Below w.heap.size w w5 := hB4.trans (hb5.mono (by omega))
  rw [← hb5.cell (p := ⟨w1.heap.size, _, none⟩) (by show w1.heap.size < _; omega)] at p0 p1
  have hS1 := hS1.later hb5 (fun b h => by omega)
  clear hS2 hb5
  go_wp2_with fail
  refine (ncheck_any w5 (fun b => b < W2.heap.size) wantW 3 A1 c1 hS1 (fun b h => by omega)).mono ?_
  rintro e w6 ⟨rfl, hb6⟩
  rw [mcheck_W]
  have hB6 : Below w.heap.size w w6 := hB5.trans (hb6.mono (by omega))
  have hz6 := hb6.size
  clear hb6
  go_wp2_with fail
  refine (ncheck_any w6 (fun b => b < W2.heap.size) [] 0 none 0 ⟨by simp, by simp, fun _ => rfl, fun h => by simp at h⟩ (fun b h => by omega)).mono ?_
  rintro e w7 ⟨rfl, hb7⟩
  rw [mcheck_nil]
  have hB7 : Below w.heap.size w w7 := hB6.trans (hb7.mono (by omega))
  clear hb7
  go_wp2_with fail
  go_ret
  exact ⟨rfl, hB7⟩
end Go.Proofs.Ytdpmbanfaigmcaa

/- The law NfaMakes: walked. (Printed by wip/genmakes.py.) -/
set_option linter.unusedVariables false
set_option linter.unusedSimpArgs false
namespace Go.Proofs.Ytdpmbanfaigmcaa
open Go.RowKit

theorem At8.later {w w' : World} {B b o : Nat} {t : T} {A : Option Addr} {c : Nat} (h : At8 w b o t A c) (hb : Below B w w') (hlt : b < B) : At8 w' b o t A c :=
  h.mono fun o => hb.cell (p := ⟨b, o, none⟩) hlt
/-- A machine's two cells. -/
structure At2 (w : World) (b : Nat) (v : Value) (s : Int) : Prop where
  f0 : w.cell? ⟨b, 0, none⟩ = some v
  f1 : w.cell? ⟨b, 1, none⟩ = some (.int .i64 s)
theorem At2.later {w w' : World} {B b : Nat} {v : Value} {s : Int} (h : At2 w b v s) (hb : Below B w w') (hlt : b < B) : At2 w' b v s :=
  ⟨(hb.cell (p := ⟨b, 0, none⟩) hlt).trans h.f0, (hb.cell (p := ⟨b, 1, none⟩) hlt).trans h.f1⟩
theorem own_later {w w' : World} {base n : Nat} {v : Value} {xs : List Value} (h : w.ownsRow base 47 7 v n xs) (hb : Below w.heap.size w w') : w'.ownsRow base 47 7 v n xs :=
  h.kept (row := none) ⟨hb.os, hb.tape, hb.output, hb.size, fun k hk _ => hb.block k hk⟩ (by cases hv : v.ownBlock <;> simp)
theorem own_form {w : World} {base n : Nat} {v : Value} {xs : List Value} (h : w.ownsRow base 47 7 v n xs) : ∃ A c, v = .slice A n c := by
  rcases h.2 with ⟨rfl, h0⟩ | ⟨g, cap, cur, rfl, _⟩
  · exact ⟨none, 0, by rw [h0]⟩
  · exact ⟨_, cap, rfl⟩

theorem sts_all {w : World} {base : Nat} {l : List St} {A : Option Addr} {c : Nat} (h : w.ownsRow base 47 7 (.slice A l.length c) l.length (stCells l)) (hl : l.length ≤ 4096) : StsAt w (fun b => b < w.heap.size) l A c :=
  (stsAt_own h (by omega)).mono fun b hb => ⟨hb.2, fun _ => rfl⟩
theorem Spoils.cell {r : Option Nat} {w w' : World} (h : Spoils r w w') {b o : Nat} (h0 : b < w.heap.size) (h1 : some b ≠ r) : w'.cell? ⟨b, o, none⟩ = w.cell? ⟨b, o, none⟩ := World.cell?_of_block (w := w) (h.block b h0 h1)
theorem Spoils.own {r : Option Nat} {w w' : World} (h : Spoils r w w') {base n : Nat} {v : Value} {xs : List Value} (ho : w.ownsRow base 47 7 v n xs) (hne : ∀ k, v.ownBlock = some k → some k ≠ r) : w'.ownsRow base 47 7 v n xs :=
  ho.kept (row := r) ⟨h.os, h.tape, h.output, h.size, h.block⟩ (by
    cases hv : v.ownBlock with
    | none => exact .inl rfl
    | some k => exact .inr (hne k hv))

set_option maxRecDepth 100000 in
set_option maxHeartbeats 8000000 in
theorem makes_any (t : T) (w : World) (ok : Nat → Prop) (A : Option Addr) (c : Nat) (hN : NodeAt w ok t A c) (hok : ∀ b, ok b → b < w.heap.size) :
    Calls Try.prog 3 #[nodeV t A c] w fun e w' => e = .returned (.bool true) ∧ Below w.heap.size w w' := by
  have hm := manyF_min 2500 (by omega) t
  have Hm := Lib.hid hm; clear hm
  have HN := Lib.hid hN; have Hok := Lib.hid hok; clear hN hok
  go_enter Try.func3, Try.ntmps3
  go_wp2_with fail
  generalize hW : w.alloc _ = W0
  have hB0 : Below w.heap.size w W0 := by subst hW; exact (Below.refl _ _).alloc (Nat.le_refl _) _
  have hz0 : w.heap.size < W0.heap.size := by subst hW; simp
  have P0 : At8 W0 w.heap.size 0 t A c := by subst hW; constructor <;> simp [go_sem]
  clear hW
  refine (many_any 2500 (by omega) (by omega) t W0 ok A c (HN.out.later hB0 Hok.out) (fun b h => by have := Hok.out b h; omega)).mono ?_
  rintro e w1 ⟨rfl, hb1⟩
  have hz1 := hb1.size
  have hB1 := hB0.trans (hb1.mono (by omega))
  have P1 := P0.later hb1 hz0
  have hokw : ∀ {B : Nat}, w.heap.size < B → ∀ b, ok b → b < B := fun hB b h => by have := Hok.out b h; omega
  have Hokw : ∀ B : Nat, w.heap.size < B → Hid (∀ b, ok b → b < B) := fun B hB => Lib.hid (hokw hB)
  clear hokw P0
  obtain ⟨p0, p1, p2, p3, p4, p5, p6, p7⟩ := id P1
  simp only [Nat.zero_add] at p1 p2 p3 p4 p5 p6 p7
  by_cases hbig : 2500 < manyF 2500 t
  · go_wp2_with fail
    go_ret
    exact ⟨rfl, hB1⟩
  have hno : nodesF t ≤ 2500 := by have := Hm.out; omega
  have Hno := Lib.hid hno; clear hno
  go_wp2_with fail
  clear hbig p0 p1 p2 p3 p4 p5 p6 p7
  refine (lent_any t w1 ok A c (HN.out.later hB1 Hok.out) (Hokw _ (by omega)).out (by have := Hno.out; omega)).mono ?_
  rintro e w2 ⟨A', c', rfl, hX, hb2⟩
  have hz2 := hb2.size
  have hB2 := hB1.trans (hb2.mono (by omega))
  have P2 := P1.later hb2 (by omega)
  have HX := Lib.hid hX; clear hX P1 hb1 hB1
  go_wp2_with fail
  generalize hW : w2.alloc _ = W2
  have hb2' : Below w2.heap.size w2 W2 := by subst hW; exact (Below.refl _ _).alloc (Nat.le_refl _) _
  have hz2' : w2.heap.size < W2.heap.size := by subst hW; simp
  have X2 : At8 W2 w2.heap.size 0 t A' c' := by subst hW; constructor <;> simp [go_sem]
  have Q2 := P2.later hb2' (by omega)
  have hC2 := hB2.trans (hb2'.mono (by omega))
  clear hW P2 hB2
  have okx : ∀ b, (w1.heap.size ≤ b ∧ b < w2.heap.size) → b < W2.heap.size := fun b h => by omega
  have OKX := Lib.hid okx; clear okx
  have HX2 := Lib.hid (HX.out.mono (w' := W2) (ok' := fun b => w1.heap.size ≤ b ∧ b < w2.heap.size) fun b h => ⟨h, fun o => hb2'.cell (p := ⟨b, o, none⟩) h.2⟩)
  clear HX
  refine (nsize_any t W2 _ A' c' HX2.out.node OKX.out).mono ?_
  rintro e w3 ⟨rfl, hb3⟩
  have hz3 := hb3.size
  have hC3 := hC2.trans (hb3.mono (by omega))
  have X3 := X2.later hb3 hz2'
  have Q3 := Q2.later hb3 (by omega)
  have HX3 := Lib.hid (HX2.out.mono (w' := w3) (ok' := fun b => w1.heap.size ≤ b ∧ b < w2.heap.size) fun b h => ⟨h, fun o => hb3.cell (p := ⟨b, o, none⟩) (OKX.out b h)⟩)
  clear X2 Q2 hC2 HX2
  obtain ⟨x0, x1, x2, x3, x4, x5, x6, x7⟩ := id X3
  simp only [Nat.zero_add] at x1 x2 x3 x4 x5 x6 x7
  go_wp2_with fail
  clear x0 x1 x2 x3 x4 x5 x6 x7
  refine (make_any t w3 _ A' c' HX3.out.node (fun b h => by have := OKX.out b h; omega)).mono ?_
  rintro e w4 ⟨va, rfl, hoa, hb4⟩
  obtain ⟨Aa, ca, rfl⟩ := own_form hoa
  have hz4 := hb4.size
  have hC4 := hC3.trans (hb4.mono (by omega))
  have X4 := X3.later hb4 (by omega)
  have Q4 := Q3.later hb4 (by omega)
  have HX4 := Lib.hid (HX3.out.mono (w' := w4) (ok' := fun b => w1.heap.size ≤ b ∧ b < w2.heap.size) fun b h => ⟨h, fun o => hb4.cell (p := ⟨b, o, none⟩) (by have := OKX.out b h; show b < _; omega)⟩)
  have HOA := Lib.hid hoa
  have HRA := Lib.hid (fun k (hk : (Value.slice Aa (makeL t).length ca).ownBlock = some k) => hoa.lt k hk)
  clear X3 Q3 hC3 HX3 hoa
  have hz24 : w2.heap.size < w4.heap.size := by omega
  obtain ⟨x0, x1, x2, x3, x4, x5, x6, x7⟩ := id X4
  simp only [Nat.zero_add] at x1 x2 x3 x4 x5 x6 x7
  go_wp2_with fail
  clear x0 x1 x2 x3 x4 x5 x6 x7
  generalize hW : w4.alloc _ = W4
  have hb4' : Below w4.heap.size w4 W4 := by subst hW; exact (Below.refl _ _).alloc (Nat.le_refl _) _
  have hz4' : w4.heap.size < W4.heap.size := by subst hW; simp
  have A4 : At2 W4 w4.heap.size (.slice Aa (makeL t).length ca) (makeS t) := by subst hW; constructor <;> simp [go_sem]
  have X4' := X4.later hb4' (by omega)
  have Q4' := Q4.later hb4' (by omega)
  have hC4' := hC4.trans (hb4'.mono (by omega))
  have HX4' := Lib.hid (HX4.out.mono (w' := W4) (ok' := fun b => w1.heap.size ≤ b ∧ b < w2.heap.size) fun b h => ⟨h, fun o => hb4'.cell (p := ⟨b, o, none⟩) (by have := OKX.out b h; show b < _; omega)⟩)
  have HOA' := Lib.hid (own_later HOA.out hb4')
  clear hW X4 Q4 hC4 HX4 HOA
  refine (make_any t W4 _ A' c' HX4'.out.node (fun b h => by have := OKX.out b h; omega)).mono ?_
  rintro e w5 ⟨vb, rfl, hob, hb5⟩
  obtain ⟨Ab, cb, rfl⟩ := own_form hob
  have hz5 := hb5.size
  have hC5 := hC4'.trans (hb5.mono (by omega))
  have X5 := X4'.later hb5 (by omega)
  have Q5 := Q4'.later hb5 (by omega)
  have A5 := A4.later hb5 hz4'
  have HX5 := Lib.hid (HX4'.out.mono (w' := w5) (ok' := fun b => w1.heap.size ≤ b ∧ b < w2.heap.size) fun b h => ⟨h, fun o => hb5.cell (p := ⟨b, o, none⟩) (by have := OKX.out b h; show b < _; omega)⟩)
  have HOA5 := Lib.hid (own_later HOA'.out hb5)
  have HOB5 := Lib.hid hob
  have HRB := Lib.hid (fun k (hk : (Value.slice Ab (makeL t).length cb).ownBlock = some k) => hob.lt k hk)
  clear X4' Q4' hC4' HX4' HOA' hob A4
  have hz05 : w.heap.size < w5.heap.size := by omega
  obtain ⟨p0, p1, p2, p3, p4, p5, p6, p7⟩ := id Q5
  simp only [Nat.zero_add] at p1 p2 p3 p4 p5 p6 p7
  go_wp2_with fail
  clear p0 p1 p2 p3 p4 p5 p6 p7
  generalize hW : w5.alloc _ = W5
  have hb5' : Below w5.heap.size w5 W5 := by subst hW; exact (Below.refl _ _).alloc (Nat.le_refl _) _
  have hz5' : w5.heap.size < W5.heap.size := by subst hW; simp
  have B5 : At2 W5 w5.heap.size (.slice Ab (makeL t).length cb) (makeS t) := by subst hW; constructor <;> simp [go_sem]
  have X5' := X5.later hb5' (by omega)
  have Q5' := Q5.later hb5' (by omega)
  have A5' := A5.later hb5' (by omega)
  have hC5' := hC5.trans (hb5'.mono (by omega))
  have HX5' := Lib.hid (HX5.out.mono (w' := W5) (ok' := fun b => w1.heap.size ≤ b ∧ b < w2.heap.size) fun b h => ⟨h, fun o => hb5'.cell (p := ⟨b, o, none⟩) (by have := OKX.out b h; show b < _; omega)⟩)
  have HOA5' := Lib.hid (own_later HOA5.out hb5')
  have HOB5' := Lib.hid (own_later HOB5.out hb5')
  clear hW X5 Q5 hC5 HX5 HOA5 HOB5 A5
  refine (rsize_any t W5 ok A c (HN.out.later hC5' Hok.out) (Hokw _ (by omega)).out).mono ?_
  rintro e w6 ⟨rfl, hb6⟩
  have hz6 := hb6.size
  have hC6 := hC5'.trans (hb6.mono (by omega))
  have X6 := X5'.later hb6 (by omega)
  have Q6 := Q5'.later hb6 (by omega)
  have A6 := A5'.later hb6 (by omega)
  have B6 := B5.later hb6 (by omega)
  have HX6 := Lib.hid (HX5'.out.mono (w' := w6) (ok' := fun b => w1.heap.size ≤ b ∧ b < w2.heap.size) fun b h => ⟨h, fun o => hb6.cell (p := ⟨b, o, none⟩) (by have := OKX.out b h; show b < _; omega)⟩)
  have HOA6 := Lib.hid (own_later HOA5'.out hb6)
  have HOB6 := Lib.hid (own_later HOB5'.out hb6)
  clear X5' Q5' A5' B5 hC5' HX5' HOA5' HOB5'
  obtain ⟨p0, p1, p2, p3, p4, p5, p6, p7⟩ := id Q6
  simp only [Nat.zero_add] at p1 p2 p3 p4 p5 p6 p7
  go_wp2_with fail
  clear p0 p1 p2 p3 p4 p5 p6 p7
  refine (rmake_any t w6 ok A c (HN.out.later hC6 Hok.out) (Hokw _ (by omega)).out).mono ?_
  rintro e w7 ⟨vw, rfl, how, hb7⟩
  obtain ⟨Aw, cw, rfl⟩ := own_form how
  have hz7 := hb7.size
  have hC7 := hC6.trans (hb7.mono (by omega))
  have X7 := X6.later hb7 (by omega)
  have Q7 := Q6.later hb7 (by omega)
  have A7 := A6.later hb7 (by omega)
  have B7 := B6.later hb7 (by omega)
  have HX7 := Lib.hid (HX6.out.mono (w' := w7) (ok' := fun b => w1.heap.size ≤ b ∧ b < w2.heap.size) fun b h => ⟨h, fun o => hb7.cell (p := ⟨b, o, none⟩) (by have := OKX.out b h; show b < _; omega)⟩)
  have HOA7 := Lib.hid (own_later HOA6.out hb7)
  have HOB7 := Lib.hid (own_later HOB6.out hb7)
  have HOW7 := Lib.hid how
  have HRW := Lib.hid (fun k (hk : (Value.slice Aw (makeL t).length cw).ownBlock = some k) => how.lt k hk)
  clear X6 Q6 A6 B6 hC6 HX6 HOA6 HOB6 how
  obtain ⟨a0, a1⟩ := id A7
  obtain ⟨b0, b1⟩ := id B7
  have hza : w4.heap.size < w7.heap.size := by omega
  have hzb : w5.heap.size < w7.heap.size := by omega
  go_wp2_with fail
  clear a0 a1 b0 b1
  generalize hW : w7.alloc _ = W7
  have hb7' : Below w7.heap.size w7 W7 := by subst hW; exact (Below.refl _ _).alloc (Nat.le_refl _) _
  have hz7' : w7.heap.size < W7.heap.size := by subst hW; simp
  have C7 : At2 W7 w7.heap.size (.slice Aw (makeL t).length cw) (makeS t) := by subst hW; constructor <;> simp [go_sem]
  clear hW
  have hll := makeL_le t
  have hC8 := hC7.trans (hb7'.mono (by omega))
  have X8 := X7.later hb7' (by omega)
  have Q8 := Q7.later hb7' (by omega)
  have A8 := A7.later hb7' (by omega)
  have B8 := B7.later hb7' (by omega)
  have HX8 := Lib.hid (HX7.out.mono (w' := W7) (ok' := fun b => w1.heap.size ≤ b ∧ b < w2.heap.size) fun b h => ⟨h, fun o => hb7'.cell (p := ⟨b, o, none⟩) (by have := OKX.out b h; show b < _; omega)⟩)
  have HOA8 := Lib.hid (own_later HOA7.out hb7')
  have HOB8 := Lib.hid (own_later HOB7.out hb7')
  have HOW8 := Lib.hid (own_later HOW7.out hb7')
  clear X7 Q7 A7 B7 hC7 HX7 HOA7 HOB7 HOW7
  refine (same_any W7 _ (makeL t) (makeL t) (makeS t) (makeS t) Aa Aw ca cw (sts_all HOA8.out hll) (sts_all HOW8.out hll) (fun b h => h)).mono ?_
  rintro e w8 ⟨rfl, hb8⟩
  rw [sameM_self]
  have hz8 := hb8.size
  have hC9 := hC8.trans (hb8.mono (by omega))
  have X9 := X8.later hb8 (by omega)
  have Q9 := Q8.later hb8 (by omega)
  have A9 := A8.later hb8 (by omega)
  have B9 := B8.later hb8 (by omega)
  have C9 := C7.later hb8 (by omega)
  have HX9 := Lib.hid (HX8.out.mono (w' := w8) (ok' := fun b => w1.heap.size ≤ b ∧ b < w2.heap.size) fun b h => ⟨h, fun o => hb8.cell (p := ⟨b, o, none⟩) (by have := OKX.out b h; show b < _; omega)⟩)
  have HOA9 := Lib.hid (own_later HOA8.out hb8)
  have HOB9 := Lib.hid (own_later HOB8.out hb8)
  have HOW9 := Lib.hid (own_later HOW8.out hb8)
  clear X8 Q8 A8 B8 C7 hC8 HX8 HOA8 HOB8 HOW8
  obtain ⟨b0, b1⟩ := id B9
  obtain ⟨c0, c1⟩ := id C9
  go_wp2_with fail
  clear b0 b1 c0 c1
  refine (same_any w8 _ (makeL t) (makeL t) (makeS t) (makeS t) Ab Aw cb cw (sts_all HOB9.out hll) (sts_all HOW9.out hll) (fun b h => h)).mono ?_
  rintro e w9 ⟨rfl, hb9⟩
  rw [sameM_self]
  have hz9 := hb9.size
  have hC10 := hC9.trans (hb9.mono (by omega))
  have X10 := X9.later hb9 (by omega)
  have Q10 := Q9.later hb9 (by omega)
  have A10 := A9.later hb9 (by omega)
  have B10 := B9.later hb9 (by omega)
  have C10 := C9.later hb9 (by omega)
  have HX10 := Lib.hid (HX9.out.mono (w' := w9) (ok' := fun b => w1.heap.size ≤ b ∧ b < w2.heap.size) fun b h => ⟨h, fun o => hb9.cell (p := ⟨b, o, none⟩) (by have := OKX.out b h; show b < _; omega)⟩)
  have HOA10 := Lib.hid (own_later HOA9.out hb9)
  have HOB10 := Lib.hid (own_later HOB9.out hb9)
  have HOW10 := Lib.hid (own_later HOW9.out hb9)
  clear X9 Q9 A9 B9 C9 hC9 HX9 HOA9 HOB9 HOW9
  obtain ⟨p0, p1, p2, p3, p4, p5, p6, p7⟩ := id Q10
  simp only [Nat.zero_add] at p1 p2 p3 p4 p5 p6 p7
  obtain ⟨x0, x1, x2, x3, x4, x5, x6, x7⟩ := id X10
  simp only [Nat.zero_add] at x1 x2 x3 x4 x5 x6 x7
  go_wp2_with fail
  clear p0 p1 p2 p3 p4 p5 p6 p7 x0 x1 x2 x3 x4 x5 x6 x7
  have hNx : ∀ {W : World}, Below w.heap.size w W → NodeAt W (fun b => b < W.heap.size) t A c := fun hB => (HN.out.later hB Hok.out).mono fun b h => ⟨by have := Hok.out b h; have := hB.size; omega, fun _ => rfl⟩
  have HNx : ∀ (W : World), Below w.heap.size w W → Hid (NodeAt W (fun b => b < W.heap.size) t A c) := fun W hB => Lib.hid (hNx hB)
  clear hNx
  refine (kept_any t w9 (fun b => b < w9.heap.size) A' A c' c (HX10.out.mono fun b h => ⟨by have := OKX.out b h; omega, fun _ => rfl⟩) (HNx w9 hC10).out (fun b h => h)).mono ?_
  rintro e w10 ⟨rfl, hb10⟩
  have hz10 := hb10.size
  have hC11 := hC10.trans (hb10.mono (by omega))
  have X11 := X10.later hb10 (by omega)
  have Q11 := Q10.later hb10 (by omega)
  have A11 := A10.later hb10 (by omega)
  have B11 := B10.later hb10 (by omega)
  have C11 := C10.later hb10 (by omega)
  have HX11 := Lib.hid (HX10.out.mono (w' := w10) (ok' := fun b => w1.heap.size ≤ b ∧ b < w2.heap.size) fun b h => ⟨h, fun o => hb10.cell (p := ⟨b, o, none⟩) (by have := OKX.out b h; show b < _; omega)⟩)
  have HOA11 := Lib.hid (own_later HOA10.out hb10)
  have HOB11 := Lib.hid (own_later HOB10.out hb10)
  have HOW11 := Lib.hid (own_later HOW10.out hb10)
  clear X10 Q10 A10 B10 C10 hC10 HX10 HOA10 HOB10 HOW10
  obtain ⟨a0, a1⟩ := id A11
  go_wp2_with fail
  clear a0 a1
  refine (spoil_any w10 (makeL t) (makeS t) w3.heap.size Aa ca HOA11.out (by omega) (by omega)).mono ?_
  rintro e w11 ⟨rfl, hs11⟩
  have hz11 := hs11.size
  have hne : ∀ b, b < w3.heap.size ∨ w4.heap.size ≤ b → some b ≠ (Value.slice Aa (makeL t).length ca).ownBlock := fun b hb e => by have := HRA.out b e.symm; omega
  have hC12 : Below w.heap.size w w11 := ⟨hs11.os.trans hC11.os, hs11.tape.trans hC11.tape, hs11.output.trans hC11.output, Nat.le_trans hC11.size hs11.size, fun k hk => (hs11.block k (by omega) (hne k (by omega))).trans (hC11.block k hk)⟩
  have X12 : At8 w11 w2.heap.size 0 t A' c' := X11.mono fun o => hs11.cell (by omega) (hne _ (by omega))
  have Q12 : At8 w11 w.heap.size 0 t A c := Q11.mono fun o => hs11.cell (by omega) (hne _ (by omega))
  have B12 : At2 w11 w5.heap.size (.slice Ab (makeL t).length cb) (makeS t) := ⟨(hs11.cell (by omega) (hne _ (by omega))).trans B11.f0, (hs11.cell (by omega) (hne _ (by omega))).trans B11.f1⟩
  have C12 : At2 w11 w7.heap.size (.slice Aw (makeL t).length cw) (makeS t) := ⟨(hs11.cell (by omega) (hne _ (by omega))).trans C11.f0, (hs11.cell (by omega) (hne _ (by omega))).trans C11.f1⟩
  have HX12 := Lib.hid (HX11.out.mono (w' := w11) (ok' := fun b => w1.heap.size ≤ b ∧ b < w2.heap.size) fun b h => ⟨h, fun o => hs11.cell (by omega) (hne _ (by omega))⟩)
  have HOB12 := Lib.hid (hs11.own HOB11.out (fun k hk => hne k (by have := HRB.out k hk; omega)))
  have HOW12 := Lib.hid (hs11.own HOW11.out (fun k hk => hne k (by have := HRW.out k hk; omega)))
  clear X11 Q11 A11 B11 C11 hC11 HX11 HOA11 HOB11 HOW11 hne
  obtain ⟨b0, b1⟩ := id B12
  obtain ⟨c0, c1⟩ := id C12
  go_wp2_with fail
  clear b0 b1 c0 c1
  refine (same_any w11 _ (makeL t) (makeL t) (makeS t) (makeS t) Ab Aw cb cw (sts_all HOB12.out hll) (sts_all HOW12.out hll) (fun b h => h)).mono ?_
  rintro e w12 ⟨rfl, hb12⟩
  rw [sameM_self]
  have hz12 := hb12.size
  have hC13 := hC12.trans (hb12.mono (by omega))
  have X13 := X12.later hb12 (by omega)
  have Q13 := Q12.later hb12 (by omega)
  have HX13 := Lib.hid (HX12.out.mono (w' := w12) (ok' := fun b => w1.heap.size ≤ b ∧ b < w2.heap.size) fun b h => ⟨h, fun o => hb12.cell (p := ⟨b, o, none⟩) (by have := OKX.out b h; show b < _; omega)⟩)
  clear X12 Q12 B12 C12 hC12 HX12 HOB12 HOW12
  obtain ⟨p0, p1, p2, p3, p4, p5, p6, p7⟩ := id Q13
  simp only [Nat.zero_add] at p1 p2 p3 p4 p5 p6 p7
  obtain ⟨x0, x1, x2, x3, x4, x5, x6, x7⟩ := id X13
  simp only [Nat.zero_add] at x1 x2 x3 x4 x5 x6 x7
  go_wp2_with fail
  clear p0 p1 p2 p3 p4 p5 p6 p7 x0 x1 x2 x3 x4 x5 x6 x7
  refine (kept_any t w12 (fun b => b < w12.heap.size) A' A c' c (HX13.out.mono fun b h => ⟨by have := OKX.out b h; omega, fun _ => rfl⟩) (HNx w12 hC13).out (fun b h => h)).mono ?_
  rintro e w13 ⟨rfl, hb13⟩
  have hz13 := hb13.size
  go_wp2_with fail
  refine (works_any w13).mono ?_
  rintro e w14 ⟨rfl, hb14⟩
  go_wp2_with fail
  go_ret
  exact ⟨rfl, (hC13.trans (hb13.mono (by omega))).trans (hb14.mono (by omega))⟩
end Go.Proofs.Ytdpmbanfaigmcaa

/- match.Has: walked. -/
set_option linter.unusedVariables false
set_option linter.unusedSimpArgs false
namespace Go.Proofs.Ytdpmbanfaigmcaa
open Go.RowKit

theorem Try.infoBool : (Try.prog.info? 4).map (fun i => (i.zero, i.size, i.bytes)) = some (some (.bool false), 1, 1) := by kernel_rfl

theorem hr_start (w1 : World) (l : List St) (sa : Int) (A : Option Addr) (c i j : Nat) (hij : (i = w1.heap.size ∧ j = w1.heap.size + 1) ∨ (i = w1.heap.size + 1 ∧ j = w1.heap.size)) :
    (fun W => HR W w1.heap.size (w1.heap.size + 2) i j l sa A c false false [] 0 none 0 [] 0 none 0 ∧ Below w1.heap.size w1 W) ((((w1.alloc (.cells (madeCells #[.bool false] l.length) 4)).alloc (.cells (madeCells #[.bool false] l.length) 4)).alloc (.cells #[.slice A l.length c, .int .i64 sa, .slice none 0 0, .slice (some ⟨i, 0, none⟩) l.length l.length, .slice none 0 0, .slice (some ⟨j, 0, none⟩) l.length l.length, .bool false, .bool false] 77)).drew) := by
  have hM : ∀ i, i < l.length → (madeCells #[.bool false] l.length)[i]? = some (.bool false) := fun i hi => by
    rw [← Array.getElem?_toList, toList_madeCells_one]
    simp [hi]
  generalize madeCells #[.bool false] l.length = M at *
  generalize hW : World.drew _ = W
  have hb : Below w1.heap.size w1 W := by
    subst hW
    exact ((((Below.refl w1.heap.size w1).alloc (Nat.le_refl _) _).alloc (by simp) _).alloc (by simp; omega) _).drew
  have hz : W.heap.size = w1.heap.size + 3 := by subst hW; simp
  generalize hR : (#[.slice A l.length c, .int .i64 sa, .slice none 0 0, .slice (some ⟨i, 0, none⟩) l.length l.length, .slice none 0 0, .slice (some ⟨j, 0, none⟩) l.length l.length, .bool false, .bool false] : Array Value) = R at *
  have k0 : W.heap[w1.heap.size]? = some (.cells M 4) := by
    subst hW
    show (((w1.heap.push _).push _).push _)[_]? = _
    simp [Array.getElem?_push] <;> omega
  have k1 : W.heap[w1.heap.size + 1]? = some (.cells M 4) := by
    subst hW
    show (((w1.heap.push _).push _).push _)[_]? = _
    rw [Array.getElem?_push, if_neg (by simp), Array.getElem?_push, if_pos (by simp)]
  have k2 : W.heap[w1.heap.size + 2]? = some (.cells R 77) := by
    subst hW
    show (((w1.heap.push _).push _).push _)[_]? = _
    rw [Array.getElem?_push, if_pos (by simp)]
  have hcT : ∀ k o, k = w1.heap.size ∨ k = w1.heap.size + 1 → o < l.length → W.cell? ⟨k, o, none⟩ = some (.bool false) := fun k o hk ho => by
    rcases hk with rfl | rfl
    · unfold World.cell?; simp only [k0]; exact hM o ho
    · unfold World.cell?; simp only [k1]; exact hM o ho
  have hfT : ∀ k o, k = w1.heap.size ∨ k = w1.heap.size + 1 ∨ k = w1.heap.size + 2 → W.frozen? ⟨k, o, none⟩ = false := fun k o hk => by
    rcases hk with rfl | rfl | rfl
    · unfold World.frozen?; simp [k0]
    · unfold World.frozen?; simp [k1]
    · unfold World.frozen?; simp [k2]
  have hq : ∀ o, W.cell? ⟨w1.heap.size + 2, o, none⟩ = R[o]? := fun o => by
    unfold World.cell?; simp [k2]
  have hi : i = w1.heap.size ∨ i = w1.heap.size + 1 := by omega
  have hj : j = w1.heap.size ∨ j = w1.heap.size + 1 := by omega
  subst hR
  have hrow : W.ownsRow w1.heap.size 3 1 (.slice none 0 0) 0 (ints []) := ⟨rfl, .inl ⟨rfl, rfl⟩⟩
  exact ⟨⟨hq 0, hq 6, hq 7, fun o => hfT _ o (by omega), ⟨rfl, hq 2, hq 3, hrow, fun o ho => (hcT i o hi ho).trans (by simp), fun o => hfT i o (by omega), by omega, by omega, by simp [Value.ownBlock], by simp [Value.ownBlock], by simp, List.nodup_nil⟩, ⟨rfl, hq 4, hq 5, hfT _ 4 (by omega), hrow, fun o ho => (hcT j o hj ho).trans (by simp), fun o => hfT j o (by omega), by omega, by omega, by omega, by simp [Value.ownBlock], by simp [Value.ownBlock], by simp, List.nodup_nil, by omega⟩, by omega, by simp [Value.ownBlock], by simp [Value.ownBlock], .inl rfl, by omega, by omega, by omega⟩, hb⟩
theorem hr_swapped {w : World} {B q T1 T2 : Nat} {l : List St} {sa : Int} {Am : Option Addr} {cm : Nat} {b e : Bool} {X Y : List Nat} {n m : Nat} {A A2 : Option Addr} {c c2 : Nat} (h : HR w B q T1 T2 l sa Am cm b e X n A c Y m A2 c2) :
    (fun W => HR W B q T2 T1 l sa Am cm b e Y m A2 c2 X n A c ∧ ∀ S, S ≤ q → Below S w W) ((((w.setCell ⟨q, 2, none⟩ (.slice A2 m c2)).setCell ⟨q, 3, none⟩ (.slice (some ⟨T2, 0, none⟩) l.length l.length)).setCell ⟨q, 4, none⟩ (.slice A n c)).setCell ⟨q, 5, none⟩ (.slice (some ⟨T1, 0, none⟩) l.length l.length)).drew := by
  generalize hW1 : w.setCell ⟨q, 2, none⟩ (.slice A2 m c2) = W1
  generalize hW2 : W1.setCell ⟨q, 3, none⟩ (.slice (some ⟨T2, 0, none⟩) l.length l.length) = W2
  generalize hW3 : W2.setCell ⟨q, 4, none⟩ (.slice A n c) = W3
  have c1 : ∀ o, o ≠ 2 → W1.cell? ⟨q, o, none⟩ = w.cell? ⟨q, o, none⟩ := fun o ho => by subst hW1; exact World.cell?_setCell_other _ _ _ _ (by simp <;> omega)
  have c2' : ∀ o, o ≠ 3 → W2.cell? ⟨q, o, none⟩ = W1.cell? ⟨q, o, none⟩ := fun o ho => by subst hW2; exact World.cell?_setCell_other _ _ _ _ (by simp <;> omega)
  have c3 : ∀ o, o ≠ 4 → W3.cell? ⟨q, o, none⟩ = W2.cell? ⟨q, o, none⟩ := fun o ho => by subst hW3; exact World.cell?_setCell_other _ _ _ _ (by simp <;> omega)
  have c4 : ∀ o, o ≠ 5 → (W3.setCell ⟨q, 5, none⟩ (.slice (some ⟨T1, 0, none⟩) l.length l.length)).drew.cell? ⟨q, o, none⟩ = W3.cell? ⟨q, o, none⟩ := fun o ho => by
    rw [World.cell?_drew]; exact World.cell?_setCell_other _ _ _ _ (by simp <;> omega)
  have d1 : W1.cell? ⟨q, 2, none⟩ = some (.slice A2 m c2) := by subst hW1; exact World.cell?_setCell_same _ _ _ h.now.f2
  have d2 : W2.cell? ⟨q, 3, none⟩ = some (.slice (some ⟨T2, 0, none⟩) l.length l.length) := by subst hW2; exact World.cell?_setCell_same _ _ _ ((c1 3 (by omega)).trans h.now.f3)
  have d3 : W3.cell? ⟨q, 4, none⟩ = some (.slice A n c) := by subst hW3; exact World.cell?_setCell_same _ _ _ ((c2' 4 (by omega)).trans ((c1 4 (by omega)).trans h.next.f4))
  have d4 : (W3.setCell ⟨q, 5, none⟩ (.slice (some ⟨T1, 0, none⟩) l.length l.length)).drew.cell? ⟨q, 5, none⟩ = some (.slice (some ⟨T1, 0, none⟩) l.length l.length) := by
    rw [World.cell?_drew]; exact World.cell?_setCell_same _ _ _ ((c3 5 (by omega)).trans ((c2' 5 (by omega)).trans ((c1 5 (by omega)).trans h.next.f5)))
  have hall : ∀ o, o ≠ 2 → o ≠ 3 → o ≠ 4 → o ≠ 5 → (W3.setCell ⟨q, 5, none⟩ (.slice (some ⟨T1, 0, none⟩) l.length l.length)).drew.cell? ⟨q, o, none⟩ = w.cell? ⟨q, o, none⟩ := fun o h2 h3 h4 h5 => (c4 o h5).trans ((c3 o h4).trans ((c2' o h3).trans (c1 o h2)))
  have hk : ∀ k, k ≠ q → (W3.setCell ⟨q, 5, none⟩ (.slice (some ⟨T1, 0, none⟩) l.length l.length)).drew.heap[k]? = w.heap[k]? := fun k hk => by
    subst hW3 hW2 hW1
    exact (Below.heap_setCell _ _ _ _ hk).trans ((Below.heap_setCell _ _ _ _ hk).trans ((Below.heap_setCell _ _ _ _ hk).trans (Below.heap_setCell _ _ _ _ hk)))
  have hz : (W3.setCell ⟨q, 5, none⟩ (.slice (some ⟨T1, 0, none⟩) l.length l.length)).drew.heap.size = w.heap.size := by subst hW3 hW2 hW1; simp
  have hos : (W3.setCell ⟨q, 5, none⟩ (.slice (some ⟨T1, 0, none⟩) l.length l.length)).drew.os = w.os ∧ (W3.setCell ⟨q, 5, none⟩ (.slice (some ⟨T1, 0, none⟩) l.length l.length)).drew.tape = w.tape ∧ (W3.setCell ⟨q, 5, none⟩ (.slice (some ⟨T1, 0, none⟩) l.length l.length)).drew.output = w.output := by subst hW3 hW2 hW1; exact ⟨rfl, rfl, rfl⟩
  have hf : ∀ a, (W3.setCell ⟨q, 5, none⟩ (.slice (some ⟨T1, 0, none⟩) l.length l.length)).drew.frozen? a = w.frozen? a := fun a => by
    subst hW3 hW2 hW1
    rw [World.frozen?_drew, World.frozen?_setCell, World.frozen?_setCell, World.frozen?_setCell, World.frozen?_setCell]
  exact ⟨h.swap hz hos.1 hos.2.1 hos.2.2 hk hf (hall 0 (by omega) (by omega) (by omega) (by omega)) (hall 6 (by omega) (by omega) (by omega) (by omega)) (hall 7 (by omega) (by omega) (by omega) (by omega)) ((c4 2 (by omega)).trans ((c3 2 (by omega)).trans ((c2' 2 (by omega)).trans d1))) ((c4 3 (by omega)).trans ((c3 3 (by omega)).trans d2)) ((c4 4 (by omega)).trans d3) d4, fun S hS => ⟨hos.1, hos.2.1, hos.2.2, by omega, fun k hk' => hk k (by omega)⟩⟩

theorem Nw.at_ {w : World} {B q T N : Nat} {X : List Nat} {n : Nat} {A : Option Addr} {c : Nat} (h : Nw w B q T N X n A c) {i : Nat} (hi : i < n) : ∃ g, A = some ⟨g, 0, none⟩ ∧ g < w.heap.size ∧ n ≤ c ∧ w.cell? ⟨g, i, none⟩ = some (.int .i64 ((X.getD i 0 : Nat) : Int)) := by
  have hl := h.len
  rcases h.row.2 with ⟨_, h0⟩ | ⟨g, cap, cur, e, hb, hh, hcap, _⟩
  · omega
  · simp only [Value.slice.injEq] at e
    obtain ⟨rfl, _, rfl⟩ := e
    refine ⟨g, rfl, by (rcases Nat.lt_or_ge g w.heap.size with h' | h'; exact h'; rw [Array.getElem?_eq_none h'] at hh; simp at hh), hcap, ?_⟩
    rw [h.row.cellAt i (by omega)]
    simp [ints, List.getD_eq_getElem?_getD, List.getElem?_eq_getElem (show i < X.length by omega)]

theorem below_drewN (w : World) (n : Nat) : Below w.heap.size w (w.drewN n) := ⟨rfl, rfl, rfl, Nat.le_refl _, fun _ _ => rfl⟩
theorem bits_and1 (v : Int) : bits .and .u64 v 1 = v % 2 := by
  have h1 : bits .and .u64 v 1 = IntKind.u64.wrap ((((v % 2 ^ 64).toNat &&& 1 : Nat)) : Int) := by
    show IntKind.u64.wrap (((BitVec.ofInt 64 v &&& BitVec.ofInt 64 1).toNat : Nat) : Int) = _
    rw [BitVec.toNat_and, BitVec.toNat_ofInt, BitVec.toNat_ofInt]
    rfl
  rw [h1, Nat.and_one_is_mod]
  have : IntKind.u64.wrap (((v % 2 ^ 64).toNat % 2 : Nat) : Int) = (((v % 2 ^ 64).toNat % 2 : Nat) : Int) % 2 ^ 64 := by
    simp [IntKind.wrap, IntKind.bits, IntKind.signed]
  rw [this]
  omega
theorem idx_get (subj : Bs) (a : Nat) (h0 : a ≠ 0) (h : a ≤ subj.length) (hh : a - 1 < (bs subj).size) : ((bs subj)[a - 1]'hh).toNat = byteN subj a := by
  have : ∀ i (hi : i < (bs subj).size), (bs subj)[i]'hi = subj.getD i 0 := fun i hi => by
    have : i < subj.length := by simpa [bs, ByteArray.size] using hi
    simp only [List.getD_eq_getElem?_getD, List.getElem?_eq_getElem this, Option.getD_some]
    rfl
  rw [this]; rfl
theorem bit_word (c : Nat) (hc : c < 256) (sk s0 s1 s2 s3 nx ot : Int) : ∃ i r : Nat, i < 4 ∧ r < 64 ∧ IntKind.u8.wrap ((c : Int) / 64) = (i : Int) ∧ (c : Int).tmod 64 = (r : Int) ∧ bitS ⟨sk, s0, s1, s2, s3, nx, ot⟩ c = ((wordN ⟨sk, s0, s1, s2, s3, nx, ot⟩ i / 2 ^ r) % 2 == 1) := by
  refine ⟨c / 64, c % 64, by omega, by omega, ?_, ?_, rfl⟩
  · rw [IntKind.wrap_u8]; omega
  · rw [Int.tmod_eq_emod_of_nonneg (by omega)]; omega
set_option maxRecDepth 100000 in
set_option maxHeartbeats 8000000 in
theorem has_any (w : World) (ok : Nat → Prop) (l : List St) (sa : Int) (A : Option Addr) (c : Nat) (hA : StsAt w ok l A c) (hok : ∀ b, ok b → b < w.heap.size) (subj : Bs) :
    Calls Try.prog 32 #[nfaV l sa A c, .string (bs subj)] w fun en w' => en = .returned (.tuple #[.bool (hasF l sa subj).1, .int .i64 (hasF l sa subj).2.1, .int .i64 (hasF l sa subj).2.2]) ∧ Below w.heap.size w w' := by
  have HA := Lib.hid hA; have Hok := Lib.hid hok; clear hA hok
  go_enter Try.func32, Try.ntmps32
  go_wp2_with fail
  generalize hW : w.alloc _ = W0
  have hB0 : Below w.heap.size w W0 := by subst hW; exact (Below.refl _ _).alloc (Nat.le_refl _) _
  have hz0 : w.heap.size < W0.heap.size := by subst hW; simp
  have P0 : At2 W0 w.heap.size (.slice A l.length c) sa := by subst hW; constructor <;> simp [go_sem]
  clear hW
  obtain ⟨p0, p1⟩ := id P0
  go_step3
  go_wp2_with fail
  clear p0 p1
  refine (ncheck_any W0 ok l sa A c (HA.out.later hB0 Hok.out) (fun b h => by have := Hok.out b h; omega)).mono ?_
  rintro en w1 ⟨rfl, hb1⟩
  have hz1 := hb1.size
  have hB1 := hB0.trans (hb1.mono (by omega))
  have P1 := P0.later hb1 hz0
  clear P0 hB0
  by_cases hck : mcheck l sa = 0
  case' neg =>
    have hres : hasF l sa subj = (false, 0, mcheck l sa) := if_pos hck
    have Hres := Lib.hid hres
    have hb : (mcheck l sa != 0) = true := by rw [bne_iff_ne]; exact hck
    clear hres hck
    go_wp2_with fail
    try rw [Exit.noGoto_ret]
    exact bodyPost_ret (v := .tuple #[.bool false, .int .i64 0, .int .i64 (mcheck l sa)]) (by simp [results, Try.results32, go_sem]) rfl ⟨by rw [Hres.out], hB1⟩
  have hb : (mcheck l sa != 0) = false := by rw [hck]; rfl
  by_cases hlong : 65536 < subj.length
  · have hres : hasF l sa subj = (false, 0, 3) := by rw [hasF, if_neg (by simpa using hck), if_pos hlong]
    have Hres := Lib.hid hres
    clear hres hck
    go_wp2_with fail
    try rw [Exit.noGoto_ret]
    exact bodyPost_ret (v := .tuple #[.bool false, .int .i64 0, .int .i64 3]) (by simp [results, Try.results32, go_sem]) rfl ⟨by rw [Hres.out], hB1⟩
  have hres : hasF l sa subj = ((overF l sa subj (subj.length + 1) 0 [] 0).1, (overF l sa subj (subj.length + 1) 0 [] 0).2, 0) := by rw [hasF, if_neg (by simpa using hck), if_neg hlong]
  have Hres := Lib.hid hres
  have hm := mok_of hck
  have HM := Lib.hid hm
  have hl1 := hm.len
  have hl0 : 0 < l.length := by have := hm.start; omega
  clear hres hck hm
  have hmk := run_make_row' (P := Try.prog) 73 4 (.bool false) 1 Try.underlying73 Try.infoBool rfl .i64 .i64 l.length (by omega) (by omega)
  obtain ⟨p0, p1⟩ := id P1
  have hz01 : w.heap.size < w1.heap.size := by omega
  have hb0 := hB1.size
  go_upto_region 6 with fail
  go_cut [8] (fun v wx => ∃ (q T1 T2 : Nat), v = .pointer (some ⟨q, 0, none⟩) ∧ HR wx w1.heap.size q T1 T2 l sa A c false false [] 0 none 0 [] 0 none 0 ∧ Below w1.heap.size w1 wx)
  case first =>
    go_region
    all_goals go_wp2_with fail
    all_goals go_meet
    all_goals first
      | exact ⟨_, _, _, rfl, hr_start w1 l sa A c w1.heap.size (w1.heap.size + 1) (.inl ⟨rfl, rfl⟩)⟩
      | exact ⟨_, _, _, rfl, hr_start w1 l sa A c (w1.heap.size + 1) w1.heap.size (.inr ⟨rfl, rfl⟩)⟩
  case rest =>
    obtain ⟨q, T1, T2, rfl, hH, hBc⟩ := hcut
    clear hmk p0 p1
    have HH := Lib.hid hH; clear hH
    have hzc := hBc.size
    go_wp2_with fail
    try go_step3
    go_wp2_with fail
    obtain ⟨st, rfl⟩ : ∃ st : Nat, sa = st := ⟨sa.toNat, by have := HM.out.s0; omega⟩
    have hst := HM.out.s1
    go_loopg [9, 10, 11] (subj.length + 1) (fun k v9 v10 v11 wr => ∃ (a s T1 T2 : Nat) (X : List Nat) (n : Nat) (A1 : Option Addr) (c1 : Nat) (A2 : Option Addr) (c2 : Nat) (b e : Bool), v9 = .int .i64 (s : Int) ∧ v10 = .bool false ∧ v11 = .int .i64 (a : Int) ∧ a + k = subj.length + 1 ∧ s ≤ a * 5000 ∧ overF l st subj (subj.length + 1 - a) a X s = overF l st subj (subj.length + 1) 0 [] 0 ∧ HR wr w1.heap.size q T1 T2 l st A c b e X n A1 c1 [] 0 A2 c2 ∧ (a = 0 → X = []) ∧ Below w1.heap.size w1 wr)
    case atStart => exact ⟨0, 0, T1, T2, [], 0, none, 0, none, 0, false, false, rfl, rfl, rfl, by omega, by omega, rfl, HH.out, fun _ => rfl, hBc⟩
    case round =>
      clear HH hBc hzc
      obtain ⟨a, s, T1, T2, X, n, A1, c1, A2, c2, b, e, rfl, rfl, rfl, hak, hs, hov, hH, h0, hBr⟩ := hrel
      have hzr := hBr.size
      obtain ⟨p0, p1⟩ := P1.later hBr hz01
      have Hov := Lib.hid hov; have H0 := Lib.hid h0
      clear hov h0
      by_cases hle : a ≤ subj.length
      case' pos =>
        have e3 := hH.m6; have e4 := hH.m7; have z3 := hH.z 6; have z4 := hH.z 7
        have lq := hH.next.lq
        have HH := Lib.hid hH
        clear hH
        go_upto_region 12 with fail
        have hfl := HH.out.flags ((a : Int) == 0) ((a : Int) == (subj.length : Int))
        have hbe : Below w1.heap.size wr ((wr.setCell ⟨q, 6, none⟩ (.bool ((a : Int) == 0))).setCell ⟨q, 7, none⟩ (.bool ((a : Int) == (subj.length : Int)))) := by
          have hq1 : w1.heap.size ≤ q := HH.out.Bq
          exact ⟨rfl, rfl, rfl, by simp, fun k hk => (Below.heap_setCell _ _ _ _ (by show k ≠ q; omega)).trans (Below.heap_setCell _ _ _ _ (by show k ≠ q; omega))⟩
        rw [show ((a : Int) == 0) = (a == 0) from by rw [Bool.eq_iff_iff]; simp, show ((a : Int) == (subj.length : Int)) = (a == subj.length) from by rw [Bool.eq_iff_iff]; simp <;> omega] at hfl hbe
        rw [show ((a : Int) == 0) = (a == 0) from by rw [Bool.eq_iff_iff]; simp, show ((a : Int) == (subj.length : Int)) = (a == subj.length) from by rw [Bool.eq_iff_iff]; simp <;> omega]
        have hstep : stepF l st subj a X = X.foldl (eatF l (a == 0) (a == subj.length) (byteN subj a)) (addF l (a == 0) (a == subj.length) [] st) := by rw [stepF, Int.toNat_natCast]
        have Hstep := Lib.hid hstep
        clear hstep
        generalize hW : (wr.setCell _ _).setCell _ _ = W2 at *
        generalize (a == 0) = b1 at *
        generalize (a == subj.length) = e1 at *
        have hB2 := hBr.trans hbe
        have hz2 := hB2.size
        clear hW HH e3 e4 z3 z4 hBr hbe p0 p1 hzr lq
        obtain ⟨p0, p1⟩ := P1.later hB2 hz01
        have HH := Lib.hid hfl
        clear hfl
        go_wp2_with fail
        refine (add_par W2 w1.heap.size q T2 w1.heap.size l st HM.out ok A c b1 e1 (HA.out.later (hB1.trans (hB2.mono hb0)) Hok.out) (fun k hk => by have := Hok.out k hk; omega) HH.out.Bq HH.out.BT2 (Nat.le_refl _) HH.out.m0 HH.out.m6 HH.out.m7 [] 0 A2 c2 HH.out.next st (by omega)).mono ?_
        rintro en w3 ⟨rfl, n3, A3, c3, h3, hv3⟩
        have hH3 := HH.out.step h3 hv3
        have hB3 := hB2.trans (hv3.below HH.out.Bq HH.out.BT2 (fun k hk => (HH.out.next.own_le k hk).1) hz2)
        have hz3 := hB3.size
        have f2 := hH3.now.f2
        have hnl : n ≤ l.length := by rw [← hH3.now.len]; exact nodup_le hH3.now.nd hH3.now.lt
        have HH := Lib.hid hH3
        clear hH3 h3 hv3 p0 p1 hz2
        clear hB2
        obtain ⟨p0, p1⟩ := P1.later hB3 hz01
        go_wp2_with fail
        go_loopg [66] n (fun k v w4 => ∃ (j : Nat) (Y : List Nat) (m : Nat) (A3 : Option Addr) (c3 : Nat), v = .int .i64 (j : Int) ∧ j + k = n ∧ (X.drop j).foldl (eatF l b1 e1 (byteN subj a)) Y = stepF l st subj a X ∧ HR w4 w1.heap.size q T1 T2 l st A c b1 e1 X n A1 c1 Y m A3 c3 ∧ Below w1.heap.size w1 w4)
        case atStart => exact ⟨0, _, _, _, _, rfl, by omega, by rw [Hstep.out]; rfl, HH.out, hB3⟩
        case round =>
          clear HH hB3 hz3 p0 p1
          obtain ⟨j, Y, m, A3, c3, rfl, hjn, hfo, hH, hB4⟩ := hrel
          have Hfo := Lib.hid hfo
          clear hfo
          obtain ⟨p0, p1⟩ := P1.later hB4 hz01
          have hz4 := hB4.size
          by_cases hlt : j < n
          case' pos =>
            obtain ⟨g, rfl, hg, hnc, hcell⟩ := hH.now.at_ hlt
            have hx : X.getD j 0 < l.length := hH.now.lt _ (by rw [List.getD_eq_getElem?_getD, List.getElem?_eq_getElem (by rw [hH.now.len]; exact hlt)]; exact List.getElem_mem _)
            have hXl := hH.now.len
            have hdrop : X.drop j = X.getD j 0 :: X.drop (j + 1) := by
              rw [List.drop_eq_getElem_cons (by omega), List.getD_eq_getElem?_getD, List.getElem?_eq_getElem (by omega)]; rfl
            have ha0 : a ≠ 0 := fun e => by rw [H0.out e] at hXl; simp at hXl; omega
            obtain ⟨gm, om, rfl, hgm, hst7⟩ := (HA.out.later (hB1.trans (hB4.mono hb0)) Hok.out).at_ hl0
            have hgl := Hok.out gm hgm
            have hstx := hst7 (X.getD j 0) hx
            have hsN : l[X.getD j 0] = stN l (X.getD j 0) := by unfold stN; rw [List.getD_eq_getElem?_getD (l := l), List.getElem?_eq_getElem hx]; rfl
            rw [hsN] at hstx
            have hcap := HA.out.cap
            have hfo := Hfo.out
            rw [hdrop, List.foldl_cons] at hfo
            have hnx := fun hk => HM.out.next hx hk
            have hnx2 : (stN l (X.getD j 0)).k = 1 → (stN l (X.getD j 0)).nx = ((stN l (X.getD j 0)).nx.toNat : Int) := fun hk => by rcases HM.out.kinds hx with h | ⟨_, h, _⟩ | ⟨h, _⟩ <;> omega
            have HH := Lib.hid hH; have Hfo := Lib.hid hfo
            clear hH hfo hst7 hsN hdrop hXl
            unfold eatF at Hfo
            generalize hxe : X.getD j 0 = x at *
            generalize stN l x = sx at *
            obtain ⟨sk, s0, s1, s2, s3, nx, ot⟩ := sx
            obtain ⟨f0, f1, f2, f3, f4, f5, f6⟩ := hstx
            simp only at f0 f1 f2 f3 f4 f5 f6 hnx hnx2
            have hgw : gm < wr.heap.size := by omega
            clear hxe
            have Hnx := Lib.hid hnx; have Hnx2 := Lib.hid hnx2
            clear hnx hnx2
            go_upto_region 17 with fail
            generalize hW : wr.alloc _ = W5
            have hb5 : Below wr.heap.size wr W5 := by subst hW; exact (Below.refl _ _).alloc (Nat.le_refl _) _
            have b0 : W5.cell? ⟨wr.heap.size, 0, none⟩ = some (.int .i64 sk) := by subst hW; simp [go_sem]
            have b1' : W5.cell? ⟨wr.heap.size, 1, none⟩ = some (.int .u64 s0) := by subst hW; simp [go_sem]
            have b2 : W5.cell? ⟨wr.heap.size, 2, none⟩ = some (.int .u64 s1) := by subst hW; simp [go_sem]
            have b3 : W5.cell? ⟨wr.heap.size, 3, none⟩ = some (.int .u64 s2) := by subst hW; simp [go_sem]
            have b4 : W5.cell? ⟨wr.heap.size, 4, none⟩ = some (.int .u64 s3) := by subst hW; simp [go_sem]
            have b5 : W5.cell? ⟨wr.heap.size, 5, none⟩ = some (.int .i64 nx) := by subst hW; simp [go_sem]
            have lb : wr.heap.size < W5.heap.size := by subst hW; simp
            have hH5 := HH.out.later hb5
            have hB5 := hB4.trans (hb5.mono hz4)
            clear hW hb5 f0 f1 f2 f3 f4 f5 f6 p0 p1 HH hB4
            obtain ⟨p0, p1⟩ := P1.later hB5 hz01
            have HH := Lib.hid hH5
            clear hH5
            by_cases hk : sk = 1
            case' neg =>
              have ht : takes ⟨sk, s0, s1, s2, s3, nx, ot⟩ (byteN subj a) = false := by
                have : (sk == 1) = false := by simpa using hk
                unfold takes; rw [show (⟨sk, s0, s1, s2, s3, nx, ot⟩ : St).k = sk from rfl, this]; rfl
              have hfo : (X.drop (j + 1)).foldl (eatF l b1 e1 (byteN subj a)) Y = stepF l st subj a X := by
                have := Hfo.out
                rwa [if_neg (by rw [ht]; simp)] at this
              clear Hfo
              have Hfo := Lib.hid hfo
              clear hfo ht
              have hkb : (sk == 1) = false := by simpa using hk
              clear hk
              go_quiet (fail)
              go_wp2_with fail
              go_roundg (gk - 1)
              case measure => omega
              case rel => exact ⟨j + 1, _, _, _, _, by go_num, by omega, Hfo.out, HH.out.later (below_drewN _ _), hB5.trans ((below_drewN _ _).mono (by omega))⟩
            case' pos =>
              subst hk
              have hidx : ∀ hh, ((bs subj)[a - 1]'hh).toNat = byteN subj a := idx_get subj a ha0 hle
              have ha5 : (1 : Int) ≤ (a : Int) := by omega
              have hcl : byteN subj a < 256 := by unfold byteN; exact UInt8.toNat_lt _
              obtain ⟨wi, wr', hi4, hr64, hqu, hre, hbw⟩ := bit_word (byteN subj a) hcl 1 s0 s1 s2 s3 nx ot
              have htk : takes ⟨1, s0, s1, s2, s3, nx, ot⟩ (byteN subj a) = bitS ⟨1, s0, s1, s2, s3, nx, ot⟩ (byteN subj a) := rfl
              have hfo := Hfo.out
              rw [htk, hbw] at hfo
              clear Hfo
              have Hfo := Lib.hid hfo
              clear hfo htk hbw
              generalize hword : wordN ⟨1, s0, s1, s2, s3, nx, ot⟩ wi = wd at *
              have bw : W5.cell? ⟨wr.heap.size, 1 + wi, none⟩ = some (.int .u64 wd) := by
                subst hword
                rcases (by omega : wi = 0 ∨ wi = 1 ∨ wi = 2 ∨ wi = 3) with rfl | rfl | rfl | rfl
                · exact b1'
                · exact b2
                · exact b3
                · exact b4
              clear hword b1' b2 b3 b4
              have hand := bits_and1 (wd / 2 ^ wr')
              have ha1 : 0 ≤ (a : Int) - 1 := by omega
              have ha2 : (a : Int) - 1 < (subj.length : Int) := by omega
              have ha3 : (bs subj).size = subj.length := by simp [bs, ByteArray.size]
              have hwr : IntKind.i64.wrap ((a : Int) - 1) = (a : Int) - 1 := IntWalk.i64_in _ (by omega)
              by_cases hbit : wd / 2 ^ wr' % 2 = 1
              case' neg =>
                have hbb : (wd / 2 ^ wr' % 2 == 1) = false := by simpa using hbit
                have hfo : (X.drop (j + 1)).foldl (eatF l b1 e1 (byteN subj a)) Y = stepF l st subj a X := by
                  have := Hfo.out
                  rwa [if_neg (by rw [hbb]; simp)] at this
                clear Hfo
                have Hfo := Lib.hid hfo
                clear hfo
                go_quiet (fail)
                go_wp2_with fail
                go_roundg (gk - 1)
                case measure => omega
                case rel => exact ⟨j + 1, _, _, _, _, by go_num, by omega, Hfo.out, HH.out.later (below_drewN _ _), hB5.trans ((below_drewN _ _).mono (by omega))⟩
              case' pos =>
                have hbb : (wd / 2 ^ wr' % 2 == 1) = true := by simpa using hbit
                have hfo : (X.drop (j + 1)).foldl (eatF l b1 e1 (byteN subj a)) (addF l b1 e1 Y nx.toNat) = stepF l st subj a X := by
                  have := Hfo.out
                  rwa [if_pos (by rw [hbb])] at this
                clear Hfo
                have Hfo := Lib.hid hfo
                clear hfo
                have hn1 := Hnx.out rfl
                go_quiet (fail)
                obtain ⟨xn, rfl⟩ : ∃ xn : Nat, nx = xn := ⟨nx.toNat, Hnx2.out rfl⟩
                have Hb5 := Lib.hid b5
                clear hbit hbb hand hwr ha1 ha2 ha3 ha5 hidx hqu hre bw
                go_wp2_with fail
                refine (add_par (W5.drewN nq) w1.heap.size q T2 w1.heap.size l st HM.out ok (some ⟨gm, om, none⟩) c b1 e1 (HA.out.later (hB1.trans ((hB5.trans ((below_drewN _ _).mono (by omega))).mono hb0)) Hok.out) (fun k hk => by have := Hok.out k hk; omega) HH.out.Bq HH.out.BT2 (Nat.le_refl _) HH.out.m0 HH.out.m6 HH.out.m7 Y m A3 c3 (HH.out.later (below_drewN _ _)).next xn (by simpa using hn1)).mono ?_
                rintro en w6 ⟨rfl, n6, A6, c6, h6, hv6⟩
                have hH6 := (HH.out.later (below_drewN W5 nq)).step h6 hv6
                have hB6 := (hB5.trans ((below_drewN W5 nq).mono (by omega))).trans (hv6.below HH.out.Bq HH.out.BT2 (fun k hk => (HH.out.next.own_le k hk).1) (by show _ ≤ W5.heap.size; omega))
                have HH := Lib.hid hH6
                clear hH6 h6 hv6
                go_wp2_with fail
                go_roundg (gk - 1)
                case measure => omega
                case rel => exact ⟨j + 1, _, _, _, _, by go_num, by omega, by simpa using Hfo.out, HH.out, hB6⟩
          case' neg =>
            have hYs : Y = stepF l st subj a X := by
              rw [← Hfo.out, List.drop_eq_nil_of_le (by rw [hH.now.len]; omega)]; rfl
            have hml : m ≤ l.length := by rw [← hH.next.len]; exact nodup_le hH.next.nd hH.next.lt
            have hYm := hH.next.len
            have f4 := hH.next.f4
            have hover : overF l st subj (subj.length + 1 - a) a X s = if doneF l Y = true then (true, (s : Int) + m) else overF l st subj (subj.length - a) (a + 1) Y ((s : Int) + m) := by
              rw [show subj.length + 1 - a = (subj.length - a) + 1 by omega, overF, ← hYs, hYm]
            have hov := Hov.out
            rw [hover] at hov
            have HH := Lib.hid hH; have Hov := Lib.hid hov; have HYs := Lib.hid hYs
            have hs2 : s + m ≤ (a + 1) * 5000 := by omega
            have HYm := Lib.hid hYm
            clear hH hov hYs hover hYm Hstep Hfo
            go_wp2_with fail
            generalize hwr : wr = wv at *
            go_loopg [10, 115] m (fun k v10 v wq => ∃ i : Nat, v10 = .bool false ∧ v = .int .i64 (i : Int) ∧ i + k = m ∧ wq = wv ∧ ∀ p, p < i → (stN l (Y.getD p 0)).k ≠ 5)
            case atStart => exact ⟨0, rfl, rfl, by omega, rfl, fun _ h => by omega⟩
            case round =>
              obtain ⟨i, rfl, rfl, him, rfl, hno⟩ := hrel
              have Hno := Lib.hid hno
              clear hno
              by_cases hlt2 : i < m
              case' pos =>
                obtain ⟨g, rfl, hg, hnc, hcell⟩ := HH.out.next.at_ hlt2
                have hx : Y.getD i 0 < l.length := HH.out.next.lt _ (by rw [List.getD_eq_getElem?_getD, List.getElem?_eq_getElem (by rw [HH.out.next.len]; exact hlt2)]; exact List.getElem_mem _)
                obtain ⟨gm, om, rfl, hgm, hst7⟩ := (HA.out.later (hB1.trans (hB4.mono hb0)) Hok.out).at_ hl0
                have hgl := Hok.out gm hgm
                have hstx := hst7 (Y.getD i 0) hx
                have hsN : l[Y.getD i 0] = stN l (Y.getD i 0) := by unfold stN; rw [List.getD_eq_getElem?_getD (l := l), List.getElem?_eq_getElem hx]; rfl
                rw [hsN] at hstx
                have hcap := HA.out.cap
                have f0 := hstx.f0
                clear hst7 hsN hstx
                generalize hxe : Y.getD i 0 = x at *
                have Hxe := Lib.hid hxe
                clear hxe
                by_cases hk5 : (stN l x).k = 5
                case' pos =>
                  have hdone : doneF l Y = true := by
                    unfold doneF
                    rw [List.any_eq_true]
                    have hil : i < Y.length := by rw [HH.out.next.len]; exact hlt2
                    refine ⟨Y[i], List.getElem_mem _, ?_⟩
                    rw [← Hxe.out, List.getD_eq_getElem?_getD, List.getElem?_eq_getElem hil] at hk5
                    simpa using hk5
                  have hov := Hov.out
                  rw [if_pos hdone] at hov
                  have Hov := Lib.hid hov
                  rw [hk5] at f0
                  clear hov hdone hk5
                  go_wp2_with fail
                  rw [Exit.noGoto_ret]
                  exact bodyPost_ret (v := .tuple #[.bool true, .int .i64 ((s : Int) + m), .int .i64 0]) (by simp [results, Try.results32, go_sem]) rfl ⟨by rw [Hres.out, ← Hov.out], hB1.trans (hB4.mono hb0)⟩
                case' neg =>
                  have hk5b : ((stN l x).k == 5) = false := by simpa using hk5
                  have Hk5 := Lib.hid hk5
                  clear hk5
                  go_wp2_with fail
                  go_roundg (gk - 1)
                  case measure => omega
                  case rel => exact ⟨i + 1, rfl, by go_num, by omega, rfl, fun p hp => by (by_cases e9 : p = i; (subst e9; rw [Hxe.out]; exact Hk5.out); exact Hno.out p (by omega))⟩
              case' neg =>
                have hdone : doneF l Y = false := by
                  unfold doneF
                  rw [List.any_eq_false]
                  intro y hy
                  obtain ⟨p, hp, rfl⟩ := List.getElem_of_mem hy
                  have := Hno.out p (by rw [← HYm.out] at hlt2; omega)
                  rw [List.getD_eq_getElem?_getD, List.getElem?_eq_getElem hp] at this
                  simpa using this
                have hov := Hov.out
                rw [if_neg (by rw [hdone]; simp)] at hov
                clear Hov
                have Hov := Lib.hid hov
                clear hov hdone
                have f2 := HH.out.now.f2; have f3 := HH.out.now.f3; have f4 := HH.out.next.f4; have f5 := HH.out.next.f5
                have z2 := HH.out.z 2; have z3 := HH.out.z 3; have z4 := HH.out.z 4; have z5 := HH.out.z 5
                have lq := HH.out.next.lq
                go_upto_region 27 with fail
                go_cut [8] (fun v wx => v = .pointer (some ⟨q, 0, none⟩) ∧ HR wx w1.heap.size q T2 T1 l st A c b1 e1 Y m A3 c3 X n A1 c1 ∧ Below w1.heap.size w1 wx)
                case first =>
                  go_region
                  all_goals go_wp2_with fail
                  all_goals go_meet
                  all_goals exact ⟨rfl, (hr_swapped HH.out).1, hB4.trans ((hr_swapped HH.out).2 _ HH.out.Bq)⟩
                case rest =>
                  obtain ⟨rfl, hH, hBc⟩ := hcut
                  clear f2 f3 f4 f5 z2 z3 z4 z5 lq
                  have HH := Lib.hid hH
                  clear hH
                  have hzc := hBc.size
                  go_wp2_with fail
                  refine (empty_any wc w1.heap.size q T1 l.length X n A1 c1 HH.out.next hl0 (by omega)).mono ?_
                  rintro en w7 ⟨rfl, h7, hv7⟩
                  have hH7 := HH.out.step h7 hv7
                  have hB7 := hBc.trans (hv7.below HH.out.Bq HH.out.BT2 (fun k hk => (HH.out.next.own_le k hk).1) hzc)
                  clear HH
                  have HH := Lib.hid hH7
                  clear hH7 h7 hv7
                  go_wp2_with fail
                  go_roundg (subj.length - a)
                  case measure => omega
                  case rel => exact ⟨a + 1, s + m, T2, T1, Y, m, A3, c3, A1, c1, b1, e1, by go_num, rfl, by go_num, by omega, hs2, by rw [show subj.length + 1 - (a + 1) = subj.length - a by omega]; exact Hov.out, HH.out, fun h => by omega, hB7⟩
      case' neg =>
        have hae : a = subj.length + 1 := by omega
        have hov := Hov.out
        rw [show subj.length + 1 - a = 0 by omega, overF] at hov
        have Hov := Lib.hid hov
        clear hov hH hae
        go_wp2_with fail
        rw [Exit.noGoto_ret]
        exact bodyPost_ret (v := .tuple #[.bool false, .int .i64 (s : Int), .int .i64 0]) (by simp [results, Try.results32, go_sem]) rfl ⟨by rw [Hres.out, ← Hov.out], hB1.trans (hBr.mono hb0)⟩
end Go.Proofs.Ytdpmbanfaigmcaa

/- The pattern reader's number, interval: walked. -/
set_option linter.unusedVariables false
set_option linter.unusedSimpArgs false
namespace Go.Proofs.Ytdpmbanfaigmcaa
open Go.RowKit

/-- What a reading step leaves: nothing read behind an error; else what is read, or the error. -/
def Out {α : Type} (f : Bs → Except Int (α × Bs)) (s : Rs) (v : α → Prop) (s' : Rs) : Prop :=
  match s with
  | .error e => s' = .error e
  | .ok r => match f r with
    | .error e => s' = .error e
    | .ok (x, r') => v x ∧ s' = .ok r'
theorem Out.err {α : Type} {f : Bs → Except Int (α × Bs)} {e : Int} {v : α → Prop} : Out f (.error e) v (.error e) := rfl
theorem Out.bad {α : Type} {f : Bs → Except Int (α × Bs)} {r : Bs} {e : Int} {v : α → Prop} (h : f r = .error e) : Out f (.ok r) v (.error e) := by simp only [Out, h]
theorem Out.good {α : Type} {f : Bs → Except Int (α × Bs)} {r r' : Bs} {x : α} {v : α → Prop} (h : f r = .ok (x, r')) (hv : v x) : Out f (.ok r) v (.ok r') := by simp only [Out, h]; exact ⟨hv, trivial⟩
/-- What number hands back. -/
def GNum (p : Nat) (op : Int) (s : Rs) (w : World) (en : Ending) (w' : World) : Prop :=
  ∃ (n : Int) (s' : Rs), en = .returned (.int .i64 n) ∧ -9223372036854775808 ≤ n ∧ n ≤ 9223372036854775807 ∧ RS w' p op s' ∧ Off p w w' ∧ Out numberP s (fun m => n = m ∧ 0 ≤ n ∧ n ≤ 255) s'
def lim10 (w : Nat) : Int := if w = 0 then 0 else if w = 1 then 9 else if w = 2 then 99 else if w = 3 then 999 else 9999
theorem digits_bd : ∀ (k : Nat) (n : Int) (w : Nat) (r : Bs), k + w ≤ 4 → 0 ≤ n → n ≤ lim10 w → 0 ≤ (digitsP k n w r).1 ∧ (digitsP k n w r).1 ≤ 9999 ∧ (digitsP k n w r).2.1 ≤ 4
  | 0, n, w, r, h, h0, h1 => by
    rw [digitsP]; simp only
    unfold lim10 at h1
    refine ⟨h0, ?_, by omega⟩
    split at h1; omega; split at h1; omega; split at h1; omega; split at h1; omega; omega
  | k + 1, n, w, [], h, h0, h1 => by
    rw [digitsP]; simp only
    unfold lim10 at h1
    refine ⟨h0, ?_, by omega⟩
    split at h1; omega; split at h1; omega; split at h1; omega; split at h1; omega; omega
  | k + 1, n, w, c :: t, h, h0, h1 => by
    rw [digitsP]
    split
    · rename_i hc
      simp only [isDigit, Bool.and_eq_true, decide_eq_true_eq] at hc
      refine digits_bd k _ (w + 1) t (by omega) (by omega) ?_
      unfold lim10 at h1 ⊢
      rcases (show w = 0 ∨ w = 1 ∨ w = 2 ∨ w = 3 by omega) with rfl | rfl | rfl | rfl <;> simp at h1 ⊢ <;> omega
    · simp only
      unfold lim10 at h1
      refine ⟨h0, ?_, by omega⟩
      split at h1; omega; split at h1; omega; split at h1; omega; split at h1; omega; omega

set_option maxRecDepth 100000 in
set_option maxHeartbeats 2000000 in
theorem number_any (w : World) (p : Nat) (op : Int) (s : Rs) (h : RS w p op s) :
    Calls Try.prog 93 #[.pointer (some ⟨p, 0, none⟩)] w fun en w' => GNum p op s w en w' := by
  rcases s with e | r
  · have c0 := h.rdr.c0
    simp only [Rs.rest] at c0
    have H := Lib.hid h; clear h
    go_enter Try.func93, Try.ntmps93
    go_wp2_with fail
    go_loopg [3, 4] 1 (fun n a b wr => a = .int .i64 0 ∧ b = .int .i64 0 ∧ wr = w)
    case atStart => exact ⟨rfl, rfl, rfl⟩
    case round =>
      obtain ⟨rfl, rfl, rfl⟩ := hrel
      go_wp2_with fail
      refine (fail_any _ p op _ 105 (by omega) H.out).mono ?_
      rintro en w1 ⟨rfl, h1, hb1⟩
      go_wp2_with fail
      go_ret
      exact ⟨0, _, rfl, by omega, by omega, h1, hb1, Out.err⟩
  · have H := Lib.hid h; clear h
    have hbd := digits_bd 4 0 0 r (by omega) (by omega) (by simp [lim10])
    have Hbd := Lib.hid hbd; clear hbd
    go_enter Try.func93, Try.ntmps93
    go_wp2_with fail
    go_loopg [3, 4] 4 (fun k a b wr => ∃ (n : Int) (wd : Nat) (r' : Bs), a = .int .i64 n ∧ b = .int .i64 wd ∧ k + wd = 4 ∧ 0 ≤ n ∧ n ≤ lim10 wd ∧ digitsP k n wd r' = digitsP 4 0 0 r ∧ RS wr p op (.ok r') ∧ Off p w wr)
    case atStart => exact ⟨0, 0, r, rfl, rfl, rfl, by omega, by simp [lim10], rfl, H.out, Off.refl p w⟩
    case round =>
      obtain ⟨n, wd, r', rfl, rfl, hk, hn0, hn1, hd, hR, hO⟩ := hrel
      have hn2 : n ≤ 9999 := by
        unfold lim10 at hn1
        split at hn1; omega; split at hn1; omega; split at hn1; omega; split at hn1; omega; omega
      have c0 := hR.rdr.c0
      simp only [Rs.rest] at c0
      have HR := Lib.hid hR; have Hd := Lib.hid hd; have Hn1 := Lib.hid hn1; clear hR hd hn1
      have done : gk = 0 ∨ r' = [] ∨ (∃ c t, r' = c :: t ∧ isDigit c = false) → digitsP 4 0 0 r = (n, wd, r') := fun hh => by
        rw [← Hd.out]
        rcases hh with rfl | rfl | ⟨c, t, rfl, hc⟩
        · rw [digitsP]
        · cases gk <;> rw [digitsP]
        · cases gk with
          | zero => rw [digitsP]
          | succ k => rw [digitsP, hc]; rfl
      have Done := Lib.hid done; clear done
      rcases r' with _ | ⟨c, t⟩
      · have Done := Lib.hid (Done.out (.inr (.inl rfl)))
        have hnum : numberP r = if wd = 0 ∨ 3 < wd ∨ 255 < n then .error 105 else .ok (n, []) := by
          unfold numberP; rw [Done.out]
        have Hnum := Lib.hid hnum; clear hnum
        clear Done Hd Hn1
        by_cases b1 : wd = 0
        · subst b1
          have Hnum := Lib.hid (show numberP r = .error 105 by rw [Hnum.out, if_pos (.inl rfl)])
          go_wp2_with fail
          all_goals
            refine (fail_any _ p op _ 105 (by omega) HR.out).mono ?_
            rintro en w1 ⟨rfl, h1, hb1⟩
            go_wp2_with fail
            go_ret
            exact ⟨n, _, rfl, by omega, by omega, h1, hO.trans hb1, Out.bad Hnum.out⟩
        by_cases b2 : 3 < wd
        · have Hnum := Lib.hid (show numberP r = .error 105 by rw [Hnum.out, if_pos (.inr (.inl b2))])
          go_wp2_with fail
          all_goals
            refine (fail_any _ p op _ 105 (by omega) HR.out).mono ?_
            rintro en w1 ⟨rfl, h1, hb1⟩
            go_wp2_with fail
            go_ret
            exact ⟨n, _, rfl, by omega, by omega, h1, hO.trans hb1, Out.bad Hnum.out⟩
        by_cases b3 : 255 < n
        · have Hnum := Lib.hid (show numberP r = .error 105 by rw [Hnum.out, if_pos (.inr (.inr b3))])
          go_wp2_with fail
          all_goals
            refine (fail_any _ p op _ 105 (by omega) HR.out).mono ?_
            rintro en w1 ⟨rfl, h1, hb1⟩
            go_wp2_with fail
            go_ret
            exact ⟨n, _, rfl, by omega, by omega, h1, hO.trans hb1, Out.bad Hnum.out⟩
        · have Hnum := Lib.hid (show numberP r = .ok (n, []) by rw [Hnum.out, if_neg (by omega)])
          have hb1 : ((wd : Int) == 0) = false := by rw [beq_eq_false_iff_ne]; omega
          have hb2 : decide (3 < (wd : Int)) = false := by rw [decide_eq_false_iff_not]; omega
          clear b1 b2
          go_wp2_with fail
          all_goals
            go_ret
            exact ⟨n, _, rfl, by omega, by omega, HR.out, hO, Out.good Hnum.out ⟨rfl, hn0, by omega⟩⟩
      · have hc2 : c.toNat < 256 := c.toNat_lt
        by_cases d1 : 48 ≤ c.toNat
        case' neg =>
          have Done := Lib.hid (Done.out (.inr (.inr ⟨c, t, rfl, by simp [isDigit]; omega⟩)))
          have hnum : numberP r = if wd = 0 ∨ 3 < wd ∨ 255 < n then .error 105 else .ok (n, c :: t) := by
            unfold numberP; rw [Done.out]
          have Hnum := Lib.hid hnum; clear hnum
          clear Done Hd Hn1
          by_cases b1 : wd = 0
          · subst b1
            have Hnum := Lib.hid (show numberP r = .error 105 by rw [Hnum.out, if_pos (.inl rfl)])
            go_wp2_with fail
            all_goals
              refine (fail_any _ p op _ 105 (by omega) HR.out).mono ?_
              rintro en w1 ⟨rfl, h1, hb1⟩
              go_wp2_with fail
              go_ret
              exact ⟨n, _, rfl, by omega, by omega, h1, hO.trans hb1, Out.bad Hnum.out⟩
          by_cases b2 : 3 < wd
          · have Hnum := Lib.hid (show numberP r = .error 105 by rw [Hnum.out, if_pos (.inr (.inl b2))])
            go_wp2_with fail
            all_goals
              refine (fail_any _ p op _ 105 (by omega) HR.out).mono ?_
              rintro en w1 ⟨rfl, h1, hb1⟩
              go_wp2_with fail
              go_ret
              exact ⟨n, _, rfl, by omega, by omega, h1, hO.trans hb1, Out.bad Hnum.out⟩
          by_cases b3 : 255 < n
          · have Hnum := Lib.hid (show numberP r = .error 105 by rw [Hnum.out, if_pos (.inr (.inr b3))])
            go_wp2_with fail
            all_goals
              refine (fail_any _ p op _ 105 (by omega) HR.out).mono ?_
              rintro en w1 ⟨rfl, h1, hb1⟩
              go_wp2_with fail
              go_ret
              exact ⟨n, _, rfl, by omega, by omega, h1, hO.trans hb1, Out.bad Hnum.out⟩
          · have Hnum := Lib.hid (show numberP r = .ok (n, c :: t) by rw [Hnum.out, if_neg (by omega)])
            have hb1 : ((wd : Int) == 0) = false := by rw [beq_eq_false_iff_ne]; omega
            have hb2 : decide (3 < (wd : Int)) = false := by rw [decide_eq_false_iff_not]; omega
            clear b1 b2
            go_wp2_with fail
            all_goals
              go_ret
              exact ⟨n, _, rfl, by omega, by omega, HR.out, hO, Out.good Hnum.out ⟨rfl, hn0, by omega⟩⟩
        by_cases d2 : c.toNat ≤ 57
        case' neg =>
          have Done := Lib.hid (Done.out (.inr (.inr ⟨c, t, rfl, by simp [isDigit]; omega⟩)))
          have hnum : numberP r = if wd = 0 ∨ 3 < wd ∨ 255 < n then .error 105 else .ok (n, c :: t) := by
            unfold numberP; rw [Done.out]
          have Hnum := Lib.hid hnum; clear hnum
          clear Done Hd Hn1
          by_cases b1 : wd = 0
          · subst b1
            have Hnum := Lib.hid (show numberP r = .error 105 by rw [Hnum.out, if_pos (.inl rfl)])
            go_wp2_with fail
            all_goals
              refine (fail_any _ p op _ 105 (by omega) HR.out).mono ?_
              rintro en w1 ⟨rfl, h1, hb1⟩
              go_wp2_with fail
              go_ret
              exact ⟨n, _, rfl, by omega, by omega, h1, hO.trans hb1, Out.bad Hnum.out⟩
          by_cases b2 : 3 < wd
          · have Hnum := Lib.hid (show numberP r = .error 105 by rw [Hnum.out, if_pos (.inr (.inl b2))])
            go_wp2_with fail
            all_goals
              refine (fail_any _ p op _ 105 (by omega) HR.out).mono ?_
              rintro en w1 ⟨rfl, h1, hb1⟩
              go_wp2_with fail
              go_ret
              exact ⟨n, _, rfl, by omega, by omega, h1, hO.trans hb1, Out.bad Hnum.out⟩
          by_cases b3 : 255 < n
          · have Hnum := Lib.hid (show numberP r = .error 105 by rw [Hnum.out, if_pos (.inr (.inr b3))])
            go_wp2_with fail
            all_goals
              refine (fail_any _ p op _ 105 (by omega) HR.out).mono ?_
              rintro en w1 ⟨rfl, h1, hb1⟩
              go_wp2_with fail
              go_ret
              exact ⟨n, _, rfl, by omega, by omega, h1, hO.trans hb1, Out.bad Hnum.out⟩
          · have Hnum := Lib.hid (show numberP r = .ok (n, c :: t) by rw [Hnum.out, if_neg (by omega)])
            have hb1 : ((wd : Int) == 0) = false := by rw [beq_eq_false_iff_ne]; omega
            have hb2 : decide (3 < (wd : Int)) = false := by rw [decide_eq_false_iff_not]; omega
            clear b1 b2
            go_wp2_with fail
            all_goals
              go_ret
              exact ⟨n, _, rfl, by omega, by omega, HR.out, hO, Out.good Hnum.out ⟨rfl, hn0, by omega⟩⟩
        by_cases d3 : gk = 0
        · have Done := Lib.hid (Done.out (.inl d3))
          have hw4 : 3 < wd := by omega
          have hnum : numberP r = .error 105 := by
            unfold numberP; rw [Done.out, if_pos (.inr (.inl hw4))]
          have Hnum := Lib.hid hnum; clear hnum
          have hb2 : decide ((wd : Int) < 4) = false := by rw [decide_eq_false_iff_not]; omega
          clear Done Hd Hn1 d3
          go_wp2_with fail
          all_goals
            refine (fail_any _ p op _ 105 (by omega) HR.out).mono ?_
            rintro en w1 ⟨rfl, h1, hb1⟩
            go_wp2_with fail
            go_ret
            exact ⟨n, _, rfl, by omega, by omega, h1, hO.trans hb1, Out.bad Hnum.out⟩
        · have hw4 : wd < 4 := by omega
          have hn3 : n ≤ 999 := by
            have := Hn1.out
            unfold lim10 at this
            rcases (show wd = 0 ∨ wd = 1 ∨ wd = 2 ∨ wd = 3 by omega) with rfl | rfl | rfl | rfl <;> simp at this <;> omega
          have hs1 : IntKind.u8.wrap ((c.toNat : Int) - 48) = (c.toNat : Int) - 48 := by simp [IntKind.wrap, IntKind.signed, IntKind.bits]; omega
          go_wp2_with fail
          refine (next_any wr p op _ 105 (by omega) HR.out).mono ?_
          rintro en w1 ⟨rfl, h1, hb1⟩
          have H1 := Lib.hid h1
          clear h1
          have hcn : (nextS (.ok (c :: t)) 105).1 = c.toNat := rfl
          rw [hcn]
          clear hcn
          go_wp2_with fail
          go_roundg (gk - 1)
          case measure => omega
          case rel =>
            refine ⟨10 * n + (c.toNat - 48), wd + 1, t, by go_num, by go_num, by omega, by omega, ?_, ?_, H1.out, hO.trans hb1⟩
            · have := Hn1.out
              unfold lim10 at this ⊢
              rcases (show wd = 0 ∨ wd = 1 ∨ wd = 2 ∨ wd = 3 by omega) with rfl | rfl | rfl | rfl <;> simp at this ⊢ <;> omega
            · rw [← Hd.out]
              obtain ⟨k, rfl⟩ : ∃ k, gk = k + 1 := ⟨gk - 1, by omega⟩
              rw [digitsP, if_pos (by simp [isDigit, d1, d2])]
              rfl
end Go.Proofs.Ytdpmbanfaigmcaa

/- The pattern reader's interval: walked. -/
set_option linter.unusedVariables false
set_option linter.unusedSimpArgs false
namespace Go.Proofs.Ytdpmbanfaigmcaa
open Go.RowKit

/-- What interval hands back. -/
def GInt (p : Nat) (op : Int) (s : Rs) (w : World) (en : Ending) (w' : World) : Prop :=
  ∃ (m n : Int) (s' : Rs), en = .returned (.tuple #[.int .i64 m, .int .i64 n]) ∧ RS w' p op s' ∧ Off p w w' ∧
    match s with
    | .error e => s' = .error e
    | .ok r => match intervalP r with
      | .error e => s' = .error e
      | .ok (a, b, r') => m = a ∧ n = b ∧ s' = .ok r'
theorem GInt.bad {p : Nat} {op : Int} {r : Bs} {w w' : World} {e : Int} (m n : Int) (hi : intervalP r = .error e) (h : RS w' p op (.error e)) (hO : Off p w w') : GInt p op (.ok r) w (.returned (.tuple #[.int .i64 m, .int .i64 n])) w' := by
  refine ⟨m, n, _, rfl, h, hO, ?_⟩
  simp only [hi]
theorem GInt.good {p : Nat} {op : Int} {r r' : Bs} {w w' : World} {m n : Int} (hi : intervalP r = .ok (m, n, r')) (h : RS w' p op (.ok r')) (hO : Off p w w') : GInt p op (.ok r) w (.returned (.tuple #[.int .i64 m, .int .i64 n])) w' := by
  refine ⟨m, n, _, rfl, h, hO, ?_⟩
  simp only [hi]
  exact ⟨trivial, trivial, trivial⟩
set_option maxRecDepth 100000 in
set_option maxHeartbeats 2000000 in
theorem interval_any (w : World) (p : Nat) (op : Int) (s : Rs) (h : RS w p op s) :
    Calls Try.prog 85 #[.pointer (some ⟨p, 0, none⟩)] w fun en w' => GInt p op s w en w' := by
  have H := Lib.hid h; clear h
  go_enter Try.func85, Try.ntmps85
  go_wp2_with fail
  refine (number_any w p op s H.out).mono ?_
  rintro en w1 ⟨m, s1, rfl, hm0, hm1, h1, hO1, ho1⟩
  rcases s1 with e | r1
  · -- an error
    have hfin : ∀ w', RS w' p op (.error e) → Off p w w' → GInt p op s w (.returned (.tuple #[.int .i64 0, .int .i64 0])) w' := fun w' h hO => by
      rcases s with e' | r
      · have : (Except.error e : Rs) = .error e' := ho1
        cases this
        exact ⟨0, 0, _, rfl, h, hO, rfl⟩
      · refine GInt.bad 0 0 ?_ h hO
        cases hn : numberP r with
        | error e' =>
          simp only [Out, hn] at ho1
          cases ho1
          simp only [intervalP, hn]
        | ok y => simp only [Out, hn] at ho1; cases ho1.2
    have Hfin := Lib.hid hfin; clear hfin ho1
    go_wp2_with fail
    refine (take_err [125] (by simp) h1).mono ?_
    rintro en w2 ⟨rfl, h2, hO2⟩
    go_wp2_with fail
    refine (take_err [44, 125] (by simp) h2).mono ?_
    rintro en w3 ⟨rfl, h3, hO3⟩
    go_wp2_with fail
    refine (take_err [44] (by simp) h3).mono ?_
    rintro en w4 ⟨rfl, h4, hO4⟩
    go_wp2_with fail
    refine (fail_err 105 (by omega) h4).mono ?_
    rintro en w5 ⟨rfl, h5, hO5⟩
    go_wp2_with fail
    go_ret2
    exact Hfin.out _ h5 ((((hO1.trans hO2).trans hO3).trans hO4).trans hO5)
  · rcases s with e' | r
    · cases (show (Except.ok r1 : Rs) = .error e' from ho1)
    obtain ⟨hn, hmn⟩ : numberP r = .ok (m, r1) ∧ 0 ≤ m := by
      cases hn : numberP r with
      | error e' => simp only [Out, hn] at ho1; cases ho1
      | ok y =>
        obtain ⟨a, b⟩ := y
        simp only [Out, hn] at ho1
        obtain ⟨⟨rfl, h0, _⟩, h2⟩ := ho1
        cases h2
        exact ⟨rfl, h0⟩
    clear ho1
    have Hn := Lib.hid hn; clear hn
    rcases ht : takeP [125] r1 with _ | r2
    case' some =>
      have hi : intervalP r = .ok (m, m, r2) := by simp only [intervalP, Hn.out, ht]
      have Hi := Lib.hid hi; have Ht := Lib.hid ht; clear hi ht
      go_wp2_with fail
      refine (take_hit [125] (by simp) Ht.out h1).mono ?_
      rintro en w2 ⟨rfl, h2, hO2⟩
      go_wp2_with fail
      go_ret2
      exact GInt.good Hi.out h2 (hO1.trans hO2)
    rcases ht2 : takeP [44, 125] r1 with _ | r2
    case' some =>
      have hi : intervalP r = .ok (m, -1, r2) := by simp only [intervalP, Hn.out, ht, ht2]
      have Hi := Lib.hid hi; have Ht := Lib.hid ht; have Ht2 := Lib.hid ht2; clear hi ht ht2
      go_wp2_with fail
      refine (take_miss [125] (by simp) Ht.out h1).mono ?_
      rintro en w2 ⟨rfl, h2, hO2⟩
      go_wp2_with fail
      refine (take_hit [44, 125] (by simp) Ht2.out h2).mono ?_
      rintro en w3 ⟨rfl, h3, hO3⟩
      go_wp2_with fail
      go_ret2
      exact GInt.good Hi.out h3 ((hO1.trans hO2).trans hO3)
    have Ht := Lib.hid ht; have Ht2 := Lib.hid ht2; clear ht ht2
    go_wp2_with fail
    refine (take_miss [125] (by simp) Ht.out h1).mono ?_
    rintro en w2 ⟨rfl, h2, hO2⟩
    go_wp2_with fail
    refine (take_miss [44, 125] (by simp) Ht2.out h2).mono ?_
    rintro en w3 ⟨rfl, h3, hO3⟩
    have hO13 := (hO1.trans hO2).trans hO3
    clear h1 h2 hO1 hO2 hO3
    rcases ht3 : takeP [44] r1 with _ | r2
    · have hi : intervalP r = .error 105 := by simp only [intervalP, Hn.out, Ht.out, Ht2.out, ht3]
      have Hi := Lib.hid hi; have Ht3 := Lib.hid ht3; clear hi ht3
      go_wp2_with fail
      refine (take_miss [44] (by simp) Ht3.out h3).mono ?_
      rintro en w4 ⟨rfl, h4, hO4⟩
      go_wp2_with fail
      refine (fail_ok 105 (by omega) h4).mono ?_
      rintro en w5 ⟨rfl, h5, hO5⟩
      go_wp2_with fail
      go_ret2
      exact GInt.bad 0 0 Hi.out h5 ((hO13.trans hO4).trans hO5)
    have Ht3 := Lib.hid ht3; clear ht3
    go_wp2_with fail
    refine (take_hit [44] (by simp) Ht3.out h3).mono ?_
    rintro en w4 ⟨rfl, h4, hO4⟩
    go_wp2_with fail
    refine (number_any w4 p op (.ok r2) h4).mono ?_
    rintro en w5 ⟨n, s5, rfl, hn0, hn1, h5, hO5, ho5⟩
    have hO15 := (hO13.trans hO4).trans hO5
    clear h3 h4 hO13 hO4 hO5
    rcases s5 with e5 | r3
    · have hi : intervalP r = .error e5 := by
        cases hn : numberP r2 with
        | error e' =>
          simp only [Out, hn] at ho5
          cases ho5
          simp only [intervalP, Hn.out, Ht.out, Ht2.out, Ht3.out, hn]
        | ok y => simp only [Out, hn] at ho5; cases ho5.2
      have Hi := Lib.hid hi; clear hi ho5
      by_cases hnm : m ≤ n
      · go_wp2_with fail
        refine (take_err [125] (by simp) h5).mono ?_
        rintro en w6 ⟨rfl, h6, hO6⟩
        go_wp2_with fail
        refine (fail_err 105 (by omega) h6).mono ?_
        rintro en w7 ⟨rfl, h7, hO7⟩
        go_wp2_with fail
        go_ret2
        exact GInt.bad 0 0 Hi.out h7 ((hO15.trans hO6).trans hO7)
      · go_wp2_with fail
        refine (fail_err 105 (by omega) h5).mono ?_
        rintro en w7 ⟨rfl, h7, hO7⟩
        go_wp2_with fail
        go_ret2
        exact GInt.bad 0 0 Hi.out h7 (hO15.trans hO7)
    · have hnn : numberP r2 = .ok (n, r3) := by
        cases hn : numberP r2 with
        | error e' => simp only [Out, hn] at ho5; cases ho5
        | ok y =>
          obtain ⟨a, b⟩ := y
          simp only [Out, hn] at ho5
          obtain ⟨⟨rfl, _, _⟩, h2⟩ := ho5
          cases h2
          rfl
      have Hnn := Lib.hid hnn; clear hnn ho5
      by_cases hnm : m ≤ n
      · rcases ht4 : takeP [125] r3 with _ | r4
        · have hi : intervalP r = .error 105 := by simp only [intervalP, Hn.out, Ht.out, Ht2.out, Ht3.out, Hnn.out, ht4]; rw [if_neg (by omega)]
          have Hi := Lib.hid hi; have Ht4 := Lib.hid ht4; clear hi ht4
          go_wp2_with fail
          refine (take_miss [125] (by simp) Ht4.out h5).mono ?_
          rintro en w6 ⟨rfl, h6, hO6⟩
          go_wp2_with fail
          refine (fail_ok 105 (by omega) h6).mono ?_
          rintro en w7 ⟨rfl, h7, hO7⟩
          go_wp2_with fail
          go_ret2
          exact GInt.bad 0 0 Hi.out h7 ((hO15.trans hO6).trans hO7)
        · have hi : intervalP r = .ok (m, n, r4) := by simp only [intervalP, Hn.out, Ht.out, Ht2.out, Ht3.out, Hnn.out, ht4]; rw [if_neg (by omega)]
          have Hi := Lib.hid hi; have Ht4 := Lib.hid ht4; clear hi ht4
          go_wp2_with fail
          refine (take_hit [125] (by simp) Ht4.out h5).mono ?_
          rintro en w6 ⟨rfl, h6, hO6⟩
          go_wp2_with fail
          go_ret2
          exact GInt.good Hi.out h6 (hO15.trans hO6)
      · have hi : intervalP r = .error 105 := by simp only [intervalP, Hn.out, Ht.out, Ht2.out, Ht3.out, Hnn.out]; rw [if_pos (by omega)]
        have Hi := Lib.hid hi; clear hi
        go_wp2_with fail
        refine (fail_ok 105 (by omega) h5).mono ?_
        rintro en w7 ⟨rfl, h7, hO7⟩
        go_wp2_with fail
        go_ret2
        exact GInt.bad 0 0 Hi.out h7 (hO15.trans hO7)
end Go.Proofs.Ytdpmbanfaigmcaa

/- The pattern reader's add, atom: walked. -/
set_option linter.unusedVariables false
set_option linter.unusedSimpArgs false
namespace Go.Proofs.Ytdpmbanfaigmcaa
open Go.RowKit

abbrev W4.V (s : W4) : Value := .agg #[.int .u64 s.a, .int .u64 s.b, .int .u64 s.c, .int .u64 s.d]
def W4.word (s : W4) (i : Nat) : Int := if i = 0 then s.a else if i = 1 then s.b else if i = 2 then s.c else s.d
/-- A set's four cells. -/
structure At4 (w : World) (b o : Nat) (s : W4) : Prop where
  f0 : w.cell? ⟨b, o, none⟩ = some (.int .u64 s.a)
  f1 : w.cell? ⟨b, o + 1, none⟩ = some (.int .u64 s.b)
  f2 : w.cell? ⟨b, o + 2, none⟩ = some (.int .u64 s.c)
  f3 : w.cell? ⟨b, o + 3, none⟩ = some (.int .u64 s.d)
/-- What add writes. -/
def addW (w : World) (b o : Nat) (s : W4) (c : Nat) : World := w.setCell ⟨b, o + c / 64, none⟩ (.int .u64 (orI (s.word (c / 64)) (2 ^ (c % 64))))
theorem wrap_pow (k : Nat) (h : k < 64) : IntKind.u64.wrap (2 ^ k) = 2 ^ k := by
  have h0 : 2 ^ k < 2 ^ 64 := Nat.pow_lt_pow_right (by omega) h
  have h3 : ((2 ^ k : Nat) : Int) = (2 : Int) ^ k := by rw [Int.natCast_pow]; rfl
  have h1 : (2 : Int) ^ k < 18446744073709551616 := by
    rw [← h3]
    exact Int.ofNat_lt.2 (show 2 ^ k < 18446744073709551616 from h0)
  have h2 : (0 : Int) ≤ 2 ^ k := by rw [← h3]; exact Int.natCast_nonneg _
  simp only [IntKind.wrap, IntKind.signed, IntKind.bits]
  generalize (2 : Int) ^ k = x at *
  simp
  omega
set_option maxRecDepth 100000 in
set_option maxHeartbeats 2000000 in
theorem add_any (w : World) (b o : Nat) (s : W4) (c : Nat) (hc : c < 256) (h : At4 w b o s) (hz : ∀ k, w.frozen? ⟨b, k, none⟩ = false) :
    Calls Try.prog 92 #[.pointer (some ⟨b, o, none⟩), .int .u8 c] w fun en w' => en = .returned (.tuple #[]) ∧ w' = (addW w b o s c).drew := by
  obtain ⟨f0, f1, f2, f3⟩ := h
  have hq : (c : Int).tdiv 64 = ((c / 64 : Nat) : Int) := by rw [Int.tdiv_eq_ediv_of_nonneg (by omega)]; omega
  have hr : (c : Int).tmod 64 = ((c % 64 : Nat) : Int) := by rw [Int.tmod_eq_emod_of_nonneg (by omega)]; omega
  have hw := wrap_pow (c % 64) (by omega)
  unfold addW
  have hk4 : c % 64 < 64 := by omega
  rcases (show c / 64 = 0 ∨ c / 64 = 1 ∨ c / 64 = 2 ∨ c / 64 = 3 by omega) with e | e | e | e
  all_goals
    rw [e] at hq ⊢
    have z := hz (o + c / 64)
    rw [e] at z
    clear hz e
    try simp only [Nat.add_zero] at z ⊢
    generalize hk : c % 64 = k at *
    clear hk
    go_enter Try.func92, Try.ntmps92
    go_region
    all_goals go_wp2_with fail
    all_goals go_end0
    all_goals exact ⟨rfl, rfl⟩
end Go.Proofs.Ytdpmbanfaigmcaa

/- The pattern reader's atom: walked. -/
set_option linter.unusedVariables false
set_option linter.unusedSimpArgs false
namespace Go.Proofs.Ytdpmbanfaigmcaa
open Go.RowKit

/-- What a reading step hands back that makes a node. -/
def GNode (p : Nat) (op : Int) (f : Bs → PT) (s : Rs) (w : World) (en : Ending) (w' : World) : Prop :=
  ∃ (x : Nx) (s' : Rs), en = .returned (nodeV x.1 x.2.1 x.2.2) ∧ NodeAt w' (fun b => w.heap.size ≤ b ∧ b < w'.heap.size) x.1 x.2.1 x.2.2 ∧ RS w' p op s' ∧ Off p w w' ∧ Out f s (fun t => x.1 = t) s'
/-- What bracket does. -/
def BrC : Prop := ∀ (w : World) (p : Nat) (op : Int) (r : Bs), RS w p op (.ok r) → r.length ≤ 1024 → Calls Try.prog 89 #[.pointer (some ⟨p, 0, none⟩)] w fun en w' => ∃ (S : W4) (s' : Rs), en = .returned S.V ∧ RS w' p op s' ∧ Off p w w' ∧ Out bracketP (.ok r) (fun x => S = x) s'
/-- What where does with the test that is always true. -/
def DotC : Prop := ∀ (w : World), Calls Try.prog 90 #[.func (.func 91) #[] #[]] w fun en w' => en = .returned (w40.span 0 256).V ∧ Below w.heap.size w w'
theorem addW_blk {w : World} {b : Nat} {s : W4} (h : BlkX w b (xcell (s.T, none, 0)).toArray) (c : Nat) (hc : c < 256) : BlkX (addW w b 1 s c) b (xcell ((s.add c).T, none, 0)).toArray := by
  have h1 := h.set (1 + c / 64) (.int .u64 (orI (s.word (c / 64)) (2 ^ (c % 64))))
  unfold addW
  have e : (xcell (s.T, none, 0)).toArray.setIfInBounds (1 + c / 64) (.int .u64 (orI (s.word (c / 64)) (2 ^ (c % 64)))) = (xcell ((s.add c).T, none, 0)).toArray := by
    rcases (show c < 64 ∨ (64 ≤ c ∧ c < 128) ∨ (128 ≤ c ∧ c < 192) ∨ (192 ≤ c ∧ c < 256) by omega) with h | h | h | h
    · rw [show c / 64 = 0 by omega, show c % 64 = c by omega]
      simp [xcell, W4.T, W4.add, W4.word, T.k, T.s0, T.s1, T.s2, T.s3, T.mn, T.mx, T.ps, h]
    · rw [show c / 64 = 1 by omega, show c % 64 = c - 64 by omega]
      simp [xcell, W4.T, W4.add, W4.word, T.k, T.s0, T.s1, T.s2, T.s3, T.mn, T.mx, T.ps, show ¬ c < 64 by omega, h.2]
    · rw [show c / 64 = 2 by omega, show c % 64 = c - 128 by omega]
      simp [xcell, W4.T, W4.add, W4.word, T.k, T.s0, T.s1, T.s2, T.s3, T.mn, T.mx, T.ps, show ¬ c < 64 by omega, show ¬ c < 128 by omega, h.2]
    · rw [show c / 64 = 3 by omega, show c % 64 = c - 192 by omega]
      simp [xcell, W4.T, W4.add, W4.word, T.k, T.s0, T.s1, T.s2, T.s3, T.mn, T.mx, T.ps, show ¬ c < 64 by omega, show ¬ c < 128 by omega, show ¬ c < 192 by omega]
  rw [e] at h1
  exact h1
theorem BlkX.at4 {w : World} {b : Nat} {s : W4} (h : BlkX w b (xcell (s.T, none, 0)).toArray) : At4 w b 1 s := by
  obtain ⟨⟨_, f1, f2, f3, f4, _⟩, _⟩ := h.cells8
  exact ⟨f1, f2, f3, f4⟩
theorem Off.blk {p : Nat} {w w' : World} (h : Off p w w') {b : Nat} {cs : Array Value} (hb : BlkX w b cs) (hn : b ≠ p) : BlkX w' b cs := hb.keep (h.block b hb.lt (by simpa using hn))
/-- The reader's state where other blocks are written. -/
theorem RS.kept {w w' : World} {p : Nat} {op : Int} {s : Rs} (h : RS w p op s) (hz : w.heap.size ≤ w'.heap.size) (hb : w'.heap[p]? = w.heap[p]?) (hb0 : w'.heap[0]? = w.heap[0]?) : RS w' p op s :=
  ⟨⟨(World.cell?_of_block (w := w) hb).trans h.rdr.c0, (World.cell?_of_block (w := w) hb).trans h.rdr.c1, (World.cell?_of_block (w := w) hb).trans h.rdr.c2, fun o => (World.frozen?_of_block (w := w) (a := ⟨p, o, none⟩) hb).trans (h.rdr.z o), Nat.lt_of_lt_of_le h.lt hz, h.rdr.mx.of hb0, h.rdr.pn⟩, h.ne⟩

/-- The four cells of a set written. -/
def setW (w : World) (b : Nat) (S : W4) : World := (((w.setCell ⟨b, 1, none⟩ (.int .u64 S.a)).setCell ⟨b, 2, none⟩ (.int .u64 S.b)).setCell ⟨b, 3, none⟩ (.int .u64 S.c)).setCell ⟨b, 4, none⟩ (.int .u64 S.d)
theorem setW_blk {w : World} {b : Nat} {s : W4} (h : BlkX w b (xcell (s.T, none, 0)).toArray) (S : W4) : BlkX (setW w b S) b (xcell (S.T, none, 0)).toArray := by
  have h1 := (((h.set 1 (.int .u64 S.a)).set 2 (.int .u64 S.b)).set 3 (.int .u64 S.c)).set 4 (.int .u64 S.d)
  unfold setW; simpa [xcell, W4.T, T.k, T.s0, T.s1, T.s2, T.s3, T.mn, T.mx, T.ps] using h1
theorem setW_other (w : World) (b : Nat) (S : W4) (k : Nat) (hk : k ≠ b) : (setW w b S).heap[k]? = w.heap[k]? := by
  unfold setW
  iterate 3 rw [Below.heap_setCell _ _ _ _ hk]
  exact Below.heap_setCell _ _ _ _ hk
theorem setW_size (w : World) (b : Nat) (S : W4) : (setW w b S).heap.size = w.heap.size := by simp [setW]
theorem addW_other (w : World) (b o : Nat) (s : W4) (c k : Nat) (hk : k ≠ b) : (addW w b o s c).heap[k]? = w.heap[k]? := Below.heap_setCell _ _ _ _ hk
theorem addW_size (w : World) (b o : Nat) (s : W4) (c : Nat) : (addW w b o s c).heap.size = w.heap.size := by simp [addW]
theorem Off.far {p : Nat} {w w1 w2 : World} (h : Off p w w1) {b : Nat} (hb : w.heap.size ≤ b) (ho : w2.os = w1.os) (ht : w2.tape = w1.tape) (hp : w2.output = w1.output) (hz : w2.heap.size = w1.heap.size) (hk : ∀ k, k ≠ b → w2.heap[k]? = w1.heap[k]?) : Off p w w2 :=
  ⟨ho.trans h.os, ht.trans h.tape, hp.trans h.output, by rw [hz]; exact h.size, fun k hk1 hn => (hk k (by omega)).trans (h.block k hk1 hn)⟩
theorem Off.boxW {p : Nat} {w w1 : World} (h : Off p w w1) {b : Nat} (hb : w.heap.size ≤ b) (x : Nx) : Off p w (writeX w1 b x) := (fun hbel => h.far hb (Below.os hbel) (Below.tape hbel) (Below.output hbel) (writeX_size _ _ _) (fun k hk => writeX_other _ _ _ _ hk)) (writeX_below (Below.refl 0 w1) (Nat.zero_le b) x)
theorem Off.putW {p : Nat} {w w1 : World} (h : Off p w w1) {b : Nat} (hb : w.heap.size ≤ b) (o : Nat) (s : W4) (c : Nat) : Off p w (addW w1 b o s c).drew := h.far hb rfl rfl rfl (addW_size _ _ _ _ _) (fun k hk => addW_other _ _ _ _ _ _ hk)
theorem RS.boxW {w : World} {p : Nat} {op : Int} {s : Rs} (h : RS w p op s) {b : Nat} (hb : p < b) (x : Nx) : RS (writeX w b x) p op s := h.kept (by rw [writeX_size]; exact Nat.le_refl _) (writeX_other _ _ _ _ (by omega)) (writeX_other _ _ _ _ (by omega))
theorem RS.putW {w : World} {p : Nat} {op : Int} {s : Rs} (h : RS w p op s) {b : Nat} (hb : p < b) (o : Nat) (t : W4) (c : Nat) : RS (addW w b o t c).drew p op s := h.kept (by show w.heap.size ≤ (addW w b o t c).heap.size; rw [addW_size]; exact Nat.le_refl _) (addW_other _ _ _ _ _ _ (by omega)) (addW_other _ _ _ _ _ _ (by omega))
theorem Off.fillW {p : Nat} {w w1 : World} (h : Off p w w1) {b : Nat} (hb : w.heap.size ≤ b) (S : W4) : Off p w (setW w1 b S) := (fun hbel => h.far hb (Below.os hbel) (Below.tape hbel) (Below.output hbel) (setW_size _ _ _) (fun k hk => setW_other _ _ _ _ hk)) (((((Below.refl 0 w1).setCell (Nat.zero_le _) (p := ⟨b, 1, none⟩) (.int .u64 S.a)).setCell (Nat.zero_le _) (p := ⟨b, 2, none⟩) (.int .u64 S.b)).setCell (Nat.zero_le _) (p := ⟨b, 3, none⟩) (.int .u64 S.c)).setCell (Nat.zero_le _) (p := ⟨b, 4, none⟩) (.int .u64 S.d))
theorem RS.fillW {w : World} {p : Nat} {op : Int} {s : Rs} (h : RS w p op s) {b : Nat} (hb : p < b) (S : W4) : RS (setW w b S) p op s := h.kept (by rw [setW_size]; exact Nat.le_refl _) (setW_other _ _ _ _ (by omega)) (setW_other _ _ _ _ (by omega))
theorem u8_ne {c : UInt8} {k : Nat} (hk : k < 256) (h : c ≠ UInt8.ofNat k) : ((c.toNat : Int) == (k : Int)) = false := by
  rw [beq_eq_false_iff_ne]
  intro e
  apply h
  have e' : c.toNat = k := by omega
  rw [← e']
  simp

set_option maxRecDepth 100000 in
set_option maxHeartbeats 4000000 in
theorem atom_any (w : World) (p : Nat) (op : Int) (s : Rs) (h : RS w p op s) (hs : s.rest.length ≤ 1024) (grp : Bs → PT) (hB : ∀ r, s = .ok r → 91 ∈ r → BrC) (hD : ∀ r, s = .ok r → 46 ∈ r → DotC)
    (hG : ∀ (w : World) (s : Rs), RS w p op s → s.rest.length ≤ 1024 → (∀ r, s = .ok r → 91 ∈ r → BrC) → (∀ r, s = .ok r → 46 ∈ r → DotC) → Calls Try.prog 88 #[.pointer (some ⟨p, 0, none⟩)] w fun en w' => GNode p op grp s w en w') :
    Calls Try.prog 84 #[.pointer (some ⟨p, 0, none⟩)] w fun en w' => GNode p op (atomP grp) s w en w' := by
  have hlt := h.lt
  have HB := Lib.hid hB; have HD := Lib.hid hD; have HG := Lib.hid hG; have HL := Lib.hid hs; clear hB hD hG hs
  have H := Lib.hid h; clear h
  go_enter Try.func84, Try.ntmps84
  go_wp2_with fail
  generalize hW : (w.alloc _).alloc _ = W0
  have hB0 : Below w.heap.size w W0 := by subst hW; exact ((Below.refl _ _).alloc (Nat.le_refl _) _).alloc (by simp) _
  have R0 : BlkX W0 w.heap.size (xcell (.mk 0 0 0 0 0 0 0 [], none, 0)).toArray := by
    subst hW
    exact (BlkX.new w _).keep (((Below.refl _ _).alloc (Nat.le_refl _) _).block _ (by simp))
  have N0 : BlkX W0 (w.heap.size + 1) (xcell (w40.T, none, 0)).toArray := by
    have hz : (w.alloc (.cells (xcell (.mk 0 0 0 0 0 0 0 [], none, 0)).toArray 27)).heap.size = w.heap.size + 1 := by simp
    have := BlkX.new (w.alloc (.cells (xcell (.mk 0 0 0 0 0 0 0 [], none, 0)).toArray 27)) (xcell (w40.T, none, 0)).toArray
    rw [hz] at this
    subst hW
    exact this
  clear hW
  have HR0 := Lib.hid (H.out.later hB0)
  rcases s with e | (_ | ⟨c, t⟩)
  · refine (next_err 104 (by omega) HR0.out).mono ?_
    rintro en w1 ⟨rfl, h1, hO1⟩
    have R1 := hO1.blk R0 (by omega)
    have N1 := hO1.blk N0 (by omega)
    have hO1 : Off p w w1 := (Off.of_below hB0).trans hO1
    clear R0 N0
    go_wp2_with fail
    refine (add_any w1 (w.heap.size + 1) 1 w40 0 (by omega) N1.at4 N1.froz).mono ?_
    rintro en w2 ⟨rfl, rfl⟩
    have R2 : BlkX (addW w1 (w.heap.size + 1) 1 w40 0).drew w.heap.size (xcell (.mk 0 0 0 0 0 0 0 [], none, 0)).toArray := R1.keep (addW_other _ _ _ _ _ _ (by omega))
    have N2 : BlkX (addW w1 (w.heap.size + 1) 1 w40 0).drew (w.heap.size + 1) (xcell ((w40.add 0).T, none, 0)).toArray := addW_blk N1 0 (by omega)
    have h2 := h1.putW (b := w.heap.size + 1) (by omega) 1 w40 0
    have hO2 := Off.putW hO1 (b := w.heap.size + 1) (by omega) 1 w40 0
    obtain ⟨x, hx⟩ : ∃ x : Nx, x = ((w40.add 0).T, none, 0) := ⟨_, rfl⟩
    rw [← hx] at N2
    have Hx := Lib.hid hx
    clear hx R1 N1 h1 hO1
    generalize (addW w1 (w.heap.size + 1) 1 w40 0).drew = W2 at *
    obtain ⟨⟨f0, f1, f2, f3, f4, f5, f6, f7⟩, _⟩ := N2.cells8
    obtain ⟨⟨r0, r1, r2, r3, r4, r5, r6, r7⟩, hz⟩ := R2.cells8
    have z0 := hz 0; have z1 := hz 1; have z2 := hz 2; have z3 := hz 3; have z4 := hz 4; have z5 := hz 5; have z6 := hz 6; have z7 := hz 7
    have lr := R2.lt
    have ln := N2.lt
    clear hz
    have HR2 := Lib.hid R2; have H2 := Lib.hid h2; have HO2 := Lib.hid hO2
    clear R2 N2 h2 hO2
    go_wp2_with fail
    change bodyPost _ _ _ _ _ (writeX W2 w.heap.size x)
    have hfin := writeX_blk HR2.out x
    obtain ⟨⟨y0, y1, y2, y3, y4, y5, y6, y7⟩, _⟩ := hfin.cells8
    have hRS := H2.out.boxW (b := w.heap.size) (by omega) x
    have hOff := Off.boxW HO2.out (Nat.le_refl _) x
    have hNod : NodeAt (writeX W2 w.heap.size x) (fun b => w.heap.size ≤ b ∧ b < (writeX W2 w.heap.size x).heap.size) x.1 x.2.1 x.2.2 := by rw [Hx.out]; exact nodeAt_leafX _ _ _ rfl
    generalize writeX W2 w.heap.size x = W3 at *
    refine bodyPost_ret (v := nodeV x.1 x.2.1 x.2.2) (by simp [results, Try.results84, y0, y1, y2, y3, y4, y5, y6, y7, go_sem]) rfl ⟨x, _, rfl, hNod, hRS, hOff, ?_⟩
    exact Out.err
  · refine (next_end 104 (by omega) HR0.out).mono ?_
    rintro en w1 ⟨rfl, h1, hO1⟩
    have R1 := hO1.blk R0 (by omega)
    have N1 := hO1.blk N0 (by omega)
    have hO1 : Off p w w1 := (Off.of_below hB0).trans hO1
    clear R0 N0
    go_wp2_with fail
    refine (add_any w1 (w.heap.size + 1) 1 w40 0 (by omega) N1.at4 N1.froz).mono ?_
    rintro en w2 ⟨rfl, rfl⟩
    have R2 : BlkX (addW w1 (w.heap.size + 1) 1 w40 0).drew w.heap.size (xcell (.mk 0 0 0 0 0 0 0 [], none, 0)).toArray := R1.keep (addW_other _ _ _ _ _ _ (by omega))
    have N2 : BlkX (addW w1 (w.heap.size + 1) 1 w40 0).drew (w.heap.size + 1) (xcell ((w40.add 0).T, none, 0)).toArray := addW_blk N1 0 (by omega)
    have h2 := h1.putW (b := w.heap.size + 1) (by omega) 1 w40 0
    have hO2 := Off.putW hO1 (b := w.heap.size + 1) (by omega) 1 w40 0
    obtain ⟨x, hx⟩ : ∃ x : Nx, x = ((w40.add 0).T, none, 0) := ⟨_, rfl⟩
    rw [← hx] at N2
    have Hx := Lib.hid hx
    clear hx R1 N1 h1 hO1
    generalize (addW w1 (w.heap.size + 1) 1 w40 0).drew = W2 at *
    obtain ⟨⟨f0, f1, f2, f3, f4, f5, f6, f7⟩, _⟩ := N2.cells8
    obtain ⟨⟨r0, r1, r2, r3, r4, r5, r6, r7⟩, hz⟩ := R2.cells8
    have z0 := hz 0; have z1 := hz 1; have z2 := hz 2; have z3 := hz 3; have z4 := hz 4; have z5 := hz 5; have z6 := hz 6; have z7 := hz 7
    have lr := R2.lt
    have ln := N2.lt
    clear hz
    have HR2 := Lib.hid R2; have H2 := Lib.hid h2; have HO2 := Lib.hid hO2
    clear R2 N2 h2 hO2
    go_wp2_with fail
    change bodyPost _ _ _ _ _ (writeX W2 w.heap.size x)
    have hfin := writeX_blk HR2.out x
    obtain ⟨⟨y0, y1, y2, y3, y4, y5, y6, y7⟩, _⟩ := hfin.cells8
    have hRS := H2.out.boxW (b := w.heap.size) (by omega) x
    have hOff := Off.boxW HO2.out (Nat.le_refl _) x
    have hNod : NodeAt (writeX W2 w.heap.size x) (fun b => w.heap.size ≤ b ∧ b < (writeX W2 w.heap.size x).heap.size) x.1 x.2.1 x.2.2 := by rw [Hx.out]; exact nodeAt_leafX _ _ _ rfl
    generalize writeX W2 w.heap.size x = W3 at *
    refine bodyPost_ret (v := nodeV x.1 x.2.1 x.2.2) (by simp [results, Try.results84, y0, y1, y2, y3, y4, y5, y6, y7, go_sem]) rfl ⟨x, _, rfl, hNod, hRS, hOff, ?_⟩
    exact Out.bad rfl
  · refine (next_ok 104 (by omega) HR0.out).mono ?_
    rintro en w1 ⟨rfl, h1, hO1⟩
    have R1 := hO1.blk R0 (by omega)
    have N1 := hO1.blk N0 (by omega)
    have hO1 : Off p w w1 := (Off.of_below hB0).trans hO1
    clear R0 N0
    by_cases c40 : c = 40
    · subst c40
      have hz1 := hO1.size
      obtain ⟨⟨r0, r1, r2, r3, r4, r5, r6, r7⟩, hz⟩ := R1.cells8
      clear r0 r1 r2 r3 r4 r5 r6 r7 hz
      go_wp2_with fail
      refine (HG.out w1 (.ok t) h1 (by have := HL.out; simp only [Rs.rest, List.length_cons] at this ⊢; omega) (fun r e hr => HB.out _ rfl (List.mem_cons_of_mem _ (by cases e; exact hr))) (fun r e hr => HD.out _ rfl (List.mem_cons_of_mem _ (by cases e; exact hr)))).mono ?_
      rintro en W2 ⟨x, s', rfl, hx, h2, hO2, ho⟩
      have R2 := hO2.blk R1 (by omega)
      have lr1 := R1.lt
      have hO2 := hO1.trans hO2
      obtain ⟨⟨r0, r1, r2, r3, r4, r5, r6, r7⟩, hz⟩ := R2.cells8
      have z0 := hz 0; have z1 := hz 1; have z2 := hz 2; have z3 := hz 3; have z4 := hz 4; have z5 := hz 5; have z6 := hz 6; have z7 := hz 7
      have lr := R2.lt
      clear hz
      have HR2 := Lib.hid R2; have H2 := Lib.hid h2; have HO2 := Lib.hid hO2; have Hx := Lib.hid hx; have Ho := Lib.hid ho
      clear R2 h2 hO2 R1 N1 h1 hO1 hx ho
      go_wp2_with fail
      change bodyPost _ _ _ _ _ (writeX W2 w.heap.size x)
      have hfin := writeX_blk HR2.out x
      obtain ⟨⟨y0, y1, y2, y3, y4, y5, y6, y7⟩, _⟩ := hfin.cells8
      have hRS := H2.out.boxW (b := w.heap.size) (by omega) x
      have hOff := Off.boxW HO2.out (Nat.le_refl _) x
      have hNod : NodeAt (writeX W2 w.heap.size x) (fun b => w.heap.size ≤ b ∧ b < (writeX W2 w.heap.size x).heap.size) x.1 x.2.1 x.2.2 := Hx.out.mono fun k (hk : w1.heap.size ≤ k ∧ k < W2.heap.size) => ⟨⟨by omega, by rw [writeX_size]; exact hk.2⟩, fun o => World.cell?_of_block (w := W2) (a := ⟨k, o, none⟩) (writeX_other _ _ _ _ (show k ≠ w.heap.size by omega))⟩
      generalize writeX W2 w.heap.size x = W3 at *
      refine bodyPost_ret (v := nodeV x.1 x.2.1 x.2.2) (by simp [results, Try.results84, y0, y1, y2, y3, y4, y5, y6, y7, go_sem]) rfl ⟨x, _, rfl, hNod, hRS, hOff, ?_⟩
      have e : atomP grp (40 :: t) = grp t := by simp [atomP]
      simp only [Out, e]
      exact Ho.out
    have n40 := u8_ne (k := 40) (by omega) c40
    by_cases c94 : c = 94
    · subst c94
      obtain ⟨⟨r0, r1, r2, r3, r4, r5, r6, r7⟩, hz⟩ := R1.cells8
      have z0 := hz 0; have z1 := hz 1; have z2 := hz 2; have z3 := hz 3; have z4 := hz 4; have z5 := hz 5; have z6 := hz 6; have z7 := hz 7
      have lr := R1.lt
      clear hz
      have HR2 := Lib.hid R1; have H2 := Lib.hid h1; have HO2 := Lib.hid hO1
      clear R1 N1 h1 hO1
      go_wp2_with fail
      change bodyPost _ _ _ _ _ (writeX w1 w.heap.size (.mk 2 0 0 0 0 0 0 [], none, 0))
      have hfin := writeX_blk HR2.out (.mk 2 0 0 0 0 0 0 [], none, 0)
      obtain ⟨⟨y0, y1, y2, y3, y4, y5, y6, y7⟩, _⟩ := hfin.cells8
      have hRS := H2.out.boxW (b := w.heap.size) (by omega) (.mk 2 0 0 0 0 0 0 [], none, 0)
      have hOff := Off.boxW HO2.out (Nat.le_refl _) (.mk 2 0 0 0 0 0 0 [], none, 0)
      generalize writeX w1 w.heap.size (.mk 2 0 0 0 0 0 0 [], none, 0) = W3 at *
      exact bodyPost_ret (v := nodeV (.mk 2 0 0 0 0 0 0 []) none 0) (by simp [results, Try.results84, y0, y1, y2, y3, y4, y5, y6, y7, go_sem]) rfl ⟨(.mk 2 0 0 0 0 0 0 [], none, 0), _, rfl, nodeAt_leafX _ _ _ rfl, hRS, hOff, Out.good (by simp [atomP]) rfl⟩
    have n94 := u8_ne (k := 94) (by omega) c94
    by_cases c36 : c = 36
    · subst c36
      obtain ⟨⟨r0, r1, r2, r3, r4, r5, r6, r7⟩, hz⟩ := R1.cells8
      have z0 := hz 0; have z1 := hz 1; have z2 := hz 2; have z3 := hz 3; have z4 := hz 4; have z5 := hz 5; have z6 := hz 6; have z7 := hz 7
      have lr := R1.lt
      clear hz
      have HR2 := Lib.hid R1; have H2 := Lib.hid h1; have HO2 := Lib.hid hO1
      clear R1 N1 h1 hO1
      go_wp2_with fail
      change bodyPost _ _ _ _ _ (writeX w1 w.heap.size (.mk 3 0 0 0 0 0 0 [], none, 0))
      have hfin := writeX_blk HR2.out (.mk 3 0 0 0 0 0 0 [], none, 0)
      obtain ⟨⟨y0, y1, y2, y3, y4, y5, y6, y7⟩, _⟩ := hfin.cells8
      have hRS := H2.out.boxW (b := w.heap.size) (by omega) (.mk 3 0 0 0 0 0 0 [], none, 0)
      have hOff := Off.boxW HO2.out (Nat.le_refl _) (.mk 3 0 0 0 0 0 0 [], none, 0)
      generalize writeX w1 w.heap.size (.mk 3 0 0 0 0 0 0 [], none, 0) = W3 at *
      exact bodyPost_ret (v := nodeV (.mk 3 0 0 0 0 0 0 []) none 0) (by simp [results, Try.results84, y0, y1, y2, y3, y4, y5, y6, y7, go_sem]) rfl ⟨(.mk 3 0 0 0 0 0 0 [], none, 0), _, rfl, nodeAt_leafX _ _ _ rfl, hRS, hOff, Out.good (by simp [atomP]) rfl⟩
    have n36 := u8_ne (k := 36) (by omega) c36
    by_cases c91 : c = 91
    · subst c91
      go_wp2_with fail
      refine (HB.out _ rfl (by simp) w1 p op t h1 (by have := HL.out; simp only [Rs.rest, List.length_cons] at this; omega)).mono ?_
      rintro en w2 ⟨S, s', rfl, h2, hO2, ho⟩
      have Ho := Lib.hid ho; clear ho
      have R2 := hO2.blk R1 (by omega)
      have N2 := hO2.blk N1 (by omega)
      have hO2 := hO1.trans hO2
      have HS := Lib.hid N2
      obtain ⟨⟨_, g1, g2, g3, g4, _⟩, gz⟩ := N2.cells8
      have gz1 := gz 1; have gz2 := gz 2; have gz3 := gz 3; have gz4 := gz 4
      have ln := N2.lt
      obtain ⟨⟨r0, r1, r2, r3, r4, r5, r6, r7⟩, hz⟩ := R2.cells8
      obtain ⟨⟨f0, _, _, _, _, f5, f6, f7⟩, _⟩ := N2.cells8
      have z0 := hz 0; have z1 := hz 1; have z2 := hz 2; have z3 := hz 3; have z4 := hz 4; have z5 := hz 5; have z6 := hz 6; have z7 := hz 7
      have lr := R2.lt
      clear hz gz
      have HR2 := Lib.hid R2; have H2 := Lib.hid h2; have HO2 := Lib.hid hO2
      clear R2 N2 h2 hO2 R1 N1 h1 hO1
      go_upto_region 22 with fail
      change Code.wp _ _ _ _ (setW w2 (w.heap.size + 1) S)
      have R2 := HR2.out.keep (setW_other w2 (w.heap.size + 1) S w.heap.size (by omega))
      have N2 := setW_blk HS.out S
      have h2 := H2.out.fillW (b := w.heap.size + 1) (by omega) S
      have hO2 := Off.fillW HO2.out (b := w.heap.size + 1) (by omega) S
      clear r0 r1 r2 r3 r4 r5 r6 r7 f0 f5 f6 f7 g1 g2 g3 g4 gz1 gz2 gz3 gz4 z0 z1 z2 z3 z4 z5 z6 z7 lr ln HR2 H2 HO2 HS
      obtain ⟨x, hx⟩ : ∃ x : Nx, x = (S.T, none, 0) := ⟨_, rfl⟩
      rw [← hx] at N2
      have Hx := Lib.hid hx
      clear hx
      generalize setW w2 (w.heap.size + 1) S = W2 at *
      obtain ⟨⟨f0, f1, f2, f3, f4, f5, f6, f7⟩, _⟩ := N2.cells8
      obtain ⟨⟨r0, r1, r2, r3, r4, r5, r6, r7⟩, hz⟩ := R2.cells8
      have z0 := hz 0; have z1 := hz 1; have z2 := hz 2; have z3 := hz 3; have z4 := hz 4; have z5 := hz 5; have z6 := hz 6; have z7 := hz 7
      have lr := R2.lt
      have ln := N2.lt
      clear hz
      have HR2 := Lib.hid R2; have H2 := Lib.hid h2; have HO2 := Lib.hid hO2
      clear R2 N2 h2 hO2
      go_wp2_with fail
      change bodyPost _ _ _ _ _ (writeX W2 w.heap.size x)
      have hfin := writeX_blk HR2.out x
      obtain ⟨⟨y0, y1, y2, y3, y4, y5, y6, y7⟩, _⟩ := hfin.cells8
      have hRS := H2.out.boxW (b := w.heap.size) (by omega) x
      have hOff := Off.boxW HO2.out (Nat.le_refl _) x
      have hNod : NodeAt (writeX W2 w.heap.size x) (fun b => w.heap.size ≤ b ∧ b < (writeX W2 w.heap.size x).heap.size) x.1 x.2.1 x.2.2 := by rw [Hx.out]; exact nodeAt_leafX _ _ _ rfl
      generalize writeX W2 w.heap.size x = W3 at *
      refine bodyPost_ret (v := nodeV x.1 x.2.1 x.2.2) (by simp [results, Try.results84, y0, y1, y2, y3, y4, y5, y6, y7, go_sem]) rfl ⟨x, _, rfl, hNod, hRS, hOff, ?_⟩
      have e : atomP grp (91 :: t) = (match bracketP t with | .error e => .error e | .ok (s, r1) => .ok (s.T, r1)) := by simp [atomP]; rfl
      have hho := Ho.out
      simp only [Out, e] at hho ⊢
      cases hb : bracketP t with
      | error e' => simp only [hb] at hho ⊢; exact hho
      | ok y => obtain ⟨S', r'⟩ := y; simp only [hb] at hho ⊢; obtain ⟨rfl, h'⟩ := hho; exact ⟨by rw [Hx.out], h'⟩
    have n91 := u8_ne (k := 91) (by omega) c91
    by_cases c46 : c = 46
    · subst c46
      go_wp2_with fail
      refine (HD.out _ rfl (by simp) w1).mono ?_
      rintro en w2 ⟨rfl, hb2⟩
      have h2 := h1.later hb2
      have hO2 : Off p w1 w2 := Off.of_below hb2
      generalize hS : w40.span 0 256 = S
      have HSe := Lib.hid hS; clear hS
      have R2 := hO2.blk R1 (by omega)
      have N2 := hO2.blk N1 (by omega)
      have hO2 := hO1.trans hO2
      have HS := Lib.hid N2
      obtain ⟨⟨_, g1, g2, g3, g4, _⟩, gz⟩ := N2.cells8
      have gz1 := gz 1; have gz2 := gz 2; have gz3 := gz 3; have gz4 := gz 4
      have ln := N2.lt
      obtain ⟨⟨r0, r1, r2, r3, r4, r5, r6, r7⟩, hz⟩ := R2.cells8
      obtain ⟨⟨f0, _, _, _, _, f5, f6, f7⟩, _⟩ := N2.cells8
      have z0 := hz 0; have z1 := hz 1; have z2 := hz 2; have z3 := hz 3; have z4 := hz 4; have z5 := hz 5; have z6 := hz 6; have z7 := hz 7
      have lr := R2.lt
      clear hz gz
      have HR2 := Lib.hid R2; have H2 := Lib.hid h2; have HO2 := Lib.hid hO2
      clear R2 N2 h2 hO2 R1 N1 h1 hO1
      go_upto_region 22 with fail
      change Code.wp _ _ _ _ (setW w2 (w.heap.size + 1) S)
      have R2 := HR2.out.keep (setW_other w2 (w.heap.size + 1) S w.heap.size (by omega))
      have N2 := setW_blk HS.out S
      have h2 := H2.out.fillW (b := w.heap.size + 1) (by omega) S
      have hO2 := Off.fillW HO2.out (b := w.heap.size + 1) (by omega) S
      clear r0 r1 r2 r3 r4 r5 r6 r7 f0 f5 f6 f7 g1 g2 g3 g4 gz1 gz2 gz3 gz4 z0 z1 z2 z3 z4 z5 z6 z7 lr ln HR2 H2 HO2 HS
      obtain ⟨x, hx⟩ : ∃ x : Nx, x = (S.T, none, 0) := ⟨_, rfl⟩
      rw [← hx] at N2
      have Hx := Lib.hid hx
      clear hx
      generalize setW w2 (w.heap.size + 1) S = W2 at *
      obtain ⟨⟨f0, f1, f2, f3, f4, f5, f6, f7⟩, _⟩ := N2.cells8
      obtain ⟨⟨r0, r1, r2, r3, r4, r5, r6, r7⟩, hz⟩ := R2.cells8
      have z0 := hz 0; have z1 := hz 1; have z2 := hz 2; have z3 := hz 3; have z4 := hz 4; have z5 := hz 5; have z6 := hz 6; have z7 := hz 7
      have lr := R2.lt
      have ln := N2.lt
      clear hz
      have HR2 := Lib.hid R2; have H2 := Lib.hid h2; have HO2 := Lib.hid hO2
      clear R2 N2 h2 hO2
      go_wp2_with fail
      change bodyPost _ _ _ _ _ (writeX W2 w.heap.size x)
      have hfin := writeX_blk HR2.out x
      obtain ⟨⟨y0, y1, y2, y3, y4, y5, y6, y7⟩, _⟩ := hfin.cells8
      have hRS := H2.out.boxW (b := w.heap.size) (by omega) x
      have hOff := Off.boxW HO2.out (Nat.le_refl _) x
      have hNod : NodeAt (writeX W2 w.heap.size x) (fun b => w.heap.size ≤ b ∧ b < (writeX W2 w.heap.size x).heap.size) x.1 x.2.1 x.2.2 := by rw [Hx.out]; exact nodeAt_leafX _ _ _ rfl
      generalize writeX W2 w.heap.size x = W3 at *
      refine bodyPost_ret (v := nodeV x.1 x.2.1 x.2.2) (by simp [results, Try.results84, y0, y1, y2, y3, y4, y5, y6, y7, go_sem]) rfl ⟨x, _, rfl, hNod, hRS, hOff, ?_⟩
      exact Out.good (x := (w40.span 0 256).T) (by simp [atomP]) (by rw [Hx.out, HSe.out])
    have n46 := u8_ne (k := 46) (by omega) c46
    by_cases c42 : c = 42
    · subst c42
      go_wp2_with fail
      refine (fail_ok 104 (by omega) h1).mono ?_
      rintro en W2 ⟨rfl, h2, hO2⟩
      have R2 := hO2.blk R1 (by omega)
      have N2 := hO2.blk N1 (by omega)
      have hO2 := hO1.trans hO2
      obtain ⟨x, hx⟩ : ∃ x : Nx, x = (w40.T, none, 0) := ⟨_, rfl⟩
      rw [← hx] at N2
      have Hx := Lib.hid hx
      clear hx R1 N1 h1 hO1
      obtain ⟨⟨f0, f1, f2, f3, f4, f5, f6, f7⟩, _⟩ := N2.cells8
      obtain ⟨⟨r0, r1, r2, r3, r4, r5, r6, r7⟩, hz⟩ := R2.cells8
      have z0 := hz 0; have z1 := hz 1; have z2 := hz 2; have z3 := hz 3; have z4 := hz 4; have z5 := hz 5; have z6 := hz 6; have z7 := hz 7
      have lr := R2.lt
      have ln := N2.lt
      clear hz
      have HR2 := Lib.hid R2; have H2 := Lib.hid h2; have HO2 := Lib.hid hO2
      clear R2 N2 h2 hO2
      go_wp2_with fail
      change bodyPost _ _ _ _ _ (writeX W2 w.heap.size x)
      have hfin := writeX_blk HR2.out x
      obtain ⟨⟨y0, y1, y2, y3, y4, y5, y6, y7⟩, _⟩ := hfin.cells8
      have hRS := H2.out.boxW (b := w.heap.size) (by omega) x
      have hOff := Off.boxW HO2.out (Nat.le_refl _) x
      have hNod : NodeAt (writeX W2 w.heap.size x) (fun b => w.heap.size ≤ b ∧ b < (writeX W2 w.heap.size x).heap.size) x.1 x.2.1 x.2.2 := by rw [Hx.out]; exact nodeAt_leafX _ _ _ rfl
      generalize writeX W2 w.heap.size x = W3 at *
      refine bodyPost_ret (v := nodeV x.1 x.2.1 x.2.2) (by simp [results, Try.results84, y0, y1, y2, y3, y4, y5, y6, y7, go_sem]) rfl ⟨x, _, rfl, hNod, hRS, hOff, ?_⟩
      exact Out.bad (by simp [atomP])
    have n42 := u8_ne (k := 42) (by omega) c42
    by_cases c43 : c = 43
    · subst c43
      go_wp2_with fail
      refine (fail_ok 104 (by omega) h1).mono ?_
      rintro en W2 ⟨rfl, h2, hO2⟩
      have R2 := hO2.blk R1 (by omega)
      have N2 := hO2.blk N1 (by omega)
      have hO2 := hO1.trans hO2
      obtain ⟨x, hx⟩ : ∃ x : Nx, x = (w40.T, none, 0) := ⟨_, rfl⟩
      rw [← hx] at N2
      have Hx := Lib.hid hx
      clear hx R1 N1 h1 hO1
      obtain ⟨⟨f0, f1, f2, f3, f4, f5, f6, f7⟩, _⟩ := N2.cells8
      obtain ⟨⟨r0, r1, r2, r3, r4, r5, r6, r7⟩, hz⟩ := R2.cells8
      have z0 := hz 0; have z1 := hz 1; have z2 := hz 2; have z3 := hz 3; have z4 := hz 4; have z5 := hz 5; have z6 := hz 6; have z7 := hz 7
      have lr := R2.lt
      have ln := N2.lt
      clear hz
      have HR2 := Lib.hid R2; have H2 := Lib.hid h2; have HO2 := Lib.hid hO2
      clear R2 N2 h2 hO2
      go_wp2_with fail
      change bodyPost _ _ _ _ _ (writeX W2 w.heap.size x)
      have hfin := writeX_blk HR2.out x
      obtain ⟨⟨y0, y1, y2, y3, y4, y5, y6, y7⟩, _⟩ := hfin.cells8
      have hRS := H2.out.boxW (b := w.heap.size) (by omega) x
      have hOff := Off.boxW HO2.out (Nat.le_refl _) x
      have hNod : NodeAt (writeX W2 w.heap.size x) (fun b => w.heap.size ≤ b ∧ b < (writeX W2 w.heap.size x).heap.size) x.1 x.2.1 x.2.2 := by rw [Hx.out]; exact nodeAt_leafX _ _ _ rfl
      generalize writeX W2 w.heap.size x = W3 at *
      refine bodyPost_ret (v := nodeV x.1 x.2.1 x.2.2) (by simp [results, Try.results84, y0, y1, y2, y3, y4, y5, y6, y7, go_sem]) rfl ⟨x, _, rfl, hNod, hRS, hOff, ?_⟩
      exact Out.bad (by simp [atomP])
    have n43 := u8_ne (k := 43) (by omega) c43
    by_cases c63 : c = 63
    · subst c63
      go_wp2_with fail
      refine (fail_ok 104 (by omega) h1).mono ?_
      rintro en W2 ⟨rfl, h2, hO2⟩
      have R2 := hO2.blk R1 (by omega)
      have N2 := hO2.blk N1 (by omega)
      have hO2 := hO1.trans hO2
      obtain ⟨x, hx⟩ : ∃ x : Nx, x = (w40.T, none, 0) := ⟨_, rfl⟩
      rw [← hx] at N2
      have Hx := Lib.hid hx
      clear hx R1 N1 h1 hO1
      obtain ⟨⟨f0, f1, f2, f3, f4, f5, f6, f7⟩, _⟩ := N2.cells8
      obtain ⟨⟨r0, r1, r2, r3, r4, r5, r6, r7⟩, hz⟩ := R2.cells8
      have z0 := hz 0; have z1 := hz 1; have z2 := hz 2; have z3 := hz 3; have z4 := hz 4; have z5 := hz 5; have z6 := hz 6; have z7 := hz 7
      have lr := R2.lt
      have ln := N2.lt
      clear hz
      have HR2 := Lib.hid R2; have H2 := Lib.hid h2; have HO2 := Lib.hid hO2
      clear R2 N2 h2 hO2
      go_wp2_with fail
      change bodyPost _ _ _ _ _ (writeX W2 w.heap.size x)
      have hfin := writeX_blk HR2.out x
      obtain ⟨⟨y0, y1, y2, y3, y4, y5, y6, y7⟩, _⟩ := hfin.cells8
      have hRS := H2.out.boxW (b := w.heap.size) (by omega) x
      have hOff := Off.boxW HO2.out (Nat.le_refl _) x
      have hNod : NodeAt (writeX W2 w.heap.size x) (fun b => w.heap.size ≤ b ∧ b < (writeX W2 w.heap.size x).heap.size) x.1 x.2.1 x.2.2 := by rw [Hx.out]; exact nodeAt_leafX _ _ _ rfl
      generalize writeX W2 w.heap.size x = W3 at *
      refine bodyPost_ret (v := nodeV x.1 x.2.1 x.2.2) (by simp [results, Try.results84, y0, y1, y2, y3, y4, y5, y6, y7, go_sem]) rfl ⟨x, _, rfl, hNod, hRS, hOff, ?_⟩
      exact Out.bad (by simp [atomP])
    have n63 := u8_ne (k := 63) (by omega) c63
    by_cases c123 : c = 123
    · subst c123
      go_wp2_with fail
      refine (fail_ok 104 (by omega) h1).mono ?_
      rintro en W2 ⟨rfl, h2, hO2⟩
      have R2 := hO2.blk R1 (by omega)
      have N2 := hO2.blk N1 (by omega)
      have hO2 := hO1.trans hO2
      obtain ⟨x, hx⟩ : ∃ x : Nx, x = (w40.T, none, 0) := ⟨_, rfl⟩
      rw [← hx] at N2
      have Hx := Lib.hid hx
      clear hx R1 N1 h1 hO1
      obtain ⟨⟨f0, f1, f2, f3, f4, f5, f6, f7⟩, _⟩ := N2.cells8
      obtain ⟨⟨r0, r1, r2, r3, r4, r5, r6, r7⟩, hz⟩ := R2.cells8
      have z0 := hz 0; have z1 := hz 1; have z2 := hz 2; have z3 := hz 3; have z4 := hz 4; have z5 := hz 5; have z6 := hz 6; have z7 := hz 7
      have lr := R2.lt
      have ln := N2.lt
      clear hz
      have HR2 := Lib.hid R2; have H2 := Lib.hid h2; have HO2 := Lib.hid hO2
      clear R2 N2 h2 hO2
      go_wp2_with fail
      change bodyPost _ _ _ _ _ (writeX W2 w.heap.size x)
      have hfin := writeX_blk HR2.out x
      obtain ⟨⟨y0, y1, y2, y3, y4, y5, y6, y7⟩, _⟩ := hfin.cells8
      have hRS := H2.out.boxW (b := w.heap.size) (by omega) x
      have hOff := Off.boxW HO2.out (Nat.le_refl _) x
      have hNod : NodeAt (writeX W2 w.heap.size x) (fun b => w.heap.size ≤ b ∧ b < (writeX W2 w.heap.size x).heap.size) x.1 x.2.1 x.2.2 := by rw [Hx.out]; exact nodeAt_leafX _ _ _ rfl
      generalize writeX W2 w.heap.size x = W3 at *
      refine bodyPost_ret (v := nodeV x.1 x.2.1 x.2.2) (by simp [results, Try.results84, y0, y1, y2, y3, y4, y5, y6, y7, go_sem]) rfl ⟨x, _, rfl, hNod, hRS, hOff, ?_⟩
      exact Out.bad (by simp [atomP])
    have n123 := u8_ne (k := 123) (by omega) c123
    by_cases c92 : c = 92
    · subst c92
      rcases t with _ | ⟨y, t'⟩
      · go_wp2_with fail
        refine (next_end 106 (by omega) h1).mono ?_
        rintro en w3 ⟨rfl, h3, hO3⟩
        have R1 := hO3.blk R1 (by omega)
        have N1 := hO3.blk N1 (by omega)
        have hO1 := hO1.trans hO3
        have h1 := h3
        clear h3 hO3
        go_wp2_with fail
        refine (add_any w3 (w.heap.size + 1) 1 w40 0 (by omega) N1.at4 N1.froz).mono ?_
        rintro en w2 ⟨rfl, rfl⟩
        have R2 : BlkX (addW w3 (w.heap.size + 1) 1 w40 0).drew w.heap.size (xcell (.mk 0 0 0 0 0 0 0 [], none, 0)).toArray := R1.keep (addW_other _ _ _ _ _ _ (by omega))
        have N2 : BlkX (addW w3 (w.heap.size + 1) 1 w40 0).drew (w.heap.size + 1) (xcell ((w40.add 0).T, none, 0)).toArray := addW_blk N1 0 (by omega)
        have h2 := h1.putW (b := w.heap.size + 1) (by omega) 1 w40 0
        have hO2 := Off.putW hO1 (b := w.heap.size + 1) (by omega) 1 w40 0
        obtain ⟨x, hx⟩ : ∃ x : Nx, x = ((w40.add 0).T, none, 0) := ⟨_, rfl⟩
        rw [← hx] at N2
        have Hx := Lib.hid hx
        clear hx R1 N1 h1 hO1
        generalize (addW w3 (w.heap.size + 1) 1 w40 0).drew = W2 at *
        obtain ⟨⟨f0, f1, f2, f3, f4, f5, f6, f7⟩, _⟩ := N2.cells8
        obtain ⟨⟨r0, r1, r2, r3, r4, r5, r6, r7⟩, hz⟩ := R2.cells8
        have z0 := hz 0; have z1 := hz 1; have z2 := hz 2; have z3 := hz 3; have z4 := hz 4; have z5 := hz 5; have z6 := hz 6; have z7 := hz 7
        have lr := R2.lt
        have ln := N2.lt
        clear hz
        have HR2 := Lib.hid R2; have H2 := Lib.hid h2; have HO2 := Lib.hid hO2
        clear R2 N2 h2 hO2
        go_wp2_with fail
        change bodyPost _ _ _ _ _ (writeX W2 w.heap.size x)
        have hfin := writeX_blk HR2.out x
        obtain ⟨⟨y0, y1, y2, y3, y4, y5, y6, y7⟩, _⟩ := hfin.cells8
        have hRS := H2.out.boxW (b := w.heap.size) (by omega) x
        have hOff := Off.boxW HO2.out (Nat.le_refl _) x
        have hNod : NodeAt (writeX W2 w.heap.size x) (fun b => w.heap.size ≤ b ∧ b < (writeX W2 w.heap.size x).heap.size) x.1 x.2.1 x.2.2 := by rw [Hx.out]; exact nodeAt_leafX _ _ _ rfl
        generalize writeX W2 w.heap.size x = W3 at *
        refine bodyPost_ret (v := nodeV x.1 x.2.1 x.2.2) (by simp [results, Try.results84, y0, y1, y2, y3, y4, y5, y6, y7, go_sem]) rfl ⟨x, _, rfl, hNod, hRS, hOff, ?_⟩
        exact Out.bad (by simp [atomP])
      · have hy := y.toNat_lt
        go_wp2_with fail
        refine (next_ok 106 (by omega) h1).mono ?_
        rintro en w3 ⟨rfl, h3, hO3⟩
        have R1 := hO3.blk R1 (by omega)
        have N1 := hO3.blk N1 (by omega)
        have hO1 := hO1.trans hO3
        have h1 := h3
        clear h3 hO3
        go_wp2_with fail
        refine (add_any w3 (w.heap.size + 1) 1 w40 y.toNat (by omega) N1.at4 N1.froz).mono ?_
        rintro en w2 ⟨rfl, rfl⟩
        have R2 : BlkX (addW w3 (w.heap.size + 1) 1 w40 y.toNat).drew w.heap.size (xcell (.mk 0 0 0 0 0 0 0 [], none, 0)).toArray := R1.keep (addW_other _ _ _ _ _ _ (by omega))
        have N2 : BlkX (addW w3 (w.heap.size + 1) 1 w40 y.toNat).drew (w.heap.size + 1) (xcell ((w40.add y.toNat).T, none, 0)).toArray := addW_blk N1 y.toNat (by omega)
        have h2 := h1.putW (b := w.heap.size + 1) (by omega) 1 w40 y.toNat
        have hO2 := Off.putW hO1 (b := w.heap.size + 1) (by omega) 1 w40 y.toNat
        obtain ⟨x, hx⟩ : ∃ x : Nx, x = ((w40.add y.toNat).T, none, 0) := ⟨_, rfl⟩
        rw [← hx] at N2
        have Hx := Lib.hid hx
        clear hx R1 N1 h1 hO1
        generalize (addW w3 (w.heap.size + 1) 1 w40 y.toNat).drew = W2 at *
        obtain ⟨⟨f0, f1, f2, f3, f4, f5, f6, f7⟩, _⟩ := N2.cells8
        obtain ⟨⟨r0, r1, r2, r3, r4, r5, r6, r7⟩, hz⟩ := R2.cells8
        have z0 := hz 0; have z1 := hz 1; have z2 := hz 2; have z3 := hz 3; have z4 := hz 4; have z5 := hz 5; have z6 := hz 6; have z7 := hz 7
        have lr := R2.lt
        have ln := N2.lt
        clear hz
        have HR2 := Lib.hid R2; have H2 := Lib.hid h2; have HO2 := Lib.hid hO2
        clear R2 N2 h2 hO2
        go_wp2_with fail
        change bodyPost _ _ _ _ _ (writeX W2 w.heap.size x)
        have hfin := writeX_blk HR2.out x
        obtain ⟨⟨y0, y1, y2, y3, y4, y5, y6, y7⟩, _⟩ := hfin.cells8
        have hRS := H2.out.boxW (b := w.heap.size) (by omega) x
        have hOff := Off.boxW HO2.out (Nat.le_refl _) x
        have hNod : NodeAt (writeX W2 w.heap.size x) (fun b => w.heap.size ≤ b ∧ b < (writeX W2 w.heap.size x).heap.size) x.1 x.2.1 x.2.2 := by rw [Hx.out]; exact nodeAt_leafX _ _ _ rfl
        generalize writeX W2 w.heap.size x = W3 at *
        refine bodyPost_ret (v := nodeV x.1 x.2.1 x.2.2) (by simp [results, Try.results84, y0, y1, y2, y3, y4, y5, y6, y7, go_sem]) rfl ⟨x, _, rfl, hNod, hRS, hOff, ?_⟩
        exact Out.good (x := (w40.add y.toNat).T) (by simp [atomP]) (by rw [Hx.out])
    have n92 := u8_ne (k := 92) (by omega) c92
    have hy := c.toNat_lt
    have hres : atomP grp (c :: t) = .ok ((w40.add c.toNat).T, t) := by simp [atomP, c40, c94, c36, c91, c46, c42, c43, c63, c123, c92]
    have Hres := Lib.hid hres; clear hres c40 c94 c36 c91 c46 c42 c43 c63 c123 c92
    go_wp2_with fail
    refine (add_any w1 (w.heap.size + 1) 1 w40 c.toNat (by omega) N1.at4 N1.froz).mono ?_
    rintro en w2 ⟨rfl, rfl⟩
    have R2 : BlkX (addW w1 (w.heap.size + 1) 1 w40 c.toNat).drew w.heap.size (xcell (.mk 0 0 0 0 0 0 0 [], none, 0)).toArray := R1.keep (addW_other _ _ _ _ _ _ (by omega))
    have N2 : BlkX (addW w1 (w.heap.size + 1) 1 w40 c.toNat).drew (w.heap.size + 1) (xcell ((w40.add c.toNat).T, none, 0)).toArray := addW_blk N1 c.toNat (by omega)
    have h2 := h1.putW (b := w.heap.size + 1) (by omega) 1 w40 c.toNat
    have hO2 := Off.putW hO1 (b := w.heap.size + 1) (by omega) 1 w40 c.toNat
    obtain ⟨x, hx⟩ : ∃ x : Nx, x = ((w40.add c.toNat).T, none, 0) := ⟨_, rfl⟩
    rw [← hx] at N2
    have Hx := Lib.hid hx
    clear hx R1 N1 h1 hO1
    generalize (addW w1 (w.heap.size + 1) 1 w40 c.toNat).drew = W2 at *
    obtain ⟨⟨f0, f1, f2, f3, f4, f5, f6, f7⟩, _⟩ := N2.cells8
    obtain ⟨⟨r0, r1, r2, r3, r4, r5, r6, r7⟩, hz⟩ := R2.cells8
    have z0 := hz 0; have z1 := hz 1; have z2 := hz 2; have z3 := hz 3; have z4 := hz 4; have z5 := hz 5; have z6 := hz 6; have z7 := hz 7
    have lr := R2.lt
    have ln := N2.lt
    clear hz
    have HR2 := Lib.hid R2; have H2 := Lib.hid h2; have HO2 := Lib.hid hO2
    clear R2 N2 h2 hO2
    go_wp2_with fail
    change bodyPost _ _ _ _ _ (writeX W2 w.heap.size x)
    have hfin := writeX_blk HR2.out x
    obtain ⟨⟨y0, y1, y2, y3, y4, y5, y6, y7⟩, _⟩ := hfin.cells8
    have hRS := H2.out.boxW (b := w.heap.size) (by omega) x
    have hOff := Off.boxW HO2.out (Nat.le_refl _) x
    have hNod : NodeAt (writeX W2 w.heap.size x) (fun b => w.heap.size ≤ b ∧ b < (writeX W2 w.heap.size x).heap.size) x.1 x.2.1 x.2.2 := by rw [Hx.out]; exact nodeAt_leafX _ _ _ rfl
    generalize writeX W2 w.heap.size x = W3 at *
    refine bodyPost_ret (v := nodeV x.1 x.2.1 x.2.2) (by simp [results, Try.results84, y0, y1, y2, y3, y4, y5, y6, y7, go_sem]) rfl ⟨x, _, rfl, hNod, hRS, hOff, ?_⟩
    exact Out.good (x := (w40.add c.toNat).T) Hres.out (by rw [Hx.out])
end Go.Proofs.Ytdpmbanfaigmcaa

/- The pattern reader's piece: walked. (Printed by wip/genpiece.py.) -/
set_option linter.unusedVariables false
set_option linter.unusedSimpArgs false
namespace Go.Proofs.Ytdpmbanfaigmcaa
open Go.RowKit

theorem takeP_len {q r r' : Bs} (h : takeP q r = some r') : r'.length + q.length = r.length := by
  unfold takeP at h
  split at h
  · rename_i hp
    cases h
    have := pref_len hp
    simp; omega
  · cases h
theorem digits_len : ∀ (k : Nat) (n : Int) (w : Nat) (r : Bs), (digitsP k n w r).2.2.length ≤ r.length
  | 0, n, w, r => by rw [digitsP]; exact Nat.le_refl _
  | k + 1, n, w, [] => by rw [digitsP]; exact Nat.le_refl _
  | k + 1, n, w, c :: t => by
    rw [digitsP]
    split
    · have := digits_len k (10 * n + (c.toNat - 48)) (w + 1) t
      simp only [List.length_cons]; omega
    · exact Nat.le_refl _
theorem number_len {r r' : Bs} {n : Int} (h : numberP r = .ok (n, r')) : r'.length ≤ r.length := by
  unfold numberP at h
  split at h
  · cases h
  · cases h; exact digits_len 4 0 0 r
theorem interval_len {r r' : Bs} {m n : Int} (h : intervalP r = .ok (m, n, r')) : r'.length ≤ r.length := by
  unfold intervalP at h
  split at h
  · cases h
  rename_i m1 r1 hn
  have l1 := number_len hn
  split at h
  · rename_i r2 ht; cases h; have := takeP_len ht; simp at this; omega
  split at h
  · rename_i r2 ht; cases h; have := takeP_len ht; simp at this; omega
  split at h
  · cases h
  rename_i r2 ht
  have l2 := takeP_len ht
  split at h
  · cases h
  rename_i n1 r3 hn2
  have l3 := number_len hn2
  split at h
  · cases h
  split at h
  · rename_i r4 ht4; cases h; have := takeP_len ht4; simp at this l2; omega
  · cases h
/-- Where the loop of piece stands. -/
def PieceI (p : Nat) (op : Int) (grp : Bs → PT) (s : Rs) (w : World) (bn : Nat) (wr : World) (n : Nat) : Prop :=
  ∃ (x : Nx) (s' : Rs), n = s'.rest.length + 1 ∧ BlkX wr w.heap.size (xcell (.mk 0 0 0 0 0 0 0 [], none, 0)).toArray ∧ BlkX wr bn (xcell x).toArray ∧ NodeAt wr (fun b => w.heap.size < b ∧ b < wr.heap.size ∧ b ≠ bn) x.1 x.2.1 x.2.2 ∧ RS wr p op s' ∧ Off p w wr ∧
    ((∃ e, s' = .error e ∧ (s = .error e ∨ ∃ r, s = .ok r ∧ pieceP grp r = .error e)) ∨ ∃ r r' k, s = .ok r ∧ s' = .ok r' ∧ r'.length < k ∧ pieceP grp r = sufP k x.1 r')

/-- Within a round of piece: the new node's box, what it may become. -/
structure PieceR (p : Nat) (op : Int) (w wr : World) (bn : Nat) (t : T) (A : Option Addr) (c : Nat) (mm mx : Int) (s : Rs) (W : World) : Prop where
  R : BlkX W w.heap.size (xcell (.mk 0 0 0 0 0 0 0 [], none, 0)).toArray
  N : BlkX W bn (xcell (t, A, c)).toArray
  X : BlkX W (wr.heap.size + 1) (xcell (repT mm mx t, some ⟨wr.heap.size, 0, none⟩, 1)).toArray
  node : ∀ m n, NodeAt W (fun b => w.heap.size < b ∧ b < wr.heap.size + 1 ∧ b ≠ bn) (repT m n t) (some ⟨wr.heap.size, 0, none⟩) 1
  x : NodeAt W (fun b => w.heap.size < b ∧ b < wr.heap.size ∧ b ≠ bn) t A c
  S : RS W p op s
  O : Off p w W
theorem PieceR.off {p : Nat} {op : Int} {w wr : World} {bn : Nat} {t : T} {A : Option Addr} {c : Nat} {mm mx : Int} {s : Rs} {W : World} (h : PieceR p op w wr bn t A c mm mx s W) {s' : Rs} {W' : World} (hp : p < w.heap.size) (hbn : w.heap.size < bn) (hwr : bn < wr.heap.size) (hO : Off p W W') (hS : RS W' p op s') : PieceR p op w wr bn t A c mm mx s' W' := by
  have lx := h.X.lt
  exact ⟨Off.blk hO h.R (by omega), Off.blk hO h.N (by omega), Off.blk hO h.X (by omega), fun m n => (h.node m n).mono fun b (hb : w.heap.size < b ∧ b < wr.heap.size + 1 ∧ b ≠ bn) => ⟨hb, fun o => Off.cell hO (by omega) (by omega)⟩, h.x.mono fun b (hb : w.heap.size < b ∧ b < wr.heap.size ∧ b ≠ bn) => ⟨hb, fun o => Off.cell hO (by omega) (by omega)⟩, hS, Off.trans h.O hO⟩
theorem PieceR.put {p : Nat} {op : Int} {w wr : World} {bn : Nat} {t : T} {A : Option Addr} {c : Nat} {mm mx : Int} {s : Rs} {W : World} (h : PieceR p op w wr bn t A c mm mx s W) {m' n' : Int} {W' : World} (hp : p < w.heap.size) (hbn : w.heap.size < bn) (hwr : bn < wr.heap.size)
    (hX : BlkX W' (wr.heap.size + 1) (xcell (repT m' n' t, some ⟨wr.heap.size, 0, none⟩, 1)).toArray) (hz : W'.heap.size = W.heap.size) (hb : Below 0 W W') (hk : ∀ k, k ≠ wr.heap.size + 1 → W'.heap[k]? = W.heap[k]?) : PieceR p op w wr bn t A c m' n' s W' := by
  have lx := h.X.lt
  have hc : ∀ b o, b ≠ wr.heap.size + 1 → W'.cell? ⟨b, o, none⟩ = W.cell? ⟨b, o, none⟩ := fun b o hb => World.cell?_of_block (w := W) (a := ⟨b, o, none⟩) (hk b hb)
  exact ⟨h.R.keep (hk _ (by omega)), h.N.keep (hk _ (by omega)), hX, fun m n => (h.node m n).mono fun b (hb : w.heap.size < b ∧ b < wr.heap.size + 1 ∧ b ≠ bn) => ⟨hb, fun o => hc b o (by omega)⟩, h.x.mono fun b (hb : w.heap.size < b ∧ b < wr.heap.size ∧ b ≠ bn) => ⟨hb, fun o => hc b o (by omega)⟩, h.S.kept (by omega) (hk _ (by omega)) (hk _ (by omega)), Off.far h.O (b := wr.heap.size + 1) (by omega) hb.os hb.tape hb.output hz hk⟩
theorem PieceR.set5 {p : Nat} {op : Int} {w wr : World} {bn : Nat} {t : T} {A : Option Addr} {c : Nat} {mm mx : Int} {s : Rs} {W : World} (h : PieceR p op w wr bn t A c mm mx s W) (hp : p < w.heap.size) (hbn : w.heap.size < bn) (hwr : bn < wr.heap.size) (m' : Int) : PieceR p op w wr bn t A c m' mx s (W.setCell ⟨wr.heap.size + 1, 5, none⟩ (.int .i64 m')) := by
  refine h.put hp hbn hwr ?_ (by simp) ((Below.refl 0 W).setCell (Nat.zero_le _) _) (fun k hk => Below.heap_setCell _ _ _ _ hk)
  have h1 := h.X.set 5 (.int .i64 m')
  simpa [xcell, repT, T.k, T.s0, T.s1, T.s2, T.s3, T.mn, T.mx, T.ps] using h1
theorem PieceR.set6 {p : Nat} {op : Int} {w wr : World} {bn : Nat} {t : T} {A : Option Addr} {c : Nat} {mm mx : Int} {s : Rs} {W : World} (h : PieceR p op w wr bn t A c mm mx s W) (hp : p < w.heap.size) (hbn : w.heap.size < bn) (hwr : bn < wr.heap.size) (m' : Int) : PieceR p op w wr bn t A c mm m' s (W.setCell ⟨wr.heap.size + 1, 6, none⟩ (.int .i64 m')) := by
  refine h.put hp hbn hwr ?_ (by simp) ((Below.refl 0 W).setCell (Nat.zero_le _) _) (fun k hk => Below.heap_setCell _ _ _ _ hk)
  have h1 := h.X.set 6 (.int .i64 m')
  simpa [xcell, repT, T.k, T.s0, T.s1, T.s2, T.s3, T.mn, T.mx, T.ps] using h1
/-- The round's end: the new node is the node. -/
theorem PieceR.done {p : Nat} {op : Int} {w wr : World} {bn : Nat} {t : T} {A : Option Addr} {c : Nat} {mm mx : Int} {s : Rs} {W : World} (h : PieceR p op w wr bn t A c mm mx s W) (hp : p < w.heap.size) (hbn : w.heap.size < bn) (hwr : bn < wr.heap.size) :
    (fun W' => BlkX W' w.heap.size (xcell (.mk 0 0 0 0 0 0 0 [], none, 0)).toArray ∧ BlkX W' bn (xcell (repT mm mx t, some ⟨wr.heap.size, 0, none⟩, 1)).toArray ∧ NodeAt W' (fun b => w.heap.size < b ∧ b < W'.heap.size ∧ b ≠ bn) (repT mm mx t) (some ⟨wr.heap.size, 0, none⟩) 1 ∧ RS W' p op s ∧ Off p w W') (writeX W bn (repT mm mx t, some ⟨wr.heap.size, 0, none⟩, 1)) := by
  have lx := h.X.lt
  refine ⟨h.R.keep (writeX_other _ _ _ _ (by omega)), writeX_blk h.N _, (h.node mm mx).mono fun b (hb : w.heap.size < b ∧ b < wr.heap.size + 1 ∧ b ≠ bn) => ⟨⟨hb.1, by rw [writeX_size]; omega, hb.2.2⟩, fun o => World.cell?_of_block (w := W) (a := ⟨b, o, none⟩) (writeX_other _ _ _ _ hb.2.2)⟩, h.S.boxW (by omega) _, Off.boxW h.O (by omega) _⟩

set_option maxRecDepth 100000 in
set_option maxHeartbeats 4000000 in
theorem piece_any (w : World) (p : Nat) (op : Int) (s : Rs) (h : RS w p op s) (hs : s.rest.length ≤ 1024) (grp : Bs → PT) (hB : ∀ r, s = .ok r → 91 ∈ r → BrC) (hD : ∀ r, s = .ok r → 46 ∈ r → DotC)
    (hG : ∀ (w : World) (s : Rs), RS w p op s → s.rest.length ≤ 1024 → (∀ r, s = .ok r → 91 ∈ r → BrC) → (∀ r, s = .ok r → 46 ∈ r → DotC) → Calls Try.prog 88 #[.pointer (some ⟨p, 0, none⟩)] w fun en w' => GNode p op grp s w en w') :
    Calls Try.prog 82 #[.pointer (some ⟨p, 0, none⟩)] w fun en w' => GNode p op (pieceP grp) s w en w' := by
  have hlt := h.lt
  have hat : ∀ (w : World), RS w p op s → Calls Try.prog 84 #[.pointer (some ⟨p, 0, none⟩)] w fun en w' => GNode p op (atomP grp) s w en w' := fun w h => atom_any w p op s h hs grp hB hD hG
  have HA := Lib.hid hat; clear hat hB hD hG hs
  have H := Lib.hid h; clear h
  go_enter Try.func82, Try.ntmps82
  go_wp2_with fail
  generalize hW : w.alloc _ = W0
  have hB0 : Below w.heap.size w W0 := by subst hW; exact (Below.refl _ _).alloc (Nat.le_refl _) _
  have R0 : BlkX W0 w.heap.size (xcell (.mk 0 0 0 0 0 0 0 [], none, 0)).toArray := by subst hW; exact BlkX.new w _
  have hz0 : W0.heap.size = w.heap.size + 1 := by subst hW; simp
  clear hW
  refine (HA.out W0 (H.out.later hB0)).mono ?_
  rintro en w1 ⟨⟨t1, A1, c1⟩, s1, rfl, hx1, h1, hO1, ho1⟩
  have R1 := hO1.blk R0 (by omega)
  have hz1 := hO1.size
  have Hx1 := Lib.hid hx1; have Ho1 := Lib.hid ho1; have Hz0 := Lib.hid hz0
  have hz0' : w.heap.size < W0.heap.size := by omega
  clear hx1 ho1 hz0
  go_wp2_with fail
  generalize hW : w1.alloc _ = W1
  have hb1 : Below w1.heap.size w1 W1 := by subst hW; exact (Below.refl _ _).alloc (Nat.le_refl _) _
  have N1 : BlkX W1 w1.heap.size (xcell (t1, A1, c1)).toArray := by subst hW; exact BlkX.new w1 _
  have hz2 : w1.heap.size < W1.heap.size := by subst hW; simp
  have hI : PieceI p op grp s w w1.heap.size W1 (s1.rest.length + 1) := by
    refine ⟨(t1, A1, c1), s1, rfl, R1.keep (hb1.block _ R1.lt), N1, Hx1.out.mono fun b (hb : W0.heap.size ≤ b ∧ b < w1.heap.size) => ⟨⟨by omega, by omega, by omega⟩, fun o => hb1.cell (p := ⟨b, o, none⟩) hb.2⟩, h1.later hb1, ((Off.of_below hB0).trans hO1).trans (Off.of_below hb1), ?_⟩
    have ho := Ho1.out
    rcases s with e | r
    · cases (show s1 = .error e from ho)
      exact .inl ⟨e, rfl, .inl rfl⟩
    · cases ha : atomP grp r with
      | error e =>
        simp only [Out, ha] at ho
        exact .inl ⟨e, ho, .inr ⟨r, rfl, by simp only [pieceP, ha]⟩⟩
      | ok y =>
        obtain ⟨n, r1⟩ := y
        simp only [Out, ha] at ho
        obtain ⟨rfl, rfl⟩ := ho
        exact .inr ⟨r, r1, r1.length + 1, rfl, rfl, by omega, by simp only [pieceP, ha]⟩
  have HI := Lib.hid hI
  generalize hbn : w1.heap.size = bn at *
  have hbw : w.heap.size < bn := by omega
  clear hW hI N1 R1 h1 hO1 hb1 Hx1 Ho1 Hz0 hz0' hz1 hbn hB0 R0
  go_loopg [] (s1.rest.length + 1) (fun n wr => PieceI p op grp s w bn wr n)
  case atStart => exact HI.out
  case round =>
    clear HI
    obtain ⟨⟨t, A, c⟩, s', hn, hR, hN, hX, hS, hO, hcase⟩ := hrel
    have Hn := Lib.hid hn; have HX := Lib.hid hX; have HC := Lib.hid hcase; have HN := Lib.hid hN; have HR := Lib.hid hR; have HS := Lib.hid hS; have HO := Lib.hid hO
    have ltn := hN.lt
    have lts := hS.lt
    obtain ⟨⟨f0, f1, f2, f3, f4, f5, f6, f7⟩, _⟩ := hN.cells8
    clear hn hX hcase hN hR hS hO
    go_wp2_with fail
    generalize hW : (wr.alloc _).alloc _ = W2
    have hP : PieceR p op w wr bn t A c 0 (-1) s' W2 := by
      obtain ⟨wa, ha⟩ : ∃ wa, wa = wr.alloc (.cells (xcells [(t, A, c)]).toArray 27) := ⟨_, rfl⟩
      have hza : wa.heap.size = wr.heap.size + 1 := by rw [ha]; simp
      have hba : Below wr.heap.size wr wa := by rw [ha]; exact (Below.refl _ _).alloc (Nat.le_refl _) _
      have h8 := at8_litX [(t, A, c)] ha 0 _ rfl
      have hW' : W2 = wa.alloc (.cells (xcell (repT 0 (-1) t, some ⟨wr.heap.size, 0, none⟩, 1)).toArray 27) := by rw [← hW, ha]; rfl
      have hbb : Below wa.heap.size wa W2 := by rw [hW']; exact (Below.refl _ _).alloc (Nat.le_refl _) _
      have hX := BlkX.new wa (xcell (repT 0 (-1) t, some ⟨wr.heap.size, 0, none⟩, 1)).toArray
      rw [← hW', hza] at hX
      have hbel : Below wr.heap.size wr W2 := hba.trans (hbb.mono hba.size)
      have hx : NodeAt W2 (fun b => w.heap.size < b ∧ b < wr.heap.size ∧ b ≠ bn) t A c := HX.out.mono fun b hb => ⟨hb, fun o => hbel.cell (p := ⟨b, o, none⟩) hb.2.1⟩
      refine ⟨HR.out.keep (hbel.block _ HR.out.lt), HN.out.keep (hbel.block _ HN.out.lt), hX, fun m n => ?_, hx, HS.out.later hbel, Off.trans HO.out (Off.of_below hbel)⟩
      exact node_litX (repT m n t) [(t, A, c)] rfl (by simp) ⟨by omega, by omega, by omega⟩ (getX1 (h8.laterX hbb (by omega))) (getX1 (hx.mono fun b hb => ⟨⟨hb.1, by omega, hb.2.2⟩, fun o => rfl⟩))
    clear hW f0 f1 f2 f3 f4 f5 f6 f7 HR HN HX HS HO
    rcases s' with e | r'
    · go_wp2_with fail
      refine (take_err [42] (by simp) hP.S).mono ?_
      rintro en W3 ⟨rfl, h2, hO2⟩
      have hP := hP.off hlt hbw ltn hO2 h2
      clear h2 hO2
      go_wp2_with fail
      refine (take_err [43] (by simp) hP.S).mono ?_
      rintro en W4 ⟨rfl, h2, hO2⟩
      have hP := hP.off hlt hbw ltn hO2 h2
      clear h2 hO2
      go_wp2_with fail
      refine (take_err [63] (by simp) hP.S).mono ?_
      rintro en W5 ⟨rfl, h2, hO2⟩
      have hP := hP.off hlt hbw ltn hO2 h2
      clear h2 hO2
      go_wp2_with fail
      refine (take_err [123] (by simp) hP.S).mono ?_
      rintro en W6 ⟨rfl, h2, hO2⟩
      have hP := hP.off hlt hbw ltn hO2 h2
      clear h2 hO2
      obtain ⟨⟨n0, n1, n2, n3, n4, n5, n6, n7⟩, _⟩ := hP.N.cells8
      have ln := hP.N.lt
      obtain ⟨⟨r0, r1_, r2_, r3, r4, r5, r6, r7⟩, hz⟩ := hP.R.cells8
      have z0 := hz 0; have z1 := hz 1; have z2 := hz 2; have z3 := hz 3; have z4 := hz 4; have z5 := hz 5; have z6 := hz 6; have z7 := hz 7
      have lr := hP.R.lt
      clear hz
      have HP := Lib.hid hP; clear hP
      go_wp2_with fail
      change bodyPost _ _ _ _ _ (writeX W6 w.heap.size (t, A, c))
      have hfin := writeX_blk HP.out.R (t, A, c)
      obtain ⟨⟨y0, y1, y2, y3, y4, y5, y6, y7⟩, _⟩ := hfin.cells8
      have hRS := HP.out.S.boxW (b := w.heap.size) (by omega) (t, A, c)
      have hOff := Off.boxW HP.out.O (Nat.le_refl _) (t, A, c)
      have hlw := HP.out.X.lt
      have hNod : NodeAt (writeX W6 w.heap.size (t, A, c)) (fun b => w.heap.size ≤ b ∧ b < (writeX W6 w.heap.size (t, A, c)).heap.size) t A c := HP.out.x.mono fun k (hk : w.heap.size < k ∧ k < wr.heap.size ∧ k ≠ bn) => ⟨⟨by omega, by rw [writeX_size]; omega⟩, fun o => World.cell?_of_block (w := W6) (a := ⟨k, o, none⟩) (writeX_other _ _ _ _ (show k ≠ w.heap.size by omega))⟩
      generalize writeX W6 w.heap.size (t, A, c) = W3 at *
      refine bodyPost_ret (v := nodeV t A c) (by simp [results, Try.results82, y0, y1, y2, y3, y4, y5, y6, y7, go_sem]) rfl ⟨(t, A, c), _, rfl, hNod, hRS, hOff, ?_⟩
      rcases HC.out with ⟨e', he, hs⟩ | ⟨r, r', k, _, he, _⟩
      · cases he
        rcases hs with rfl | ⟨r, rfl, hp⟩
        · exact Out.err
        · exact Out.bad hp
      · cases he
    · have hcs : ∃ r k, s = .ok r ∧ r'.length < k + 1 ∧ pieceP grp r = sufP (k + 1) t r' := by
        rcases HC.out with ⟨e', he, hs⟩ | ⟨r, r2, k, hs, he, hk, hpp⟩
        · cases he
        · cases he
          obtain ⟨k', rfl⟩ : ∃ k', k = k' + 1 := ⟨k - 1, by omega⟩
          exact ⟨r, k', hs, hk, hpp⟩
      obtain ⟨r, k, hsr, hk, hpp⟩ := hcs
      have Hpp := Lib.hid hpp; have Hsr := Lib.hid hsr; clear hpp hsr HC
      rcases ht : takeP [42] r' with _ | r2
      case' some =>
        have hsu : sufP (k + 1) t r' = sufP k (repT (0) (-1) t) r2 := by rw [sufP]; simp only [ht]
        have hl := takeP_len ht
        simp only [List.length_cons, List.length_nil] at hl
        have Hsu := Lib.hid hsu; have Ht := Lib.hid ht; clear hsu ht
        go_wp2_with fail
        refine (take_hit [42] (by simp) Ht.out hP.S).mono ?_
        rintro en W3 ⟨rfl, h2, hO2⟩
        have hP := hP.off hlt hbw ltn hO2 h2
        clear h2 hO2
        obtain ⟨⟨n0, n1, n2, n3, n4, n5, n6, n7⟩, hz⟩ := hP.N.cells8
        have zn0 := hz 0; have zn1 := hz 1; have zn2 := hz 2; have zn3 := hz 3; have zn4 := hz 4; have zn5 := hz 5; have zn6 := hz 6; have zn7 := hz 7
        have ln := hP.N.lt
        clear hz
        obtain ⟨⟨x0, x1, x2, x3, x4, x5, x6, x7⟩, hz⟩ := hP.X.cells8
        have zx5 := hz 5; have zx6 := hz 6
        have lx := hP.X.lt
        clear hz
        have HP := Lib.hid hP; clear hP
        go_wp2_with fail
        go_roundg (r2.length + 1)
        case measure => have := Hn.out; simp only [Rs.rest] at this; omega
        case rel =>
          obtain ⟨d1, d2, d3, d4, d5⟩ := HP.out.done hlt hbw ltn
          exact ⟨(repT (0) (-1) t, some ⟨wr.heap.size, 0, none⟩, 1), .ok r2, rfl, d1, d2, d3, d4, d5, (.inr ⟨r, r2, k, Hsr.out, rfl, by omega, by rw [Hpp.out, Hsu.out]⟩)⟩
      have Ht42 := Lib.hid ht; clear ht
      rcases ht : takeP [43] r' with _ | r2
      case' some =>
        have hsu : sufP (k + 1) t r' = sufP k (repT (1) (-1) t) r2 := by rw [sufP]; simp only [Ht42.out, ht]
        have hl := takeP_len ht
        simp only [List.length_cons, List.length_nil] at hl
        have Hsu := Lib.hid hsu; have Ht := Lib.hid ht; clear hsu ht
        go_wp2_with fail
        refine (take_miss [42] (by simp) Ht42.out hP.S).mono ?_
        rintro en W3 ⟨rfl, h2, hO2⟩
        have hP := hP.off hlt hbw ltn hO2 h2
        clear h2 hO2
        go_wp2_with fail
        refine (take_hit [43] (by simp) Ht.out hP.S).mono ?_
        rintro en W4 ⟨rfl, h2, hO2⟩
        have hP := hP.off hlt hbw ltn hO2 h2
        clear h2 hO2
        obtain ⟨⟨n0, n1, n2, n3, n4, n5, n6, n7⟩, hz⟩ := hP.N.cells8
        have zn0 := hz 0; have zn1 := hz 1; have zn2 := hz 2; have zn3 := hz 3; have zn4 := hz 4; have zn5 := hz 5; have zn6 := hz 6; have zn7 := hz 7
        have ln := hP.N.lt
        clear hz
        obtain ⟨⟨x0, x1, x2, x3, x4, x5, x6, x7⟩, hz⟩ := hP.X.cells8
        have zx5 := hz 5; have zx6 := hz 6
        have lx := hP.X.lt
        clear hz
        have HP := Lib.hid (hP.set5 hlt hbw ltn 1); clear hP
        go_wp2_with fail
        go_roundg (r2.length + 1)
        case measure => have := Hn.out; simp only [Rs.rest] at this; omega
        case rel =>
          obtain ⟨d1, d2, d3, d4, d5⟩ := HP.out.done hlt hbw ltn
          exact ⟨(repT (1) (-1) t, some ⟨wr.heap.size, 0, none⟩, 1), .ok r2, rfl, d1, d2, d3, d4, d5, (.inr ⟨r, r2, k, Hsr.out, rfl, by omega, by rw [Hpp.out, Hsu.out]⟩)⟩
      have Ht43 := Lib.hid ht; clear ht
      rcases ht : takeP [63] r' with _ | r2
      case' some =>
        have hsu : sufP (k + 1) t r' = sufP k (repT (0) (1) t) r2 := by rw [sufP]; simp only [Ht42.out, Ht43.out, ht]
        have hl := takeP_len ht
        simp only [List.length_cons, List.length_nil] at hl
        have Hsu := Lib.hid hsu; have Ht := Lib.hid ht; clear hsu ht
        go_wp2_with fail
        refine (take_miss [42] (by simp) Ht42.out hP.S).mono ?_
        rintro en W3 ⟨rfl, h2, hO2⟩
        have hP := hP.off hlt hbw ltn hO2 h2
        clear h2 hO2
        go_wp2_with fail
        refine (take_miss [43] (by simp) Ht43.out hP.S).mono ?_
        rintro en W4 ⟨rfl, h2, hO2⟩
        have hP := hP.off hlt hbw ltn hO2 h2
        clear h2 hO2
        go_wp2_with fail
        refine (take_hit [63] (by simp) Ht.out hP.S).mono ?_
        rintro en W5 ⟨rfl, h2, hO2⟩
        have hP := hP.off hlt hbw ltn hO2 h2
        clear h2 hO2
        obtain ⟨⟨n0, n1, n2, n3, n4, n5, n6, n7⟩, hz⟩ := hP.N.cells8
        have zn0 := hz 0; have zn1 := hz 1; have zn2 := hz 2; have zn3 := hz 3; have zn4 := hz 4; have zn5 := hz 5; have zn6 := hz 6; have zn7 := hz 7
        have ln := hP.N.lt
        clear hz
        obtain ⟨⟨x0, x1, x2, x3, x4, x5, x6, x7⟩, hz⟩ := hP.X.cells8
        have zx5 := hz 5; have zx6 := hz 6
        have lx := hP.X.lt
        clear hz
        have HP := Lib.hid (hP.set6 hlt hbw ltn 1); clear hP
        go_wp2_with fail
        go_roundg (r2.length + 1)
        case measure => have := Hn.out; simp only [Rs.rest] at this; omega
        case rel =>
          obtain ⟨d1, d2, d3, d4, d5⟩ := HP.out.done hlt hbw ltn
          exact ⟨(repT (0) (1) t, some ⟨wr.heap.size, 0, none⟩, 1), .ok r2, rfl, d1, d2, d3, d4, d5, (.inr ⟨r, r2, k, Hsr.out, rfl, by omega, by rw [Hpp.out, Hsu.out]⟩)⟩
      have Ht63 := Lib.hid ht; clear ht
      rcases ht : takeP [123] r' with _ | r1
      case' none =>
        have hsu : sufP (k + 1) t r' = .ok (t, r') := by rw [sufP]; simp only [Ht42.out, Ht43.out, Ht63.out, ht]
        have Hsu := Lib.hid hsu; have Ht := Lib.hid ht; clear hsu ht
        go_wp2_with fail
        refine (take_miss [42] (by simp) Ht42.out hP.S).mono ?_
        rintro en W3 ⟨rfl, h2, hO2⟩
        have hP := hP.off hlt hbw ltn hO2 h2
        clear h2 hO2
        go_wp2_with fail
        refine (take_miss [43] (by simp) Ht43.out hP.S).mono ?_
        rintro en W4 ⟨rfl, h2, hO2⟩
        have hP := hP.off hlt hbw ltn hO2 h2
        clear h2 hO2
        go_wp2_with fail
        refine (take_miss [63] (by simp) Ht63.out hP.S).mono ?_
        rintro en W5 ⟨rfl, h2, hO2⟩
        have hP := hP.off hlt hbw ltn hO2 h2
        clear h2 hO2
        go_wp2_with fail
        refine (take_miss [123] (by simp) Ht.out hP.S).mono ?_
        rintro en W6 ⟨rfl, h2, hO2⟩
        have hP := hP.off hlt hbw ltn hO2 h2
        clear h2 hO2
        obtain ⟨⟨n0, n1, n2, n3, n4, n5, n6, n7⟩, _⟩ := hP.N.cells8
        have ln := hP.N.lt
        obtain ⟨⟨r0, r1_, r2_, r3, r4, r5, r6, r7⟩, hz⟩ := hP.R.cells8
        have z0 := hz 0; have z1 := hz 1; have z2 := hz 2; have z3 := hz 3; have z4 := hz 4; have z5 := hz 5; have z6 := hz 6; have z7 := hz 7
        have lr := hP.R.lt
        clear hz
        have HP := Lib.hid hP; clear hP
        go_wp2_with fail
        change bodyPost _ _ _ _ _ (writeX W6 w.heap.size (t, A, c))
        have hfin := writeX_blk HP.out.R (t, A, c)
        obtain ⟨⟨y0, y1, y2, y3, y4, y5, y6, y7⟩, _⟩ := hfin.cells8
        have hRS := HP.out.S.boxW (b := w.heap.size) (by omega) (t, A, c)
        have hOff := Off.boxW HP.out.O (Nat.le_refl _) (t, A, c)
        have hlw := HP.out.X.lt
        have hNod : NodeAt (writeX W6 w.heap.size (t, A, c)) (fun b => w.heap.size ≤ b ∧ b < (writeX W6 w.heap.size (t, A, c)).heap.size) t A c := HP.out.x.mono fun k (hk : w.heap.size < k ∧ k < wr.heap.size ∧ k ≠ bn) => ⟨⟨by omega, by rw [writeX_size]; omega⟩, fun o => World.cell?_of_block (w := W6) (a := ⟨k, o, none⟩) (writeX_other _ _ _ _ (show k ≠ w.heap.size by omega))⟩
        generalize writeX W6 w.heap.size (t, A, c) = W3 at *
        refine bodyPost_ret (v := nodeV t A c) (by simp [results, Try.results82, y0, y1, y2, y3, y4, y5, y6, y7, go_sem]) rfl ⟨(t, A, c), _, rfl, hNod, hRS, hOff, ?_⟩
        rw [Hsr.out]
        exact Out.good (by rw [Hpp.out, Hsu.out]) rfl
      have hl := takeP_len ht
      simp only [List.length_cons, List.length_nil] at hl
      have Ht := Lib.hid ht; clear ht
      go_wp2_with fail
      refine (take_miss [42] (by simp) Ht42.out hP.S).mono ?_
      rintro en W3 ⟨rfl, h2, hO2⟩
      have hP := hP.off hlt hbw ltn hO2 h2
      clear h2 hO2
      go_wp2_with fail
      refine (take_miss [43] (by simp) Ht43.out hP.S).mono ?_
      rintro en W4 ⟨rfl, h2, hO2⟩
      have hP := hP.off hlt hbw ltn hO2 h2
      clear h2 hO2
      go_wp2_with fail
      refine (take_miss [63] (by simp) Ht63.out hP.S).mono ?_
      rintro en W5 ⟨rfl, h2, hO2⟩
      have hP := hP.off hlt hbw ltn hO2 h2
      clear h2 hO2
      go_wp2_with fail
      refine (take_hit [123] (by simp) Ht.out hP.S).mono ?_
      rintro en W6 ⟨rfl, h2, hO2⟩
      have hP := hP.off hlt hbw ltn hO2 h2
      clear h2 hO2
      go_wp2_with fail
      refine (interval_any _ p op _ hP.S).mono ?_
      rintro en W7 ⟨m, x, s7, rfl, h7, hO7, ho7⟩
      have hP := hP.off hlt hbw ltn hO7 h7
      clear h7 hO7
      have hcase : s7.rest.length < r'.length ∧ ((∃ e, s7 = .error e ∧ (s = .error e ∨ ∃ r, s = .ok r ∧ pieceP grp r = .error e)) ∨ ∃ r r' k, s = .ok r ∧ s7 = .ok r' ∧ r'.length < k ∧ pieceP grp r = sufP k (repT m x t) r') := by
        cases hi : intervalP r1 with
        | error e =>
          simp only [hi] at ho7
          subst ho7
          exact ⟨by simp only [Rs.rest, List.length_nil]; omega, .inl ⟨e, rfl, .inr ⟨r, Hsr.out, by rw [Hpp.out, sufP]; simp only [Ht42.out, Ht43.out, Ht63.out, Ht.out, hi]⟩⟩⟩
        | ok y =>
          obtain ⟨a, b, r2⟩ := y
          simp only [hi] at ho7
          obtain ⟨rfl, rfl, rfl⟩ := ho7
          have := interval_len hi
          exact ⟨by simp only [Rs.rest]; omega, .inr ⟨r, r2, k, Hsr.out, rfl, by omega, by rw [Hpp.out, sufP]; simp only [Ht42.out, Ht43.out, Ht63.out, Ht.out, hi]⟩⟩
      have HCA := Lib.hid hcase
      clear hcase ho7
      obtain ⟨⟨n0, n1, n2, n3, n4, n5, n6, n7⟩, hz⟩ := hP.N.cells8
      have zn0 := hz 0; have zn1 := hz 1; have zn2 := hz 2; have zn3 := hz 3; have zn4 := hz 4; have zn5 := hz 5; have zn6 := hz 6; have zn7 := hz 7
      have ln := hP.N.lt
      clear hz
      obtain ⟨⟨x0, x1, x2, x3, x4, x5, x6, x7⟩, hz⟩ := hP.X.cells8
      have zx5 := hz 5; have zx6 := hz 6
      have lx := hP.X.lt
      clear hz
      have HP := Lib.hid ((hP.set5 hlt hbw ltn m).set6 hlt hbw ltn x); clear hP
      go_wp2_with fail
      go_roundg (s7.rest.length + 1)
      case measure => have := Hn.out; have := HCA.out.1; simp only [Rs.rest] at *; omega
      case rel =>
        obtain ⟨d1, d2, d3, d4, d5⟩ := HP.out.done hlt hbw ltn
        exact ⟨(repT m x t, some ⟨wr.heap.size, 0, none⟩, 1), s7, rfl, d1, d2, d3, d4, d5, HCA.out.2⟩
end Go.Proofs.Ytdpmbanfaigmcaa

/- Lists of nodes that grow, beside the pattern reader; what reading leaves is no longer than what it met. -/
set_option linter.unusedVariables false
set_option linter.unusedSimpArgs false
namespace Go.Proofs.Ytdpmbanfaigmcaa
open Go.RowKit

theorem single_len {g : UInt8} {r r' : Bs} {c : Nat} (h : singleP g r = .ok (c, r')) : r'.length ≤ r.length := by
  unfold singleP at h
  split at h
  · cases h
  · split at h
    · rename_i ht; cases h; have := takeP_len ht; simp at this ⊢; omega
    · cases h
theorem member_len {r r' : Bs} {c : Nat} (h : memberP r = .ok (c, r')) : r'.length ≤ r.length := by
  unfold memberP at h
  split at h
  · rename_i ht; have := takeP_len ht; have := single_len h; simp at *; omega
  · split at h
    · cases h
    · cases h; simp
theorem cutP_len : ∀ {r a b : Bs}, cutP r = some (a, b) → b.length ≤ r.length
  | [], a, b, h => by rw [cutP] at h; cases h
  | c :: t, a, b, h => by
    rw [cutP] at h
    split at h
    · rename_i ht; cases h; have := takeP_len ht; simp at *; omega
    · split at h
      · rename_i a' b' hc; cases h; have := cutP_len hc; simp at *; omega
      · cases h
theorem class_len {s s' : W4} {r r' : Bs} (h : classP s r = .ok (s', r')) : r'.length ≤ r.length := by
  unfold classP at h
  split at h
  · cases h
  · rename_i hc
    split at h
    · cases h
    · cases h; exact cutP_len hc
theorem range_len {s s' : W4} {f : Nat} {r r' : Bs} (h : rangeP s f r = .ok (s', r')) : r'.length ≤ r.length := by
  unfold rangeP at h
  split at h
  · rename_i ht _
    split at h
    · cases h
    · split at h
      · cases h
      · rename_i hm
        split at h
        · cases h
        · cases h; have := takeP_len ht; have := member_len hm; simp at *; omega
  · cases h; exact Nat.le_refl _
theorem item_len {s s' : W4} {r r' : Bs} (h : itemP s r = .ok (s', r')) : r'.length ≤ r.length := by
  unfold itemP at h
  split at h
  · rename_i ht; have := takeP_len ht; have := class_len h; simp at *; omega
  · split at h
    · rename_i ht
      split at h
      · cases h
      · rename_i hs; cases h; have := takeP_len ht; have := single_len hs; simp at *; omega
    · split at h
      · cases h
      · rename_i hm; have := member_len hm; have := range_len h; omega
theorem items_len : ∀ {k : Nat} {s s' : W4} {r r' : Bs}, itemsP k s r = .ok (s', r') → r'.length ≤ r.length
  | 0, s, s', r, r', h => by rw [itemsP] at h; cases h
  | k + 1, s, s', r, r', h => by
    rw [itemsP] at h
    split at h
    · cases h
    · rename_i hi
      have := item_len hi
      split at h
      · rename_i ht; cases h; have := takeP_len ht; simp at *; omega
      · have := items_len h; omega
theorem bracket_len {s' : W4} {r r' : Bs} (h : bracketP r = .ok (s', r')) : r'.length ≤ r.length := by
  unfold bracketP at h
  split at h
  · rename_i ht
    split at h
    · cases h
    · rename_i hi; cases h; have := takeP_len ht; have := items_len hi; simp at *; omega
  · exact items_len h
/-- A reader of groups that leaves no more than it met. -/
def GrpLen (grp : Bs → PT) : Prop := ∀ r n r', grp r = .ok (n, r') → r'.length ≤ r.length
theorem atom_len {grp : Bs → PT} (hg : GrpLen grp) {r r' : Bs} {n : T} (h : atomP grp r = .ok (n, r')) : r'.length < r.length := by
  unfold atomP at h
  split at h
  · cases h
  · rename_i c t
    simp only [List.length_cons]
    split at h
    · have := hg _ _ _ h; omega
    split at h
    · cases h; omega
    split at h
    · cases h; omega
    split at h
    · split at h
      · cases h
      · rename_i hb; cases h; have := bracket_len hb; omega
    split at h
    · cases h; omega
    split at h
    · cases h
    split at h
    · split at h
      · cases h
      · cases h; simp; omega
    · cases h; omega
theorem suf_len : ∀ (k : Nat) {n n' : T} {r r' : Bs}, sufP k n r = .ok (n', r') → r'.length ≤ r.length
  | 0, n, n', r, r', h => by rw [sufP] at h; cases h; exact Nat.le_refl _
  | k + 1, n, n', r, r', h => by
    rw [sufP] at h
    split at h
    · rename_i ht; have := takeP_len ht; have := suf_len k h; omega
    split at h
    · rename_i ht; have := takeP_len ht; have := suf_len k h; omega
    split at h
    · rename_i ht; have := takeP_len ht; have := suf_len k h; omega
    split at h
    · rename_i ht
      split at h
      · cases h
      · rename_i hi; have := takeP_len ht; have := interval_len hi; have := suf_len k h; omega
    · cases h; exact Nat.le_refl _
theorem piece_len {grp : Bs → PT} (hg : GrpLen grp) {r r' : Bs} {n : T} (h : pieceP grp r = .ok (n, r')) : r'.length < r.length := by
  unfold pieceP at h
  split at h
  · cases h
  · rename_i ha; have := atom_len hg ha; have := suf_len _ h; omega
theorem pieces_len {grp : Bs → PT} (hg : GrpLen grp) : ∀ (k : Nat) {l l' : List T} {r r' : Bs}, piecesP grp k l r = .ok (l', r') → r'.length ≤ r.length
  | 0, l, l', r, r', h => by rw [piecesP] at h; cases h; exact Nat.le_refl _
  | k + 1, l, l', r, r', h => by
    rw [piecesP] at h
    split at h
    · cases h; exact Nat.le_refl _
    · split at h
      · cases h
      · rename_i hp; have := piece_len hg hp; have := pieces_len hg k h; omega
theorem row_len {grp : Bs → PT} (hg : GrpLen grp) {r r' : Bs} {n : T} (h : rowP grp r = .ok (n, r')) : r'.length ≤ r.length := by
  unfold rowP at h
  split at h
  · cases h
  · rename_i hp; cases h; exact pieces_len hg _ hp
theorem alts_len {grp : Bs → PT} (hg : GrpLen grp) : ∀ (k : Nat) {l l' : List T} {r r' : Bs}, altsP grp k l r = .ok (l', r') → r'.length ≤ r.length
  | 0, l, l', r, r', h => by rw [altsP] at h; cases h; exact Nat.le_refl _
  | k + 1, l, l', r, r', h => by
    rw [altsP] at h
    split at h
    · cases h; exact Nat.le_refl _
    · rename_i ht
      split at h
      · cases h
      · rename_i hp; have := takeP_len ht; have := row_len hg hp; have := alts_len hg k h; omega
theorem choice_len {grp : Bs → PT} (hg : GrpLen grp) {r r' : Bs} {n : T} (h : choiceP grp r = .ok (n, r')) : r'.length ≤ r.length := by
  unfold choiceP at h
  split at h
  · cases h
  · rename_i hr
    split at h
    · cases h
    · rename_i ha; cases h; have := row_len hg hr; have := alts_len hg _ ha; omega
theorem group_len : ∀ d, GrpLen (groupP d)
  | 0 => fun r n r' h => by rw [groupP] at h; cases h
  | d + 1 => fun r n r' h => by
    rw [groupP] at h
    split at h
    · cases h
    · rename_i hc
      split at h
      · rename_i ht; cases h; have := choice_len (group_len d) hc; have := takeP_len ht; omega
      · cases h

/-- A list of nodes that a call lays, in its own row; beside the result's box and the reader. -/
structure LstR (p : Nat) (op : Int) (w : World) (n : Nat) (ns : List Nx) (Av : Option Addr) (cv : Nat) (s : Rs) (wr : World) : Prop where
  len : ns.length = n
  R : BlkX wr w.heap.size (xcell (.mk 0 0 0 0 0 0 0 [], none, 0)).toArray
  own : wr.ownsRow (w.heap.size + 1) 27 8 (.slice Av n cv) n (xcells ns)
  nodes : ∀ x ∈ ns, NodeAt wr (fun b => w.heap.size < b ∧ b < wr.heap.size ∧ some b ≠ (Value.slice Av n cv).ownBlock) x.1 x.2.1 x.2.2
  S : RS wr p op s
  O : Off p w wr
theorem LstR.off {p : Nat} {op : Int} {w : World} {n : Nat} {ns : List Nx} {Av : Option Addr} {cv : Nat} {s s' : Rs} {wr w1 : World} (h : LstR p op w n ns Av cv s wr) (hp : p < w.heap.size) (hO : Off p wr w1) (hS : RS w1 p op s') : LstR p op w n ns Av cv s' w1 := by
  have hz := hO.size
  refine ⟨h.len, Off.blk hO h.R (by omega), h.own.kept hO ?_, fun x hx => (h.nodes x hx).mono fun b (hb : w.heap.size < b ∧ b < wr.heap.size ∧ some b ≠ (Value.slice Av n cv).ownBlock) => ⟨⟨hb.1, by omega, hb.2.2⟩, fun o => Off.cell hO hb.2.1 (by omega)⟩, hS, Off.trans h.O hO⟩
  cases hv : (Value.slice Av n cv).ownBlock with
  | none => exact .inl rfl
  | some k => have := h.own.lt k hv; exact .inr (by simp; omega)
theorem LstR.push {p : Nat} {op : Int} {w : World} {n : Nat} {ns : List Nx} {Av A' : Option Addr} {cv c' : Nat} {s : Rs} {W w0 w2 : World} (h : LstR p op w n ns Av cv s W) (hp : p < w.heap.size) {B : Nat} (hB : w.heap.size < B) (hrow : ∀ k, (Value.slice Av n cv).ownBlock = some k → k < B) (x : Nx) (hx : NodeAt W (fun b => B ≤ b ∧ b < W.heap.size) x.1 x.2.1 x.2.2)
    (h0 : Below W.heap.size W w0) (h1 : w2.ownsRow (w.heap.size + 1) 27 8 (.slice A' (n + 1) c') (n + 1) (xcells ns ++ xcell x)) (h2 : w0.grownBy w2 (Value.slice Av n cv).ownBlock) (h3 : (Value.slice A' (n + 1) c').ownBlock = (Value.slice Av n cv).ownBlock ∨ (Value.slice A' (n + 1) c').ownBlock = some w0.heap.size) :
    LstR p op w (n + 1) (ns ++ [x]) A' c' s w2 := by
  have hz0 := h0.size
  have hz2 := h2.size
  have hblk : ∀ b, b < W.heap.size → some b ≠ (Value.slice Av n cv).ownBlock → w2.heap[b]? = W.heap[b]? := fun b hb hne => (h2.block b (by omega) hne).trans (h0.block b hb)
  have hrow1 : ∀ k, (Value.slice Av n cv).ownBlock = some k → w.heap.size + 1 ≤ k := fun k hk => (h.own.lt k hk).1
  have hne : ∀ b, b < w.heap.size + 1 → some b ≠ (Value.slice Av n cv).ownBlock := fun b hb e => by have := hrow1 b e.symm; omega
  have hpW := h.S.lt
  refine ⟨by simp [h.len], h.R.keep (hblk _ h.R.lt (hne _ (by omega))), by rw [xcells_snoc]; exact h1, fun y hy => ?_, h.S.kept (by omega) (hblk p hpW (hne _ (by omega))) (hblk 0 (by omega) (hne _ (by omega))), ?_⟩
  · have key : ∀ b, w.heap.size < b → b < W.heap.size → some b ≠ (Value.slice Av n cv).ownBlock → (w.heap.size < b ∧ b < w2.heap.size ∧ some b ≠ (Value.slice A' (n + 1) c').ownBlock) ∧ ∀ o, w2.cell? ⟨b, o, none⟩ = W.cell? ⟨b, o, none⟩ := fun b hb1 hb2 hb3 => by
      refine ⟨⟨hb1, by omega, ?_⟩, fun o => World.cell?_of_block (w := W) (a := ⟨b, o, none⟩) (hblk b hb2 hb3)⟩
      rcases h3 with e | e
      · rw [e]; exact hb3
      · rw [e]; intro e'; simp only [Option.some.injEq] at e'; omega
    rcases List.mem_append.1 hy with hy | hy
    · exact (h.nodes y hy).mono fun b (hb : w.heap.size < b ∧ b < W.heap.size ∧ some b ≠ (Value.slice Av n cv).ownBlock) => key b hb.1 hb.2.1 hb.2.2
    · simp only [List.mem_singleton] at hy
      subst hy
      exact hx.mono fun b (hb : B ≤ b ∧ b < W.heap.size) => key b (by omega) hb.2 (fun e => by have := hrow b e.symm; omega)
  · have hO := h.O
    have hzW := hO.size
    exact ⟨(h2.os.trans h0.os).trans hO.os, (h2.tape.trans h0.tape).trans hO.tape, (h2.output.trans h0.output).trans hO.output, by omega, fun k hk hkp => (hblk k (by omega) (hne k (by omega))).trans (hO.block k hk hkp)⟩
/-- The list's own node. -/
theorem LstR.node {p : Nat} {op : Int} {w : World} {n : Nat} {ns : List Nx} {Av : Option Addr} {cv : Nat} {s : Rs} {wr : World} (h : LstR p op w n ns Av cv s wr) (hn : 0 < n) (hn2 : n ≤ 17592186044416) (R : T) (hR : R.ps = ns.map (·.1)) : NodeAt wr (fun b => w.heap.size < b ∧ b < wr.heap.size) R Av cv := by
  obtain ⟨g, hA, hg0, hg, hc⟩ : ∃ g, Av = some ⟨g, 0, none⟩ ∧ w.heap.size + 1 ≤ g ∧ g < wr.heap.size ∧ n ≤ cv := by
    rcases h.own.2 with ⟨_, h0⟩ | ⟨g, cap, cur, e, hb, hh, hcap, _⟩
    · omega
    · simp only [Value.slice.injEq] at e
      exact ⟨g, e.1, hb, by (rcases Nat.lt_or_ge g wr.heap.size with h' | h'; exact h'; rw [Array.getElem?_eq_none h'] at hh; simp at hh), by omega⟩
  subst hA
  have h8 : ∀ (i : Nat) (x : Nx), ns[i]? = some x → At8 wr g (i * 8) x.1 x.2.1 x.2.2 := fun i x hi => .ofX fun j hj => by
    have hl := (List.getElem?_eq_some_iff.1 hi).1
    have hx : ns[i] = x := (List.getElem?_eq_some_iff.1 hi).2
    rw [h.own.cellAt (i * 8 + j) (by have := h.len; omega), xcells_get ns i j hl hj, hx]
  have hm := node_litX (W := wr) (ok := fun b => w.heap.size < b ∧ b < wr.heap.size) (g := g) R ns hR (by rw [h.len]; exact hn2) ⟨by omega, hg⟩ h8 (fun i x hi => (h.nodes x (List.mem_of_getElem? hi)).mono fun b (hb : w.heap.size < b ∧ b < wr.heap.size ∧ some b ≠ _) => ⟨⟨hb.1, hb.2.1⟩, fun o => rfl⟩)
  exact hm.widerX (by rw [hR, List.length_map, h.len]; exact hc)
/-- The first node of a list, in memory. -/
theorem LstR.first {p : Nat} {op : Int} {w : World} {n : Nat} {ns : List Nx} {Av : Option Addr} {cv : Nat} {s : Rs} {wr : World} (h : LstR p op w n ns Av cv s wr) (hn : 0 < n) : ∃ g x, Av = some ⟨g, 0, none⟩ ∧ ns[0]? = some x ∧ At8 wr g 0 x.1 x.2.1 x.2.2 ∧ g < wr.heap.size ∧ n ≤ cv ∧ NodeAt wr (fun b => w.heap.size < b ∧ b < wr.heap.size) x.1 x.2.1 x.2.2 := by
  obtain ⟨g, hA, hg0, hg, hc⟩ : ∃ g, Av = some ⟨g, 0, none⟩ ∧ w.heap.size + 1 ≤ g ∧ g < wr.heap.size ∧ n ≤ cv := by
    rcases h.own.2 with ⟨_, h0⟩ | ⟨g, cap, cur, e, hb, hh, hcap, _⟩
    · omega
    · simp only [Value.slice.injEq] at e
      exact ⟨g, e.1, hb, by (rcases Nat.lt_or_ge g wr.heap.size with h' | h'; exact h'; rw [Array.getElem?_eq_none h'] at hh; simp at hh), by omega⟩
  subst hA
  have hl : 0 < ns.length := by rw [h.len]; exact hn
  refine ⟨g, ns[0], rfl, List.getElem?_eq_getElem hl, .ofX fun j hj => ?_, hg, hc, (h.nodes _ (List.getElem_mem hl)).mono fun b (hb : w.heap.size < b ∧ b < wr.heap.size ∧ some b ≠ _) => ⟨⟨hb.1, hb.2.1⟩, fun o => rfl⟩⟩
  have := h.own.cellAt j (by have := h.len; omega)
  rw [Nat.zero_add, this]
  have e := xcells_get ns 0 j hl hj
  simpa using e
end Go.Proofs.Ytdpmbanfaigmcaa

/- What reading leaves is an end of what it met. Plain. -/
set_option linter.unusedVariables false
set_option linter.unusedSimpArgs false
namespace Go.Proofs.Ytdpmbanfaigmcaa
open Go.RowKit

theorem takeP_suf {q r r' : Bs} (h : takeP q r = some r') : r' <:+ r := by
  unfold takeP at h
  split at h
  · cases h; exact List.drop_suffix _ _
  · cases h
theorem digits_suf : ∀ (k : Nat) (n : Int) (w : Nat) (r : Bs), (digitsP k n w r).2.2 <:+ r
  | 0, n, w, r => by rw [digitsP]; exact List.suffix_refl _
  | k + 1, n, w, [] => by rw [digitsP]; exact List.suffix_refl _
  | k + 1, n, w, c :: t => by
    rw [digitsP]
    split
    · exact (digits_suf k _ _ t).trans (List.suffix_cons c t)
    · exact List.suffix_refl _
theorem number_suf {r r' : Bs} {n : Int} (h : numberP r = .ok (n, r')) : r' <:+ r := by
  unfold numberP at h
  split at h
  · cases h
  · cases h; exact digits_suf 4 0 0 r
theorem interval_suf {r r' : Bs} {m n : Int} (h : intervalP r = .ok (m, n, r')) : r' <:+ r := by
  unfold intervalP at h
  split at h
  · cases h
  rename_i m1 r1 hn
  have l1 := number_suf hn
  split at h
  · rename_i r2 ht; cases h; exact (takeP_suf ht).trans l1
  split at h
  · rename_i r2 ht; cases h; exact (takeP_suf ht).trans l1
  split at h
  · cases h
  rename_i r2 ht
  have l2 := takeP_suf ht
  split at h
  · cases h
  rename_i n1 r3 hn2
  have l3 := number_suf hn2
  split at h
  · cases h
  split at h
  · rename_i r4 ht4; cases h; exact (((takeP_suf ht4).trans l3).trans l2).trans l1
  · cases h
theorem single_suf {g : UInt8} {r r' : Bs} {c : Nat} (h : singleP g r = .ok (c, r')) : r' <:+ r := by
  unfold singleP at h
  split at h
  · cases h
  · split at h
    · rename_i ht; cases h; exact (takeP_suf ht).trans (List.suffix_cons _ _)
    · cases h
theorem member_suf {r r' : Bs} {c : Nat} (h : memberP r = .ok (c, r')) : r' <:+ r := by
  unfold memberP at h
  split at h
  · rename_i ht; exact (single_suf h).trans (takeP_suf ht)
  · split at h
    · cases h
    · cases h; exact List.suffix_cons _ _
theorem cutP_suf : ∀ {r a b : Bs}, cutP r = some (a, b) → b <:+ r
  | [], a, b, h => by rw [cutP] at h; cases h
  | c :: t, a, b, h => by
    rw [cutP] at h
    split at h
    · rename_i ht; cases h; exact takeP_suf ht
    · split at h
      · rename_i a' b' hc; cases h; exact (cutP_suf hc).trans (List.suffix_cons _ _)
      · cases h
theorem class_suf {s s' : W4} {r r' : Bs} (h : classP s r = .ok (s', r')) : r' <:+ r := by
  unfold classP at h
  split at h
  · cases h
  · rename_i hc
    split at h
    · cases h
    · cases h; exact cutP_suf hc
theorem range_suf {s s' : W4} {f : Nat} {r r' : Bs} (h : rangeP s f r = .ok (s', r')) : r' <:+ r := by
  unfold rangeP at h
  split at h
  · rename_i ht _
    split at h
    · cases h
    · split at h
      · cases h
      · rename_i hm
        split at h
        · cases h
        · cases h; exact (member_suf hm).trans (takeP_suf ht)
  · cases h; exact List.suffix_refl _
theorem item_suf {s s' : W4} {r r' : Bs} (h : itemP s r = .ok (s', r')) : r' <:+ r := by
  unfold itemP at h
  split at h
  · rename_i ht; exact (class_suf h).trans (takeP_suf ht)
  · split at h
    · rename_i ht
      split at h
      · cases h
      · rename_i hs; cases h; exact (single_suf hs).trans (takeP_suf ht)
    · split at h
      · cases h
      · rename_i hm; exact (range_suf h).trans (member_suf hm)
theorem items_suf : ∀ {k : Nat} {s s' : W4} {r r' : Bs}, itemsP k s r = .ok (s', r') → r' <:+ r
  | 0, s, s', r, r', h => by rw [itemsP] at h; cases h
  | k + 1, s, s', r, r', h => by
    rw [itemsP] at h
    split at h
    · cases h
    · rename_i hi
      have := item_suf hi
      split at h
      · rename_i ht; cases h; exact (takeP_suf ht).trans this
      · exact (items_suf h).trans this
theorem bracket_suf {s' : W4} {r r' : Bs} (h : bracketP r = .ok (s', r')) : r' <:+ r := by
  unfold bracketP at h
  split at h
  · rename_i ht
    split at h
    · cases h
    · rename_i hi; cases h; exact (items_suf hi).trans (takeP_suf ht)
  · exact items_suf h
def GrpSuf (grp : Bs → PT) : Prop := ∀ r n r', grp r = .ok (n, r') → r' <:+ r
theorem atom_suf {grp : Bs → PT} (hg : GrpSuf grp) {r r' : Bs} {n : T} (h : atomP grp r = .ok (n, r')) : r' <:+ r := by
  unfold atomP at h
  split at h
  · cases h
  · rename_i c t
    have sc := List.suffix_cons c t
    split at h
    · exact (hg _ _ _ h).trans sc
    split at h
    · cases h; exact sc
    split at h
    · cases h; exact sc
    split at h
    · split at h
      · cases h
      · rename_i hb; cases h; exact (bracket_suf hb).trans sc
    split at h
    · cases h; exact sc
    split at h
    · cases h
    split at h
    · split at h
      · cases h
      · cases h; exact (List.suffix_cons _ _).trans sc
    · cases h; exact sc
theorem suf_suf : ∀ (k : Nat) {n n' : T} {r r' : Bs}, sufP k n r = .ok (n', r') → r' <:+ r
  | 0, n, n', r, r', h => by rw [sufP] at h; cases h; exact List.suffix_refl _
  | k + 1, n, n', r, r', h => by
    rw [sufP] at h
    split at h
    · rename_i ht; exact (suf_suf k h).trans (takeP_suf ht)
    split at h
    · rename_i ht; exact (suf_suf k h).trans (takeP_suf ht)
    split at h
    · rename_i ht; exact (suf_suf k h).trans (takeP_suf ht)
    split at h
    · rename_i ht
      split at h
      · cases h
      · rename_i hi; exact ((suf_suf k h).trans (interval_suf hi)).trans (takeP_suf ht)
    · cases h; exact List.suffix_refl _
theorem piece_suf {grp : Bs → PT} (hg : GrpSuf grp) {r r' : Bs} {n : T} (h : pieceP grp r = .ok (n, r')) : r' <:+ r := by
  unfold pieceP at h
  split at h
  · cases h
  · rename_i ha; exact (suf_suf _ h).trans (atom_suf hg ha)
theorem pieces_suf {grp : Bs → PT} (hg : GrpSuf grp) : ∀ (k : Nat) {l l' : List T} {r r' : Bs}, piecesP grp k l r = .ok (l', r') → r' <:+ r
  | 0, l, l', r, r', h => by rw [piecesP] at h; cases h; exact List.suffix_refl _
  | k + 1, l, l', r, r', h => by
    rw [piecesP] at h
    split at h
    · cases h; exact List.suffix_refl _
    · split at h
      · cases h
      · rename_i hp; exact (pieces_suf hg k h).trans (piece_suf hg hp)
theorem row_suf {grp : Bs → PT} (hg : GrpSuf grp) {r r' : Bs} {n : T} (h : rowP grp r = .ok (n, r')) : r' <:+ r := by
  unfold rowP at h
  split at h
  · cases h
  · rename_i hp; cases h; exact pieces_suf hg _ hp
theorem alts_suf {grp : Bs → PT} (hg : GrpSuf grp) : ∀ (k : Nat) {l l' : List T} {r r' : Bs}, altsP grp k l r = .ok (l', r') → r' <:+ r
  | 0, l, l', r, r', h => by rw [altsP] at h; cases h; exact List.suffix_refl _
  | k + 1, l, l', r, r', h => by
    rw [altsP] at h
    split at h
    · cases h; exact List.suffix_refl _
    · rename_i ht
      split at h
      · cases h
      · rename_i hp; exact ((alts_suf hg k h).trans (row_suf hg hp)).trans (takeP_suf ht)
theorem choice_suf {grp : Bs → PT} (hg : GrpSuf grp) {r r' : Bs} {n : T} (h : choiceP grp r = .ok (n, r')) : r' <:+ r := by
  unfold choiceP at h
  split at h
  · cases h
  · rename_i hr
    split at h
    · cases h
    · rename_i ha; cases h; exact (alts_suf hg _ ha).trans (row_suf hg hr)
theorem group_suf : ∀ d, GrpSuf (groupP d)
  | 0 => fun r n r' h => by rw [groupP] at h; cases h
  | d + 1 => fun r n r' h => by
    rw [groupP] at h
    split at h
    · cases h
    · rename_i hc
      split at h
      · rename_i ht; cases h; exact (takeP_suf ht).trans (choice_suf (group_suf d) hc)
      · cases h
end Go.Proofs.Ytdpmbanfaigmcaa

/- The pattern reader's row: walked. -/
set_option linter.unusedVariables false
set_option linter.unusedSimpArgs false
namespace Go.Proofs.Ytdpmbanfaigmcaa
open Go.RowKit

/-- Where the loop of row stands. -/
def RowL (p : Nat) (op : Int) (grp : Bs → PT) (s : Rs) (w : World) (v : Value) (wr : World) (m : Nat) : Prop :=
  ∃ (n : Nat) (ns : List Nx) (Av : Option Addr) (cv : Nat) (s' : Rs), v = .slice Av n cv ∧ m = s'.rest.length + 1 ∧ n + s'.rest.length ≤ 1024 ∧ LstR p op w n ns Av cv s' wr ∧
    ((∃ e, s' = .error e ∧ (s = .error e ∨ ∃ r, s = .ok r ∧ rowP grp r = .error e)) ∨ ∃ r r' k, s = .ok r ∧ s' = .ok r' ∧ r' <:+ r ∧ r'.length < k ∧ piecesP grp (r.length + 1) [] r = piecesP grp k (ns.map fun x : Nx => x.1) r')
theorem u8_neq {c : UInt8} {k : Nat} (hk : k < 256) (h : c ≠ UInt8.ofNat k) : ((c.toNat : Int) != (k : Int)) = true := by
  have := u8_ne hk h
  simp only [bne, this, Bool.not_false]
theorem ends_false {c : UInt8} {t : Bs} (h1 : c ≠ 124) (h2 : c ≠ 41) : endsRow (c :: t) = false := by simp [endsRow, h1, h2]

set_option maxRecDepth 100000 in
set_option maxHeartbeats 4000000 in
theorem prow_any (w : World) (p : Nat) (op : Int) (s : Rs) (h : RS w p op s) (hs : s.rest.length ≤ 1024) (grp : Bs → PT) (hgl : GrpLen grp) (hgs : GrpSuf grp) (hB : ∀ r, s = .ok r → 91 ∈ r → BrC) (hD : ∀ r, s = .ok r → 46 ∈ r → DotC)
    (hG : ∀ (w : World) (s : Rs), RS w p op s → s.rest.length ≤ 1024 → (∀ r, s = .ok r → 91 ∈ r → BrC) → (∀ r, s = .ok r → 46 ∈ r → DotC) → Calls Try.prog 88 #[.pointer (some ⟨p, 0, none⟩)] w fun en w' => GNode p op grp s w en w') :
    Calls Try.prog 78 #[.pointer (some ⟨p, 0, none⟩)] w fun en w' => GNode p op (rowP grp) s w en w' := by
  have hlt := h.lt
  have hpc : ∀ (w : World) (s : Rs), RS w p op s → s.rest.length ≤ 1024 → (∀ r, s = .ok r → 91 ∈ r → BrC) → (∀ r, s = .ok r → 46 ∈ r → DotC) → Calls Try.prog 82 #[.pointer (some ⟨p, 0, none⟩)] w fun en w' => GNode p op (pieceP grp) s w en w' := fun w s h hs hB hD => piece_any w p op s h hs grp hB hD hG
  have HP := Lib.hid hpc; have HB := Lib.hid hB; have HD := Lib.hid hD; have HGl := Lib.hid hgl; have HGs := Lib.hid hgs
  clear hpc hB hD hG hgl hgs
  have H := Lib.hid h; clear h
  go_enter Try.func78, Try.ntmps78
  go_wp2_with fail
  generalize hW : w.alloc _ = W0
  have hB0 : Below w.heap.size w W0 := by subst hW; exact (Below.refl _ _).alloc (Nat.le_refl _) _
  have R0 : BlkX W0 w.heap.size (xcell (.mk 0 0 0 0 0 0 0 [], none, 0)).toArray := by subst hW; exact BlkX.new w _
  clear hW
  have hI : RowL p op grp s w (.slice none 0 0) W0 (s.rest.length + 1) := by
    refine ⟨0, [], none, 0, s, rfl, rfl, by omega, ⟨rfl, R0, ⟨rfl, .inl ⟨rfl, rfl⟩⟩, fun x hx => by simp at hx, H.out.later hB0, Off.of_below hB0⟩, ?_⟩
    rcases s with e | r
    · exact .inl ⟨e, rfl, .inl rfl⟩
    · exact .inr ⟨r, r, r.length + 1, rfl, rfl, List.suffix_refl _, by omega, rfl⟩
  have HI := Lib.hid hI; clear hI hB0 R0
  go_loopg [3] (s.rest.length + 1) (fun m v wr => RowL p op grp s w v wr m)
  case atStart => exact HI.out
  case round =>
    clear HI
    obtain ⟨n, ns, Av, cv, s', rfl, hm, hnl, hL, hcase⟩ := hrel
    have c0 := hL.S.rdr.c0
    have lts := hL.S.lt
    have HL := Lib.hid hL; have HC := Lib.hid hcase; have Hm := Lib.hid hm
    clear hL hcase hm
    by_cases hgo : ∃ c t, s' = .ok (c :: t) ∧ c ≠ 124 ∧ c ≠ 41
    · obtain ⟨c, t, rfl, hc1, hc2⟩ := hgo
      simp only [Rs.rest] at c0 hnl
      have n1 : ((c.toNat : Int) != 124) = true := u8_neq (k := 124) (by omega) hc1
      have n2 : ((c.toNat : Int) != 41) = true := u8_neq (k := 41) (by omega) hc2
      obtain ⟨r, k, hsr, hsf, hk, hpp⟩ : ∃ r k, s = .ok r ∧ (c :: t) <:+ r ∧ (c :: t).length < k + 1 ∧ piecesP grp (r.length + 1) [] r = piecesP grp (k + 1) (ns.map fun x : Nx => x.1) (c :: t) := by
        rcases HC.out with ⟨e', he, _⟩ | ⟨r, r2, k, hs, he, hsf, hk, hpp⟩
        · cases he
        · cases he
          obtain ⟨k', rfl⟩ : ∃ k', k = k' + 1 := ⟨k - 1, by omega⟩
          exact ⟨r, k', hs, hsf, hk, hpp⟩
      have Hpp := Lib.hid hpp; have Hsr := Lib.hid hsr; have Hsf := Lib.hid hsf
      clear hpp hsr hsf HC
      have hres : piecesP grp (k + 1) (ns.map fun x : Nx => x.1) (c :: t) = match pieceP grp (c :: t) with | .error e => .error e | .ok (n, r1) => piecesP grp k ((ns.map fun x : Nx => x.1) ++ [n]) r1 := by
        rw [piecesP, ends_false hc1 hc2]; rfl
      have Hres := Lib.hid hres; clear hres hc1 hc2
      go_wp2_with fail
      refine (HP.out wr (.ok (c :: t)) HL.out.S (by simp only [Rs.rest]; omega) (fun r' e hr => HB.out r Hsr.out (by cases e; exact Hsf.out.mem hr)) (fun r' e hr => HD.out r Hsr.out (by cases e; exact Hsf.out.mem hr))).mono ?_
      rintro en w1 ⟨⟨t1, A1, c1⟩, s1, rfl, hx1, h1, hO1, ho1⟩
      have HL1 := Lib.hid (HL.out.off hlt hO1 h1)
      have Hx1 := Lib.hid hx1; have Ho1 := Lib.hid ho1; have HO1 := Lib.hid hO1
      have hz1 := hO1.size
      have hwr : w.heap.size < wr.heap.size := HL.out.R.lt
      clear hx1 ho1 hO1 h1 c0
      have hnews : ∀ ad, some (⟨w1.heap.size, 0, none⟩ : Addr) = some ad → ∀ j u, (xcell (t1, A1, c1))[j]? = some u → (w1.alloc (.cells (xcell (t1, A1, c1)).toArray 27)).cell? (ad.add j) = some u := fun ad e j u hu => by
        simp only [Option.some.injEq] at e
        subst e
        rw [addr_addX, World.cell?_alloc_new, Nat.zero_add]
        simpa using hu
      have Hnews := Lib.hid hnews; clear hnews
      go_wp2_with (at_builtin; refine wpList_append_fromX (w.heap.size + 1) rfl _ _ 25 27 _ 8 80 rfl Try.underlying25 Try.infoNodeX rfl (by omega) (by omega) (.slice Av n cv) n 1 (xcells ns) (xcell (t1, A1, c1)) (some ⟨w1.heap.size, 0, none⟩) 1 rfl rfl (by simp) rfl Hnews.out (xcell_one _) (HL1.out.own.alloc _) (by simp; omega) (by omega) (fun A5 c5 w5 ho5 hg5 hat5 => ?_); have HL5 := Lib.hid (HL1.out.push hlt hwr (fun k hk => (HL.out.own.lt k hk).2) (t1, A1, c1) Hx1.out ((Below.refl _ _).alloc (Nat.le_refl _) _) ho5 hg5 hat5); clear ho5 hg5 hat5)
      have hcs : s1.rest.length ≤ t.length ∧ ((∃ e, s1 = .error e ∧ (s = .error e ∨ ∃ r, s = .ok r ∧ rowP grp r = .error e)) ∨ ∃ r r' k, s = .ok r ∧ s1 = .ok r' ∧ r' <:+ r ∧ r'.length < k ∧ piecesP grp (r.length + 1) [] r = piecesP grp k ((ns ++ [(t1, A1, c1)]).map fun x : Nx => x.1) r') := by
        have hoo := Ho1.out
        cases hpc : pieceP grp (c :: t) with
        | error e =>
          simp only [Out, hpc] at hoo
          subst hoo
          exact ⟨by simp [Rs.rest], .inl ⟨e, rfl, .inr ⟨r, Hsr.out, by unfold rowP; rw [Hpp.out, Hres.out, hpc]⟩⟩⟩
        | ok y =>
          obtain ⟨n', r'⟩ := y
          simp only [Out, hpc] at hoo
          obtain ⟨rfl, rfl⟩ := hoo
          have hl := piece_len HGl.out hpc
          simp only [List.length_cons] at hl hk
          exact ⟨by simp only [Rs.rest]; omega, .inr ⟨r, r', k, Hsr.out, rfl, (piece_suf HGs.out hpc).trans Hsf.out, by omega, by rw [Hpp.out, Hres.out, hpc]; simp⟩⟩
      obtain ⟨hl1, hcs⟩ := hcs
      have HCS := Lib.hid hcs; clear hcs
      go_roundg (s1.rest.length + 1)
      case measure => have := Hm.out; simp only [Rs.rest, List.length_cons] at this; omega
      case rel => exact ⟨n + 1, _, A5, c5, s1, rfl, rfl, by simp only [List.length_cons] at hnl; omega, HL5.out, HCS.out⟩
    · have hfin : Out (rowP grp) s (fun t => joinT 4 (ns.map fun x : Nx => x.1) = t) s' := by
        rcases HC.out with ⟨e, rfl, rfl | ⟨r, rfl, hr⟩⟩ | ⟨r, r', k, rfl, rfl, _, hk, hpp⟩
        · exact Out.err
        · exact Out.bad hr
        · have he : endsRow r' = true := by
            rcases r' with _ | ⟨c, t⟩
            · rfl
            · by_cases h1 : c = 124
              · subst h1; rfl
              · by_cases h2 : c = 41
                · subst h2; rfl
                · exact absurd ⟨c, t, rfl, h1, h2⟩ hgo
          obtain ⟨k', rfl⟩ : ∃ k', k = k' + 1 := ⟨k - 1, by omega⟩
          refine Out.good (x := joinT 4 (ns.map fun x : Nx => x.1)) ?_ rfl
          unfold rowP
          rw [hpp, piecesP, if_pos he]
      have Hfin := Lib.hid hfin
      have hsh : s'.rest = [] ∨ (∃ t, s'.rest = 124 :: t) ∨ ∃ t, s'.rest = 41 :: t := by
        rcases s' with e | (_ | ⟨c, t⟩)
        · exact .inl rfl
        · exact .inl rfl
        · by_cases h1 : c = 124
          · subst h1; exact .inr (.inl ⟨t, rfl⟩)
          · by_cases h2 : c = 41
            · subst h2; exact .inr (.inr ⟨t, rfl⟩)
            · exact absurd ⟨c, t, rfl, h1, h2⟩ hgo
      clear hfin hgo HC Hm
      have hn3 : n = 0 ∨ n = 1 ∨ 2 ≤ n := by omega
      rcases hn3 with rfl | rfl | hn2
      · have hns : ns = [] := List.eq_nil_of_length_eq_zero HL.out.len
        subst hns
        obtain ⟨⟨r0, r1, r2, r3, r4, r5, r6, r7⟩, hz⟩ := HL.out.R.cells8
        have z0 := hz 0; have z1 := hz 1; have z2 := hz 2; have z3 := hz 3; have z4 := hz 4; have z5 := hz 5; have z6 := hz 6; have z7 := hz 7
        have lr := HL.out.R.lt
        clear hz
        rcases hsh with hr | ⟨t, hr⟩ | ⟨t, hr⟩
        all_goals
          rw [hr] at c0
          have Hr := Lib.hid hr; clear hr
          go_wp2_with fail
          change bodyPost _ _ _ _ _ (writeX wr w.heap.size (.mk 0 0 0 0 0 0 0 [], none, 0))
          have hfn := writeX_blk HL.out.R (.mk 0 0 0 0 0 0 0 [], none, 0)
          obtain ⟨⟨y0, y1, y2, y3, y4, y5, y6, y7⟩, _⟩ := hfn.cells8
          have hRS := HL.out.S.boxW (b := w.heap.size) (by omega) (.mk 0 0 0 0 0 0 0 [], none, 0)
          have hOff := Off.boxW HL.out.O (Nat.le_refl _) (.mk 0 0 0 0 0 0 0 [], none, 0)
          have hNod : NodeAt (writeX wr w.heap.size (.mk 0 0 0 0 0 0 0 [], none, 0)) (fun b => w.heap.size ≤ b ∧ b < (writeX wr w.heap.size (.mk 0 0 0 0 0 0 0 [], none, 0)).heap.size) ((T.mk 0 0 0 0 0 0 0 [], none, 0) : Nx).1 ((T.mk 0 0 0 0 0 0 0 [], none, 0) : Nx).2.1 ((T.mk 0 0 0 0 0 0 0 [], none, 0) : Nx).2.2 := nodeAt_leafX _ _ _ rfl
          generalize writeX wr w.heap.size (.mk 0 0 0 0 0 0 0 [], none, 0) = W3 at *
          exact bodyPost_ret (v := nodeV ((T.mk 0 0 0 0 0 0 0 [], none, 0) : Nx).1 ((T.mk 0 0 0 0 0 0 0 [], none, 0) : Nx).2.1 ((T.mk 0 0 0 0 0 0 0 [], none, 0) : Nx).2.2) (by simp [results, Try.results78, y0, y1, y2, y3, y4, y5, y6, y7, go_sem]) rfl ⟨(.mk 0 0 0 0 0 0 0 [], none, 0), _, rfl, hNod, hRS, hOff, Hfin.out⟩
      · obtain ⟨g, ⟨t1, A1, c1⟩, rfl, hx, h8, hg, hcv, hnd⟩ := HL.out.first (by omega)
        have hj : joinT 4 (ns.map fun x : Nx => x.1) = t1 := by
          have hl := HL.out.len
          match ns, hl, hx with
          | [y], _, hx => simp at hx; subst hx; rfl
        have Hj := Lib.hid hj; have Hnd := Lib.hid hnd
        obtain ⟨f0, f1, f2, f3, f4, f5, f6, f7⟩ := h8
        simp only [Nat.zero_add] at f1 f2 f3 f4 f5 f6 f7
        clear hj hnd hx
        obtain ⟨⟨r0, r1, r2, r3, r4, r5, r6, r7⟩, hz⟩ := HL.out.R.cells8
        have z0 := hz 0; have z1 := hz 1; have z2 := hz 2; have z3 := hz 3; have z4 := hz 4; have z5 := hz 5; have z6 := hz 6; have z7 := hz 7
        have lr := HL.out.R.lt
        clear hz
        rcases hsh with hr | ⟨t, hr⟩ | ⟨t, hr⟩
        all_goals
          rw [hr] at c0
          have Hr := Lib.hid hr; clear hr
          go_wp2_with fail
          change bodyPost _ _ _ _ _ (writeX wr w.heap.size (t1, A1, c1))
          have hfn := writeX_blk HL.out.R (t1, A1, c1)
          obtain ⟨⟨y0, y1, y2, y3, y4, y5, y6, y7⟩, _⟩ := hfn.cells8
          have hRS := HL.out.S.boxW (b := w.heap.size) (by omega) (t1, A1, c1)
          have hOff := Off.boxW HL.out.O (Nat.le_refl _) (t1, A1, c1)
          have hNod : NodeAt (writeX wr w.heap.size (t1, A1, c1)) (fun b => w.heap.size ≤ b ∧ b < (writeX wr w.heap.size (t1, A1, c1)).heap.size) (t1, A1, c1).1 (t1, A1, c1).2.1 (t1, A1, c1).2.2 := Hnd.out.mono fun k (hk : w.heap.size < k ∧ k < wr.heap.size) => ⟨⟨by omega, by rw [writeX_size]; exact hk.2⟩, fun o => World.cell?_of_block (w := wr) (a := ⟨k, o, none⟩) (writeX_other _ _ _ _ (show k ≠ w.heap.size by omega))⟩
          generalize writeX wr w.heap.size (t1, A1, c1) = W3 at *
          exact bodyPost_ret (v := nodeV (t1, A1, c1).1 (t1, A1, c1).2.1 (t1, A1, c1).2.2) (by simp [results, Try.results78, y0, y1, y2, y3, y4, y5, y6, y7, go_sem]) rfl ⟨(t1, A1, c1), _, rfl, hNod, hRS, hOff, by have := Hfin.out; rw [Hj.out] at this; exact this⟩
      · obtain rfl : n = (ns.map fun x : Nx => x.1).length := by simp [HL.out.len]
        have hnd := HL.out.node (by omega) (by omega) (.mk 4 0 0 0 0 0 0 (ns.map fun x : Nx => x.1)) rfl
        have hj : joinT 4 (ns.map fun x : Nx => x.1) = .mk 4 0 0 0 0 0 0 (ns.map fun x : Nx => x.1) := by
          generalize ns.map (fun x : Nx => x.1) = l at hn2
          match l, hn2 with
          | a :: b :: l, _ => rfl
        have hb0 : (((ns.map fun x : Nx => x.1).length : Int) == 0) = false := by rw [beq_eq_false_iff_ne]; omega
        have hb1 : (((ns.map fun x : Nx => x.1).length : Int) == 1) = false := by rw [beq_eq_false_iff_ne]; omega
        have Hj := Lib.hid hj; have Hnd := Lib.hid hnd
        clear hj hnd
        generalize hl : (ns.map fun x : Nx => x.1) = l at *
        obtain ⟨⟨r0, r1, r2, r3, r4, r5, r6, r7⟩, hz⟩ := HL.out.R.cells8
        have z0 := hz 0; have z1 := hz 1; have z2 := hz 2; have z3 := hz 3; have z4 := hz 4; have z5 := hz 5; have z6 := hz 6; have z7 := hz 7
        have lr := HL.out.R.lt
        clear hz
        rcases hsh with hr | ⟨t, hr⟩ | ⟨t, hr⟩
        all_goals
          rw [hr] at c0
          have Hr := Lib.hid hr; clear hr
          go_wp2_with fail
          change bodyPost _ _ _ _ _ (writeX wr w.heap.size (.mk 4 0 0 0 0 0 0 l, Av, cv))
          have hfn := writeX_blk HL.out.R (.mk 4 0 0 0 0 0 0 l, Av, cv)
          obtain ⟨⟨y0, y1, y2, y3, y4, y5, y6, y7⟩, _⟩ := hfn.cells8
          have hRS := HL.out.S.boxW (b := w.heap.size) (by omega) (.mk 4 0 0 0 0 0 0 l, Av, cv)
          have hOff := Off.boxW HL.out.O (Nat.le_refl _) (.mk 4 0 0 0 0 0 0 l, Av, cv)
          have hNod : NodeAt (writeX wr w.heap.size (.mk 4 0 0 0 0 0 0 l, Av, cv)) (fun b => w.heap.size ≤ b ∧ b < (writeX wr w.heap.size (.mk 4 0 0 0 0 0 0 l, Av, cv)).heap.size) ((T.mk 4 0 0 0 0 0 0 l, Av, cv) : Nx).1 ((T.mk 4 0 0 0 0 0 0 l, Av, cv) : Nx).2.1 ((T.mk 4 0 0 0 0 0 0 l, Av, cv) : Nx).2.2 := Hnd.out.mono fun k (hk : w.heap.size < k ∧ k < wr.heap.size) => ⟨⟨by omega, by rw [writeX_size]; exact hk.2⟩, fun o => World.cell?_of_block (w := wr) (a := ⟨k, o, none⟩) (writeX_other _ _ _ _ (show k ≠ w.heap.size by omega))⟩
          generalize writeX wr w.heap.size (.mk 4 0 0 0 0 0 0 l, Av, cv) = W3 at *
          exact bodyPost_ret (v := nodeV ((T.mk 4 0 0 0 0 0 0 l, Av, cv) : Nx).1 ((T.mk 4 0 0 0 0 0 0 l, Av, cv) : Nx).2.1 ((T.mk 4 0 0 0 0 0 0 l, Av, cv) : Nx).2.2) (by simp [results, Try.results78, y0, y1, y2, y3, y4, y5, y6, y7, go_sem]) rfl ⟨(.mk 4 0 0 0 0 0 0 l, Av, cv), _, rfl, hNod, hRS, hOff, by have := Hfin.out; rw [Hj.out] at this; exact this⟩
end Go.Proofs.Ytdpmbanfaigmcaa

/- The pattern reader's choice: walked. (Printed by wip/genchoice.py.) -/
set_option linter.unusedVariables false
set_option linter.unusedSimpArgs false
namespace Go.Proofs.Ytdpmbanfaigmcaa
open Go.RowKit

/-- Where the loop of choice stands. -/
def ChoL (p : Nat) (op : Int) (grp : Bs → PT) (s : Rs) (w : World) (v : Value) (wr : World) (m : Nat) : Prop :=
  ∃ (n : Nat) (ns : List Nx) (Av : Option Addr) (cv : Nat) (s' : Rs), v = .slice Av n cv ∧ 1 ≤ n ∧ m = s'.rest.length + 1 ∧ n + s'.rest.length ≤ 1025 ∧ LstR p op w n ns Av cv s' wr ∧
    ((∃ e, s' = .error e ∧ (s = .error e ∨ ∃ r, s = .ok r ∧ choiceP grp r = .error e)) ∨ ∃ r r' k, s = .ok r ∧ s' = .ok r' ∧ r' <:+ r ∧ r'.length < k ∧ choiceP grp r = match altsP grp k (ns.map fun x : Nx => x.1) r' with | .error e => .error e | .ok (l, r2) => .ok (joinT 5 l, r2))

set_option maxRecDepth 100000 in
set_option maxHeartbeats 4000000 in
theorem choice_par (w : World) (p : Nat) (op : Int) (s : Rs) (h : RS w p op s) (hs : s.rest.length ≤ 1024) (grp : Bs → PT) (hgl : GrpLen grp) (hgs : GrpSuf grp) (hB : ∀ r, s = .ok r → 91 ∈ r → BrC) (hD : ∀ r, s = .ok r → 46 ∈ r → DotC)
    (hG : ∀ (w : World) (s : Rs), RS w p op s → s.rest.length ≤ 1024 → (∀ r, s = .ok r → 91 ∈ r → BrC) → (∀ r, s = .ok r → 46 ∈ r → DotC) → Calls Try.prog 88 #[.pointer (some ⟨p, 0, none⟩)] w fun en w' => GNode p op grp s w en w') :
    Calls Try.prog 74 #[.pointer (some ⟨p, 0, none⟩)] w fun en w' => GNode p op (choiceP grp) s w en w' := by
  have hlt := h.lt
  have hpc : ∀ (w : World) (s : Rs), RS w p op s → s.rest.length ≤ 1024 → (∀ r, s = .ok r → 91 ∈ r → BrC) → (∀ r, s = .ok r → 46 ∈ r → DotC) → Calls Try.prog 78 #[.pointer (some ⟨p, 0, none⟩)] w fun en w' => GNode p op (rowP grp) s w en w' := fun w s h hs hB hD => prow_any w p op s h hs grp hgl hgs hB hD hG
  have HP := Lib.hid hpc; have HB := Lib.hid hB; have HD := Lib.hid hD; have HGl := Lib.hid hgl; have HGs := Lib.hid hgs
  clear hpc hB hD hG hgl hgs
  have H := Lib.hid h; clear h
  go_enter Try.func74, Try.ntmps74
  go_wp2_with fail
  generalize hW : w.alloc _ = W0
  have hB0 : Below w.heap.size w W0 := by subst hW; exact (Below.refl _ _).alloc (Nat.le_refl _) _
  have R0 : BlkX W0 w.heap.size (xcell (.mk 0 0 0 0 0 0 0 [], none, 0)).toArray := by subst hW; exact BlkX.new w _
  have hz0 : w.heap.size + 1 ≤ W0.heap.size := by subst hW; simp
  clear hW
  refine (HP.out W0 s (H.out.later hB0) hs HB.out HD.out).mono ?_
  rintro en w1 ⟨⟨t1, A1, c1⟩, s1, rfl, hx1, h1, hO1, ho1⟩
  have R1 := Off.blk hO1 R0 (by omega)
  have hz1 := hO1.size
  have Hx1 := Lib.hid hx1; have Ho1 := Lib.hid ho1
  clear hx1 ho1
  go_wp2_with fail
  generalize hW : w1.alloc _ = W1
  have hb1 : Below w1.heap.size w1 W1 := by subst hW; exact (Below.refl _ _).alloc (Nat.le_refl _) _
  have hI : ChoL p op grp s w (.slice (some ⟨w1.heap.size, 0, none⟩) 1 1) W1 (s1.rest.length + 1) := by
    have hoo := Ho1.out
    have hl1 : s1.rest.length ≤ 1024 ∧ ((∃ e, s1 = .error e ∧ (s = .error e ∨ ∃ r, s = .ok r ∧ choiceP grp r = .error e)) ∨ ∃ r r' k, s = .ok r ∧ s1 = .ok r' ∧ r' <:+ r ∧ r'.length < k ∧ choiceP grp r = match altsP grp k ([(t1, A1, c1)].map fun x : Nx => x.1) r' with | .error e => .error e | .ok (l, r2) => .ok (joinT 5 l, r2)) := by
      rcases s with e | r
      · cases (show s1 = .error e from hoo)
        exact ⟨by simp [Rs.rest], .inl ⟨e, rfl, .inl rfl⟩⟩
      · cases hr : rowP grp r with
        | error e =>
          simp only [Out, hr] at hoo
          subst hoo
          exact ⟨by simp [Rs.rest], .inl ⟨e, rfl, .inr ⟨r, rfl, by unfold choiceP; rw [hr]⟩⟩⟩
        | ok y =>
          obtain ⟨n', r'⟩ := y
          simp only [Out, hr] at hoo
          obtain ⟨rfl, rfl⟩ := hoo
          have hl := row_len HGl.out hr
          simp only [Rs.rest] at hs ⊢
          exact ⟨by omega, .inr ⟨r, r', r'.length + 1, rfl, rfl, row_suf HGs.out hr, by omega, by unfold choiceP; rw [hr]; rfl⟩⟩
    refine ⟨1, [(t1, A1, c1)], _, 1, s1, rfl, by omega, rfl, by have := hl1.1; omega, ⟨rfl, R1.keep (hb1.block _ R1.lt), ?_, fun x hx => ?_, h1.later hb1, Off.trans (Off.trans (Off.of_below hB0) hO1) (Off.of_below hb1)⟩, hl1.2⟩
    · have h := World.ownsRow_lit (base := w.heap.size + 1) (e := 27) (size := 8) w1 (xcells [(t1, A1, c1)]).toArray 1 (by omega) (by simp [maxLen]) (by rfl)
      subst hW
      exact h
    · simp only [List.mem_singleton] at hx
      subst hx
      exact Hx1.out.mono fun b (hb : W0.heap.size ≤ b ∧ b < w1.heap.size) => ⟨⟨by omega, by have := hb1.size; omega, by simp [Value.ownBlock]; omega⟩, fun o => hb1.cell (p := ⟨b, o, none⟩) hb.2⟩
  have HI := Lib.hid hI
  have hwb : w.heap.size < w1.heap.size := by omega
  generalize w1.heap.size = bl at *
  clear hI hB0 R0 R1 hW hb1 h1 hO1 hz1 hz0 Hx1 Ho1
  go_loopg [3] (s1.rest.length + 1) (fun m v wr => ChoL p op grp s w v wr m)
  case atStart => exact HI.out
  case round =>
    clear HI
    obtain ⟨n, ns, Av, cv, s', rfl, hn1, hm, hnl, hL, hcase⟩ := hrel
    have lts := hL.S.lt
    have HL := Lib.hid hL; have HC := Lib.hid hcase; have Hm := Lib.hid hm
    clear hL hcase hm
    rcases s' with e | r'
    · go_wp2_with fail
      refine (take_err [124] (by simp) HL.out.S).mono ?_
      rintro en W2 ⟨rfl, h2, hO2⟩
      have HL := Lib.hid (HL.out.off hlt hO2 h2)
      clear h2 hO2
      have hfin : Out (choiceP grp) s (fun t => joinT 5 (ns.map fun x : Nx => x.1) = t) (.error e) := by
        rcases HC.out with ⟨e', he, hs⟩ | ⟨r, r', k, _, he, _⟩
        · cases he
          rcases hs with rfl | ⟨r, rfl, hr⟩
          · exact Out.err
          · exact Out.bad hr
        · cases he
      have Hfin := Lib.hid hfin
      clear hfin
      have hn3 : n = 1 ∨ 2 ≤ n := by omega
      rcases hn3 with rfl | hn2
      · obtain ⟨g, ⟨t1, A1, c1⟩, rfl, hx, h8, hg, hcv, hnd⟩ := HL.out.first (by omega)
        have hj : joinT 5 (ns.map fun x : Nx => x.1) = t1 := by
          have hl := HL.out.len
          match ns, hl, hx with
          | [y], _, hx => simp at hx; subst hx; rfl
        have Hj := Lib.hid hj; have Hnd := Lib.hid hnd
        obtain ⟨f0, f1, f2, f3, f4, f5, f6, f7⟩ := h8
        simp only [Nat.zero_add] at f1 f2 f3 f4 f5 f6 f7
        clear hj hnd hx
        obtain ⟨⟨r0, r1, r2, r3, r4, r5, r6, r7⟩, hz⟩ := HL.out.R.cells8
        have z0 := hz 0; have z1 := hz 1; have z2 := hz 2; have z3 := hz 3; have z4 := hz 4; have z5 := hz 5; have z6 := hz 6; have z7 := hz 7
        have lr := HL.out.R.lt
        clear hz
        go_wp2_with fail
        change bodyPost _ _ _ _ _ (writeX W2 w.heap.size (t1, A1, c1))
        have hfn := writeX_blk HL.out.R (t1, A1, c1)
        obtain ⟨⟨y0, y1, y2, y3, y4, y5, y6, y7⟩, _⟩ := hfn.cells8
        have hRS := HL.out.S.boxW (b := w.heap.size) (by omega) (t1, A1, c1)
        have hOff := Off.boxW HL.out.O (Nat.le_refl _) (t1, A1, c1)
        have hNod : NodeAt (writeX W2 w.heap.size (t1, A1, c1)) (fun b => w.heap.size ≤ b ∧ b < (writeX W2 w.heap.size (t1, A1, c1)).heap.size) (t1, A1, c1).1 (t1, A1, c1).2.1 (t1, A1, c1).2.2 := Hnd.out.mono fun k (hk : w.heap.size < k ∧ k < W2.heap.size) => ⟨⟨by omega, by rw [writeX_size]; exact hk.2⟩, fun o => World.cell?_of_block (w := W2) (a := ⟨k, o, none⟩) (writeX_other _ _ _ _ (show k ≠ w.heap.size by omega))⟩
        generalize writeX W2 w.heap.size (t1, A1, c1) = W3 at *
        exact bodyPost_ret (v := nodeV (t1, A1, c1).1 (t1, A1, c1).2.1 (t1, A1, c1).2.2) (by simp [results, Try.results74, y0, y1, y2, y3, y4, y5, y6, y7, go_sem]) rfl ⟨(t1, A1, c1), _, rfl, hNod, hRS, hOff, by have := Hfin.out; rw [Hj.out] at this; exact this⟩
      · obtain rfl : n = (ns.map fun x : Nx => x.1).length := by simp [HL.out.len]
        have hnd := HL.out.node (by omega) (by omega) (.mk 5 0 0 0 0 0 0 (ns.map fun x : Nx => x.1)) rfl
        have hj : joinT 5 (ns.map fun x : Nx => x.1) = .mk 5 0 0 0 0 0 0 (ns.map fun x : Nx => x.1) := by
          generalize ns.map (fun x : Nx => x.1) = l at hn2
          match l, hn2 with
          | a :: b :: l, _ => rfl
        have hb1 : (((ns.map fun x : Nx => x.1).length : Int) == 1) = false := by rw [beq_eq_false_iff_ne]; omega
        have Hj := Lib.hid hj; have Hnd := Lib.hid hnd
        clear hj hnd
        generalize hl : (ns.map fun x : Nx => x.1) = l at *
        obtain ⟨⟨r0, r1, r2, r3, r4, r5, r6, r7⟩, hz⟩ := HL.out.R.cells8
        have z0 := hz 0; have z1 := hz 1; have z2 := hz 2; have z3 := hz 3; have z4 := hz 4; have z5 := hz 5; have z6 := hz 6; have z7 := hz 7
        have lr := HL.out.R.lt
        clear hz
        go_wp2_with fail
        change bodyPost _ _ _ _ _ (writeX W2 w.heap.size (T.mk 5 0 0 0 0 0 0 l, Av, cv))
        have hfn := writeX_blk HL.out.R (T.mk 5 0 0 0 0 0 0 l, Av, cv)
        obtain ⟨⟨y0, y1, y2, y3, y4, y5, y6, y7⟩, _⟩ := hfn.cells8
        have hRS := HL.out.S.boxW (b := w.heap.size) (by omega) (T.mk 5 0 0 0 0 0 0 l, Av, cv)
        have hOff := Off.boxW HL.out.O (Nat.le_refl _) (T.mk 5 0 0 0 0 0 0 l, Av, cv)
        have hNod : NodeAt (writeX W2 w.heap.size (T.mk 5 0 0 0 0 0 0 l, Av, cv)) (fun b => w.heap.size ≤ b ∧ b < (writeX W2 w.heap.size (T.mk 5 0 0 0 0 0 0 l, Av, cv)).heap.size) ((T.mk 5 0 0 0 0 0 0 l, Av, cv) : Nx).1 ((T.mk 5 0 0 0 0 0 0 l, Av, cv) : Nx).2.1 ((T.mk 5 0 0 0 0 0 0 l, Av, cv) : Nx).2.2 := Hnd.out.mono fun k (hk : w.heap.size < k ∧ k < W2.heap.size) => ⟨⟨by omega, by rw [writeX_size]; exact hk.2⟩, fun o => World.cell?_of_block (w := W2) (a := ⟨k, o, none⟩) (writeX_other _ _ _ _ (show k ≠ w.heap.size by omega))⟩
        generalize writeX W2 w.heap.size (T.mk 5 0 0 0 0 0 0 l, Av, cv) = W3 at *
        exact bodyPost_ret (v := nodeV ((T.mk 5 0 0 0 0 0 0 l, Av, cv) : Nx).1 ((T.mk 5 0 0 0 0 0 0 l, Av, cv) : Nx).2.1 ((T.mk 5 0 0 0 0 0 0 l, Av, cv) : Nx).2.2) (by simp [results, Try.results74, y0, y1, y2, y3, y4, y5, y6, y7, go_sem]) rfl ⟨(T.mk 5 0 0 0 0 0 0 l, Av, cv), _, rfl, hNod, hRS, hOff, by have := Hfin.out; rw [Hj.out] at this; exact this⟩
    · obtain ⟨r, k, hsr, hsf, hk, hpp⟩ : ∃ r k, s = .ok r ∧ r' <:+ r ∧ r'.length < k + 1 ∧ choiceP grp r = match altsP grp (k + 1) (ns.map fun x : Nx => x.1) r' with | .error e => .error e | .ok (l, r2) => .ok (joinT 5 l, r2) := by
        rcases HC.out with ⟨e', he, _⟩ | ⟨r, r2, k, hs, he, hsf, hk, hpp⟩
        · cases he
        · cases he
          obtain ⟨k', rfl⟩ : ∃ k', k = k' + 1 := ⟨k - 1, by omega⟩
          exact ⟨r, k', hs, hsf, hk, hpp⟩
      have Hpp := Lib.hid hpp; have Hsr := Lib.hid hsr; have Hsf := Lib.hid hsf
      clear hpp hsr hsf HC
      rcases ht : takeP [124] r' with _ | r2
      · have hfin : Out (choiceP grp) s (fun t => joinT 5 (ns.map fun x : Nx => x.1) = t) (.ok r') := by
          rw [Hsr.out]
          refine Out.good (x := joinT 5 (ns.map fun x : Nx => x.1)) ?_ rfl
          rw [Hpp.out, altsP, ht]
        have Ht := Lib.hid ht; clear ht
        go_wp2_with fail
        refine (take_miss [124] (by simp) Ht.out HL.out.S).mono ?_
        rintro en W2 ⟨rfl, h2, hO2⟩
        have HL := Lib.hid (HL.out.off hlt hO2 h2)
        clear h2 hO2
        have Hfin := Lib.hid hfin
        clear hfin
        have hn3 : n = 1 ∨ 2 ≤ n := by omega
        rcases hn3 with rfl | hn2
        · obtain ⟨g, ⟨t1, A1, c1⟩, rfl, hx, h8, hg, hcv, hnd⟩ := HL.out.first (by omega)
          have hj : joinT 5 (ns.map fun x : Nx => x.1) = t1 := by
            have hl := HL.out.len
            match ns, hl, hx with
            | [y], _, hx => simp at hx; subst hx; rfl
          have Hj := Lib.hid hj; have Hnd := Lib.hid hnd
          obtain ⟨f0, f1, f2, f3, f4, f5, f6, f7⟩ := h8
          simp only [Nat.zero_add] at f1 f2 f3 f4 f5 f6 f7
          clear hj hnd hx
          obtain ⟨⟨r0, r1, r2, r3, r4, r5, r6, r7⟩, hz⟩ := HL.out.R.cells8
          have z0 := hz 0; have z1 := hz 1; have z2 := hz 2; have z3 := hz 3; have z4 := hz 4; have z5 := hz 5; have z6 := hz 6; have z7 := hz 7
          have lr := HL.out.R.lt
          clear hz
          go_wp2_with fail
          change bodyPost _ _ _ _ _ (writeX W2 w.heap.size (t1, A1, c1))
          have hfn := writeX_blk HL.out.R (t1, A1, c1)
          obtain ⟨⟨y0, y1, y2, y3, y4, y5, y6, y7⟩, _⟩ := hfn.cells8
          have hRS := HL.out.S.boxW (b := w.heap.size) (by omega) (t1, A1, c1)
          have hOff := Off.boxW HL.out.O (Nat.le_refl _) (t1, A1, c1)
          have hNod : NodeAt (writeX W2 w.heap.size (t1, A1, c1)) (fun b => w.heap.size ≤ b ∧ b < (writeX W2 w.heap.size (t1, A1, c1)).heap.size) (t1, A1, c1).1 (t1, A1, c1).2.1 (t1, A1, c1).2.2 := Hnd.out.mono fun k (hk : w.heap.size < k ∧ k < W2.heap.size) => ⟨⟨by omega, by rw [writeX_size]; exact hk.2⟩, fun o => World.cell?_of_block (w := W2) (a := ⟨k, o, none⟩) (writeX_other _ _ _ _ (show k ≠ w.heap.size by omega))⟩
          generalize writeX W2 w.heap.size (t1, A1, c1) = W3 at *
          exact bodyPost_ret (v := nodeV (t1, A1, c1).1 (t1, A1, c1).2.1 (t1, A1, c1).2.2) (by simp [results, Try.results74, y0, y1, y2, y3, y4, y5, y6, y7, go_sem]) rfl ⟨(t1, A1, c1), _, rfl, hNod, hRS, hOff, by have := Hfin.out; rw [Hj.out] at this; exact this⟩
        · obtain rfl : n = (ns.map fun x : Nx => x.1).length := by simp [HL.out.len]
          have hnd := HL.out.node (by omega) (by omega) (.mk 5 0 0 0 0 0 0 (ns.map fun x : Nx => x.1)) rfl
          have hj : joinT 5 (ns.map fun x : Nx => x.1) = .mk 5 0 0 0 0 0 0 (ns.map fun x : Nx => x.1) := by
            generalize ns.map (fun x : Nx => x.1) = l at hn2
            match l, hn2 with
            | a :: b :: l, _ => rfl
          have hb1 : (((ns.map fun x : Nx => x.1).length : Int) == 1) = false := by rw [beq_eq_false_iff_ne]; omega
          have Hj := Lib.hid hj; have Hnd := Lib.hid hnd
          clear hj hnd
          generalize hl : (ns.map fun x : Nx => x.1) = l at *
          obtain ⟨⟨r0, r1, r2, r3, r4, r5, r6, r7⟩, hz⟩ := HL.out.R.cells8
          have z0 := hz 0; have z1 := hz 1; have z2 := hz 2; have z3 := hz 3; have z4 := hz 4; have z5 := hz 5; have z6 := hz 6; have z7 := hz 7
          have lr := HL.out.R.lt
          clear hz
          go_wp2_with fail
          change bodyPost _ _ _ _ _ (writeX W2 w.heap.size (T.mk 5 0 0 0 0 0 0 l, Av, cv))
          have hfn := writeX_blk HL.out.R (T.mk 5 0 0 0 0 0 0 l, Av, cv)
          obtain ⟨⟨y0, y1, y2, y3, y4, y5, y6, y7⟩, _⟩ := hfn.cells8
          have hRS := HL.out.S.boxW (b := w.heap.size) (by omega) (T.mk 5 0 0 0 0 0 0 l, Av, cv)
          have hOff := Off.boxW HL.out.O (Nat.le_refl _) (T.mk 5 0 0 0 0 0 0 l, Av, cv)
          have hNod : NodeAt (writeX W2 w.heap.size (T.mk 5 0 0 0 0 0 0 l, Av, cv)) (fun b => w.heap.size ≤ b ∧ b < (writeX W2 w.heap.size (T.mk 5 0 0 0 0 0 0 l, Av, cv)).heap.size) ((T.mk 5 0 0 0 0 0 0 l, Av, cv) : Nx).1 ((T.mk 5 0 0 0 0 0 0 l, Av, cv) : Nx).2.1 ((T.mk 5 0 0 0 0 0 0 l, Av, cv) : Nx).2.2 := Hnd.out.mono fun k (hk : w.heap.size < k ∧ k < W2.heap.size) => ⟨⟨by omega, by rw [writeX_size]; exact hk.2⟩, fun o => World.cell?_of_block (w := W2) (a := ⟨k, o, none⟩) (writeX_other _ _ _ _ (show k ≠ w.heap.size by omega))⟩
          generalize writeX W2 w.heap.size (T.mk 5 0 0 0 0 0 0 l, Av, cv) = W3 at *
          exact bodyPost_ret (v := nodeV ((T.mk 5 0 0 0 0 0 0 l, Av, cv) : Nx).1 ((T.mk 5 0 0 0 0 0 0 l, Av, cv) : Nx).2.1 ((T.mk 5 0 0 0 0 0 0 l, Av, cv) : Nx).2.2) (by simp [results, Try.results74, y0, y1, y2, y3, y4, y5, y6, y7, go_sem]) rfl ⟨(T.mk 5 0 0 0 0 0 0 l, Av, cv), _, rfl, hNod, hRS, hOff, by have := Hfin.out; rw [Hj.out] at this; exact this⟩
      · have hres : altsP grp (k + 1) (ns.map fun x : Nx => x.1) r' = match rowP grp r2 with | .error e => .error e | .ok (n, r1) => altsP grp k ((ns.map fun x : Nx => x.1) ++ [n]) r1 := by
          rw [altsP, ht]; rfl
        have hl := takeP_len ht
        have hsf2 := (takeP_suf ht).trans Hsf.out
        simp only [List.length_cons, List.length_nil] at hl
        simp only [Rs.rest] at hnl
        have Hres := Lib.hid hres; have Ht := Lib.hid ht; have Hsf2 := Lib.hid hsf2; clear hres ht hsf2
        go_wp2_with fail
        refine (take_hit [124] (by simp) Ht.out HL.out.S).mono ?_
        rintro en W2 ⟨rfl, h2, hO2⟩
        have HL := Lib.hid (HL.out.off hlt hO2 h2)
        have H2 := Lib.hid h2
        clear h2 hO2
        go_wp2_with fail
        refine (HP.out W2 (.ok r2) H2.out (by simp only [Rs.rest]; omega) (fun r' e hr => HB.out r Hsr.out (by cases e; exact Hsf2.out.mem hr)) (fun r' e hr => HD.out r Hsr.out (by cases e; exact Hsf2.out.mem hr))).mono ?_
        rintro en w3 ⟨⟨t3, A3, c3⟩, s3, rfl, hx3, h3, hO3, ho3⟩
        have HL3 := Lib.hid (HL.out.off hlt hO3 h3)
        have Hx3 := Lib.hid hx3; have Ho3 := Lib.hid ho3
        have hz3 := hO3.size
        have hwr : w.heap.size < W2.heap.size := HL.out.R.lt
        clear hx3 ho3 hO3 h3
        have hnews : ∀ ad, some (⟨w3.heap.size, 0, none⟩ : Addr) = some ad → ∀ j u, (xcell (t3, A3, c3))[j]? = some u → (w3.alloc (.cells (xcell (t3, A3, c3)).toArray 27)).cell? (ad.add j) = some u := fun ad e j u hu => by
          simp only [Option.some.injEq] at e
          subst e
          rw [addr_addX, World.cell?_alloc_new, Nat.zero_add]
          simpa using hu
        have Hnews := Lib.hid hnews; clear hnews
        go_wp2_with (at_builtin; refine wpList_append_fromX (w.heap.size + 1) rfl _ _ 25 27 _ 8 80 rfl Try.underlying25 Try.infoNodeX rfl (by omega) (by omega) (.slice Av n cv) n 1 (xcells ns) (xcell (t3, A3, c3)) (some ⟨w3.heap.size, 0, none⟩) 1 rfl rfl (by simp) rfl Hnews.out (xcell_one _) (HL3.out.own.alloc _) (by simp; omega) (by omega) (fun A5 c5 w5 ho5 hg5 hat5 => ?_); have HL5 := Lib.hid (HL3.out.push hlt hwr (fun k hk => (HL.out.own.lt k hk).2) (t3, A3, c3) Hx3.out ((Below.refl _ _).alloc (Nat.le_refl _) _) ho5 hg5 hat5); clear ho5 hg5 hat5)
        have hcs : s3.rest.length ≤ r2.length ∧ ((∃ e, s3 = .error e ∧ (s = .error e ∨ ∃ r, s = .ok r ∧ choiceP grp r = .error e)) ∨ ∃ r r' k, s = .ok r ∧ s3 = .ok r' ∧ r' <:+ r ∧ r'.length < k ∧ choiceP grp r = match altsP grp k ((ns ++ [(t3, A3, c3)]).map fun x : Nx => x.1) r' with | .error e => .error e | .ok (l, r2) => .ok (joinT 5 l, r2)) := by
          have hoo := Ho3.out
          cases hpc : rowP grp r2 with
          | error e =>
            simp only [Out, hpc] at hoo
            subst hoo
            exact ⟨by simp [Rs.rest], .inl ⟨e, rfl, .inr ⟨r, Hsr.out, by rw [Hpp.out, Hres.out, hpc]⟩⟩⟩
          | ok y =>
            obtain ⟨n', r3⟩ := y
            simp only [Out, hpc] at hoo
            obtain ⟨rfl, rfl⟩ := hoo
            have hl3 := row_len HGl.out hpc
            exact ⟨by simp only [Rs.rest]; omega, .inr ⟨r, r3, k, Hsr.out, rfl, (row_suf HGs.out hpc).trans Hsf2.out, by omega, by rw [Hpp.out, Hres.out, hpc]; simp⟩⟩
        obtain ⟨hl1, hcs⟩ := hcs
        have HCS := Lib.hid hcs; clear hcs
        go_roundg (s3.rest.length + 1)
        case measure => have := Hm.out; simp only [Rs.rest] at this; omega
        case rel => exact ⟨n + 1, _, A5, c5, s3, rfl, by omega, rfl, by omega, HL5.out, HCS.out⟩
end Go.Proofs.Ytdpmbanfaigmcaa

/- The pattern reader's group, Parse: walked. -/
set_option linter.unusedVariables false
set_option linter.unusedSimpArgs false
namespace Go.Proofs.Ytdpmbanfaigmcaa
open Go.RowKit

set_option maxRecDepth 100000 in
set_option maxHeartbeats 4000000 in
theorem group_any : ∀ (d : Nat) (p : Nat) (op : Int) (hop : op + d = 64) (h0 : 0 ≤ op) (w : World) (s : Rs), RS w p op s → s.rest.length ≤ 1024 → (∀ r, s = .ok r → 91 ∈ r → BrC) → (∀ r, s = .ok r → 46 ∈ r → DotC) →
    Calls Try.prog 88 #[.pointer (some ⟨p, 0, none⟩)] w fun en w' => GNode p op (groupP d) s w en w' := by
  intro d
  induction d with
  | zero =>
    intro p op hop h0 w s h hs hB hD
    obtain rfl : op = 64 := by omega
    clear hB hD hs h0 hop
    have hlt := h.lt
    have c1 := h.rdr.c1
    have H := Lib.hid h; clear h
    go_enter Try.func88, Try.ntmps88
    go_wp2_with fail
    generalize hW : w.alloc _ = W0
    have hB0 : Below w.heap.size w W0 := by subst hW; exact (Below.refl _ _).alloc (Nat.le_refl _) _
    have R0 : BlkX W0 w.heap.size (xcell (.mk 0 0 0 0 0 0 0 [], none, 0)).toArray := by subst hW; exact BlkX.new w _
    clear hW
    refine (fail_any W0 p 64 s 3 (by omega) (H.out.later hB0)).mono ?_
    rintro en w1 ⟨rfl, h1, hO1⟩
    have R1 := Off.blk hO1 R0 (by omega)
    have hO := Off.trans (Off.of_below hB0) hO1
    have hout : Out (groupP 0) s (fun t => ((T.mk 0 0 0 0 0 0 0 [], none, 0) : Nx).1 = t) (failS s 3) := by
      rcases s with e | r
      · exact Out.err
      · exact Out.bad rfl
    have Hout := Lib.hid hout; have H1 := Lib.hid h1; have HO := Lib.hid hO; have HR := Lib.hid R1
    obtain ⟨⟨r0, r1, r2, r3, r4, r5, r6, r7⟩, hz⟩ := R1.cells8
    have z0 := hz 0; have z1 := hz 1; have z2 := hz 2; have z3 := hz 3; have z4 := hz 4; have z5 := hz 5; have z6 := hz 6; have z7 := hz 7
    have lr := R1.lt
    clear hz hout h1 hO R1 hO1 R0
    go_wp2_with fail
    change bodyPost _ _ _ _ _ (writeX w1 w.heap.size (T.mk 0 0 0 0 0 0 0 [], none, 0))
    have hfn := writeX_blk HR.out (T.mk 0 0 0 0 0 0 0 [], none, 0)
    obtain ⟨⟨y0, y1, y2, y3, y4, y5, y6, y7⟩, _⟩ := hfn.cells8
    have hRS := H1.out.boxW (b := w.heap.size) (by omega) (T.mk 0 0 0 0 0 0 0 [], none, 0)
    have hOff := Off.boxW HO.out (Nat.le_refl _) (T.mk 0 0 0 0 0 0 0 [], none, 0)
    generalize writeX w1 w.heap.size (T.mk 0 0 0 0 0 0 0 [], none, 0) = W3 at *
    exact bodyPost_ret (v := nodeV (T.mk 0 0 0 0 0 0 0 []) none 0) (by simp [results, Try.results88, y0, y1, y2, y3, y4, y5, y6, y7, go_sem]) rfl ⟨(T.mk 0 0 0 0 0 0 0 [], none, 0), _, rfl, nodeAt_leafX _ _ _ rfl, hRS, hOff, Hout.out⟩
  | succ d ih =>
    intro p op hop h0 w s h hs hB hD
    have hlt := h.lt
    have c1 := h.rdr.c1
    have z1 := h.rdr.z 1
    have hch : ∀ (w : World), RS w p (op + 1) s → Calls Try.prog 74 #[.pointer (some ⟨p, 0, none⟩)] w fun en w' => GNode p (op + 1) (choiceP (groupP d)) s w en w' := fun w h =>
      choice_par w p (op + 1) s h hs (groupP d) (group_len d) (group_suf d) hB hD (fun w s h hs hB hD => ih p (op + 1) (by omega) (by omega) w s h hs hB hD)
    have HCH := Lib.hid hch
    have H := Lib.hid h; clear h hch ih hB hD
    have hopb : (op == 64) = false := by rw [beq_eq_false_iff_ne]; omega
    have hop2 : op ≤ 63 := by omega
    clear hop hs
    go_enter Try.func88, Try.ntmps88
    go_wp2_with fail
    generalize hW : World.setCell _ _ _ = W0
    have hz0 : W0.heap.size = w.heap.size := by subst hW; simp
    have h0S : RS W0 p (op + 1) s := by subst hW; exact ⟨H.out.rdr.set1 (op + 1), H.out.ne⟩
    have hO0 : Off p w W0 := by subst hW; exact Off.set (Off.refl p w) _ _
    clear hW
    generalize hW : W0.alloc _ = W1
    have hB1 : Below W0.heap.size W0 W1 := by subst hW; exact (Below.refl _ _).alloc (Nat.le_refl _) _
    have R1 : BlkX W1 w.heap.size (xcell (T.mk 0 0 0 0 0 0 0 [], none, 0)).toArray := by
      have := BlkX.new W0 (xcell (T.mk 0 0 0 0 0 0 0 [], none, 0)).toArray
      rw [hz0] at this
      subst hW
      exact this
    have hzW : w.heap.size < W1.heap.size := R1.lt
    have hO1 := Off.trans hO0 (Off.of_below hB1)
    have h1S := h0S.later hB1
    clear hW hB1 hO0 h0S hz0
    refine (HCH.out W1 h1S).mono ?_
    rintro en w2 ⟨⟨t, A, c⟩, s2, rfl, hx2, h2, hO2, ho2⟩
    have R2 := Off.blk hO2 R1 (by omega)
    have hO2 := Off.trans hO1 hO2
    have hz2 : w.heap.size < w2.heap.size := R2.lt
    have Hx2 := Lib.hid hx2; have Ho2 := Lib.hid ho2
    clear hx2 ho2 R1 hO1 h1S
    have d1 := h2.rdr.c1
    have dz := h2.rdr.z 1
    have dl := h2.lt
    go_upto_region 7 with fail
    generalize hW : (World.setCell w2 _ _).alloc _ = W3
    have hzs : (w2.setCell ⟨p, 1, none⟩ (.int .i64 op)).heap.size = w2.heap.size := by simp
    have hBs : Below w2.heap.size (w2.setCell ⟨p, 1, none⟩ (.int .i64 op)) W3 := by rw [← hW, ← hzs]; exact (Below.refl _ _).alloc (Nat.le_refl _) _
    have N3 : BlkX W3 w2.heap.size (xcell (t, A, c)).toArray := by
      have := BlkX.new (w2.setCell ⟨p, 1, none⟩ (.int .i64 op)) (xcell (t, A, c)).toArray
      rw [hzs] at this
      rw [← hW]
      exact this
    have h3 : RS W3 p op s2 := RS.later (w := w2.setCell ⟨p, 1, none⟩ (.int .i64 op)) ⟨h2.rdr.set1 op, h2.ne⟩ (by rw [hzs]; exact hBs)
    have R3 : BlkX W3 w.heap.size (xcell (T.mk 0 0 0 0 0 0 0 [], none, 0)).toArray := (R2.keep (Below.heap_setCell _ _ _ _ (show w.heap.size ≠ p by omega))).keep (hBs.block _ hz2)
    have hO3 : Off p w W3 := Off.trans (Off.set hO2 _ _) (Off.of_below (by rw [hzs]; exact hBs))
    have hW1 : w.heap.size < W1.heap.size := hzW
    have Hx3 := Lib.hid (Hx2.out.mono (w' := W3) (ok' := fun b => w.heap.size < b ∧ b < w2.heap.size) fun b (hb : W1.heap.size ≤ b ∧ b < w2.heap.size) => ⟨⟨by omega, hb.2⟩, fun o => (hBs.cell (p := ⟨b, o, none⟩) hb.2).trans (World.cell?_of_block (w := w2) (a := ⟨b, o, none⟩) (Below.heap_setCell _ _ _ _ (show b ≠ p by omega)))⟩)
    generalize hbn : w2.heap.size = bn at *
    have lbn := N3.lt
    clear hW hBs hzs R2 h2 hO2 Hx2 d1 dz dl hbn
    rcases s2 with e | r2
    · have hout : Out (groupP (d + 1)) s (fun u => ((t, A, c) : Nx).1 = u) (.error e) := by
        have hoo := Ho2.out
        rcases s with e' | r
        · cases (show (Except.error e : Rs) = .error e' from hoo); exact Out.err
        · cases hc : choiceP (groupP d) r with
          | error e' => simp only [Out, hc] at hoo; cases hoo; exact Out.bad (by rw [groupP, hc])
          | ok y => obtain ⟨n, r'⟩ := y; simp only [Out, hc] at hoo; cases hoo.2
      have Hout := Lib.hid hout; clear hout
      go_wp2_with fail
      refine (take_err [41] (by simp) h3).mono ?_
      rintro en W4 ⟨rfl, h4, hO4⟩
      go_wp2_with fail
      refine (fail_err 100 (by omega) h4).mono ?_
      rintro en W5 ⟨rfl, h5, hO5⟩
      have hO5' := Off.trans hO4 hO5
      clear hO4 hO5 h4 h3
      have R5 := Off.blk hO5' R3 (by omega)
      have N5 := Off.blk hO5' N3 (by omega)
      have hO5 := Off.trans hO3 hO5'
      have Hx5 := Lib.hid (Hx3.out.mono (w' := W5) (ok' := fun b => w.heap.size < b ∧ b < bn) fun b (hb : w.heap.size < b ∧ b < bn) => ⟨hb, fun o => Off.cell hO5' (by omega) (by omega)⟩)
      obtain ⟨⟨f0, f1, f2, f3, f4, f5, f6, f7⟩, _⟩ := N5.cells8
      obtain ⟨⟨r0, r1, r2, r3, r4, r5, r6, r7⟩, hz⟩ := R5.cells8
      have z0 := hz 0; have zz1 := hz 1; have z2 := hz 2; have z3 := hz 3; have z4 := hz 4; have z5 := hz 5; have z6 := hz 6; have z7 := hz 7
      have lr := R5.lt
      have ln := N5.lt
      have HR := Lib.hid R5; have H5 := Lib.hid h5; have HO := Lib.hid hO5
      clear hz R5 N5 h5 hO5 hO5' R3 N3 hO3
      go_wp2_with fail
      change bodyPost _ _ _ _ _ (writeX W5 w.heap.size (t, A, c))
      have hfn := writeX_blk HR.out (t, A, c)
      obtain ⟨⟨y0, y1, y2, y3, y4, y5, y6, y7⟩, _⟩ := hfn.cells8
      have hRS := H5.out.boxW (b := w.heap.size) (by omega) (t, A, c)
      have hOff := Off.boxW HO.out (Nat.le_refl _) (t, A, c)
      have hNod : NodeAt (writeX W5 w.heap.size (t, A, c)) (fun b => w.heap.size ≤ b ∧ b < (writeX W5 w.heap.size (t, A, c)).heap.size) t A c := Hx5.out.mono fun k (hk : w.heap.size < k ∧ k < bn) => ⟨⟨by omega, by rw [writeX_size]; omega⟩, fun o => World.cell?_of_block (w := W5) (a := ⟨k, o, none⟩) (writeX_other _ _ _ _ (show k ≠ w.heap.size by omega))⟩
      generalize writeX W5 w.heap.size (t, A, c) = W6 at *
      exact bodyPost_ret (v := nodeV t A c) (by simp [results, Try.results88, y0, y1, y2, y3, y4, y5, y6, y7, go_sem]) rfl ⟨(t, A, c), _, rfl, hNod, hRS, hOff, Hout.out⟩
    · obtain ⟨r, hsr, hcc⟩ : ∃ r, s = .ok r ∧ choiceP (groupP d) r = .ok (t, r2) := by
        have hoo := Ho2.out
        rcases s with e' | r
        · cases (show (Except.ok r2 : Rs) = .error e' from hoo)
        · cases hc : choiceP (groupP d) r with
          | error e' => simp only [Out, hc] at hoo; cases hoo
          | ok y =>
            obtain ⟨n, r'⟩ := y
            simp only [Out, hc] at hoo
            obtain ⟨rfl, h'⟩ := hoo
            cases h'
            exact ⟨r, rfl, hc⟩
      have Hsr := Lib.hid hsr; have Hcc := Lib.hid hcc; clear hsr hcc
      rcases ht : takeP [41] r2 with _ | r3
      · have hout : Out (groupP (d + 1)) s (fun u => ((t, A, c) : Nx).1 = u) (.error 100) := by
          rw [Hsr.out]; exact Out.bad (by rw [groupP, Hcc.out]; simp only [ht])
        have Hout := Lib.hid hout; have Ht := Lib.hid ht; clear hout ht
        go_wp2_with fail
        refine (take_miss [41] (by simp) Ht.out h3).mono ?_
        rintro en W4 ⟨rfl, h4, hO4⟩
        go_wp2_with fail
        refine (fail_ok 100 (by omega) h4).mono ?_
        rintro en W5 ⟨rfl, h5, hO5⟩
        have hO5' := Off.trans hO4 hO5
        clear hO4 hO5 h4 h3
        have R5 := Off.blk hO5' R3 (by omega)
        have N5 := Off.blk hO5' N3 (by omega)
        have hO5 := Off.trans hO3 hO5'
        have Hx5 := Lib.hid (Hx3.out.mono (w' := W5) (ok' := fun b => w.heap.size < b ∧ b < bn) fun b (hb : w.heap.size < b ∧ b < bn) => ⟨hb, fun o => Off.cell hO5' (by omega) (by omega)⟩)
        obtain ⟨⟨f0, f1, f2, f3, f4, f5, f6, f7⟩, _⟩ := N5.cells8
        obtain ⟨⟨r0, r1, r2, r3, r4, r5, r6, r7⟩, hz⟩ := R5.cells8
        have z0 := hz 0; have zz1 := hz 1; have z2 := hz 2; have z3 := hz 3; have z4 := hz 4; have z5 := hz 5; have z6 := hz 6; have z7 := hz 7
        have lr := R5.lt
        have ln := N5.lt
        have HR := Lib.hid R5; have H5 := Lib.hid h5; have HO := Lib.hid hO5
        clear hz R5 N5 h5 hO5 hO5' R3 N3 hO3
        go_wp2_with fail
        change bodyPost _ _ _ _ _ (writeX W5 w.heap.size (t, A, c))
        have hfn := writeX_blk HR.out (t, A, c)
        obtain ⟨⟨y0, y1, y2, y3, y4, y5, y6, y7⟩, _⟩ := hfn.cells8
        have hRS := H5.out.boxW (b := w.heap.size) (by omega) (t, A, c)
        have hOff := Off.boxW HO.out (Nat.le_refl _) (t, A, c)
        have hNod : NodeAt (writeX W5 w.heap.size (t, A, c)) (fun b => w.heap.size ≤ b ∧ b < (writeX W5 w.heap.size (t, A, c)).heap.size) t A c := Hx5.out.mono fun k (hk : w.heap.size < k ∧ k < bn) => ⟨⟨by omega, by rw [writeX_size]; omega⟩, fun o => World.cell?_of_block (w := W5) (a := ⟨k, o, none⟩) (writeX_other _ _ _ _ (show k ≠ w.heap.size by omega))⟩
        generalize writeX W5 w.heap.size (t, A, c) = W6 at *
        exact bodyPost_ret (v := nodeV t A c) (by simp [results, Try.results88, y0, y1, y2, y3, y4, y5, y6, y7, go_sem]) rfl ⟨(t, A, c), _, rfl, hNod, hRS, hOff, Hout.out⟩
      · have hout : Out (groupP (d + 1)) s (fun u => ((t, A, c) : Nx).1 = u) (.ok r3) := by
          rw [Hsr.out]; exact Out.good (x := t) (by rw [groupP, Hcc.out]; simp only [ht]) rfl
        have Hout := Lib.hid hout; have Ht := Lib.hid ht; clear hout ht
        go_wp2_with fail
        refine (take_hit [41] (by simp) Ht.out h3).mono ?_
        rintro en W5 ⟨rfl, h5, hO5'⟩
        clear h3
        have R5 := Off.blk hO5' R3 (by omega)
        have N5 := Off.blk hO5' N3 (by omega)
        have hO5 := Off.trans hO3 hO5'
        have Hx5 := Lib.hid (Hx3.out.mono (w' := W5) (ok' := fun b => w.heap.size < b ∧ b < bn) fun b (hb : w.heap.size < b ∧ b < bn) => ⟨hb, fun o => Off.cell hO5' (by omega) (by omega)⟩)
        obtain ⟨⟨f0, f1, f2, f3, f4, f5, f6, f7⟩, _⟩ := N5.cells8
        obtain ⟨⟨r0, r1, r2, r3, r4, r5, r6, r7⟩, hz⟩ := R5.cells8
        have z0 := hz 0; have zz1 := hz 1; have z2 := hz 2; have z3 := hz 3; have z4 := hz 4; have z5 := hz 5; have z6 := hz 6; have z7 := hz 7
        have lr := R5.lt
        have ln := N5.lt
        have HR := Lib.hid R5; have H5 := Lib.hid h5; have HO := Lib.hid hO5
        clear hz R5 N5 h5 hO5 hO5' R3 N3 hO3
        go_wp2_with fail
        change bodyPost _ _ _ _ _ (writeX W5 w.heap.size (t, A, c))
        have hfn := writeX_blk HR.out (t, A, c)
        obtain ⟨⟨y0, y1, y2, y3, y4, y5, y6, y7⟩, _⟩ := hfn.cells8
        have hRS := H5.out.boxW (b := w.heap.size) (by omega) (t, A, c)
        have hOff := Off.boxW HO.out (Nat.le_refl _) (t, A, c)
        have hNod : NodeAt (writeX W5 w.heap.size (t, A, c)) (fun b => w.heap.size ≤ b ∧ b < (writeX W5 w.heap.size (t, A, c)).heap.size) t A c := Hx5.out.mono fun k (hk : w.heap.size < k ∧ k < bn) => ⟨⟨by omega, by rw [writeX_size]; omega⟩, fun o => World.cell?_of_block (w := W5) (a := ⟨k, o, none⟩) (writeX_other _ _ _ _ (show k ≠ w.heap.size by omega))⟩
        generalize writeX W5 w.heap.size (t, A, c) = W6 at *
        exact bodyPost_ret (v := nodeV t A c) (by simp [results, Try.results88, y0, y1, y2, y3, y4, y5, y6, y7, go_sem]) rfl ⟨(t, A, c), _, rfl, hNod, hRS, hOff, Hout.out⟩

end Go.Proofs.Ytdpmbanfaigmcaa

/- pattern.Parse: walked. -/
set_option linter.unusedVariables false
set_option linter.unusedSimpArgs false
namespace Go.Proofs.Ytdpmbanfaigmcaa
open Go.RowKit

abbrev none0 : T := .mk 0 0 0 0 0 0 0 []
/-- What Parse hands back. -/
def GPar (s : Bs) (w : World) (en : Ending) (w' : World) : Prop :=
  Below w.heap.size w w' ∧ ((∃ t A c, parseP s = .ok t ∧ en = .returned (.tuple #[nodeV t A c, .int .i64 0]) ∧ NodeAt w' (fun b => w.heap.size ≤ b ∧ b < w'.heap.size) t A c) ∨ ∃ e, parseP s = .error e ∧ e ≠ 0 ∧ en = .returned (.tuple #[nodeV none0 none 0, .int .i64 e]))

set_option maxRecDepth 100000 in
set_option maxHeartbeats 4000000 in
theorem parse_par (s : Bs) (w : World) (hM : MaxOk w) (hB : 91 ∈ s → BrC) (hD : 46 ∈ s → DotC) :
    Calls Try.prog 66 #[.string (bs s)] w fun en w' => GPar s w en w' := by
  by_cases hlen : 1024 < s.length
  · have hp : parseP s = .error 3 := by rw [parseP, if_pos hlen]
    have Hp := Lib.hid hp; clear hp hB hD
    go_enter Try.func66, Try.ntmps66
    go_wp2_with fail
    exact bodyPost_ret (v := .tuple #[nodeV none0 none 0, .int .i64 3]) (by simp [results, Try.results66, go_sem, T.k, T.s0, T.s1, T.s2, T.s3, T.mn, T.mx, T.ps]) rfl ⟨(Below.refl _ _).alloc (Nat.le_refl _) _, .inr ⟨3, Hp.out, by omega, rfl⟩⟩
  · have hch : ∀ (w : World) (p : Nat), RS w p 0 (.ok s) → Calls Try.prog 74 #[.pointer (some ⟨p, 0, none⟩)] w fun en w' => GNode p 0 (choiceP (groupP 64)) (.ok s) w en w' := fun w p h =>
      choice_par w p 0 (.ok s) h (by simp only [Rs.rest]; omega) (groupP 64) (group_len 64) (group_suf 64) (fun r e hr => hB (by cases e; exact hr)) (fun r e hr => hD (by cases e; exact hr)) (fun w s h hs hB hD => group_any 64 p 0 (by omega) (by omega) w s h hs hB hD)
    have HCH := Lib.hid hch; clear hch hB hD
    go_enter Try.func66, Try.ntmps66
    go_wp2_with fail
    generalize hW : (w.alloc _).alloc _ = W1
    have hB1 : Below w.heap.size w W1 := by subst hW; exact ((Below.refl _ _).alloc (Nat.le_refl _) _).alloc (by simp) _
    have R1 : BlkX W1 w.heap.size (xcell (none0, none, 0)).toArray := by
      subst hW
      exact (BlkX.new w _).keep (((Below.refl _ _).alloc (Nat.le_refl _) _).block _ (by simp))
    have h1 : RS W1 (w.heap.size + 1) 0 (.ok s) := by
      have hM1 := hM.later hB1
      subst hW
      refine ⟨⟨?_, ?_, ?_, fun o => ?_, by simp, hM1, by omega⟩, fun e he => by cases he⟩
      · simp [go_sem, Rs.rest]
      · simp [go_sem]
      · simp [go_sem, Rs.no]
      · simp [go_sem]
    have hz1 : W1.heap.size = w.heap.size + 2 := by subst hW; simp
    clear hW
    refine (HCH.out W1 (w.heap.size + 1) h1).mono ?_
    rintro en w2 ⟨⟨t, A, c⟩, s2, rfl, hx2, h2, hO2, ho2⟩
    have R2 := Off.blk hO2 R1 (by omega)
    have hz2 := hO2.size
    have hBw2 : Below w.heap.size w w2 := hB1.trans (Off.below hO2 (by omega) (by omega))
    have Hx2 := Lib.hid hx2; have Ho2 := Lib.hid ho2
    have hzz : w.heap.size + 2 ≤ W1.heap.size := by omega
    clear hx2 ho2 R1 h1 hO2 hz1 hB1
    go_upto_region 5 with fail
    generalize hW : w2.alloc _ = W3
    have hB3 : Below w2.heap.size w2 W3 := by subst hW; exact (Below.refl _ _).alloc (Nat.le_refl _) _
    have N3 : BlkX W3 w2.heap.size (xcell (t, A, c)).toArray := by subst hW; exact BlkX.new w2 _
    have R3 := R2.keep (hB3.block _ R2.lt)
    have h3 := h2.later hB3
    have hBw3 := hBw2.trans (hB3.mono (by omega))
    have Hx3 := Lib.hid (Hx2.out.mono (w' := W3) (ok' := fun b => w.heap.size + 2 ≤ b ∧ b < w2.heap.size) fun b (hb : W1.heap.size ≤ b ∧ b < w2.heap.size) => ⟨⟨by omega, hb.2⟩, fun o => hB3.cell (p := ⟨b, o, none⟩) hb.2⟩)
    generalize hbn : w2.heap.size = bn at *
    have lbn := N3.lt
    have lp3 := h3.lt
    clear hW hB3 R2 h2 hBw2 Hx2 hbn
    have c0 := h3.rdr.c0
    have c2 := h3.rdr.c2
    rcases s2 with e | r2
    · have hne := h3.ne e rfl
      have hp : parseP s = .error e := by
        have hoo := Ho2.out
        rw [parseP, if_neg hlen]
        cases hc : choiceP (groupP 64) s with
        | error e' => simp only [Out, hc] at hoo; cases hoo; rfl
        | ok y => obtain ⟨n, r'⟩ := y; simp only [Out, hc] at hoo; cases hoo.2
      have Hp := Lib.hid hp; clear hp
      have hb : (e != 0) = true := by rw [bne_iff_ne]; exact hne
      have Hne := Lib.hid hne; clear hne
      simp only [Rs.rest, Rs.no] at c0 c2
      obtain ⟨⟨r0, r1, r2_, r3, r4, r5, r6, r7⟩, hz⟩ := R3.cells8
      have z0 := hz 0; have zz1 := hz 1; have z2 := hz 2; have z3 := hz 3; have z4 := hz 4; have z5 := hz 5; have z6 := hz 6; have z7 := hz 7
      have lr := R3.lt
      clear hz
      go_wp2_with fail
      go_region
      all_goals go_wp2_with fail
      change bodyPost _ _ _ _ _ (writeX W3 w.heap.size (none0, none, 0)).drew
      have hfn := writeX_blk R3 (none0, none, 0)
      obtain ⟨⟨y0, y1, y2, y3, y4, y5, y6, y7⟩, _⟩ := hfn.cells8
      have hbel := (writeX_below hBw3 (Nat.le_refl w.heap.size) (none0, none, 0)).drew
      generalize writeX W3 w.heap.size (none0, none, 0) = W5 at *
      exact bodyPost_ret (v := .tuple #[nodeV none0 none 0, .int .i64 e]) (by simp [results, Try.results66, y0, y1, y2, y3, y4, y5, y6, y7, go_sem]) rfl ⟨hbel, .inr ⟨_, Hp.out, Hne.out, rfl⟩⟩
    · have hcc : choiceP (groupP 64) s = .ok (t, r2) := by
        have hoo := Ho2.out
        cases hc : choiceP (groupP 64) s with
        | error e' => simp only [Out, hc] at hoo; cases hoo
        | ok y =>
          obtain ⟨n, r'⟩ := y
          simp only [Out, hc] at hoo
          obtain ⟨rfl, h'⟩ := hoo
          cases h'
          rfl
      have Hcc := Lib.hid hcc; clear hcc Ho2
      simp only [Rs.rest, Rs.no] at c0 c2
      rcases r2 with _ | ⟨c1, t1⟩
      · have hp : parseP s = .ok t := by rw [parseP, if_neg hlen, Hcc.out]
        have Hp := Lib.hid hp; clear hp
        obtain ⟨⟨f0, f1, f2, f3, f4, f5, f6, f7⟩, _⟩ := N3.cells8
        obtain ⟨⟨r0, r1, r2_, r3, r4, r5, r6, r7⟩, hz⟩ := R3.cells8
        have z0 := hz 0; have zz1 := hz 1; have z2 := hz 2; have z3 := hz 3; have z4 := hz 4; have z5 := hz 5; have z6 := hz 6; have z7 := hz 7
        have lr := R3.lt
        clear hz
        have HR := Lib.hid R3
        clear R3 N3 h3
        go_wp2_with fail
        change bodyPost _ _ _ _ _ (writeX W3 w.heap.size (t, A, c))
        have hfn := writeX_blk HR.out (t, A, c)
        obtain ⟨⟨y0, y1, y2, y3, y4, y5, y6, y7⟩, _⟩ := hfn.cells8
        have hbel := writeX_below hBw3 (Nat.le_refl w.heap.size) (t, A, c)
        have hNod : NodeAt (writeX W3 w.heap.size (t, A, c)) (fun b => w.heap.size ≤ b ∧ b < (writeX W3 w.heap.size (t, A, c)).heap.size) t A c := Hx3.out.mono fun k (hk : w.heap.size + 2 ≤ k ∧ k < bn) => ⟨⟨by omega, by rw [writeX_size]; omega⟩, fun o => World.cell?_of_block (w := W3) (a := ⟨k, o, none⟩) (writeX_other _ _ _ _ (show k ≠ w.heap.size by omega))⟩
        generalize writeX W3 w.heap.size (t, A, c) = W5 at *
        exact bodyPost_ret (v := .tuple #[nodeV t A c, .int .i64 0]) (by simp [results, Try.results66, y0, y1, y2, y3, y4, y5, y6, y7, go_sem]) rfl ⟨hbel, .inl ⟨t, A, c, Hp.out, rfl, hNod⟩⟩
      · have hp : parseP s = .error 100 := by rw [parseP, if_neg hlen, Hcc.out]
        have Hp := Lib.hid hp; clear hp
        have H3 := Lib.hid h3
        go_wp2_with fail
        refine (fail_ok 100 (by omega) H3.out).mono ?_
        rintro en W4 ⟨rfl, h4, hO4⟩
        have R4 := Off.blk hO4 R3 (by omega)
        have hz3 : w.heap.size ≤ W3.heap.size := by omega
        have hBw4 := hBw3.trans (Off.below hO4 (B := w.heap.size) (by omega) hz3)
        have d2 := h4.rdr.c2
        have lp4 := h4.lt
        simp only [Rs.no] at d2
        clear c0 c2 R3 N3 h3 h4 hO4 H3
        obtain ⟨⟨r0, r1, r2_, r3, r4, r5, r6, r7⟩, hz⟩ := R4.cells8
        have z0 := hz 0; have zz1 := hz 1; have z2 := hz 2; have z3 := hz 3; have z4 := hz 4; have z5 := hz 5; have z6 := hz 6; have z7 := hz 7
        have lr := R4.lt
        clear hz
        go_wp2_with fail
        go_region
        all_goals go_wp2_with fail
        change bodyPost _ _ _ _ _ (writeX W4 w.heap.size (none0, none, 0)).drew
        have hfn := writeX_blk R4 (none0, none, 0)
        obtain ⟨⟨y0, y1, y2, y3, y4, y5, y6, y7⟩, _⟩ := hfn.cells8
        have hbel := (writeX_below hBw4 (Nat.le_refl w.heap.size) (none0, none, 0)).drew
        generalize writeX W4 w.heap.size (none0, none, 0) = W5 at *
        exact bodyPost_ret (v := .tuple #[nodeV none0 none 0, .int .i64 100]) (by simp [results, Try.results66, y0, y1, y2, y3, y4, y5, y6, y7, go_sem]) rfl ⟨hbel, .inr ⟨_, Hp.out, (by omega), rfl⟩⟩
end Go.Proofs.Ytdpmbanfaigmcaa

