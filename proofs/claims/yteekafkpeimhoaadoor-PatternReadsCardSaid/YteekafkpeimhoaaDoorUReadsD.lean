/- Merged texts, part of the proof Reads: Work10, SameN, Qa, Qb, Qc, Qd, Qe, Qf, Qg, Qh. -/
import Derived.Test.YteekafkpeimhoaaDoorUReadsA
import Derived.Test.YteekafkpeimhoaaDoorUReadsB
import Derived.Test.YteekafkpeimhoaaDoorUReadsC
import Derived.Deep.DeepCutAuto
import Derived.Deep.RegionWith
import Derived.Laws.Strings2
import Derived.Deep.QuietTactic
import Derived.BigQuiet
/- vouchlaw10.works: walked. -/
set_option linter.unusedVariables false
set_option linter.unusedSimpArgs false
namespace Go.Proofs.YteekafkpeimhoaaDoor
open Go.RowKit

theorem TabIn.mono {B B' : Nat} {w : World} (h : TabIn B w) (k : B ≤ B') : TabIn B' w := ⟨h.1, fun g hg => Nat.lt_of_lt_of_le (h.2 g hg) k⟩
theorem TabIn.step {w w' : World} (h : TabIn w.heap.size w) (hb : Below w.heap.size w w') : TabIn w'.heap.size w' := (h.later hb).mono hb.size
def wt1 : T := .mk 4 0 0 0 0 0 0 [.mk 6 0 0 0 0 0 (-1) [.mk 4 0 0 0 0 0 0 [.mk 1 0 8589934592 0 0 0 0 [], .mk 1 0 17179869184 0 0 0 0 []]], .mk 1 0 60666413056 0 0 0 0 []]
theorem wq1 : parseP [40, 97, 98, 41, 42, 91, 93, 97, 45, 99, 93] = .ok wt1 := by kernel_rfl
theorem wq2 : printP wt1 = ([40, 97, 98, 41, 42, 91, 91, 46, 93, 46, 93, 97, 45, 99, 93], 0) := by kernel_rfl
theorem wq3 : parseP [97, 123, 51, 44, 50, 125] = .error 105 := by kernel_rfl
theorem wq4 : parseP [91, 98, 45, 97, 93] = .error 102 := by kernel_rfl
theorem wq5 : checkF (.mk 4 0 0 0 0 0 0 []) = 107 := by kernel_rfl
theorem parse_is {s : Bs} {w w' : World} {en : Ending} {t : T} (h : GPar s w en w') (hp : parseP s = .ok t) : Below w.heap.size w w' ∧ ∃ A c, en = .returned (.tuple #[nodeV t A c, .int .i64 0]) ∧ NodeAt w' (fun b => w.heap.size ≤ b ∧ b < w'.heap.size) t A c := by
  obtain ⟨hb, ⟨t', A, c, hp', he, hN⟩ | ⟨e, hp', _⟩⟩ := h
  · rw [hp] at hp'; cases hp'; exact ⟨hb, A, c, he, hN⟩
  · rw [hp] at hp'; cases hp'
theorem parse_no {s : Bs} {w w' : World} {en : Ending} {e : Int} (h : GPar s w en w') (hp : parseP s = .error e) : Below w.heap.size w w' ∧ e ≠ 0 ∧ en = .returned (.tuple #[nodeV none0 none 0, .int .i64 e]) := by
  obtain ⟨hb, ⟨t', A, c, hp', he, hN⟩ | ⟨e', hp', h1, h2⟩⟩ := h
  · rw [hp] at hp'; cases hp'
  · rw [hp] at hp'; cases hp'; exact ⟨hb, h1, h2⟩
theorem leaf_at (w : World) (t : T) (h : t.ps = []) {ok : Nat → Prop} : NodeAt w ok t none 0 := .mk t none 0 (fun _ => none) (fun _ => 0) (by rw [h]; exact Nat.le_refl _) (by rw [h]; simp) (fun e => absurd h e) (fun i p hp => by rw [h] at hp; simp at hp)
theorem wt1_at {w : World} {ok : Nat → Prop} {A : Option Addr} {c : Nat} (h : NodeAt w ok wt1 A c) : ∃ b o, A = some ⟨b, o, none⟩ ∧ ok b ∧ w.cell? ⟨b, o, none⟩ = some (.int .i64 6) ∧
    w.cell? ⟨b, o + 9, none⟩ = some (.int .u64 0) ∧ w.cell? ⟨b, o + 10, none⟩ = some (.int .u64 60666413056) ∧ w.cell? ⟨b, o + 11, none⟩ = some (.int .u64 0) ∧ w.cell? ⟨b, o + 12, none⟩ = some (.int .u64 0) := by
  obtain ⟨b, o, rfl, hb, hcell⟩ := h.part (show 0 < 2 by omega)
  obtain ⟨_, _, h0, _⟩ := hcell 0 (show 0 < 2 by omega)
  obtain ⟨_, _, h1, _⟩ := hcell 1 (show 1 < 2 by omega)
  exact ⟨b, o, rfl, hb, h0.f0, h1.f1, h1.f2, h1.f3, h1.f4⟩
set_option maxRecDepth 100000 in
set_option maxHeartbeats 4000000 in
theorem works10_any (w : World) (hM : MaxOk w) (hT : TabIn w.heap.size w) :
    Calls Tryd.prog 9 #[] w fun en w' => en = .returned (.bool true) ∧ Below w.heap.size w w' := by
  have HM := Lib.hid hM; have HT := Lib.hid hT
  clear hM hT
  go_enter Tryd.func9, Tryd.ntmps9
  go_wp2_with fail
  refine (parse_par [40, 97, 98, 41, 42, 91, 93, 97, 45, 99, 93] w HM.out (fun _ => brC) (fun _ => dotC)).mono ?_
  intro en w1 hG
  obtain ⟨hb1, A, c, rfl, hN⟩ := parse_is hG wq1
  have Hfine := Lib.hid (parse_fine wq1)
  have Hp := Lib.hid wq2
  have hk : wt1.k = 4 := rfl
  have hl : wt1.ps.length = 2 := rfl
  obtain ⟨b, o, rfl, hbb, q0, q1, q2, q3, q4⟩ := wt1_at hN
  have HN := Lib.hid hN
  have HM1 := Lib.hid (HM.out.later hb1); have HT1 := Lib.hid (HT.out.step hb1)
  have HB1 := Lib.hid hb1
  have hlt1 : b < w1.heap.size := hbb.2
  have hpr := Lib.hid (print_any wt1)
  have Hk := Lib.hid hk; have Hl := Lib.hid hl
  clear hG hN hb1 hk hl hbb
  generalize wt1 = t at *
  go_upto_region 2 with fail
  generalize hW : w1.alloc _ = W2
  have hb2 : Below w1.heap.size w1 W2 := by subst hW; exact (Below.refl _ _).alloc (Nat.le_refl _) _
  have h8 : At8 W2 w1.heap.size 0 t (some ⟨b, o, none⟩) c := by subst hW; constructor <;> simp [go_sem]
  clear hW
  have hlt2 : w1.heap.size < W2.heap.size := World.block_lt_of_cell? _ _ h8.f0
  have HN2 := Lib.hid (HN.out.later hb2 (fun b h => h.2))
  have HM2 := Lib.hid (HM1.out.later hb2); have HT2 := Lib.hid (HT1.out.step hb2); have HB2 := Lib.hid (HB1.out.step hb2)
  have HQ := Lib.hid (fun o' => hb2.cell (p := ⟨b, o', none⟩) hlt1)
  have H8 := Lib.hid h8
  obtain ⟨f0, f1, f2, f3, f4, f5, f6, f7⟩ := h8
  go_wp2_with fail
  refine (hpr.out W2 _ (some ⟨b, o, none⟩) c HN2.out (fun b h => by have := h.2; omega) (fun _ => Hfine.out.2.1) HT2.out).mono ?_
  rintro e w3 ⟨rfl, hb3⟩
  rw [Hp.out]
  have HM3 := Lib.hid (HM2.out.later hb3); have HB3 := Lib.hid (HB2.out.step hb3)
  have H83 := Lib.hid (H8.out.mono (fun o => hb3.cell (p := ⟨w1.heap.size, o, none⟩) hlt2))
  have hlt3 : w1.heap.size < w3.heap.size := by have := hb3.size; omega
  have HQ3 := Lib.hid (fun o' => (hb3.cell (p := ⟨b, o', none⟩) (by show b < _; omega)).trans (HQ.out o'))
  clear f0 f1 f2 f3 f4 f5 f6 f7 hb3 hb2 HN HN2 H8 HQ
  go_wp2_with fail
  refine (parse_par [97, 123, 51, 44, 50, 125] w3 HM3.out (fun _ => brC) (fun _ => dotC)).mono ?_
  intro en w4 hG
  obtain ⟨hb4, _, rfl⟩ := parse_no hG wq3
  have HM4 := Lib.hid (HM3.out.later hb4); have HB4 := Lib.hid (HB3.out.step hb4)
  have H84 := Lib.hid (H83.out.mono (fun o => hb4.cell (p := ⟨w1.heap.size, o, none⟩) hlt3))
  have HQ4 := Lib.hid (fun o' => (hb4.cell (p := ⟨b, o', none⟩) (by show b < _; omega)).trans (HQ3.out o'))
  have hlt4 : w1.heap.size < w4.heap.size := by have := hb4.size; omega
  clear hG hb4 H83 HQ3
  go_upto_region 4 with fail
  generalize hW : w4.alloc _ = W5
  have hb5 : Below w4.heap.size w4 W5 := by subst hW; exact (Below.refl _ _).alloc (Nat.le_refl _) _
  clear hW
  have HM5 := Lib.hid (HM4.out.later hb5); have HB5 := Lib.hid (HB4.out.step hb5)
  have H85 := Lib.hid (H84.out.mono (fun o => hb5.cell (p := ⟨w1.heap.size, o, none⟩) hlt4))
  have HQ5 := Lib.hid (fun o' => (hb5.cell (p := ⟨b, o', none⟩) (by show b < _; omega)).trans (HQ4.out o'))
  have hlt5 : w1.heap.size < W5.heap.size := by have := hb5.size; omega
  clear hb5 H84 HQ4
  go_wp2_with fail
  refine (parse_par [91, 98, 45, 97, 93] W5 HM5.out (fun _ => brC) (fun _ => dotC)).mono ?_
  intro en w6 hG
  obtain ⟨hb6, _, rfl⟩ := parse_no hG wq4
  have HB6 := Lib.hid (HB5.out.step hb6)
  have H86 := Lib.hid (H85.out.mono (fun o => hb6.cell (p := ⟨w1.heap.size, o, none⟩) hlt5))
  have HQ6 := Lib.hid (fun o' => (hb6.cell (p := ⟨b, o', none⟩) (by show b < _; omega)).trans (HQ5.out o'))
  have hlt6 : w1.heap.size < w6.heap.size := by have := hb6.size; omega
  clear hG hb6 H85 HQ5
  go_upto_region 5 with fail
  generalize hW : w6.alloc _ = W7
  have hb7 : Below w6.heap.size w6 W7 := by subst hW; exact (Below.refl _ _).alloc (Nat.le_refl _) _
  clear hW
  have HB7 := Lib.hid (HB6.out.step hb7)
  obtain ⟨f0, f1, f2, f3, f4, f5, f6, f7⟩ := H86.out.mono (fun o => hb7.cell (p := ⟨w1.heap.size, o, none⟩) hlt6)
  have HQ7 := fun o' => (hb7.cell (p := ⟨b, o', none⟩) (by show b < _; omega)).trans (HQ6.out o')
  have x0 := (HQ7 _).trans q0; have x1 := (HQ7 _).trans q1; have x2 := (HQ7 _).trans q2; have x3 := (HQ7 _).trans q3; have x4 := (HQ7 _).trans q4
  rw [Hk.out] at f0
  rw [Hl.out] at f7
  clear hb7 H86 HQ6 HQ7 q0 q1 q2 q3 q4 Hk Hl Hp Hfine hpr
  have h4 : eq4 0 60666413056 0 0 0 60666413056 0 0 = true := by rw [eq4_iff]; exact ⟨rfl, rfl, rfl, rfl⟩
  go_wp2_with fail
  refine (pcheck_any (.mk 4 0 0 0 0 0 0 []) W7 (fun _ => False) none 0 (leaf_at W7 _ rfl) (fun _ h => h.elim)).mono ?_
  rintro e w8 ⟨rfl, hb8⟩
  rw [wq5]
  have HB8 := Lib.hid (HB7.out.step hb8)
  clear hb8 f0 f1 f2 f3 f4 f5 f6 f7 x0 x1 x2 x3 x4
  go_wp2_with fail
  go_ret
  exact ⟨rfl, HB8.out⟩

/-- What stays true as a law's walk goes on. -/
structure Env (w0 w : World) : Prop where
  mx : MaxOk w
  tb : TabIn w.heap.size w
  bl : Below w0.heap.size w0 w
theorem Env.start {w : World} (h : MaxOk w) (k : TabIn w.heap.size w) : Env w w := ⟨h, k, Below.refl _ _⟩
theorem Env.step {w0 w w' : World} (h : Env w0 w) (k : Below w.heap.size w w') : Env w0 w' := ⟨h.mx.later k, h.tb.step k, h.bl.step k⟩
theorem Env.drew {w0 w : World} (h : Env w0 w) : Env w0 w.drew := h.step (Below.refl _ _).drew
/-- A tree in a box. -/
structure Box (w : World) (p : Nat) (t : T) (A : Option Addr) (c : Nat) (ok : Nat → Prop) : Prop where
  at8 : At8 w p 0 t A c
  node : NodeAt w ok t A c
  okk : ∀ b, ok b → b < w.heap.size
theorem Box.lt {w : World} {p : Nat} {t : T} {A : Option Addr} {c : Nat} {ok : Nat → Prop} (h : Box w p t A c ok) : p < w.heap.size := World.block_lt_of_cell? _ _ h.at8.f0
theorem Box.step {w w' : World} {p : Nat} {t : T} {A : Option Addr} {c : Nat} {ok : Nat → Prop} (h : Box w p t A c ok) (k : Below w.heap.size w w') : Box w' p t A c ok :=
  ⟨h.at8.mono (fun o => k.cell (p := ⟨p, o, none⟩) h.lt), h.node.later k h.okk, fun b hb => Nat.lt_of_lt_of_le (h.okk b hb) k.size⟩
theorem Box.drew {w : World} {p : Nat} {t : T} {A : Option Addr} {c : Nat} {ok : Nat → Prop} (h : Box w p t A c ok) : Box w.drew p t A c ok := h.step (Below.refl _ _).drew
theorem print_cases {t : T} (hw : Words t) : printP t = ([], 3) ∨ (printP t = ([], 107) ∧ checkF t = 107) ∨ (printP t = (prT t, 0) ∧ parseP (prT t) = .ok t ∧ (prT t).length ≤ 1024) := by
  unfold printP
  by_cases h0 : checkF t = 0
  · rw [if_neg (by omega)]
    by_cases h : (prT t).length ≤ 1024 ∧ deepT t ≤ 64
    · rw [if_pos h]
      exact .inr (.inr ⟨rfl, parse_print (check_right h0).1 hw h.1 h.2, h.1⟩)
    · rw [if_neg h]; exact .inl rfl
  · rw [if_pos h0]
    unfold checkF at h0 ⊢
    split at h0
    · rename_i h; rw [if_pos h]; exact .inl rfl
    · rename_i h
      rw [if_neg h]
      split at h0
      · exact absurd rfl h0
      · rename_i h2; rw [if_neg h2]; exact .inr (.inl ⟨rfl, rfl⟩)
end Go.Proofs.YteekafkpeimhoaaDoor

/- vouchkit.SameNode of two trees that are alike: walked. -/
set_option linter.unusedVariables false
set_option linter.unusedSimpArgs false
namespace Go.Proofs.YteekafkpeimhoaaDoor
open Go.RowKit

set_option maxRecDepth 100000 in
set_option maxHeartbeats 4000000 in
theorem sameN_any (t : T) : ∀ (w : World) (ok1 ok2 : Nat → Prop) (A B : Option Addr) (c d : Nat), NodeAt w ok1 t A c → NodeAt w ok2 t B d → (∀ b, ok1 b → b < w.heap.size) → (∀ b, ok2 b → b < w.heap.size) →
    Calls Tryd.prog 7 #[nodeV t A c, nodeV t B d] w fun e w' => e = .returned (.bool true) ∧ Below w.heap.size w w' := by
  induction t using T.ind with
  | h t ih =>
    intro w ok1 ok2 A B c d hN hM ho1 ho2
    have hlen := hN.len
    have h4 : eq4 t.s0 t.s1 t.s2 t.s3 t.s0 t.s1 t.s2 t.s3 = true := by rw [eq4_iff]; exact ⟨rfl, rfl, rfl, rfl⟩
    have HN := Lib.hid hN; have HM := Lib.hid hM; have Ho1 := Lib.hid ho1; have Ho2 := Lib.hid ho2; have Hih := Lib.hid ih
    clear hN hM ho1 ho2 ih
    go_enter Tryd.func7, Tryd.ntmps7
    go_upto_region 1 with fail
    generalize hW : (w.alloc _).alloc _ = W0
    have hB0 : Below w.heap.size w W0 := by subst hW; exact ((Below.refl _ _).alloc (Nat.le_refl _) _).alloc (by simp) _
    have h8 : At8 W0 w.heap.size 0 t A c := by subst hW; constructor <;> simp [go_sem]
    have h9 : At8 W0 (w.heap.size + 1) 0 t B d := by subst hW; constructor <;> simp [go_sem]
    clear hW
    obtain ⟨f0, f1, f2, f3, f4, f5, f6, f7⟩ := h8
    obtain ⟨g0, g1, g2, g3, g4, g5, g6, g7⟩ := h9
    have hz0 : w.heap.size + 1 < W0.heap.size := World.block_lt_of_cell? _ _ g0
    go_wp2_with fail
    go_loopg [5] (t.ps.length) (fun k i wr => ∃ (j : Nat), i = .int .i64 j ∧ j + k = t.ps.length ∧ Below w.heap.size w wr ∧ W0.heap.size ≤ wr.heap.size ∧ wr.cell? ⟨w.heap.size, 7, none⟩ = some (.slice A t.ps.length c) ∧ wr.cell? ⟨w.heap.size + 1, 7, none⟩ = some (.slice B t.ps.length d))
    case atStart => exact ⟨0, rfl, by omega, hB0, Nat.le_refl _, f7, g7⟩
    case round =>
      obtain ⟨j, rfl, hj, hB, hz, q7, r7⟩ := hrel
      clear f0 f1 f2 f3 f4 f5 f6 f7 g0 g1 g2 g3 g4 g5 g6 g7 hB0 h4
      by_cases hlt : j < t.ps.length
      · obtain ⟨b, o, rfl, hb, hcell⟩ := HN.out.part (by omega)
        obtain ⟨b', o', rfl, hb', hcell'⟩ := HM.out.part (by omega)
        obtain ⟨A1, c1, h8, hN1⟩ := hcell j hlt
        obtain ⟨A2, c2, h9, hN2⟩ := hcell' j hlt
        have Hc := Lib.hid (Hih.out t.ps[j] (List.getElem_mem _))
        have HN1 := Lib.hid ((hN1.later hB Ho1.out).later (B := wr.heap.size) (Below.refl _ _).drew (fun x h => by have := Ho1.out x h; omega))
        have HN2 := Lib.hid ((hN2.later hB Ho2.out).later (B := wr.heap.size) (Below.refl _ _).drew (fun x h => by have := Ho2.out x h; omega))
        obtain ⟨f0, f1, f2, f3, f4, f5, f6, f7⟩ := h8.mono (w' := wr) (fun o => hB.cell (p := ⟨b, o, none⟩) (Ho1.out b hb))
        obtain ⟨g0, g1, g2, g3, g4, g5, g6, g7⟩ := h9.mono (w' := wr) (fun o => hB.cell (p := ⟨b', o, none⟩) (Ho2.out b' hb'))
        have hk1 : ∀ b, ok1 b → b < wr.drew.heap.size := fun b h => by have := Ho1.out b h; show b < wr.heap.size; omega
        have hk2 : ∀ b, ok2 b → b < wr.drew.heap.size := fun b h => by have := Ho2.out b h; show b < wr.heap.size; omega
        have Hk1 := Lib.hid hk1; have Hk2 := Lib.hid hk2
        clear hcell hcell' hN1 hN2 h8 h9 hk1 hk2
        generalize t.ps[j] = q at *
        go_upto_region 6 with fail
        go_region_with (go_at_call 7; refine (Hc.out _ ok1 ok2 A1 A2 c1 c2 HN1.out HN2.out Hk1.out Hk2.out).mono ?_; rintro e w2 ⟨rfl, hb2⟩)
        all_goals
          have hb3 : Below wr.heap.size wr w2 := (Below.refl _ _).drew.step hb2
          have q7' := (hb3.cell (p := ⟨w.heap.size, 7, none⟩) (by show w.heap.size < _; omega)).trans q7
          have r7' := (hb3.cell (p := ⟨w.heap.size + 1, 7, none⟩) (by show w.heap.size + 1 < _; omega)).trans r7
          have hB' := hB.step hb3
          have hz' := hb3.size
          go_wp2_with fail
          go_roundg (gk - 1)
          case measure => omega
          case rel => exact ⟨j + 1, by go_num, by omega, hB', by omega, q7', r7'⟩
      · go_wp2_with fail
        go_ret
        exact ⟨rfl, hB⟩
end Go.Proofs.YteekafkpeimhoaaDoor

/- vouchref10's Reader: its state; fail, is, take, done: walked. -/
set_option linter.unusedVariables false
set_option linter.unusedSimpArgs false
namespace Go.Proofs.YteekafkpeimhoaaDoor
open Go.RowKit

/-- The Reader's four cells: the text, where it stands, open brackets, what is wrong. -/
structure Rdq (w : World) (p : Nat) (S : Bs) (k : Nat) (op e : Int) : Prop where
  c0 : w.cell? ⟨p, 0, none⟩ = some (.string (bs S))
  c1 : w.cell? ⟨p, 1, none⟩ = some (.int .i64 k)
  c2 : w.cell? ⟨p, 2, none⟩ = some (.int .i64 op)
  c3 : w.cell? ⟨p, 3, none⟩ = some (.int .i64 e)
  z : ∀ o, w.frozen? ⟨p, o, none⟩ = false
  lt : p < w.heap.size
  le : k ≤ S.length
  top : S.length ≤ 1024
theorem Rdq.later {w w' : World} {p : Nat} {S : Bs} {k : Nat} {op e : Int} (h : Rdq w p S k op e) (hb : Below w.heap.size w w') : Rdq w' p S k op e :=
  ⟨(hb.cell (p := ⟨p, 0, none⟩) h.lt).trans h.c0, (hb.cell (p := ⟨p, 1, none⟩) h.lt).trans h.c1, (hb.cell (p := ⟨p, 2, none⟩) h.lt).trans h.c2, (hb.cell (p := ⟨p, 3, none⟩) h.lt).trans h.c3, fun o => (hb.frozen (p := ⟨p, o, none⟩) h.lt).trans (h.z o), Nat.lt_of_lt_of_le h.lt hb.size, h.le, h.top⟩
theorem Rdq.set1 {w : World} {p : Nat} {S : Bs} {k : Nat} {op e : Int} (h : Rdq w p S k op e) {k' : Nat} (hk : k' ≤ S.length) : Rdq (w.setCell ⟨p, 1, none⟩ (.int .i64 k')) p S k' op e :=
  ⟨(World.cell?_setCell_other _ _ _ _ (by simp)).trans h.c0, World.cell?_setCell_same _ _ _ h.c1, (World.cell?_setCell_other _ _ _ _ (by simp)).trans h.c2, (World.cell?_setCell_other _ _ _ _ (by simp)).trans h.c3, fun o => by rw [World.frozen?_setCell]; exact h.z o, by simpa using h.lt, hk, h.top⟩
theorem Rdq.set2 {w : World} {p : Nat} {S : Bs} {k : Nat} {op e : Int} (h : Rdq w p S k op e) (op' : Int) : Rdq (w.setCell ⟨p, 2, none⟩ (.int .i64 op')) p S k op' e :=
  ⟨(World.cell?_setCell_other _ _ _ _ (by simp)).trans h.c0, (World.cell?_setCell_other _ _ _ _ (by simp)).trans h.c1, World.cell?_setCell_same _ _ _ h.c2, (World.cell?_setCell_other _ _ _ _ (by simp)).trans h.c3, fun o => by rw [World.frozen?_setCell]; exact h.z o, by simpa using h.lt, h.le, h.top⟩
theorem Rdq.set3 {w : World} {p : Nat} {S : Bs} {k : Nat} {op e : Int} (h : Rdq w p S k op e) (e' : Int) : Rdq (w.setCell ⟨p, 3, none⟩ (.int .i64 e')) p S k op e' :=
  ⟨(World.cell?_setCell_other _ _ _ _ (by simp)).trans h.c0, (World.cell?_setCell_other _ _ _ _ (by simp)).trans h.c1, (World.cell?_setCell_other _ _ _ _ (by simp)).trans h.c2, World.cell?_setCell_same _ _ _ h.c3, fun o => by rw [World.frozen?_setCell]; exact h.z o, by simpa using h.lt, h.le, h.top⟩

/-- The Reader over a text: what is left tu read, or what is wrong; then it stands anywhere. -/
structure RQ (w : World) (p : Nat) (S : Bs) (k : Nat) (op : Int) (s : Rs) : Prop where
  rdr : Rdq w p S k op s.no
  ok : ∀ r, s = .ok r → r = S.drop k
  ne : ∀ e, s = .error e → e ≠ 0
theorem RQ.later {w w' : World} {p : Nat} {S : Bs} {k : Nat} {op : Int} {s : Rs} (h : RQ w p S k op s) (hb : Below w.heap.size w w') : RQ w' p S k op s := ⟨h.rdr.later hb, h.ok, h.ne⟩
theorem RQ.lt {w : World} {p : Nat} {S : Bs} {k : Nat} {op : Int} {s : Rs} (h : RQ w p S k op s) : p < w.heap.size := h.rdr.lt
theorem RQ.off {w w' : World} {p : Nat} {S : Bs} {k : Nat} {op : Int} {s : Rs} (h : RQ w p S k op s) (hb : Below w.heap.size w w') : RQ w' p S k op s := h.later hb
theorem RQ.len {w : World} {p : Nat} {S : Bs} {k : Nat} {op : Int} {r : Bs} (h : RQ w p S k op (.ok r)) : r.length = S.length - k := by rw [h.ok r rfl]; simp
theorem bsq_size (r : Bs) : (bs r).size = r.length := by simp [bs, ByteArray.size]
theorem bsq_slice (S : Bs) (k n : Nat) (h : k + n ≤ S.length) : (bs S).extract k (k + n) = bs ((S.drop k).take n) := by
  rw [Lib.extract_eq]
  congr 2
  simp only [bs]
  rw [show k + n - k = n by omega]
theorem qrun_cut (S : Bs) (i n : Nat) (h : i + n ≤ S.length) (w : World) : (Instr.slice 9 (.string (bs S)) (some (.int .i64 (i : Int))) (some (.int .i64 ((i : Int) + (n : Int)))) none).run Tryd.prog w = .ok (.string (bs ((S.drop i).take n))) w := by
  rw [run_slice_string (h := Tryd.underlying9) (h0 := by omega) (h1 := by omega) (h2 := by rw [bsq_size]; omega), ← bsq_slice S i n h]
  rfl
theorem take_pref (q r : Bs) (h : q.length ≤ r.length) : (r.take q.length == q) = q.isPrefixOf r := by
  rw [Bool.eq_iff_iff, beq_iff_eq, List.isPrefixOf_iff_prefix]
  constructor
  · intro e; rw [← e]; exact List.take_prefix _ _
  · rintro ⟨t, rfl⟩; simp

set_option maxRecDepth 100000 in
set_option maxHeartbeats 400000 in
theorem qfail_any (w : World) (p : Nat) (S : Bs) (k : Nat) (op : Int) (s : Rs) (x : Int) (hx : x ≠ 0) (h : RQ w p S k op s) :
    Calls Tryd.prog 21 #[.pointer (some ⟨p, 0, none⟩), .int .i64 x] w fun en w' => en = .returned (.tuple #[]) ∧ RQ w' p S k op (failS s x) ∧ Off p w w' := by
  have c3 := h.rdr.c3
  have z3 := h.rdr.z 3
  cases s with
  | ok r =>
    simp only [Rs.no] at c3
    have H := Lib.hid h; clear h
    go_enter Tryd.func21, Tryd.ntmps21
    go_wp2_with fail
    go_end0
    exact ⟨rfl, ⟨H.out.rdr.set3 x, (fun r he => by cases he), fun e he => by cases he; exact hx⟩, (Off.refl p w).set _ _⟩
  | error e =>
    have hne := h.ne e rfl
    simp only [Rs.no] at c3
    have hb : (e == 0) = false := by rw [beq_eq_false_iff_ne]; exact hne
    have H := Lib.hid h; clear h hne
    go_enter Tryd.func21, Tryd.ntmps21
    go_wp2_with fail
    go_end0
    exact ⟨rfl, H.out, Off.refl p w⟩
theorem belowQ (w : World) (n : Nat) : Below w.heap.size w (w.drewN n) := ⟨rfl, rfl, rfl, Nat.le_refl _, fun _ _ => rfl⟩
theorem RQ.drewN {w : World} {p : Nat} {S : Bs} {k : Nat} {op : Int} {s : Rs} (h : RQ w p S k op s) (n : Nat) : RQ (w.drewN n) p S k op s := h.later (belowQ w n)
theorem offQ (p : Nat) (w : World) (n : Nat) : Off p w (w.drewN n) := Off.of_below (belowQ w n)
set_option maxRecDepth 100000 in
set_option maxHeartbeats 1000000 in
theorem is_any (w : World) (p : Nat) (S : Bs) (k : Nat) (op : Int) (s : Rs) (q : Bs) (hq : q.length ≤ 100) (h : RQ w p S k op s) :
    Calls Tryd.prog 44 #[.pointer (some ⟨p, 0, none⟩), .string (bs q)] w fun en w' => en = .returned (.bool (takeS q s).1) ∧ ∃ m, w' = w.drewN m := by
  obtain ⟨c0, c1, c2, c3, z, lt, le, top⟩ := h.rdr
  have sq := bsq_size q
  have sS := bsq_size S
  cases s with
  | error e =>
    have hne := h.ne e rfl
    simp only [Rs.no] at c3
    have hb : (e == 0) = false := by rw [beq_eq_false_iff_ne]; exact hne
    have HT := Lib.hid (show (takeS q (.error e)).1 = false from rfl)
    clear h hne z
    go_enter Tryd.func44, Tryd.ntmps44
    go_wp2_with fail
    go_quiet (fail)
    go_wp2_with fail
    go_ret
    exact ⟨by rw [HT.out]; rfl, _, rfl⟩
  | ok r =>
    simp only [Rs.no] at c3
    have hr := h.ok r rfl
    have hrl := h.len
    have Hr := Lib.hid hr
    clear h z hr
    by_cases hlt : k + q.length ≤ S.length
    · have he := fun w => qrun_cut S k q.length hlt w
      have hp : ((S.drop k).take q.length == q) = (takeS q (.ok r)).1 := by
        rw [take_pref _ _ (by simp; omega), takeS_ok, Hr.out]
      have HP := Lib.hid hp
      have hle : (k : Int) + (q.length : Int) ≤ (S.length : Int) := by omega
      clear hp Hr hlt
      go_enter Tryd.func44, Tryd.ntmps44
      go_wp2_with fail
      go_quiet (fail)
      go_wp2_with fail
      go_ret
      exact ⟨by rw [← HP.out]; rfl, _, rfl⟩
    · have hp : (takeS q (.ok r)).1 = false := by
        rw [takeS_ok]
        show q.isPrefixOf r = false
        rw [← Bool.not_eq_true]
        intro hh
        have := pref_len hh
        omega
      have HP := Lib.hid hp
      have hle : decide ((k : Int) + (q.length : Int) ≤ (S.length : Int)) = false := by rw [decide_eq_false_iff_not]; omega
      clear hp Hr hlt
      go_enter Tryd.func44, Tryd.ntmps44
      go_wp2_with fail
      go_quiet (fail)
      go_wp2_with fail
      go_ret
      exact ⟨by rw [HP.out]; rfl, _, rfl⟩
set_option maxRecDepth 100000 in
set_option maxHeartbeats 1000000 in
theorem qtake_any (w : World) (p : Nat) (S : Bs) (k : Nat) (op : Int) (s : Rs) (q : Bs) (hq : q.length ≤ 100) (h : RQ w p S k op s) :
    Calls Tryd.prog 33 #[.pointer (some ⟨p, 0, none⟩), .string (bs q)] w fun en w' => en = .returned (.bool (takeS q s).1) ∧ (∃ k', RQ w' p S k' op (takeS q s).2) ∧ Off p w w' := by
  have sq := bsq_size q
  have H := Lib.hid h
  have Ci := Lib.hid (is_any w p S k op s q hq h)
  clear h
  cases hi : (takeS q s).1 with
  | false =>
    have ht : (takeS q s).2 = s := by
      cases s with
      | error e => rfl
      | ok r =>
        rw [takeS_ok] at hi ⊢
        simp only at hi
        unfold cutR
        rw [hi]; rfl
    have HT := Lib.hid ht
    have HI := Lib.hid hi
    clear ht hi
    go_enter Tryd.func33, Tryd.ntmps33
    go_wp2_with fail
    refine Ci.out.mono ?_
    rintro en w1 ⟨rfl, m, rfl⟩
    rw [HI.out]
    go_wp2_with fail
    go_ret
    exact ⟨rfl, ⟨k, by rw [HT.out]; exact H.out.drewN m⟩, offQ p w m⟩
  | true =>
    cases s with
    | error e => cases hi
    | ok r =>
      have hs := hi
      rw [takeS_ok] at hs
      simp only at hs
      have hlen := pref_len hs
      have hr := H.out.len
      have ht : (takeS q (.ok r)).2 = .ok (r.drop q.length) := by
        rw [takeS_ok]
        show Except.ok (cutR q r) = _
        unfold cutR
        rw [if_pos hs]
      have HT := Lib.hid ht
      have HI := Lib.hid hi
      clear ht hi hs
      go_enter Tryd.func33, Tryd.ntmps33
      go_wp2_with fail
      refine Ci.out.mono ?_
      rintro en w1 ⟨rfl, m, rfl⟩
      rw [HI.out]
      have hR := H.out.drewN m
      have c1 := hR.rdr.c1
      have z1 := hR.rdr.z 1
      have hkb : k ≤ 1024 := Nat.le_trans hR.rdr.le hR.rdr.top
      have HR := Lib.hid hR
      have HO := Lib.hid (offQ p w m)
      generalize w.drewN m = w1 at *
      clear hR
      go_wp2_with fail
      go_ret
      refine ⟨rfl, ⟨k + q.length, ?_⟩, HO.out.set _ _⟩
      rw [HT.out]
      have := HR.out.rdr.set1 (k' := k + q.length) (by have := HR.out.rdr.le; omega)
      refine ⟨?_, fun r' he => ?_, fun e he => by cases he⟩
      · rw [show ((k + q.length : Nat) : Int) = (k : Int) + q.length by omega] at this
        exact this
      · cases he
        rw [HR.out.ok r rfl, List.drop_drop]
/-- Is nothing left, or something wrong? -/
def doneS (s : Rs) : Bool := match s with
  | .ok [] => true
  | .ok (_ :: _) => false
  | .error _ => true
set_option maxRecDepth 100000 in
set_option maxHeartbeats 1000000 in
theorem done_any (w : World) (p : Nat) (S : Bs) (k : Nat) (op : Int) (s : Rs) (h : RQ w p S k op s) :
    Calls Tryd.prog 20 #[.pointer (some ⟨p, 0, none⟩)] w fun en w' => en = .returned (.bool (doneS s)) ∧ ∃ m, w' = w.drewN m := by
  obtain ⟨c0, c1, c2, c3, z, lt, le, top⟩ := h.rdr
  have sS := bsq_size S
  clear z
  rcases s with e | (_ | ⟨c, t⟩)
  · have hne := h.ne e rfl
    simp only [Rs.no] at c3
    have hb : (e != 0) = true := by rw [bne_iff_ne]; exact hne
    clear h
    go_enter Tryd.func20, Tryd.ntmps20
    go_wp2_with fail
    go_quiet (fail)
    go_wp2_with fail
    go_ret
    exact ⟨rfl, _, rfl⟩
  · have hl := h.len
    simp only [Rs.no] at c3
    simp only [List.length_nil] at hl
    have hle : (S.length : Int) ≤ (k : Int) := by omega
    clear h hl
    go_enter Tryd.func20, Tryd.ntmps20
    go_wp2_with fail
    go_quiet (fail)
    go_wp2_with fail
    go_ret
    exact ⟨rfl, _, rfl⟩
  · have hl := h.len
    simp only [Rs.no] at c3
    simp only [List.length_cons] at hl
    have Hge := Lib.hid (show ¬ S.length ≤ k by omega)
    have hle : decide ((S.length : Int) ≤ (k : Int)) = false := by rw [decide_eq_false_iff_not]; omega
    clear h hl
    go_enter Tryd.func20, Tryd.ntmps20
    go_wp2_with fail
    go_quiet (fail)
    go_wp2_with fail
    go_ret
    exact ⟨congrArg (fun b => Ending.returned (.bool b)) (decide_eq_false Hge.out), _, rfl⟩
/-- The same two, the world behind them a name. -/
theorem is_q {w : World} {p : Nat} {S : Bs} {k : Nat} {op : Int} {s : Rs} (q : Bs) (hq : q.length ≤ 100) (h : RQ w p S k op s) :
    Calls Tryd.prog 44 #[.pointer (some ⟨p, 0, none⟩), .string (bs q)] w fun en w' => en = .returned (.bool (takeS q s).1) ∧ RQ w' p S k op s ∧ Off p w w' := by
  refine (is_any w p S k op s q hq h).mono ?_
  rintro en w' ⟨rfl, m, rfl⟩
  exact ⟨rfl, h.drewN m, offQ p w m⟩
theorem done_q {w : World} {p : Nat} {S : Bs} {k : Nat} {op : Int} {s : Rs} (h : RQ w p S k op s) :
    Calls Tryd.prog 20 #[.pointer (some ⟨p, 0, none⟩)] w fun en w' => en = .returned (.bool (doneS s)) ∧ RQ w' p S k op s ∧ Off p w w' := by
  refine (done_any w p S k op s h).mono ?_
  rintro en w' ⟨rfl, m, rfl⟩
  exact ⟨rfl, h.drewN m, offQ p w m⟩
theorem Off.drew {p : Nat} {w w' : World} (h : Off p w w') : Off p w w'.drew := h.trans (Off.of_below (Below.refl _ _).drew)
theorem RQ.drew {w : World} {p : Nat} {S : Bs} {k : Nat} {op : Int} {s : Rs} (h : RQ w p S k op s) : RQ w.drew p S k op s := h.later (Below.refl _ _).drew
end Go.Proofs.YteekafkpeimhoaaDoor

/- vouchref10's Reader: single, member: walked. -/
set_option linter.unusedVariables false
set_option linter.unusedSimpArgs false
namespace Go.Proofs.YteekafkpeimhoaaDoor
open Go.RowKit

theorem bsq_cat (a b : Bs) : bs a ++ bs b = bs (a ++ b) := by
  apply ByteArray.ext
  simp [bs]
theorem done_n {w : World} {p : Nat} {S : Bs} {k : Nat} {op : Int} {s : Rs} (b : Bool) (hb : doneS s = b) (h : RQ w p S k op s) (n : Nat) :
    Calls Tryd.prog 20 #[.pointer (some ⟨p, 0, none⟩)] (w.drewN n) fun en w' => en = .returned (.bool b) ∧ ∃ m, w' = (w.drewN n).drewN m := by
  subst hb
  exact done_any (w.drewN n) p S k op s (h.drewN n)
/-- What a step hands back that reads a byte. -/
def QByte (p : Nat) (S : Bs) (op : Int) (f : Bs → Except Int (Nat × Bs)) (r : Bs) (w : World) (en : Ending) (w' : World) : Prop :=
  ∃ (c : Nat) (k' : Nat) (s' : Rs), c < 256 ∧ en = .returned (.int .u8 (c : Nat)) ∧ RQ w' p S k' op s' ∧ Off p w w' ∧ Out f (.ok r) (fun x => c = x) s'
theorem single_short {g : UInt8} {r : Bs} (h : r.length < 3) : singleP g r = .error 101 := by
  unfold singleP
  match r, h with
  | [], _ => rfl
  | [c], _ => simp [takeP, List.isPrefixOf]
  | [c, d], _ => simp [takeP, List.isPrefixOf]
theorem single_three {g c d e : UInt8} {t : Bs} : singleP g (c :: d :: e :: t) = if d = g ∧ e = 93 then .ok (c.toNat, t) else .error 101 := by
  unfold singleP
  simp only [takeP, List.isPrefixOf, Bool.and_true]
  by_cases h1 : d = g
  · by_cases h2 : e = 93
    · subst h1 h2; simp
    · rw [if_neg (by simp [h1]; exact fun h => h2 h.symm)]
      rw [if_neg (fun h => h2 h.2)]
  · rw [if_neg (by simp; intro h; exact absurd h.symm h1), if_neg (fun h => h1 h.1)]
theorem RQ.at_ {w : World} {p : Nat} {S : Bs} {k : Nat} {op : Int} {c : UInt8} {t : Bs} (h : RQ w p S k op (.ok (c :: t))) : k < S.length ∧ ∀ hh, S[k]'hh = c := by
  have hl := h.len
  have hr := h.ok _ rfl
  simp only [List.length_cons] at hl
  have hk : k < S.length := by omega
  refine ⟨hk, fun hh => ?_⟩
  rw [List.drop_eq_getElem_cons hk] at hr
  simp only [List.cons.injEq] at hr
  exact hr.1.symm
theorem RQ.step {w : World} {p : Nat} {S : Bs} {k : Nat} {op : Int} {r : Bs} (h : RQ w p S k op (.ok r)) (n : Nat) (hn : n ≤ r.length) : RQ (w.setCell ⟨p, 1, none⟩ (.int .i64 ((k : Int) + (n : Int)))) p S (k + n) op (.ok (r.drop n)) := by
  have hl := h.len
  have := h.rdr.set1 (k' := k + n) (by have := h.rdr.le; omega)
  refine ⟨?_, fun r' he => ?_, fun e he => by cases he⟩
  · rw [show ((k + n : Nat) : Int) = (k : Int) + n by omega] at this
    exact this
  · cases he
    rw [h.ok r rfl, List.drop_drop]
set_option maxRecDepth 100000 in
set_option maxHeartbeats 2000000 in
theorem qsingle_any (w : World) (p : Nat) (S : Bs) (k : Nat) (op : Int) (a b : UInt8) (r : Bs) (g : UInt8) (h : RQ w p S k op (.ok (a :: b :: r))) :
    Calls Tryd.prog 94 #[.pointer (some ⟨p, 0, none⟩), .string (bs [g])] w fun en w' => QByte p S op (singleP g) r w en w' := by
  obtain ⟨c0, c1, c2, c3, z, lt, le, top⟩ := h.rdr
  have z1 := z 1
  have sS := bsq_size S
  have hl := h.len
  simp only [List.length_cons] at hl
  have hkb : k ≤ 1000 + 24 := by omega
  have hst := h.step 2 (by simp)
  simp only [List.drop_succ_cons, List.drop_zero] at hst
  have HST := Lib.hid hst
  have cc : bs [g] ++ bs [93] = bs [g, 93] := bsq_cat _ _
  have Hl := Lib.hid hl
  clear h z hst hl
  go_enter Tryd.func94, Tryd.ntmps94
  go_upto_region 2 with fail
  generalize hW : w.setCell ⟨p, 1, none⟩ _ = W1
  have hr1 : RQ W1 p S (k + 2) op (.ok r) := by subst hW; exact HST.out
  have hO1 : Off p w W1 := by subst hW; exact (Off.refl p w).set _ _
  clear hW HST c0 c1 c2 c3 z1
  have hk2 : ∃ k2, RQ W1 p S k2 op (.ok r) := ⟨_, hr1⟩
  clear hr1 Hl hkb le
  obtain ⟨k2, hr1⟩ := hk2
  obtain ⟨c0, c1, c2, c3, z, lt1, le1, top1⟩ := hr1.rdr
  have hlen1 := hr1.len
  have HR1 := Lib.hid hr1; have HO1 := Lib.hid hO1
  have hkb2 : k2 ≤ 1024 := by omega
  clear z hr1 hO1
  by_cases hs : r.length < 3
  · have Hs := Lib.hid (single_short (g := g) hs)
    have hgt : (S.length : Int) < (k2 : Int) + 3 := by have := hlen1; have := HR1.out.rdr.le; omega
    clear hs hlen1
    go_quiet (fail)
    go_wp2_with fail
    refine (qfail_any _ p S k2 op (.ok r) 101 (by omega) (HR1.out.drewN _)).mono ?_
    rintro en w3 ⟨rfl, h3, hO3⟩
    go_wp2_with fail
    go_ret
    exact ⟨0, k2, _, by omega, rfl, h3, (HO1.out.trans (offQ p _ _)).trans hO3, Out.bad Hs.out⟩
  · obtain ⟨c, d, e, t, rfl⟩ : ∃ c d e t, r = c :: d :: e :: t := by
      match r, hs with
      | c :: d :: e :: t, _ => exact ⟨c, d, e, t, rfl⟩
      | [], h => simp at h
      | [_], h => simp at h
      | [_, _], h => simp at h
    simp only [List.length_cons] at hlen1
    have hgt : decide ((S.length : Int) < (k2 : Int) + 3) = false := by rw [decide_eq_false_iff_not]; omega
    have hcut := fun w => qrun_cut S (k2 + 1) 2 (by omega) w
    have hdr : (S.drop (k2 + 1)).take 2 = [d, e] := by
      have h0 := HR1.out.ok _ rfl
      rw [← List.drop_drop, ← h0]; rfl
    rw [hdr] at hcut
    have hcut' : ∀ w, (Instr.slice 9 (.string (bs S)) (some (.int .i64 ((k2 : Int) + 1))) (some (.int .i64 ((k2 : Int) + 3))) none).run Tryd.prog w = .ok (.string (bs [d, e])) w := fun w => by
      have := hcut w
      rw [show ((k2 + 1 : Nat) : Int) + ((2 : Nat) : Int) = (k2 : Int) + 3 by omega, show ((k2 + 1 : Nat) : Int) = (k2 : Int) + 1 by omega] at this
      exact this
    clear hcut hdr hs
    have hat := HR1.out.at_
    have hkS := hat.1
    have Hlen1 := Lib.hid hlen1
    clear hlen1
    have H3 := Lib.hid (single_three (g := g) (c := c) (d := d) (e := e) (t := t))
    have hcl := c.toNat_lt
    by_cases hde : d = g ∧ e = 93
    · obtain ⟨rfl, rfl⟩ := hde
      have Hs := Lib.hid (show singleP d (c :: d :: 93 :: t) = .ok (c.toNat, t) by rw [H3.out, if_pos ⟨rfl, rfl⟩])
      have hne : (([d, 93] : Bs) != [d, 93]) = false := by simp
      have hix := hat.2
      have hkI : (k2 : Int) < (S.length : Int) := by omega
      clear H3 hat
      go_quiet (fail)
      go_wp2_with fail
      have hq := HR1.out.drewN nq
      have HO2 := Lib.hid (HO1.out.trans (offQ p W1 nq))
      generalize W1.drewN nq = Wa at *
      have HRa := Lib.hid hq
      have b0 := hq.rdr.c0
      have b1 := hq.rdr.c1
      clear hq c0 c1 c2 c3 hcut' HO1
      go_quiet (fail)
      have hq := HRa.out.drewN nq
      have HO3 := Lib.hid (HO2.out.trans (offQ p Wa nq))
      generalize Wa.drewN nq = Wb at *
      have HRb := Lib.hid hq
      have c1 := hq.rdr.c1
      have z1 := hq.rdr.z 1
      clear hq b0 b1 HO2 HRa
      go_wp2_with fail
      go_ret
      have hst := HRb.out.step 3 (by simp)
      refine ⟨c.toNat, k2 + 3, _, hcl, by rw [← hix hkS]; rfl, hst, HO3.out.set _ _, Out.good Hs.out rfl⟩
    · have Hs := Lib.hid (show singleP g (c :: d :: e :: t) = .error 101 by rw [H3.out, if_neg hde])
      have hne : (([d, e] : Bs) != [g, 93]) = true := by
        rw [bne_iff_ne]; intro h; simp at h; exact hde h
      have hne2 : ((!d == g) || (!e == 93)) = true := by
        rw [Bool.or_eq_true, Bool.not_eq_true', Bool.not_eq_true', beq_eq_false_iff_ne, beq_eq_false_iff_ne]
        by_cases h : d = g
        · exact .inr (fun h2 => hde ⟨h, h2⟩)
        · exact .inl h
      clear H3 hat hde
      go_quiet (fail)
      go_wp2_with fail
      refine (qfail_any _ p S k2 op (.ok (c :: d :: e :: t)) 101 (by omega) (HR1.out.drewN _)).mono ?_
      rintro en w3 ⟨rfl, h3, hO3⟩
      go_wp2_with fail
      go_ret
      exact ⟨0, k2, _, by omega, rfl, h3, (HO1.out.trans (offQ p _ _)).trans hO3, Out.bad Hs.out⟩
/-- A member; the second one of a range is no class, no [=. -/
def memberQ (sec : Bool) (r : Bs) : Except Int (Nat × Bs) := if (sec && ((takeS [91, 58] (.ok r)).1 || (takeS [91, 61] (.ok r)).1)) = true then .error 101 else memberP r
theorem takeS_some {q r r' : Bs} (h : takeP q r = some r') : takeS q (.ok r) = (true, .ok r') := by simp only [takeS, h]
theorem takeS_none {q r : Bs} (h : takeP q r = none) : takeS q (.ok r) = (false, .ok r) := by simp only [takeS, h]
theorem pref_two {a b : UInt8} {r r' : Bs} (h : takeP [a, b] r = some r') : r = a :: b :: r' := by
  unfold takeP at h
  split at h
  · rename_i hp
    simp only [Option.some.injEq] at h
    subst h
    obtain ⟨t, ht⟩ := List.isPrefixOf_iff_prefix.1 hp
    subst ht
    rfl
  · cases h
set_option maxRecDepth 100000 in
set_option maxHeartbeats 4000000 in
theorem qmember_any (w : World) (p : Nat) (S : Bs) (k : Nat) (op : Int) (r : Bs) (sec : Bool) (h : RQ w p S k op (.ok r)) :
    Calls Tryd.prog 95 #[.pointer (some ⟨p, 0, none⟩), .bool sec] w fun en w' => QByte p S op (memberQ sec) r w en w' := by
  have H := Lib.hid h
  have Hd := Lib.hid (done_q h)
  clear h
  cases r with
  | nil =>
    have hs : memberQ sec [] = .error 101 := by unfold memberQ; split <;> rfl
    have Hs := Lib.hid hs
    clear hs
    go_enter Tryd.func95, Tryd.ntmps95
    go_wp2_with fail
    refine Hd.out.mono ?_
    rintro en w1 ⟨rfl, h1, hO1⟩
    rw [show doneS (.ok []) = true from rfl]
    go_wp2_with fail
    refine (qfail_any _ p S k op (.ok []) 101 (by omega) h1).mono ?_
    rintro en wz ⟨rfl, hz, hOz⟩
    go_wp2_with fail
    go_ret
    exact ⟨0, k, _, by omega, rfl, hz, hO1.trans hOz, Out.bad Hs.out⟩
  | cons c t =>
    have hc := c.toNat_lt
    have Hi := Lib.hid (fun w (h : RQ w p S k op (.ok (c :: t))) => is_q [91, 46] (by simp) h)
    have Hj := Lib.hid (fun w (h : RQ w p S k op (.ok (c :: t))) => is_q [91, 58] (by simp) h)
    have Hk := Lib.hid (fun w (h : RQ w p S k op (.ok (c :: t))) => is_q [91, 61] (by simp) h)
    cases ht : takeP [91, 46] (c :: t) with
    | some r1 =>
      have e := pref_two ht
      simp only [List.cons.injEq] at e
      obtain ⟨rfl, rfl⟩ := e
      have hs : memberQ sec (91 :: 46 :: r1) = singleP 46 r1 := by
        unfold memberQ
        rw [if_neg (by simp [takeS, takeP, List.isPrefixOf])]
        simp only [memberP, ht]
      have Hs := Lib.hid hs
      have HT := Lib.hid (congrArg Prod.fst (takeS_some ht))
      clear hs ht Hj Hk
      go_enter Tryd.func95, Tryd.ntmps95
      go_wp2_with fail
      refine Hd.out.mono ?_
      rintro en w1 ⟨rfl, h1, hO1⟩
      rw [show doneS (.ok (91 :: 46 :: r1)) = false from rfl]
      go_wp2_with fail
      refine (Hi.out _ h1).mono ?_
      rintro en w2 ⟨rfl, h2, hO2⟩
      rw [HT.out]
      go_wp2_with fail
      refine (qsingle_any _ p S k op 91 46 r1 46 h2).mono ?_
      rintro en wz ⟨c3, k3, s3, hc3, rfl, hz, hOz, ho3⟩
      have Ho := Lib.hid ho3
      clear ho3
      go_wp2_with fail
      go_ret
      exact ⟨c3, k3, s3, hc3, rfl, hz, (hO1.trans hO2).trans hOz, by have := Ho.out; simp only [Out] at this ⊢; rw [Hs.out]; exact this⟩
    | none =>
      have HT := Lib.hid (congrArg Prod.fst (takeS_none ht))
      have hmem : memberP (c :: t) = .ok (c.toNat, t) := by simp only [memberP, ht]
      have Hmem := Lib.hid hmem
      clear ht hmem
      cases hsec : (sec && ((takeS [91, 58] (.ok (c :: t))).1 || (takeS [91, 61] (.ok (c :: t))).1)) with
      | true =>
        have Hs := Lib.hid (show memberQ sec (c :: t) = .error 101 by unfold memberQ; rw [if_pos hsec])
        cases sec with
        | false => cases hsec
        | true =>
        rw [Bool.true_and] at hsec
        cases h58 : (takeS [91, 58] (.ok (c :: t))).1 with
        | true =>
          have H58 := Lib.hid h58
          clear hsec h58
          go_enter Tryd.func95, Tryd.ntmps95
          go_wp2_with fail
          refine Hd.out.mono ?_
          rintro en w1 ⟨rfl, h1, hO1⟩
          rw [show doneS (.ok (c :: t)) = false from rfl]
          go_wp2_with fail
          refine (Hi.out _ h1).mono ?_
          rintro en w2 ⟨rfl, h2, hO2⟩
          rw [HT.out]
          go_wp2_with fail
          refine (Hj.out _ h2).mono ?_
          rintro en w3 ⟨rfl, h3, hO3⟩
          rw [H58.out]
          go_wp2_with fail
          refine (qfail_any _ p S k op (.ok (c :: t)) 101 (by omega) h3).mono ?_
          rintro en wz ⟨rfl, hz, hOz⟩
          go_wp2_with fail
          go_ret
          exact ⟨0, k, _, by omega, rfl, hz, ((hO1.trans hO2).trans hO3).trans hOz, Out.bad Hs.out⟩
        | false =>
          rw [h58, Bool.false_or] at hsec
          have H58 := Lib.hid h58
          have H61 := Lib.hid hsec
          clear hsec h58
          go_enter Tryd.func95, Tryd.ntmps95
          go_wp2_with fail
          refine Hd.out.mono ?_
          rintro en w1 ⟨rfl, h1, hO1⟩
          rw [show doneS (.ok (c :: t)) = false from rfl]
          go_wp2_with fail
          refine (Hi.out _ h1).mono ?_
          rintro en w2 ⟨rfl, h2, hO2⟩
          rw [HT.out]
          go_wp2_with fail
          refine (Hj.out _ h2).mono ?_
          rintro en w3 ⟨rfl, h3, hO3⟩
          rw [H58.out]
          go_wp2_with fail
          refine (Hk.out _ h3).mono ?_
          rintro en w4 ⟨rfl, h4, hO4⟩
          rw [H61.out]
          go_wp2_with fail
          refine (qfail_any _ p S k op (.ok (c :: t)) 101 (by omega) h4).mono ?_
          rintro en wz ⟨rfl, hz, hOz⟩
          go_wp2_with fail
          go_ret
          exact ⟨0, k, _, by omega, rfl, hz, (((hO1.trans hO2).trans hO3).trans hO4).trans hOz, Out.bad Hs.out⟩
      | false =>
        have Hs := Lib.hid (show memberQ sec (c :: t) = .ok (c.toNat, t) by unfold memberQ; rw [if_neg (by rw [hsec]; simp), Hmem.out])
        have Hsec := Lib.hid hsec
        clear hsec
        have last : ∀ (W : World), RQ W p S k op (.ok (c :: t)) → RQ W p S k op (.ok (c :: t)) ∧ W.cell? ⟨p, 0, none⟩ = some (.string (bs S)) ∧ W.cell? ⟨p, 1, none⟩ = some (.int .i64 k) ∧ W.frozen? ⟨p, 1, none⟩ = false := fun W hW => ⟨hW, hW.rdr.c0, hW.rdr.c1, hW.rdr.z 1⟩
        have Last := Lib.hid last
        clear last
        have hat := H.out.at_
        have hkS := hat.1
        have hix := hat.2
        have hkI : (k : Int) < (S.length : Int) := by omega
        have sS := bsq_size S
        have hkb : k ≤ 1024 := Nat.le_trans H.out.rdr.le H.out.rdr.top
        clear hat
        cases sec with
        | false =>
          go_enter Tryd.func95, Tryd.ntmps95
          go_wp2_with fail
          refine Hd.out.mono ?_
          rintro en w1 ⟨rfl, h1, hO1⟩
          rw [show doneS (.ok (c :: t)) = false from rfl]
          go_wp2_with fail
          refine (Hi.out _ h1).mono ?_
          rintro en w2 ⟨rfl, h2, hO2⟩
          rw [HT.out]
          obtain ⟨hR, c0, c1, z1⟩ := Last.out _ h2
          have HR := Lib.hid hR
          have HO := Lib.hid (hO1.trans hO2)
          clear hR h1 h2 hO1 hO2
          go_upto_region 9 with fail
          go_quiet (fail)
          have hq := HR.out.drewN nq
          have HO3 := Lib.hid (HO.out.trans (offQ p w2 nq))
          generalize w2.drewN nq = Wb at *
          have HRb := Lib.hid hq
          have b1 := hq.rdr.c1
          have bz := hq.rdr.z 1
          clear hq c0 c1 z1 HO HR
          go_wp2_with fail
          go_ret
          have hst := HRb.out.step 1 (by simp)
          exact ⟨c.toNat, k + 1, _, hc, by rw [← hix hkS]; rfl, hst, HO3.out.set _ _, Out.good Hs.out rfl⟩
        | true =>
          have hs2 := Hsec.out
          rw [Bool.true_and, Bool.or_eq_false_iff] at hs2
          have H58 := Lib.hid hs2.1
          have H61 := Lib.hid hs2.2
          clear hs2 Hsec
          go_enter Tryd.func95, Tryd.ntmps95
          go_wp2_with fail
          refine Hd.out.mono ?_
          rintro en w1 ⟨rfl, h1, hO1⟩
          rw [show doneS (.ok (c :: t)) = false from rfl]
          go_wp2_with fail
          refine (Hi.out _ h1).mono ?_
          rintro en w2 ⟨rfl, h2, hO2⟩
          rw [HT.out]
          go_wp2_with fail
          refine (Hj.out _ h2).mono ?_
          rintro en w3 ⟨rfl, h3, hO3⟩
          rw [H58.out]
          go_wp2_with fail
          refine (Hk.out _ h3).mono ?_
          rintro en w4 ⟨rfl, h4, hO4⟩
          rw [H61.out]
          obtain ⟨hR, c0, c1, z1⟩ := Last.out _ h4
          have HR := Lib.hid hR
          have HO := Lib.hid (((hO1.trans hO2).trans hO3).trans hO4)
          clear hR h1 h2 h3 h4 hO1 hO2 hO3 hO4
          go_upto_region 9 with fail
          go_quiet (fail)
          have hq := HR.out.drewN nq
          have HO3 := Lib.hid (HO.out.trans (offQ p w4 nq))
          generalize w4.drewN nq = Wb at *
          have HRb := Lib.hid hq
          have b1 := hq.rdr.c1
          have bz := hq.rdr.z 1
          clear hq c0 c1 z1 HO HR
          go_wp2_with fail
          go_ret
          have hst := HRb.out.step 1 (by simp)
          exact ⟨c.toNat, k + 1, _, hc, by rw [← hix hkS]; rfl, hst, HO3.out.set _ _, Out.good Hs.out rfl⟩

end Go.Proofs.YteekafkpeimhoaaDoor

/- vouchref10's Reader: digits, interval: walked. -/
set_option linter.unusedVariables false
set_option linter.unusedSimpArgs false
namespace Go.Proofs.YteekafkpeimhoaaDoor
open Go.RowKit

/-- What digits hands back. -/
def QDig (p : Nat) (S : Bs) (op : Int) (s : Rs) (w : World) (en : Ending) (w' : World) : Prop :=
  ∃ (n : Int) (k' : Nat) (s' : Rs), en = .returned (.int .i64 n) ∧ RQ w' p S k' op s' ∧ Off p w w' ∧
    match s with
    | .error e => n = -1 ∧ s' = .error e
    | .ok r => (∃ m r', numberP r = .ok (m, r') ∧ n = m ∧ 0 ≤ m ∧ m ≤ 255 ∧ s' = .ok r') ∨ (numberP r = .error 105 ∧ n = -1 ∧ ∃ r', s' = .ok r' ∧ r'.length ≤ r.length)
set_option maxRecDepth 100000 in
set_option maxHeartbeats 4000000 in
theorem qdigits_err (w : World) (p : Nat) (S : Bs) (k : Nat) (op : Int) (e : Int) (h : RQ w p S k op (.error e)) :
    Calls Tryd.prog 78 #[.pointer (some ⟨p, 0, none⟩)] w fun en w' => QDig p S op (.error e) w en w' := by
  have c0 := h.rdr.c0
  have c1 := h.rdr.c1
  have hkb : k ≤ 1024 := Nat.le_trans h.rdr.le h.rdr.top
  have H := Lib.hid h
  clear h
  go_enter Tryd.func78, Tryd.ntmps78
  go_wp2_with fail
  go_loopg [3] 1 (fun n a wr => a = .int .i64 0 ∧ wr = w)
  case atStart => exact ⟨rfl, rfl⟩
  case round =>
    obtain ⟨rfl, rfl⟩ := hrel
    have Hdone := Lib.hid (done_n true rfl H.out)
    go_upto_region 3 with fail
    go_quiet (first | (go_at_call 20; refine Calls.quiet_of (Hdone.out _)))
    have hq := H.out.drewN nq
    have HOq := Lib.hid (offQ p wr nq)
    generalize wr.drewN nq = W1 at *
    have HQ := Lib.hid hq
    have d1 := hq.rdr.c1
    clear hq c0 c1 H Hdone
    go_wp2_with fail
    all_goals
      go_ret
      exact ⟨-1, k, _, rfl, HQ.out, HOq.out, rfl, rfl⟩
set_option maxRecDepth 100000 in
set_option maxHeartbeats 8000000 in
theorem qdigits_ok (w : World) (p : Nat) (S : Bs) (k0 : Nat) (op : Int) (r : Bs) (h : RQ w p S k0 op (.ok r)) :
    Calls Tryd.prog 78 #[.pointer (some ⟨p, 0, none⟩)] w fun en w' => QDig p S op (.ok r) w en w' := by
  have c1 := h.rdr.c1
  have sS := bsq_size S
  have hkb : k0 ≤ 1024 := Nat.le_trans h.rdr.le h.rdr.top
  have H := Lib.hid h
  clear h
  go_enter Tryd.func78, Tryd.ntmps78
  go_wp2_with fail
  go_loopg [3] 4 (fun k a wr => ∃ (n : Int) (wd kk : Nat) (r' : Bs), a = .int .i64 n ∧ k + wd = 4 ∧ kk = k0 + wd ∧ 0 ≤ n ∧ n ≤ lim10 wd ∧ digitsP k n wd r' = digitsP 4 0 0 r ∧ r'.length ≤ r.length ∧ RQ wr p S kk op (.ok r') ∧ Off p w wr)
  case atStart => exact ⟨0, 0, k0, r, rfl, rfl, rfl, by omega, by simp [lim10], rfl, Nat.le_refl _, H.out, Off.refl p w⟩
  case round =>
    obtain ⟨n, wd, kk, r', rfl, hk, hkk, hn0, hn1, hd, hlen, hR, hO⟩ := hrel
    have hn2 : n ≤ 9999 := by
      unfold lim10 at hn1
      split at hn1; omega; split at hn1; omega; split at hn1; omega; split at hn1; omega; omega
    have c0 := hR.rdr.c0
    have c1 := hR.rdr.c1
    have hkb2 : kk ≤ 1024 := Nat.le_trans hR.rdr.le hR.rdr.top
    have HR := Lib.hid hR; have Hd := Lib.hid hd; have Hn1 := Lib.hid hn1; have HO := Lib.hid hO; have Hlen := Lib.hid hlen; have Hkk := Lib.hid hkk
    clear hR hd hn1 hO hlen hkk H
    have done : gk = 0 ∨ r' = [] ∨ (∃ c t, r' = c :: t ∧ isDigit c = false) → digitsP 4 0 0 r = (n, wd, r') := fun hh => by
      rw [← Hd.out]
      rcases hh with rfl | rfl | ⟨c, t, rfl, hc⟩
      · rw [digitsP]
      · cases gk <;> rw [digitsP]
      · cases gk with
        | zero => rw [digitsP]
        | succ k => rw [digitsP, hc]; rfl
    have Done := Lib.hid done; clear done
    rcases r' with _ | ⟨c, t⟩
    · have Hdone := Lib.hid (done_n true rfl HR.out)
      go_upto_region 3 with fail
      go_quiet (first | (go_at_call 20; refine Calls.quiet_of (Hdone.out _)))
      have hq := HR.out.drewN nq
      have HOq := Lib.hid (HO.out.trans (offQ p wr nq))
      generalize wr.drewN nq = W1 at *
      have HQ := Lib.hid hq
      have d1 := hq.rdr.c1
      clear hq c0 c1 HR HO Hdone
      have Done := Lib.hid (Done.out (.inr (.inl rfl)))
      by_cases bad : wd = 0 ∨ 3 < wd ∨ 255 < n
      · have Hn := Lib.hid (show numberP r = .error 105 by unfold numberP; rw [Done.out]; exact if_pos bad)
        clear Done Hd
        by_cases b1 : wd = 0
        · have hb1 : ((kk : Int) == (k0 : Int)) = true := by have := Hkk.out; rw [beq_iff_eq]; omega
          clear bad b1
          go_wp2_with fail
          all_goals
            go_ret
            exact ⟨-1, kk, _, rfl, HQ.out, HOq.out, .inr ⟨Hn.out, rfl, _, rfl, Hlen.out⟩⟩
        have hb1 : ((kk : Int) == (k0 : Int)) = false := by have := Hkk.out; rw [beq_eq_false_iff_ne]; omega
        by_cases b2 : 3 < wd
        · have hb2 : (k0 : Int) + 3 < (kk : Int) := by have := Hkk.out; omega
          clear bad b1 b2
          go_wp2_with fail
          all_goals
            go_ret
            exact ⟨-1, kk, _, rfl, HQ.out, HOq.out, .inr ⟨Hn.out, rfl, _, rfl, Hlen.out⟩⟩
        have hb2 : decide ((k0 : Int) + 3 < (kk : Int)) = false := by have := Hkk.out; rw [decide_eq_false_iff_not]; omega
        have b3 : 255 < n := by omega
        clear bad b1 b2
        go_wp2_with fail
        all_goals
          go_ret
          exact ⟨-1, kk, _, rfl, HQ.out, HOq.out, .inr ⟨Hn.out, rfl, _, rfl, Hlen.out⟩⟩
      · have Hn := Lib.hid (show numberP r = .ok (n, []) by unfold numberP; rw [Done.out]; exact if_neg bad)
        have hb1 : ((kk : Int) == (k0 : Int)) = false := by have := Hkk.out; rw [beq_eq_false_iff_ne]; omega
        have hb2 : decide ((k0 : Int) + 3 < (kk : Int)) = false := by have := Hkk.out; rw [decide_eq_false_iff_not]; omega
        have hb3 : decide ((255 : Int) < n) = false := by rw [decide_eq_false_iff_not]; omega
        have Hb := Lib.hid (show 0 ≤ n ∧ n ≤ 255 by omega)
        clear bad Done Hd
        go_wp2_with fail
        all_goals
          go_ret
          exact ⟨n, kk, _, rfl, HQ.out, HOq.out, .inl ⟨n, _, Hn.out, rfl, Hb.out.1, Hb.out.2, rfl⟩⟩
    · have hc2 : c.toNat < 256 := c.toNat_lt
      have hat := HR.out.at_
      have hkI : (kk : Int) < (S.length : Int) := by have := hat.1; omega
      have hidx : ∀ (hh : kk < (bs S).size), ((bs S)[kk]'hh) = c := fun hh => hat.2 (by rw [sS] at hh; exact hh)
      clear hat
      have Hdone := Lib.hid (done_n false rfl HR.out)
      by_cases e1 : 48 ≤ c.toNat
      case neg =>
        have t1 : decide ((48 : Int) ≤ (c.toNat : Int)) = false := by rw [decide_eq_false_iff_not]; omega
        go_upto_region 3 with fail
        go_quiet (first | (go_at_call 20; refine Calls.quiet_of (Hdone.out _)))
        have hq := HR.out.drewN nq
        have HOq := Lib.hid (HO.out.trans (offQ p wr nq))
        generalize wr.drewN nq = W1 at *
        have HQ := Lib.hid hq
        have d1 := hq.rdr.c1
        clear hq c0 c1 HR HO Hdone
        have Done := Lib.hid (Done.out (.inr (.inr ⟨c, t, rfl, by simp [isDigit]; omega⟩)))
        by_cases bad : wd = 0 ∨ 3 < wd ∨ 255 < n
        · have Hn := Lib.hid (show numberP r = .error 105 by unfold numberP; rw [Done.out]; exact if_pos bad)
          clear Done Hd
          by_cases b1 : wd = 0
          · have hb1 : ((kk : Int) == (k0 : Int)) = true := by have := Hkk.out; rw [beq_iff_eq]; omega
            clear bad b1
            go_wp2_with fail
            all_goals
              go_ret
              exact ⟨-1, kk, _, rfl, HQ.out, HOq.out, .inr ⟨Hn.out, rfl, _, rfl, Hlen.out⟩⟩
          have hb1 : ((kk : Int) == (k0 : Int)) = false := by have := Hkk.out; rw [beq_eq_false_iff_ne]; omega
          by_cases b2 : 3 < wd
          · have hb2 : (k0 : Int) + 3 < (kk : Int) := by have := Hkk.out; omega
            clear bad b1 b2
            go_wp2_with fail
            all_goals
              go_ret
              exact ⟨-1, kk, _, rfl, HQ.out, HOq.out, .inr ⟨Hn.out, rfl, _, rfl, Hlen.out⟩⟩
          have hb2 : decide ((k0 : Int) + 3 < (kk : Int)) = false := by have := Hkk.out; rw [decide_eq_false_iff_not]; omega
          have b3 : 255 < n := by omega
          clear bad b1 b2
          go_wp2_with fail
          all_goals
            go_ret
            exact ⟨-1, kk, _, rfl, HQ.out, HOq.out, .inr ⟨Hn.out, rfl, _, rfl, Hlen.out⟩⟩
        · have Hn := Lib.hid (show numberP r = .ok (n, c :: t) by unfold numberP; rw [Done.out]; exact if_neg bad)
          have hb1 : ((kk : Int) == (k0 : Int)) = false := by have := Hkk.out; rw [beq_eq_false_iff_ne]; omega
          have hb2 : decide ((k0 : Int) + 3 < (kk : Int)) = false := by have := Hkk.out; rw [decide_eq_false_iff_not]; omega
          have hb3 : decide ((255 : Int) < n) = false := by rw [decide_eq_false_iff_not]; omega
          have Hb := Lib.hid (show 0 ≤ n ∧ n ≤ 255 by omega)
          clear bad Done Hd
          go_wp2_with fail
          all_goals
            go_ret
            exact ⟨n, kk, _, rfl, HQ.out, HOq.out, .inl ⟨n, _, Hn.out, rfl, Hb.out.1, Hb.out.2, rfl⟩⟩
      have t1 : (48 : Int) ≤ (c.toNat : Int) := by omega
      by_cases e2 : c.toNat ≤ 57
      case neg =>
        have t2 : decide ((c.toNat : Int) ≤ 57) = false := by rw [decide_eq_false_iff_not]; omega
        go_upto_region 3 with fail
        go_quiet (first | (go_at_call 20; refine Calls.quiet_of (Hdone.out _)))
        have hq := HR.out.drewN nq
        have HOq := Lib.hid (HO.out.trans (offQ p wr nq))
        generalize wr.drewN nq = W1 at *
        have HQ := Lib.hid hq
        have d1 := hq.rdr.c1
        clear hq c0 c1 HR HO Hdone
        have Done := Lib.hid (Done.out (.inr (.inr ⟨c, t, rfl, by simp [isDigit]; omega⟩)))
        by_cases bad : wd = 0 ∨ 3 < wd ∨ 255 < n
        · have Hn := Lib.hid (show numberP r = .error 105 by unfold numberP; rw [Done.out]; exact if_pos bad)
          clear Done Hd
          by_cases b1 : wd = 0
          · have hb1 : ((kk : Int) == (k0 : Int)) = true := by have := Hkk.out; rw [beq_iff_eq]; omega
            clear bad b1
            go_wp2_with fail
            all_goals
              go_ret
              exact ⟨-1, kk, _, rfl, HQ.out, HOq.out, .inr ⟨Hn.out, rfl, _, rfl, Hlen.out⟩⟩
          have hb1 : ((kk : Int) == (k0 : Int)) = false := by have := Hkk.out; rw [beq_eq_false_iff_ne]; omega
          by_cases b2 : 3 < wd
          · have hb2 : (k0 : Int) + 3 < (kk : Int) := by have := Hkk.out; omega
            clear bad b1 b2
            go_wp2_with fail
            all_goals
              go_ret
              exact ⟨-1, kk, _, rfl, HQ.out, HOq.out, .inr ⟨Hn.out, rfl, _, rfl, Hlen.out⟩⟩
          have hb2 : decide ((k0 : Int) + 3 < (kk : Int)) = false := by have := Hkk.out; rw [decide_eq_false_iff_not]; omega
          have b3 : 255 < n := by omega
          clear bad b1 b2
          go_wp2_with fail
          all_goals
            go_ret
            exact ⟨-1, kk, _, rfl, HQ.out, HOq.out, .inr ⟨Hn.out, rfl, _, rfl, Hlen.out⟩⟩
        · have Hn := Lib.hid (show numberP r = .ok (n, c :: t) by unfold numberP; rw [Done.out]; exact if_neg bad)
          have hb1 : ((kk : Int) == (k0 : Int)) = false := by have := Hkk.out; rw [beq_eq_false_iff_ne]; omega
          have hb2 : decide ((k0 : Int) + 3 < (kk : Int)) = false := by have := Hkk.out; rw [decide_eq_false_iff_not]; omega
          have hb3 : decide ((255 : Int) < n) = false := by rw [decide_eq_false_iff_not]; omega
          have Hb := Lib.hid (show 0 ≤ n ∧ n ≤ 255 by omega)
          clear bad Done Hd
          go_wp2_with fail
          all_goals
            go_ret
            exact ⟨n, kk, _, rfl, HQ.out, HOq.out, .inl ⟨n, _, Hn.out, rfl, Hb.out.1, Hb.out.2, rfl⟩⟩
      have t2 : (c.toNat : Int) ≤ 57 := by omega
      by_cases e3 : wd < 4
      case neg =>
        have t3 : decide ((kk : Int) < (k0 : Int) + 4) = false := by have := Hkk.out; rw [decide_eq_false_iff_not]; omega
        go_upto_region 3 with fail
        go_quiet (first | (go_at_call 20; refine Calls.quiet_of (Hdone.out _)))
        have hq := HR.out.drewN nq
        have HOq := Lib.hid (HO.out.trans (offQ p wr nq))
        generalize wr.drewN nq = W1 at *
        have HQ := Lib.hid hq
        have d1 := hq.rdr.c1
        clear hq c0 c1 HR HO Hdone
        have Done := Lib.hid (Done.out (.inl (by omega)))
        by_cases bad : wd = 0 ∨ 3 < wd ∨ 255 < n
        · have Hn := Lib.hid (show numberP r = .error 105 by unfold numberP; rw [Done.out]; exact if_pos bad)
          clear Done Hd
          by_cases b1 : wd = 0
          · have hb1 : ((kk : Int) == (k0 : Int)) = true := by have := Hkk.out; rw [beq_iff_eq]; omega
            clear bad b1
            go_wp2_with fail
            all_goals
              go_ret
              exact ⟨-1, kk, _, rfl, HQ.out, HOq.out, .inr ⟨Hn.out, rfl, _, rfl, Hlen.out⟩⟩
          have hb1 : ((kk : Int) == (k0 : Int)) = false := by have := Hkk.out; rw [beq_eq_false_iff_ne]; omega
          by_cases b2 : 3 < wd
          · have hb2 : (k0 : Int) + 3 < (kk : Int) := by have := Hkk.out; omega
            clear bad b1 b2
            go_wp2_with fail
            all_goals
              go_ret
              exact ⟨-1, kk, _, rfl, HQ.out, HOq.out, .inr ⟨Hn.out, rfl, _, rfl, Hlen.out⟩⟩
          have hb2 : decide ((k0 : Int) + 3 < (kk : Int)) = false := by have := Hkk.out; rw [decide_eq_false_iff_not]; omega
          have b3 : 255 < n := by omega
          clear bad b1 b2
          go_wp2_with fail
          all_goals
            go_ret
            exact ⟨-1, kk, _, rfl, HQ.out, HOq.out, .inr ⟨Hn.out, rfl, _, rfl, Hlen.out⟩⟩
        · have Hn := Lib.hid (show numberP r = .ok (n, c :: t) by unfold numberP; rw [Done.out]; exact if_neg bad)
          have hb1 : ((kk : Int) == (k0 : Int)) = false := by have := Hkk.out; rw [beq_eq_false_iff_ne]; omega
          have hb2 : decide ((k0 : Int) + 3 < (kk : Int)) = false := by have := Hkk.out; rw [decide_eq_false_iff_not]; omega
          have hb3 : decide ((255 : Int) < n) = false := by rw [decide_eq_false_iff_not]; omega
          have Hb := Lib.hid (show 0 ≤ n ∧ n ≤ 255 by omega)
          clear bad Done Hd
          go_wp2_with fail
          all_goals
            go_ret
            exact ⟨n, kk, _, rfl, HQ.out, HOq.out, .inl ⟨n, _, Hn.out, rfl, Hb.out.1, Hb.out.2, rfl⟩⟩
      have t3 : (kk : Int) < (k0 : Int) + 4 := by have := Hkk.out; omega
      obtain ⟨g, rfl⟩ : ∃ g, gk = g + 1 := ⟨gk - 1, by omega⟩
      have hdg : isDigit c = true := by simp [isDigit]; omega
      have hstep : digitsP g (10 * n + (c.toNat - 48)) (wd + 1) t = digitsP 4 0 0 r := by
        rw [← Hd.out]
        conv => rhs; rw [digitsP, hdg]
        rfl
      have hl10 : 10 * n + ((c.toNat : Int) - 48) ≤ lim10 (wd + 1) := by
        have h1 := Hn1.out
        unfold lim10 at h1 ⊢
        rcases (show wd = 0 ∨ wd = 1 ∨ wd = 2 ∨ wd = 3 by omega) with rfl | rfl | rfl | rfl <;> simp at h1 ⊢ <;> omega
      have Hstep := Lib.hid hstep; have Hl10 := Lib.hid hl10
      clear hstep hl10 hdg Done Hd Hn1
      go_upto_region 3 with fail
      go_quiet (first | (go_at_call 20; refine Calls.quiet_of (Hdone.out _)))
      have hq := HR.out.drewN nq
      have HOq := Lib.hid (HO.out.trans (offQ p wr nq))
      generalize wr.drewN nq = W1 at *
      have HQ := Lib.hid hq
      have d0 := hq.rdr.c0
      have d1 := hq.rdr.c1
      clear hq c0 c1 HR HO Hdone
      go_wp2_with fail
      go_quiet (fail)
      have hq := HQ.out.drewN nq
      have HO2 := Lib.hid (HOq.out.trans (offQ p W1 nq))
      generalize W1.drewN nq = W2 at *
      have HQ2 := Lib.hid hq
      have b1 := hq.rdr.c1
      have bz := hq.rdr.z 1
      clear hq d0 d1 HQ HOq
      go_wp2_with fail
      have hst := HQ2.out.step 1 (by simp)
      go_roundg g
      case measure => omega
      case rel => exact ⟨10 * n + ((c.toNat : Int) - 48), wd + 1, kk + 1, t, by first | rfl | go_num, by omega, by have := Hkk.out; omega, by omega, Hl10.out, Hstep.out, by have := Hlen.out; simp at this; omega, hst, HO2.out.set _ _⟩
end Go.Proofs.YteekafkpeimhoaaDoor

/- vouchref10's Reader: interval: walked. -/
set_option linter.unusedVariables false
set_option linter.unusedSimpArgs false
namespace Go.Proofs.YteekafkpeimhoaaDoor
open Go.RowKit

theorem qtake_hit {w : World} {p : Nat} {S : Bs} {k : Nat} {op : Int} {r r' : Bs} (q : Bs) (hq : q.length ≤ 100) (ht : takeP q r = some r') (h : RQ w p S k op (.ok r)) :
    Calls Tryd.prog 33 #[.pointer (some ⟨p, 0, none⟩), .string (bs q)] w fun en w' => en = .returned (.bool true) ∧ (∃ k', RQ w' p S k' op (.ok r')) ∧ Off p w w' := by
  have := qtake_any w p S k op (.ok r) q hq h
  rwa [takeS_some ht] at this
theorem qtake_miss {w : World} {p : Nat} {S : Bs} {k : Nat} {op : Int} {r : Bs} (q : Bs) (hq : q.length ≤ 100) (ht : takeP q r = none) (h : RQ w p S k op (.ok r)) :
    Calls Tryd.prog 33 #[.pointer (some ⟨p, 0, none⟩), .string (bs q)] w fun en w' => en = .returned (.bool false) ∧ (∃ k', RQ w' p S k' op (.ok r)) ∧ Off p w w' := by
  have := qtake_any w p S k op (.ok r) q hq h
  rwa [takeS_none ht] at this
theorem qtake_err {w : World} {p : Nat} {S : Bs} {k : Nat} {op : Int} {e : Int} (q : Bs) (hq : q.length ≤ 100) (h : RQ w p S k op (.error e)) :
    Calls Tryd.prog 33 #[.pointer (some ⟨p, 0, none⟩), .string (bs q)] w fun en w' => en = .returned (.bool false) ∧ (∃ k', RQ w' p S k' op (.error e)) ∧ Off p w w' := qtake_any w p S k op (.error e) q hq h
theorem qfail_ok {w : World} {p : Nat} {S : Bs} {k : Nat} {op : Int} {r : Bs} (x : Int) (hx : x ≠ 0) (h : RQ w p S k op (.ok r)) :
    Calls Tryd.prog 21 #[.pointer (some ⟨p, 0, none⟩), .int .i64 x] w fun en w' => en = .returned (.tuple #[]) ∧ RQ w' p S k op (.error x) ∧ Off p w w' := qfail_any w p S k op (.ok r) x hx h
theorem qfail_err {w : World} {p : Nat} {S : Bs} {k : Nat} {op : Int} {e : Int} (x : Int) (hx : x ≠ 0) (h : RQ w p S k op (.error e)) :
    Calls Tryd.prog 21 #[.pointer (some ⟨p, 0, none⟩), .int .i64 x] w fun en w' => en = .returned (.tuple #[]) ∧ RQ w' p S k op (.error e) ∧ Off p w w' := qfail_any w p S k op (.error e) x hx h
theorem take_two {a b : UInt8} {r r1 : Bs} (h : takeP [a] r = some r1) : takeP [a, b] r = takeP [b] r1 := by
  unfold takeP at h
  split at h
  · rename_i hp
    simp only [Option.some.injEq] at h
    obtain ⟨t, ht⟩ := List.isPrefixOf_iff_prefix.1 hp
    subst ht
    subst h
    simp only [List.cons_append, List.nil_append, List.length_cons, List.length_nil, List.drop_succ_cons, List.drop_zero]
    rw [takeP_cons, if_pos rfl]
  · cases h
theorem take_two_none {a b : UInt8} {r : Bs} (h : takeP [a] r = none) : takeP [a, b] r = none := by
  cases r with
  | nil => exact takeP_nil _ (by simp)
  | cons c t =>
    rw [takeP_one] at h
    rw [takeP_cons]
    split at h
    · cases h
    · rename_i hc; rw [if_neg hc]
/-- What interval hands back. -/
def QInt (p : Nat) (S : Bs) (op : Int) (r : Bs) (w : World) (en : Ending) (w' : World) : Prop :=
  ∃ (m n : Int) (k' : Nat) (s' : Rs), en = .returned (.tuple #[.int .i64 m, .int .i64 n]) ∧ RQ w' p S k' op s' ∧ Off p w w' ∧ ((intervalP r = .error 105 ∧ s' = .error 105) ∨ ∃ r', intervalP r = .ok (m, n, r') ∧ s' = .ok r')
set_option maxRecDepth 100000 in
set_option maxHeartbeats 4000000 in
theorem qinterval_any (w : World) (p : Nat) (S : Bs) (k : Nat) (op : Int) (r : Bs) (h : RQ w p S k op (.ok r)) :
    Calls Tryd.prog 60 #[.pointer (some ⟨p, 0, none⟩)] w fun en w' => QInt p S op r w en w' := by
  have Hd := Lib.hid (qdigits_ok w p S k op r h)
  have De := Lib.hid (fun w k (h : RQ w p S k op (.error 105)) => qdigits_err w p S k op 105 h)
  clear h
  go_enter Tryd.func60, Tryd.ntmps60
  go_wp2_with fail
  refine Hd.out.mono ?_
  rintro en w1 ⟨m, k1, s1, rfl, h1, hO1, ⟨m', r1, hn, rfl, hm0, hm1, rfl⟩ | ⟨hn, rfl, r1, rfl, _⟩⟩
  · have Hn := Lib.hid hn
    have hmI : decide (m < 0) = false := by rw [decide_eq_false_iff_not]; omega
    clear hn Hd
    cases t1 : takeP [125] r1 with
    | some r2 =>
      have Hs := Lib.hid (show intervalP r = .ok (m, m, r2) by unfold intervalP; simp only [Hn.out, t1])
      have T1 := Lib.hid t1
      clear t1
      go_wp2_with fail
      refine (qtake_hit [125] (by simp) T1.out h1).mono ?_
      rintro en w2 ⟨rfl, ⟨k2, h2⟩, hO2⟩
      go_wp2_with fail
      go_ret2
      exact ⟨m, m, k2, _, rfl, h2, hO1.trans hO2, .inr ⟨_, Hs.out, rfl⟩⟩
    | none =>
      have T1 := Lib.hid t1
      cases t2 : takeP [44] r1 with
      | none =>
        have Hs := Lib.hid (show intervalP r = .error 105 by unfold intervalP; simp only [Hn.out, t1, take_two_none t2, t2])
        have T2 := Lib.hid t2
        clear t1 t2
        go_wp2_with fail
        refine (qtake_miss [125] (by simp) T1.out h1).mono ?_
        rintro en w2 ⟨rfl, ⟨k2, h2⟩, hO2⟩
        go_wp2_with fail
        refine (qtake_miss [44] (by simp) T2.out h2).mono ?_
        rintro en w3 ⟨rfl, ⟨k3, h3⟩, hO3⟩
        go_wp2_with fail
        refine (qfail_ok 105 (by omega) h3).mono ?_
        rintro en w4 ⟨rfl, h4, hO4⟩
        go_wp2_with fail
        refine (qtake_err [125] (by simp) h4).mono ?_
        rintro en w5 ⟨rfl, ⟨k5, h5⟩, hO5⟩
        go_wp2_with fail
        refine (De.out _ _ h5).mono ?_
        rintro en w6 ⟨m6, k6, s6, rfl, h6, hO6, rfl, rfl⟩
        have hlt : (-1 : Int) < m := by omega
        go_wp2_with fail
        refine (qfail_err 105 (by omega) h6).mono ?_
        rintro en w7 ⟨rfl, h7, hO7⟩
        go_wp2_with fail
        go_ret2
        exact ⟨m, -1, k6, _, rfl, h7, (((((hO1.trans hO2).trans hO3).trans hO4).trans hO5).trans hO6).trans hO7, .inl ⟨Hs.out, rfl⟩⟩
      | some r2 =>
        have T2 := Lib.hid t2
        cases t3 : takeP [125] r2 with
        | some r3 =>
          have Hs := Lib.hid (show intervalP r = .ok (m, -1, r3) by unfold intervalP; simp only [Hn.out, t1, take_two t2, t3])
          have T3 := Lib.hid t3
          clear t1 t2 t3
          go_wp2_with fail
          refine (qtake_miss [125] (by simp) T1.out h1).mono ?_
          rintro en w2 ⟨rfl, ⟨k2, h2⟩, hO2⟩
          go_wp2_with fail
          refine (qtake_hit [44] (by simp) T2.out h2).mono ?_
          rintro en w3 ⟨rfl, ⟨k3, h3⟩, hO3⟩
          go_wp2_with fail
          refine (qtake_hit [125] (by simp) T3.out h3).mono ?_
          rintro en w4 ⟨rfl, ⟨k4, h4⟩, hO4⟩
          go_wp2_with fail
          go_ret2
          exact ⟨m, -1, k4, _, rfl, h4, ((hO1.trans hO2).trans hO3).trans hO4, .inr ⟨_, Hs.out, rfl⟩⟩
        | none =>
          have T3 := Lib.hid t3
          have Hpre := Lib.hid (show intervalP r = (match numberP r2 with | .error e => .error e | .ok (n, r3) => if n < m then .error 105 else match takeP [125] r3 with | some r4 => .ok (m, n, r4) | none => .error 105) by unfold intervalP; simp only [Hn.out, t1, take_two t2, t3, t2]; rfl)
          clear t1 t2 t3
          go_wp2_with fail
          refine (qtake_miss [125] (by simp) T1.out h1).mono ?_
          rintro en w2 ⟨rfl, ⟨k2, h2⟩, hO2⟩
          go_wp2_with fail
          refine (qtake_hit [44] (by simp) T2.out h2).mono ?_
          rintro en w3 ⟨rfl, ⟨k3, h3⟩, hO3⟩
          go_wp2_with fail
          refine (qtake_miss [125] (by simp) T3.out h3).mono ?_
          rintro en w4 ⟨rfl, ⟨k4, h4⟩, hO4⟩
          have HO4 := Lib.hid (((hO1.trans hO2).trans hO3).trans hO4)
          clear hO1 hO2 hO3 hO4 h1 h2 h3 T1 T2 T3
          go_wp2_with fail
          refine (qdigits_ok w4 p S k4 op r2 h4).mono ?_
          rintro en w5 ⟨n, k5, s5, rfl, h5, hO5, ⟨n', r3, hn2, rfl, hn0, hn1, rfl⟩ | ⟨hn2, rfl, r3, rfl, _⟩⟩
          · by_cases hnm : n < m
            · have Hs := Lib.hid (show intervalP r = .error 105 by rw [Hpre.out, hn2]; simp only; rw [if_pos hnm])
              clear hn2 Hpre
              go_wp2_with fail
              refine (qfail_ok 105 (by omega) h5).mono ?_
              rintro en w6 ⟨rfl, h6, hO6⟩
              go_wp2_with fail
              go_ret2
              exact ⟨m, n, k5, _, rfl, h6, (HO4.out.trans hO5).trans hO6, .inl ⟨Hs.out, rfl⟩⟩
            · have hnmI : decide (n < m) = false := by rw [decide_eq_false_iff_not]; exact hnm
              cases t4 : takeP [125] r3 with
              | some r4 =>
                have Hs := Lib.hid (show intervalP r = .ok (m, n, r4) by rw [Hpre.out, hn2]; simp only; rw [if_neg hnm, t4])
                have T4 := Lib.hid t4
                clear hn2 Hpre hnm t4
                go_wp2_with fail
                refine (qtake_hit [125] (by simp) T4.out h5).mono ?_
                rintro en w6 ⟨rfl, ⟨k6, h6⟩, hO6⟩
                go_wp2_with fail
                go_ret2
                exact ⟨m, n, k6, _, rfl, h6, (HO4.out.trans hO5).trans hO6, .inr ⟨_, Hs.out, rfl⟩⟩
              | none =>
                have Hs := Lib.hid (show intervalP r = .error 105 by rw [Hpre.out, hn2]; simp only; rw [if_neg hnm, t4])
                have T4 := Lib.hid t4
                clear hn2 Hpre hnm t4
                go_wp2_with fail
                refine (qtake_miss [125] (by simp) T4.out h5).mono ?_
                rintro en w6 ⟨rfl, ⟨k6, h6⟩, hO6⟩
                go_wp2_with fail
                refine (qfail_ok 105 (by omega) h6).mono ?_
                rintro en w7 ⟨rfl, h7, hO7⟩
                go_wp2_with fail
                go_ret2
                exact ⟨m, n, k6, _, rfl, h7, ((HO4.out.trans hO5).trans hO6).trans hO7, .inl ⟨Hs.out, rfl⟩⟩
          · have Hs := Lib.hid (show intervalP r = .error 105 by rw [Hpre.out, hn2])
            have hlt : (-1 : Int) < m := by omega
            clear hn2 Hpre
            go_wp2_with fail
            refine (qfail_ok 105 (by omega) h5).mono ?_
            rintro en w6 ⟨rfl, h6, hO6⟩
            go_wp2_with fail
            go_ret2
            exact ⟨m, -1, k5, _, rfl, h6, (HO4.out.trans hO5).trans hO6, .inl ⟨Hs.out, rfl⟩⟩
  · have Hs := Lib.hid (show intervalP r = .error 105 by unfold intervalP; simp only [hn])
    clear hn Hd
    go_wp2_with fail
    refine (qfail_ok 105 (by omega) h1).mono ?_
    rintro en w2 ⟨rfl, h2, hO2⟩
    go_wp2_with fail
    refine (qtake_err [125] (by simp) h2).mono ?_
    rintro en w3 ⟨rfl, ⟨k3, h3⟩, hO3⟩
    go_wp2_with fail
    refine (qtake_err [44] (by simp) h3).mono ?_
    rintro en w4 ⟨rfl, ⟨k4, h4⟩, hO4⟩
    go_wp2_with fail
    refine (qfail_err 105 (by omega) h4).mono ?_
    rintro en w5 ⟨rfl, h5, hO5⟩
    go_wp2_with fail
    refine (qtake_err [125] (by simp) h5).mono ?_
    rintro en w6 ⟨rfl, ⟨k6, h6⟩, hO6⟩
    go_wp2_with fail
    refine (De.out _ _ h6).mono ?_
    rintro en w7 ⟨m7, k7, s7, rfl, h7, hO7, rfl, rfl⟩
    go_wp2_with fail
    refine (qtake_err [125] (by simp) h7).mono ?_
    rintro en w8 ⟨rfl, ⟨k8, h8⟩, hO8⟩
    go_wp2_with fail
    refine (qfail_err 105 (by omega) h8).mono ?_
    rintro en w9 ⟨rfl, h9, hO9⟩
    go_wp2_with fail
    go_ret2
    exact ⟨-1, -1, k8, _, rfl, h9, (((((((hO1.trans hO2).trans hO3).trans hO4).trans hO5).trans hO6).trans hO7).trans hO8).trans hO9, .inl ⟨Hs.out, rfl⟩⟩
end Go.Proofs.YteekafkpeimhoaaDoor

/- vouchref10: in, span, all: walked. -/
set_option linter.unusedVariables false
set_option linter.unusedSimpArgs false
namespace Go.Proofs.YteekafkpeimhoaaDoor
open Go.RowKit

theorem SetAt.box (w : World) (S : W4) : SetAt (w.alloc (.cells #[.int .u64 S.a, .int .u64 S.b, .int .u64 S.c, .int .u64 S.d] 24)) w.heap.size S := heap_alloc_new w _
theorem SetAt.later {w w' : World} {b : Nat} {s : W4} (h : SetAt w b s) (k : Below w.heap.size w w') : SetAt w' b s := h.keep (k.block b h.lt)
theorem SetAt.other {w : World} {b b' : Nat} {s : W4} (h : SetAt w b s) (hn : b ≠ b') (o : Nat) (v : Value) : SetAt (w.setCell ⟨b', o, none⟩ v) b s := h.keep (Below.heap_setCell _ _ _ _ hn)
set_option maxRecDepth 100000 in
set_option maxHeartbeats 2000000 in
theorem qin_any (w : World) (S : W4) (c : Nat) (hc : c < 256) :
    Calls Tryd.prog 84 #[S.V, .int .u8 (c : Int)] w fun en w' => en = .returned (S.add c).V ∧ Below w.heap.size w w' := by
  have hq : (c : Int).tdiv 64 = ((c / 64 : Nat) : Int) := by rw [Int.tdiv_eq_ediv_of_nonneg (by omega)]; omega
  have hr : (c : Int).tmod 64 = ((c % 64 : Nat) : Int) := by rw [Int.tmod_eq_emod_of_nonneg (by omega)]; omega
  have hw := wrap_pow (c % 64) (by omega)
  have hk4 : c % 64 < 64 := by omega
  have hadd : ∀ (W : World) (b : Nat), SetAt W b S → SetAt (W.setCell ⟨b, c / 64, none⟩ (.int .u64 (orI (S.word (c / 64)) (2 ^ (c % 64))))) b (S.add c) := fun W b h => by
    have := h.addW c hc
    unfold addW at this
    rwa [Nat.zero_add] at this
  rcases (show c / 64 = 0 ∨ c / 64 = 1 ∨ c / 64 = 2 ∨ c / 64 = 3 by omega) with e | e | e | e
  all_goals
    rw [e] at hq hadd
    have Hadd := Lib.hid hadd
    clear hadd e
    generalize S.add c = T at *
    generalize hk : c % 64 = k at *
    clear hk
    go_enter Tryd.func84, Tryd.ntmps84
    go_upto_region 1 with fail
    generalize hW : (w.alloc _).alloc _ = W0
    have hs0 : SetAt W0 w.heap.size S := by subst hW; exact (SetAt.box w S).later ((Below.refl _ _).alloc (Nat.le_refl _) _)
    have hr0 : SetAt W0 (w.heap.size + 1) w40 := by
      subst hW
      have := SetAt.new (w.alloc (.cells #[.int .u64 S.a, .int .u64 S.b, .int .u64 S.c, .int .u64 S.d] 24))
      simpa using this
    have hb0 : Below w.heap.size w W0 := by subst hW; exact ((Below.refl _ _).alloc (Nat.le_refl _) _).alloc (by simp) _
    clear hW
    obtain ⟨f0, f1, f2, f3⟩ := hs0.at4
    simp only [Nat.zero_add] at f1 f2 f3
    have z0 := hs0.froz 0; have z1 := hs0.froz 1; have z2 := hs0.froz 2; have z3 := hs0.froz 3
    have hz : w.heap.size < W0.heap.size := hs0.lt
    go_upto_region 2 with fail
    generalize hW1 : W0.setCell _ _ = W1
    have hs1 : SetAt W1 w.heap.size T := by subst hW1; exact Hadd.out W0 _ hs0
    have hr1 : SetAt W1 (w.heap.size + 1) w40 := by subst hW1; exact hr0.other (by omega) _ _
    have hb1 : Below w.heap.size w W1 := by subst hW1; exact hb0.setCell (p := ⟨w.heap.size, _, none⟩) (Nat.le_refl _) _
    clear hW1 hs0 hr0 hb0 f0 f1 f2 f3 z0 z1 z2 z3 hz
    obtain ⟨f0, f1, f2, f3⟩ := hs1.at4
    obtain ⟨g0, g1, g2, g3⟩ := hr1.at4
    simp only [Nat.zero_add] at f1 f2 f3 g1 g2 g3
    have y0 := hr1.froz 0; have y1 := hr1.froz 1; have y2 := hr1.froz 2; have y3 := hr1.froz 3
    have Hr1 := Lib.hid hr1; have Hb1 := Lib.hid hb1
    clear hs1 hr1 hb1
    go_wp2_with fail
    change bodyPost _ _ _ _ _ (setV W1 (w.heap.size + 1) T)
    obtain ⟨q0, q1, q2, q3⟩ := (Hr1.out.setV T).at4
    simp only [Nat.zero_add] at q1 q2 q3
    have hB := Hb1.out.setV (b := w.heap.size + 1) (by omega) T
    clear f0 f1 f2 f3 g0 g1 g2 g3 y0 y1 y2 y3
    generalize setV W1 (w.heap.size + 1) T = W at *
    exact bodyPost_ret (v := T.V) (by simp [results, Tryd.results84, go_sem, q0, q1, q2, q3]) rfl ⟨rfl, hB⟩
theorem SetAt.setOther {w : World} {b b' : Nat} {s : W4} (h : SetAt w b s) (hn : b ≠ b') (T : W4) : SetAt (Go.Proofs.YteekafkpeimhoaaDoor.setV w b' T) b s := h.keep (setV_other _ _ _ _ hn)
set_option maxRecDepth 100000 in
set_option maxHeartbeats 4000000 in
theorem qspan_any (w : World) (S : W4) (f t : Nat) (hf : f ≤ 256) (ht : t ≤ 255) :
    Calls Tryd.prog 82 #[S.V, .int .i64 (f : Int), .int .i64 (t : Int)] w fun en w' => en = .returned (S.span f (t + 1 - f)).V ∧ Below w.heap.size w w' := by
  go_enter Tryd.func82, Tryd.ntmps82
  go_upto_region 1 with fail
  generalize hW : (w.alloc _).alloc _ = W0
  have hs0 : SetAt W0 w.heap.size S := by subst hW; exact (SetAt.box w S).later ((Below.refl _ _).alloc (Nat.le_refl _) _)
  have hr0 : SetAt W0 (w.heap.size + 1) w40 := by
    subst hW
    have := SetAt.new (w.alloc (.cells #[.int .u64 S.a, .int .u64 S.b, .int .u64 S.c, .int .u64 S.d] 24))
    simpa using this
  have hb0 : Below w.heap.size w W0 := by subst hW; exact ((Below.refl _ _).alloc (Nat.le_refl _) _).alloc (by simp) _
  clear hW
  go_wp2_with fail
  go_loopg [7] (t + 1 - f) (fun n i wr => ∃ (j : Nat) (T : W4), i = .int .i64 j ∧ n = t + 1 - j ∧ f ≤ j ∧ (List.range' j (t + 1 - j)).foldl W4.add T = S.span f (t + 1 - f) ∧ SetAt wr w.heap.size T ∧ SetAt wr (w.heap.size + 1) w40 ∧ Below w.heap.size w wr)
  case atStart => exact ⟨f, S, rfl, rfl, Nat.le_refl _, rfl, hs0, hr0, hb0⟩
  case round =>
    obtain ⟨j, T, rfl, hn, hfj, hm, hS, hR, hB⟩ := hrel
    clear hs0 hr0 hb0
    obtain ⟨f0, f1, f2, f3⟩ := hS.at4
    simp only [Nat.zero_add] at f1 f2 f3
    have Hm := Lib.hid hm; have HS := Lib.hid hS; have HR := Lib.hid hR; have HB := Lib.hid hB; have Hn := Lib.hid hn
    clear hm hS hR hB hn
    by_cases hlt : j ≤ t
    · have hmod : IntKind.u8.wrap (j : Int) = (j : Int) := by simp [IntKind.wrap, IntKind.signed, IntKind.bits]; omega
      go_wp2_with fail
      refine (qin_any wr T j (by omega)).mono ?_
      rintro en w1 ⟨rfl, hb1⟩
      have hs1 := HS.out.later hb1
      have hr1 := HR.out.later hb1
      obtain ⟨g0, g1, g2, g3⟩ := hs1.at4
      simp only [Nat.zero_add] at g1 g2 g3
      have y0 := hs1.froz 0; have y1 := hs1.froz 1; have y2 := hs1.froz 2; have y3 := hs1.froz 3
      have Hs1 := Lib.hid hs1; have Hr1 := Lib.hid hr1; have HB1 := Lib.hid (HB.out.step hb1)
      have hstep : (List.range' (j + 1) (t + 1 - (j + 1))).foldl W4.add (T.add j) = S.span f (t + 1 - f) := by
        rw [← Hm.out, show t + 1 - j = (t + 1 - (j + 1)) + 1 by omega, List.range'_succ, List.foldl_cons]
      have Hstep := Lib.hid hstep
      clear hs1 hr1 hb1 hstep f0 f1 f2 f3 HS HR HB Hm
      go_wp2_with fail
      change Handed _ _ _ (setV w1 w.heap.size (T.add j))
      have hA := Hs1.out.setV (T.add j)
      have hR' := Hr1.out.setOther (b' := w.heap.size) (by omega) (T.add j)
      have hB' := HB1.out.setV (b := w.heap.size) (Nat.le_refl _) (T.add j)
      clear g0 g1 g2 g3 y0 y1 y2 y3
      generalize setV w1 w.heap.size (T.add j) = W1 at *
      go_roundg (t + 1 - (j + 1))
      case measure => have := Hn.out; omega
      case rel => exact ⟨j + 1, T.add j, by go_num, rfl, by omega, Hstep.out, hA, hR', hB'⟩
    · have hres : T = S.span f (t + 1 - f) := by rw [← Hm.out, show t + 1 - j = 0 by omega]; rfl
      have Hres := Lib.hid hres
      obtain ⟨g0, g1, g2, g3⟩ := HR.out.at4
      simp only [Nat.zero_add] at g1 g2 g3
      have y0 := HR.out.froz 0; have y1 := HR.out.froz 1; have y2 := HR.out.froz 2; have y3 := HR.out.froz 3
      clear hres Hm
      go_wp2_with fail
      change bodyPost _ _ _ _ _ (setV wr (w.heap.size + 1) T)
      obtain ⟨q0, q1, q2, q3⟩ := (HR.out.setV T).at4
      simp only [Nat.zero_add] at q1 q2 q3
      have hB := HB.out.setV (b := w.heap.size + 1) (by omega) T
      clear f0 f1 f2 f3 g0 g1 g2 g3 y0 y1 y2 y3
      generalize setV wr (w.heap.size + 1) T = W at *
      exact bodyPost_ret (v := T.V) (by simp [results, Tryd.results82, go_sem, q0, q1, q2, q3]) rfl ⟨by rw [Hres.out], hB⟩
set_option maxRecDepth 100000 in
set_option maxHeartbeats 2000000 in
theorem qall_any (w : World) :
    Calls Tryd.prog 75 #[] w fun en w' => en = .returned (w40.span 0 256).V ∧ Below w.heap.size w w' := by
  go_enter Tryd.func75, Tryd.ntmps75
  go_upto_region 1 with fail
  generalize hW : w.alloc _ = W0
  have hr0 : SetAt W0 w.heap.size w40 := by subst hW; exact SetAt.new w
  have hb0 : Below w.heap.size w W0 := by subst hW; exact (Below.refl _ _).alloc (Nat.le_refl _) _
  clear hW
  go_wp2_with fail
  refine (qspan_any W0 w40 0 255 (by omega) (by omega)).mono ?_
  rintro en w1 ⟨rfl, hb1⟩
  rw [show 255 + 1 - 0 = 256 from rfl]
  have hr1 := hr0.later hb1
  have hB1 := hb0.step hb1
  obtain ⟨g0, g1, g2, g3⟩ := hr1.at4
  simp only [Nat.zero_add] at g1 g2 g3
  have y0 := hr1.froz 0; have y1 := hr1.froz 1; have y2 := hr1.froz 2; have y3 := hr1.froz 3
  have Hr1 := Lib.hid hr1; have HB1 := Lib.hid hB1
  clear hr0 hb0 hb1 hr1 hB1
  generalize hT : w40.span 0 256 = T at *
  have HT := Lib.hid hT
  clear hT
  go_wp2_with fail
  change bodyPost _ _ _ _ _ (setV w1 w.heap.size T)
  obtain ⟨q0, q1, q2, q3⟩ := (Hr1.out.setV T).at4
  simp only [Nat.zero_add] at q1 q2 q3
  have hB := HB1.out.setV (b := w.heap.size) (Nat.le_refl _) T
  clear g0 g1 g2 g3 y0 y1 y2 y3
  generalize setV w1 w.heap.size T = W at *
  exact bodyPost_ret (v := T.V) (by simp [results, Tryd.results75, go_sem, q0, q1, q2, q3]) rfl ⟨by rw [HT.out], hB⟩
end Go.Proofs.YteekafkpeimhoaaDoor

/- vouchref10.class: walked. -/
set_option linter.unusedVariables false
set_option linter.unusedSimpArgs false
namespace Go.Proofs.YteekafkpeimhoaaDoor
open Go.RowKit

/-- A class's set; none: no class. -/
def clsQ (nm : Bs) : W4 × Bool := match classW nm with | some S => (S, true) | none => (w40, false)
/-- The four boxes of class, and what was there. -/
structure ClsB (w W : World) (nb ab db : Nat) : Prop where
  bl : Below w.heap.size w W
  rs : SetAt W w.heap.size w40
  nn : SetAt W nb w40
  al : SetAt W ab ((w40.span 65 26).span 97 26)
  di : SetAt W db (w40.span 48 10)
theorem ClsB.step {w W W' : World} {nb ab db : Nat} (h : ClsB w W nb ab db) (k : Below W.heap.size W W') : ClsB w W' nb ab db := ⟨h.bl.step k, h.rs.later k, h.nn.later k, h.al.later k, h.di.later k⟩
theorem cls_done {w W : World} (S : W4) (b : Bool) {nm : Bs} (hc : clsQ nm = (S, b)) (h : SetAt W w.heap.size w40) (hb : Below w.heap.size w W) : SetAt (setV W w.heap.size S) w.heap.size S ∧ Below w.heap.size w (setV W w.heap.size S) := ⟨h.setV S, hb.setV (Nat.le_refl _) S⟩
set_option maxRecDepth 100000 in
set_option maxHeartbeats 4000000 in
theorem class_alpha (w : World) : Calls Tryd.prog 103 #[.string (bs [97, 108, 112, 104, 97])] w fun en w' => en = .returned (.tuple #[(clsQ [97, 108, 112, 104, 97]).1.V, .bool (clsQ [97, 108, 112, 104, 97]).2]) ∧ Below w.heap.size w w' := by
  have Hc := Lib.hid (show clsQ [97, 108, 112, 104, 97] = (((w40.span 65 26).span 97 26), true) from rfl)
  go_enter Tryd.func103, Tryd.ntmps103
  go_upto_region 2 with fail
  generalize hW : (w.alloc _).alloc _ = W0
  have hr0 : SetAt W0 w.heap.size w40 := by subst hW; exact (SetAt.new w).later ((Below.refl _ _).alloc (Nat.le_refl _) _)
  have hn0 : SetAt W0 (w.heap.size + 1) w40 := by
    subst hW
    have := SetAt.new (w.alloc (.cells #[.int .u64 0, .int .u64 0, .int .u64 0, .int .u64 0] 24))
    simpa using this
  have hb0 : Below w.heap.size w W0 := by subst hW; exact ((Below.refl _ _).alloc (Nat.le_refl _) _).alloc (by simp) _
  clear hW
  obtain ⟨f0, f1, f2, f3⟩ := hn0.at4
  simp only [Nat.zero_add] at f1 f2 f3
  go_wp2_with fail
  refine (qspan_any W0 w40 65 90 (by omega) (by omega)).mono ?_
  rintro en w1 ⟨rfl, hb1⟩
  have hr1 := hr0.later hb1; have hn1 := hn0.later hb1; have hB1 := hb0.step hb1
  clear hr0 hn0 hb0 hb1 f0 f1 f2 f3
  go_wp2_with fail
  refine (qspan_any w1 (w40.span 65 26) 97 122 (by omega) (by omega)).mono ?_
  rintro en w2 ⟨rfl, hb2⟩
  have hr2 := hr1.later hb2; have hn2 := hn1.later hb2; have hB2 := hB1.step hb2
  clear hr1 hn1 hB1 hb2
  rw [show 122 + 1 - 97 = 26 from rfl]
  have hga : SetAt (w2.alloc (.cells #[.int .u64 ((w40.span 65 26).span 97 26).a, .int .u64 ((w40.span 65 26).span 97 26).b, .int .u64 ((w40.span 65 26).span 97 26).c, .int .u64 ((w40.span 65 26).span 97 26).d] 24)) w2.heap.size ((w40.span 65 26).span 97 26) := SetAt.box w2 _
  have Hga := Lib.hid hga
  clear hga
  generalize hA : ((w40.span 65 26).span 97 26) = TA at *
  have HA := Lib.hid hA
  clear hA
  go_upto_region 3 with fail
  generalize hW : w2.alloc _ = W3
  have hb3 : Below w2.heap.size w2 W3 := by subst hW; exact (Below.refl _ _).alloc (Nat.le_refl _) _
  have ha3 : SetAt W3 w2.heap.size TA := by subst hW; exact Hga.out
  clear hW Hga
  have hr3 := hr2.later hb3; have hn3 := hn2.later hb3; have hB3 := hB2.step hb3
  clear hr2 hn2 hB2 hb3
  obtain ⟨f0, f1, f2, f3⟩ := hn3.at4
  simp only [Nat.zero_add] at f1 f2 f3
  go_wp2_with fail
  refine (qspan_any W3 w40 48 57 (by omega) (by omega)).mono ?_
  rintro en w4 ⟨rfl, hb4⟩
  have hr4 := hr3.later hb4; have hn4 := hn3.later hb4; have hB4 := hB3.step hb4; have ha4 := ha3.later hb4
  clear hr3 hn3 hB3 hb4 ha3 f0 f1 f2 f3
  rw [show 57 + 1 - 48 = 10 from rfl]
  have hgd : SetAt (w4.alloc (.cells #[.int .u64 (w40.span 48 10).a, .int .u64 (w40.span 48 10).b, .int .u64 (w40.span 48 10).c, .int .u64 (w40.span 48 10).d] 24)) w4.heap.size (w40.span 48 10) := SetAt.box w4 _
  have Hgd := Lib.hid hgd
  clear hgd
  generalize hD : (w40.span 48 10) = TD at *
  have HD := Lib.hid hD
  clear hD
  go_upto_region 4 with fail
  generalize hW : w4.alloc _ = W5
  have hb5 : Below w4.heap.size w4 W5 := by subst hW; exact (Below.refl _ _).alloc (Nat.le_refl _) _
  have hd5 : SetAt W5 w4.heap.size TD := by subst hW; exact Hgd.out
  clear hW Hgd
  have hr5 := hr4.later hb5; have hn5 := hn4.later hb5; have hB5 := hB4.step hb5; have ha5 := ha4.later hb5
  clear hr4 hn4 hB4 hb5 ha4
  obtain ⟨n0, n1, n2, n3⟩ := hn5.at4
  obtain ⟨a0, a1, a2, a3⟩ := ha5.at4
  obtain ⟨d0, d1, d2, d3⟩ := hd5.at4
  simp only [Nat.zero_add] at n1 n2 n3 a1 a2 a3 d1 d2 d3
  obtain ⟨r0, r1, r2, r3⟩ := hr5.at4
  simp only [Nat.zero_add] at r1 r2 r3
  have y0 := hr5.froz 0; have y1 := hr5.froz 1; have y2 := hr5.froz 2; have y3 := hr5.froz 3
  have HR := Lib.hid hr5; have HB := Lib.hid hB5
  clear hr5 hB5
  go_wp2_with fail
  change bodyPost _ _ _ _ _ (setV W5 w.heap.size TA)
  obtain ⟨q0, q1, q2, q3⟩ := (HR.out.setV TA).at4
  simp only [Nat.zero_add] at q1 q2 q3
  have hB := HB.out.setV (b := w.heap.size) (Nat.le_refl _) TA
  clear r0 r1 r2 r3 y0 y1 y2 y3
  clear n0 n1 n2 n3 a0 a1 a2 a3 d0 d1 d2 d3
  generalize setV W5 w.heap.size TA = WZ at *
  exact bodyPost_ret (v := .tuple #[TA.V, .bool true]) (by simp [results, Tryd.results103, go_sem, q0, q1, q2, q3]) rfl ⟨by rw [Hc.out], hB⟩
set_option maxRecDepth 100000 in
set_option maxHeartbeats 4000000 in
theorem class_upper (w : World) : Calls Tryd.prog 103 #[.string (bs [117, 112, 112, 101, 114])] w fun en w' => en = .returned (.tuple #[(clsQ [117, 112, 112, 101, 114]).1.V, .bool (clsQ [117, 112, 112, 101, 114]).2]) ∧ Below w.heap.size w w' := by
  have Hc := Lib.hid (show clsQ [117, 112, 112, 101, 114] = ((w40.span 65 26), true) from rfl)
  go_enter Tryd.func103, Tryd.ntmps103
  go_upto_region 2 with fail
  generalize hW : (w.alloc _).alloc _ = W0
  have hr0 : SetAt W0 w.heap.size w40 := by subst hW; exact (SetAt.new w).later ((Below.refl _ _).alloc (Nat.le_refl _) _)
  have hn0 : SetAt W0 (w.heap.size + 1) w40 := by
    subst hW
    have := SetAt.new (w.alloc (.cells #[.int .u64 0, .int .u64 0, .int .u64 0, .int .u64 0] 24))
    simpa using this
  have hb0 : Below w.heap.size w W0 := by subst hW; exact ((Below.refl _ _).alloc (Nat.le_refl _) _).alloc (by simp) _
  clear hW
  obtain ⟨f0, f1, f2, f3⟩ := hn0.at4
  simp only [Nat.zero_add] at f1 f2 f3
  go_wp2_with fail
  refine (qspan_any W0 w40 65 90 (by omega) (by omega)).mono ?_
  rintro en w1 ⟨rfl, hb1⟩
  have hr1 := hr0.later hb1; have hn1 := hn0.later hb1; have hB1 := hb0.step hb1
  clear hr0 hn0 hb0 hb1 f0 f1 f2 f3
  go_wp2_with fail
  refine (qspan_any w1 (w40.span 65 26) 97 122 (by omega) (by omega)).mono ?_
  rintro en w2 ⟨rfl, hb2⟩
  have hr2 := hr1.later hb2; have hn2 := hn1.later hb2; have hB2 := hB1.step hb2
  clear hr1 hn1 hB1 hb2
  rw [show 122 + 1 - 97 = 26 from rfl]
  have hga : SetAt (w2.alloc (.cells #[.int .u64 ((w40.span 65 26).span 97 26).a, .int .u64 ((w40.span 65 26).span 97 26).b, .int .u64 ((w40.span 65 26).span 97 26).c, .int .u64 ((w40.span 65 26).span 97 26).d] 24)) w2.heap.size ((w40.span 65 26).span 97 26) := SetAt.box w2 _
  have Hga := Lib.hid hga
  clear hga
  generalize hA : ((w40.span 65 26).span 97 26) = TA at *
  have HA := Lib.hid hA
  clear hA
  go_upto_region 3 with fail
  generalize hW : w2.alloc _ = W3
  have hb3 : Below w2.heap.size w2 W3 := by subst hW; exact (Below.refl _ _).alloc (Nat.le_refl _) _
  have ha3 : SetAt W3 w2.heap.size TA := by subst hW; exact Hga.out
  clear hW Hga
  have hr3 := hr2.later hb3; have hn3 := hn2.later hb3; have hB3 := hB2.step hb3
  clear hr2 hn2 hB2 hb3
  obtain ⟨f0, f1, f2, f3⟩ := hn3.at4
  simp only [Nat.zero_add] at f1 f2 f3
  go_wp2_with fail
  refine (qspan_any W3 w40 48 57 (by omega) (by omega)).mono ?_
  rintro en w4 ⟨rfl, hb4⟩
  have hr4 := hr3.later hb4; have hn4 := hn3.later hb4; have hB4 := hB3.step hb4; have ha4 := ha3.later hb4
  clear hr3 hn3 hB3 hb4 ha3 f0 f1 f2 f3
  rw [show 57 + 1 - 48 = 10 from rfl]
  have hgd : SetAt (w4.alloc (.cells #[.int .u64 (w40.span 48 10).a, .int .u64 (w40.span 48 10).b, .int .u64 (w40.span 48 10).c, .int .u64 (w40.span 48 10).d] 24)) w4.heap.size (w40.span 48 10) := SetAt.box w4 _
  have Hgd := Lib.hid hgd
  clear hgd
  generalize hD : (w40.span 48 10) = TD at *
  have HD := Lib.hid hD
  clear hD
  go_upto_region 4 with fail
  generalize hW : w4.alloc _ = W5
  have hb5 : Below w4.heap.size w4 W5 := by subst hW; exact (Below.refl _ _).alloc (Nat.le_refl _) _
  have hd5 : SetAt W5 w4.heap.size TD := by subst hW; exact Hgd.out
  clear hW Hgd
  have hr5 := hr4.later hb5; have hn5 := hn4.later hb5; have hB5 := hB4.step hb5; have ha5 := ha4.later hb5
  clear hr4 hn4 hB4 hb5 ha4
  obtain ⟨n0, n1, n2, n3⟩ := hn5.at4
  obtain ⟨a0, a1, a2, a3⟩ := ha5.at4
  obtain ⟨d0, d1, d2, d3⟩ := hd5.at4
  simp only [Nat.zero_add] at n1 n2 n3 a1 a2 a3 d1 d2 d3
  go_wp2_with fail
  refine (qspan_any W5 w40 65 90 (by omega) (by omega)).mono ?_
  rintro en w6 ⟨rfl, hb6⟩
  have hr6 := hr5.later hb6; have hB6 := hB5.step hb6
  clear hr5 hB5 hb6 n0 n1 n2 n3 a0 a1 a2 a3 d0 d1 d2 d3 hn5 ha5 hd5
  rw [show 90 + 1 - 65 = 26 from rfl]
  generalize hX6 : (w40.span 65 26) = T6 at *
  have HX6 := Lib.hid hX6
  clear hX6
  obtain ⟨r0, r1, r2, r3⟩ := hr6.at4
  simp only [Nat.zero_add] at r1 r2 r3
  have y0 := hr6.froz 0; have y1 := hr6.froz 1; have y2 := hr6.froz 2; have y3 := hr6.froz 3
  have HR := Lib.hid hr6; have HB := Lib.hid hB6
  clear hr6 hB6
  go_wp2_with fail
  change bodyPost _ _ _ _ _ (setV w6 w.heap.size T6)
  obtain ⟨q0, q1, q2, q3⟩ := (HR.out.setV T6).at4
  simp only [Nat.zero_add] at q1 q2 q3
  have hB := HB.out.setV (b := w.heap.size) (Nat.le_refl _) T6
  clear r0 r1 r2 r3 y0 y1 y2 y3
  generalize setV w6 w.heap.size T6 = WZ at *
  exact bodyPost_ret (v := .tuple #[T6.V, .bool true]) (by simp [results, Tryd.results103, go_sem, q0, q1, q2, q3]) rfl ⟨by rw [Hc.out], hB⟩
set_option maxRecDepth 100000 in
set_option maxHeartbeats 4000000 in
theorem class_lower (w : World) : Calls Tryd.prog 103 #[.string (bs [108, 111, 119, 101, 114])] w fun en w' => en = .returned (.tuple #[(clsQ [108, 111, 119, 101, 114]).1.V, .bool (clsQ [108, 111, 119, 101, 114]).2]) ∧ Below w.heap.size w w' := by
  have Hc := Lib.hid (show clsQ [108, 111, 119, 101, 114] = ((w40.span 97 26), true) from rfl)
  go_enter Tryd.func103, Tryd.ntmps103
  go_upto_region 2 with fail
  generalize hW : (w.alloc _).alloc _ = W0
  have hr0 : SetAt W0 w.heap.size w40 := by subst hW; exact (SetAt.new w).later ((Below.refl _ _).alloc (Nat.le_refl _) _)
  have hn0 : SetAt W0 (w.heap.size + 1) w40 := by
    subst hW
    have := SetAt.new (w.alloc (.cells #[.int .u64 0, .int .u64 0, .int .u64 0, .int .u64 0] 24))
    simpa using this
  have hb0 : Below w.heap.size w W0 := by subst hW; exact ((Below.refl _ _).alloc (Nat.le_refl _) _).alloc (by simp) _
  clear hW
  obtain ⟨f0, f1, f2, f3⟩ := hn0.at4
  simp only [Nat.zero_add] at f1 f2 f3
  go_wp2_with fail
  refine (qspan_any W0 w40 65 90 (by omega) (by omega)).mono ?_
  rintro en w1 ⟨rfl, hb1⟩
  have hr1 := hr0.later hb1; have hn1 := hn0.later hb1; have hB1 := hb0.step hb1
  clear hr0 hn0 hb0 hb1 f0 f1 f2 f3
  go_wp2_with fail
  refine (qspan_any w1 (w40.span 65 26) 97 122 (by omega) (by omega)).mono ?_
  rintro en w2 ⟨rfl, hb2⟩
  have hr2 := hr1.later hb2; have hn2 := hn1.later hb2; have hB2 := hB1.step hb2
  clear hr1 hn1 hB1 hb2
  rw [show 122 + 1 - 97 = 26 from rfl]
  have hga : SetAt (w2.alloc (.cells #[.int .u64 ((w40.span 65 26).span 97 26).a, .int .u64 ((w40.span 65 26).span 97 26).b, .int .u64 ((w40.span 65 26).span 97 26).c, .int .u64 ((w40.span 65 26).span 97 26).d] 24)) w2.heap.size ((w40.span 65 26).span 97 26) := SetAt.box w2 _
  have Hga := Lib.hid hga
  clear hga
  generalize hA : ((w40.span 65 26).span 97 26) = TA at *
  have HA := Lib.hid hA
  clear hA
  go_upto_region 3 with fail
  generalize hW : w2.alloc _ = W3
  have hb3 : Below w2.heap.size w2 W3 := by subst hW; exact (Below.refl _ _).alloc (Nat.le_refl _) _
  have ha3 : SetAt W3 w2.heap.size TA := by subst hW; exact Hga.out
  clear hW Hga
  have hr3 := hr2.later hb3; have hn3 := hn2.later hb3; have hB3 := hB2.step hb3
  clear hr2 hn2 hB2 hb3
  obtain ⟨f0, f1, f2, f3⟩ := hn3.at4
  simp only [Nat.zero_add] at f1 f2 f3
  go_wp2_with fail
  refine (qspan_any W3 w40 48 57 (by omega) (by omega)).mono ?_
  rintro en w4 ⟨rfl, hb4⟩
  have hr4 := hr3.later hb4; have hn4 := hn3.later hb4; have hB4 := hB3.step hb4; have ha4 := ha3.later hb4
  clear hr3 hn3 hB3 hb4 ha3 f0 f1 f2 f3
  rw [show 57 + 1 - 48 = 10 from rfl]
  have hgd : SetAt (w4.alloc (.cells #[.int .u64 (w40.span 48 10).a, .int .u64 (w40.span 48 10).b, .int .u64 (w40.span 48 10).c, .int .u64 (w40.span 48 10).d] 24)) w4.heap.size (w40.span 48 10) := SetAt.box w4 _
  have Hgd := Lib.hid hgd
  clear hgd
  generalize hD : (w40.span 48 10) = TD at *
  have HD := Lib.hid hD
  clear hD
  go_upto_region 4 with fail
  generalize hW : w4.alloc _ = W5
  have hb5 : Below w4.heap.size w4 W5 := by subst hW; exact (Below.refl _ _).alloc (Nat.le_refl _) _
  have hd5 : SetAt W5 w4.heap.size TD := by subst hW; exact Hgd.out
  clear hW Hgd
  have hr5 := hr4.later hb5; have hn5 := hn4.later hb5; have hB5 := hB4.step hb5; have ha5 := ha4.later hb5
  clear hr4 hn4 hB4 hb5 ha4
  obtain ⟨n0, n1, n2, n3⟩ := hn5.at4
  obtain ⟨a0, a1, a2, a3⟩ := ha5.at4
  obtain ⟨d0, d1, d2, d3⟩ := hd5.at4
  simp only [Nat.zero_add] at n1 n2 n3 a1 a2 a3 d1 d2 d3
  go_wp2_with fail
  refine (qspan_any W5 w40 97 122 (by omega) (by omega)).mono ?_
  rintro en w6 ⟨rfl, hb6⟩
  have hr6 := hr5.later hb6; have hB6 := hB5.step hb6
  clear hr5 hB5 hb6 n0 n1 n2 n3 a0 a1 a2 a3 d0 d1 d2 d3 hn5 ha5 hd5
  rw [show 122 + 1 - 97 = 26 from rfl]
  generalize hX6 : (w40.span 97 26) = T6 at *
  have HX6 := Lib.hid hX6
  clear hX6
  obtain ⟨r0, r1, r2, r3⟩ := hr6.at4
  simp only [Nat.zero_add] at r1 r2 r3
  have y0 := hr6.froz 0; have y1 := hr6.froz 1; have y2 := hr6.froz 2; have y3 := hr6.froz 3
  have HR := Lib.hid hr6; have HB := Lib.hid hB6
  clear hr6 hB6
  go_wp2_with fail
  change bodyPost _ _ _ _ _ (setV w6 w.heap.size T6)
  obtain ⟨q0, q1, q2, q3⟩ := (HR.out.setV T6).at4
  simp only [Nat.zero_add] at q1 q2 q3
  have hB := HB.out.setV (b := w.heap.size) (Nat.le_refl _) T6
  clear r0 r1 r2 r3 y0 y1 y2 y3
  generalize setV w6 w.heap.size T6 = WZ at *
  exact bodyPost_ret (v := .tuple #[T6.V, .bool true]) (by simp [results, Tryd.results103, go_sem, q0, q1, q2, q3]) rfl ⟨by rw [Hc.out], hB⟩
set_option maxRecDepth 100000 in
set_option maxHeartbeats 4000000 in
theorem class_digit (w : World) : Calls Tryd.prog 103 #[.string (bs [100, 105, 103, 105, 116])] w fun en w' => en = .returned (.tuple #[(clsQ [100, 105, 103, 105, 116]).1.V, .bool (clsQ [100, 105, 103, 105, 116]).2]) ∧ Below w.heap.size w w' := by
  have Hc := Lib.hid (show clsQ [100, 105, 103, 105, 116] = ((w40.span 48 10), true) from rfl)
  go_enter Tryd.func103, Tryd.ntmps103
  go_upto_region 2 with fail
  generalize hW : (w.alloc _).alloc _ = W0
  have hr0 : SetAt W0 w.heap.size w40 := by subst hW; exact (SetAt.new w).later ((Below.refl _ _).alloc (Nat.le_refl _) _)
  have hn0 : SetAt W0 (w.heap.size + 1) w40 := by
    subst hW
    have := SetAt.new (w.alloc (.cells #[.int .u64 0, .int .u64 0, .int .u64 0, .int .u64 0] 24))
    simpa using this
  have hb0 : Below w.heap.size w W0 := by subst hW; exact ((Below.refl _ _).alloc (Nat.le_refl _) _).alloc (by simp) _
  clear hW
  obtain ⟨f0, f1, f2, f3⟩ := hn0.at4
  simp only [Nat.zero_add] at f1 f2 f3
  go_wp2_with fail
  refine (qspan_any W0 w40 65 90 (by omega) (by omega)).mono ?_
  rintro en w1 ⟨rfl, hb1⟩
  have hr1 := hr0.later hb1; have hn1 := hn0.later hb1; have hB1 := hb0.step hb1
  clear hr0 hn0 hb0 hb1 f0 f1 f2 f3
  go_wp2_with fail
  refine (qspan_any w1 (w40.span 65 26) 97 122 (by omega) (by omega)).mono ?_
  rintro en w2 ⟨rfl, hb2⟩
  have hr2 := hr1.later hb2; have hn2 := hn1.later hb2; have hB2 := hB1.step hb2
  clear hr1 hn1 hB1 hb2
  rw [show 122 + 1 - 97 = 26 from rfl]
  have hga : SetAt (w2.alloc (.cells #[.int .u64 ((w40.span 65 26).span 97 26).a, .int .u64 ((w40.span 65 26).span 97 26).b, .int .u64 ((w40.span 65 26).span 97 26).c, .int .u64 ((w40.span 65 26).span 97 26).d] 24)) w2.heap.size ((w40.span 65 26).span 97 26) := SetAt.box w2 _
  have Hga := Lib.hid hga
  clear hga
  generalize hA : ((w40.span 65 26).span 97 26) = TA at *
  have HA := Lib.hid hA
  clear hA
  go_upto_region 3 with fail
  generalize hW : w2.alloc _ = W3
  have hb3 : Below w2.heap.size w2 W3 := by subst hW; exact (Below.refl _ _).alloc (Nat.le_refl _) _
  have ha3 : SetAt W3 w2.heap.size TA := by subst hW; exact Hga.out
  clear hW Hga
  have hr3 := hr2.later hb3; have hn3 := hn2.later hb3; have hB3 := hB2.step hb3
  clear hr2 hn2 hB2 hb3
  obtain ⟨f0, f1, f2, f3⟩ := hn3.at4
  simp only [Nat.zero_add] at f1 f2 f3
  go_wp2_with fail
  refine (qspan_any W3 w40 48 57 (by omega) (by omega)).mono ?_
  rintro en w4 ⟨rfl, hb4⟩
  have hr4 := hr3.later hb4; have hn4 := hn3.later hb4; have hB4 := hB3.step hb4; have ha4 := ha3.later hb4
  clear hr3 hn3 hB3 hb4 ha3 f0 f1 f2 f3
  rw [show 57 + 1 - 48 = 10 from rfl]
  have hgd : SetAt (w4.alloc (.cells #[.int .u64 (w40.span 48 10).a, .int .u64 (w40.span 48 10).b, .int .u64 (w40.span 48 10).c, .int .u64 (w40.span 48 10).d] 24)) w4.heap.size (w40.span 48 10) := SetAt.box w4 _
  have Hgd := Lib.hid hgd
  clear hgd
  generalize hD : (w40.span 48 10) = TD at *
  have HD := Lib.hid hD
  clear hD
  go_upto_region 4 with fail
  generalize hW : w4.alloc _ = W5
  have hb5 : Below w4.heap.size w4 W5 := by subst hW; exact (Below.refl _ _).alloc (Nat.le_refl _) _
  have hd5 : SetAt W5 w4.heap.size TD := by subst hW; exact Hgd.out
  clear hW Hgd
  have hr5 := hr4.later hb5; have hn5 := hn4.later hb5; have hB5 := hB4.step hb5; have ha5 := ha4.later hb5
  clear hr4 hn4 hB4 hb5 ha4
  obtain ⟨n0, n1, n2, n3⟩ := hn5.at4
  obtain ⟨a0, a1, a2, a3⟩ := ha5.at4
  obtain ⟨d0, d1, d2, d3⟩ := hd5.at4
  simp only [Nat.zero_add] at n1 n2 n3 a1 a2 a3 d1 d2 d3
  obtain ⟨r0, r1, r2, r3⟩ := hr5.at4
  simp only [Nat.zero_add] at r1 r2 r3
  have y0 := hr5.froz 0; have y1 := hr5.froz 1; have y2 := hr5.froz 2; have y3 := hr5.froz 3
  have HR := Lib.hid hr5; have HB := Lib.hid hB5
  clear hr5 hB5
  go_wp2_with fail
  change bodyPost _ _ _ _ _ (setV W5 w.heap.size TD)
  obtain ⟨q0, q1, q2, q3⟩ := (HR.out.setV TD).at4
  simp only [Nat.zero_add] at q1 q2 q3
  have hB := HB.out.setV (b := w.heap.size) (Nat.le_refl _) TD
  clear r0 r1 r2 r3 y0 y1 y2 y3
  clear n0 n1 n2 n3 a0 a1 a2 a3 d0 d1 d2 d3
  generalize setV W5 w.heap.size TD = WZ at *
  exact bodyPost_ret (v := .tuple #[TD.V, .bool true]) (by simp [results, Tryd.results103, go_sem, q0, q1, q2, q3]) rfl ⟨by rw [Hc.out], hB⟩
set_option maxRecDepth 100000 in
set_option maxHeartbeats 4000000 in
theorem class_alnum (w : World) : Calls Tryd.prog 103 #[.string (bs [97, 108, 110, 117, 109])] w fun en w' => en = .returned (.tuple #[(clsQ [97, 108, 110, 117, 109]).1.V, .bool (clsQ [97, 108, 110, 117, 109]).2]) ∧ Below w.heap.size w w' := by
  have Hc := Lib.hid (show clsQ [97, 108, 110, 117, 109] = ((((w40.span 65 26).span 97 26).span 48 10), true) from rfl)
  go_enter Tryd.func103, Tryd.ntmps103
  go_upto_region 2 with fail
  generalize hW : (w.alloc _).alloc _ = W0
  have hr0 : SetAt W0 w.heap.size w40 := by subst hW; exact (SetAt.new w).later ((Below.refl _ _).alloc (Nat.le_refl _) _)
  have hn0 : SetAt W0 (w.heap.size + 1) w40 := by
    subst hW
    have := SetAt.new (w.alloc (.cells #[.int .u64 0, .int .u64 0, .int .u64 0, .int .u64 0] 24))
    simpa using this
  have hb0 : Below w.heap.size w W0 := by subst hW; exact ((Below.refl _ _).alloc (Nat.le_refl _) _).alloc (by simp) _
  clear hW
  obtain ⟨f0, f1, f2, f3⟩ := hn0.at4
  simp only [Nat.zero_add] at f1 f2 f3
  go_wp2_with fail
  refine (qspan_any W0 w40 65 90 (by omega) (by omega)).mono ?_
  rintro en w1 ⟨rfl, hb1⟩
  have hr1 := hr0.later hb1; have hn1 := hn0.later hb1; have hB1 := hb0.step hb1
  clear hr0 hn0 hb0 hb1 f0 f1 f2 f3
  go_wp2_with fail
  refine (qspan_any w1 (w40.span 65 26) 97 122 (by omega) (by omega)).mono ?_
  rintro en w2 ⟨rfl, hb2⟩
  have hr2 := hr1.later hb2; have hn2 := hn1.later hb2; have hB2 := hB1.step hb2
  clear hr1 hn1 hB1 hb2
  rw [show 122 + 1 - 97 = 26 from rfl]
  have hga : SetAt (w2.alloc (.cells #[.int .u64 ((w40.span 65 26).span 97 26).a, .int .u64 ((w40.span 65 26).span 97 26).b, .int .u64 ((w40.span 65 26).span 97 26).c, .int .u64 ((w40.span 65 26).span 97 26).d] 24)) w2.heap.size ((w40.span 65 26).span 97 26) := SetAt.box w2 _
  have Hga := Lib.hid hga
  clear hga
  generalize hA : ((w40.span 65 26).span 97 26) = TA at *
  have HA := Lib.hid hA
  clear hA
  go_upto_region 3 with fail
  generalize hW : w2.alloc _ = W3
  have hb3 : Below w2.heap.size w2 W3 := by subst hW; exact (Below.refl _ _).alloc (Nat.le_refl _) _
  have ha3 : SetAt W3 w2.heap.size TA := by subst hW; exact Hga.out
  clear hW Hga
  have hr3 := hr2.later hb3; have hn3 := hn2.later hb3; have hB3 := hB2.step hb3
  clear hr2 hn2 hB2 hb3
  obtain ⟨f0, f1, f2, f3⟩ := hn3.at4
  simp only [Nat.zero_add] at f1 f2 f3
  go_wp2_with fail
  refine (qspan_any W3 w40 48 57 (by omega) (by omega)).mono ?_
  rintro en w4 ⟨rfl, hb4⟩
  have hr4 := hr3.later hb4; have hn4 := hn3.later hb4; have hB4 := hB3.step hb4; have ha4 := ha3.later hb4
  clear hr3 hn3 hB3 hb4 ha3 f0 f1 f2 f3
  rw [show 57 + 1 - 48 = 10 from rfl]
  have hgd : SetAt (w4.alloc (.cells #[.int .u64 (w40.span 48 10).a, .int .u64 (w40.span 48 10).b, .int .u64 (w40.span 48 10).c, .int .u64 (w40.span 48 10).d] 24)) w4.heap.size (w40.span 48 10) := SetAt.box w4 _
  have Hgd := Lib.hid hgd
  clear hgd
  generalize hD : (w40.span 48 10) = TD at *
  have HD := Lib.hid hD
  clear hD
  go_upto_region 4 with fail
  generalize hW : w4.alloc _ = W5
  have hb5 : Below w4.heap.size w4 W5 := by subst hW; exact (Below.refl _ _).alloc (Nat.le_refl _) _
  have hd5 : SetAt W5 w4.heap.size TD := by subst hW; exact Hgd.out
  clear hW Hgd
  have hr5 := hr4.later hb5; have hn5 := hn4.later hb5; have hB5 := hB4.step hb5; have ha5 := ha4.later hb5
  clear hr4 hn4 hB4 hb5 ha4
  obtain ⟨n0, n1, n2, n3⟩ := hn5.at4
  obtain ⟨a0, a1, a2, a3⟩ := ha5.at4
  obtain ⟨d0, d1, d2, d3⟩ := hd5.at4
  simp only [Nat.zero_add] at n1 n2 n3 a1 a2 a3 d1 d2 d3
  go_wp2_with fail
  refine (qspan_any W5 TA 48 57 (by omega) (by omega)).mono ?_
  rintro en w6 ⟨rfl, hb6⟩
  have hr6 := hr5.later hb6; have hB6 := hB5.step hb6
  clear hr5 hB5 hb6 n0 n1 n2 n3 a0 a1 a2 a3 d0 d1 d2 d3 hn5 ha5 hd5
  rw [show 57 + 1 - 48 = 10 from rfl]
  generalize hX6 : (TA.span 48 10) = T6 at *
  have HX6 := Lib.hid hX6
  clear hX6
  obtain ⟨r0, r1, r2, r3⟩ := hr6.at4
  simp only [Nat.zero_add] at r1 r2 r3
  have y0 := hr6.froz 0; have y1 := hr6.froz 1; have y2 := hr6.froz 2; have y3 := hr6.froz 3
  have HR := Lib.hid hr6; have HB := Lib.hid hB6
  clear hr6 hB6
  go_wp2_with fail
  change bodyPost _ _ _ _ _ (setV w6 w.heap.size T6)
  obtain ⟨q0, q1, q2, q3⟩ := (HR.out.setV T6).at4
  simp only [Nat.zero_add] at q1 q2 q3
  have hB := HB.out.setV (b := w.heap.size) (Nat.le_refl _) T6
  clear r0 r1 r2 r3 y0 y1 y2 y3
  generalize setV w6 w.heap.size T6 = WZ at *
  exact bodyPost_ret (v := .tuple #[T6.V, .bool true]) (by simp [results, Tryd.results103, go_sem, q0, q1, q2, q3]) rfl ⟨by rw [Hc.out], hB⟩
set_option maxRecDepth 100000 in
set_option maxHeartbeats 4000000 in
theorem class_xdigit (w : World) : Calls Tryd.prog 103 #[.string (bs [120, 100, 105, 103, 105, 116])] w fun en w' => en = .returned (.tuple #[(clsQ [120, 100, 105, 103, 105, 116]).1.V, .bool (clsQ [120, 100, 105, 103, 105, 116]).2]) ∧ Below w.heap.size w w' := by
  have Hc := Lib.hid (show clsQ [120, 100, 105, 103, 105, 116] = ((((w40.span 48 10).span 65 6).span 97 6), true) from rfl)
  go_enter Tryd.func103, Tryd.ntmps103
  go_upto_region 2 with fail
  generalize hW : (w.alloc _).alloc _ = W0
  have hr0 : SetAt W0 w.heap.size w40 := by subst hW; exact (SetAt.new w).later ((Below.refl _ _).alloc (Nat.le_refl _) _)
  have hn0 : SetAt W0 (w.heap.size + 1) w40 := by
    subst hW
    have := SetAt.new (w.alloc (.cells #[.int .u64 0, .int .u64 0, .int .u64 0, .int .u64 0] 24))
    simpa using this
  have hb0 : Below w.heap.size w W0 := by subst hW; exact ((Below.refl _ _).alloc (Nat.le_refl _) _).alloc (by simp) _
  clear hW
  obtain ⟨f0, f1, f2, f3⟩ := hn0.at4
  simp only [Nat.zero_add] at f1 f2 f3
  go_wp2_with fail
  refine (qspan_any W0 w40 65 90 (by omega) (by omega)).mono ?_
  rintro en w1 ⟨rfl, hb1⟩
  have hr1 := hr0.later hb1; have hn1 := hn0.later hb1; have hB1 := hb0.step hb1
  clear hr0 hn0 hb0 hb1 f0 f1 f2 f3
  go_wp2_with fail
  refine (qspan_any w1 (w40.span 65 26) 97 122 (by omega) (by omega)).mono ?_
  rintro en w2 ⟨rfl, hb2⟩
  have hr2 := hr1.later hb2; have hn2 := hn1.later hb2; have hB2 := hB1.step hb2
  clear hr1 hn1 hB1 hb2
  rw [show 122 + 1 - 97 = 26 from rfl]
  have hga : SetAt (w2.alloc (.cells #[.int .u64 ((w40.span 65 26).span 97 26).a, .int .u64 ((w40.span 65 26).span 97 26).b, .int .u64 ((w40.span 65 26).span 97 26).c, .int .u64 ((w40.span 65 26).span 97 26).d] 24)) w2.heap.size ((w40.span 65 26).span 97 26) := SetAt.box w2 _
  have Hga := Lib.hid hga
  clear hga
  generalize hA : ((w40.span 65 26).span 97 26) = TA at *
  have HA := Lib.hid hA
  clear hA
  go_upto_region 3 with fail
  generalize hW : w2.alloc _ = W3
  have hb3 : Below w2.heap.size w2 W3 := by subst hW; exact (Below.refl _ _).alloc (Nat.le_refl _) _
  have ha3 : SetAt W3 w2.heap.size TA := by subst hW; exact Hga.out
  clear hW Hga
  have hr3 := hr2.later hb3; have hn3 := hn2.later hb3; have hB3 := hB2.step hb3
  clear hr2 hn2 hB2 hb3
  obtain ⟨f0, f1, f2, f3⟩ := hn3.at4
  simp only [Nat.zero_add] at f1 f2 f3
  go_wp2_with fail
  refine (qspan_any W3 w40 48 57 (by omega) (by omega)).mono ?_
  rintro en w4 ⟨rfl, hb4⟩
  have hr4 := hr3.later hb4; have hn4 := hn3.later hb4; have hB4 := hB3.step hb4; have ha4 := ha3.later hb4
  clear hr3 hn3 hB3 hb4 ha3 f0 f1 f2 f3
  rw [show 57 + 1 - 48 = 10 from rfl]
  have hgd : SetAt (w4.alloc (.cells #[.int .u64 (w40.span 48 10).a, .int .u64 (w40.span 48 10).b, .int .u64 (w40.span 48 10).c, .int .u64 (w40.span 48 10).d] 24)) w4.heap.size (w40.span 48 10) := SetAt.box w4 _
  have Hgd := Lib.hid hgd
  clear hgd
  generalize hD : (w40.span 48 10) = TD at *
  have HD := Lib.hid hD
  clear hD
  go_upto_region 4 with fail
  generalize hW : w4.alloc _ = W5
  have hb5 : Below w4.heap.size w4 W5 := by subst hW; exact (Below.refl _ _).alloc (Nat.le_refl _) _
  have hd5 : SetAt W5 w4.heap.size TD := by subst hW; exact Hgd.out
  clear hW Hgd
  have hr5 := hr4.later hb5; have hn5 := hn4.later hb5; have hB5 := hB4.step hb5; have ha5 := ha4.later hb5
  clear hr4 hn4 hB4 hb5 ha4
  obtain ⟨n0, n1, n2, n3⟩ := hn5.at4
  obtain ⟨a0, a1, a2, a3⟩ := ha5.at4
  obtain ⟨d0, d1, d2, d3⟩ := hd5.at4
  simp only [Nat.zero_add] at n1 n2 n3 a1 a2 a3 d1 d2 d3
  go_wp2_with fail
  refine (qspan_any W5 TD 65 70 (by omega) (by omega)).mono ?_
  rintro en w6 ⟨rfl, hb6⟩
  have hr6 := hr5.later hb6; have hB6 := hB5.step hb6
  clear hr5 hB5 hb6 n0 n1 n2 n3 a0 a1 a2 a3 d0 d1 d2 d3 hn5 ha5 hd5
  rw [show 70 + 1 - 65 = 6 from rfl]
  generalize hX6 : (TD.span 65 6) = T6 at *
  have HX6 := Lib.hid hX6
  clear hX6
  go_wp2_with fail
  refine (qspan_any w6 T6 97 102 (by omega) (by omega)).mono ?_
  rintro en w7 ⟨rfl, hb7⟩
  have hr7 := hr6.later hb7; have hB7 := hB6.step hb7
  clear hr6 hB6 hb7
  rw [show 102 + 1 - 97 = 6 from rfl]
  generalize hX7 : (T6.span 97 6) = T7 at *
  have HX7 := Lib.hid hX7
  clear hX7
  obtain ⟨r0, r1, r2, r3⟩ := hr7.at4
  simp only [Nat.zero_add] at r1 r2 r3
  have y0 := hr7.froz 0; have y1 := hr7.froz 1; have y2 := hr7.froz 2; have y3 := hr7.froz 3
  have HR := Lib.hid hr7; have HB := Lib.hid hB7
  clear hr7 hB7
  go_wp2_with fail
  change bodyPost _ _ _ _ _ (setV w7 w.heap.size T7)
  obtain ⟨q0, q1, q2, q3⟩ := (HR.out.setV T7).at4
  simp only [Nat.zero_add] at q1 q2 q3
  have hB := HB.out.setV (b := w.heap.size) (Nat.le_refl _) T7
  clear r0 r1 r2 r3 y0 y1 y2 y3
  generalize setV w7 w.heap.size T7 = WZ at *
  exact bodyPost_ret (v := .tuple #[T7.V, .bool true]) (by simp [results, Tryd.results103, go_sem, q0, q1, q2, q3]) rfl ⟨by rw [Hc.out], hB⟩
set_option maxRecDepth 100000 in
set_option maxHeartbeats 4000000 in
theorem class_space (w : World) : Calls Tryd.prog 103 #[.string (bs [115, 112, 97, 99, 101])] w fun en w' => en = .returned (.tuple #[(clsQ [115, 112, 97, 99, 101]).1.V, .bool (clsQ [115, 112, 97, 99, 101]).2]) ∧ Below w.heap.size w w' := by
  have Hc := Lib.hid (show clsQ [115, 112, 97, 99, 101] = (((w40.span 9 5).add 32), true) from rfl)
  go_enter Tryd.func103, Tryd.ntmps103
  go_upto_region 2 with fail
  generalize hW : (w.alloc _).alloc _ = W0
  have hr0 : SetAt W0 w.heap.size w40 := by subst hW; exact (SetAt.new w).later ((Below.refl _ _).alloc (Nat.le_refl _) _)
  have hn0 : SetAt W0 (w.heap.size + 1) w40 := by
    subst hW
    have := SetAt.new (w.alloc (.cells #[.int .u64 0, .int .u64 0, .int .u64 0, .int .u64 0] 24))
    simpa using this
  have hb0 : Below w.heap.size w W0 := by subst hW; exact ((Below.refl _ _).alloc (Nat.le_refl _) _).alloc (by simp) _
  clear hW
  obtain ⟨f0, f1, f2, f3⟩ := hn0.at4
  simp only [Nat.zero_add] at f1 f2 f3
  go_wp2_with fail
  refine (qspan_any W0 w40 65 90 (by omega) (by omega)).mono ?_
  rintro en w1 ⟨rfl, hb1⟩
  have hr1 := hr0.later hb1; have hn1 := hn0.later hb1; have hB1 := hb0.step hb1
  clear hr0 hn0 hb0 hb1 f0 f1 f2 f3
  go_wp2_with fail
  refine (qspan_any w1 (w40.span 65 26) 97 122 (by omega) (by omega)).mono ?_
  rintro en w2 ⟨rfl, hb2⟩
  have hr2 := hr1.later hb2; have hn2 := hn1.later hb2; have hB2 := hB1.step hb2
  clear hr1 hn1 hB1 hb2
  rw [show 122 + 1 - 97 = 26 from rfl]
  have hga : SetAt (w2.alloc (.cells #[.int .u64 ((w40.span 65 26).span 97 26).a, .int .u64 ((w40.span 65 26).span 97 26).b, .int .u64 ((w40.span 65 26).span 97 26).c, .int .u64 ((w40.span 65 26).span 97 26).d] 24)) w2.heap.size ((w40.span 65 26).span 97 26) := SetAt.box w2 _
  have Hga := Lib.hid hga
  clear hga
  generalize hA : ((w40.span 65 26).span 97 26) = TA at *
  have HA := Lib.hid hA
  clear hA
  go_upto_region 3 with fail
  generalize hW : w2.alloc _ = W3
  have hb3 : Below w2.heap.size w2 W3 := by subst hW; exact (Below.refl _ _).alloc (Nat.le_refl _) _
  have ha3 : SetAt W3 w2.heap.size TA := by subst hW; exact Hga.out
  clear hW Hga
  have hr3 := hr2.later hb3; have hn3 := hn2.later hb3; have hB3 := hB2.step hb3
  clear hr2 hn2 hB2 hb3
  obtain ⟨f0, f1, f2, f3⟩ := hn3.at4
  simp only [Nat.zero_add] at f1 f2 f3
  go_wp2_with fail
  refine (qspan_any W3 w40 48 57 (by omega) (by omega)).mono ?_
  rintro en w4 ⟨rfl, hb4⟩
  have hr4 := hr3.later hb4; have hn4 := hn3.later hb4; have hB4 := hB3.step hb4; have ha4 := ha3.later hb4
  clear hr3 hn3 hB3 hb4 ha3 f0 f1 f2 f3
  rw [show 57 + 1 - 48 = 10 from rfl]
  have hgd : SetAt (w4.alloc (.cells #[.int .u64 (w40.span 48 10).a, .int .u64 (w40.span 48 10).b, .int .u64 (w40.span 48 10).c, .int .u64 (w40.span 48 10).d] 24)) w4.heap.size (w40.span 48 10) := SetAt.box w4 _
  have Hgd := Lib.hid hgd
  clear hgd
  generalize hD : (w40.span 48 10) = TD at *
  have HD := Lib.hid hD
  clear hD
  go_upto_region 4 with fail
  generalize hW : w4.alloc _ = W5
  have hb5 : Below w4.heap.size w4 W5 := by subst hW; exact (Below.refl _ _).alloc (Nat.le_refl _) _
  have hd5 : SetAt W5 w4.heap.size TD := by subst hW; exact Hgd.out
  clear hW Hgd
  have hr5 := hr4.later hb5; have hn5 := hn4.later hb5; have hB5 := hB4.step hb5; have ha5 := ha4.later hb5
  clear hr4 hn4 hB4 hb5 ha4
  obtain ⟨n0, n1, n2, n3⟩ := hn5.at4
  obtain ⟨a0, a1, a2, a3⟩ := ha5.at4
  obtain ⟨d0, d1, d2, d3⟩ := hd5.at4
  simp only [Nat.zero_add] at n1 n2 n3 a1 a2 a3 d1 d2 d3
  go_wp2_with fail
  refine (qspan_any W5 w40 9 13 (by omega) (by omega)).mono ?_
  rintro en w6 ⟨rfl, hb6⟩
  have hr6 := hr5.later hb6; have hB6 := hB5.step hb6
  clear hr5 hB5 hb6 n0 n1 n2 n3 a0 a1 a2 a3 d0 d1 d2 d3 hn5 ha5 hd5
  rw [show 13 + 1 - 9 = 5 from rfl]
  generalize hX6 : (w40.span 9 5) = T6 at *
  have HX6 := Lib.hid hX6
  clear hX6
  go_wp2_with fail
  refine (qin_any w6 T6 32 (by omega)).mono ?_
  rintro en w7 ⟨rfl, hb7⟩
  have hr7 := hr6.later hb7; have hB7 := hB6.step hb7
  clear hr6 hB6 hb7
  generalize hX7 : (T6.add 32) = T7 at *
  have HX7 := Lib.hid hX7
  clear hX7
  obtain ⟨r0, r1, r2, r3⟩ := hr7.at4
  simp only [Nat.zero_add] at r1 r2 r3
  have y0 := hr7.froz 0; have y1 := hr7.froz 1; have y2 := hr7.froz 2; have y3 := hr7.froz 3
  have HR := Lib.hid hr7; have HB := Lib.hid hB7
  clear hr7 hB7
  go_wp2_with fail
  change bodyPost _ _ _ _ _ (setV w7 w.heap.size T7)
  obtain ⟨q0, q1, q2, q3⟩ := (HR.out.setV T7).at4
  simp only [Nat.zero_add] at q1 q2 q3
  have hB := HB.out.setV (b := w.heap.size) (Nat.le_refl _) T7
  clear r0 r1 r2 r3 y0 y1 y2 y3
  generalize setV w7 w.heap.size T7 = WZ at *
  exact bodyPost_ret (v := .tuple #[T7.V, .bool true]) (by simp [results, Tryd.results103, go_sem, q0, q1, q2, q3]) rfl ⟨by rw [Hc.out], hB⟩
set_option maxRecDepth 100000 in
set_option maxHeartbeats 4000000 in
theorem class_blank (w : World) : Calls Tryd.prog 103 #[.string (bs [98, 108, 97, 110, 107])] w fun en w' => en = .returned (.tuple #[(clsQ [98, 108, 97, 110, 107]).1.V, .bool (clsQ [98, 108, 97, 110, 107]).2]) ∧ Below w.heap.size w w' := by
  have Hc := Lib.hid (show clsQ [98, 108, 97, 110, 107] = (((w40.add 9).add 32), true) from rfl)
  go_enter Tryd.func103, Tryd.ntmps103
  go_upto_region 2 with fail
  generalize hW : (w.alloc _).alloc _ = W0
  have hr0 : SetAt W0 w.heap.size w40 := by subst hW; exact (SetAt.new w).later ((Below.refl _ _).alloc (Nat.le_refl _) _)
  have hn0 : SetAt W0 (w.heap.size + 1) w40 := by
    subst hW
    have := SetAt.new (w.alloc (.cells #[.int .u64 0, .int .u64 0, .int .u64 0, .int .u64 0] 24))
    simpa using this
  have hb0 : Below w.heap.size w W0 := by subst hW; exact ((Below.refl _ _).alloc (Nat.le_refl _) _).alloc (by simp) _
  clear hW
  obtain ⟨f0, f1, f2, f3⟩ := hn0.at4
  simp only [Nat.zero_add] at f1 f2 f3
  go_wp2_with fail
  refine (qspan_any W0 w40 65 90 (by omega) (by omega)).mono ?_
  rintro en w1 ⟨rfl, hb1⟩
  have hr1 := hr0.later hb1; have hn1 := hn0.later hb1; have hB1 := hb0.step hb1
  clear hr0 hn0 hb0 hb1 f0 f1 f2 f3
  go_wp2_with fail
  refine (qspan_any w1 (w40.span 65 26) 97 122 (by omega) (by omega)).mono ?_
  rintro en w2 ⟨rfl, hb2⟩
  have hr2 := hr1.later hb2; have hn2 := hn1.later hb2; have hB2 := hB1.step hb2
  clear hr1 hn1 hB1 hb2
  rw [show 122 + 1 - 97 = 26 from rfl]
  have hga : SetAt (w2.alloc (.cells #[.int .u64 ((w40.span 65 26).span 97 26).a, .int .u64 ((w40.span 65 26).span 97 26).b, .int .u64 ((w40.span 65 26).span 97 26).c, .int .u64 ((w40.span 65 26).span 97 26).d] 24)) w2.heap.size ((w40.span 65 26).span 97 26) := SetAt.box w2 _
  have Hga := Lib.hid hga
  clear hga
  generalize hA : ((w40.span 65 26).span 97 26) = TA at *
  have HA := Lib.hid hA
  clear hA
  go_upto_region 3 with fail
  generalize hW : w2.alloc _ = W3
  have hb3 : Below w2.heap.size w2 W3 := by subst hW; exact (Below.refl _ _).alloc (Nat.le_refl _) _
  have ha3 : SetAt W3 w2.heap.size TA := by subst hW; exact Hga.out
  clear hW Hga
  have hr3 := hr2.later hb3; have hn3 := hn2.later hb3; have hB3 := hB2.step hb3
  clear hr2 hn2 hB2 hb3
  obtain ⟨f0, f1, f2, f3⟩ := hn3.at4
  simp only [Nat.zero_add] at f1 f2 f3
  go_wp2_with fail
  refine (qspan_any W3 w40 48 57 (by omega) (by omega)).mono ?_
  rintro en w4 ⟨rfl, hb4⟩
  have hr4 := hr3.later hb4; have hn4 := hn3.later hb4; have hB4 := hB3.step hb4; have ha4 := ha3.later hb4
  clear hr3 hn3 hB3 hb4 ha3 f0 f1 f2 f3
  rw [show 57 + 1 - 48 = 10 from rfl]
  have hgd : SetAt (w4.alloc (.cells #[.int .u64 (w40.span 48 10).a, .int .u64 (w40.span 48 10).b, .int .u64 (w40.span 48 10).c, .int .u64 (w40.span 48 10).d] 24)) w4.heap.size (w40.span 48 10) := SetAt.box w4 _
  have Hgd := Lib.hid hgd
  clear hgd
  generalize hD : (w40.span 48 10) = TD at *
  have HD := Lib.hid hD
  clear hD
  go_upto_region 4 with fail
  generalize hW : w4.alloc _ = W5
  have hb5 : Below w4.heap.size w4 W5 := by subst hW; exact (Below.refl _ _).alloc (Nat.le_refl _) _
  have hd5 : SetAt W5 w4.heap.size TD := by subst hW; exact Hgd.out
  clear hW Hgd
  have hr5 := hr4.later hb5; have hn5 := hn4.later hb5; have hB5 := hB4.step hb5; have ha5 := ha4.later hb5
  clear hr4 hn4 hB4 hb5 ha4
  obtain ⟨n0, n1, n2, n3⟩ := hn5.at4
  obtain ⟨a0, a1, a2, a3⟩ := ha5.at4
  obtain ⟨d0, d1, d2, d3⟩ := hd5.at4
  simp only [Nat.zero_add] at n1 n2 n3 a1 a2 a3 d1 d2 d3
  go_wp2_with fail
  refine (qin_any W5 w40 9 (by omega)).mono ?_
  rintro en w6 ⟨rfl, hb6⟩
  have hr6 := hr5.later hb6; have hB6 := hB5.step hb6
  clear hr5 hB5 hb6 n0 n1 n2 n3 a0 a1 a2 a3 d0 d1 d2 d3 hn5 ha5 hd5
  generalize hX6 : (w40.add 9) = T6 at *
  have HX6 := Lib.hid hX6
  clear hX6
  go_wp2_with fail
  refine (qin_any w6 T6 32 (by omega)).mono ?_
  rintro en w7 ⟨rfl, hb7⟩
  have hr7 := hr6.later hb7; have hB7 := hB6.step hb7
  clear hr6 hB6 hb7
  generalize hX7 : (T6.add 32) = T7 at *
  have HX7 := Lib.hid hX7
  clear hX7
  obtain ⟨r0, r1, r2, r3⟩ := hr7.at4
  simp only [Nat.zero_add] at r1 r2 r3
  have y0 := hr7.froz 0; have y1 := hr7.froz 1; have y2 := hr7.froz 2; have y3 := hr7.froz 3
  have HR := Lib.hid hr7; have HB := Lib.hid hB7
  clear hr7 hB7
  go_wp2_with fail
  change bodyPost _ _ _ _ _ (setV w7 w.heap.size T7)
  obtain ⟨q0, q1, q2, q3⟩ := (HR.out.setV T7).at4
  simp only [Nat.zero_add] at q1 q2 q3
  have hB := HB.out.setV (b := w.heap.size) (Nat.le_refl _) T7
  clear r0 r1 r2 r3 y0 y1 y2 y3
  generalize setV w7 w.heap.size T7 = WZ at *
  exact bodyPost_ret (v := .tuple #[T7.V, .bool true]) (by simp [results, Tryd.results103, go_sem, q0, q1, q2, q3]) rfl ⟨by rw [Hc.out], hB⟩
set_option maxRecDepth 100000 in
set_option maxHeartbeats 4000000 in
theorem class_cntrl (w : World) : Calls Tryd.prog 103 #[.string (bs [99, 110, 116, 114, 108])] w fun en w' => en = .returned (.tuple #[(clsQ [99, 110, 116, 114, 108]).1.V, .bool (clsQ [99, 110, 116, 114, 108]).2]) ∧ Below w.heap.size w w' := by
  have Hc := Lib.hid (show clsQ [99, 110, 116, 114, 108] = (((w40.span 0 32).add 127), true) from rfl)
  go_enter Tryd.func103, Tryd.ntmps103
  go_upto_region 2 with fail
  generalize hW : (w.alloc _).alloc _ = W0
  have hr0 : SetAt W0 w.heap.size w40 := by subst hW; exact (SetAt.new w).later ((Below.refl _ _).alloc (Nat.le_refl _) _)
  have hn0 : SetAt W0 (w.heap.size + 1) w40 := by
    subst hW
    have := SetAt.new (w.alloc (.cells #[.int .u64 0, .int .u64 0, .int .u64 0, .int .u64 0] 24))
    simpa using this
  have hb0 : Below w.heap.size w W0 := by subst hW; exact ((Below.refl _ _).alloc (Nat.le_refl _) _).alloc (by simp) _
  clear hW
  obtain ⟨f0, f1, f2, f3⟩ := hn0.at4
  simp only [Nat.zero_add] at f1 f2 f3
  go_wp2_with fail
  refine (qspan_any W0 w40 65 90 (by omega) (by omega)).mono ?_
  rintro en w1 ⟨rfl, hb1⟩
  have hr1 := hr0.later hb1; have hn1 := hn0.later hb1; have hB1 := hb0.step hb1
  clear hr0 hn0 hb0 hb1 f0 f1 f2 f3
  go_wp2_with fail
  refine (qspan_any w1 (w40.span 65 26) 97 122 (by omega) (by omega)).mono ?_
  rintro en w2 ⟨rfl, hb2⟩
  have hr2 := hr1.later hb2; have hn2 := hn1.later hb2; have hB2 := hB1.step hb2
  clear hr1 hn1 hB1 hb2
  rw [show 122 + 1 - 97 = 26 from rfl]
  have hga : SetAt (w2.alloc (.cells #[.int .u64 ((w40.span 65 26).span 97 26).a, .int .u64 ((w40.span 65 26).span 97 26).b, .int .u64 ((w40.span 65 26).span 97 26).c, .int .u64 ((w40.span 65 26).span 97 26).d] 24)) w2.heap.size ((w40.span 65 26).span 97 26) := SetAt.box w2 _
  have Hga := Lib.hid hga
  clear hga
  generalize hA : ((w40.span 65 26).span 97 26) = TA at *
  have HA := Lib.hid hA
  clear hA
  go_upto_region 3 with fail
  generalize hW : w2.alloc _ = W3
  have hb3 : Below w2.heap.size w2 W3 := by subst hW; exact (Below.refl _ _).alloc (Nat.le_refl _) _
  have ha3 : SetAt W3 w2.heap.size TA := by subst hW; exact Hga.out
  clear hW Hga
  have hr3 := hr2.later hb3; have hn3 := hn2.later hb3; have hB3 := hB2.step hb3
  clear hr2 hn2 hB2 hb3
  obtain ⟨f0, f1, f2, f3⟩ := hn3.at4
  simp only [Nat.zero_add] at f1 f2 f3
  go_wp2_with fail
  refine (qspan_any W3 w40 48 57 (by omega) (by omega)).mono ?_
  rintro en w4 ⟨rfl, hb4⟩
  have hr4 := hr3.later hb4; have hn4 := hn3.later hb4; have hB4 := hB3.step hb4; have ha4 := ha3.later hb4
  clear hr3 hn3 hB3 hb4 ha3 f0 f1 f2 f3
  rw [show 57 + 1 - 48 = 10 from rfl]
  have hgd : SetAt (w4.alloc (.cells #[.int .u64 (w40.span 48 10).a, .int .u64 (w40.span 48 10).b, .int .u64 (w40.span 48 10).c, .int .u64 (w40.span 48 10).d] 24)) w4.heap.size (w40.span 48 10) := SetAt.box w4 _
  have Hgd := Lib.hid hgd
  clear hgd
  generalize hD : (w40.span 48 10) = TD at *
  have HD := Lib.hid hD
  clear hD
  go_upto_region 4 with fail
  generalize hW : w4.alloc _ = W5
  have hb5 : Below w4.heap.size w4 W5 := by subst hW; exact (Below.refl _ _).alloc (Nat.le_refl _) _
  have hd5 : SetAt W5 w4.heap.size TD := by subst hW; exact Hgd.out
  clear hW Hgd
  have hr5 := hr4.later hb5; have hn5 := hn4.later hb5; have hB5 := hB4.step hb5; have ha5 := ha4.later hb5
  clear hr4 hn4 hB4 hb5 ha4
  obtain ⟨n0, n1, n2, n3⟩ := hn5.at4
  obtain ⟨a0, a1, a2, a3⟩ := ha5.at4
  obtain ⟨d0, d1, d2, d3⟩ := hd5.at4
  simp only [Nat.zero_add] at n1 n2 n3 a1 a2 a3 d1 d2 d3
  go_wp2_with fail
  refine (qspan_any W5 w40 0 31 (by omega) (by omega)).mono ?_
  rintro en w6 ⟨rfl, hb6⟩
  have hr6 := hr5.later hb6; have hB6 := hB5.step hb6
  clear hr5 hB5 hb6 n0 n1 n2 n3 a0 a1 a2 a3 d0 d1 d2 d3 hn5 ha5 hd5
  rw [show 31 + 1 - 0 = 32 from rfl]
  generalize hX6 : (w40.span 0 32) = T6 at *
  have HX6 := Lib.hid hX6
  clear hX6
  go_wp2_with fail
  refine (qin_any w6 T6 127 (by omega)).mono ?_
  rintro en w7 ⟨rfl, hb7⟩
  have hr7 := hr6.later hb7; have hB7 := hB6.step hb7
  clear hr6 hB6 hb7
  generalize hX7 : (T6.add 127) = T7 at *
  have HX7 := Lib.hid hX7
  clear hX7
  obtain ⟨r0, r1, r2, r3⟩ := hr7.at4
  simp only [Nat.zero_add] at r1 r2 r3
  have y0 := hr7.froz 0; have y1 := hr7.froz 1; have y2 := hr7.froz 2; have y3 := hr7.froz 3
  have HR := Lib.hid hr7; have HB := Lib.hid hB7
  clear hr7 hB7
  go_wp2_with fail
  change bodyPost _ _ _ _ _ (setV w7 w.heap.size T7)
  obtain ⟨q0, q1, q2, q3⟩ := (HR.out.setV T7).at4
  simp only [Nat.zero_add] at q1 q2 q3
  have hB := HB.out.setV (b := w.heap.size) (Nat.le_refl _) T7
  clear r0 r1 r2 r3 y0 y1 y2 y3
  generalize setV w7 w.heap.size T7 = WZ at *
  exact bodyPost_ret (v := .tuple #[T7.V, .bool true]) (by simp [results, Tryd.results103, go_sem, q0, q1, q2, q3]) rfl ⟨by rw [Hc.out], hB⟩
set_option maxRecDepth 100000 in
set_option maxHeartbeats 4000000 in
theorem class_graph (w : World) : Calls Tryd.prog 103 #[.string (bs [103, 114, 97, 112, 104])] w fun en w' => en = .returned (.tuple #[(clsQ [103, 114, 97, 112, 104]).1.V, .bool (clsQ [103, 114, 97, 112, 104]).2]) ∧ Below w.heap.size w w' := by
  have Hc := Lib.hid (show clsQ [103, 114, 97, 112, 104] = ((w40.span 33 94), true) from rfl)
  go_enter Tryd.func103, Tryd.ntmps103
  go_upto_region 2 with fail
  generalize hW : (w.alloc _).alloc _ = W0
  have hr0 : SetAt W0 w.heap.size w40 := by subst hW; exact (SetAt.new w).later ((Below.refl _ _).alloc (Nat.le_refl _) _)
  have hn0 : SetAt W0 (w.heap.size + 1) w40 := by
    subst hW
    have := SetAt.new (w.alloc (.cells #[.int .u64 0, .int .u64 0, .int .u64 0, .int .u64 0] 24))
    simpa using this
  have hb0 : Below w.heap.size w W0 := by subst hW; exact ((Below.refl _ _).alloc (Nat.le_refl _) _).alloc (by simp) _
  clear hW
  obtain ⟨f0, f1, f2, f3⟩ := hn0.at4
  simp only [Nat.zero_add] at f1 f2 f3
  go_wp2_with fail
  refine (qspan_any W0 w40 65 90 (by omega) (by omega)).mono ?_
  rintro en w1 ⟨rfl, hb1⟩
  have hr1 := hr0.later hb1; have hn1 := hn0.later hb1; have hB1 := hb0.step hb1
  clear hr0 hn0 hb0 hb1 f0 f1 f2 f3
  go_wp2_with fail
  refine (qspan_any w1 (w40.span 65 26) 97 122 (by omega) (by omega)).mono ?_
  rintro en w2 ⟨rfl, hb2⟩
  have hr2 := hr1.later hb2; have hn2 := hn1.later hb2; have hB2 := hB1.step hb2
  clear hr1 hn1 hB1 hb2
  rw [show 122 + 1 - 97 = 26 from rfl]
  have hga : SetAt (w2.alloc (.cells #[.int .u64 ((w40.span 65 26).span 97 26).a, .int .u64 ((w40.span 65 26).span 97 26).b, .int .u64 ((w40.span 65 26).span 97 26).c, .int .u64 ((w40.span 65 26).span 97 26).d] 24)) w2.heap.size ((w40.span 65 26).span 97 26) := SetAt.box w2 _
  have Hga := Lib.hid hga
  clear hga
  generalize hA : ((w40.span 65 26).span 97 26) = TA at *
  have HA := Lib.hid hA
  clear hA
  go_upto_region 3 with fail
  generalize hW : w2.alloc _ = W3
  have hb3 : Below w2.heap.size w2 W3 := by subst hW; exact (Below.refl _ _).alloc (Nat.le_refl _) _
  have ha3 : SetAt W3 w2.heap.size TA := by subst hW; exact Hga.out
  clear hW Hga
  have hr3 := hr2.later hb3; have hn3 := hn2.later hb3; have hB3 := hB2.step hb3
  clear hr2 hn2 hB2 hb3
  obtain ⟨f0, f1, f2, f3⟩ := hn3.at4
  simp only [Nat.zero_add] at f1 f2 f3
  go_wp2_with fail
  refine (qspan_any W3 w40 48 57 (by omega) (by omega)).mono ?_
  rintro en w4 ⟨rfl, hb4⟩
  have hr4 := hr3.later hb4; have hn4 := hn3.later hb4; have hB4 := hB3.step hb4; have ha4 := ha3.later hb4
  clear hr3 hn3 hB3 hb4 ha3 f0 f1 f2 f3
  rw [show 57 + 1 - 48 = 10 from rfl]
  have hgd : SetAt (w4.alloc (.cells #[.int .u64 (w40.span 48 10).a, .int .u64 (w40.span 48 10).b, .int .u64 (w40.span 48 10).c, .int .u64 (w40.span 48 10).d] 24)) w4.heap.size (w40.span 48 10) := SetAt.box w4 _
  have Hgd := Lib.hid hgd
  clear hgd
  generalize hD : (w40.span 48 10) = TD at *
  have HD := Lib.hid hD
  clear hD
  go_upto_region 4 with fail
  generalize hW : w4.alloc _ = W5
  have hb5 : Below w4.heap.size w4 W5 := by subst hW; exact (Below.refl _ _).alloc (Nat.le_refl _) _
  have hd5 : SetAt W5 w4.heap.size TD := by subst hW; exact Hgd.out
  clear hW Hgd
  have hr5 := hr4.later hb5; have hn5 := hn4.later hb5; have hB5 := hB4.step hb5; have ha5 := ha4.later hb5
  clear hr4 hn4 hB4 hb5 ha4
  obtain ⟨n0, n1, n2, n3⟩ := hn5.at4
  obtain ⟨a0, a1, a2, a3⟩ := ha5.at4
  obtain ⟨d0, d1, d2, d3⟩ := hd5.at4
  simp only [Nat.zero_add] at n1 n2 n3 a1 a2 a3 d1 d2 d3
  go_wp2_with fail
  refine (qspan_any W5 w40 33 126 (by omega) (by omega)).mono ?_
  rintro en w6 ⟨rfl, hb6⟩
  have hr6 := hr5.later hb6; have hB6 := hB5.step hb6
  clear hr5 hB5 hb6 n0 n1 n2 n3 a0 a1 a2 a3 d0 d1 d2 d3 hn5 ha5 hd5
  rw [show 126 + 1 - 33 = 94 from rfl]
  generalize hX6 : (w40.span 33 94) = T6 at *
  have HX6 := Lib.hid hX6
  clear hX6
  obtain ⟨r0, r1, r2, r3⟩ := hr6.at4
  simp only [Nat.zero_add] at r1 r2 r3
  have y0 := hr6.froz 0; have y1 := hr6.froz 1; have y2 := hr6.froz 2; have y3 := hr6.froz 3
  have HR := Lib.hid hr6; have HB := Lib.hid hB6
  clear hr6 hB6
  go_wp2_with fail
  change bodyPost _ _ _ _ _ (setV w6 w.heap.size T6)
  obtain ⟨q0, q1, q2, q3⟩ := (HR.out.setV T6).at4
  simp only [Nat.zero_add] at q1 q2 q3
  have hB := HB.out.setV (b := w.heap.size) (Nat.le_refl _) T6
  clear r0 r1 r2 r3 y0 y1 y2 y3
  generalize setV w6 w.heap.size T6 = WZ at *
  exact bodyPost_ret (v := .tuple #[T6.V, .bool true]) (by simp [results, Tryd.results103, go_sem, q0, q1, q2, q3]) rfl ⟨by rw [Hc.out], hB⟩
set_option maxRecDepth 100000 in
set_option maxHeartbeats 4000000 in
theorem class_print (w : World) : Calls Tryd.prog 103 #[.string (bs [112, 114, 105, 110, 116])] w fun en w' => en = .returned (.tuple #[(clsQ [112, 114, 105, 110, 116]).1.V, .bool (clsQ [112, 114, 105, 110, 116]).2]) ∧ Below w.heap.size w w' := by
  have Hc := Lib.hid (show clsQ [112, 114, 105, 110, 116] = ((w40.span 32 95), true) from rfl)
  go_enter Tryd.func103, Tryd.ntmps103
  go_upto_region 2 with fail
  generalize hW : (w.alloc _).alloc _ = W0
  have hr0 : SetAt W0 w.heap.size w40 := by subst hW; exact (SetAt.new w).later ((Below.refl _ _).alloc (Nat.le_refl _) _)
  have hn0 : SetAt W0 (w.heap.size + 1) w40 := by
    subst hW
    have := SetAt.new (w.alloc (.cells #[.int .u64 0, .int .u64 0, .int .u64 0, .int .u64 0] 24))
    simpa using this
  have hb0 : Below w.heap.size w W0 := by subst hW; exact ((Below.refl _ _).alloc (Nat.le_refl _) _).alloc (by simp) _
  clear hW
  obtain ⟨f0, f1, f2, f3⟩ := hn0.at4
  simp only [Nat.zero_add] at f1 f2 f3
  go_wp2_with fail
  refine (qspan_any W0 w40 65 90 (by omega) (by omega)).mono ?_
  rintro en w1 ⟨rfl, hb1⟩
  have hr1 := hr0.later hb1; have hn1 := hn0.later hb1; have hB1 := hb0.step hb1
  clear hr0 hn0 hb0 hb1 f0 f1 f2 f3
  go_wp2_with fail
  refine (qspan_any w1 (w40.span 65 26) 97 122 (by omega) (by omega)).mono ?_
  rintro en w2 ⟨rfl, hb2⟩
  have hr2 := hr1.later hb2; have hn2 := hn1.later hb2; have hB2 := hB1.step hb2
  clear hr1 hn1 hB1 hb2
  rw [show 122 + 1 - 97 = 26 from rfl]
  have hga : SetAt (w2.alloc (.cells #[.int .u64 ((w40.span 65 26).span 97 26).a, .int .u64 ((w40.span 65 26).span 97 26).b, .int .u64 ((w40.span 65 26).span 97 26).c, .int .u64 ((w40.span 65 26).span 97 26).d] 24)) w2.heap.size ((w40.span 65 26).span 97 26) := SetAt.box w2 _
  have Hga := Lib.hid hga
  clear hga
  generalize hA : ((w40.span 65 26).span 97 26) = TA at *
  have HA := Lib.hid hA
  clear hA
  go_upto_region 3 with fail
  generalize hW : w2.alloc _ = W3
  have hb3 : Below w2.heap.size w2 W3 := by subst hW; exact (Below.refl _ _).alloc (Nat.le_refl _) _
  have ha3 : SetAt W3 w2.heap.size TA := by subst hW; exact Hga.out
  clear hW Hga
  have hr3 := hr2.later hb3; have hn3 := hn2.later hb3; have hB3 := hB2.step hb3
  clear hr2 hn2 hB2 hb3
  obtain ⟨f0, f1, f2, f3⟩ := hn3.at4
  simp only [Nat.zero_add] at f1 f2 f3
  go_wp2_with fail
  refine (qspan_any W3 w40 48 57 (by omega) (by omega)).mono ?_
  rintro en w4 ⟨rfl, hb4⟩
  have hr4 := hr3.later hb4; have hn4 := hn3.later hb4; have hB4 := hB3.step hb4; have ha4 := ha3.later hb4
  clear hr3 hn3 hB3 hb4 ha3 f0 f1 f2 f3
  rw [show 57 + 1 - 48 = 10 from rfl]
  have hgd : SetAt (w4.alloc (.cells #[.int .u64 (w40.span 48 10).a, .int .u64 (w40.span 48 10).b, .int .u64 (w40.span 48 10).c, .int .u64 (w40.span 48 10).d] 24)) w4.heap.size (w40.span 48 10) := SetAt.box w4 _
  have Hgd := Lib.hid hgd
  clear hgd
  generalize hD : (w40.span 48 10) = TD at *
  have HD := Lib.hid hD
  clear hD
  go_upto_region 4 with fail
  generalize hW : w4.alloc _ = W5
  have hb5 : Below w4.heap.size w4 W5 := by subst hW; exact (Below.refl _ _).alloc (Nat.le_refl _) _
  have hd5 : SetAt W5 w4.heap.size TD := by subst hW; exact Hgd.out
  clear hW Hgd
  have hr5 := hr4.later hb5; have hn5 := hn4.later hb5; have hB5 := hB4.step hb5; have ha5 := ha4.later hb5
  clear hr4 hn4 hB4 hb5 ha4
  obtain ⟨n0, n1, n2, n3⟩ := hn5.at4
  obtain ⟨a0, a1, a2, a3⟩ := ha5.at4
  obtain ⟨d0, d1, d2, d3⟩ := hd5.at4
  simp only [Nat.zero_add] at n1 n2 n3 a1 a2 a3 d1 d2 d3
  go_wp2_with fail
  refine (qspan_any W5 w40 32 126 (by omega) (by omega)).mono ?_
  rintro en w6 ⟨rfl, hb6⟩
  have hr6 := hr5.later hb6; have hB6 := hB5.step hb6
  clear hr5 hB5 hb6 n0 n1 n2 n3 a0 a1 a2 a3 d0 d1 d2 d3 hn5 ha5 hd5
  rw [show 126 + 1 - 32 = 95 from rfl]
  generalize hX6 : (w40.span 32 95) = T6 at *
  have HX6 := Lib.hid hX6
  clear hX6
  obtain ⟨r0, r1, r2, r3⟩ := hr6.at4
  simp only [Nat.zero_add] at r1 r2 r3
  have y0 := hr6.froz 0; have y1 := hr6.froz 1; have y2 := hr6.froz 2; have y3 := hr6.froz 3
  have HR := Lib.hid hr6; have HB := Lib.hid hB6
  clear hr6 hB6
  go_wp2_with fail
  change bodyPost _ _ _ _ _ (setV w6 w.heap.size T6)
  obtain ⟨q0, q1, q2, q3⟩ := (HR.out.setV T6).at4
  simp only [Nat.zero_add] at q1 q2 q3
  have hB := HB.out.setV (b := w.heap.size) (Nat.le_refl _) T6
  clear r0 r1 r2 r3 y0 y1 y2 y3
  generalize setV w6 w.heap.size T6 = WZ at *
  exact bodyPost_ret (v := .tuple #[T6.V, .bool true]) (by simp [results, Tryd.results103, go_sem, q0, q1, q2, q3]) rfl ⟨by rw [Hc.out], hB⟩
set_option maxRecDepth 100000 in
set_option maxHeartbeats 4000000 in
theorem class_punct (w : World) : Calls Tryd.prog 103 #[.string (bs [112, 117, 110, 99, 116])] w fun en w' => en = .returned (.tuple #[(clsQ [112, 117, 110, 99, 116]).1.V, .bool (clsQ [112, 117, 110, 99, 116]).2]) ∧ Below w.heap.size w w' := by
  have Hc := Lib.hid (show clsQ [112, 117, 110, 99, 116] = (((((w40.span 33 15).span 58 7).span 91 6).span 123 4), true) from rfl)
  go_enter Tryd.func103, Tryd.ntmps103
  go_upto_region 2 with fail
  generalize hW : (w.alloc _).alloc _ = W0
  have hr0 : SetAt W0 w.heap.size w40 := by subst hW; exact (SetAt.new w).later ((Below.refl _ _).alloc (Nat.le_refl _) _)
  have hn0 : SetAt W0 (w.heap.size + 1) w40 := by
    subst hW
    have := SetAt.new (w.alloc (.cells #[.int .u64 0, .int .u64 0, .int .u64 0, .int .u64 0] 24))
    simpa using this
  have hb0 : Below w.heap.size w W0 := by subst hW; exact ((Below.refl _ _).alloc (Nat.le_refl _) _).alloc (by simp) _
  clear hW
  obtain ⟨f0, f1, f2, f3⟩ := hn0.at4
  simp only [Nat.zero_add] at f1 f2 f3
  go_wp2_with fail
  refine (qspan_any W0 w40 65 90 (by omega) (by omega)).mono ?_
  rintro en w1 ⟨rfl, hb1⟩
  have hr1 := hr0.later hb1; have hn1 := hn0.later hb1; have hB1 := hb0.step hb1
  clear hr0 hn0 hb0 hb1 f0 f1 f2 f3
  go_wp2_with fail
  refine (qspan_any w1 (w40.span 65 26) 97 122 (by omega) (by omega)).mono ?_
  rintro en w2 ⟨rfl, hb2⟩
  have hr2 := hr1.later hb2; have hn2 := hn1.later hb2; have hB2 := hB1.step hb2
  clear hr1 hn1 hB1 hb2
  rw [show 122 + 1 - 97 = 26 from rfl]
  have hga : SetAt (w2.alloc (.cells #[.int .u64 ((w40.span 65 26).span 97 26).a, .int .u64 ((w40.span 65 26).span 97 26).b, .int .u64 ((w40.span 65 26).span 97 26).c, .int .u64 ((w40.span 65 26).span 97 26).d] 24)) w2.heap.size ((w40.span 65 26).span 97 26) := SetAt.box w2 _
  have Hga := Lib.hid hga
  clear hga
  generalize hA : ((w40.span 65 26).span 97 26) = TA at *
  have HA := Lib.hid hA
  clear hA
  go_upto_region 3 with fail
  generalize hW : w2.alloc _ = W3
  have hb3 : Below w2.heap.size w2 W3 := by subst hW; exact (Below.refl _ _).alloc (Nat.le_refl _) _
  have ha3 : SetAt W3 w2.heap.size TA := by subst hW; exact Hga.out
  clear hW Hga
  have hr3 := hr2.later hb3; have hn3 := hn2.later hb3; have hB3 := hB2.step hb3
  clear hr2 hn2 hB2 hb3
  obtain ⟨f0, f1, f2, f3⟩ := hn3.at4
  simp only [Nat.zero_add] at f1 f2 f3
  go_wp2_with fail
  refine (qspan_any W3 w40 48 57 (by omega) (by omega)).mono ?_
  rintro en w4 ⟨rfl, hb4⟩
  have hr4 := hr3.later hb4; have hn4 := hn3.later hb4; have hB4 := hB3.step hb4; have ha4 := ha3.later hb4
  clear hr3 hn3 hB3 hb4 ha3 f0 f1 f2 f3
  rw [show 57 + 1 - 48 = 10 from rfl]
  have hgd : SetAt (w4.alloc (.cells #[.int .u64 (w40.span 48 10).a, .int .u64 (w40.span 48 10).b, .int .u64 (w40.span 48 10).c, .int .u64 (w40.span 48 10).d] 24)) w4.heap.size (w40.span 48 10) := SetAt.box w4 _
  have Hgd := Lib.hid hgd
  clear hgd
  generalize hD : (w40.span 48 10) = TD at *
  have HD := Lib.hid hD
  clear hD
  go_upto_region 4 with fail
  generalize hW : w4.alloc _ = W5
  have hb5 : Below w4.heap.size w4 W5 := by subst hW; exact (Below.refl _ _).alloc (Nat.le_refl _) _
  have hd5 : SetAt W5 w4.heap.size TD := by subst hW; exact Hgd.out
  clear hW Hgd
  have hr5 := hr4.later hb5; have hn5 := hn4.later hb5; have hB5 := hB4.step hb5; have ha5 := ha4.later hb5
  clear hr4 hn4 hB4 hb5 ha4
  obtain ⟨n0, n1, n2, n3⟩ := hn5.at4
  obtain ⟨a0, a1, a2, a3⟩ := ha5.at4
  obtain ⟨d0, d1, d2, d3⟩ := hd5.at4
  simp only [Nat.zero_add] at n1 n2 n3 a1 a2 a3 d1 d2 d3
  go_wp2_with fail
  refine (qspan_any W5 w40 33 47 (by omega) (by omega)).mono ?_
  rintro en w6 ⟨rfl, hb6⟩
  have hr6 := hr5.later hb6; have hB6 := hB5.step hb6
  clear hr5 hB5 hb6 n0 n1 n2 n3 a0 a1 a2 a3 d0 d1 d2 d3 hn5 ha5 hd5
  rw [show 47 + 1 - 33 = 15 from rfl]
  generalize hX6 : (w40.span 33 15) = T6 at *
  have HX6 := Lib.hid hX6
  clear hX6
  go_wp2_with fail
  refine (qspan_any w6 T6 58 64 (by omega) (by omega)).mono ?_
  rintro en w7 ⟨rfl, hb7⟩
  have hr7 := hr6.later hb7; have hB7 := hB6.step hb7
  clear hr6 hB6 hb7
  rw [show 64 + 1 - 58 = 7 from rfl]
  generalize hX7 : (T6.span 58 7) = T7 at *
  have HX7 := Lib.hid hX7
  clear hX7
  go_wp2_with fail
  refine (qspan_any w7 T7 91 96 (by omega) (by omega)).mono ?_
  rintro en w8 ⟨rfl, hb8⟩
  have hr8 := hr7.later hb8; have hB8 := hB7.step hb8
  clear hr7 hB7 hb8
  rw [show 96 + 1 - 91 = 6 from rfl]
  generalize hX8 : (T7.span 91 6) = T8 at *
  have HX8 := Lib.hid hX8
  clear hX8
  go_wp2_with fail
  refine (qspan_any w8 T8 123 126 (by omega) (by omega)).mono ?_
  rintro en w9 ⟨rfl, hb9⟩
  have hr9 := hr8.later hb9; have hB9 := hB8.step hb9
  clear hr8 hB8 hb9
  rw [show 126 + 1 - 123 = 4 from rfl]
  generalize hX9 : (T8.span 123 4) = T9 at *
  have HX9 := Lib.hid hX9
  clear hX9
  obtain ⟨r0, r1, r2, r3⟩ := hr9.at4
  simp only [Nat.zero_add] at r1 r2 r3
  have y0 := hr9.froz 0; have y1 := hr9.froz 1; have y2 := hr9.froz 2; have y3 := hr9.froz 3
  have HR := Lib.hid hr9; have HB := Lib.hid hB9
  clear hr9 hB9
  go_wp2_with fail
  change bodyPost _ _ _ _ _ (setV w9 w.heap.size T9)
  obtain ⟨q0, q1, q2, q3⟩ := (HR.out.setV T9).at4
  simp only [Nat.zero_add] at q1 q2 q3
  have hB := HB.out.setV (b := w.heap.size) (Nat.le_refl _) T9
  clear r0 r1 r2 r3 y0 y1 y2 y3
  generalize setV w9 w.heap.size T9 = WZ at *
  exact bodyPost_ret (v := .tuple #[T9.V, .bool true]) (by simp [results, Tryd.results103, go_sem, q0, q1, q2, q3]) rfl ⟨by rw [Hc.out], hB⟩
set_option maxRecDepth 100000 in
set_option maxHeartbeats 4000000 in
theorem class_none (w : World) (nm : Bs) (h : nm ≠ [97, 108, 112, 104, 97] ∧ nm ≠ [117, 112, 112, 101, 114] ∧ nm ≠ [108, 111, 119, 101, 114] ∧ nm ≠ [100, 105, 103, 105, 116] ∧ nm ≠ [97, 108, 110, 117, 109] ∧ nm ≠ [120, 100, 105, 103, 105, 116] ∧ nm ≠ [115, 112, 97, 99, 101] ∧ nm ≠ [98, 108, 97, 110, 107] ∧ nm ≠ [99, 110, 116, 114, 108] ∧ nm ≠ [103, 114, 97, 112, 104] ∧ nm ≠ [112, 114, 105, 110, 116] ∧ nm ≠ [112, 117, 110, 99, 116]) : Calls Tryd.prog 103 #[.string (bs nm)] w fun en w' => en = .returned (.tuple #[(clsQ nm).1.V, .bool (clsQ nm).2]) ∧ Below w.heap.size w w' := by
  have hc : clsQ nm = (w40, false) := by
    obtain ⟨h0, h1, h2, h3, h4, h5, h6, h7, h8, h9, h10, h11⟩ := h
    unfold clsQ classW
    rw [if_neg h0, if_neg h1, if_neg h2, if_neg h3, if_neg h4, if_neg h5, if_neg h6, if_neg h7, if_neg h8, if_neg h9, if_neg h10, if_neg h11]
  have Hc := Lib.hid hc
  obtain ⟨h0, h1, h2, h3, h4, h5, h6, h7, h8, h9, h10, h11⟩ := h
  have e0 : (nm == [97, 108, 112, 104, 97]) = false := by rw [beq_eq_false_iff_ne]; exact h0
  have e1 : (nm == [117, 112, 112, 101, 114]) = false := by rw [beq_eq_false_iff_ne]; exact h1
  have e2 : (nm == [108, 111, 119, 101, 114]) = false := by rw [beq_eq_false_iff_ne]; exact h2
  have e3 : (nm == [100, 105, 103, 105, 116]) = false := by rw [beq_eq_false_iff_ne]; exact h3
  have e4 : (nm == [97, 108, 110, 117, 109]) = false := by rw [beq_eq_false_iff_ne]; exact h4
  have e5 : (nm == [120, 100, 105, 103, 105, 116]) = false := by rw [beq_eq_false_iff_ne]; exact h5
  have e6 : (nm == [115, 112, 97, 99, 101]) = false := by rw [beq_eq_false_iff_ne]; exact h6
  have e7 : (nm == [98, 108, 97, 110, 107]) = false := by rw [beq_eq_false_iff_ne]; exact h7
  have e8 : (nm == [99, 110, 116, 114, 108]) = false := by rw [beq_eq_false_iff_ne]; exact h8
  have e9 : (nm == [103, 114, 97, 112, 104]) = false := by rw [beq_eq_false_iff_ne]; exact h9
  have e10 : (nm == [112, 114, 105, 110, 116]) = false := by rw [beq_eq_false_iff_ne]; exact h10
  have e11 : (nm == [112, 117, 110, 99, 116]) = false := by rw [beq_eq_false_iff_ne]; exact h11
  clear hc h0 h1 h2 h3 h4 h5 h6 h7 h8 h9 h10 h11
  go_enter Tryd.func103, Tryd.ntmps103
  go_upto_region 2 with fail
  generalize hW : (w.alloc _).alloc _ = W0
  have hr0 : SetAt W0 w.heap.size w40 := by subst hW; exact (SetAt.new w).later ((Below.refl _ _).alloc (Nat.le_refl _) _)
  have hn0 : SetAt W0 (w.heap.size + 1) w40 := by
    subst hW
    have := SetAt.new (w.alloc (.cells #[.int .u64 0, .int .u64 0, .int .u64 0, .int .u64 0] 24))
    simpa using this
  have hb0 : Below w.heap.size w W0 := by subst hW; exact ((Below.refl _ _).alloc (Nat.le_refl _) _).alloc (by simp) _
  clear hW
  obtain ⟨f0, f1, f2, f3⟩ := hn0.at4
  simp only [Nat.zero_add] at f1 f2 f3
  go_wp2_with fail
  refine (qspan_any W0 w40 65 90 (by omega) (by omega)).mono ?_
  rintro en w1 ⟨rfl, hb1⟩
  have hr1 := hr0.later hb1; have hn1 := hn0.later hb1; have hB1 := hb0.step hb1
  clear hr0 hn0 hb0 hb1 f0 f1 f2 f3
  go_wp2_with fail
  refine (qspan_any w1 (w40.span 65 26) 97 122 (by omega) (by omega)).mono ?_
  rintro en w2 ⟨rfl, hb2⟩
  have hr2 := hr1.later hb2; have hn2 := hn1.later hb2; have hB2 := hB1.step hb2
  clear hr1 hn1 hB1 hb2
  rw [show 122 + 1 - 97 = 26 from rfl]
  have hga : SetAt (w2.alloc (.cells #[.int .u64 ((w40.span 65 26).span 97 26).a, .int .u64 ((w40.span 65 26).span 97 26).b, .int .u64 ((w40.span 65 26).span 97 26).c, .int .u64 ((w40.span 65 26).span 97 26).d] 24)) w2.heap.size ((w40.span 65 26).span 97 26) := SetAt.box w2 _
  have Hga := Lib.hid hga
  clear hga
  generalize hA : ((w40.span 65 26).span 97 26) = TA at *
  have HA := Lib.hid hA
  clear hA
  go_upto_region 3 with fail
  generalize hW : w2.alloc _ = W3
  have hb3 : Below w2.heap.size w2 W3 := by subst hW; exact (Below.refl _ _).alloc (Nat.le_refl _) _
  have ha3 : SetAt W3 w2.heap.size TA := by subst hW; exact Hga.out
  clear hW Hga
  have hr3 := hr2.later hb3; have hn3 := hn2.later hb3; have hB3 := hB2.step hb3
  clear hr2 hn2 hB2 hb3
  obtain ⟨f0, f1, f2, f3⟩ := hn3.at4
  simp only [Nat.zero_add] at f1 f2 f3
  go_wp2_with fail
  refine (qspan_any W3 w40 48 57 (by omega) (by omega)).mono ?_
  rintro en w4 ⟨rfl, hb4⟩
  have hr4 := hr3.later hb4; have hn4 := hn3.later hb4; have hB4 := hB3.step hb4; have ha4 := ha3.later hb4
  clear hr3 hn3 hB3 hb4 ha3 f0 f1 f2 f3
  rw [show 57 + 1 - 48 = 10 from rfl]
  have hgd : SetAt (w4.alloc (.cells #[.int .u64 (w40.span 48 10).a, .int .u64 (w40.span 48 10).b, .int .u64 (w40.span 48 10).c, .int .u64 (w40.span 48 10).d] 24)) w4.heap.size (w40.span 48 10) := SetAt.box w4 _
  have Hgd := Lib.hid hgd
  clear hgd
  generalize hD : (w40.span 48 10) = TD at *
  have HD := Lib.hid hD
  clear hD
  go_upto_region 4 with fail
  generalize hW : w4.alloc _ = W5
  have hb5 : Below w4.heap.size w4 W5 := by subst hW; exact (Below.refl _ _).alloc (Nat.le_refl _) _
  have hd5 : SetAt W5 w4.heap.size TD := by subst hW; exact Hgd.out
  clear hW Hgd
  have hr5 := hr4.later hb5; have hn5 := hn4.later hb5; have hB5 := hB4.step hb5; have ha5 := ha4.later hb5
  clear hr4 hn4 hB4 hb5 ha4
  obtain ⟨n0, n1, n2, n3⟩ := hn5.at4
  obtain ⟨a0, a1, a2, a3⟩ := ha5.at4
  obtain ⟨d0, d1, d2, d3⟩ := hd5.at4
  simp only [Nat.zero_add] at n1 n2 n3 a1 a2 a3 d1 d2 d3
  obtain ⟨r0, r1, r2, r3⟩ := hr5.at4
  simp only [Nat.zero_add] at r1 r2 r3
  have y0 := hr5.froz 0; have y1 := hr5.froz 1; have y2 := hr5.froz 2; have y3 := hr5.froz 3
  have HR := Lib.hid hr5; have HB := Lib.hid hB5
  clear hr5 hB5
  go_wp2_with fail
  change bodyPost _ _ _ _ _ (setV W5 w.heap.size w40)
  obtain ⟨q0, q1, q2, q3⟩ := (HR.out.setV w40).at4
  simp only [Nat.zero_add] at q1 q2 q3
  have hB := HB.out.setV (b := w.heap.size) (Nat.le_refl _) w40
  clear r0 r1 r2 r3 y0 y1 y2 y3
  clear n0 n1 n2 n3 a0 a1 a2 a3 d0 d1 d2 d3
  generalize setV W5 w.heap.size w40 = WZ at *
  exact bodyPost_ret (v := .tuple #[w40.V, .bool false]) (by simp [results, Tryd.results103, go_sem, q0, q1, q2, q3]) rfl ⟨by rw [Hc.out], hB⟩
theorem class_is (w : World) (nm : Bs) : Calls Tryd.prog 103 #[.string (bs nm)] w fun en w' => en = .returned (.tuple #[(clsQ nm).1.V, .bool (clsQ nm).2]) ∧ Below w.heap.size w w' := by
  by_cases h0 : nm = [97, 108, 112, 104, 97]
  · subst h0; exact class_alpha w
  by_cases h1 : nm = [117, 112, 112, 101, 114]
  · subst h1; exact class_upper w
  by_cases h2 : nm = [108, 111, 119, 101, 114]
  · subst h2; exact class_lower w
  by_cases h3 : nm = [100, 105, 103, 105, 116]
  · subst h3; exact class_digit w
  by_cases h4 : nm = [97, 108, 110, 117, 109]
  · subst h4; exact class_alnum w
  by_cases h5 : nm = [120, 100, 105, 103, 105, 116]
  · subst h5; exact class_xdigit w
  by_cases h6 : nm = [115, 112, 97, 99, 101]
  · subst h6; exact class_space w
  by_cases h7 : nm = [98, 108, 97, 110, 107]
  · subst h7; exact class_blank w
  by_cases h8 : nm = [99, 110, 116, 114, 108]
  · subst h8; exact class_cntrl w
  by_cases h9 : nm = [103, 114, 97, 112, 104]
  · subst h9; exact class_graph w
  by_cases h10 : nm = [112, 114, 105, 110, 116]
  · subst h10; exact class_print w
  by_cases h11 : nm = [112, 117, 110, 99, 116]
  · subst h11; exact class_punct w
  exact class_none w nm ⟨h0, h1, h2, h3, h4, h5, h6, h7, h8, h9, h10, h11⟩
end Go.Proofs.YteekafkpeimhoaaDoor

/- vouchref10's Reader: named: walked. -/
set_option linter.unusedVariables false
set_option linter.unusedSimpArgs false
namespace Go.Proofs.YteekafkpeimhoaaDoor
open Go.RowKit

/-- What a step hands back that puts into a set. -/
def QSetR (p : Nat) (St : Bs) (op : Int) (f : Bs → Except Int (W4 × Bs)) (r : Bs) (w : World) (en : Ending) (w' : World) : Prop :=
  ∃ (T : W4) (k' : Nat) (s' : Rs), en = .returned T.V ∧ RQ w' p St k' op s' ∧ Off p w w' ∧ Out f (.ok r) (fun x => T = x) s'
theorem rq_below {w w' : World} {p : Nat} {S : Bs} {k : Nat} {op : Int} {s : Rs} (h : RQ w p S k op s) {B : Nat} (hb : Below B w w') (hp : p < B) : RQ w' p S k op s :=
  ⟨⟨(hb.cell (p := ⟨p, 0, none⟩) hp).trans h.rdr.c0, (hb.cell (p := ⟨p, 1, none⟩) hp).trans h.rdr.c1, (hb.cell (p := ⟨p, 2, none⟩) hp).trans h.rdr.c2, (hb.cell (p := ⟨p, 3, none⟩) hp).trans h.rdr.c3, fun o => (hb.frozen (p := ⟨p, o, none⟩) hp).trans (h.rdr.z o), Nat.lt_of_lt_of_le h.rdr.lt hb.size, h.rdr.le, h.rdr.top⟩, h.ok, h.ne⟩
theorem RQ.put {w : World} {p : Nat} {S : Bs} {k : Nat} {op : Int} {s : Rs} (h : RQ w p S k op s) {b : Nat} (hb : p < b) (o : Nat) (v : Value) : RQ (w.setCell ⟨b, o, none⟩ v) p S k op s := rq_below h ((Below.refl b w).setCell (p := ⟨b, o, none⟩) (Nat.le_refl _) v) hb
theorem RQ.fillV {w : World} {p : Nat} {S : Bs} {k : Nat} {op : Int} {s : Rs} (h : RQ w p S k op s) {b : Nat} (hb : p < b) (T : W4) : RQ (setV w b T) p S k op s := rq_below h ((Below.refl b w).setV (Nat.le_refl _) T) hb
theorem Off.box {p : Nat} {w w1 : World} (h : Off p w w1) {b : Nat} (hb : w.heap.size ≤ b) (o : Nat) (v : Value) : Off p w (w1.setCell ⟨b, o, none⟩ v) := h.far hb rfl rfl rfl (by simp) (fun k hk => Below.heap_setCell _ _ _ _ hk)
/-- The reader put at another place: what stands there, or an error. -/
theorem RQ.goto {w : World} {p : Nat} {S : Bs} {k : Nat} {op : Int} {s : Rs} (h : RQ w p S k op s) (k' : Nat) (hk : k' ≤ S.length) (hok : ∀ r, s = .ok r → False) : RQ (w.setCell ⟨p, 1, none⟩ (.int .i64 (k' : Int))) p S k' op s :=
  ⟨h.rdr.set1 hk, fun r he => (hok r he).elim, h.ne⟩
theorem RQ.goon' {w : World} {p : Nat} {S : Bs} {k : Nat} {op : Int} {r : Bs} (h : RQ w p S k op (.ok r)) (k' : Nat) (hk : k' ≤ S.length) (r' : Bs) (hr : r' = S.drop k') : RQ (w.setCell ⟨p, 1, none⟩ (.int .i64 (k' : Int))) p S k' op (.ok r') :=
  ⟨h.rdr.set1 hk, fun r he => by cases he; exact hr, fun e he => by cases he⟩
theorem RQ.goon {w : World} {p : Nat} {S : Bs} {k : Nat} {op : Int} {r : Bs} (h : RQ w p S k op (.ok r)) (k' : Nat) (hk : k' ≤ S.length) (r' : Bs) (hr : r' = S.drop k') : RQ (w.setCell ⟨p, 1, none⟩ (.int .i64 (k' : Int))) p S k' op (.ok r') :=
  ⟨h.rdr.set1 hk, fun r he => by cases he; exact hr, fun e he => by cases he⟩
def addPre (a : Bs) (x : Option (Bs × Bs)) : Option (Bs × Bs) := match x with | some (u, v) => some (a ++ u, v) | none => none
theorem cut_cons (c : UInt8) (t : Bs) (h : takeP [58, 93] (c :: t) = none) : cutP (c :: t) = addPre [c] (cutP t) := by
  rw [cutP, h]
  simp only [addPre]
  cases cutP t with
  | none => rfl
  | some x => rfl
theorem addPre_add (a b : Bs) (x : Option (Bs × Bs)) : addPre a (addPre b x) = addPre (a ++ b) x := by
  cases x with
  | none => rfl
  | some x => simp [addPre]
theorem take_sign (c d : UInt8) (t : Bs) : takeP [58, 93] (c :: d :: t) = if c = 58 ∧ d = 93 then some t else none := by
  rw [takeP_cons]
  by_cases h : c = 58
  · subst h
    rw [if_pos rfl, takeP_one]
    by_cases h2 : d = 93
    · subst h2; simp
    · rw [if_neg (fun h => h2 h.symm), if_neg (fun h => h2 h.2)]
  · rw [if_neg (fun h' => h h'.symm), if_neg (fun h' => h h'.1)]
theorem cut_short (r : Bs) (h : r.length < 2) : cutP r = none := by
  match r, h with
  | [], _ => rfl
  | [c], _ =>
    rw [cut_cons]
    · rfl
    · rw [takeP_cons]
      split
      · exact takeP_nil _ (by simp)
      · rfl
set_option maxRecDepth 100000 in
set_option maxHeartbeats 8000000 in
theorem qnamed_any (w : World) (p : Nat) (St : Bs) (k : Nat) (op : Int) (a0 b0 : UInt8) (r : Bs) (Z : W4) (h : RQ w p St k op (.ok (a0 :: b0 :: r))) :
    Calls Tryd.prog 93 #[.pointer (some ⟨p, 0, none⟩), Z.V] w fun en w' => QSetR p St op (classP Z) r w en w' := by
  have hl := h.len
  have hp := h.lt
  have H := Lib.hid h
  have sS := bsq_size St
  have hkb : k ≤ 1024 := Nat.le_trans h.rdr.le h.rdr.top
  have hlb : St.length ≤ 1024 := h.rdr.top
  simp only [List.length_cons] at hl
  have hdrop := h.ok _ rfl
  have Hdr := Lib.hid (show r = St.drop (k + 2) by rw [← List.drop_drop, ← hdrop]; rfl)
  have Hl := Lib.hid hl
  clear h hdrop hl
  go_enter Tryd.func93, Tryd.ntmps93
  go_upto_region 1 with fail
  generalize hW : (w.alloc _).alloc _ = W0
  have hs0 : SetAt W0 w.heap.size Z := by subst hW; exact (SetAt.box w Z).later ((Below.refl _ _).alloc (Nat.le_refl _) _)
  have hr0 : SetAt W0 (w.heap.size + 1) w40 := by
    subst hW
    have := SetAt.new (w.alloc (.cells #[.int .u64 Z.a, .int .u64 Z.b, .int .u64 Z.c, .int .u64 Z.d] 24))
    simpa using this
  have hb0 : Below w.heap.size w W0 := by subst hW; exact ((Below.refl _ _).alloc (Nat.le_refl _) _).alloc (by simp) _
  clear hW
  have hz1 := hr0.lt
  have h0 := H.out.later hb0
  have c0 := h0.rdr.c0
  have c1 := h0.rdr.c1
  have H0 := Lib.hid h0; have HS0 := Lib.hid hs0; have HR0 := Lib.hid hr0; have HO0 := Lib.hid (Off.of_below (p := p) hb0)
  clear H h0 hs0 hr0 hb0
  have hbw : w.heap.size ≤ w.heap.size := Nat.le_refl _
  obtain ⟨b, hb⟩ : ∃ b, b = w.heap.size := ⟨_, rfl⟩
  rw [← hb] at hz1 hp
  rw [← hb]
  have HS0 := Lib.hid (show SetAt W0 b Z by rw [hb]; exact HS0.out)
  have HR0 := Lib.hid (show SetAt W0 (b + 1) w40 by rw [hb]; exact HR0.out)
  have hbw : w.heap.size ≤ b := by omega
  clear hb
  go_wp2_with fail
  go_loopg [6] (r.length + 1) (fun n i wr => ∃ (j m : Nat), i = .int .i64 m ∧ W0 = wr ∧ m = k + 2 + j ∧ j ≤ r.length ∧ n + j = r.length + 1 ∧ cutP r = addPre (r.take j) (cutP (r.drop j)))
  case atStart => exact ⟨0, k + 2, by go_num, rfl, by omega, by omega, by omega, by simp only [List.take_zero, List.drop_zero]; cases cutP r <;> rfl⟩
  case round =>
    obtain ⟨j, m, rfl, rfl, hm, hj, hn, hcut⟩ := hrel
    have Hcut := Lib.hid hcut
    clear hcut
    by_cases hlt : m + 2 ≤ St.length
    · have hlI : (m : Int) + 2 ≤ (St.length : Int) := by omega
      have hlI2 : decide ((St.length : Int) < (m : Int) + 2) = false := by rw [decide_eq_false_iff_not]; omega
      obtain ⟨c, d, t, hd⟩ : ∃ c d t, r.drop j = c :: d :: t := by
        have hh : 2 ≤ (r.drop j).length := by have := Hl.out; rw [List.length_drop]; omega
        match hq : r.drop j, hh with
        | c :: d :: t, _ => exact ⟨c, d, t, rfl⟩
      have hdm : St.drop m = c :: d :: t := by rw [← hd, Hdr.out, List.drop_drop, hm]
      have hsl : ∀ w, (Instr.slice 9 (.string (bs St)) (some (.int .i64 (m : Int))) (some (.int .i64 ((m : Int) + 2))) none).run Tryd.prog w = .ok (.string (bs [c, d])) w := fun w => by
        have := qrun_cut St m 2 hlt w
        rw [hdm] at this
        exact this
      have Hd := Lib.hid hd; have Hdm := Lib.hid hdm
      clear hd hdm
      by_cases hcd : c = 58 ∧ d = 93
      · obtain ⟨rfl, rfl⟩ := hcd
        have hne : (([58, 93] : Bs) != [58, 93]) = false := by simp
        have hcr : cutP r = some (r.take j, t) := by
          rw [Hcut.out, Hd.out, cutP, take_sign, if_pos ⟨rfl, rfl⟩]
          simp [addPre]
        have hcls : classP Z r = match classW (r.take j) with | none => .error 103 | some x => .ok (Z.or x, t) := by simp only [classP, hcr]; rfl
        have Hcls := Lib.hid hcls
        have hcut2 : ∀ w, (Instr.slice 9 (.string (bs St)) (some (.int .i64 ((k : Int) + 2))) (some (.int .i64 (m : Int))) none).run Tryd.prog w = .ok (.string (bs (r.take j))) w := fun w => by
          have := qrun_cut St (k + 2) j (by omega) w
          rw [← Hdr.out, show ((k + 2 : Nat) : Int) + (j : Int) = (m : Int) by omega, show ((k + 2 : Nat) : Int) = (k : Int) + 2 by omega] at this
          exact this
        have hRt := Lib.hid (show t = St.drop (m + 2) by rw [← List.drop_drop, Hdm.out]; rfl)
        have hmk : k + 2 ≤ m := by omega
        have Hm := Lib.hid hm
        clear hcr hcls Hcut hm
        go_wp2_with fail
        refine (class_is W0 (r.take j)).mono ?_
        rintro en w2 ⟨rfl, hb2⟩
        have h2 := H0.out.later hb2
        have hO2 := HO0.out.trans (Off.of_below (p := p) hb2)
        have hS2 := HS0.out.later hb2
        have hR2 := HR0.out.later hb2
        have hz2 := hR2.lt
        generalize hq : clsQ (r.take j) = q
        obtain ⟨X, ok⟩ := q
        simp only
        have HQ := Lib.hid hq
        clear hq
        have H2 := Lib.hid h2; have HO2 := Lib.hid hO2; have HS2 := Lib.hid hS2; have HR2 := Lib.hid hR2
        clear h2 hO2 hS2 hR2 hb2 H0 HO0 HS0 HR0 c0 c1
        go_upto_region 9 with fail
        generalize hW : w2.alloc _ = W3
        have hX3 : SetAt W3 w2.heap.size X := by subst hW; exact SetAt.box w2 X
        have hb3 : Below w2.heap.size w2 W3 := by subst hW; exact (Below.refl _ _).alloc (Nat.le_refl _) _
        clear hW
        have HX3 := Lib.hid hX3
        have H3 := Lib.hid (H2.out.later hb3)
        have HO3 := Lib.hid (HO2.out.trans (Off.of_below (p := p) hb3))
        have HS3 := Lib.hid (HS2.out.later hb3)
        have HR3 := Lib.hid (HR2.out.later hb3)
        have hb71 : b + 1 < w2.heap.size := hz2
        clear hX3 hb3 H2 HO2 HS2 HR2 hz2
        generalize w2.heap.size = b7 at *
        obtain ⟨xa, xb, xc, xd⟩ := X
        cases ok with
        | false =>
          have HQ2 := Lib.hid (show classP Z r = .error 103 by
            rw [Hcls.out]
            have := HQ.out
            unfold clsQ at this
            split at this
            · cases this
            · rename_i hh; rw [hh])
          clear Hcls HQ
          go_wp2_with fail
          refine (qfail_ok 103 (by omega) H3.out).mono ?_
          rintro en w4 ⟨rfl, h4, hO4⟩
          have HX4 := Lib.hid (HX3.out.off hO4 (by omega))
          have HS4 := Lib.hid (HS3.out.off hO4 (by omega))
          have HR4 := Lib.hid (HR3.out.off hO4 (by omega))
          have HO4 := Lib.hid (HO3.out.trans hO4)
          have H4 := Lib.hid h4
          clear HX3 HS3 HR3 HO3 H3 h4 hO4
          have c1 := H4.out.rdr.c1
          have y1 := H4.out.rdr.z 1
          go_upto_region 12 with fail
          have h6 := H4.out.goto (m + 2) (by omega) (fun r he => by cases he)
          rw [show ((m + 2 : Nat) : Int) = (m : Int) + 2 by omega] at h6
          have hO6 := HO4.out.set 1 (.int .i64 ((m : Int) + 2))
          have HX6 := Lib.hid (HX4.out.other (b' := p) (by omega) 1 (.int .i64 ((m : Int) + 2)))
          have HA6 := Lib.hid (HS4.out.other (b' := p) (by omega) 1 (.int .i64 ((m : Int) + 2)))
          have HZ6 := Lib.hid (HR4.out.other (b' := p) (by omega) 1 (.int .i64 ((m : Int) + 2)))
          have HR6 := Lib.hid h6; have HO6 := Lib.hid hO6
          have HOut := Lib.hid (show Out (classP Z) (.ok r) (fun x => Z.or ⟨xa, xb, xc, xd⟩ = x) (.error 103) from Out.bad HQ2.out)
          clear h6 hO6 HX4 HS4 HR4 HO4 H4 c1 y1 HQ2
          generalize (Except.error 103 : Rs) = s6 at *
          generalize w4.setCell _ _ = W6 at *
          obtain ⟨k6, hk6⟩ : ∃ k6, k6 = m + 2 := ⟨_, rfl⟩
          rw [← hk6] at HR6
          clear hk6
          go_wp2_with fail
          go_loopg [9] 4 (fun gk i wr => ∃ j : Nat, i = .int .i64 j ∧ j + gk = 4 ∧ RQ wr p St k6 op s6 ∧ SetAt wr b (Z.orTo ⟨xa, xb, xc, xd⟩ j) ∧ SetAt wr b7 ⟨xa, xb, xc, xd⟩ ∧ SetAt wr (b + 1) w40 ∧ Off p w wr)
          case atStart => exact ⟨0, rfl, rfl, HR6.out, by rw [orTo_0]; exact HA6.out, HX6.out, HZ6.out, HO6.out⟩
          case round =>
            obtain ⟨j, rfl, hj, hR, hS, hX, hZ, hO⟩ := hrel
            have HR := Lib.hid hR; have HSr := Lib.hid hS; have HXr := Lib.hid hX; have HZr := Lib.hid hZ; have HOr := Lib.hid hO
            have z0 := hS.froz 0; have z1 := hS.froz 1; have z2 := hS.froz 2; have z3 := hS.froz 3
            obtain ⟨f0, f1, f2, f3⟩ := hS.at4
            obtain ⟨x0, x1, x2, x3⟩ := hX.at4
            simp only [Nat.zero_add] at f1 f2 f3 x1 x2 x3
            clear hR hS hX hZ hO HR6 HA6 HX6 HZ6 HO6
            rcases (show j = 0 ∨ j = 1 ∨ j = 2 ∨ j = 3 ∨ j = 4 by omega) with rfl | rfl | rfl | rfl | rfl
            · simp [W4.orTo] at f0
              go_wp2_with fail
              go_region
              all_goals
                go_wp2_with fail
                go_roundg (gk - 1)
                case measure => omega
                case rel => exact ⟨1, by go_num, by omega, ((HR.out.put hp 0 _).drew), SetAt.drew (by have h1 := HSr.out.put 0 (by omega) (bits .or .u64 Z.a xa); rw [orTo_put Z ⟨xa, xb, xc, xd⟩ 0 (by omega) (bits .or .u64 Z.a xa) rfl] at h1; exact h1), SetAt.drew (HXr.out.other (by omega) _ _), SetAt.drew (HZr.out.other (by omega) _ _), (HOr.out.box hbw _ _).drew⟩
            · simp [W4.orTo] at f1
              go_wp2_with fail
              go_region
              all_goals
                go_wp2_with fail
                go_roundg (gk - 1)
                case measure => omega
                case rel => exact ⟨2, by go_num, by omega, ((HR.out.put hp 1 _).drew), SetAt.drew (by have h1 := HSr.out.put 1 (by omega) (bits .or .u64 Z.b xb); rw [orTo_put Z ⟨xa, xb, xc, xd⟩ 1 (by omega) (bits .or .u64 Z.b xb) rfl] at h1; exact h1), SetAt.drew (HXr.out.other (by omega) _ _), SetAt.drew (HZr.out.other (by omega) _ _), (HOr.out.box hbw _ _).drew⟩
            · simp [W4.orTo] at f2
              go_wp2_with fail
              go_region
              all_goals
                go_wp2_with fail
                go_roundg (gk - 1)
                case measure => omega
                case rel => exact ⟨3, by go_num, by omega, ((HR.out.put hp 2 _).drew), SetAt.drew (by have h1 := HSr.out.put 2 (by omega) (bits .or .u64 Z.c xc); rw [orTo_put Z ⟨xa, xb, xc, xd⟩ 2 (by omega) (bits .or .u64 Z.c xc) rfl] at h1; exact h1), SetAt.drew (HXr.out.other (by omega) _ _), SetAt.drew (HZr.out.other (by omega) _ _), (HOr.out.box hbw _ _).drew⟩
            · simp [W4.orTo] at f3
              go_wp2_with fail
              go_region
              all_goals
                go_wp2_with fail
                go_roundg (gk - 1)
                case measure => omega
                case rel => exact ⟨4, by go_num, by omega, ((HR.out.put hp 3 _).drew), SetAt.drew (by have h1 := HSr.out.put 3 (by omega) (bits .or .u64 Z.d xd); rw [orTo_put Z ⟨xa, xb, xc, xd⟩ 3 (by omega) (bits .or .u64 Z.d xd) rfl] at h1; exact h1), SetAt.drew (HXr.out.other (by omega) _ _), SetAt.drew (HZr.out.other (by omega) _ _), (HOr.out.box hbw _ _).drew⟩
            · have HSo := Lib.hid (show SetAt wr b (Z.or ⟨xa, xb, xc, xd⟩) by rw [← orTo_all]; exact HSr.out)
              clear z0 z1 z2 z3 f0 f1 f2 f3 x0 x1 x2 x3 HSr
              generalize hT : Z.or ⟨xa, xb, xc, xd⟩ = TT at *
              have HT := Lib.hid hT
              clear hT
              obtain ⟨f0, f1, f2, f3⟩ := HSo.out.at4
              obtain ⟨g0, g1, g2, g3⟩ := HZr.out.at4
              simp only [Nat.zero_add] at f1 f2 f3 g1 g2 g3
              have y0 := HZr.out.froz 0; have y1 := HZr.out.froz 1; have y2 := HZr.out.froz 2; have y3 := HZr.out.froz 3
              go_wp2_with fail
              change bodyPost _ _ _ _ _ (setV wr (b + 1) TT)
              obtain ⟨q0, q1, q2, q3⟩ := (HZr.out.setV TT).at4
              simp only [Nat.zero_add] at q1 q2 q3
              have hRV : RQ (setV wr (b + 1) TT) p St k6 op s6 := HR.out.fillV (by omega) TT
              have hOV : Off p w (setV wr (b + 1) TT) := Off.setV HOr.out (b := b + 1) (by omega) TT
              clear f0 f1 f2 f3 g0 g1 g2 g3 y0 y1 y2 y3
              generalize setV wr (b + 1) TT = WZ at *
              exact bodyPost_ret (v := TT.V) (by simp [results, Tryd.results93, go_sem, q0, q1, q2, q3]) rfl ⟨TT, k6, s6, rfl, hRV, hOV, by first | exact HOut.out | (rw [← HT.out]; exact HOut.out)⟩
        | true =>
          have HQ2 := Lib.hid (show classP Z r = .ok (Z.or ⟨xa, xb, xc, xd⟩, t) by
            rw [Hcls.out]
            have := HQ.out
            unfold clsQ at this
            split at this
            · rename_i hh; cases this; rw [hh]
            · cases this)
          clear Hcls HQ
          have c1 := H3.out.rdr.c1
          have y1 := H3.out.rdr.z 1
          go_upto_region 12 with fail
          have h6 := (H3.out.goon' (m + 2) (by omega) t hRt.out)
          rw [show ((m + 2 : Nat) : Int) = (m : Int) + 2 by omega] at h6
          have hO6 := HO3.out.set 1 (.int .i64 ((m : Int) + 2))
          have HX6 := Lib.hid (HX3.out.other (b' := p) (by omega) 1 (.int .i64 ((m : Int) + 2)))
          have HA6 := Lib.hid (HS3.out.other (b' := p) (by omega) 1 (.int .i64 ((m : Int) + 2)))
          have HZ6 := Lib.hid (HR3.out.other (b' := p) (by omega) 1 (.int .i64 ((m : Int) + 2)))
          have HR6 := Lib.hid h6; have HO6 := Lib.hid hO6
          have HOut := Lib.hid (show Out (classP Z) (.ok r) (fun x => Z.or ⟨xa, xb, xc, xd⟩ = x) (.ok t) from Out.good HQ2.out rfl)
          clear h6 hO6 HX3 HS3 HR3 HO3 H3 c1 y1 HQ2
          generalize (Except.ok t : Rs) = s6 at *
          generalize W3.setCell _ _ = W6 at *
          obtain ⟨k6, hk6⟩ : ∃ k6, k6 = m + 2 := ⟨_, rfl⟩
          rw [← hk6] at HR6
          clear hk6
          go_wp2_with fail
          go_loopg [9] 4 (fun gk i wr => ∃ j : Nat, i = .int .i64 j ∧ j + gk = 4 ∧ RQ wr p St k6 op s6 ∧ SetAt wr b (Z.orTo ⟨xa, xb, xc, xd⟩ j) ∧ SetAt wr b7 ⟨xa, xb, xc, xd⟩ ∧ SetAt wr (b + 1) w40 ∧ Off p w wr)
          case atStart => exact ⟨0, rfl, rfl, HR6.out, by rw [orTo_0]; exact HA6.out, HX6.out, HZ6.out, HO6.out⟩
          case round =>
            obtain ⟨j, rfl, hj, hR, hS, hX, hZ, hO⟩ := hrel
            have HR := Lib.hid hR; have HSr := Lib.hid hS; have HXr := Lib.hid hX; have HZr := Lib.hid hZ; have HOr := Lib.hid hO
            have z0 := hS.froz 0; have z1 := hS.froz 1; have z2 := hS.froz 2; have z3 := hS.froz 3
            obtain ⟨f0, f1, f2, f3⟩ := hS.at4
            obtain ⟨x0, x1, x2, x3⟩ := hX.at4
            simp only [Nat.zero_add] at f1 f2 f3 x1 x2 x3
            clear hR hS hX hZ hO HR6 HA6 HX6 HZ6 HO6
            rcases (show j = 0 ∨ j = 1 ∨ j = 2 ∨ j = 3 ∨ j = 4 by omega) with rfl | rfl | rfl | rfl | rfl
            · simp [W4.orTo] at f0
              go_wp2_with fail
              go_region
              all_goals
                go_wp2_with fail
                go_roundg (gk - 1)
                case measure => omega
                case rel => exact ⟨1, by go_num, by omega, ((HR.out.put hp 0 _).drew), SetAt.drew (by have h1 := HSr.out.put 0 (by omega) (bits .or .u64 Z.a xa); rw [orTo_put Z ⟨xa, xb, xc, xd⟩ 0 (by omega) (bits .or .u64 Z.a xa) rfl] at h1; exact h1), SetAt.drew (HXr.out.other (by omega) _ _), SetAt.drew (HZr.out.other (by omega) _ _), (HOr.out.box hbw _ _).drew⟩
            · simp [W4.orTo] at f1
              go_wp2_with fail
              go_region
              all_goals
                go_wp2_with fail
                go_roundg (gk - 1)
                case measure => omega
                case rel => exact ⟨2, by go_num, by omega, ((HR.out.put hp 1 _).drew), SetAt.drew (by have h1 := HSr.out.put 1 (by omega) (bits .or .u64 Z.b xb); rw [orTo_put Z ⟨xa, xb, xc, xd⟩ 1 (by omega) (bits .or .u64 Z.b xb) rfl] at h1; exact h1), SetAt.drew (HXr.out.other (by omega) _ _), SetAt.drew (HZr.out.other (by omega) _ _), (HOr.out.box hbw _ _).drew⟩
            · simp [W4.orTo] at f2
              go_wp2_with fail
              go_region
              all_goals
                go_wp2_with fail
                go_roundg (gk - 1)
                case measure => omega
                case rel => exact ⟨3, by go_num, by omega, ((HR.out.put hp 2 _).drew), SetAt.drew (by have h1 := HSr.out.put 2 (by omega) (bits .or .u64 Z.c xc); rw [orTo_put Z ⟨xa, xb, xc, xd⟩ 2 (by omega) (bits .or .u64 Z.c xc) rfl] at h1; exact h1), SetAt.drew (HXr.out.other (by omega) _ _), SetAt.drew (HZr.out.other (by omega) _ _), (HOr.out.box hbw _ _).drew⟩
            · simp [W4.orTo] at f3
              go_wp2_with fail
              go_region
              all_goals
                go_wp2_with fail
                go_roundg (gk - 1)
                case measure => omega
                case rel => exact ⟨4, by go_num, by omega, ((HR.out.put hp 3 _).drew), SetAt.drew (by have h1 := HSr.out.put 3 (by omega) (bits .or .u64 Z.d xd); rw [orTo_put Z ⟨xa, xb, xc, xd⟩ 3 (by omega) (bits .or .u64 Z.d xd) rfl] at h1; exact h1), SetAt.drew (HXr.out.other (by omega) _ _), SetAt.drew (HZr.out.other (by omega) _ _), (HOr.out.box hbw _ _).drew⟩
            · have HSo := Lib.hid (show SetAt wr b (Z.or ⟨xa, xb, xc, xd⟩) by rw [← orTo_all]; exact HSr.out)
              clear z0 z1 z2 z3 f0 f1 f2 f3 x0 x1 x2 x3 HSr
              generalize hT : Z.or ⟨xa, xb, xc, xd⟩ = TT at *
              have HT := Lib.hid hT
              clear hT
              obtain ⟨f0, f1, f2, f3⟩ := HSo.out.at4
              obtain ⟨g0, g1, g2, g3⟩ := HZr.out.at4
              simp only [Nat.zero_add] at f1 f2 f3 g1 g2 g3
              have y0 := HZr.out.froz 0; have y1 := HZr.out.froz 1; have y2 := HZr.out.froz 2; have y3 := HZr.out.froz 3
              go_wp2_with fail
              change bodyPost _ _ _ _ _ (setV wr (b + 1) TT)
              obtain ⟨q0, q1, q2, q3⟩ := (HZr.out.setV TT).at4
              simp only [Nat.zero_add] at q1 q2 q3
              have hRV : RQ (setV wr (b + 1) TT) p St k6 op s6 := HR.out.fillV (by omega) TT
              have hOV : Off p w (setV wr (b + 1) TT) := Off.setV HOr.out (b := b + 1) (by omega) TT
              clear f0 f1 f2 f3 g0 g1 g2 g3 y0 y1 y2 y3
              generalize setV wr (b + 1) TT = WZ at *
              exact bodyPost_ret (v := TT.V) (by simp [results, Tryd.results93, go_sem, q0, q1, q2, q3]) rfl ⟨TT, k6, s6, rfl, hRV, hOV, by first | exact HOut.out | (rw [← HT.out]; exact HOut.out)⟩
      · have hne : (([c, d] : Bs) != [58, 93]) = true := by
          rw [bne_iff_ne]; intro h; simp at h; exact hcd h
        have hne2 : ((!c == 58) || (!d == 93)) = true := by
          rw [Bool.or_eq_true, Bool.not_eq_true', Bool.not_eq_true', beq_eq_false_iff_ne, beq_eq_false_iff_ne]
          by_cases h : c = 58
          · exact .inr (fun h2 => hcd ⟨h, h2⟩)
          · exact .inl h
        have Hst := Lib.hid (show cutP r = addPre (r.take (j + 1)) (cutP (r.drop (j + 1))) by
          rw [Hcut.out, Hd.out, cut_cons _ _ (by rw [take_sign, if_neg hcd]), addPre_add]
          have hj1 : j < r.length := by
            have h1 := congrArg List.length Hd.out
            simp only [List.length_drop, List.length_cons] at h1
            omega
          rw [show r.drop (j + 1) = d :: t by rw [← List.drop_drop, Hd.out]; rfl]
          congr 1
          have h3 : r[j] = c := by
            have := List.drop_eq_getElem_cons hj1
            rw [Hd.out] at this
            simp only [List.cons.injEq] at this
            exact this.1.symm
          rw [List.take_succ_eq_append_getElem hj1, h3])
        have Hm := Lib.hid hm
        have hjl : j < r.length := by have := Hl.out; omega
        clear hm Hcut
        go_wp2_with fail
        go_roundg (gk - 1)
        case measure => omega
        case rel => exact ⟨j + 1, m + 1, by go_num, rfl, by have := Hm.out; omega, by omega, by omega, Hst.out⟩
    · have hlI : (St.length : Int) < (m : Int) + 2 := by omega
      have hnone : cutP r = none := by
        rw [Hcut.out, cut_short _ (by rw [List.length_drop]; have := Hl.out; omega)]; rfl
      have Hs := Lib.hid (show classP Z r = .error 101 by simp only [classP, hnone])
      have hmb : m ≤ 2000 := by have := Hl.out; omega
      clear hnone hm Hcut
      go_wp2_with fail
      refine (qfail_ok 101 (by omega) H0.out).mono ?_
      rintro en w4 ⟨rfl, h4, hO4⟩
      have HSo := Lib.hid (HS0.out.off hO4 (by omega))
      have HZr := Lib.hid (HR0.out.off hO4 (by omega))
      have HO4 := Lib.hid (HO0.out.trans hO4)
      have H4 := Lib.hid h4
      clear HS0 HR0 HO0 H0 h4 hO4
      obtain ⟨f0, f1, f2, f3⟩ := HSo.out.at4
      obtain ⟨g0, g1, g2, g3⟩ := HZr.out.at4
      simp only [Nat.zero_add] at f1 f2 f3 g1 g2 g3
      have y0 := HZr.out.froz 0; have y1 := HZr.out.froz 1; have y2 := HZr.out.froz 2; have y3 := HZr.out.froz 3
      go_wp2_with fail
      change bodyPost _ _ _ _ _ (setV w4 (b + 1) Z)
      obtain ⟨q0, q1, q2, q3⟩ := (HZr.out.setV Z).at4
      simp only [Nat.zero_add] at q1 q2 q3
      have hRV : RQ (setV w4 (b + 1) Z) p St k op (.error 101) := H4.out.fillV (by omega) Z
      have hOV : Off p w (setV w4 (b + 1) Z) := Off.setV HO4.out (b := b + 1) (by omega) Z
      clear f0 f1 f2 f3 g0 g1 g2 g3 y0 y1 y2 y3
      generalize setV w4 (b + 1) Z = WZ at *
      exact bodyPost_ret (v := Z.V) (by simp [results, Tryd.results93, go_sem, q0, q1, q2, q3]) rfl ⟨Z, k, _, rfl, hRV, hOV, Out.bad Hs.out⟩
end Go.Proofs.YteekafkpeimhoaaDoor

/- vouchref10's Reader: item: walked. -/
set_option linter.unusedVariables false
set_option linter.unusedSimpArgs false
namespace Go.Proofs.YteekafkpeimhoaaDoor
open Go.RowKit

theorem qis_hit {w : World} {p : Nat} {S : Bs} {k : Nat} {op : Int} {r r' : Bs} (q : Bs) (hq : q.length ≤ 100) (ht : takeP q r = some r') (h : RQ w p S k op (.ok r)) :
    Calls Tryd.prog 44 #[.pointer (some ⟨p, 0, none⟩), .string (bs q)] w fun en w' => en = .returned (.bool true) ∧ RQ w' p S k op (.ok r) ∧ Off p w w' := by
  have := is_q q hq h
  rwa [takeS_some ht] at this
theorem qis_miss {w : World} {p : Nat} {S : Bs} {k : Nat} {op : Int} {r : Bs} (q : Bs) (hq : q.length ≤ 100) (ht : takeP q r = none) (h : RQ w p S k op (.ok r)) :
    Calls Tryd.prog 44 #[.pointer (some ⟨p, 0, none⟩), .string (bs q)] w fun en w' => en = .returned (.bool false) ∧ RQ w' p S k op (.ok r) ∧ Off p w w' := by
  have := is_q q hq h
  rwa [takeS_none ht] at this
theorem qis_err {w : World} {p : Nat} {S : Bs} {k : Nat} {op : Int} {e : Int} (q : Bs) (hq : q.length ≤ 100) (h : RQ w p S k op (.error e)) :
    Calls Tryd.prog 44 #[.pointer (some ⟨p, 0, none⟩), .string (bs q)] w fun en w' => en = .returned (.bool false) ∧ RQ w' p S k op (.error e) ∧ Off p w w' := is_q q hq h
theorem take_two_eq {a b : UInt8} {r r1 : Bs} (h : takeP [a, b] r = some r1) : r = a :: b :: r1 := by
  match r with
  | [] => rw [takeP_nil _ (by simp)] at h; cases h
  | [c] =>
    rw [takeP_cons] at h
    split at h
    · rw [takeP_nil _ (by simp)] at h; cases h
    · cases h
  | c :: d :: t =>
    rw [takeP_cons] at h
    split at h
    · rename_i h1
      rw [takeP_one] at h
      split at h
      · rename_i h2; cases h; rw [h1, h2]
      · cases h
    · cases h
theorem memberQ_false (r : Bs) : memberQ false r = memberP r := by unfold memberQ; rw [if_neg (by simp)]
theorem takeS_isSome (q r : Bs) : (takeS q (.ok r)).1 = (takeP q r).isSome := by
  cases h : takeP q r with
  | none => rw [takeS_none h]; rfl
  | some r' => rw [takeS_some h]; rfl
theorem range_q (s : W4) (c : Nat) (r r1 : Bs) (h1 : takeP [45] r = some r1) (h2 : takeP [45, 93] r = none) :
    rangeP s c r = match memberQ true r1 with | .error e => .error e | .ok (t, r2) => if t < c then .error 102 else .ok (s.span c (t + 1 - c), r2) := by
  unfold rangeP memberQ
  simp only [h1, h2, takeS_isSome, Bool.true_and]
  split
  · rfl
  · cases memberP r1 with
    | error e => rfl
    | ok x => rfl
theorem range_one (s : W4) (c : Nat) (r : Bs) (h : takeP [45] r = none ∨ ∃ r2, takeP [45, 93] r = some r2) : rangeP s c r = .ok (s.add c, r) := by
  unfold rangeP
  rcases h with h | ⟨r2, h⟩
  · rw [h]
  · rw [h]; cases takeP [45] r <;> rfl
set_option maxRecDepth 100000 in
set_option maxHeartbeats 8000000 in
theorem qitem_any (w : World) (p : Nat) (St : Bs) (k : Nat) (op : Int) (r : Bs) (Z : W4) (h : RQ w p St k op (.ok r)) :
    Calls Tryd.prog 83 #[.pointer (some ⟨p, 0, none⟩), Z.V] w fun en w' => QSetR p St op (itemP Z) r w en w' := by
  have hp := h.lt
  have H := Lib.hid h
  have hkb : k ≤ 1024 := Nat.le_trans h.rdr.le h.rdr.top
  clear h
  go_enter Tryd.func83, Tryd.ntmps83
  go_upto_region 1 with fail
  generalize hW : (w.alloc _).alloc _ = W0
  have hs0 : SetAt W0 w.heap.size Z := by subst hW; exact (SetAt.box w Z).later ((Below.refl _ _).alloc (Nat.le_refl _) _)
  have hr0 : SetAt W0 (w.heap.size + 1) w40 := by
    subst hW
    have := SetAt.new (w.alloc (.cells #[.int .u64 Z.a, .int .u64 Z.b, .int .u64 Z.c, .int .u64 Z.d] 24))
    simpa using this
  have hb0 : Below w.heap.size w W0 := by subst hW; exact ((Below.refl _ _).alloc (Nat.le_refl _) _).alloc (by simp) _
  clear hW
  have HRr := Lib.hid (H.out.later hb0); have HOr := Lib.hid (Off.of_below (p := p) hb0)
  clear H hb0
  obtain ⟨b, hb⟩ : ∃ b, b = w.heap.size := ⟨_, rfl⟩
  rw [← hb] at hs0 hr0 hp
  rw [← hb]
  have HA := Lib.hid hs0; have HZr := Lib.hid hr0
  have hbw : w.heap.size ≤ b := by omega
  clear hs0 hr0 hb
  cases ht : takeP [91, 58] r with
  | some r1 =>
    have Hi := Lib.hid (show itemP Z r = classP Z r1 by simp only [itemP, ht])
    have Ht := Lib.hid ht; clear ht
    go_wp2_with fail
    refine (qis_hit [91, 58] (by simp) Ht.out HRr.out).mono ?_
    rintro en w1 ⟨rfl, hR, hO⟩
    have HA := Lib.hid (HA.out.off hO (by omega))
    have HZr := Lib.hid (HZr.out.off hO (by omega))
    have HOr := Lib.hid (HOr.out.trans hO)
    have HRr := Lib.hid hR
    clear hO hR
    obtain ⟨f0, f1, f2, f3⟩ := HA.out.at4
    simp only [Nat.zero_add] at f1 f2 f3
    go_wp2_with fail
    refine (qnamed_any w1 p St k op 91 58 r1 Z (by have := HRr.out; rwa [take_two_eq Ht.out] at this)).mono ?_
    rintro en w2 ⟨T, k2, s2, rfl, hR, hO, ho⟩
    have Ho := Lib.hid (show Out (itemP Z) (.ok r) (fun x => T = x) s2 by simp only [Out] at ho ⊢; rw [Hi.out]; exact ho)
    clear ho f0 f1 f2 f3
    have HA := Lib.hid (HA.out.off hO (by omega))
    have HZr := Lib.hid (HZr.out.off hO (by omega))
    have HOr := Lib.hid (HOr.out.trans hO)
    have HRr := Lib.hid hR
    clear hO hR
    obtain ⟨g0, g1, g2, g3⟩ := HZr.out.at4
    simp only [Nat.zero_add] at g1 g2 g3
    have y0 := HZr.out.froz 0; have y1 := HZr.out.froz 1; have y2 := HZr.out.froz 2; have y3 := HZr.out.froz 3
    go_wp2_with fail
    change bodyPost _ _ _ _ _ (setV w2 (b + 1) T)
    obtain ⟨q0, q1, q2, q3⟩ := (HZr.out.setV (T)).at4
    simp only [Nat.zero_add] at q1 q2 q3
    have hRV := HRr.out.fillV (b := b + 1) (by omega) (T)
    have hOV := Off.setV HOr.out (b := b + 1) (by omega) (T)
    clear g0 g1 g2 g3 y0 y1 y2 y3
    generalize setV w2 (b + 1) (T) = WZ at *
    exact bodyPost_ret (v := W4.V (T)) (by simp [results, Tryd.results83, go_sem, q0, q1, q2, q3]) rfl ⟨T, k2, s2, rfl, hRV, hOV, Ho.out⟩
  | none =>
  cases ht2 : takeP [91, 61] r with
  | some r1 =>
    have Hi := Lib.hid (show itemP Z r = match singleP 61 r1 with | .error e => .error e | .ok (c, r2) => .ok (Z.add c, r2) by simp only [itemP, ht, ht2]; rfl)
    have Ht := Lib.hid ht; have Ht2 := Lib.hid ht2; clear ht ht2
    go_wp2_with fail
    refine (qis_miss [91, 58] (by simp) Ht.out HRr.out).mono ?_
    rintro en w1 ⟨rfl, hR, hO⟩
    have HA := Lib.hid (HA.out.off hO (by omega))
    have HZr := Lib.hid (HZr.out.off hO (by omega))
    have HOr := Lib.hid (HOr.out.trans hO)
    have HRr := Lib.hid hR
    clear hO hR
    go_wp2_with fail
    refine (qis_hit [91, 61] (by simp) Ht2.out HRr.out).mono ?_
    rintro en w2 ⟨rfl, hR, hO⟩
    have HA := Lib.hid (HA.out.off hO (by omega))
    have HZr := Lib.hid (HZr.out.off hO (by omega))
    have HOr := Lib.hid (HOr.out.trans hO)
    have HRr := Lib.hid hR
    clear hO hR
    go_wp2_with fail
    refine (qsingle_any w2 p St k op 91 61 r1 61 (by have := HRr.out; rwa [take_two_eq Ht2.out] at this)).mono ?_
    rintro en w3 ⟨c, k3, s3, hc, rfl, hR, hO, ho⟩
    have Ho := Lib.hid (show Out (itemP Z) (.ok r) (fun x => Z.add c = x) s3 by
      have hho := ho
      simp only [Out, Hi.out] at hho ⊢
      cases hsg : singleP 61 r1 with
      | error e => simp only [hsg] at hho ⊢; exact hho
      | ok y => obtain ⟨c', r2⟩ := y; simp only [hsg] at hho ⊢; obtain ⟨rfl, h'⟩ := hho; exact ⟨rfl, h'⟩)
    clear ho
    have HA := Lib.hid (HA.out.off hO (by omega))
    have HZr := Lib.hid (HZr.out.off hO (by omega))
    have HOr := Lib.hid (HOr.out.trans hO)
    have HRr := Lib.hid hR
    clear hO hR
    obtain ⟨f0, f1, f2, f3⟩ := HA.out.at4
    simp only [Nat.zero_add] at f1 f2 f3
    go_wp2_with fail
    refine (qin_any w3 Z c hc).mono ?_
    rintro en w4 ⟨rfl, hb⟩
    clear f0 f1 f2 f3
    have HA := Lib.hid (HA.out.later hb)
    have HZr := Lib.hid (HZr.out.later hb)
    have HOr := Lib.hid (HOr.out.trans (Off.of_below (p := p) hb))
    have HRr := Lib.hid (HRr.out.later hb)
    clear hb
    generalize Z.add c = T at *
    obtain ⟨g0, g1, g2, g3⟩ := HZr.out.at4
    simp only [Nat.zero_add] at g1 g2 g3
    have y0 := HZr.out.froz 0; have y1 := HZr.out.froz 1; have y2 := HZr.out.froz 2; have y3 := HZr.out.froz 3
    go_wp2_with fail
    change bodyPost _ _ _ _ _ (setV w4 (b + 1) T)
    obtain ⟨q0, q1, q2, q3⟩ := (HZr.out.setV (T)).at4
    simp only [Nat.zero_add] at q1 q2 q3
    have hRV := HRr.out.fillV (b := b + 1) (by omega) (T)
    have hOV := Off.setV HOr.out (b := b + 1) (by omega) (T)
    clear g0 g1 g2 g3 y0 y1 y2 y3
    generalize setV w4 (b + 1) (T) = WZ at *
    exact bodyPost_ret (v := W4.V (T)) (by simp [results, Tryd.results83, go_sem, q0, q1, q2, q3]) rfl ⟨T, k3, s3, rfl, hRV, hOV, Ho.out⟩
  | none =>
    have Hi := Lib.hid (show itemP Z r = match memberP r with | .error e => .error e | .ok (c, r1) => rangeP Z c r1 by simp only [itemP, ht, ht2]; rfl)
    have Ht := Lib.hid ht; have Ht2 := Lib.hid ht2; clear ht ht2
    go_wp2_with fail
    refine (qis_miss [91, 58] (by simp) Ht.out HRr.out).mono ?_
    rintro en w1 ⟨rfl, hR, hO⟩
    have HA := Lib.hid (HA.out.off hO (by omega))
    have HZr := Lib.hid (HZr.out.off hO (by omega))
    have HOr := Lib.hid (HOr.out.trans hO)
    have HRr := Lib.hid hR
    clear hO hR
    go_wp2_with fail
    refine (qis_miss [91, 61] (by simp) Ht2.out HRr.out).mono ?_
    rintro en w2 ⟨rfl, hR, hO⟩
    have HA := Lib.hid (HA.out.off hO (by omega))
    have HZr := Lib.hid (HZr.out.off hO (by omega))
    have HOr := Lib.hid (HOr.out.trans hO)
    have HRr := Lib.hid hR
    clear hO hR
    go_wp2_with fail
    refine (qmember_any w2 p St k op r false HRr.out).mono ?_
    rintro en w3 ⟨c, k3, s3, hc, rfl, hR, hO, ho⟩
    have Ho := Lib.hid (show Out memberP (.ok r) (fun x => c = x) s3 by simp only [Out, memberQ_false] at ho ⊢; exact ho)
    clear ho Ht Ht2
    have HA := Lib.hid (HA.out.off hO (by omega))
    have HZr := Lib.hid (HZr.out.off hO (by omega))
    have HOr := Lib.hid (HOr.out.trans hO)
    have HRr := Lib.hid hR
    clear hO hR
    obtain ⟨f0, f1, f2, f3⟩ := HA.out.at4
    simp only [Nat.zero_add] at f1 f2 f3
    cases s3 with
    | error e =>
      have Hi2 := Lib.hid (show itemP Z r = .error e by rw [Hi.out, out_bad Ho.out])
      clear Ho Hi
      go_wp2_with fail
      refine (qis_err [45] (by simp) HRr.out).mono ?_
      rintro en w4 ⟨rfl, hR, hO⟩
      clear f0 f1 f2 f3
      have HA := Lib.hid (HA.out.off hO (by omega))
      have HZr := Lib.hid (HZr.out.off hO (by omega))
      have HOr := Lib.hid (HOr.out.trans hO)
      have HRr := Lib.hid hR
      clear hO hR
      obtain ⟨f0, f1, f2, f3⟩ := HA.out.at4
      simp only [Nat.zero_add] at f1 f2 f3
      go_wp2_with fail
      refine (qin_any w4 Z c hc).mono ?_
      rintro en w5 ⟨rfl, hb⟩
      clear f0 f1 f2 f3
      have HA := Lib.hid (HA.out.later hb)
      have HZr := Lib.hid (HZr.out.later hb)
      have HOr := Lib.hid (HOr.out.trans (Off.of_below (p := p) hb))
      have HRr := Lib.hid (HRr.out.later hb)
      clear hb
      generalize Z.add c = T at *
      obtain ⟨g0, g1, g2, g3⟩ := HZr.out.at4
      simp only [Nat.zero_add] at g1 g2 g3
      have y0 := HZr.out.froz 0; have y1 := HZr.out.froz 1; have y2 := HZr.out.froz 2; have y3 := HZr.out.froz 3
      go_wp2_with fail
      change bodyPost _ _ _ _ _ (setV w5 (b + 1) T)
      obtain ⟨q0, q1, q2, q3⟩ := (HZr.out.setV (T)).at4
      simp only [Nat.zero_add] at q1 q2 q3
      have hRV := HRr.out.fillV (b := b + 1) (by omega) (T)
      have hOV := Off.setV HOr.out (b := b + 1) (by omega) (T)
      clear g0 g1 g2 g3 y0 y1 y2 y3
      generalize setV w5 (b + 1) (T) = WZ at *
      exact bodyPost_ret (v := W4.V (T)) (by simp [results, Tryd.results83, go_sem, q0, q1, q2, q3]) rfl ⟨T, k3, _, rfl, hRV, hOV, Out.bad Hi2.out⟩
    | ok r1 =>
      have Hi2 := Lib.hid (show itemP Z r = rangeP Z c r1 by
        obtain ⟨x, hx, rfl⟩ := out_good Ho.out
        rw [Hi.out, hx])
      clear Ho Hi
      cases t1 : takeP [45] r1 with
      | none =>
        have Hi3 := Lib.hid (show itemP Z r = .ok (Z.add c, r1) by rw [Hi2.out, range_one _ _ _ (.inl t1)])
        have T1 := Lib.hid t1; clear t1 Hi2
        go_wp2_with fail
        refine (qis_miss [45] (by simp) T1.out HRr.out).mono ?_
        rintro en w4 ⟨rfl, hR, hO⟩
        clear f0 f1 f2 f3
        have HA := Lib.hid (HA.out.off hO (by omega))
        have HZr := Lib.hid (HZr.out.off hO (by omega))
        have HOr := Lib.hid (HOr.out.trans hO)
        have HRr := Lib.hid hR
        clear hO hR
        obtain ⟨f0, f1, f2, f3⟩ := HA.out.at4
        simp only [Nat.zero_add] at f1 f2 f3
        go_wp2_with fail
        refine (qin_any w4 Z c hc).mono ?_
        rintro en w5 ⟨rfl, hb⟩
        clear f0 f1 f2 f3
        have HA := Lib.hid (HA.out.later hb)
        have HZr := Lib.hid (HZr.out.later hb)
        have HOr := Lib.hid (HOr.out.trans (Off.of_below (p := p) hb))
        have HRr := Lib.hid (HRr.out.later hb)
        clear hb
        generalize Z.add c = T at *
        obtain ⟨g0, g1, g2, g3⟩ := HZr.out.at4
        simp only [Nat.zero_add] at g1 g2 g3
        have y0 := HZr.out.froz 0; have y1 := HZr.out.froz 1; have y2 := HZr.out.froz 2; have y3 := HZr.out.froz 3
        go_wp2_with fail
        change bodyPost _ _ _ _ _ (setV w5 (b + 1) T)
        obtain ⟨q0, q1, q2, q3⟩ := (HZr.out.setV (T)).at4
        simp only [Nat.zero_add] at q1 q2 q3
        have hRV := HRr.out.fillV (b := b + 1) (by omega) (T)
        have hOV := Off.setV HOr.out (b := b + 1) (by omega) (T)
        clear g0 g1 g2 g3 y0 y1 y2 y3
        generalize setV w5 (b + 1) (T) = WZ at *
        exact bodyPost_ret (v := W4.V (T)) (by simp [results, Tryd.results83, go_sem, q0, q1, q2, q3]) rfl ⟨T, k3, _, rfl, hRV, hOV, Out.good Hi3.out rfl⟩
      | some r2 =>
        have T1 := Lib.hid t1
        cases t2 : takeP [45, 93] r1 with
        | some r3 =>
          have Hi3 := Lib.hid (show itemP Z r = .ok (Z.add c, r1) by rw [Hi2.out, range_one _ _ _ (.inr ⟨_, t2⟩)])
          have T2 := Lib.hid t2; clear t1 t2 Hi2
          go_wp2_with fail
          refine (qis_hit [45] (by simp) T1.out HRr.out).mono ?_
          rintro en w4 ⟨rfl, hR, hO⟩
          clear f0 f1 f2 f3
          have HA := Lib.hid (HA.out.off hO (by omega))
          have HZr := Lib.hid (HZr.out.off hO (by omega))
          have HOr := Lib.hid (HOr.out.trans hO)
          have HRr := Lib.hid hR
          clear hO hR
          go_wp2_with fail
          refine (qis_hit [45, 93] (by simp) T2.out HRr.out).mono ?_
          rintro en w5 ⟨rfl, hR, hO⟩
          have HA := Lib.hid (HA.out.off hO (by omega))
          have HZr := Lib.hid (HZr.out.off hO (by omega))
          have HOr := Lib.hid (HOr.out.trans hO)
          have HRr := Lib.hid hR
          clear hO hR
          obtain ⟨f0, f1, f2, f3⟩ := HA.out.at4
          simp only [Nat.zero_add] at f1 f2 f3
          go_wp2_with fail
          refine (qin_any w5 Z c hc).mono ?_
          rintro en w6 ⟨rfl, hb⟩
          clear f0 f1 f2 f3
          have HA := Lib.hid (HA.out.later hb)
          have HZr := Lib.hid (HZr.out.later hb)
          have HOr := Lib.hid (HOr.out.trans (Off.of_below (p := p) hb))
          have HRr := Lib.hid (HRr.out.later hb)
          clear hb
          generalize Z.add c = T at *
          obtain ⟨g0, g1, g2, g3⟩ := HZr.out.at4
          simp only [Nat.zero_add] at g1 g2 g3
          have y0 := HZr.out.froz 0; have y1 := HZr.out.froz 1; have y2 := HZr.out.froz 2; have y3 := HZr.out.froz 3
          go_wp2_with fail
          change bodyPost _ _ _ _ _ (setV w6 (b + 1) T)
          obtain ⟨q0, q1, q2, q3⟩ := (HZr.out.setV (T)).at4
          simp only [Nat.zero_add] at q1 q2 q3
          have hRV := HRr.out.fillV (b := b + 1) (by omega) (T)
          have hOV := Off.setV HOr.out (b := b + 1) (by omega) (T)
          clear g0 g1 g2 g3 y0 y1 y2 y3
          generalize setV w6 (b + 1) (T) = WZ at *
          exact bodyPost_ret (v := W4.V (T)) (by simp [results, Tryd.results83, go_sem, q0, q1, q2, q3]) rfl ⟨T, k3, _, rfl, hRV, hOV, Out.good Hi3.out rfl⟩
        | none =>
          have Hi3 := Lib.hid (show itemP Z r = match memberQ true r2 with | .error e => .error e | .ok (t, r2) => if t < c then .error 102 else .ok (Z.span c (t + 1 - c), r2) by rw [Hi2.out, range_q _ _ _ _ t1 t2])
          have hr1 : r1 = 45 :: r2 := by
            cases r1 with
            | nil => rw [takeP_nil _ (by simp)] at t1; cases t1
            | cons x t =>
              rw [takeP_one] at t1
              split at t1
              · rename_i h; cases t1; rw [← h]
              · cases t1
          have Hr1 := Lib.hid hr1
          have T2 := Lib.hid t2; clear t1 t2 Hi2 hr1
          go_wp2_with fail
          refine (qis_hit [45] (by simp) T1.out HRr.out).mono ?_
          rintro en w4 ⟨rfl, hR, hO⟩
          clear f0 f1 f2 f3
          have HA := Lib.hid (HA.out.off hO (by omega))
          have HZr := Lib.hid (HZr.out.off hO (by omega))
          have HOr := Lib.hid (HOr.out.trans hO)
          have HRr := Lib.hid hR
          clear hO hR
          go_wp2_with fail
          refine (qis_miss [45, 93] (by simp) T2.out HRr.out).mono ?_
          rintro en w5 ⟨rfl, hR, hO⟩
          have hkb3 : k3 ≤ 1024 := Nat.le_trans hR.rdr.le hR.rdr.top
          have HA := Lib.hid (HA.out.off hO (by omega))
          have HZr := Lib.hid (HZr.out.off hO (by omega))
          have HOr := Lib.hid (HOr.out.trans hO)
          have HRr := Lib.hid hR
          clear hO hR
          have c1 := HRr.out.rdr.c1
          have y1 := HRr.out.rdr.z 1
          go_upto_region 10 with fail
          have hR := HRr.out.step 1 (by rw [Hr1.out]; simp)
          rw [show ((1 : Nat) : Int) = 1 from rfl, show r1.drop 1 = r2 by rw [Hr1.out]; rfl] at hR
          have hO := (Off.refl p w5).set 1 (.int .i64 ((k3 : Int) + 1))
          generalize w5.setCell _ _ = W5 at *
          clear c1 y1
          have HA := Lib.hid (HA.out.off hO (by omega))
          have HZr := Lib.hid (HZr.out.off hO (by omega))
          have HOr := Lib.hid (HOr.out.trans hO)
          have HRr := Lib.hid hR
          clear hO hR
          go_wp2_with fail
          refine (qmember_any W5 p St (k3 + 1) op r2 true HRr.out).mono ?_
          rintro en w6 ⟨t, k6, s6, htb, rfl, hR, hO, ho⟩
          have Ho := Lib.hid ho
          have c3 := hR.rdr.c3
          have hne := hR.ne
          clear ho
          have HA := Lib.hid (HA.out.off hO (by omega))
          have HZr := Lib.hid (HZr.out.off hO (by omega))
          have HOr := Lib.hid (HOr.out.trans hO)
          have HRr := Lib.hid hR
          clear hO hR
          have hcz : (t : Int) < 256 := by omega
          have hcy : (c : Int) < 256 := by omega
          have hw1 : IntKind.i64.wrap (c : Int) = (c : Int) := by simp [IntKind.wrap, IntKind.signed, IntKind.bits]; omega
          have hw2 : IntKind.i64.wrap (t : Int) = (t : Int) := by simp [IntKind.wrap, IntKind.signed, IntKind.bits]; omega
          cases s6 with
          | error e =>
            have Hi4 := Lib.hid (show itemP Z r = .error e by rw [Hi3.out, out_bad Ho.out])
            have hne0 := hne e rfl
            have hb0 : (e == 0) = false := by rw [beq_eq_false_iff_ne]; exact hne0
            simp only [Rs.no] at c3
            clear Ho Hi3 hne
            obtain ⟨f0, f1, f2, f3⟩ := HA.out.at4
            simp only [Nat.zero_add] at f1 f2 f3
            go_wp2_with fail
            refine (qspan_any w6 Z c t (by omega) (by omega)).mono ?_
            rintro en w7 ⟨rfl, hb⟩
            clear f0 f1 f2 f3 c3
            have HA := Lib.hid (HA.out.later hb)
            have HZr := Lib.hid (HZr.out.later hb)
            have HOr := Lib.hid (HOr.out.trans (Off.of_below (p := p) hb))
            have HRr := Lib.hid (HRr.out.later hb)
            clear hb
            generalize Z.span c _ = T at *
            obtain ⟨g0, g1, g2, g3⟩ := HZr.out.at4
            simp only [Nat.zero_add] at g1 g2 g3
            have y0 := HZr.out.froz 0; have y1 := HZr.out.froz 1; have y2 := HZr.out.froz 2; have y3 := HZr.out.froz 3
            go_wp2_with fail
            change bodyPost _ _ _ _ _ (setV w7 (b + 1) T)
            obtain ⟨q0, q1, q2, q3⟩ := (HZr.out.setV (T)).at4
            simp only [Nat.zero_add] at q1 q2 q3
            have hRV := HRr.out.fillV (b := b + 1) (by omega) (T)
            have hOV := Off.setV HOr.out (b := b + 1) (by omega) (T)
            clear g0 g1 g2 g3 y0 y1 y2 y3
            generalize setV w7 (b + 1) (T) = WZ at *
            exact bodyPost_ret (v := W4.V (T)) (by simp [results, Tryd.results83, go_sem, q0, q1, q2, q3]) rfl ⟨T, k6, _, rfl, hRV, hOV, Out.bad Hi4.out⟩
          | ok r4 =>
            have Hi4 := Lib.hid (show itemP Z r = if t < c then .error 102 else .ok (Z.span c (t + 1 - c), r4) by
              obtain ⟨x, hx, rfl⟩ := out_good Ho.out
              rw [Hi3.out, hx])
            simp only [Rs.no] at c3
            clear Ho Hi3 hne
            by_cases hlt : t < c
            · have Hi5 := Lib.hid (show itemP Z r = .error 102 by rw [Hi4.out, if_pos hlt])
              have hltI : (t : Int) < (c : Int) := by omega
              clear Hi4
              go_wp2_with fail
              refine (qfail_ok 102 (by omega) HRr.out).mono ?_
              rintro en w7 ⟨rfl, hR, hO⟩
              clear c3
              have HA := Lib.hid (HA.out.off hO (by omega))
              have HZr := Lib.hid (HZr.out.off hO (by omega))
              have HOr := Lib.hid (HOr.out.trans hO)
              have HRr := Lib.hid hR
              clear hO hR
              obtain ⟨f0, f1, f2, f3⟩ := HA.out.at4
              simp only [Nat.zero_add] at f1 f2 f3
              go_wp2_with fail
              refine (qspan_any w7 Z c t (by omega) (by omega)).mono ?_
              rintro en w8 ⟨rfl, hb⟩
              clear f0 f1 f2 f3
              have HA := Lib.hid (HA.out.later hb)
              have HZr := Lib.hid (HZr.out.later hb)
              have HOr := Lib.hid (HOr.out.trans (Off.of_below (p := p) hb))
              have HRr := Lib.hid (HRr.out.later hb)
              clear hb
              generalize Z.span c _ = T at *
              obtain ⟨g0, g1, g2, g3⟩ := HZr.out.at4
              simp only [Nat.zero_add] at g1 g2 g3
              have y0 := HZr.out.froz 0; have y1 := HZr.out.froz 1; have y2 := HZr.out.froz 2; have y3 := HZr.out.froz 3
              go_wp2_with fail
              change bodyPost _ _ _ _ _ (setV w8 (b + 1) T)
              obtain ⟨q0, q1, q2, q3⟩ := (HZr.out.setV (T)).at4
              simp only [Nat.zero_add] at q1 q2 q3
              have hRV := HRr.out.fillV (b := b + 1) (by omega) (T)
              have hOV := Off.setV HOr.out (b := b + 1) (by omega) (T)
              clear g0 g1 g2 g3 y0 y1 y2 y3
              generalize setV w8 (b + 1) (T) = WZ at *
              exact bodyPost_ret (v := W4.V (T)) (by simp [results, Tryd.results83, go_sem, q0, q1, q2, q3]) rfl ⟨T, k6, _, rfl, hRV, hOV, Out.bad Hi5.out⟩
            · have Hi5 := Lib.hid (show itemP Z r = .ok (Z.span c (t + 1 - c), r4) by rw [Hi4.out, if_neg hlt])
              have hltI : decide ((t : Int) < (c : Int)) = false := by rw [decide_eq_false_iff_not]; omega
              clear Hi4
              obtain ⟨f0, f1, f2, f3⟩ := HA.out.at4
              simp only [Nat.zero_add] at f1 f2 f3
              go_wp2_with fail
              refine (qspan_any w6 Z c t (by omega) (by omega)).mono ?_
              rintro en w8 ⟨rfl, hb⟩
              clear f0 f1 f2 f3 c3
              have HA := Lib.hid (HA.out.later hb)
              have HZr := Lib.hid (HZr.out.later hb)
              have HOr := Lib.hid (HOr.out.trans (Off.of_below (p := p) hb))
              have HRr := Lib.hid (HRr.out.later hb)
              clear hb
              generalize Z.span c _ = T at *
              obtain ⟨g0, g1, g2, g3⟩ := HZr.out.at4
              simp only [Nat.zero_add] at g1 g2 g3
              have y0 := HZr.out.froz 0; have y1 := HZr.out.froz 1; have y2 := HZr.out.froz 2; have y3 := HZr.out.froz 3
              go_wp2_with fail
              change bodyPost _ _ _ _ _ (setV w8 (b + 1) T)
              obtain ⟨q0, q1, q2, q3⟩ := (HZr.out.setV (T)).at4
              simp only [Nat.zero_add] at q1 q2 q3
              have hRV := HRr.out.fillV (b := b + 1) (by omega) (T)
              have hOV := Off.setV HOr.out (b := b + 1) (by omega) (T)
              clear g0 g1 g2 g3 y0 y1 y2 y3
              generalize setV w8 (b + 1) (T) = WZ at *
              exact bodyPost_ret (v := W4.V (T)) (by simp [results, Tryd.results83, go_sem, q0, q1, q2, q3]) rfl ⟨T, k6, _, rfl, hRV, hOV, Out.good Hi5.out rfl⟩
end Go.Proofs.YteekafkpeimhoaaDoor

