/- vouchlaw11.machines: walked. -/
import Derived.Test.YtdpmbanfaigmcaaVChecks
import Derived.Test.YtdpmbanfaigmcaaVMakesW
set_option linter.unusedVariables false
set_option linter.unusedSimpArgs false
namespace Go.Proofs.Ytdpmbanfaigmcaa
open Go.RowKit

theorem sts_lit {w W : World} (l : List St) (hW : W = w.alloc (.cells (stCells l).toArray 47)) (hl : l.length ≤ 17592186044416) : StsAt W (fun b => b < W.heap.size) l (some ⟨w.heap.size, 0, none⟩) l.length :=
  ⟨Nat.le_refl _, hl, (fun h => by cases h), fun _ => ⟨_, 0, rfl, by subst hW; simp, fun i hi => .of fun j hj => by
    rw [hW, World.cell?_alloc_new, List.getElem?_toArray, Nat.zero_add, stCells_get l i j hi hj]⟩⟩
theorem sts_nil (w : World) (ok : Nat → Prop) : StsAt w ok [] none 0 := ⟨Nat.le_refl _, by simp, fun _ => rfl, fun h => by simp at h⟩
/-- One field of one state written. -/
theorem sts_set {w : World} {ok : Nat → Prop} {l : List St} {g c : Nat} (h : StsAt w ok l (some ⟨g, 0, none⟩) c) {i : Nat} (hi : i < l.length) (f : Nat) (hf : f = 0 ∨ f = 5 ∨ f = 6) (v : Int) :
    ∃ l', l'.length = l.length ∧ StsAt (w.setCell ⟨g, i * 7 + f, none⟩ (.int .i64 v)) ok l' (some ⟨g, 0, none⟩) c := by
  obtain ⟨b, o, e, hb, hc⟩ := h.at_ (by omega)
  simp only [Option.some.injEq, Addr.mk.injEq, and_true] at e
  obtain ⟨rfl, rfl⟩ := e
  let s : St := if f = 0 then { l[i] with k := v } else if f = 5 then { l[i] with nx := v } else { l[i] with ot := v }
  refine ⟨l.set i s, by simp, by simpa using h.cap, by simpa using h.len, (fun e => by cases e), fun _ => ⟨_, 0, rfl, hb, fun p hp => ?_⟩⟩
  have hp' : p < l.length := by simpa using hp
  have hcp := hc p hp'
  by_cases hpi : i = p
  · subst hpi
    have hci := hc i hi
    rw [show (l.set i s)[i] = s by simp]
    have keep : ∀ x, x ≠ f → (w.setCell ⟨g, i * 7 + f, none⟩ (.int .i64 v)).cell? ⟨g, 0 + i * 7 + x, none⟩ = w.cell? ⟨g, 0 + i * 7 + x, none⟩ := fun x hx => World.cell?_setCell_other _ _ _ _ (by simp <;> omega)
    have same : ∀ u, w.cell? ⟨g, 0 + i * 7 + f, none⟩ = some u → (w.setCell ⟨g, i * 7 + f, none⟩ (.int .i64 v)).cell? ⟨g, 0 + i * 7 + f, none⟩ = some (.int .i64 v) := fun u hu => by
      rw [Nat.zero_add] at hu ⊢
      exact World.cell?_setCell_same _ _ _ hu
    rcases hf with rfl | rfl | rfl
    · exact ⟨same _ hci.f0, (keep 1 (by omega)).trans hci.f1, (keep 2 (by omega)).trans hci.f2, (keep 3 (by omega)).trans hci.f3, (keep 4 (by omega)).trans hci.f4, (keep 5 (by omega)).trans hci.f5, (keep 6 (by omega)).trans hci.f6⟩
    · exact ⟨(keep 0 (by omega)).trans hci.f0, (keep 1 (by omega)).trans hci.f1, (keep 2 (by omega)).trans hci.f2, (keep 3 (by omega)).trans hci.f3, (keep 4 (by omega)).trans hci.f4, same _ hci.f5, (keep 6 (by omega)).trans hci.f6⟩
    · exact ⟨(keep 0 (by omega)).trans hci.f0, (keep 1 (by omega)).trans hci.f1, (keep 2 (by omega)).trans hci.f2, (keep 3 (by omega)).trans hci.f3, (keep 4 (by omega)).trans hci.f4, (keep 5 (by omega)).trans hci.f5, same _ hci.f6⟩
  · rw [show (l.set i s)[p] = l[p] by simp [hpi]]
    exact .of fun j hj => by
      rw [World.cell?_setCell_other _ _ _ _ (by simp <;> omega)]
      exact hcp.cells j hj
theorem own5 {w : World} {base n : Nat} {A : Option Addr} {c : Nat} {l : List St} (hn : l.length = n) (h : w.ownsRow base 47 7 (.slice A n c) n (stCells l)) (hpos : 0 < n) (hl : n ≤ 4096) {j : Nat} (hj : j < n) :
    ∃ g, A = some ⟨g, 0, none⟩ ∧ base ≤ g ∧ g < w.heap.size ∧ n ≤ c ∧ StsAt w (fun b => b < w.heap.size) l (some ⟨g, 0, none⟩) c ∧ (∃ u, w.cell? ⟨g, j * 7, none⟩ = some (.int .i64 u)) ∧ (∃ u, w.cell? ⟨g, j * 7 + 5, none⟩ = some (.int .i64 u)) ∧ (∃ u, w.cell? ⟨g, j * 7 + 6, none⟩ = some (.int .i64 u)) ∧ w.frozen? ⟨g, j * 7, none⟩ = false ∧ w.frozen? ⟨g, j * 7 + 5, none⟩ = false ∧ w.frozen? ⟨g, j * 7 + 6, none⟩ = false := by
  subst hn
  have hs := sts_all h hl
  obtain ⟨g, rfl, hg⟩ : ∃ g, A = some ⟨g, 0, none⟩ ∧ base ≤ g := by
    rcases h.2 with ⟨_, h0⟩ | ⟨g, cap, cur, e, hb, _⟩
    · omega
    · simp only [Value.slice.injEq] at e; exact ⟨g, e.1, hb⟩
  obtain ⟨b, o, e, hb, hc⟩ := hs.at_ hpos
  simp only [Option.some.injEq, Addr.mk.injEq, and_true] at e
  obtain ⟨rfl, rfl⟩ := e
  have hcj := hc j hj
  exact ⟨g, rfl, hg, hb, hs.cap, hs, ⟨_, by simpa using hcj.f0⟩, ⟨_, by simpa using hcj.f5⟩, ⟨_, by simpa using hcj.f6⟩, h.frozenAt _, h.frozenAt _, h.frozenAt _⟩
def rightL5 : List St := [⟨5, 0, 0, 0, 0, 0, 0⟩, ⟨1, 0, 0, 0, 0, 2, 0⟩, ⟨2, 0, 0, 0, 0, 1, 3⟩, ⟨3, 0, 0, 0, 0, 0, 0⟩, ⟨4, 0, 0, 0, 0, 1, 0⟩]
def doneS : St := ⟨5, 1, 0, 0, 0, -5, 9999⟩
/-- The last loop's lists grow. -/
def GrowI (B : Nat) (w : World) (n : Int) (v i : Value) (wr : World) (m : Nat) : Prop :=
  ∃ (j : Nat) (A : Option Addr) (c : Nat), v = .slice A j c ∧ i = .int .i64 j ∧ (j : Int) + m = n ∧ wr.ownsRow B 47 7 (.slice A j c) j (stCells (List.replicate j doneS)) ∧ Below w.heap.size w wr

set_option maxRecDepth 100000 in
set_option maxHeartbeats 8000000 in
theorem machs_any (w : World) : Calls Try.prog 31 #[] w fun e w' => e = .returned (.bool true) ∧ Below w.heap.size w w' := by
  go_enter Try.func31, Try.ntmps31
  go_wp2_with fail
  generalize hW : w.alloc _ = W0
  have hB0 : Below w.heap.size w W0 := by subst hW; exact (Below.refl _ _).alloc (Nat.le_refl _) _
  have hz0 : w.heap.size < W0.heap.size := by subst hW; simp
  have hS := sts_lit (w := w) (W := W0) rightL5 (by rw [← hW]; rfl) (by simp [rightL5])
  clear hW
  have HS := Lib.hid hS; clear hS
  go_loopg [2] 8 (fun n i wr => ∃ x : Int, i = .int .i64 x ∧ x + n = 7 ∧ -1 ≤ x ∧ Below W0.heap.size W0 wr)
  case atStart => exact ⟨-1, rfl, rfl, by omega, Below.refl _ _⟩
  case round =>
    obtain ⟨x, rfl, hx, hx0, hB⟩ := hrel
    have hzr := hB.size
    by_cases hlt : x < 7
    · go_wp2_with fail
      refine (checks_any wr _ rightL5 x (some ⟨w.heap.size, 0, none⟩) 5 (HS.out.later hB (fun b h => h)) (fun b h => by omega)).mono ?_
      rintro e w1 ⟨rfl, hb1⟩
      have hz1 := hb1.size
      go_wp2_with fail
      refine (checks_any w1 (fun b => b < w1.heap.size) [] x none 0 (sts_nil _ _) (fun b h => h)).mono ?_
      rintro e w2 ⟨rfl, hb2⟩
      go_wp2_with fail
      go_roundg (gk - 1)
      case measure => omega
      case rel => exact ⟨x + 1, by go_num, by omega, by omega, (hB.trans (hb1.mono (by omega))).trans (hb2.mono (by omega))⟩
    · go_wp2_with fail
      clear hx hx0 hlt
      generalize wr = W1 at *
      go_loopg [3] 5 (fun n i wr => ∃ j : Nat, i = .int .i64 j ∧ j + n = 5 ∧ Below W1.heap.size W1 wr)
      case atStart => exact ⟨0, rfl, rfl, Below.refl _ _⟩
      case round =>
        obtain ⟨j, rfl, hj, hB1⟩ := hrel
        have hzj := hB1.size
        by_cases hlj : j < 5
        · generalize wr = wj at *
          have hd5 : decide ((j : Int) < 5) = true := by rw [decide_eq_true_eq]; omega
          go_wp2_with fail
          clear hd5
          generalize hW : wj.alloc _ = W2
          have hb2 : Below wj.heap.size wj W2 := by subst hW; exact (Below.refl _ _).alloc (Nat.le_refl _) _
          have hz2 : wj.heap.size < W2.heap.size := by subst hW; simp
          have hv : ∀ m, m < 7 → ∃ v : Int, W2.cell? ⟨wj.heap.size, m, none⟩ = some (.int .i64 v) := fun m hm => by
            subst hW
            rcases (show m = 0 ∨ m = 1 ∨ m = 2 ∨ m = 3 ∨ m = 4 ∨ m = 5 ∨ m = 6 by omega) with rfl | rfl | rfl | rfl | rfl | rfl | rfl <;> exact ⟨_, by simp [go_sem]; rfl⟩
          have Hv := Lib.hid hv; clear hv hW
          have hB2 := hB1.trans (hb2.mono hzj)
          have hB2t := hb2
          have hzW2 := hb2.size
          clear hb2
          go_loopg [41] 7 (fun n i wr => ∃ m : Nat, i = .int .i64 m ∧ m + n = 7 ∧ Below W2.heap.size W2 wr)
          case atStart => exact ⟨0, rfl, rfl, Below.refl _ _⟩
          case round =>
            obtain ⟨m, rfl, hm, hB3⟩ := hrel
            have hz3 := hB3.size
            by_cases hlm : m < 7
            · obtain ⟨v, hv⟩ := Hv.out m hlm
              have hv3 := (hB3.cell (p := ⟨wj.heap.size, m, none⟩) hz2).trans hv
              clear hv
              have hd7 : decide ((m : Int) < 7) = true := by rw [decide_eq_true_eq]; omega
              go_wp2_with fail
              clear hv3 hd7
              go_loopg [6] 3 (fun n i wr => ∃ f : Nat, i = .int .i64 f ∧ f + n = 3 ∧ Below W2.heap.size W2 wr)
              case atStart => exact ⟨0, rfl, rfl, hB3⟩
              case round =>
                obtain ⟨f, rfl, hf, hB4⟩ := hrel
                have hz4 := hB4.size
                by_cases hlf : f < 3
                · have hSr := HS.out.later (((hB.trans (hB1.mono (by omega))).trans (hB2t.mono (by omega))).trans (hB4.mono (by omega))) (fun b h => h)
                  have hA : (some (⟨w.heap.size, 0, none⟩ : Addr)) = none → (5 : Nat) = 0 ∧ (5 : Nat) = 0 := fun e => by cases e
                  have hys : (stCells rightL5).length = 5 * 7 := by rfl
                  have hnews : ∀ ad, some (⟨w.heap.size, 0, none⟩ : Addr) = some ad → ∀ j u, (stCells rightL5)[j]? = some u → wr.cell? (ad.add j) = some u := fun ad e p u hu => by
                    simp only [Option.some.injEq] at e
                    subst e
                    rw [addr_add]
                    exact hSr.cells p u hu
                  have HA := Lib.hid hA; have Hys := Lib.hid hys; have Hnews := Lib.hid hnews; clear hA hys hnews hSr
                  have hf3 : f = 0 ∨ f = 1 ∨ f = 2 := by omega
                  rcases hf3 with rfl | rfl | rfl
                  all_goals
                    go_wp2_with (at_builtin; refine wpList_append_from wr.heap.size rfl _ _ 33 47 _ 7 56 rfl Try.underlying33 Try.infoState rfl (by omega) (by omega) (.slice none 0 0) 0 5 [] (stCells rightL5) (some ⟨w.heap.size, 0, none⟩) 5 rfl rfl HA.out Hys.out Hnews.out (stCells_one _) ⟨rfl, .inl ⟨rfl, rfl⟩⟩ (Nat.le_refl _) (by omega) (fun A5 c5 w5 ho5 hg5 hat5 => ?_); obtain ⟨g5, rfl, hga, hgb, hgc, hst5, ⟨u0, cu0⟩, ⟨u5, cu5⟩, ⟨u6, cu6⟩, fz0, fz5, fz6⟩ := own5 (l := rightL5) (n := 5) rfl (by simpa using ho5) (by omega) (by omega) hlj; have hb5 := below_grown (Below.refl wr.heap.size wr) (Nat.le_refl _) hg5 (fun k hk => by cases hk); have hz5 := hb5.size; have HS5 := Lib.hid hst5; clear ho5 hg5 hat5 hst5)
                    have hset : ∀ F, (F = 0 ∨ F = 5 ∨ F = 6) → ∃ W5, W5 = w5.setCell ⟨g5, j * 7 + F, none⟩ (.int .i64 v) ∧ Below W2.heap.size W2 W5 ∧ Calls Try.prog 4 #[.agg #[.slice (some ⟨g5, 0, none⟩) 5 c5, .int .i64 2]] W5 fun e w' => e = .returned (.bool true) ∧ Below W5.heap.size W5 w' := fun F hF => by
                      obtain ⟨l', hl', hs'⟩ := sts_set HS5.out (i := j) hlj F hF v
                      have hl5 : l'.length = 5 := hl'
                      have hc := checks_any _ _ l' 2 _ c5 hs' (fun b h => by simpa using h)
                      simp only [nfaV] at hc
                      rw [hl5] at hc
                      exact ⟨_, rfl, (hB4.trans (hb5.mono hz4)).setCell (by show W2.heap.size ≤ g5; omega) _, hc⟩
                    first
                      | (obtain ⟨W5, hW5, hB5, hc⟩ := hset 0 (by omega); simp only [Nat.add_zero] at hW5; rw [← hW5])
                      | (obtain ⟨W5, hW5, hB5, hc⟩ := hset 5 (by omega); rw [← hW5])
                      | (obtain ⟨W5, hW5, hB5, hc⟩ := hset 6 (by omega); rw [← hW5])
                    clear hset hW5 cu0 cu5 cu6 fz0 fz5 fz6
                    refine hc.mono ?_
                    rintro e w6 ⟨rfl, hb6⟩
                    clear hc
                    have hz6 := hB5.size
                    go_wp2_with fail
                    go_roundg (gk - 1)
                    case measure => omega
                    case rel => first | exact ⟨1, by go_num, by omega, hB5.trans (hb6.mono hz6)⟩ | exact ⟨2, by go_num, by omega, hB5.trans (hb6.mono hz6)⟩ | exact ⟨3, by go_num, by omega, hB5.trans (hb6.mono hz6)⟩
                · go_wp2_with fail
                  go_roundg (6 - m)
                  case measure => omega
                  case rel => exact ⟨m + 1, by go_num, by omega, hB4⟩
            · go_wp2_with fail
              go_roundg (4 - j)
              case measure => omega
              case rel => exact ⟨j + 1, by go_num, by omega, hB2.trans (hB3.mono (by omega))⟩
        · generalize wr = wj at *
          go_wp2_with fail
          generalize hW : wj.alloc _ = W2
          have hb2 : Below wj.heap.size wj W2 := by subst hW; exact (Below.refl _ _).alloc (Nat.le_refl _) _
          have hz2 : wj.heap.size < W2.heap.size := by subst hW; simp
          have hv : ∀ m, m < 4 → ∃ v : Nat, W2.cell? ⟨wj.heap.size, m, none⟩ = some (.int .i64 v) ∧ v ≤ 4097 := fun m hm => by
            subst hW
            rcases (show m = 0 ∨ m = 1 ∨ m = 2 ∨ m = 3 by omega) with rfl | rfl | rfl | rfl
            · exact ⟨1, by simp [go_sem], by omega⟩
            · exact ⟨4095, by simp [go_sem], by omega⟩
            · exact ⟨4096, by simp [go_sem], by omega⟩
            · exact ⟨4097, by simp [go_sem], by omega⟩
          have Hv := Lib.hid hv; clear hv hW
          have hB2 : Below w.heap.size w W2 := ((hB0.trans (hB.mono (by omega))).trans (hB1.mono (by omega))).trans (hb2.mono (by omega))
          have hzw2 : w.heap.size < W2.heap.size := by have := hb2.size; omega
          clear hb2 hB hB1 HS hB0
          go_loopg [81] 4 (fun n i wr => ∃ m : Nat, i = .int .i64 m ∧ m + n = 4 ∧ Below W2.heap.size W2 wr)
          case atStart => exact ⟨0, rfl, rfl, Below.refl _ _⟩
          case round =>
            obtain ⟨m, rfl, hm, hB3⟩ := hrel
            have hz3 := hB3.size
            by_cases hlm : m < 4
            · obtain ⟨v, hv, hv1⟩ := Hv.out m hlm
              have hv3 := (hB3.cell (p := ⟨wj.heap.size, m, none⟩) hz2).trans hv
              clear hv
              have hd4 : decide ((m : Int) < 4) = true := by rw [decide_eq_true_eq]; omega
              go_wp2_with fail
              clear hv3 hd4
              generalize wr = W3 at *
              go_loopg [10, 11] v (fun n v1 i wr => GrowI W3.heap.size W3 v v1 i wr n)
              case atStart => exact ⟨0, none, 0, rfl, rfl, by omega, ⟨rfl, .inl ⟨rfl, rfl⟩⟩, Below.refl _ _⟩
              case round =>
                obtain ⟨q, A, c, rfl, rfl, hq, ho, hB4⟩ := hrel
                have hz4 := hB4.size
                have HO := Lib.hid ho; clear ho
                by_cases hlq : q < v
                · have hnews : ∀ ad, some (⟨wr.heap.size, 0, none⟩ : Addr) = some ad → ∀ j u, (St.cells doneS)[j]? = some u → (wr.alloc (.cells (St.cells doneS).toArray 47)).cell? (ad.add j) = some u := fun ad e p u hu => by
                    simp only [Option.some.injEq] at e
                    subst e
                    rw [addr_add, World.cell?_alloc_new, Nat.zero_add]
                    simpa using hu
                  have Hnews := Lib.hid hnews; clear hnews
                  go_wp2_with (at_builtin; refine wpList_append_from W3.heap.size rfl _ _ 33 47 _ 7 56 rfl Try.underlying33 Try.infoState rfl (by omega) (by omega) (.slice A q c) q 1 (stCells (List.replicate q doneS)) (St.cells doneS) (some ⟨wr.heap.size, 0, none⟩) 1 rfl rfl (by simp) rfl Hnews.out (St.cells_one _) (HO.out.alloc _) (by simp; omega) (by omega) (fun A5 c5 w5 ho5 hg5 hat5 => ?_); have hb5 := below_grown (hB4.alloc hz4 _) (by simp; omega) hg5 (fun k hk => (HO.out.lt k hk).1); have HO5 := Lib.hid ho5; clear ho5 hg5 hat5)
                  go_roundg (gk - 1)
                  case measure => omega
                  case rel => exact ⟨q + 1, A5, c5, rfl, by go_num, by omega, by rw [List.replicate_succ', stCells_snoc]; exact HO5.out, hb5⟩
                · have hS : StsAt wr (fun b => b < wr.heap.size) (List.replicate q doneS) A c := by
                    have h := stsAt_own (l := List.replicate q doneS) (A := A) (c := c) (base := W3.heap.size) (w := wr) (by simpa using HO.out) (by simp; omega)
                    exact h.mono fun b hb => ⟨hb.2, fun _ => rfl⟩
                  have hck : ∀ (sa : Int) (w' : World), Below wr.heap.size wr w' → Calls Try.prog 4 #[.agg #[.slice A q c, .int .i64 sa]] w' fun e w'' => e = .returned (.bool true) ∧ Below w'.heap.size w' w'' := fun sa w' hb => by
                    have h := checks_any w' _ (List.replicate q doneS) sa A c (hS.later hb (fun b h => h)) (fun b h => Nat.lt_of_lt_of_le h hb.size)
                    simpa only [nfaV, List.length_replicate] using h
                  have Hck := Lib.hid hck; clear hS hck HO
                  go_wp2_with fail
                  refine (Hck.out _ wr (Below.refl _ _)).mono ?_
                  rintro e w6 ⟨rfl, hb6⟩
                  have hz6 := hb6.size
                  go_wp2_with fail
                  refine (Hck.out _ w6 hb6).mono ?_
                  rintro e w7 ⟨rfl, hb7⟩
                  go_wp2_with fail
                  go_roundg (3 - m)
                  case measure => omega
                  case rel => exact ⟨m + 1, by go_num, by omega, ((hB3.trans (hB4.mono hz3)).trans (hb6.mono (by omega))).trans (hb7.mono (by omega))⟩
            · go_wp2_with fail
              refine (works_any wr).mono ?_
              rintro e w6 ⟨rfl, hb6⟩
              go_wp2_with fail
              go_ret
              exact ⟨rfl, (hB2.trans (hB3.mono (by omega))).trans (hb6.mono (by omega))⟩
end Go.Proofs.Ytdpmbanfaigmcaa
