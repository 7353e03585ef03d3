/- vouchref11: the layer's state and repeat: walked. -/
import Derived.Test.YtdpmbanfaigmcaaVRep
set_option linter.unusedVariables false
set_option linter.unusedSimpArgs false
namespace Go.Proofs.Ytdpmbanfaigmcaa
open Go.RowKit

set_option maxRecDepth 100000 in
set_option maxHeartbeats 1000000 in
theorem rstate_any (w : World) (L base : Nat) (v : Value) (l : List St) (s : St) (h : Layer w L base v l) (hl : l.length ≤ 1000000) :
    Calls Try.prog 44 #[.pointer (some ⟨L, 0, none⟩), s.V] w fun e w' => e = .returned (.int .i64 l.length) ∧ ∃ v', Layer w' L base v' (l ++ [s]) ∧ Moves w v v' ∧ Lays L v.ownBlock w w' := by
  have hL := h.lt
  have hc := h.cell
  have hf := h.froz
  obtain ⟨A, c, rfl⟩ : ∃ A c, v = .slice A l.length c := by
    rcases h.own.2 with ⟨rfl, h0⟩ | ⟨g, cap, cur, rfl, _⟩
    · exact ⟨none, 0, by rw [h0]⟩
    · exact ⟨_, cap, rfl⟩
  go_enter Try.func44, Try.ntmps44
  go_wp2_with fail
  have hown : ((w.alloc (.cells s.cells.toArray 47)).alloc (.cells s.cells.toArray 47)).drew.ownsRow base 47 7 (.slice A l.length c) l.length (stCells l) :=
    ((h.own.alloc _).alloc _).kept (row := none) ⟨rfl, rfl, rfl, Nat.le_refl _, fun _ _ _ => rfl⟩ (by cases A <;> simp [Value.ownBlock])
  have hnews : ∀ j u, s.cells[j]? = some u → ((w.alloc (.cells s.cells.toArray 47)).alloc (.cells s.cells.toArray 47)).drew.cell? ((⟨w.heap.size + 1, 0, none⟩ : Addr).add j) = some u := by
    intro j u hu
    have e : (⟨w.heap.size + 1, 0, none⟩ : Addr).add j = ⟨w.heap.size + 1, j, none⟩ := by unfold Addr.add; split <;> simp_all
    rw [e, World.cell?_drew]
    rw [show w.heap.size + 1 = (w.alloc (.cells s.cells.toArray 47)).heap.size by simp, World.cell?_alloc_new]
    simpa using hu
  have hb0 : base ≤ ((w.alloc (.cells s.cells.toArray 47)).alloc (.cells s.cells.toArray 47)).drew.heap.size := by have := h.base; simp; omega
  have hLA : (Value.slice A l.length c).ownBlock ≠ some L := h.ne
  have hcL : ((w.alloc (.cells s.cells.toArray 47)).alloc (.cells s.cells.toArray 47)).drew.cell? ⟨L, 0, none⟩ = some (.slice A l.length c) := by
    rw [World.cell?_drew, World.cell?_alloc_lt _ _ _ (by simp; omega), World.cell?_alloc_lt _ _ _ hL, hc]
  have hfL : ((w.alloc (.cells s.cells.toArray 47)).alloc (.cells s.cells.toArray 47)).drew.frozen? ⟨L, 0, none⟩ = false := by
    rw [World.frozen?_drew, World.frozen?_alloc_old _ _ _ (by simp; omega), World.frozen?_alloc_old _ _ _ (by simp; omega), hf]
  have Hown := Lib.hid hown; have Hnews := Lib.hid hnews; have HcL := Lib.hid hcL; have HfL := Lib.hid hfL; have Hb0 := Lib.hid hb0; have H := Lib.hid h; have HLA := Lib.hid hLA
  clear hown hnews hcL hfL hb0 h hLA
  go_region_law (refine step_append_at base rfl (.tmp 9) (.tmp 11) 33 47 _ 7 56 rfl Try.underlying33 Try.infoState rfl (by omega) (by omega) (.slice A l.length c) l.length 1 (stCells l) s.cells ⟨w.heap.size + 1, 0, none⟩ 1 rfl rfl (by omega) rfl Hnews.out s.cells_one Hown.out Hb0.out (by omega) (fun g cap w1 hown1 hg1 hat1 => ?_); have k0 : w1.cell? ⟨L, 0, none⟩ = some (.slice A l.length c) := (hg1.cell HcL.out (fun e => HLA.out e.symm)); have e0 : w1.frozen? ⟨L, 0, none⟩ = false := (World.frozen?_of_block (w := ((w.alloc (.cells s.cells.toArray 47)).alloc (.cells s.cells.toArray 47)).drew) (a := ⟨L, 0, none⟩) (hg1.block L (by simp; omega) (fun e => HLA.out e.symm))).trans HfL.out)
  all_goals
    have k1 := World.cell?_setCell_same w1 _ (.slice (some ⟨g, 0, none⟩) (l.length + 1) cap) k0
    have hlt : L < w1.heap.size := World.block_lt_of_cell? _ _ k0
    go_wp2_with fail
    go_ret
    have hg0 : (Value.slice A l.length c).ownBlock = some g ∨ w.heap.size ≤ g := by
      rcases hat1 with e | e
      · exact .inl e
      · exact .inr (by rw [e]; simp; omega)
    have hgL : g ≠ L := by
      intro e
      rcases hg0 with h0 | h0
      · exact HLA.out (by rw [h0, e])
      · omega
    have hz := hg1.size
    simp only [World.size_drew, World.size_alloc] at hz
    refine ⟨by go_num, _, ⟨k1, ?_, ?_, ?_, ?_⟩, ?_, ?_⟩
    · rw [World.frozen?_setCell]; exact e0
    · have := hown1.kept (w' := w1.setCell ⟨L, 0, none⟩ (.slice (some ⟨g, 0, none⟩) (l.length + 1) cap)) (row := some L) ⟨rfl, rfl, rfl, by simp, fun k hk hne => Below.heap_setCell _ _ _ _ (fun e => hne (by rw [e]))⟩ (.inr (by simp [Value.ownBlock]; exact hgL))
      rw [stCells_snoc, List.length_append]
      exact this
    · simp only [Value.ownBlock]; intro e; injection e with e; exact hgL e
    · have := H.out.base; simp only [World.size_setCell]; omega
    · rcases hg0 with h0 | h0
      · exact .inl (by rw [h0]; rfl)
      · exact .inr ⟨g, rfl, h0⟩
    · refine ⟨hg1.os, hg1.tape, hg1.output, by simp only [World.size_setCell]; omega, fun k hk h1 h2 => ?_⟩
      rw [Below.heap_setCell _ _ _ _ h1, hg1.block k (by simp; omega) h2]
      show ((w.heap.push _).push _)[k]? = _
      rw [Array.getElem?_push, Array.getElem?_push]
      simp only [Array.size_push]
      rw [if_neg (by omega), if_neg (by omega)]
set_option maxRecDepth 100000 in
set_option maxHeartbeats 2000000 in
theorem rrepeat_opt (t : T) (hk : t.k = 6) (hr : rightF t = true) (hmx : ¬ t.mx < 0) (ih : ∀ p ∈ t.ps, LayAt 45 p) : LayAt 62 t := by
  intro w ok A c L base v l to hN ho hL hlen
  have hN' := hN
  have hps1 : 0 < t.ps.length := by rcases right_cases hr with h | h | h | h | h | h | h <;> omega
  obtain ⟨b, o, rfl, hb, hcell⟩ := hN.part hps1
  obtain ⟨Ap, cp, h8, hNp⟩ := hcell 0 hps1
  have hp0 : t.ps[0] ∈ t.ps := List.getElem_mem _
  have hih := ih t.ps[0] hp0
  have hlc := hN.len
  have hcc := hN.cap
  have hhead : headF t.ps = layF t.ps[0] := headF_at t.ps hps1
  have hrep : layF t to l = repF t.mn t.mx (headF t.ps) to l := by rw [layF_eq]; simp [hk]
  rw [hhead] at hrep
  have hb3 : 0 ≤ t.mn ∧ t.mn ≤ 255 ∧ t.mx ≤ 255 ∧ (t.mx = -1 ∨ t.mn ≤ t.mx) := by rcases right_cases hr with h | h | h | h | h | h | h <;> omega
  obtain ⟨hmn0, hmn1, hmx1, hmm⟩ := hb3
  generalize t.ps[0] = p at *
  obtain ⟨f0, f1, f2, f3, f4, f5, f6, f7⟩ := h8
  simp only [Nat.zero_mul, Nat.add_zero] at f0 f1 f2 f3 f4 f5 f6 f7
  have Hih := Lib.hid hih; have Hrep := Lib.hid hrep; have Hk := Lib.hid hk
  have hgp := layF_grows p
  have hlt1 : (0 : Int) < (t.ps.length : Int) := by omega
  clear hih hrep hk hcell hhead
  have hLlt := hL.lt
  have hblt := (ho b hb).1
  rw [Hrep.out] at hlen
  go_enter Try.func62, Try.ntmps62
  have hq1 : (t.mx == -1) = false := by rw [beq_eq_false_iff_ne]; omega
  go_wp2_with fail
  generalize hW : (w.alloc _).alloc _ = W0
  have hz0 : w.heap.size + 2 = W0.heap.size := by subst hW; simp
  have hL0 : Layer W0 L base v l := by subst hW; exact (hL.alloc _).alloc _
  have ho0w := ho.later (w' := W0) (by omega) (Moves.refl _ _)
  have hlw : Lays L v.ownBlock w W0 := by subst hW; exact (Lays.alloc _ _ _ _).trans (Moves.refl _ v) (Lays.alloc _ _ _ _)
  have hmw : Moves w v v := Moves.refl _ _
  have hP : At8 W0 (w.heap.size + 1) 0 p Ap cp := by subst hW; constructor <;> simp [go_sem]
  have g5 : W0.cell? ⟨w.heap.size, 5, none⟩ = some (.int .i64 t.mn) := by subst hW; simp [go_sem]
  have g6 : W0.cell? ⟨w.heap.size, 6, none⟩ = some (.int .i64 t.mx) := by subst hW; simp [go_sem]
  have hNp0 := hNp.lays ho hlw
  obtain ⟨hv1, hv2⟩ : some w.heap.size ≠ v.ownBlock ∧ some (w.heap.size + 1) ≠ v.ownBlock := by
    constructor
    · intro e; have := (hL.own.lt _ e.symm).2; omega
    · intro e; have := (hL.own.lt _ e.symm).2; omega
  have hB0 : w.heap.size < W0.heap.size ∧ w.heap.size ≠ L ∧ some w.heap.size ≠ v.ownBlock := ⟨by omega, by omega, hv1⟩
  have hB1 : w.heap.size + 1 < W0.heap.size ∧ w.heap.size + 1 ≠ L ∧ some (w.heap.size + 1) ≠ v.ownBlock := ⟨by omega, by omega, hv2⟩
  clear hW
  have ho0 := ho0w
  have ho0' := ho0w
  have hmx' : 0 ≤ t.mx - t.mn := by omega
  have hopt : minF (layF p) t.mn.toNat (optF (layF p) to (t.mx - t.mn).toNat to l).1 (optF (layF p) to (t.mx - t.mn).toNat to l).2 = layF t to l := by rw [Hrep.out, repF]; simp only [if_neg (show ¬ t.mx < 0 by omega)]
  have Hopt := Lib.hid hopt; clear hopt
  go_loopg [8, 11] ((t.mx - t.mn).toNat) (fun n tv iv wr => ∃ (i : Nat) (t' : Int) (v' : Value) (l' : List St), iv = .int .i64 (t.mn + i) ∧ tv = .int .i64 t' ∧ i + n = (t.mx - t.mn).toNat ∧ optF (layF p) to n t' l' = optF (layF p) to (t.mx - t.mn).toNat to l ∧ Layer wr L base v' l' ∧ Moves W0 v v' ∧ Lays L v.ownBlock W0 wr)
  case atStart => exact ⟨0, to, v, l, by simp, rfl, by omega, rfl, hL0, Moves.refl _ _, Lays.refl _ _ _⟩
  case round =>
    obtain ⟨i, t', v', l', rfl, rfl, hin, heq, hLr, hmr, hlr⟩ := hrel
    have Heq := Lib.hid heq; clear heq
    have hor := ho0.later hlr.size hmr
    have hNr := hNp0.lays ho0' hlr
    have hzr := hlr.size
    obtain ⟨q0, q1, q2, q3, q4, q5, q6, q7⟩ := hP.mono (fun o => hlr.cell hB1.1 hB1.2.1 hB1.2.2)
    simp only [Nat.zero_add] at q0 q1 q2 q3 q4 q5 q6 q7
    have hfl : (optF (layF p) to (t.mx - t.mn).toNat to l).2.length ≤ 1000000 := by
      have := minF_grows hgp t.mn.toNat (optF (layF p) to (t.mx - t.mn).toNat to l).1 (optF (layF p) to (t.mx - t.mn).toNat to l).2
      rw [Hopt.out, Hrep.out] at this; omega
    have hlc' : l'.length ≤ 1000000 := by have := optF_grows hgp to gk t' l'; rw [Heq.out] at this; omega
    have k6 := (hlr.cell (o := 6) hB0.1 hB0.2.1 hB0.2.2).trans g6
    by_cases hlt : t.mn + (i : Int) < t.mx
    · obtain ⟨n', hgk⟩ : ∃ n', gk = n' + 1 := ⟨gk - 1, by omega⟩
      have hst : (layF p t' l').2.length + 1 ≤ 1000000 := by
        have h1 := optF_grows hgp to n' (layF p t' l').2.length ((layF p t' l').2 ++ [splitS (layF p t' l').1 to])
        have h2 := Heq.out
        rw [hgk, optF] at h2
        rw [h2] at h1
        simp only [List.length_append, List.length_cons, List.length_nil] at h1
        omega
      have hnx : optF (layF p) to n' (layF p t' l').2.length ((layF p t' l').2 ++ [splitS (layF p t' l').1 to]) = optF (layF p) to (t.mx - t.mn).toNat to l := by rw [← Heq.out, hgk, optF]
      have Hnx := Lib.hid hnx; have Hgk := Lib.hid hgk; clear hnx hgk hfl
      go_wp2_with fail
      refine (Hih.out _ ok Ap cp L base _ l' t' hNr hor hLr (by omega)).mono ?_
      rintro e w1 ⟨rfl, v1, hL1, hm1, hl1⟩
      have hmm1 := hmr.trans hzr hm1
      have hll1 := hlr.trans hmr hl1
      go_wp2_with fail
      refine (rstate_any _ L base v1 _ (splitS (layF p t' l').1 to) hL1 (by omega)).mono ?_
      rintro e w2 ⟨rfl, v2, hL2, hm2, hl2⟩
      have hmm2 := hmm1.trans hll1.size hm2
      have hll2 := hll1.trans hmm1 hl2
      go_wp2_with fail
      go_roundg n'
      case measure => have := Hgk.out; omega
      case rel => exact ⟨i + 1, (layF p t' l').2.length, _, _, by go_num, rfl, by have := Hgk.out; omega, Hnx.out, hL2, hmm2, hll2⟩
    · have hfin : optF (layF p) to (t.mx - t.mn).toNat to l = (t', l') := by rw [← Heq.out, show gk = 0 by omega, optF]
      have hst2 : minF (layF p) t.mn.toNat t' l' = layF t to l := by rw [← Hopt.out, hfin]
      have Hst2 := Lib.hid hst2; clear hst2 hfin hfl
      have k5 := (hlr.cell (o := 5) hB0.1 hB0.2.1 hB0.2.2).trans g5
      go_wp2_with fail
      go_loopg [8, 13] (t.mn.toNat) (fun n tv iv wr => ∃ (i : Nat) (t' : Int) (v' : Value) (l' : List St), iv = .int .i64 i ∧ tv = .int .i64 t' ∧ i + n = t.mn.toNat ∧ minF (layF p) n t' l' = layF t to l ∧ Layer wr L base v' l' ∧ Moves W0 v v' ∧ Lays L v.ownBlock W0 wr)
      case atStart => exact ⟨0, t', v', l', rfl, rfl, by omega, Hst2.out, hLr, hmr, hlr⟩
      case round =>
        clear hLr hmr hlr hor hNr hzr q0 q1 q2 q3 q4 q5 q6 q7 hlc' hin Heq Hst2 k5 k6 hlt
        obtain ⟨i, t', v', l', rfl, rfl, hin, heq, hLr, hmr, hlr⟩ := hrel
        have Heq := Lib.hid heq; clear heq
        have hor := ho0.later hlr.size hmr
        have hNr := hNp0.lays ho0' hlr
        have hzr := hlr.size
        obtain ⟨q0, q1, q2, q3, q4, q5, q6, q7⟩ := hP.mono (fun o => hlr.cell hB1.1 hB1.2.1 hB1.2.2)
        simp only [Nat.zero_add] at q0 q1 q2 q3 q4 q5 q6 q7
        have hlc' : l'.length ≤ 1000000 := by have := minF_grows hgp gk t' l'; rw [Heq.out, Hrep.out] at this; omega
        have k5' := (hlr.cell (o := 5) hB0.1 hB0.2.1 hB0.2.2).trans g5
        by_cases hlt : (i : Int) < t.mn
        · obtain ⟨n', hgk⟩ : ∃ n', gk = n' + 1 := ⟨gk - 1, by omega⟩
          have hst : (layF p t' l').2.length ≤ 1000000 := by
            have h1 := Heq.out
            rw [hgk, minF] at h1
            have h2 := Hrep.out
            split at h1
            · rw [h1, h2]; exact hlen
            · have := minF_grows hgp n' (layF p t' l').1 (layF p t' l').2; rw [h1, h2] at this; omega
          obtain ⟨Av, cv, rfl⟩ := hLr.form
          have hcL := hLr.cell
          go_wp2_with fail
          refine (Hih.out _ ok Ap cp L base _ l' t' hNr hor hLr hst).mono ?_
          rintro e w1 ⟨rfl, v1, hL1, hm1, hl1⟩
          obtain ⟨Av1, cv1, rfl⟩ := hL1.form
          have hcL1 := hL1.cell
          have hmm1 := hmr.trans hzr hm1
          have hll1 := hlr.trans hmr hl1
          by_cases hsame : (layF p t' l').2.length = l'.length
          · have hfin : layF t to l = layF p t' l' := by rw [← Heq.out, hgk, minF, if_pos hsame]
            have hq : (((layF p t' l').2.length : Int) == (l'.length : Int)) = true := by rw [beq_iff_eq, hsame]
            have Hfin := Lib.hid hfin; have Hsame := Lib.hid hsame; have Hgk := Lib.hid hgk; clear hfin hsame hgk
            go_wp2_with fail
            go_ret
            rw [Hfin.out]
            exact ⟨rfl, _, hL1, hmw.trans (by omega) hmm1, hlw.trans hmw hll1⟩
          · have hq : (((layF p t' l').2.length : Int) == (l'.length : Int)) = false := by rw [beq_eq_false_iff_ne]; omega
            have hnx : minF (layF p) n' (layF p t' l').1 (layF p t' l').2 = layF t to l := by rw [← Heq.out, hgk, minF, if_neg hsame]
            have Hnx := Lib.hid hnx; have Hsame := Lib.hid hsame; have Hgk := Lib.hid hgk; clear hnx hsame hgk
            go_wp2_with fail
            go_roundg n'
            case measure => have := Hgk.out; omega
            case rel => exact ⟨i + 1, (layF p t' l').1, _, (layF p t' l').2, by go_num, rfl, by have := Hgk.out; omega, Hnx.out, hL1, hmm1, hll1⟩
        · have hfin : layF t to l = (t', l') := by rw [← Heq.out, show gk = 0 by omega, minF]
          have Hfin := Lib.hid hfin; clear hfin
          go_wp2_with fail
          go_ret
          rw [Hfin.out]
          exact ⟨rfl, _, hLr, hmw.trans (by omega) hmr, hlw.trans hmw hlr⟩

set_option maxRecDepth 100000 in
set_option maxHeartbeats 2000000 in
theorem rrepeat_star (t : T) (hk : t.k = 6) (hr : rightF t = true) (hmx : t.mx < 0) (ih : ∀ p ∈ t.ps, LayAt 45 p) : LayAt 62 t := by
  intro w ok A c L base v l to hN ho hL hlen
  have hN' := hN
  have hps1 : 0 < t.ps.length := by rcases right_cases hr with h | h | h | h | h | h | h <;> omega
  obtain ⟨b, o, rfl, hb, hcell⟩ := hN.part hps1
  obtain ⟨Ap, cp, h8, hNp⟩ := hcell 0 hps1
  have hp0 : t.ps[0] ∈ t.ps := List.getElem_mem _
  have hih := ih t.ps[0] hp0
  have hlc := hN.len
  have hcc := hN.cap
  have hhead : headF t.ps = layF t.ps[0] := headF_at t.ps hps1
  have hrep : layF t to l = repF t.mn t.mx (headF t.ps) to l := by rw [layF_eq]; simp [hk]
  rw [hhead] at hrep
  have hb3 : 0 ≤ t.mn ∧ t.mn ≤ 255 ∧ t.mx ≤ 255 ∧ (t.mx = -1 ∨ t.mn ≤ t.mx) := by rcases right_cases hr with h | h | h | h | h | h | h <;> omega
  obtain ⟨hmn0, hmn1, hmx1, hmm⟩ := hb3
  generalize t.ps[0] = p at *
  obtain ⟨f0, f1, f2, f3, f4, f5, f6, f7⟩ := h8
  simp only [Nat.zero_mul, Nat.add_zero] at f0 f1 f2 f3 f4 f5 f6 f7
  have Hih := Lib.hid hih; have Hrep := Lib.hid hrep; have Hk := Lib.hid hk
  have hgp := layF_grows p
  have hlt1 : (0 : Int) < (t.ps.length : Int) := by omega
  clear hih hrep hk hcell hhead
  have hLlt := hL.lt
  have hblt := (ho b hb).1
  rw [Hrep.out] at hlen
  go_enter Try.func62, Try.ntmps62
  have hrp : repF t.mn t.mx (layF p) to l = minF (layF p) t.mn.toNat (starF (layF p) to l).1 (starF (layF p) to l).2 := by rw [repF]; simp only [if_pos hmx]
  have hg1 := minF_grows hgp t.mn.toNat (starF (layF p) to l).1 (starF (layF p) to l).2
  rw [← hrp] at hg1
  have hg2 : (starF (layF p) to l).2.length = (layF p l.length (l ++ [splitS 0 to])).2.length := by simp [starF, setNx]
  have hg3 := hgp l.length (l ++ [splitS 0 to])
  simp only [List.length_append, List.length_cons, List.length_nil] at hg3
  have Hrp := Lib.hid hrp; have Hg2 := Lib.hid hg2; clear hrp
  have hlen1 : l.length ≤ 1000000 := by omega
  have hlen2 : (layF p l.length (l ++ [splitS 0 to])).2.length ≤ 1000000 := by omega
  have Hlen := Lib.hid hlen
  clear hg1 hg2 hlen
  have hnn : ¬ t.mn < t.mx := by omega
  have hq1 : (t.mx == -1) = true := by rw [beq_iff_eq]; omega
  go_wp2_with fail
  generalize hW : (w.alloc _).alloc _ = W0
  have hz0 : w.heap.size + 2 = W0.heap.size := by subst hW; simp
  have hL0 : Layer W0 L base v l := by subst hW; exact (hL.alloc _).alloc _
  have ho0w := ho.later (w' := W0) (by omega) (Moves.refl _ _)
  have hlw : Lays L v.ownBlock w W0 := by subst hW; exact (Lays.alloc _ _ _ _).trans (Moves.refl _ v) (Lays.alloc _ _ _ _)
  have hmw : Moves w v v := Moves.refl _ _
  have hP : At8 W0 (w.heap.size + 1) 0 p Ap cp := by subst hW; constructor <;> simp [go_sem]
  have g5 : W0.cell? ⟨w.heap.size, 5, none⟩ = some (.int .i64 t.mn) := by subst hW; simp [go_sem]
  have g6 : W0.cell? ⟨w.heap.size, 6, none⟩ = some (.int .i64 t.mx) := by subst hW; simp [go_sem]
  have hNp0 := hNp.lays ho hlw
  obtain ⟨hv1, hv2⟩ : some w.heap.size ≠ v.ownBlock ∧ some (w.heap.size + 1) ≠ v.ownBlock := by
    constructor
    · intro e; have := (hL.own.lt _ e.symm).2; omega
    · intro e; have := (hL.own.lt _ e.symm).2; omega
  have hB0 : w.heap.size < W0.heap.size ∧ w.heap.size ≠ L ∧ some w.heap.size ≠ v.ownBlock := ⟨by omega, by omega, hv1⟩
  have hB1 : w.heap.size + 1 < W0.heap.size ∧ w.heap.size + 1 ≠ L ∧ some (w.heap.size + 1) ≠ v.ownBlock := ⟨by omega, by omega, hv2⟩
  clear hW
  have ho0 := ho0w
  have ho0' := ho0w
  refine (rstate_any _ L base v l (splitS 0 to) hL0 (by omega)).mono ?_
  rintro e w1 ⟨rfl, v1, hL1, hm1, hl1⟩
  obtain ⟨q0, q1, q2, q3, q4, q5, q6, q7⟩ := hP.mono (fun o => hl1.cell hB1.1 hB1.2.1 hB1.2.2)
  simp only [Nat.zero_add] at q0 q1 q2 q3 q4 q5 q6 q7
  go_wp2_with fail
  refine (Hih.out _ ok Ap cp L base v1 _ (l.length : Int) (hNp0.lays ho0' hl1) (ho0.later hl1.size hm1) hL1 hlen2).mono ?_
  rintro e w2 ⟨rfl, v2, hL2, hm2, hl2⟩
  clear q0 q1 q2 q3 q4 q5 q6 q7
  have hmm2 := hm1.trans hl1.size hm2
  have hll2 := hl1.trans hm1 hl2
  have hli : l.length < (layF p l.length (l ++ [splitS 0 to])).2.length := by omega
  obtain ⟨g, cap, rfl, hgL, hgb, hgz⟩ := hL2.form' (by omega)
  obtain ⟨hc5, hfz, hL3, hl3⟩ := hL2.setNx l.length hli (layF p l.length (l ++ [splitS 0 to])).1
  obtain ⟨old, hc5'⟩ := Option.isSome_iff_exists.1 hc5
  have hcL2 := hL2.cell
  have hli' : (l.length : Int) < ((layF p l.length (l ++ [splitS 0 to])).2.length : Int) := by omega
  have h5 : (w2.setCell ⟨g, l.length * 7 + 5, none⟩ (.int .i64 (layF p l.length (l ++ [splitS 0 to])).1)).cell? ⟨w.heap.size, 5, none⟩ = some (.int .i64 t.mn) := by
    rw [hl3.cell (by have := hll2.size; omega) hB0.2.1 ?_, hll2.cell hB0.1 hB0.2.1 hB0.2.2, g5]
    intro e
    rcases hmm2 with h | ⟨x, hx, hle⟩
    · exact hB0.2.2 (e.trans h)
    · simp only [Value.ownBlock] at hx; rw [← e] at hx; injection hx with hx; omega
  have h6 : (w2.setCell ⟨g, l.length * 7 + 5, none⟩ (.int .i64 (layF p l.length (l ++ [splitS 0 to])).1)).cell? ⟨w.heap.size, 6, none⟩ = some (.int .i64 t.mx) := by
    rw [hl3.cell (by have := hll2.size; omega) hB0.2.1 ?_, hll2.cell hB0.1 hB0.2.1 hB0.2.2, g6]
    intro e
    rcases hmm2 with h | ⟨x, hx, hle⟩
    · exact hB0.2.2 (e.trans h)
    · simp only [Value.ownBlock] at hx; rw [← e] at hx; injection hx with hx; omega
  have hll3 : Lays L v.ownBlock W0 (w2.setCell ⟨g, l.length * 7 + 5, none⟩ (.int .i64 (layF p l.length (l ++ [splitS 0 to])).1)) := hll2.trans hmm2 hl3
  have hL3' : Layer (w2.setCell ⟨g, l.length * 7 + 5, none⟩ (.int .i64 (layF p l.length (l ++ [splitS 0 to])).1)) L base (.slice (some ⟨g, 0, none⟩) (layF p l.length (l ++ [splitS 0 to])).2.length cap) (starF (layF p) to l).2 := hL3
  have HL3 := Lib.hid hL3'; have Hll3 := Lib.hid hll3; have Hmm2 := Lib.hid hmm2
  clear hL3 hL3' hll3 hc5 hl3 hll2 hmm2 hm1 hm2 hl1 hl2 hL1 hL2
  have hst2 : minF (layF p) t.mn.toNat (l.length : Int) (starF (layF p) to l).2 = layF t to l := by rw [Hrep.out, Hrp.out]; rfl
  have Hst2 := Lib.hid hst2; clear hst2
  go_wp2_with fail
  generalize hW3 : w2.setCell _ _ = W3 at *
  go_loopg [8, 11] 0 (fun n tv iv wr => iv = .int .i64 t.mn ∧ tv = .int .i64 (l.length : Int) ∧ wr = W3)
  case atStart => exact ⟨rfl, rfl, rfl⟩
  case round =>
    obtain ⟨rfl, rfl, rfl⟩ := hrel
    have hlen := Hlen.out
    clear hW3 hlen2 hli hli' hlen1 hg3 hc5' hfz hcL2
    go_wp2_with fail
    go_loopg [8, 13] (t.mn.toNat) (fun n tv iv wr => ∃ (i : Nat) (t' : Int) (v' : Value) (l' : List St), iv = .int .i64 i ∧ tv = .int .i64 t' ∧ i + n = t.mn.toNat ∧ minF (layF p) n t' l' = layF t to l ∧ Layer wr L base v' l' ∧ Moves W0 v v' ∧ Lays L v.ownBlock W0 wr)
    case atStart => exact ⟨0, (l.length : Int), _, (starF (layF p) to l).2, rfl, rfl, by omega, Hst2.out, HL3.out, Hmm2.out, Hll3.out⟩
    case round =>
      clear Hst2 HL3 Hll3 Hmm2
      obtain ⟨i, t', v', l', rfl, rfl, hin, heq, hLr, hmr, hlr⟩ := hrel
      have Heq := Lib.hid heq; clear heq
      have hor := ho0.later hlr.size hmr
      have hNr := hNp0.lays ho0' hlr
      have hzr := hlr.size
      obtain ⟨q0, q1, q2, q3, q4, q5, q6, q7⟩ := hP.mono (fun o => hlr.cell hB1.1 hB1.2.1 hB1.2.2)
      simp only [Nat.zero_add] at q0 q1 q2 q3 q4 q5 q6 q7
      have hlc' : l'.length ≤ 1000000 := by have := minF_grows hgp gk t' l'; rw [Heq.out, Hrep.out] at this; omega
      have k5' := (hlr.cell (o := 5) hB0.1 hB0.2.1 hB0.2.2).trans g5
      by_cases hlt : (i : Int) < t.mn
      · obtain ⟨n', hgk⟩ : ∃ n', gk = n' + 1 := ⟨gk - 1, by omega⟩
        have hst : (layF p t' l').2.length ≤ 1000000 := by
          have h1 := Heq.out
          rw [hgk, minF] at h1
          have h2 := Hrep.out
          split at h1
          · rw [h1, h2]; exact hlen
          · have := minF_grows hgp n' (layF p t' l').1 (layF p t' l').2; rw [h1, h2] at this; omega
        obtain ⟨Av, cv, rfl⟩ := hLr.form
        have hcL := hLr.cell
        go_wp2_with fail
        refine (Hih.out _ ok Ap cp L base _ l' t' hNr hor hLr hst).mono ?_
        rintro e w1 ⟨rfl, v1, hL1, hm1, hl1⟩
        obtain ⟨Av1, cv1, rfl⟩ := hL1.form
        have hcL1 := hL1.cell
        have hmm1 := hmr.trans hzr hm1
        have hll1 := hlr.trans hmr hl1
        by_cases hsame : (layF p t' l').2.length = l'.length
        · have hfin : layF t to l = layF p t' l' := by rw [← Heq.out, hgk, minF, if_pos hsame]
          have hq : (((layF p t' l').2.length : Int) == (l'.length : Int)) = true := by rw [beq_iff_eq, hsame]
          have Hfin := Lib.hid hfin; have Hsame := Lib.hid hsame; have Hgk := Lib.hid hgk; clear hfin hsame hgk
          go_wp2_with fail
          go_ret
          rw [Hfin.out]
          exact ⟨rfl, _, hL1, hmw.trans (by omega) hmm1, hlw.trans hmw hll1⟩
        · have hq : (((layF p t' l').2.length : Int) == (l'.length : Int)) = false := by rw [beq_eq_false_iff_ne]; omega
          have hnx : minF (layF p) n' (layF p t' l').1 (layF p t' l').2 = layF t to l := by rw [← Heq.out, hgk, minF, if_neg hsame]
          have Hnx := Lib.hid hnx; have Hsame := Lib.hid hsame; have Hgk := Lib.hid hgk; clear hnx hsame hgk
          go_wp2_with fail
          go_roundg n'
          case measure => have := Hgk.out; omega
          case rel => exact ⟨i + 1, (layF p t' l').1, _, (layF p t' l').2, by go_num, rfl, by have := Hgk.out; omega, Hnx.out, hL1, hmm1, hll1⟩
      · have hfin : layF t to l = (t', l') := by rw [← Heq.out, show gk = 0 by omega, minF]
        have Hfin := Lib.hid hfin; clear hfin
        go_wp2_with fail
        go_ret
        rw [Hfin.out]
        exact ⟨rfl, _, hLr, hmw.trans (by omega) hmr, hlw.trans hmw hlr⟩

theorem rrepeat_any (t : T) (hk : t.k = 6) (hr : rightF t = true) (ih : ∀ p ∈ t.ps, LayAt 45 p) : LayAt 62 t := by
  by_cases hmx : t.mx < 0
  · exact rrepeat_star t hk hr hmx ih
  · exact rrepeat_opt t hk hr hmx ih
end Go.Proofs.Ytdpmbanfaigmcaa
