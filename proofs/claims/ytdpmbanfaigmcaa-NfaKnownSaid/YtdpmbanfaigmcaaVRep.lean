/- The walk of nfa's layer: repeat. -/
import Derived.Test.YtdpmbanfaigmcaaVLay
set_option linter.unusedVariables false
set_option linter.unusedSimpArgs false
namespace Go.Proofs.Ytdpmbanfaigmcaa
open Go.RowKit

theorem Layer.form {w : World} {L base : Nat} {v : Value} {l : List St} (h : Layer w L base v l) : ∃ A c, v = .slice A l.length c := by
  rcases h.own.2 with ⟨rfl, h0⟩ | ⟨g, cap, cur, rfl, _⟩
  · exact ⟨none, 0, by rw [h0]⟩
  · exact ⟨_, cap, rfl⟩
theorem Layer.form' {w : World} {L base : Nat} {v : Value} {l : List St} (h : Layer w L base v l) (hl : 0 < l.length) : ∃ g cap, v = .slice (some ⟨g, 0, none⟩) l.length cap ∧ g ≠ L ∧ base ≤ g ∧ g < w.heap.size := by
  rcases h.own.2 with ⟨rfl, h0⟩ | ⟨g, cap, cur, rfl, hb, hg, _⟩
  · omega
  · refine ⟨g, cap, rfl, fun e => h.ne (by simp [Value.ownBlock, e]), hb, (Array.getElem?_eq_some_iff.1 hg).1⟩
theorem stCells_at (l : List St) (i : Nat) (hi : i < l.length) : ∀ j, j < 7 → (stCells l)[i * 7 + j]? = (l[i].cells)[j]? := by
  induction l generalizing i with
  | nil => simp at hi
  | cons s l ih =>
    intro j hj
    show (s.cells ++ stCells l)[i * 7 + j]? = _
    have hs : s.cells.length = 7 := rfl
    cases i with
    | zero => rw [List.getElem?_append_left (by rw [hs]; omega)]; simp
    | succ i =>
      rw [List.getElem?_append_right (by rw [hs]; omega), hs, show (i + 1) * 7 + j - 7 = i * 7 + j by omega]
      exact ih i (by simpa using hi) j hj
theorem stCells_setNx (l : List St) (i : Nat) (x : Int) (hi : i < l.length) : (stCells l).set (i * 7 + 5) (.int .i64 x) = stCells (setNx l i x) := by
  induction l generalizing i with
  | nil => simp at hi
  | cons s l ih =>
    have hs : s.cells.length = 7 := rfl
    cases i with
    | zero => simp only [setNx, List.modify_zero_cons]; rfl
    | succ i =>
      have : setNx (s :: l) (i + 1) x = s :: setNx l i x := by simp [setNx]
      rw [this]
      show (s.cells ++ stCells l).set _ _ = s.cells ++ stCells (setNx l i x)
      rw [← ih i (by simpa using hi), List.set_append_right _ _ (by rw [hs]; omega), hs, show (i + 1) * 7 + 5 - 7 = i * 7 + 5 by omega]
/-- A state's Next is written. -/
theorem Layer.setNx {w : World} {L base g cap : Nat} {l : List St} (h : Layer w L base (.slice (some ⟨g, 0, none⟩) l.length cap) l) (i : Nat) (hi : i < l.length) (x : Int) :
    (w.cell? ⟨g, i * 7 + 5, none⟩).isSome = true ∧ w.frozen? ⟨g, i * 7 + 5, none⟩ = false ∧ Layer (w.setCell ⟨g, i * 7 + 5, none⟩ (.int .i64 x)) L base (.slice (some ⟨g, 0, none⟩) l.length cap) (setNx l i x) ∧
    Lays L (some g) w (w.setCell ⟨g, i * 7 + 5, none⟩ (.int .i64 x)) := by
  have hgL : L ≠ g := fun e => h.ne (by simp [Value.ownBlock, e])
  have h1 : w.cell? ⟨g, i * 7 + 5, none⟩ = _ := h.own.cellAt (i * 7 + 5) (by omega)
  rw [stCells_at l i hi 5 (by omega)] at h1
  have hst := h.own.stored (i * 7 + 5) (.int .i64 x)
  rw [stCells_setNx l i x hi] at hst
  refine ⟨by rw [h1]; rfl, h.own.frozenAt _, ⟨?_, ?_, ?_, h.ne, ?_⟩, ?_⟩
  · rw [World.cell?_setCell_other _ _ _ _ (by intro e; injection e with e; exact hgL e.symm)]; exact h.cell
  · rw [World.frozen?_setCell]; exact h.froz
  · have : (Go.Proofs.Ytdpmbanfaigmcaa.setNx l i x).length = l.length := by simp [Go.Proofs.Ytdpmbanfaigmcaa.setNx]
    rw [this]; exact hst.1
  · rw [World.size_setCell]; exact h.base
  · exact ⟨rfl, rfl, rfl, by rw [World.size_setCell]; exact Nat.le_refl _, fun k hk _ hne => Below.heap_setCell _ _ _ _ (fun e => hne (by rw [e]))⟩

theorem headF_at : ∀ (ps : List T) (h : 0 < ps.length), headF ps = layF ps[0]
  | p :: ps, _ => by funext to l; rw [headF]; rfl
theorem At8.zero {w : World} {b : Nat} {t : T} {A : Option Addr} {c : Nat} (h : At8 w b 0 t A c) : w.cell? ⟨b, 0, none⟩ = some (.int .i64 t.k) := h.f0

set_option maxRecDepth 100000 in
set_option maxHeartbeats 2000000 in
theorem repeat_opt (t : T) (hk : t.k = 6) (hr : rightF t = true) (hmx : ¬ t.mx < 0) (ih : ∀ p ∈ t.ps, LayAt 41 p) : LayAt 72 t := by
  intro w ok A c L base v l to hN ho hL hlen
  have hN' := hN
  have hps1 : 0 < t.ps.length := by rcases right_cases hr with h | h | h | h | h | h | h <;> omega
  obtain ⟨b, o, rfl, hb, hcell⟩ := hN.part hps1
  obtain ⟨Ap, cp, h8, hNp⟩ := hcell 0 hps1
  have hp0 : t.ps[0] ∈ t.ps := List.getElem_mem _
  have hih := ih t.ps[0] hp0
  have hlc := hN.len
  have hcc := hN.cap
  have hhead : headF t.ps = layF t.ps[0] := headF_at t.ps hps1
  have hrep : layF t to l = repF t.mn t.mx (headF t.ps) to l := by rw [layF_eq]; simp [hk]
  rw [hhead] at hrep
  have hb3 : 0 ≤ t.mn ∧ t.mn ≤ 255 ∧ t.mx ≤ 255 ∧ (t.mx = -1 ∨ t.mn ≤ t.mx) := by rcases right_cases hr with h | h | h | h | h | h | h <;> omega
  obtain ⟨hmn0, hmn1, hmx1, hmm⟩ := hb3
  generalize t.ps[0] = p at *
  obtain ⟨f0, f1, f2, f3, f4, f5, f6, f7⟩ := h8
  simp only [Nat.zero_mul, Nat.add_zero] at f0 f1 f2 f3 f4 f5 f6 f7
  have Hih := Lib.hid hih; have Hrep := Lib.hid hrep; have Hk := Lib.hid hk
  have hgp := layF_grows p
  have hlt1 : (0 : Int) < (t.ps.length : Int) := by omega
  clear hih hrep hk hcell hhead
  have hLlt := hL.lt
  have hblt := (ho b hb).1
  rw [Hrep.out] at hlen
  go_enter Try.func72, Try.ntmps72
  go_wp2_with fail
  generalize hW : (w.alloc _).alloc _ = W0
  have hz0 : w.heap.size + 2 = W0.heap.size := by subst hW; simp
  have hL0 : Layer W0 L base v l := by subst hW; exact (hL.alloc _).alloc _
  have ho0w := ho.later (w' := W0) (by omega) (Moves.refl _ _)
  have hlw : Lays L v.ownBlock w W0 := by subst hW; exact (Lays.alloc _ _ _ _).trans (Moves.refl _ v) (Lays.alloc _ _ _ _)
  have hmw : Moves w v v := Moves.refl _ _
  have hP : At8 W0 (w.heap.size + 1) 0 p Ap cp := by subst hW; constructor <;> simp [go_sem]
  have g5 : W0.cell? ⟨w.heap.size, 5, none⟩ = some (.int .i64 t.mn) := by subst hW; simp [go_sem]
  have g6 : W0.cell? ⟨w.heap.size, 6, none⟩ = some (.int .i64 t.mx) := by subst hW; simp [go_sem]
  have hNp0 := hNp.lays ho hlw
  obtain ⟨hv1, hv2⟩ : some w.heap.size ≠ v.ownBlock ∧ some (w.heap.size + 1) ≠ v.ownBlock := by
    constructor
    · intro e; have := (hL.own.lt _ e.symm).2; omega
    · intro e; have := (hL.own.lt _ e.symm).2; omega
  have hB0 : w.heap.size < W0.heap.size ∧ w.heap.size ≠ L ∧ some w.heap.size ≠ v.ownBlock := ⟨by omega, by omega, hv1⟩
  have hB1 : w.heap.size + 1 < W0.heap.size ∧ w.heap.size + 1 ≠ L ∧ some (w.heap.size + 1) ≠ v.ownBlock := ⟨by omega, by omega, hv2⟩
  clear hW
  have ho0 := ho0w
  have ho0' := ho0w
  have hmx' : 0 ≤ t.mx - t.mn := by omega
  have hopt : minF (layF p) t.mn.toNat (optF (layF p) to (t.mx - t.mn).toNat to l).1 (optF (layF p) to (t.mx - t.mn).toNat to l).2 = layF t to l := by rw [Hrep.out, repF]; simp only [if_neg (show ¬ t.mx < 0 by omega)]
  have Hopt := Lib.hid hopt; clear hopt
  go_loopg [8, 41] ((t.mx - t.mn).toNat) (fun n tv iv wr => ∃ (i : Nat) (t' : Int) (v' : Value) (l' : List St), iv = .int .i64 i ∧ tv = .int .i64 t' ∧ i + n = (t.mx - t.mn).toNat ∧ optF (layF p) to n t' l' = optF (layF p) to (t.mx - t.mn).toNat to l ∧ Layer wr L base v' l' ∧ Moves W0 v v' ∧ Lays L v.ownBlock W0 wr)
  case atStart => exact ⟨0, to, v, l, rfl, rfl, by omega, rfl, hL0, Moves.refl _ _, Lays.refl _ _ _⟩
  case round =>
    obtain ⟨i, t', v', l', rfl, rfl, hin, heq, hLr, hmr, hlr⟩ := hrel
    have Heq := Lib.hid heq; clear heq
    have hor := ho0.later hlr.size hmr
    have hNr := hNp0.lays ho0' hlr
    have hzr := hlr.size
    obtain ⟨q0, q1, q2, q3, q4, q5, q6, q7⟩ := hP.mono (fun o => hlr.cell hB1.1 hB1.2.1 hB1.2.2)
    simp only [Nat.zero_add] at q0 q1 q2 q3 q4 q5 q6 q7
    have hfl : (optF (layF p) to (t.mx - t.mn).toNat to l).2.length ≤ 1000000 := by
      have := minF_grows hgp t.mn.toNat (optF (layF p) to (t.mx - t.mn).toNat to l).1 (optF (layF p) to (t.mx - t.mn).toNat to l).2
      rw [Hopt.out, Hrep.out] at this; omega
    have hlc' : l'.length ≤ 1000000 := by have := optF_grows hgp to gk t' l'; rw [Heq.out] at this; omega
    by_cases hlt : (i : Int) < t.mx - t.mn
    · obtain ⟨n', hgk⟩ : ∃ n', gk = n' + 1 := ⟨gk - 1, by omega⟩
      have hst : (layF p t' l').2.length + 1 ≤ 1000000 := by
        have h1 := optF_grows hgp to n' (layF p t' l').2.length ((layF p t' l').2 ++ [splitS (layF p t' l').1 to])
        have h2 := Heq.out
        rw [hgk, optF] at h2
        rw [h2] at h1
        simp only [List.length_append, List.length_cons, List.length_nil] at h1
        omega
      have hnx : optF (layF p) to n' (layF p t' l').2.length ((layF p t' l').2 ++ [splitS (layF p t' l').1 to]) = optF (layF p) to (t.mx - t.mn).toNat to l := by rw [← Heq.out, hgk, optF]
      have Hnx := Lib.hid hnx; have Hgk := Lib.hid hgk; clear hnx hgk hfl
      go_wp2_with fail
      refine (Hih.out _ ok Ap cp L base _ l' t' hNr hor hLr (by omega)).mono ?_
      rintro e w1 ⟨rfl, v1, hL1, hm1, hl1⟩
      have hmm1 := hmr.trans hzr hm1
      have hll1 := hlr.trans hmr hl1
      go_wp2_with fail
      refine (state_any _ L base v1 _ (splitS (layF p t' l').1 to) hL1 (by omega)).mono ?_
      rintro e w2 ⟨rfl, v2, hL2, hm2, hl2⟩
      have hmm2 := hmm1.trans hll1.size hm2
      have hll2 := hll1.trans hmm1 hl2
      go_wp2_with fail
      go_roundg n'
      case measure => have := Hgk.out; omega
      case rel => exact ⟨i + 1, (layF p t' l').2.length, _, _, by go_num, rfl, by have := Hgk.out; omega, Hnx.out, hL2, hmm2, hll2⟩
    · have hfin : optF (layF p) to (t.mx - t.mn).toNat to l = (t', l') := by rw [← Heq.out, show gk = 0 by omega, optF]
      have hst2 : minF (layF p) t.mn.toNat t' l' = layF t to l := by rw [← Hopt.out, hfin]
      have Hst2 := Lib.hid hst2; clear hst2 hfin hfl
      have k5 := (hlr.cell (o := 5) hB0.1 hB0.2.1 hB0.2.2).trans g5
      go_wp2_with fail
      go_loopg [8, 55] (t.mn.toNat) (fun n tv iv wr => ∃ (i : Nat) (t' : Int) (v' : Value) (l' : List St), iv = .int .i64 i ∧ tv = .int .i64 t' ∧ i + n = t.mn.toNat ∧ minF (layF p) n t' l' = layF t to l ∧ Layer wr L base v' l' ∧ Moves W0 v v' ∧ Lays L v.ownBlock W0 wr)
      case atStart => exact ⟨0, t', v', l', rfl, rfl, by omega, Hst2.out, hLr, hmr, hlr⟩
      case round =>
        clear hLr hmr hlr hor hNr hzr q0 q1 q2 q3 q4 q5 q6 q7 hlc' hin Heq Hst2 k5 hlt
        obtain ⟨i, t', v', l', rfl, rfl, hin, heq, hLr, hmr, hlr⟩ := hrel
        have Heq := Lib.hid heq; clear heq
        have hor := ho0.later hlr.size hmr
        have hNr := hNp0.lays ho0' hlr
        have hzr := hlr.size
        obtain ⟨q0, q1, q2, q3, q4, q5, q6, q7⟩ := hP.mono (fun o => hlr.cell hB1.1 hB1.2.1 hB1.2.2)
        simp only [Nat.zero_add] at q0 q1 q2 q3 q4 q5 q6 q7
        have hlc' : l'.length ≤ 1000000 := by have := minF_grows hgp gk t' l'; rw [Heq.out, Hrep.out] at this; omega
        by_cases hlt : (i : Int) < t.mn
        · obtain ⟨n', hgk⟩ : ∃ n', gk = n' + 1 := ⟨gk - 1, by omega⟩
          have hst : (layF p t' l').2.length ≤ 1000000 := by
            have h1 := Heq.out
            rw [hgk, minF] at h1
            have h2 := Hrep.out
            split at h1
            · rw [h1, h2]; exact hlen
            · have := minF_grows hgp n' (layF p t' l').1 (layF p t' l').2; rw [h1, h2] at this; omega
          obtain ⟨Av, cv, rfl⟩ := hLr.form
          have hcL := hLr.cell
          go_wp2_with fail
          refine (Hih.out _ ok Ap cp L base _ l' t' hNr hor hLr hst).mono ?_
          rintro e w1 ⟨rfl, v1, hL1, hm1, hl1⟩
          obtain ⟨Av1, cv1, rfl⟩ := hL1.form
          have hcL1 := hL1.cell
          have hmm1 := hmr.trans hzr hm1
          have hll1 := hlr.trans hmr hl1
          by_cases hsame : (layF p t' l').2.length = l'.length
          · have hfin : layF t to l = layF p t' l' := by rw [← Heq.out, hgk, minF, if_pos hsame]
            have hq : (((layF p t' l').2.length : Int) == (l'.length : Int)) = true := by rw [beq_iff_eq, hsame]
            have Hfin := Lib.hid hfin; have Hsame := Lib.hid hsame; have Hgk := Lib.hid hgk; clear hfin hsame hgk
            go_wp2_with fail
            go_ret
            rw [Hfin.out]
            exact ⟨rfl, _, hL1, hmw.trans (by omega) hmm1, hlw.trans hmw hll1⟩
          · have hq : (((layF p t' l').2.length : Int) == (l'.length : Int)) = false := by rw [beq_eq_false_iff_ne]; omega
            have hnx : minF (layF p) n' (layF p t' l').1 (layF p t' l').2 = layF t to l := by rw [← Heq.out, hgk, minF, if_neg hsame]
            have Hnx := Lib.hid hnx; have Hsame := Lib.hid hsame; have Hgk := Lib.hid hgk; clear hnx hsame hgk
            go_wp2_with fail
            go_roundg n'
            case measure => have := Hgk.out; omega
            case rel => exact ⟨i + 1, (layF p t' l').1, _, (layF p t' l').2, by go_num, rfl, by have := Hgk.out; omega, Hnx.out, hL1, hmm1, hll1⟩
        · have hfin : layF t to l = (t', l') := by rw [← Heq.out, show gk = 0 by omega, minF]
          have Hfin := Lib.hid hfin; clear hfin
          go_wp2_with fail
          go_ret
          rw [Hfin.out]
          exact ⟨rfl, _, hLr, hmw.trans (by omega) hmr, hlw.trans hmw hlr⟩

set_option maxRecDepth 100000 in
set_option maxHeartbeats 2000000 in
theorem repeat_star (t : T) (hk : t.k = 6) (hr : rightF t = true) (hmx : t.mx < 0) (ih : ∀ p ∈ t.ps, LayAt 41 p) : LayAt 72 t := by
  intro w ok A c L base v l to hN ho hL hlen
  have hN' := hN
  have hps1 : 0 < t.ps.length := by rcases right_cases hr with h | h | h | h | h | h | h <;> omega
  obtain ⟨b, o, rfl, hb, hcell⟩ := hN.part hps1
  obtain ⟨Ap, cp, h8, hNp⟩ := hcell 0 hps1
  have hp0 : t.ps[0] ∈ t.ps := List.getElem_mem _
  have hih := ih t.ps[0] hp0
  have hlc := hN.len
  have hcc := hN.cap
  have hhead : headF t.ps = layF t.ps[0] := headF_at t.ps hps1
  have hrep : layF t to l = repF t.mn t.mx (headF t.ps) to l := by rw [layF_eq]; simp [hk]
  rw [hhead] at hrep
  have hb3 : 0 ≤ t.mn ∧ t.mn ≤ 255 ∧ t.mx ≤ 255 ∧ (t.mx = -1 ∨ t.mn ≤ t.mx) := by rcases right_cases hr with h | h | h | h | h | h | h <;> omega
  obtain ⟨hmn0, hmn1, hmx1, hmm⟩ := hb3
  generalize t.ps[0] = p at *
  obtain ⟨f0, f1, f2, f3, f4, f5, f6, f7⟩ := h8
  simp only [Nat.zero_mul, Nat.add_zero] at f0 f1 f2 f3 f4 f5 f6 f7
  have Hih := Lib.hid hih; have Hrep := Lib.hid hrep; have Hk := Lib.hid hk
  have hgp := layF_grows p
  have hlt1 : (0 : Int) < (t.ps.length : Int) := by omega
  clear hih hrep hk hcell hhead
  have hLlt := hL.lt
  have hblt := (ho b hb).1
  rw [Hrep.out] at hlen
  go_enter Try.func72, Try.ntmps72
  have hrp : repF t.mn t.mx (layF p) to l = minF (layF p) t.mn.toNat (starF (layF p) to l).1 (starF (layF p) to l).2 := by rw [repF]; simp only [if_pos hmx]
  have hg1 := minF_grows hgp t.mn.toNat (starF (layF p) to l).1 (starF (layF p) to l).2
  rw [← hrp] at hg1
  have hg2 : (starF (layF p) to l).2.length = (layF p l.length (l ++ [splitS 0 to])).2.length := by simp [starF, setNx]
  have hg3 := hgp l.length (l ++ [splitS 0 to])
  simp only [List.length_append, List.length_cons, List.length_nil] at hg3
  have Hrp := Lib.hid hrp; have Hg2 := Lib.hid hg2; clear hrp
  have hlen1 : l.length ≤ 1000000 := by omega
  have hlen2 : (layF p l.length (l ++ [splitS 0 to])).2.length ≤ 1000000 := by omega
  have Hlen := Lib.hid hlen
  clear hg1 hg2 hlen
  have hnn : ¬ (0 : Int) < t.mx - t.mn := by omega
  go_wp2_with fail
  generalize hW : (w.alloc _).alloc _ = W0
  have hz0 : w.heap.size + 2 = W0.heap.size := by subst hW; simp
  have hL0 : Layer W0 L base v l := by subst hW; exact (hL.alloc _).alloc _
  have ho0w := ho.later (w' := W0) (by omega) (Moves.refl _ _)
  have hlw : Lays L v.ownBlock w W0 := by subst hW; exact (Lays.alloc _ _ _ _).trans (Moves.refl _ v) (Lays.alloc _ _ _ _)
  have hmw : Moves w v v := Moves.refl _ _
  have hP : At8 W0 (w.heap.size + 1) 0 p Ap cp := by subst hW; constructor <;> simp [go_sem]
  have g5 : W0.cell? ⟨w.heap.size, 5, none⟩ = some (.int .i64 t.mn) := by subst hW; simp [go_sem]
  have g6 : W0.cell? ⟨w.heap.size, 6, none⟩ = some (.int .i64 t.mx) := by subst hW; simp [go_sem]
  have hNp0 := hNp.lays ho hlw
  obtain ⟨hv1, hv2⟩ : some w.heap.size ≠ v.ownBlock ∧ some (w.heap.size + 1) ≠ v.ownBlock := by
    constructor
    · intro e; have := (hL.own.lt _ e.symm).2; omega
    · intro e; have := (hL.own.lt _ e.symm).2; omega
  have hB0 : w.heap.size < W0.heap.size ∧ w.heap.size ≠ L ∧ some w.heap.size ≠ v.ownBlock := ⟨by omega, by omega, hv1⟩
  have hB1 : w.heap.size + 1 < W0.heap.size ∧ w.heap.size + 1 ≠ L ∧ some (w.heap.size + 1) ≠ v.ownBlock := ⟨by omega, by omega, hv2⟩
  clear hW
  have ho0 := ho0w
  have ho0' := ho0w
  refine (state_any _ L base v l (splitS 0 to) hL0 (by omega)).mono ?_
  rintro e w1 ⟨rfl, v1, hL1, hm1, hl1⟩
  obtain ⟨q0, q1, q2, q3, q4, q5, q6, q7⟩ := hP.mono (fun o => hl1.cell hB1.1 hB1.2.1 hB1.2.2)
  simp only [Nat.zero_add] at q0 q1 q2 q3 q4 q5 q6 q7
  go_wp2_with fail
  refine (Hih.out _ ok Ap cp L base v1 _ (l.length : Int) (hNp0.lays ho0' hl1) (ho0.later hl1.size hm1) hL1 hlen2).mono ?_
  rintro e w2 ⟨rfl, v2, hL2, hm2, hl2⟩
  clear q0 q1 q2 q3 q4 q5 q6 q7
  have hmm2 := hm1.trans hl1.size hm2
  have hll2 := hl1.trans hm1 hl2
  have hli : l.length < (layF p l.length (l ++ [splitS 0 to])).2.length := by omega
  obtain ⟨g, cap, rfl, hgL, hgb, hgz⟩ := hL2.form' (by omega)
  obtain ⟨hc5, hfz, hL3, hl3⟩ := hL2.setNx l.length hli (layF p l.length (l ++ [splitS 0 to])).1
  obtain ⟨old, hc5'⟩ := Option.isSome_iff_exists.1 hc5
  have hcL2 := hL2.cell
  have hli' : (l.length : Int) < ((layF p l.length (l ++ [splitS 0 to])).2.length : Int) := by omega
  have h5 : (w2.setCell ⟨g, l.length * 7 + 5, none⟩ (.int .i64 (layF p l.length (l ++ [splitS 0 to])).1)).cell? ⟨w.heap.size, 5, none⟩ = some (.int .i64 t.mn) := by
    rw [hl3.cell (by have := hll2.size; omega) hB0.2.1 ?_, hll2.cell hB0.1 hB0.2.1 hB0.2.2, g5]
    intro e
    rcases hmm2 with h | ⟨x, hx, hle⟩
    · exact hB0.2.2 (e.trans h)
    · simp only [Value.ownBlock] at hx; rw [← e] at hx; injection hx with hx; omega
  have h6 : (w2.setCell ⟨g, l.length * 7 + 5, none⟩ (.int .i64 (layF p l.length (l ++ [splitS 0 to])).1)).cell? ⟨w.heap.size, 6, none⟩ = some (.int .i64 t.mx) := by
    rw [hl3.cell (by have := hll2.size; omega) hB0.2.1 ?_, hll2.cell hB0.1 hB0.2.1 hB0.2.2, g6]
    intro e
    rcases hmm2 with h | ⟨x, hx, hle⟩
    · exact hB0.2.2 (e.trans h)
    · simp only [Value.ownBlock] at hx; rw [← e] at hx; injection hx with hx; omega
  have hll3 : Lays L v.ownBlock W0 (w2.setCell ⟨g, l.length * 7 + 5, none⟩ (.int .i64 (layF p l.length (l ++ [splitS 0 to])).1)) := hll2.trans hmm2 hl3
  have hL3' : Layer (w2.setCell ⟨g, l.length * 7 + 5, none⟩ (.int .i64 (layF p l.length (l ++ [splitS 0 to])).1)) L base (.slice (some ⟨g, 0, none⟩) (layF p l.length (l ++ [splitS 0 to])).2.length cap) (starF (layF p) to l).2 := hL3
  have HL3 := Lib.hid hL3'; have Hll3 := Lib.hid hll3; have Hmm2 := Lib.hid hmm2
  clear hL3 hL3' hll3 hc5 hl3 hll2 hmm2 hm1 hm2 hl1 hl2 hL1 hL2
  have hst2 : minF (layF p) t.mn.toNat (l.length : Int) (starF (layF p) to l).2 = layF t to l := by rw [Hrep.out, Hrp.out]; rfl
  have Hst2 := Lib.hid hst2; clear hst2
  go_wp2_with fail
  generalize hW3 : w2.setCell _ _ = W3 at *
  go_loopg [8, 41] 0 (fun n tv iv wr => iv = .int .i64 0 ∧ tv = .int .i64 (l.length : Int) ∧ wr = W3)
  case atStart => exact ⟨rfl, rfl, rfl⟩
  case round =>
    obtain ⟨rfl, rfl, rfl⟩ := hrel
    have hlen := Hlen.out
    clear hW3 hlen2 hli hli' hlen1 hg3 hc5' hfz hcL2
    go_wp2_with fail
    go_loopg [8, 55] (t.mn.toNat) (fun n tv iv wr => ∃ (i : Nat) (t' : Int) (v' : Value) (l' : List St), iv = .int .i64 i ∧ tv = .int .i64 t' ∧ i + n = t.mn.toNat ∧ minF (layF p) n t' l' = layF t to l ∧ Layer wr L base v' l' ∧ Moves W0 v v' ∧ Lays L v.ownBlock W0 wr)
    case atStart => exact ⟨0, (l.length : Int), _, (starF (layF p) to l).2, rfl, rfl, by omega, Hst2.out, HL3.out, Hmm2.out, Hll3.out⟩
    case round =>
      clear Hst2 HL3 Hll3 Hmm2
      obtain ⟨i, t', v', l', rfl, rfl, hin, heq, hLr, hmr, hlr⟩ := hrel
      have Heq := Lib.hid heq; clear heq
      have hor := ho0.later hlr.size hmr
      have hNr := hNp0.lays ho0' hlr
      have hzr := hlr.size
      obtain ⟨q0, q1, q2, q3, q4, q5, q6, q7⟩ := hP.mono (fun o => hlr.cell hB1.1 hB1.2.1 hB1.2.2)
      simp only [Nat.zero_add] at q0 q1 q2 q3 q4 q5 q6 q7
      have hlc' : l'.length ≤ 1000000 := by have := minF_grows hgp gk t' l'; rw [Heq.out, Hrep.out] at this; omega
      by_cases hlt : (i : Int) < t.mn
      · obtain ⟨n', hgk⟩ : ∃ n', gk = n' + 1 := ⟨gk - 1, by omega⟩
        have hst : (layF p t' l').2.length ≤ 1000000 := by
          have h1 := Heq.out
          rw [hgk, minF] at h1
          have h2 := Hrep.out
          split at h1
          · rw [h1, h2]; exact hlen
          · have := minF_grows hgp n' (layF p t' l').1 (layF p t' l').2; rw [h1, h2] at this; omega
        obtain ⟨Av, cv, rfl⟩ := hLr.form
        have hcL := hLr.cell
        go_wp2_with fail
        refine (Hih.out _ ok Ap cp L base _ l' t' hNr hor hLr hst).mono ?_
        rintro e w1 ⟨rfl, v1, hL1, hm1, hl1⟩
        obtain ⟨Av1, cv1, rfl⟩ := hL1.form
        have hcL1 := hL1.cell
        have hmm1 := hmr.trans hzr hm1
        have hll1 := hlr.trans hmr hl1
        by_cases hsame : (layF p t' l').2.length = l'.length
        · have hfin : layF t to l = layF p t' l' := by rw [← Heq.out, hgk, minF, if_pos hsame]
          have hq : (((layF p t' l').2.length : Int) == (l'.length : Int)) = true := by rw [beq_iff_eq, hsame]
          have Hfin := Lib.hid hfin; have Hsame := Lib.hid hsame; have Hgk := Lib.hid hgk; clear hfin hsame hgk
          go_wp2_with fail
          go_ret
          rw [Hfin.out]
          exact ⟨rfl, _, hL1, hmw.trans (by omega) hmm1, hlw.trans hmw hll1⟩
        · have hq : (((layF p t' l').2.length : Int) == (l'.length : Int)) = false := by rw [beq_eq_false_iff_ne]; omega
          have hnx : minF (layF p) n' (layF p t' l').1 (layF p t' l').2 = layF t to l := by rw [← Heq.out, hgk, minF, if_neg hsame]
          have Hnx := Lib.hid hnx; have Hsame := Lib.hid hsame; have Hgk := Lib.hid hgk; clear hnx hsame hgk
          go_wp2_with fail
          go_roundg n'
          case measure => have := Hgk.out; omega
          case rel => exact ⟨i + 1, (layF p t' l').1, _, (layF p t' l').2, by go_num, rfl, by have := Hgk.out; omega, Hnx.out, hL1, hmm1, hll1⟩
      · have hfin : layF t to l = (t', l') := by rw [← Heq.out, show gk = 0 by omega, minF]
        have Hfin := Lib.hid hfin; clear hfin
        go_wp2_with fail
        go_ret
        rw [Hfin.out]
        exact ⟨rfl, _, hLr, hmw.trans (by omega) hmr, hlw.trans hmw hlr⟩

theorem repeat_any (t : T) (hk : t.k = 6) (hr : rightF t = true) (ih : ∀ p ∈ t.ps, LayAt 41 p) : LayAt 72 t := by
  by_cases hmx : t.mx < 0
  · exact repeat_star t hk hr hmx ih
  · exact repeat_opt t hk hr hmx ih
end Go.Proofs.Ytdpmbanfaigmcaa
