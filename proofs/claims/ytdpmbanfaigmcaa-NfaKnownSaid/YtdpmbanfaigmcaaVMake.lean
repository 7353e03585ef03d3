/- The walk of nfa.Make. -/
import Derived.Test.YtdpmbanfaigmcaaVLayAll
import Derived.Test.YtdpmbanfaigmcaaVLen
import Derived.Laws.MakeOwn
import Derived.Deep.OwnRows
set_option linter.unusedVariables false
set_option linter.unusedSimpArgs false
namespace Go.Proofs.Ytdpmbanfaigmcaa
open Go.RowKit

/-- make([]T, 0, c), c a variable, any element: for the walk. -/
theorem wpList_make_own {P : Program} {w : World} {ops : Array Oper} {rest : List Oper} {o : Oper} {a : Act} {Q : Exit → Act → World → Prop} (base : Nat)
    (hg : o.guard = none) (l c : Operand) (t : TypeId) (hop : o.op = Op.makeSlice t l c)
    (e : TypeId) (z : Value) (size bytes : Nat) (ht : P.underlying t = some (.slice e)) (hinfo : (P.info? e).map (fun i => (i.zero, i.size, i.bytes)) = some (some z, size, bytes))
    (kl kc : IntKind) (n : Nat) (hl : a.eval l = .int kl 0) (hc : a.eval c = .int kc (n : Int)) (hbytes : bytes * n ≤ 281474976710656) (h63 : n ≤ maxLen) (hbase : base ≤ w.heap.size)
    (hK : ∀ w1, w1.ownsRow base e size (.slice (some ⟨w.heap.size, 0, none⟩) 0 n) 0 [] → Below w.heap.size w w1 → w.heap.size < w1.heap.size → wpList P ops Q rest (a.put o.dst (.slice (some ⟨w.heap.size, 0, none⟩) 0 n)) w1) :
    wpList P ops Q (o :: rest) a w := by
  obtain ⟨i, hi, hzz⟩ := Option.map_eq_some_iff.1 hinfo
  simp only [Prod.mk.injEq] at hzz
  obtain ⟨hz0, hz1, hz2⟩ := hzz
  refine wpList_plain hg fun K hK' => ?_
  have hb' : (i.bytes : Int) * (n : Int) ≤ 281474976710656 := by
    have h : ((i.bytes * n : Nat) : Int) ≤ 281474976710656 := by rw [hz2]; omega
    rwa [Int.natCast_mul] at h
  have h63' : (n : Int) ≤ 9223372036854775807 := by have h := h63; simp [maxLen] at h; omega
  have hrun := run_make (P := P) w t e i z ht hi hz0 kl kc 0 n (Int.le_refl _) (by omega) hb' h63'
  simp only [Int.toNat_zero, Int.toNat_natCast] at hrun
  have hk := hK _ (by subst hz1; exact World.ownsRow_made w (madeCells z.cells (n * i.size)) n hbase h63 (size_madeCells _ _)) ((Below.refl _ _).alloc (Nat.le_refl _) _) (by simp)
  unfold Oper.wp
  simp [execOp, hop, hl, hc, hrun, Result.andThen]
  exact hK' _ _ hk

/-- What nfa.Make makes: the states, and the start. -/
def makeL (t : T) : List St := if sizeE t = 0 then (layF t 0 [⟨5, 0, 0, 0, 0, 0, 0⟩]).2 else []
def makeS (t : T) : Int := if sizeE t = 0 then (layF t 0 [⟨5, 0, 0, 0, 0, 0, 0⟩]).1 else 0
theorem sizeE_zero {t : T} (h : sizeE t = 0) : rightF t = true ∧ countF t ≤ 4095 ∧ sizeK t = 1 + countF t := by
  unfold sizeE at h
  unfold sizeK
  by_cases h1 : checkF t = 0
  · simp only [h1, ne_eq, not_true_eq_false, if_false] at h ⊢
    have := (check_right h1).1
    split at h
    · omega
    · rename_i hh
      rw [if_neg hh]
      exact ⟨this, by omega, rfl⟩
  · simp [h1] at h
theorem makeL_len {t : T} (h : sizeE t = 0) : ((makeL t).length : Int) = sizeK t := by
  obtain ⟨h1, h2, h3⟩ := sizeE_zero h
  rw [makeL, if_pos h, lay_len t h1 (by omega), h3]
  have := (countF_bd t h1).1
  simp only [List.length_cons, List.length_nil]
  omega
theorem sizeK_bd (t : T) : 0 ≤ sizeK t ∧ sizeK t ≤ 4096 := by
  unfold sizeK
  by_cases h1 : checkF t = 0
  · have := (countF_bd t (check_right h1).1).1
    simp only [h1, ne_eq, not_true_eq_false, if_false]
    split <;> omega
  · simp [h1]
theorem makeL_le (t : T) : (makeL t).length ≤ 4096 := by
  by_cases h : sizeE t = 0
  · have := makeL_len h
    have := sizeK_bd t
    omega
  · simp [makeL, h]

set_option maxRecDepth 100000 in
set_option maxHeartbeats 2000000 in
theorem make_any (t : T) (w : World) (ok : Nat → Prop) (A : Option Addr) (c : Nat) (hN : NodeAt w ok t A c) (hok : ∀ b, ok b → b < w.heap.size) :
    Calls Try.prog 15 #[nodeV t A c] w fun e w' => ∃ v, e = .returned (.tuple #[.agg #[v, .int .i64 (makeS t)], .int .i64 (sizeE t)]) ∧
      w'.ownsRow w.heap.size 47 7 v (makeL t).length (stCells (makeL t)) ∧ Below w.heap.size w w' := by
  have hlen := hN.len
  go_enter Try.func15, Try.ntmps15
  go_wp2_with fail
  generalize hW : (w.alloc _).alloc _ = W0
  have hB0 : Below w.heap.size w W0 := by subst hW; exact ((Below.refl _ _).alloc (Nat.le_refl _) _).alloc (by simp) _
  have hsz : W0.heap.size = w.heap.size + 2 := by subst hW; simp
  have p0 : W0.cell? ⟨w.heap.size, 0, none⟩ = some (.int .i64 t.k) := by subst hW; simp [go_sem]
  have p1 : W0.cell? ⟨w.heap.size, 1, none⟩ = some (.int .u64 t.s0) := by subst hW; simp [go_sem]
  have p2 : W0.cell? ⟨w.heap.size, 2, none⟩ = some (.int .u64 t.s1) := by subst hW; simp [go_sem]
  have p3 : W0.cell? ⟨w.heap.size, 3, none⟩ = some (.int .u64 t.s2) := by subst hW; simp [go_sem]
  have p4 : W0.cell? ⟨w.heap.size, 4, none⟩ = some (.int .u64 t.s3) := by subst hW; simp [go_sem]
  have p5 : W0.cell? ⟨w.heap.size, 5, none⟩ = some (.int .i64 t.mn) := by subst hW; simp [go_sem]
  have p6 : W0.cell? ⟨w.heap.size, 6, none⟩ = some (.int .i64 t.mx) := by subst hW; simp [go_sem]
  have p7 : W0.cell? ⟨w.heap.size, 7, none⟩ = some (.slice A t.ps.length c) := by subst hW; simp [go_sem]
  have q0 : W0.cell? ⟨w.heap.size + 1, 0, none⟩ = some (.slice none 0 0) := by subst hW; simp [go_sem]
  have q1 : W0.cell? ⟨w.heap.size + 1, 1, none⟩ = some (.int .i64 0) := by subst hW; simp [go_sem]
  have qf0 : W0.frozen? ⟨w.heap.size + 1, 0, none⟩ = false := by subst hW; simp [go_sem]
  have qf1 : W0.frozen? ⟨w.heap.size + 1, 1, none⟩ = false := by subst hW; simp [go_sem]
  clear hW
  refine (nsize_any t W0 ok A c (hN.later hB0 hok) (fun b h => by have := hok b h; omega)).mono ?_
  rintro e w1 ⟨rfl, hb1⟩
  have hB1 : Below w.heap.size w w1 := hB0.trans (hb1.mono (by omega))
  have hN1 := hN.later hB1 hok
  have hs1 := hb1.size
  obtain ⟨hc1, hf1⟩ := bcell hb1
  rw [← hc1 _ _ (by omega)] at p0 p1 p2 p3 p4 p5 p6 p7 q0 q1
  rw [← hf1 _ _ (by omega)] at qf0 qf1
  clear hc1 hf1
  have h12 : w.heap.size + 2 ≤ w1.heap.size := by omega
  clear hsz
  by_cases h : sizeE t = 0
  · have hkk := makeL_len h
    have hll := makeL_le t
    have hlo : makeL t = (layF t 0 [⟨5, 0, 0, 0, 0, 0, 0⟩]).2 := by rw [makeL, if_pos h]
    have hso : makeS t = (layF t 0 [⟨5, 0, 0, 0, 0, 0, 0⟩]).1 := by rw [makeS, if_pos h]
    have hr := (sizeE_zero h).1
    have hb : (sizeE t != 0) = false := by rw [h]; rfl
    obtain ⟨k, hk⟩ : ∃ k : Nat, sizeK t = k := ⟨_, hkk.symm⟩
    have hk4 : k ≤ 4096 := by omega
    have H := Lib.hid h; have Hlo := Lib.hid hlo; have Hso := Lib.hid hso; have Hr := Lib.hid hr; clear h hlo hso hr hkk
    rw [hk]
    clear hk
    go_wp2_with (refine wpList_make_own w.heap.size rfl _ _ 33 rfl 47 _ 7 56 Try.underlying33 Try.infoState .i64 .i64 k rfl rfl (by omega) (by simp [maxLen]; omega) (by omega) (fun w2 ho2 hb2 hs2 => ?_))
    generalize hW2 : w2.alloc _ = W2
    have hl0 : Layer W2 w2.heap.size w.heap.size (.slice (some ⟨w1.heap.size, 0, none⟩) 0 k) [] := by
      subst hW2
      exact ⟨by simp [go_sem], by simp [go_sem], ho2.alloc _, by simp [Value.ownBlock]; omega, by simp; omega⟩
    have hBW : Below w1.heap.size w1 W2 := by subst hW2; exact hb2.alloc (by omega) _
    have hBW' : Below w.heap.size w W2 := hB1.trans (hBW.mono (by omega))
    clear hW2
    have hok2 : OkL W2 w2.heap.size (.slice (some ⟨w1.heap.size, 0, none⟩) 0 k) ok := fun b hb => by
      have := hok b hb
      have := hBW'.size
      refine ⟨by omega, by omega, ?_⟩
      simp [Value.ownBlock]; omega
    refine (state_any W2 w2.heap.size w.heap.size _ [] ⟨5, 0, 0, 0, 0, 0, 0⟩ hl0 (by simp)).mono ?_
    rintro e w3 ⟨rfl, v3, hL3, hm3, hl3⟩
    simp only [List.nil_append] at hL3
    have hs3 := hl3.size
    have hsW := hBW.size
    obtain ⟨hcW, hfW⟩ := bcell hBW
    have hc3 : ∀ b o, b < w1.heap.size → w3.cell? ⟨b, o, none⟩ = w1.cell? ⟨b, o, none⟩ := fun b o hb =>
      (hl3.cell (by omega) (by omega) (by simp [Value.ownBlock]; omega)).trans (hcW b o hb)
    have hf3 : ∀ b o, b < w1.heap.size → w3.frozen? ⟨b, o, none⟩ = w1.frozen? ⟨b, o, none⟩ := fun b o hb =>
      (hl3.frozen (by omega) (by omega) (by simp [Value.ownBlock]; omega)).trans (hfW b o hb)
    rw [← hc3 _ _ (by omega)] at p0 p1 p2 p3 p4 p5 p6 p7 q0 q1
    rw [← hf3 _ _ (by omega)] at qf0 qf1
    clear hcW hfW
    go_wp2_with fail
    refine (lay_any t Hr.out w3 ok A c w2.heap.size w.heap.size v3 _ 0 ((hN.later hBW' hok).lays hok2 hl3) (hok2.later hl3.size hm3) hL3 (by rw [← Hlo.out]; omega)).mono ?_
    rintro e w4 ⟨rfl, v4, hL4, hm4, hl4⟩
    have hs4 := hl4.size
    have hm34 := hm3.trans hl3.size hm4
    have hl34 := hl3.trans hm3 hl4
    have hc4 : ∀ b o, b < w1.heap.size → w4.cell? ⟨b, o, none⟩ = w1.cell? ⟨b, o, none⟩ := fun b o hb =>
      (hl34.cell (by omega) (by omega) (by simp [Value.ownBlock]; omega)).trans ((bcell hBW).1 b o hb)
    have hf4 : ∀ b o, b < w1.heap.size → w4.frozen? ⟨b, o, none⟩ = w1.frozen? ⟨b, o, none⟩ := fun b o hb =>
      (hl34.frozen (by omega) (by omega) (by simp [Value.ownBlock]; omega)).trans ((bcell hBW).2 b o hb)
    rw [hc3 _ _ (by omega), ← hc4 _ _ (by omega)] at p0 p1 p2 p3 p4 p5 p6 p7 q0 q1
    rw [hf3 _ _ (by omega), ← hf4 _ _ (by omega)] at qf0 qf1
    clear hc3 hf3
    rw [← Hlo.out, ← Hso.out] at *
    have hcL := hL4.cell
    have ho4 := Lib.hid hL4.own
    have hB4 : Below w.heap.size w w4 := ⟨hl34.os.trans hBW'.os, hl34.tape.trans hBW'.tape, hl34.output.trans hBW'.output, Nat.le_trans hBW'.size hl34.size, fun j hj => (hl34.block j (by omega) (by omega) (by simp [Value.ownBlock]; omega)).trans (hBW'.block j hj)⟩
    have hvb : v4.ownBlock ≠ some (w.heap.size + 1) := by
      rcases hm34 with e | ⟨b, e, hle⟩
      · rw [e]; simp [Value.ownBlock]; omega
      · rw [e]; simp; omega
    have Hvb := Lib.hid hvb; clear hvb
    clear hc4 hf4 hL4
    obtain ⟨A4, n4, c4, rfl⟩ : ∃ A n c, v4 = .slice A n c := by
      rcases ho4.out.2 with ⟨e, _⟩ | ⟨g, cap, cur, e, _⟩
      · exact ⟨_, _, _, e⟩
      · exact ⟨_, _, _, e⟩
    go_wp2_with fail
    have r1 := World.cell?_setCell_same (w4.setCell ⟨w.heap.size + 1, 0, none⟩ (Value.slice A4 n4 c4)) ⟨w.heap.size + 1, 1, none⟩ (.int .i64 (makeS t)) (by rw [World.cell?_setCell_other (h := by simp)]; exact q1)
    have r0 : ((w4.setCell ⟨w.heap.size + 1, 0, none⟩ (Value.slice A4 n4 c4)).setCell ⟨w.heap.size + 1, 1, none⟩ (.int .i64 (makeS t))).cell? ⟨w.heap.size + 1, 0, none⟩ = some (.slice A4 n4 c4) := by
      rw [World.cell?_setCell_other (h := by simp)]
      exact World.cell?_setCell_same w4 _ _ q0
    refine bodyPost_ret (v := .tuple #[.agg #[.slice A4 n4 c4, .int .i64 (makeS t)], .int .i64 0]) (by simp [results, Try.results15, r0, r1, go_sem]) rfl ⟨_, by rw [H.out], ?_, ?_⟩
    · refine ho4.out.kept (row := some (w.heap.size + 1)) ⟨rfl, rfl, rfl, by simp, fun j hj hne => ?_⟩ (.inr (fun e => Hvb.out e))
      rw [Below.heap_setCell _ _ _ _ (fun e => hne (by rw [e])), Below.heap_setCell _ _ _ _ (fun e => hne (by rw [e]))]
    · exact (hB4.setCell (by simp) _).setCell (by simp) _
  · have hlo : makeL t = [] := by rw [makeL, if_neg h]
    have hso : makeS t = 0 := by rw [makeS, if_neg h]
    have hb : (sizeE t != 0) = true := by rw [bne_iff_ne]; exact h
    clear h
    go_wp2_with fail
    have r1 := World.cell?_setCell_same (w1.setCell ⟨w.heap.size + 1, 0, none⟩ (Value.slice none 0 0)) ⟨w.heap.size + 1, 1, none⟩ (.int .i64 0) (by rw [World.cell?_setCell_other (h := by simp)]; exact q1)
    have r0 : ((w1.setCell ⟨w.heap.size + 1, 0, none⟩ (Value.slice none 0 0)).setCell ⟨w.heap.size + 1, 1, none⟩ (.int .i64 0)).cell? ⟨w.heap.size + 1, 0, none⟩ = some (.slice none 0 0) := by
      rw [World.cell?_setCell_other (h := by simp)]
      exact World.cell?_setCell_same w1 _ _ q0
    refine bodyPost_ret (v := .tuple #[.agg #[.slice none 0 0, .int .i64 0], .int .i64 (sizeE t)]) (by simp [results, Try.results15, r0, r1, go_sem]) rfl ⟨.slice none 0 0, by rw [hso], ?_, ?_⟩
    · rw [hlo]; exact ⟨rfl, .inl ⟨rfl, rfl⟩⟩
    · exact (hB1.setCell (by simp) _).setCell (by simp) _
end Go.Proofs.Ytdpmbanfaigmcaa
