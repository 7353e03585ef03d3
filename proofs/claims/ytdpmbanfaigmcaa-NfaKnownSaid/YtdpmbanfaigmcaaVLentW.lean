/- LentNode: walked. -/
import Derived.Test.YtdpmbanfaigmcaaVLentT
import Derived.Test.YtdpmbanfaigmcaaVRef10
set_option linter.unusedVariables false
set_option linter.unusedSimpArgs false
namespace Go.Proofs.Ytdpmbanfaigmcaa
open Go.RowKit

theorem nodesL_mem : ∀ (ps : List T), ∀ p ∈ ps, nodesF p ≤ nodesL ps
  | q :: ps, p, h => by
    rw [nodesL]
    have h1 := nodesF_pos q
    have h2 := nodesL_pos ps (fun q _ => nodesF_pos q)
    cases h with
    | head => omega
    | tail _ h => have := nodesL_mem ps p h; omega
theorem nodesL_len : ∀ (ps : List T), (ps.length : Int) ≤ nodesL ps
  | [] => by simp [nodesL]
  | q :: ps => by
    rw [nodesL, List.length_cons]
    have h1 := nodesF_pos q
    have := nodesL_len ps
    omega
theorem nodes_len (t : T) : t.ps.length ≤ (nodesF t).toNat := by
  have := nodesL_len t.ps
  rw [nodesF_eq]; omega
theorem nodes_part (t : T) : ∀ p ∈ t.ps, nodesF p ≤ nodesF t := fun p hp => by
  have := nodesL_mem t.ps p hp
  rw [nodesF_eq t]; omega
/-- The boxes of LentNode: what came in, the result, the copy. -/
structure LentC (n : Nat) (t : T) (A : Option Addr) (c : Nat) (wr : World) (v : Value) : Prop where
  b0 : Blk wr n #[.int .i64 t.k, .int .u64 t.s0, .int .u64 t.s1, .int .u64 t.s2, .int .u64 t.s3, .int .i64 t.mn, .int .i64 t.mx, .slice A t.ps.length c]
  b1 : Blk wr (n + 1) #[.int .i64 0, .int .u64 0, .int .u64 0, .int .u64 0, .int .u64 0, .int .i64 0, .int .i64 0, .slice none 0 0]
  b2 : Blk wr (n + 1 + 1) #[.int .i64 t.k, .int .u64 t.s0, .int .u64 t.s1, .int .u64 t.s2, .int .u64 t.s3, .int .i64 t.mn, .int .i64 t.mx, v]
theorem LentC.keep {n : Nat} {t : T} {A : Option Addr} {c : Nat} {w w' : World} {v : Value} (h : LentC n t A c w v) (e : ∀ k, k < n + 3 → w'.heap[k]? = w.heap[k]?) : LentC n t A c w' v :=
  ⟨h.b0.keep (e _ (by omega)), h.b1.keep (e _ (by omega)), h.b2.keep (e _ (by omega))⟩
theorem LentC.set {n : Nat} {t : T} {A : Option Addr} {c : Nat} {w : World} {v : Value} (h : LentC n t A c w v) (u : Value) : LentC n t A c (w.setCell ⟨n + 1 + 1, 7, none⟩ u) u :=
  ⟨h.b0.keep (Below.heap_setCell _ _ _ _ (by simp; omega)), h.b1.keep (Below.heap_setCell _ _ _ _ (by simp)), by have := h.b2.set 7 u; simpa using this⟩

/-- The children that are laid: each a lent tree over the blocks S. -/
def Kids (t : T) (wr : World) (S : Nat → Prop) (ns : List (T × Option Addr × Nat)) : Prop := ∀ (i : Nat) (x : T × Option Addr × Nat), ns[i]? = some x → t.ps[i]? = some x.1 ∧ LentAt wr S x.1 x.2.1 x.2.2
theorem Kids.mono {t : T} {w w' : World} {S S' : Nat → Prop} {ns : List (T × Option Addr × Nat)} (h : Kids t w S ns) (hk : ∀ b, S b → S' b ∧ ∀ o, w'.cell? ⟨b, o, none⟩ = w.cell? ⟨b, o, none⟩) : Kids t w' S' ns :=
  fun i x hi => ⟨(h i x hi).1, (h i x hi).2.mono hk⟩
/-- The loop over the parts. -/
def LentJ (w : World) (t : T) (A : Option Addr) (c : Nat) (n : Nat) (i : Value) (wr : World) : Prop :=
  ∃ (j : Nat) (ns : List (T × Option Addr × Nat)) (Av : Option Addr) (cv : Nat) (S : Nat → Prop), i = .int .i64 j ∧ j + n = t.ps.length ∧ ns.length = j ∧ Kids t wr S ns ∧
    (∀ b, S b → w.heap.size + 3 ≤ b ∧ b < wr.heap.size ∧ some b ≠ (Value.slice Av j cv).ownBlock) ∧ Below w.heap.size w wr ∧ LentC w.heap.size t A c wr (.slice Av j cv) ∧
    wr.ownsRow (w.heap.size + 3) 27 8 (.slice Av j cv) j (ncells ns)
/-- The loop over the marks. -/
def LentK (w : World) (t : T) (A : Option Addr) (c : Nat) (ns : List (T × Option Addr × Nat)) (n : Nat) (i : Value) (wr : World) : Prop :=
  ∃ (j : Nat) (Av : Option Addr) (cv : Nat) (S : Nat → Prop), i = .int .i64 j ∧ j + n = 3 ∧ Kids t wr S ns ∧
    (∀ b, S b → w.heap.size + 3 ≤ b ∧ b < wr.heap.size ∧ some b ≠ (Value.slice Av (t.ps.length + j) cv).ownBlock) ∧ Below w.heap.size w wr ∧ LentC w.heap.size t A c wr (.slice Av (t.ps.length + j) cv) ∧
    wr.ownsRow (w.heap.size + 3) 27 8 (.slice Av (t.ps.length + j) cv) (t.ps.length + j) (ncells (ns ++ List.replicate j mark))

theorem grown_two {w1 w3 : World} {o1 o2 : Obj} {row : Option Nat} (hg : ((w1.alloc o1).alloc o2).grownBy w3 row) : ∀ b, b < w1.heap.size → some b ≠ row → w3.heap[b]? = w1.heap[b]? := fun b hb hne =>
  (hg.block b (by simp; omega) hne).trans ((((Below.refl w1.heap.size w1).alloc (Nat.le_refl _) o1).alloc (by simp) o2).block b hb)
theorem grown_one {w1 w3 : World} {o1 : Obj} {row : Option Nat} (hg : (w1.alloc o1).grownBy w3 row) : ∀ b, b < w1.heap.size → some b ≠ row → w3.heap[b]? = w1.heap[b]? := fun b hb hne =>
  (hg.block b (by simp; omega) hne).trans (((Below.refl w1.heap.size w1).alloc (Nat.le_refl _) o1).block b hb)
theorem ncell_two (w1 : World) (x : T × Option Addr × Nat) (o1 : Obj) : ∀ ad, some (⟨w1.heap.size + 1, 0, none⟩ : Addr) = some ad → ∀ j u, (ncell x)[j]? = some u → ((w1.alloc o1).alloc (.cells (ncell x).toArray 27)).cell? (ad.add j) = some u := by
  intro ad e j u hu
  simp only [Option.some.injEq] at e
  subst e
  rw [addr_add, show w1.heap.size + 1 = (w1.alloc o1).heap.size by simp, World.cell?_alloc_new, Nat.zero_add]
  simpa using hu
theorem ncell_new (w1 : World) (x : T × Option Addr × Nat) : ∀ ad, some (⟨w1.heap.size, 0, none⟩ : Addr) = some ad → ∀ j u, (ncell x)[j]? = some u → (w1.alloc (.cells (ncell x).toArray 27)).cell? (ad.add j) = some u := by
  intro ad e j u hu
  simp only [Option.some.injEq] at e
  subst e
  rw [addr_add, World.cell?_alloc_new, Nat.zero_add]
  simpa using hu

/-- What the last two statements of LentNode write. -/
def fillW (wr : World) (n : Nat) (t : T) (v : Value) : World :=
  ((((((((wr.setCell ⟨n + 1 + 1, 7, none⟩ v).setCell ⟨n + 1, 0, none⟩ (.int .i64 t.k)).setCell ⟨n + 1, 1, none⟩ (.int .u64 t.s0)).setCell ⟨n + 1, 2, none⟩ (.int .u64 t.s1)).setCell ⟨n + 1, 3, none⟩ (.int .u64 t.s2)).setCell ⟨n + 1, 4, none⟩ (.int .u64 t.s3)).setCell ⟨n + 1, 5, none⟩ (.int .i64 t.mn)).setCell ⟨n + 1, 6, none⟩ (.int .i64 t.mx)).setCell ⟨n + 1, 7, none⟩ v
theorem fillW_blk {wr : World} {n : Nat} {t : T} {A : Option Addr} {c : Nat} {v0 v : Value} (h : LentC n t A c wr v0) : Blk (fillW wr n t v) (n + 1) #[.int .i64 t.k, .int .u64 t.s0, .int .u64 t.s1, .int .u64 t.s2, .int .u64 t.s3, .int .i64 t.mn, .int .i64 t.mx, v] := by
  have h1 := ((((((((h.b1.keep (w' := wr.setCell ⟨n + 1 + 1, 7, none⟩ v) (Below.heap_setCell _ _ _ _ (by simp))).set 0 (.int .i64 t.k)).set 1 (.int .u64 t.s0)).set 2 (.int .u64 t.s1)).set 3 (.int .u64 t.s2)).set 4 (.int .u64 t.s3)).set 5 (.int .i64 t.mn)).set 6 (.int .i64 t.mx)).set 7 v
  unfold fillW; simpa using h1
theorem fillW_size (wr : World) (n : Nat) (t : T) (v : Value) : (fillW wr n t v).heap.size = wr.heap.size := by simp [fillW]
theorem fillW_other (wr : World) (n : Nat) (t : T) (v : Value) (b : Nat) (h1 : b ≠ n + 1) (h2 : b ≠ n + 1 + 1) : (fillW wr n t v).heap[b]? = wr.heap[b]? := by
  unfold fillW
  iterate 8 rw [Below.heap_setCell _ _ _ _ h1]
  exact Below.heap_setCell _ _ _ _ h2
theorem fillW_below {w wr : World} {t : T} {v : Value} (h : Below w.heap.size w wr) : Below w.heap.size w (fillW wr w.heap.size t v) := by
  unfold fillW
  exact ((((((((h.setCell (by simp; omega) _).setCell (by simp) _).setCell (by simp) _).setCell (by simp) _).setCell (by simp) _).setCell (by simp) _).setCell (by simp) _).setCell (by simp) _).setCell (by simp) _

set_option maxRecDepth 100000 in
set_option maxHeartbeats 4000000 in
theorem lent_any (t : T) : ∀ (w : World) (ok : Nat → Prop) (A : Option Addr) (c : Nat), NodeAt w ok t A c → (∀ b, ok b → b < w.heap.size) → nodesF t ≤ 100000 →
    Calls Try.prog 13 #[nodeV t A c] w fun e w' => ∃ A' c', e = .returned (nodeV t A' c') ∧ LentAt w' (fun b => w.heap.size ≤ b ∧ b < w'.heap.size) t A' c' ∧ Below w.heap.size w w' := by
  induction t using T.ind with
  | h t ih =>
    intro w ok A c hN hok hno
    have hlen : t.ps.length ≤ 100000 := Nat.le_trans (nodes_len t) (by omega)
    have hcc := hN.cap
    have Hih := Lib.hid ih; clear ih
    have Hno := Lib.hid hno; clear hno
    go_enter Try.func13, Try.ntmps13
    go_wp2_with fail
    generalize hW : ((w.alloc _).alloc _).alloc _ = W0
    have hB0 : Below w.heap.size w W0 := by subst hW; exact (((Below.refl _ _).alloc (Nat.le_refl _) _).alloc (by simp) _).alloc (by simp; omega) _
    have hC0 : LentC w.heap.size t A c W0 (.slice none 0 0) := by
      subst hW
      refine ⟨?_, ?_, ?_⟩
      · exact (((Blk.new w _).keep ((Below.refl _ _).alloc (Nat.le_refl _) _ |>.block _ (by simp)))).keep ((Below.refl _ _).alloc (Nat.le_refl _) _ |>.block _ (by simp; omega))
      · have h := (Blk.new (w.alloc (.cells #[.int .i64 t.k, .int .u64 t.s0, .int .u64 t.s1, .int .u64 t.s2, .int .u64 t.s3, .int .i64 t.mn, .int .i64 t.mx, .slice A t.ps.length c] 27)) #[.int .i64 0, .int .u64 0, .int .u64 0, .int .u64 0, .int .u64 0, .int .i64 0, .int .i64 0, .slice none 0 0])
        rw [show (w.alloc (.cells #[.int .i64 t.k, .int .u64 t.s0, .int .u64 t.s1, .int .u64 t.s2, .int .u64 t.s3, .int .i64 t.mn, .int .i64 t.mx, .slice A t.ps.length c] 27)).heap.size = w.heap.size + 1 by simp] at h
        exact h.keep ((Below.refl _ _).alloc (Nat.le_refl _) _ |>.block _ (by simp))
      · have h := Blk.new ((w.alloc (.cells #[.int .i64 t.k, .int .u64 t.s0, .int .u64 t.s1, .int .u64 t.s2, .int .u64 t.s3, .int .i64 t.mn, .int .i64 t.mx, .slice A t.ps.length c] 27)).alloc (.cells #[.int .i64 0, .int .u64 0, .int .u64 0, .int .u64 0, .int .u64 0, .int .i64 0, .int .i64 0, .slice none 0 0] 27)) #[.int .i64 t.k, .int .u64 t.s0, .int .u64 t.s1, .int .u64 t.s2, .int .u64 t.s3, .int .i64 t.mn, .int .i64 t.mx, .slice none 0 0]
        rw [show ((w.alloc (.cells #[.int .i64 t.k, .int .u64 t.s0, .int .u64 t.s1, .int .u64 t.s2, .int .u64 t.s3, .int .i64 t.mn, .int .i64 t.mx, .slice A t.ps.length c] 27)).alloc (.cells #[.int .i64 0, .int .u64 0, .int .u64 0, .int .u64 0, .int .u64 0, .int .i64 0, .int .i64 0, .slice none 0 0] 27)).heap.size = w.heap.size + 1 + 1 by simp] at h
        exact h
    clear hW
    go_loopg [4] (t.ps.length) (fun n i wr => LentJ w t A c n i wr)
    case atStart => exact ⟨0, [], none, 0, fun _ => False, rfl, by omega, rfl, fun i x h => by simp at h, fun b h => h.elim, hB0, hC0, ⟨rfl, .inl ⟨rfl, rfl⟩⟩⟩
    case round =>
      clear hB0 hC0
      obtain ⟨j, ns, Av, cv, S, rfl, hj, hns, hkid, hsep, hB, hC, ho⟩ := hrel
      have k7 : wr.cell? ⟨w.heap.size, 7, none⟩ = some (.slice A t.ps.length c) := by simpa using hC.b0.cell 7
      have hz := hC.b2.lt
      have Ho := Lib.hid ho; have Hns := Lib.hid hns; clear ho hns
      by_cases hlt : j < t.ps.length
      · obtain ⟨b, o, rfl, hb, hcell⟩ := hN.part (by omega)
        obtain ⟨A', c', h8, hNj⟩ := hcell j hlt
        obtain ⟨f0, f1, f2, f3, f4, f5, f6, f7⟩ := h8.mono (w' := wr) (fun o => hB.cell (p := ⟨b, o, none⟩) (hok b hb))
        have hih := Hih.out t.ps[j] (List.getElem_mem _)
        have hpn := nodes_part t t.ps[j] (List.getElem_mem _)
        have hget : t.ps[j]? = some t.ps[j] := List.getElem?_eq_getElem hlt
        have Hget := Lib.hid hget
        clear hcell hget
        generalize t.ps[j] = p at *
        have hcall := hih wr ok A' c' (hNj.later hB hok) (fun b h => by have := hok b h; have := hB.size; omega) (by have := Hno.out; omega)
        have Hcall := Lib.hid hcall; clear hcall hih hpn
        go_wp2_with fail
        refine Hcall.out.mono ?_
        rintro e w1 ⟨A1, c1, rfl, hL1, hb1⟩
        have hz1 := hb1.size
        have hC1 : LentC w.heap.size _ _ c w1 (.slice Av j cv) := hC.keep (fun k hk => hb1.block k (by omega))
        have o7 : w1.cell? ⟨w.heap.size + 1 + 1, 7, none⟩ = some (.slice Av j cv) := by simpa using hC1.b2.cell 7
        have hzz : w.heap.size + 1 + 1 < w1.heap.size := by omega
        have hsb : ∀ k, (Value.slice Av j cv).ownBlock = some k → w.heap.size + 3 ≤ k ∧ k < wr.heap.size := fun k hk => Ho.out.lt k hk
        have ho1 : w1.ownsRow (w.heap.size + 3) 27 8 (.slice Av j cv) j (ncells ns) := Ho.out.kept (row := none) ⟨hb1.os, hb1.tape, hb1.output, hb1.size, fun k hk _ => hb1.block k hk⟩ (by cases Av <;> simp [Value.ownBlock])
        have Ho1 := Lib.hid ho1; have Hsb := Lib.hid hsb; have HB := Lib.hid hB; have Hsep := Lib.hid hsep
        have hnew := ncell_two w1 (p, A1, c1) (.cells (ncell (p, A1, c1)).toArray 27)
        have Hnew := Lib.hid hnew
        clear ho1 hsb hB hsep hnew k7 f0 f1 f2 f3 f4 f5 f6 f7
        go_wp2_with (at_builtin; refine wpList_append_from (w.heap.size + 3) rfl _ _ 25 27 _ 8 80 rfl Try.underlying25 Try.infoNode rfl (by omega) (by omega) (.slice Av j cv) j 1 (ncells ns) (ncell (p, A1, c1)) (some ⟨w1.heap.size + 1, 0, none⟩) 1 rfl rfl (by simp) rfl Hnew.out (ncell_one _) ((Ho1.out.alloc _).alloc _) (by simp; omega) (by omega) (fun A3 c3 w3 ho3 hg3 hat3 => ?_); have hk3 := grown_two hg3; have hC3 := hC1.keep (fun k hk => hk3 k (by omega) (fun e => by have := Hsb.out k e.symm; omega)); have o73 := hC3.b2.cell 7; have of73 := hC3.b2.froz 7; simp only [List.getElem?_toArray, List.getElem?_cons_succ, List.getElem?_cons_zero] at o73; have Ho3 := Lib.hid ho3; have Hk3 := Lib.hid hk3; have Hat3 := Lib.hid hat3; have Hg3 := Lib.hid hg3; clear ho3 hk3 hat3 hg3)
        go_roundg (gk - 1)
        case measure => omega
        case rel =>
          have hz3 := Hg3.out.size
          simp only [World.size_alloc] at hz3
          have hbl := below_grown (((HB.out.trans (hb1.mono (by omega))).alloc (by omega) _).alloc (by simp only [World.size_alloc]; omega) _) (by simp only [World.size_alloc]; omega) Hg3.out (fun k hk => by have := Hsb.out k hk; omega)
          refine ⟨j + 1, ns ++ [(p, A1, c1)], A3, c3, fun b => S b ∨ (wr.heap.size ≤ b ∧ b < w1.heap.size), by go_num, by omega, by simp [Hns.out], ?_, ?_, hbl.setCell (by simp; omega) _, hC3.set _, ?_⟩
          · intro i x hi
            have hcl : ∀ b, w.heap.size + 3 ≤ b → b < w1.heap.size → some b ≠ (Value.slice Av j cv).ownBlock → ∀ o, (w3.setCell ⟨w.heap.size + 1 + 1, 7, none⟩ (.slice A3 (j + 1) c3)).cell? ⟨b, o, none⟩ = w1.cell? ⟨b, o, none⟩ := fun b h1 h2 h3 o => by
              rw [World.cell?_setCell_other (h := by intro e; injection e with e; omega)]
              exact World.cell?_of_block (w := w1) (Hk3.out b h2 h3)
            rcases Nat.lt_or_ge i ns.length with h | h
            · rw [List.getElem?_append_left h] at hi
              refine ⟨(hkid i x hi).1, (hkid i x hi).2.mono fun b hb => ⟨.inl hb, fun o => ?_⟩⟩
              obtain ⟨s1, s2, s3⟩ := Hsep.out b hb
              exact (hcl b s1 (by omega) s3 o).trans (hb1.cell (p := ⟨b, o, none⟩) s2)
            · have hij : i = j := by
                have := (List.getElem?_eq_some_iff.1 hi).1
                simp [Hns.out] at this
                have := Hns.out
                omega
              subst hij
              rw [List.getElem?_append_right h, Hns.out, Nat.sub_self] at hi
              simp only [List.getElem?_cons_zero, Option.some.injEq] at hi
              subst hi
              refine ⟨Hget.out, hL1.mono fun b hb => ⟨.inr hb, fun o => hcl b (by omega) hb.2 (fun e => ?_) o⟩⟩
              have := Hsb.out b e.symm
              omega
          · intro b hb
            have h3 : w.heap.size + 3 ≤ b ∧ b < w1.heap.size ∧ some b ≠ (Value.slice Av j cv).ownBlock := by
              rcases hb with hb | hb
              · obtain ⟨s1, s2, s3⟩ := Hsep.out b hb
                exact ⟨s1, by omega, s3⟩
              · refine ⟨by omega, hb.2, fun e => ?_⟩
                have := Hsb.out b e.symm
                omega
            refine ⟨h3.1, by simp only [World.size_setCell]; omega, fun e => ?_⟩
            rcases Hat3.out with h | h
            · exact h3.2.2 (e.trans h)
            · rw [h] at e; simp at e; omega
          · rw [ncells_snoc]
            exact Ho3.out.kept (row := some (w.heap.size + 1 + 1)) ⟨rfl, rfl, rfl, by simp, fun k hk hne => Below.heap_setCell _ _ _ _ (fun e => hne (by rw [e]))⟩ (.inr (fun e => by have := own_ge Ho3.out _ e; omega))
      · obtain rfl : j = t.ps.length := by omega
        have hz := hC.b2.lt
        have hcut : List.replicate 0 mark = [] := rfl
        go_wp2_with fail
        go_loopg [6] 3 (fun n i wr => LentK w t A c ns n i wr)
        case atStart => exact ⟨0, Av, cv, S, rfl, rfl, hkid, hsep, hB, hC, by simpa using Ho.out⟩
        case round =>
          clear hkid hsep hB hC Ho k7 hz hcut
          obtain ⟨j, Av, cv, S, rfl, hj, hkid, hsep, hB, hC, ho⟩ := hrel
          have k7 : wr.cell? ⟨w.heap.size, 7, none⟩ = some (.slice A t.ps.length c) := by simpa using hC.b0.cell 7
          have o7 : wr.cell? ⟨w.heap.size + 1 + 1, 7, none⟩ = some (.slice Av (t.ps.length + j) cv) := by simpa using hC.b2.cell 7
          have hz := hC.b2.lt
          have Ho := Lib.hid ho; clear ho
          by_cases hlt : j < 3
          · have hsb : ∀ k, (Value.slice Av (t.ps.length + j) cv).ownBlock = some k → w.heap.size + 3 ≤ k ∧ k < wr.heap.size := fun k hk => Ho.out.lt k hk
            have Hsb := Lib.hid hsb; have HB := Lib.hid hB; have Hsep := Lib.hid hsep
            have hnew := ncell_new wr mark
            have Hnew := Lib.hid hnew
            clear hsb hB hsep hnew
            go_wp2_with (at_builtin; refine wpList_append_from (w.heap.size + 3) rfl _ _ 25 27 _ 8 80 rfl Try.underlying25 Try.infoNode rfl (by omega) (by omega) (.slice Av (t.ps.length + j) cv) (t.ps.length + j) 1 (ncells (ns ++ List.replicate j mark)) (ncell mark) (some ⟨wr.heap.size, 0, none⟩) 1 rfl rfl (by simp) rfl Hnew.out (ncell_one _) (Ho.out.alloc _) (by simp; omega) (by omega) (fun A3 c3 w3 ho3 hg3 hat3 => ?_); have hk3 := grown_one hg3; have hC3 := hC.keep (fun k hk => hk3 k (by omega) (fun e => by have := Hsb.out k e.symm; omega)); have o73 := hC3.b2.cell 7; have of73 := hC3.b2.froz 7; simp only [List.getElem?_toArray, List.getElem?_cons_succ, List.getElem?_cons_zero] at o73; have Ho3 := Lib.hid ho3; have Hk3 := Lib.hid hk3; have Hat3 := Lib.hid hat3; have Hg3 := Lib.hid hg3; clear ho3 hk3 hat3 hg3)
            go_roundg (gk - 1)
            case measure => omega
            case rel =>
              have hz3 := Hg3.out.size
              simp only [World.size_alloc] at hz3
              have hbl := below_grown (HB.out.alloc (by omega) _) (by simp only [World.size_alloc]; omega) Hg3.out (fun k hk => by have := Hsb.out k hk; omega)
              refine ⟨j + 1, A3, c3, S, by go_num, by omega, ?_, ?_, hbl.setCell (by simp; omega) _, hC3.set _, ?_⟩
              · refine hkid.mono fun b hb => ⟨hb, fun o => ?_⟩
                obtain ⟨s1, s2, s3⟩ := Hsep.out b hb
                rw [World.cell?_setCell_other (h := by intro e; injection e with e; omega)]
                exact World.cell?_of_block (w := wr) (Hk3.out b s2 s3)
              · intro b hb
                obtain ⟨s1, s2, s3⟩ := Hsep.out b hb
                refine ⟨s1, by simp only [World.size_setCell]; omega, fun e => ?_⟩
                rcases Hat3.out with h | h
                · exact s3 (e.trans h)
                · have e2 := e.trans h; simp at e2; omega
              · rw [List.replicate_succ', ← List.append_assoc, ncells_snoc]
                exact Ho3.out.kept (row := some (w.heap.size + 1 + 1)) ⟨rfl, rfl, rfl, by simp, fun k hk hne => Below.heap_setCell _ _ _ _ (fun e => hne (by rw [e]))⟩ (.inr (fun e => by have := own_ge Ho3.out _ e; omega))
          · obtain rfl : j = 3 := by omega
            obtain ⟨g, rfl, hg, hgl⟩ : ∃ g, Av = some ⟨g, 0, none⟩ ∧ w.heap.size + 3 ≤ g ∧ t.ps.length + 3 ≤ cv := by
              rcases Ho.out.2 with ⟨e, h0⟩ | ⟨g, cap, cur, e, hb, _, hn, _⟩
              · omega
              · simp only [Value.slice.injEq] at e; exact ⟨g, e.1, hb, by omega⟩
            have hgz := (Ho.out.lt g rfl).2
            have o0 : wr.cell? ⟨w.heap.size + 1 + 1, 0, none⟩ = some (.int .i64 t.k) := by simpa using hC.b2.cell 0
            have o1 : wr.cell? ⟨w.heap.size + 1 + 1, 1, none⟩ = some (.int .u64 t.s0) := by simpa using hC.b2.cell 1
            have o2 : wr.cell? ⟨w.heap.size + 1 + 1, 2, none⟩ = some (.int .u64 t.s1) := by simpa using hC.b2.cell 2
            have o3 : wr.cell? ⟨w.heap.size + 1 + 1, 3, none⟩ = some (.int .u64 t.s2) := by simpa using hC.b2.cell 3
            have o4 : wr.cell? ⟨w.heap.size + 1 + 1, 4, none⟩ = some (.int .u64 t.s3) := by simpa using hC.b2.cell 4
            have o5 : wr.cell? ⟨w.heap.size + 1 + 1, 5, none⟩ = some (.int .i64 t.mn) := by simpa using hC.b2.cell 5
            have o6 : wr.cell? ⟨w.heap.size + 1 + 1, 6, none⟩ = some (.int .i64 t.mx) := by simpa using hC.b2.cell 6
            have of7 := hC.b2.froz 7
            have r0 : wr.cell? ⟨w.heap.size + 1, 0, none⟩ = some (.int .i64 0) := by simpa using hC.b1.cell 0
            have r1 : wr.cell? ⟨w.heap.size + 1, 1, none⟩ = some (.int .u64 0) := by simpa using hC.b1.cell 1
            have r2 : wr.cell? ⟨w.heap.size + 1, 2, none⟩ = some (.int .u64 0) := by simpa using hC.b1.cell 2
            have r3 : wr.cell? ⟨w.heap.size + 1, 3, none⟩ = some (.int .u64 0) := by simpa using hC.b1.cell 3
            have r4 : wr.cell? ⟨w.heap.size + 1, 4, none⟩ = some (.int .u64 0) := by simpa using hC.b1.cell 4
            have r5 : wr.cell? ⟨w.heap.size + 1, 5, none⟩ = some (.int .i64 0) := by simpa using hC.b1.cell 5
            have r6 : wr.cell? ⟨w.heap.size + 1, 6, none⟩ = some (.int .i64 0) := by simpa using hC.b1.cell 6
            have r7 : wr.cell? ⟨w.heap.size + 1, 7, none⟩ = some (.slice none 0 0) := by simpa using hC.b1.cell 7
            have rf0 := hC.b1.froz 0
            have rf1 := hC.b1.froz 1
            have rf2 := hC.b1.froz 2
            have rf3 := hC.b1.froz 3
            have rf4 := hC.b1.froz 4
            have rf5 := hC.b1.froz 5
            have rf6 := hC.b1.froz 6
            have rf7 := hC.b1.froz 7
            go_wp2_with fail
            change bodyPost _ _ _ _ _ (fillW wr w.heap.size t (.slice (some ⟨g, 0, none⟩) t.ps.length cv))
            have hbk := fillW_blk (v := .slice (some ⟨g, 0, none⟩) t.ps.length cv) hC
            have y0 : (fillW wr w.heap.size t (.slice (some ⟨g, 0, none⟩) t.ps.length cv)).cell? ⟨w.heap.size + 1, 0, none⟩ = some (.int .i64 t.k) := by simpa using hbk.cell 0
            have y1 : (fillW wr w.heap.size t (.slice (some ⟨g, 0, none⟩) t.ps.length cv)).cell? ⟨w.heap.size + 1, 1, none⟩ = some (.int .u64 t.s0) := by simpa using hbk.cell 1
            have y2 : (fillW wr w.heap.size t (.slice (some ⟨g, 0, none⟩) t.ps.length cv)).cell? ⟨w.heap.size + 1, 2, none⟩ = some (.int .u64 t.s1) := by simpa using hbk.cell 2
            have y3 : (fillW wr w.heap.size t (.slice (some ⟨g, 0, none⟩) t.ps.length cv)).cell? ⟨w.heap.size + 1, 3, none⟩ = some (.int .u64 t.s2) := by simpa using hbk.cell 3
            have y4 : (fillW wr w.heap.size t (.slice (some ⟨g, 0, none⟩) t.ps.length cv)).cell? ⟨w.heap.size + 1, 4, none⟩ = some (.int .u64 t.s3) := by simpa using hbk.cell 4
            have y5 : (fillW wr w.heap.size t (.slice (some ⟨g, 0, none⟩) t.ps.length cv)).cell? ⟨w.heap.size + 1, 5, none⟩ = some (.int .i64 t.mn) := by simpa using hbk.cell 5
            have y6 : (fillW wr w.heap.size t (.slice (some ⟨g, 0, none⟩) t.ps.length cv)).cell? ⟨w.heap.size + 1, 6, none⟩ = some (.int .i64 t.mx) := by simpa using hbk.cell 6
            have y7 : (fillW wr w.heap.size t (.slice (some ⟨g, 0, none⟩) t.ps.length cv)).cell? ⟨w.heap.size + 1, 7, none⟩ = some (.slice (some ⟨g, 0, none⟩) t.ps.length cv) := by simpa using hbk.cell 7
            have hfs := fillW_size wr w.heap.size t (.slice (some ⟨g, 0, none⟩) t.ps.length cv)
            have hfo := fillW_other wr w.heap.size t (.slice (some ⟨g, 0, none⟩) t.ps.length cv)
            have hfb := fillW_below (t := t) (v := .slice (some ⟨g, 0, none⟩) t.ps.length cv) hB
            generalize fillW wr w.heap.size t (.slice (some ⟨g, 0, none⟩) t.ps.length cv) = F at *
            refine bodyPost_ret (v := nodeV t (some ⟨g, 0, none⟩) cv) (by simp [results, Try.results13, y0, y1, y2, y3, y4, y5, y6, y7, go_sem]) rfl ⟨_, _, rfl, ?_, hfb⟩
            have hcF : ∀ b, w.heap.size + 3 ≤ b → ∀ o, F.cell? ⟨b, o, none⟩ = wr.cell? ⟨b, o, none⟩ := fun b hb o => World.cell?_of_block (w := wr) (hfo b (by omega) (by omega))
            have hnsl : ns.length = t.ps.length := Hns.out
            have hrow : ∀ i j, i < t.ps.length + 3 → j < 8 → wr.cell? ⟨g, i * 8 + j, none⟩ = (ncells (ns ++ List.replicate 3 mark))[i * 8 + j]? := fun i j hi hj => Ho.out.cellAt _ (by omega)
            refine .mk t g cv (fun i => (ns.getD i mark).2.1) (fun i => (ns.getD i mark).2.2) hgl (by omega) ⟨by omega, by omega⟩ (fun i p hi => ?_) (fun k hk => ?_) (fun i p hi => ?_)
            · have hil : i < t.ps.length := (List.getElem?_eq_some_iff.1 hi).1
              have hx : ns[i]? = some ns[i] := List.getElem?_eq_getElem (by omega)
              have hkx := (hkid i _ hx).1
              rw [hi] at hkx
              have hpe : p = ns[i].1 := by simpa using hkx
              have : At8 F g (i * 8) ns[i].1 ns[i].2.1 ns[i].2.2 := .of fun j hj => by
                rw [hcF g hg, hrow i j (by omega) hj, ncells_get _ i j (by simp; omega) hj, List.getElem_append_left (by omega)]
              rw [hpe]
              simpa [List.getD_eq_getElem?_getD, hx] using this
            · have h1 := hrow (t.ps.length + k) 0 (by omega) (by omega)
              have h2 := hrow (t.ps.length + k) 7 (by omega) (by omega)
              rw [ncells_get _ _ _ (by simp; omega) (by omega), List.getElem_append_right (by omega), List.getElem_replicate] at h1 h2
              exact ⟨(hcF g hg _).trans h1, (hcF g hg _).trans h2⟩
            · have hil : i < t.ps.length := (List.getElem?_eq_some_iff.1 hi).1
              have hx : ns[i]? = some ns[i] := List.getElem?_eq_getElem (by omega)
              obtain ⟨hkx, hlx⟩ := hkid i _ hx
              rw [hi] at hkx
              have hpe : p = ns[i].1 := by simpa using hkx
              have := hlx.mono (w' := F) (ok' := fun b => w.heap.size ≤ b ∧ b < F.heap.size) fun b hb => by
                obtain ⟨s1, s2, s3⟩ := hsep b hb
                exact ⟨⟨by omega, by omega⟩, hcF b s1⟩
              rw [hpe]
              simpa [List.getD_eq_getElem?_getD, hx] using this
end Go.Proofs.Ytdpmbanfaigmcaa
