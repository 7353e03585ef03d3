/- The walk of nfa's layer: choice. -/
import Derived.Test.YtdpmbanfaigmcaaVRow
set_option linter.unusedVariables false
set_option linter.unusedSimpArgs false
namespace Go.Proofs.Ytdpmbanfaigmcaa
open Go.RowKit Go.Shelf
attribute [local go_sem] Oper.semAt_some

theorem Try.infoInt : (Try.prog.info? 3).map (fun i => (i.zero, i.size, i.bytes)) = some (some (.int .i64 0), 1, 8) := by kernel_rfl

def ivl (x : Int) : Value := .int .i64 x
/-- Two rows of different elements share no block. -/
theorem own_ne {w : World} {b b' : Nat} {e e' : TypeId} {s s' n n' : Nat} {v v' : Value} {xs xs' : List Value} (h : w.ownsRow b e s v n xs) (h' : w.ownsRow b' e' s' v' n' xs') (hne : e ≠ e') {g : Nat} (h1 : v.ownBlock = some g) (h2 : v'.ownBlock = some g) : False := by
  rcases h.2 with ⟨rfl, _⟩ | ⟨x, cap, cur, rfl, _, hh, _⟩
  · simp [Value.ownBlock] at h1
  · rcases h'.2 with ⟨rfl, _⟩ | ⟨x', cap', cur', rfl, _, hh', _⟩
    · simp [Value.ownBlock] at h2
    · simp only [Value.ownBlock, Option.some.injEq] at h1 h2
      subst h1
      subst h2
      rw [hh] at hh'
      injection hh' with hh'
      injection hh' with _ ht
      exact hne ht
theorem Lays.own {L : Nat} {w w' : World} {b e s n : Nat} {v v7 : Value} {xs : List Value} {base : Nat} {l : List St} (h : Lays L v.ownBlock w w') (hL : Layer w L base v l) (ho : w.ownsRow b e s v7 n xs) (he : e ≠ 47) (hb : L < b) : w'.ownsRow b e s v7 n xs := by
  refine ⟨ho.1, ?_⟩
  rcases ho.2 with h0 | ⟨g, cap, cur, rfl, hbg, hg, rest⟩
  · exact .inl h0
  · refine .inr ⟨g, cap, cur, rfl, hbg, ?_, rest⟩
    rw [h.block g (Array.getElem?_eq_some_iff.1 hg).1 (by omega) (fun e' => own_ne ho hL.own he (by rfl) e'.symm)]
    exact hg
theorem Layer.grown {w w' : World} {L base : Nat} {v v7 : Value} {l : List St} (h : Layer w L base v l) {b e s n : Nat} {xs : List Value} (ho : w.ownsRow b e s v7 n xs) (he : e ≠ 47) (hb : L < b) (hg : w.grownBy w' v7.ownBlock) : Layer w' L base v l := by
  have h1 : some L ≠ v7.ownBlock := fun e' => by have := (ho.lt L e'.symm).1; omega
  have hL := h.lt
  refine ⟨hg.cell h.cell h1, (World.frozen?_of_block (w := w) (a := ⟨L, 0, none⟩) (hg.block L hL h1)).trans h.froz, h.own.kept hg ?_, h.ne, Nat.le_trans h.base hg.size⟩
  cases hv : v.ownBlock with
  | none => exact .inl rfl
  | some g => exact .inr fun e' => own_ne ho h.own he e'.symm hv
theorem Lays.grownNew {w W W1 : World} {L : Nat} {r row : Option Nat} (h : Lays L r w W) (hg : W.grownBy W1 row) (hr : ∀ g, row = some g → w.heap.size ≤ g) : Lays L r w W1 :=
  ⟨hg.os.trans h.os, hg.tape.trans h.tape, hg.output.trans h.output, Nat.le_trans h.size hg.size, fun k hk h1 h2 => (hg.block k (Nat.lt_of_lt_of_le hk h.size) (fun e => by have := hr k e.symm; omega)).trans (h.block k hk h1 h2)⟩
theorem Moves.older {w W : World} {v v' : Value} (h : Moves W v v') (hz : w.heap.size ≤ W.heap.size) : Moves w v v' := by
  rcases h with h | ⟨y, hy, hle⟩
  · exact .inl h
  · exact .inr ⟨y, hy, by omega⟩
theorem ownBlock_ge {w : World} {b e s n : Nat} {v : Value} {xs : List Value} (ho : w.ownsRow b e s v n xs) {g : Nat} (h : v.ownBlock = some g) : b ≤ g ∧ g < w.heap.size := ho.lt g h
theorem splits_step (bs : List Int) (l : List St) (k : Nat) (hk : k + 1 < bs.length) :
    splitsF (bs.drop (bs.length - 1 - (k + 1))) l = (((splitsF (bs.drop (bs.length - 1 - k)) l).2.length : Int), (splitsF (bs.drop (bs.length - 1 - k)) l).2 ++ [splitS (bs.getD (bs.length - 1 - 1 - k) 0) (splitsF (bs.drop (bs.length - 1 - k)) l).1]) := by
  have h1 : bs.length - 1 - (k + 1) < bs.length := by omega
  rw [List.drop_eq_getElem_cons h1, show bs.length - 1 - (k + 1) + 1 = bs.length - 1 - k by omega]
  have h2 : 0 < (bs.drop (bs.length - 1 - k)).length := by rw [List.length_drop]; omega
  cases hd : bs.drop (bs.length - 1 - k) with
  | nil => rw [hd] at h2; simp at h2
  | cons y ys =>
    rw [splitsF]
    · have : bs.getD (bs.length - 1 - 1 - k) 0 = bs[bs.length - 1 - (k + 1)] := by
        rw [show bs.length - 1 - 1 - k = bs.length - 1 - (k + 1) by omega]
        simp [List.getD_eq_getElem?_getD, h1]
      rw [this]
    · simp
theorem splits_zero (bs : List Int) (l : List St) (h : 0 < bs.length) : splitsF (bs.drop (bs.length - 1 - 0)) l = (bs.getD (bs.length - 1) 0, l) := by
  have h1 : bs.length - 1 < bs.length := by omega
  rw [Nat.sub_zero, List.drop_eq_getElem_cons h1, List.drop_of_length_le (by omega), splitsF]
  simp [List.getD_eq_getElem?_getD, h1]
theorem splits_drop_len (bs : List Int) (l : List St) (j : Nat) : (splitsF (bs.drop j) l).2.length ≤ (splitsF bs l).2.length := by
  rw [splitsF_len, splitsF_len, List.length_drop]; omega

/-- Between two rounds of choice's second loop. -/
def ChI (bs : List Int) (w W0 : World) (L base Bx : Nat) (v vb : Value) (l : List St) (k : Nat) (W : World) : Prop :=
  ∃ v', Layer W L base v' (splitsF (bs.drop (bs.length - 1 - k)) l).2 ∧ Moves W0 vb v' ∧ Lays L v.ownBlock w W ∧ W.cell? ⟨w.heap.size, 0, none⟩ = some (.pointer (some ⟨L, 0, none⟩)) ∧ W.cell? ⟨Bx, 0, none⟩ = some (.int .i64 (splitsF (bs.drop (bs.length - 1 - k)) l).1) ∧ W.frozen? ⟨Bx, 0, none⟩ = false

set_option maxRecDepth 100000 in
set_option maxHeartbeats 2000000 in
theorem choice_any (t : T) (hk : t.k = 5) (hr : rightF t = true) (ih : ∀ p ∈ t.ps, LayAt 41 p) : LayAt 71 t := by
  intro w ok A c L base v l to hN ho hL hlen
  have hps1 : 2 ≤ t.ps.length := by rcases right_cases hr with h | h | h | h | h | h | h <;> omega
  have hch : layF t to l = splitsF (begF t.ps to l).1 (begF t.ps to l).2 := by rw [layF_eq]; simp [hk]
  have hll := hN.len
  cases hN with
  | mk _ _ _ As cs hcap _ ha hp =>
  obtain ⟨b, o, rfl, hb, hcell⟩ := ha (fun e => by simp [e] at hps1)
  rw [hch] at hlen
  have hl2 : (begF t.ps to l).2.length ≤ 1000000 := by rw [splitsF_len] at hlen; omega
  have Hch := Lib.hid hch; have Hlen := Lib.hid hlen; have Hih := Lib.hid ih; have Hp := Lib.hid hp; have Hcell := Lib.hid hcell
  have Hbl := Lib.hid (begF_len t.ps to l)
  clear hch hk hlen ih hp hcell ha
  have hLlt := hL.lt
  have hblt := (ho b hb).1
  refine (callsIn_wide (n := 3)).1 ?_
  refine callsIn_of_wp_marks Try.func71 rfl trivial ?_ rfl
  refine wpIn_wide.2 ?_
  simp only [Try.ntmps71, List.size_toArray, List.length_cons, List.length_nil, Nat.reduceAdd, Nat.reduceSub, Array.replicate_succ, Array.replicate_zero, List.push_toArray, List.append_toArray, List.nil_append, List.cons_append]
  go_wp2_with fail
  generalize hW : (w.alloc _).alloc _ = W0
  have hb0 : Below w.heap.size w W0 := by subst hW; exact ((Below.refl _ _).alloc (Nat.le_refl _) _).alloc (by simp) _
  have hz0 : w.heap.size + 2 ≤ W0.heap.size := by subst hW; simp
  have c0 : W0.cell? ⟨w.heap.size, 0, none⟩ = some (.pointer (some ⟨L, 0, none⟩)) := by subst hW; simp [go_sem]
  clear hW
  have hL0 := hL.later hb0
  go_loopg [7, 17] (t.ps.length) (fun n sv iv wr => ∃ (j : Nat) (bs : List Int) (v' : Value) (l' : List St), iv = .int .i64 j ∧ j + n = t.ps.length ∧ bs.length = j ∧ bs ++ (begF (t.ps.drop j) to l').1 = (begF t.ps to l).1 ∧ (begF (t.ps.drop j) to l').2 = (begF t.ps to l).2 ∧
    Layer wr L base v' l' ∧ Moves W0 v v' ∧ Lays L v.ownBlock W0 wr ∧ wr.ownsRow W0.heap.size 3 1 sv bs.length (bs.map ivl))
  case atStart => exact ⟨0, [], v, l, rfl, by omega, rfl, rfl, rfl, hL0, Moves.refl _ _, Lays.refl _ _ _, World.ownsRow_nil _ _ _ _⟩
  case round =>
    obtain ⟨j, bs, v', l', rfl, hj, hbs, hq1, hq2, hLr, hmr, hlr, hor⟩ := hrel
    have hlw : Lays L v.ownBlock w wr := (Lays.of_below hb0).trans (Moves.refl w v) hlr
    have hmw := hmr.older (show w.heap.size ≤ W0.heap.size by omega)
    have hzr := hlr.size
    have hno : ∀ (v'' : Value) (W : World), Moves W v v'' → ∀ j, w.heap.size ≤ j → j < W.heap.size → some j ≠ v''.ownBlock := fun v'' W hm j h1 h2 e => by
      rcases hm with hm | ⟨x, hx, hle⟩
      · have := (hL.own.lt _ (e.trans hm).symm).2; omega
      · rw [hx] at e; injection e with e; omega
    have k0 := (hlr.cell (o := 0) (show w.heap.size < W0.heap.size by omega) (by omega) (by intro e; have := (hL.own.lt _ e.symm).2; omega)).trans c0
    have hzz : w.heap.size < wr.heap.size := by omega
    have Hq1 := Lib.hid hq1; have Hq2 := Lib.hid hq2; have Hbs := Lib.hid hbs
    clear hq1 hq2 hbs c0
    by_cases hlt : j < t.ps.length
    · have hpj := List.getElem?_eq_getElem hlt
      have hNj := (Hp.out j _ hpj).lays ho hlw
      obtain ⟨f0, f1, f2, f3, f4, f5, f6, f7⟩ := (Hcell.out j _ hpj).mono (w' := wr) (fun o' => hlw.cell hblt (ho b hb).2.1 (ho b hb).2.2)
      have hihj := Hih.out _ (List.getElem_mem hlt)
      have hbstep : begF (t.ps.drop j) to l' = ((layF t.ps[j] to l').1 :: (begF (t.ps.drop (j + 1)) to (layF t.ps[j] to l').2).1, (begF (t.ps.drop (j + 1)) to (layF t.ps[j] to l').2).2) := by rw [drop_cons hlt, begF]
      have hst : (layF t.ps[j] to l').2.length ≤ 1000000 := by
        have h1 := begF_grows (t.ps.drop (j + 1)) (fun p _ => layF_grows p) to (layF t.ps[j] to l').2
        have h2 := Hq2.out
        rw [hbstep] at h2
        simp only at h2
        rw [h2] at h1
        omega
      have Hbstep := Lib.hid hbstep; clear hbstep hpj
      generalize t.ps[j] = p at *
      generalize As j = Aj at *
      generalize cs j = cj at *
      have Hihj := Lib.hid hihj; clear hihj
      have hokr : OkL wr L v' ok := ho.later hlw.size hmw
      obtain ⟨A7, c7, rfl⟩ : ∃ A7 c7, u7 = .slice A7 bs.length c7 := by
        rcases hor.2 with ⟨rfl, h0⟩ | ⟨g, cap, cur, rfl, _⟩
        · exact ⟨none, 0, by rw [h0]⟩
        · exact ⟨_, cap, rfl⟩
      go_wp2_with fail
      refine (Hihj.out _ ok Aj cj L base v' l' to (hNj.alloc (fun x hx => (hokr x hx).1) _) (hokr.alloc _) (hLr.alloc _) hst).mono ?_
      rintro e w1 ⟨rfl, v1, hL1, hm1, hl1⟩
      have hor1 := hl1.own (hLr.alloc _) (hor.alloc _) (by decide) (by omega)
      have hz1 := hl1.size
      simp only [World.size_alloc] at hz1
      have hm1' : Moves W0 v v1 := hmr.trans (by simp; omega) hm1
      have hl1' : Lays L v.ownBlock W0 w1 := (hlr.trans hmr (Lays.alloc _ _ _ _)).trans hmr hl1
      have hbl7 : bs.length + 1 ≤ 17592186044416 := by have := Hbs.out; omega
      go_wp2_with (at_builtin; refine wpList_append_at W0.heap.size rfl (.tmp 21) (.tmp 26) 71 3 _ 1 8 rfl Try.underlying71 Try.infoInt rfl (by omega) (by omega) (.slice A7 bs.length c7) bs.length 1 (bs.map ivl) [.int .i64 (layF p to l').1] ⟨w1.heap.size, 0, none⟩ 1 rfl rfl (by omega) rfl (cell_one_new _ _ _) (by intro u hu; simp at hu; subst hu; rfl) (hor1.alloc _) (by simp; omega) (by omega) (fun g cap w2 ho2 hg2 hat2 => ?_))
      have hL2 : Layer w2 L base v1 (layF p to l').2 := (hL1.alloc _).grown (hor1.alloc _) (by decide) (by omega) hg2
      have hl2' : Lays L v.ownBlock W0 w2 := (hl1'.trans hm1' (Lays.alloc _ _ _ _)).grownNew hg2 (fun g hg => (hor1.lt g hg).1)
      go_wp2_with fail
      go_roundg (gk - 1)
      case measure => omega
      case rel =>
        refine ⟨j + 1, bs ++ [(layF p to l').1], v1, (layF p to l').2, by go_num, by omega, by rw [List.length_append, Hbs.out]; rfl, ?_, ?_, hL2, hm1', hl2', ?_⟩
        · have := Hq1.out
          rw [Hbstep.out] at this
          simpa using this
        · have := Hq2.out
          rw [Hbstep.out] at this
          exact this
        · rw [List.length_append, List.map_append]; exact ho2
    · have hgk : t.ps.drop j = [] := List.drop_of_length_le (by omega)
      have hq1 := Hq1.out
      have hq2 := Hq2.out
      rw [hgk, begF, List.append_nil] at hq1
      rw [hgk, begF] at hq2
      simp only at hq1 hq2
      subst hq2
      have hbl : bs.length = t.ps.length := by have := Hbs.out; omega
      obtain ⟨m, hm⟩ : ∃ m, bs.length = m + 1 := ⟨bs.length - 1, by omega⟩
      have hor' := hor
      rw [hm] at hor'
      obtain ⟨g, cap, rfl, hgcap⟩ : ∃ g cap, u7 = .slice (some ⟨g, 0, none⟩) (m + 1) cap ∧ m + 1 ≤ cap := by
        rcases hor'.2 with ⟨rfl, h0⟩ | ⟨g, cap, cur, rfl, _, _, hh, _⟩
        · omega
        · exact ⟨g, cap, rfl, hh⟩
      have hgz := hor'.lt g rfl
      have hcells : ∀ i, i < m + 1 → wr.cell? ⟨g, i, none⟩ = some (.int .i64 (bs.getD i 0)) := fun i hi => by
        have h1 := hor'.cells (g := g) rfl i (ivl (bs.getD i 0)) (by rw [List.getElem?_map, List.getElem?_eq_getElem (by omega)]; simp [List.getD_eq_getElem?_getD, show i < bs.length by omega])
        rwa [show (⟨g, 0, none⟩ : Addr).add i = ⟨g, i, none⟩ by unfold Addr.add; split <;> simp_all] at h1
      have hlast := hcells m (by omega)
      obtain ⟨xl, hxl⟩ : ∃ xl, bs.getD m 0 = xl := ⟨_, rfl⟩
      rw [hxl] at hlast
      have Hxl := Lib.hid hxl; clear hxl
      have Hm := Lib.hid hm; have Hq := Lib.hid hq1; have Hcells := Lib.hid hcells; have Hbl2 := Lib.hid hbl
      have hmz : m + 1 ≤ 17592186044416 := by omega
      have hm1 : 1 ≤ m := by omega
      have hgne : some g ≠ v'.ownBlock := fun e => own_ne hor' hLr.own (by decide) rfl e.symm
      clear hm hq1 hcells hbl hor hor' Hq1 Hq2 Hbs Hih Hp Hcell Hbl hgk
      go_wp2_with fail
      refine (backI_any _ _ _ _).mono ?_
      rintro e w' ⟨rfl, rfl⟩
      go_wp2_with fail
      have hz4 : ((wr.alloc (.cells #[.int .i64 xl] 3)).alloc (.cells #[.slice (some ⟨g, 0, none⟩) m cap] 71)).heap.size = wr.heap.size + 2 := by simp
      generalize hW : (wr.alloc _).alloc _ = W3 at *
      have hz4a : wr.heap.size + 2 ≤ W3.heap.size := by omega
      have hz4b : W3.heap.size ≤ wr.heap.size + 2 := by omega
      clear hz4
      have hbr : Below wr.heap.size wr W3 := by subst hW; exact ((Below.refl _ _).alloc (Nat.le_refl _) _).alloc (by simp) _
      have cx : W3.cell? ⟨wr.heap.size, 0, none⟩ = some (.int .i64 xl) := by subst hW; simp [go_sem]
      have ex : W3.frozen? ⟨wr.heap.size, 0, none⟩ = false := by subst hW; simp [go_sem]
      have cb : W3.cell? ⟨wr.heap.size + 1, 0, none⟩ = some (.slice (some ⟨g, 0, none⟩) m cap) := by subst hW; simp [go_sem]
      clear hW
      have hL3 := hLr.later hbr
      have k3 := (hbr.cell (p := ⟨w.heap.size, 0, none⟩) hzz).trans k0
      have hl3 : Lays L v.ownBlock w W3 := hlw.trans hmw (Lays.of_below hbr)
      have hmg : ∀ (v'' : Value), Moves W3 v' v'' → ∀ i, w.heap.size ≤ i → i < W3.heap.size → some i ≠ v'.ownBlock → some i ≠ v''.ownBlock := fun v'' hm i h1 h2 h3 e => by
        rcases hm with hm | ⟨x, hx, hle⟩
        · exact h3 (e.trans hm)
        · rw [hx] at e; injection e with e; omega
      have hxne : some wr.heap.size ≠ v'.ownBlock := fun e => by have := (hLr.own.lt _ e.symm).2; omega
      have hbne : some (wr.heap.size + 1) ≠ v'.ownBlock := fun e => by have := (hLr.own.lt _ e.symm).2; omega
      have hlne : some w.heap.size ≠ v'.ownBlock := hno v' W0 hmr _ (by omega) (by omega)
      refine (wpIn_wide (n := 3)).1 ?_
      refine wpIn_range_idx rfl (by omega) (gf := 81) (lb := #[.pointer (some ⟨wr.heap.size + 1, 0, none⟩)]) rfl trivial (enters_of Try.func81 (by kernel_rfl) rfl) (enc := encI bs m) (N := m) (fun k => rfl)
        (ChI bs w W3 L base wr.heap.size v v' (begF t.ps to l).2)
        ?hI ?h0 (KeepOn (fun x => x = g ∨ x = wr.heap.size + 1)) (fun W W' h1 h2 => KeepOn.of_gb (by intro x hx; rcases hx with rfl | rfl <;> omega) h1 h2) (fun h k => h.trans k)
        ?hseq ?hround ?hdone
      case hI =>
        rintro k W W' ⟨v1, h1, h2, h3, h4, h5, h6⟩ hg
        exact ⟨v1, h1.gb hg, h2, h3.gb hg (by omega), (hg.cell h4).1, (hg.cell h5).1, (hg.cell h5).2.trans h6⟩
      case h0 =>
        have hsz := splits_zero bs (begF t.ps to l).2 (by have := Hm.out; omega)
        have hm' : bs.length - 1 = m := by have := Hm.out; omega
        rw [hm', Hxl.out] at hsz
        unfold ChI
        rw [hm', hsz]
        exact ⟨v', hL3, Moves.refl _ _, hl3, k3, cx, ex⟩
      case hseq =>
        intro l0 J W hg hY hJ
        refine backI_seq 2 l0 (wr.heap.size + 1) g 0 cap m bs (by omega) J W (hg.cell cb).1 ?_ hY hJ
        intro i hi
        rw [Nat.zero_add]
        exact (hg.cell ((hbr.cell (p := ⟨g, i, none⟩) hgz.2).trans (Hcells.out i (by omega)))).1
      case hround =>
        intro l0 k W hl0 hzW hk hIk
        obtain ⟨v1, hL1, hm1', hlays, d0, dx, gx⟩ := hIk
        have hm' : bs.length - 1 = m := by have := Hm.out; omega
        have hstep := splits_step bs (begF t.ps to l).2 k (by omega)
        rw [hm'] at hstep hL1 dx
        have hlk : (splitsF (bs.drop (m - k)) (begF t.ps to l).2).2.length ≤ 1000000 := by
          have h1 := splits_drop_len bs (begF t.ps to l).2 (m - k)
          have h2 := Hlen.out
          rw [← Hq.out] at h2
          omega
        have Hstep := Lib.hid hstep; have Hm' := Lib.hid hm'; clear hstep hm'
        unfold encI
        generalize bs.getD (m - 1 - k) 0 = bk at *
        generalize hs1 : splitsF (bs.drop (m - k)) (begF t.ps to l).2 = sk at *
        have Hs1 := Lib.hid hs1; clear hs1
        gi_wp2
        refine ⟨KeepsFrom.refl _ _, KeepOn.refl _ _, fun W2 hg2 => ?_⟩
        have hL2 := hL1.gb hg2
        have hlays2 := hlays.gb hg2 (show w.heap.size ≤ W3.heap.size by omega)
        have q0 := (hg2.cell d0).1
        have qx := (hg2.cell dx).1
        have jx := (hg2.cell dx).2.trans gx
        have hz2 := hg2.size
        have hmw1 : Moves w v v1 := hmw.trans (by omega) (hm1'.older (by omega) : Moves wr v' v1)
        gi_wp2
        refine ⟨trivial, (CallsIn.inRound l0 (callsIn_wide.2 (state_any W2 L base v1 sk.2 (splitS bk sk.1) hL2 hlk))).mono ?_⟩
        rintro e W4 ⟨rfl, v4, hL4, hm4, hl4⟩
        have hBx : wr.heap.size < W2.heap.size ∧ wr.heap.size ≠ L ∧ some wr.heap.size ≠ v1.ownBlock := ⟨by omega, by omega, hmg v1 hm1' _ (by omega) (by omega) hxne⟩
        have hBl : w.heap.size < W2.heap.size ∧ w.heap.size ≠ L ∧ some w.heap.size ≠ v1.ownBlock := ⟨by omega, by omega, hmg v1 hm1' _ (by omega) (by omega) hlne⟩
        have r0 := (hl4.cell (o := 0) hBl.1 hBl.2.1 hBl.2.2).trans q0
        have rx := (hl4.cell (o := 0) hBx.1 hBx.2.1 hBx.2.2).trans qx
        have ix := (hl4.frozen (o := 0) hBx.1 hBx.2.1 hBx.2.2).trans jx
        have hm5 : Moves W3 v' v4 := hm1'.trans (by omega) hm4
        have hl5 := hlays2.trans hmw1 hl4
        have hBx4 := hmg v4 hm5 wr.heap.size (by omega) (by omega) hxne
        have hz4 := hl4.size
        gi_wp2
        have hm2 := Hm'.out
        refine ⟨rfl, ?_, ?_, v4, ?_, hm5, hl5.setNew (by omega) _, ?_, ?_, ?_⟩
        · exact (hl4.keepsFrom hL2 _).trans ((KeepsOthers.setCell _ _ _).from _)
        · intro x hx o'
          have hx1 : x ≠ wr.heap.size := by rcases hx with rfl | rfl <;> omega
          rw [World.cell?_setCell_other _ _ _ _ (by intro e; injection e with e; omega)]
          refine hl4.cell (by rcases hx with rfl | rfl <;> omega) ?_ ?_
          · rcases hx with rfl | rfl <;> omega
          · rcases hx with rfl | rfl
            · exact hmg v1 hm1' _ (by omega) (by omega) hgne
            · exact hmg v1 hm1' _ (by omega) (by omega) hbne
        · rw [hm2, Hstep.out]; exact hL4.setOther (by omega) hBx4 _
        · rw [World.cell?_setCell_other _ _ _ _ (by intro e; injection e with e; omega)]; exact r0
        · rw [hm2, Hstep.out]; exact World.cell?_setCell_same _ _ _ rx
        · rw [World.frozen?_setCell]; exact ix
      case hdone =>
        rintro D W hD ⟨v1, h1, h2, h3, h4, h5, h6⟩ hK
        rw [show bs.length - 1 - m = 0 by have := Hm.out; omega, List.drop_zero, Hq.out, ← Hch.out] at h1 h5
        go_wp2_with fail
        refine ⟨by simp, .inl ⟨_, _, rfl, run_takeDeferred hK, ?_⟩⟩
        have hg : GB W3.heap.size W (W.putObj D (.deferred none)) := GB.put _ hK rfl hD
        refine ⟨_, results_tmp rfl _ _ _, ?_⟩
        exact ⟨rfl, v1, h1.gb hg, hmw.trans (by omega) (h2.older (by omega) : Moves wr v' v1), h3.gb hg (by omega)⟩
end Go.Proofs.Ytdpmbanfaigmcaa
