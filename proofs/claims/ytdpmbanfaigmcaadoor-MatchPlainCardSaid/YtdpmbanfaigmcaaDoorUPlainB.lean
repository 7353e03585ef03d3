/- Merged texts, part of the proof Plain: Choice, RefLay, RefCh, RefSize, LayAll, Len, Make, RefMake, RefCheckN, Works, MakesW, Has, Comp, Thom, MayL, Sim, JoinL, Fine, PlainL, Work10, Work12, PlainA, MPlain. -/
import Derived.Test.YtdpmbanfaigmcaaDoorUBackA
import Derived.Test.YtdpmbanfaigmcaaDoorUBackB
import Derived.Test.YtdpmbanfaigmcaaDoorUBackC
import Derived.Test.YtdpmbanfaigmcaaDoorUPlainA
import Derived.Deep.RegionWith
import Derived.Deep.DeepMust
import Derived.Laws.EntriesVeiled
import Derived.Shelf.Abstract
import Derived.Laws.MakeOwn
import Derived.Deep.OwnRows
import Derived.Deep.DeepCutAuto
import Derived.Laws.OwnMore
import Derived.WalkMore
import Derived.Deep.QuietTactic
import Derived.BigQuiet
import Derived.IntWalk
import Derived.Laws.Strings2
/- The walk of nfa's layer: choice. -/
set_option linter.unusedVariables false
set_option linter.unusedSimpArgs false
namespace Go.Proofs.YtdpmbanfaigmcaaDoor
open Go.RowKit Go.Shelf
attribute [local go_sem] Oper.semAt_some


def ivl (x : Int) : Value := .int .i64 x
/-- Two rows of different elements share no block. -/
theorem own_neC {w : World} {b b' : Nat} {e e' : TypeId} {s s' n n' : Nat} {v v' : Value} {xs xs' : List Value} (h : w.ownsRow b e s v n xs) (h' : w.ownsRow b' e' s' v' n' xs') (hne : e ≠ e') {g : Nat} (h1 : v.ownBlock = some g) (h2 : v'.ownBlock = some g) : False := by
  rcases h.2 with ⟨rfl, _⟩ | ⟨x, cap, cur, rfl, _, hh, _⟩
  · simp [Value.ownBlock] at h1
  · rcases h'.2 with ⟨rfl, _⟩ | ⟨x', cap', cur', rfl, _, hh', _⟩
    · simp [Value.ownBlock] at h2
    · simp only [Value.ownBlock, Option.some.injEq] at h1 h2
      subst h1
      subst h2
      rw [hh] at hh'
      injection hh' with hh'
      injection hh' with _ ht
      exact hne ht
theorem Lays.own {L : Nat} {w w' : World} {b e s n : Nat} {v v7 : Value} {xs : List Value} {base : Nat} {l : List St} (h : Lays L v.ownBlock w w') (hL : Layer w L base v l) (ho : w.ownsRow b e s v7 n xs) (he : e ≠ 90) (hb : L < b) : w'.ownsRow b e s v7 n xs := by
  refine ⟨ho.1, ?_⟩
  rcases ho.2 with h0 | ⟨g, cap, cur, rfl, hbg, hg, rest⟩
  · exact .inl h0
  · refine .inr ⟨g, cap, cur, rfl, hbg, ?_, rest⟩
    rw [h.block g (Array.getElem?_eq_some_iff.1 hg).1 (by omega) (fun e' => own_neC ho hL.own he (by rfl) e'.symm)]
    exact hg
theorem Layer.grown {w w' : World} {L base : Nat} {v v7 : Value} {l : List St} (h : Layer w L base v l) {b e s n : Nat} {xs : List Value} (ho : w.ownsRow b e s v7 n xs) (he : e ≠ 90) (hb : L < b) (hg : w.grownBy w' v7.ownBlock) : Layer w' L base v l := by
  have h1 : some L ≠ v7.ownBlock := fun e' => by have := (ho.lt L e'.symm).1; omega
  have hL := h.lt
  refine ⟨hg.cell h.cell h1, (World.frozen?_of_block (w := w) (a := ⟨L, 0, none⟩) (hg.block L hL h1)).trans h.froz, h.own.kept hg ?_, h.ne, Nat.le_trans h.base hg.size⟩
  cases hv : v.ownBlock with
  | none => exact .inl rfl
  | some g => exact .inr fun e' => own_neC ho h.own he e'.symm hv
theorem Lays.grownNew {w W W1 : World} {L : Nat} {r row : Option Nat} (h : Lays L r w W) (hg : W.grownBy W1 row) (hr : ∀ g, row = some g → w.heap.size ≤ g) : Lays L r w W1 :=
  ⟨hg.os.trans h.os, hg.tape.trans h.tape, hg.output.trans h.output, Nat.le_trans h.size hg.size, fun k hk h1 h2 => (hg.block k (Nat.lt_of_lt_of_le hk h.size) (fun e => by have := hr k e.symm; omega)).trans (h.block k hk h1 h2)⟩
theorem Moves.older {w W : World} {v v' : Value} (h : Moves W v v') (hz : w.heap.size ≤ W.heap.size) : Moves w v v' := by
  rcases h with h | ⟨y, hy, hle⟩
  · exact .inl h
  · exact .inr ⟨y, hy, by omega⟩
theorem ownBlock_ge {w : World} {b e s n : Nat} {v : Value} {xs : List Value} (ho : w.ownsRow b e s v n xs) {g : Nat} (h : v.ownBlock = some g) : b ≤ g ∧ g < w.heap.size := ho.lt g h
theorem splits_step (bs : List Int) (l : List St) (k : Nat) (hk : k + 1 < bs.length) :
    splitsF (bs.drop (bs.length - 1 - (k + 1))) l = (((splitsF (bs.drop (bs.length - 1 - k)) l).2.length : Int), (splitsF (bs.drop (bs.length - 1 - k)) l).2 ++ [splitS (bs.getD (bs.length - 1 - 1 - k) 0) (splitsF (bs.drop (bs.length - 1 - k)) l).1]) := by
  have h1 : bs.length - 1 - (k + 1) < bs.length := by omega
  rw [List.drop_eq_getElem_cons h1, show bs.length - 1 - (k + 1) + 1 = bs.length - 1 - k by omega]
  have h2 : 0 < (bs.drop (bs.length - 1 - k)).length := by rw [List.length_drop]; omega
  cases hd : bs.drop (bs.length - 1 - k) with
  | nil => rw [hd] at h2; simp at h2
  | cons y ys =>
    rw [splitsF]
    · have : bs.getD (bs.length - 1 - 1 - k) 0 = bs[bs.length - 1 - (k + 1)] := by
        rw [show bs.length - 1 - 1 - k = bs.length - 1 - (k + 1) by omega]
        simp [List.getD_eq_getElem?_getD, h1]
      rw [this]
    · simp
theorem splits_zero (bs : List Int) (l : List St) (h : 0 < bs.length) : splitsF (bs.drop (bs.length - 1 - 0)) l = (bs.getD (bs.length - 1) 0, l) := by
  have h1 : bs.length - 1 < bs.length := by omega
  rw [Nat.sub_zero, List.drop_eq_getElem_cons h1, List.drop_of_length_le (by omega), splitsF]
  simp [List.getD_eq_getElem?_getD, h1]
theorem splits_drop_len (bs : List Int) (l : List St) (j : Nat) : (splitsF (bs.drop j) l).2.length ≤ (splitsF bs l).2.length := by
  rw [splitsF_len, splitsF_len, List.length_drop]; omega

/-- Between two rounds of choice's second loop. -/
def ChI (bs : List Int) (w W0 : World) (L base Bx : Nat) (v vb : Value) (l : List St) (k : Nat) (W : World) : Prop :=
  ∃ v', Layer W L base v' (splitsF (bs.drop (bs.length - 1 - k)) l).2 ∧ Moves W0 vb v' ∧ Lays L v.ownBlock w W ∧ W.cell? ⟨w.heap.size, 0, none⟩ = some (.pointer (some ⟨L, 0, none⟩)) ∧ W.cell? ⟨Bx, 0, none⟩ = some (.int .i64 (splitsF (bs.drop (bs.length - 1 - k)) l).1) ∧ W.frozen? ⟨Bx, 0, none⟩ = false

set_option maxRecDepth 100000 in
set_option maxHeartbeats 2000000 in
theorem choice_any (t : T) (hk : t.k = 5) (hr : rightF t = true) (ih : ∀ p ∈ t.ps, LayAt 64 p) : LayAt 93 t := by
  intro w ok A c L base v l tu hN ho hL hlen
  have hps1 : 2 ≤ t.ps.length := by rcases right_cases hr with h | h | h | h | h | h | h <;> omega
  have hch : layF t tu l = splitsF (begF t.ps tu l).1 (begF t.ps tu l).2 := by rw [layF_eq]; simp [hk]
  have hll := hN.len
  cases hN with
  | mk _ _ _ As cs hcap _ ha hp =>
  obtain ⟨b, o, rfl, hb, hcell⟩ := ha (fun e => by simp [e] at hps1)
  rw [hch] at hlen
  have hl2 : (begF t.ps tu l).2.length ≤ 1000000 := by rw [splitsF_len] at hlen; omega
  have Hch := Lib.hid hch; have Hlen := Lib.hid hlen; have Hih := Lib.hid ih; have Hp := Lib.hid hp; have Hcell := Lib.hid hcell
  have Hbl := Lib.hid (begF_len t.ps tu l)
  clear hch hk hlen ih hp hcell ha
  have hLlt := hL.lt
  have hblt := (ho b hb).1
  refine (callsIn_wide (n := 3)).1 ?_
  refine callsIn_of_wp_marks Tryd.func93 rfl trivial ?_ rfl
  refine wpIn_wide.2 ?_
  simp only [Tryd.ntmps93, List.size_toArray, List.length_cons, List.length_nil, Nat.reduceAdd, Nat.reduceSub, Array.replicate_succ, Array.replicate_zero, List.push_toArray, List.append_toArray, List.nil_append, List.cons_append]
  go_wp2_with fail
  generalize hW : (w.alloc _).alloc _ = W0
  have hb0 : Below w.heap.size w W0 := by subst hW; exact ((Below.refl _ _).alloc (Nat.le_refl _) _).alloc (by simp) _
  have hz0 : w.heap.size + 2 ≤ W0.heap.size := by subst hW; simp
  have c0 : W0.cell? ⟨w.heap.size, 0, none⟩ = some (.pointer (some ⟨L, 0, none⟩)) := by subst hW; simp [go_sem]
  clear hW
  have hL0 := hL.later hb0
  go_loopg [7, 17] (t.ps.length) (fun n sv iv wr => ∃ (j : Nat) (bs : List Int) (v' : Value) (l' : List St), iv = .int .i64 j ∧ j + n = t.ps.length ∧ bs.length = j ∧ bs ++ (begF (t.ps.drop j) tu l').1 = (begF t.ps tu l).1 ∧ (begF (t.ps.drop j) tu l').2 = (begF t.ps tu l).2 ∧
    Layer wr L base v' l' ∧ Moves W0 v v' ∧ Lays L v.ownBlock W0 wr ∧ wr.ownsRow W0.heap.size 3 1 sv bs.length (bs.map ivl))
  case atStart => exact ⟨0, [], v, l, rfl, by omega, rfl, rfl, rfl, hL0, Moves.refl _ _, Lays.refl _ _ _, World.ownsRow_nil _ _ _ _⟩
  case round =>
    obtain ⟨j, bs, v', l', rfl, hj, hbs, hq1, hq2, hLr, hmr, hlr, hor⟩ := hrel
    have hlw : Lays L v.ownBlock w wr := (Lays.of_below hb0).trans (Moves.refl w v) hlr
    have hmw := hmr.older (show w.heap.size ≤ W0.heap.size by omega)
    have hzr := hlr.size
    have hno : ∀ (v'' : Value) (W : World), Moves W v v'' → ∀ j, w.heap.size ≤ j → j < W.heap.size → some j ≠ v''.ownBlock := fun v'' W hm j h1 h2 e => by
      rcases hm with hm | ⟨x, hx, hle⟩
      · have := (hL.own.lt _ (e.trans hm).symm).2; omega
      · rw [hx] at e; injection e with e; omega
    have k0 := (hlr.cell (o := 0) (show w.heap.size < W0.heap.size by omega) (by omega) (by intro e; have := (hL.own.lt _ e.symm).2; omega)).trans c0
    have hzz : w.heap.size < wr.heap.size := by omega
    have Hq1 := Lib.hid hq1; have Hq2 := Lib.hid hq2; have Hbs := Lib.hid hbs
    clear hq1 hq2 hbs c0
    by_cases hlt : j < t.ps.length
    · have hpj := List.getElem?_eq_getElem hlt
      have hNj := (Hp.out j _ hpj).lays ho hlw
      obtain ⟨f0, f1, f2, f3, f4, f5, f6, f7⟩ := (Hcell.out j _ hpj).mono (w' := wr) (fun o' => hlw.cell hblt (ho b hb).2.1 (ho b hb).2.2)
      have hihj := Hih.out _ (List.getElem_mem hlt)
      have hbstep : begF (t.ps.drop j) tu l' = ((layF t.ps[j] tu l').1 :: (begF (t.ps.drop (j + 1)) tu (layF t.ps[j] tu l').2).1, (begF (t.ps.drop (j + 1)) tu (layF t.ps[j] tu l').2).2) := by rw [drop_cons hlt, begF]
      have hst : (layF t.ps[j] tu l').2.length ≤ 1000000 := by
        have h1 := begF_grows (t.ps.drop (j + 1)) (fun p _ => layF_grows p) tu (layF t.ps[j] tu l').2
        have h2 := Hq2.out
        rw [hbstep] at h2
        simp only at h2
        rw [h2] at h1
        omega
      have Hbstep := Lib.hid hbstep; clear hbstep hpj
      generalize t.ps[j] = p at *
      generalize As j = Aj at *
      generalize cs j = cj at *
      have Hihj := Lib.hid hihj; clear hihj
      have hokr : OkL wr L v' ok := ho.later hlw.size hmw
      obtain ⟨A7, c7, rfl⟩ : ∃ A7 c7, u7 = .slice A7 bs.length c7 := by
        rcases hor.2 with ⟨rfl, h0⟩ | ⟨g, cap, cur, rfl, _⟩
        · exact ⟨none, 0, by rw [h0]⟩
        · exact ⟨_, cap, rfl⟩
      go_wp2_with fail
      refine (Hihj.out _ ok Aj cj L base v' l' tu (hNj.alloc (fun x hx => (hokr x hx).1) _) (hokr.alloc _) (hLr.alloc _) hst).mono ?_
      rintro e w1 ⟨rfl, v1, hL1, hm1, hl1⟩
      have hor1 := hl1.own (hLr.alloc _) (hor.alloc _) (by decide) (by omega)
      have hz1 := hl1.size
      simp only [World.size_alloc] at hz1
      have hm1' : Moves W0 v v1 := hmr.trans (by simp; omega) hm1
      have hl1' : Lays L v.ownBlock W0 w1 := (hlr.trans hmr (Lays.alloc _ _ _ _)).trans hmr hl1
      have hbl7 : bs.length + 1 ≤ 17592186044416 := by have := Hbs.out; omega
      go_wp2_with (at_builtin; refine wpList_append_at W0.heap.size rfl (.tmp 21) (.tmp 26) 83 3 _ 1 8 rfl Tryd.underlying83 Tryd.infoInt rfl (by omega) (by omega) (.slice A7 bs.length c7) bs.length 1 (bs.map ivl) [.int .i64 (layF p tu l').1] ⟨w1.heap.size, 0, none⟩ 1 rfl rfl (by omega) rfl (cell_one_new _ _ _) (by intro u hu; simp at hu; subst hu; rfl) (hor1.alloc _) (by simp; omega) (by omega) (fun g cap w2 ho2 hg2 hat2 => ?_))
      have hL2 : Layer w2 L base v1 (layF p tu l').2 := (hL1.alloc _).grown (hor1.alloc _) (by decide) (by omega) hg2
      have hl2' : Lays L v.ownBlock W0 w2 := (hl1'.trans hm1' (Lays.alloc _ _ _ _)).grownNew hg2 (fun g hg => (hor1.lt g hg).1)
      go_wp2_with fail
      go_roundg (gk - 1)
      case measure => omega
      case rel =>
        refine ⟨j + 1, bs ++ [(layF p tu l').1], v1, (layF p tu l').2, by go_num, by omega, by rw [List.length_append, Hbs.out]; rfl, ?_, ?_, hL2, hm1', hl2', ?_⟩
        · have := Hq1.out
          rw [Hbstep.out] at this
          simpa using this
        · have := Hq2.out
          rw [Hbstep.out] at this
          exact this
        · rw [List.length_append, List.map_append]; exact ho2
    · have hgk : t.ps.drop j = [] := List.drop_of_length_le (by omega)
      have hq1 := Hq1.out
      have hq2 := Hq2.out
      rw [hgk, begF, List.append_nil] at hq1
      rw [hgk, begF] at hq2
      simp only at hq1 hq2
      subst hq2
      have hbl : bs.length = t.ps.length := by have := Hbs.out; omega
      obtain ⟨m, hm⟩ : ∃ m, bs.length = m + 1 := ⟨bs.length - 1, by omega⟩
      have hor' := hor
      rw [hm] at hor'
      obtain ⟨g, cap, rfl, hgcap⟩ : ∃ g cap, u7 = .slice (some ⟨g, 0, none⟩) (m + 1) cap ∧ m + 1 ≤ cap := by
        rcases hor'.2 with ⟨rfl, h0⟩ | ⟨g, cap, cur, rfl, _, _, hh, _⟩
        · omega
        · exact ⟨g, cap, rfl, hh⟩
      have hgz := hor'.lt g rfl
      have hcells : ∀ i, i < m + 1 → wr.cell? ⟨g, i, none⟩ = some (.int .i64 (bs.getD i 0)) := fun i hi => by
        have h1 := hor'.cells (g := g) rfl i (ivl (bs.getD i 0)) (by rw [List.getElem?_map, List.getElem?_eq_getElem (by omega)]; simp [List.getD_eq_getElem?_getD, show i < bs.length by omega])
        rwa [show (⟨g, 0, none⟩ : Addr).add i = ⟨g, i, none⟩ by unfold Addr.add; split <;> simp_all] at h1
      have hlast := hcells m (by omega)
      obtain ⟨xl, hxl⟩ : ∃ xl, bs.getD m 0 = xl := ⟨_, rfl⟩
      rw [hxl] at hlast
      have Hxl := Lib.hid hxl; clear hxl
      have Hm := Lib.hid hm; have Hq := Lib.hid hq1; have Hcells := Lib.hid hcells; have Hbl2 := Lib.hid hbl
      have hmz : m + 1 ≤ 17592186044416 := by omega
      have hm1 : 1 ≤ m := by omega
      have hgne : some g ≠ v'.ownBlock := fun e => own_neC hor' hLr.own (by decide) rfl e.symm
      clear hm hq1 hcells hbl hor hor' Hq1 Hq2 Hbs Hih Hp Hcell Hbl hgk
      go_wp2_with fail
      refine (backI_any _ _ _ _).mono ?_
      rintro e w' ⟨rfl, rfl⟩
      go_wp2_with fail
      have hz4 : ((wr.alloc (.cells #[.int .i64 xl] 3)).alloc (.cells #[.slice (some ⟨g, 0, none⟩) m cap] 83)).heap.size = wr.heap.size + 2 := by simp
      generalize hW : (wr.alloc _).alloc _ = W3 at *
      have hz4a : wr.heap.size + 2 ≤ W3.heap.size := by omega
      have hz4b : W3.heap.size ≤ wr.heap.size + 2 := by omega
      clear hz4
      have hbr : Below wr.heap.size wr W3 := by subst hW; exact ((Below.refl _ _).alloc (Nat.le_refl _) _).alloc (by simp) _
      have cx : W3.cell? ⟨wr.heap.size, 0, none⟩ = some (.int .i64 xl) := by subst hW; simp [go_sem]
      have ex : W3.frozen? ⟨wr.heap.size, 0, none⟩ = false := by subst hW; simp [go_sem]
      have cb : W3.cell? ⟨wr.heap.size + 1, 0, none⟩ = some (.slice (some ⟨g, 0, none⟩) m cap) := by subst hW; simp [go_sem]
      clear hW
      have hL3 := hLr.later hbr
      have k3 := (hbr.cell (p := ⟨w.heap.size, 0, none⟩) hzz).trans k0
      have hl3 : Lays L v.ownBlock w W3 := hlw.trans hmw (Lays.of_below hbr)
      have hmg : ∀ (v'' : Value), Moves W3 v' v'' → ∀ i, w.heap.size ≤ i → i < W3.heap.size → some i ≠ v'.ownBlock → some i ≠ v''.ownBlock := fun v'' hm i h1 h2 h3 e => by
        rcases hm with hm | ⟨x, hx, hle⟩
        · exact h3 (e.trans hm)
        · rw [hx] at e; injection e with e; omega
      have hxne : some wr.heap.size ≠ v'.ownBlock := fun e => by have := (hLr.own.lt _ e.symm).2; omega
      have hbne : some (wr.heap.size + 1) ≠ v'.ownBlock := fun e => by have := (hLr.own.lt _ e.symm).2; omega
      have hlne : some w.heap.size ≠ v'.ownBlock := hno v' W0 hmr _ (by omega) (by omega)
      refine (wpIn_wide (n := 3)).1 ?_
      refine wpIn_range_idx rfl (by omega) (gf := 124) (lb := #[.pointer (some ⟨wr.heap.size + 1, 0, none⟩)]) rfl trivial (enters_of Tryd.func124 (by kernel_rfl) rfl) (enc := encI bs m) (N := m) (fun k => rfl)
        (ChI bs w W3 L base wr.heap.size v v' (begF t.ps tu l).2)
        ?hI ?h0 (KeepOn (fun x => x = g ∨ x = wr.heap.size + 1)) (fun W W' h1 h2 => KeepOn.of_gb (by intro x hx; rcases hx with rfl | rfl <;> omega) h1 h2) (fun h k => h.trans k)
        ?hseq ?hround ?hdone
      case hI =>
        rintro k W W' ⟨v1, h1, h2, h3, h4, h5, h6⟩ hg
        exact ⟨v1, h1.gb hg, h2, h3.gb hg (by omega), (hg.cell h4).1, (hg.cell h5).1, (hg.cell h5).2.trans h6⟩
      case h0 =>
        have hsz := splits_zero bs (begF t.ps tu l).2 (by have := Hm.out; omega)
        have hm' : bs.length - 1 = m := by have := Hm.out; omega
        rw [hm', Hxl.out] at hsz
        unfold ChI
        rw [hm', hsz]
        exact ⟨v', hL3, Moves.refl _ _, hl3, k3, cx, ex⟩
      case hseq =>
        intro l0 J W hg hY hJ
        refine backI_seq 2 l0 (wr.heap.size + 1) g 0 cap m bs (by omega) J W (hg.cell cb).1 ?_ hY hJ
        intro i hi
        rw [Nat.zero_add]
        exact (hg.cell ((hbr.cell (p := ⟨g, i, none⟩) hgz.2).trans (Hcells.out i (by omega)))).1
      case hround =>
        intro l0 k W hl0 hzW hk hIk
        obtain ⟨v1, hL1, hm1', hlays, d0, dx, gx⟩ := hIk
        have hm' : bs.length - 1 = m := by have := Hm.out; omega
        have hstep := splits_step bs (begF t.ps tu l).2 k (by omega)
        rw [hm'] at hstep hL1 dx
        have hlk : (splitsF (bs.drop (m - k)) (begF t.ps tu l).2).2.length ≤ 1000000 := by
          have h1 := splits_drop_len bs (begF t.ps tu l).2 (m - k)
          have h2 := Hlen.out
          rw [← Hq.out] at h2
          omega
        have Hstep := Lib.hid hstep; have Hm' := Lib.hid hm'; clear hstep hm'
        unfold encI
        generalize bs.getD (m - 1 - k) 0 = bk at *
        generalize hs1 : splitsF (bs.drop (m - k)) (begF t.ps tu l).2 = sk at *
        have Hs1 := Lib.hid hs1; clear hs1
        gi_wp2
        refine ⟨KeepsFrom.refl _ _, KeepOn.refl _ _, fun W2 hg2 => ?_⟩
        have hL2 := hL1.gb hg2
        have hlays2 := hlays.gb hg2 (show w.heap.size ≤ W3.heap.size by omega)
        have q0 := (hg2.cell d0).1
        have qx := (hg2.cell dx).1
        have jx := (hg2.cell dx).2.trans gx
        have hz2 := hg2.size
        have hmw1 : Moves w v v1 := hmw.trans (by omega) (hm1'.older (by omega) : Moves wr v' v1)
        gi_wp2
        refine ⟨trivial, (CallsIn.inRound l0 (callsIn_wide.2 (state_any W2 L base v1 sk.2 (splitS bk sk.1) hL2 hlk))).mono ?_⟩
        rintro e W4 ⟨rfl, v4, hL4, hm4, hl4⟩
        have hBx : wr.heap.size < W2.heap.size ∧ wr.heap.size ≠ L ∧ some wr.heap.size ≠ v1.ownBlock := ⟨by omega, by omega, hmg v1 hm1' _ (by omega) (by omega) hxne⟩
        have hBl : w.heap.size < W2.heap.size ∧ w.heap.size ≠ L ∧ some w.heap.size ≠ v1.ownBlock := ⟨by omega, by omega, hmg v1 hm1' _ (by omega) (by omega) hlne⟩
        have r0 := (hl4.cell (o := 0) hBl.1 hBl.2.1 hBl.2.2).trans q0
        have rx := (hl4.cell (o := 0) hBx.1 hBx.2.1 hBx.2.2).trans qx
        have ix := (hl4.frozen (o := 0) hBx.1 hBx.2.1 hBx.2.2).trans jx
        have hm5 : Moves W3 v' v4 := hm1'.trans (by omega) hm4
        have hl5 := hlays2.trans hmw1 hl4
        have hBx4 := hmg v4 hm5 wr.heap.size (by omega) (by omega) hxne
        have hz4 := hl4.size
        gi_wp2
        have hm2 := Hm'.out
        refine ⟨rfl, ?_, ?_, v4, ?_, hm5, hl5.setNew (by omega) _, ?_, ?_, ?_⟩
        · exact (hl4.keepsFrom hL2 _).trans ((KeepsOthers.setCell _ _ _).from _)
        · intro x hx o'
          have hx1 : x ≠ wr.heap.size := by rcases hx with rfl | rfl <;> omega
          rw [World.cell?_setCell_other _ _ _ _ (by intro e; injection e with e; omega)]
          refine hl4.cell (by rcases hx with rfl | rfl <;> omega) ?_ ?_
          · rcases hx with rfl | rfl <;> omega
          · rcases hx with rfl | rfl
            · exact hmg v1 hm1' _ (by omega) (by omega) hgne
            · exact hmg v1 hm1' _ (by omega) (by omega) hbne
        · rw [hm2, Hstep.out]; exact hL4.setOther (by omega) hBx4 _
        · rw [World.cell?_setCell_other _ _ _ _ (by intro e; injection e with e; omega)]; exact r0
        · rw [hm2, Hstep.out]; exact World.cell?_setCell_same _ _ _ rx
        · rw [World.frozen?_setCell]; exact ix
      case hdone =>
        rintro D W hD ⟨v1, h1, h2, h3, h4, h5, h6⟩ hK
        rw [show bs.length - 1 - m = 0 by have := Hm.out; omega, List.drop_zero, Hq.out, ← Hch.out] at h1 h5
        go_wp2_with fail
        refine ⟨by simp, .inl ⟨_, _, rfl, run_takeDeferred hK, ?_⟩⟩
        have hg : GB W3.heap.size W (W.putObj D (.deferred none)) := GB.put _ hK rfl hD
        refine ⟨_, results_tmp rfl _ _ _, ?_⟩
        exact ⟨rfl, v1, h1.gb hg, hmw.trans (by omega) (h2.older (by omega) : Moves wr v' v1), h3.gb hg (by omega)⟩
end Go.Proofs.YtdpmbanfaigmcaaDoor

/- vouchref11: the layer's lay: walked. -/
set_option linter.unusedVariables false
set_option linter.unusedSimpArgs false
namespace Go.Proofs.YtdpmbanfaigmcaaDoor
open Go.RowKit

theorem own_hno {L base : Nat} {v : Value} {l : List St} {w : World} (hL : Layer w L base v l) : ∀ j, w.heap.size ≤ j → some j ≠ v.ownBlock := fun j hj e => by have := (hL.own.lt _ e.symm).2; omega

/-- The loop over a row, the last part first. -/
def RRowI (t : T) (W0 : World) (L base : Nat) (v : Value) (tu : Int) (l : List St) (n : Nat) (tv iv : Value) (wr : World) : Prop :=
  ∃ (x : Int) (v' : Value), iv = .int .i64 x ∧ x = (n : Int) - 1 ∧ n ≤ t.ps.length ∧ tv = .int .i64 (rowF (t.ps.drop n) tu l).1 ∧ Layer wr L base v' (rowF (t.ps.drop n) tu l).2 ∧ Moves W0 v v' ∧ Lays L v.ownBlock W0 wr

end Go.Proofs.YtdpmbanfaigmcaaDoor

/- vouchref11: the layer's lay at a choice; lay as a whole: walked. -/
set_option linter.unusedVariables false
set_option linter.unusedSimpArgs false
namespace Go.Proofs.YtdpmbanfaigmcaaDoor
open Go.RowKit

/-- The loop that lays the parts. -/
def RChI (t : T) (W0 : World) (L base : Nat) (v : Value) (tu : Int) (l : List St) (n : Nat) (sv iv : Value) (wr : World) : Prop :=
  ∃ (j : Nat) (bs : List Int) (v' : Value) (l' : List St), iv = .int .i64 j ∧ j + n = t.ps.length ∧ bs.length = j ∧ bs ++ (begF (t.ps.drop j) tu l').1 = (begF t.ps tu l).1 ∧ (begF (t.ps.drop j) tu l').2 = (begF t.ps tu l).2 ∧
    Layer wr L base v' l' ∧ Moves W0 v v' ∧ Lays L v.ownBlock W0 wr ∧ wr.ownsRow W0.heap.size 3 1 sv bs.length (bs.map ivl)
/-- The loop that lays the splits. -/
def RChJ (bs : List Int) (W0 : World) (L base : Nat) (v : Value) (l : List St) (m n : Nat) (tv iv : Value) (wr : World) : Prop :=
  ∃ (k : Nat) (x : Int) (v' : Value), iv = .int .i64 x ∧ x = (m : Int) - 1 - k ∧ k + n = m ∧ tv = .int .i64 (splitsF (bs.drop (m - k)) l).1 ∧ Layer wr L base v' (splitsF (bs.drop (m - k)) l).2 ∧ Moves W0 v v' ∧ Lays L v.ownBlock W0 wr

end Go.Proofs.YtdpmbanfaigmcaaDoor

/- vouchref11: states, Size: walked. -/
set_option linter.unusedVariables false
set_option linter.unusedSimpArgs false
namespace Go.Proofs.YtdpmbanfaigmcaaDoor
open Go.RowKit

end Go.Proofs.YtdpmbanfaigmcaaDoor

/- The walks of nfa.kinds and of nfa's layer: lay. -/
set_option linter.unusedVariables false
set_option linter.unusedSimpArgs false
namespace Go.Proofs.YtdpmbanfaigmcaaDoor
open Go.RowKit Go.Shelf

abbrev fv (f : Nat) : Value := .func (.func f) #[] #[]
abbrev kindsV : Value := .agg #[fv 89, fv 90, fv 91, fv 91, fv 92, fv 93, fv 94]

set_option maxRecDepth 100000 in
set_option maxHeartbeats 1000000 in
theorem kinds_any (w : World) : Calls Tryd.prog 80 #[] w fun e w' => e = .returned kindsV ∧ Below w.heap.size w w' := by
  go_enter Tryd.func80, Tryd.ntmps80
  go_wp2_with fail
  exact bodyPost_ret (v := kindsV) (by simp [results, Tryd.results80, go_sem]) rfl ⟨rfl, (Below.refl _ _).alloc (Nat.le_refl _) _⟩

set_option maxRecDepth 100000 in
set_option maxHeartbeats 1000000 in
theorem lay_by (f : Nat) (henter : ∀ args w, (callFunc f args).run Tryd.prog w = .ok (.enter f args) w) (t : T)
    (hix : ∀ w : World, (Instr.index 115 kindsV (.int .i64 t.k)).run Tryd.prog w = .ok (fv f) w) (h : LayAt f t) : LayAt 64 t := by
  intro w ok A c L base v l tu hN ho hL hlen
  have H := Lib.hid h; clear h
  have Hlen := Lib.hid hlen; clear hlen
  go_enter Tryd.func64, Tryd.ntmps64
  go_wp2_with fail
  go_region_with (first
    | (go_at_call 80; refine (kinds_any _).mono ?_; rintro e w1 ⟨rfl, hb1⟩; obtain ⟨hc1, hf1⟩ := bcell hb1; have hB1 : Below w.heap.size w w1 := (((Below.refl _ _).alloc (Nat.le_refl _) _).drew).trans (hb1.mono (by simp)))
    | (refine (H.out w1 ok A c L base v l tu (hN.later hB1 (fun b hb => (ho b hb).1)) (ho.later hB1.size (Moves.refl _ _)) (hL.later hB1) Hlen.out).mono ?_; rintro e w2 ⟨rfl, v2, hL2, hm2, hl2⟩))
  all_goals
    go_wp2_with fail
    go_ret
    exact ⟨rfl, v2, hL2, (Moves.refl w v).trans hB1.size hm2, (Lays.of_below hB1).trans (Moves.refl _ _) hl2⟩

theorem index0 : ∀ w : World, (Instr.index 115 kindsV (.int .i64 0)).run Tryd.prog w = .ok (fv 89) w := fun _ => by kernel_rfl
theorem lay_0 (t : T) (hk : t.k = 0) (h : LayAt 89 t) : LayAt 64 t :=
  lay_by 89 (enters_of Tryd.func89 (by kernel_rfl) rfl) t (by rw [hk]; exact index0) h
theorem index1 : ∀ w : World, (Instr.index 115 kindsV (.int .i64 1)).run Tryd.prog w = .ok (fv 90) w := fun _ => by kernel_rfl
theorem lay_1 (t : T) (hk : t.k = 1) (h : LayAt 90 t) : LayAt 64 t :=
  lay_by 90 (enters_of Tryd.func90 (by kernel_rfl) rfl) t (by rw [hk]; exact index1) h
theorem index2 : ∀ w : World, (Instr.index 115 kindsV (.int .i64 2)).run Tryd.prog w = .ok (fv 91) w := fun _ => by kernel_rfl
theorem lay_2 (t : T) (hk : t.k = 2) (h : LayAt 91 t) : LayAt 64 t :=
  lay_by 91 (enters_of Tryd.func91 (by kernel_rfl) rfl) t (by rw [hk]; exact index2) h
theorem index3 : ∀ w : World, (Instr.index 115 kindsV (.int .i64 3)).run Tryd.prog w = .ok (fv 91) w := fun _ => by kernel_rfl
theorem lay_3 (t : T) (hk : t.k = 3) (h : LayAt 91 t) : LayAt 64 t :=
  lay_by 91 (enters_of Tryd.func91 (by kernel_rfl) rfl) t (by rw [hk]; exact index3) h
theorem index4 : ∀ w : World, (Instr.index 115 kindsV (.int .i64 4)).run Tryd.prog w = .ok (fv 92) w := fun _ => by kernel_rfl
theorem lay_4 (t : T) (hk : t.k = 4) (h : LayAt 92 t) : LayAt 64 t :=
  lay_by 92 (enters_of Tryd.func92 (by kernel_rfl) rfl) t (by rw [hk]; exact index4) h
theorem index5 : ∀ w : World, (Instr.index 115 kindsV (.int .i64 5)).run Tryd.prog w = .ok (fv 93) w := fun _ => by kernel_rfl
theorem lay_5 (t : T) (hk : t.k = 5) (h : LayAt 93 t) : LayAt 64 t :=
  lay_by 93 (enters_of Tryd.func93 (by kernel_rfl) rfl) t (by rw [hk]; exact index5) h
theorem index6 : ∀ w : World, (Instr.index 115 kindsV (.int .i64 6)).run Tryd.prog w = .ok (fv 94) w := fun _ => by kernel_rfl
theorem lay_6 (t : T) (hk : t.k = 6) (h : LayAt 94 t) : LayAt 64 t :=
  lay_by 94 (enters_of Tryd.func94 (by kernel_rfl) rfl) t (by rw [hk]; exact index6) h
/-- nfa's layer lays a tree as layF does. -/
theorem lay_any (t : T) : rightF t = true → LayAt 64 t := by
  induction t using T.ind with
  | h t ih =>
    intro hr
    have ih' : ∀ p ∈ t.ps, LayAt 64 p := fun p hp => ih p hp (right_parts hr p hp)
    rcases right_cases hr with h | h | h | h | h | h | h
    · exact lay_0 t h.1 (nothing_any t h.1)
    · exact lay_1 t h.1 (set_any t h.1)
    · exact lay_2 t h.1 (place_any t (.inl h.1))
    · exact lay_3 t h.1 (place_any t (.inr h.1))
    · exact lay_4 t h.1 (row_any t h.1 hr ih')
    · exact lay_5 t h.1 (choice_any t h.1 hr ih')
    · exact lay_6 t h.1 (repeat_any t h.1 hr ih')
end Go.Proofs.YtdpmbanfaigmcaaDoor

/- How many states a tree lays: plain. -/
set_option linter.unusedVariables false
set_option linter.unusedSimpArgs false
namespace Go.Proofs.YtdpmbanfaigmcaaDoor
open Go.RowKit

/-- A way of laying that lays n states, whatever lies there. -/
def LaysN (p : LF) (n : Nat) : Prop := ∀ tu l, (p tu l).2.length = l.length + n
theorem optF_len {p : LF} {n : Nat} (hp : LaysN p n) (tu : Int) : ∀ m t l, (optF p tu m t l).2.length = l.length + m * (n + 1)
  | 0, t, l => by simp [optF]
  | m + 1, t, l => by
    rw [optF, optF_len hp tu m, List.length_append, hp, Nat.succ_mul]
    simp only [List.length_cons, List.length_nil]
    omega
theorem minF_len {p : LF} {n : Nat} (hp : LaysN p n) : ∀ m t l, (minF p m t l).2.length = l.length + m * n
  | 0, t, l => by simp [minF]
  | m + 1, t, l => by
    rw [minF]
    split
    · rename_i h
      rw [hp] at h
      have : n = 0 := by omega
      subst this
      rw [hp]; simp
    · rw [minF_len hp m, hp, Nat.succ_mul]
      omega
theorem starF_len {p : LF} {n : Nat} (hp : LaysN p n) (tu : Int) (l : List St) : (starF p tu l).2.length = l.length + (n + 1) := by
  simp only [starF, setNx, List.length_modify, hp _ _, List.length_append, List.length_cons, List.length_nil]
  omega
theorem countL_sum : ∀ (ps : List T) (s : Int), (∀ p ∈ ps, 0 ≤ countF p) → 0 ≤ s → countL ps s ≤ 4096 → s ≤ countL ps s ∧ (∀ p ∈ ps, countF p ≤ 4096) ∧ countL ps s = s + (ps.map countF).sum
  | [], s, _, h0, h => by rw [countL] at *; simp
  | p :: ps, s, hp, h0, h => by
    rw [countL] at h ⊢
    have h1 := hp p (List.mem_cons_self ..)
    obtain ⟨a, b, c⟩ := countL_sum ps _ (fun q hq => hp q (List.mem_cons_of_mem _ hq)) (by omega) h
    refine ⟨by omega, ?_, ?_⟩
    · intro q hq
      cases hq with
      | head => omega
      | tail _ hq => exact b q hq
    · rw [c, List.map_cons, List.sum_cons]; omega
theorem rowF_len : ∀ (ps : List T), (∀ p ∈ ps, 0 ≤ countF p) → (∀ p ∈ ps, LaysN (layF p) (countF p).toNat) → ∀ tu l, ((rowF ps tu l).2.length : Int) = l.length + (ps.map countF).sum
  | [], _, _, tu, l => by simp [rowF]
  | p :: ps, h0, h, tu, l => by
    have ih := rowF_len ps (fun q hq => h0 q (List.mem_cons_of_mem _ hq)) (fun q hq => h q (List.mem_cons_of_mem _ hq)) tu l
    have h1 := h p (List.mem_cons_self ..) (rowF ps tu l).1 (rowF ps tu l).2
    have h2 := h0 p (List.mem_cons_self ..)
    rw [rowF, List.map_cons, List.sum_cons]
    omega
theorem begF_len2 : ∀ (ps : List T), (∀ p ∈ ps, 0 ≤ countF p) → (∀ p ∈ ps, LaysN (layF p) (countF p).toNat) → ∀ tu l, ((begF ps tu l).2.length : Int) = l.length + (ps.map countF).sum
  | [], _, _, tu, l => by simp [begF]
  | p :: ps, h0, h, tu, l => by
    have h1 := h p (List.mem_cons_self ..) tu l
    have ih := begF_len2 ps (fun q hq => h0 q (List.mem_cons_of_mem _ hq)) (fun q hq => h q (List.mem_cons_of_mem _ hq)) tu (layF p tu l).2
    have h2 := h0 p (List.mem_cons_self ..)
    rw [begF, List.map_cons, List.sum_cons]
    simp only
    omega
theorem headF_eq : ∀ (ps : List T) (h : ps.length = 1), ∃ p, ps = [p] ∧ headF ps = layF p
  | [p], _ => ⟨p, rfl, by funext tu l; rw [headF]⟩

theorem lay_len (t : T) : rightF t = true → countF t ≤ 4096 → LaysN (layF t) (countF t).toNat := by
  induction t using T.ind with
  | h t ih =>
    intro hr hc tu l
    have h0 : ∀ p ∈ t.ps, 0 ≤ countF p := fun p hp => (countF_bd p (right_parts hr p hp)).1
    have hlb := countL_bd t.ps 0 (fun p hp => countF_bd p (right_parts hr p hp)) (by omega) (by omega)
    rw [countF_eq] at hc ⊢
    rw [layF_eq]
    rcases right_cases hr with ⟨hk, h⟩ | ⟨hk, h⟩ | ⟨hk, h⟩ | ⟨hk, h⟩ | ⟨hk, h⟩ | ⟨hk, h⟩ | ⟨hk, h⟩
    · simp [hk]
    · simp [hk]
    · simp [hk]
    · simp [hk]
    · simp only [hk] at hc ⊢
      simp only [countK] at hc ⊢
      simp at hc ⊢
      obtain ⟨_, h2, h3⟩ := countL_sum t.ps 0 h0 (by omega) (by omega)
      have := rowF_len t.ps h0 (fun p hp => ih p hp (right_parts hr p hp) (h2 p hp)) tu l
      omega
    · simp only [hk] at hc ⊢
      simp only [countK] at hc ⊢
      simp at hc ⊢
      obtain ⟨_, h2, h3⟩ := countL_sum t.ps 0 h0 (by omega) (by omega)
      have := begF_len2 t.ps h0 (fun p hp => ih p hp (right_parts hr p hp) (h2 p hp)) tu l
      rw [splitsF_len, begF_len]
      omega
    · obtain ⟨p, hp, hh⟩ := headF_eq t.ps h.1
      have hcl : countL t.ps 0 = min 4097 (countF p) := by rw [hp]; simp [countL]
      have hp0 := countF_bd p (right_parts hr p (by rw [hp]; exact List.mem_cons_self ..))
      simp only [hk] at hc ⊢
      simp only [countK] at hc ⊢
      rw [hh]
      rw [hcl] at hc ⊢
      simp only [show min 4097 (countF p) = countF p by omega] at hc ⊢
      simp only [if_true, if_false, show ¬ ((6 : Int) = 0) by omega, show ¬ ((6 : Int) = 1) by omega, show ¬ ((6 : Int) = 2) by omega, show ¬ ((6 : Int) = 3) by omega, show ¬ ((6 : Int) = 4) by omega, show ¬ ((6 : Int) = 5) by omega, or_self] at hc ⊢
      unfold repF
      simp only
      by_cases hmx : t.mx < 0
      · simp only [if_pos hmx] at hc ⊢
        have hb := mul_bd (a := countF p) (b := t.mn + 1) (A := 4097) (B := 256) hp0.1 (by omega) hp0.2 (by omega)
        have hle : countF p ≤ countF p * (t.mn + 1) := by
          have := Int.mul_le_mul_of_nonneg_left (show (1 : Int) ≤ t.mn + 1 by omega) hp0.1
          omega
        have hl := ih p (by rw [hp]; exact List.mem_cons_self ..) (right_parts hr p (by rw [hp]; exact List.mem_cons_self ..)) (by omega)
        rw [minF_len hl, starF_len hl]
        obtain ⟨a, ha⟩ := Int.eq_ofNat_of_zero_le hp0.1
        obtain ⟨m, hm⟩ := Int.eq_ofNat_of_zero_le (show 0 ≤ t.mn by omega)
        rw [ha, hm] at hc ⊢
        simp only [Int.toNat_natCast]
        have e : ((a : Int) * ((m : Int) + 1) + 1) = ((a * (m + 1) + 1 : Nat) : Int) := by push_cast; rfl
        rw [e] at hc ⊢
        rw [show min (4097 : Int) ((a * (m + 1) + 1 : Nat) : Int) = ((a * (m + 1) + 1 : Nat) : Int) by omega, Int.toNat_natCast, Nat.mul_succ, Nat.mul_comm m a]
        omega
      · simp only [if_neg hmx] at hc ⊢
        by_cases hz : t.mx = 0
        · have hz2 : t.mn = 0 := by omega
          simp [hz, hz2, optF, minF]; try omega
        · have hb := mul_bd (a := countF p) (b := t.mx) (A := 4097) (B := 255) hp0.1 (by omega) hp0.2 (by omega)
          have hle : countF p ≤ countF p * t.mx := by
            have := Int.mul_le_mul_of_nonneg_left (show (1 : Int) ≤ t.mx by omega) hp0.1
            omega
          have hl := ih p (by rw [hp]; exact List.mem_cons_self ..) (right_parts hr p (by rw [hp]; exact List.mem_cons_self ..)) (by omega)
          rw [minF_len hl, optF_len hl]
          obtain ⟨a, ha⟩ := Int.eq_ofNat_of_zero_le hp0.1
          obtain ⟨m, hm⟩ := Int.eq_ofNat_of_zero_le (show 0 ≤ t.mn by omega)
          obtain ⟨d, hd⟩ := Int.eq_ofNat_of_zero_le (show 0 ≤ t.mx - t.mn by omega)
          have hx : t.mx = (m : Int) + d := by omega
          rw [hd]
          clear hb hle hd
          rw [hx] at hc ⊢
          rw [ha, hm] at hc ⊢
          simp only [Int.toNat_natCast]
          have e : ((a : Int) * ((m : Int) + (d : Int)) + ((m : Int) + (d : Int)) - (m : Int)) = ((a * (m + d) + d : Nat) : Int) := by push_cast; omega
          rw [e] at hc ⊢
          rw [show min (4097 : Int) ((a * (m + d) + d : Nat) : Int) = ((a * (m + d) + d : Nat) : Int) by omega, Int.toNat_natCast, Nat.mul_add, Nat.mul_succ, Nat.mul_comm m a, Nat.mul_comm d a]
          simp only [Nat.mul_add, Nat.mul_succ, Nat.mul_comm m a, Nat.mul_comm d a] at hc ⊢
          omega
end Go.Proofs.YtdpmbanfaigmcaaDoor

/- The walk of nfa.Make. -/
set_option linter.unusedVariables false
set_option linter.unusedSimpArgs false
namespace Go.Proofs.YtdpmbanfaigmcaaDoor
open Go.RowKit

/-- make([]T, 0, c), c a variable, any element: for the walk. -/
theorem wpList_make_own {P : Program} {w : World} {ops : Array Oper} {rest : List Oper} {o : Oper} {a : Act} {Q : Exit → Act → World → Prop} (base : Nat)
    (hg : o.guard = none) (l c : Operand) (t : TypeId) (hop : o.op = Op.makeSlice t l c)
    (e : TypeId) (z : Value) (size bytes : Nat) (ht : P.underlying t = some (.slice e)) (hinfo : (P.info? e).map (fun i => (i.zero, i.size, i.bytes)) = some (some z, size, bytes))
    (kl kc : IntKind) (n : Nat) (hl : a.eval l = .int kl 0) (hc : a.eval c = .int kc (n : Int)) (hbytes : bytes * n ≤ 281474976710656) (h63 : n ≤ maxLen) (hbase : base ≤ w.heap.size)
    (hK : ∀ w1, w1.ownsRow base e size (.slice (some ⟨w.heap.size, 0, none⟩) 0 n) 0 [] → Below w.heap.size w w1 → w.heap.size < w1.heap.size → wpList P ops Q rest (a.put o.dst (.slice (some ⟨w.heap.size, 0, none⟩) 0 n)) w1) :
    wpList P ops Q (o :: rest) a w := by
  obtain ⟨i, hi, hzz⟩ := Option.map_eq_some_iff.1 hinfo
  simp only [Prod.mk.injEq] at hzz
  obtain ⟨hz0, hz1, hz2⟩ := hzz
  refine wpList_plain hg fun K hK' => ?_
  have hb' : (i.bytes : Int) * (n : Int) ≤ 281474976710656 := by
    have h : ((i.bytes * n : Nat) : Int) ≤ 281474976710656 := by rw [hz2]; omega
    rwa [Int.natCast_mul] at h
  have h63' : (n : Int) ≤ 9223372036854775807 := by have h := h63; simp [maxLen] at h; omega
  have hrun := run_make (P := P) w t e i z ht hi hz0 kl kc 0 n (Int.le_refl _) (by omega) hb' h63'
  simp only [Int.toNat_zero, Int.toNat_natCast] at hrun
  have hk := hK _ (by subst hz1; exact World.ownsRow_made w (madeCells z.cells (n * i.size)) n hbase h63 (size_madeCells _ _)) ((Below.refl _ _).alloc (Nat.le_refl _) _) (by simp)
  unfold Oper.wp
  simp [execOp, hop, hl, hc, hrun, Result.andThen]
  exact hK' _ _ hk

/-- What nfa.Make makes: the states, and the start. -/
def makeL (t : T) : List St := if sizeE t = 0 then (layF t 0 [⟨5, 0, 0, 0, 0, 0, 0⟩]).2 else []
def makeS (t : T) : Int := if sizeE t = 0 then (layF t 0 [⟨5, 0, 0, 0, 0, 0, 0⟩]).1 else 0
theorem sizeE_zero {t : T} (h : sizeE t = 0) : rightF t = true ∧ countF t ≤ 4095 ∧ sizeK t = 1 + countF t := by
  unfold sizeE at h
  unfold sizeK
  by_cases h1 : checkF t = 0
  · simp only [h1, ne_eq, not_true_eq_false, if_false] at h ⊢
    have := (check_right h1).1
    split at h
    · omega
    · rename_i hh
      rw [if_neg hh]
      exact ⟨this, by omega, rfl⟩
  · simp [h1] at h
theorem makeL_len {t : T} (h : sizeE t = 0) : ((makeL t).length : Int) = sizeK t := by
  obtain ⟨h1, h2, h3⟩ := sizeE_zero h
  rw [makeL, if_pos h, lay_len t h1 (by omega), h3]
  have := (countF_bd t h1).1
  simp only [List.length_cons, List.length_nil]
  omega
theorem sizeK_bd (t : T) : 0 ≤ sizeK t ∧ sizeK t ≤ 4096 := by
  unfold sizeK
  by_cases h1 : checkF t = 0
  · have := (countF_bd t (check_right h1).1).1
    simp only [h1, ne_eq, not_true_eq_false, if_false]
    split <;> omega
  · simp [h1]
theorem makeL_le (t : T) : (makeL t).length ≤ 4096 := by
  by_cases h : sizeE t = 0
  · have := makeL_len h
    have := sizeK_bd t
    omega
  · simp [makeL, h]

set_option maxRecDepth 100000 in
set_option maxHeartbeats 2000000 in
theorem make_any (t : T) (w : World) (ok : Nat → Prop) (A : Option Addr) (c : Nat) (hN : NodeAt w ok t A c) (hok : ∀ b, ok b → b < w.heap.size) :
    Calls Tryd.prog 45 #[nodeV t A c] w fun e w' => ∃ v, e = .returned (.tuple #[.agg #[v, .int .i64 (makeS t)], .int .i64 (sizeE t)]) ∧
      w'.ownsRow w.heap.size 90 7 v (makeL t).length (stCells (makeL t)) ∧ Below w.heap.size w w' := by
  have hlen := hN.len
  go_enter Tryd.func45, Tryd.ntmps45
  go_wp2_with fail
  generalize hW : (w.alloc _).alloc _ = W0
  have hB0 : Below w.heap.size w W0 := by subst hW; exact ((Below.refl _ _).alloc (Nat.le_refl _) _).alloc (by simp) _
  have hsz : W0.heap.size = w.heap.size + 2 := by subst hW; simp
  have p0 : W0.cell? ⟨w.heap.size, 0, none⟩ = some (.int .i64 t.k) := by subst hW; simp [go_sem]
  have p1 : W0.cell? ⟨w.heap.size, 1, none⟩ = some (.int .u64 t.s0) := by subst hW; simp [go_sem]
  have p2 : W0.cell? ⟨w.heap.size, 2, none⟩ = some (.int .u64 t.s1) := by subst hW; simp [go_sem]
  have p3 : W0.cell? ⟨w.heap.size, 3, none⟩ = some (.int .u64 t.s2) := by subst hW; simp [go_sem]
  have p4 : W0.cell? ⟨w.heap.size, 4, none⟩ = some (.int .u64 t.s3) := by subst hW; simp [go_sem]
  have p5 : W0.cell? ⟨w.heap.size, 5, none⟩ = some (.int .i64 t.mn) := by subst hW; simp [go_sem]
  have p6 : W0.cell? ⟨w.heap.size, 6, none⟩ = some (.int .i64 t.mx) := by subst hW; simp [go_sem]
  have p7 : W0.cell? ⟨w.heap.size, 7, none⟩ = some (.slice A t.ps.length c) := by subst hW; simp [go_sem]
  have q0 : W0.cell? ⟨w.heap.size + 1, 0, none⟩ = some (.slice none 0 0) := by subst hW; simp [go_sem]
  have q1 : W0.cell? ⟨w.heap.size + 1, 1, none⟩ = some (.int .i64 0) := by subst hW; simp [go_sem]
  have qf0 : W0.frozen? ⟨w.heap.size + 1, 0, none⟩ = false := by subst hW; simp [go_sem]
  have qf1 : W0.frozen? ⟨w.heap.size + 1, 1, none⟩ = false := by subst hW; simp [go_sem]
  clear hW
  refine (nsize_any t W0 ok A c (hN.later hB0 hok) (fun b h => by have := hok b h; omega)).mono ?_
  rintro e w1 ⟨rfl, hb1⟩
  have hB1 : Below w.heap.size w w1 := hB0.trans (hb1.mono (by omega))
  have hN1 := hN.later hB1 hok
  have hs1 := hb1.size
  obtain ⟨hc1, hf1⟩ := bcell hb1
  rw [← hc1 _ _ (by omega)] at p0 p1 p2 p3 p4 p5 p6 p7 q0 q1
  rw [← hf1 _ _ (by omega)] at qf0 qf1
  clear hc1 hf1
  have h12 : w.heap.size + 2 ≤ w1.heap.size := by omega
  clear hsz
  by_cases h : sizeE t = 0
  · have hkk := makeL_len h
    have hll := makeL_le t
    have hlo : makeL t = (layF t 0 [⟨5, 0, 0, 0, 0, 0, 0⟩]).2 := by rw [makeL, if_pos h]
    have hso : makeS t = (layF t 0 [⟨5, 0, 0, 0, 0, 0, 0⟩]).1 := by rw [makeS, if_pos h]
    have hr := (sizeE_zero h).1
    have hb : (sizeE t != 0) = false := by rw [h]; rfl
    obtain ⟨k, hk⟩ : ∃ k : Nat, sizeK t = k := ⟨_, hkk.symm⟩
    have hk4 : k ≤ 4096 := by omega
    have H := Lib.hid h; have Hlo := Lib.hid hlo; have Hso := Lib.hid hso; have Hr := Lib.hid hr; clear h hlo hso hr hkk
    rw [hk]
    clear hk
    go_wp2_with (refine wpList_make_own w.heap.size rfl _ _ 55 rfl 90 _ 7 56 Tryd.underlying55 Tryd.infoState .i64 .i64 k rfl rfl (by omega) (by simp [maxLen]; omega) (by omega) (fun w2 ho2 hb2 hs2 => ?_))
    generalize hW2 : w2.alloc _ = W2
    have hl0 : Layer W2 w2.heap.size w.heap.size (.slice (some ⟨w1.heap.size, 0, none⟩) 0 k) [] := by
      subst hW2
      exact ⟨by simp [go_sem], by simp [go_sem], ho2.alloc _, by simp [Value.ownBlock]; omega, by simp; omega⟩
    have hBW : Below w1.heap.size w1 W2 := by subst hW2; exact hb2.alloc (by omega) _
    have hBW' : Below w.heap.size w W2 := hB1.trans (hBW.mono (by omega))
    clear hW2
    have hok2 : OkL W2 w2.heap.size (.slice (some ⟨w1.heap.size, 0, none⟩) 0 k) ok := fun b hb => by
      have := hok b hb
      have := hBW'.size
      refine ⟨by omega, by omega, ?_⟩
      simp [Value.ownBlock]; omega
    refine (state_any W2 w2.heap.size w.heap.size _ [] ⟨5, 0, 0, 0, 0, 0, 0⟩ hl0 (by simp)).mono ?_
    rintro e w3 ⟨rfl, v3, hL3, hm3, hl3⟩
    simp only [List.nil_append] at hL3
    have hs3 := hl3.size
    have hsW := hBW.size
    obtain ⟨hcW, hfW⟩ := bcell hBW
    have hc3 : ∀ b o, b < w1.heap.size → w3.cell? ⟨b, o, none⟩ = w1.cell? ⟨b, o, none⟩ := fun b o hb =>
      (hl3.cell (by omega) (by omega) (by simp [Value.ownBlock]; omega)).trans (hcW b o hb)
    have hf3 : ∀ b o, b < w1.heap.size → w3.frozen? ⟨b, o, none⟩ = w1.frozen? ⟨b, o, none⟩ := fun b o hb =>
      (hl3.frozen (by omega) (by omega) (by simp [Value.ownBlock]; omega)).trans (hfW b o hb)
    rw [← hc3 _ _ (by omega)] at p0 p1 p2 p3 p4 p5 p6 p7 q0 q1
    rw [← hf3 _ _ (by omega)] at qf0 qf1
    clear hcW hfW
    go_wp2_with fail
    refine (lay_any t Hr.out w3 ok A c w2.heap.size w.heap.size v3 _ 0 ((hN.later hBW' hok).lays hok2 hl3) (hok2.later hl3.size hm3) hL3 (by rw [← Hlo.out]; omega)).mono ?_
    rintro e w4 ⟨rfl, v4, hL4, hm4, hl4⟩
    have hs4 := hl4.size
    have hm34 := hm3.trans hl3.size hm4
    have hl34 := hl3.trans hm3 hl4
    have hc4 : ∀ b o, b < w1.heap.size → w4.cell? ⟨b, o, none⟩ = w1.cell? ⟨b, o, none⟩ := fun b o hb =>
      (hl34.cell (by omega) (by omega) (by simp [Value.ownBlock]; omega)).trans ((bcell hBW).1 b o hb)
    have hf4 : ∀ b o, b < w1.heap.size → w4.frozen? ⟨b, o, none⟩ = w1.frozen? ⟨b, o, none⟩ := fun b o hb =>
      (hl34.frozen (by omega) (by omega) (by simp [Value.ownBlock]; omega)).trans ((bcell hBW).2 b o hb)
    rw [hc3 _ _ (by omega), ← hc4 _ _ (by omega)] at p0 p1 p2 p3 p4 p5 p6 p7 q0 q1
    rw [hf3 _ _ (by omega), ← hf4 _ _ (by omega)] at qf0 qf1
    clear hc3 hf3
    rw [← Hlo.out, ← Hso.out] at *
    have hcL := hL4.cell
    have ho4 := Lib.hid hL4.own
    have hB4 : Below w.heap.size w w4 := ⟨hl34.os.trans hBW'.os, hl34.tape.trans hBW'.tape, hl34.output.trans hBW'.output, Nat.le_trans hBW'.size hl34.size, fun j hj => (hl34.block j (by omega) (by omega) (by simp [Value.ownBlock]; omega)).trans (hBW'.block j hj)⟩
    have hvb : v4.ownBlock ≠ some (w.heap.size + 1) := by
      rcases hm34 with e | ⟨b, e, hle⟩
      · rw [e]; simp [Value.ownBlock]; omega
      · rw [e]; simp; omega
    have Hvb := Lib.hid hvb; clear hvb
    clear hc4 hf4 hL4
    obtain ⟨A4, n4, c4, rfl⟩ : ∃ A n c, v4 = .slice A n c := by
      rcases ho4.out.2 with ⟨e, _⟩ | ⟨g, cap, cur, e, _⟩
      · exact ⟨_, _, _, e⟩
      · exact ⟨_, _, _, e⟩
    go_wp2_with fail
    have r1 := World.cell?_setCell_same (w4.setCell ⟨w.heap.size + 1, 0, none⟩ (Value.slice A4 n4 c4)) ⟨w.heap.size + 1, 1, none⟩ (.int .i64 (makeS t)) (by rw [World.cell?_setCell_other (h := by simp)]; exact q1)
    have r0 : ((w4.setCell ⟨w.heap.size + 1, 0, none⟩ (Value.slice A4 n4 c4)).setCell ⟨w.heap.size + 1, 1, none⟩ (.int .i64 (makeS t))).cell? ⟨w.heap.size + 1, 0, none⟩ = some (.slice A4 n4 c4) := by
      rw [World.cell?_setCell_other (h := by simp)]
      exact World.cell?_setCell_same w4 _ _ q0
    refine bodyPost_ret (v := .tuple #[.agg #[.slice A4 n4 c4, .int .i64 (makeS t)], .int .i64 0]) (by simp [results, Tryd.results45, r0, r1, go_sem]) rfl ⟨_, by rw [H.out], ?_, ?_⟩
    · refine ho4.out.kept (row := some (w.heap.size + 1)) ⟨rfl, rfl, rfl, by simp, fun j hj hne => ?_⟩ (.inr (fun e => Hvb.out e))
      rw [Below.heap_setCell _ _ _ _ (fun e => hne (by rw [e])), Below.heap_setCell _ _ _ _ (fun e => hne (by rw [e]))]
    · exact (hB4.setCell (by simp) _).setCell (by simp) _
  · have hlo : makeL t = [] := by rw [makeL, if_neg h]
    have hso : makeS t = 0 := by rw [makeS, if_neg h]
    have hb : (sizeE t != 0) = true := by rw [bne_iff_ne]; exact h
    clear h
    go_wp2_with fail
    have r1 := World.cell?_setCell_same (w1.setCell ⟨w.heap.size + 1, 0, none⟩ (Value.slice none 0 0)) ⟨w.heap.size + 1, 1, none⟩ (.int .i64 0) (by rw [World.cell?_setCell_other (h := by simp)]; exact q1)
    have r0 : ((w1.setCell ⟨w.heap.size + 1, 0, none⟩ (Value.slice none 0 0)).setCell ⟨w.heap.size + 1, 1, none⟩ (.int .i64 0)).cell? ⟨w.heap.size + 1, 0, none⟩ = some (.slice none 0 0) := by
      rw [World.cell?_setCell_other (h := by simp)]
      exact World.cell?_setCell_same w1 _ _ q0
    refine bodyPost_ret (v := .tuple #[.agg #[.slice none 0 0, .int .i64 0], .int .i64 (sizeE t)]) (by simp [results, Tryd.results45, r0, r1, go_sem]) rfl ⟨.slice none 0 0, by rw [hso], ?_, ?_⟩
    · rw [hlo]; exact ⟨rfl, .inl ⟨rfl, rfl⟩⟩
    · exact (hB1.setCell (by simp) _).setCell (by simp) _
end Go.Proofs.YtdpmbanfaigmcaaDoor

/- vouchref11.Make: walked. -/
set_option linter.unusedVariables false
set_option linter.unusedSimpArgs false
namespace Go.Proofs.YtdpmbanfaigmcaaDoor
open Go.RowKit

end Go.Proofs.YtdpmbanfaigmcaaDoor

/- vouchref11.Check: walked. -/
set_option linter.unusedVariables false
set_option linter.unusedSimpArgs false
namespace Go.Proofs.YtdpmbanfaigmcaaDoor
open Go.RowKit

theorem inR_true {n i : Int} (h : 0 ≤ i) (h2 : i < n) : inR n i = true := by simp [inR, h, h2]
theorem inR_false {n i : Int} (h : i < 0 ∨ n ≤ i) : inR n i = false := by simp [inR]; omega
end Go.Proofs.YtdpmbanfaigmcaaDoor

/- works: walked. -/
set_option linter.unusedVariables false
set_option linter.unusedSimpArgs false
namespace Go.Proofs.YtdpmbanfaigmcaaDoor
open Go.RowKit

def tA : T := .mk 1 0 2 0 0 0 0 []
def tW : T := .mk 6 0 0 0 0 1 2 [tA]
def t9 : T := .mk 9 0 0 0 0 0 0 []
def wantW : List St := [⟨5, 0, 0, 0, 0, 0, 0⟩, ⟨1, 0, 2, 0, 0, 0, 0⟩, ⟨2, 0, 0, 0, 0, 1, 0⟩, ⟨1, 0, 2, 0, 0, 2, 0⟩]
theorem tW_E : sizeE tW = 0 := by rfl
theorem tW_L : makeL tW = wantW := by rfl
theorem tW_S : makeS tW = 3 := by rfl
theorem t9_E : sizeE t9 = 107 := by rfl

theorem nodeAt_leaf (w : World) (ok : Nat → Prop) (t : T) (h : t.ps = []) : NodeAt w ok t none 0 :=
  .mk t none 0 (fun _ => none) (fun _ => 0) (by simp [h]) (by simp [h]) (fun e => absurd h e) (fun i p hi => by simp [h] at hi)
theorem sameM_self (l : List St) (s : Int) : sameM l s l s = true := by simp [sameM]
theorem mcheck_W : mcheck wantW 3 = 0 := by rfl
theorem mcheck_nil : mcheck [] 0 = 110 := by rfl

end Go.Proofs.YtdpmbanfaigmcaaDoor

/- The law NfaMakes: walked. (Printed by wip/genmakes.py.) -/
set_option linter.unusedVariables false
set_option linter.unusedSimpArgs false
namespace Go.Proofs.YtdpmbanfaigmcaaDoor
open Go.RowKit

theorem At8.later {w w' : World} {B b o : Nat} {t : T} {A : Option Addr} {c : Nat} (h : At8 w b o t A c) (hb : Below B w w') (hlt : b < B) : At8 w' b o t A c :=
  h.mono fun o => hb.cell (p := ⟨b, o, none⟩) hlt
/-- A machine's two cells. -/
structure At2 (w : World) (b : Nat) (v : Value) (s : Int) : Prop where
  f0 : w.cell? ⟨b, 0, none⟩ = some v
  f1 : w.cell? ⟨b, 1, none⟩ = some (.int .i64 s)
theorem At2.later {w w' : World} {B b : Nat} {v : Value} {s : Int} (h : At2 w b v s) (hb : Below B w w') (hlt : b < B) : At2 w' b v s :=
  ⟨(hb.cell (p := ⟨b, 0, none⟩) hlt).trans h.f0, (hb.cell (p := ⟨b, 1, none⟩) hlt).trans h.f1⟩
theorem own_later {w w' : World} {base n : Nat} {v : Value} {xs : List Value} (h : w.ownsRow base 90 7 v n xs) (hb : Below w.heap.size w w') : w'.ownsRow base 90 7 v n xs :=
  h.kept (row := none) ⟨hb.os, hb.tape, hb.output, hb.size, fun k hk _ => hb.block k hk⟩ (by cases hv : v.ownBlock <;> simp)
theorem own_form {w : World} {base n : Nat} {v : Value} {xs : List Value} (h : w.ownsRow base 90 7 v n xs) : ∃ A c, v = .slice A n c := by
  rcases h.2 with ⟨rfl, h0⟩ | ⟨g, cap, cur, rfl, _⟩
  · exact ⟨none, 0, by rw [h0]⟩
  · exact ⟨_, cap, rfl⟩

theorem sts_all {w : World} {base : Nat} {l : List St} {A : Option Addr} {c : Nat} (h : w.ownsRow base 90 7 (.slice A l.length c) l.length (stCells l)) (hl : l.length ≤ 4096) : StsAt w (fun b => b < w.heap.size) l A c :=
  (stsAt_own h (by omega)).mono fun b hb => ⟨hb.2, fun _ => rfl⟩
theorem Spoils.cell {r : Option Nat} {w w' : World} (h : Spoils r w w') {b o : Nat} (h0 : b < w.heap.size) (h1 : some b ≠ r) : w'.cell? ⟨b, o, none⟩ = w.cell? ⟨b, o, none⟩ := World.cell?_of_block (w := w) (h.block b h0 h1)
theorem Spoils.own {r : Option Nat} {w w' : World} (h : Spoils r w w') {base n : Nat} {v : Value} {xs : List Value} (ho : w.ownsRow base 90 7 v n xs) (hne : ∀ k, v.ownBlock = some k → some k ≠ r) : w'.ownsRow base 90 7 v n xs :=
  ho.kept (row := r) ⟨h.os, h.tape, h.output, h.size, h.block⟩ (by
    cases hv : v.ownBlock with
    | none => exact .inl rfl
    | some k => exact .inr (hne k hv))

end Go.Proofs.YtdpmbanfaigmcaaDoor

/- match.Has: walked. -/
set_option linter.unusedVariables false
set_option linter.unusedSimpArgs false
namespace Go.Proofs.YtdpmbanfaigmcaaDoor
open Go.RowKit

theorem Tryd.infoBool : (Tryd.prog.info? 4).map (fun i => (i.zero, i.size, i.bytes)) = some (some (.bool false), 1, 1) := by kernel_rfl

theorem hr_start (w1 : World) (l : List St) (sa : Int) (A : Option Addr) (c i j : Nat) (hij : (i = w1.heap.size ∧ j = w1.heap.size + 1) ∨ (i = w1.heap.size + 1 ∧ j = w1.heap.size)) :
    (fun W => HR W w1.heap.size (w1.heap.size + 2) i j l sa A c false false [] 0 none 0 [] 0 none 0 ∧ Below w1.heap.size w1 W) ((((w1.alloc (.cells (madeCells #[.bool false] l.length) 4)).alloc (.cells (madeCells #[.bool false] l.length) 4)).alloc (.cells #[.slice A l.length c, .int .i64 sa, .slice none 0 0, .slice (some ⟨i, 0, none⟩) l.length l.length, .slice none 0 0, .slice (some ⟨j, 0, none⟩) l.length l.length, .bool false, .bool false] 87)).drew) := by
  have hM : ∀ i, i < l.length → (madeCells #[.bool false] l.length)[i]? = some (.bool false) := fun i hi => by
    rw [← Array.getElem?_toList, toList_madeCells_one]
    simp [hi]
  generalize madeCells #[.bool false] l.length = M at *
  generalize hW : World.drew _ = W
  have hb : Below w1.heap.size w1 W := by
    subst hW
    exact ((((Below.refl w1.heap.size w1).alloc (Nat.le_refl _) _).alloc (by simp) _).alloc (by simp; omega) _).drew
  have hz : W.heap.size = w1.heap.size + 3 := by subst hW; simp
  generalize hR : (#[.slice A l.length c, .int .i64 sa, .slice none 0 0, .slice (some ⟨i, 0, none⟩) l.length l.length, .slice none 0 0, .slice (some ⟨j, 0, none⟩) l.length l.length, .bool false, .bool false] : Array Value) = R at *
  have k0 : W.heap[w1.heap.size]? = some (.cells M 4) := by
    subst hW
    show (((w1.heap.push _).push _).push _)[_]? = _
    simp [Array.getElem?_push] <;> omega
  have k1 : W.heap[w1.heap.size + 1]? = some (.cells M 4) := by
    subst hW
    show (((w1.heap.push _).push _).push _)[_]? = _
    rw [Array.getElem?_push, if_neg (by simp), Array.getElem?_push, if_pos (by simp)]
  have k2 : W.heap[w1.heap.size + 2]? = some (.cells R 87) := by
    subst hW
    show (((w1.heap.push _).push _).push _)[_]? = _
    rw [Array.getElem?_push, if_pos (by simp)]
  have hcT : ∀ k o, k = w1.heap.size ∨ k = w1.heap.size + 1 → o < l.length → W.cell? ⟨k, o, none⟩ = some (.bool false) := fun k o hk ho => by
    rcases hk with rfl | rfl
    · unfold World.cell?; simp only [k0]; exact hM o ho
    · unfold World.cell?; simp only [k1]; exact hM o ho
  have hfT : ∀ k o, k = w1.heap.size ∨ k = w1.heap.size + 1 ∨ k = w1.heap.size + 2 → W.frozen? ⟨k, o, none⟩ = false := fun k o hk => by
    rcases hk with rfl | rfl | rfl
    · unfold World.frozen?; simp [k0]
    · unfold World.frozen?; simp [k1]
    · unfold World.frozen?; simp [k2]
  have hq : ∀ o, W.cell? ⟨w1.heap.size + 2, o, none⟩ = R[o]? := fun o => by
    unfold World.cell?; simp [k2]
  have hi : i = w1.heap.size ∨ i = w1.heap.size + 1 := by omega
  have hj : j = w1.heap.size ∨ j = w1.heap.size + 1 := by omega
  subst hR
  have hrow : W.ownsRow w1.heap.size 3 1 (.slice none 0 0) 0 (ints []) := ⟨rfl, .inl ⟨rfl, rfl⟩⟩
  exact ⟨⟨hq 0, hq 6, hq 7, fun o => hfT _ o (by omega), ⟨rfl, hq 2, hq 3, hrow, fun o ho => (hcT i o hi ho).trans (by simp), fun o => hfT i o (by omega), by omega, by omega, by simp [Value.ownBlock], by simp [Value.ownBlock], by simp, List.nodup_nil⟩, ⟨rfl, hq 4, hq 5, hfT _ 4 (by omega), hrow, fun o ho => (hcT j o hj ho).trans (by simp), fun o => hfT j o (by omega), by omega, by omega, by omega, by simp [Value.ownBlock], by simp [Value.ownBlock], by simp, List.nodup_nil, by omega⟩, by omega, by simp [Value.ownBlock], by simp [Value.ownBlock], .inl rfl, by omega, by omega, by omega⟩, hb⟩
theorem hr_swapped {w : World} {B q T1 T2 : Nat} {l : List St} {sa : Int} {Am : Option Addr} {cm : Nat} {b e : Bool} {X Y : List Nat} {n m : Nat} {A A2 : Option Addr} {c c2 : Nat} (h : HR w B q T1 T2 l sa Am cm b e X n A c Y m A2 c2) :
    (fun W => HR W B q T2 T1 l sa Am cm b e Y m A2 c2 X n A c ∧ ∀ S, S ≤ q → Below S w W) ((((w.setCell ⟨q, 2, none⟩ (.slice A2 m c2)).setCell ⟨q, 3, none⟩ (.slice (some ⟨T2, 0, none⟩) l.length l.length)).setCell ⟨q, 4, none⟩ (.slice A n c)).setCell ⟨q, 5, none⟩ (.slice (some ⟨T1, 0, none⟩) l.length l.length)).drew := by
  generalize hW1 : w.setCell ⟨q, 2, none⟩ (.slice A2 m c2) = W1
  generalize hW2 : W1.setCell ⟨q, 3, none⟩ (.slice (some ⟨T2, 0, none⟩) l.length l.length) = W2
  generalize hW3 : W2.setCell ⟨q, 4, none⟩ (.slice A n c) = W3
  have c1 : ∀ o, o ≠ 2 → W1.cell? ⟨q, o, none⟩ = w.cell? ⟨q, o, none⟩ := fun o ho => by subst hW1; exact World.cell?_setCell_other _ _ _ _ (by simp <;> omega)
  have c2' : ∀ o, o ≠ 3 → W2.cell? ⟨q, o, none⟩ = W1.cell? ⟨q, o, none⟩ := fun o ho => by subst hW2; exact World.cell?_setCell_other _ _ _ _ (by simp <;> omega)
  have c3 : ∀ o, o ≠ 4 → W3.cell? ⟨q, o, none⟩ = W2.cell? ⟨q, o, none⟩ := fun o ho => by subst hW3; exact World.cell?_setCell_other _ _ _ _ (by simp <;> omega)
  have c4 : ∀ o, o ≠ 5 → (W3.setCell ⟨q, 5, none⟩ (.slice (some ⟨T1, 0, none⟩) l.length l.length)).drew.cell? ⟨q, o, none⟩ = W3.cell? ⟨q, o, none⟩ := fun o ho => by
    rw [World.cell?_drew]; exact World.cell?_setCell_other _ _ _ _ (by simp <;> omega)
  have d1 : W1.cell? ⟨q, 2, none⟩ = some (.slice A2 m c2) := by subst hW1; exact World.cell?_setCell_same _ _ _ h.now.f2
  have d2 : W2.cell? ⟨q, 3, none⟩ = some (.slice (some ⟨T2, 0, none⟩) l.length l.length) := by subst hW2; exact World.cell?_setCell_same _ _ _ ((c1 3 (by omega)).trans h.now.f3)
  have d3 : W3.cell? ⟨q, 4, none⟩ = some (.slice A n c) := by subst hW3; exact World.cell?_setCell_same _ _ _ ((c2' 4 (by omega)).trans ((c1 4 (by omega)).trans h.next.f4))
  have d4 : (W3.setCell ⟨q, 5, none⟩ (.slice (some ⟨T1, 0, none⟩) l.length l.length)).drew.cell? ⟨q, 5, none⟩ = some (.slice (some ⟨T1, 0, none⟩) l.length l.length) := by
    rw [World.cell?_drew]; exact World.cell?_setCell_same _ _ _ ((c3 5 (by omega)).trans ((c2' 5 (by omega)).trans ((c1 5 (by omega)).trans h.next.f5)))
  have hall : ∀ o, o ≠ 2 → o ≠ 3 → o ≠ 4 → o ≠ 5 → (W3.setCell ⟨q, 5, none⟩ (.slice (some ⟨T1, 0, none⟩) l.length l.length)).drew.cell? ⟨q, o, none⟩ = w.cell? ⟨q, o, none⟩ := fun o h2 h3 h4 h5 => (c4 o h5).trans ((c3 o h4).trans ((c2' o h3).trans (c1 o h2)))
  have hk : ∀ k, k ≠ q → (W3.setCell ⟨q, 5, none⟩ (.slice (some ⟨T1, 0, none⟩) l.length l.length)).drew.heap[k]? = w.heap[k]? := fun k hk => by
    subst hW3 hW2 hW1
    exact (Below.heap_setCell _ _ _ _ hk).trans ((Below.heap_setCell _ _ _ _ hk).trans ((Below.heap_setCell _ _ _ _ hk).trans (Below.heap_setCell _ _ _ _ hk)))
  have hz : (W3.setCell ⟨q, 5, none⟩ (.slice (some ⟨T1, 0, none⟩) l.length l.length)).drew.heap.size = w.heap.size := by subst hW3 hW2 hW1; simp
  have hos : (W3.setCell ⟨q, 5, none⟩ (.slice (some ⟨T1, 0, none⟩) l.length l.length)).drew.os = w.os ∧ (W3.setCell ⟨q, 5, none⟩ (.slice (some ⟨T1, 0, none⟩) l.length l.length)).drew.tape = w.tape ∧ (W3.setCell ⟨q, 5, none⟩ (.slice (some ⟨T1, 0, none⟩) l.length l.length)).drew.output = w.output := by subst hW3 hW2 hW1; exact ⟨rfl, rfl, rfl⟩
  have hf : ∀ a, (W3.setCell ⟨q, 5, none⟩ (.slice (some ⟨T1, 0, none⟩) l.length l.length)).drew.frozen? a = w.frozen? a := fun a => by
    subst hW3 hW2 hW1
    rw [World.frozen?_drew, World.frozen?_setCell, World.frozen?_setCell, World.frozen?_setCell, World.frozen?_setCell]
  exact ⟨h.swap hz hos.1 hos.2.1 hos.2.2 hk hf (hall 0 (by omega) (by omega) (by omega) (by omega)) (hall 6 (by omega) (by omega) (by omega) (by omega)) (hall 7 (by omega) (by omega) (by omega) (by omega)) ((c4 2 (by omega)).trans ((c3 2 (by omega)).trans ((c2' 2 (by omega)).trans d1))) ((c4 3 (by omega)).trans ((c3 3 (by omega)).trans d2)) ((c4 4 (by omega)).trans d3) d4, fun S hS => ⟨hos.1, hos.2.1, hos.2.2, by omega, fun k hk' => hk k (by omega)⟩⟩

theorem Nw.at_ {w : World} {B q T N : Nat} {X : List Nat} {n : Nat} {A : Option Addr} {c : Nat} (h : Nw w B q T N X n A c) {i : Nat} (hi : i < n) : ∃ g, A = some ⟨g, 0, none⟩ ∧ g < w.heap.size ∧ n ≤ c ∧ w.cell? ⟨g, i, none⟩ = some (.int .i64 ((X.getD i 0 : Nat) : Int)) := by
  have hl := h.len
  rcases h.row.2 with ⟨_, h0⟩ | ⟨g, cap, cur, e, hb, hh, hcap, _⟩
  · omega
  · simp only [Value.slice.injEq] at e
    obtain ⟨rfl, _, rfl⟩ := e
    refine ⟨g, rfl, by (rcases Nat.lt_or_ge g w.heap.size with h' | h'; exact h'; rw [Array.getElem?_eq_none h'] at hh; simp at hh), hcap, ?_⟩
    rw [h.row.cellAt i (by omega)]
    simp [ints, List.getD_eq_getElem?_getD, List.getElem?_eq_getElem (show i < X.length by omega)]

theorem below_drewN (w : World) (n : Nat) : Below w.heap.size w (w.drewN n) := ⟨rfl, rfl, rfl, Nat.le_refl _, fun _ _ => rfl⟩
theorem bits_and1 (v : Int) : bits .and .u64 v 1 = v % 2 := by
  have h1 : bits .and .u64 v 1 = IntKind.u64.wrap ((((v % 2 ^ 64).toNat &&& 1 : Nat)) : Int) := by
    show IntKind.u64.wrap (((BitVec.ofInt 64 v &&& BitVec.ofInt 64 1).toNat : Nat) : Int) = _
    rw [BitVec.toNat_and, BitVec.toNat_ofInt, BitVec.toNat_ofInt]
    rfl
  rw [h1, Nat.and_one_is_mod]
  have : IntKind.u64.wrap (((v % 2 ^ 64).toNat % 2 : Nat) : Int) = (((v % 2 ^ 64).toNat % 2 : Nat) : Int) % 2 ^ 64 := by
    simp [IntKind.wrap, IntKind.bits, IntKind.signed]
  rw [this]
  omega
theorem idx_get (subj : Bs) (a : Nat) (h0 : a ≠ 0) (h : a ≤ subj.length) (hh : a - 1 < (bs subj).size) : ((bs subj)[a - 1]'hh).toNat = byteN subj a := by
  have : ∀ i (hi : i < (bs subj).size), (bs subj)[i]'hi = subj.getD i 0 := fun i hi => by
    have : i < subj.length := by simpa [bs, ByteArray.size] using hi
    simp only [List.getD_eq_getElem?_getD, List.getElem?_eq_getElem this, Option.getD_some]
    rfl
  rw [this]; rfl
theorem bit_word (c : Nat) (hc : c < 256) (sk s0 s1 s2 s3 nx ot : Int) : ∃ i r : Nat, i < 4 ∧ r < 64 ∧ IntKind.u8.wrap ((c : Int) / 64) = (i : Int) ∧ (c : Int).tmod 64 = (r : Int) ∧ bitS ⟨sk, s0, s1, s2, s3, nx, ot⟩ c = ((wordN ⟨sk, s0, s1, s2, s3, nx, ot⟩ i / 2 ^ r) % 2 == 1) := by
  refine ⟨c / 64, c % 64, by omega, by omega, ?_, ?_, rfl⟩
  · rw [IntKind.wrap_u8]; omega
  · rw [Int.tmod_eq_emod_of_nonneg (by omega)]; omega
set_option maxRecDepth 100000 in
set_option maxHeartbeats 8000000 in
theorem has_any (w : World) (ok : Nat → Prop) (l : List St) (sa : Int) (A : Option Addr) (c : Nat) (hA : StsAt w ok l A c) (hok : ∀ b, ok b → b < w.heap.size) (subj : Bs) :
    Calls Tryd.prog 29 #[nfaV l sa A c, .string (bs subj)] w fun en w' => en = .returned (.tuple #[.bool (hasF l sa subj).1, .int .i64 (hasF l sa subj).2.1, .int .i64 (hasF l sa subj).2.2]) ∧ Below w.heap.size w w' := by
  have HA := Lib.hid hA; have Hok := Lib.hid hok; clear hA hok
  go_enter Tryd.func29, Tryd.ntmps29
  go_wp2_with fail
  generalize hW : w.alloc _ = W0
  have hB0 : Below w.heap.size w W0 := by subst hW; exact (Below.refl _ _).alloc (Nat.le_refl _) _
  have hz0 : w.heap.size < W0.heap.size := by subst hW; simp
  have P0 : At2 W0 w.heap.size (.slice A l.length c) sa := by subst hW; constructor <;> simp [go_sem]
  clear hW
  obtain ⟨p0, p1⟩ := id P0
  go_step3
  go_wp2_with fail
  clear p0 p1
  refine (ncheck_any W0 ok l sa A c (HA.out.later hB0 Hok.out) (fun b h => by have := Hok.out b h; omega)).mono ?_
  rintro en w1 ⟨rfl, hb1⟩
  have hz1 := hb1.size
  have hB1 := hB0.trans (hb1.mono (by omega))
  have P1 := P0.later hb1 hz0
  clear P0 hB0
  by_cases hck : mcheck l sa = 0
  case' neg =>
    have hres : hasF l sa subj = (false, 0, mcheck l sa) := if_pos hck
    have Hres := Lib.hid hres
    have hb : (mcheck l sa != 0) = true := by rw [bne_iff_ne]; exact hck
    clear hres hck
    go_wp2_with fail
    try rw [Exit.noGoto_ret]
    exact bodyPost_ret (v := .tuple #[.bool false, .int .i64 0, .int .i64 (mcheck l sa)]) (by simp [results, Tryd.results29, go_sem]) rfl ⟨by rw [Hres.out], hB1⟩
  have hb : (mcheck l sa != 0) = false := by rw [hck]; rfl
  by_cases hlong : 65536 < subj.length
  · have hres : hasF l sa subj = (false, 0, 3) := by rw [hasF, if_neg (by simpa using hck), if_pos hlong]
    have Hres := Lib.hid hres
    clear hres hck
    go_wp2_with fail
    try rw [Exit.noGoto_ret]
    exact bodyPost_ret (v := .tuple #[.bool false, .int .i64 0, .int .i64 3]) (by simp [results, Tryd.results29, go_sem]) rfl ⟨by rw [Hres.out], hB1⟩
  have hres : hasF l sa subj = ((overF l sa subj (subj.length + 1) 0 [] 0).1, (overF l sa subj (subj.length + 1) 0 [] 0).2, 0) := by rw [hasF, if_neg (by simpa using hck), if_neg hlong]
  have Hres := Lib.hid hres
  have hm := mok_of hck
  have HM := Lib.hid hm
  have hl1 := hm.len
  have hl0 : 0 < l.length := by have := hm.start; omega
  clear hres hck hm
  have hmk := run_make_row' (P := Tryd.prog) 82 4 (.bool false) 1 Tryd.underlying82 Tryd.infoBool rfl .i64 .i64 l.length (by omega) (by omega)
  obtain ⟨p0, p1⟩ := id P1
  have hz01 : w.heap.size < w1.heap.size := by omega
  have hb0 := hB1.size
  go_upto_region 6 with fail
  go_cut [8] (fun v wx => ∃ (q T1 T2 : Nat), v = .pointer (some ⟨q, 0, none⟩) ∧ HR wx w1.heap.size q T1 T2 l sa A c false false [] 0 none 0 [] 0 none 0 ∧ Below w1.heap.size w1 wx)
  case first =>
    go_region
    all_goals go_wp2_with fail
    all_goals go_meet
    all_goals first
      | exact ⟨_, _, _, rfl, hr_start w1 l sa A c w1.heap.size (w1.heap.size + 1) (.inl ⟨rfl, rfl⟩)⟩
      | exact ⟨_, _, _, rfl, hr_start w1 l sa A c (w1.heap.size + 1) w1.heap.size (.inr ⟨rfl, rfl⟩)⟩
  case rest =>
    obtain ⟨q, T1, T2, rfl, hH, hBc⟩ := hcut
    clear hmk p0 p1
    have HH := Lib.hid hH; clear hH
    have hzc := hBc.size
    go_wp2_with fail
    try go_step3
    go_wp2_with fail
    obtain ⟨st, rfl⟩ : ∃ st : Nat, sa = st := ⟨sa.toNat, by have := HM.out.s0; omega⟩
    have hst := HM.out.s1
    go_loopg [9, 10, 11] (subj.length + 1) (fun k v9 v10 v11 wr => ∃ (a s T1 T2 : Nat) (X : List Nat) (n : Nat) (A1 : Option Addr) (c1 : Nat) (A2 : Option Addr) (c2 : Nat) (b e : Bool), v9 = .int .i64 (s : Int) ∧ v10 = .bool false ∧ v11 = .int .i64 (a : Int) ∧ a + k = subj.length + 1 ∧ s ≤ a * 5000 ∧ overF l st subj (subj.length + 1 - a) a X s = overF l st subj (subj.length + 1) 0 [] 0 ∧ HR wr w1.heap.size q T1 T2 l st A c b e X n A1 c1 [] 0 A2 c2 ∧ (a = 0 → X = []) ∧ Below w1.heap.size w1 wr)
    case atStart => exact ⟨0, 0, T1, T2, [], 0, none, 0, none, 0, false, false, rfl, rfl, rfl, by omega, by omega, rfl, HH.out, fun _ => rfl, hBc⟩
    case round =>
      clear HH hBc hzc
      obtain ⟨a, s, T1, T2, X, n, A1, c1, A2, c2, b, e, rfl, rfl, rfl, hak, hs, hov, hH, h0, hBr⟩ := hrel
      have hzr := hBr.size
      obtain ⟨p0, p1⟩ := P1.later hBr hz01
      have Hov := Lib.hid hov; have H0 := Lib.hid h0
      clear hov h0
      by_cases hle : a ≤ subj.length
      case' pos =>
        have e3 := hH.m6; have e4 := hH.m7; have z3 := hH.z 6; have z4 := hH.z 7
        have lq := hH.next.lq
        have HH := Lib.hid hH
        clear hH
        go_upto_region 12 with fail
        have hfl := HH.out.flags ((a : Int) == 0) ((a : Int) == (subj.length : Int))
        have hbe : Below w1.heap.size wr ((wr.setCell ⟨q, 6, none⟩ (.bool ((a : Int) == 0))).setCell ⟨q, 7, none⟩ (.bool ((a : Int) == (subj.length : Int)))) := by
          have hq1 : w1.heap.size ≤ q := HH.out.Bq
          exact ⟨rfl, rfl, rfl, by simp, fun k hk => (Below.heap_setCell _ _ _ _ (by show k ≠ q; omega)).trans (Below.heap_setCell _ _ _ _ (by show k ≠ q; omega))⟩
        rw [show ((a : Int) == 0) = (a == 0) from by rw [Bool.eq_iff_iff]; simp, show ((a : Int) == (subj.length : Int)) = (a == subj.length) from by rw [Bool.eq_iff_iff]; simp <;> omega] at hfl hbe
        rw [show ((a : Int) == 0) = (a == 0) from by rw [Bool.eq_iff_iff]; simp, show ((a : Int) == (subj.length : Int)) = (a == subj.length) from by rw [Bool.eq_iff_iff]; simp <;> omega]
        have hstep : stepF l st subj a X = X.foldl (eatF l (a == 0) (a == subj.length) (byteN subj a)) (addF l (a == 0) (a == subj.length) [] st) := by rw [stepF, Int.toNat_natCast]
        have Hstep := Lib.hid hstep
        clear hstep
        generalize hW : (wr.setCell _ _).setCell _ _ = W2 at *
        generalize (a == 0) = b1 at *
        generalize (a == subj.length) = e1 at *
        have hB2 := hBr.trans hbe
        have hz2 := hB2.size
        clear hW HH e3 e4 z3 z4 hBr hbe p0 p1 hzr lq
        obtain ⟨p0, p1⟩ := P1.later hB2 hz01
        have HH := Lib.hid hfl
        clear hfl
        go_wp2_with fail
        refine (add_par W2 w1.heap.size q T2 w1.heap.size l st HM.out ok A c b1 e1 (HA.out.later (hB1.trans (hB2.mono hb0)) Hok.out) (fun k hk => by have := Hok.out k hk; omega) HH.out.Bq HH.out.BT2 (Nat.le_refl _) HH.out.m0 HH.out.m6 HH.out.m7 [] 0 A2 c2 HH.out.next st (by omega)).mono ?_
        rintro en w3 ⟨rfl, n3, A3, c3, h3, hv3⟩
        have hH3 := HH.out.step h3 hv3
        have hB3 := hB2.trans (hv3.below HH.out.Bq HH.out.BT2 (fun k hk => (HH.out.next.own_le k hk).1) hz2)
        have hz3 := hB3.size
        have f2 := hH3.now.f2
        have hnl : n ≤ l.length := by rw [← hH3.now.len]; exact nodup_le hH3.now.nd hH3.now.lt
        have HH := Lib.hid hH3
        clear hH3 h3 hv3 p0 p1 hz2
        clear hB2
        obtain ⟨p0, p1⟩ := P1.later hB3 hz01
        go_wp2_with fail
        go_loopg [66] n (fun k v w4 => ∃ (j : Nat) (Y : List Nat) (m : Nat) (A3 : Option Addr) (c3 : Nat), v = .int .i64 (j : Int) ∧ j + k = n ∧ (X.drop j).foldl (eatF l b1 e1 (byteN subj a)) Y = stepF l st subj a X ∧ HR w4 w1.heap.size q T1 T2 l st A c b1 e1 X n A1 c1 Y m A3 c3 ∧ Below w1.heap.size w1 w4)
        case atStart => exact ⟨0, _, _, _, _, rfl, by omega, by rw [Hstep.out]; rfl, HH.out, hB3⟩
        case round =>
          clear HH hB3 hz3 p0 p1
          obtain ⟨j, Y, m, A3, c3, rfl, hjn, hfo, hH, hB4⟩ := hrel
          have Hfo := Lib.hid hfo
          clear hfo
          obtain ⟨p0, p1⟩ := P1.later hB4 hz01
          have hz4 := hB4.size
          by_cases hlt : j < n
          case' pos =>
            obtain ⟨g, rfl, hg, hnc, hcell⟩ := hH.now.at_ hlt
            have hx : X.getD j 0 < l.length := hH.now.lt _ (by rw [List.getD_eq_getElem?_getD, List.getElem?_eq_getElem (by rw [hH.now.len]; exact hlt)]; exact List.getElem_mem _)
            have hXl := hH.now.len
            have hdrop : X.drop j = X.getD j 0 :: X.drop (j + 1) := by
              rw [List.drop_eq_getElem_cons (by omega), List.getD_eq_getElem?_getD, List.getElem?_eq_getElem (by omega)]; rfl
            have ha0 : a ≠ 0 := fun e => by rw [H0.out e] at hXl; simp at hXl; omega
            obtain ⟨gm, om, rfl, hgm, hst7⟩ := (HA.out.later (hB1.trans (hB4.mono hb0)) Hok.out).at_ hl0
            have hgl := Hok.out gm hgm
            have hstx := hst7 (X.getD j 0) hx
            have hsN : l[X.getD j 0] = stN l (X.getD j 0) := by unfold stN; rw [List.getD_eq_getElem?_getD (l := l), List.getElem?_eq_getElem hx]; rfl
            rw [hsN] at hstx
            have hcap := HA.out.cap
            have hfo := Hfo.out
            rw [hdrop, List.foldl_cons] at hfo
            have hnx := fun hk => HM.out.next hx hk
            have hnx2 : (stN l (X.getD j 0)).k = 1 → (stN l (X.getD j 0)).nx = ((stN l (X.getD j 0)).nx.toNat : Int) := fun hk => by rcases HM.out.kinds hx with h | ⟨_, h, _⟩ | ⟨h, _⟩ <;> omega
            have HH := Lib.hid hH; have Hfo := Lib.hid hfo
            clear hH hfo hst7 hsN hdrop hXl
            unfold eatF at Hfo
            generalize hxe : X.getD j 0 = x at *
            generalize stN l x = sx at *
            obtain ⟨sk, s0, s1, s2, s3, nx, ot⟩ := sx
            obtain ⟨f0, f1, f2, f3, f4, f5, f6⟩ := hstx
            simp only at f0 f1 f2 f3 f4 f5 f6 hnx hnx2
            have hgw : gm < wr.heap.size := by omega
            clear hxe
            have Hnx := Lib.hid hnx; have Hnx2 := Lib.hid hnx2
            clear hnx hnx2
            go_upto_region 17 with fail
            generalize hW : wr.alloc _ = W5
            have hb5 : Below wr.heap.size wr W5 := by subst hW; exact (Below.refl _ _).alloc (Nat.le_refl _) _
            have b0 : W5.cell? ⟨wr.heap.size, 0, none⟩ = some (.int .i64 sk) := by subst hW; simp [go_sem]
            have b1' : W5.cell? ⟨wr.heap.size, 1, none⟩ = some (.int .u64 s0) := by subst hW; simp [go_sem]
            have b2 : W5.cell? ⟨wr.heap.size, 2, none⟩ = some (.int .u64 s1) := by subst hW; simp [go_sem]
            have b3 : W5.cell? ⟨wr.heap.size, 3, none⟩ = some (.int .u64 s2) := by subst hW; simp [go_sem]
            have b4 : W5.cell? ⟨wr.heap.size, 4, none⟩ = some (.int .u64 s3) := by subst hW; simp [go_sem]
            have b5 : W5.cell? ⟨wr.heap.size, 5, none⟩ = some (.int .i64 nx) := by subst hW; simp [go_sem]
            have lb : wr.heap.size < W5.heap.size := by subst hW; simp
            have hH5 := HH.out.later hb5
            have hB5 := hB4.trans (hb5.mono hz4)
            clear hW hb5 f0 f1 f2 f3 f4 f5 f6 p0 p1 HH hB4
            obtain ⟨p0, p1⟩ := P1.later hB5 hz01
            have HH := Lib.hid hH5
            clear hH5
            by_cases hk : sk = 1
            case' neg =>
              have ht : takes ⟨sk, s0, s1, s2, s3, nx, ot⟩ (byteN subj a) = false := by
                have : (sk == 1) = false := by simpa using hk
                unfold takes; rw [show (⟨sk, s0, s1, s2, s3, nx, ot⟩ : St).k = sk from rfl, this]; rfl
              have hfo : (X.drop (j + 1)).foldl (eatF l b1 e1 (byteN subj a)) Y = stepF l st subj a X := by
                have := Hfo.out
                rwa [if_neg (by rw [ht]; simp)] at this
              clear Hfo
              have Hfo := Lib.hid hfo
              clear hfo ht
              have hkb : (sk == 1) = false := by simpa using hk
              clear hk
              go_quiet (fail)
              go_wp2_with fail
              go_roundg (gk - 1)
              case measure => omega
              case rel => exact ⟨j + 1, _, _, _, _, by go_num, by omega, Hfo.out, HH.out.later (below_drewN _ _), hB5.trans ((below_drewN _ _).mono (by omega))⟩
            case' pos =>
              subst hk
              have hidx : ∀ hh, ((bs subj)[a - 1]'hh).toNat = byteN subj a := idx_get subj a ha0 hle
              have ha5 : (1 : Int) ≤ (a : Int) := by omega
              have hcl : byteN subj a < 256 := by unfold byteN; exact UInt8.toNat_lt _
              obtain ⟨wi, wr', hi4, hr64, hqu, hre, hbw⟩ := bit_word (byteN subj a) hcl 1 s0 s1 s2 s3 nx ot
              have htk : takes ⟨1, s0, s1, s2, s3, nx, ot⟩ (byteN subj a) = bitS ⟨1, s0, s1, s2, s3, nx, ot⟩ (byteN subj a) := rfl
              have hfo := Hfo.out
              rw [htk, hbw] at hfo
              clear Hfo
              have Hfo := Lib.hid hfo
              clear hfo htk hbw
              generalize hword : wordN ⟨1, s0, s1, s2, s3, nx, ot⟩ wi = wd at *
              have bw : W5.cell? ⟨wr.heap.size, 1 + wi, none⟩ = some (.int .u64 wd) := by
                subst hword
                rcases (by omega : wi = 0 ∨ wi = 1 ∨ wi = 2 ∨ wi = 3) with rfl | rfl | rfl | rfl
                · exact b1'
                · exact b2
                · exact b3
                · exact b4
              clear hword b1' b2 b3 b4
              have hand := bits_and1 (wd / 2 ^ wr')
              have ha1 : 0 ≤ (a : Int) - 1 := by omega
              have ha2 : (a : Int) - 1 < (subj.length : Int) := by omega
              have ha3 : (bs subj).size = subj.length := by simp [bs, ByteArray.size]
              have hwr : IntKind.i64.wrap ((a : Int) - 1) = (a : Int) - 1 := IntWalk.i64_in _ (by omega)
              by_cases hbit : wd / 2 ^ wr' % 2 = 1
              case' neg =>
                have hbb : (wd / 2 ^ wr' % 2 == 1) = false := by simpa using hbit
                have hfo : (X.drop (j + 1)).foldl (eatF l b1 e1 (byteN subj a)) Y = stepF l st subj a X := by
                  have := Hfo.out
                  rwa [if_neg (by rw [hbb]; simp)] at this
                clear Hfo
                have Hfo := Lib.hid hfo
                clear hfo
                go_quiet (fail)
                go_wp2_with fail
                go_roundg (gk - 1)
                case measure => omega
                case rel => exact ⟨j + 1, _, _, _, _, by go_num, by omega, Hfo.out, HH.out.later (below_drewN _ _), hB5.trans ((below_drewN _ _).mono (by omega))⟩
              case' pos =>
                have hbb : (wd / 2 ^ wr' % 2 == 1) = true := by simpa using hbit
                have hfo : (X.drop (j + 1)).foldl (eatF l b1 e1 (byteN subj a)) (addF l b1 e1 Y nx.toNat) = stepF l st subj a X := by
                  have := Hfo.out
                  rwa [if_pos (by rw [hbb])] at this
                clear Hfo
                have Hfo := Lib.hid hfo
                clear hfo
                have hn1 := Hnx.out rfl
                go_quiet (fail)
                obtain ⟨xn, rfl⟩ : ∃ xn : Nat, nx = xn := ⟨nx.toNat, Hnx2.out rfl⟩
                have Hb5 := Lib.hid b5
                clear hbit hbb hand hwr ha1 ha2 ha3 ha5 hidx hqu hre bw
                go_wp2_with fail
                refine (add_par (W5.drewN nq) w1.heap.size q T2 w1.heap.size l st HM.out ok (some ⟨gm, om, none⟩) c b1 e1 (HA.out.later (hB1.trans ((hB5.trans ((below_drewN _ _).mono (by omega))).mono hb0)) Hok.out) (fun k hk => by have := Hok.out k hk; omega) HH.out.Bq HH.out.BT2 (Nat.le_refl _) HH.out.m0 HH.out.m6 HH.out.m7 Y m A3 c3 (HH.out.later (below_drewN _ _)).next xn (by simpa using hn1)).mono ?_
                rintro en w6 ⟨rfl, n6, A6, c6, h6, hv6⟩
                have hH6 := (HH.out.later (below_drewN W5 nq)).step h6 hv6
                have hB6 := (hB5.trans ((below_drewN W5 nq).mono (by omega))).trans (hv6.below HH.out.Bq HH.out.BT2 (fun k hk => (HH.out.next.own_le k hk).1) (by show _ ≤ W5.heap.size; omega))
                have HH := Lib.hid hH6
                clear hH6 h6 hv6
                go_wp2_with fail
                go_roundg (gk - 1)
                case measure => omega
                case rel => exact ⟨j + 1, _, _, _, _, by go_num, by omega, by simpa using Hfo.out, HH.out, hB6⟩
          case' neg =>
            have hYs : Y = stepF l st subj a X := by
              rw [← Hfo.out, List.drop_eq_nil_of_le (by rw [hH.now.len]; omega)]; rfl
            have hml : m ≤ l.length := by rw [← hH.next.len]; exact nodup_le hH.next.nd hH.next.lt
            have hYm := hH.next.len
            have f4 := hH.next.f4
            have hover : overF l st subj (subj.length + 1 - a) a X s = if doneF l Y = true then (true, (s : Int) + m) else overF l st subj (subj.length - a) (a + 1) Y ((s : Int) + m) := by
              rw [show subj.length + 1 - a = (subj.length - a) + 1 by omega, overF, ← hYs, hYm]
            have hov := Hov.out
            rw [hover] at hov
            have HH := Lib.hid hH; have Hov := Lib.hid hov; have HYs := Lib.hid hYs
            have hs2 : s + m ≤ (a + 1) * 5000 := by omega
            have HYm := Lib.hid hYm
            clear hH hov hYs hover hYm Hstep Hfo
            go_wp2_with fail
            generalize hwr : wr = wv at *
            go_loopg [10, 115] m (fun k v10 v wq => ∃ i : Nat, v10 = .bool false ∧ v = .int .i64 (i : Int) ∧ i + k = m ∧ wq = wv ∧ ∀ p, p < i → (stN l (Y.getD p 0)).k ≠ 5)
            case atStart => exact ⟨0, rfl, rfl, by omega, rfl, fun _ h => by omega⟩
            case round =>
              obtain ⟨i, rfl, rfl, him, rfl, hno⟩ := hrel
              have Hno := Lib.hid hno
              clear hno
              by_cases hlt2 : i < m
              case' pos =>
                obtain ⟨g, rfl, hg, hnc, hcell⟩ := HH.out.next.at_ hlt2
                have hx : Y.getD i 0 < l.length := HH.out.next.lt _ (by rw [List.getD_eq_getElem?_getD, List.getElem?_eq_getElem (by rw [HH.out.next.len]; exact hlt2)]; exact List.getElem_mem _)
                obtain ⟨gm, om, rfl, hgm, hst7⟩ := (HA.out.later (hB1.trans (hB4.mono hb0)) Hok.out).at_ hl0
                have hgl := Hok.out gm hgm
                have hstx := hst7 (Y.getD i 0) hx
                have hsN : l[Y.getD i 0] = stN l (Y.getD i 0) := by unfold stN; rw [List.getD_eq_getElem?_getD (l := l), List.getElem?_eq_getElem hx]; rfl
                rw [hsN] at hstx
                have hcap := HA.out.cap
                have f0 := hstx.f0
                clear hst7 hsN hstx
                generalize hxe : Y.getD i 0 = x at *
                have Hxe := Lib.hid hxe
                clear hxe
                by_cases hk5 : (stN l x).k = 5
                case' pos =>
                  have hdone : doneF l Y = true := by
                    unfold doneF
                    rw [List.any_eq_true]
                    have hil : i < Y.length := by rw [HH.out.next.len]; exact hlt2
                    refine ⟨Y[i], List.getElem_mem _, ?_⟩
                    rw [← Hxe.out, List.getD_eq_getElem?_getD, List.getElem?_eq_getElem hil] at hk5
                    simpa using hk5
                  have hov := Hov.out
                  rw [if_pos hdone] at hov
                  have Hov := Lib.hid hov
                  rw [hk5] at f0
                  clear hov hdone hk5
                  go_wp2_with fail
                  rw [Exit.noGoto_ret]
                  exact bodyPost_ret (v := .tuple #[.bool true, .int .i64 ((s : Int) + m), .int .i64 0]) (by simp [results, Tryd.results29, go_sem]) rfl ⟨by rw [Hres.out, ← Hov.out], hB1.trans (hB4.mono hb0)⟩
                case' neg =>
                  have hk5b : ((stN l x).k == 5) = false := by simpa using hk5
                  have Hk5 := Lib.hid hk5
                  clear hk5
                  go_wp2_with fail
                  go_roundg (gk - 1)
                  case measure => omega
                  case rel => exact ⟨i + 1, rfl, by go_num, by omega, rfl, fun p hp => by (by_cases e9 : p = i; (subst e9; rw [Hxe.out]; exact Hk5.out); exact Hno.out p (by omega))⟩
              case' neg =>
                have hdone : doneF l Y = false := by
                  unfold doneF
                  rw [List.any_eq_false]
                  intro y hy
                  obtain ⟨p, hp, rfl⟩ := List.getElem_of_mem hy
                  have := Hno.out p (by rw [← HYm.out] at hlt2; omega)
                  rw [List.getD_eq_getElem?_getD, List.getElem?_eq_getElem hp] at this
                  simpa using this
                have hov := Hov.out
                rw [if_neg (by rw [hdone]; simp)] at hov
                clear Hov
                have Hov := Lib.hid hov
                clear hov hdone
                have f2 := HH.out.now.f2; have f3 := HH.out.now.f3; have f4 := HH.out.next.f4; have f5 := HH.out.next.f5
                have z2 := HH.out.z 2; have z3 := HH.out.z 3; have z4 := HH.out.z 4; have z5 := HH.out.z 5
                have lq := HH.out.next.lq
                go_upto_region 27 with fail
                go_cut [8] (fun v wx => v = .pointer (some ⟨q, 0, none⟩) ∧ HR wx w1.heap.size q T2 T1 l st A c b1 e1 Y m A3 c3 X n A1 c1 ∧ Below w1.heap.size w1 wx)
                case first =>
                  go_region
                  all_goals go_wp2_with fail
                  all_goals go_meet
                  all_goals exact ⟨rfl, (hr_swapped HH.out).1, hB4.trans ((hr_swapped HH.out).2 _ HH.out.Bq)⟩
                case rest =>
                  obtain ⟨rfl, hH, hBc⟩ := hcut
                  clear f2 f3 f4 f5 z2 z3 z4 z5 lq
                  have HH := Lib.hid hH
                  clear hH
                  have hzc := hBc.size
                  go_wp2_with fail
                  refine (empty_any wc w1.heap.size q T1 l.length X n A1 c1 HH.out.next hl0 (by omega)).mono ?_
                  rintro en w7 ⟨rfl, h7, hv7⟩
                  have hH7 := HH.out.step h7 hv7
                  have hB7 := hBc.trans (hv7.below HH.out.Bq HH.out.BT2 (fun k hk => (HH.out.next.own_le k hk).1) hzc)
                  clear HH
                  have HH := Lib.hid hH7
                  clear hH7 h7 hv7
                  go_wp2_with fail
                  go_roundg (subj.length - a)
                  case measure => omega
                  case rel => exact ⟨a + 1, s + m, T2, T1, Y, m, A3, c3, A1, c1, b1, e1, by go_num, rfl, by go_num, by omega, hs2, by rw [show subj.length + 1 - (a + 1) = subj.length - a by omega]; exact Hov.out, HH.out, fun h => by omega, hB7⟩
      case' neg =>
        have hae : a = subj.length + 1 := by omega
        have hov := Hov.out
        rw [show subj.length + 1 - a = 0 by omega, overF] at hov
        have Hov := Lib.hid hov
        clear hov hH hae
        go_wp2_with fail
        rw [Exit.noGoto_ret]
        exact bodyPost_ret (v := .tuple #[.bool false, .int .i64 (s : Int), .int .i64 0]) (by simp [results, Tryd.results29, go_sem]) rfl ⟨by rw [Hres.out, ← Hov.out], hB1.trans (hBr.mono hb0)⟩
end Go.Proofs.YtdpmbanfaigmcaaDoor

/- match.Compile, match.Find: walked. -/
set_option linter.unusedVariables false
set_option linter.unusedSimpArgs false
namespace Go.Proofs.YtdpmbanfaigmcaaDoor
open Go.RowKit

def compE (s : Bs) : Int := match parseP s with | .error e => e | .ok t => sizeE t
def compL (s : Bs) : List St := match parseP s with | .error _ => [] | .ok t => makeL t
def compS (s : Bs) : Int := match parseP s with | .error _ => 0 | .ok t => makeS t
/-- match.Find: found?, steps, error. -/
def findF (s subj : Bs) : Bool × Int × Int := if compE s ≠ 0 then (false, 0, compE s) else hasF (compL s) (compS s) subj

/-- Two cells written. -/
theorem two_set {w1 W : World} {b : Nat} {u0 u1 : Value} (v0 v1 : Value) (h0 : w1.cell? ⟨b, 0, none⟩ = some u0) (h1 : w1.cell? ⟨b, 1, none⟩ = some u1) (hW : W = (w1.setCell ⟨b, 0, none⟩ v0).setCell ⟨b, 1, none⟩ v1) :
    W.cell? ⟨b, 0, none⟩ = some v0 ∧ W.cell? ⟨b, 1, none⟩ = some v1 ∧ W.heap.size = w1.heap.size ∧ (∀ k, k ≠ b → W.heap[k]? = w1.heap[k]?) ∧ ∀ B w, B ≤ b → Below B w w1 → Below B w W := by
  subst hW
  refine ⟨?_, World.cell?_setCell_same _ _ _ (by rw [World.cell?_setCell_other (h := by simp)]; exact h1), by simp, fun k hk => ?_, fun B w hB hb => (hb.setCell (by simpa using hB) _).setCell (by simpa using hB) _⟩
  · rw [World.cell?_setCell_other (h := by simp)]
    exact World.cell?_setCell_same _ _ _ h0
  · rw [Below.heap_setCell _ _ _ _ hk, Below.heap_setCell _ _ _ _ hk]
set_option maxRecDepth 100000 in
set_option maxHeartbeats 4000000 in
theorem comp_any (s : Bs) (w : World) (hM : MaxOk w) (hB : 91 ∈ s → BrC) (hD : 46 ∈ s → DotC) :
    Calls Tryd.prog 28 #[.string (bs s)] w fun en w' => ∃ A c, en = .returned (.tuple #[nfaV (compL s) (compS s) A c, .int .i64 (compE s)]) ∧ w'.ownsRow w.heap.size 90 7 (.slice A (compL s).length c) (compL s).length (stCells (compL s)) ∧ Below w.heap.size w w' := by
  have HB := Lib.hid hB; have HD := Lib.hid hD; clear hB hD
  go_enter Tryd.func28, Tryd.ntmps28
  go_wp2_with fail
  generalize hW : w.alloc _ = W0
  have hB0 : Below w.heap.size w W0 := by subst hW; exact (Below.refl _ _).alloc (Nat.le_refl _) _
  have hz0 : w.heap.size < W0.heap.size := by subst hW; simp
  have P0 : At2 W0 w.heap.size (.slice none 0 0) 0 := by subst hW; constructor <;> simp [go_sem]
  have y0 : ∀ o, W0.frozen? ⟨w.heap.size, o, none⟩ = false := fun o => by subst hW; simp [go_sem]
  clear hW
  refine (parse_par s W0 (hM.later hB0) HB.out HD.out).mono ?_
  rintro en w1 ⟨hb1, ⟨t, A, c, hp, rfl, hN⟩ | ⟨e, hp, he, rfl⟩⟩
  case inr =>
    have hz1 := hb1.size
    have P1 := P0.later hb1 hz0
    have y1 : ∀ o, w1.frozen? ⟨w.heap.size, o, none⟩ = false := fun o => (hb1.frozen (p := ⟨w.heap.size, o, none⟩) hz0).trans (y0 o)
    have hB1 := hB0.trans (hb1.mono (by omega))
    have hE : compE s = e := by unfold compE; rw [hp]
    have hL : compL s = [] := by unfold compL; rw [hp]
    have hS : compS s = 0 := by unfold compS; rw [hp]
    have HE := Lib.hid hE; have HL := Lib.hid hL; have HS := Lib.hid hS
    have heb : (e != 0) = true := by simpa using he
    obtain ⟨p0, p1⟩ := P1
    have q0 := y1 0; have q1 := y1 1
    have lq : w.heap.size < w1.heap.size := by omega
    clear hE hL hS hp he P0 y0 y1 hb1
    go_wp2_with fail
    generalize hW2 : (w1.setCell _ _).setCell _ _ = W2
    obtain ⟨r0, r1, hs2, hk2, hb2⟩ := two_set _ _ p0 p1 hW2.symm
    have hB2 := hb2 _ _ (Nat.le_refl _) hB1
    have lq2 : w.heap.size < W2.heap.size := by omega
    clear hW2 hk2
    have r0' := (((Below.refl W2.heap.size W2).alloc (Nat.le_refl _) (.cells #[.int .i64 none0.k, .int .u64 none0.s0, .int .u64 none0.s1, .int .u64 none0.s2, .int .u64 none0.s3, .int .i64 none0.mn, .int .i64 none0.mx, .slice none none0.ps.length 0] 27)).cell (p := ⟨w.heap.size, 0, none⟩) lq2).trans r0
    have r1' := (((Below.refl W2.heap.size W2).alloc (Nat.le_refl _) (.cells #[.int .i64 none0.k, .int .u64 none0.s0, .int .u64 none0.s1, .int .u64 none0.s2, .int .u64 none0.s3, .int .i64 none0.mn, .int .i64 none0.mx, .slice none none0.ps.length 0] 27)).cell (p := ⟨w.heap.size, 1, none⟩) lq2).trans r1
    have hB3 := hB2.trans (((Below.refl W2.heap.size W2).alloc (Nat.le_refl _) (.cells #[.int .i64 none0.k, .int .u64 none0.s0, .int .u64 none0.s1, .int .u64 none0.s2, .int .u64 none0.s3, .int .i64 none0.mn, .int .i64 none0.mx, .slice none none0.ps.length 0] 27)).mono (by omega))
    generalize hW3 : W2.alloc _ = W3 at *
    refine bodyPost_ret (v := .tuple #[.agg #[.slice none 0 0, .int .i64 0], .int .i64 e]) (by simp [results, Tryd.results28, r0', r1', go_sem]) rfl ⟨none, 0, by rw [HE.out, HL.out, HS.out]; rfl, ?_, hB3⟩
    rw [HL.out]; exact ⟨rfl, .inl ⟨rfl, rfl⟩⟩
  case inl =>
    have hz1 := hb1.size
    have P1 := P0.later hb1 hz0
    have y1 : ∀ o, w1.frozen? ⟨w.heap.size, o, none⟩ = false := fun o => (hb1.frozen (p := ⟨w.heap.size, o, none⟩) hz0).trans (y0 o)
    have hB1 := hB0.trans (hb1.mono (by omega))
    have hE : compE s = sizeE t := by unfold compE; rw [hp]
    have hL : compL s = makeL t := by unfold compL; rw [hp]
    have hS : compS s = makeS t := by unfold compS; rw [hp]
    have HE := Lib.hid hE; have HL := Lib.hid hL; have HS := Lib.hid hS
    have HN := Lib.hid hN
    have lq : w.heap.size < w1.heap.size := by omega
    clear hE hL hS hp P0 y0 hN
    go_wp2_with fail
    generalize hW2 : w1.alloc _ = W2
    have hb2 : Below w1.heap.size w1 W2 := by subst hW2; exact (Below.refl _ _).alloc (Nat.le_refl _) _
    have hN2 := HN.out.later hb2 (fun b hb => hb.2)
    have P2 := P1.later hb2 lq
    have y2 : ∀ o, W2.frozen? ⟨w.heap.size, o, none⟩ = false := fun o => (hb2.frozen (p := ⟨w.heap.size, o, none⟩) lq).trans (y1 o)
    have hz2 := hb2.size
    have hB2 := hB1.trans (hb2.mono (by omega))
    clear hW2 P1 y1
    refine (make_any t W2 _ A c hN2 (fun b hb => by omega)).mono ?_
    rintro en w3 ⟨v, rfl, ho3, hb3⟩
    obtain ⟨A3, c3, rfl⟩ := own_form ho3
    have P3 := P2.later hb3 (by omega)
    have y3 : ∀ o, w3.frozen? ⟨w.heap.size, o, none⟩ = false := fun o => (hb3.frozen (p := ⟨w.heap.size, o, none⟩) (by show w.heap.size < _; omega)).trans (y2 o)
    have hB3 := hB2.trans (hb3.mono (by omega))
    have hz3 := hb3.size
    obtain ⟨p0, p1⟩ := P3
    have q0 := y3 0; have q1 := y3 1
    have lq3 : w.heap.size < w3.heap.size := by omega
    have Ho3 := Lib.hid ho3
    clear P2 y2 y3 ho3 hN2
    go_wp2_with fail
    generalize hW4 : (w3.setCell _ _).setCell _ _ = W4
    obtain ⟨r0, r1, hs4, hk4, hb4⟩ := two_set _ _ p0 p1 hW4.symm
    have hB4 := hb4 _ _ (Nat.le_refl _) hB3
    have ho4 : W4.ownsRow W2.heap.size 90 7 (.slice A3 (makeL t).length c3) (makeL t).length (stCells (makeL t)) := by
      refine Ho3.out.kept (row := some w.heap.size) ⟨by subst hW4; rfl, by subst hW4; rfl, by subst hW4; rfl, by omega, fun k hk hne => hk4 k (by simpa using hne)⟩ (.inr fun e => ?_)
      have := (Ho3.out.lt _ e).1
      omega
    refine bodyPost_ret (v := .tuple #[.agg #[.slice A3 (makeL t).length c3, .int .i64 (makeS t)], .int .i64 (sizeE t)]) (by simp [results, Tryd.results28, r0, r1, go_sem]) rfl ⟨A3, c3, by rw [HE.out, HL.out, HS.out], ?_, hB4⟩
    rw [HL.out]
    exact ho4.mono (by omega)

theorem compL_le (s : Bs) : (compL s).length ≤ 4096 := by
  unfold compL
  split
  · simp
  · exact makeL_le _
set_option maxRecDepth 100000 in
set_option maxHeartbeats 4000000 in
theorem find_any (s subj : Bs) (w : World) (hM : MaxOk w) (hB : 91 ∈ s → BrC) (hD : 46 ∈ s → DotC) :
    Calls Tryd.prog 11 #[.string (bs s), .string (bs subj)] w fun en w' => en = .returned (.tuple #[.bool (findF s subj).1, .int .i64 (findF s subj).2.1, .int .i64 (findF s subj).2.2]) ∧ Below w.heap.size w w' := by
  have HB := Lib.hid hB; have HD := Lib.hid hD; clear hB hD
  go_enter Tryd.func11, Tryd.ntmps11
  go_wp2_with fail
  refine (comp_any s w hM HB.out HD.out).mono ?_
  rintro en w1 ⟨A, c, rfl, ho1, hb1⟩
  have hl := compL_le s
  have Ho1 := Lib.hid ho1
  have hz1 := hb1.size
  clear ho1
  by_cases he : compE s = 0
  · have hres : findF s subj = hasF (compL s) (compS s) subj := by unfold findF; rw [if_neg (by simpa using he)]
    have Hres := Lib.hid hres
    have hb : (compE s != 0) = false := by rw [he]; rfl
    clear hres he
    go_wp2_with fail
    generalize hW2 : w1.alloc _ = W2
    have hb2 : Below w1.heap.size w1 W2 := by subst hW2; exact (Below.refl _ _).alloc (Nat.le_refl _) _
    have hz2 := hb2.size
    clear hW2
    refine (has_any W2 (fun b => b < W2.heap.size) (compL s) (compS s) A c (sts_all (own_later Ho1.out hb2) hl) (fun b h => h) subj).mono ?_
    rintro en w3 ⟨rfl, hb3⟩
    go_wp2_with fail
    exact bodyPost_ret (v := .tuple #[.bool (hasF (compL s) (compS s) subj).1, .int .i64 (hasF (compL s) (compS s) subj).2.1, .int .i64 (hasF (compL s) (compS s) subj).2.2]) (by simp [results, Tryd.results11, go_sem]) rfl ⟨by rw [Hres.out], hb1.trans ((hb2.mono hz1).trans (hb3.mono (by omega)))⟩
  · have hres : findF s subj = (false, 0, compE s) := by unfold findF; rw [if_pos he]
    have Hres := Lib.hid hres
    have hb : (compE s != 0) = true := by rw [bne_iff_ne]; exact he
    clear hres he
    go_wp2_with fail
    exact bodyPost_ret (v := .tuple #[.bool false, .int .i64 0, .int .i64 (compE s)]) (by simp [results, Tryd.results11, go_sem]) rfl ⟨by rw [Hres.out], hb1.alloc hz1 _⟩
end Go.Proofs.YtdpmbanfaigmcaaDoor

/- What a tree describes, and that its machine's ways are just that. Plain: no program in sight. -/
set_option linter.unusedVariables false
set_option linter.unusedSimpArgs false
namespace Go.Proofs.YtdpmbanfaigmcaaDoor
open Go.RowKit

abbrev Rel := Nat → Nat → Prop
def comp (R S : Rel) : Rel := fun i j => ∃ k, R i k ∧ S k j
def powR (R : Rel) : Nat → Rel
  | 0 => fun i j => i = j
  | n + 1 => comp R (powR R n)
theorem powR_snoc {R : Rel} : ∀ {n i j : Nat}, powR R (n + 1) i j ↔ ∃ k, powR R n i k ∧ R k j
  | 0, i, j => by
    constructor
    · rintro ⟨k, h, rfl⟩; exact ⟨i, rfl, h⟩
    · rintro ⟨k, rfl, h⟩; exact ⟨j, h, rfl⟩
  | n + 1, i, j => by
    constructor
    · rintro ⟨k, h, h2⟩
      obtain ⟨m, h3, h4⟩ := powR_snoc.1 h2
      exact ⟨m, ⟨k, h, h3⟩, h4⟩
    · rintro ⟨m, ⟨k, h, h3⟩, h4⟩
      exact ⟨k, h, powR_snoc.2 ⟨m, h3, h4⟩⟩
theorem powR_add {R : Rel} : ∀ {n m i j : Nat}, powR R (n + m) i j ↔ ∃ k, powR R n i k ∧ powR R m k j
  | 0, m, i, j => by
    rw [Nat.zero_add]
    exact ⟨fun h => ⟨i, rfl, h⟩, fun ⟨k, e, h⟩ => by cases (show i = k from e); exact h⟩
  | n + 1, m, i, j => by
    rw [show n + 1 + m = (n + m) + 1 by omega]
    constructor
    · rintro ⟨k, h, h2⟩
      obtain ⟨q, h3, h4⟩ := powR_add.1 h2
      exact ⟨q, ⟨k, h, h3⟩, h4⟩
    · rintro ⟨q, ⟨k, h, h3⟩, h4⟩
      exact ⟨k, h, powR_add.2 ⟨q, h3, h4⟩⟩
theorem powR_one {R : Rel} {i j : Nat} : powR R 1 i j ↔ R i j := ⟨fun ⟨k, h, e⟩ => by cases (show k = j from e); exact h, fun h => ⟨j, h, rfl⟩⟩
theorem powR_id {R : Rel} (h : ∀ i j, R i j ↔ i = j) : ∀ n i j, powR R n i j ↔ i = j
  | 0, i, j => Iff.rfl
  | n + 1, i, j => by
    constructor
    · rintro ⟨k, h1, h2⟩
      rw [h] at h1; rw [powR_id h n] at h2; exact h1.trans h2
    · rintro rfl
      exact ⟨i, (h i i).2 rfl, (powR_id h n i i).2 rfl⟩

mutual
/-- A tree describes the piece from i tu j. -/
def den (s : List UInt8) : T → Rel
  | .mk k s0 s1 s2 s3 mn mx ps =>
    if k = 1 then fun i j => i < s.length ∧ j = i + 1 ∧ bitS ⟨1, s0, s1, s2, s3, 0, 0⟩ (byteN s (i + 1)) = true
    else if k = 2 then fun i j => i = 0 ∧ j = i
    else if k = 3 then fun i j => i = s.length ∧ j = i
    else if k = 4 then denRow s ps
    else if k = 5 then denAlt s ps
    else if k = 6 then fun i j => ∃ n : Nat, mn.toNat ≤ n ∧ (mx < 0 ∨ n ≤ mx.toNat) ∧ powR (denHead s ps) n i j
    else fun i j => i = j
def denRow (s : List UInt8) : List T → Rel
  | [] => fun i j => i = j
  | p :: ps => comp (den s p) (denRow s ps)
def denAlt (s : List UInt8) : List T → Rel
  | [] => fun _ _ => False
  | p :: ps => fun i j => den s p i j ∨ denAlt s ps i j
def denHead (s : List UInt8) : List T → Rel
  | [] => fun i j => i = j
  | p :: _ => den s p
end
theorem den_eq (s : List UInt8) (t : T) : den s t =
    if t.k = 1 then fun i j => i < s.length ∧ j = i + 1 ∧ bitS ⟨1, t.s0, t.s1, t.s2, t.s3, 0, 0⟩ (byteN s (i + 1)) = true
    else if t.k = 2 then fun i j => i = 0 ∧ j = i
    else if t.k = 3 then fun i j => i = s.length ∧ j = i
    else if t.k = 4 then denRow s t.ps
    else if t.k = 5 then denAlt s t.ps
    else if t.k = 6 then fun i j => ∃ n : Nat, t.mn.toNat ≤ n ∧ (t.mx < 0 ∨ n ≤ t.mx.toNat) ∧ powR (denHead s t.ps) n i j
    else fun i j => i = j := by cases t; rw [den]; rfl
theorem denAlt_iff (s : List UInt8) (i j : Nat) : ∀ ps : List T, denAlt s ps i j ↔ ∃ p ∈ ps, den s p i j
  | [] => by simp [denAlt]
  | p :: ps => by simp [denAlt, denAlt_iff s i j ps]

/-- A machine's ways over a text, so many steps. -/
inductive PthN (M : Nat → St) (s : List UInt8) : Nat → Nat → Nat → Nat → Nat → Prop where
  | refl (x i : Nat) : PthN M s 0 x i x i
  | eps {m x i z y k : Nat} : z ∈ outs (i == 0) (i == s.length) (M x) → PthN M s m z i y k → PthN M s (m + 1) x i y k
  | eat {m x i y k : Nat} : i < s.length → takes (M x) (byteN s (i + 1)) = true → PthN M s m (M x).nx.toNat (i + 1) y k → PthN M s (m + 1) x i y k
def Pth (M : Nat → St) (s : List UInt8) (x i y k : Nat) : Prop := ∃ m, PthN M s m x i y k
theorem PthN.trans {M : Nat → St} {s : List UInt8} {m n x i y j z k : Nat} (h : PthN M s m x i y j) (h2 : PthN M s n y j z k) : PthN M s (m + n) x i z k := by
  induction h with
  | refl => simpa using h2
  | eps he _ ih => rw [show ∀ a : Nat, a + 1 + n = (a + n) + 1 by omega]; exact .eps he (ih h2)
  | eat h1 he _ ih => rw [show ∀ a : Nat, a + 1 + n = (a + n) + 1 by omega]; exact .eat h1 he (ih h2)
theorem Pth.refl {M : Nat → St} {s : List UInt8} (x i : Nat) : Pth M s x i x i := ⟨0, .refl x i⟩
theorem Pth.trans {M : Nat → St} {s : List UInt8} {x i y j z k : Nat} (h : Pth M s x i y j) (h2 : Pth M s y j z k) : Pth M s x i z k := by
  obtain ⟨m, h⟩ := h; obtain ⟨n, h2⟩ := h2; exact ⟨_, h.trans h2⟩
theorem Pth.eps1 {M : Nat → St} {s : List UInt8} {x i z : Nat} (h : z ∈ outs (i == 0) (i == s.length) (M x)) : Pth M s x i z i := ⟨1, .eps h (.refl _ _)⟩
theorem PthN.le {M : Nat → St} {s : List UInt8} {m x i y j : Nat} (h : PthN M s m x i y j) : i ≤ j := by
  induction h with
  | refl => exact Nat.le_refl _
  | eps _ _ ih => exact ih
  | eat _ _ _ ih => omega
theorem PthN.bd {M : Nat → St} {s : List UInt8} {m x i y j : Nat} (h : PthN M s m x i y j) (hi : i ≤ s.length) : j ≤ s.length := by
  induction h with
  | refl => exact hi
  | eps _ _ ih => exact ih hi
  | eat h1 _ _ ih => exact ih h1

/-- The machine is a list's on a stretch. -/
def Agr (M : Nat → St) (l : List St) (a : Nat) : Prop := ∀ i, a ≤ i → i < l.length → M i = stN l i
def Ext (l l' : List St) : Prop := l.length ≤ l'.length ∧ ∀ i, i < l.length → stN l' i = stN l i
theorem Ext.refl (l : List St) : Ext l l := ⟨Nat.le_refl _, fun _ _ => rfl⟩
theorem Ext.trans {a b c : List St} (h : Ext a b) (k : Ext b c) : Ext a c := ⟨Nat.le_trans h.1 k.1, fun i hi => (k.2 i (by have := h.1; omega)).trans (h.2 i hi)⟩
theorem stN_app (l : List St) (x : St) (i : Nat) (hi : i < l.length) : stN (l ++ [x]) i = stN l i := by
  unfold stN; rw [List.getD_eq_getElem?_getD, List.getD_eq_getElem?_getD, List.getElem?_append_left hi]
theorem stN_last (l : List St) (x : St) : stN (l ++ [x]) l.length = x := by
  unfold stN; rw [List.getD_eq_getElem?_getD, List.getElem?_append_right (Nat.le_refl _)]; simp
theorem Ext.app (l : List St) (x : St) : Ext l (l ++ [x]) := ⟨by simp, fun i hi => stN_app l x i hi⟩
theorem Agr.ext {M : Nat → St} {l l' : List St} {a : Nat} (h : Agr M l' a) (e : Ext l l') : Agr M l a := fun i h1 h2 => (h i h1 (by have := e.1; omega)).trans (e.2 i h2)
theorem Agr.from {M : Nat → St} {l : List St} {a b : Nat} (h : Agr M l a) (e : a ≤ b) : Agr M l b := fun i h1 h2 => h i (by omega) h2

/-- A way of laying lays just what describes. -/
structure Impl (s : List UInt8) (p : LF) (R : Rel) : Prop where
  ext : ∀ (tu : Int) (l : List St), 0 ≤ tu → tu < l.length → Ext l (p tu l).2 ∧ 0 ≤ (p tu l).1 ∧ (p tu l).1 < (p tu l).2.length
  nil : ∀ (tu : Int) (l : List St), 0 ≤ tu → tu < l.length → (p tu l).2.length = l.length → (p tu l).1 = tu ∧ ∀ i j, R i j ↔ i = j
  comp : ∀ (tu : Int) (l : List St), 0 ≤ tu → tu < l.length → ∀ M, Agr M (p tu l).2 l.length → ∀ i j, R i j → Pth M s (p tu l).1.toNat i tu.toNat j
  sound : ∀ (tu : Int) (l : List St), 0 ≤ tu → tu < l.length → ∀ M, Agr M (p tu l).2 l.length → ∀ m i y k, (y < l.length ∨ (p tu l).2.length ≤ y) → PthN M s m (p tu l).1.toNat i y k → ∃ j m', m' ≤ m ∧ R i j ∧ PthN M s m' tu.toNat j y k

theorem impl_id {s : List UInt8} {p : LF} {R : Rel} (hp : ∀ tu l, p tu l = (tu, l)) (hR : ∀ i j, R i j ↔ i = j) : Impl s p R where
  ext tu l h0 h1 := by rw [hp]; exact ⟨.refl l, h0, h1⟩
  nil tu l h0 h1 _ := by rw [hp]; exact ⟨rfl, hR⟩
  comp tu l h0 h1 M hM i j h := by rw [hp]; cases (hR i j).1 h; exact .refl _ _
  sound tu l h0 h1 M hM m i y k hy h := by rw [hp] at h; exact ⟨i, m, Nat.le_refl _, (hR i i).2 rfl, h⟩
theorem Impl.iff {s : List UInt8} {p : LF} {R S : Rel} (h : Impl s p R) (e : ∀ i j, R i j ↔ S i j) : Impl s p S := by
  have : R = S := by funext i j; exact propext (e i j)
  exact this ▸ h

/-- One state. -/
theorem impl_one {s : List UInt8} {p : LF} {R : Rel} (f : Int → St) (hp : ∀ tu l, p tu l = ((l.length : Int), l ++ [f tu])) (h1 : ∀ M tu x i j, M x = f tu → R i j → Pth M s x i tu.toNat j)
    (h2 : ∀ M tu x m i y k, M x = f tu → y ≠ x → PthN M s m x i y k → ∃ j m', m' ≤ m ∧ R i j ∧ PthN M s m' tu.toNat j y k) : Impl s p R where
  ext tu l _ _ := by rw [hp]; exact ⟨.app _ _, by simp only; omega, by simp; omega⟩
  nil tu l _ _ h := by rw [hp] at h; simp at h
  comp tu l h0 hl M hM i j h := by
    rw [hp] at hM ⊢
    exact h1 M tu _ i j (by rw [Int.toNat_natCast, hM _ (Nat.le_refl _) (by simp), stN_last]) h
  sound tu l h0 hl M hM m i y k hy h := by
    rw [hp] at hM hy h
    simp only [Int.toNat_natCast] at h
    exact h2 M tu _ m i y k (by rw [hM _ (Nat.le_refl _) (by simp), stN_last]) (by simp at hy; omega) h

/-- One behind the other: q is laid first. -/
theorem Impl.seq {s : List UInt8} {p q : LF} {R S : Rel} (hp : Impl s p R) (hq : Impl s q S) : Impl s (fun tu l => p (q tu l).1 (q tu l).2) (Go.Proofs.YtdpmbanfaigmcaaDoor.comp R S) where
  ext tu l h0 h1 := by
    obtain ⟨a, b, c⟩ := hq.ext tu l h0 h1
    obtain ⟨d, e, f⟩ := hp.ext _ _ b c
    exact ⟨a.trans d, e, f⟩
  nil tu l h0 h1 hl := by
    obtain ⟨a, b, c⟩ := hq.ext tu l h0 h1
    obtain ⟨d, e, f⟩ := hp.ext _ _ b c
    have := a.1; have := d.1
    try simp only at hl
    obtain ⟨n1, n2⟩ := hq.nil tu l h0 h1 (by omega)
    obtain ⟨n3, n4⟩ := hp.nil _ _ b c (by omega)
    refine ⟨n3.trans n1, fun i j => ⟨?_, ?_⟩⟩
    · rintro ⟨k, h, h'⟩; rw [n4] at h; rw [n2] at h'; exact h.trans h'
    · rintro rfl; exact ⟨i, (n4 _ _).2 rfl, (n2 _ _).2 rfl⟩
  comp tu l h0 h1 M hM i j h := by
    obtain ⟨a, b, c⟩ := hq.ext tu l h0 h1
    obtain ⟨d, e, f⟩ := hp.ext _ _ b c
    obtain ⟨k, h2, h3⟩ := h
    exact (hp.comp _ _ b c M (hM.from a.1) i k h2).trans (hq.comp tu l h0 h1 M (hM.ext d) k j h3)
  sound tu l h0 h1 M hM m i y k hy h := by
    obtain ⟨a, b, c⟩ := hq.ext tu l h0 h1
    obtain ⟨d, e, f⟩ := hp.ext _ _ b c
    have := a.1; have := d.1
    try simp only at hy
    obtain ⟨j, m1, hm1, hr, h2⟩ := hp.sound _ _ b c M (hM.from a.1) m i y k (by omega) h
    obtain ⟨j2, m2, hm2, hs, h3⟩ := hq.sound tu l h0 h1 M (hM.ext d) m1 j y k (by omega) h2
    exact ⟨j2, m2, by omega, ⟨j, hr, hs⟩, h3⟩

theorem outs_split (b e : Bool) (x y : Int) : outs b e (splitS x y) = [x.toNat, y.toNat] := rfl
theorem takes_split (x y : Int) (c : Nat) : takes (splitS x y) c = false := rfl
/-- From a split. -/
theorem split_cases {M : Nat → St} {s : List UInt8} {m x i y k : Nat} {a b : Int} (hM : M x = splitS a b) (hy : y ≠ x) (h : PthN M s m x i y k) : (∃ m', m' < m ∧ PthN M s m' a.toNat i y k) ∨ ∃ m', m' < m ∧ PthN M s m' b.toNat i y k := by
  cases h with
  | refl => exact absurd rfl hy
  | eps he h =>
    rw [hM, outs_split] at he
    simp only [List.mem_cons, List.not_mem_nil, or_false] at he
    rcases he with rfl | rfl
    · exact .inl ⟨_, by omega, h⟩
    · exact .inr ⟨_, by omega, h⟩
  | eat _ he _ => rw [hM, takes_split] at he; cases he

/-- At most so many. -/
theorem opt_impl {s : List UInt8} {p : LF} {R : Rel} (hp : Impl s p R) (tu : Int) (h0 : 0 ≤ tu) : ∀ (n : Nat) (t : Int) (l : List St), tu < l.length → 0 ≤ t → t < l.length →
    Ext l (optF p tu n t l).2 ∧ (0 ≤ (optF p tu n t l).1 ∧ (optF p tu n t l).1 < (optF p tu n t l).2.length) ∧ l.length + n ≤ (optF p tu n t l).2.length ∧
    ∀ M, Agr M (optF p tu n t l).2 l.length →
      (∀ i j, powR R n i j → Pth M s (optF p tu n t l).1.toNat i t.toNat j) ∧ (∀ a i j, a < n → powR R a i j → Pth M s (optF p tu n t l).1.toNat i tu.toNat j) ∧
      ∀ m i y k, (y < l.length ∨ (optF p tu n t l).2.length ≤ y) → PthN M s m (optF p tu n t l).1.toNat i y k → (∃ a j m', a < n ∧ m' ≤ m ∧ powR R a i j ∧ PthN M s m' tu.toNat j y k) ∨ ∃ j m', m' ≤ m ∧ powR R n i j ∧ PthN M s m' t.toNat j y k
  | 0, t, l, h1, h2, h3 => by
    rw [optF]
    exact ⟨.refl l, ⟨h2, h3⟩, by simp, fun M hM => ⟨fun i j h => by cases (show i = j from h); exact .refl _ _, fun a i j ha => by omega, fun m i y k _ h => .inr ⟨i, m, Nat.le_refl _, rfl, h⟩⟩⟩
  | n + 1, t, l, h1, h2, h3 => by
    obtain ⟨e1, x0, x1⟩ := hp.ext t l h2 h3
    have g1 := e1.1
    rw [optF]
    generalize hx : (p t l).1 = x at *
    generalize hq : (p t l).2 = q at *
    have hql : ((q ++ [splitS x tu]).length : Int) = q.length + 1 := by simp
    obtain ⟨e2, y0, y1, hB⟩ := opt_impl hp tu h0 n (q.length : Int) (q ++ [splitS x tu]) (by omega) (by omega) (by omega)
    have g2 := e2.1
    have hlq : (q ++ [splitS x tu]).length = q.length + 1 := by simp
    have e3 : Ext l (q ++ [splitS x tu]) := e1.trans (.app _ _)
    refine ⟨e3.trans e2, y0, by omega, fun M hM => ?_⟩
    obtain ⟨b1, b2, b3⟩ := hB M (hM.from (by omega))
    have hA := hM.ext e2
    have hMt : M q.length = splitS x tu := by rw [hA _ (by omega) (by omega), stN_last]
    have hAp : Agr M q l.length := hA.ext (.app _ _)
    have hAp' : Agr M (p t l).2 l.length := by rw [hq]; exact hAp
    refine ⟨fun i j h => ?_, fun a i j ha h => ?_, fun m i y k hy h => ?_⟩
    · obtain ⟨j1, h4, h5⟩ := powR_snoc.1 h
      have c1 := b1 i j1 h4
      rw [Int.toNat_natCast] at c1
      refine c1.trans ((Pth.eps1 (z := x.toNat) (by rw [hMt, outs_split]; simp)).trans ?_)
      have := hp.comp t l h2 h3 M hAp' j1 j h5
      rwa [hx] at this
    · rcases Nat.lt_or_ge a n with hlt | hge
      · exact b2 a i j hlt h
      · have : a = n := by omega
        subst this
        have c1 := b1 i j h
        rw [Int.toNat_natCast] at c1
        exact c1.trans (Pth.eps1 (by rw [hMt, outs_split]; simp))
    · rcases b3 m i y k (by omega) h with ⟨a, j, m', ha, hm', hr, h6⟩ | ⟨j, m', hm', hr, h6⟩
      · exact .inl ⟨a, j, m', by omega, hm', hr, h6⟩
      · rw [Int.toNat_natCast] at h6
        rcases split_cases hMt (by omega) h6 with ⟨m2, hm2, h7⟩ | ⟨m2, hm2, h7⟩
        · obtain ⟨j2, m3, hm3, hr2, h8⟩ := hp.sound t l h2 h3 M hAp' m2 j y k (by rw [hq]; omega) (by rw [hx]; exact h7)
          exact .inr ⟨j2, m3, by omega, powR_snoc.2 ⟨j, hr, hr2⟩, h8⟩
        · exact .inl ⟨n, j, m2, by omega, by omega, hr, h7⟩
theorem optR_impl {s : List UInt8} {p : LF} {R : Rel} (hp : Impl s p R) (n : Nat) : Impl s (fun tu l => optF p tu n tu l) (fun i j => ∃ a, a ≤ n ∧ powR R a i j) where
  ext tu l h0 h1 := by obtain ⟨a, b, _⟩ := opt_impl hp tu h0 n tu l h1 h0 h1; exact ⟨a, b⟩
  nil tu l h0 h1 hl := by
    obtain ⟨_, _, c, _⟩ := opt_impl hp tu h0 n tu l h1 h0 h1
    have hn : n = 0 := by omega
    subst hn
    refine ⟨by simp only [optF], fun i j => ⟨?_, fun h => ⟨0, Nat.le_refl _, h⟩⟩⟩
    rintro ⟨a, ha, h⟩
    have : a = 0 := by omega
    subst this
    exact h
  comp tu l h0 h1 M hM i j h := by
    obtain ⟨_, _, _, d⟩ := opt_impl hp tu h0 n tu l h1 h0 h1
    obtain ⟨d1, d2, _⟩ := d M hM
    obtain ⟨a, ha, h⟩ := h
    rcases Nat.lt_or_ge a n with hlt | hge
    · exact d2 a i j hlt h
    · have : a = n := by omega
      subst this
      exact d1 i j h
  sound tu l h0 h1 M hM m i y k hy h := by
    obtain ⟨_, _, _, d⟩ := opt_impl hp tu h0 n tu l h1 h0 h1
    obtain ⟨_, _, d3⟩ := d M hM
    rcases d3 m i y k hy h with ⟨a, j, m', ha, hm, hr, h2⟩ | ⟨j, m', hm, hr, h2⟩
    · exact ⟨j, m', hm, ⟨a, by omega, hr⟩, h2⟩
    · exact ⟨j, m', hm, ⟨n, Nat.le_refl _, hr⟩, h2⟩

/-- So many times, as long as it lays something. -/
theorem min_impl {s : List UInt8} {p : LF} {R : Rel} (hp : Impl s p R) : ∀ n, Impl s (minF p n) (powR R n)
  | 0 => impl_id (fun tu l => rfl) (fun i j => Iff.rfl)
  | n + 1 => by
    have ih := min_impl hp n
    have hsq := ih.seq hp
    have key : ∀ tu l, 0 ≤ tu → tu < (l.length : Int) → (minF p (n + 1) tu l = minF p n (p tu l).1 (p tu l).2) ∨ (minF p (n + 1) tu l = p tu l ∧ ∀ i j, R i j ↔ i = j) := fun tu l h0 h1 => by
      rw [minF]
      split
      · rename_i hl
        exact .inr ⟨rfl, (hp.nil tu l h0 h1 hl).2⟩
      · exact .inl rfl
    have hR : ∀ i j, powR R (n + 1) i j ↔ Go.Proofs.YtdpmbanfaigmcaaDoor.comp (powR R n) R i j := fun i j => powR_snoc
    refine ⟨fun tu l h0 h1 => ?_, fun tu l h0 h1 hl => ?_, fun tu l h0 h1 M hM i j h => ?_, fun tu l h0 h1 M hM m i y k hy h => ?_⟩
    · rcases key tu l h0 h1 with e | ⟨e, _⟩
      · rw [e]; exact hsq.ext tu l h0 h1
      · rw [e]; exact hp.ext tu l h0 h1
    · rcases key tu l h0 h1 with e | ⟨e, he⟩
      · rw [e] at hl ⊢
        obtain ⟨a, b⟩ := hsq.nil tu l h0 h1 hl
        exact ⟨a, fun i j => (hR i j).trans (b i j)⟩
      · rw [e] at hl ⊢
        exact ⟨(hp.nil tu l h0 h1 hl).1, powR_id he _⟩
    · rcases key tu l h0 h1 with e | ⟨e, he⟩
      · rw [e] at hM ⊢
        exact hsq.comp tu l h0 h1 M hM i j ((hR i j).1 h)
      · rw [e] at hM ⊢
        exact hp.comp tu l h0 h1 M hM i j ((he i j).2 ((powR_id he _ i j).1 h))
    · rcases key tu l h0 h1 with e | ⟨e, he⟩
      · rw [e] at hM hy h
        obtain ⟨j, m', hm, hr, h2⟩ := hsq.sound tu l h0 h1 M hM m i y k hy h
        exact ⟨j, m', hm, (hR i j).2 hr, h2⟩
      · rw [e] at hM hy h
        obtain ⟨j, m', hm, hr, h2⟩ := hp.sound tu l h0 h1 M hM m i y k hy h
        exact ⟨j, m', hm, (powR_id he _ i j).2 ((he i j).1 hr), h2⟩

theorem setNx_len (l : List St) (i : Nat) (x : Int) : (setNx l i x).length = l.length := by simp [setNx]
theorem setNx_other (l : List St) (i j : Nat) (x : Int) (h : j ≠ i) : stN (setNx l i x) j = stN l j := by
  unfold stN setNx
  rw [List.getD_eq_getElem?_getD, List.getD_eq_getElem?_getD, List.getElem?_modify, show ((fun s : St => if i = j then { s with nx := x } else s) <$> l[j]?).getD default = l[j]?.getD default from ?_]
  rw [show (fun s : St => if i = j then { s with nx := x } else s) = id from by funext a; rw [if_neg (fun e => h e.symm)]; rfl]
  cases l[j]? <;> rfl
theorem setNx_same (l : List St) (i : Nat) (x : Int) (h : i < l.length) : stN (setNx l i x) i = { stN l i with nx := x } := by
  unfold stN setNx
  rw [List.getD_eq_getElem?_getD, List.getD_eq_getElem?_getD, List.getElem?_modify, List.getElem?_eq_getElem h]
  simp
/-- However often. -/
theorem star_impl {s : List UInt8} {p : LF} {R : Rel} (hp : Impl s p R) : Impl s (starF p) (fun i j => ∃ a, powR R a i j) := by
  have pre : ∀ (tu : Int) (l : List St), 0 ≤ tu → tu < l.length → Ext (l ++ [splitS 0 tu]) (p l.length (l ++ [splitS 0 tu])).2 ∧ 0 ≤ (p l.length (l ++ [splitS 0 tu])).1 ∧ (p l.length (l ++ [splitS 0 tu])).1 < (p l.length (l ++ [splitS 0 tu])).2.length :=
    fun tu l h0 h1 => hp.ext _ _ (by omega) (by simp; omega)
  have hM0 : ∀ (tu : Int) (l : List St), 0 ≤ tu → tu < l.length → ∀ M, Agr M (starF p tu l).2 l.length → M l.length = splitS (p l.length (l ++ [splitS 0 tu])).1 tu ∧ Agr M (p l.length (l ++ [splitS 0 tu])).2 (l ++ [splitS 0 tu]).length := fun tu l h0 h1 M hM => by
    obtain ⟨e1, x0, x1⟩ := pre tu l h0 h1
    have g := e1.1
    have g' : (l ++ [splitS 0 tu]).length = l.length + 1 := by simp
    constructor
    · rw [hM l.length (Nat.le_refl _) (by simp only [starF, setNx_len]; omega)]
      simp only [starF]
      rw [setNx_same _ _ _ (by omega), e1.2 _ (by omega), stN_last]; rfl
    · intro i h2 h3
      rw [hM i (by omega) (by simp only [starF, setNx_len]; omega)]
      simp only [starF]
      rw [setNx_other _ _ _ _ (by omega)]
  have g' : ∀ (tu : Int) (l : List St), (l ++ [splitS 0 tu]).length = l.length + 1 := fun tu l => by simp
  refine ⟨fun tu l h0 h1 => ?_, fun tu l h0 h1 hl => ?_, fun tu l h0 h1 M hM i j h => ?_, fun tu l h0 h1 M hM m i y k hy h => ?_⟩
  · obtain ⟨e1, x0, x1⟩ := pre tu l h0 h1
    have g := e1.1
    refine ⟨⟨by simp only [starF, setNx_len]; have := g' tu l; omega, fun i hi => ?_⟩, by simp only [starF]; omega, by simp only [starF, setNx_len]; have := g' tu l; omega⟩
    simp only [starF]
    rw [setNx_other _ _ _ _ (by omega), e1.2 i (by have := g' tu l; omega), stN_app _ _ _ hi]
  · obtain ⟨e1, x0, x1⟩ := pre tu l h0 h1
    have g := e1.1
    simp only [starF, setNx_len] at hl
    have := g' tu l
    omega
  · obtain ⟨m1, m2⟩ := hM0 tu l h0 h1 M hM
    obtain ⟨a, h⟩ := h
    simp only [starF, Int.toNat_natCast]
    induction a generalizing i with
    | zero => cases (show i = j from h); exact Pth.eps1 (by rw [m1, outs_split]; simp)
    | succ a ih =>
      obtain ⟨k, h2, h3⟩ := h
      have c := hp.comp l.length (l ++ [splitS 0 tu]) (by omega) (by simp; omega) M m2 i k h2
      rw [Int.toNat_natCast] at c
      exact ((Pth.eps1 (by rw [m1, outs_split]; simp)).trans c).trans (ih k h3)
  · obtain ⟨m1, m2⟩ := hM0 tu l h0 h1 M hM
    obtain ⟨e1, x0, x1⟩ := pre tu l h0 h1
    have g := e1.1
    have g2 := g' tu l
    simp only [starF, Int.toNat_natCast, setNx_len] at h hy
    induction m using Nat.strongRecOn generalizing i with
    | _ m ih =>
      rcases split_cases m1 (by omega) h with ⟨m3, hm3, h4⟩ | ⟨m3, hm3, h4⟩
      · obtain ⟨j, m4, hm4, hr, h5⟩ := hp.sound l.length (l ++ [splitS 0 tu]) (by omega) (by simp; omega) M m2 m3 i y k (by omega) h4
        rw [Int.toNat_natCast] at h5
        obtain ⟨j2, m5, hm5, ⟨a, hr2⟩, h6⟩ := ih m4 (by omega) j h5
        exact ⟨j2, m5, by omega, ⟨a + 1, j, hr, hr2⟩, h6⟩
      · exact ⟨i, m3, by omega, ⟨0, rfl⟩, h4⟩
theorem rep_impl {s : List UInt8} {p : LF} {R : Rel} (hp : Impl s p R) (mn mx : Int) (h0 : 0 ≤ mn) (hx : mx < 0 ∨ mn ≤ mx) : Impl s (repF mn mx p) (fun i j => ∃ n : Nat, mn.toNat ≤ n ∧ (mx < 0 ∨ n ≤ mx.toNat) ∧ powR R n i j) := by
  by_cases hm : mx < 0
  · have h := (min_impl hp mn.toNat).seq (star_impl hp)
    have e : (fun tu l => minF p mn.toNat (starF p tu l).1 (starF p tu l).2) = repF mn mx p := by funext tu l; unfold repF; simp only [if_pos hm]
    rw [e] at h
    refine h.iff fun i j => ⟨?_, ?_⟩
    · rintro ⟨k, h1, a, h2⟩
      exact ⟨mn.toNat + a, by omega, .inl hm, powR_add.2 ⟨k, h1, h2⟩⟩
    · rintro ⟨n, h1, _, h2⟩
      rw [show n = mn.toNat + (n - mn.toNat) by omega, powR_add] at h2
      obtain ⟨k, h3, h4⟩ := h2
      exact ⟨k, h3, _, h4⟩
  · have h := (min_impl hp mn.toNat).seq (optR_impl hp (mx - mn).toNat)
    have e : (fun tu l => minF p mn.toNat (optF p tu (mx - mn).toNat tu l).1 (optF p tu (mx - mn).toNat tu l).2) = repF mn mx p := by funext tu l; unfold repF; simp only [if_neg hm]
    rw [e] at h
    refine h.iff fun i j => ⟨?_, ?_⟩
    · rintro ⟨k, h1, a, ha, h2⟩
      exact ⟨mn.toNat + a, by omega, .inr (by omega), powR_add.2 ⟨k, h1, h2⟩⟩
    · rintro ⟨n, h1, h3, h2⟩
      rw [show n = mn.toNat + (n - mn.toNat) by omega, powR_add] at h2
      obtain ⟨k, h4, h5⟩ := h2
      exact ⟨k, h4, _, by omega, h5⟩

theorem row_impl {s : List UInt8} : ∀ (ps : List T), (∀ p ∈ ps, Impl s (layF p) (den s p)) → Impl s (rowF ps) (denRow s ps)
  | [], _ => impl_id (fun tu l => by rw [rowF]) (fun i j => by rw [denRow])
  | p :: ps, h => by
    have := (h p (List.mem_cons_self ..)).seq (row_impl ps fun q hq => h q (List.mem_cons_of_mem _ hq))
    have e : (fun tu l => layF p (rowF ps tu l).1 (rowF ps tu l).2) = rowF (p :: ps) := by funext tu l; rw [rowF]
    rw [e] at this
    rw [denRow]; exact this

/-- The begins of a choice. -/
theorem beg_impl {s : List UInt8} (tu : Int) (h0 : 0 ≤ tu) : ∀ (ps : List T), (∀ p ∈ ps, Impl s (layF p) (den s p)) → ∀ l : List St, tu < l.length →
    Ext l (begF ps tu l).2 ∧ (∀ b ∈ (begF ps tu l).1, 0 ≤ b ∧ b < (begF ps tu l).2.length) ∧
    ∀ M, Agr M (begF ps tu l).2 l.length →
      (∀ i j, denAlt s ps i j → ∃ b ∈ (begF ps tu l).1, Pth M s b.toNat i tu.toNat j) ∧
      ∀ b ∈ (begF ps tu l).1, ∀ m i y k, (y < l.length ∨ (begF ps tu l).2.length ≤ y) → PthN M s m b.toNat i y k → ∃ j m', m' ≤ m ∧ denAlt s ps i j ∧ PthN M s m' tu.toNat j y k
  | [], _, l, h1 => by
    rw [begF]
    exact ⟨.refl l, fun b hb => (List.not_mem_nil hb).elim, fun M hM => ⟨fun i j h => by rw [denAlt] at h; exact h.elim, fun b hb => (List.not_mem_nil hb).elim⟩⟩
  | p :: ps, h, l, h1 => by
    have hp := h p (List.mem_cons_self ..)
    obtain ⟨e1, x0, x1⟩ := hp.ext tu l h0 h1
    have g1 := e1.1
    obtain ⟨e2, y0, hB⟩ := beg_impl tu h0 ps (fun q hq => h q (List.mem_cons_of_mem _ hq)) (layF p tu l).2 (by omega)
    have g2 := e2.1
    rw [begF]
    refine ⟨e1.trans e2, fun b hb => ?_, fun M hM => ?_⟩
    · simp only [List.mem_cons] at hb ⊢
      rcases hb with rfl | hb
      · omega
      · exact y0 b hb
    · simp only at hM
      obtain ⟨b1, b2⟩ := hB M (hM.from g1)
      have hA := hM.ext e2
      refine ⟨fun i j hd => ?_, fun b hb m i y k hy hP => ?_⟩
      · rw [denAlt] at hd
        rcases hd with hd | hd
        · exact ⟨_, List.mem_cons_self .., hp.comp tu l h0 h1 M hA i j hd⟩
        · obtain ⟨b, hb, hh⟩ := b1 i j hd
          exact ⟨b, List.mem_cons_of_mem _ hb, hh⟩
      · simp only [List.mem_cons] at hb
        simp only at hy
        rcases hb with rfl | hb
        · obtain ⟨j, m', hm, hr, h3⟩ := hp.sound tu l h0 h1 M hA m i y k (by omega) hP
          exact ⟨j, m', hm, by rw [denAlt]; exact .inl hr, h3⟩
        · obtain ⟨j, m', hm, hr, h3⟩ := b2 b hb m i y k (by omega) hP
          exact ⟨j, m', hm, by rw [denAlt]; exact .inr hr, h3⟩
/-- The splits of a choice. -/
theorem splits_impl {s : List UInt8} : ∀ (bs : List Int) (l : List St), bs ≠ [] → (∀ b ∈ bs, 0 ≤ b ∧ b < (l.length : Int)) →
    Ext l (splitsF bs l).2 ∧ (0 ≤ (splitsF bs l).1 ∧ (splitsF bs l).1 < (splitsF bs l).2.length) ∧
    ∀ M, Agr M (splitsF bs l).2 l.length →
      (∀ b ∈ bs, ∀ i, Pth M s (splitsF bs l).1.toNat i b.toNat i) ∧
      ∀ m i y k, (y < l.length ∨ (splitsF bs l).2.length ≤ y) → PthN M s m (splitsF bs l).1.toNat i y k → ∃ b ∈ bs, ∃ m', m' ≤ m ∧ PthN M s m' b.toNat i y k
  | [], l, h, _ => absurd rfl h
  | [x], l, _, h => by
    rw [splitsF]
    exact ⟨.refl l, h x (by simp), fun M hM => ⟨fun b hb i => by simp at hb; subst hb; exact .refl _ _, fun m i y k _ hP => ⟨x, by simp, m, Nat.le_refl _, hP⟩⟩⟩
  | a :: b :: bs, l, _, h => by
    obtain ⟨e1, x0, hB⟩ := splits_impl (s := s) (b :: bs) l (by simp) (fun c hc => h c (List.mem_cons_of_mem _ hc))
    have g1 := e1.1
    have ha := h a (List.mem_cons_self ..)
    rw [splitsF]
    · generalize splitsF (b :: bs) l = q at *
      obtain ⟨x, q⟩ := q
      simp only at *
      refine ⟨e1.trans (.app _ _), by simp; omega, fun M hM => ?_⟩
      have hMq : M q.length = splitS a x := by rw [hM _ g1 (by simp), stN_last]
      obtain ⟨b1, b2⟩ := hB M (hM.ext (.app _ _))
      refine ⟨fun c hc i => ?_, fun m i y k hy hP => ?_⟩
      · rw [Int.toNat_natCast]
        rcases List.mem_cons.1 hc with rfl | hc
        · exact Pth.eps1 (by rw [hMq, outs_split]; simp)
        · exact (Pth.eps1 (z := x.toNat) (by rw [hMq, outs_split]; simp)).trans (b1 c hc i)
      · rw [Int.toNat_natCast] at hP
        simp at hy
        rcases split_cases hMq (by omega) hP with ⟨m', hm, h3⟩ | ⟨m', hm, h3⟩
        · exact ⟨a, List.mem_cons_self .., m', by omega, h3⟩
        · obtain ⟨c, hc, m2, hm2, h4⟩ := b2 m' i y k (by omega) h3
          exact ⟨c, List.mem_cons_of_mem _ hc, m2, by omega, h4⟩
    · simp
theorem alt_impl {s : List UInt8} (ps : List T) (hl : 2 ≤ ps.length) (h : ∀ p ∈ ps, Impl s (layF p) (den s p)) : Impl s (fun tu l => splitsF (begF ps tu l).1 (begF ps tu l).2) (denAlt s ps) := by
  have hne : ∀ tu l, (begF ps tu l).1 ≠ [] := fun tu l e => by
    have := begF_len ps tu l
    rw [e] at this; simp at this; omega
  refine ⟨fun tu l h0 h1 => ?_, fun tu l h0 h1 hl' => ?_, fun tu l h0 h1 M hM i j hd => ?_, fun tu l h0 h1 M hM m i y k hy hP => ?_⟩
  · obtain ⟨a, b, _⟩ := beg_impl tu h0 ps h l h1
    obtain ⟨c, d, _⟩ := splits_impl (s := s) _ _ (hne tu l) b
    exact ⟨a.trans c, d⟩
  · obtain ⟨a, b, _⟩ := beg_impl tu h0 ps h l h1
    have := a.1
    try simp only at hl'
    rw [splitsF_len, begF_len] at hl'
    omega
  · obtain ⟨a, b, c⟩ := beg_impl tu h0 ps h l h1
    obtain ⟨d, e, f⟩ := splits_impl (s := s) _ _ (hne tu l) b
    obtain ⟨c1, c2⟩ := c M (hM.ext d)
    obtain ⟨f1, f2⟩ := f M (hM.from a.1)
    obtain ⟨x, hx, hh⟩ := c1 i j hd
    exact (f1 x hx i).trans hh
  · obtain ⟨a, b, c⟩ := beg_impl tu h0 ps h l h1
    obtain ⟨d, e, f⟩ := splits_impl (s := s) _ _ (hne tu l) b
    obtain ⟨c1, c2⟩ := c M (hM.ext d)
    obtain ⟨f1, f2⟩ := f M (hM.from a.1)
    have g1 := a.1; have g2 := d.1
    try simp only at hy
    obtain ⟨x, hx, m', hm, h2⟩ := f2 m i y k (by omega) hP
    obtain ⟨j, m2, hm2, hr, h3⟩ := c2 x hx m' i y k (by omega) h2
    exact ⟨j, m2, by omega, hr, h3⟩

theorem lay_impl (s : List UInt8) (t : T) : rightF t = true → Impl s (layF t) (den s t) := by
  induction t using T.ind with
  | h t ih =>
    intro hr
    have hps : ∀ p ∈ t.ps, Impl s (layF p) (den s p) := fun p hp => ih p hp (right_parts hr p hp)
    rw [show layF t = fun (tu : Int) (l : List St) => (layF t tu l) from rfl, den_eq]
    simp only [layF_eq t]
    rcases right_cases hr with ⟨hk, h⟩ | ⟨hk, h⟩ | ⟨hk, h⟩ | ⟨hk, h⟩ | ⟨hk, h⟩ | ⟨hk, h⟩ | ⟨hk, h⟩
    · simp [hk]; exact impl_id (fun _ _ => rfl) (fun _ _ => Iff.rfl)
    · simp only [hk, if_true]
      refine impl_one (fun tu => ⟨1, t.s0, t.s1, t.s2, t.s3, tu, 0⟩) (fun _ _ => rfl) (fun M tu x i j hM => ?_) (fun M tu x m i y k hM hy hP => ?_)
      · rintro ⟨h1, rfl, h2⟩
        have h3 : PthN M s 1 x i tu.toNat (i + 1) := .eat h1 (by rw [hM]; simpa [takes, bitS, wordN] using h2) (by rw [hM]; exact .refl _ _)
        exact ⟨1, h3⟩
      · cases hP with
        | refl => exact absurd rfl hy
        | eps he _ => rw [hM] at he; simp [outs] at he
        | eat h1 he h2 =>
          rw [hM] at he h2
          exact ⟨i + 1, _, Nat.le_succ _, ⟨h1, rfl, by simpa [takes, bitS, wordN] using he⟩, h2⟩
    · simp only [hk, show ¬ ((2 : Int) = 1) by omega, if_true, if_false]
      refine impl_one (fun tu => ⟨3, 0, 0, 0, 0, tu, 0⟩) (fun _ _ => rfl) (fun M tu x i j hM => ?_) (fun M tu x m i y k hM hy hP => ?_)
      · rintro ⟨rfl, rfl⟩
        exact Pth.eps1 (by rw [hM]; simp [outs])
      · cases hP with
        | refl => exact absurd rfl hy
        | eps he h2 =>
          rw [hM] at he
          simp only [outs] at he
          by_cases hi : i = 0
          · subst hi; simp at he; subst he; exact ⟨0, _, Nat.le_succ _, ⟨rfl, rfl⟩, h2⟩
          · simp [hi] at he
        | eat h1 he h2 => rw [hM] at he; simp [takes] at he
    · simp only [hk, show ¬ ((3 : Int) = 1) by omega, show ¬ ((3 : Int) = 2) by omega, if_true, if_false]
      refine impl_one (fun tu => ⟨4, 0, 0, 0, 0, tu, 0⟩) (fun _ _ => rfl) (fun M tu x i j hM => ?_) (fun M tu x m i y k hM hy hP => ?_)
      · rintro ⟨rfl, rfl⟩
        exact Pth.eps1 (by rw [hM]; simp [outs])
      · cases hP with
        | refl => exact absurd rfl hy
        | eps he h2 =>
          rw [hM] at he
          simp only [outs] at he
          by_cases hi : i = s.length
          · subst hi; simp at he; subst he; exact ⟨s.length, _, Nat.le_succ _, ⟨rfl, rfl⟩, h2⟩
          · simp [hi] at he
        | eat h1 he h2 => rw [hM] at he; simp [takes] at he
    · simp only [hk, show ¬ ((4 : Int) = 1) by omega, show ¬ ((4 : Int) = 2) by omega, show ¬ ((4 : Int) = 3) by omega, if_true, if_false]
      exact row_impl t.ps hps
    · simp only [hk, show ¬ ((5 : Int) = 1) by omega, show ¬ ((5 : Int) = 2) by omega, show ¬ ((5 : Int) = 3) by omega, show ¬ ((5 : Int) = 4) by omega, if_true, if_false]
      exact alt_impl t.ps h.1 hps
    · simp only [hk, show ¬ ((6 : Int) = 1) by omega, show ¬ ((6 : Int) = 2) by omega, show ¬ ((6 : Int) = 3) by omega, show ¬ ((6 : Int) = 4) by omega, show ¬ ((6 : Int) = 5) by omega, if_true, if_false]
      have hh : Impl s (headF t.ps) (denHead s t.ps) := by
        cases hq : t.ps with
        | nil => exact impl_id (fun _ _ => by rw [headF]) (fun _ _ => by rw [denHead])
        | cons p ps =>
          rw [show headF (p :: ps) = layF p by funext tu l; rw [headF], denHead]
          exact hps p (by rw [hq]; exact List.mem_cons_self ..)
      exact rep_impl hh t.mn t.mx h.2.1 (by omega)
end Go.Proofs.YtdpmbanfaigmcaaDoor

/- What is laid is a right machine: plain. -/
set_option linter.unusedVariables false
set_option linter.unusedSimpArgs false
namespace Go.Proofs.YtdpmbanfaigmcaaDoor
open Go.RowKit

/-- A state that is no end, among n. -/
structure OkS (n : Nat) (s : St) : Prop where
  k : s.k = 1 ∨ s.k = 2 ∨ s.k = 3 ∨ s.k = 4
  nx : 0 ≤ s.nx ∧ s.nx < n
  ot : (s.k = 2 → 0 ≤ s.ot ∧ s.ot < n) ∧ (s.k ≠ 2 → s.ot = 0)
  set : s.k ≠ 1 → s.s0 = 0 ∧ s.s1 = 0 ∧ s.s2 = 0 ∧ s.s3 = 0
theorem OkS.le {n m : Nat} {s : St} (h : OkS n s) (hnm : n ≤ m) : OkS m s := ⟨h.k, by have := h.nx; omega, ⟨fun e => by have := h.ot.1 e; omega, h.ot.2⟩, h.set⟩
/-- The end first, then right states. -/
structure Inv (l : List St) : Prop where
  zero : l[0]? = some ⟨5, 0, 0, 0, 0, 0, 0⟩
  rest : ∀ (i : Nat) (s : St), l[i]? = some s → i ≠ 0 → OkS l.length s
theorem Inv.pos {l : List St} (h : Inv l) : 0 < l.length := (List.getElem?_eq_some_iff.1 h.zero).1
theorem Inv.push {l : List St} (h : Inv l) {s : St} (hs : OkS (l.length + 1) s) : Inv (l ++ [s]) := by
  have hp := h.pos
  refine ⟨by rw [List.getElem?_append_left hp]; exact h.zero, fun i x hi h0 => ?_⟩
  rw [List.length_append]
  rcases Nat.lt_or_ge i l.length with hl | hl
  · rw [List.getElem?_append_left hl] at hi
    exact (h.rest i x hi h0).le (by simp)
  · rw [List.getElem?_append_right hl] at hi
    have : x = s := by
      have h1 := (List.getElem?_eq_some_iff.1 hi).1
      simp at h1
      rw [show i - l.length = 0 by omega] at hi
      simpa using hi.symm
    subst this
    exact hs
/-- A way of laying that keeps it right. -/
def Pres (p : LF) : Prop := ∀ (tu : Int) (l : List St), Inv l → 0 ≤ tu → tu < l.length → Inv (p tu l).2 ∧ 0 ≤ (p tu l).1 ∧ (p tu l).1 < (p tu l).2.length ∧ l.length ≤ (p tu l).2.length
theorem push_pres {tu : Int} {l : List St} (h : Inv l) (s : St) (hs : OkS (l.length + 1) s) : Inv (l ++ [s]) ∧ 0 ≤ (l.length : Int) ∧ (l.length : Int) < (l ++ [s]).length ∧ l.length ≤ (l ++ [s]).length :=
  ⟨h.push hs, by omega, by simp only [List.length_append, List.length_cons, List.length_nil]; omega, by simp⟩
theorem splitS_ok {n : Nat} {b tu : Int} (h1 : 0 ≤ b ∧ b < n) (h2 : 0 ≤ tu ∧ tu < n) : OkS n (splitS b tu) :=
  ⟨.inr (.inl rfl), h1, ⟨fun _ => h2, fun e => absurd rfl e⟩, fun _ => ⟨rfl, rfl, rfl, rfl⟩⟩
theorem splits_pres : ∀ (bs : List Int) (l : List St), bs ≠ [] → Inv l → (∀ b ∈ bs, 0 ≤ b ∧ b < l.length) → Inv (splitsF bs l).2 ∧ 0 ≤ (splitsF bs l).1 ∧ (splitsF bs l).1 < (splitsF bs l).2.length ∧ l.length ≤ (splitsF bs l).2.length
  | [], l, h, _, _ => absurd rfl h
  | [x], l, _, hI, hb => by
    have := hb x (List.mem_cons_self ..)
    rw [splitsF]; exact ⟨hI, this.1, this.2, Nat.le_refl _⟩
  | a :: b :: bs, l, _, hI, hb => by
    obtain ⟨h1, h2, h3, h4⟩ := splits_pres (b :: bs) l (by simp) hI (fun x hx => hb x (List.mem_cons_of_mem _ hx))
    have ha := hb a (List.mem_cons_self ..)
    rw [splitsF]
    · obtain ⟨g1, g2, g3, g4⟩ := push_pres (tu := 0) h1 (splitS a (splitsF (b :: bs) l).1) (splitS_ok ⟨ha.1, by omega⟩ ⟨h2, by omega⟩)
      exact ⟨g1, g2, g3, by simp only at g4 ⊢; omega⟩
    · simp
theorem opt_pres {p : LF} (hp : Pres p) {tu : Int} (h0 : 0 ≤ tu) : ∀ (n : Nat) (t : Int) (l : List St), Inv l → tu < l.length → 0 ≤ t → t < l.length → Inv (optF p tu n t l).2 ∧ 0 ≤ (optF p tu n t l).1 ∧ (optF p tu n t l).1 < (optF p tu n t l).2.length ∧ l.length ≤ (optF p tu n t l).2.length
  | 0, t, l, hI, _, h1, h2 => by rw [optF]; exact ⟨hI, h1, h2, Nat.le_refl _⟩
  | n + 1, t, l, hI, ht, h1, h2 => by
    obtain ⟨a1, a2, a3, a4⟩ := hp t l hI h1 h2
    obtain ⟨g1, g2, g3, g4⟩ := push_pres (tu := 0) a1 (splitS (p t l).1 tu) (splitS_ok ⟨a2, by omega⟩ ⟨h0, by omega⟩)
    obtain ⟨b1, b2, b3, b4⟩ := opt_pres hp h0 n _ _ g1 (by omega) g2 g3
    rw [optF]
    exact ⟨b1, b2, b3, by omega⟩
theorem min_pres {p : LF} (hp : Pres p) : ∀ n, Pres (minF p n)
  | 0, t, l, hI, h1, h2 => by rw [minF]; exact ⟨hI, h1, h2, Nat.le_refl _⟩
  | n + 1, t, l, hI, h1, h2 => by
    obtain ⟨a1, a2, a3, a4⟩ := hp t l hI h1 h2
    rw [minF]
    split
    · exact ⟨a1, a2, a3, a4⟩
    · obtain ⟨b1, b2, b3, b4⟩ := min_pres hp n _ _ a1 a2 a3
      exact ⟨b1, b2, b3, by omega⟩
theorem setNx_inv {l : List St} (h : Inv l) {i : Nat} (hi : i ≠ 0) {x : Int} (hx : 0 ≤ x ∧ x < l.length) : Inv (setNx l i x) := by
  have hl : (setNx l i x).length = l.length := by simp [setNx]
  refine ⟨?_, fun j s hj h0 => ?_⟩
  · simp only [setNx, List.getElem?_modify, if_neg hi]
    rw [h.zero]; rfl
  · rw [hl]
    rw [setNx, List.getElem?_modify] at hj
    split at hj
    · obtain ⟨y, hy, rfl⟩ := Option.map_eq_some_iff.1 hj
      have := h.rest j y hy h0
      exact ⟨this.k, hx, this.ot, this.set⟩
    · exact h.rest j s (by simpa using hj) h0
theorem star_pres {p : LF} (hp : Pres p) : Pres (starF p) := fun tu l hI h1 h2 => by
  have hpos := hI.pos
  obtain ⟨g1, g2, g3, g4⟩ := push_pres (tu := 0) hI (splitS 0 tu) (splitS_ok ⟨by omega, by omega⟩ ⟨h1, by omega⟩)
  obtain ⟨a1, a2, a3, a4⟩ := hp l.length _ g1 g2 g3
  simp only [List.length_append, List.length_cons, List.length_nil] at a4
  refine ⟨setNx_inv a1 (by omega) ⟨a2, a3⟩, by simp only [starF]; omega, ?_, ?_⟩
  · simp only [starF, setNx, List.length_modify]; omega
  · simp only [starF, setNx, List.length_modify]; omega
theorem rep_pres {p : LF} (hp : Pres p) (mn mx : Int) : Pres (repF mn mx p) := fun tu l hI h1 h2 => by
  unfold repF
  simp only
  split
  · obtain ⟨a1, a2, a3, a4⟩ := star_pres hp tu l hI h1 h2
    obtain ⟨b1, b2, b3, b4⟩ := min_pres hp mn.toNat _ _ a1 a2 a3
    exact ⟨b1, b2, b3, by omega⟩
  · obtain ⟨a1, a2, a3, a4⟩ := opt_pres hp h1 (mx - mn).toNat tu l hI h2 h1 h2
    obtain ⟨b1, b2, b3, b4⟩ := min_pres hp mn.toNat _ _ a1 a2 a3
    exact ⟨b1, b2, b3, by omega⟩
theorem row_pres : ∀ (ps : List T), (∀ p ∈ ps, Pres (layF p)) → Pres (rowF ps)
  | [], _, tu, l, hI, h1, h2 => by rw [rowF]; exact ⟨hI, h1, h2, Nat.le_refl _⟩
  | p :: ps, h, tu, l, hI, h1, h2 => by
    obtain ⟨a1, a2, a3, a4⟩ := row_pres ps (fun q hq => h q (List.mem_cons_of_mem _ hq)) tu l hI h1 h2
    obtain ⟨b1, b2, b3, b4⟩ := h p (List.mem_cons_self ..) _ _ a1 a2 a3
    rw [rowF]
    exact ⟨b1, b2, b3, by omega⟩
theorem beg_pres : ∀ (ps : List T), (∀ p ∈ ps, Pres (layF p)) → ∀ (tu : Int) (l : List St), Inv l → 0 ≤ tu → tu < l.length → Inv (begF ps tu l).2 ∧ (∀ b ∈ (begF ps tu l).1, 0 ≤ b ∧ b < (begF ps tu l).2.length) ∧ l.length ≤ (begF ps tu l).2.length
  | [], _, tu, l, hI, h1, h2 => by rw [begF]; exact ⟨hI, fun b hb => (List.not_mem_nil hb).elim, Nat.le_refl _⟩
  | p :: ps, h, tu, l, hI, h1, h2 => by
    obtain ⟨a1, a2, a3, a4⟩ := h p (List.mem_cons_self ..) tu l hI h1 h2
    obtain ⟨b1, b2, b3⟩ := beg_pres ps (fun q hq => h q (List.mem_cons_of_mem _ hq)) tu _ a1 h1 (by omega)
    rw [begF]
    refine ⟨b1, fun b hb => ?_, by simp only; omega⟩
    cases hb with
    | head => simp only; omega
    | tail _ hb => exact b2 b hb
theorem lay_pres (t : T) : rightF t = true → Pres (layF t) := by
  induction t using T.ind with
  | h t ih =>
    intro hr tu l hI h1 h2
    have hps : ∀ p ∈ t.ps, Pres (layF p) := fun p hp => ih p hp (right_parts hr p hp)
    rw [layF_eq]
    rcases right_cases hr with ⟨hk, h⟩ | ⟨hk, h⟩ | ⟨hk, h⟩ | ⟨hk, h⟩ | ⟨hk, h⟩ | ⟨hk, h⟩ | ⟨hk, h⟩
    · simp only [hk]; simp; exact ⟨hI, h1, h2⟩
    · simp only [hk, if_true]
      exact push_pres (tu := 0) hI _ ⟨.inl rfl, ⟨h1, by simp only; omega⟩, ⟨fun e => by simp at e, fun _ => rfl⟩, fun e => absurd rfl e⟩
    · simp only [hk, show ¬ ((2 : Int) = 1) by omega, if_true, if_false]
      exact push_pres (tu := 0) hI _ ⟨.inr (.inr (.inl rfl)), ⟨h1, by simp only; omega⟩, ⟨fun e => by simp at e, fun _ => rfl⟩, fun _ => ⟨rfl, rfl, rfl, rfl⟩⟩
    · simp only [hk, show ¬ ((3 : Int) = 1) by omega, show ¬ ((3 : Int) = 2) by omega, if_true, if_false]
      exact push_pres (tu := 0) hI _ ⟨.inr (.inr (.inr rfl)), ⟨h1, by simp only; omega⟩, ⟨fun e => by simp at e, fun _ => rfl⟩, fun _ => ⟨rfl, rfl, rfl, rfl⟩⟩
    · simp only [hk, show ¬ ((4 : Int) = 1) by omega, show ¬ ((4 : Int) = 2) by omega, show ¬ ((4 : Int) = 3) by omega, if_true, if_false]
      exact row_pres t.ps hps tu l hI h1 h2
    · simp only [hk, show ¬ ((5 : Int) = 1) by omega, show ¬ ((5 : Int) = 2) by omega, show ¬ ((5 : Int) = 3) by omega, show ¬ ((5 : Int) = 4) by omega, if_true, if_false]
      obtain ⟨b1, b2, b3⟩ := beg_pres t.ps hps tu l hI h1 h2
      have hne : (begF t.ps tu l).1 ≠ [] := fun e => by have := begF_len t.ps tu l; rw [e] at this; simp at this; omega
      obtain ⟨c1, c2, c3, c4⟩ := splits_pres _ _ hne b1 b2
      exact ⟨c1, c2, c3, by omega⟩
    · simp only [hk, show ¬ ((6 : Int) = 1) by omega, show ¬ ((6 : Int) = 2) by omega, show ¬ ((6 : Int) = 3) by omega, show ¬ ((6 : Int) = 4) by omega, show ¬ ((6 : Int) = 5) by omega, if_true, if_false]
      obtain ⟨p, hp, hh⟩ := headF_eq t.ps h.1
      rw [hh]
      exact rep_pres (hps p (by rw [hp]; exact List.mem_cons_self ..)) _ _ tu l hI h1 h2
theorem make_inv {t : T} (h : sizeE t = 0) : Inv (makeL t) ∧ 0 ≤ makeS t ∧ makeS t < (makeL t).length := by
  have hr := (sizeE_zero h).1
  rw [makeL, makeS, if_pos h, if_pos h]
  obtain ⟨a1, a2, a3, a4⟩ := lay_pres t hr 0 [⟨5, 0, 0, 0, 0, 0, 0⟩] ⟨rfl, fun i s hi h0 => by
    have := (List.getElem?_eq_some_iff.1 hi).1
    simp at this
    exact absurd this h0⟩ (by omega) (by simp)
  exact ⟨a1, a2, a3⟩
theorem make_check {t : T} (h : sizeE t = 0) : mcheck (makeL t) (makeS t) = 0 := by
  obtain ⟨hI, h1, h2⟩ := make_inv h
  have hle := makeL_le t
  rw [mcheck, if_pos ⟨by omega, by simp [inR]; omega⟩, if_pos]
  rw [List.all_eq_true]
  intro s hs
  obtain ⟨i, hi, rfl⟩ := List.getElem_of_mem hs
  by_cases h0 : i = 0
  · subst h0
    have hz := hI.zero
    rw [List.getElem?_eq_getElem hi] at hz
    simp only [Option.some.injEq] at hz
    rw [hz]; rfl
  · have ho := hI.rest i _ (List.getElem?_eq_getElem hi) h0
    have hnx : inR (makeL t).length (makeL t)[i].nx = true := by simp [inR]; exact ho.nx
    unfold okSt
    rcases ho.k with e | e | e | e
    · rw [if_neg (by omega), if_pos (by omega)]; exact hnx
    · have hot : inR (makeL t).length (makeL t)[i].ot = true := by simp [inR]; exact ho.ot.1 e
      rw [if_neg (by omega), if_neg (by omega), if_pos e, hnx, hot]; rfl
    · rw [if_neg (by omega), if_pos (by omega)]; exact hnx
    · rw [if_neg (by omega), if_pos (by omega)]; exact hnx
end Go.Proofs.YtdpmbanfaigmcaaDoor

/- The matcher goes over just the ways of its machine; of a tree's machine: over what the tree describes. Plain. -/
set_option linter.unusedVariables false
set_option linter.unusedSimpArgs false
namespace Go.Proofs.YtdpmbanfaigmcaaDoor
open Go.RowKit

def setF (l : List St) (sa : Int) (subj : List UInt8) : Nat → List Nat
  | 0 => stepF l sa subj 0 []
  | j + 1 => stepF l sa subj (j + 1) (setF l sa subj j)
theorem Rch.pth {l : List St} {s : List UInt8} {x y i : Nat} (h : Rch l (i == 0) (i == s.length) x y) : Pth (stN l) s x i y i := by
  induction h with
  | refl => exact .refl _ _
  | step _ hk ih => exact ih.trans (Pth.eps1 hk)
theorem step_mem {l : List St} {sa : Int} (hm : MOk l sa) (subj : List UInt8) (at_ : Nat) {now : List Nat} (hl : ∀ x ∈ now, x < l.length) :
    Good l (at_ == 0) (at_ == subj.length) (stepF l sa subj at_ now) ∧ ∀ y, y ∈ stepF l sa subj at_ now ↔ Rch l (at_ == 0) (at_ == subj.length) sa.toNat y ∨ ∃ i ∈ now, takes (stN l i) (byteN subj at_) = true ∧ Rch l (at_ == 0) (at_ == subj.length) (stN l i).nx.toNat y := by
  obtain ⟨g1, g2⟩ := add_spec (hm.outs (at_ == 0) (at_ == subj.length)) (good_nil l _ _) hm.start
  obtain ⟨h1, h2⟩ := foldF_spec hm _ _ (byteN subj at_) now _ hl g1
  refine ⟨h1, fun y => ?_⟩
  unfold stepF
  rw [h2 y, g2 y]
  simp
theorem set_good {l : List St} {sa : Int} (hm : MOk l sa) (subj : List UInt8) : ∀ j, Good l (j == 0) (j == subj.length) (setF l sa subj j) ∧ sa.toNat ∈ setF l sa subj j
  | 0 => by
    obtain ⟨h1, h2⟩ := step_mem hm subj 0 (now := []) (by simp)
    exact ⟨h1, (h2 _).2 (.inl .refl)⟩
  | j + 1 => by
    obtain ⟨h1, h2⟩ := step_mem hm subj (j + 1) (set_good hm subj j).1.lt
    exact ⟨h1, (h2 _).2 (.inl .refl)⟩
theorem set_way {l : List St} {sa : Int} (hm : MOk l sa) (subj : List UInt8) {m x i y j : Nat} (h : PthN (stN l) subj m x i y j) : x ∈ setF l sa subj i → y ∈ setF l sa subj j := by
  induction h with
  | refl => exact id
  | @eps m x i z y k he _ ih => exact fun hx => ih ((set_good hm subj i).1.closed x hx z he)
  | @eat m x i y k hi he _ ih =>
    intro hx
    refine ih ?_
    have := (step_mem hm subj (i + 1) (set_good hm subj i).1.lt).2
    exact (this _).2 (.inr ⟨x, hx, he, .refl⟩)
theorem set_from {l : List St} {sa : Int} (hm : MOk l sa) (subj : List UInt8) : ∀ j, j ≤ subj.length → ∀ y, y ∈ setF l sa subj j → ∃ i, i ≤ j ∧ Pth (stN l) subj sa.toNat i y j
  | 0, _, y, hy => by
    have := ((step_mem hm subj 0 (now := []) (by simp)).2 y).1 hy
    rcases this with h | ⟨i, hi, _⟩
    · exact ⟨0, Nat.le_refl _, h.pth⟩
    · cases hi
  | j + 1, hj, y, hy => by
    have := ((step_mem hm subj (j + 1) (set_good hm subj j).1.lt).2 y).1 hy
    rcases this with h | ⟨x, hx, ht, h⟩
    · exact ⟨j + 1, Nat.le_refl _, h.pth⟩
    · obtain ⟨i, hi, hp⟩ := set_from hm subj j (by omega) x hx
      have h1 : Pth (stN l) subj x j (stN l x).nx.toNat (j + 1) := ⟨1, .eat (by omega) ht (.refl _ _)⟩
      exact ⟨i, by omega, (hp.trans h1).trans h.pth⟩
theorem over_found {l : List St} {sa : Int} (subj : List UInt8) : ∀ (k at_ : Nat) (now : List Nat) (s : Int), stepF l sa subj at_ now = setF l sa subj at_ → ((overF l sa subj k at_ now s).1 = true ↔ ∃ j, at_ ≤ j ∧ j < at_ + k ∧ doneF l (setF l sa subj j) = true)
  | 0, at_, now, s, _ => by
    rw [overF]
    exact ⟨fun h => (Bool.false_ne_true h).elim, fun ⟨j, h1, h2, _⟩ => by omega⟩
  | k + 1, at_, now, s, hs => by
    rw [overF, hs]
    split
    · rename_i hd
      exact ⟨fun _ => ⟨at_, Nat.le_refl _, by omega, hd⟩, fun _ => rfl⟩
    · rename_i hd
      rw [over_found subj k (at_ + 1) _ _ rfl]
      constructor
      · rintro ⟨j, h1, h2, h3⟩; exact ⟨j, by omega, by omega, h3⟩
      · rintro ⟨j, h1, h2, h3⟩
        have : j ≠ at_ := fun e => by subst e; exact hd h3
        exact ⟨j, by omega, by omega, h3⟩
/-- Found: there is a way tu an end. -/
theorem found_way {l : List St} {sa : Int} (hm : MOk l sa) (subj : List UInt8) : (overF l sa subj (subj.length + 1) 0 [] 0).1 = true ↔ ∃ i j y, j ≤ subj.length ∧ y < l.length ∧ (stN l y).k = 5 ∧ Pth (stN l) subj sa.toNat i y j := by
  rw [over_found subj _ _ _ _ rfl]
  constructor
  · rintro ⟨j, _, h2, h3⟩
    unfold doneF at h3
    rw [List.any_eq_true] at h3
    obtain ⟨y, hy, hk⟩ := h3
    obtain ⟨i, _, hp⟩ := set_from hm subj j (by omega) y hy
    exact ⟨i, j, y, by omega, (set_good hm subj j).1.lt y hy, by simpa using hk, hp⟩
  · rintro ⟨i, j, y, h1, _, h2, m, hp⟩
    refine ⟨j, by omega, by omega, ?_⟩
    unfold doneF
    rw [List.any_eq_true]
    exact ⟨y, set_way hm subj hp (set_good hm subj i).2, by simpa using h2⟩
/-- Of a tree's machine: the tree describes a piece. -/
theorem found_iff {t : T} (h : sizeE t = 0) (subj : List UInt8) : (overF (makeL t) (makeS t) subj (subj.length + 1) 0 [] 0).1 = true ↔ ∃ i j, i ≤ subj.length ∧ den subj t i j := by
  have hm := mok_of (make_check h)
  obtain ⟨hI, _, _⟩ := make_inv h
  have hz := hI.zero
  have hI1 := lay_impl subj t (sizeE_zero h).1
  have e1 : makeL t = (layF t 0 [⟨5, 0, 0, 0, 0, 0, 0⟩]).2 := if_pos h
  have e2 : makeS t = (layF t 0 [⟨5, 0, 0, 0, 0, 0, 0⟩]).1 := if_pos h
  have h0 : stN (makeL t) 0 = ⟨5, 0, 0, 0, 0, 0, 0⟩ := by unfold stN; rw [List.getD_eq_getElem?_getD, hz]; rfl
  have hag : Agr (stN (makeL t)) (layF t 0 [⟨5, 0, 0, 0, 0, 0, 0⟩]).2 ([⟨5, 0, 0, 0, 0, 0, 0⟩] : List St).length := fun i _ _ => by rw [e1]
  rw [found_way hm]
  constructor
  · rintro ⟨i, j, y, h1, h2, h3, m, hp⟩
    have hy : y = 0 := by
      rcases Nat.eq_zero_or_pos y with e | e
      · exact e
      · have hg : (makeL t)[y]? = some (makeL t)[y] := List.getElem?_eq_getElem h2
        have := (hI.rest y _ hg (by omega)).k
        have e3 : stN (makeL t) y = (makeL t)[y] := by unfold stN; rw [List.getD_eq_getElem?_getD, hg]; rfl
        rw [e3] at h3
        omega
    subst hy
    have hij := hp.le
    rw [e2] at hp
    obtain ⟨k, m', _, hr, _⟩ := hI1.sound 0 _ (Int.le_refl _) (by simp) _ hag m i 0 j (.inl (by simp)) hp
    exact ⟨i, k, by omega, hr⟩
  · rintro ⟨i, j, hi, hd⟩
    have hp := hI1.comp 0 _ (Int.le_refl _) (by simp) _ hag i j hd
    rw [← e2] at hp
    obtain ⟨m, hp⟩ := hp
    exact ⟨i, j, 0, hp.bd hi, hI.pos, by rw [h0], m, hp⟩
end Go.Proofs.YtdpmbanfaigmcaaDoor

/- Patterns joined: what is found. Plain. -/
set_option linter.unusedVariables false
set_option linter.unusedSimpArgs false
namespace Go.Proofs.YtdpmbanfaigmcaaDoor
open Go.RowKit

theorem has_make2 {t : T} (h : sizeE t = 0) (subj : Bs) (hl : subj.length ≤ 65536) : (hasF (makeL t) (makeS t) subj).2.2 = 0 ∧ ((hasF (makeL t) (makeS t) subj).1 = true ↔ ∃ i j, i ≤ subj.length ∧ den subj t i j) := by
  have hck := make_check h
  have hres : hasF (makeL t) (makeS t) subj = ((overF (makeL t) (makeS t) subj (subj.length + 1) 0 [] 0).1, (overF (makeL t) (makeS t) subj (subj.length + 1) 0 [] 0).2, 0) := by rw [hasF, if_neg (by simpa using hck), if_neg (by omega)]
  rw [hres]
  exact ⟨rfl, found_iff h subj⟩
theorem find_ok {p : Bs} {t : T} (hp : parseP p = .ok t) (hs : sizeE t = 0) (s : Bs) (hl : s.length ≤ 65536) : (findF p s).2.2 = 0 ∧ ((findF p s).1 = true ↔ ∃ i j, i ≤ s.length ∧ den s t i j) := by
  have e1 : compE p = 0 := by unfold compE; rw [hp]; exact hs
  have e2 : compL p = makeL t := by unfold compL; rw [hp]
  have e3 : compS p = makeS t := by unfold compS; rw [hp]
  have hf : findF p s = hasF (makeL t) (makeS t) s := by unfold findF; rw [if_neg (by simpa using e1), e2, e3]
  rw [hf]
  exact has_make2 hs s hl
theorem find_zero {p s : Bs} (h : (findF p s).2.2 = 0) : ∃ t, parseP p = .ok t ∧ sizeE t = 0 := by
  cases hp : parseP p with
  | ok t =>
    refine ⟨t, rfl, ?_⟩
    by_cases hc : compE p = 0
    · unfold compE at hc; rw [hp] at hc; exact hc
    · have hf : findF p s = (false, 0, compE p) := by unfold findF; rw [if_pos hc]
      rw [hf] at h
      exact absurd h hc
  | error e =>
    exfalso
    by_cases hc : compE p = 0
    · have e2 : compL p = [] := by unfold compL; rw [hp]
      have e3 : compS p = 0 := by unfold compS; rw [hp]
      have hf : findF p s = (false, 0, 110) := by
        unfold findF
        rw [if_neg (by simpa using hc), e2, e3]
        rfl
      rw [hf] at h
      cases h
    · have hf : findF p s = (false, 0, compE p) := by unfold findF; rw [if_pos hc]
      rw [hf] at h
      exact hc h
theorem find_lim {p : Bs} {t : T} (hp : parseP p = .ok t) (hr : rightF t = true) (s : Bs) : sizeE t = 0 ∨ (findF p s).2.2 = 3 := by
  have hc : compE p = sizeE t := by unfold compE; rw [hp]
  by_cases h0 : sizeE t = 0
  · exact .inl h0
  · refine .inr ?_
    have hf : findF p s = (false, 0, compE p) := by unfold findF; rw [if_pos (by rw [hc]; exact h0)]
    rw [hf, hc]
    show sizeE t = 3
    have e : checkF t = 0 ∨ checkF t = 3 := by
      unfold checkF
      rw [if_pos hr]
      split
      · exact .inr rfl
      · exact .inl rfl
    unfold sizeE at h0 ⊢
    rcases e with e | e
    · rw [e] at h0 ⊢
      rw [if_neg (by simp)] at h0 ⊢
      split
      · rfl
      · rename_i h2; rw [if_neg h2] at h0; exact absurd rfl h0
    · rw [e, if_pos (by decide)]
theorem find_err {p s : Bs} (hp : parseP p = .error 3) : (findF p s).2.2 = 3 := by
  have hc : compE p = 3 := by unfold compE; rw [hp]
  unfold findF
  rw [if_pos (by rw [hc]; decide), hc]
/-- A joined pattern: beyond a limit, or it is found so. -/
theorem find_join {p : Bs} {t : T} (hp : parseP p = .ok t ∨ parseP p = .error 3) (hr : rightF t = true) (s : Bs) (hl : s.length ≤ 65536) (v : Bool) (hv : (∃ i j, i ≤ s.length ∧ den s t i j) ↔ v = true) :
    (findF p s).2.2 = 3 ∨ ((findF p s).2.2 = 0 ∧ (findF p s).1 = v) := by
  rcases hp with hp | hp
  · rcases find_lim hp hr s with h | h
    · obtain ⟨r1, r2⟩ := find_ok hp h s hl
      exact .inr ⟨r1, by rw [Bool.eq_iff_iff, r2, hv]⟩
    · exact .inl h
  · exact .inl (find_err hp)
theorem right_rep {m n : Int} {x : T} (hx : rightF x = true) (h0 : 0 ≤ m) (h1 : max m n ≤ 255) (h2 : n = -1 ∨ m ≤ n) : rightF (repT m n x) = true := by
  unfold repT
  rw [rightF]
  rw [if_neg (by simp), if_neg (by decide), if_neg (by decide), if_pos rfl, if_neg (by simp; omega)]
  simp [rightL, hx]
theorem den_rep {s : Bs} {m n : Int} {x : T} {i j : Nat} : den s (repT m n x) i j ↔ ∃ k : Nat, m.toNat ≤ k ∧ (n < 0 ∨ k ≤ n.toNat) ∧ powR (den s x) k i j := by
  unfold repT
  rw [den]
  simp [denHead]
theorem joins_plain {a b s : Bs} (la : a.length ≤ 300) (lb : b.length ≤ 300) (ls : s.length ≤ 60) (ha : (findF a s).2.2 = 0) (hb : (findF b s).2.2 = 0) :
    ((findF (40 :: (a ++ 41 :: (124 :: 40 :: (b ++ [41])))) s).2.2 = 3 ∨ ((findF (40 :: (a ++ 41 :: (124 :: 40 :: (b ++ [41])))) s).2.2 = 0 ∧ (findF (40 :: (a ++ 41 :: (124 :: 40 :: (b ++ [41])))) s).1 = ((findF a s).1 || (findF b s).1))) ∧
    ((findF (40 :: (a ++ 41 :: [123, 49, 125])) s).2.2 = 3 ∨ ((findF (40 :: (a ++ 41 :: [123, 49, 125])) s).2.2 = 0 ∧ (findF (40 :: (a ++ 41 :: [123, 49, 125])) s).1 = (findF a s).1)) ∧
    ((findF (40 :: (a ++ 41 :: [43])) s).2.2 = 3 ∨ ((findF (40 :: (a ++ 41 :: [43])) s).2.2 = 0 ∧ (findF (40 :: (a ++ 41 :: [43])) s).1 = (findF a s).1)) ∧
    ((findF (40 :: (b ++ 41 :: [63])) s).2.2 = 3 ∨ ((findF (40 :: (b ++ 41 :: [63])) s).2.2 = 0 ∧ (findF (40 :: (b ++ 41 :: [63])) s).1 = true)) := by
  obtain ⟨x, hx, sx⟩ := find_zero ha
  obtain ⟨y, hy, sy⟩ := find_zero hb
  have rx := (sizeE_zero sx).1
  have ry := (sizeE_zero sy).1
  obtain ⟨_, fx⟩ := find_ok hx sx s (by omega)
  obtain ⟨_, fy⟩ := find_ok hy sy s (by omega)
  refine ⟨find_join (t := .mk 5 0 0 0 0 0 0 [x, y]) (parse_alt hx hy (by omega)) ?_ s (by omega) _ ?_, find_join (t := repT 1 1 x) (parse_times (q := [123, 49, 125]) hx (by simp; omega) (fun k t => suf_once k t)) (right_rep rx (by decide) (by decide) (.inr (by decide))) s (by omega) _ ?_,
    find_join (t := repT 1 (-1) x) (parse_times (q := [43]) hx (by simp; omega) (fun k t => suf_plus k t)) (right_rep rx (by decide) (by decide) (.inl rfl)) s (by omega) _ ?_, find_join (t := repT 0 1 y) (parse_times (q := [63]) hy (by simp; omega) (fun k t => suf_quest k t)) (right_rep ry (by decide) (by decide) (.inr (by decide))) s (by omega) _ ?_⟩
  · rw [rightF]
    simp [rightL, rx, ry]
  · rw [Bool.or_eq_true, fx, fy]
    have e : ∀ i j, den s (.mk 5 0 0 0 0 0 0 [x, y]) i j ↔ den s x i j ∨ den s y i j := fun i j => by rw [den]; simp [denAlt]
    constructor
    · rintro ⟨i, j, hi, h⟩
      rcases (e i j).1 h with h | h
      · exact .inl ⟨i, j, hi, h⟩
      · exact .inr ⟨i, j, hi, h⟩
    · rintro (⟨i, j, hi, h⟩ | ⟨i, j, hi, h⟩)
      · exact ⟨i, j, hi, (e i j).2 (.inl h)⟩
      · exact ⟨i, j, hi, (e i j).2 (.inr h)⟩
  · rw [fx]
    constructor
    · rintro ⟨i, j, hi, h⟩
      obtain ⟨k, h1, h2, h3⟩ := den_rep.1 h
      have : k = 1 := by have : (1 : Int).toNat = 1 := rfl; omega
      subst this
      obtain ⟨m, h4, h5⟩ := h3
      have h5 : m = j := h5
      subst h5
      exact ⟨i, _, hi, h4⟩
    · rintro ⟨i, j, hi, h⟩
      exact ⟨i, j, hi, den_rep.2 ⟨1, Nat.le_refl _, .inr (Nat.le_refl _), j, h, rfl⟩⟩
  · rw [fx]
    constructor
    · rintro ⟨i, j, hi, h⟩
      obtain ⟨k, h1, h2, h3⟩ := den_rep.1 h
      obtain ⟨k', rfl⟩ : ∃ k', k = k' + 1 := ⟨k - 1, by have : (1 : Int).toNat = 1 := rfl; omega⟩
      obtain ⟨m, h4, h5⟩ := h3
      exact ⟨i, m, hi, h4⟩
    · rintro ⟨i, j, hi, h⟩
      exact ⟨i, j, hi, den_rep.2 ⟨1, Nat.le_refl _, .inl (by decide), j, h, rfl⟩⟩
  · refine ⟨fun _ => rfl, fun _ => ⟨0, 0, Nat.zero_le _, den_rep.2 ⟨0, Nat.le_refl _, .inr (Nat.zero_le _), rfl⟩⟩⟩
end Go.Proofs.YtdpmbanfaigmcaaDoor

/- What reads well is a tree that may be, plain. -/
set_option linter.unusedVariables false
set_option linter.unusedSimpArgs false
namespace Go.Proofs.YtdpmbanfaigmcaaDoor
open Go.RowKit

/-- A tree that may be, at most so many nodes. -/
def Fine (n : T) (m : Int) : Prop := rightF n = true ∧ Words n ∧ nodesF n ≤ m
def FineG (f : Bs → PT) : Prop := ∀ r n r1, f r = .ok (n, r1) → r1.length < r.length ∧ Fine n (2 * ((r.length : Int) - r1.length) - 1)
theorem Fine.mono {n : T} {m m' : Int} (h : Fine n m) (k : m ≤ m') : Fine n m' := ⟨h.1, h.2.1, Int.le_trans h.2.2 k⟩
theorem takeF_len {q r r' : Bs} (h : takeP q r = some r') : r'.length + q.length = r.length := takeP_len h
theorem items_fine : ∀ (k : Nat) {s s' : W4} {r r' : Bs}, Wok s → itemsP k s r = .ok (s', r') → Wok s' ∧ r'.length < r.length
  | 0, _, _, _, _, _, h => by simp [itemsP] at h
  | k + 1, s, s', r, r', hs, h => by
    rw [itemsP] at h
    cases hi : itemP s r with
    | error e => rw [hi] at h; simp at h
    | ok v =>
      obtain ⟨s1, r1⟩ := v
      rw [hi] at h
      have h1 := item_ok hs hi
      have h2 := item_lt hi
      simp only at h
      cases ht : takeP [93] r1 with
      | some r2 =>
        rw [ht] at h
        simp only [Except.ok.injEq, Prod.mk.injEq] at h
        obtain ⟨rfl, rfl⟩ := h
        have := takeP_len ht
        exact ⟨h1, by omega⟩
      | none =>
        rw [ht] at h
        have := items_fine k h1 h
        exact ⟨this.1, by omega⟩
theorem bracket_fine {s : W4} {r r' : Bs} (h : bracketP r = .ok (s, r')) : Wok s ∧ r'.length < r.length := by
  unfold bracketP at h
  cases ht : takeP [94] r with
  | none => rw [ht] at h; exact items_fine _ wok0 h
  | some r1 =>
    rw [ht] at h
    have := takeP_len ht
    simp only at h
    cases hi : itemsP (r1.length + 1) w40 r1 with
    | error e => rw [hi] at h; simp at h
    | ok v =>
      obtain ⟨s1, r2⟩ := v
      rw [hi] at h
      simp only [Except.ok.injEq, Prod.mk.injEq] at h
      obtain ⟨rfl, rfl⟩ := h
      have := items_fine _ wok0 hi
      exact ⟨not_ok this.1, by omega⟩
theorem fine_leaf (k : Int) (hk : k = 0 ∨ k = 2 ∨ k = 3) : Fine (.mk k 0 0 0 0 0 0 []) 1 := by
  refine ⟨?_, .mk _ wok0 (fun p hp => by cases hp), by rw [nodesF, nodesL]; omega⟩
  rcases hk with rfl | rfl | rfl <;> decide
theorem fine_set {s : W4} (h : Wok s) : Fine s.T 1 := by
  refine ⟨?_, .mk _ h (fun p hp => by cases hp), by unfold W4.T; rw [nodesF, nodesL]; omega⟩
  unfold W4.T
  rw [rightF]
  simp
theorem atom_fine {grp : Bs → PT} (hg : FineG grp) : FineG (atomP grp) := fun r n r1 h => by
  unfold atomP at h
  cases r with
  | nil => simp at h
  | cons c t =>
    simp only at h
    split at h
    · have := hg _ _ _ h
      exact ⟨by simp; omega, this.2.mono (by simp; omega)⟩
    split at h
    · simp only [Except.ok.injEq, Prod.mk.injEq] at h
      obtain ⟨rfl, rfl⟩ := h
      exact ⟨by simp, (fine_leaf 2 (by simp)).mono (by simp; omega)⟩
    split at h
    · simp only [Except.ok.injEq, Prod.mk.injEq] at h
      obtain ⟨rfl, rfl⟩ := h
      exact ⟨by simp, (fine_leaf 3 (by simp)).mono (by simp; omega)⟩
    split at h
    · cases hb : bracketP t with
      | error e => rw [hb] at h; simp at h
      | ok v =>
        obtain ⟨s, r2⟩ := v
        rw [hb] at h
        simp only [Except.ok.injEq, Prod.mk.injEq] at h
        obtain ⟨rfl, rfl⟩ := h
        have := bracket_fine hb
        exact ⟨by simp; omega, (fine_set this.1).mono (by simp; omega)⟩
    split at h
    · simp only [Except.ok.injEq, Prod.mk.injEq] at h
      obtain ⟨rfl, rfl⟩ := h
      exact ⟨by simp, (fine_set (span_spec wok0 0 256 (by omega)).1).mono (by simp; omega)⟩
    split at h
    · simp at h
    split at h
    · cases t with
      | nil => simp at h
      | cons x t' =>
        simp only [Except.ok.injEq, Prod.mk.injEq] at h
        obtain ⟨rfl, rfl⟩ := h
        exact ⟨by simp; omega, (fine_set (add_ok wok0 _ x.toNat_lt)).mono (by simp; omega)⟩
    · simp only [Except.ok.injEq, Prod.mk.injEq] at h
      obtain ⟨rfl, rfl⟩ := h
      exact ⟨by simp, (fine_set (add_ok wok0 _ c.toNat_lt)).mono (by simp; omega)⟩
theorem fine_rep {m n : Int} {x : T} {k : Int} (hx : Fine x k) (h0 : 0 ≤ m) (h1 : max m n ≤ 255) (h2 : n = -1 ∨ m ≤ n) : Fine (repT m n x) (k + 1) := by
  obtain ⟨a, b, c⟩ := hx
  refine ⟨?_, .mk _ wok0 (fun p hp => by rw [show (repT m n x).ps = [x] from rfl, List.mem_singleton] at hp; subst hp; exact b), by unfold repT; rw [nodesF, nodesL, nodesL]; omega⟩
  unfold repT
  rw [rightF, rightL, rightL, a]
  simp
  omega
theorem number_fine {r r' : Bs} {n : Int} (h : numberP r = .ok (n, r')) : 0 ≤ n ∧ n ≤ 255 := by
  unfold numberP at h
  have := digits_bd 4 0 0 r (by omega) (by omega) (by unfold lim10; omega)
  split at h
  · simp at h
  · rename_i hn
    simp only [Except.ok.injEq, Prod.mk.injEq] at h
    obtain ⟨rfl, rfl⟩ := h
    exact ⟨this.1, by omega⟩
theorem interval_fine {r r' : Bs} {m n : Int} (h : intervalP r = .ok (m, n, r')) : 0 ≤ m ∧ max m n ≤ 255 ∧ (n = -1 ∨ m ≤ n) := by
  unfold intervalP at h
  cases hn : numberP r with
  | error e => rw [hn] at h; simp at h
  | ok v =>
    obtain ⟨a, r1⟩ := v
    rw [hn] at h
    have ha := number_fine hn
    simp only at h
    cases h1 : takeP [125] r1 with
    | some r2 =>
      rw [h1] at h
      simp only [Except.ok.injEq, Prod.mk.injEq] at h
      obtain ⟨rfl, rfl, rfl⟩ := h
      omega
    | none =>
      rw [h1] at h
      simp only at h
      cases h2 : takeP [44, 125] r1 with
      | some r2 =>
        rw [h2] at h
        simp only [Except.ok.injEq, Prod.mk.injEq] at h
        obtain ⟨rfl, rfl, rfl⟩ := h
        omega
      | none =>
        rw [h2] at h
        simp only at h
        cases h3 : takeP [44] r1 with
        | none => rw [h3] at h; simp at h
        | some r2 =>
          rw [h3] at h
          simp only at h
          cases h4 : numberP r2 with
          | error e => rw [h4] at h; simp at h
          | ok v =>
            obtain ⟨b, r3⟩ := v
            rw [h4] at h
            have hb := number_fine h4
            simp only at h
            split at h
            · simp at h
            · cases h5 : takeP [125] r3 with
              | none => rw [h5] at h; simp at h
              | some r4 =>
                rw [h5] at h
                simp only [Except.ok.injEq, Prod.mk.injEq] at h
                obtain ⟨rfl, rfl, rfl⟩ := h
                omega
theorem suf_fine : ∀ (k : Nat) {n n' : T} {r r' : Bs} {m : Int}, Fine n m → sufP k n r = .ok (n', r') → r'.length ≤ r.length ∧ Fine n' (m + 2 * ((r.length : Int) - r'.length))
  | 0, n, n', r, r', m, hn, h => by
    rw [sufP] at h
    simp only [Except.ok.injEq, Prod.mk.injEq] at h
    obtain ⟨rfl, rfl⟩ := h
    exact ⟨Nat.le_refl _, hn.mono (by omega)⟩
  | k + 1, n, n', r, r', m, hn, h => by
    rw [sufP] at h
    have go : ∀ (a b : Int) (r1 : Bs), 0 ≤ a → max a b ≤ 255 → (b = -1 ∨ a ≤ b) → r1.length < r.length → sufP k (repT a b n) r1 = .ok (n', r') → r'.length ≤ r.length ∧ Fine n' (m + 2 * ((r.length : Int) - r'.length)) := fun a b r1 h0 h1 h2 hl hh => by
      have := suf_fine k (fine_rep hn h0 h1 h2) hh
      exact ⟨by omega, this.2.mono (by omega)⟩
    cases h1 : takeP [42] r with
    | some r1 =>
      rw [h1] at h
      have := takeP_len h1
      exact go 0 (-1) r1 (by omega) (by omega) (.inl rfl) (by simp at this; omega) h
    | none =>
      rw [h1] at h
      simp only at h
      cases h2 : takeP [43] r with
      | some r1 =>
        rw [h2] at h
        have := takeP_len h2
        exact go 1 (-1) r1 (by omega) (by omega) (.inl rfl) (by simp at this; omega) h
      | none =>
        rw [h2] at h
        simp only at h
        cases h3 : takeP [63] r with
        | some r1 =>
          rw [h3] at h
          have := takeP_len h3
          exact go 0 1 r1 (by omega) (by omega) (.inr (by omega)) (by simp at this; omega) h
        | none =>
          rw [h3] at h
          simp only at h
          cases h4 : takeP [123] r with
          | none =>
            rw [h4] at h
            simp only [Except.ok.injEq, Prod.mk.injEq] at h
            obtain ⟨rfl, rfl⟩ := h
            exact ⟨Nat.le_refl _, hn.mono (by omega)⟩
          | some r1 =>
            rw [h4] at h
            have := takeP_len h4
            simp only at h
            cases h5 : intervalP r1 with
            | error e => rw [h5] at h; simp at h
            | ok v =>
              obtain ⟨a, b, r2⟩ := v
              rw [h5] at h
              have h6 := interval_fine h5
              have h7 := interval_len h5
              exact go a b r2 h6.1 h6.2.1 h6.2.2 (by simp at this; omega) h
theorem piece_fine {grp : Bs → PT} (hg : FineG grp) : FineG (pieceP grp) := fun r n r1 h => by
  unfold pieceP at h
  cases ha : atomP grp r with
  | error e => rw [ha] at h; simp at h
  | ok v =>
    obtain ⟨n0, r0⟩ := v
    rw [ha] at h
    have h1 := atom_fine hg _ _ _ ha
    have h2 := suf_fine _ h1.2 h
    exact ⟨by omega, h2.2.mono (by omega)⟩
theorem nodesL_app (a b : List T) : nodesL (a ++ b) = nodesL a + nodesL b := by
  induction a with
  | nil => rw [List.nil_append]; rw [show nodesL [] = 0 by rw [nodesL]]; omega
  | cons p a ih => rw [List.cons_append, nodesL, nodesL, ih]; omega
theorem rightL_all : ∀ {l : List T}, (∀ p ∈ l, rightF p = true) → rightL l = true
  | [], _ => by rw [rightL]
  | p :: l, h => by rw [rightL, h p (by simp), rightL_all (fun q hq => h q (by simp [hq]))]; rfl
theorem pieces_fine {grp : Bs → PT} (hg : FineG grp) : ∀ (k : Nat) {l l' : List T} {r r' : Bs}, piecesP grp k l r = .ok (l', r') → r'.length ≤ r.length ∧ ∃ l2, l' = l ++ l2 ∧ (∀ p ∈ l2, rightF p = true ∧ Words p) ∧ nodesL l2 ≤ 2 * ((r.length : Int) - r'.length) - l2.length ∧ l2.length ≤ r.length - r'.length
  | 0, l, l', r, r', h => by
    rw [piecesP] at h
    simp only [Except.ok.injEq, Prod.mk.injEq] at h
    obtain ⟨rfl, rfl⟩ := h
    exact ⟨Nat.le_refl _, [], by simp, by simp, by rw [nodesL]; simp, by simp⟩
  | k + 1, l, l', r, r', h => by
    rw [piecesP] at h
    split at h
    · simp only [Except.ok.injEq, Prod.mk.injEq] at h
      obtain ⟨rfl, rfl⟩ := h
      exact ⟨Nat.le_refl _, [], by simp, by simp, by rw [nodesL]; simp, by simp⟩
    · cases hp : pieceP grp r with
      | error e => rw [hp] at h; simp at h
      | ok v =>
        obtain ⟨n, r1⟩ := v
        rw [hp] at h
        have h1 := piece_fine hg _ _ _ hp
        obtain ⟨h2, l2, rfl, h3, h4, h5⟩ := pieces_fine hg k h
        obtain ⟨g1, g2, g3, g4⟩ := h1
        refine ⟨by omega, n :: l2, by simp, fun p hp => ?_, by rw [nodesL]; simp only [List.length_cons]; omega, by simp only [List.length_cons]; omega⟩
        rcases List.mem_cons.1 hp with rfl | hp
        · exact ⟨g2, g3⟩
        · exact h3 p hp
theorem fine_join {k : Int} (hk : k = 4 ∨ k = 5) {l : List T} (h : ∀ p ∈ l, rightF p = true ∧ Words p) (h2 : 2 ≤ l.length) : Fine (.mk k 0 0 0 0 0 0 l) (1 + nodesL l) := by
  refine ⟨?_, .mk _ wok0 (fun p hp => (h p hp).2), by rw [nodesF]; omega⟩
  rw [rightF, rightL_all (fun p hp => (h p hp).1)]
  rcases hk with rfl | rfl <;> simp <;> omega
theorem row_fine {grp : Bs → PT} (hg : FineG grp) {r r' : Bs} {n : T} (h : rowP grp r = .ok (n, r')) : r'.length ≤ r.length ∧ Fine n (2 * ((r.length : Int) - r'.length) + 1) ∧ (r'.length < r.length → Fine n (2 * ((r.length : Int) - r'.length) - 1)) := by
  unfold rowP at h
  cases hp : piecesP grp (r.length + 1) [] r with
  | error e => rw [hp] at h; simp at h
  | ok v =>
    obtain ⟨l, r1⟩ := v
    rw [hp] at h
    simp only [Except.ok.injEq, Prod.mk.injEq] at h
    obtain ⟨rfl, rfl⟩ := h
    obtain ⟨h1, l2, h2, h3, h4, h5⟩ := pieces_fine hg _ hp
    rw [List.nil_append] at h2
    subst h2
    refine ⟨h1, ?_⟩
    match l, h3, h4, h5 with
    | [], _, _, _ => exact ⟨(fine_leaf 0 (by simp)).mono (by omega), fun hl => (fine_leaf 0 (by simp)).mono (by omega)⟩
    | [n], h3, h4, h5 =>
      rw [nodesL, nodesL] at h4
      simp only [List.length_cons, List.length_nil] at h4 h5
      have hF : Fine n (2 * ((r.length : Int) - r1.length) - 1) := ⟨(h3 n (by simp)).1, (h3 n (by simp)).2, by omega⟩
      exact ⟨hF.mono (by omega), fun _ => hF⟩
    | a :: b :: l, h3, h4, h5 =>
      have hF := fine_join (k := 4) (.inl rfl) h3 (by simp)
      simp only [List.length_cons] at h4 h5
      have hF' : Fine (joinT 4 (a :: b :: l)) (2 * ((r.length : Int) - r1.length) - 1) := hF.mono (by omega)
      exact ⟨hF'.mono (by omega), fun _ => hF'⟩
theorem alts_fine {grp : Bs → PT} (hg : FineG grp) : ∀ (k : Nat) {l l' : List T} {r r' : Bs} (C : Int), (∀ p ∈ l, rightF p = true ∧ Words p) → nodesL l ≤ 2 * C + 2 - l.length → (C = (l.length : Int) - 1 ∨ nodesL l ≤ 2 * C - l.length) → 1 ≤ l.length →
    altsP grp k l r = .ok (l', r') → r'.length ≤ r.length ∧ (∀ p ∈ l', rightF p = true ∧ Words p) ∧ 1 ≤ l'.length ∧ nodesL l' ≤ 2 * (C + ((r.length : Int) - r'.length)) + 2 - l'.length ∧ (C + ((r.length : Int) - r'.length) = (l'.length : Int) - 1 ∨ nodesL l' ≤ 2 * (C + ((r.length : Int) - r'.length)) - l'.length) ∧ (l'.length = l.length → r' = r ∧ l' = l)
  | 0, l, l', r, r', C, hl, h1, h2, h0, h => by
    rw [altsP] at h
    simp only [Except.ok.injEq, Prod.mk.injEq] at h
    obtain ⟨rfl, rfl⟩ := h
    exact ⟨Nat.le_refl _, hl, h0, by omega, by omega, fun _ => ⟨rfl, rfl⟩⟩
  | k + 1, l, l', r, r', C, hl, h1, h2, h0, h => by
    rw [altsP] at h
    cases ht : takeP [124] r with
    | none =>
      rw [ht] at h
      simp only [Except.ok.injEq, Prod.mk.injEq] at h
      obtain ⟨rfl, rfl⟩ := h
      exact ⟨Nat.le_refl _, hl, h0, by omega, by omega, fun _ => ⟨rfl, rfl⟩⟩
    | some r1 =>
      rw [ht] at h
      have hlen := takeP_len ht
      simp only [List.length_cons, List.length_nil] at hlen
      simp only at h
      cases hr : rowP grp r1 with
      | error e => rw [hr] at h; simp at h
      | ok v =>
        obtain ⟨n, r2⟩ := v
        rw [hr] at h
        obtain ⟨g1, g2, g3⟩ := row_fine hg hr
        have hN : nodesL (l ++ [n]) = nodesL l + nodesF n := by rw [nodesL_app, nodesL, nodesL]; omega
        have hlen2 : (l ++ [n]).length = l.length + 1 := by simp
        have hb : nodesF n ≤ 2 * ((r1.length : Int) - r2.length) + 1 := g2.2.2
        have hc : r2.length < r1.length → nodesF n ≤ 2 * ((r1.length : Int) - r2.length) - 1 := fun hh => (g3 hh).2.2
        have hdis : C + 1 + ((r1.length : Int) - r2.length) = ((l ++ [n]).length : Int) - 1 ∨ nodesL (l ++ [n]) ≤ 2 * (C + 1 + ((r1.length : Int) - r2.length)) - (l ++ [n]).length := by
          rw [hN, hlen2]
          by_cases hh : r2.length < r1.length
          · have := hc hh; omega
          · omega
        have := alts_fine hg k (C + 1 + ((r1.length : Int) - r2.length)) (l := l ++ [n]) (fun p hp => by
          rcases List.mem_append.1 hp with hp | hp
          · exact hl p hp
          · rw [List.mem_singleton] at hp; subst hp; exact ⟨g2.1, g2.2.1⟩) (by rw [hN, hlen2]; omega) (hdis) (by omega) h
        obtain ⟨e1, e2, e3, e4, e5, e6⟩ := this
        refine ⟨by omega, e2, e3, by omega, by omega, fun e => ?_⟩
        exfalso
        have : l.length + 1 ≤ l'.length := by
          have hmono : ∀ (k : Nat) (l l' : List T) (r r' : Bs), altsP grp k l r = .ok (l', r') → l.length ≤ l'.length := by
            intro k
            induction k with
            | zero =>
              intro l l' r r' hh
              rw [altsP] at hh
              simp only [Except.ok.injEq, Prod.mk.injEq] at hh
              obtain ⟨rfl, rfl⟩ := hh
              exact Nat.le_refl _
            | succ k ih =>
              intro l l' r r' hh
              rw [altsP] at hh
              split at hh
              · simp only [Except.ok.injEq, Prod.mk.injEq] at hh
                obtain ⟨rfl, rfl⟩ := hh
                exact Nat.le_refl _
              · split at hh
                · simp at hh
                · have := ih _ _ _ _ hh
                  simp at this
                  omega
          have := hmono _ _ _ _ _ h
          omega
        omega
theorem choice_fine {grp : Bs → PT} (hg : FineG grp) {r r' : Bs} {n : T} (h : choiceP grp r = .ok (n, r')) : r'.length ≤ r.length ∧ Fine n (2 * ((r.length : Int) - r'.length) + 1) ∧ (r'.length + 2 ≤ r.length → Fine n (2 * ((r.length : Int) - r'.length))) := by
  unfold choiceP at h
  cases hr : rowP grp r with
  | error e => rw [hr] at h; simp at h
  | ok v =>
    obtain ⟨n0, r1⟩ := v
    rw [hr] at h
    obtain ⟨g1, g2, g3⟩ := row_fine hg hr
    simp only at h
    cases ha : altsP grp (r1.length + 1) [n0] r1 with
    | error e => rw [ha] at h; simp at h
    | ok v =>
      obtain ⟨l, r2⟩ := v
      rw [ha] at h
      simp only [Except.ok.injEq, Prod.mk.injEq] at h
      obtain ⟨rfl, rfl⟩ := h
      have hb : nodesF n0 ≤ 2 * ((r.length : Int) - r1.length) + 1 := g2.2.2
      have hc : r1.length < r.length → nodesF n0 ≤ 2 * ((r.length : Int) - r1.length) - 1 := fun hh => (g3 hh).2.2
      have hN : nodesL [n0] = nodesF n0 := by rw [nodesL, nodesL]; omega
      have hdis : ((r.length : Int) - r1.length) = (([n0] : List T).length : Int) - 1 ∨ nodesL [n0] ≤ 2 * ((r.length : Int) - r1.length) - ([n0] : List T).length := by
        rw [hN]
        simp only [List.length_cons, List.length_nil]
        by_cases hh : r1.length < r.length
        · have := hc hh; omega
        · omega
      obtain ⟨e1, e2, e3, e4, e5, e6⟩ := alts_fine hg _ ((r.length : Int) - r1.length) (l := [n0]) (fun p hp => by rw [List.mem_singleton] at hp; subst hp; exact ⟨g2.1, g2.2.1⟩) (by rw [hN]; simp; omega) (hdis) (by simp) ha
      refine ⟨by omega, ?_⟩
      match l, e2, e3, e4, e5, e6 with
      | [n], e2, e3, e4, e5, e6 =>
        obtain ⟨rfl, q⟩ := e6 rfl
        simp only [List.cons.injEq, and_true] at q
        subst q
        exact ⟨g2, fun hh => (g3 (by omega)).mono (by omega)⟩
      | a :: b :: l, e2, e3, e4, e5, e6 =>
        have hF := fine_join (k := 5) (.inr rfl) e2 (by simp)
        simp only [List.length_cons] at e4 e5
        exact ⟨hF.mono (by omega), fun hh => hF.mono (by omega)⟩
theorem group_fine : ∀ d, FineG (groupP d)
  | 0 => fun r n r1 h => by simp [groupP] at h
  | d + 1 => fun r n r1 h => by
    rw [groupP] at h
    cases hc : choiceP (groupP d) r with
    | error e => rw [hc] at h; simp at h
    | ok v =>
      obtain ⟨n0, r0⟩ := v
      rw [hc] at h
      have h1 := choice_fine (group_fine d) hc
      simp only at h
      cases ht : takeP [41] r0 with
      | none => rw [ht] at h; simp at h
      | some r2 =>
        rw [ht] at h
        have := takeP_len ht
        simp only [List.length_cons, List.length_nil] at this
        simp only [Except.ok.injEq, Prod.mk.injEq] at h
        obtain ⟨rfl, rfl⟩ := h
        exact ⟨by omega, h1.2.1.mono (by omega)⟩
theorem parse_fine {s : Bs} {t : T} (h : parseP s = .ok t) : rightF t = true ∧ Words t ∧ nodesF t ≤ 2048 := by
  obtain ⟨h1, h2⟩ := parse_ok h
  have h3 := choice_fine (group_fine 64) h2
  obtain ⟨a, b, c⟩ := h3.2.1
  refine ⟨a, b, ?_⟩
  simp only [List.length_nil] at c h3
  by_cases hs : 2 ≤ s.length
  · have := (h3.2.2 (by omega)).2.2
    omega
  · omega
end Go.Proofs.YtdpmbanfaigmcaaDoor

/- A text as a pattern of its bytes: where it is found. Plain. -/
set_option linter.unusedVariables false
set_option linter.unusedSimpArgs false
namespace Go.Proofs.YtdpmbanfaigmcaaDoor
open Go.RowKit

/-- The set of one byte. -/
def oneT (c : UInt8) : T := (w40.add c.toNat).T
abbrev beginT : T := .mk 2 0 0 0 0 0 0 []
abbrev endT : T := .mk 3 0 0 0 0 0 0 []
def wordT (pre : List T) (W : Bs) (post : List T) : T := .mk 4 0 0 0 0 0 0 (pre ++ (none0 :: none0 :: (W.map oneT ++ post)))
theorem bit_has {S : W4} (h : Wok S) (k x y : Int) (c : Nat) (hc : c < 256) : bitS ⟨k, S.a, S.b, S.c, S.d, x, y⟩ c = S.has c := by
  rw [has_div h]
  unfold bitS
  congr 2
  unfold wordN W4.at
  rcases (show c < 64 ∨ (64 ≤ c ∧ c < 128) ∨ (128 ≤ c ∧ c < 192) ∨ (192 ≤ c ∧ c < 256) by omega) with h | h | h | h
  · have e : c / 64 = 0 := by omega
    simp [e, h]
  · have e : c / 64 = 1 := by omega
    simp [e, show ¬ c < 64 by omega, h.2]
  · have e : c / 64 = 2 := by omega
    simp [e, show ¬ c < 64 by omega, show ¬ c < 128 by omega, h.2]
  · have e : c / 64 = 3 := by omega
    simp [e, show ¬ c < 64 by omega, show ¬ c < 128 by omega, show ¬ c < 192 by omega]
theorem den_one (s : Bs) (c : UInt8) (i j : Nat) : den s (oneT c) i j ↔ s[i]? = some c ∧ j = i + 1 := by
  have e : den s (oneT c) i j ↔ i < s.length ∧ j = i + 1 ∧ bitS ⟨1, (w40.add c.toNat).a, (w40.add c.toNat).b, (w40.add c.toNat).c, (w40.add c.toNat).d, 0, 0⟩ (byteN s (i + 1)) = true := by
    rw [den_eq]; exact Iff.rfl
  have hb : byteN s (i + 1) < 256 := UInt8.toNat_lt _
  rw [e, bit_has (add_ok wok0 _ c.toNat_lt) _ _ _ _ hb, add_has wok0 _ _ c.toNat_lt hb, has0, Bool.or_false, decide_eq_true_eq]
  unfold byteN
  rw [Nat.add_sub_cancel]
  constructor
  · rintro ⟨h1, h2, h3⟩
    rw [List.getElem?_eq_getElem h1]
    rw [List.getD_eq_getElem?_getD, List.getElem?_eq_getElem h1] at h3
    exact ⟨by rw [UInt8.toNat_inj] at h3; simpa using h3, h2⟩
  · rintro ⟨h1, h2⟩
    have hi : i < s.length := (List.getElem?_eq_some_iff.1 h1).1
    refine ⟨hi, h2, ?_⟩
    rw [List.getD_eq_getElem?_getD, h1]
    rfl
theorem denRow_cons (s : Bs) (p : T) (ps : List T) (i j : Nat) : denRow s (p :: ps) i j ↔ ∃ k, den s p i k ∧ denRow s ps k j := by rw [denRow]; exact Iff.rfl
theorem den_none (s : Bs) (i j : Nat) : den s none0 i j ↔ i = j := by rw [den_eq]; exact Iff.rfl
theorem den_begin (s : Bs) (i j : Nat) : den s beginT i j ↔ i = 0 ∧ j = i := by rw [den_eq]; exact Iff.rfl
theorem den_end (s : Bs) (i j : Nat) : den s endT i j ↔ i = s.length ∧ j = i := by rw [den_eq]; exact Iff.rfl
theorem den_word (s : Bs) (post : List T) : ∀ (W : Bs) (i j : Nat), denRow s (W.map oneT ++ post) i j ↔ W.isPrefixOf (s.drop i) = true ∧ denRow s post (i + W.length) j
  | [], i, j => by simp
  | c :: W, i, j => by
    rw [List.map_cons, List.cons_append, denRow_cons]
    constructor
    · rintro ⟨k, h1, h2⟩
      obtain ⟨h3, rfl⟩ := (den_one s c i k).1 h1
      obtain ⟨h4, h5⟩ := (den_word s post W _ j).1 h2
      obtain ⟨hi, he⟩ := List.getElem?_eq_some_iff.1 h3
      rw [List.drop_eq_getElem_cons hi, he, List.isPrefixOf_cons_cons]
      refine ⟨by simp [h4], ?_⟩
      rw [List.length_cons, show i + (W.length + 1) = i + 1 + W.length by omega]
      exact h5
    · rintro ⟨h1, h2⟩
      by_cases hi : i < s.length
      · rw [List.drop_eq_getElem_cons hi, List.isPrefixOf_cons_cons, Bool.and_eq_true, beq_iff_eq] at h1
        refine ⟨i + 1, (den_one s c i _).2 ⟨by rw [List.getElem?_eq_getElem hi, ← h1.1], rfl⟩, (den_word s post W _ j).2 ⟨h1.2, ?_⟩⟩
        rw [List.length_cons, show i + (W.length + 1) = i + 1 + W.length by omega] at h2
        exact h2
      · rw [List.drop_eq_nil_of_le (by omega)] at h1
        simp [List.isPrefixOf] at h1
theorem den_wordT (s : Bs) (pre : List T) (W : Bs) (post : List T) (i j : Nat) : den s (wordT pre W post) i j ↔ denRow s (pre ++ (none0 :: none0 :: (W.map oneT ++ post))) i j := by
  rw [den_eq]; exact Iff.rfl
theorem den_mid (s : Bs) (W : Bs) (post : List T) (i j : Nat) : denRow s (none0 :: none0 :: (W.map oneT ++ post)) i j ↔ W.isPrefixOf (s.drop i) = true ∧ denRow s post (i + W.length) j := by
  rw [denRow_cons]
  constructor
  · rintro ⟨k, h1, h2⟩
    obtain rfl := (den_none s _ _).1 h1
    obtain ⟨k, h1, h2⟩ := (denRow_cons s _ _ _ _).1 h2
    obtain rfl := (den_none s _ _).1 h1
    exact (den_word s post W _ j).1 h2
  · intro h
    exact ⟨i, (den_none s _ _).2 rfl, (denRow_cons s _ _ _ _).2 ⟨i, (den_none s _ _).2 rfl, (den_word s post W _ j).2 h⟩⟩
theorem pref_take {W r : Bs} : W.isPrefixOf r = true ↔ r.take W.length = W := by
  rw [List.isPrefixOf_iff_prefix]
  constructor
  · rintro ⟨t, rfl⟩; simp
  · intro h; rw [← h]; exact List.take_prefix _ _
theorem found_any (s W : Bs) : (∃ i j, i ≤ s.length ∧ den s (wordT [] W []) i j) ↔ ∃ i, i + W.length ≤ s.length ∧ (s.drop i).take W.length = W := by
  constructor
  · rintro ⟨i, j, hi, h⟩
    rw [den_wordT, List.nil_append, den_mid, pref_take] at h
    refine ⟨i, ?_, h.1⟩
    have := congrArg List.length h.1
    simp at this
    omega
  · rintro ⟨i, hi, h⟩
    refine ⟨i, i + W.length, by omega, ?_⟩
    rw [den_wordT, List.nil_append, den_mid, pref_take]
    exact ⟨h, by rw [denRow]⟩
theorem found_begin (s W : Bs) : (∃ i j, i ≤ s.length ∧ den s (wordT [beginT] W []) i j) ↔ s.take W.length = W := by
  constructor
  · rintro ⟨i, j, hi, h⟩
    rw [den_wordT, List.cons_append, List.nil_append, denRow_cons] at h
    obtain ⟨k, h1, h2⟩ := h
    obtain ⟨rfl, rfl⟩ := (den_begin s _ _).1 h1
    rw [den_mid, pref_take, List.drop_zero] at h2
    exact h2.1
  · intro h
    refine ⟨0, W.length, by omega, ?_⟩
    rw [den_wordT, List.cons_append, List.nil_append, denRow_cons]
    refine ⟨0, (den_begin s _ _).2 ⟨rfl, rfl⟩, ?_⟩
    rw [den_mid, pref_take, List.drop_zero]
    exact ⟨h, by rw [denRow]; omega⟩
theorem found_end (s W : Bs) : (∃ i j, i ≤ s.length ∧ den s (wordT [] W [endT]) i j) ↔ W.length ≤ s.length ∧ s.drop (s.length - W.length) = W := by
  constructor
  · rintro ⟨i, j, hi, h⟩
    rw [den_wordT, List.nil_append, den_mid, pref_take] at h
    obtain ⟨h1, h2⟩ := h
    obtain ⟨k, h3, h4⟩ := (denRow_cons s _ _ _ _).1 h2
    obtain ⟨h5, _⟩ := (den_end s _ _).1 h3
    refine ⟨by omega, ?_⟩
    rw [show s.length - W.length = i by omega]
    rw [List.take_of_length_le (by simp; omega)] at h1
    exact h1
  · rintro ⟨h1, h2⟩
    refine ⟨s.length - W.length, s.length, by omega, ?_⟩
    rw [den_wordT, List.nil_append, den_mid, pref_take]
    refine ⟨by rw [List.take_of_length_le (by simp; omega)]; exact h2, (denRow_cons s _ _ _ _).2 ⟨s.length, (den_end s _ _).2 ⟨by omega, by omega⟩, by rw [denRow]⟩⟩
theorem found_both (s W : Bs) : (∃ i j, i ≤ s.length ∧ den s (wordT [beginT] W [endT]) i j) ↔ s = W := by
  constructor
  · rintro ⟨i, j, hi, h⟩
    rw [den_wordT, List.cons_append, List.nil_append, denRow_cons] at h
    obtain ⟨k, h1, h2⟩ := h
    obtain ⟨rfl, rfl⟩ := (den_begin s _ _).1 h1
    rw [den_mid, pref_take, List.drop_zero] at h2
    obtain ⟨h2, h3⟩ := h2
    obtain ⟨k, h4, h5⟩ := (denRow_cons s _ _ _ _).1 h3
    obtain ⟨h5, _⟩ := (den_end s _ _).1 h4
    rw [List.take_of_length_le (by omega)] at h2
    exact h2
  · rintro rfl
    refine ⟨0, s.length, by omega, ?_⟩
    rw [den_wordT, List.cons_append, List.nil_append, denRow_cons]
    refine ⟨0, (den_begin s _ _).2 ⟨rfl, rfl⟩, ?_⟩
    rw [den_mid, pref_take, List.drop_zero]
    exact ⟨by simp, (denRow_cons s _ _ _ _).2 ⟨s.length, (den_end s _ _).2 ⟨by omega, by omega⟩, by rw [denRow]⟩⟩

/-! Its text. -/
theorem one_len : ∀ c < 256, (setT (w40.add c)).length ≤ 2 := by decide +kernel
theorem prRow_app : ∀ (a b : List T), prRow (a ++ b) = prRow a ++ prRow b
  | [], b => by rw [List.nil_append]; simp [prRow]
  | p :: a, b => by rw [List.cons_append, prRow, prRow, prRow_app a b, List.append_assoc]
theorem deepRow_app : ∀ (a b : List T), deepRow (a ++ b) = max (deepRow a) (deepRow b)
  | [], b => by rw [List.nil_append]; simp [deepRow]
  | p :: a, b => by rw [List.cons_append, deepRow, deepRow, deepRow_app a b]; omega
theorem prRow_ones : ∀ (W : Bs), (prRow (W.map oneT)).length ≤ 2 * W.length
  | [] => by simp [prRow]
  | c :: W => by
    have h1 := prRow_ones W
    have h2 := one_len c.toNat c.toNat_lt
    have h3 : prT (oneT c) = setT (w40.add c.toNat) := by rw [prT_eq]; rfl
    rw [List.map_cons, prRow, show looseT (oneT c) = false from rfl, h3]
    simp only [parT, List.length_append, List.length_cons, Bool.false_eq_true, if_false]
    omega
theorem deepRow_ones : ∀ (W : Bs), deepRow (W.map oneT) = 0
  | [] => by simp [deepRow]
  | c :: W => by
    rw [List.map_cons, deepRow, deepRow_ones W, show looseT (oneT c) = false from rfl, show deepT (oneT c) = 0 by rw [deepT_eq]; rfl]
    simp
/-- What stands ahead of a word, behind it. -/
def Edge (l : List T) : Prop := l = [] ∨ l = [beginT] ∨ l = [endT]
theorem Edge.all {l : List T} (h : Edge l) : (∀ p ∈ l, rightF p = true ∧ Words p ∧ nodesF p = 1 ∧ countF p = 1) ∧ l.length ≤ 1 ∧ (prRow l).length ≤ 1 ∧ deepRow l = 0 := by
  rcases h with rfl | rfl | rfl
  · exact ⟨(fun p hp => by cases hp), by simp, by simp [prRow], by simp [deepRow]⟩
  · refine ⟨fun p hp => ?_, by simp, by decide, by decide⟩
    rw [List.mem_singleton] at hp
    subst hp
    exact ⟨by decide, (fine_leaf 2 (by simp)).2.1, by rw [nodesF, nodesL]; rfl, by rw [countF]; simp⟩
  · refine ⟨fun p hp => ?_, by simp, by decide, by decide⟩
    rw [List.mem_singleton] at hp
    subst hp
    exact ⟨by decide, (fine_leaf 3 (by simp)).2.1, by rw [nodesF, nodesL]; rfl, by rw [countF]; simp⟩
theorem one_fine (c : UInt8) : rightF (oneT c) = true ∧ Words (oneT c) ∧ nodesF (oneT c) ≤ 1 ∧ countF (oneT c) = 1 := by
  obtain ⟨a, b, d⟩ := fine_set (add_ok wok0 _ c.toNat_lt)
  exact ⟨a, b, d, by unfold oneT W4.T; rw [countF]; simp⟩
theorem nodesL_le (l : List T) (h : ∀ p ∈ l, nodesF p ≤ 1) : nodesL l ≤ l.length := by
  induction l with
  | nil => rw [nodesL]; simp
  | cons p l ih =>
    have h1 := h p (by simp)
    have h2 := ih (fun q hq => h q (by simp [hq]))
    rw [nodesL]; simp only [List.length_cons]; omega
theorem countL_le : ∀ (l : List T) (s : Int), (∀ p ∈ l, countF p ≤ 1) → countL l s ≤ max s 0 + l.length
  | [], s, h => by rw [countL]; simp; omega
  | p :: l, s, h => by
    have h1 := h p (by simp)
    have h2 := countL_le l (min 4097 (s + countF p)) (fun q hq => h q (by simp [hq]))
    rw [countL]; simp only [List.length_cons]; omega
theorem word_all {pre post : List T} (hp : Edge pre) (hq : Edge post) (W : Bs) (hW : W.length ≤ 60) : rightF (wordT pre W post) = true ∧ Words (wordT pre W post) ∧ (prT (wordT pre W post)).length ≤ 200 ∧ deepT (wordT pre W post) = 1 ∧ checkF (wordT pre W post) = 0 ∧ sizeE (wordT pre W post) = 0 := by
  obtain ⟨a1, a2, a3, a4⟩ := hp.all
  obtain ⟨b1, b2, b3, b4⟩ := hq.all
  have hall : ∀ p ∈ pre ++ (none0 :: none0 :: (W.map oneT ++ post)), rightF p = true ∧ Words p ∧ nodesF p ≤ 1 ∧ countF p ≤ 1 := fun p h => by
    simp only [List.mem_append, List.mem_cons, List.mem_map] at h
    rcases h with h | rfl | rfl | ⟨c, _, rfl⟩ | h
    · obtain ⟨x, y, z, u⟩ := a1 p h; exact ⟨x, y, by omega, by omega⟩
    · exact ⟨by decide, (fine_leaf 0 (by simp)).2.1, by rw [nodesF, nodesL]; omega, by rw [countF]; simp⟩
    · exact ⟨by decide, (fine_leaf 0 (by simp)).2.1, by rw [nodesF, nodesL]; omega, by rw [countF]; simp⟩
    · obtain ⟨x, y, z, u⟩ := one_fine c; exact ⟨x, y, z, by omega⟩
    · obtain ⟨x, y, z, u⟩ := b1 p h; exact ⟨x, y, by omega, by omega⟩
  have hlen : (pre ++ (none0 :: none0 :: (W.map oneT ++ post))).length ≤ 64 := by simp; omega
  have hlen2 : 2 ≤ (pre ++ (none0 :: none0 :: (W.map oneT ++ post))).length := by simp; omega
  obtain ⟨f1, f2, f3⟩ := fine_join (k := 4) (.inl rfl) (fun p hp => ⟨(hall p hp).1, (hall p hp).2.1⟩) hlen2
  have hn := nodesL_le _ (fun p hp => (hall p hp).2.2.1)
  have hc := countL_le _ 0 (fun p hp => (hall p hp).2.2.2)
  have hck : checkF (wordT pre W post) = 0 := by
    unfold checkF
    rw [sizeF_min _ 2048 (by omega), if_neg (by show ¬ 2048 < min (nodesF (wordT pre W post)) _; have : nodesF (wordT pre W post) ≤ _ := f3; omega), if_pos (show rightF (wordT pre W post) = true from f1)]
  refine ⟨f1, f2, ?_, ?_, hck, ?_⟩
  · rw [prT_eq]
    show (prRow (pre ++ (none0 :: none0 :: (W.map oneT ++ post)))).length ≤ 200
    have h1 := prRow_ones W
    rw [prRow_app, prRow, prRow, prRow_app]
    simp only [List.length_append, show (parT (looseT none0) (prT none0)).length = 2 from by decide]
    omega
  · rw [deepT_eq]
    show deepRow (pre ++ (none0 :: none0 :: (W.map oneT ++ post))) = 1
    rw [deepRow_app, deepRow, deepRow, deepRow_app, a4, b4, deepRow_ones, show deepT none0 = 0 by decide, show looseT none0 = true from rfl]
    simp
  · unfold sizeE
    rw [if_neg (by omega), if_neg]
    rw [countF_eq]
    show ¬ 4096 < 1 + min 4097 (countK 4 0 0 (countL (pre ++ (none0 :: none0 :: (W.map oneT ++ post))) 0) _)
    unfold countK
    simp
    omega
theorem word_parse {pre post : List T} (hp : Edge pre) (hq : Edge post) (W : Bs) (hW : W.length ≤ 60) : parseP (prT (wordT pre W post)) = .ok (wordT pre W post) := by
  obtain ⟨a, b, c, d, _⟩ := word_all hp hq W hW
  exact parse_print a b (by omega) (by omega)
theorem word_text (pre post : List T) (W : Bs) : prT (wordT pre W post) = prRow pre ++ (prT (wordT [] W []) ++ prRow post) := by
  rw [prT_eq, prT_eq (wordT [] W [])]
  show prRow (pre ++ (none0 :: none0 :: (W.map oneT ++ post))) = prRow pre ++ (prRow ([] ++ (none0 :: none0 :: (W.map oneT ++ []))) ++ prRow post)
  rw [prRow_app, List.nil_append, List.append_nil, show none0 :: none0 :: (W.map oneT ++ post) = (none0 :: none0 :: W.map oneT) ++ post from rfl, prRow_app]
/-- What is found of a word. -/
theorem word_find {pre post : List T} (hp : Edge pre) (hq : Edge post) (W : Bs) (hW : W.length ≤ 60) (s : Bs) (hs : s.length ≤ 65536) : (findF (prT (wordT pre W post)) s).2.2 = 0 ∧ ((findF (prT (wordT pre W post)) s).1 = true ↔ ∃ i j, i ≤ s.length ∧ den s (wordT pre W post) i j) :=
  find_ok (word_parse hp hq W hW) (word_all hp hq W hW).2.2.2.2.2 s hs
end Go.Proofs.YtdpmbanfaigmcaaDoor

/- vouchlaw10.works: walked. -/
set_option linter.unusedVariables false
set_option linter.unusedSimpArgs false
namespace Go.Proofs.YtdpmbanfaigmcaaDoor
open Go.RowKit

theorem TabIn.mono {B B' : Nat} {w : World} (h : TabIn B w) (k : B ≤ B') : TabIn B' w := ⟨h.1, fun g hg => Nat.lt_of_lt_of_le (h.2 g hg) k⟩
theorem TabIn.step {w w' : World} (h : TabIn w.heap.size w) (hb : Below w.heap.size w w') : TabIn w'.heap.size w' := (h.later hb).mono hb.size
def wt1 : T := .mk 4 0 0 0 0 0 0 [.mk 6 0 0 0 0 0 (-1) [.mk 4 0 0 0 0 0 0 [.mk 1 0 8589934592 0 0 0 0 [], .mk 1 0 17179869184 0 0 0 0 []]], .mk 1 0 60666413056 0 0 0 0 []]
theorem wq1 : parseP [40, 97, 98, 41, 42, 91, 93, 97, 45, 99, 93] = .ok wt1 := by kernel_rfl
theorem wq2 : printP wt1 = ([40, 97, 98, 41, 42, 91, 91, 46, 93, 46, 93, 97, 45, 99, 93], 0) := by kernel_rfl
theorem wq3 : parseP [97, 123, 51, 44, 50, 125] = .error 105 := by kernel_rfl
theorem wq4 : parseP [91, 98, 45, 97, 93] = .error 102 := by kernel_rfl
theorem wq5 : checkF (.mk 4 0 0 0 0 0 0 []) = 107 := by kernel_rfl
theorem parse_is {s : Bs} {w w' : World} {en : Ending} {t : T} (h : GPar s w en w') (hp : parseP s = .ok t) : Below w.heap.size w w' ∧ ∃ A c, en = .returned (.tuple #[nodeV t A c, .int .i64 0]) ∧ NodeAt w' (fun b => w.heap.size ≤ b ∧ b < w'.heap.size) t A c := by
  obtain ⟨hb, ⟨t', A, c, hp', he, hN⟩ | ⟨e, hp', _⟩⟩ := h
  · rw [hp] at hp'; cases hp'; exact ⟨hb, A, c, he, hN⟩
  · rw [hp] at hp'; cases hp'
theorem parse_no {s : Bs} {w w' : World} {en : Ending} {e : Int} (h : GPar s w en w') (hp : parseP s = .error e) : Below w.heap.size w w' ∧ e ≠ 0 ∧ en = .returned (.tuple #[nodeV none0 none 0, .int .i64 e]) := by
  obtain ⟨hb, ⟨t', A, c, hp', he, hN⟩ | ⟨e', hp', h1, h2⟩⟩ := h
  · rw [hp] at hp'; cases hp'
  · rw [hp] at hp'; cases hp'; exact ⟨hb, h1, h2⟩
theorem leaf_at (w : World) (t : T) (h : t.ps = []) {ok : Nat → Prop} : NodeAt w ok t none 0 := .mk t none 0 (fun _ => none) (fun _ => 0) (by rw [h]; exact Nat.le_refl _) (by rw [h]; simp) (fun e => absurd h e) (fun i p hp => by rw [h] at hp; simp at hp)
theorem wt1_at {w : World} {ok : Nat → Prop} {A : Option Addr} {c : Nat} (h : NodeAt w ok wt1 A c) : ∃ b o, A = some ⟨b, o, none⟩ ∧ ok b ∧ w.cell? ⟨b, o, none⟩ = some (.int .i64 6) ∧
    w.cell? ⟨b, o + 9, none⟩ = some (.int .u64 0) ∧ w.cell? ⟨b, o + 10, none⟩ = some (.int .u64 60666413056) ∧ w.cell? ⟨b, o + 11, none⟩ = some (.int .u64 0) ∧ w.cell? ⟨b, o + 12, none⟩ = some (.int .u64 0) := by
  obtain ⟨b, o, rfl, hb, hcell⟩ := h.part (show 0 < 2 by omega)
  obtain ⟨_, _, h0, _⟩ := hcell 0 (show 0 < 2 by omega)
  obtain ⟨_, _, h1, _⟩ := hcell 1 (show 1 < 2 by omega)
  exact ⟨b, o, rfl, hb, h0.f0, h1.f1, h1.f2, h1.f3, h1.f4⟩
set_option maxRecDepth 100000 in
set_option maxHeartbeats 4000000 in
theorem works10_any (w : World) (hM : MaxOk w) (hT : TabIn w.heap.size w) :
    Calls Tryd.prog 18 #[] w fun en w' => en = .returned (.bool true) ∧ Below w.heap.size w w' := by
  have HM := Lib.hid hM; have HT := Lib.hid hT
  clear hM hT
  go_enter Tryd.func18, Tryd.ntmps18
  go_wp2_with fail
  refine (parse_par [40, 97, 98, 41, 42, 91, 93, 97, 45, 99, 93] w HM.out (fun _ => brC) (fun _ => dotC)).mono ?_
  intro en w1 hG
  obtain ⟨hb1, A, c, rfl, hN⟩ := parse_is hG wq1
  have Hfine := Lib.hid (parse_fine wq1)
  have Hp := Lib.hid wq2
  have hk : wt1.k = 4 := rfl
  have hl : wt1.ps.length = 2 := rfl
  obtain ⟨b, o, rfl, hbb, q0, q1, q2, q3, q4⟩ := wt1_at hN
  have HN := Lib.hid hN
  have HM1 := Lib.hid (HM.out.later hb1); have HT1 := Lib.hid (HT.out.step hb1)
  have HB1 := Lib.hid hb1
  have hlt1 : b < w1.heap.size := hbb.2
  have hpr := Lib.hid (print_any wt1)
  have Hk := Lib.hid hk; have Hl := Lib.hid hl
  clear hG hN hb1 hk hl hbb
  generalize wt1 = t at *
  go_upto_region 2 with fail
  generalize hW : w1.alloc _ = W2
  have hb2 : Below w1.heap.size w1 W2 := by subst hW; exact (Below.refl _ _).alloc (Nat.le_refl _) _
  have h8 : At8 W2 w1.heap.size 0 t (some ⟨b, o, none⟩) c := by subst hW; constructor <;> simp [go_sem]
  clear hW
  have hlt2 : w1.heap.size < W2.heap.size := World.block_lt_of_cell? _ _ h8.f0
  have HN2 := Lib.hid (HN.out.later hb2 (fun b h => h.2))
  have HM2 := Lib.hid (HM1.out.later hb2); have HT2 := Lib.hid (HT1.out.step hb2); have HB2 := Lib.hid (HB1.out.step hb2)
  have HQ := Lib.hid (fun o' => hb2.cell (p := ⟨b, o', none⟩) hlt1)
  have H8 := Lib.hid h8
  obtain ⟨f0, f1, f2, f3, f4, f5, f6, f7⟩ := h8
  go_wp2_with fail
  refine (hpr.out W2 _ (some ⟨b, o, none⟩) c HN2.out (fun b h => by have := h.2; omega) (fun _ => Hfine.out.2.1) HT2.out).mono ?_
  rintro e w3 ⟨rfl, hb3⟩
  rw [Hp.out]
  have HM3 := Lib.hid (HM2.out.later hb3); have HB3 := Lib.hid (HB2.out.step hb3)
  have H83 := Lib.hid (H8.out.mono (fun o => hb3.cell (p := ⟨w1.heap.size, o, none⟩) hlt2))
  have hlt3 : w1.heap.size < w3.heap.size := by have := hb3.size; omega
  have HQ3 := Lib.hid (fun o' => (hb3.cell (p := ⟨b, o', none⟩) (by show b < _; omega)).trans (HQ.out o'))
  clear f0 f1 f2 f3 f4 f5 f6 f7 hb3 hb2 HN HN2 H8 HQ
  go_wp2_with fail
  refine (parse_par [97, 123, 51, 44, 50, 125] w3 HM3.out (fun _ => brC) (fun _ => dotC)).mono ?_
  intro en w4 hG
  obtain ⟨hb4, _, rfl⟩ := parse_no hG wq3
  have HM4 := Lib.hid (HM3.out.later hb4); have HB4 := Lib.hid (HB3.out.step hb4)
  have H84 := Lib.hid (H83.out.mono (fun o => hb4.cell (p := ⟨w1.heap.size, o, none⟩) hlt3))
  have HQ4 := Lib.hid (fun o' => (hb4.cell (p := ⟨b, o', none⟩) (by show b < _; omega)).trans (HQ3.out o'))
  have hlt4 : w1.heap.size < w4.heap.size := by have := hb4.size; omega
  clear hG hb4 H83 HQ3
  go_upto_region 4 with fail
  generalize hW : w4.alloc _ = W5
  have hb5 : Below w4.heap.size w4 W5 := by subst hW; exact (Below.refl _ _).alloc (Nat.le_refl _) _
  clear hW
  have HM5 := Lib.hid (HM4.out.later hb5); have HB5 := Lib.hid (HB4.out.step hb5)
  have H85 := Lib.hid (H84.out.mono (fun o => hb5.cell (p := ⟨w1.heap.size, o, none⟩) hlt4))
  have HQ5 := Lib.hid (fun o' => (hb5.cell (p := ⟨b, o', none⟩) (by show b < _; omega)).trans (HQ4.out o'))
  have hlt5 : w1.heap.size < W5.heap.size := by have := hb5.size; omega
  clear hb5 H84 HQ4
  go_wp2_with fail
  refine (parse_par [91, 98, 45, 97, 93] W5 HM5.out (fun _ => brC) (fun _ => dotC)).mono ?_
  intro en w6 hG
  obtain ⟨hb6, _, rfl⟩ := parse_no hG wq4
  have HB6 := Lib.hid (HB5.out.step hb6)
  have H86 := Lib.hid (H85.out.mono (fun o => hb6.cell (p := ⟨w1.heap.size, o, none⟩) hlt5))
  have HQ6 := Lib.hid (fun o' => (hb6.cell (p := ⟨b, o', none⟩) (by show b < _; omega)).trans (HQ5.out o'))
  have hlt6 : w1.heap.size < w6.heap.size := by have := hb6.size; omega
  clear hG hb6 H85 HQ5
  go_upto_region 5 with fail
  generalize hW : w6.alloc _ = W7
  have hb7 : Below w6.heap.size w6 W7 := by subst hW; exact (Below.refl _ _).alloc (Nat.le_refl _) _
  clear hW
  have HB7 := Lib.hid (HB6.out.step hb7)
  obtain ⟨f0, f1, f2, f3, f4, f5, f6, f7⟩ := H86.out.mono (fun o => hb7.cell (p := ⟨w1.heap.size, o, none⟩) hlt6)
  have HQ7 := fun o' => (hb7.cell (p := ⟨b, o', none⟩) (by show b < _; omega)).trans (HQ6.out o')
  have x0 := (HQ7 _).trans q0; have x1 := (HQ7 _).trans q1; have x2 := (HQ7 _).trans q2; have x3 := (HQ7 _).trans q3; have x4 := (HQ7 _).trans q4
  rw [Hk.out] at f0
  rw [Hl.out] at f7
  clear hb7 H86 HQ6 HQ7 q0 q1 q2 q3 q4 Hk Hl Hp Hfine hpr
  have h4 : eq4 0 60666413056 0 0 0 60666413056 0 0 = true := by rw [eq4_iff]; exact ⟨rfl, rfl, rfl, rfl⟩
  go_wp2_with fail
  refine (pcheck_any (.mk 4 0 0 0 0 0 0 []) W7 (fun _ => False) none 0 (leaf_at W7 _ rfl) (fun _ h => h.elim)).mono ?_
  rintro e w8 ⟨rfl, hb8⟩
  rw [wq5]
  have HB8 := Lib.hid (HB7.out.step hb8)
  clear hb8 f0 f1 f2 f3 f4 f5 f6 f7 x0 x1 x2 x3 x4
  go_wp2_with fail
  go_ret
  exact ⟨rfl, HB8.out⟩

/-- What stays true as a law's walk goes on. -/
structure Env (w0 w : World) : Prop where
  mx : MaxOk w
  tb : TabIn w.heap.size w
  bl : Below w0.heap.size w0 w
theorem Env.start {w : World} (h : MaxOk w) (k : TabIn w.heap.size w) : Env w w := ⟨h, k, Below.refl _ _⟩
theorem Env.step {w0 w w' : World} (h : Env w0 w) (k : Below w.heap.size w w') : Env w0 w' := ⟨h.mx.later k, h.tb.step k, h.bl.step k⟩
theorem Env.drew {w0 w : World} (h : Env w0 w) : Env w0 w.drew := h.step (Below.refl _ _).drew
/-- A tree in a box. -/
structure Box (w : World) (p : Nat) (t : T) (A : Option Addr) (c : Nat) (ok : Nat → Prop) : Prop where
  at8 : At8 w p 0 t A c
  node : NodeAt w ok t A c
  okk : ∀ b, ok b → b < w.heap.size
theorem Box.lt {w : World} {p : Nat} {t : T} {A : Option Addr} {c : Nat} {ok : Nat → Prop} (h : Box w p t A c ok) : p < w.heap.size := World.block_lt_of_cell? _ _ h.at8.f0
theorem Box.step {w w' : World} {p : Nat} {t : T} {A : Option Addr} {c : Nat} {ok : Nat → Prop} (h : Box w p t A c ok) (k : Below w.heap.size w w') : Box w' p t A c ok :=
  ⟨h.at8.mono (fun o => k.cell (p := ⟨p, o, none⟩) h.lt), h.node.later k h.okk, fun b hb => Nat.lt_of_lt_of_le (h.okk b hb) k.size⟩
theorem Box.drew {w : World} {p : Nat} {t : T} {A : Option Addr} {c : Nat} {ok : Nat → Prop} (h : Box w p t A c ok) : Box w.drew p t A c ok := h.step (Below.refl _ _).drew
theorem print_cases {t : T} (hw : Words t) : printP t = ([], 3) ∨ (printP t = ([], 107) ∧ checkF t = 107) ∨ (printP t = (prT t, 0) ∧ parseP (prT t) = .ok t ∧ (prT t).length ≤ 1024) := by
  unfold printP
  by_cases h0 : checkF t = 0
  · rw [if_neg (by omega)]
    by_cases h : (prT t).length ≤ 1024 ∧ deepT t ≤ 64
    · rw [if_pos h]
      exact .inr (.inr ⟨rfl, parse_print (check_right h0).1 hw h.1 h.2, h.1⟩)
    · rw [if_neg h]; exact .inl rfl
  · rw [if_pos h0]
    unfold checkF at h0 ⊢
    split at h0
    · rename_i h; rw [if_pos h]; exact .inl rfl
    · rename_i h
      rw [if_neg h]
      split at h0
      · exact absurd rfl h0
      · rename_i h2; rw [if_neg h2]; exact .inr (.inl ⟨rfl, rfl⟩)
end Go.Proofs.YtdpmbanfaigmcaaDoor

/- vouchlaw12.works: walked. -/
set_option linter.unusedVariables false
set_option linter.unusedSimpArgs false
namespace Go.Proofs.YtdpmbanfaigmcaaDoor
open Go.RowKit

theorem fw1 : findF [97, 36] [98, 97] = (true, 5, 0) := by kernel_rfl
theorem fw2 : findF [94, 97] [98, 97] = (false, 4, 0) := by kernel_rfl
theorem fw3 : (findF [40, 97, 98, 41, 43, 99] [120, 97, 98, 97, 98, 99]).1 = true := by kernel_rfl
theorem fw3' : (findF [40, 97, 98, 41, 43, 99] [120, 97, 98, 97, 98, 99]).2.2 = 0 := by kernel_rfl
theorem fw4 : (findF [97, 40] []).2.2 = 100 := by kernel_rfl
theorem fw5 : hasF [] 0 [] = (false, 0, 110) := by kernel_rfl
set_option maxRecDepth 100000 in
set_option maxHeartbeats 2000000 in
theorem works12_any (w : World) (hM : MaxOk w) :
    Calls Tryd.prog 13 #[] w fun en w' => en = .returned (.bool true) ∧ Below w.heap.size w w' := by
  go_enter Tryd.func13, Tryd.ntmps13
  go_wp2_with fail
  refine (find_any [97, 36] [98, 97] w hM (by simp) (by simp)).mono ?_
  rintro en w1 ⟨rfl, hb1⟩
  have hz1 := hb1.size
  have hM1 := hM.later hb1
  rw [fw1]
  go_wp2_with fail
  refine (find_any [94, 97] [98, 97] w1 hM1 (by simp) (by simp)).mono ?_
  rintro en w2 ⟨rfl, hb2⟩
  have hz2 := hb2.size
  have hM2 := hM1.later hb2
  rw [fw2]
  go_wp2_with fail
  refine (find_any [40, 97, 98, 41, 43, 99] [120, 97, 98, 97, 98, 99] w2 hM2 (by simp) (by simp)).mono ?_
  rintro en w3 ⟨rfl, hb3⟩
  have hz3 := hb3.size
  have hM3 := hM2.later hb3
  rw [fw3, fw3']
  go_wp2_with fail
  refine (find_any [97, 40] [] w3 hM3 (by simp) (by simp)).mono ?_
  rintro en w4 ⟨rfl, hb4⟩
  have hz4 := hb4.size
  rw [fw4]
  go_wp2_with fail
  refine (has_any w4 (fun b => b < w4.heap.size) [] 0 none 0 ⟨by simp, by simp, fun _ => rfl, fun h => by simp at h⟩ (fun b h => h) []).mono ?_
  rintro en w5 ⟨rfl, hb5⟩
  rw [fw5]
  go_wp2_with fail
  exact bodyPost_ret (v := .bool true) (by simp [results, Tryd.results13, go_sem]) rfl ⟨rfl, hb1.trans ((hb2.mono hz1).trans ((hb3.mono (by omega)).trans ((hb4.mono (by omega)).trans (hb5.mono (by omega)))))⟩
end Go.Proofs.YtdpmbanfaigmcaaDoor

/- A row that is built node by node, in a box of its own; a word stands in a text: walked. -/
set_option linter.unusedVariables false
set_option linter.unusedSimpArgs false
namespace Go.Proofs.YtdpmbanfaigmcaaDoor
open Go.RowKit

/-- A row that is built. -/
structure RowP (w : World) (R : Nat) (ns : List Nx) (A : Option Addr) (c : Nat) : Prop where
  blk : BlkX w R #[.int .i64 4, .int .u64 0, .int .u64 0, .int .u64 0, .int .u64 0, .int .i64 0, .int .i64 0, .slice A ns.length c]
  own : w.ownsRow (R + 1) 27 8 (.slice A ns.length c) ns.length (xcells ns)
  leaf : ∀ x ∈ ns, x.1.ps = [] ∧ x.2.1 = none ∧ x.2.2 = 0
theorem RowP.later {w w' : World} {R : Nat} {ns : List Nx} {A : Option Addr} {c : Nat} (h : RowP w R ns A c) (k : Below w.heap.size w w') : RowP w' R ns A c :=
  ⟨h.blk.keep (k.block R h.blk.lt), h.own.kept (row := none) ⟨k.os, k.tape, k.output, k.size, fun b hb _ => k.block b hb⟩ (by cases h : (Value.slice A ns.length c).ownBlock <;> simp), h.leaf⟩
theorem RowP.drew {w : World} {R : Nat} {ns : List Nx} {A : Option Addr} {c : Nat} (h : RowP w R ns A c) : RowP w.drew R ns A c := h.later (Below.refl _ _).drew
theorem RowP.free {w : World} {R : Nat} {ns : List Nx} {A : Option Addr} {c : Nat} (h : RowP w R ns A c) {b : Nat} (hb : b ≤ R) : some b ≠ (Value.slice A ns.length c).ownBlock := fun e => by
  have := (h.own.lt b e.symm).1; omega
theorem RowP.push {w w1 w5 : World} {R : Nat} {ns ys : List Nx} {A A5 : Option Addr} {c c5 : Nat} (h : RowP w R ns A c) (h1 : Below w.heap.size w w1)
    (ho : w5.ownsRow (R + 1) 27 8 (.slice A5 (ns.length + ys.length) c5) (ns.length + ys.length) (xcells ns ++ xcells ys)) (hg : w1.grownBy w5 (Value.slice A ns.length c).ownBlock) (hy : ∀ x ∈ ys, x.1.ps = [] ∧ x.2.1 = none ∧ x.2.2 = 0) :
    RowP (w5.setCell ⟨R, 7, none⟩ (.slice A5 (ns.length + ys.length) c5)) R (ns ++ ys) A5 c5 := by
  have hR : R < w1.heap.size := Nat.lt_of_lt_of_le h.blk.lt h1.size
  have hb : BlkX w5 R #[.int .i64 4, .int .u64 0, .int .u64 0, .int .u64 0, .int .u64 0, .int .i64 0, .int .i64 0, .slice A ns.length c] :=
    h.blk.keep ((hg.block R hR (h.free (Nat.le_refl _))).trans (h1.block R h.blk.lt))
  refine ⟨?_, ?_, fun x hx => ?_⟩
  · have := hb.set 7 (.slice A5 (ns.length + ys.length) c5)
    rw [List.length_append]
    exact this
  · have hne : (Value.slice A5 (ns.length + ys.length) c5).ownBlock ≠ some R := fun e => by have := (ho.lt R e).1; omega
    have := ho.kept (row := some R) (w' := w5.setCell ⟨R, 7, none⟩ (.slice A5 (ns.length + ys.length) c5)) ⟨rfl, rfl, rfl, by simp, fun k _ hk => Below.heap_setCell _ _ _ _ (fun e => hk (by rw [e]))⟩ (Or.inr hne)
    rw [List.length_append, show xcells (ns ++ ys) = xcells ns ++ xcells ys by simp [xcells]]
    exact this
  · rcases List.mem_append.1 hx with hx | hx
    · exact h.leaf x hx
    · exact hy x hx
theorem RowP.below {w0 w w1 w5 : World} {R : Nat} {ns : List Nx} {A : Option Addr} {c : Nat} (h : RowP w R ns A c) (hb : Below w0.heap.size w0 w) (hR : w0.heap.size ≤ R) (h1 : Below w.heap.size w w1) (hg : w1.grownBy w5 (Value.slice A ns.length c).ownBlock) (v : Value) : Below w0.heap.size w0 (w5.setCell ⟨R, 7, none⟩ v) := by
  have hz := h1.size
  have hlt := h.blk.lt
  exact ((hb.step h1).grown hg (by have := hb.size; omega) (fun k hk => by have := (h.own.lt k hk).1; omega)).setCell (p := ⟨R, 7, none⟩) hR _
/-- The row as a tree. -/
theorem RowP.node {w : World} {R : Nat} {ns : List Nx} {A : Option Addr} {c : Nat} (h : RowP w R ns A c) (hn : 0 < ns.length) (hn2 : ns.length ≤ 17592186044416) (t : T) (ht : t.ps = ns.map (·.1)) : NodeAt w (fun b => b < w.heap.size) t A c := by
  obtain ⟨g, hA, hg, hc⟩ : ∃ g, A = some ⟨g, 0, none⟩ ∧ g < w.heap.size ∧ ns.length ≤ c := by
    rcases h.own.2 with ⟨_, h0⟩ | ⟨g, cap, cur, e, hb, hh, hcap, _⟩
    · omega
    · simp only [Value.slice.injEq] at e
      exact ⟨g, e.1, (by (rcases Nat.lt_or_ge g w.heap.size with h' | h'; exact h'; rw [Array.getElem?_eq_none h'] at hh; simp at hh)), by omega⟩
  subst hA
  have h8 : ∀ (i : Nat) (x : Nx), ns[i]? = some x → At8 w g (i * 8) x.1 x.2.1 x.2.2 := fun i x hi => .ofX fun j hj => by
    have hl := (List.getElem?_eq_some_iff.1 hi).1
    have hx : ns[i] = x := (List.getElem?_eq_some_iff.1 hi).2
    rw [h.own.cellAt (i * 8 + j) (by omega), xcells_get ns i j hl hj, hx]
  have hm := node_litX (W := w) (ok := fun b => b < w.heap.size) (g := g) t ns ht hn2 hg h8 (fun i x hi => by
    obtain ⟨a, b, d⟩ := h.leaf x (List.mem_of_getElem? hi)
    rw [b, d]
    exact nodeAt_leafX w _ x.1 a)
  exact hm.widerX (by rw [ht, List.length_map]; exact hc)
theorem slice_own {w : World} {B n : Nat} {A : Option Addr} {cp : Nat} {xs : List Value} {t : TypeId} {s : Nat} (h : w.ownsRow B t s (.slice A n cp) n xs) : True := trivial

/-- Does a word stand in a text? -/
def standsF (s W : Bs) : Nat → Nat → Bool
  | 0, _ => false
  | k + 1, i => if (s.drop i).take W.length = W ∧ i + W.length ≤ s.length then true else standsF s W k (i + 1)
theorem stands_iff (s W : Bs) : ∀ (k i : Nat), standsF s W k i = true ↔ ∃ m, i ≤ m ∧ m < i + k ∧ m + W.length ≤ s.length ∧ (s.drop m).take W.length = W
  | 0, i => by simp [standsF]; intro m h1 h2; omega
  | k + 1, i => by
    rw [standsF]
    split
    · rename_i h
      exact ⟨fun _ => ⟨i, Nat.le_refl _, by omega, h.2, h.1⟩, fun _ => rfl⟩
    · rename_i h
      rw [stands_iff s W k (i + 1)]
      constructor
      · rintro ⟨m, h1, h2, h3, h4⟩; exact ⟨m, by omega, by omega, h3, h4⟩
      · rintro ⟨m, h1, h2, h3, h4⟩
        have : m ≠ i := fun e => h (by subst e; exact ⟨h4, h3⟩)
        exact ⟨m, by omega, by omega, h3, h4⟩
theorem bs_slice (S : Bs) (k n : Nat) (h : k + n ≤ S.length) : (bs S).extract k (k + n) = bs ((S.drop k).take n) := by
  rw [Lib.extract_eq]
  congr 2
  simp only [bs]
  rw [show k + n - k = n by omega]
theorem run_cut (S : Bs) (i n : Nat) (h : i + n ≤ S.length) (w : World) : (Instr.slice 9 (.string (bs S)) (some (.int .i64 (i : Int))) (some (.int .i64 ((i : Int) + (n : Int)))) none).run Tryd.prog w = .ok (.string (bs ((S.drop i).take n))) w := by
  have hz : (bs S).size = S.length := by simp [bs, ByteArray.size]
  rw [run_slice_string (h := Tryd.underlying9) (h0 := by omega) (h1 := by omega) (h2 := by rw [hz]; omega), ← bs_slice S i n h]
  rfl
set_option maxRecDepth 100000 in
set_option maxHeartbeats 2000000 in
theorem stands_any (w : World) (s W : Bs) (hs : s.length ≤ 1000) (hW : W.length ≤ 1000) :
    Calls Tryd.prog 12 #[.string (bs s), .string (bs W)] w fun en w' => en = .returned (.bool (standsF s W (s.length + 1) 0)) ∧ Below w.heap.size w w' := by
  have ss : (bs s).size = s.length := by simp [bs, ByteArray.size]
  have sW : (bs W).size = W.length := by simp [bs, ByteArray.size]
  go_enter Tryd.func12, Tryd.ntmps12
  go_wp2_with fail
  go_loopg [5] (s.length + 1) (fun k i wr => ∃ (j : Nat), i = .int .i64 j ∧ j + k = s.length + 1 ∧ standsF s W k j = standsF s W (s.length + 1) 0 ∧ wr = w)
  case atStart => exact ⟨0, rfl, by omega, rfl, rfl⟩
  case round =>
    obtain ⟨j, rfl, hj, hst, rfl⟩ := hrel
    have Hst := Lib.hid hst
    clear hst
    by_cases hlt : j + W.length ≤ s.length
    · obtain ⟨k, rfl⟩ : ∃ k, gk = k + 1 := ⟨gk - 1, by omega⟩
      have hsl := run_cut s j W.length hlt wr
      by_cases he : (s.drop j).take W.length = W
      · have Hres := Lib.hid (show standsF s W (s.length + 1) 0 = true by rw [← Hst.out, standsF, if_pos ⟨he, hlt⟩])
        have heq : ((s.drop j).take W.length == W) = true := by rw [beq_iff_eq]; exact he
        clear he Hst
        go_wp2_with fail
        go_ret
        exact ⟨by rw [Hres.out]; rfl, Below.refl _ _⟩
      · have Hres := Lib.hid (show standsF s W k (j + 1) = standsF s W (s.length + 1) 0 by rw [← Hst.out]; conv => rhs; rw [standsF, if_neg (fun h => he h.1)])
        have heq : ((s.drop j).take W.length == W) = false := by rw [beq_eq_false_iff_ne]; exact he
        clear he Hst
        go_wp2_with fail
        go_roundg k
        case measure => omega
        case rel => exact ⟨j + 1, by go_num, by omega, Hres.out, rfl⟩
    · have hres : standsF s W (s.length + 1) 0 = false := by
        rw [← Hst.out, ← Bool.not_eq_true, stands_iff]
        rintro ⟨m, h1, _, h3, _⟩
        omega
      have Hres := Lib.hid hres
      clear hres Hst
      go_wp2_with fail
      go_ret
      exact ⟨by rw [Hres.out]; rfl, Below.refl _ _⟩
theorem print_word (W : Bs) (hW : W.length ≤ 60) : printP (wordT [] W []) = (prT (wordT [] W []), 0) := by
  obtain ⟨a, b, c, d, e, f⟩ := word_all (pre := []) (post := []) (.inl rfl) (.inl rfl) W hW
  unfold printP
  rw [if_neg (by omega), if_pos ⟨by omega, by omega⟩]
/-- What the four patterns find in a text about a word, and the word alone in what stands ahead. -/
theorem plain_all (W ha hb : Bs) (k1 : W.length ≤ 60) (k2 : ha.length ≤ 60) (k3 : hb.length ≤ 60) (P tx : Bs) (hP : P = prT (wordT [] W [])) (ht : tx = ha ++ W ++ hb) :
    ((findF P tx).2.2 = 0 ∧ (findF P tx).1 = true) ∧ ((findF (94 :: P) tx).2.2 = 0 ∧ (findF (94 :: P) tx).1 = (tx.take W.length == W)) ∧ ((findF (P ++ [36]) tx).2.2 = 0 ∧ (findF (P ++ [36]) tx).1 = (tx.drop (tx.length - W.length) == W)) ∧
    ((findF (94 :: (P ++ [36])) tx).2.2 = 0 ∧ (findF (94 :: (P ++ [36])) tx).1 = (tx == W)) ∧ ((findF P ha).2.2 = 0 ∧ (findF P ha).1 = standsF ha W (ha.length + 1) 0) := by
  have hl : tx.length = ha.length + W.length + hb.length := by rw [ht]; simp; omega
  have e2 : 94 :: P = prT (wordT [beginT] W []) := by rw [word_text, hP]; simp [prRow, show prT beginT = [94] by decide, show looseT beginT = false by decide, parT]
  have e3 : P ++ [36] = prT (wordT [] W [endT]) := by rw [word_text, hP]; simp [prRow, show prT endT = [36] by decide, show looseT endT = false by decide, parT]
  have e4 : 94 :: (P ++ [36]) = prT (wordT [beginT] W [endT]) := by rw [word_text, hP]; simp [prRow, show prT beginT = [94] by decide, show looseT beginT = false by decide, show prT endT = [36] by decide, show looseT endT = false by decide, parT]
  obtain ⟨a1, b1⟩ := word_find (pre := []) (post := []) (.inl rfl) (.inl rfl) W k1 tx (by omega)
  obtain ⟨a2, b2⟩ := word_find (pre := [beginT]) (post := []) (.inr (.inl rfl)) (.inl rfl) W k1 tx (by omega)
  obtain ⟨a3, b3⟩ := word_find (pre := []) (post := [endT]) (.inl rfl) (.inr (.inr rfl)) W k1 tx (by omega)
  obtain ⟨a4, b4⟩ := word_find (pre := [beginT]) (post := [endT]) (.inr (.inl rfl)) (.inr (.inr rfl)) W k1 tx (by omega)
  obtain ⟨a5, b5⟩ := word_find (pre := []) (post := []) (.inl rfl) (.inl rfl) W k1 ha (by omega)
  rw [← hP] at a1 b1 a5 b5
  rw [← e2] at a2 b2
  rw [← e3] at a3 b3
  rw [← e4] at a4 b4
  rw [found_any] at b1 b5
  rw [found_begin] at b2
  rw [found_end] at b3
  rw [found_both] at b4
  refine ⟨⟨a1, b1.2 ⟨ha.length, by omega, by rw [ht]; simp⟩⟩, ⟨a2, ?_⟩, ⟨a3, ?_⟩, ⟨a4, ?_⟩, a5, ?_⟩
  · rw [Bool.eq_iff_iff, b2, beq_iff_eq]
  · rw [Bool.eq_iff_iff, b3, beq_iff_eq]
    exact ⟨fun h => h.2, fun h => ⟨by omega, h⟩⟩
  · rw [Bool.eq_iff_iff, b4, beq_iff_eq]
  · rw [Bool.eq_iff_iff, b5, stands_iff]
    constructor
    · rintro ⟨i, h1, h2⟩; exact ⟨i, Nat.zero_le _, by omega, h1, h2⟩
    · rintro ⟨i, _, _, h1, h2⟩; exact ⟨i, h1, h2⟩
end Go.Proofs.YtdpmbanfaigmcaaDoor

/- vouchlaw12.MatchPlain: walked. -/
set_option linter.unusedVariables false
set_option linter.unusedSimpArgs false
namespace Go.Proofs.YtdpmbanfaigmcaaDoor
open Go.RowKit

theorem or_zero : ∀ k < 64, orI 0 (2 ^ k) = 2 ^ k := by decide +kernel
theorem put_one (c : Nat) (hc : c < 256) : w40.put (c / 64) (2 ^ (c % 64)) = w40.add c := by
  have h := or_zero (c % 64) (by omega)
  unfold W4.put W4.add
  rcases (show c < 64 ∨ (64 ≤ c ∧ c < 128) ∨ (128 ≤ c ∧ c < 192) ∨ (192 ≤ c ∧ c < 256) by omega) with g | g | g | g
  · rw [if_pos (by omega), if_pos g, ← h, show c % 64 = c by omega]; rfl
  · rw [if_neg (by omega), if_pos (by omega), if_neg (by omega), if_pos g.2, ← h, show c % 64 = c - 64 by omega]; rfl
  · rw [if_neg (by omega), if_neg (by omega), if_pos (by omega), if_neg (by omega), if_neg (by omega), if_pos g.2, ← h, show c % 64 = c - 128 by omega]; rfl
  · rw [if_neg (by omega), if_neg (by omega), if_neg (by omega), if_neg (by omega), if_neg (by omega), if_neg (by omega), ← h, show c % 64 = c - 192 by omega]; rfl
theorem xcells_one (l : List Nx) : ∀ u ∈ xcells l, u.oneCell' = true := fun u hu => by
  obtain ⟨x, _, hx⟩ := List.mem_flatMap.1 hu
  exact xcell_one x u hx
/-- Where the loop that builds the row stands. -/
def Built (W : Bs) (j : Nat) (ns : List Nx) : Prop := ns.map (fun x : Nx => x.1) = none0 :: none0 :: (W.take j).map oneT ∧ ns.length = j + 2
set_option maxRecDepth 100000 in
set_option maxHeartbeats 8000000 in
theorem mplain_any (w : World) (hM : MaxOk w) (hT : TabIn w.heap.size w) (W : Bs) (hW : W.length ≤ maxLen) (ha : Bs) (hah : ha.length ≤ maxLen) (hb : Bs) (hbh : hb.length ≤ maxLen) :
    Calls Tryd.prog 3 #[.string (bs W), .string (bs ha), .string (bs hb)] w fun e w' => e = .returned (.bool true) ∧ Below w.heap.size w w' := by
  have HE := Lib.hid (Env.start hM hT)
  have sW : (bs W).size = W.length := by simp [bs, ByteArray.size]
  have sa : (bs ha).size = ha.length := by simp [bs, ByteArray.size]
  have sb : (bs hb).size = hb.length := by simp [bs, ByteArray.size]
  clear hM hT
  go_enter Tryd.func3, Tryd.ntmps3
  by_cases l1 : 60 < W.length
  · go_wp2_with fail
    all_goals
      go_ret
      exact ⟨rfl, Below.refl _ _⟩
  by_cases l2 : 60 < ha.length
  · go_wp2_with fail
    all_goals
      go_ret
      exact ⟨rfl, Below.refl _ _⟩
  by_cases l3 : 60 < hb.length
  · go_wp2_with fail
    all_goals
      go_ret
      exact ⟨rfl, Below.refl _ _⟩
  have k1 : W.length ≤ 60 := by omega
  have k2 : ha.length ≤ 60 := by omega
  have k3 : hb.length ≤ 60 := by omega
  clear l1 l2 l3 hW hah hbh
  go_upto_region 4 with fail
  generalize hW1 : w.alloc _ = W1
  have hR1 : RowP W1 w.heap.size [] none 0 := by
    subst hW1
    exact ⟨BlkX.new w _, ⟨rfl, .inl ⟨rfl, rfl⟩⟩, fun x hx => by cases hx⟩
  have hb1 : Below w.heap.size w W1 := by subst hW1; exact (Below.refl _ _).alloc (Nat.le_refl _) _
  obtain ⟨v0, hv0, q7, y7⟩ : ∃ v0, v0 = Value.slice none 0 0 ∧ W1.cell? ⟨w.heap.size, 7, none⟩ = some v0 ∧ W1.frozen? ⟨w.heap.size, 7, none⟩ = false := ⟨_, rfl, hR1.blk.cell 7, hR1.blk.froz 7⟩
  have Hv := Lib.hid hv0
  clear hv0
  have Hown0 := Lib.hid (show W1.ownsRow (w.heap.size + 1) 27 8 v0 0 [] by rw [Hv.out]; exact hR1.own)
  have HE1 := Lib.hid (HE.out.step hb1); have HR1 := Lib.hid hR1
  have hz1 : w.heap.size < W1.heap.size := hR1.blk.lt
  clear hW1 hR1 hb1
  have hnews : ∀ ad, some (⟨W1.heap.size, 0, none⟩ : Addr) = some ad → ∀ j u, (xcells [(none0, none, 0), (none0, none, 0)])[j]? = some u → (W1.alloc (.cells (xcells [(none0, none, 0), (none0, none, 0)]).toArray 27)).cell? (ad.add j) = some u := fun ad e j u hu => by
    simp only [Option.some.injEq] at e
    subst e
    rw [addr_addX, World.cell?_alloc_new, Nat.zero_add]
    simpa using hu
  have Hnews := Lib.hid hnews; clear hnews
  go_wp2_with (at_builtin; refine wpList_append_fromX (w.heap.size + 1) rfl _ _ 25 27 _ 8 80 rfl Tryd.underlying25 Tryd.infoNodeX rfl (by omega) (by omega) v0 0 2 [] (xcells [(none0, none, 0), (none0, none, 0)]) (some ⟨W1.heap.size, 0, none⟩) 2 rfl rfl (by simp) rfl Hnews.out (xcells_one _) (Hown0.out.alloc _) (by simp; omega) (by omega) (fun A5 c5 w5 ho5 hg5 hat5 => ?_); rw [Hv.out] at hg5; have hal := (Below.refl W1.heap.size W1).alloc (Nat.le_refl _) (.cells (xcells [(none0, none, 0), (none0, none, 0)]).toArray 27); have HP5 := Lib.hid (HR1.out.push (ys := [(none0, none, 0), (none0, none, 0)]) hal ho5 hg5 (by intro x hx; simp at hx; subst hx; exact ⟨rfl, rfl, rfl⟩)); have HB5 := Lib.hid (HR1.out.below HE1.out.bl (Nat.le_refl _) hal hg5 (.slice A5 (0 + 2) c5)); have hbk : BlkX w5 w.heap.size _ := HR1.out.blk.keep ((hg5.block _ (by simp; omega) (HR1.out.free (Nat.le_refl _))).trans (hal.block _ hz1)); have q7' := hbk.cell 7; have y7 := hbk.froz 7; clear ho5 hg5 hat5 hal)
  have hP6 : RowP (w5.setCell ⟨w.heap.size, 7, none⟩ (.slice A5 2 c5)) w.heap.size [(none0, none, 0), (none0, none, 0)] A5 c5 := HP5.out
  have hB6 : Below w.heap.size w (w5.setCell ⟨w.heap.size, 7, none⟩ (.slice A5 2 c5)) := HB5.out
  generalize w5.setCell ⟨w.heap.size, 7, none⟩ (.slice A5 2 c5) = W6 at *
  have HP6 := Lib.hid hP6; have HE6 := Lib.hid (HE.out.step hB6)
  clear hP6 hB6 HP5 HB5 hbk q7' Hnews Hown0 Hv q7 y7 HR1 HE1 hz1
  go_loopg [8] (W.length) (fun k i wr => ∃ (j : Nat) (ns : List Nx) (A : Option Addr) (c : Nat), i = .int .i64 j ∧ j + k = W.length ∧ Built W j ns ∧ RowP wr w.heap.size ns A c ∧ Env w wr)
  case atStart => exact ⟨0, _, A5, c5, rfl, by omega, ⟨rfl, rfl⟩, HP6.out, HE6.out⟩
  case round =>
    obtain ⟨j, ns, A, c, rfl, hj, hbu, hP, hEr⟩ := hrel
    have HP := Lib.hid hP; have HEr := Lib.hid hEr; have HBu := Lib.hid hbu
    clear hP hEr hbu HP6 HE6
    by_cases hlt : j < W.length
    · have hidx : ∀ hh, ((bs W)[j]'hh) = W[j] := fun _ => rfl
      have hd : W.take (j + 1) = W.take j ++ [W[j]] := by rw [List.take_append_getElem]
      have Hd := Lib.hid hd
      clear hd
      have hc256 : W[j].toNat < 256 := W[j].toNat_lt
      go_upto_region 9 with fail
      generalize hW2 : wr.alloc _ = W2
      have hs2 : SetAt W2 wr.heap.size w40 := by subst hW2; exact SetAt.new wr
      have hb2 : Below wr.heap.size wr W2 := by subst hW2; exact (Below.refl _ _).alloc (Nat.le_refl _) _
      clear hW2
      have HP2 := Lib.hid (HP.out.later hb2); have HE2 := Lib.hid (HEr.out.step hb2)
      have hp1 := put_one W[j].toNat hc256
      have hs3 := (hs2.put (W[j].toNat / 64) (by omega) (2 ^ (W[j].toNat % 64)))
      rw [hp1] at hs3
      have hb3 : Below wr.heap.size wr (W2.setCell ⟨wr.heap.size, W[j].toNat / 64, none⟩ (.int .u64 (2 ^ (W[j].toNat % 64)))) := hb2.setCell (p := ⟨wr.heap.size, W[j].toNat / 64, none⟩) (Nat.le_refl _) _
      have HS3 := Lib.hid hs3; have HB3 := Lib.hid hb3
      have hq : (W[j].toNat : Int).tdiv 64 = ((W[j].toNat / 64 : Nat) : Int) := by rw [Int.tdiv_eq_ediv_of_nonneg (by omega)]; omega
      have hr : (W[j].toNat : Int).tmod 64 = ((W[j].toNat % 64 : Nat) : Int) := by rw [Int.tmod_eq_emod_of_nonneg (by omega)]; omega
      have hw := wrap_pow (W[j].toNat % 64) (by omega)
      have hk4 : W[j].toNat % 64 < 64 := by omega
      have hi4 : W[j].toNat / 64 < 4 := by omega
      have hz2 := hs2.froz (W[j].toNat / 64)
      have hcell : ∃ u, W2.cell? ⟨wr.heap.size, W[j].toNat / 64, none⟩ = some u := by
        obtain ⟨f0, f1, f2, f3⟩ := hs2.at4
        rcases (show W[j].toNat / 64 = 0 ∨ W[j].toNat / 64 = 1 ∨ W[j].toNat / 64 = 2 ∨ W[j].toNat / 64 = 3 by omega) with e | e | e | e <;> rw [e]
        · exact ⟨_, f0⟩
        · exact ⟨_, f1⟩
        · exact ⟨_, f2⟩
        · exact ⟨_, f3⟩
      obtain ⟨u, hcell⟩ := hcell
      clear hs2 hb2 hs3 hb3 hp1
      generalize W[j].toNat / 64 = wi at *
      generalize hk : W[j].toNat % 64 = k at *
      clear hk
      go_region
      have hb4 : Below wr.heap.size wr (W2.setCell ⟨wr.heap.size, wi, none⟩ (.int .u64 (2 ^ k))).drew := HB3.out.drew
      have hs4 : SetAt (W2.setCell ⟨wr.heap.size, wi, none⟩ (.int .u64 (2 ^ k))).drew wr.heap.size (w40.add W[j].toNat) := HS3.out.drew
      generalize (W2.setCell ⟨wr.heap.size, wi, none⟩ (.int .u64 (2 ^ k))).drew = W3 at *
      have HP3 := Lib.hid (HP.out.later hb4); have HE3 := Lib.hid (HEr.out.step hb4)
      obtain ⟨f0, f1, f2, f3⟩ := hs4.at4
      simp only [Nat.zero_add] at f1 f2 f3
      have q7 : W3.cell? ⟨w.heap.size, 7, none⟩ = some (.slice A ns.length c) := HP3.out.blk.cell 7
      have hz3 : w.heap.size < W3.heap.size := HP3.out.blk.lt
      have hnl : ns.length ≤ 62 := by have := HBu.out.2; omega
      clear hb4 hs4 hq hr hw hk4 hi4 hz2 hcell HP2 HE2 HS3 HB3
      generalize hch : W[j] = ch at *
      clear hch
      have hnews : ∀ ad, some (⟨W3.heap.size, 0, none⟩ : Addr) = some ad → ∀ j u, (xcells [(oneT ch, none, 0)])[j]? = some u → (W3.alloc (.cells (xcells [(oneT ch, none, 0)]).toArray 27)).cell? (ad.add j) = some u := fun ad e j u hu => by
        simp only [Option.some.injEq] at e
        subst e
        rw [addr_addX, World.cell?_alloc_new, Nat.zero_add]
        simpa using hu
      have Hnews := Lib.hid hnews; clear hnews
      go_wp2_with (at_builtin; refine wpList_append_fromX (w.heap.size + 1) rfl _ _ 25 27 _ 8 80 rfl Tryd.underlying25 Tryd.infoNodeX rfl (by omega) (by omega) (.slice A ns.length c) ns.length 1 (xcells ns) (xcells [(oneT ch, none, 0)]) (some ⟨W3.heap.size, 0, none⟩) 1 rfl rfl (by simp) rfl Hnews.out (xcells_one _) (HP3.out.own.alloc _) (by simp; omega) (by omega) (fun A9 c9 w9 ho9 hg9 hat9 => ?_); have hal := (Below.refl W3.heap.size W3).alloc (Nat.le_refl _) (.cells (xcells [(oneT ch, none, 0)]).toArray 27); have HP9 := Lib.hid (HP3.out.push (ys := [(oneT ch, none, 0)]) hal ho9 hg9 (by intro x hx; simp at hx; subst hx; exact ⟨rfl, rfl, rfl⟩)); have HB9 := Lib.hid (HP3.out.below HE3.out.bl (Nat.le_refl _) hal hg9 (.slice A9 (ns.length + 1) c9)); have hbk : BlkX w9 w.heap.size _ := HP3.out.blk.keep ((hg9.block _ (by simp; omega) (HP3.out.free (Nat.le_refl _))).trans (hal.block _ hz3)); have q9 := hbk.cell 7; have y9 := hbk.froz 7; clear ho9 hg9 hat9 hal)
      have hP9 : RowP (w9.setCell ⟨w.heap.size, 7, none⟩ (.slice A9 (ns.length + 1) c9)) w.heap.size (ns ++ [(oneT ch, none, 0)]) A9 c9 := HP9.out
      go_roundg (gk - 1)
      case measure => omega
      case rel => exact ⟨j + 1, ns ++ [(oneT ch, none, 0)], A9, c9, by go_num, by omega, ⟨by rw [List.map_append, HBu.out.1, Hd.out]; simp, by have := HBu.out.2; simp; omega⟩, hP9, HE.out.step HB9.out⟩
    · have hge : W.length ≤ j := by omega
      have hj0 : j = W.length := by omega
      have hbt := HBu.out.1
      rw [hj0, List.take_length] at hbt
      have hps : (wordT [] W []).ps = ns.map (fun x : Nx => x.1) := by rw [hbt]; show none0 :: none0 :: (W.map oneT ++ []) = _; rw [List.append_nil]
      have hnl := HBu.out.2
      have hnode := HP.out.node (by omega) (by omega) (wordT [] W []) hps
      have hlen : ns.length = (wordT [] W []).ps.length := by rw [hps, List.length_map]
      have h8 : At8 wr w.heap.size 0 (wordT [] W []) A c := ⟨HP.out.blk.cell 0, HP.out.blk.cell 1, HP.out.blk.cell 2, HP.out.blk.cell 3, HP.out.blk.cell 4, HP.out.blk.cell 5, HP.out.blk.cell 6, by rw [← hlen]; exact HP.out.blk.cell 7⟩
      have hfine := (word_all (pre := []) (post := []) (.inl rfl) (.inl rfl) W k1).2.1
      have hprint := print_word W k1
      have Hpr := Lib.hid (print_any (wordT [] W []))
      have hplen := (word_all (pre := []) (post := []) (.inl rfl) (.inl rfl) W k1).2.2.1
      have hall := plain_all W ha hb k1 k2 k3 (prT (wordT [] W [])) (ha ++ W ++ hb) rfl rfl
      have Hfine := Lib.hid hfine; have Hprint := Lib.hid hprint; have Hall := Lib.hid hall; have Hnode := Lib.hid hnode
      clear hfine hprint hall hnode hlen hps hbt HP HBu hnl hj0 hlt y7
      generalize wordT [] W [] = t at *
      obtain ⟨f0, f1, f2, f3, f4, f5, f6, f7⟩ := h8
      go_wp2_with fail
      refine (Hpr.out wr _ A c Hnode.out (fun b h => h) (fun _ => Hfine.out) HEr.out.tb).mono ?_
      rintro e1 w1 ⟨rfl, hb1⟩
      rw [Hprint.out]
      have HE1 := Lib.hid (HEr.out.step hb1)
      clear hb1 f0 f1 f2 f3 f4 f5 f6 f7 Hpr Hprint Hnode Hfine HEr
      generalize prT t = P at *
      have sP : (bs P).size = P.length := by simp [bs, ByteArray.size]
      have c1 : bs ha ++ bs W = bs (ha ++ W) := bs_cat _ _
      have c2 : bs (ha ++ W) ++ bs hb = bs (ha ++ W ++ hb) := bs_cat _ _
      have c3 : bs [94] ++ bs P = bs (94 :: P) := bs_cat _ _
      have c4 : bs P ++ bs [36] = bs (P ++ [36]) := bs_cat _ _
      have c5 : bs (94 :: P) ++ bs [36] = bs (94 :: (P ++ [36])) := bs_cat _ _
      have lx : (ha ++ W ++ hb).length = ha.length + W.length + hb.length := by simp; omega
      generalize ha ++ W ++ hb = tx at *
      have sx : (bs tx).size = tx.length := by simp [bs, ByteArray.size]
      have hle : W.length ≤ tx.length := by omega
      have hbd : tx.length ≤ 180 := by omega
      have x1 : (bs tx).extract 0 W.length = bs (tx.take W.length) := by
        have := bs_slice tx 0 W.length (by omega)
        simpa using this
      have x2 : (bs tx).extract (tx.length - W.length) tx.length = bs (tx.drop (tx.length - W.length)) := by
        have := bs_slice tx (tx.length - W.length) W.length (by omega)
        rw [show tx.length - W.length + W.length = tx.length by omega, List.take_of_length_le (by simp; omega)] at this
        exact this
      clear lx
      have C1 := Lib.hid (find_any P tx); have C2 := Lib.hid (find_any (94 :: P) tx); have C3 := Lib.hid (find_any (P ++ [36]) tx); have C4 := Lib.hid (find_any (94 :: (P ++ [36])) tx); have C5 := Lib.hid (find_any P ha)
      obtain ⟨⟨u1, v1⟩, ⟨u2, v2⟩, ⟨u3, v3⟩, ⟨u4, v4⟩, u5, v5⟩ := Hall.out
      clear Hall
      generalize findF P tx = r1 at *
      generalize findF (94 :: P) tx = r2 at *
      generalize findF (P ++ [36]) tx = r3 at *
      generalize findF (94 :: (P ++ [36])) tx = r4 at *
      generalize findF P ha = r5 at *
      obtain ⟨r1a, r1b, r1c⟩ := r1
      obtain ⟨r2a, r2b, r2c⟩ := r2
      obtain ⟨r3a, r3b, r3c⟩ := r3
      obtain ⟨r4a, r4b, r4c⟩ := r4
      obtain ⟨r5a, r5b, r5c⟩ := r5
      simp only at u1 v1 u2 v2 u3 v3 u4 v4 u5 v5
      subst u1 u2 u3 u4 u5 v1 v2 v3 v4 v5
      go_wp2_with fail
      refine (C1.out w1 HE1.out.mx (fun _ => brC) (fun _ => dotC)).mono ?_
      rintro e2 w2 ⟨rfl, hb2⟩
      have HE2 := Lib.hid (HE1.out.step hb2)
      clear hb2 HE1 c1 c2
      go_wp2_with fail
      refine (C2.out w2 HE2.out.mx (fun _ => brC) (fun _ => dotC)).mono ?_
      rintro e3 w3 ⟨rfl, hb3⟩
      have HE3 := Lib.hid (HE2.out.step hb3)
      clear hb3 HE2
      go_wp2_with fail
      refine (C3.out w3 HE3.out.mx (fun _ => brC) (fun _ => dotC)).mono ?_
      rintro e4 w4 ⟨rfl, hb4⟩
      have HE4 := Lib.hid (HE3.out.step hb4)
      clear hb4 HE3
      go_wp2_with fail
      refine (C4.out w4 HE4.out.mx (fun _ => brC) (fun _ => dotC)).mono ?_
      rintro e5 w5 ⟨rfl, hb5⟩
      have HE5 := Lib.hid (HE4.out.step hb5)
      clear hb5 HE4
      go_wp2_with fail
      refine (C5.out w5 HE5.out.mx (fun _ => brC) (fun _ => dotC)).mono ?_
      rintro e6 w6 ⟨rfl, hb6⟩
      have HE6 := Lib.hid (HE5.out.step hb6)
      clear hb6 HE5 c3 c4 c5 C1 C2 C3 C4 C5
      go_wp2_with fail
      refine (stands_any w6 ha W (by omega) (by omega)).mono ?_
      rintro e7 w7 ⟨rfl, hb7⟩
      have HE7 := Lib.hid (HE6.out.step hb7)
      clear hb7 HE6 x1 x2
      go_wp2_with fail
      refine (works12_any w7 HE7.out.mx).mono ?_
      rintro e8 w8 ⟨rfl, hb8⟩
      go_wp2_with fail
      go_ret
      exact ⟨rfl, (HE7.out.step hb8).bl⟩
end Go.Proofs.YtdpmbanfaigmcaaDoor

