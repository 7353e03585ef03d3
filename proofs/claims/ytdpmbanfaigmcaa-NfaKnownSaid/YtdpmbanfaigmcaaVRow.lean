/- The walk of nfa's layer: row. -/
import Derived.Test.YtdpmbanfaigmcaaVBack
set_option linter.unusedVariables false
set_option linter.unusedSimpArgs false
namespace Go.Proofs.Ytdpmbanfaigmcaa
open Go.RowKit Go.Shelf
attribute [local go_sem] Oper.semAt_some

theorem ownsRow_gb {B : Nat} {W W' : World} (h : GB B W W') {base : Nat} {e : TypeId} {size n : Nat} {v : Value} {xs : List Value} (ho : W.ownsRow base e size v n xs) : W'.ownsRow base e size v n xs := by
  refine ⟨ho.1, ?_⟩
  rcases ho.2 with h0 | ⟨g, cap, cur, rfl, hb, hg, rest⟩
  · exact .inl h0
  · exact .inr ⟨g, cap, cur, rfl, hb, h.keep _ _ hg (.inr rfl), rest⟩
theorem Layer.gb {B : Nat} {W W' : World} (h : GB B W W') {L base : Nat} {v : Value} {l : List St} (hL : Layer W L base v l) : Layer W' L base v l :=
  ⟨(h.cell hL.cell).1, (h.cell hL.cell).2.trans hL.froz, ownsRow_gb h hL.own, hL.ne, Nat.le_trans hL.base h.size⟩
theorem Lays.gb {B : Nat} {w W W' : World} (h : GB B W W') {L : Nat} {r : Option Nat} (hl : Lays L r w W) (hB : w.heap.size ≤ B) : Lays L r w W' :=
  ⟨h.os.trans hl.os, h.tape.trans hl.tape, h.output.trans hl.output, Nat.le_trans hl.size h.size, fun k hk h1 h2 => by
    have e := hl.block k hk h1 h2
    have hkW := Nat.lt_of_lt_of_le hk hl.size
    have h3 : W.heap[k]? = some W.heap[k] := Array.getElem?_eq_getElem hkW
    rw [← e, h3]
    exact h.keep k _ h3 (.inl (by omega))⟩
theorem Layer.setOther {w : World} {L base : Nat} {v : Value} {l : List St} (h : Layer w L base v l) {B o : Nat} (h1 : B ≠ L) (h2 : some B ≠ v.ownBlock) (u : Value) : Layer (w.setCell ⟨B, o, none⟩ u) L base v l := by
  refine ⟨?_, ?_, ?_, h.ne, by rw [World.size_setCell]; exact h.base⟩
  · rw [World.cell?_setCell_other _ _ _ _ (by intro e; injection e with e; exact h1 e)]; exact h.cell
  · rw [World.frozen?_setCell]; exact h.froz
  · exact h.own.kept (row := some B) ⟨rfl, rfl, rfl, by rw [World.size_setCell]; exact Nat.le_refl _, fun k hk hne => Below.heap_setCell _ _ _ _ (fun e => hne (by rw [e]))⟩ (.inr (fun e => h2 e.symm))
theorem Lays.setNew {w W : World} {L : Nat} {r : Option Nat} (h : Lays L r w W) {B o : Nat} (hB : w.heap.size ≤ B) (u : Value) : Lays L r w (W.setCell ⟨B, o, none⟩ u) :=
  ⟨h.os, h.tape, h.output, by rw [World.size_setCell]; exact h.size, fun k hk h1 h2 => (Below.heap_setCell _ _ _ _ (show k ≠ B by omega)).trans (h.block k hk h1 h2)⟩
theorem rowF_drop : ∀ (ps : List T) (j : Nat) (to : Int) (l : List St), (rowF (ps.drop j) to l).2.length ≤ (rowF ps to l).2.length
  | [], j, to, l => by simp
  | p :: ps, 0, to, l => by simp
  | p :: ps, j + 1, to, l => by
    have h1 := rowF_drop ps j to l
    have h2 := layF_grows p (rowF ps to l).1 (rowF ps to l).2
    rw [List.drop_succ_cons, rowF]
    omega
/-- What a layer's call leaves of blocks that are no cells. -/
theorem Lays.keepsFrom {L : Nat} {w W : World} {base : Nat} {v : Value} {l : List St} (h : Lays L v.ownBlock w W) (hL : Layer w L base v l) (B : Nat) : KeepsFrom B w W :=
  ⟨h.size, fun k o _ hk ho => (h.block k (Array.getElem?_eq_some_iff.1 hk).1 (fun e => by
      obtain ⟨o', ho', hc⟩ := cells_of_cell hL.cell
      rw [e] at hk
      rw [show w.heap[L]? = some o' from ho'] at hk
      cases hk
      rw [hc] at ho; cases ho) (fun e => by
      rcases hL.own.2 with ⟨rfl, _⟩ | ⟨g, cap, cur, rfl, _, hg, _⟩
      · simp [Value.ownBlock] at e
      · simp only [Value.ownBlock] at e
        injection e with e
        rw [e, hg] at hk
        cases hk
        cases ho)).trans hk⟩

/-- Between two rounds of row: k parts are laid. -/
def RowI (t : T) (w W0 : World) (L base : Nat) (v : Value) (to : Int) (l : List St) (k : Nat) (W : World) : Prop :=
  ∃ v', Layer W L base v' (rowF (t.ps.drop (t.ps.length - k)) to l).2 ∧ Moves W0 v v' ∧ Lays L v.ownBlock w W ∧ W.cell? ⟨w.heap.size, 0, none⟩ = some (.pointer (some ⟨L, 0, none⟩)) ∧ W.cell? ⟨w.heap.size + 2, 0, none⟩ = some (.int .i64 (rowF (t.ps.drop (t.ps.length - k)) to l).1) ∧ W.frozen? ⟨w.heap.size + 2, 0, none⟩ = false

set_option maxRecDepth 100000 in
set_option maxHeartbeats 2000000 in
theorem row_any (t : T) (hk : t.k = 4) (hr : rightF t = true) (ih : ∀ p ∈ t.ps, LayAt 41 p) : LayAt 70 t := by
  intro w ok A c L base v l to hN ho hL hlen
  have hps1 : 0 < t.ps.length := by rcases right_cases hr with h | h | h | h | h | h | h <;> omega
  have hrow : layF t to l = rowF t.ps to l := by rw [layF_eq]; simp [hk]
  have hll := hN.len
  cases hN with
  | mk _ _ _ As cs hcap _ ha hp =>
  obtain ⟨b, o, rfl, hb, hcell⟩ := ha (fun e => by simp [e] at hps1)
  rw [hrow] at hlen
  have Hrow := Lib.hid hrow; have Hlen := Lib.hid hlen; have Hih := Lib.hid ih
  clear hrow hk hlen ih
  have hLlt := hL.lt
  have hblt := (ho b hb).1
  refine (callsIn_wide (n := 3)).1 ?_
  refine callsIn_of_wp_marks Try.func70 rfl trivial ?_ rfl
  simp only [Try.ntmps70, List.size_toArray, List.length_cons, List.length_nil, Nat.reduceAdd, Nat.reduceSub, Array.replicate_succ, Array.replicate_zero, List.push_toArray, List.append_toArray, List.nil_append, List.cons_append]
  gi_wp2
  refine ⟨trivial, (callsIn_wide.2 (backN_any _ _ _ _)).mono ?_⟩
  rintro e w' ⟨rfl, rfl⟩
  gi_wp2
  have hz4 : ((((w.alloc (.cells #[.pointer (some ⟨L, 0, none⟩)] 61)).alloc (.cells #[.int .i64 t.k, .int .u64 t.s0, .int .u64 t.s1, .int .u64 t.s2, .int .u64 t.s3, .int .i64 t.mn, .int .i64 t.mx, .slice (some ⟨b, o, none⟩) t.ps.length c] 27)).alloc (.cells #[.int .i64 to] 3)).alloc (.cells #[.slice (some ⟨b, o, none⟩) t.ps.length c] 25)).heap.size = w.heap.size + 4 := by simp
  generalize hW : (((w.alloc _).alloc _).alloc _).alloc _ = W0 at *
  have hz4a : w.heap.size + 4 ≤ W0.heap.size := by omega
  have hz4b : W0.heap.size ≤ w.heap.size + 4 := by omega
  clear hz4
  have hb0 : Below w.heap.size w W0 := by subst hW; exact (((((Below.refl _ _).alloc (Nat.le_refl _) _).alloc (by simp) _).alloc (by simp; omega) _).alloc (by simp; omega) _)
  have c0 : W0.cell? ⟨w.heap.size, 0, none⟩ = some (.pointer (some ⟨L, 0, none⟩)) := by subst hW; simp [go_sem]
  have c2 : W0.cell? ⟨w.heap.size + 2, 0, none⟩ = some (.int .i64 to) := by subst hW; simp [go_sem]
  have e2 : W0.frozen? ⟨w.heap.size + 2, 0, none⟩ = false := by subst hW; simp [go_sem]
  have c3 : W0.cell? ⟨w.heap.size + 3, 0, none⟩ = some (.slice (some ⟨b, o, none⟩) t.ps.length c) := by subst hW; simp [go_sem]
  clear hW
  have hL0 := hL.later hb0
  have hno : ∀ j, w.heap.size ≤ j → some j ≠ v.ownBlock := fun j hj e => by have := (hL.own.lt _ e.symm).2; omega
  have hmv : ∀ v' : Value, Moves W0 v v' → ∀ j, w.heap.size ≤ j → j < W0.heap.size → some j ≠ v'.ownBlock := fun v' hm j h1 h2 e => by
    rcases hm with hm | ⟨x, hx, hle⟩
    · exact hno j h1 (e.trans hm)
    · rw [hx] at e; injection e with e; omega
  have HR : ∀ k, k < t.ps.length → rowF (t.ps.drop (t.ps.length - (k + 1))) to l = layF (t.ps.getD (t.ps.length - 1 - k) default) (rowF (t.ps.drop (t.ps.length - k)) to l).1 (rowF (t.ps.drop (t.ps.length - k)) to l).2 := fun k hk => by
    have h1 : t.ps.length - 1 - k < t.ps.length := by omega
    rw [show t.ps.length - (k + 1) = t.ps.length - 1 - k by omega, List.drop_eq_getElem_cons h1, rowF, show t.ps.length - 1 - k + 1 = t.ps.length - k by omega]
    simp [List.getD_eq_getElem?_getD, h1]
  refine wpIn_range_idx rfl (by omega) (gf := 80) (lb := #[.pointer (some ⟨w.heap.size + 3, 0, none⟩)]) rfl trivial (enters_of Try.func80 (by kernel_rfl) rfl) (enc := encN t.ps As cs) (N := t.ps.length) (fun k => rfl)
    (RowI t w W0 L base v to l)
    ?hI ?h0 (KeepOn (fun x => x = b ∨ x = w.heap.size + 3)) (fun W W' h1 h2 => KeepOn.of_gb (by intro x hx; rcases hx with rfl | rfl <;> omega) h1 h2) (fun h k => h.trans k)
    ?hseq ?hround ?hdone
  case hI =>
    rintro k W W' ⟨v', h1, h2, h3, h4, h5, h6⟩ hg
    exact ⟨v', h1.gb hg, h2, h3.gb hg (by omega), (hg.cell h4).1, (hg.cell h5).1, (hg.cell h5).2.trans h6⟩
  case h0 =>
    refine ⟨v, ?_, Moves.refl _ _, Lays.of_below hb0, c0, ?_, e2⟩
    · rw [List.drop_of_length_le (by omega), rowF]; exact hL0
    · rw [List.drop_of_length_le (by omega), rowF]; exact c2
  case hseq =>
    intro l0 J W hg hY hJ
    refine backN_seq 2 l0 (w.heap.size + 3) b o c t.ps As cs hll J W (hg.cell c3).1 ?_ hY hJ
    intro i hi
    have h8 := hcell i _ (List.getElem?_eq_getElem hi)
    refine h8.mono fun o' => ?_
    have hw0 := hb0.cell (p := ⟨b, o', none⟩) hblt
    have hbz : b < W0.heap.size := by omega
    have hk1 : W0.heap[b]? = some W0.heap[b] := Array.getElem?_eq_getElem hbz
    exact (World.cell?_of_block (w := W0) (a := ⟨b, o', none⟩) ((hg.keep b _ hk1 (.inl hbz)).trans hk1.symm)).trans hw0
  case hround =>
    intro l0 k W hl0 hzW hk hIk
    obtain ⟨v', hL', hm', hlays, d0, d2, g2⟩ := hIk
    have hkl : t.ps.length - 1 - k < t.ps.length := by omega
    have hpk : t.ps[t.ps.length - 1 - k]? = some (t.ps.getD (t.ps.length - 1 - k) default) := by simp [List.getD_eq_getElem?_getD, hkl]
    have hNk := (hp _ _ hpk).lays ho hlays
    have hmem : t.ps.getD (t.ps.length - 1 - k) default ∈ t.ps := List.mem_of_getElem? hpk
    have hihk := Hih.out _ hmem
    have hlk : (layF (t.ps.getD (t.ps.length - 1 - k) default) (rowF (t.ps.drop (t.ps.length - k)) to l).1 (rowF (t.ps.drop (t.ps.length - k)) to l).2).2.length ≤ 1000000 := by
      rw [← HR k hk]
      exact Nat.le_trans (rowF_drop _ _ _ _) Hlen.out
    have HRk := Lib.hid (HR k hk)
    unfold encN
    generalize As (t.ps.length - 1 - k) = Ak at *
    generalize cs (t.ps.length - 1 - k) = ck at *
    generalize t.ps.getD (t.ps.length - 1 - k) default = p at *
    have Hihk := Lib.hid hihk
    clear hihk HR hp hcell hpk Hih
    gi_wp2
    have hbW : Below W.heap.size W (W.alloc (.cells #[.int .i64 p.k, .int .u64 p.s0, .int .u64 p.s1, .int .u64 p.s2, .int .u64 p.s3, .int .i64 p.mn, .int .i64 p.mx, .slice Ak p.ps.length ck] 27)) := (Below.refl _ _).alloc (Nat.le_refl _) _
    refine ⟨(KeepsOthers.alloc _ _).from _, fun x hx o' => hbW.cell (p := ⟨x, o', none⟩) (by show x < _; rcases hx with rfl | rfl <;> omega), fun W2 hg2 => ?_⟩
    have hP : At8 (W.alloc (.cells #[.int .i64 p.k, .int .u64 p.s0, .int .u64 p.s1, .int .u64 p.s2, .int .u64 p.s3, .int .i64 p.mn, .int .i64 p.mx, .slice Ak p.ps.length ck] 27)) W.heap.size 0 p Ak ck := by constructor <;> simp [go_sem]
    obtain ⟨q0, q1, q2, q3, q4, q5, q6, q7⟩ := (⟨(hg2.cell hP.f0).1, (hg2.cell hP.f1).1, (hg2.cell hP.f2).1, (hg2.cell hP.f3).1, (hg2.cell hP.f4).1, (hg2.cell hP.f5).1, (hg2.cell hP.f6).1, (hg2.cell hP.f7).1⟩ : At8 W2 W.heap.size 0 p Ak ck)
    simp only [Nat.zero_add] at q1 q2 q3 q4 q5 q6 q7
    have hmw' : Moves w v v' := by
      rcases hm' with h | ⟨y, hy, hle⟩
      · exact .inl h
      · exact .inr ⟨y, hy, by omega⟩
    have hLW := hL'.later hbW
    have hL2 := hLW.gb hg2
    have hlays2 := (hlays.trans hmw' (Lays.of_below hbW)).gb hg2 (show w.heap.size ≤ W0.heap.size by omega)
    have k0 := (hg2.cell ((hbW.cell (p := ⟨w.heap.size, 0, none⟩) (show w.heap.size < W.heap.size by omega)).trans d0)).1
    have k2 := (hg2.cell ((hbW.cell (p := ⟨w.heap.size + 2, 0, none⟩) (show w.heap.size + 2 < W.heap.size by omega)).trans d2)).1
    have j2 : W2.frozen? ⟨w.heap.size + 2, 0, none⟩ = false := (hg2.cell ((hbW.cell (p := ⟨w.heap.size + 2, 0, none⟩) (show w.heap.size + 2 < W.heap.size by omega)).trans d2)).2.trans ((hbW.frozen (p := ⟨w.heap.size + 2, 0, none⟩) (show w.heap.size + 2 < W.heap.size by omega)).trans g2)
    have hz2 : W.heap.size + 1 ≤ W2.heap.size := by have := hg2.size; simpa using this
    have hNk2 := hNk.later hbW (fun x hx => Nat.lt_of_lt_of_le (ho x hx).1 hlays.size)
    have hok2 : OkL W2 L v' ok := fun x hx => by
      obtain ⟨a1, a2, a3⟩ := ho x hx
      refine ⟨by omega, a2, fun e => ?_⟩
      rcases hm' with hm' | ⟨y, hy, hle⟩
      · exact a3 (e.trans hm')
      · rw [hy] at e; injection e with e; omega
    have hNk3 : NodeAt W2 ok p Ak ck := hNk2.mono fun x hx => ⟨hx, fun o' => by
      have hxz : x < (W.alloc (.cells #[.int .i64 p.k, .int .u64 p.s0, .int .u64 p.s1, .int .u64 p.s2, .int .u64 p.s3, .int .i64 p.mn, .int .i64 p.mx, .slice Ak p.ps.length ck] 27)).heap.size := by have := (ho x hx).1; simp; omega
      have hk1 := Array.getElem?_eq_getElem hxz
      exact World.cell?_of_block (a := ⟨x, o', none⟩) ((hg2.keep x _ hk1 (.inl (by have := (ho x hx).1; omega))).trans hk1.symm)⟩
    gi_wp2
    refine ⟨trivial, (CallsIn.inRound l0 (callsIn_wide.2 (Hihk.out W2 ok Ak ck L base v' _ _ hNk3 hok2 hL2 hlk))).mono ?_⟩
    rintro e W3 ⟨rfl, v3, hL3, hm3, hl3⟩
    have hBt : w.heap.size + 2 < W2.heap.size ∧ w.heap.size + 2 ≠ L ∧ some (w.heap.size + 2) ≠ v'.ownBlock := ⟨by omega, by omega, hmv v' hm' _ (by omega) (by omega)⟩
    have hBl : w.heap.size < W2.heap.size ∧ w.heap.size ≠ L ∧ some w.heap.size ≠ v'.ownBlock := ⟨by omega, by omega, hmv v' hm' _ (by omega) (by omega)⟩
    have r0 := (hl3.cell (o := 0) hBl.1 hBl.2.1 hBl.2.2).trans k0
    have r2 := (hl3.cell (o := 0) hBt.1 hBt.2.1 hBt.2.2).trans k2
    have i2 := (hl3.frozen (o := 0) hBt.1 hBt.2.1 hBt.2.2).trans j2
    have hm4 : Moves W0 v v3 := hm'.trans (by omega) hm3
    have hl4 := hlays2.trans hmw' hl3
    have hBt3 := hmv v3 hm4 (w.heap.size + 2) (by omega) (by omega)
    have hz3 := hl3.size
    gi_wp2
    refine ⟨rfl, ?_, ?_, v3, ?_, hm4, hl4.setNew (by omega) _, ?_, ?_, ?_⟩
    · exact (hl3.keepsFrom hL2 _).trans ((KeepsOthers.setCell _ _ _).from _)
    · intro x hx o'
      have hx1 : x ≠ w.heap.size + 2 := by rcases hx with rfl | rfl <;> omega
      rw [World.cell?_setCell_other _ _ _ _ (by intro e; injection e with e; omega)]
      refine hl3.cell (by rcases hx with rfl | rfl <;> omega) ?_ ?_
      · rcases hx with rfl | rfl
        · exact (ho _ hb).2.1
        · omega
      · rcases hx with rfl | rfl
        · exact (hok2 _ hb).2.2
        · exact hmv v' hm' _ (by omega) (by omega)
    · rw [HRk.out]; exact hL3.setOther (by omega) hBt3 _
    · rw [World.cell?_setCell_other _ _ _ _ (by intro e; injection e with e; omega)]; exact r0
    · rw [HRk.out]; exact World.cell?_setCell_same _ _ _ r2
    · rw [World.frozen?_setCell]; exact i2
  case hdone =>
    rintro D W hD ⟨v', h1, h2, h3, h4, h5, h6⟩ hK
    rw [Nat.sub_self, List.drop_zero] at h1 h5
    gi_wp2
    refine ⟨by simp, .inl ⟨_, _, rfl, run_takeDeferred hK, ?_⟩⟩
    have hg : GB W0.heap.size W (W.putObj D (.deferred none)) := GB.put _ hK rfl hD
    refine ⟨_, results_tmp rfl _ _ _, ?_⟩
    rw [Hrow.out]
    exact ⟨rfl, v', h1.gb hg, (by
      rcases h2 with h | ⟨y, hy, hle⟩
      · exact .inl h
      · exact .inr ⟨y, hy, by omega⟩), h3.gb hg (by omega)⟩
end Go.Proofs.Ytdpmbanfaigmcaa
