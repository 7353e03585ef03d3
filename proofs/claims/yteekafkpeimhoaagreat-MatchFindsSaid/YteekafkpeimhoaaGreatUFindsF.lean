/- Merged texts, part of the proof Finds: Ql, Qm, Qn, Qo, RndL, AppL, Fine, OpenN, LayW, With, RHas, RComp. -/
import Derived.Test.YteekafkpeimhoaaGreatUFindsA
import Derived.Test.YteekafkpeimhoaaGreatUFindsB
import Derived.Test.YteekafkpeimhoaaGreatUFindsC
import Derived.Test.YteekafkpeimhoaaGreatUFindsD
import Derived.Test.YteekafkpeimhoaaGreatUFindsE
import Derived.ProofKit
import Derived.OpenShut
import Derived.ChangeOld
import Derived.SizedLaws
import Derived.Deep.Slices
import Derived.Deep.Fields
import Derived.StillTailTactics
/- vouchref10's Reader: lists of nodes; alternative: walked. -/
set_option linter.unusedVariables false
set_option linter.unusedSimpArgs false
namespace Go.Proofs.YteekafkpeimhoaaGreat
open Go.RowKit

/-- A list of nodes that a call lays, in its own row behind the block bx; beside the result's box and the Reader. -/
structure LstQ (p : Nat) (St : Bs) (op : Int) (w : World) (bx : Nat) (n : Nat) (ns : List Nx) (Av : Option Addr) (cv : Nat) (k : Nat) (s : Rs) (wr : World) : Prop where
  len : ns.length = n
  R : BlkX wr w.heap.size (xcell (.mk 0 0 0 0 0 0 0 [], none, 0)).toArray
  b1 : w.heap.size ≤ bx
  b2 : bx < wr.heap.size
  own : wr.ownsRow (bx + 1) 39 8 (.slice Av n cv) n (xcells ns)
  nodes : ∀ x ∈ ns, NodeAt wr (fun b => w.heap.size < b ∧ b < wr.heap.size ∧ b ≠ bx ∧ some b ≠ (Value.slice Av n cv).ownBlock) x.1 x.2.1 x.2.2
  S : RQ wr p St k op s
  O : Off p w wr
theorem LstQ.off {p : Nat} {St : Bs} {op : Int} {w : World} {bx n : Nat} {ns : List Nx} {Av : Option Addr} {cv k k1 : Nat} {s s' : Rs} {wr w1 : World} (h : LstQ p St op w bx n ns Av cv k s wr) (hp : p < w.heap.size) (hO : Off p wr w1) (hS : RQ w1 p St k1 op s') : LstQ p St op w bx n ns Av cv k1 s' w1 := by
  have hz := hO.size
  have hb1 := h.b1
  refine ⟨h.len, Off.blk hO h.R (by omega), h.b1, Nat.lt_of_lt_of_le h.b2 hz, h.own.kept hO ?_, fun x hx => (h.nodes x hx).mono fun b (hb : w.heap.size < b ∧ b < wr.heap.size ∧ b ≠ bx ∧ some b ≠ (Value.slice Av n cv).ownBlock) => ⟨⟨hb.1, by omega, hb.2.2⟩, fun o => Off.cell hO hb.2.1 (by omega)⟩, hS, Off.trans h.O hO⟩
  cases hv : (Value.slice Av n cv).ownBlock with
  | none => exact .inl rfl
  | some k => have := h.own.lt k hv; exact .inr (by simp; omega)
/-- The box bx written. -/
theorem LstQ.box {p : Nat} {St : Bs} {op : Int} {w : World} {bx n : Nat} {ns : List Nx} {Av : Option Addr} {cv k : Nat} {s : Rs} {wr : World} (h : LstQ p St op w bx n ns Av cv k s wr) (hp : p < w.heap.size) (hb : w.heap.size < bx) (y : Nx) : LstQ p St op w bx n ns Av cv k s (writeX wr bx y) := by
  have hk : ∀ b, b ≠ bx → (writeX wr bx y).heap[b]? = wr.heap[b]? := fun b hb => writeX_other _ _ _ _ hb
  have hz := writeX_size wr bx y
  have hbel := writeX_below (Below.refl bx wr) (Nat.le_refl _) y
  refine ⟨h.len, h.R.keep (hk _ (by omega)), h.b1, by rw [hz]; exact h.b2, h.own.kept (row := some bx) ⟨hbel.os, hbel.tape, hbel.output, by omega, fun b hb hne => hk b (by simpa using hne)⟩ ?_, fun x hx => (h.nodes x hx).mono fun b (hb : w.heap.size < b ∧ b < wr.heap.size ∧ b ≠ bx ∧ some b ≠ (Value.slice Av n cv).ownBlock) => ⟨⟨hb.1, by omega, hb.2.2⟩, fun o => World.cell?_of_block (w := wr) (a := ⟨b, o, none⟩) (hk b hb.2.2.1)⟩, h.S.boxX (by omega) y, Off.boxW h.O h.b1 y⟩
  cases hv : (Value.slice Av n cv).ownBlock with
  | none => exact .inl rfl
  | some k => have := h.own.lt k hv; exact .inr (by simp; omega)
theorem LstQ.push {p : Nat} {St : Bs} {op : Int} {w : World} {bx n : Nat} {ns : List Nx} {Av A' : Option Addr} {cv c' k : Nat} {s : Rs} {W w0 w2 : World} (h : LstQ p St op w bx n ns Av cv k s W) (hp : p < w.heap.size) (x : Nx) (hx : NodeAt W (fun b => w.heap.size < b ∧ b < W.heap.size ∧ b ≠ bx ∧ some b ≠ (Value.slice Av n cv).ownBlock) x.1 x.2.1 x.2.2)
    (h0 : Below W.heap.size W w0) (h1 : w2.ownsRow (bx + 1) 39 8 (.slice A' (n + 1) c') (n + 1) (xcells ns ++ xcell x)) (h2 : w0.grownBy w2 (Value.slice Av n cv).ownBlock) (h3 : (Value.slice A' (n + 1) c').ownBlock = (Value.slice Av n cv).ownBlock ∨ (Value.slice A' (n + 1) c').ownBlock = some w0.heap.size) :
    LstQ p St op w bx (n + 1) (ns ++ [x]) A' c' k s w2 := by
  have hz0 := h0.size
  have hz2 := h2.size
  have hb1 := h.b1
  have hb2 := h.b2
  have hblk : ∀ b, b < W.heap.size → some b ≠ (Value.slice Av n cv).ownBlock → w2.heap[b]? = W.heap[b]? := fun b hb hne => (h2.block b (by omega) hne).trans (h0.block b hb)
  have hrow1 : ∀ k, (Value.slice Av n cv).ownBlock = some k → bx + 1 ≤ k := fun k hk => (h.own.lt k hk).1
  have hne : ∀ b, b < bx + 1 → some b ≠ (Value.slice Av n cv).ownBlock := fun b hb e => by have := hrow1 b e.symm; omega
  have hpW := h.S.lt
  refine ⟨by simp [h.len], h.R.keep (hblk _ h.R.lt (hne _ (by omega))), h.b1, by omega, by rw [xcells_snoc]; exact h1, fun y hy => ?_, rq_kept h.S (by omega) (hblk p hpW (hne _ (by omega))), ?_⟩
  · have key : ∀ b, w.heap.size < b → b < W.heap.size → b ≠ bx → some b ≠ (Value.slice Av n cv).ownBlock → (w.heap.size < b ∧ b < w2.heap.size ∧ b ≠ bx ∧ some b ≠ (Value.slice A' (n + 1) c').ownBlock) ∧ ∀ o, w2.cell? ⟨b, o, none⟩ = W.cell? ⟨b, o, none⟩ := fun b hb1 hb2 hbx hb3 => by
      refine ⟨⟨hb1, by omega, hbx, ?_⟩, fun o => World.cell?_of_block (w := W) (a := ⟨b, o, none⟩) (hblk b hb2 hb3)⟩
      rcases h3 with e | e
      · rw [e]; exact hb3
      · rw [e]; intro e'; simp only [Option.some.injEq] at e'; omega
    rcases List.mem_append.1 hy with hy | hy
    · exact (h.nodes y hy).mono fun b (hb : w.heap.size < b ∧ b < W.heap.size ∧ b ≠ bx ∧ some b ≠ (Value.slice Av n cv).ownBlock) => key b hb.1 hb.2.1 hb.2.2.1 hb.2.2.2
    · simp only [List.mem_singleton] at hy
      subst hy
      exact hx.mono fun b (hb : w.heap.size < b ∧ b < W.heap.size ∧ b ≠ bx ∧ some b ≠ (Value.slice Av n cv).ownBlock) => key b hb.1 hb.2.1 hb.2.2.1 hb.2.2.2
  · have hO := h.O
    have hzW := hO.size
    exact ⟨(h2.os.trans h0.os).trans hO.os, (h2.tape.trans h0.tape).trans hO.tape, (h2.output.trans h0.output).trans hO.output, by omega, fun k hk hkp => (hblk k (by omega) (hne k (by omega))).trans (hO.block k hk hkp)⟩
/-- The list's own node. -/
theorem LstQ.node {p : Nat} {St : Bs} {op : Int} {w : World} {bx n : Nat} {ns : List Nx} {Av : Option Addr} {cv k : Nat} {s : Rs} {wr : World} (h : LstQ p St op w bx n ns Av cv k s wr) (hn : 0 < n) (hn2 : n ≤ 17592186044416) (R : T) (hR : R.ps = ns.map (·.1)) : NodeAt wr (fun b => w.heap.size < b ∧ b < wr.heap.size) R Av cv := by
  have hb1 := h.b1
  obtain ⟨g, hA, hg0, hg, hc⟩ : ∃ g, Av = some ⟨g, 0, none⟩ ∧ bx + 1 ≤ g ∧ g < wr.heap.size ∧ n ≤ cv := by
    rcases h.own.2 with ⟨_, h0⟩ | ⟨g, cap, cur, e, hb, hh, hcap, _⟩
    · omega
    · simp only [Value.slice.injEq] at e
      exact ⟨g, e.1, hb, by (rcases Nat.lt_or_ge g wr.heap.size with h' | h'; exact h'; rw [Array.getElem?_eq_none h'] at hh; simp at hh), by omega⟩
  subst hA
  have h8 : ∀ (i : Nat) (x : Nx), ns[i]? = some x → At8 wr g (i * 8) x.1 x.2.1 x.2.2 := fun i x hi => .ofX fun j hj => by
    have hl := (List.getElem?_eq_some_iff.1 hi).1
    have hx : ns[i] = x := (List.getElem?_eq_some_iff.1 hi).2
    rw [h.own.cellAt (i * 8 + j) (by have := h.len; omega), xcells_get ns i j hl hj, hx]
  have hm := node_litX (W := wr) (ok := fun b => w.heap.size < b ∧ b < wr.heap.size) (g := g) R ns hR (by rw [h.len]; exact hn2) ⟨by omega, hg⟩ h8 (fun i x hi => (h.nodes x (List.mem_of_getElem? hi)).mono fun b (hb : w.heap.size < b ∧ b < wr.heap.size ∧ b ≠ bx ∧ some b ≠ _) => ⟨⟨hb.1, hb.2.1⟩, fun o => rfl⟩)
  exact hm.widerX (by rw [hR, List.length_map, h.len]; exact hc)
/-- The first node of a list, in memory. -/
theorem LstQ.first {p : Nat} {St : Bs} {op : Int} {w : World} {bx n : Nat} {ns : List Nx} {Av : Option Addr} {cv k : Nat} {s : Rs} {wr : World} (h : LstQ p St op w bx n ns Av cv k s wr) (hn : 0 < n) : ∃ g x, Av = some ⟨g, 0, none⟩ ∧ ns[0]? = some x ∧ At8 wr g 0 x.1 x.2.1 x.2.2 ∧ g < wr.heap.size ∧ n ≤ cv ∧ NodeAt wr (fun b => w.heap.size < b ∧ b < wr.heap.size) x.1 x.2.1 x.2.2 := by
  have hb1 := h.b1
  obtain ⟨g, hA, hg0, hg, hc⟩ : ∃ g, Av = some ⟨g, 0, none⟩ ∧ bx + 1 ≤ g ∧ g < wr.heap.size ∧ n ≤ cv := by
    rcases h.own.2 with ⟨_, h0⟩ | ⟨g, cap, cur, e, hb, hh, hcap, _⟩
    · omega
    · simp only [Value.slice.injEq] at e
      exact ⟨g, e.1, hb, by (rcases Nat.lt_or_ge g wr.heap.size with h' | h'; exact h'; rw [Array.getElem?_eq_none h'] at hh; simp at hh), by omega⟩
  subst hA
  have hl : 0 < ns.length := by rw [h.len]; exact hn
  refine ⟨g, ns[0], rfl, List.getElem?_eq_getElem hl, .ofX fun j hj => ?_, hg, hc, (h.nodes _ (List.getElem_mem hl)).mono fun b (hb : w.heap.size < b ∧ b < wr.heap.size ∧ b ≠ bx ∧ some b ≠ _) => ⟨⟨hb.1, hb.2.1⟩, fun o => rfl⟩⟩
  have := h.own.cellAt j (by have := h.len; omega)
  rw [Nat.zero_add, this]
  have e := xcells_get ns 0 j hl hj
  simpa using e
/-- Where the loop of alternative stands. -/
def AltL (p : Nat) (St : Bs) (op : Int) (grp : Bs → PT) (s : Rs) (w : World) (v : Value) (wr : World) (m : Nat) : Prop :=
  ∃ (n : Nat) (ns : List Nx) (Av : Option Addr) (cv : Nat) (k : Nat) (s' : Rs), v = .slice Av n cv ∧ m = s'.rest.length + 1 ∧ n + s'.rest.length ≤ 1024 ∧ LstQ p St op w w.heap.size n ns Av cv k s' wr ∧
    ((∃ e, s' = .error e ∧ (s = .error e ∨ ∃ r, s = .ok r ∧ rowP grp r = .error e)) ∨ ∃ r r' k, s = .ok r ∧ s' = .ok r' ∧ r'.length < k ∧ piecesP grp (r.length + 1) [] r = piecesP grp k (ns.map fun x : Nx => x.1) r')
theorem RQ.rest {w : World} {p : Nat} {S : Bs} {k : Nat} {op : Int} {s : Rs} (h : RQ w p S k op s) : s.rest.length ≤ 1024 := by
  cases s with
  | error e => simp [Rs.rest]
  | ok r => have := h.len; have := h.rdr.top; simp only [Rs.rest]; omega
theorem take_head {a c : UInt8} {t : Bs} (h : c = a) : takeP [a] (c :: t) = some t := by rw [takeP_one, if_pos h.symm]
theorem take_no {a c : UInt8} {t : Bs} (h : c ≠ a) : takeP [a] (c :: t) = none := by rw [takeP_one, if_neg (fun e => h e.symm)]
set_option maxRecDepth 100000 in
set_option maxHeartbeats 8000000 in
theorem qalt_any (w : World) (p : Nat) (St : Bs) (k : Nat) (op : Int) (s : Rs) (h : RQ w p St k op s) (grp : Bs → PT) (hgl : GrpLen grp)
    (hG : (∃ r, s = .ok r) → ∀ (w : World) (k : Nat) (r : Bs), RQ w p St k op (.ok r) → Calls Tryz.prog 77 #[.pointer (some ⟨p, 0, none⟩)] w fun en w' => QNode p St op grp (.ok r) w en w') :
    Calls Tryz.prog 41 #[.pointer (some ⟨p, 0, none⟩)] w fun en w' => QNode p St op (rowP grp) s w en w' := by
  have hlt := h.lt
  have hs := h.rest
  have HP := Lib.hid (fun (hsr : ∃ r, s = .ok r) (w : World) (k0 : Nat) (cc : UInt8) (tt : Bs) (h : RQ w p St k0 op (.ok (cc :: tt))) => qpiece_any w p St k0 op cc tt grp h (hG hsr))
  have H := Lib.hid h; have HGl := Lib.hid hgl
  clear h hG hgl
  go_enter Tryz.func41, Tryz.ntmps41
  go_upto_region 1 with fail
  generalize hW : w.alloc _ = W0
  have hB0 : Below w.heap.size w W0 := by subst hW; exact (Below.refl _ _).alloc (Nat.le_refl _) _
  have R0 : BlkX W0 w.heap.size (xcell (.mk 0 0 0 0 0 0 0 [], none, 0)).toArray := by subst hW; exact BlkX.new w _
  clear hW
  have hI : AltL p St op grp s w (.slice none 0 0) W0 (s.rest.length + 1) := by
    refine ⟨0, [], none, 0, k, s, rfl, rfl, by omega, ⟨rfl, R0, Nat.le_refl _, R0.lt, ⟨rfl, .inl ⟨rfl, rfl⟩⟩, fun x hx => by simp at hx, H.out.later hB0, Off.of_below hB0⟩, ?_⟩
    rcases s with e | r
    · exact .inl ⟨e, rfl, .inl rfl⟩
    · exact .inr ⟨r, r, r.length + 1, rfl, rfl, by omega, rfl⟩
  have HI := Lib.hid hI; clear hI hB0 R0
  go_wp2_with fail
  go_loopg [3] (s.rest.length + 1) (fun m v wr => AltL p St op grp s w v wr m)
  case atStart => exact HI.out
  case round =>
    clear HI H
    obtain ⟨n, ns, Av, cv, kr, s', rfl, hm, hnl, hL, hcase⟩ := hrel
    have HL := Lib.hid hL; have HC := Lib.hid hcase; have Hm := Lib.hid hm
    have Hd := Lib.hid (done_q hL.S)
    clear hL hcase hm
    go_wp2_with fail
    refine Hd.out.mono ?_
    rintro en w1 ⟨rfl, h1, hO1⟩
    have HL := Lib.hid (HL.out.off hlt hO1 h1)
    clear h1 hO1 Hd
    rcases s' with e | (_ | ⟨c, t⟩)
    · rw [show doneS (.error e) = true from rfl]
      have Hfin := Lib.hid (show Out (rowP grp) s (fun t => joinT 4 (ns.map fun x : Nx => x.1) = t) (.error e) by
        rcases HC.out with ⟨e', he, hs⟩ | ⟨r, r', k, _, he, _⟩
        · cases he
          rcases hs with rfl | ⟨r, rfl, hr⟩
          · exact Out.err
          · exact Out.bad hr
        · cases he)
      clear HC Hm
      have hn3 : n = 0 ∨ n = 1 ∨ 2 ≤ n := by omega
      rcases hn3 with rfl | rfl | hn2
      · have hns : ns = [] := List.eq_nil_of_length_eq_zero HL.out.len
        subst hns
        obtain ⟨⟨r0, r1, r2, r3, r4, r5, r6, r7⟩, hz⟩ := HL.out.R.cells8
        have z0 := hz 0; have z1 := hz 1; have z2 := hz 2; have z3 := hz 3; have z4 := hz 4; have z5 := hz 5; have z6 := hz 6; have z7 := hz 7
        have lr := HL.out.R.lt
        clear hz
        go_wp2_with fail
        change bodyPost _ _ _ _ _ (writeX w1 w.heap.size (T.mk 0 0 0 0 0 0 0 [], none, 0))
        have hfn := writeX_blk HL.out.R (T.mk 0 0 0 0 0 0 0 [], none, 0)
        obtain ⟨⟨y0, y1, y2, y3, y4, y5, y6, y7⟩, _⟩ := hfn.cells8
        have hRS := HL.out.S.boxX (b := w.heap.size) (by omega) (T.mk 0 0 0 0 0 0 0 [], none, 0)
        have hOff := Off.boxW HL.out.O (Nat.le_refl _) (T.mk 0 0 0 0 0 0 0 [], none, 0)
        have hNod : NodeAt (writeX w1 w.heap.size (T.mk 0 0 0 0 0 0 0 [], none, 0)) (fun b => w.heap.size ≤ b ∧ b < (writeX w1 w.heap.size (T.mk 0 0 0 0 0 0 0 [], none, 0)).heap.size) (((T.mk 0 0 0 0 0 0 0 [], none, 0) : Nx)).1 (((T.mk 0 0 0 0 0 0 0 [], none, 0) : Nx)).2.1 (((T.mk 0 0 0 0 0 0 0 [], none, 0) : Nx)).2.2 := nodeAt_leafX _ _ _ rfl
        generalize writeX w1 w.heap.size (T.mk 0 0 0 0 0 0 0 [], none, 0) = W3 at *
        exact bodyPost_ret (v := nodeV (((T.mk 0 0 0 0 0 0 0 [], none, 0) : Nx)).1 (((T.mk 0 0 0 0 0 0 0 [], none, 0) : Nx)).2.1 (((T.mk 0 0 0 0 0 0 0 [], none, 0) : Nx)).2.2) (by simp [results, Tryz.results41, y0, y1, y2, y3, y4, y5, y6, y7, go_sem]) rfl ⟨(T.mk 0 0 0 0 0 0 0 [], none, 0), kr, _, rfl, hNod, hRS, hOff, Hfin.out⟩
      · obtain ⟨g, ⟨t1, A1, c1⟩, rfl, hx, h8, hg, hcv, hnd⟩ := HL.out.first (by omega)
        have hj : joinT 4 (ns.map fun x : Nx => x.1) = t1 := by
          have hl := HL.out.len
          match ns, hl, hx with
          | [y], _, hx => simp at hx; subst hx; rfl
        have Hj := Lib.hid hj; have Hnd := Lib.hid hnd
        obtain ⟨f0, f1, f2, f3, f4, f5, f6, f7⟩ := h8
        simp only [Nat.zero_add] at f1 f2 f3 f4 f5 f6 f7
        clear hj hnd hx
        obtain ⟨⟨r0, r1, r2, r3, r4, r5, r6, r7⟩, hz⟩ := HL.out.R.cells8
        have z0 := hz 0; have z1 := hz 1; have z2 := hz 2; have z3 := hz 3; have z4 := hz 4; have z5 := hz 5; have z6 := hz 6; have z7 := hz 7
        have lr := HL.out.R.lt
        clear hz
        go_wp2_with fail
        change bodyPost _ _ _ _ _ (writeX w1 w.heap.size (t1, A1, c1))
        have hfn := writeX_blk HL.out.R (t1, A1, c1)
        obtain ⟨⟨y0, y1, y2, y3, y4, y5, y6, y7⟩, _⟩ := hfn.cells8
        have hRS := HL.out.S.boxX (b := w.heap.size) (by omega) (t1, A1, c1)
        have hOff := Off.boxW HL.out.O (Nat.le_refl _) (t1, A1, c1)
        have hNod : NodeAt (writeX w1 w.heap.size (t1, A1, c1)) (fun b => w.heap.size ≤ b ∧ b < (writeX w1 w.heap.size (t1, A1, c1)).heap.size) (((t1, A1, c1) : Nx)).1 (((t1, A1, c1) : Nx)).2.1 (((t1, A1, c1) : Nx)).2.2 := Hnd.out.mono fun k (hk : w.heap.size < k ∧ k < w1.heap.size) => ⟨⟨by omega, by rw [writeX_size]; exact hk.2⟩, fun o => World.cell?_of_block (w := w1) (a := ⟨k, o, none⟩) (writeX_other _ _ _ _ (show k ≠ w.heap.size by omega))⟩
        generalize writeX w1 w.heap.size (t1, A1, c1) = W3 at *
        exact bodyPost_ret (v := nodeV (((t1, A1, c1) : Nx)).1 (((t1, A1, c1) : Nx)).2.1 (((t1, A1, c1) : Nx)).2.2) (by simp [results, Tryz.results41, y0, y1, y2, y3, y4, y5, y6, y7, go_sem]) rfl ⟨(t1, A1, c1), kr, _, rfl, hNod, hRS, hOff, by have := Hfin.out; rw [Hj.out] at this; exact this⟩
      · obtain rfl : n = (ns.map fun x : Nx => x.1).length := by simp [HL.out.len]
        have hnd := HL.out.node (by omega) (by omega) (.mk 4 0 0 0 0 0 0 (ns.map fun x : Nx => x.1)) rfl
        have hj : joinT 4 (ns.map fun x : Nx => x.1) = .mk 4 0 0 0 0 0 0 (ns.map fun x : Nx => x.1) := by
          generalize ns.map (fun x : Nx => x.1) = l at hn2
          match l, hn2 with
          | a :: b :: l, _ => rfl
        have hb0 : (((ns.map fun x : Nx => x.1).length : Int) == 0) = false := by rw [beq_eq_false_iff_ne]; omega
        have hb1 : (((ns.map fun x : Nx => x.1).length : Int) == 1) = false := by rw [beq_eq_false_iff_ne]; omega
        have Hj := Lib.hid hj; have Hnd := Lib.hid hnd
        clear hj hnd
        generalize hl : (ns.map fun x : Nx => x.1) = l at *
        obtain ⟨⟨r0, r1, r2, r3, r4, r5, r6, r7⟩, hz⟩ := HL.out.R.cells8
        have z0 := hz 0; have z1 := hz 1; have z2 := hz 2; have z3 := hz 3; have z4 := hz 4; have z5 := hz 5; have z6 := hz 6; have z7 := hz 7
        have lr := HL.out.R.lt
        clear hz
        go_wp2_with fail
        change bodyPost _ _ _ _ _ (writeX w1 w.heap.size (T.mk 4 0 0 0 0 0 0 l, Av, cv))
        have hfn := writeX_blk HL.out.R (T.mk 4 0 0 0 0 0 0 l, Av, cv)
        obtain ⟨⟨y0, y1, y2, y3, y4, y5, y6, y7⟩, _⟩ := hfn.cells8
        have hRS := HL.out.S.boxX (b := w.heap.size) (by omega) (T.mk 4 0 0 0 0 0 0 l, Av, cv)
        have hOff := Off.boxW HL.out.O (Nat.le_refl _) (T.mk 4 0 0 0 0 0 0 l, Av, cv)
        have hNod : NodeAt (writeX w1 w.heap.size (T.mk 4 0 0 0 0 0 0 l, Av, cv)) (fun b => w.heap.size ≤ b ∧ b < (writeX w1 w.heap.size (T.mk 4 0 0 0 0 0 0 l, Av, cv)).heap.size) (((T.mk 4 0 0 0 0 0 0 l, Av, cv) : Nx)).1 (((T.mk 4 0 0 0 0 0 0 l, Av, cv) : Nx)).2.1 (((T.mk 4 0 0 0 0 0 0 l, Av, cv) : Nx)).2.2 := Hnd.out.mono fun k (hk : w.heap.size < k ∧ k < w1.heap.size) => ⟨⟨by omega, by rw [writeX_size]; exact hk.2⟩, fun o => World.cell?_of_block (w := w1) (a := ⟨k, o, none⟩) (writeX_other _ _ _ _ (show k ≠ w.heap.size by omega))⟩
        generalize writeX w1 w.heap.size (T.mk 4 0 0 0 0 0 0 l, Av, cv) = W3 at *
        exact bodyPost_ret (v := nodeV (((T.mk 4 0 0 0 0 0 0 l, Av, cv) : Nx)).1 (((T.mk 4 0 0 0 0 0 0 l, Av, cv) : Nx)).2.1 (((T.mk 4 0 0 0 0 0 0 l, Av, cv) : Nx)).2.2) (by simp [results, Tryz.results41, y0, y1, y2, y3, y4, y5, y6, y7, go_sem]) rfl ⟨(T.mk 4 0 0 0 0 0 0 l, Av, cv), kr, _, rfl, hNod, hRS, hOff, by have := Hfin.out; rw [Hj.out] at this; exact this⟩
    · rw [show doneS (.ok []) = true from rfl]
      have Hfin := Lib.hid (show Out (rowP grp) s (fun t => joinT 4 (ns.map fun x : Nx => x.1) = t) (.ok []) by
        rcases HC.out with ⟨e', he, _⟩ | ⟨r, r', k, rfl, he, hk, hpp⟩
        · cases he
        · cases he
          obtain ⟨k', rfl⟩ : ∃ k', k = k' + 1 := ⟨k - 1, by simp at hk; omega⟩
          refine Out.good (x := joinT 4 (ns.map fun x : Nx => x.1)) ?_ rfl
          unfold rowP
          rw [hpp, piecesP, if_pos (show endsRow [] = true from rfl)])
      clear HC Hm
      have hn3 : n = 0 ∨ n = 1 ∨ 2 ≤ n := by omega
      rcases hn3 with rfl | rfl | hn2
      · have hns : ns = [] := List.eq_nil_of_length_eq_zero HL.out.len
        subst hns
        obtain ⟨⟨r0, r1, r2, r3, r4, r5, r6, r7⟩, hz⟩ := HL.out.R.cells8
        have z0 := hz 0; have z1 := hz 1; have z2 := hz 2; have z3 := hz 3; have z4 := hz 4; have z5 := hz 5; have z6 := hz 6; have z7 := hz 7
        have lr := HL.out.R.lt
        clear hz
        go_wp2_with fail
        change bodyPost _ _ _ _ _ (writeX w1 w.heap.size (T.mk 0 0 0 0 0 0 0 [], none, 0))
        have hfn := writeX_blk HL.out.R (T.mk 0 0 0 0 0 0 0 [], none, 0)
        obtain ⟨⟨y0, y1, y2, y3, y4, y5, y6, y7⟩, _⟩ := hfn.cells8
        have hRS := HL.out.S.boxX (b := w.heap.size) (by omega) (T.mk 0 0 0 0 0 0 0 [], none, 0)
        have hOff := Off.boxW HL.out.O (Nat.le_refl _) (T.mk 0 0 0 0 0 0 0 [], none, 0)
        have hNod : NodeAt (writeX w1 w.heap.size (T.mk 0 0 0 0 0 0 0 [], none, 0)) (fun b => w.heap.size ≤ b ∧ b < (writeX w1 w.heap.size (T.mk 0 0 0 0 0 0 0 [], none, 0)).heap.size) (((T.mk 0 0 0 0 0 0 0 [], none, 0) : Nx)).1 (((T.mk 0 0 0 0 0 0 0 [], none, 0) : Nx)).2.1 (((T.mk 0 0 0 0 0 0 0 [], none, 0) : Nx)).2.2 := nodeAt_leafX _ _ _ rfl
        generalize writeX w1 w.heap.size (T.mk 0 0 0 0 0 0 0 [], none, 0) = W3 at *
        exact bodyPost_ret (v := nodeV (((T.mk 0 0 0 0 0 0 0 [], none, 0) : Nx)).1 (((T.mk 0 0 0 0 0 0 0 [], none, 0) : Nx)).2.1 (((T.mk 0 0 0 0 0 0 0 [], none, 0) : Nx)).2.2) (by simp [results, Tryz.results41, y0, y1, y2, y3, y4, y5, y6, y7, go_sem]) rfl ⟨(T.mk 0 0 0 0 0 0 0 [], none, 0), kr, _, rfl, hNod, hRS, hOff, Hfin.out⟩
      · obtain ⟨g, ⟨t1, A1, c1⟩, rfl, hx, h8, hg, hcv, hnd⟩ := HL.out.first (by omega)
        have hj : joinT 4 (ns.map fun x : Nx => x.1) = t1 := by
          have hl := HL.out.len
          match ns, hl, hx with
          | [y], _, hx => simp at hx; subst hx; rfl
        have Hj := Lib.hid hj; have Hnd := Lib.hid hnd
        obtain ⟨f0, f1, f2, f3, f4, f5, f6, f7⟩ := h8
        simp only [Nat.zero_add] at f1 f2 f3 f4 f5 f6 f7
        clear hj hnd hx
        obtain ⟨⟨r0, r1, r2, r3, r4, r5, r6, r7⟩, hz⟩ := HL.out.R.cells8
        have z0 := hz 0; have z1 := hz 1; have z2 := hz 2; have z3 := hz 3; have z4 := hz 4; have z5 := hz 5; have z6 := hz 6; have z7 := hz 7
        have lr := HL.out.R.lt
        clear hz
        go_wp2_with fail
        change bodyPost _ _ _ _ _ (writeX w1 w.heap.size (t1, A1, c1))
        have hfn := writeX_blk HL.out.R (t1, A1, c1)
        obtain ⟨⟨y0, y1, y2, y3, y4, y5, y6, y7⟩, _⟩ := hfn.cells8
        have hRS := HL.out.S.boxX (b := w.heap.size) (by omega) (t1, A1, c1)
        have hOff := Off.boxW HL.out.O (Nat.le_refl _) (t1, A1, c1)
        have hNod : NodeAt (writeX w1 w.heap.size (t1, A1, c1)) (fun b => w.heap.size ≤ b ∧ b < (writeX w1 w.heap.size (t1, A1, c1)).heap.size) (((t1, A1, c1) : Nx)).1 (((t1, A1, c1) : Nx)).2.1 (((t1, A1, c1) : Nx)).2.2 := Hnd.out.mono fun k (hk : w.heap.size < k ∧ k < w1.heap.size) => ⟨⟨by omega, by rw [writeX_size]; exact hk.2⟩, fun o => World.cell?_of_block (w := w1) (a := ⟨k, o, none⟩) (writeX_other _ _ _ _ (show k ≠ w.heap.size by omega))⟩
        generalize writeX w1 w.heap.size (t1, A1, c1) = W3 at *
        exact bodyPost_ret (v := nodeV (((t1, A1, c1) : Nx)).1 (((t1, A1, c1) : Nx)).2.1 (((t1, A1, c1) : Nx)).2.2) (by simp [results, Tryz.results41, y0, y1, y2, y3, y4, y5, y6, y7, go_sem]) rfl ⟨(t1, A1, c1), kr, _, rfl, hNod, hRS, hOff, by have := Hfin.out; rw [Hj.out] at this; exact this⟩
      · obtain rfl : n = (ns.map fun x : Nx => x.1).length := by simp [HL.out.len]
        have hnd := HL.out.node (by omega) (by omega) (.mk 4 0 0 0 0 0 0 (ns.map fun x : Nx => x.1)) rfl
        have hj : joinT 4 (ns.map fun x : Nx => x.1) = .mk 4 0 0 0 0 0 0 (ns.map fun x : Nx => x.1) := by
          generalize ns.map (fun x : Nx => x.1) = l at hn2
          match l, hn2 with
          | a :: b :: l, _ => rfl
        have hb0 : (((ns.map fun x : Nx => x.1).length : Int) == 0) = false := by rw [beq_eq_false_iff_ne]; omega
        have hb1 : (((ns.map fun x : Nx => x.1).length : Int) == 1) = false := by rw [beq_eq_false_iff_ne]; omega
        have Hj := Lib.hid hj; have Hnd := Lib.hid hnd
        clear hj hnd
        generalize hl : (ns.map fun x : Nx => x.1) = l at *
        obtain ⟨⟨r0, r1, r2, r3, r4, r5, r6, r7⟩, hz⟩ := HL.out.R.cells8
        have z0 := hz 0; have z1 := hz 1; have z2 := hz 2; have z3 := hz 3; have z4 := hz 4; have z5 := hz 5; have z6 := hz 6; have z7 := hz 7
        have lr := HL.out.R.lt
        clear hz
        go_wp2_with fail
        change bodyPost _ _ _ _ _ (writeX w1 w.heap.size (T.mk 4 0 0 0 0 0 0 l, Av, cv))
        have hfn := writeX_blk HL.out.R (T.mk 4 0 0 0 0 0 0 l, Av, cv)
        obtain ⟨⟨y0, y1, y2, y3, y4, y5, y6, y7⟩, _⟩ := hfn.cells8
        have hRS := HL.out.S.boxX (b := w.heap.size) (by omega) (T.mk 4 0 0 0 0 0 0 l, Av, cv)
        have hOff := Off.boxW HL.out.O (Nat.le_refl _) (T.mk 4 0 0 0 0 0 0 l, Av, cv)
        have hNod : NodeAt (writeX w1 w.heap.size (T.mk 4 0 0 0 0 0 0 l, Av, cv)) (fun b => w.heap.size ≤ b ∧ b < (writeX w1 w.heap.size (T.mk 4 0 0 0 0 0 0 l, Av, cv)).heap.size) (((T.mk 4 0 0 0 0 0 0 l, Av, cv) : Nx)).1 (((T.mk 4 0 0 0 0 0 0 l, Av, cv) : Nx)).2.1 (((T.mk 4 0 0 0 0 0 0 l, Av, cv) : Nx)).2.2 := Hnd.out.mono fun k (hk : w.heap.size < k ∧ k < w1.heap.size) => ⟨⟨by omega, by rw [writeX_size]; exact hk.2⟩, fun o => World.cell?_of_block (w := w1) (a := ⟨k, o, none⟩) (writeX_other _ _ _ _ (show k ≠ w.heap.size by omega))⟩
        generalize writeX w1 w.heap.size (T.mk 4 0 0 0 0 0 0 l, Av, cv) = W3 at *
        exact bodyPost_ret (v := nodeV (((T.mk 4 0 0 0 0 0 0 l, Av, cv) : Nx)).1 (((T.mk 4 0 0 0 0 0 0 l, Av, cv) : Nx)).2.1 (((T.mk 4 0 0 0 0 0 0 l, Av, cv) : Nx)).2.2) (by simp [results, Tryz.results41, y0, y1, y2, y3, y4, y5, y6, y7, go_sem]) rfl ⟨(T.mk 4 0 0 0 0 0 0 l, Av, cv), kr, _, rfl, hNod, hRS, hOff, by have := Hfin.out; rw [Hj.out] at this; exact this⟩
    · rw [show doneS (.ok (c :: t)) = false from rfl]
      simp only [Rs.rest, List.length_cons] at hnl
      obtain ⟨r, k1, hsr, hk, hpp⟩ : ∃ r k, s = .ok r ∧ (c :: t).length < k + 1 ∧ piecesP grp (r.length + 1) [] r = piecesP grp (k + 1) (ns.map fun x : Nx => x.1) (c :: t) := by
        rcases HC.out with ⟨e', he, _⟩ | ⟨r, r2, k, hs, he, hk, hpp⟩
        · cases he
        · cases he
          obtain ⟨k', rfl⟩ : ∃ k', k = k' + 1 := ⟨k - 1, by omega⟩
          exact ⟨r, k', hs, hk, hpp⟩
      have Hpp := Lib.hid hpp; have Hsr := Lib.hid hsr
      clear hpp hsr HC
      by_cases hc1 : c = 124
      · have Hfin := Lib.hid (show Out (rowP grp) s (fun t => joinT 4 (ns.map fun x : Nx => x.1) = t) (.ok (c :: t)) by
          rw [Hsr.out]
          refine Out.good (x := joinT 4 (ns.map fun x : Nx => x.1)) ?_ rfl
          unfold rowP
          rw [Hpp.out, piecesP, if_pos (by rw [hc1]; rfl)])
        have Hc1 := Lib.hid hc1
        clear hc1 Hm
        go_wp2_with fail
        refine (qis_hit [124] (by simp) (take_head Hc1.out) HL.out.S).mono ?_
        rintro en w2 ⟨rfl, h1, hO1⟩
        have HL := Lib.hid (HL.out.off hlt hO1 h1)
        clear h1 hO1
        have hn3 : n = 0 ∨ n = 1 ∨ 2 ≤ n := by omega
        rcases hn3 with rfl | rfl | hn2
        · have hns : ns = [] := List.eq_nil_of_length_eq_zero HL.out.len
          subst hns
          obtain ⟨⟨r0, r1, r2, r3, r4, r5, r6, r7⟩, hz⟩ := HL.out.R.cells8
          have z0 := hz 0; have z1 := hz 1; have z2 := hz 2; have z3 := hz 3; have z4 := hz 4; have z5 := hz 5; have z6 := hz 6; have z7 := hz 7
          have lr := HL.out.R.lt
          clear hz
          go_wp2_with fail
          change bodyPost _ _ _ _ _ (writeX w2 w.heap.size (T.mk 0 0 0 0 0 0 0 [], none, 0))
          have hfn := writeX_blk HL.out.R (T.mk 0 0 0 0 0 0 0 [], none, 0)
          obtain ⟨⟨y0, y1, y2, y3, y4, y5, y6, y7⟩, _⟩ := hfn.cells8
          have hRS := HL.out.S.boxX (b := w.heap.size) (by omega) (T.mk 0 0 0 0 0 0 0 [], none, 0)
          have hOff := Off.boxW HL.out.O (Nat.le_refl _) (T.mk 0 0 0 0 0 0 0 [], none, 0)
          have hNod : NodeAt (writeX w2 w.heap.size (T.mk 0 0 0 0 0 0 0 [], none, 0)) (fun b => w.heap.size ≤ b ∧ b < (writeX w2 w.heap.size (T.mk 0 0 0 0 0 0 0 [], none, 0)).heap.size) (((T.mk 0 0 0 0 0 0 0 [], none, 0) : Nx)).1 (((T.mk 0 0 0 0 0 0 0 [], none, 0) : Nx)).2.1 (((T.mk 0 0 0 0 0 0 0 [], none, 0) : Nx)).2.2 := nodeAt_leafX _ _ _ rfl
          generalize writeX w2 w.heap.size (T.mk 0 0 0 0 0 0 0 [], none, 0) = W3 at *
          exact bodyPost_ret (v := nodeV (((T.mk 0 0 0 0 0 0 0 [], none, 0) : Nx)).1 (((T.mk 0 0 0 0 0 0 0 [], none, 0) : Nx)).2.1 (((T.mk 0 0 0 0 0 0 0 [], none, 0) : Nx)).2.2) (by simp [results, Tryz.results41, y0, y1, y2, y3, y4, y5, y6, y7, go_sem]) rfl ⟨(T.mk 0 0 0 0 0 0 0 [], none, 0), kr, _, rfl, hNod, hRS, hOff, Hfin.out⟩
        · obtain ⟨g, ⟨t1, A1, c1⟩, rfl, hx, h8, hg, hcv, hnd⟩ := HL.out.first (by omega)
          have hj : joinT 4 (ns.map fun x : Nx => x.1) = t1 := by
            have hl := HL.out.len
            match ns, hl, hx with
            | [y], _, hx => simp at hx; subst hx; rfl
          have Hj := Lib.hid hj; have Hnd := Lib.hid hnd
          obtain ⟨f0, f1, f2, f3, f4, f5, f6, f7⟩ := h8
          simp only [Nat.zero_add] at f1 f2 f3 f4 f5 f6 f7
          clear hj hnd hx
          obtain ⟨⟨r0, r1, r2, r3, r4, r5, r6, r7⟩, hz⟩ := HL.out.R.cells8
          have z0 := hz 0; have z1 := hz 1; have z2 := hz 2; have z3 := hz 3; have z4 := hz 4; have z5 := hz 5; have z6 := hz 6; have z7 := hz 7
          have lr := HL.out.R.lt
          clear hz
          go_wp2_with fail
          change bodyPost _ _ _ _ _ (writeX w2 w.heap.size (t1, A1, c1))
          have hfn := writeX_blk HL.out.R (t1, A1, c1)
          obtain ⟨⟨y0, y1, y2, y3, y4, y5, y6, y7⟩, _⟩ := hfn.cells8
          have hRS := HL.out.S.boxX (b := w.heap.size) (by omega) (t1, A1, c1)
          have hOff := Off.boxW HL.out.O (Nat.le_refl _) (t1, A1, c1)
          have hNod : NodeAt (writeX w2 w.heap.size (t1, A1, c1)) (fun b => w.heap.size ≤ b ∧ b < (writeX w2 w.heap.size (t1, A1, c1)).heap.size) (((t1, A1, c1) : Nx)).1 (((t1, A1, c1) : Nx)).2.1 (((t1, A1, c1) : Nx)).2.2 := Hnd.out.mono fun k (hk : w.heap.size < k ∧ k < w2.heap.size) => ⟨⟨by omega, by rw [writeX_size]; exact hk.2⟩, fun o => World.cell?_of_block (w := w2) (a := ⟨k, o, none⟩) (writeX_other _ _ _ _ (show k ≠ w.heap.size by omega))⟩
          generalize writeX w2 w.heap.size (t1, A1, c1) = W3 at *
          exact bodyPost_ret (v := nodeV (((t1, A1, c1) : Nx)).1 (((t1, A1, c1) : Nx)).2.1 (((t1, A1, c1) : Nx)).2.2) (by simp [results, Tryz.results41, y0, y1, y2, y3, y4, y5, y6, y7, go_sem]) rfl ⟨(t1, A1, c1), kr, _, rfl, hNod, hRS, hOff, by have := Hfin.out; rw [Hj.out] at this; exact this⟩
        · obtain rfl : n = (ns.map fun x : Nx => x.1).length := by simp [HL.out.len]
          have hnd := HL.out.node (by omega) (by omega) (.mk 4 0 0 0 0 0 0 (ns.map fun x : Nx => x.1)) rfl
          have hj : joinT 4 (ns.map fun x : Nx => x.1) = .mk 4 0 0 0 0 0 0 (ns.map fun x : Nx => x.1) := by
            generalize ns.map (fun x : Nx => x.1) = l at hn2
            match l, hn2 with
            | a :: b :: l, _ => rfl
          have hb0 : (((ns.map fun x : Nx => x.1).length : Int) == 0) = false := by rw [beq_eq_false_iff_ne]; omega
          have hb1 : (((ns.map fun x : Nx => x.1).length : Int) == 1) = false := by rw [beq_eq_false_iff_ne]; omega
          have Hj := Lib.hid hj; have Hnd := Lib.hid hnd
          clear hj hnd
          generalize hl : (ns.map fun x : Nx => x.1) = l at *
          obtain ⟨⟨r0, r1, r2, r3, r4, r5, r6, r7⟩, hz⟩ := HL.out.R.cells8
          have z0 := hz 0; have z1 := hz 1; have z2 := hz 2; have z3 := hz 3; have z4 := hz 4; have z5 := hz 5; have z6 := hz 6; have z7 := hz 7
          have lr := HL.out.R.lt
          clear hz
          go_wp2_with fail
          change bodyPost _ _ _ _ _ (writeX w2 w.heap.size (T.mk 4 0 0 0 0 0 0 l, Av, cv))
          have hfn := writeX_blk HL.out.R (T.mk 4 0 0 0 0 0 0 l, Av, cv)
          obtain ⟨⟨y0, y1, y2, y3, y4, y5, y6, y7⟩, _⟩ := hfn.cells8
          have hRS := HL.out.S.boxX (b := w.heap.size) (by omega) (T.mk 4 0 0 0 0 0 0 l, Av, cv)
          have hOff := Off.boxW HL.out.O (Nat.le_refl _) (T.mk 4 0 0 0 0 0 0 l, Av, cv)
          have hNod : NodeAt (writeX w2 w.heap.size (T.mk 4 0 0 0 0 0 0 l, Av, cv)) (fun b => w.heap.size ≤ b ∧ b < (writeX w2 w.heap.size (T.mk 4 0 0 0 0 0 0 l, Av, cv)).heap.size) (((T.mk 4 0 0 0 0 0 0 l, Av, cv) : Nx)).1 (((T.mk 4 0 0 0 0 0 0 l, Av, cv) : Nx)).2.1 (((T.mk 4 0 0 0 0 0 0 l, Av, cv) : Nx)).2.2 := Hnd.out.mono fun k (hk : w.heap.size < k ∧ k < w2.heap.size) => ⟨⟨by omega, by rw [writeX_size]; exact hk.2⟩, fun o => World.cell?_of_block (w := w2) (a := ⟨k, o, none⟩) (writeX_other _ _ _ _ (show k ≠ w.heap.size by omega))⟩
          generalize writeX w2 w.heap.size (T.mk 4 0 0 0 0 0 0 l, Av, cv) = W3 at *
          exact bodyPost_ret (v := nodeV (((T.mk 4 0 0 0 0 0 0 l, Av, cv) : Nx)).1 (((T.mk 4 0 0 0 0 0 0 l, Av, cv) : Nx)).2.1 (((T.mk 4 0 0 0 0 0 0 l, Av, cv) : Nx)).2.2) (by simp [results, Tryz.results41, y0, y1, y2, y3, y4, y5, y6, y7, go_sem]) rfl ⟨(T.mk 4 0 0 0 0 0 0 l, Av, cv), kr, _, rfl, hNod, hRS, hOff, by have := Hfin.out; rw [Hj.out] at this; exact this⟩
      · by_cases hc2 : c = 41
        · have Hfin := Lib.hid (show Out (rowP grp) s (fun t => joinT 4 (ns.map fun x : Nx => x.1) = t) (.ok (c :: t)) by
            rw [Hsr.out]
            refine Out.good (x := joinT 4 (ns.map fun x : Nx => x.1)) ?_ rfl
            unfold rowP
            rw [Hpp.out, piecesP, if_pos (by rw [hc2]; rfl)])
          have Hc1 := Lib.hid hc1
          have Hc2 := Lib.hid hc2
          clear hc1 hc2 Hm
          go_wp2_with fail
          refine (qis_miss [124] (by simp) (take_no Hc1.out) HL.out.S).mono ?_
          rintro en w2 ⟨rfl, h1, hO1⟩
          have HL := Lib.hid (HL.out.off hlt hO1 h1)
          clear h1 hO1
          go_wp2_with fail
          refine (qis_hit [41] (by simp) (take_head Hc2.out) HL.out.S).mono ?_
          rintro en w3 ⟨rfl, h1, hO1⟩
          have HL := Lib.hid (HL.out.off hlt hO1 h1)
          clear h1 hO1
          have hn3 : n = 0 ∨ n = 1 ∨ 2 ≤ n := by omega
          rcases hn3 with rfl | rfl | hn2
          · have hns : ns = [] := List.eq_nil_of_length_eq_zero HL.out.len
            subst hns
            obtain ⟨⟨r0, r1, r2, r3, r4, r5, r6, r7⟩, hz⟩ := HL.out.R.cells8
            have z0 := hz 0; have z1 := hz 1; have z2 := hz 2; have z3 := hz 3; have z4 := hz 4; have z5 := hz 5; have z6 := hz 6; have z7 := hz 7
            have lr := HL.out.R.lt
            clear hz
            go_wp2_with fail
            change bodyPost _ _ _ _ _ (writeX w3 w.heap.size (T.mk 0 0 0 0 0 0 0 [], none, 0))
            have hfn := writeX_blk HL.out.R (T.mk 0 0 0 0 0 0 0 [], none, 0)
            obtain ⟨⟨y0, y1, y2, y3, y4, y5, y6, y7⟩, _⟩ := hfn.cells8
            have hRS := HL.out.S.boxX (b := w.heap.size) (by omega) (T.mk 0 0 0 0 0 0 0 [], none, 0)
            have hOff := Off.boxW HL.out.O (Nat.le_refl _) (T.mk 0 0 0 0 0 0 0 [], none, 0)
            have hNod : NodeAt (writeX w3 w.heap.size (T.mk 0 0 0 0 0 0 0 [], none, 0)) (fun b => w.heap.size ≤ b ∧ b < (writeX w3 w.heap.size (T.mk 0 0 0 0 0 0 0 [], none, 0)).heap.size) (((T.mk 0 0 0 0 0 0 0 [], none, 0) : Nx)).1 (((T.mk 0 0 0 0 0 0 0 [], none, 0) : Nx)).2.1 (((T.mk 0 0 0 0 0 0 0 [], none, 0) : Nx)).2.2 := nodeAt_leafX _ _ _ rfl
            generalize writeX w3 w.heap.size (T.mk 0 0 0 0 0 0 0 [], none, 0) = W3 at *
            exact bodyPost_ret (v := nodeV (((T.mk 0 0 0 0 0 0 0 [], none, 0) : Nx)).1 (((T.mk 0 0 0 0 0 0 0 [], none, 0) : Nx)).2.1 (((T.mk 0 0 0 0 0 0 0 [], none, 0) : Nx)).2.2) (by simp [results, Tryz.results41, y0, y1, y2, y3, y4, y5, y6, y7, go_sem]) rfl ⟨(T.mk 0 0 0 0 0 0 0 [], none, 0), kr, _, rfl, hNod, hRS, hOff, Hfin.out⟩
          · obtain ⟨g, ⟨t1, A1, c1⟩, rfl, hx, h8, hg, hcv, hnd⟩ := HL.out.first (by omega)
            have hj : joinT 4 (ns.map fun x : Nx => x.1) = t1 := by
              have hl := HL.out.len
              match ns, hl, hx with
              | [y], _, hx => simp at hx; subst hx; rfl
            have Hj := Lib.hid hj; have Hnd := Lib.hid hnd
            obtain ⟨f0, f1, f2, f3, f4, f5, f6, f7⟩ := h8
            simp only [Nat.zero_add] at f1 f2 f3 f4 f5 f6 f7
            clear hj hnd hx
            obtain ⟨⟨r0, r1, r2, r3, r4, r5, r6, r7⟩, hz⟩ := HL.out.R.cells8
            have z0 := hz 0; have z1 := hz 1; have z2 := hz 2; have z3 := hz 3; have z4 := hz 4; have z5 := hz 5; have z6 := hz 6; have z7 := hz 7
            have lr := HL.out.R.lt
            clear hz
            go_wp2_with fail
            change bodyPost _ _ _ _ _ (writeX w3 w.heap.size (t1, A1, c1))
            have hfn := writeX_blk HL.out.R (t1, A1, c1)
            obtain ⟨⟨y0, y1, y2, y3, y4, y5, y6, y7⟩, _⟩ := hfn.cells8
            have hRS := HL.out.S.boxX (b := w.heap.size) (by omega) (t1, A1, c1)
            have hOff := Off.boxW HL.out.O (Nat.le_refl _) (t1, A1, c1)
            have hNod : NodeAt (writeX w3 w.heap.size (t1, A1, c1)) (fun b => w.heap.size ≤ b ∧ b < (writeX w3 w.heap.size (t1, A1, c1)).heap.size) (((t1, A1, c1) : Nx)).1 (((t1, A1, c1) : Nx)).2.1 (((t1, A1, c1) : Nx)).2.2 := Hnd.out.mono fun k (hk : w.heap.size < k ∧ k < w3.heap.size) => ⟨⟨by omega, by rw [writeX_size]; exact hk.2⟩, fun o => World.cell?_of_block (w := w3) (a := ⟨k, o, none⟩) (writeX_other _ _ _ _ (show k ≠ w.heap.size by omega))⟩
            generalize writeX w3 w.heap.size (t1, A1, c1) = W3 at *
            exact bodyPost_ret (v := nodeV (((t1, A1, c1) : Nx)).1 (((t1, A1, c1) : Nx)).2.1 (((t1, A1, c1) : Nx)).2.2) (by simp [results, Tryz.results41, y0, y1, y2, y3, y4, y5, y6, y7, go_sem]) rfl ⟨(t1, A1, c1), kr, _, rfl, hNod, hRS, hOff, by have := Hfin.out; rw [Hj.out] at this; exact this⟩
          · obtain rfl : n = (ns.map fun x : Nx => x.1).length := by simp [HL.out.len]
            have hnd := HL.out.node (by omega) (by omega) (.mk 4 0 0 0 0 0 0 (ns.map fun x : Nx => x.1)) rfl
            have hj : joinT 4 (ns.map fun x : Nx => x.1) = .mk 4 0 0 0 0 0 0 (ns.map fun x : Nx => x.1) := by
              generalize ns.map (fun x : Nx => x.1) = l at hn2
              match l, hn2 with
              | a :: b :: l, _ => rfl
            have hb0 : (((ns.map fun x : Nx => x.1).length : Int) == 0) = false := by rw [beq_eq_false_iff_ne]; omega
            have hb1 : (((ns.map fun x : Nx => x.1).length : Int) == 1) = false := by rw [beq_eq_false_iff_ne]; omega
            have Hj := Lib.hid hj; have Hnd := Lib.hid hnd
            clear hj hnd
            generalize hl : (ns.map fun x : Nx => x.1) = l at *
            obtain ⟨⟨r0, r1, r2, r3, r4, r5, r6, r7⟩, hz⟩ := HL.out.R.cells8
            have z0 := hz 0; have z1 := hz 1; have z2 := hz 2; have z3 := hz 3; have z4 := hz 4; have z5 := hz 5; have z6 := hz 6; have z7 := hz 7
            have lr := HL.out.R.lt
            clear hz
            go_wp2_with fail
            change bodyPost _ _ _ _ _ (writeX w3 w.heap.size (T.mk 4 0 0 0 0 0 0 l, Av, cv))
            have hfn := writeX_blk HL.out.R (T.mk 4 0 0 0 0 0 0 l, Av, cv)
            obtain ⟨⟨y0, y1, y2, y3, y4, y5, y6, y7⟩, _⟩ := hfn.cells8
            have hRS := HL.out.S.boxX (b := w.heap.size) (by omega) (T.mk 4 0 0 0 0 0 0 l, Av, cv)
            have hOff := Off.boxW HL.out.O (Nat.le_refl _) (T.mk 4 0 0 0 0 0 0 l, Av, cv)
            have hNod : NodeAt (writeX w3 w.heap.size (T.mk 4 0 0 0 0 0 0 l, Av, cv)) (fun b => w.heap.size ≤ b ∧ b < (writeX w3 w.heap.size (T.mk 4 0 0 0 0 0 0 l, Av, cv)).heap.size) (((T.mk 4 0 0 0 0 0 0 l, Av, cv) : Nx)).1 (((T.mk 4 0 0 0 0 0 0 l, Av, cv) : Nx)).2.1 (((T.mk 4 0 0 0 0 0 0 l, Av, cv) : Nx)).2.2 := Hnd.out.mono fun k (hk : w.heap.size < k ∧ k < w3.heap.size) => ⟨⟨by omega, by rw [writeX_size]; exact hk.2⟩, fun o => World.cell?_of_block (w := w3) (a := ⟨k, o, none⟩) (writeX_other _ _ _ _ (show k ≠ w.heap.size by omega))⟩
            generalize writeX w3 w.heap.size (T.mk 4 0 0 0 0 0 0 l, Av, cv) = W3 at *
            exact bodyPost_ret (v := nodeV (((T.mk 4 0 0 0 0 0 0 l, Av, cv) : Nx)).1 (((T.mk 4 0 0 0 0 0 0 l, Av, cv) : Nx)).2.1 (((T.mk 4 0 0 0 0 0 0 l, Av, cv) : Nx)).2.2) (by simp [results, Tryz.results41, y0, y1, y2, y3, y4, y5, y6, y7, go_sem]) rfl ⟨(T.mk 4 0 0 0 0 0 0 l, Av, cv), kr, _, rfl, hNod, hRS, hOff, by have := Hfin.out; rw [Hj.out] at this; exact this⟩
        · have hres : piecesP grp (k1 + 1) (ns.map fun x : Nx => x.1) (c :: t) = match pieceP grp (c :: t) with | .error e => .error e | .ok (n, r1) => piecesP grp k1 ((ns.map fun x : Nx => x.1) ++ [n]) r1 := by
            rw [piecesP, ends_false hc1 hc2]; rfl
          have Hres := Lib.hid hres
          have Hc1 := Lib.hid hc1
          have Hc2 := Lib.hid hc2
          clear hc1 hc2 hres
          go_wp2_with fail
          refine (qis_miss [124] (by simp) (take_no Hc1.out) HL.out.S).mono ?_
          rintro en w2 ⟨rfl, h1, hO1⟩
          have HL := Lib.hid (HL.out.off hlt hO1 h1)
          clear h1 hO1
          go_wp2_with fail
          refine (qis_miss [41] (by simp) (take_no Hc2.out) HL.out.S).mono ?_
          rintro en w3 ⟨rfl, h1, hO1⟩
          have HL := Lib.hid (HL.out.off hlt hO1 h1)
          clear h1 hO1 Hc1 Hc2
          have hrow : ∀ g, (Value.slice Av n cv).ownBlock = some g → g < w3.heap.size := fun g hg => (HL.out.own.lt g hg).2
          have hw3 : w.heap.size < w3.heap.size := HL.out.R.lt
          go_wp2_with fail
          refine (HP.out ⟨r, Hsr.out⟩ w3 kr c t HL.out.S).mono ?_
          rintro en w4 ⟨⟨t4, A4, c4⟩, k4, s4, rfl, hx4, h4, hO4, ho4⟩
          have HL := Lib.hid (HL.out.off hlt hO4 h4)
          have hz4 := hO4.size
          have Hx4 := Lib.hid hx4; have Ho4 := Lib.hid ho4
          clear h4 hO4 hx4 ho4
          go_upto_region 4 with fail
          generalize hW : w4.alloc _ = W5
          have hb5 : Below w4.heap.size w4 W5 := by subst hW; exact (Below.refl _ _).alloc (Nat.le_refl _) _
          have N5 : BlkX W5 w4.heap.size (xcell (t4, A4, c4)).toArray := by subst hW; exact BlkX.new w4 _
          clear hW
          have HL := Lib.hid (HL.out.off hlt (Off.of_below hb5) (HL.out.S.later hb5))
          have HX := Lib.hid (show NodeAt W5 (fun b => w.heap.size < b ∧ b < W5.heap.size ∧ b ≠ w.heap.size ∧ some b ≠ (Value.slice Av n cv).ownBlock) t4 A4 c4 from Hx4.out.mono fun b (hb : w3.heap.size ≤ b ∧ b < w4.heap.size) => ⟨⟨by omega, by have := hb5.size; omega, by omega, fun e => by have := hrow b e.symm; omega⟩, fun o => hb5.cell (p := ⟨b, o, none⟩) hb.2⟩)
          obtain ⟨⟨f0, f1, f2, f3, f4, f5, f6, f7⟩, _⟩ := N5.cells8
          have ln5 := N5.lt
          generalize w4.heap.size = b4 at *
          obtain ⟨bx, hbx⟩ : ∃ bx, bx = w.heap.size := ⟨_, rfl⟩
          have HL := Lib.hid (show LstQ p St op w bx n ns Av cv k4 s4 W5 by rw [hbx]; exact HL.out)
          have HX := Lib.hid (show NodeAt W5 (fun b => w.heap.size < b ∧ b < W5.heap.size ∧ b ≠ bx ∧ some b ≠ (Value.slice Av n cv).ownBlock) t4 A4 c4 by rw [hbx]; exact HX.out)
          have Hbx := Lib.hid hbx
          clear hb5 Hx4 N5 hrow hbx
          have hnews : ∀ ad, some (⟨W5.heap.size, 0, none⟩ : Addr) = some ad → ∀ j u, (xcell (t4, A4, c4))[j]? = some u → (W5.alloc (.cells (xcell (t4, A4, c4)).toArray 39)).cell? (ad.add j) = some u := fun ad e j u hu => by
            simp only [Option.some.injEq] at e
            subst e
            rw [addr_addX, World.cell?_alloc_new, Nat.zero_add]
            simpa using hu
          have Hnews := Lib.hid hnews; clear hnews
          have hWb : bx + 1 ≤ W5.heap.size := HL.out.b2
          go_wp2_with (at_builtin; refine wpList_append_fromX (bx + 1) rfl _ _ 37 39 _ 8 80 rfl Tryz.underlying37 Tryz.infoNodeX rfl (by omega) (by omega) (.slice Av n cv) n 1 (xcells ns) (xcell (t4, A4, c4)) (some ⟨W5.heap.size, 0, none⟩) 1 rfl rfl (by simp) rfl Hnews.out (xcell_one _) (HL.out.own.alloc _) (by simp; omega) (by omega) (fun A5 c5 w5 ho5 hg5 hat5 => ?_); have HL5 := Lib.hid (HL.out.push hlt (t4, A4, c4) HX.out ((Below.refl _ _).alloc (Nat.le_refl _) _) ho5 hg5 hat5); clear ho5 hg5 hat5)
          have hcs : s4.rest.length ≤ t.length ∧ ((∃ e, s4 = .error e ∧ (s = .error e ∨ ∃ r, s = .ok r ∧ rowP grp r = .error e)) ∨ ∃ r r' k, s = .ok r ∧ s4 = .ok r' ∧ r'.length < k ∧ piecesP grp (r.length + 1) [] r = piecesP grp k ((ns ++ [(t4, A4, c4)]).map fun x : Nx => x.1) r') := by
            have hoo := Ho4.out
            cases hpc : pieceP grp (c :: t) with
            | error e =>
              simp only [Out, hpc] at hoo
              subst hoo
              exact ⟨by simp [Rs.rest], .inl ⟨e, rfl, .inr ⟨r, Hsr.out, by unfold rowP; rw [Hpp.out, Hres.out, hpc]⟩⟩⟩
            | ok y =>
              obtain ⟨n', r'⟩ := y
              simp only [Out, hpc] at hoo
              obtain ⟨rfl, rfl⟩ := hoo
              have hl := piece_len HGl.out hpc
              simp only [List.length_cons] at hl hk
              exact ⟨by simp only [Rs.rest]; omega, .inr ⟨r, r', k1, Hsr.out, rfl, by omega, by rw [Hpp.out, Hres.out, hpc]; simp⟩⟩
          obtain ⟨hl1, hcs⟩ := hcs
          have HCS := Lib.hid hcs; clear hcs
          go_roundg (s4.rest.length + 1)
          case measure => have := Hm.out; simp only [Rs.rest, List.length_cons] at this; omega
          case rel => exact ⟨n + 1, _, A5, c5, k4, s4, rfl, rfl, by omega, by have := HL5.out; rw [Hbx.out] at this; exact this, HCS.out⟩
end Go.Proofs.YteekafkpeimhoaaGreat

/- vouchref10's Reader: pattern: walked. -/
set_option linter.unusedVariables false
set_option linter.unusedSimpArgs false
namespace Go.Proofs.YteekafkpeimhoaaGreat
open Go.RowKit

/-- Where the loop of pattern stands. -/
def PatL (p : Nat) (St : Bs) (op : Int) (grp : Bs → PT) (s : Rs) (w : World) (bx : Nat) (v : Value) (wr : World) (m : Nat) : Prop :=
  ∃ (n : Nat) (ns : List Nx) (Av : Option Addr) (cv : Nat) (k : Nat) (s' : Rs) (y : Nx), v = .slice Av n cv ∧ 1 ≤ n ∧ m = s'.rest.length + 1 ∧ n + s'.rest.length ≤ 1025 ∧ LstQ p St op w bx n ns Av cv k s' wr ∧ BlkX wr bx (xcell y).toArray ∧ ((∃ e, s' = .error e ∧ (s = .error e ∨ ∃ r, s = .ok r ∧ choiceP grp r = .error e)) ∨ ∃ r r' k, s = .ok r ∧ s' = .ok r' ∧ r'.length < k ∧ choiceP grp r = match altsP grp k (ns.map fun x : Nx => x.1) r' with | .error e => .error e | .ok (l, r2) => .ok (joinT 5 l, r2))
theorem LstQ.boxOff {p : Nat} {St : Bs} {op : Int} {w : World} {bx n : Nat} {ns : List Nx} {Av : Option Addr} {cv k : Nat} {s : Rs} {wr w1 : World} (h : LstQ p St op w bx n ns Av cv k s wr) (hp : p < w.heap.size) {cs : Array Value} (hb : BlkX wr bx cs) (hO : Off p wr w1) : BlkX w1 bx cs := Off.blk hO hb (by have := h.b1; omega)
theorem LstQ.boxPush {p : Nat} {St : Bs} {op : Int} {w : World} {bx n : Nat} {ns : List Nx} {Av : Option Addr} {cv k : Nat} {s : Rs} {W w0 w2 : World} (h : LstQ p St op w bx n ns Av cv k s W) {cs : Array Value} (hb : BlkX W bx cs) (h0 : Below W.heap.size W w0) (h2 : w0.grownBy w2 (Value.slice Av n cv).ownBlock) : BlkX w2 bx cs := by
  refine hb.keep ((h2.block bx (Nat.lt_of_lt_of_le h.b2 h0.size) ?_).trans (h0.block bx h.b2))
  intro e
  have := (h.own.lt bx e.symm).1
  omega
set_option maxRecDepth 100000 in
set_option maxHeartbeats 8000000 in
theorem qpat_any (w : World) (p : Nat) (St : Bs) (k : Nat) (op : Int) (s : Rs) (h : RQ w p St k op s) (grp : Bs → PT) (hgl : GrpLen grp)
    (hG : (∃ r, s = .ok r) → ∀ (w : World) (k : Nat) (r : Bs), RQ w p St k op (.ok r) → Calls Tryz.prog 77 #[.pointer (some ⟨p, 0, none⟩)] w fun en w' => QNode p St op grp (.ok r) w en w') :
    Calls Tryz.prog 25 #[.pointer (some ⟨p, 0, none⟩)] w fun en w' => QNode p St op (choiceP grp) s w en w' := by
  have hlt := h.lt
  have hs := h.rest
  have HP := Lib.hid (fun (w : World) (k : Nat) (s' : Rs) (h : RQ w p St k op s') (hs' : (∃ r, s' = .ok r) → ∃ r, s = .ok r) => qalt_any w p St k op s' h grp hgl (fun x => hG (hs' x)))
  have H := Lib.hid h; have HGl := Lib.hid hgl
  clear h hG hgl
  go_enter Tryz.func25, Tryz.ntmps25
  go_upto_region 1 with fail
  generalize hW : w.alloc _ = W0
  have hB0 : Below w.heap.size w W0 := by subst hW; exact (Below.refl _ _).alloc (Nat.le_refl _) _
  have R0 : BlkX W0 w.heap.size (xcell (.mk 0 0 0 0 0 0 0 [], none, 0)).toArray := by subst hW; exact BlkX.new w _
  have hz0 : w.heap.size < W0.heap.size := R0.lt
  clear hW
  go_wp2_with fail
  refine (HP.out W0 k s (H.out.later hB0) (fun x => x)).mono ?_
  rintro en w1 ⟨⟨t1, A1, c1⟩, k1, s1, rfl, hx1, h1, hO1, ho1⟩
  have R1 := Off.blk hO1 R0 (by omega)
  have hz1 := hO1.size
  have Hx1 := Lib.hid hx1; have Ho1 := Lib.hid ho1
  clear hx1 ho1
  go_upto_region 3 with fail
  generalize hW : w1.alloc _ = W2
  have hb2 : Below w1.heap.size w1 W2 := by subst hW; exact (Below.refl _ _).alloc (Nat.le_refl _) _
  have N2 : BlkX W2 w1.heap.size (xcell (t1, A1, c1)).toArray := by subst hW; exact BlkX.new w1 _
  have hz2 : w1.heap.size < W2.heap.size := N2.lt
  have HL := Lib.hid (show LstQ p St op w w1.heap.size 0 [] none 0 k1 s1 W2 from ⟨rfl, R1.keep (hb2.block _ R1.lt), by omega, hz2, ⟨rfl, .inl ⟨rfl, rfl⟩⟩, fun x hx => by simp at hx, h1.later hb2, ((Off.of_below hB0).trans hO1).trans (Off.of_below hb2)⟩)
  have HX := Lib.hid (show NodeAt W2 (fun b => w.heap.size < b ∧ b < W2.heap.size ∧ b ≠ w1.heap.size ∧ some b ≠ (Value.slice none 0 0).ownBlock) t1 A1 c1 from Hx1.out.mono fun b (hb : W0.heap.size ≤ b ∧ b < w1.heap.size) => ⟨⟨by omega, by omega, by omega, by simp [Value.ownBlock]⟩, fun o => hb2.cell (p := ⟨b, o, none⟩) hb.2⟩)
  have hwb : w.heap.size < w1.heap.size := by omega
  obtain ⟨⟨f0, f1, f2, f3, f4, f5, f6, f7⟩, _⟩ := N2.cells8
  have HN := Lib.hid N2
  generalize w1.heap.size = bx at *
  have ln2 : bx < W2.heap.size := hz2
  clear hW hb2 N2 R1 R0 hB0 h1 hO1 hz1 hz0 hz2 Hx1 H
  obtain ⟨v0, hv0⟩ : ∃ v0 : Value, v0 = .slice none 0 0 := ⟨_, rfl⟩
  rw [← hv0]
  have Hv0 := Lib.hid hv0
  clear hv0
  have hnews : ∀ ad, some (⟨W2.heap.size, 0, none⟩ : Addr) = some ad → ∀ j u, (xcell (t1, A1, c1))[j]? = some u → (W2.alloc (.cells (xcell (t1, A1, c1)).toArray 39)).cell? (ad.add j) = some u := fun ad e j u hu => by
    simp only [Option.some.injEq] at e
    subst e
    rw [addr_addX, World.cell?_alloc_new, Nat.zero_add]
    simpa using hu
  have Hnews := Lib.hid hnews; clear hnews
  have hWb : bx + 1 ≤ W2.heap.size := HL.out.b2
  go_wp2_with (at_builtin; refine wpList_append_fromX (bx + 1) rfl _ _ 37 39 _ 8 80 rfl Tryz.underlying37 Tryz.infoNodeX rfl (by omega) (by omega) v0 0 1 [] (xcell (t1, A1, c1)) (some ⟨W2.heap.size, 0, none⟩) 1 rfl rfl (by simp) rfl Hnews.out (xcell_one _) ⟨rfl, .inl ⟨Hv0.out, rfl⟩⟩ (by simp; omega) (by omega) (fun A5 c5 w5 ho5 hg5 hat5 => ?_); have HL5 := Lib.hid (HL.out.push hlt (t1, A1, c1) HX.out ((Below.refl _ _).alloc (Nat.le_refl _) _) (by simpa [xcells] using ho5) (by rw [Hv0.out] at hg5; exact hg5) (by rw [Hv0.out] at hat5; exact hat5)); have HN5 := Lib.hid (HL.out.boxPush HN.out ((Below.refl _ _).alloc (Nat.le_refl _) _) (by rw [Hv0.out] at hg5; exact hg5)); clear ho5 hg5 hat5)
  have hI : PatL p St op grp s w bx (.slice A5 1 c5) w5 (s1.rest.length + 1) := by
    have hoo := Ho1.out
    have hl1 : s1.rest.length ≤ 1024 ∧ ((∃ e, s1 = .error e ∧ (s = .error e ∨ ∃ r, s = .ok r ∧ choiceP grp r = .error e)) ∨ ∃ r r' k, s = .ok r ∧ s1 = .ok r' ∧ r'.length < k ∧ choiceP grp r = match altsP grp k ([(t1, A1, c1)].map fun x : Nx => x.1) r' with | .error e => .error e | .ok (l, r2) => .ok (joinT 5 l, r2)) := by
      rcases s with e | r
      · cases (show s1 = .error e from hoo)
        exact ⟨by simp [Rs.rest], .inl ⟨e, rfl, .inl rfl⟩⟩
      · cases hr : rowP grp r with
        | error e =>
          simp only [Out, hr] at hoo
          subst hoo
          exact ⟨by simp [Rs.rest], .inl ⟨e, rfl, .inr ⟨r, rfl, by unfold choiceP; rw [hr]⟩⟩⟩
        | ok y =>
          obtain ⟨n', r'⟩ := y
          simp only [Out, hr] at hoo
          obtain ⟨rfl, rfl⟩ := hoo
          have hl := row_len HGl.out hr
          simp only [Rs.rest] at hs ⊢
          exact ⟨by omega, .inr ⟨r, r', r'.length + 1, rfl, rfl, by omega, by unfold choiceP; rw [hr]; rfl⟩⟩
    exact ⟨1, [(t1, A1, c1)], A5, c5, k1, s1, (t1, A1, c1), rfl, by omega, rfl, by have := hl1.1; omega, HL5.out, HN5.out, hl1.2⟩
  have HI := Lib.hid hI
  clear hI HL HX HN HL5 HN5 Ho1 Hv0 hWb ln2 f0 f1 f2 f3 f4 f5 f6 f7
  try rw [Nat.zero_add]
  go_loopg [3] (s1.rest.length + 1) (fun m v wr => PatL p St op grp s w bx v wr m)
  case atStart => exact HI.out
  case round =>
    clear HI
    obtain ⟨n, ns, Av, cv, kr, s', y, rfl, hn1, hm, hnl, hL, hN, hcase⟩ := hrel
    have HL := Lib.hid hL; have HN := Lib.hid hN; have HC := Lib.hid hcase; have Hm := Lib.hid hm
    clear hL hcase hm hN
    rcases s' with e | r'
    · have Hfin := Lib.hid (show Out (choiceP grp) s (fun t => joinT 5 (ns.map fun x : Nx => x.1) = t) (.error e) by
        rcases HC.out with ⟨e', he, hs⟩ | ⟨r, r', k, _, he, _⟩
        · cases he
          rcases hs with rfl | ⟨r, rfl, hr⟩
          · exact Out.err
          · exact Out.bad hr
        · cases he)
      clear HC Hm
      go_wp2_with fail
      refine (qtake_err [124] (by simp) HL.out.S).mono ?_
      rintro en W6 ⟨rfl, ⟨k6, h2⟩, hO2⟩
      have HL := Lib.hid (HL.out.off hlt hO2 h2)
      clear h2 hO2
      have hn3 : n = 1 ∨ 2 ≤ n := by omega
      rcases hn3 with rfl | hn2
      · obtain ⟨g, ⟨t1, A1, c1⟩, rfl, hx, h8, hg, hcv, hnd⟩ := HL.out.first (by omega)
        have hj : joinT 5 (ns.map fun x : Nx => x.1) = t1 := by
          have hl := HL.out.len
          match ns, hl, hx with
          | [y], _, hx => simp at hx; subst hx; rfl
        have Hj := Lib.hid hj; have Hnd := Lib.hid hnd
        obtain ⟨f0, f1, f2, f3, f4, f5, f6, f7⟩ := h8
        simp only [Nat.zero_add] at f1 f2 f3 f4 f5 f6 f7
        clear hj hnd hx
        obtain ⟨⟨r0, r1, r2, r3, r4, r5, r6, r7⟩, hz⟩ := HL.out.R.cells8
        have z0 := hz 0; have z1 := hz 1; have z2 := hz 2; have z3 := hz 3; have z4 := hz 4; have z5 := hz 5; have z6 := hz 6; have z7 := hz 7
        have lr := HL.out.R.lt
        clear hz
        go_wp2_with fail
        change bodyPost _ _ _ _ _ (writeX W6 w.heap.size (t1, A1, c1))
        have hfn := writeX_blk HL.out.R (t1, A1, c1)
        obtain ⟨⟨y0, y1, y2, y3, y4, y5, y6, y7⟩, _⟩ := hfn.cells8
        have hRS := HL.out.S.boxX (b := w.heap.size) (by omega) (t1, A1, c1)
        have hOff := Off.boxW HL.out.O (Nat.le_refl _) (t1, A1, c1)
        have hNod : NodeAt (writeX W6 w.heap.size (t1, A1, c1)) (fun b => w.heap.size ≤ b ∧ b < (writeX W6 w.heap.size (t1, A1, c1)).heap.size) (((t1, A1, c1) : Nx)).1 (((t1, A1, c1) : Nx)).2.1 (((t1, A1, c1) : Nx)).2.2 := Hnd.out.mono fun k (hk : w.heap.size < k ∧ k < W6.heap.size) => ⟨⟨by omega, by rw [writeX_size]; exact hk.2⟩, fun o => World.cell?_of_block (w := W6) (a := ⟨k, o, none⟩) (writeX_other _ _ _ _ (show k ≠ w.heap.size by omega))⟩
        generalize writeX W6 w.heap.size (t1, A1, c1) = W3 at *
        exact bodyPost_ret (v := nodeV (((t1, A1, c1) : Nx)).1 (((t1, A1, c1) : Nx)).2.1 (((t1, A1, c1) : Nx)).2.2) (by simp [results, Tryz.results25, y0, y1, y2, y3, y4, y5, y6, y7, go_sem]) rfl ⟨(t1, A1, c1), k6, _, rfl, hNod, hRS, hOff, by have := Hfin.out; rw [Hj.out] at this; exact this⟩
      · obtain rfl : n = (ns.map fun x : Nx => x.1).length := by simp [HL.out.len]
        have hnd := HL.out.node (by omega) (by omega) (.mk 5 0 0 0 0 0 0 (ns.map fun x : Nx => x.1)) rfl
        have hj : joinT 5 (ns.map fun x : Nx => x.1) = .mk 5 0 0 0 0 0 0 (ns.map fun x : Nx => x.1) := by
          generalize ns.map (fun x : Nx => x.1) = l at hn2
          match l, hn2 with
          | a :: b :: l, _ => rfl
        have hb0 : (((ns.map fun x : Nx => x.1).length : Int) == 0) = false := by rw [beq_eq_false_iff_ne]; omega
        have hb1 : (((ns.map fun x : Nx => x.1).length : Int) == 1) = false := by rw [beq_eq_false_iff_ne]; omega
        have Hj := Lib.hid hj; have Hnd := Lib.hid hnd
        clear hj hnd
        generalize hl : (ns.map fun x : Nx => x.1) = l at *
        obtain ⟨⟨r0, r1, r2, r3, r4, r5, r6, r7⟩, hz⟩ := HL.out.R.cells8
        have z0 := hz 0; have z1 := hz 1; have z2 := hz 2; have z3 := hz 3; have z4 := hz 4; have z5 := hz 5; have z6 := hz 6; have z7 := hz 7
        have lr := HL.out.R.lt
        clear hz
        go_wp2_with fail
        change bodyPost _ _ _ _ _ (writeX W6 w.heap.size (T.mk 5 0 0 0 0 0 0 l, Av, cv))
        have hfn := writeX_blk HL.out.R (T.mk 5 0 0 0 0 0 0 l, Av, cv)
        obtain ⟨⟨y0, y1, y2, y3, y4, y5, y6, y7⟩, _⟩ := hfn.cells8
        have hRS := HL.out.S.boxX (b := w.heap.size) (by omega) (T.mk 5 0 0 0 0 0 0 l, Av, cv)
        have hOff := Off.boxW HL.out.O (Nat.le_refl _) (T.mk 5 0 0 0 0 0 0 l, Av, cv)
        have hNod : NodeAt (writeX W6 w.heap.size (T.mk 5 0 0 0 0 0 0 l, Av, cv)) (fun b => w.heap.size ≤ b ∧ b < (writeX W6 w.heap.size (T.mk 5 0 0 0 0 0 0 l, Av, cv)).heap.size) (((T.mk 5 0 0 0 0 0 0 l, Av, cv) : Nx)).1 (((T.mk 5 0 0 0 0 0 0 l, Av, cv) : Nx)).2.1 (((T.mk 5 0 0 0 0 0 0 l, Av, cv) : Nx)).2.2 := Hnd.out.mono fun k (hk : w.heap.size < k ∧ k < W6.heap.size) => ⟨⟨by omega, by rw [writeX_size]; exact hk.2⟩, fun o => World.cell?_of_block (w := W6) (a := ⟨k, o, none⟩) (writeX_other _ _ _ _ (show k ≠ w.heap.size by omega))⟩
        generalize writeX W6 w.heap.size (T.mk 5 0 0 0 0 0 0 l, Av, cv) = W3 at *
        exact bodyPost_ret (v := nodeV (((T.mk 5 0 0 0 0 0 0 l, Av, cv) : Nx)).1 (((T.mk 5 0 0 0 0 0 0 l, Av, cv) : Nx)).2.1 (((T.mk 5 0 0 0 0 0 0 l, Av, cv) : Nx)).2.2) (by simp [results, Tryz.results25, y0, y1, y2, y3, y4, y5, y6, y7, go_sem]) rfl ⟨(T.mk 5 0 0 0 0 0 0 l, Av, cv), k6, _, rfl, hNod, hRS, hOff, by have := Hfin.out; rw [Hj.out] at this; exact this⟩
    · obtain ⟨r, k, hsr, hk, hpp⟩ : ∃ r k, s = .ok r ∧ r'.length < k + 1 ∧ choiceP grp r = match altsP grp (k + 1) (ns.map fun x : Nx => x.1) r' with | .error e => .error e | .ok (l, r2) => .ok (joinT 5 l, r2) := by
        rcases HC.out with ⟨e', he, _⟩ | ⟨r, r2, k, hs, he, hk, hpp⟩
        · cases he
        · cases he
          obtain ⟨k', rfl⟩ : ∃ k', k = k' + 1 := ⟨k - 1, by omega⟩
          exact ⟨r, k', hs, hk, hpp⟩
      have Hpp := Lib.hid hpp; have Hsr := Lib.hid hsr
      clear hpp hsr HC
      rcases ht : takeP [124] r' with _ | r2
      · have Hfin := Lib.hid (show Out (choiceP grp) s (fun t => joinT 5 (ns.map fun x : Nx => x.1) = t) (.ok r') by
          rw [Hsr.out]
          refine Out.good (x := joinT 5 (ns.map fun x : Nx => x.1)) ?_ rfl
          rw [Hpp.out, altsP, ht])
        have Ht := Lib.hid ht; clear ht Hm
        go_wp2_with fail
        refine (qtake_miss [124] (by simp) Ht.out HL.out.S).mono ?_
        rintro en W6 ⟨rfl, ⟨k6, h2⟩, hO2⟩
        have HL := Lib.hid (HL.out.off hlt hO2 h2)
        clear h2 hO2
        have hn3 : n = 1 ∨ 2 ≤ n := by omega
        rcases hn3 with rfl | hn2
        · obtain ⟨g, ⟨t1, A1, c1⟩, rfl, hx, h8, hg, hcv, hnd⟩ := HL.out.first (by omega)
          have hj : joinT 5 (ns.map fun x : Nx => x.1) = t1 := by
            have hl := HL.out.len
            match ns, hl, hx with
            | [y], _, hx => simp at hx; subst hx; rfl
          have Hj := Lib.hid hj; have Hnd := Lib.hid hnd
          obtain ⟨f0, f1, f2, f3, f4, f5, f6, f7⟩ := h8
          simp only [Nat.zero_add] at f1 f2 f3 f4 f5 f6 f7
          clear hj hnd hx
          obtain ⟨⟨r0, r1, r2, r3, r4, r5, r6, r7⟩, hz⟩ := HL.out.R.cells8
          have z0 := hz 0; have z1 := hz 1; have z2 := hz 2; have z3 := hz 3; have z4 := hz 4; have z5 := hz 5; have z6 := hz 6; have z7 := hz 7
          have lr := HL.out.R.lt
          clear hz
          go_wp2_with fail
          change bodyPost _ _ _ _ _ (writeX W6 w.heap.size (t1, A1, c1))
          have hfn := writeX_blk HL.out.R (t1, A1, c1)
          obtain ⟨⟨y0, y1, y2, y3, y4, y5, y6, y7⟩, _⟩ := hfn.cells8
          have hRS := HL.out.S.boxX (b := w.heap.size) (by omega) (t1, A1, c1)
          have hOff := Off.boxW HL.out.O (Nat.le_refl _) (t1, A1, c1)
          have hNod : NodeAt (writeX W6 w.heap.size (t1, A1, c1)) (fun b => w.heap.size ≤ b ∧ b < (writeX W6 w.heap.size (t1, A1, c1)).heap.size) (((t1, A1, c1) : Nx)).1 (((t1, A1, c1) : Nx)).2.1 (((t1, A1, c1) : Nx)).2.2 := Hnd.out.mono fun k (hk : w.heap.size < k ∧ k < W6.heap.size) => ⟨⟨by omega, by rw [writeX_size]; exact hk.2⟩, fun o => World.cell?_of_block (w := W6) (a := ⟨k, o, none⟩) (writeX_other _ _ _ _ (show k ≠ w.heap.size by omega))⟩
          generalize writeX W6 w.heap.size (t1, A1, c1) = W3 at *
          exact bodyPost_ret (v := nodeV (((t1, A1, c1) : Nx)).1 (((t1, A1, c1) : Nx)).2.1 (((t1, A1, c1) : Nx)).2.2) (by simp [results, Tryz.results25, y0, y1, y2, y3, y4, y5, y6, y7, go_sem]) rfl ⟨(t1, A1, c1), k6, _, rfl, hNod, hRS, hOff, by have := Hfin.out; rw [Hj.out] at this; exact this⟩
        · obtain rfl : n = (ns.map fun x : Nx => x.1).length := by simp [HL.out.len]
          have hnd := HL.out.node (by omega) (by omega) (.mk 5 0 0 0 0 0 0 (ns.map fun x : Nx => x.1)) rfl
          have hj : joinT 5 (ns.map fun x : Nx => x.1) = .mk 5 0 0 0 0 0 0 (ns.map fun x : Nx => x.1) := by
            generalize ns.map (fun x : Nx => x.1) = l at hn2
            match l, hn2 with
            | a :: b :: l, _ => rfl
          have hb0 : (((ns.map fun x : Nx => x.1).length : Int) == 0) = false := by rw [beq_eq_false_iff_ne]; omega
          have hb1 : (((ns.map fun x : Nx => x.1).length : Int) == 1) = false := by rw [beq_eq_false_iff_ne]; omega
          have Hj := Lib.hid hj; have Hnd := Lib.hid hnd
          clear hj hnd
          generalize hl : (ns.map fun x : Nx => x.1) = l at *
          obtain ⟨⟨r0, r1, r2, r3, r4, r5, r6, r7⟩, hz⟩ := HL.out.R.cells8
          have z0 := hz 0; have z1 := hz 1; have z2 := hz 2; have z3 := hz 3; have z4 := hz 4; have z5 := hz 5; have z6 := hz 6; have z7 := hz 7
          have lr := HL.out.R.lt
          clear hz
          go_wp2_with fail
          change bodyPost _ _ _ _ _ (writeX W6 w.heap.size (T.mk 5 0 0 0 0 0 0 l, Av, cv))
          have hfn := writeX_blk HL.out.R (T.mk 5 0 0 0 0 0 0 l, Av, cv)
          obtain ⟨⟨y0, y1, y2, y3, y4, y5, y6, y7⟩, _⟩ := hfn.cells8
          have hRS := HL.out.S.boxX (b := w.heap.size) (by omega) (T.mk 5 0 0 0 0 0 0 l, Av, cv)
          have hOff := Off.boxW HL.out.O (Nat.le_refl _) (T.mk 5 0 0 0 0 0 0 l, Av, cv)
          have hNod : NodeAt (writeX W6 w.heap.size (T.mk 5 0 0 0 0 0 0 l, Av, cv)) (fun b => w.heap.size ≤ b ∧ b < (writeX W6 w.heap.size (T.mk 5 0 0 0 0 0 0 l, Av, cv)).heap.size) (((T.mk 5 0 0 0 0 0 0 l, Av, cv) : Nx)).1 (((T.mk 5 0 0 0 0 0 0 l, Av, cv) : Nx)).2.1 (((T.mk 5 0 0 0 0 0 0 l, Av, cv) : Nx)).2.2 := Hnd.out.mono fun k (hk : w.heap.size < k ∧ k < W6.heap.size) => ⟨⟨by omega, by rw [writeX_size]; exact hk.2⟩, fun o => World.cell?_of_block (w := W6) (a := ⟨k, o, none⟩) (writeX_other _ _ _ _ (show k ≠ w.heap.size by omega))⟩
          generalize writeX W6 w.heap.size (T.mk 5 0 0 0 0 0 0 l, Av, cv) = W3 at *
          exact bodyPost_ret (v := nodeV (((T.mk 5 0 0 0 0 0 0 l, Av, cv) : Nx)).1 (((T.mk 5 0 0 0 0 0 0 l, Av, cv) : Nx)).2.1 (((T.mk 5 0 0 0 0 0 0 l, Av, cv) : Nx)).2.2) (by simp [results, Tryz.results25, y0, y1, y2, y3, y4, y5, y6, y7, go_sem]) rfl ⟨(T.mk 5 0 0 0 0 0 0 l, Av, cv), k6, _, rfl, hNod, hRS, hOff, by have := Hfin.out; rw [Hj.out] at this; exact this⟩
      · have hres : altsP grp (k + 1) (ns.map fun x : Nx => x.1) r' = match rowP grp r2 with | .error e => .error e | .ok (n, r1) => altsP grp k ((ns.map fun x : Nx => x.1) ++ [n]) r1 := by
          rw [altsP, ht]; rfl
        have hl := takeP_len ht
        simp only [List.length_cons, List.length_nil] at hl
        simp only [Rs.rest] at hnl
        have Hres := Lib.hid hres; have Ht := Lib.hid ht; clear hres ht
        go_wp2_with fail
        refine (qtake_hit [124] (by simp) Ht.out HL.out.S).mono ?_
        rintro en W6 ⟨rfl, ⟨k6, h2⟩, hO2⟩
        have HN := Lib.hid (HL.out.boxOff hlt HN.out hO2)
        have HL := Lib.hid (HL.out.off hlt hO2 h2)
        clear h2 hO2
        have hrow : ∀ g, (Value.slice Av n cv).ownBlock = some g → g < W6.heap.size := fun g hg => (HL.out.own.lt g hg).2
        have hw6 : bx < W6.heap.size := HL.out.b2
        go_wp2_with fail
        refine (HP.out W6 k6 (.ok r2) HL.out.S (fun _ => ⟨r, Hsr.out⟩)).mono ?_
        rintro en w3 ⟨⟨t3, A3, c3⟩, k3, s3, rfl, hx3, h3, hO3, ho3⟩
        have HN := Lib.hid (HL.out.boxOff hlt HN.out hO3)
        have HL := Lib.hid (HL.out.off hlt hO3 h3)
        have hz3 := hO3.size
        have Hx3 := Lib.hid hx3; have Ho3 := Lib.hid ho3
        clear hx3 ho3 hO3 h3
        obtain ⟨⟨r0, r1, r2_, r3, r4, r5, r6, r7⟩, hz⟩ := HN.out.cells8
        have z0 := hz 0; have z1 := hz 1; have z2 := hz 2; have z3 := hz 3; have z4 := hz 4; have z5 := hz 5; have z6 := hz 6; have z7 := hz 7
        have lr := HN.out.lt
        clear hz
        go_upto_region 6 with fail
        have hNy := writeX_blk HN.out (t3, A3, c3)
        have hLy := HL.out.box hlt hwb (t3, A3, c3)
        have hXy : NodeAt (writeX w3 bx (t3, A3, c3)) (fun b => w.heap.size < b ∧ b < (writeX w3 bx (t3, A3, c3)).heap.size ∧ b ≠ bx ∧ some b ≠ (Value.slice Av n cv).ownBlock) t3 A3 c3 := Hx3.out.mono fun b (hb : W6.heap.size ≤ b ∧ b < w3.heap.size) => ⟨⟨by omega, by rw [writeX_size]; exact hb.2, by omega, fun e => by have := hrow b e.symm; omega⟩, fun o => World.cell?_of_block (w := w3) (a := ⟨b, o, none⟩) (writeX_other _ _ _ _ (show b ≠ bx by omega))⟩
        change Code.wp _ _ _ _ (writeX w3 bx (t3, A3, c3))
        have HN := Lib.hid hNy; have HL := Lib.hid hLy; have HX := Lib.hid hXy
        clear hNy hLy hXy Hx3 z0 z1 z2 z3 z4 z5 z6 z7 r0 r1 r2_ r3 r4 r5 r6 r7 lr hrow
        generalize writeX w3 bx (t3, A3, c3) = W5 at *
        obtain ⟨⟨f0, f1, f2, f3, f4, f5, f6, f7⟩, _⟩ := HN.out.cells8
        have ln5 := HN.out.lt
        have hnews : ∀ ad, some (⟨W5.heap.size, 0, none⟩ : Addr) = some ad → ∀ j u, (xcell (t3, A3, c3))[j]? = some u → (W5.alloc (.cells (xcell (t3, A3, c3)).toArray 39)).cell? (ad.add j) = some u := fun ad e j u hu => by
          simp only [Option.some.injEq] at e
          subst e
          rw [addr_addX, World.cell?_alloc_new, Nat.zero_add]
          simpa using hu
        have Hnews := Lib.hid hnews; clear hnews
        have hWb : bx + 1 ≤ W5.heap.size := HL.out.b2
        go_wp2_with (at_builtin; refine wpList_append_fromX (bx + 1) rfl _ _ 37 39 _ 8 80 rfl Tryz.underlying37 Tryz.infoNodeX rfl (by omega) (by omega) (.slice Av n cv) n 1 (xcells ns) (xcell (t3, A3, c3)) (some ⟨W5.heap.size, 0, none⟩) 1 rfl rfl (by simp) rfl Hnews.out (xcell_one _) (HL.out.own.alloc _) (by simp; omega) (by omega) (fun A5 c5 w5 ho5 hg5 hat5 => ?_); have HL5 := Lib.hid (HL.out.push hlt (t3, A3, c3) HX.out ((Below.refl _ _).alloc (Nat.le_refl _) _) ho5 hg5 hat5); have HN5 := Lib.hid (HL.out.boxPush HN.out ((Below.refl _ _).alloc (Nat.le_refl _) _) hg5); clear ho5 hg5 hat5)
        have hcs : s3.rest.length ≤ r2.length ∧ ((∃ e, s3 = .error e ∧ (s = .error e ∨ ∃ r, s = .ok r ∧ choiceP grp r = .error e)) ∨ ∃ r r' k, s = .ok r ∧ s3 = .ok r' ∧ r'.length < k ∧ choiceP grp r = match altsP grp k ((ns ++ [(t3, A3, c3)]).map fun x : Nx => x.1) r' with | .error e => .error e | .ok (l, r2) => .ok (joinT 5 l, r2)) := by
          have hoo := Ho3.out
          cases hpc : rowP grp r2 with
          | error e =>
            simp only [Out, hpc] at hoo
            subst hoo
            exact ⟨by simp [Rs.rest], .inl ⟨e, rfl, .inr ⟨r, Hsr.out, by rw [Hpp.out, Hres.out, hpc]⟩⟩⟩
          | ok y =>
            obtain ⟨n', r3⟩ := y
            simp only [Out, hpc] at hoo
            obtain ⟨rfl, rfl⟩ := hoo
            have hl3 := row_len HGl.out hpc
            exact ⟨by simp only [Rs.rest]; omega, .inr ⟨r, r3, k, Hsr.out, rfl, by omega, by rw [Hpp.out, Hres.out, hpc]; simp⟩⟩
        obtain ⟨hl1, hcs⟩ := hcs
        have HCS := Lib.hid hcs; clear hcs
        go_roundg (s3.rest.length + 1)
        case measure => have := Hm.out; simp only [Rs.rest] at this; omega
        case rel => exact ⟨n + 1, _, A5, c5, k3, s3, _, rfl, by omega, rfl, by omega, HL5.out, HN5.out, HCS.out⟩
end Go.Proofs.YteekafkpeimhoaaGreat

/- vouchref10's Reader: group: walked. -/
set_option linter.unusedVariables false
set_option linter.unusedSimpArgs false
namespace Go.Proofs.YteekafkpeimhoaaGreat
open Go.RowKit

set_option maxRecDepth 100000 in
set_option maxHeartbeats 8000000 in
theorem qgroup_any (p : Nat) (St : Bs) : ∀ (d : Nat) (op : Int) (hop : op + d = 64) (h0 : 0 ≤ op) (w : World) (k : Nat) (r : Bs), RQ w p St k op (.ok r) →
    Calls Tryz.prog 77 #[.pointer (some ⟨p, 0, none⟩)] w fun en w' => QNode p St op (groupP d) (.ok r) w en w' := by
  intro d
  induction d with
  | zero =>
    intro op hop h0 w k r h
    have hlt := h.lt
    have H := Lib.hid h
    have hop1 : op = 64 := by omega
    have hgt : (64 : Int) < op + 1 := by omega
    have hopb : op ≤ 64 := by omega
    clear h hop hop1
    go_enter Tryz.func77, Tryz.ntmps77
    go_upto_region 1 with fail
    generalize hW : w.alloc _ = W0
    have hB0 : Below w.heap.size w W0 := by subst hW; exact (Below.refl _ _).alloc (Nat.le_refl _) _
    have R0 : BlkX W0 w.heap.size (xcell (.mk 0 0 0 0 0 0 0 [], none, 0)).toArray := by subst hW; exact BlkX.new w _
    clear hW
    have h0 := H.out.later hB0
    have c2 := h0.rdr.c2
    have zz2 := h0.rdr.z 2
    have H0 := Lib.hid h0
    clear h0
    go_upto_region 2 with fail
    have hR : RQ (W0.setCell ⟨p, 2, none⟩ (.int .i64 (op + 1))) p St k (op + 1) (.ok r) := ⟨H0.out.rdr.set2 (op + 1), H0.out.ok, H0.out.ne⟩
    have hO := (Off.refl p W0).set 2 (.int .i64 (op + 1))
    change Code.wp _ _ _ _ (W0.setCell ⟨p, 2, none⟩ (.int .i64 (op + 1)))
    generalize W0.setCell ⟨p, 2, none⟩ (.int .i64 (op + 1)) = W1 at *
    clear c2 zz2
    have HNr := Lib.hid (Off.blk hO R0 (by omega))
    have HOr := Lib.hid ((Off.of_below hB0).trans hO)
    have HRr := Lib.hid hR
    clear hO hR R0 hB0 H0 H
    have c2 := HRr.out.rdr.c2
    have lw1 := HNr.out.lt
    go_wp2_with fail
    refine (qfail_ok 3 (by omega) HRr.out).mono ?_
    rintro en w2 ⟨rfl, hR, hO⟩
    clear c2
    have hz2 := hO.size
    have HNr := Lib.hid (Off.blk hO HNr.out (by omega))
    have HOr := Lib.hid (HOr.out.trans hO)
    have HRr := Lib.hid hR
    clear hO hR
    have lw2 := HNr.out.lt
    go_wp2_with fail
    refine (qpat_any w2 p St k (op + 1) (.error 3) HRr.out (groupP 0) (group_len 0) (fun hh => by obtain ⟨_, hh⟩ := hh; cases hh)).mono ?_
    rintro en w3 ⟨⟨t, A, c⟩, k3, s3, rfl, hx, hR, hO, ho⟩
    cases (show s3 = .error 3 from ho)
    have Hout := Lib.hid (show Out (groupP 0) (.ok r) (fun u => ((t, A, c) : Nx).1 = u) (.error 3) from Out.bad rfl)
    clear ho
    have hzz := hO.size
    have HNr := Lib.hid (Off.blk hO HNr.out (by omega))
    have HOr := Lib.hid (HOr.out.trans hO)
    have HRr := Lib.hid hR
    have Hx := Lib.hid hx
    clear hO hR hx
    go_upto_region 5 with fail
    generalize hW : w3.alloc _ = W5
    have hb5 : Below w3.heap.size w3 W5 := by subst hW; exact (Below.refl _ _).alloc (Nat.le_refl _) _
    have HBx := Lib.hid (show BlkX W5 w3.heap.size (xcell (t, A, c)).toArray by subst hW; exact BlkX.new w3 _)
    clear hW
    have HX := Lib.hid (Hx.out.mono (w' := W5) (ok' := fun b => w.heap.size < b ∧ b < w3.heap.size) fun b hb => ⟨⟨by have := hb.1; omega, hb.2⟩, fun o => hb5.cell (p := ⟨b, o, none⟩) hb.2⟩)
    have HNr := Lib.hid (HNr.out.keep (hb5.block _ HNr.out.lt))
    have HOr := Lib.hid (HOr.out.trans (Off.of_below hb5))
    have HRr := Lib.hid (HRr.out.later hb5)
    have hbn : w.heap.size < w3.heap.size := by omega
    clear hb5 Hx hzz
    generalize w3.heap.size = bn at *
    have lbn := HBx.out.lt
    have c3 := HRr.out.rdr.c3
    simp only [Rs.no] at c3
    have hb0 : ((3 : Int) == 0) = false := by decide
    go_upto_region 7 with fail
    clear c3 hb0
    have c2 := HRr.out.rdr.c2
    have zz2 := HRr.out.rdr.z 2
    have lp := HRr.out.lt
    go_upto_region 8 with fail
    try rw [show op + 1 - 1 = op by omega]
    have hR : RQ (W5.setCell ⟨p, 2, none⟩ (.int .i64 op)) p St k3 op (.error 3) := ⟨HRr.out.rdr.set2 op, HRr.out.ok, HRr.out.ne⟩
    have hO := (Off.refl p W5).set 2 (.int .i64 op)
    change Code.wp _ _ _ _ (W5.setCell ⟨p, 2, none⟩ (.int .i64 op))
    generalize W5.setCell ⟨p, 2, none⟩ (.int .i64 op) = WA at *
    clear c2 zz2 lp
    have HX := Lib.hid (HX.out.mono (w' := WA) (ok' := fun b => w.heap.size < b ∧ b < bn) fun b (hb : w.heap.size < b ∧ b < bn) => ⟨hb, fun o => Off.cell hO (by omega) (by omega)⟩)
    have HBx := Lib.hid (Off.blk hO HBx.out (by omega))
    have HNr := Lib.hid (Off.blk hO HNr.out (by omega))
    have HOr := Lib.hid (HOr.out.trans hO)
    have HRr := Lib.hid hR
    clear hO hR
    obtain ⟨⟨f0, f1, f2, f3, f4, f5, f6, f7⟩, _⟩ := HBx.out.cells8
    have ln := HBx.out.lt
    obtain ⟨⟨r0, r1_, r2_, r3, r4, r5, r6, r7⟩, hz⟩ := HNr.out.cells8
    have z0 := hz 0; have z1 := hz 1; have z2 := hz 2; have z3 := hz 3; have z4 := hz 4; have z5 := hz 5; have z6 := hz 6; have z7 := hz 7
    have lr := HNr.out.lt
    clear hz
    go_wp2_with fail
    change bodyPost _ _ _ _ _ (writeX WA w.heap.size (t, A, c))
    have hfin := writeX_blk HNr.out (t, A, c)
    obtain ⟨⟨y0, y1, y2, y3, y4, y5, y6, y7⟩, _⟩ := hfin.cells8
    have hRS := HRr.out.boxX (b := w.heap.size) (by omega) (t, A, c)
    have hOff := Off.boxW HOr.out (Nat.le_refl _) (t, A, c)
    have hNod : NodeAt (writeX WA w.heap.size (t, A, c)) (fun b => w.heap.size ≤ b ∧ b < (writeX WA w.heap.size (t, A, c)).heap.size) t A c := HX.out.mono fun k (hk : w.heap.size < k ∧ k < bn) => ⟨⟨by omega, by rw [writeX_size]; omega⟩, fun o => World.cell?_of_block (w := WA) (a := ⟨k, o, none⟩) (writeX_other _ _ _ _ (show k ≠ w.heap.size by omega))⟩
    generalize writeX WA w.heap.size (t, A, c) = W9 at *
    exact bodyPost_ret (v := nodeV t A c) (by simp [results, Tryz.results77, y0, y1, y2, y3, y4, y5, y6, y7, go_sem]) rfl ⟨(t, A, c), k3, (.error 3), rfl, hNod, hRS, hOff, Hout.out⟩
  | succ d ih =>
    intro op hop h0 w k r h
    have hlt := h.lt
    have H := Lib.hid h
    have hgt : decide ((64 : Int) < op + 1) = false := by rw [decide_eq_false_iff_not]; omega
    have hgt2 : op + 1 ≤ 64 := by omega
    have hopb : op ≤ 64 := by omega
    have HCH := Lib.hid (fun (w : World) (k : Nat) (h : RQ w p St k (op + 1) (.ok r)) => qpat_any w p St k (op + 1) (.ok r) h (groupP d) (group_len d) (fun _ w k r h => ih (op + 1) (by omega) (by omega) w k r h))
    clear h hop ih
    go_enter Tryz.func77, Tryz.ntmps77
    go_upto_region 1 with fail
    generalize hW : w.alloc _ = W0
    have hB0 : Below w.heap.size w W0 := by subst hW; exact (Below.refl _ _).alloc (Nat.le_refl _) _
    have R0 : BlkX W0 w.heap.size (xcell (.mk 0 0 0 0 0 0 0 [], none, 0)).toArray := by subst hW; exact BlkX.new w _
    clear hW
    have h0 := H.out.later hB0
    have c2 := h0.rdr.c2
    have zz2 := h0.rdr.z 2
    have H0 := Lib.hid h0
    clear h0
    go_upto_region 2 with fail
    have hR : RQ (W0.setCell ⟨p, 2, none⟩ (.int .i64 (op + 1))) p St k (op + 1) (.ok r) := ⟨H0.out.rdr.set2 (op + 1), H0.out.ok, H0.out.ne⟩
    have hO := (Off.refl p W0).set 2 (.int .i64 (op + 1))
    change Code.wp _ _ _ _ (W0.setCell ⟨p, 2, none⟩ (.int .i64 (op + 1)))
    generalize W0.setCell ⟨p, 2, none⟩ (.int .i64 (op + 1)) = W1 at *
    clear c2 zz2
    have HNr := Lib.hid (Off.blk hO R0 (by omega))
    have HOr := Lib.hid ((Off.of_below hB0).trans hO)
    have HRr := Lib.hid hR
    clear hO hR R0 hB0 H0 H
    have c2 := HRr.out.rdr.c2
    have lw1 := HNr.out.lt
    go_wp2_with fail
    refine (HCH.out W1 k HRr.out).mono ?_
    rintro en w3 ⟨⟨t, A, c⟩, k3, s3, rfl, hx, hR, hO, ho⟩
    have Ho := Lib.hid ho
    clear c2 ho
    have hzz := hO.size
    have HNr := Lib.hid (Off.blk hO HNr.out (by omega))
    have HOr := Lib.hid (HOr.out.trans hO)
    have HRr := Lib.hid hR
    have Hx := Lib.hid hx
    clear hO hR hx
    go_upto_region 5 with fail
    generalize hW : w3.alloc _ = W5
    have hb5 : Below w3.heap.size w3 W5 := by subst hW; exact (Below.refl _ _).alloc (Nat.le_refl _) _
    have HBx := Lib.hid (show BlkX W5 w3.heap.size (xcell (t, A, c)).toArray by subst hW; exact BlkX.new w3 _)
    clear hW
    have HX := Lib.hid (Hx.out.mono (w' := W5) (ok' := fun b => w.heap.size < b ∧ b < w3.heap.size) fun b hb => ⟨⟨by have := hb.1; omega, hb.2⟩, fun o => hb5.cell (p := ⟨b, o, none⟩) hb.2⟩)
    have HNr := Lib.hid (HNr.out.keep (hb5.block _ HNr.out.lt))
    have HOr := Lib.hid (HOr.out.trans (Off.of_below hb5))
    have HRr := Lib.hid (HRr.out.later hb5)
    have hbn : w.heap.size < w3.heap.size := by omega
    clear hb5 Hx hzz
    generalize w3.heap.size = bn at *
    have lbn := HBx.out.lt
    have c3 := HRr.out.rdr.c3
    cases s3 with
    | error e =>
      have hne := HRr.out.ne e rfl
      have hb0 : (e == 0) = false := by rw [beq_eq_false_iff_ne]; exact hne
      have Hout := Lib.hid (show Out (groupP (d + 1)) (.ok r) (fun u => ((t, A, c) : Nx).1 = u) (.error e) from Out.bad (by rw [groupP, out_bad Ho.out]))
      simp only [Rs.no] at c3
      clear hne Ho
      go_upto_region 7 with fail
      clear c3 hb0
      have c2 := HRr.out.rdr.c2
      have zz2 := HRr.out.rdr.z 2
      have lp := HRr.out.lt
      go_upto_region 8 with fail
      try rw [show op + 1 - 1 = op by omega]
      have hR : RQ (W5.setCell ⟨p, 2, none⟩ (.int .i64 op)) p St k3 op (.error e) := ⟨HRr.out.rdr.set2 op, HRr.out.ok, HRr.out.ne⟩
      have hO := (Off.refl p W5).set 2 (.int .i64 op)
      change Code.wp _ _ _ _ (W5.setCell ⟨p, 2, none⟩ (.int .i64 op))
      generalize W5.setCell ⟨p, 2, none⟩ (.int .i64 op) = WA at *
      clear c2 zz2 lp
      have HX := Lib.hid (HX.out.mono (w' := WA) (ok' := fun b => w.heap.size < b ∧ b < bn) fun b (hb : w.heap.size < b ∧ b < bn) => ⟨hb, fun o => Off.cell hO (by omega) (by omega)⟩)
      have HBx := Lib.hid (Off.blk hO HBx.out (by omega))
      have HNr := Lib.hid (Off.blk hO HNr.out (by omega))
      have HOr := Lib.hid (HOr.out.trans hO)
      have HRr := Lib.hid hR
      clear hO hR
      obtain ⟨⟨f0, f1, f2, f3, f4, f5, f6, f7⟩, _⟩ := HBx.out.cells8
      have ln := HBx.out.lt
      obtain ⟨⟨r0, r1_, r2_, r3, r4, r5, r6, r7⟩, hz⟩ := HNr.out.cells8
      have z0 := hz 0; have z1 := hz 1; have z2 := hz 2; have z3 := hz 3; have z4 := hz 4; have z5 := hz 5; have z6 := hz 6; have z7 := hz 7
      have lr := HNr.out.lt
      clear hz
      go_wp2_with fail
      change bodyPost _ _ _ _ _ (writeX WA w.heap.size (t, A, c))
      have hfin := writeX_blk HNr.out (t, A, c)
      obtain ⟨⟨y0, y1, y2, y3, y4, y5, y6, y7⟩, _⟩ := hfin.cells8
      have hRS := HRr.out.boxX (b := w.heap.size) (by omega) (t, A, c)
      have hOff := Off.boxW HOr.out (Nat.le_refl _) (t, A, c)
      have hNod : NodeAt (writeX WA w.heap.size (t, A, c)) (fun b => w.heap.size ≤ b ∧ b < (writeX WA w.heap.size (t, A, c)).heap.size) t A c := HX.out.mono fun k (hk : w.heap.size < k ∧ k < bn) => ⟨⟨by omega, by rw [writeX_size]; omega⟩, fun o => World.cell?_of_block (w := WA) (a := ⟨k, o, none⟩) (writeX_other _ _ _ _ (show k ≠ w.heap.size by omega))⟩
      generalize writeX WA w.heap.size (t, A, c) = W9 at *
      exact bodyPost_ret (v := nodeV t A c) (by simp [results, Tryz.results77, y0, y1, y2, y3, y4, y5, y6, y7, go_sem]) rfl ⟨(t, A, c), k3, (.error e), rfl, hNod, hRS, hOff, Hout.out⟩
    | ok r3 =>
      have hcc : choiceP (groupP d) r = .ok (t, r3) := by
        obtain ⟨x, hx, hv⟩ := out_good Ho.out
        have hv' : t = x := hv
        rw [hx, hv']
      have Hcc := Lib.hid hcc
      simp only [Rs.no] at c3
      clear Ho hcc
      rcases ht : takeP [41] r3 with _ | rr4
      · have Hout := Lib.hid (show Out (groupP (d + 1)) (.ok r) (fun u => ((t, A, c) : Nx).1 = u) (.error 100) from Out.bad (by rw [groupP, Hcc.out]; simp only [ht]))
        have Ht := Lib.hid ht; clear ht
        go_wp2_with fail
        refine (qtake_miss [41] (by simp) Ht.out HRr.out).mono ?_
        rintro en w6 ⟨rfl, ⟨k6, hR⟩, hO⟩
        clear c3
        have HX := Lib.hid (HX.out.mono (w' := w6) (ok' := fun b => w.heap.size < b ∧ b < bn) fun b (hb : w.heap.size < b ∧ b < bn) => ⟨hb, fun o => Off.cell hO (by omega) (by omega)⟩)
        have HBx := Lib.hid (Off.blk hO HBx.out (by omega))
        have HNr := Lib.hid (Off.blk hO HNr.out (by omega))
        have HOr := Lib.hid (HOr.out.trans hO)
        have HRr := Lib.hid hR
        have lbn := HBx.out.lt
        clear hO hR
        go_wp2_with fail
        refine (qfail_ok 100 (by omega) HRr.out).mono ?_
        rintro en w7 ⟨rfl, hR, hO⟩
        have HX := Lib.hid (HX.out.mono (w' := w7) (ok' := fun b => w.heap.size < b ∧ b < bn) fun b (hb : w.heap.size < b ∧ b < bn) => ⟨hb, fun o => Off.cell hO (by omega) (by omega)⟩)
        have HBx := Lib.hid (Off.blk hO HBx.out (by omega))
        have HNr := Lib.hid (Off.blk hO HNr.out (by omega))
        have HOr := Lib.hid (HOr.out.trans hO)
        have HRr := Lib.hid hR
        have lbn := HBx.out.lt
        clear hO hR
        have c2 := HRr.out.rdr.c2
        have zz2 := HRr.out.rdr.z 2
        have lp := HRr.out.lt
        go_upto_region 8 with fail
        try rw [show op + 1 - 1 = op by omega]
        have hR : RQ (w7.setCell ⟨p, 2, none⟩ (.int .i64 op)) p St k6 op (.error 100) := ⟨HRr.out.rdr.set2 op, HRr.out.ok, HRr.out.ne⟩
        have hO := (Off.refl p w7).set 2 (.int .i64 op)
        change Code.wp _ _ _ _ (w7.setCell ⟨p, 2, none⟩ (.int .i64 op))
        generalize w7.setCell ⟨p, 2, none⟩ (.int .i64 op) = WA at *
        clear c2 zz2 lp
        have HX := Lib.hid (HX.out.mono (w' := WA) (ok' := fun b => w.heap.size < b ∧ b < bn) fun b (hb : w.heap.size < b ∧ b < bn) => ⟨hb, fun o => Off.cell hO (by omega) (by omega)⟩)
        have HBx := Lib.hid (Off.blk hO HBx.out (by omega))
        have HNr := Lib.hid (Off.blk hO HNr.out (by omega))
        have HOr := Lib.hid (HOr.out.trans hO)
        have HRr := Lib.hid hR
        clear hO hR
        obtain ⟨⟨f0, f1, f2, f3, f4, f5, f6, f7⟩, _⟩ := HBx.out.cells8
        have ln := HBx.out.lt
        obtain ⟨⟨r0, r1_, r2_, r3, r4, r5, r6, r7⟩, hz⟩ := HNr.out.cells8
        have z0 := hz 0; have z1 := hz 1; have z2 := hz 2; have z3 := hz 3; have z4 := hz 4; have z5 := hz 5; have z6 := hz 6; have z7 := hz 7
        have lr := HNr.out.lt
        clear hz
        go_wp2_with fail
        change bodyPost _ _ _ _ _ (writeX WA w.heap.size (t, A, c))
        have hfin := writeX_blk HNr.out (t, A, c)
        obtain ⟨⟨y0, y1, y2, y3, y4, y5, y6, y7⟩, _⟩ := hfin.cells8
        have hRS := HRr.out.boxX (b := w.heap.size) (by omega) (t, A, c)
        have hOff := Off.boxW HOr.out (Nat.le_refl _) (t, A, c)
        have hNod : NodeAt (writeX WA w.heap.size (t, A, c)) (fun b => w.heap.size ≤ b ∧ b < (writeX WA w.heap.size (t, A, c)).heap.size) t A c := HX.out.mono fun k (hk : w.heap.size < k ∧ k < bn) => ⟨⟨by omega, by rw [writeX_size]; omega⟩, fun o => World.cell?_of_block (w := WA) (a := ⟨k, o, none⟩) (writeX_other _ _ _ _ (show k ≠ w.heap.size by omega))⟩
        generalize writeX WA w.heap.size (t, A, c) = W9 at *
        exact bodyPost_ret (v := nodeV t A c) (by simp [results, Tryz.results77, y0, y1, y2, y3, y4, y5, y6, y7, go_sem]) rfl ⟨(t, A, c), k6, (.error 100), rfl, hNod, hRS, hOff, Hout.out⟩
      · have Hout := Lib.hid (show Out (groupP (d + 1)) (.ok r) (fun u => ((t, A, c) : Nx).1 = u) (.ok rr4) from Out.good (x := t) (by rw [groupP, Hcc.out]; simp only [ht]) rfl)
        have Ht := Lib.hid ht; clear ht
        go_wp2_with fail
        refine (qtake_hit [41] (by simp) Ht.out HRr.out).mono ?_
        rintro en w6 ⟨rfl, ⟨k6, hR⟩, hO⟩
        clear c3
        have HX := Lib.hid (HX.out.mono (w' := w6) (ok' := fun b => w.heap.size < b ∧ b < bn) fun b (hb : w.heap.size < b ∧ b < bn) => ⟨hb, fun o => Off.cell hO (by omega) (by omega)⟩)
        have HBx := Lib.hid (Off.blk hO HBx.out (by omega))
        have HNr := Lib.hid (Off.blk hO HNr.out (by omega))
        have HOr := Lib.hid (HOr.out.trans hO)
        have HRr := Lib.hid hR
        have lbn := HBx.out.lt
        clear hO hR
        have c2 := HRr.out.rdr.c2
        have zz2 := HRr.out.rdr.z 2
        have lp := HRr.out.lt
        go_upto_region 8 with fail
        try rw [show op + 1 - 1 = op by omega]
        have hR : RQ (w6.setCell ⟨p, 2, none⟩ (.int .i64 op)) p St k6 op (.ok rr4) := ⟨HRr.out.rdr.set2 op, HRr.out.ok, HRr.out.ne⟩
        have hO := (Off.refl p w6).set 2 (.int .i64 op)
        change Code.wp _ _ _ _ (w6.setCell ⟨p, 2, none⟩ (.int .i64 op))
        generalize w6.setCell ⟨p, 2, none⟩ (.int .i64 op) = WA at *
        clear c2 zz2 lp
        have HX := Lib.hid (HX.out.mono (w' := WA) (ok' := fun b => w.heap.size < b ∧ b < bn) fun b (hb : w.heap.size < b ∧ b < bn) => ⟨hb, fun o => Off.cell hO (by omega) (by omega)⟩)
        have HBx := Lib.hid (Off.blk hO HBx.out (by omega))
        have HNr := Lib.hid (Off.blk hO HNr.out (by omega))
        have HOr := Lib.hid (HOr.out.trans hO)
        have HRr := Lib.hid hR
        clear hO hR
        obtain ⟨⟨f0, f1, f2, f3, f4, f5, f6, f7⟩, _⟩ := HBx.out.cells8
        have ln := HBx.out.lt
        obtain ⟨⟨r0, r1_, r2_, r3, r4, r5, r6, r7⟩, hz⟩ := HNr.out.cells8
        have z0 := hz 0; have z1 := hz 1; have z2 := hz 2; have z3 := hz 3; have z4 := hz 4; have z5 := hz 5; have z6 := hz 6; have z7 := hz 7
        have lr := HNr.out.lt
        clear hz
        go_wp2_with fail
        change bodyPost _ _ _ _ _ (writeX WA w.heap.size (t, A, c))
        have hfin := writeX_blk HNr.out (t, A, c)
        obtain ⟨⟨y0, y1, y2, y3, y4, y5, y6, y7⟩, _⟩ := hfin.cells8
        have hRS := HRr.out.boxX (b := w.heap.size) (by omega) (t, A, c)
        have hOff := Off.boxW HOr.out (Nat.le_refl _) (t, A, c)
        have hNod : NodeAt (writeX WA w.heap.size (t, A, c)) (fun b => w.heap.size ≤ b ∧ b < (writeX WA w.heap.size (t, A, c)).heap.size) t A c := HX.out.mono fun k (hk : w.heap.size < k ∧ k < bn) => ⟨⟨by omega, by rw [writeX_size]; omega⟩, fun o => World.cell?_of_block (w := WA) (a := ⟨k, o, none⟩) (writeX_other _ _ _ _ (show k ≠ w.heap.size by omega))⟩
        generalize writeX WA w.heap.size (t, A, c) = W9 at *
        exact bodyPost_ret (v := nodeV t A c) (by simp [results, Tryz.results77, y0, y1, y2, y3, y4, y5, y6, y7, go_sem]) rfl ⟨(t, A, c), k6, (.ok rr4), rfl, hNod, hRS, hOff, Hout.out⟩
end Go.Proofs.YteekafkpeimhoaaGreat

/- vouchref10.Parse: walked. -/
set_option linter.unusedVariables false
set_option linter.unusedSimpArgs false
namespace Go.Proofs.YteekafkpeimhoaaGreat
open Go.RowKit

theorem qparse_ok {s : Bs} {t : T} (hl : ¬ 1024 < s.length) (h : choiceP (groupP 64) s = .ok (t, [])) : parseP s = .ok t := by rw [parseP, if_neg hl, h]
theorem parse_more {s : Bs} {t : T} {c : UInt8} {r : Bs} (hl : ¬ 1024 < s.length) (h : choiceP (groupP 64) s = .ok (t, c :: r)) : parseP s = .error 100 := by rw [parseP, if_neg hl, h]
theorem parse_err {s : Bs} {e : Int} (hl : ¬ 1024 < s.length) (h : choiceP (groupP 64) s = .error e) : parseP s = .error e := by rw [parseP, if_neg hl, h]
set_option maxRecDepth 100000 in
set_option maxHeartbeats 4000000 in
theorem qparse_any (s : Bs) (w : World) :
    Calls Tryz.prog 14 #[.string (bs s)] w fun en w' => GPar s w en w' := by
  have sS := bsq_size s
  by_cases hlen : 1024 < s.length
  · have hp : parseP s = .error 3 := by rw [parseP, if_pos hlen]
    have Hp := Lib.hid hp; clear hp
    go_enter Tryz.func14, Tryz.ntmps14
    go_wp2_with fail
    exact bodyPost_ret (v := .tuple #[nodeV none0 none 0, .int .i64 3]) (by simp [results, Tryz.results14, go_sem, T.k, T.s0, T.s1, T.s2, T.s3, T.mn, T.mx, T.ps]) rfl ⟨(Below.refl _ _).alloc (Nat.le_refl _) _, .inr ⟨3, Hp.out, by omega, rfl⟩⟩
  · have HCH := Lib.hid (fun (w : World) (p : Nat) (h : RQ w p s 0 0 (.ok s)) => qpat_any w p s 0 0 (.ok s) h (groupP 64) (group_len 64) (fun _ w k r h => qgroup_any p s 64 0 (by omega) (by omega) w k r h))
    go_enter Tryz.func14, Tryz.ntmps14
    go_upto_region 4 with fail
    generalize hW : (w.alloc _).alloc _ = W1
    have hB1 : Below w.heap.size w W1 := by subst hW; exact ((Below.refl _ _).alloc (Nat.le_refl _) _).alloc (by simp) _
    have R1 : BlkX W1 w.heap.size (xcell (none0, none, 0)).toArray := by
      subst hW
      exact (BlkX.new w _).keep (((Below.refl _ _).alloc (Nat.le_refl _) _).block _ (by simp))
    have h1 : RQ W1 (w.heap.size + 1) s 0 0 (.ok s) := by
      subst hW
      refine ⟨⟨?_, ?_, ?_, ?_, fun o => ?_, by simp, by omega, by omega⟩, fun r he => by cases he; rfl, fun e he => by cases he⟩
      · simp [go_sem]
      · simp [go_sem]
      · simp [go_sem]
      · simp [go_sem, Rs.no]
      · simp [go_sem]
    have hz1 : w.heap.size + 2 ≤ W1.heap.size := by subst hW; simp
    clear hW
    go_wp2_with fail
    refine (HCH.out W1 (w.heap.size + 1) h1).mono ?_
    rintro en w2 ⟨⟨t, A, c⟩, k2, s2, rfl, hx2, h2, hO2, ho2⟩
    have R2 := Off.blk hO2 R1 (by omega)
    have hz2 := hO2.size
    have hBw2 : Below w.heap.size w w2 := hB1.trans (Off.below hO2 (by omega) (by omega))
    have Hx2 := Lib.hid hx2; have Ho2 := Lib.hid ho2
    clear hx2 ho2 R1 h1 hO2 hB1
    go_upto_region 5 with fail
    generalize hW : w2.alloc _ = W3
    have hB3 : Below w2.heap.size w2 W3 := by subst hW; exact (Below.refl _ _).alloc (Nat.le_refl _) _
    have N3 : BlkX W3 w2.heap.size (xcell (t, A, c)).toArray := by subst hW; exact BlkX.new w2 _
    have hz3 : w2.heap.size < W3.heap.size := N3.lt
    have HNr := Lib.hid (R2.keep (hB3.block _ R2.lt))
    have HRr := Lib.hid (h2.later hB3)
    have HBw := Lib.hid (hBw2.trans (hB3.mono (by omega)))
    have HX := Lib.hid (Hx2.out.mono (w' := W3) (ok' := fun b => w.heap.size + 2 ≤ b ∧ b < w2.heap.size) fun b (hb : W1.heap.size ≤ b ∧ b < w2.heap.size) => ⟨⟨by omega, hb.2⟩, fun o => hB3.cell (p := ⟨b, o, none⟩) hb.2⟩)
    have HBx := Lib.hid N3
    have hbn : w.heap.size + 2 ≤ w2.heap.size := by omega
    clear hW hB3 N3 R2 h2 hBw2 Hx2 hz2
    generalize w2.heap.size = bn at *
    have hz0 : w.heap.size ≤ W3.heap.size := by omega
    have c3 := HRr.out.rdr.c3
    have lp3 := HRr.out.lt
    cases s2 with
    | error e =>
      have hne := HRr.out.ne e rfl
      have Hp := Lib.hid (parse_err hlen (out_bad Ho2.out))
      have hb : (e == 0) = false := by rw [beq_eq_false_iff_ne]; exact hne
      have hbn2 : (e != 0) = true := by rw [bne_iff_ne]; exact hne
      have Hne := Lib.hid hne
      simp only [Rs.no] at c3
      clear hne Ho2
      obtain ⟨⟨r0, r1, r2_, r3, r4, r5, r6, r7⟩, hz⟩ := HNr.out.cells8
      have z0 := hz 0; have zz1 := hz 1; have z2 := hz 2; have z3 := hz 3; have z4 := hz 4; have z5 := hz 5; have z6 := hz 6; have z7 := hz 7
      have lr := HNr.out.lt
      clear hz
      go_wp2_with fail
      go_region
      all_goals go_wp2_with fail
      change bodyPost _ _ _ _ _ (writeX W3 w.heap.size (none0, none, 0)).drew
      have hfn := writeX_blk HNr.out (none0, none, 0)
      obtain ⟨⟨y0, y1, y2, y3, y4, y5, y6, y7⟩, _⟩ := hfn.cells8
      have hbel := (writeX_below HBw.out (Nat.le_refl w.heap.size) (none0, none, 0)).drew
      generalize writeX W3 w.heap.size (none0, none, 0) = W5 at *
      exact bodyPost_ret (v := .tuple #[nodeV none0 none 0, .int .i64 e]) (by simp [results, Tryz.results14, y0, y1, y2, y3, y4, y5, y6, y7, go_sem]) rfl ⟨hbel, .inr ⟨_, Hp.out, Hne.out, rfl⟩⟩
    | ok r2 =>
      have hcc : choiceP (groupP 64) s = .ok (t, r2) := by
        obtain ⟨x, hx, hv⟩ := out_good Ho2.out
        have hv' : t = x := hv
        rw [hx, hv']
      simp only [Rs.no] at c3
      clear Ho2
      have Hd := Lib.hid (done_q HRr.out)
      rcases r2 with _ | ⟨c1, t1⟩
      · have Hp := Lib.hid (qparse_ok hlen hcc)
        clear hcc
        go_wp2_with fail
        refine Hd.out.mono ?_
        rintro en W4 ⟨rfl, h4, hO4⟩
        rw [show doneS (.ok []) = true from rfl]
        clear c3 lp3
        have c3 := h4.rdr.c3
        have lp3 := h4.lt
        simp only [Rs.no] at c3
        have HX := Lib.hid (HX.out.mono (w' := W4) (ok' := fun b => w.heap.size + 2 ≤ b ∧ b < bn) fun b (hb : w.heap.size + 2 ≤ b ∧ b < bn) => ⟨hb, fun o => Off.cell hO4 (by omega) (by omega)⟩)
        have HBx := Lib.hid (Off.blk hO4 HBx.out (by omega))
        have HNr := Lib.hid (Off.blk hO4 HNr.out (by omega))
        have HBw := Lib.hid (HBw.out.trans (Off.below hO4 (B := w.heap.size) (by omega) hz0))
        have lbn := HBx.out.lt
        clear h4 hO4 Hd
        obtain ⟨⟨f0, f1, f2, f3, f4, f5, f6, f7⟩, _⟩ := HBx.out.cells8
        obtain ⟨⟨r0, r1, r2_, r3, r4, r5, r6, r7⟩, hz⟩ := HNr.out.cells8
        have z0 := hz 0; have zz1 := hz 1; have z2 := hz 2; have z3 := hz 3; have z4 := hz 4; have z5 := hz 5; have z6 := hz 6; have z7 := hz 7
        have lr := HNr.out.lt
        clear hz
        go_wp2_with fail
        change bodyPost _ _ _ _ _ (writeX W4 w.heap.size (t, A, c))
        have hfn := writeX_blk HNr.out (t, A, c)
        obtain ⟨⟨y0, y1, y2, y3, y4, y5, y6, y7⟩, _⟩ := hfn.cells8
        have hbel := writeX_below HBw.out (Nat.le_refl w.heap.size) (t, A, c)
        have hNod : NodeAt (writeX W4 w.heap.size (t, A, c)) (fun b => w.heap.size ≤ b ∧ b < (writeX W4 w.heap.size (t, A, c)).heap.size) t A c := HX.out.mono fun k (hk : w.heap.size + 2 ≤ k ∧ k < bn) => ⟨⟨by omega, by rw [writeX_size]; omega⟩, fun o => World.cell?_of_block (w := W4) (a := ⟨k, o, none⟩) (writeX_other _ _ _ _ (show k ≠ w.heap.size by omega))⟩
        generalize writeX W4 w.heap.size (t, A, c) = W5 at *
        exact bodyPost_ret (v := .tuple #[nodeV t A c, .int .i64 0]) (by simp [results, Tryz.results14, y0, y1, y2, y3, y4, y5, y6, y7, go_sem]) rfl ⟨hbel, .inl ⟨t, A, c, Hp.out, rfl, hNod⟩⟩
      · have Hp := Lib.hid (parse_more hlen hcc)
        clear hcc
        go_wp2_with fail
        refine Hd.out.mono ?_
        rintro en W4 ⟨rfl, h4, hO4⟩
        rw [show doneS (.ok (c1 :: t1)) = false from rfl]
        clear c3
        have HNr := Lib.hid (Off.blk hO4 HNr.out (by omega))
        have HBw := Lib.hid (HBw.out.trans (Off.below hO4 (B := w.heap.size) (by omega) hz0))
        have hz4 : w.heap.size ≤ W4.heap.size := by have := HNr.out.lt; omega
        clear hO4 Hd
        have H4 := Lib.hid h4
        clear h4
        go_wp2_with fail
        refine (qfail_ok 100 (by omega) H4.out).mono ?_
        rintro en W6 ⟨rfl, h4, hO4⟩
        have c3 := h4.rdr.c3
        simp only [Rs.no] at c3
        clear lp3
        have lp3 := h4.lt
        have HNr := Lib.hid (Off.blk hO4 HNr.out (by omega))
        have HBw := Lib.hid (HBw.out.trans (Off.below hO4 (B := w.heap.size) (by omega) hz4))
        clear h4 hO4 H4
        have hbn2 : ((100 : Int) != 0) = true := by decide
        have Hne := Lib.hid (show (100 : Int) ≠ 0 by decide)
        obtain ⟨⟨r0, r1, r2_, r3, r4, r5, r6, r7⟩, hz⟩ := HNr.out.cells8
        have z0 := hz 0; have zz1 := hz 1; have z2 := hz 2; have z3 := hz 3; have z4 := hz 4; have z5 := hz 5; have z6 := hz 6; have z7 := hz 7
        have lr := HNr.out.lt
        clear hz
        go_wp2_with fail
        go_region
        all_goals go_wp2_with fail
        change bodyPost _ _ _ _ _ (writeX W6 w.heap.size (none0, none, 0)).drew
        have hfn := writeX_blk HNr.out (none0, none, 0)
        obtain ⟨⟨y0, y1, y2, y3, y4, y5, y6, y7⟩, _⟩ := hfn.cells8
        have hbel := (writeX_below HBw.out (Nat.le_refl w.heap.size) (none0, none, 0)).drew
        generalize writeX W6 w.heap.size (none0, none, 0) = W5 at *
        exact bodyPost_ret (v := .tuple #[nodeV none0 none 0, .int .i64 100]) (by simp [results, Tryz.results14, y0, y1, y2, y3, y4, y5, y6, y7, go_sem]) rfl ⟨hbel, .inr ⟨_, Hp.out, Hne.out, rfl⟩⟩
end Go.Proofs.YteekafkpeimhoaaGreat

/- What is printed is read as the same tree. Plain. -/
set_option linter.unusedVariables false
set_option linter.unusedSimpArgs false
namespace Go.Proofs.YteekafkpeimhoaaGreat
open Go.RowKit

/-! Enough rounds are as good as more. -/
theorem sufP_fuel : ∀ (k k' : Nat) (n : T) (r : Bs), r.length < k → r.length < k' → sufP k n r = sufP k' n r
  | 0, _, _, _, h, _ => by omega
  | _, 0, _, _, _, h => by omega
  | k + 1, k' + 1, n, r, h, h' => by
    rw [sufP, sufP]
    split
    · rename_i r1 ht; have := takeP_len ht; simp at this; exact sufP_fuel k k' _ _ (by omega) (by omega)
    split
    · rename_i r1 ht; have := takeP_len ht; simp at this; exact sufP_fuel k k' _ _ (by omega) (by omega)
    split
    · rename_i r1 ht; have := takeP_len ht; simp at this; exact sufP_fuel k k' _ _ (by omega) (by omega)
    split
    · rename_i r1 ht
      have := takeP_len ht; simp at this
      split
      · rfl
      · rename_i m x r2 hi
        have := interval_len hi
        exact sufP_fuel k k' _ _ (by omega) (by omega)
    · rfl
theorem piecesP_fuel {grp : Bs → PT} (hg : GrpLen grp) : ∀ (k k' : Nat) (l : List T) (r : Bs), r.length < k → r.length < k' → piecesP grp k l r = piecesP grp k' l r
  | 0, _, _, _, h, _ => by omega
  | _, 0, _, _, _, h => by omega
  | k + 1, k' + 1, l, r, h, h' => by
    rw [piecesP, piecesP]
    split
    · rfl
    split
    · rfl
    · rename_i n r1 hp
      have := piece_len hg hp
      exact piecesP_fuel hg k k' _ _ (by omega) (by omega)
theorem altsP_fuel {grp : Bs → PT} (hg : GrpLen grp) : ∀ (k k' : Nat) (l : List T) (r : Bs), r.length < k → r.length < k' → altsP grp k l r = altsP grp k' l r
  | 0, _, _, _, h, _ => by omega
  | _, 0, _, _, _, h => by omega
  | k + 1, k' + 1, l, r, h, h' => by
    rw [altsP, altsP]
    split
    · rfl
    · rename_i r1 ht
      have := takeP_len ht; simp at this
      split
      · rfl
      · rename_i n r2 hp
        have := row_len hg hp
        exact altsP_fuel hg k k' _ _ (by omega) (by omega)

/-! How often. -/
def noDig (r : Bs) : Prop := ∀ c t, r = c :: t → isDigit c = false
theorem dig_byte {n : Nat} (h : n < 10) : isDigit (UInt8.ofNat (48 + n)) = true ∧ ((UInt8.ofNat (48 + n)).toNat : Int) - 48 = n := by
  have e : (UInt8.ofNat (48 + n)).toNat = 48 + n := b8 (by omega)
  unfold isDigit
  rw [e]
  simp; omega
theorem digits_stop (k : Nat) (n : Int) (w : Nat) {r : Bs} (h : noDig r) : digitsP k n w r = (n, w, r) := by
  cases k with
  | zero => rfl
  | succ k =>
    cases r with
    | nil => rfl
    | cons c t => rw [digitsP, h c t rfl]; simp
theorem dec_digits {n : Nat} (hn : n < 256) {r : Bs} (hr : noDig r) : ∃ w, 1 ≤ w ∧ w ≤ 3 ∧ digitsP 4 0 0 (decT n ++ r) = ((n : Int), w, r) := by
  unfold decT
  split
  · rename_i h
    obtain ⟨h1, h2⟩ := dig_byte h
    refine ⟨1, by omega, by omega, ?_⟩
    simp only [List.cons_append, List.nil_append]
    rw [digitsP, if_pos h1, h2, digits_stop _ _ _ hr]
    simp
  split
  · rename_i h0 h
    obtain ⟨h1, h2⟩ := dig_byte (n := n / 10) (by omega)
    obtain ⟨h3, h4⟩ := dig_byte (n := n % 10) (by omega)
    refine ⟨2, by omega, by omega, ?_⟩
    simp only [List.cons_append, List.nil_append]
    rw [digitsP, if_pos h1, h2, digitsP, if_pos h3, h4, digits_stop _ _ _ hr]
    simp only [Prod.mk.injEq, and_true]
    omega
  · rename_i h0 h
    obtain ⟨h1, h2⟩ := dig_byte (n := n / 100) (by omega)
    obtain ⟨h3, h4⟩ := dig_byte (n := n / 10 % 10) (by omega)
    obtain ⟨h5, h6⟩ := dig_byte (n := n % 10) (by omega)
    refine ⟨3, by omega, by omega, ?_⟩
    simp only [List.cons_append, List.nil_append]
    rw [digitsP, if_pos h1, h2, digitsP, if_pos h3, h4, digitsP, if_pos h5, h6, digits_stop _ _ _ hr]
    simp only [Prod.mk.injEq, and_true]
    omega
theorem dec_number {n : Nat} (hn : n < 256) {r : Bs} (hr : noDig r) : numberP (decT n ++ r) = .ok ((n : Int), r) := by
  obtain ⟨w, h1, h2, e⟩ := dec_digits hn hr
  unfold numberP
  rw [e, if_neg (by simp only; omega)]
theorem noDig_cons {c : UInt8} (h : isDigit c = false) (t : Bs) : noDig (c :: t) := fun _ _ e => by cases e; exact h
theorem decT_len (n : Nat) : 1 ≤ (decT n).length := by unfold decT; split <;> (try simp); split <;> simp
/-- A number's text begins with none of these. -/
theorem decT_head {n : Nat} (hn : n < 256) : ∃ c t, decT n = c :: t ∧ c ≠ 125 ∧ c ≠ 44 := by
  have hd : ∀ k, k < 10 → UInt8.ofNat (48 + k) ≠ 125 ∧ UInt8.ofNat (48 + k) ≠ 44 := fun k hk => ⟨fun e => by
    have := (b8_eq (c := 48 + k) (k := 125) (by omega) (by omega)).1 e; omega, fun e => by
    have := (b8_eq (c := 48 + k) (k := 44) (by omega) (by omega)).1 e; omega⟩
  unfold decT
  split
  · exact ⟨_, _, rfl, hd _ (by omega)⟩
  split
  · exact ⟨_, _, rfl, hd _ (by omega)⟩
  · exact ⟨_, _, rfl, hd _ (by omega)⟩
structure Tim (m n : Int) : Prop where
  m0 : 0 ≤ m
  m1 : m ≤ 255
  n1 : n ≤ 255
  n0 : n = -1 ∨ m ≤ n
theorem timesT_suf {m n : Int} (h : Tim m n) (k : Nat) (t : T) (r : Bs) : sufP (k + 1) t (timesT m n ++ r) = sufP k (repT m n t) r := by
  have h0 := h.m0; have h1 := h.m1; have h2 := h.n1; have h3 := h.n0
  unfold timesT
  split
  · rename_i e
    obtain ⟨rfl, rfl⟩ := e
    simp only [List.cons_append, List.nil_append]
    rw [sufP, takeP_one, if_pos rfl]
  split
  · rename_i e
    obtain ⟨rfl, rfl⟩ := e
    simp only [List.cons_append, List.nil_append]
    rw [sufP, takeP_one, if_neg (by decide)]
    simp only [takeP_one, if_true]
  split
  · rename_i e
    obtain ⟨rfl, rfl⟩ := e
    simp only [List.cons_append, List.nil_append]
    rw [sufP, takeP_one, if_neg (by decide)]
    simp only [takeP_one, show ¬ ((43 : UInt8) = 63) by decide, if_true, if_false]
  obtain ⟨a, rfl⟩ : ∃ a : Nat, m = a := ⟨m.toNat, by omega⟩
  rw [Int.toNat_natCast]
  split
  · rename_i e
    subst e
    simp only [List.cons_append, List.nil_append, List.append_assoc]
    have hi : intervalP (decT a ++ 125 :: r) = .ok ((a : Int), (a : Int), r) := by
      rw [intervalP, dec_number (by omega) (noDig_cons (by decide) _)]
      simp only [takeP_one, if_true]
    rw [sufP, takeP_one, if_neg (by decide)]
    simp only [takeP_one, show ¬ ((43 : UInt8) = 123) by decide, show ¬ ((63 : UInt8) = 123) by decide, if_true, if_false, hi]
  split
  · rename_i e
    subst e
    simp only [List.cons_append, List.nil_append, List.append_assoc]
    have hi : intervalP (decT a ++ 44 :: 125 :: r) = .ok ((a : Int), -1, r) := by
      rw [intervalP, dec_number (by omega) (noDig_cons (by decide) _)]
      simp only [takeP_cons, takeP_done, show ¬ ((125 : UInt8) = 44) by decide, if_true, if_false]
    rw [sufP, takeP_one, if_neg (by decide)]
    simp only [takeP_one, show ¬ ((43 : UInt8) = 123) by decide, show ¬ ((63 : UInt8) = 123) by decide, if_true, if_false, hi]
  · obtain ⟨b, rfl⟩ : ∃ b : Nat, n = b := ⟨n.toNat, by omega⟩
    rw [Int.toNat_natCast]
    simp only [List.cons_append, List.nil_append, List.append_assoc]
    obtain ⟨c, t', hc, h5, h6⟩ := decT_head (n := b) (by omega)
    have hi : intervalP (decT a ++ 44 :: (decT b ++ 125 :: r)) = .ok ((a : Int), (b : Int), r) := by
      rw [intervalP, dec_number (by omega) (noDig_cons (by decide) _)]
      have e1 : takeP [44, 125] (44 :: (decT b ++ 125 :: r)) = none := by rw [takeP_cons, if_pos rfl, hc, List.cons_append, takeP_one, if_neg (fun e => h5 e.symm)]
      simp only [takeP_one, show ¬ ((125 : UInt8) = 44) by decide, if_true, if_false, e1]
      rw [dec_number (by omega) (noDig_cons (by decide) _)]
      simp only [takeP_one, if_true]
      rw [if_neg (by omega)]
    rw [sufP, takeP_one, if_neg (by decide)]
    simp only [takeP_one, show ¬ ((43 : UInt8) = 123) by decide, show ¬ ((63 : UInt8) = 123) by decide, if_true, if_false, hi]
theorem timesT_len (m n : Int) : 1 ≤ (timesT m n).length := by
  unfold timesT
  repeat' split
  all_goals simp
/-- Nothing stands here that says how often. -/
def noSuf (r : Bs) : Prop := ∀ c t, r = c :: t → c ≠ 42 ∧ c ≠ 43 ∧ c ≠ 63 ∧ c ≠ 123
theorem suf_stop (k : Nat) (t : T) {r : Bs} (h : noSuf r) : sufP k t r = .ok (t, r) := by
  cases k with
  | zero => rfl
  | succ k =>
    cases r with
    | nil => rfl
    | cons c q =>
      obtain ⟨h1, h2, h3, h4⟩ := h c q rfl
      rw [sufP, takeP_one, if_neg (fun e => h1 e.symm)]
      simp only [takeP_one]
      rw [if_neg (fun e => h2 e.symm)]
      simp only
      rw [if_neg (fun e => h3 e.symm)]
      simp only
      rw [if_neg (fun e => h4 e.symm)]
theorem ends_suf {r : Bs} (h : endsRow r = true) : noSuf r := fun c t e => by
  subst e
  simp only [endsRow, Bool.or_eq_true, beq_iff_eq] at h
  rcases h with rfl | rfl <;> decide
/-- A piece's first byte. -/
def Begins (x : Bs) : Prop := ∃ c t, x = c :: t ∧ c ≠ 124 ∧ c ≠ 41 ∧ c ≠ 42 ∧ c ≠ 43 ∧ c ≠ 63 ∧ c ≠ 123
theorem Begins.row {x : Bs} (h : Begins x) (r : Bs) : endsRow (x ++ r) = false := by
  obtain ⟨c, t, rfl, h1, h2, _⟩ := h
  simp [endsRow, h1, h2]
theorem Begins.suf {x : Bs} (h : Begins x) (r : Bs) : noSuf (x ++ r) := by
  obtain ⟨c, t, rfl, h1, h2, h3, h4, h5, h6⟩ := h
  intro a b e
  cases e
  exact ⟨h3, h4, h5, h6⟩
theorem Begins.app {x : Bs} (h : Begins x) (r : Bs) : Begins (x ++ r) := by
  obtain ⟨c, t, rfl, h⟩ := h
  exact ⟨c, t ++ r, rfl, h⟩
theorem set_begins (s : W4) : Begins (setT s) := by
  unfold setT
  split
  · exact ⟨46, _, rfl, by decide⟩
  split
  · exact ⟨91, _, rfl, by decide⟩
  split
  · rename_i h1
    obtain ⟨c, hc⟩ := List.length_eq_one_iff.1 h1
    have hcl : c < 256 := bytesW_lt s c (by rw [hc]; simp)
    have hh : (bytesW s).headD 0 = c := by rw [hc]; rfl
    rw [hh]
    by_cases hs : specB c = true
    · rw [if_pos hs]; exact ⟨92, _, rfl, by decide⟩
    · rw [if_neg hs]
      have hs : ¬ c ∈ [92, 94, 46, 91, 36, 40, 41, 124, 42, 43, 63, 123] := by simpa [specB] using hs
      simp only [List.mem_cons, List.not_mem_nil, or_false, not_or] at hs
      have ne : ∀ k, k < 256 → c ≠ k → UInt8.ofNat c ≠ UInt8.ofNat k := fun k hk hn e => hn ((b8_eq hcl hk).1 e)
      exact ⟨_, _, rfl, ne 124 (by omega) (by omega), ne 41 (by omega) (by omega), ne 42 (by omega) (by omega), ne 43 (by omega) (by omega), ne 63 (by omega) (by omega), ne 123 (by omega) (by omega)⟩
  · exact ⟨91, _, rfl, by decide⟩

/-- What right trees are, all told. -/
theorem right_set {t : T} (h : rightF t = true) (hk : t.k ≠ 1) : t.s0 = 0 ∧ t.s1 = 0 ∧ t.s2 = 0 ∧ t.s3 = 0 := by
  rw [rightF_eq] at h
  split at h
  · cases h
  · rename_i hn
    false_or_by_contra
    rename_i h2
    exact hn (.inl ⟨hk, h2⟩)
theorem T.eq_mk {t : T} {k s0 s1 s2 s3 mn mx : Int} {ps : List T} (h1 : t.k = k) (h2 : t.s0 = s0) (h3 : t.s1 = s1) (h4 : t.s2 = s2) (h5 : t.s3 = s3) (h6 : t.mn = mn) (h7 : t.mx = mx) (h8 : t.ps = ps) : t = .mk k s0 s1 s2 s3 mn mx ps := by
  subst h1; subst h2; subst h3; subst h4; subst h5; subst h6; subst h7; subst h8; exact t.eta

/-- A row's end: nothing, a stroke, a bracket. -/
structure Rnd (t : T) : Prop where
  piece : looseT t = false → (∀ d r, deepT t ≤ d → pieceP (groupP d) (prT t ++ r) = sufP (r.length + 1) t r) ∧ Begins (prT t)
  choice : ∀ d r, deepT t ≤ d → (r = [] ∨ ∃ q, r = 41 :: q) → choiceP (groupP d) (prT t ++ r) = .ok (t, r)
theorem atom40 (grp : Bs → PT) (t : Bs) : atomP grp (40 :: t) = grp t := by simp [atomP]
theorem atom94 (grp : Bs → PT) (t : Bs) : atomP grp (94 :: t) = .ok (.mk 2 0 0 0 0 0 0 [], t) := by simp [atomP]
theorem atom36 (grp : Bs → PT) (t : Bs) : atomP grp (36 :: t) = .ok (.mk 3 0 0 0 0 0 0 [], t) := by simp [atomP]
/-- A part, in brackets if it is loose. -/
theorem part_piece {p : T} (h : Rnd p) (so : Bool) (hso : looseT p = true → so = true) (d : Nat) (hd : deepT p + (if so then 1 else 0) ≤ d) (r : Bs) :
    pieceP (groupP d) (parT so (prT p) ++ r) = sufP (r.length + 1) p r ∧ Begins (parT so (prT p)) := by
  cases hs : so with
  | false =>
    have hl : looseT p = false := by
      cases hl : looseT p with
      | false => rfl
      | true => rw [hso hl] at hs; cases hs
    rw [hs] at hd
    obtain ⟨h1, h2⟩ := h.piece hl
    exact ⟨h1 d r (by simpa using hd), h2⟩
  | true =>
    rw [hs] at hd
    obtain ⟨d, rfl⟩ : ∃ d', d = d' + 1 := ⟨d - 1, by simp at hd; omega⟩
    refine ⟨?_, 40, _, rfl, by decide⟩
    simp only [parT, if_true, List.cons_append, List.nil_append, List.append_assoc]
    have hg : groupP (d + 1) (prT p ++ 41 :: r) = .ok (p, r) := by
      rw [groupP, h.choice d (41 :: r) (by simp at hd; omega) (.inr ⟨r, rfl⟩)]
      simp only [takeP_one, if_true]
    rw [pieceP, atom40, hg]
theorem row_read {d : Nat} : ∀ (ps : List T) (l : List T) (r : Bs) (k : Nat), (∀ p ∈ ps, Rnd p) → deepRow ps ≤ d → endsRow r = true → (prRow ps ++ r).length < k → piecesP (groupP d) k l (prRow ps ++ r) = .ok (l ++ ps, r) ∧ noSuf (prRow ps ++ r)
  | [], l, r, k, _, _, hr, hk => by
    rw [prRow]
    simp only [List.nil_append, List.append_nil] at hk ⊢
    refine ⟨?_, ends_suf hr⟩
    cases k with
    | zero => omega
    | succ k => rw [piecesP, if_pos hr]
  | p :: ps, l, r, k, h, hd, hr, hk => by
    rw [prRow] at hk ⊢
    rw [deepRow] at hd
    rw [List.append_assoc] at hk ⊢
    obtain ⟨h1, h2⟩ := part_piece (h p (List.mem_cons_self ..)) (looseT p) id d (by omega) (prRow ps ++ r)
    obtain ⟨c, t, e, _⟩ := id h2
    have hlen : 1 ≤ (parT (looseT p) (prT p)).length := by rw [e]; simp
    obtain ⟨k, rfl⟩ : ∃ k', k = k' + 1 := ⟨k - 1, by omega⟩
    simp only [List.length_append] at hk
    obtain ⟨h3, h4⟩ := row_read (d := d) ps (l ++ [p]) r k (fun q hq => h q (List.mem_cons_of_mem _ hq)) (by omega) hr (by simp only [List.length_append]; omega)
    refine ⟨?_, h2.suf _⟩
    rw [piecesP, h2.row, h1, suf_stop _ _ h4]
    simp only [Bool.false_eq_true, if_false]
    rw [h3]
    simp
theorem joinT_many (k : Int) : ∀ (l : List T), 2 ≤ l.length → joinT k l = .mk k 0 0 0 0 0 0 l
  | [], h => by simp at h
  | [_], h => by simp at h
  | _ :: _ :: _, _ => rfl
/-- A row: what is no choice. -/
theorem rowP_read {t : T} (hr : rightF t = true) (h : ∀ p ∈ t.ps, Rnd p) (hp : looseT t = false → (∀ d r, deepT t ≤ d → pieceP (groupP d) (prT t ++ r) = sufP (r.length + 1) t r) ∧ Begins (prT t)) (hk : t.k ≠ 5) (d : Nat) (hd : deepT t ≤ d) (r : Bs) (he : endsRow r = true) : rowP (groupP d) (prT t ++ r) = .ok (t, r) := by
  unfold rowP
  cases hl : looseT t with
  | false =>
    obtain ⟨h1, h2⟩ := hp hl
    rw [piecesP, h2.row, h1 d r hd, suf_stop _ _ (ends_suf he)]
    simp only [Bool.false_eq_true, if_false]
    obtain ⟨c, q, e, _⟩ := id h2
    rw [e, List.cons_append, List.length_cons, piecesP, if_pos he]
    rfl
  | true =>
    have hset := right_set hr
    rcases right_cases hr with ⟨hk', hh⟩ | ⟨hk', hh⟩ | ⟨hk', hh⟩ | ⟨hk', hh⟩ | ⟨hk', hh⟩ | ⟨hk', hh⟩ | ⟨hk', hh⟩
    · have hpr : prT t = [] := by rw [prT_eq]; simp [hk']
      rw [hpr, List.nil_append, piecesP, if_pos he]
      simp only
      obtain ⟨e1, e2, e3, e4⟩ := hset (by omega)
      rw [T.eq_mk hk' e1 e2 e3 e4 hh.2.1 hh.2.2 (List.eq_nil_of_length_eq_zero hh.1)]
      rfl
    · simp [looseT, hk'] at hl
    · simp [looseT, hk'] at hl
    · simp [looseT, hk'] at hl
    · have hpr : prT t = prRow t.ps := by rw [prT_eq]; simp [hk']
      have hdp : deepT t = deepRow t.ps := by rw [deepT_eq]; simp [hk']
      obtain ⟨h1, _⟩ := row_read (d := d) t.ps [] r ((prT t ++ r).length + 1) h (by omega) he (by rw [hpr]; omega)
      rw [hpr] at h1 ⊢
      rw [h1]
      simp only [List.nil_append]
      obtain ⟨e1, e2, e3, e4⟩ := hset (by omega)
      rw [joinT_many _ _ hh.1, ← T.eq_mk hk' e1 e2 e3 e4 hh.2.1 hh.2.2 rfl]
    · exact absurd hk' hk
    · simp [looseT, hk'] at hl
theorem part_row {p : T} (hrt : rightF p = true) (h : Rnd p) (hps : ∀ q ∈ p.ps, Rnd q) (d : Nat) (hd : deepT p + (if p.k == 5 then 1 else 0) ≤ d) (r : Bs) (he : endsRow r = true) : rowP (groupP d) (parT (p.k == 5) (prT p) ++ r) = .ok (p, r) := by
  by_cases hk : p.k = 5
  · have hb : (p.k == 5) = true := by simpa using hk
    rw [hb] at hd ⊢
    obtain ⟨h1, h2⟩ := part_piece h true (fun _ => rfl) d hd r
    unfold rowP
    rw [piecesP, h2.row, h1, suf_stop _ _ (ends_suf he)]
    simp only [Bool.false_eq_true, if_false]
    obtain ⟨c, q, e, _⟩ := id h2
    rw [e, List.cons_append, List.length_cons, piecesP, if_pos he]
    rfl
  · have hb : (p.k == 5) = false := by simpa using hk
    rw [hb] at hd ⊢
    exact rowP_read hrt hps h.piece hk d (by simpa using hd) r he
theorem ends_closes {r : Bs} (hr : r = [] ∨ ∃ q, r = 41 :: q) : endsRow r = true ∧ takeP [124] r = none := by
  rcases hr with rfl | ⟨q, rfl⟩
  · exact ⟨rfl, rfl⟩
  · exact ⟨rfl, by rw [takeP_one, if_neg (by decide)]⟩
theorem bar_read {d : Nat} : ∀ (ps : List T) (l : List T) (r : Bs) (k : Nat), (∀ p ∈ ps, rightF p = true ∧ Rnd p ∧ ∀ q ∈ p.ps, Rnd q) → deepAlt ps ≤ d → (r = [] ∨ ∃ q, r = 41 :: q) → (prBar ps ++ r).length < k → altsP (groupP d) k l (prBar ps ++ r) = .ok (l ++ ps, r) ∧ endsRow (prBar ps ++ r) = true
  | [], l, r, k, _, _, hr, hk => by
    rw [prBar]
    simp only [List.nil_append, List.append_nil] at hk ⊢
    obtain ⟨h1, h2⟩ := ends_closes hr
    refine ⟨?_, h1⟩
    cases k with
    | zero => omega
    | succ k => rw [altsP, h2]
  | p :: ps, l, r, k, h, hd, hr, hk => by
    rw [prBar] at hk ⊢
    rw [deepAlt] at hd
    simp only [List.cons_append, List.nil_append, List.append_assoc, List.length_cons] at hk ⊢
    obtain ⟨k, rfl⟩ : ∃ k', k = k' + 1 := ⟨k - 1, by omega⟩
    simp only [List.length_append] at hk
    obtain ⟨h3, h4⟩ := bar_read (d := d) ps (l ++ [p]) r k (fun q hq => h q (List.mem_cons_of_mem _ hq)) (by omega) hr (by simp only [List.length_append]; omega)
    obtain ⟨g1, g2, g3⟩ := h p (List.mem_cons_self ..)
    have := part_row g1 g2 g3 d (by omega) (prBar ps ++ r) h4
    refine ⟨?_, rfl⟩
    rw [altsP, takeP_one, if_pos rfl]
    simp only
    rw [this]
    simp only
    rw [h3]
    simp
theorem rnd_all (t : T) : rightF t = true → Words t → Rnd t ∧ ∀ p ∈ t.ps, Rnd p := by
  induction t using T.ind with
  | h t ih =>
    intro hr hw
    have hps : ∀ p ∈ t.ps, Rnd p := fun p hp => (ih p hp (right_parts hr p hp) (hw.p p hp)).1
    have hps2 : ∀ p ∈ t.ps, ∀ q ∈ p.ps, Rnd q := fun p hp => (ih p hp (right_parts hr p hp) (hw.p p hp)).2
    have hset := right_set hr
    have hpiece : looseT t = false → (∀ d r, deepT t ≤ d → pieceP (groupP d) (prT t ++ r) = sufP (r.length + 1) t r) ∧ Begins (prT t) := by
      intro hl
      rcases right_cases hr with ⟨hk, hh⟩ | ⟨hk, hh⟩ | ⟨hk, hh⟩ | ⟨hk, hh⟩ | ⟨hk, hh⟩ | ⟨hk, hh⟩ | ⟨hk, hh⟩
      · simp [looseT, hk] at hl
      · have hpr : prT t = setT t.w4 := by rw [prT_eq]; simp [hk]
        rw [hpr]
        refine ⟨fun d r _ => ?_, set_begins _⟩
        have e : t.w4.T = t := (T.eq_mk hk rfl rfl rfl rfl hh.2.1 hh.2.2 (List.eq_nil_of_length_eq_zero hh.1)).symm
        rw [pieceP, set_atom hw.w, e]
      · have hpr : prT t = [94] := by rw [prT_eq]; simp [hk]
        rw [hpr]
        refine ⟨fun d r _ => ?_, 94, _, rfl, by decide⟩
        obtain ⟨e1, e2, e3, e4⟩ := hset (by omega)
        rw [List.cons_append, List.nil_append, pieceP, atom94, ← T.eq_mk hk e1 e2 e3 e4 hh.2.1 hh.2.2 (List.eq_nil_of_length_eq_zero hh.1)]
      · have hpr : prT t = [36] := by rw [prT_eq]; simp [hk]
        rw [hpr]
        refine ⟨fun d r _ => ?_, 36, _, rfl, by decide⟩
        obtain ⟨e1, e2, e3, e4⟩ := hset (by omega)
        rw [List.cons_append, List.nil_append, pieceP, atom36, ← T.eq_mk hk e1 e2 e3 e4 hh.2.1 hh.2.2 (List.eq_nil_of_length_eq_zero hh.1)]
      · simp [looseT, hk] at hl
      · simp [looseT, hk] at hl
      · have hpr : prT t = prHead t.ps ++ timesT t.mn t.mx := by rw [prT_eq]; simp [hk]
        have hdp : deepT t = deepHead t.ps := by rw [deepT_eq]; simp [hk]
        obtain ⟨p, hp⟩ := List.length_eq_one_iff.1 hh.1
        have hP := hps p (by rw [hp]; simp)
        obtain ⟨e1, e2, e3, e4⟩ := hset (by omega)
        rw [hp] at hdp
        rw [deepHead] at hdp
        rw [hpr, hp, prHead]
        refine ⟨fun d r hd => ?_, ?_⟩
        · rw [List.append_assoc]
          obtain ⟨h1, _⟩ := part_piece hP (looseT p) id d (by omega) (timesT t.mn t.mx ++ r)
          rw [h1, timesT_suf ⟨hh.2.1, hh.2.2.1, hh.2.2.2.1, hh.2.2.2.2⟩]
          have : repT t.mn t.mx p = t := (T.eq_mk hk e1 e2 e3 e4 rfl rfl hp).symm
          rw [this]
          have := timesT_len t.mn t.mx
          exact sufP_fuel _ _ _ _ (by simp only [List.length_append]; omega) (by omega)
        · exact (part_piece hP (looseT p) id _ (Nat.le_refl _) []).2.app _
    refine ⟨⟨hpiece, fun d r hd hc => ?_⟩, hps⟩
    obtain ⟨c1, c2⟩ := ends_closes hc
    by_cases hk : t.k = 5
    · have hpr : prT t = prAlt t.ps := by rw [prT_eq]; simp [hk]
      have hdp : deepT t = deepAlt t.ps := by rw [deepT_eq]; simp [hk]
      have hh : 2 ≤ t.ps.length ∧ t.mn = 0 ∧ t.mx = 0 := by
        rcases right_cases hr with ⟨hk', hh⟩ | ⟨hk', hh⟩ | ⟨hk', hh⟩ | ⟨hk', hh⟩ | ⟨hk', hh⟩ | ⟨hk', hh⟩ | ⟨hk', hh⟩
        all_goals first | omega | exact hh
      obtain ⟨e1, e2, e3, e4⟩ := hset (by omega)
      have hall : ∀ p ∈ t.ps, rightF p = true ∧ Rnd p ∧ ∀ q ∈ p.ps, Rnd q := fun p hp => ⟨right_parts hr p hp, hps p hp, hps2 p hp⟩
      cases hq : t.ps with
      | nil => rw [hq] at hh; simp at hh
      | cons p ps =>
        rw [hq] at hpr hdp hall hh
        rw [prAlt] at hpr
        rw [deepAlt] at hdp
        obtain ⟨b1, b2⟩ := bar_read (d := d) ps [p] r ((prBar ps ++ r).length + 1) (fun q hq => hall q (List.mem_cons_of_mem _ hq)) (by omega) hc (by omega)
        obtain ⟨g1, g2, g3⟩ := hall p (List.mem_cons_self ..)
        rw [choiceP, hpr, List.append_assoc, part_row g1 g2 g3 d (by omega) (prBar ps ++ r) b2]
        simp only
        rw [b1]
        simp only [List.cons_append, List.nil_append]
        rw [joinT_many _ _ hh.1, ← T.eq_mk hk e1 e2 e3 e4 hh.2.1 hh.2.2 hq]
    · rw [choiceP, rowP_read hr hps hpiece hk d hd r c1]
      simp only
      rw [altsP, c2]
      rfl
theorem rnd {t : T} (hr : rightF t = true) (hw : Words t) : Rnd t := (rnd_all t hr hw).1
/-- What is printed is read as the same tree. -/
theorem parse_print {t : T} (hr : rightF t = true) (hw : Words t) (hl : (prT t).length ≤ 1024) (hd : deepT t ≤ 64) : parseP (prT t) = .ok t := by
  have := (rnd hr hw).choice 64 [] hd (.inl rfl)
  rw [List.append_nil] at this
  rw [parseP, if_neg (by omega), this]
end Go.Proofs.YteekafkpeimhoaaGreat

/- What is read is read alike ahead of a closing bracket, and with fewer brackets left (or there are too many). Plain. -/
set_option linter.unusedVariables false
set_option linter.unusedSimpArgs false
namespace Go.Proofs.YteekafkpeimhoaaGreat
open Go.RowKit

theorem takeP_app : ∀ {q r r' : Bs} (u : Bs), takeP q r = some r' → takeP q (r ++ u) = some (r' ++ u)
  | [], r, r', u, h => by rw [takeP_done] at h ⊢; cases h; rfl
  | a :: q, [], r', u, h => by rw [takeP_nil _ (by simp)] at h; cases h
  | a :: q, c :: r, r', u, h => by
    rw [takeP_cons] at h
    rw [List.cons_append, takeP_cons]
    split at h
    · rw [if_pos (by assumption)]; exact takeP_app u h
    · cases h
theorem takeP_not : ∀ {q r : Bs} (u : Bs), ¬ (41 : UInt8) ∈ q → takeP q r = none → takeP q (r ++ 41 :: u) = none
  | [], r, u, _, h => by rw [takeP_done] at h; cases h
  | a :: q, [], u, hq, h => by
    rw [List.nil_append, takeP_cons, if_neg (fun e => hq (by rw [e]; exact List.mem_cons_self ..))]
  | a :: q, c :: r, u, hq, h => by
    rw [takeP_cons] at h
    rw [List.cons_append, takeP_cons]
    split at h
    · rw [if_pos (by assumption)]; exact takeP_not u (fun e => hq (List.mem_cons_of_mem _ e)) h
    · rw [if_neg (by assumption)]
theorem digits_app (u : Bs) : ∀ (k : Nat) (n : Int) (w : Nat) (r : Bs), digitsP k n w (r ++ 41 :: u) = ((digitsP k n w r).1, (digitsP k n w r).2.1, (digitsP k n w r).2.2 ++ 41 :: u)
  | 0, n, w, r => rfl
  | k + 1, n, w, [] => by
    have : isDigit 41 = false := by decide
    simp only [List.nil_append, digitsP, this, Bool.false_eq_true, if_false]
  | k + 1, n, w, c :: t => by
    rw [List.cons_append, digitsP, digitsP]
    split
    · exact digits_app u k _ _ t
    · rfl
theorem number_app {r r' : Bs} {n : Int} (u : Bs) (h : numberP r = .ok (n, r')) : numberP (r ++ 41 :: u) = .ok (n, r' ++ 41 :: u) := by
  unfold numberP at h ⊢
  rw [digits_app]
  split at h
  · cases h
  · rename_i hn
    rw [if_neg hn]; cases h; rfl
theorem interval_app {r r' : Bs} {m n : Int} (u : Bs) (h : intervalP r = .ok (m, n, r')) : intervalP (r ++ 41 :: u) = .ok (m, n, r' ++ 41 :: u) := by
  unfold intervalP at h ⊢
  split at h
  · cases h
  rename_i m1 r1 hn
  rw [number_app u hn]
  simp only
  split at h
  · rename_i r2 ht; cases h; rw [takeP_app _ ht]
  rename_i ht
  rw [takeP_not u (by decide) ht]
  simp only
  split at h
  · rename_i r2 ht; cases h; rw [takeP_app _ ht]
  rename_i ht
  rw [takeP_not u (by decide) ht]
  simp only
  split at h
  · cases h
  rename_i r2 ht
  rw [takeP_app _ ht]
  simp only
  split at h
  · cases h
  rename_i n1 r3 hn2
  rw [number_app u hn2]
  simp only
  split at h
  · cases h
  rename_i hlt
  rw [if_neg hlt]
  split at h
  · rename_i r4 ht4; cases h; rw [takeP_app _ ht4]
  · cases h
theorem single_app {g : UInt8} {r r' : Bs} {c : Nat} (u : Bs) (h : singleP g r = .ok (c, r')) : singleP g (r ++ 41 :: u) = .ok (c, r' ++ 41 :: u) := by
  unfold singleP at h
  split at h
  · cases h
  split at h
  · rename_i c1 t r1 ht; cases h; rw [List.cons_append, singleP, takeP_app _ ht]
  · cases h
theorem member_app {r r' : Bs} {c : Nat} (u : Bs) (h : memberP r = .ok (c, r')) : memberP (r ++ 41 :: u) = .ok (c, r' ++ 41 :: u) := by
  unfold memberP at h
  split at h
  · rename_i r1 ht; rw [memberP.eq_def, takeP_app _ ht]; exact single_app u h
  · rename_i ht
    split at h
    · cases h
    · cases h
      rw [memberP.eq_def, takeP_not u (by decide) ht]; rfl
theorem cutP_app : ∀ {r a b : Bs} (u : Bs), cutP r = some (a, b) → cutP (r ++ 41 :: u) = some (a, b ++ 41 :: u)
  | [], a, b, u, h => by cases h
  | c :: t, a, b, u, h => by
    rw [cutP] at h
    rw [List.cons_append, cutP]
    split at h
    · rename_i r1 ht
      cases h
      rw [show c :: (t ++ 41 :: u) = (c :: t) ++ 41 :: u from rfl, takeP_app _ ht]
    · rename_i ht
      rw [show c :: (t ++ 41 :: u) = (c :: t) ++ 41 :: u from rfl, takeP_not u (by decide) ht]
      simp only
      split at h
      · rename_i a1 b1 hc
        cases h
        rw [cutP_app u hc]
      · cases h
theorem class_app {s s' : W4} {r r' : Bs} (u : Bs) (h : classP s r = .ok (s', r')) : classP s (r ++ 41 :: u) = .ok (s', r' ++ 41 :: u) := by
  unfold classP at h ⊢
  split at h
  · cases h
  rename_i name r1 hc
  rw [cutP_app u hc]
  simp only
  split at h
  · cases h
  · rename_i x hx; cases h; rfl
theorem range_app {s s' : W4} {f : Nat} {r r' : Bs} (u : Bs) (h : rangeP s f r = .ok (s', r')) : rangeP s f (r ++ 41 :: u) = .ok (s', r' ++ 41 :: u) := by
  unfold rangeP at h ⊢
  split at h
  · rename_i r1 h1 h2
    rw [takeP_app _ h1, takeP_not u (by decide) h2]
    simp only
    split at h
    · cases h
    rename_i hb
    have hb : takeP [91, 58] r1 = none ∧ takeP [91, 61] r1 = none := by simpa using hb
    rw [takeP_not u (by decide) hb.1, takeP_not u (by decide) hb.2]
    simp only [Option.isSome_none, Bool.or_false, Bool.false_eq_true, if_false]
    split at h
    · cases h
    rename_i to_ r2 hm
    rw [member_app u hm]
    simp only
    split at h
    · cases h
    · rename_i hlt; rw [if_neg hlt]; cases h; rfl
  · rename_i hne
    cases h
    cases h1 : takeP [45] r with
    | none => rw [takeP_not u (by decide) h1]
    | some r1 =>
      cases h2 : takeP [45, 93] r with
      | none => exact (hne r1 h1 h2).elim
      | some r2 => rw [takeP_app _ h1, takeP_app _ h2]
theorem item_app {s s' : W4} {r r' : Bs} (u : Bs) (h : itemP s r = .ok (s', r')) : itemP s (r ++ 41 :: u) = .ok (s', r' ++ 41 :: u) := by
  unfold itemP at h ⊢
  split at h
  · rename_i r1 ht; rw [takeP_app _ ht]; exact class_app u h
  rename_i ht
  rw [takeP_not u (by decide) ht]
  simp only
  split at h
  · rename_i r1 ht
    rw [takeP_app _ ht]
    simp only
    split at h
    · cases h
    · rename_i c r2 hs; rw [single_app u hs]; cases h; rfl
  rename_i ht
  rw [takeP_not u (by decide) ht]
  simp only
  split at h
  · cases h
  · rename_i c r1 hm; rw [member_app u hm]; exact range_app u h
theorem items_app (u : Bs) : ∀ {k k' : Nat} {s s' : W4} {r r' : Bs}, k ≤ k' → itemsP k s r = .ok (s', r') → itemsP k' s (r ++ 41 :: u) = .ok (s', r' ++ 41 :: u)
  | 0, _, _, _, _, _, _, h => by rw [itemsP] at h; cases h
  | k + 1, 0, _, _, _, _, hk, _ => by omega
  | k + 1, k' + 1, s, s', r, r', hk, h => by
    rw [itemsP] at h ⊢
    split at h
    · cases h
    rename_i s1 r1 hi
    rw [item_app u hi]
    simp only
    split at h
    · rename_i r2 ht; rw [takeP_app _ ht]; cases h; rfl
    · rename_i ht; rw [takeP_not u (by decide) ht]; exact items_app u (by omega) h
theorem bracket_app {s' : W4} {r r' : Bs} (u : Bs) (h : bracketP r = .ok (s', r')) : bracketP (r ++ 41 :: u) = .ok (s', r' ++ 41 :: u) := by
  unfold bracketP at h ⊢
  split at h
  · rename_i r1 ht
    rw [takeP_app _ ht]
    simp only
    split at h
    · cases h
    · rename_i s1 r2 hi; rw [items_app u (by simp) hi]; cases h; rfl
  · rename_i ht; rw [takeP_not u (by decide) ht]; exact items_app u (by simp) h
def GrpApp (grp : Bs → PT) : Prop := ∀ r n r' u, grp r = .ok (n, r') → grp (r ++ 41 :: u) = .ok (n, r' ++ 41 :: u)
theorem atom_app {grp : Bs → PT} (hg : GrpApp grp) {r r' : Bs} {n : T} (u : Bs) (h : atomP grp r = .ok (n, r')) : atomP grp (r ++ 41 :: u) = .ok (n, r' ++ 41 :: u) := by
  cases r with
  | nil => rw [atomP] at h; cases h
  | cons c t =>
    simp only [atomP] at h
    simp only [List.cons_append, atomP]
    split at h
    · rw [if_pos (by assumption)]; exact hg _ _ _ _ h
    rw [if_neg (by assumption)]
    split at h
    · rw [if_pos (by assumption)]; cases h; rfl
    rw [if_neg (by assumption)]
    split at h
    · rw [if_pos (by assumption)]; cases h; rfl
    rw [if_neg (by assumption)]
    split at h
    · rw [if_pos (by assumption)]
      split at h
      · cases h
      · rename_i s r1 hb; rw [bracket_app u hb]; cases h; rfl
    rw [if_neg (by assumption)]
    split at h
    · rw [if_pos (by assumption)]; cases h; rfl
    rw [if_neg (by assumption)]
    split at h
    · cases h
    rw [if_neg (by assumption)]
    split at h
    · rw [if_pos (by assumption)]
      split at h
      · cases h
      · cases h; rfl
    · rw [if_neg (by assumption)]; cases h; rfl
theorem suf_app (u : Bs) : ∀ {k k' : Nat} {n n' : T} {r r' : Bs}, r.length < k → (r ++ 41 :: u).length < k' → sufP k n r = .ok (n', r') → sufP k' n (r ++ 41 :: u) = .ok (n', r' ++ 41 :: u)
  | 0, _, _, _, _, _, h, _, _ => by omega
  | _, 0, _, _, _, _, _, h, _ => by omega
  | k + 1, k' + 1, n, n', r, r', hk, hk', h => by
    rw [sufP] at h ⊢
    simp only [List.length_append, List.length_cons] at hk'
    split at h
    · rename_i r1 ht
      rw [takeP_app _ ht]
      have := takeP_len ht; simp at this
      exact suf_app u (by omega) (by simp only [List.length_append, List.length_cons]; omega) h
    rename_i ht
    rw [takeP_not u (by decide) ht]
    simp only
    split at h
    · rename_i r1 ht
      rw [takeP_app _ ht]
      have := takeP_len ht; simp at this
      exact suf_app u (by omega) (by simp only [List.length_append, List.length_cons]; omega) h
    rename_i ht
    rw [takeP_not u (by decide) ht]
    simp only
    split at h
    · rename_i r1 ht
      rw [takeP_app _ ht]
      have := takeP_len ht; simp at this
      exact suf_app u (by omega) (by simp only [List.length_append, List.length_cons]; omega) h
    rename_i ht
    rw [takeP_not u (by decide) ht]
    simp only
    split at h
    · rename_i r1 ht
      rw [takeP_app _ ht]
      have := takeP_len ht; simp at this
      simp only
      split at h
      · cases h
      · rename_i m x r2 hi
        have := interval_len hi
        rw [interval_app u hi]
        exact suf_app u (by omega) (by simp only [List.length_append, List.length_cons]; omega) h
    · rename_i ht
      rw [takeP_not u (by decide) ht]
      cases h; rfl
theorem piece_app {grp : Bs → PT} (hg : GrpApp grp) {r r' : Bs} {n : T} (u : Bs) (h : pieceP grp r = .ok (n, r')) : pieceP grp (r ++ 41 :: u) = .ok (n, r' ++ 41 :: u) := by
  unfold pieceP at h ⊢
  split at h
  · cases h
  · rename_i n1 r1 ha
    rw [atom_app hg u ha]
    exact suf_app u (Nat.lt_succ_self _) (Nat.lt_succ_self _) h
theorem ends_app (r u : Bs) : endsRow (r ++ 41 :: u) = endsRow r := by cases r <;> rfl
theorem pieces_app {grp : Bs → PT} (hl : GrpLen grp) (hg : GrpApp grp) (u : Bs) : ∀ {k k' : Nat} {l l' : List T} {r r' : Bs}, r.length < k → (r ++ 41 :: u).length < k' → piecesP grp k l r = .ok (l', r') → piecesP grp k' l (r ++ 41 :: u) = .ok (l', r' ++ 41 :: u)
  | 0, _, _, _, _, _, h, _, _ => by omega
  | _, 0, _, _, _, _, _, h, _ => by omega
  | k + 1, k' + 1, l, l', r, r', hk, hk', h => by
    rw [piecesP] at h ⊢
    rw [ends_app]
    simp only [List.length_append, List.length_cons] at hk'
    split at h
    · rw [if_pos (by assumption)]; cases h; rfl
    rw [if_neg (by assumption)]
    split at h
    · cases h
    · rename_i n r1 hp
      rw [piece_app hg u hp]
      have := piece_len hl hp
      exact pieces_app hl hg u (by omega) (by simp only [List.length_append, List.length_cons]; omega) h
theorem row_app {grp : Bs → PT} (hl : GrpLen grp) (hg : GrpApp grp) {r r' : Bs} {n : T} (u : Bs) (h : rowP grp r = .ok (n, r')) : rowP grp (r ++ 41 :: u) = .ok (n, r' ++ 41 :: u) := by
  unfold rowP at h ⊢
  split at h
  · cases h
  · rename_i l r1 hp
    rw [pieces_app hl hg u (Nat.lt_succ_self _) (Nat.lt_succ_self _) hp]
    cases h; rfl
theorem alts_app {grp : Bs → PT} (hl : GrpLen grp) (hg : GrpApp grp) (u : Bs) : ∀ {k k' : Nat} {l l' : List T} {r r' : Bs}, r.length < k → (r ++ 41 :: u).length < k' → altsP grp k l r = .ok (l', r') → altsP grp k' l (r ++ 41 :: u) = .ok (l', r' ++ 41 :: u)
  | 0, _, _, _, _, _, h, _, _ => by omega
  | _, 0, _, _, _, _, _, h, _ => by omega
  | k + 1, k' + 1, l, l', r, r', hk, hk', h => by
    rw [altsP] at h ⊢
    simp only [List.length_append, List.length_cons] at hk'
    split at h
    · rename_i ht; rw [takeP_not u (by decide) ht]; cases h; rfl
    rename_i r1 ht
    rw [takeP_app _ ht]
    have := takeP_len ht; simp at this
    simp only
    split at h
    · cases h
    · rename_i n r2 hp
      rw [row_app hl hg u hp]
      have := row_len hl hp
      exact alts_app hl hg u (by omega) (by simp only [List.length_append, List.length_cons]; omega) h
theorem choice_app {grp : Bs → PT} (hl : GrpLen grp) (hg : GrpApp grp) {r r' : Bs} {n : T} (u : Bs) (h : choiceP grp r = .ok (n, r')) : choiceP grp (r ++ 41 :: u) = .ok (n, r' ++ 41 :: u) := by
  unfold choiceP at h ⊢
  split at h
  · cases h
  rename_i n1 r1 hr
  rw [row_app hl hg u hr]
  simp only
  split at h
  · cases h
  · rename_i l r2 ha
    rw [alts_app hl hg u (Nat.lt_succ_self _) (Nat.lt_succ_self _) ha]
    cases h; rfl
theorem group_app : ∀ d, GrpApp (groupP d)
  | 0, r, n, r', u, h => by rw [groupP] at h; cases h
  | d + 1, r, n, r', u, h => by
    rw [groupP] at h ⊢
    split at h
    · cases h
    rename_i n1 r1 hc
    rw [choice_app (group_len d) (group_app d) u hc]
    simp only
    split at h
    · rename_i r2 ht; rw [takeP_app _ ht]; cases h; rfl
    · cases h

/-! Fewer brackets left. -/
def Shal {α : Type} (f g : Bs → Except Int α) : Prop := ∀ r v, f r = .ok v → g r = .ok v ∨ g r = .error 3
theorem atom_shal {f g : Bs → PT} (h : Shal f g) : Shal (atomP f) (atomP g) := fun r v hv => by
  cases r with
  | nil => rw [atomP] at hv; cases hv
  | cons c t =>
    by_cases hc : c = 40
    · subst hc; rw [atom40] at hv ⊢; exact h t v hv
    · left
      simp only [atomP, if_neg hc] at hv ⊢
      exact hv
theorem piece_shal {f g : Bs → PT} (h : Shal f g) : Shal (pieceP f) (pieceP g) := fun r v hv => by
  unfold pieceP at hv ⊢
  split at hv
  · cases hv
  rename_i n r1 ha
  rcases atom_shal h r _ ha with e | e
  · rw [e]; exact .inl hv
  · rw [e]; exact .inr rfl
theorem pieces_shal {f g : Bs → PT} (h : Shal f g) : ∀ (k : Nat) (l : List T), Shal (piecesP f k l) (piecesP g k l)
  | 0, l => fun r v hv => .inl hv
  | k + 1, l => fun r v hv => by
    rw [piecesP] at hv ⊢
    split at hv
    · rw [if_pos (by assumption)]; exact .inl hv
    rw [if_neg (by assumption)]
    split at hv
    · cases hv
    rename_i n r1 hp
    rcases piece_shal h r _ hp with e | e
    · rw [e]; exact pieces_shal h k _ r1 v hv
    · rw [e]; exact .inr rfl
theorem row_shal {f g : Bs → PT} (h : Shal f g) : Shal (rowP f) (rowP g) := fun r v hv => by
  unfold rowP at hv ⊢
  split at hv
  · cases hv
  rename_i l r1 hp
  rcases pieces_shal h _ _ r _ hp with e | e
  · rw [e]; exact .inl hv
  · rw [e]; exact .inr rfl
theorem alts_shal {f g : Bs → PT} (h : Shal f g) : ∀ (k : Nat) (l : List T), Shal (altsP f k l) (altsP g k l)
  | 0, l => fun r v hv => .inl hv
  | k + 1, l => fun r v hv => by
    rw [altsP] at hv ⊢
    split at hv
    · exact .inl hv
    rename_i r1 ht
    split at hv
    · cases hv
    rename_i n r2 hp
    rcases row_shal h r1 _ hp with e | e
    · rw [e]; exact alts_shal h k _ r2 v hv
    · rw [e]; exact .inr rfl
theorem choice_shal {f g : Bs → PT} (h : Shal f g) : Shal (choiceP f) (choiceP g) := fun r v hv => by
  unfold choiceP at hv ⊢
  split at hv
  · cases hv
  rename_i n r1 hr
  rcases row_shal h r _ hr with e | e
  · rw [e]
    simp only
    split at hv
    · cases hv
    rename_i l r2 ha
    rcases alts_shal h _ _ r1 _ ha with e | e
    · rw [e]; exact .inl hv
    · rw [e]; exact .inr rfl
  · rw [e]; exact .inr rfl
theorem group_shal : ∀ {d d' : Nat}, d' ≤ d → Shal (groupP d) (groupP d')
  | d, 0, _ => fun r v _ => .inr rfl
  | 0, d' + 1, h => by omega
  | d + 1, d' + 1, h => fun r v hv => by
    rw [groupP] at hv ⊢
    split at hv
    · cases hv
    rename_i n r1 hc
    rcases choice_shal (group_shal (d := d) (d' := d') (by omega)) r _ hc with e | e
    · rw [e]; exact .inl hv
    · rw [e]; exact .inr rfl

theorem parse_ok {a : Bs} {x : T} (h : parseP a = .ok x) : a.length ≤ 1024 ∧ choiceP (groupP 64) a = .ok (x, []) := by
  unfold parseP at h
  split at h
  · cases h
  rename_i hl
  split at h
  · cases h
  · rename_i n hc; cases h; exact ⟨by omega, hc⟩
  · cases h
/-- A pattern in brackets, as a piece ahead of what is no sign of how often. -/
theorem grp_atom {a : Bs} {x : T} (h : parseP a = .ok x) (u : Bs) : atomP (groupP 64) (40 :: (a ++ 41 :: u)) = .ok (x, u) ∨ atomP (groupP 64) (40 :: (a ++ 41 :: u)) = .error 3 := by
  have h1 := choice_app (group_len 64) (group_app 64) u (parse_ok h).2
  rw [atom40, groupP]
  rcases choice_shal (group_shal (d := 64) (d' := 63) (by omega)) _ _ h1 with e | e
  · rw [e]; left; simp only [List.nil_append, takeP_one, if_true]
  · rw [e]; exact .inr rfl
theorem grp_piece {a : Bs} {x : T} (h : parseP a = .ok x) (u : Bs) : pieceP (groupP 64) (40 :: (a ++ 41 :: u)) = sufP (u.length + 1) x u ∨ pieceP (groupP 64) (40 :: (a ++ 41 :: u)) = .error 3 := by
  unfold pieceP
  rcases grp_atom h u with e | e
  · rw [e]; exact .inl rfl
  · rw [e]; exact .inr rfl
theorem ends40 (t : Bs) : endsRow (40 :: t) = false := rfl
/-- One piece alone. -/
theorem one_row {grp : Bs → PT} {r q : Bs} {n : T} (hr : endsRow r = false) (hp : pieceP grp r = .ok (n, q)) (hq : endsRow q = true) (hl : q.length < r.length) : rowP grp r = .ok (n, q) := by
  obtain ⟨m, hm⟩ : ∃ m, r.length = m + 1 := ⟨r.length - 1, by omega⟩
  rw [rowP, hm, piecesP, hr, hp]
  simp only [Bool.false_eq_true, if_false]
  rw [piecesP, if_pos hq]
  rfl
theorem row_err {grp : Bs → PT} {r : Bs} {e : Int} (hr : endsRow r = false) (hp : pieceP grp r = .error e) : rowP grp r = .error e := by
  rw [rowP, piecesP, hr, hp]
  simp only [Bool.false_eq_true, if_false]
theorem choice_one {grp : Bs → PT} {r q : Bs} {n : T} (hr : rowP grp r = .ok (n, q)) (hq : takeP [124] q = none) : choiceP grp r = .ok (n, q) := by
  rw [choiceP, hr]
  simp only
  rw [altsP, hq]
  rfl
/-- (a), with how often it stands. -/
theorem parse_times {a : Bs} {x : T} {m n : Int} {q : Bs} (h : parseP a = .ok x) (hl : a.length + q.length + 2 ≤ 1024) (hs : ∀ k t, sufP (k + q.length + 1) t q = .ok (repT m n t, [])) : parseP (40 :: (a ++ 41 :: q)) = .ok (repT m n x) ∨ parseP (40 :: (a ++ 41 :: q)) = .error 3 := by
  have hlen : (40 :: (a ++ 41 :: q)).length ≤ 1024 := by simp; omega
  unfold parseP
  rw [if_neg (by omega)]
  rcases grp_piece h q with e | e
  · have hs0 := hs 0 x
    rw [Nat.zero_add] at hs0
    rw [hs0] at e
    rw [choice_one (one_row (ends40 _) e rfl (by simp)) rfl]
    exact .inl rfl
  · rw [choiceP, row_err (ends40 _) e]
    exact .inr rfl
theorem suf_once (k : Nat) (t : T) : sufP (k + 3 + 1) t [123, 49, 125] = .ok (repT 1 1 t, []) := by
  have := timesT_suf (m := 1) (n := 1) ⟨by decide, by decide, by decide, .inr (by decide)⟩ (k + 3) t []
  rw [show timesT 1 1 ++ [] = [123, 49, 125] by decide] at this
  rw [this]; rfl
theorem suf_plus (k : Nat) (t : T) : sufP (k + 1 + 1) t [43] = .ok (repT 1 (-1) t, []) := by
  have := timesT_suf (m := 1) (n := -1) ⟨by decide, by decide, by decide, .inl rfl⟩ (k + 1) t []
  rw [show timesT 1 (-1) ++ [] = [43] by decide] at this
  rw [this]; rfl
theorem suf_quest (k : Nat) (t : T) : sufP (k + 1 + 1) t [63] = .ok (repT 0 1 t, []) := by
  have := timesT_suf (m := 0) (n := 1) ⟨by decide, by decide, by decide, .inr (by decide)⟩ (k + 1) t []
  rw [show timesT 0 1 ++ [] = [63] by decide] at this
  rw [this]; rfl
theorem suf_27 (k : Nat) (t : T) : sufP (k + 5 + 1) t [123, 50, 44, 55, 125] = .ok (repT 2 7 t, []) := by
  have := timesT_suf (m := 2) (n := 7) ⟨by decide, by decide, by decide, .inr (by decide)⟩ (k + 5) t []
  rw [show timesT 2 7 ++ [] = [123, 50, 44, 55, 125] by decide] at this
  rw [this]; rfl
/-- (a)(b). -/
theorem parse_row {a b : Bs} {x y : T} (ha : parseP a = .ok x) (hb : parseP b = .ok y) (hl : a.length + b.length + 4 ≤ 1024) :
    parseP (40 :: (a ++ 41 :: (40 :: (b ++ [41])))) = .ok (.mk 4 0 0 0 0 0 0 [x, y]) ∨ parseP (40 :: (a ++ 41 :: (40 :: (b ++ [41])))) = .error 3 := by
  unfold parseP
  rw [if_neg (by simp; omega)]
  generalize hr : 40 :: (a ++ 41 :: (40 :: (b ++ [41]))) = r
  have hrl : r.length = a.length + b.length + 4 := by subst hr; simp; omega
  have he : endsRow r = false := by subst hr; rfl
  rcases grp_piece ha (40 :: (b ++ [41])) with e | e
  · rw [suf_stop _ _ (fun c t e => by cases e; decide), hr] at e
    rcases grp_piece hb [] with e2 | e2
    · rw [suf_stop _ _ (fun c t e => by cases e)] at e2
      have hrow : rowP (groupP 64) r = .ok (.mk 4 0 0 0 0 0 0 [x, y], []) := by
        rw [rowP, hrl, show a.length + b.length + 4 + 1 = a.length + b.length + 2 + 1 + 1 + 1 by omega, piecesP, he, e]
        simp only [Bool.false_eq_true, if_false]
        rw [piecesP, ends40, e2]
        simp only [Bool.false_eq_true, if_false]
        rw [piecesP, if_pos (show endsRow [] = true from rfl)]
        rfl
      rw [choice_one hrow rfl]
      exact .inl rfl
    · have hrow : rowP (groupP 64) r = .error 3 := by
        rw [rowP, hrl, show a.length + b.length + 4 + 1 = a.length + b.length + 3 + 1 + 1 by omega, piecesP, he, e]
        simp only [Bool.false_eq_true, if_false]
        rw [piecesP, ends40, e2]
        simp only [Bool.false_eq_true, if_false]
      rw [choiceP, hrow]
      exact .inr rfl
  · rw [hr] at e
    rw [choiceP, row_err he e]
    exact .inr rfl
/-- (a)|(b). -/
theorem parse_alt {a b : Bs} {x y : T} (ha : parseP a = .ok x) (hb : parseP b = .ok y) (hl : a.length + b.length + 5 ≤ 1024) :
    parseP (40 :: (a ++ 41 :: (124 :: 40 :: (b ++ [41])))) = .ok (.mk 5 0 0 0 0 0 0 [x, y]) ∨ parseP (40 :: (a ++ 41 :: (124 :: 40 :: (b ++ [41])))) = .error 3 := by
  unfold parseP
  rw [if_neg (by simp; omega)]
  generalize hr : 40 :: (a ++ 41 :: (124 :: 40 :: (b ++ [41]))) = r
  have hrl : r.length = a.length + b.length + 5 := by subst hr; simp; omega
  have he : endsRow r = false := by subst hr; rfl
  rcases grp_piece ha (124 :: 40 :: (b ++ [41])) with e | e
  · rw [suf_stop _ _ (fun c t e => by cases e; decide), hr] at e
    have h1 := one_row he e rfl (by rw [hrl]; simp; omega)
    rcases grp_piece hb [] with e2 | e2
    · rw [suf_stop _ _ (fun c t e => by cases e)] at e2
      have h2 := one_row (ends40 _) e2 rfl (by simp)
      have hc : choiceP (groupP 64) r = .ok (.mk 5 0 0 0 0 0 0 [x, y], []) := by
        rw [choiceP, h1]
        simp only
        rw [List.length_cons, altsP, takeP_one, if_pos rfl]
        simp only
        rw [h2]
        simp only
        rw [List.length_cons, altsP, takeP_nil _ (by simp)]
        rfl
      rw [hc]
      exact .inl rfl
    · have hc : choiceP (groupP 64) r = .error 3 := by
        rw [choiceP, h1]
        simp only
        rw [List.length_cons, altsP, takeP_one, if_pos rfl]
        simp only
        rw [row_err (ends40 _) e2]
      rw [hc]
      exact .inr rfl
  · rw [hr] at e
    rw [choiceP, row_err he e]
    exact .inr rfl
end Go.Proofs.YteekafkpeimhoaaGreat

/- What reads well is a tree that may be, plain. -/
set_option linter.unusedVariables false
set_option linter.unusedSimpArgs false
namespace Go.Proofs.YteekafkpeimhoaaGreat
open Go.RowKit

/-- A tree that may be, at most so many nodes. -/
def Fine (n : T) (m : Int) : Prop := rightF n = true ∧ Words n ∧ nodesF n ≤ m
def FineG (f : Bs → PT) : Prop := ∀ r n r1, f r = .ok (n, r1) → r1.length < r.length ∧ Fine n (2 * ((r.length : Int) - r1.length) - 1)
theorem Fine.mono {n : T} {m m' : Int} (h : Fine n m) (k : m ≤ m') : Fine n m' := ⟨h.1, h.2.1, Int.le_trans h.2.2 k⟩
theorem takeF_len {q r r' : Bs} (h : takeP q r = some r') : r'.length + q.length = r.length := takeP_len h
theorem items_fine : ∀ (k : Nat) {s s' : W4} {r r' : Bs}, Wok s → itemsP k s r = .ok (s', r') → Wok s' ∧ r'.length < r.length
  | 0, _, _, _, _, _, h => by simp [itemsP] at h
  | k + 1, s, s', r, r', hs, h => by
    rw [itemsP] at h
    cases hi : itemP s r with
    | error e => rw [hi] at h; simp at h
    | ok v =>
      obtain ⟨s1, r1⟩ := v
      rw [hi] at h
      have h1 := item_ok hs hi
      have h2 := item_lt hi
      simp only at h
      cases ht : takeP [93] r1 with
      | some r2 =>
        rw [ht] at h
        simp only [Except.ok.injEq, Prod.mk.injEq] at h
        obtain ⟨rfl, rfl⟩ := h
        have := takeP_len ht
        exact ⟨h1, by omega⟩
      | none =>
        rw [ht] at h
        have := items_fine k h1 h
        exact ⟨this.1, by omega⟩
theorem bracket_fine {s : W4} {r r' : Bs} (h : bracketP r = .ok (s, r')) : Wok s ∧ r'.length < r.length := by
  unfold bracketP at h
  cases ht : takeP [94] r with
  | none => rw [ht] at h; exact items_fine _ wok0 h
  | some r1 =>
    rw [ht] at h
    have := takeP_len ht
    simp only at h
    cases hi : itemsP (r1.length + 1) w40 r1 with
    | error e => rw [hi] at h; simp at h
    | ok v =>
      obtain ⟨s1, r2⟩ := v
      rw [hi] at h
      simp only [Except.ok.injEq, Prod.mk.injEq] at h
      obtain ⟨rfl, rfl⟩ := h
      have := items_fine _ wok0 hi
      exact ⟨not_ok this.1, by omega⟩
theorem fine_leaf (k : Int) (hk : k = 0 ∨ k = 2 ∨ k = 3) : Fine (.mk k 0 0 0 0 0 0 []) 1 := by
  refine ⟨?_, .mk _ wok0 (fun p hp => by cases hp), by rw [nodesF, nodesL]; omega⟩
  rcases hk with rfl | rfl | rfl <;> decide
theorem fine_set {s : W4} (h : Wok s) : Fine s.T 1 := by
  refine ⟨?_, .mk _ h (fun p hp => by cases hp), by unfold W4.T; rw [nodesF, nodesL]; omega⟩
  unfold W4.T
  rw [rightF]
  simp
theorem atom_fine {grp : Bs → PT} (hg : FineG grp) : FineG (atomP grp) := fun r n r1 h => by
  unfold atomP at h
  cases r with
  | nil => simp at h
  | cons c t =>
    simp only at h
    split at h
    · have := hg _ _ _ h
      exact ⟨by simp; omega, this.2.mono (by simp; omega)⟩
    split at h
    · simp only [Except.ok.injEq, Prod.mk.injEq] at h
      obtain ⟨rfl, rfl⟩ := h
      exact ⟨by simp, (fine_leaf 2 (by simp)).mono (by simp; omega)⟩
    split at h
    · simp only [Except.ok.injEq, Prod.mk.injEq] at h
      obtain ⟨rfl, rfl⟩ := h
      exact ⟨by simp, (fine_leaf 3 (by simp)).mono (by simp; omega)⟩
    split at h
    · cases hb : bracketP t with
      | error e => rw [hb] at h; simp at h
      | ok v =>
        obtain ⟨s, r2⟩ := v
        rw [hb] at h
        simp only [Except.ok.injEq, Prod.mk.injEq] at h
        obtain ⟨rfl, rfl⟩ := h
        have := bracket_fine hb
        exact ⟨by simp; omega, (fine_set this.1).mono (by simp; omega)⟩
    split at h
    · simp only [Except.ok.injEq, Prod.mk.injEq] at h
      obtain ⟨rfl, rfl⟩ := h
      exact ⟨by simp, (fine_set (span_spec wok0 0 256 (by omega)).1).mono (by simp; omega)⟩
    split at h
    · simp at h
    split at h
    · cases t with
      | nil => simp at h
      | cons x t' =>
        simp only [Except.ok.injEq, Prod.mk.injEq] at h
        obtain ⟨rfl, rfl⟩ := h
        exact ⟨by simp; omega, (fine_set (add_ok wok0 _ x.toNat_lt)).mono (by simp; omega)⟩
    · simp only [Except.ok.injEq, Prod.mk.injEq] at h
      obtain ⟨rfl, rfl⟩ := h
      exact ⟨by simp, (fine_set (add_ok wok0 _ c.toNat_lt)).mono (by simp; omega)⟩
theorem fine_rep {m n : Int} {x : T} {k : Int} (hx : Fine x k) (h0 : 0 ≤ m) (h1 : max m n ≤ 255) (h2 : n = -1 ∨ m ≤ n) : Fine (repT m n x) (k + 1) := by
  obtain ⟨a, b, c⟩ := hx
  refine ⟨?_, .mk _ wok0 (fun p hp => by rw [show (repT m n x).ps = [x] from rfl, List.mem_singleton] at hp; subst hp; exact b), by unfold repT; rw [nodesF, nodesL, nodesL]; omega⟩
  unfold repT
  rw [rightF, rightL, rightL, a]
  simp
  omega
theorem number_fine {r r' : Bs} {n : Int} (h : numberP r = .ok (n, r')) : 0 ≤ n ∧ n ≤ 255 := by
  unfold numberP at h
  have := digits_bd 4 0 0 r (by omega) (by omega) (by unfold lim10; omega)
  split at h
  · simp at h
  · rename_i hn
    simp only [Except.ok.injEq, Prod.mk.injEq] at h
    obtain ⟨rfl, rfl⟩ := h
    exact ⟨this.1, by omega⟩
theorem interval_fine {r r' : Bs} {m n : Int} (h : intervalP r = .ok (m, n, r')) : 0 ≤ m ∧ max m n ≤ 255 ∧ (n = -1 ∨ m ≤ n) := by
  unfold intervalP at h
  cases hn : numberP r with
  | error e => rw [hn] at h; simp at h
  | ok v =>
    obtain ⟨a, r1⟩ := v
    rw [hn] at h
    have ha := number_fine hn
    simp only at h
    cases h1 : takeP [125] r1 with
    | some r2 =>
      rw [h1] at h
      simp only [Except.ok.injEq, Prod.mk.injEq] at h
      obtain ⟨rfl, rfl, rfl⟩ := h
      omega
    | none =>
      rw [h1] at h
      simp only at h
      cases h2 : takeP [44, 125] r1 with
      | some r2 =>
        rw [h2] at h
        simp only [Except.ok.injEq, Prod.mk.injEq] at h
        obtain ⟨rfl, rfl, rfl⟩ := h
        omega
      | none =>
        rw [h2] at h
        simp only at h
        cases h3 : takeP [44] r1 with
        | none => rw [h3] at h; simp at h
        | some r2 =>
          rw [h3] at h
          simp only at h
          cases h4 : numberP r2 with
          | error e => rw [h4] at h; simp at h
          | ok v =>
            obtain ⟨b, r3⟩ := v
            rw [h4] at h
            have hb := number_fine h4
            simp only at h
            split at h
            · simp at h
            · cases h5 : takeP [125] r3 with
              | none => rw [h5] at h; simp at h
              | some r4 =>
                rw [h5] at h
                simp only [Except.ok.injEq, Prod.mk.injEq] at h
                obtain ⟨rfl, rfl, rfl⟩ := h
                omega
theorem suf_fine : ∀ (k : Nat) {n n' : T} {r r' : Bs} {m : Int}, Fine n m → sufP k n r = .ok (n', r') → r'.length ≤ r.length ∧ Fine n' (m + 2 * ((r.length : Int) - r'.length))
  | 0, n, n', r, r', m, hn, h => by
    rw [sufP] at h
    simp only [Except.ok.injEq, Prod.mk.injEq] at h
    obtain ⟨rfl, rfl⟩ := h
    exact ⟨Nat.le_refl _, hn.mono (by omega)⟩
  | k + 1, n, n', r, r', m, hn, h => by
    rw [sufP] at h
    have go : ∀ (a b : Int) (r1 : Bs), 0 ≤ a → max a b ≤ 255 → (b = -1 ∨ a ≤ b) → r1.length < r.length → sufP k (repT a b n) r1 = .ok (n', r') → r'.length ≤ r.length ∧ Fine n' (m + 2 * ((r.length : Int) - r'.length)) := fun a b r1 h0 h1 h2 hl hh => by
      have := suf_fine k (fine_rep hn h0 h1 h2) hh
      exact ⟨by omega, this.2.mono (by omega)⟩
    cases h1 : takeP [42] r with
    | some r1 =>
      rw [h1] at h
      have := takeP_len h1
      exact go 0 (-1) r1 (by omega) (by omega) (.inl rfl) (by simp at this; omega) h
    | none =>
      rw [h1] at h
      simp only at h
      cases h2 : takeP [43] r with
      | some r1 =>
        rw [h2] at h
        have := takeP_len h2
        exact go 1 (-1) r1 (by omega) (by omega) (.inl rfl) (by simp at this; omega) h
      | none =>
        rw [h2] at h
        simp only at h
        cases h3 : takeP [63] r with
        | some r1 =>
          rw [h3] at h
          have := takeP_len h3
          exact go 0 1 r1 (by omega) (by omega) (.inr (by omega)) (by simp at this; omega) h
        | none =>
          rw [h3] at h
          simp only at h
          cases h4 : takeP [123] r with
          | none =>
            rw [h4] at h
            simp only [Except.ok.injEq, Prod.mk.injEq] at h
            obtain ⟨rfl, rfl⟩ := h
            exact ⟨Nat.le_refl _, hn.mono (by omega)⟩
          | some r1 =>
            rw [h4] at h
            have := takeP_len h4
            simp only at h
            cases h5 : intervalP r1 with
            | error e => rw [h5] at h; simp at h
            | ok v =>
              obtain ⟨a, b, r2⟩ := v
              rw [h5] at h
              have h6 := interval_fine h5
              have h7 := interval_len h5
              exact go a b r2 h6.1 h6.2.1 h6.2.2 (by simp at this; omega) h
theorem piece_fine {grp : Bs → PT} (hg : FineG grp) : FineG (pieceP grp) := fun r n r1 h => by
  unfold pieceP at h
  cases ha : atomP grp r with
  | error e => rw [ha] at h; simp at h
  | ok v =>
    obtain ⟨n0, r0⟩ := v
    rw [ha] at h
    have h1 := atom_fine hg _ _ _ ha
    have h2 := suf_fine _ h1.2 h
    exact ⟨by omega, h2.2.mono (by omega)⟩
theorem nodesL_app (a b : List T) : nodesL (a ++ b) = nodesL a + nodesL b := by
  induction a with
  | nil => rw [List.nil_append]; rw [show nodesL [] = 0 by rw [nodesL]]; omega
  | cons p a ih => rw [List.cons_append, nodesL, nodesL, ih]; omega
theorem rightL_all : ∀ {l : List T}, (∀ p ∈ l, rightF p = true) → rightL l = true
  | [], _ => by rw [rightL]
  | p :: l, h => by rw [rightL, h p (by simp), rightL_all (fun q hq => h q (by simp [hq]))]; rfl
theorem pieces_fine {grp : Bs → PT} (hg : FineG grp) : ∀ (k : Nat) {l l' : List T} {r r' : Bs}, piecesP grp k l r = .ok (l', r') → r'.length ≤ r.length ∧ ∃ l2, l' = l ++ l2 ∧ (∀ p ∈ l2, rightF p = true ∧ Words p) ∧ nodesL l2 ≤ 2 * ((r.length : Int) - r'.length) - l2.length ∧ l2.length ≤ r.length - r'.length
  | 0, l, l', r, r', h => by
    rw [piecesP] at h
    simp only [Except.ok.injEq, Prod.mk.injEq] at h
    obtain ⟨rfl, rfl⟩ := h
    exact ⟨Nat.le_refl _, [], by simp, by simp, by rw [nodesL]; simp, by simp⟩
  | k + 1, l, l', r, r', h => by
    rw [piecesP] at h
    split at h
    · simp only [Except.ok.injEq, Prod.mk.injEq] at h
      obtain ⟨rfl, rfl⟩ := h
      exact ⟨Nat.le_refl _, [], by simp, by simp, by rw [nodesL]; simp, by simp⟩
    · cases hp : pieceP grp r with
      | error e => rw [hp] at h; simp at h
      | ok v =>
        obtain ⟨n, r1⟩ := v
        rw [hp] at h
        have h1 := piece_fine hg _ _ _ hp
        obtain ⟨h2, l2, rfl, h3, h4, h5⟩ := pieces_fine hg k h
        obtain ⟨g1, g2, g3, g4⟩ := h1
        refine ⟨by omega, n :: l2, by simp, fun p hp => ?_, by rw [nodesL]; simp only [List.length_cons]; omega, by simp only [List.length_cons]; omega⟩
        rcases List.mem_cons.1 hp with rfl | hp
        · exact ⟨g2, g3⟩
        · exact h3 p hp
theorem fine_join {k : Int} (hk : k = 4 ∨ k = 5) {l : List T} (h : ∀ p ∈ l, rightF p = true ∧ Words p) (h2 : 2 ≤ l.length) : Fine (.mk k 0 0 0 0 0 0 l) (1 + nodesL l) := by
  refine ⟨?_, .mk _ wok0 (fun p hp => (h p hp).2), by rw [nodesF]; omega⟩
  rw [rightF, rightL_all (fun p hp => (h p hp).1)]
  rcases hk with rfl | rfl <;> simp <;> omega
theorem row_fine {grp : Bs → PT} (hg : FineG grp) {r r' : Bs} {n : T} (h : rowP grp r = .ok (n, r')) : r'.length ≤ r.length ∧ Fine n (2 * ((r.length : Int) - r'.length) + 1) ∧ (r'.length < r.length → Fine n (2 * ((r.length : Int) - r'.length) - 1)) := by
  unfold rowP at h
  cases hp : piecesP grp (r.length + 1) [] r with
  | error e => rw [hp] at h; simp at h
  | ok v =>
    obtain ⟨l, r1⟩ := v
    rw [hp] at h
    simp only [Except.ok.injEq, Prod.mk.injEq] at h
    obtain ⟨rfl, rfl⟩ := h
    obtain ⟨h1, l2, h2, h3, h4, h5⟩ := pieces_fine hg _ hp
    rw [List.nil_append] at h2
    subst h2
    refine ⟨h1, ?_⟩
    match l, h3, h4, h5 with
    | [], _, _, _ => exact ⟨(fine_leaf 0 (by simp)).mono (by omega), fun hl => (fine_leaf 0 (by simp)).mono (by omega)⟩
    | [n], h3, h4, h5 =>
      rw [nodesL, nodesL] at h4
      simp only [List.length_cons, List.length_nil] at h4 h5
      have hF : Fine n (2 * ((r.length : Int) - r1.length) - 1) := ⟨(h3 n (by simp)).1, (h3 n (by simp)).2, by omega⟩
      exact ⟨hF.mono (by omega), fun _ => hF⟩
    | a :: b :: l, h3, h4, h5 =>
      have hF := fine_join (k := 4) (.inl rfl) h3 (by simp)
      simp only [List.length_cons] at h4 h5
      have hF' : Fine (joinT 4 (a :: b :: l)) (2 * ((r.length : Int) - r1.length) - 1) := hF.mono (by omega)
      exact ⟨hF'.mono (by omega), fun _ => hF'⟩
theorem alts_fine {grp : Bs → PT} (hg : FineG grp) : ∀ (k : Nat) {l l' : List T} {r r' : Bs} (C : Int), (∀ p ∈ l, rightF p = true ∧ Words p) → nodesL l ≤ 2 * C + 2 - l.length → (C = (l.length : Int) - 1 ∨ nodesL l ≤ 2 * C - l.length) → 1 ≤ l.length →
    altsP grp k l r = .ok (l', r') → r'.length ≤ r.length ∧ (∀ p ∈ l', rightF p = true ∧ Words p) ∧ 1 ≤ l'.length ∧ nodesL l' ≤ 2 * (C + ((r.length : Int) - r'.length)) + 2 - l'.length ∧ (C + ((r.length : Int) - r'.length) = (l'.length : Int) - 1 ∨ nodesL l' ≤ 2 * (C + ((r.length : Int) - r'.length)) - l'.length) ∧ (l'.length = l.length → r' = r ∧ l' = l)
  | 0, l, l', r, r', C, hl, h1, h2, h0, h => by
    rw [altsP] at h
    simp only [Except.ok.injEq, Prod.mk.injEq] at h
    obtain ⟨rfl, rfl⟩ := h
    exact ⟨Nat.le_refl _, hl, h0, by omega, by omega, fun _ => ⟨rfl, rfl⟩⟩
  | k + 1, l, l', r, r', C, hl, h1, h2, h0, h => by
    rw [altsP] at h
    cases ht : takeP [124] r with
    | none =>
      rw [ht] at h
      simp only [Except.ok.injEq, Prod.mk.injEq] at h
      obtain ⟨rfl, rfl⟩ := h
      exact ⟨Nat.le_refl _, hl, h0, by omega, by omega, fun _ => ⟨rfl, rfl⟩⟩
    | some r1 =>
      rw [ht] at h
      have hlen := takeP_len ht
      simp only [List.length_cons, List.length_nil] at hlen
      simp only at h
      cases hr : rowP grp r1 with
      | error e => rw [hr] at h; simp at h
      | ok v =>
        obtain ⟨n, r2⟩ := v
        rw [hr] at h
        obtain ⟨g1, g2, g3⟩ := row_fine hg hr
        have hN : nodesL (l ++ [n]) = nodesL l + nodesF n := by rw [nodesL_app, nodesL, nodesL]; omega
        have hlen2 : (l ++ [n]).length = l.length + 1 := by simp
        have hb : nodesF n ≤ 2 * ((r1.length : Int) - r2.length) + 1 := g2.2.2
        have hc : r2.length < r1.length → nodesF n ≤ 2 * ((r1.length : Int) - r2.length) - 1 := fun hh => (g3 hh).2.2
        have hdis : C + 1 + ((r1.length : Int) - r2.length) = ((l ++ [n]).length : Int) - 1 ∨ nodesL (l ++ [n]) ≤ 2 * (C + 1 + ((r1.length : Int) - r2.length)) - (l ++ [n]).length := by
          rw [hN, hlen2]
          by_cases hh : r2.length < r1.length
          · have := hc hh; omega
          · omega
        have := alts_fine hg k (C + 1 + ((r1.length : Int) - r2.length)) (l := l ++ [n]) (fun p hp => by
          rcases List.mem_append.1 hp with hp | hp
          · exact hl p hp
          · rw [List.mem_singleton] at hp; subst hp; exact ⟨g2.1, g2.2.1⟩) (by rw [hN, hlen2]; omega) (hdis) (by omega) h
        obtain ⟨e1, e2, e3, e4, e5, e6⟩ := this
        refine ⟨by omega, e2, e3, by omega, by omega, fun e => ?_⟩
        exfalso
        have : l.length + 1 ≤ l'.length := by
          have hmono : ∀ (k : Nat) (l l' : List T) (r r' : Bs), altsP grp k l r = .ok (l', r') → l.length ≤ l'.length := by
            intro k
            induction k with
            | zero =>
              intro l l' r r' hh
              rw [altsP] at hh
              simp only [Except.ok.injEq, Prod.mk.injEq] at hh
              obtain ⟨rfl, rfl⟩ := hh
              exact Nat.le_refl _
            | succ k ih =>
              intro l l' r r' hh
              rw [altsP] at hh
              split at hh
              · simp only [Except.ok.injEq, Prod.mk.injEq] at hh
                obtain ⟨rfl, rfl⟩ := hh
                exact Nat.le_refl _
              · split at hh
                · simp at hh
                · have := ih _ _ _ _ hh
                  simp at this
                  omega
          have := hmono _ _ _ _ _ h
          omega
        omega
theorem choice_fine {grp : Bs → PT} (hg : FineG grp) {r r' : Bs} {n : T} (h : choiceP grp r = .ok (n, r')) : r'.length ≤ r.length ∧ Fine n (2 * ((r.length : Int) - r'.length) + 1) ∧ (r'.length + 2 ≤ r.length → Fine n (2 * ((r.length : Int) - r'.length))) := by
  unfold choiceP at h
  cases hr : rowP grp r with
  | error e => rw [hr] at h; simp at h
  | ok v =>
    obtain ⟨n0, r1⟩ := v
    rw [hr] at h
    obtain ⟨g1, g2, g3⟩ := row_fine hg hr
    simp only at h
    cases ha : altsP grp (r1.length + 1) [n0] r1 with
    | error e => rw [ha] at h; simp at h
    | ok v =>
      obtain ⟨l, r2⟩ := v
      rw [ha] at h
      simp only [Except.ok.injEq, Prod.mk.injEq] at h
      obtain ⟨rfl, rfl⟩ := h
      have hb : nodesF n0 ≤ 2 * ((r.length : Int) - r1.length) + 1 := g2.2.2
      have hc : r1.length < r.length → nodesF n0 ≤ 2 * ((r.length : Int) - r1.length) - 1 := fun hh => (g3 hh).2.2
      have hN : nodesL [n0] = nodesF n0 := by rw [nodesL, nodesL]; omega
      have hdis : ((r.length : Int) - r1.length) = (([n0] : List T).length : Int) - 1 ∨ nodesL [n0] ≤ 2 * ((r.length : Int) - r1.length) - ([n0] : List T).length := by
        rw [hN]
        simp only [List.length_cons, List.length_nil]
        by_cases hh : r1.length < r.length
        · have := hc hh; omega
        · omega
      obtain ⟨e1, e2, e3, e4, e5, e6⟩ := alts_fine hg _ ((r.length : Int) - r1.length) (l := [n0]) (fun p hp => by rw [List.mem_singleton] at hp; subst hp; exact ⟨g2.1, g2.2.1⟩) (by rw [hN]; simp; omega) (hdis) (by simp) ha
      refine ⟨by omega, ?_⟩
      match l, e2, e3, e4, e5, e6 with
      | [n], e2, e3, e4, e5, e6 =>
        obtain ⟨rfl, q⟩ := e6 rfl
        simp only [List.cons.injEq, and_true] at q
        subst q
        exact ⟨g2, fun hh => (g3 (by omega)).mono (by omega)⟩
      | a :: b :: l, e2, e3, e4, e5, e6 =>
        have hF := fine_join (k := 5) (.inr rfl) e2 (by simp)
        simp only [List.length_cons] at e4 e5
        exact ⟨hF.mono (by omega), fun hh => hF.mono (by omega)⟩
theorem group_fine : ∀ d, FineG (groupP d)
  | 0 => fun r n r1 h => by simp [groupP] at h
  | d + 1 => fun r n r1 h => by
    rw [groupP] at h
    cases hc : choiceP (groupP d) r with
    | error e => rw [hc] at h; simp at h
    | ok v =>
      obtain ⟨n0, r0⟩ := v
      rw [hc] at h
      have h1 := choice_fine (group_fine d) hc
      simp only at h
      cases ht : takeP [41] r0 with
      | none => rw [ht] at h; simp at h
      | some r2 =>
        rw [ht] at h
        have := takeP_len ht
        simp only [List.length_cons, List.length_nil] at this
        simp only [Except.ok.injEq, Prod.mk.injEq] at h
        obtain ⟨rfl, rfl⟩ := h
        exact ⟨by omega, h1.2.1.mono (by omega)⟩
theorem parse_fine {s : Bs} {t : T} (h : parseP s = .ok t) : rightF t = true ∧ Words t ∧ nodesF t ≤ 2048 := by
  obtain ⟨h1, h2⟩ := parse_ok h
  have h3 := choice_fine (group_fine 64) h2
  obtain ⟨a, b, c⟩ := h3.2.1
  refine ⟨a, b, ?_⟩
  simp only [List.length_nil] at c h3
  by_cases hs : 2 ≤ s.length
  · have := (h3.2.2 (by omega)).2.2
    omega
  · omega
end Go.Proofs.YteekafkpeimhoaaGreat

/- Arguments opened: machines. -/
set_option linter.unusedVariables false
set_option linter.unusedSimpArgs false
namespace Go.Proofs.YteekafkpeimhoaaGreat
open Go.RowKit Go.ChangeShapes Go.WideShapes Go.Deep

theorem Tryz.cellsState : Tryz.prog.cellsOf 45 = 7 := by kernel_rfl
theorem Tryz.cellsSet : Tryz.prog.cellsOf 36 = 4 := by kernel_rfl
theorem Tryz.cellsInt : Tryz.prog.cellsOf 3 = 1 := by kernel_rfl
theorem Tryz.cellsU : Tryz.prog.cellsOf 34 = 1 := by kernel_rfl
theorem Tryz.cellsNfa : Tryz.prog.cellsOf 24 = 2 := by kernel_rfl
theorem Tryz.cellsSts : Tryz.prog.cellsOf 22 = 1 := by kernel_rfl
theorem Tryz.bytesState : Tryz.prog.bytesOf 45 = 56 := by kernel_rfl

theorem len2 {α : Type} {l : List α} (h : l.length = 2) : ∃ a b, l = [a, b] := by
  match l, h with
  | [a, b], _ => exact ⟨a, b, rfl⟩
theorem len4 {α : Type} {l : List α} (h : l.length = 4) : ∃ a b c d, l = [a, b, c, d] := by
  match l, h with
  | [a, b, c, d], _ => exact ⟨a, b, c, d, rfl⟩
theorem len7 {α : Type} {l : List α} (h : l.length = 7) : ∃ a b c d e f g, l = [a, b, c, d, e, f, g] := by
  match l, h with
  | [a, b, c, d, e, f, g], _ => exact ⟨a, b, c, d, e, f, g, rfl⟩
section
variable {H : Type} {enc : TypeId × Value → H} {P : Program} {tSt tSts tNfa tSet tI tU : TypeId} {w : World} {base : Nat} {spare : Nat → Bool} {held : Bool}
/-- What the program says of the types. -/
structure Types (P : Program) (tSt tSts tNfa tSet tI tU : TypeId) : Prop where
  set : P.underlying tSet = some (.array 4 tU)
  u : P.underlying tU = some (.int .u64)
  i : P.underlying tI = some (.int .i64)
  sts : P.underlying tSts = some (.slice tSt)
  st : ∃ f0 f1 f2 f3, P.underlying tSt = some (.struct #[f0, f1, f2, f3]) ∧ (f0.type = tI ∧ f0.offset = 0) ∧ (f1.type = tSet ∧ f1.offset = 1) ∧ (f2.type = tI ∧ f2.offset = 5) ∧ (f3.type = tI ∧ f3.offset = 6)
  nfa : ∃ f0 f1, P.underlying tNfa = some (.struct #[f0, f1]) ∧ (f0.type = tSts ∧ f0.offset = 0) ∧ (f1.type = tI ∧ f1.offset = 1)
  cSet : P.cellsOf tSet = 4
  cU : P.cellsOf tU = 1
  cI : P.cellsOf tI = 1
  cSts : P.cellsOf tSts = 1
  cSt : P.cellsOf tSt = 7
  cNfa : P.cellsOf tNfa = 2
  bSt : P.bytesOf tSt = 56
def WSt (s : St) : Prop := Wok ⟨s.s0, s.s1, s.s2, s.s3⟩
theorem open_set (K : Types P tSt tSts tNfa tSet tI tU) {fuel : Nat} {cs : List Value} {x : DataW H × List MemPlace} (h : DataW.trod enc P w base spare held fuel tSet cs = some x) :
    ∃ a b c d : Int, cs = [.int .u64 a, .int .u64 b, .int .u64 c, .int .u64 d] ∧ Wok ⟨a, b, c, d⟩ := by
  obtain ⟨xs, m, rfl, hx, hl, hxl, hi⟩ := DataW.trod_array K.set h
  rw [K.cSet] at hl
  rw [K.cU] at hi
  obtain ⟨c0, c1, c2, c3, rfl⟩ := len4 hl
  · clear h
    have g : ∀ (i : Nat) (v : Value), [c0, c1, c2, c3][i]? = some v → ∃ n, v = .int .u64 n ∧ In64 n := by
      intro i v hv
      have hi4 : i < 4 := (List.getElem?_eq_some_iff.1 hv).1
      have h1 := hi i hi4
      have hxi : xs[i]? = some (xs[i]'(by omega)) := List.getElem?_eq_getElem (by omega)
      rw [hxi] at h1
      obtain ⟨n, hn, _, hw⟩ := DataW.trod_int K.u h1
      refine ⟨n, ?_, in64_wf hw⟩
      have := congrArg (·[0]?) hn
      simpa [List.getElem?_take, List.getElem?_drop, hv] using this
    obtain ⟨a, rfl, ha⟩ := g 0 _ rfl
    obtain ⟨b, rfl, hb⟩ := g 1 _ rfl
    obtain ⟨c, rfl, hc⟩ := g 2 _ rfl
    obtain ⟨d, rfl, hd⟩ := g 3 _ rfl
    exact ⟨a, b, c, d, rfl, ha, hb, hc, hd⟩
theorem open_state (K : Types P tSt tSts tNfa tSet tI tU) {fuel : Nat} {cs : List Value} {x : DataW H × List MemPlace} (h : DataW.trod enc P w base spare held fuel tSt cs = some x) : ∃ s : St, cs = s.cells ∧ WSt s := by
  obtain ⟨f0, f1, f2, f3, hst, ⟨t0, o0⟩, ⟨t1, o1⟩, ⟨t2, o2⟩, t3, o3⟩ := K.st
  obtain ⟨xs, m, rfl, hx, hl, hxl, hi⟩ := DataW.trod_struct hst h
  rw [K.cSt] at hl
  have hxl4 : xs.length = 4 := hxl
  obtain ⟨c0, c1, c2, c3, c4, c5, c6, rfl⟩ := len7 hl
  · clear h
    have h0 := hi 0 f0 rfl
    have h1 := hi 1 f1 rfl
    have h2 := hi 2 f2 rfl
    have h3 := hi 3 f3 rfl
    rw [t0, o0, K.cI] at h0
    rw [t1, o1, K.cSet] at h1
    rw [t2, o2, K.cI] at h2
    rw [t3, o3, K.cI] at h3
    rw [List.getElem?_eq_getElem (by omega)] at h0 h1 h2 h3
    obtain ⟨k, hk, _⟩ := DataW.trod_int K.i h0
    obtain ⟨a, b, c, d, hs, hw⟩ := open_set K h1
    obtain ⟨nx, hn, _⟩ := DataW.trod_int K.i h2
    obtain ⟨ot, ho, _⟩ := DataW.trod_int K.i h3
    simp at hk hs hn ho
    obtain ⟨rfl, rfl, rfl, rfl⟩ := hs
    subst hk hn ho
    exact ⟨⟨k, a, b, c, d, nx, ot⟩, rfl, hw⟩
theorem open_nfaW (K : Types P tSt tSts tNfa tSet tI tU) {b0 : Nat} {v : Value} {d : DataW H} {p : List MemPlace} (hv : Value.okWide P w .any b0 tNfa v) (h : DataW.Trod enc P w base spare held tNfa v d p) (hz : ∀ n ∈ d.weights P tNfa, n ≤ reachBytes) :
    ∃ (l : List St) (sa : Int) (A : Option Addr) (c : Nat), v = nfaV l sa A c ∧ StsAt w (fun b => b < w.heap.size) l A c ∧ ∀ s ∈ l, WSt s := by
  obtain ⟨f0, f1, hst, ⟨t0, o0⟩, t1, o1⟩ := K.nfa
  obtain ⟨cs, rfl, hsz⟩ := okWide_struct hst hv
  rw [K.cNfa] at hsz
  obtain ⟨l⟩ := cs
  obtain ⟨c0, c1, rfl⟩ := len2 (l := l) hsz
  · clear hv
    obtain ⟨fuel, hf⟩ := h
    obtain ⟨xs, m, rfl, hx, hl, hxl, hi⟩ := DataW.trod_struct hst hf
    have hxl2 : xs.length = 2 := hxl
    have h0 := hi 0 f0 rfl
    have h1 := hi 1 f1 rfl
    rw [t0, o0, K.cSts] at h0
    rw [t1, o1, K.cI] at h1
    rw [List.getElem?_eq_getElem (by omega)] at h0 h1
    obtain ⟨sa, hs, _⟩ := DataW.trod_int K.i h1
    simp [Value.cells] at hs
    subst hs
    rcases open_slice K.sts h0 with ⟨hc, hx0⟩ | ⟨a, len, cap, mm, n, D, Pl, hc, hb, hlc, hcm, hmm, hx0, hel⟩
    · simp [Value.cells] at hc
      subst hc
      exact ⟨[], sa, none, 0, rfl, ⟨by simp, by simp, fun _ => rfl, fun h => by simp at h⟩, by simp⟩
    · simp [Value.cells] at hc
      subst hc
      have hlen : len ≤ 17592186044416 := by
        have := hz ((len + (mm - len)) * 56) (by
          have hd : d = .agg (xs.map (·.1)) := by have := congrArg Prod.fst hx; simpa using this
          rw [hd]
          obtain ⟨x0, x1, rfl⟩ := len2 hxl2
          · clear hf hi
            simp only [List.getElem_cons_zero] at hx0
            simp only [List.map_cons, List.map_nil, DataW.weights, hst, DataW.weightsEach, List.mem_append, t0, t1]
            left
            rw [hx0]
            simp [DataW.weights, K.sts, K.bSt])
        have h2 := reachBytes_lt
        omega
      have hlm : len ≤ mm := by rw [hmm]; split <;> omega
      rw [K.cSt] at hel
      have hst : ∀ i, i < len → ∃ s : St, (∀ j, j < 7 → w.cell? ((a.add (i * 7)).add j) = s.cells[j]?) ∧ WSt s := by
        intro i hi
        obtain ⟨cs', hcs, ht⟩ := hel i (by omega)
        obtain ⟨_, _, hat⟩ := World.cells?_some hcs
        obtain ⟨s, rfl, hw⟩ := open_state K ht
        exact ⟨s, hat, hw⟩
      let g : Nat → St := fun i => if h : i < len then Classical.choose (hst i h) else default
      have hg : ∀ i, i < len → ∀ j, j < 7 → w.cell? ((a.add (i * 7)).add j) = (g i).cells[j]? := fun i hi => by
        simp only [g, dif_pos hi]; exact (Classical.choose_spec (hst i hi)).1
      have hgw : ∀ i, i < len → WSt (g i) := fun i hi => by
        simp only [g, dif_pos hi]; exact (Classical.choose_spec (hst i hi)).2
      refine ⟨(List.range len).map g, sa, some a, cap, by simp [nfaV], ⟨by simpa using hlc, by simpa using hlen, fun e => by simp at e, fun hne => ?_⟩, fun s hs => by obtain ⟨i, hi, rfl⟩ := List.mem_map.1 hs; exact hgw i (List.mem_range.1 hi)⟩
      simp only [List.length_map, List.length_range] at hne
      obtain ⟨b, o, spot⟩ := a
      have hc0 := hg 0 hne 0 (by omega)
      have hspot : spot = none := by
        have := World.cell?_spot (v := .int .i64 (g 0).k) (by simpa [St.cells] using hc0)
        simpa [Addr.add] using this
      subst hspot
      refine ⟨b, o, rfl, ?_, fun i hi => .of fun j hj => ?_⟩
      · have : w.cell? ⟨b, o, none⟩ = some (.int .i64 (g 0).k) := by simpa [addr_add', St.cells] using hc0
        exact World.block_lt_of_cell? _ _ this
      · have := hg i (by simpa using hi) j hj
        simpa [addr_add'] using this
theorem open_nfa (K : Types P tSt tSts tNfa tSet tI tU) {b0 : Nat} {v : Value} {d : DataW H} {p : List MemPlace} (hv : Value.okWide P w .any b0 tNfa v) (h : DataW.Trod enc P w base spare held tNfa v d p) (hz : ∀ n ∈ d.weights P tNfa, n ≤ reachBytes) :
    ∃ (l : List St) (sa : Int) (A : Option Addr) (c : Nat), v = nfaV l sa A c ∧ StsAt w (fun b => b < w.heap.size) l A c := by
  obtain ⟨l, sa, A, c, h1, h2, _⟩ := open_nfaW K hv h hz
  exact ⟨l, sa, A, c, h1, h2⟩
end
theorem types_ok : Types Tryz.prog 45 22 24 36 3 34 :=
  ⟨Tryz.underlying36, Tryz.underlying34, Tryz.underlying3, Tryz.underlying22, ⟨_, _, _, _, Tryz.underlying45, ⟨rfl, rfl⟩, ⟨rfl, rfl⟩, ⟨rfl, rfl⟩, rfl, rfl⟩, ⟨_, _, Tryz.underlying24, ⟨rfl, rfl⟩, rfl, rfl⟩, Tryz.cellsSet, Tryz.cellsU, Tryz.cellsInt, Tryz.cellsSts, Tryz.cellsState, Tryz.cellsNfa, Tryz.bytesState⟩
end Go.Proofs.YteekafkpeimhoaaGreat

/- The states that a tree's words make have words too. Plain. -/
set_option linter.unusedVariables false
set_option linter.unusedSimpArgs false
namespace Go.Proofs.YteekafkpeimhoaaGreat
open Go.RowKit

/-- What lays lays words only. -/
def LaysW (p : LF) : Prop := ∀ t l, (∀ s ∈ l, WSt s) → ∀ s ∈ (p t l).2, WSt s
theorem wst0 (k nx ot : Int) : WSt ⟨k, 0, 0, 0, 0, nx, ot⟩ := wok0
theorem wst_snoc {l : List St} {x : St} (h : ∀ s ∈ l, WSt s) (hx : WSt x) : ∀ s ∈ l ++ [x], WSt s := fun s hs => by
  rcases List.mem_append.1 hs with hs | hs
  · exact h s hs
  · simp only [List.mem_singleton] at hs; subst hs; exact hx
theorem wst_setNx {l : List St} (h : ∀ s ∈ l, WSt s) (i : Nat) (x : Int) : ∀ s ∈ setNx l i x, WSt s := fun s hs => by
  obtain ⟨j, hj⟩ := List.mem_iff_getElem?.1 hs
  unfold setNx at hj
  rw [List.getElem?_modify] at hj
  obtain ⟨y, hy, rfl⟩ := Option.map_eq_some_iff.1 hj
  have := h y (List.mem_of_getElem? hy)
  split
  · exact this
  · exact this
theorem splitsF_w : ∀ (bs : List Int) (l : List St), (∀ s ∈ l, WSt s) → ∀ s ∈ (splitsF bs l).2, WSt s
  | [], l, h => by simpa [splitsF] using h
  | [x], l, h => by simpa [splitsF] using h
  | a :: b :: bs, l, h => by
    rw [splitsF]
    · exact wst_snoc (splitsF_w (b :: bs) l h) (wst0 _ _ _)
    · simp
theorem optF_w {p : LF} (hp : LaysW p) (tu : Int) : ∀ n, LaysW (optF p tu n)
  | 0, t, l, h => by simpa [optF] using h
  | n + 1, t, l, h => by rw [optF]; exact optF_w hp tu n _ _ (wst_snoc (hp t l h) (wst0 _ _ _))
theorem minF_w {p : LF} (hp : LaysW p) : ∀ n, LaysW (minF p n)
  | 0, t, l, h => by simpa [minF] using h
  | n + 1, t, l, h => by
    rw [minF]
    split
    · exact hp t l h
    · exact minF_w hp n _ _ (hp t l h)
theorem starF_w {p : LF} (hp : LaysW p) (tu : Int) (l : List St) (h : ∀ s ∈ l, WSt s) : ∀ s ∈ (starF p tu l).2, WSt s := by
  unfold starF
  exact wst_setNx (hp _ _ (wst_snoc h (wst0 _ _ _))) _ _
theorem repF_w {p : LF} (hp : LaysW p) (mn mx : Int) : LaysW (repF mn mx p) := fun tu l h => by
  unfold repF
  simp only
  split
  · exact minF_w hp _ _ _ (starF_w hp tu l h)
  · exact minF_w hp _ _ _ (optF_w hp tu _ tu l h)
theorem rowF_w : ∀ ps : List T, (∀ p ∈ ps, LaysW (layF p)) → LaysW (rowF ps)
  | [], _, tu, l, h => by simpa [rowF] using h
  | p :: ps, hp, tu, l, h => by
    rw [rowF]
    exact hp p (List.mem_cons_self ..) _ _ (rowF_w ps (fun q hq => hp q (List.mem_cons_of_mem _ hq)) tu l h)
theorem begF_w : ∀ ps : List T, (∀ p ∈ ps, LaysW (layF p)) → ∀ tu l, (∀ s ∈ l, WSt s) → ∀ s ∈ (begF ps tu l).2, WSt s
  | [], _, tu, l, h => by simpa [begF] using h
  | p :: ps, hp, tu, l, h => by
    rw [begF]
    exact begF_w ps (fun q hq => hp q (List.mem_cons_of_mem _ hq)) tu _ (hp p (List.mem_cons_self ..) tu l h)
theorem layF_w (t : T) : Words t → LaysW (layF t) := by
  induction t using T.ind with
  | h t ih =>
    intro hw tu l h
    have hps : ∀ p ∈ t.ps, LaysW (layF p) := fun p hp => ih p hp (hw.p p hp)
    rw [layF_eq]
    split
    · exact wst_snoc h hw.w
    split
    · exact wst_snoc h (wst0 _ _ _)
    split
    · exact wst_snoc h (wst0 _ _ _)
    split
    · exact rowF_w t.ps hps tu l h
    split
    · exact splitsF_w _ _ (begF_w t.ps hps tu l h)
    split
    · refine repF_w (fun tu l h => ?_) _ _ tu l h
      cases hq : t.ps with
      | nil => simpa [headF] using h
      | cons p ps => rw [headF]; exact hps p (by rw [hq]; exact List.mem_cons_self ..) tu l h
    · exact h
theorem makeL_w {t : T} (hw : Words t) : ∀ s ∈ makeL t, WSt s := by
  unfold makeL
  split
  · exact layF_w t hw 0 _ (fun s hs => by simp only [List.mem_singleton] at hs; subst hs; exact wst0 _ _ _)
  · intro s hs; simp at hs
end Go.Proofs.YteekafkpeimhoaaGreat

/- vouchref12.with: walked. -/
set_option linter.unusedVariables false
set_option linter.unusedSimpArgs false
namespace Go.Proofs.YteekafkpeimhoaaGreat
open Go.RowKit

theorem ints_rev (x : Nat) (t : List Nat) : ints ((x :: t).reverse) = ints t.reverse ++ [.int .i64 (x : Int)] := by rw [List.reverse_cons, ints_snoc]
/-- A row's list without its last. -/
theorem row_pop {w : World} {B : Nat} {t : List Nat} {x : Nat} {A : Option Addr} {c : Nat} (h : w.ownsRow B 3 1 (.slice A (t.length + 1) c) (t.length + 1) (ints (x :: t).reverse)) :
    (∃ g, A = some ⟨g, 0, none⟩ ∧ g < w.heap.size ∧ B ≤ g ∧ t.length + 1 ≤ c ∧ w.cell? ⟨g, t.length, none⟩ = some (.int .i64 (x : Int))) ∧ w.ownsRow B 3 1 (.slice A t.length c) t.length (ints t.reverse) := by
  refine ⟨?_, by simp [ints], ?_⟩
  · rcases h.2 with ⟨_, h0⟩ | ⟨g, cap, cur, e, hb, hh, hcap, _⟩
    · omega
    · simp only [Value.slice.injEq] at e
      obtain ⟨rfl, _, rfl⟩ := e
      refine ⟨g, rfl, by (rcases Nat.lt_or_ge g w.heap.size with h' | h'; exact h'; rw [Array.getElem?_eq_none h'] at hh; simp at hh), hb, hcap, ?_⟩
      rw [h.cellAt t.length (by omega), ints_rev]
      simp [ints]
  · rcases h.2 with ⟨e, h0⟩ | ⟨g, cap, cur, e, hb, hh, hcap, hm, hs, htk⟩
    · omega
    · simp only [Value.slice.injEq] at e
      obtain ⟨rfl, _, rfl⟩ := e
      refine .inr ⟨g, c, cur, rfl, hb, hh, by omega, hm, hs, ?_⟩
      have : ints t.reverse = (ints (x :: t).reverse).take (t.length * 1) := by rw [ints_rev]; simp [ints]
      rw [this, ← htk, List.take_take]
      congr 1
      omega
/-- Which states are there, as it lies in memory. -/
structure Thr (w : World) (T n : Nat) (Y : List Bool) : Prop where
  len : Y.length = n
  th : ∀ i, i < n → w.cell? ⟨T, i, none⟩ = some (.bool (Y.getD i false))
  tz : ∀ i, w.frozen? ⟨T, i, none⟩ = false
  lT : T < w.heap.size
theorem Thr.kept {w w' : World} {T n : Nat} {Y : List Bool} (h : Thr w T n Y) (hz : w.heap.size ≤ w'.heap.size) (hk : w'.heap[T]? = w.heap[T]?) : Thr w' T n Y :=
  ⟨h.len, fun i hi => (World.cell?_of_block (w := w) (a := ⟨T, i, none⟩) hk).trans (h.th i hi), fun i => (World.frozen?_of_block (w := w) (a := ⟨T, i, none⟩) hk).trans (h.tz i), Nat.lt_of_lt_of_le h.lT hz⟩
theorem Thr.later {w w' : World} {T n : Nat} {Y : List Bool} (h : Thr w T n Y) (hb : Below w.heap.size w w') : Thr w' T n Y := h.kept hb.size (hb.block T h.lT)
theorem Thr.set {w : World} {T n : Nat} {Y : List Bool} (h : Thr w T n Y) {x : Nat} (hx : x < n) : Thr (w.setCell ⟨T, x, none⟩ (.bool true)) T n (Y.set x true) := by
  refine ⟨by simp [h.len], fun i hi => ?_, fun i => by rw [World.frozen?_setCell]; exact h.tz i, by simpa using h.lT⟩
  by_cases e : x = i
  · subst e
    rw [World.cell?_setCell_same _ _ _ (h.th x hx)]
    simp [List.getD_eq_getElem?_getD, show x < Y.length by rw [h.len]; exact hx]
  · rw [World.cell?_setCell_other _ _ _ _ (by simp [e]), h.th i hi]
    simp [List.getD_eq_getElem?_getD, e]

theorem Off.grown {T : Nat} {w w1 w2 : World} (h : Off T w w1) {r : Option Nat} (hg : w1.grownBy w2 r) (hr : ∀ g, r = some g → w.heap.size ≤ g) : Off T w w2 :=
  ⟨hg.os.trans h.os, hg.tape.trans h.tape, hg.output.trans h.output, Nat.le_trans h.size hg.size, fun k hk hn => (hg.block k (Nat.lt_of_lt_of_le hk h.size) (fun e => by have := hr k e.symm; omega)).trans (h.block k hk hn)⟩
theorem Off.new {T : Nat} {w w1 : World} (h : Off T w w1) (o : Obj) : Off T w (w1.alloc o) := h.trans (Off.of_below ((Below.refl _ _).alloc (Nat.le_refl _) _))
/-- The round's invariant: W1: the world behind the box. -/
structure WI (W1 wr : World) (T N : Nat) (l : List St) (b e : Bool) (res : List Bool) (k : Nat) (st : List Nat) (Y : List Bool) (A : Option Addr) (c : Nat) : Prop where
  row : wr.ownsRow W1.heap.size 3 1 (.slice A st.length c) st.length (ints st.reverse)
  lt : ∀ x ∈ st, x < N
  fin : withL l b e k Y st = res
  fu : 3 * falses Y + st.length ≤ k
  ku : k ≤ 3 * N + 2
  thr : Thr wr T N Y
  off : Off T W1 wr
theorem Thr.grown {W w : World} {T n : Nat} {Y : List Bool} (h : Thr W T n Y) {o : Obj} {r : Option Nat} (hg : (W.alloc o).grownBy w r) (hr : some T ≠ r) : Thr w T n Y :=
  (h.later ((Below.refl _ _).alloc (Nat.le_refl _) o)).kept hg.size (hg.block T (by have := h.lT; simp; omega) hr)
theorem withL_nil (l : List St) (b e : Bool) (k : Nat) (Y : List Bool) : withL l b e k Y [] = Y := by cases k <;> rfl

set_option maxRecDepth 100000 in
set_option maxHeartbeats 4000000 in
theorem with_any (w : World) (T : Nat) (l : List St) (sa : Int) (hm : MOk l sa) (ok : Nat → Prop) (Am : Option Addr) (cm : Nat) (b e : Bool) (hS : StsAt w ok l Am cm) (hok : ∀ k, ok k → k < w.heap.size) (hTo : ¬ ok T)
    (Y : List Bool) (h : Thr w T l.length Y) (i : Nat) (hi : i < l.length) :
    Calls Tryz.prog 32 #[nfaV l sa Am cm, .slice (some ⟨T, 0, none⟩) l.length l.length, .int .i64 (i : Int), .bool b, .bool e] w fun en w' => en = .returned (.tuple #[]) ∧ Thr w' T l.length (withF l b e Y i) ∧ Off T w w' := by
  have hN : l.length ≤ 4096 := hm.len
  have hlT := h.lT
  have H := Lib.hid h; have HM := Lib.hid hm; have HS := Lib.hid hS; have HOk := Lib.hid hok; have HTo := Lib.hid hTo
  clear h hm hS hok hTo
  go_enter Tryz.func32, Tryz.ntmps32
  have hnews : ∀ (W : World) (x : Int) ad, some (⟨W.heap.size, 0, none⟩ : Addr) = some ad → ∀ j u, ([.int .i64 x] : List Value)[j]? = some u → (W.alloc (.cells #[.int .i64 x] 3)).cell? (ad.add j) = some u := fun W x ad e j u hu => by
    simp only [Option.some.injEq] at e
    subst e
    rw [addr_addX, World.cell?_alloc_new, Nat.zero_add]
    simpa using hu
  have Hnews := Lib.hid hnews
  clear hnews
  go_wp2_with (at_builtin; refine wpList_append_fromX (w.heap.size + 1) rfl _ _ 61 3 _ 1 8 rfl Tryz.underlying61 Tryz.infoInt rfl (by omega) (by omega) (.slice none 0 0) 0 1 [] [.int .i64 (i : Int)] (some ⟨w.heap.size + 1, 0, none⟩) 1 rfl (by simp [go_sem]) (by simp) rfl (by simp [go_sem]) (by simp [Value.oneCell']) ⟨rfl, .inl ⟨rfl, rfl⟩⟩ (by simp <;> omega) (by omega) (fun A5 c5 w5 ho5 hg5 hat5 => ?_); have Ho5 := Lib.hid ho5; have Hg5 := Lib.hid hg5; clear ho5 hg5 hat5)
  have ho5 := Ho5.out; have hg5 := Hg5.out
  clear Ho5 Hg5
  generalize hW1 : w.alloc _ = W1 at *
  have hz1 : W1.heap.size = w.heap.size + 1 := by subst hW1; simp
  have hb1 : Below w.heap.size w W1 := by subst hW1; exact (Below.refl _ _).alloc (Nat.le_refl _) _
  have p0 : W1.cell? ⟨w.heap.size, 0, none⟩ = some (.slice Am l.length cm) := by subst hW1; simp [go_sem]
  clear hW1
  have hI : WI W1 w5 T l.length l b e (withF l b e Y i) (3 * l.length + 2) [i] Y A5 c5 := by
    have hO : Off T W1 w5 := ((Off.refl T W1).new _).grown hg5 (by simp [Value.ownBlock])
    refine ⟨by rw [hz1]; exact ho5, by simpa using hi, rfl, ?_, Nat.le_refl _, ?_, hO⟩
    · have := falses_le Y
      have := H.out.len
      simp; omega
    · have hT : Thr (W1.alloc (.cells #[.int .i64 (i : Int)] 3)) T l.length Y := ((H.out.later hb1).later ((Below.refl _ _).alloc (Nat.le_refl _) _))
      exact hT.kept hg5.size (hg5.block T hT.lT (by simp [Value.ownBlock]))
  have HI := Lib.hid hI
  have HB1 := Lib.hid hb1
  clear hI ho5 hg5 hb1
  go_loopg [10] (3 * l.length + 2) (fun k v wr => ∃ (st : List Nat) (Y' : List Bool) (A : Option Addr) (c : Nat), v = .slice A st.length c ∧ WI W1 wr T l.length l b e (withF l b e Y i) k st Y' A c)
  case atStart => exact ⟨[i], Y, A5, c5, rfl, HI.out⟩
  case round =>
    clear HI
    obtain ⟨st, Y', A, c, rfl, hI⟩ := hrel
    cases st with
    | nil =>
      have HI := Lib.hid hI
      clear hI
      go_wp2_with fail
      go_end0
      have hf := HI.out.fin
      rw [withL_nil] at hf
      exact ⟨rfl, by rw [← hf]; exact HI.out.thr, (Off.of_below HB1.out).trans HI.out.off⟩
    | cons x t =>
      obtain ⟨⟨g, rfl, hg, hB, hcap, hcell⟩, hpop⟩ := row_pop hI.row
      have hx : x < l.length := hI.lt x (List.mem_cons_self ..)
      have hfu := hI.fu
      have hku := hI.ku
      have tx := hI.thr.th x hx
      have tz := hI.thr.tz x
      have lT := hI.thr.lT
      have q0 : wr.cell? ⟨w.heap.size, 0, none⟩ = some (.slice Am l.length cm) := (hI.off.cell (by omega) (by omega)).trans p0
      have hfl := falses_le Y'
      have hYl := hI.thr.len
      simp only [List.length_cons] at hfu hcap ⊢
      have htl : t.length < 100000 := by omega
      have htc : t.length ≤ c := by omega
      have HI := Lib.hid hI; have HP := Lib.hid hpop
      have HYl := Lib.hid hYl
      clear hI hpop
      cases hy : Y'.getD x false with
      | true =>
        rw [hy] at tx
        have hf := HI.out.fin
        obtain ⟨k, rfl⟩ : ∃ k, gk = k + 1 := ⟨gk - 1, by omega⟩
        rw [withL, if_pos hy] at hf
        have Hf := Lib.hid hf
        clear hf hy
        clear HYl
        go_wp2_with fail
        go_roundg k
        case measure => omega
        case rel => exact ⟨t, Y', some ⟨g, 0, none⟩, c, by go_num, HP.out, fun z hz => HI.out.lt z (List.mem_cons_of_mem _ hz), Hf.out, by omega, by omega, HI.out.thr, HI.out.off⟩
      | false =>
        rw [hy] at tx
        have hf := HI.out.fin
        obtain ⟨k, rfl⟩ : ∃ k, gk = k + 1 := ⟨gk - 1, by omega⟩
        rw [withL, if_neg (by rw [hy]; simp)] at hf
        have hfs := falses_set Y' x (by omega) hy
        have Hf := Lib.hid hf; have Hfs := Lib.hid hfs
        clear hf hy hfs HYl
        go_upto_region 8 with fail
        generalize hW2 : wr.setCell _ _ = W2
        have b2k : ∀ k, k ≠ T → W2.heap[k]? = wr.heap[k]? := fun k hk => by subst hW2; exact Below.heap_setCell _ _ _ _ hk
        have b2z : W2.heap.size ≤ wr.heap.size := by subst hW2; simp
        have b2y : wr.heap.size ≤ W2.heap.size := by subst hW2; simp
        have hT2 : Thr W2 T l.length (Y'.set x true) := by subst hW2; exact HI.out.thr.set hx
        have hO2 : Off T W1 W2 := by subst hW2; exact HI.out.off.set x (.bool true)
        have hR2 : W2.ownsRow W1.heap.size 3 1 (.slice (some ⟨g, 0, none⟩) t.length c) t.length (ints t.reverse) := by
          refine HP.out.kept (row := some T) ⟨by subst hW2; rfl, by subst hW2; rfl, by subst hW2; rfl, by omega, fun k hk hne => b2k k (by simpa using hne)⟩ (.inr ?_)
          simp [Value.ownBlock]; omega
        clear hW2 b2k tx tz q0 hcell HP
        have q0 : W2.cell? ⟨w.heap.size, 0, none⟩ = some (.slice Am l.length cm) := (hO2.cell (by omega) (by omega)).trans p0
        have hST := (HS.out.mono (w' := W2) (ok' := ok) (fun k hk => ⟨hk, fun o => by
          have h1 := HOk.out k hk
          exact (hO2.cell (b := k) (o := o) (by omega) (fun e => HTo.out (e ▸ hk))).trans (HB1.out.cell (p := ⟨k, o, none⟩) h1)⟩))
        obtain ⟨gm, om, rfl, hgm, hst⟩ := hST.at_ (by omega)
        have hstx := hst x hx
        have hsN : l[x] = stN l x := by unfold stN; rw [List.getD_eq_getElem?_getD, List.getElem?_eq_getElem hx]; rfl
        rw [hsN] at hstx
        have hsk := HM.out.kinds hx
        have hcS := HS.out.cap
        have hgw : gm < W2.heap.size := by have := HOk.out gm hgm; omega
        clear hst hsN hST
        generalize stN l x = s at *
        obtain ⟨sk, s0, s1, s2, s3, nx, ot⟩ := s
        obtain ⟨f0, f1, f2, f3, f4, f5, f6⟩ := hstx
        simp only at f0 f1 f2 f3 f4 f5 f6 hsk
        have HT2 := Lib.hid hT2; have HO2 := Lib.hid hO2; have HR2 := Lib.hid hR2
        clear hT2 hO2 hR2
        go_upto_region 9 with fail
        generalize hW3 : W2.alloc _ = W3
        have hb3 : Below W2.heap.size W2 W3 := by subst hW3; exact (Below.refl _ _).alloc (Nat.le_refl _) _
        have hz3 : W2.heap.size < W3.heap.size := by subst hW3; simp
        have b0 : W3.cell? ⟨W2.heap.size, 0, none⟩ = some (.int .i64 sk) := by subst hW3; simp [go_sem]
        have b5 : W3.cell? ⟨W2.heap.size, 5, none⟩ = some (.int .i64 nx) := by subst hW3; simp [go_sem]
        have b6 : W3.cell? ⟨W2.heap.size, 6, none⟩ = some (.int .i64 ot) := by subst hW3; simp [go_sem]
        have hR3 := HR2.out.kept (w' := W3) (row := none) ⟨hb3.os, hb3.tape, hb3.output, hb3.size, fun k hk _ => hb3.block k hk⟩ (by simp [Value.ownBlock])
        have hT3 := HT2.out.later hb3
        have hO3 := HO2.out.trans (Off.of_below hb3)
        clear hW3 f0 f1 f2 f3 f4 f5 f6 q0 hb3
        have HT3 := Lib.hid hT3; have HO3 := Lib.hid hO3; have HR3 := Lib.hid hR3
        clear hT3 hO3 hR3 HT2 HO2 HR2
        have hgT : g ≠ T := by omega
        have hO3z := HO3.out.size
        rcases hsk with rfl | ⟨hk, hn0, hn1⟩ | ⟨rfl, ⟨hn0, hn1⟩, ho0, ho1⟩
        · go_wp2_with fail
          go_roundg k
          case measure => omega
          case rel => exact ⟨t, Y'.set x true, some ⟨g, 0, none⟩, c, by go_num, HR3.out, fun z hz => HI.out.lt z (List.mem_cons_of_mem _ hz), by simpa [outs] using Hf.out, by have := Hfs.out; omega, by omega, HT3.out, HO3.out⟩
        · obtain ⟨x1, rfl⟩ : ∃ x1 : Nat, nx = x1 := ⟨nx.toNat, by omega⟩
          have hx1 : x1 < l.length := by omega
          rcases hk with rfl | rfl | rfl
          · go_wp2_with fail
            go_roundg k
            case measure => omega
            case rel => exact ⟨t, Y'.set x true, some ⟨g, 0, none⟩, c, by go_num, HR3.out, fun z hz => HI.out.lt z (List.mem_cons_of_mem _ hz), by simpa [outs] using Hf.out, by have := Hfs.out; omega, by omega, HT3.out, HO3.out⟩
          · cases b
            · go_wp2_with fail
              go_roundg k
              case measure => omega
              case rel => exact ⟨t, Y'.set x true, some ⟨g, 0, none⟩, c, by go_num, HR3.out, fun z hz => HI.out.lt z (List.mem_cons_of_mem _ hz), by simpa [outs] using Hf.out, by have := Hfs.out; omega, by omega, HT3.out, HO3.out⟩
            · go_upto_region 11 with (at_builtin; refine wpList_append_fromX W1.heap.size rfl _ _ 61 3 _ 1 8 rfl Tryz.underlying61 Tryz.infoInt rfl (by omega) (by omega) (.slice (some ⟨g, 0, none⟩) t.length c) t.length 1 (ints t.reverse) [.int .i64 (x1 : Int)] (some ⟨W3.heap.size, 0, none⟩) 1 rfl rfl (by simp) rfl (Hnews.out W3 (x1 : Int)) (by simp [Value.oneCell']) (HR3.out.alloc _) (by have := HO3.out.size; simp; omega) (by omega) (fun A6 c6 w6 ho hg hat => ?_); have Ho6 := Lib.hid ho; have Hg6 := Lib.hid hg; have Hat6 := Lib.hid hat; clear ho hg hat)
              have hT6 := HT3.out.grown Hg6.out (by simp [Value.ownBlock]; omega)
              have hO6 := (HO3.out.new _).grown Hg6.out (fun g' e => by simp [Value.ownBlock] at e; omega)
              have b0' : w6.cell? ⟨W2.heap.size, 0, none⟩ = some (.int .i64 3) := (World.cell?_of_block (w := W3) (a := ⟨W2.heap.size, 0, none⟩) ((Hg6.out.block _ (by simp; omega) (by simp [Value.ownBlock]; omega)).trans (((Below.refl W3.heap.size W3).alloc (Nat.le_refl _) _).block _ hz3))).trans b0
              go_wp2_with fail
              go_roundg k
              case measure => omega
              case rel => exact ⟨x1 :: t, Y'.set x true, A6, c6, by go_num, by rw [ints_rev]; exact Ho6.out, fun z hz => (List.mem_cons.1 hz).elim (fun e => e ▸ hx1) (fun hz => HI.out.lt z (List.mem_cons_of_mem _ hz)), by simpa [outs] using Hf.out, by have := Hfs.out; simp only [List.length_cons]; omega, by omega, hT6, hO6⟩
          · cases e
            · go_wp2_with fail
              go_roundg k
              case measure => omega
              case rel => exact ⟨t, Y'.set x true, some ⟨g, 0, none⟩, c, by go_num, HR3.out, fun z hz => HI.out.lt z (List.mem_cons_of_mem _ hz), by simpa [outs] using Hf.out, by have := Hfs.out; omega, by omega, HT3.out, HO3.out⟩
            · go_upto_region 11 with (at_builtin; refine wpList_append_fromX W1.heap.size rfl _ _ 61 3 _ 1 8 rfl Tryz.underlying61 Tryz.infoInt rfl (by omega) (by omega) (.slice (some ⟨g, 0, none⟩) t.length c) t.length 1 (ints t.reverse) [.int .i64 (x1 : Int)] (some ⟨W3.heap.size, 0, none⟩) 1 rfl rfl (by simp) rfl (Hnews.out W3 (x1 : Int)) (by simp [Value.oneCell']) (HR3.out.alloc _) (by have := HO3.out.size; simp; omega) (by omega) (fun A6 c6 w6 ho hg hat => ?_); have Ho6 := Lib.hid ho; have Hg6 := Lib.hid hg; have Hat6 := Lib.hid hat; clear ho hg hat)
              have hT6 := HT3.out.grown Hg6.out (by simp [Value.ownBlock]; omega)
              have hO6 := (HO3.out.new _).grown Hg6.out (fun g' e => by simp [Value.ownBlock] at e; omega)
              have b0' : w6.cell? ⟨W2.heap.size, 0, none⟩ = some (.int .i64 4) := (World.cell?_of_block (w := W3) (a := ⟨W2.heap.size, 0, none⟩) ((Hg6.out.block _ (by simp; omega) (by simp [Value.ownBlock]; omega)).trans (((Below.refl W3.heap.size W3).alloc (Nat.le_refl _) _).block _ hz3))).trans b0
              go_wp2_with fail
              go_roundg k
              case measure => omega
              case rel => exact ⟨x1 :: t, Y'.set x true, A6, c6, by go_num, by rw [ints_rev]; exact Ho6.out, fun z hz => (List.mem_cons.1 hz).elim (fun e => e ▸ hx1) (fun hz => HI.out.lt z (List.mem_cons_of_mem _ hz)), by simpa [outs] using Hf.out, by have := Hfs.out; simp only [List.length_cons]; omega, by omega, hT6, hO6⟩
        · obtain ⟨x1, rfl⟩ : ∃ x1 : Nat, nx = x1 := ⟨nx.toNat, by omega⟩
          obtain ⟨x2, rfl⟩ : ∃ x2 : Nat, ot = x2 := ⟨ot.toNat, by omega⟩
          have hx1 : x1 < l.length := by omega
          have hx2 : x2 < l.length := by omega
          go_upto_region 11 with (at_builtin; refine wpList_append_fromX W1.heap.size rfl _ _ 61 3 _ 1 8 rfl Tryz.underlying61 Tryz.infoInt rfl (by omega) (by omega) (.slice (some ⟨g, 0, none⟩) t.length c) t.length 1 (ints t.reverse) [.int .i64 (x1 : Int)] (some ⟨W3.heap.size, 0, none⟩) 1 rfl rfl (by simp) rfl (Hnews.out W3 (x1 : Int)) (by simp [Value.oneCell']) (HR3.out.alloc _) (by have := HO3.out.size; simp; omega) (by omega) (fun A6 c6 w6 ho hg hat => ?_); have Ho6 := Lib.hid ho; have Hg6 := Lib.hid hg; have Hat6 := Lib.hid hat; clear ho hg hat)
          have hT6 := HT3.out.grown Hg6.out (by simp [Value.ownBlock]; omega)
          have hO6 := (HO3.out.new _).grown Hg6.out (fun g' e => by simp [Value.ownBlock] at e; omega)
          have hk6 := (Hg6.out.block W2.heap.size (by simp; omega) (by simp [Value.ownBlock]; omega)).trans (((Below.refl W3.heap.size W3).alloc (Nat.le_refl _) _).block _ hz3)
          have b0' : w6.cell? ⟨W2.heap.size, 0, none⟩ = some (.int .i64 2) := (World.cell?_of_block (w := W3) (a := ⟨W2.heap.size, 0, none⟩) hk6).trans b0
          have b6' : w6.cell? ⟨W2.heap.size, 6, none⟩ = some (.int .i64 x2) := (World.cell?_of_block (w := W3) (a := ⟨W2.heap.size, 6, none⟩) hk6).trans b6
          have hown : ∀ g', (Value.slice A6 (t.length + 1) c6).ownBlock = some g' → W1.heap.size ≤ g' := fun g' e => (Ho6.out.lt g' e).1
          have hr6 : w6.ownsRow W1.heap.size 3 1 (.slice A6 (t.length + 1) c6) (t.length + 1) (ints (x1 :: t).reverse) := by rw [ints_rev]; exact Ho6.out
          have hz6 := Hg6.out.size
          have HT6 := Lib.hid hT6; have HO6 := Lib.hid hO6; have HR6 := Lib.hid hr6; have Hown := Lib.hid hown
          clear hT6 hO6 hk6 hown hr6 Hg6 Hat6 Ho6 b0 b6
          go_wp2_with (at_builtin; refine wpList_append_fromX W1.heap.size rfl _ _ 61 3 _ 1 8 rfl Tryz.underlying61 Tryz.infoInt rfl (by omega) (by omega) (.slice A6 (t.length + 1) c6) (t.length + 1) 1 (ints (x1 :: t).reverse) [.int .i64 (x2 : Int)] (some ⟨w6.heap.size, 0, none⟩) 1 rfl rfl (by simp) rfl (Hnews.out w6 (x2 : Int)) (by simp [Value.oneCell']) (HR6.out.alloc _) (by have := HO6.out.size; simp; omega) (by omega) (fun A7 c7 w7 ho hg hat => ?_); have Ho7 := Lib.hid ho; have Hg7 := Lib.hid hg; have Hat7 := Lib.hid hat; clear ho hg hat)
          have hT7 := HT6.out.grown Hg7.out (fun e => by have := Hown.out T e.symm; omega)
          have hO7 := (HO6.out.new _).grown Hg7.out Hown.out
          go_roundg k
          case measure => omega
          case rel => exact ⟨x2 :: x1 :: t, Y'.set x true, A7, c7, by go_num, by rw [ints_rev]; exact Ho7.out, fun z hz => (List.mem_cons.1 hz).elim (fun e => e ▸ hx2) (fun hz => (List.mem_cons.1 hz).elim (fun e => e ▸ hx1) (fun hz => HI.out.lt z (List.mem_cons_of_mem _ hz))), by simpa [outs] using Hf.out, by have := Hfs.out; simp only [List.length_cons]; omega, by omega, hT7, hO7⟩
end Go.Proofs.YteekafkpeimhoaaGreat

/- vouchref10.Has, vouchref12.Has: walked. -/
set_option linter.unusedVariables false
set_option linter.unusedSimpArgs false
namespace Go.Proofs.YteekafkpeimhoaaGreat
open Go.RowKit

set_option maxRecDepth 100000 in
set_option maxHeartbeats 1000000 in
theorem rbit_any (w : World) (sk s0 s1 s2 s3 nx ot : Int) (c : Nat) (hc : c < 256) (hw : Wok ⟨s0, s1, s2, s3⟩) :
    Calls Tryz.prog 33 #[.agg #[.int .u64 s0, .int .u64 s1, .int .u64 s2, .int .u64 s3], .int .u8 (c : Int)] w fun en w' => en = .returned (.bool (bitS ⟨sk, s0, s1, s2, s3, nx, ot⟩ c)) ∧ Below w.heap.size w w' := by
  obtain ⟨wi, wr', hi4, hr64, hqu, hre, hbw⟩ := bit_word c hc sk s0 s1 s2 s3 nx ot
  have h0 : 0 ≤ wordN ⟨sk, s0, s1, s2, s3, nx, ot⟩ wi := by
    rcases (by omega : wi = 0 ∨ wi = 1 ∨ wi = 2 ∨ wi = 3) with rfl | rfl | rfl | rfl
    · exact hw.a.1
    · exact hw.b.1
    · exact hw.c.1
    · exact hw.d.1
  have hmod : (wordN ⟨sk, s0, s1, s2, s3, nx, ot⟩ wi / 2 ^ wr').tmod 2 = wordN ⟨sk, s0, s1, s2, s3, nx, ot⟩ wi / 2 ^ wr' % 2 := Int.tmod_eq_emod_of_nonneg (Int.ediv_nonneg h0 (Int.pow_nonneg (by omega)))
  rw [hbw]
  clear hw h0 hbw
  go_enter Tryz.func33, Tryz.ntmps33
  go_upto_region 1 with fail
  generalize hW : w.alloc _ = W0
  have hB0 : Below w.heap.size w W0 := by subst hW; exact (Below.refl _ _).alloc (Nat.le_refl _) _
  have b0 : W0.cell? ⟨w.heap.size, wi, none⟩ = some (.int .u64 (wordN ⟨sk, s0, s1, s2, s3, nx, ot⟩ wi)) := by
    subst hW
    rcases (by omega : wi = 0 ∨ wi = 1 ∨ wi = 2 ∨ wi = 3) with rfl | rfl | rfl | rfl <;> simp [go_sem, wordN]
  clear hW
  generalize hwd : wordN ⟨sk, s0, s1, s2, s3, nx, ot⟩ wi = wd at *
  have Hwd := Lib.hid hwd
  clear hwd
  have Hmod := Lib.hid hmod
  clear hmod
  go_wp2_with fail
  exact bodyPost_ret (v := .bool ((wd / 2 ^ wr').tmod 2 == 1)) (by simp [results, Tryz.results33, go_sem]) rfl ⟨by rw [Hmod.out, Hwd.out], hB0⟩

theorem thr_new (w : World) (n : Nat) : Thr (w.alloc (.cells (madeCells #[.bool false] n) 4)) w.heap.size n (List.replicate n false) := by
  have hM : ∀ i, i < n → (madeCells #[.bool false] n)[i]? = some (.bool false) := fun i hi => by
    rw [← Array.getElem?_toList, toList_madeCells_one]
    simp [hi]
  generalize madeCells #[.bool false] n = M at *
  have k0 : (w.alloc (.cells M 4)).heap[w.heap.size]? = some (.cells M 4) := heap_alloc_new w _
  refine ⟨by simp, fun i hi => ?_, fun i => ?_, by simp⟩
  · unfold World.cell?; simp only [k0]
    rw [hM i hi]; simp [List.getD_eq_getElem?_getD, List.getElem?_replicate, hi]
  · unfold World.frozen?; simp only [k0]; simp
/-- The round's relation. -/
structure RR (w1 wr : World) (l : List St) (st : Int) (subj : Bs) (k a s T : Nat) (Y : List Bool) : Prop where
  ak : a + k = subj.length + 1
  sb : s ≤ a * 5000
  ov : overR l st subj (subj.length + 1 - a) a Y s = overR l st subj (subj.length + 1) 0 (List.replicate l.length false) 0
  thr : Thr wr T l.length Y
  Tb : w1.heap.size ≤ T
  z : a = 0 → ∀ i, Y.getD i false = false
  bel : Below w1.heap.size w1 wr
theorem cnt_succ (Y : List Bool) (i : Nat) (hi : i < Y.length) : ((Y.take (i + 1)).countP id : Nat) = (Y.take i).countP id + (if Y.getD i false = true then 1 else 0) := by
  rw [List.take_succ_eq_append_getElem hi, List.countP_append, List.getD_eq_getElem?_getD, List.getElem?_eq_getElem hi]
  simp only [List.countP_cons, List.countP_nil, Option.getD_some, id]
  omega
def dnR (l : List St) (Y : List Bool) (i : Nat) : Bool := (List.range i).any fun p => Y.getD p false && (stN l p).k == 5
theorem dnR_succ (l : List St) (Y : List Bool) (i : Nat) : dnR l Y (i + 1) = (dnR l Y i || (Y.getD i false && (stN l i).k == 5)) := by
  unfold dnR; rw [List.range_succ, List.any_append]; simp
set_option maxRecDepth 100000 in
set_option maxHeartbeats 8000000 in
theorem rhas_any (w : World) (ok : Nat → Prop) (l : List St) (sa : Int) (A : Option Addr) (c : Nat) (hA : StsAt w ok l A c) (hok : ∀ b, ok b → b < w.heap.size) (hws : ∀ s ∈ l, WSt s) (subj : Bs) :
    Calls Tryz.prog 16 #[nfaV l sa A c, .string (bs subj)] w fun en w' => en = .returned (.tuple #[.bool (hasF l sa subj).1, .int .i64 (hasF l sa subj).2.1, .int .i64 (hasF l sa subj).2.2]) ∧ Below w.heap.size w w' := by
  have HA := Lib.hid hA; have Hok := Lib.hid hok; have HW := Lib.hid hws; clear hA hok hws
  go_enter Tryz.func16, Tryz.ntmps16
  go_wp2_with fail
  generalize hW : w.alloc _ = W0
  have hB0 : Below w.heap.size w W0 := by subst hW; exact (Below.refl _ _).alloc (Nat.le_refl _) _
  have hz0 : w.heap.size < W0.heap.size := by subst hW; simp
  have P0 : At2 W0 w.heap.size (.slice A l.length c) sa := by subst hW; constructor <;> simp [go_sem]
  clear hW
  obtain ⟨p0, p1⟩ := id P0
  go_wp2_with fail
  clear p0 p1
  refine (rcheck_any W0 ok l sa A c (HA.out.later hB0 Hok.out) (fun b h => by have := Hok.out b h; omega)).mono ?_
  rintro en w1 ⟨rfl, hb1⟩
  have hz1 := hb1.size
  have hB1 := hB0.trans (hb1.mono (by omega))
  have P1 := P0.later hb1 hz0
  clear P0 hB0
  by_cases hck : mcheck l sa = 0
  case' neg =>
    have hres : hasF l sa subj = (false, 0, mcheck l sa) := if_pos hck
    have Hres := Lib.hid hres
    have hb : (mcheck l sa != 0) = true := by rw [bne_iff_ne]; exact hck
    clear hres hck
    go_wp2_with fail
    try rw [Exit.noGoto_ret]
    exact bodyPost_ret (v := .tuple #[.bool false, .int .i64 0, .int .i64 (mcheck l sa)]) (by simp [results, Tryz.results16, go_sem]) rfl ⟨by rw [Hres.out], hB1⟩
  have hb : (mcheck l sa != 0) = false := by rw [hck]; rfl
  by_cases hlong : 65536 < subj.length
  · have hres : hasF l sa subj = (false, 0, 3) := by rw [hasF, if_neg (by simpa using hck), if_pos hlong]
    have Hres := Lib.hid hres
    clear hres hck
    go_wp2_with fail
    try rw [Exit.noGoto_ret]
    exact bodyPost_ret (v := .tuple #[.bool false, .int .i64 0, .int .i64 3]) (by simp [results, Tryz.results16, go_sem]) rfl ⟨by rw [Hres.out], hB1⟩
  have hres : hasF l sa subj = ((overF l sa subj (subj.length + 1) 0 [] 0).1, (overF l sa subj (subj.length + 1) 0 [] 0).2, 0) := by rw [hasF, if_neg (by simpa using hck), if_neg hlong]
  have hm := mok_of hck
  rw [over_same hm subj (subj.length + 1) 0 [] (List.replicate l.length false) 0 (by simp) (same_nil l)] at hres
  have Hres := Lib.hid hres
  have HM := Lib.hid hm
  have hl1 := hm.len
  have hl0 : 0 < l.length := by have := hm.start; omega
  clear hres hck hm
  have hmk := run_make_row' (P := Tryz.prog) 60 4 (.bool false) 1 Tryz.underlying60 Tryz.infoBool rfl .i64 .i64 l.length (by omega) (by omega)
  obtain ⟨p0, p1⟩ := id P1
  have hz01 : w.heap.size < w1.heap.size := by omega
  have hb0 := hB1.size
  go_upto_region 8 with fail
  generalize hW : w1.alloc _ = W2
  have hT2 : Thr W2 w1.heap.size l.length (List.replicate l.length false) := by subst hW; exact thr_new w1 _
  have hb2 : Below w1.heap.size w1 W2 := by subst hW; exact (Below.refl _ _).alloc (Nat.le_refl _) _
  clear hW p0 p1
  have HT2 := Lib.hid hT2
  have HB2 := Lib.hid hb2
  clear hT2 hb2
  obtain ⟨st, rfl⟩ : ∃ st : Nat, sa = st := ⟨sa.toNat, by have := HM.out.s0; omega⟩
  have hst := HM.out.s1
  go_wp2_with fail
  go_loopg [8, 9, 10] (subj.length + 1) (fun k v8 v9 v10 wr => ∃ (a s T : Nat) (Y : List Bool), v8 = .int .i64 (s : Int) ∧ v9 = .slice (some ⟨T, 0, none⟩) l.length l.length ∧ v10 = .int .i64 (a : Int) ∧ RR w1 wr l st subj k a s T Y)
  case atStart => exact ⟨0, 0, w1.heap.size, List.replicate l.length false, rfl, rfl, rfl, ⟨by omega, by omega, rfl, HT2.out, Nat.le_refl _, fun _ i => by rw [List.getD_eq_getElem?_getD, List.getElem?_replicate]; split <;> rfl, HB2.out⟩⟩
  case round =>
    clear HT2 HB2
    obtain ⟨a, s, T, Y, rfl, rfl, rfl, hR⟩ := hrel
    have hsb := hR.sb
    have hak := hR.ak
    obtain ⟨p0, p1⟩ := P1.later hR.bel hz01
    have hzr := hR.bel.size
    have HR := Lib.hid hR
    clear hR
    by_cases hle : a ≤ subj.length
    case' neg =>
      have hov := HR.out.ov
      rw [show subj.length + 1 - a = 0 by omega, overR] at hov
      have Hov := Lib.hid hov
      clear hov
      go_wp2_with fail
      try rw [Exit.noGoto_ret]
      exact bodyPost_ret (v := .tuple #[.bool false, .int .i64 (s : Int), .int .i64 0]) (by simp [results, Tryz.results16, go_sem]) rfl ⟨by rw [Hres.out, ← Hov.out], hB1.trans (HR.out.bel.mono hb0)⟩
    go_upto_region 12 with fail
    generalize hW : wr.alloc _ = W3
    have hT3 : Thr W3 wr.heap.size l.length (List.replicate l.length false) := by subst hW; exact thr_new wr _
    have hb3 : Below wr.heap.size wr W3 := by subst hW; exact (Below.refl _ _).alloc (Nat.le_refl _) _
    have hz3 : W3.heap.size = wr.heap.size + 1 := by subst hW; simp
    clear hW
    have hB3 := HR.out.bel.trans (hb3.mono hzr)
    have hTT : T < wr.heap.size := HR.out.thr.lT
    have hY3 := HR.out.thr.later hb3
    have hz3' := hB3.size
    clear p0 p1
    obtain ⟨p0, p1⟩ := P1.later hB3 hz01
    have HT3 := Lib.hid hT3; have HY3 := Lib.hid hY3
    clear hT3 hY3
    have HB3 := Lib.hid hB3
    clear hB3 hb3
    generalize hT2 : wr.heap.size = T2 at *
    clear hT2
    have hst2 : st < l.length := by omega
    go_wp2_with fail
    have hS3 := HA.out.later (hB1.trans (HB3.out.mono hb0)) Hok.out
    have hok3 : ∀ k, ok k → k < W3.heap.size := fun k hk => by have := Hok.out k hk; omega
    have hTo : ¬ ok T2 := fun hk => by have := Hok.out T2 hk; omega
    refine (with_any W3 T2 l st HM.out ok A c ((a : Int) == 0) ((a : Int) == (subj.length : Int)) hS3 hok3 hTo _ HT3.out st hst2).mono ?_
    rintro en w4 ⟨rfl, hT4, hO4⟩
    have e1 : ((a : Int) == 0) = (a == 0) := by rw [Bool.eq_iff_iff]; simp
    have e2 : ((a : Int) == (subj.length : Int)) = (a == subj.length) := by rw [Bool.eq_iff_iff]; simp <;> omega
    have hstep : stepR l st subj a Y = (List.range l.length).foldl (eatR l (a == 0) (a == subj.length) (byteN subj a) Y) (withF l (a == 0) (a == subj.length) (List.replicate l.length false) st) := by rw [stepR, Int.toNat_natCast]
    rw [e1, e2] at hT4
    have E1 := Lib.hid e1; have E2 := Lib.hid e2; have Hstep := Lib.hid hstep; have HT4 := Lib.hid hT4; have HO4 := Lib.hid hO4
    have HS3 := Lib.hid hS3; have Hok3 := Lib.hid hok3; have HTo := Lib.hid hTo
    clear e1 e2 hstep hT4 hO4 HT3 p0 p1 hS3 hok3 hTo
    go_wp2_with fail
    go_loopg [12] l.length (fun k v12 wq => ∃ (i : Nat) (Y2 : List Bool), v12 = .int .i64 (i : Int) ∧ i + k = l.length ∧ ((List.range l.length).drop i).foldl (eatR l (a == 0) (a == subj.length) (byteN subj a) Y) Y2 = stepR l st subj a Y ∧ Thr wq T2 l.length Y2 ∧ Off T2 W3 wq)
    case atStart => exact ⟨0, _, rfl, by omega, by rw [Hstep.out]; rfl, HT4.out, HO4.out⟩
    case round =>
      clear HT4 HO4
      obtain ⟨i, Y2, rfl, hi, hfo, hT5, hO5⟩ := hrel
      have hzO := hO5.size
      have hYq : Thr wr T l.length Y := HY3.out.kept hzO (hO5.block T (by omega) (by simp; omega))
      have p0 : wr.cell? ⟨w.heap.size, 0, none⟩ = some (.slice A l.length c) := (hO5.cell (by omega) (by omega)).trans ((P1.later HB3.out hz01).f0)
      have p1 : wr.cell? ⟨w.heap.size, 1, none⟩ = some (.int .i64 st) := (hO5.cell (by omega) (by omega)).trans ((P1.later HB3.out hz01).f1)
      have Hfo := Lib.hid hfo; have HT5 := Lib.hid hT5; have HO5 := Lib.hid hO5
      clear hfo hT5 hO5
      by_cases hlt : i < l.length
      case' pos =>
        have tx := hYq.th i hlt
        have lT := hYq.lT
        have hdrop : (List.range l.length).drop i = i :: (List.range l.length).drop (i + 1) := by
          rw [List.drop_eq_getElem_cons (by simpa using hlt)]; simp
        have hfo := Hfo.out
        rw [hdrop, List.foldl_cons] at hfo
        have hSq : StsAt wr ok l A c := HS3.out.mono (fun k hk => ⟨hk, fun o => HO5.out.cell (Hok3.out k hk) (fun e => HTo.out (e ▸ hk))⟩)
        obtain ⟨gm, om, rfl, hgm, hst7⟩ := hSq.at_ hl0
        have hgl := Hok3.out gm hgm
        have hstx := hst7 i hlt
        have hsN : l[i] = stN l i := by unfold stN; rw [List.getD_eq_getElem?_getD, List.getElem?_eq_getElem hlt]; rfl
        have hws := HW.out l[i] (List.getElem_mem _)
        rw [hsN] at hstx hws
        have hcap := hSq.cap
        have hnx := fun hk => HM.out.next hlt hk
        have hnx2 : (stN l i).k = 1 → (stN l i).nx = ((stN l i).nx.toNat : Int) := fun hk => by rcases HM.out.kinds hlt with h | ⟨_, h, _⟩ | ⟨h, _⟩ <;> omega
        rw [show eatR l (a == 0) (a == subj.length) (byteN subj a) Y Y2 i = (if Y.getD i false = true ∧ takes (stN l i) (byteN subj a) = true then withF l (a == 0) (a == subj.length) Y2 (stN l i).nx.toNat else Y2) from rfl] at hfo
        have Hfo2 := Lib.hid hfo
        clear hfo Hfo hst7 hsN hdrop hYq hSq
        generalize stN l i = sx at *
        obtain ⟨sk, s0, s1, s2, s3, nx, ot⟩ := sx
        obtain ⟨f0, f1, f2, f3, f4, f5, f6⟩ := hstx
        simp only at f0 f1 f2 f3 f4 f5 f6 hnx hnx2
        have hgw : gm < wr.heap.size := by omega
        have Hnx := Lib.hid hnx; have Hnx2 := Lib.hid hnx2; have Hws := Lib.hid hws
        clear hnx hnx2 hws
        go_upto_region 17 with fail
        generalize hW : wr.alloc _ = W5
        have hb5 : Below wr.heap.size wr W5 := by subst hW; exact (Below.refl _ _).alloc (Nat.le_refl _) _
        have b0 : W5.cell? ⟨wr.heap.size, 0, none⟩ = some (.int .i64 sk) := by subst hW; simp [go_sem]
        have b1' : W5.cell? ⟨wr.heap.size, 1, none⟩ = some (.int .u64 s0) := by subst hW; simp [go_sem]
        have b2 : W5.cell? ⟨wr.heap.size, 2, none⟩ = some (.int .u64 s1) := by subst hW; simp [go_sem]
        have b3 : W5.cell? ⟨wr.heap.size, 3, none⟩ = some (.int .u64 s2) := by subst hW; simp [go_sem]
        have b4 : W5.cell? ⟨wr.heap.size, 4, none⟩ = some (.int .u64 s3) := by subst hW; simp [go_sem]
        have b5 : W5.cell? ⟨wr.heap.size, 5, none⟩ = some (.int .i64 nx) := by subst hW; simp [go_sem]
        have lb : wr.heap.size < W5.heap.size := by subst hW; simp
        have tx5 := (hb5.cell (p := ⟨T, i, none⟩) lT).trans tx
        have hT5 := HT5.out.later hb5
        have hO5 := HO5.out.trans (Off.of_below hb5)
        have p05 := (hb5.cell (p := ⟨w.heap.size, 0, none⟩) (by show w.heap.size < _; omega)).trans p0
        have p15 := (hb5.cell (p := ⟨w.heap.size, 1, none⟩) (by show w.heap.size < _; omega)).trans p1
        clear hW hb5 f0 f1 f2 f3 f4 f5 f6 p0 p1 tx HT5 HO5
        have HT5 := Lib.hid hT5; have HO5 := Lib.hid hO5
        clear hT5 hO5
        cases hth : Y.getD i false with
        | false =>
          rw [hth] at tx5
          have hfo : ((List.range l.length).drop (i + 1)).foldl (eatR l (a == 0) (a == subj.length) (byteN subj a) Y) Y2 = stepR l st subj a Y := by
            have := Hfo2.out
            rwa [if_neg (by rw [hth]; simp)] at this
          have Hfo := Lib.hid hfo
          clear hfo Hfo2 hth b0 b1' b2 b3 b4 b5 p05 p15
          go_quiet (fail)
          go_wp2_with fail
          go_roundg (gk - 1)
          case measure => omega
          case rel => exact ⟨i + 1, _, by go_num, by omega, Hfo.out, HT5.out.later (below_drewN _ _), HO5.out.trans (Off.of_below (below_drewN _ _))⟩
        | true =>
          rw [hth] at tx5
          have ha0 : a ≠ 0 := fun e => by have := HR.out.z e i; rw [hth] at this; cases this
          by_cases hk : sk = 1
          case' neg =>
            have ht : takes ⟨sk, s0, s1, s2, s3, nx, ot⟩ (byteN subj a) = false := by
              have : (sk == 1) = false := by simpa using hk
              unfold takes; rw [show (⟨sk, s0, s1, s2, s3, nx, ot⟩ : St).k = sk from rfl, this]; rfl
            have hfo : ((List.range l.length).drop (i + 1)).foldl (eatR l (a == 0) (a == subj.length) (byteN subj a) Y) Y2 = stepR l st subj a Y := by
              have := Hfo2.out
              rwa [if_neg (by rw [ht]; simp)] at this
            have Hfo := Lib.hid hfo
            have hkb : (sk == 1) = false := by simpa using hk
            clear hfo Hfo2 hth b1' b2 b3 b4 b5 p05 p15 hk ht
            go_quiet (fail)
            go_wp2_with fail
            go_roundg (gk - 1)
            case measure => omega
            case rel => exact ⟨i + 1, _, by go_num, by omega, Hfo.out, HT5.out.later (below_drewN _ _), HO5.out.trans (Off.of_below (below_drewN _ _))⟩
          case' pos =>
            subst hk
            have hidx : ∀ hh, ((bs subj)[a - 1]'hh).toNat = byteN subj a := idx_get subj a ha0 hle
            have ha5 : (1 : Int) ≤ (a : Int) := by omega
            have hcl : byteN subj a < 256 := by unfold byteN; exact UInt8.toNat_lt _
            have ha1 : 0 ≤ (a : Int) - 1 := by omega
            have ha2 : (a : Int) - 1 < (subj.length : Int) := by omega
            have ha3 : (bs subj).size = subj.length := by simp [bs, ByteArray.size]
            have hwr : IntKind.i64.wrap ((a : Int) - 1) = (a : Int) - 1 := IntWalk.i64_in _ (by omega)
            go_still_tail 16, (by kernel_rfl)
            change wpList _ _ _ _ _ W5.drew
            have hT6 := HT5.out.later (below_drewN W5 1)
            have hO6 := HO5.out.trans (Off.of_below (below_drewN W5 1))
            have b5d := ((below_drewN W5 1).cell (p := ⟨wr.heap.size, 5, none⟩) lb).trans b5
            have p05d := ((below_drewN W5 1).cell (p := ⟨w.heap.size, 0, none⟩) (by show w.heap.size < _; omega)).trans p05
            have p15d := ((below_drewN W5 1).cell (p := ⟨w.heap.size, 1, none⟩) (by show w.heap.size < _; omega)).trans p15
            have lb6 : wr.heap.size < (W5.drewN 1).heap.size := lb
            rw [show W5.drewN 1 = W5.drew from rfl] at hT6 hO6 b5d p05d p15d lb6
            clear b0 b1' b2 b3 b4 b5 p05 p15 tx5 lb
            generalize W5.drew = W6 at *
            have HT6 := Lib.hid hT6; have HO6 := Lib.hid hO6; have Hth := Lib.hid hth
            clear hT6 hO6 hth
            go_wp2_with fail
            refine (rbit_any W6 1 s0 s1 s2 s3 nx ot (byteN subj a) hcl Hws.out).mono ?_
            rintro en w7 ⟨rfl, hb7⟩
            have hT7 := HT6.out.later hb7
            have hO7 := HO6.out.trans (Off.of_below hb7)
            have b57 := (hb7.cell (p := ⟨wr.heap.size, 5, none⟩) lb6).trans b5d
            have p07 := (hb7.cell (p := ⟨w.heap.size, 0, none⟩) (by show w.heap.size < _; omega)).trans p05d
            have p17 := (hb7.cell (p := ⟨w.heap.size, 1, none⟩) (by show w.heap.size < _; omega)).trans p15d
            have hz7 := hb7.size
            have HT7 := Lib.hid hT7; have HO7 := Lib.hid hO7
            clear hT7 hO7 b5d p05d p15d HT6 HO6 hb7
            have hfo := Hfo2.out
            rw [show takes ⟨1, s0, s1, s2, s3, nx, ot⟩ (byteN subj a) = bitS ⟨1, s0, s1, s2, s3, nx, ot⟩ (byteN subj a) from rfl, Hth.out] at hfo
            cases hbt : bitS ⟨1, s0, s1, s2, s3, nx, ot⟩ (byteN subj a) with
            | false =>
              rw [hbt, if_neg (by simp)] at hfo
              have Hfo := Lib.hid hfo
              clear hfo Hfo2 hbt hidx ha5 ha1 ha2 hwr
              go_wp2_with fail
              go_roundg (gk - 1)
              case measure => omega
              case rel => exact ⟨i + 1, _, by go_num, by omega, Hfo.out, HT7.out, HO7.out⟩
            | true =>
              rw [hbt, if_pos (by simp)] at hfo
              have Hfo := Lib.hid hfo
              have hn1 := Hnx.out trivial
              obtain ⟨xn, rfl⟩ : ∃ xn : Nat, nx = xn := ⟨nx.toNat, Hnx2.out trivial⟩
              clear hfo Hfo2 hbt hidx ha5 ha1 ha2 hwr
              go_wp2_with fail
              have hS7 : StsAt w7 ok l (some ⟨gm, om, none⟩) c := HS3.out.mono (fun k hk => ⟨hk, fun o => HO7.out.cell (Hok3.out k hk) (fun e => HTo.out (e ▸ hk))⟩)
              have hzO7 := HO7.out.size
              refine (with_any w7 T2 l st HM.out ok (some ⟨gm, om, none⟩) c ((a : Int) == 0) ((a : Int) == (subj.length : Int)) hS7 (fun k hk => by have := Hok3.out k hk; omega) HTo.out _ HT7.out xn (by simpa using hn1)).mono ?_
              rintro en w8 ⟨rfl, hT8, hO8⟩
              rw [E1.out, E2.out] at hT8
              have HT8 := Lib.hid hT8; have HO8 := Lib.hid (HO7.out.trans hO8)
              clear hT8 hO8
              go_wp2_with fail
              go_roundg (gk - 1)
              case measure => omega
              case rel => exact ⟨i + 1, _, by go_num, by omega, by simpa only [Int.toNat_natCast] using Hfo.out, HT8.out, HO8.out⟩
      case' neg =>
        have hie : i = l.length := by omega
        have hY2 : Y2 = stepR l st subj a Y := by
          rw [← Hfo.out, List.drop_eq_nil_of_le (by simp; omega)]; rfl
        have hB5 : Below w1.heap.size w1 wr := HB3.out.trans (HO5.out.below (B := w1.heap.size) hzr hz3')
        have hov := HR.out.ov
        rw [show subj.length + 1 - a = (subj.length - a) + 1 by omega, overR, ← hY2] at hov
        have hYl := HT5.out.len
        have p0' : wr.cell? ⟨w.heap.size, 0, none⟩ = some (.slice A l.length c) := p0
        have hS5 : StsAt wr ok l A c := HS3.out.mono (fun k hk => ⟨hk, fun o => HO5.out.cell (Hok3.out k hk) (fun e => HTo.out (e ▸ hk))⟩)
        have hok5 : ∀ k, ok k → k < wr.heap.size := fun k hk => by have := Hok3.out k hk; omega
        have Hov := Lib.hid hov; have HB5 := Lib.hid hB5; have HY2 := Lib.hid hY2; have HS5 := Lib.hid hS5; have Hok5 := Lib.hid hok5
        clear hov hB5 hY2 hYq Hfo hS5 hok5 p0' E1 E2 Hstep HS3 Hok3 hmk HO5 HY3
        go_wp2_with fail
        generalize hwv : wr = wv at *
        go_loopg [8, 14, 15] l.length (fun k v8 v14 v15 wq => ∃ (j n : Nat), v8 = .int .i64 (n : Int) ∧ v14 = .bool (dnR l Y2 j) ∧ v15 = .int .i64 (j : Int) ∧ j + k = l.length ∧ n = s + (Y2.take j).countP id ∧ wq = wv)
        case atStart => exact ⟨0, s, rfl, rfl, rfl, by omega, by simp, rfl⟩
        case round =>
          obtain ⟨j, n, rfl, rfl, rfl, hj, hn, rfl⟩ := hrel
          have hnb : n ≤ s + 4096 := by
            have h1 : (Y2.take j).countP id ≤ (Y2.take j).length := List.countP_le_length
            have h2 : (Y2.take j).length ≤ j := List.length_take_le ..
            omega
          by_cases hlt : j < l.length
          case' pos =>
            have tx := HT5.out.th j hlt
            have lT := HT5.out.lT
            have hcs := cnt_succ Y2 j (by omega)
            have hds := dnR_succ l Y2 j
            cases hth : Y2.getD j false with
            | false =>
              rw [hth] at tx hcs hds
              have Hds := Lib.hid hds
              clear hds hth
              rw [if_neg (by simp)] at hcs
              have Hcs := Lib.hid hcs
              clear hcs
              go_wp2_with fail
              go_roundg (gk - 1)
              case measure => omega
              case rel => exact ⟨j + 1, n, rfl, by rw [Hds.out]; simp, by go_num, by omega, by rw [Hcs.out]; omega, rfl⟩
            | true =>
              rw [hth] at tx hcs hds
              rw [if_pos rfl] at hcs
              obtain ⟨gm, om, rfl, hgm, hst7⟩ := HS5.out.at_ hl0
              have hgl := Hok5.out gm hgm
              have hstx := (hst7 j hlt).f0
              have hsN : l[j] = stN l j := by unfold stN; rw [List.getD_eq_getElem?_getD, List.getElem?_eq_getElem hlt]; rfl
              rw [hsN] at hstx
              have hcap := HS5.out.cap
              have Hds := Lib.hid hds; have Hcs := Lib.hid hcs
              clear hst7 hsN hds hcs hth
              generalize hsk : (stN l j).k = sk at *
              have Hsk := Lib.hid hsk
              clear hsk
              cases hd : dnR l Y2 j with
              | true =>
                have Hd := Lib.hid hd
                clear hd
                go_wp2_with fail
                go_roundg (gk - 1)
                case measure => omega
                case rel => exact ⟨j + 1, n + 1, by go_num, by rw [Hds.out, Hd.out]; simp, by go_num, by omega, by rw [Hcs.out]; omega, rfl⟩
              | false =>
                have Hd := Lib.hid hd
                clear hd
                go_wp2_with fail
                go_roundg (gk - 1)
                case measure => omega
                case rel => exact ⟨j + 1, n + 1, by go_num, by rw [Hds.out, Hd.out]; simp, by go_num, by omega, by rw [Hcs.out]; omega, rfl⟩
          case' neg =>
            have hje : j = l.length := by omega
            have hnn : (s : Int) + cntR Y2 = (n : Int) := by
              rw [hn, hje, List.take_of_length_le (by omega)]; unfold cntR; push_cast; rfl
            have hdd : doneR l Y2 = dnR l Y2 j := by rw [hje]; rfl
            have hov := Hov.out
            rw [hdd, hnn] at hov
            cases hd : dnR l Y2 j with
            | true =>
              rw [hd, if_pos rfl] at hov
              have Hov := Lib.hid hov
              clear hov hd hdd hnn
              go_wp2_with fail
              try rw [Exit.noGoto_ret]
              exact bodyPost_ret (v := .tuple #[.bool true, .int .i64 (n : Int), .int .i64 0]) (by simp [results, Tryz.results16, go_sem]) rfl ⟨by rw [Hres.out, ← Hov.out], hB1.trans (HB5.out.mono hb0)⟩
            | false =>
              rw [hd, if_neg (by simp)] at hov
              have Hov := Lib.hid hov
              clear hov hd hdd hnn
              go_wp2_with fail
              go_roundg (subj.length - a)
              case measure => omega
              case rel => exact ⟨a + 1, n, T2, Y2, by go_num, rfl, by go_num, ⟨by omega, by omega, by rw [show subj.length + 1 - (a + 1) = subj.length - a by omega]; exact Hov.out, HT5.out, hzr, fun e => by omega, HB5.out⟩⟩
end Go.Proofs.YteekafkpeimhoaaGreat

/- vouchref12.Compile, vouchref12.Find: walked. (As match.Compile, match.Find.) -/
set_option linter.unusedVariables false
set_option linter.unusedSimpArgs false
namespace Go.Proofs.YteekafkpeimhoaaGreat
open Go.RowKit

theorem compL_w (s : Bs) : ∀ x ∈ compL s, WSt x := by
  unfold compL
  cases h : parseP s with
  | error e => intro x hx; simp at hx
  | ok t => exact makeL_w (parse_fine h).2.1
set_option maxRecDepth 100000 in
set_option maxHeartbeats 4000000 in
theorem rcomp_any (s : Bs) (w : World) :
    Calls Tryz.prog 6 #[.string (bs s)] w fun en w' => ∃ A c, en = .returned (.tuple #[nfaV (compL s) (compS s) A c, .int .i64 (compE s)]) ∧ w'.ownsRow w.heap.size 45 7 (.slice A (compL s).length c) (compL s).length (stCells (compL s)) ∧ Below w.heap.size w w' := by
  go_enter Tryz.func6, Tryz.ntmps6
  go_wp2_with fail
  generalize hW : w.alloc _ = W0
  have hB0 : Below w.heap.size w W0 := by subst hW; exact (Below.refl _ _).alloc (Nat.le_refl _) _
  have hz0 : w.heap.size < W0.heap.size := by subst hW; simp
  have P0 : At2 W0 w.heap.size (.slice none 0 0) 0 := by subst hW; constructor <;> simp [go_sem]
  have y0 : ∀ o, W0.frozen? ⟨w.heap.size, o, none⟩ = false := fun o => by subst hW; simp [go_sem]
  clear hW
  refine (qparse_any s W0).mono ?_
  rintro en w1 ⟨hb1, ⟨t, A, c, hp, rfl, hN⟩ | ⟨e, hp, he, rfl⟩⟩
  case inr =>
    have hz1 := hb1.size
    have P1 := P0.later hb1 hz0
    have y1 : ∀ o, w1.frozen? ⟨w.heap.size, o, none⟩ = false := fun o => (hb1.frozen (p := ⟨w.heap.size, o, none⟩) hz0).trans (y0 o)
    have hB1 := hB0.trans (hb1.mono (by omega))
    have hE : compE s = e := by unfold compE; rw [hp]
    have hL : compL s = [] := by unfold compL; rw [hp]
    have hS : compS s = 0 := by unfold compS; rw [hp]
    have HE := Lib.hid hE; have HL := Lib.hid hL; have HS := Lib.hid hS
    have heb : (e != 0) = true := by simpa using he
    obtain ⟨p0, p1⟩ := P1
    have q0 := y1 0; have q1 := y1 1
    have lq : w.heap.size < w1.heap.size := by omega
    clear hE hL hS hp he P0 y0 y1 hb1
    go_wp2_with fail
    generalize hW2 : (w1.setCell _ _).setCell _ _ = W2
    obtain ⟨r0, r1, hs2, hk2, hb2⟩ := two_set _ _ p0 p1 hW2.symm
    have hB2 := hb2 _ _ (Nat.le_refl _) hB1
    have lq2 : w.heap.size < W2.heap.size := by omega
    clear hW2 hk2
    have r0' := (((Below.refl W2.heap.size W2).alloc (Nat.le_refl _) (.cells #[.int .i64 none0.k, .int .u64 none0.s0, .int .u64 none0.s1, .int .u64 none0.s2, .int .u64 none0.s3, .int .i64 none0.mn, .int .i64 none0.mx, .slice none none0.ps.length 0] 39)).cell (p := ⟨w.heap.size, 0, none⟩) lq2).trans r0
    have r1' := (((Below.refl W2.heap.size W2).alloc (Nat.le_refl _) (.cells #[.int .i64 none0.k, .int .u64 none0.s0, .int .u64 none0.s1, .int .u64 none0.s2, .int .u64 none0.s3, .int .i64 none0.mn, .int .i64 none0.mx, .slice none none0.ps.length 0] 39)).cell (p := ⟨w.heap.size, 1, none⟩) lq2).trans r1
    have hB3 := hB2.trans (((Below.refl W2.heap.size W2).alloc (Nat.le_refl _) (.cells #[.int .i64 none0.k, .int .u64 none0.s0, .int .u64 none0.s1, .int .u64 none0.s2, .int .u64 none0.s3, .int .i64 none0.mn, .int .i64 none0.mx, .slice none none0.ps.length 0] 39)).mono (by omega))
    generalize hW3 : W2.alloc _ = W3 at *
    refine bodyPost_ret (v := .tuple #[.agg #[.slice none 0 0, .int .i64 0], .int .i64 e]) (by simp [results, Tryz.results6, r0', r1', go_sem]) rfl ⟨none, 0, by rw [HE.out, HL.out, HS.out]; rfl, ?_, hB3⟩
    rw [HL.out]; exact ⟨rfl, .inl ⟨rfl, rfl⟩⟩
  case inl =>
    have hz1 := hb1.size
    have P1 := P0.later hb1 hz0
    have y1 : ∀ o, w1.frozen? ⟨w.heap.size, o, none⟩ = false := fun o => (hb1.frozen (p := ⟨w.heap.size, o, none⟩) hz0).trans (y0 o)
    have hB1 := hB0.trans (hb1.mono (by omega))
    have hE : compE s = sizeE t := by unfold compE; rw [hp]
    have hL : compL s = makeL t := by unfold compL; rw [hp]
    have hS : compS s = makeS t := by unfold compS; rw [hp]
    have HE := Lib.hid hE; have HL := Lib.hid hL; have HS := Lib.hid hS
    have HN := Lib.hid hN
    have lq : w.heap.size < w1.heap.size := by omega
    clear hE hL hS hp P0 y0 hN
    go_wp2_with fail
    generalize hW2 : w1.alloc _ = W2
    have hb2 : Below w1.heap.size w1 W2 := by subst hW2; exact (Below.refl _ _).alloc (Nat.le_refl _) _
    have hN2 := HN.out.later hb2 (fun b hb => hb.2)
    have P2 := P1.later hb2 lq
    have y2 : ∀ o, W2.frozen? ⟨w.heap.size, o, none⟩ = false := fun o => (hb2.frozen (p := ⟨w.heap.size, o, none⟩) lq).trans (y1 o)
    have hz2 := hb2.size
    have hB2 := hB1.trans (hb2.mono (by omega))
    clear hW2 P1 y1
    refine (rmake_any t W2 _ A c hN2 (fun b hb => by omega)).mono ?_
    rintro en w3 ⟨v, rfl, ho3, hb3⟩
    obtain ⟨A3, c3, rfl⟩ := own_form ho3
    have P3 := P2.later hb3 (by omega)
    have y3 : ∀ o, w3.frozen? ⟨w.heap.size, o, none⟩ = false := fun o => (hb3.frozen (p := ⟨w.heap.size, o, none⟩) (by show w.heap.size < _; omega)).trans (y2 o)
    have hB3 := hB2.trans (hb3.mono (by omega))
    have hz3 := hb3.size
    obtain ⟨p0, p1⟩ := P3
    have q0 := y3 0; have q1 := y3 1
    have lq3 : w.heap.size < w3.heap.size := by omega
    have Ho3 := Lib.hid ho3
    clear P2 y2 y3 ho3 hN2
    go_wp2_with fail
    generalize hW4 : (w3.setCell _ _).setCell _ _ = W4
    obtain ⟨r0, r1, hs4, hk4, hb4⟩ := two_set _ _ p0 p1 hW4.symm
    have hB4 := hb4 _ _ (Nat.le_refl _) hB3
    have ho4 : W4.ownsRow W2.heap.size 45 7 (.slice A3 (makeL t).length c3) (makeL t).length (stCells (makeL t)) := by
      refine Ho3.out.kept (row := some w.heap.size) ⟨by subst hW4; rfl, by subst hW4; rfl, by subst hW4; rfl, by omega, fun k hk hne => hk4 k (by simpa using hne)⟩ (.inr fun e => ?_)
      have := (Ho3.out.lt _ e).1
      omega
    refine bodyPost_ret (v := .tuple #[.agg #[.slice A3 (makeL t).length c3, .int .i64 (makeS t)], .int .i64 (sizeE t)]) (by simp [results, Tryz.results6, r0, r1, go_sem]) rfl ⟨A3, c3, by rw [HE.out, HL.out, HS.out], ?_, hB4⟩
    rw [HL.out]
    exact ho4.mono (by omega)

set_option maxRecDepth 100000 in
set_option maxHeartbeats 4000000 in
theorem rfind_any (s subj : Bs) (w : World) :
    Calls Tryz.prog 7 #[.string (bs s), .string (bs subj)] w fun en w' => en = .returned (.tuple #[.bool (findF s subj).1, .int .i64 (findF s subj).2.1, .int .i64 (findF s subj).2.2]) ∧ Below w.heap.size w w' := by
  go_enter Tryz.func7, Tryz.ntmps7
  go_wp2_with fail
  refine (rcomp_any s w).mono ?_
  rintro en w1 ⟨A, c, rfl, ho1, hb1⟩
  have hl := compL_le s
  have Ho1 := Lib.hid ho1
  have hz1 := hb1.size
  clear ho1
  by_cases he : compE s = 0
  · have hres : findF s subj = hasF (compL s) (compS s) subj := by unfold findF; rw [if_neg (by simpa using he)]
    have Hres := Lib.hid hres
    have hb : (compE s != 0) = false := by rw [he]; rfl
    clear hres he
    go_wp2_with fail
    generalize hW2 : w1.alloc _ = W2
    have hb2 : Below w1.heap.size w1 W2 := by subst hW2; exact (Below.refl _ _).alloc (Nat.le_refl _) _
    have hz2 := hb2.size
    clear hW2
    refine (rhas_any W2 (fun b => b < W2.heap.size) (compL s) (compS s) A c (sts_all (own_later Ho1.out hb2) hl) (fun b h => h) (compL_w s) subj).mono ?_
    rintro en w3 ⟨rfl, hb3⟩
    go_wp2_with fail
    exact bodyPost_ret (v := .tuple #[.bool (hasF (compL s) (compS s) subj).1, .int .i64 (hasF (compL s) (compS s) subj).2.1, .int .i64 (hasF (compL s) (compS s) subj).2.2]) (by simp [results, Tryz.results7, go_sem]) rfl ⟨by rw [Hres.out], hb1.trans ((hb2.mono hz1).trans (hb3.mono (by omega)))⟩
  · have hres : findF s subj = (false, 0, compE s) := by unfold findF; rw [if_pos he]
    have Hres := Lib.hid hres
    have hb : (compE s != 0) = true := by rw [bne_iff_ne]; exact he
    clear hres he
    go_wp2_with fail
    exact bodyPost_ret (v := .tuple #[.bool false, .int .i64 0, .int .i64 (compE s)]) (by simp [results, Tryz.results7, go_sem]) rfl ⟨by rw [Hres.out], hb1.alloc hz1 _⟩
end Go.Proofs.YteekafkpeimhoaaGreat

