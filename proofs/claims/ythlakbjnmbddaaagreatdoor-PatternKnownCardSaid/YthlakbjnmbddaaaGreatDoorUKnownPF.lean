/- Merged texts, part of the proof KnownP: Ql, Qm, Qn, Qo, AppK, SpT, SpoilT, LReads, LOnce, LJoins, TellL, SetL, TellR, TellK, Tella, Tellb, Tellc. -/
import Derived.Test.YthlakbjnmbddaaaGreatDoorUKnownPA
import Derived.Test.YthlakbjnmbddaaaGreatDoorUKnownPB
import Derived.Test.YthlakbjnmbddaaaGreatDoorUKnownPC
import Derived.Test.YthlakbjnmbddaaaGreatDoorUKnownPD
import Derived.Test.YthlakbjnmbddaaaGreatDoorUKnownPE
import Derived.WalkKit
import Derived.Deep.LoopGhost
import Derived.Lib.Hide
import Derived.Laws.IdiomStrings
import Derived.Deep.DeepCutAuto
/- vouchref10's Reader: lists of nodes; alternative: walked. -/
set_option linter.unusedVariables false
set_option linter.unusedSimpArgs false
namespace Go.Proofs.YthlakbjnmbddaaaGreatDoor
open Go.RowKit

/-- A list of nodes that a call lays, in its own row behind the block bx; beside the result's box and the Reader. -/
structure LstQ (p : Nat) (St : Bs) (op : Int) (w : World) (bx : Nat) (n : Nat) (ns : List Nx) (Av : Option Addr) (cv : Nat) (k : Nat) (s : Rs) (wr : World) : Prop where
  len : ns.length = n
  R : BlkX wr w.heap.size (xcell (.mk 0 0 0 0 0 0 0 [], none, 0)).toArray
  b1 : w.heap.size ≤ bx
  b2 : bx < wr.heap.size
  own : wr.ownsRow (bx + 1) 48 8 (.slice Av n cv) n (xcells ns)
  nodes : ∀ x ∈ ns, NodeAt wr (fun b => w.heap.size < b ∧ b < wr.heap.size ∧ b ≠ bx ∧ some b ≠ (Value.slice Av n cv).ownBlock) x.1 x.2.1 x.2.2
  S : RQ wr p St k op s
  O : Off p w wr
theorem LstQ.off {p : Nat} {St : Bs} {op : Int} {w : World} {bx n : Nat} {ns : List Nx} {Av : Option Addr} {cv k k1 : Nat} {s s' : Rs} {wr w1 : World} (h : LstQ p St op w bx n ns Av cv k s wr) (hp : p < w.heap.size) (hO : Off p wr w1) (hS : RQ w1 p St k1 op s') : LstQ p St op w bx n ns Av cv k1 s' w1 := by
  have hz := hO.size
  have hb1 := h.b1
  refine ⟨h.len, Off.blk hO h.R (by omega), h.b1, Nat.lt_of_lt_of_le h.b2 hz, h.own.kept hO ?_, fun x hx => (h.nodes x hx).mono fun b (hb : w.heap.size < b ∧ b < wr.heap.size ∧ b ≠ bx ∧ some b ≠ (Value.slice Av n cv).ownBlock) => ⟨⟨hb.1, by omega, hb.2.2⟩, fun o => Off.cell hO hb.2.1 (by omega)⟩, hS, Off.trans h.O hO⟩
  cases hv : (Value.slice Av n cv).ownBlock with
  | none => exact .inl rfl
  | some k => have := h.own.lt k hv; exact .inr (by simp; omega)
/-- The box bx written. -/
theorem LstQ.box {p : Nat} {St : Bs} {op : Int} {w : World} {bx n : Nat} {ns : List Nx} {Av : Option Addr} {cv k : Nat} {s : Rs} {wr : World} (h : LstQ p St op w bx n ns Av cv k s wr) (hp : p < w.heap.size) (hb : w.heap.size < bx) (y : Nx) : LstQ p St op w bx n ns Av cv k s (writeX wr bx y) := by
  have hk : ∀ b, b ≠ bx → (writeX wr bx y).heap[b]? = wr.heap[b]? := fun b hb => writeX_other _ _ _ _ hb
  have hz := writeX_size wr bx y
  have hbel := writeX_below (Below.refl bx wr) (Nat.le_refl _) y
  refine ⟨h.len, h.R.keep (hk _ (by omega)), h.b1, by rw [hz]; exact h.b2, h.own.kept (row := some bx) ⟨hbel.os, hbel.tape, hbel.output, by omega, fun b hb hne => hk b (by simpa using hne)⟩ ?_, fun x hx => (h.nodes x hx).mono fun b (hb : w.heap.size < b ∧ b < wr.heap.size ∧ b ≠ bx ∧ some b ≠ (Value.slice Av n cv).ownBlock) => ⟨⟨hb.1, by omega, hb.2.2⟩, fun o => World.cell?_of_block (w := wr) (a := ⟨b, o, none⟩) (hk b hb.2.2.1)⟩, h.S.boxX (by omega) y, Off.boxW h.O h.b1 y⟩
  cases hv : (Value.slice Av n cv).ownBlock with
  | none => exact .inl rfl
  | some k => have := h.own.lt k hv; exact .inr (by simp; omega)
theorem LstQ.push {p : Nat} {St : Bs} {op : Int} {w : World} {bx n : Nat} {ns : List Nx} {Av A' : Option Addr} {cv c' k : Nat} {s : Rs} {W w0 w2 : World} (h : LstQ p St op w bx n ns Av cv k s W) (hp : p < w.heap.size) (x : Nx) (hx : NodeAt W (fun b => w.heap.size < b ∧ b < W.heap.size ∧ b ≠ bx ∧ some b ≠ (Value.slice Av n cv).ownBlock) x.1 x.2.1 x.2.2)
    (h0 : Below W.heap.size W w0) (h1 : w2.ownsRow (bx + 1) 48 8 (.slice A' (n + 1) c') (n + 1) (xcells ns ++ xcell x)) (h2 : w0.grownBy w2 (Value.slice Av n cv).ownBlock) (h3 : (Value.slice A' (n + 1) c').ownBlock = (Value.slice Av n cv).ownBlock ∨ (Value.slice A' (n + 1) c').ownBlock = some w0.heap.size) :
    LstQ p St op w bx (n + 1) (ns ++ [x]) A' c' k s w2 := by
  have hz0 := h0.size
  have hz2 := h2.size
  have hb1 := h.b1
  have hb2 := h.b2
  have hblk : ∀ b, b < W.heap.size → some b ≠ (Value.slice Av n cv).ownBlock → w2.heap[b]? = W.heap[b]? := fun b hb hne => (h2.block b (by omega) hne).trans (h0.block b hb)
  have hrow1 : ∀ k, (Value.slice Av n cv).ownBlock = some k → bx + 1 ≤ k := fun k hk => (h.own.lt k hk).1
  have hne : ∀ b, b < bx + 1 → some b ≠ (Value.slice Av n cv).ownBlock := fun b hb e => by have := hrow1 b e.symm; omega
  have hpW := h.S.lt
  refine ⟨by simp [h.len], h.R.keep (hblk _ h.R.lt (hne _ (by omega))), h.b1, by omega, by rw [xcells_snoc]; exact h1, fun y hy => ?_, rq_kept h.S (by omega) (hblk p hpW (hne _ (by omega))), ?_⟩
  · have key : ∀ b, w.heap.size < b → b < W.heap.size → b ≠ bx → some b ≠ (Value.slice Av n cv).ownBlock → (w.heap.size < b ∧ b < w2.heap.size ∧ b ≠ bx ∧ some b ≠ (Value.slice A' (n + 1) c').ownBlock) ∧ ∀ o, w2.cell? ⟨b, o, none⟩ = W.cell? ⟨b, o, none⟩ := fun b hb1 hb2 hbx hb3 => by
      refine ⟨⟨hb1, by omega, hbx, ?_⟩, fun o => World.cell?_of_block (w := W) (a := ⟨b, o, none⟩) (hblk b hb2 hb3)⟩
      rcases h3 with e | e
      · rw [e]; exact hb3
      · rw [e]; intro e'; simp only [Option.some.injEq] at e'; omega
    rcases List.mem_append.1 hy with hy | hy
    · exact (h.nodes y hy).mono fun b (hb : w.heap.size < b ∧ b < W.heap.size ∧ b ≠ bx ∧ some b ≠ (Value.slice Av n cv).ownBlock) => key b hb.1 hb.2.1 hb.2.2.1 hb.2.2.2
    · simp only [List.mem_singleton] at hy
      subst hy
      exact hx.mono fun b (hb : w.heap.size < b ∧ b < W.heap.size ∧ b ≠ bx ∧ some b ≠ (Value.slice Av n cv).ownBlock) => key b hb.1 hb.2.1 hb.2.2.1 hb.2.2.2
  · have hO := h.O
    have hzW := hO.size
    exact ⟨(h2.os.trans h0.os).trans hO.os, (h2.tape.trans h0.tape).trans hO.tape, (h2.output.trans h0.output).trans hO.output, by omega, fun k hk hkp => (hblk k (by omega) (hne k (by omega))).trans (hO.block k hk hkp)⟩
/-- The list's own node. -/
theorem LstQ.node {p : Nat} {St : Bs} {op : Int} {w : World} {bx n : Nat} {ns : List Nx} {Av : Option Addr} {cv k : Nat} {s : Rs} {wr : World} (h : LstQ p St op w bx n ns Av cv k s wr) (hn : 0 < n) (hn2 : n ≤ 17592186044416) (R : T) (hR : R.ps = ns.map (·.1)) : NodeAt wr (fun b => w.heap.size < b ∧ b < wr.heap.size) R Av cv := by
  have hb1 := h.b1
  obtain ⟨g, hA, hg0, hg, hc⟩ : ∃ g, Av = some ⟨g, 0, none⟩ ∧ bx + 1 ≤ g ∧ g < wr.heap.size ∧ n ≤ cv := by
    rcases h.own.2 with ⟨_, h0⟩ | ⟨g, cap, cur, e, hb, hh, hcap, _⟩
    · omega
    · simp only [Value.slice.injEq] at e
      exact ⟨g, e.1, hb, by (rcases Nat.lt_or_ge g wr.heap.size with h' | h'; exact h'; rw [Array.getElem?_eq_none h'] at hh; simp at hh), by omega⟩
  subst hA
  have h8 : ∀ (i : Nat) (x : Nx), ns[i]? = some x → At8 wr g (i * 8) x.1 x.2.1 x.2.2 := fun i x hi => .ofX fun j hj => by
    have hl := (List.getElem?_eq_some_iff.1 hi).1
    have hx : ns[i] = x := (List.getElem?_eq_some_iff.1 hi).2
    rw [h.own.cellAt (i * 8 + j) (by have := h.len; omega), xcells_get ns i j hl hj, hx]
  have hm := node_litX (W := wr) (ok := fun b => w.heap.size < b ∧ b < wr.heap.size) (g := g) R ns hR (by rw [h.len]; exact hn2) ⟨by omega, hg⟩ h8 (fun i x hi => (h.nodes x (List.mem_of_getElem? hi)).mono fun b (hb : w.heap.size < b ∧ b < wr.heap.size ∧ b ≠ bx ∧ some b ≠ _) => ⟨⟨hb.1, hb.2.1⟩, fun o => rfl⟩)
  exact hm.widerX (by rw [hR, List.length_map, h.len]; exact hc)
/-- The first node of a list, in memory. -/
theorem LstQ.first {p : Nat} {St : Bs} {op : Int} {w : World} {bx n : Nat} {ns : List Nx} {Av : Option Addr} {cv k : Nat} {s : Rs} {wr : World} (h : LstQ p St op w bx n ns Av cv k s wr) (hn : 0 < n) : ∃ g x, Av = some ⟨g, 0, none⟩ ∧ ns[0]? = some x ∧ At8 wr g 0 x.1 x.2.1 x.2.2 ∧ g < wr.heap.size ∧ n ≤ cv ∧ NodeAt wr (fun b => w.heap.size < b ∧ b < wr.heap.size) x.1 x.2.1 x.2.2 := by
  have hb1 := h.b1
  obtain ⟨g, hA, hg0, hg, hc⟩ : ∃ g, Av = some ⟨g, 0, none⟩ ∧ bx + 1 ≤ g ∧ g < wr.heap.size ∧ n ≤ cv := by
    rcases h.own.2 with ⟨_, h0⟩ | ⟨g, cap, cur, e, hb, hh, hcap, _⟩
    · omega
    · simp only [Value.slice.injEq] at e
      exact ⟨g, e.1, hb, by (rcases Nat.lt_or_ge g wr.heap.size with h' | h'; exact h'; rw [Array.getElem?_eq_none h'] at hh; simp at hh), by omega⟩
  subst hA
  have hl : 0 < ns.length := by rw [h.len]; exact hn
  refine ⟨g, ns[0], rfl, List.getElem?_eq_getElem hl, .ofX fun j hj => ?_, hg, hc, (h.nodes _ (List.getElem_mem hl)).mono fun b (hb : w.heap.size < b ∧ b < wr.heap.size ∧ b ≠ bx ∧ some b ≠ _) => ⟨⟨hb.1, hb.2.1⟩, fun o => rfl⟩⟩
  have := h.own.cellAt j (by have := h.len; omega)
  rw [Nat.zero_add, this]
  have e := xcells_get ns 0 j hl hj
  simpa using e
/-- Where the loop of alternative stands. -/
def AltL (p : Nat) (St : Bs) (op : Int) (grp : Bs → PT) (s : Rs) (w : World) (v : Value) (wr : World) (m : Nat) : Prop :=
  ∃ (n : Nat) (ns : List Nx) (Av : Option Addr) (cv : Nat) (k : Nat) (s' : Rs), v = .slice Av n cv ∧ m = s'.rest.length + 1 ∧ n + s'.rest.length ≤ 1024 ∧ LstQ p St op w w.heap.size n ns Av cv k s' wr ∧
    ((∃ e, s' = .error e ∧ (s = .error e ∨ ∃ r, s = .ok r ∧ rowP grp r = .error e)) ∨ ∃ r r' k, s = .ok r ∧ s' = .ok r' ∧ r'.length < k ∧ piecesP grp (r.length + 1) [] r = piecesP grp k (ns.map fun x : Nx => x.1) r')
theorem RQ.rest {w : World} {p : Nat} {S : Bs} {k : Nat} {op : Int} {s : Rs} (h : RQ w p S k op s) : s.rest.length ≤ 1024 := by
  cases s with
  | error e => simp [Rs.rest]
  | ok r => have := h.len; have := h.rdr.top; simp only [Rs.rest]; omega
theorem take_head {a c : UInt8} {t : Bs} (h : c = a) : takeP [a] (c :: t) = some t := by rw [takeP_one, if_pos h.symm]
theorem take_no {a c : UInt8} {t : Bs} (h : c ≠ a) : takeP [a] (c :: t) = none := by rw [takeP_one, if_neg (fun e => h e.symm)]
set_option maxRecDepth 100000 in
set_option maxHeartbeats 8000000 in
theorem qalt_any (w : World) (p : Nat) (St : Bs) (k : Nat) (op : Int) (s : Rs) (h : RQ w p St k op s) (grp : Bs → PT) (hgl : GrpLen grp)
    (hG : (∃ r, s = .ok r) → ∀ (w : World) (k : Nat) (r : Bs), RQ w p St k op (.ok r) → Calls Tryz.prog 135 #[.pointer (some ⟨p, 0, none⟩)] w fun en w' => QNode p St op grp (.ok r) w en w') :
    Calls Tryz.prog 85 #[.pointer (some ⟨p, 0, none⟩)] w fun en w' => QNode p St op (rowP grp) s w en w' := by
  have hlt := h.lt
  have hs := h.rest
  have HP := Lib.hid (fun (hsr : ∃ r, s = .ok r) (w : World) (k0 : Nat) (cc : UInt8) (tt : Bs) (h : RQ w p St k0 op (.ok (cc :: tt))) => qpiece_any w p St k0 op cc tt grp h (hG hsr))
  have H := Lib.hid h; have HGl := Lib.hid hgl
  clear h hG hgl
  go_enter Tryz.func85, Tryz.ntmps85
  go_upto_region 1 with fail
  generalize hW : w.alloc _ = W0
  have hB0 : Below w.heap.size w W0 := by subst hW; exact (Below.refl _ _).alloc (Nat.le_refl _) _
  have R0 : BlkX W0 w.heap.size (xcell (.mk 0 0 0 0 0 0 0 [], none, 0)).toArray := by subst hW; exact BlkX.new w _
  clear hW
  have hI : AltL p St op grp s w (.slice none 0 0) W0 (s.rest.length + 1) := by
    refine ⟨0, [], none, 0, k, s, rfl, rfl, by omega, ⟨rfl, R0, Nat.le_refl _, R0.lt, ⟨rfl, .inl ⟨rfl, rfl⟩⟩, fun x hx => by simp at hx, H.out.later hB0, Off.of_below hB0⟩, ?_⟩
    rcases s with e | r
    · exact .inl ⟨e, rfl, .inl rfl⟩
    · exact .inr ⟨r, r, r.length + 1, rfl, rfl, by omega, rfl⟩
  have HI := Lib.hid hI; clear hI hB0 R0
  go_wp2_with fail
  go_loopg [3] (s.rest.length + 1) (fun m v wr => AltL p St op grp s w v wr m)
  case atStart => exact HI.out
  case round =>
    clear HI H
    obtain ⟨n, ns, Av, cv, kr, s', rfl, hm, hnl, hL, hcase⟩ := hrel
    have HL := Lib.hid hL; have HC := Lib.hid hcase; have Hm := Lib.hid hm
    have Hd := Lib.hid (done_q hL.S)
    clear hL hcase hm
    go_wp2_with fail
    refine Hd.out.mono ?_
    rintro en w1 ⟨rfl, h1, hO1⟩
    have HL := Lib.hid (HL.out.off hlt hO1 h1)
    clear h1 hO1 Hd
    rcases s' with e | (_ | ⟨c, t⟩)
    · rw [show doneS (.error e) = true from rfl]
      have Hfin := Lib.hid (show Out (rowP grp) s (fun t => joinT 4 (ns.map fun x : Nx => x.1) = t) (.error e) by
        rcases HC.out with ⟨e', he, hs⟩ | ⟨r, r', k, _, he, _⟩
        · cases he
          rcases hs with rfl | ⟨r, rfl, hr⟩
          · exact Out.err
          · exact Out.bad hr
        · cases he)
      clear HC Hm
      have hn3 : n = 0 ∨ n = 1 ∨ 2 ≤ n := by omega
      rcases hn3 with rfl | rfl | hn2
      · have hns : ns = [] := List.eq_nil_of_length_eq_zero HL.out.len
        subst hns
        obtain ⟨⟨r0, r1, r2, r3, r4, r5, r6, r7⟩, hz⟩ := HL.out.R.cells8
        have z0 := hz 0; have z1 := hz 1; have z2 := hz 2; have z3 := hz 3; have z4 := hz 4; have z5 := hz 5; have z6 := hz 6; have z7 := hz 7
        have lr := HL.out.R.lt
        clear hz
        go_wp2_with fail
        change bodyPost _ _ _ _ _ (writeX w1 w.heap.size (T.mk 0 0 0 0 0 0 0 [], none, 0))
        have hfn := writeX_blk HL.out.R (T.mk 0 0 0 0 0 0 0 [], none, 0)
        obtain ⟨⟨y0, y1, y2, y3, y4, y5, y6, y7⟩, _⟩ := hfn.cells8
        have hRS := HL.out.S.boxX (b := w.heap.size) (by omega) (T.mk 0 0 0 0 0 0 0 [], none, 0)
        have hOff := Off.boxW HL.out.O (Nat.le_refl _) (T.mk 0 0 0 0 0 0 0 [], none, 0)
        have hNod : NodeAt (writeX w1 w.heap.size (T.mk 0 0 0 0 0 0 0 [], none, 0)) (fun b => w.heap.size ≤ b ∧ b < (writeX w1 w.heap.size (T.mk 0 0 0 0 0 0 0 [], none, 0)).heap.size) (((T.mk 0 0 0 0 0 0 0 [], none, 0) : Nx)).1 (((T.mk 0 0 0 0 0 0 0 [], none, 0) : Nx)).2.1 (((T.mk 0 0 0 0 0 0 0 [], none, 0) : Nx)).2.2 := nodeAt_leafX _ _ _ rfl
        generalize writeX w1 w.heap.size (T.mk 0 0 0 0 0 0 0 [], none, 0) = W3 at *
        exact bodyPost_ret (v := nodeV (((T.mk 0 0 0 0 0 0 0 [], none, 0) : Nx)).1 (((T.mk 0 0 0 0 0 0 0 [], none, 0) : Nx)).2.1 (((T.mk 0 0 0 0 0 0 0 [], none, 0) : Nx)).2.2) (by simp [results, Tryz.results85, y0, y1, y2, y3, y4, y5, y6, y7, go_sem]) rfl ⟨(T.mk 0 0 0 0 0 0 0 [], none, 0), kr, _, rfl, hNod, hRS, hOff, Hfin.out⟩
      · obtain ⟨g, ⟨t1, A1, c1⟩, rfl, hx, h8, hg, hcv, hnd⟩ := HL.out.first (by omega)
        have hj : joinT 4 (ns.map fun x : Nx => x.1) = t1 := by
          have hl := HL.out.len
          match ns, hl, hx with
          | [y], _, hx => simp at hx; subst hx; rfl
        have Hj := Lib.hid hj; have Hnd := Lib.hid hnd
        obtain ⟨f0, f1, f2, f3, f4, f5, f6, f7⟩ := h8
        simp only [Nat.zero_add] at f1 f2 f3 f4 f5 f6 f7
        clear hj hnd hx
        obtain ⟨⟨r0, r1, r2, r3, r4, r5, r6, r7⟩, hz⟩ := HL.out.R.cells8
        have z0 := hz 0; have z1 := hz 1; have z2 := hz 2; have z3 := hz 3; have z4 := hz 4; have z5 := hz 5; have z6 := hz 6; have z7 := hz 7
        have lr := HL.out.R.lt
        clear hz
        go_wp2_with fail
        change bodyPost _ _ _ _ _ (writeX w1 w.heap.size (t1, A1, c1))
        have hfn := writeX_blk HL.out.R (t1, A1, c1)
        obtain ⟨⟨y0, y1, y2, y3, y4, y5, y6, y7⟩, _⟩ := hfn.cells8
        have hRS := HL.out.S.boxX (b := w.heap.size) (by omega) (t1, A1, c1)
        have hOff := Off.boxW HL.out.O (Nat.le_refl _) (t1, A1, c1)
        have hNod : NodeAt (writeX w1 w.heap.size (t1, A1, c1)) (fun b => w.heap.size ≤ b ∧ b < (writeX w1 w.heap.size (t1, A1, c1)).heap.size) (((t1, A1, c1) : Nx)).1 (((t1, A1, c1) : Nx)).2.1 (((t1, A1, c1) : Nx)).2.2 := Hnd.out.mono fun k (hk : w.heap.size < k ∧ k < w1.heap.size) => ⟨⟨by omega, by rw [writeX_size]; exact hk.2⟩, fun o => World.cell?_of_block (w := w1) (a := ⟨k, o, none⟩) (writeX_other _ _ _ _ (show k ≠ w.heap.size by omega))⟩
        generalize writeX w1 w.heap.size (t1, A1, c1) = W3 at *
        exact bodyPost_ret (v := nodeV (((t1, A1, c1) : Nx)).1 (((t1, A1, c1) : Nx)).2.1 (((t1, A1, c1) : Nx)).2.2) (by simp [results, Tryz.results85, y0, y1, y2, y3, y4, y5, y6, y7, go_sem]) rfl ⟨(t1, A1, c1), kr, _, rfl, hNod, hRS, hOff, by have := Hfin.out; rw [Hj.out] at this; exact this⟩
      · obtain rfl : n = (ns.map fun x : Nx => x.1).length := by simp [HL.out.len]
        have hnd := HL.out.node (by omega) (by omega) (.mk 4 0 0 0 0 0 0 (ns.map fun x : Nx => x.1)) rfl
        have hj : joinT 4 (ns.map fun x : Nx => x.1) = .mk 4 0 0 0 0 0 0 (ns.map fun x : Nx => x.1) := by
          generalize ns.map (fun x : Nx => x.1) = l at hn2
          match l, hn2 with
          | a :: b :: l, _ => rfl
        have hb0 : (((ns.map fun x : Nx => x.1).length : Int) == 0) = false := by rw [beq_eq_false_iff_ne]; omega
        have hb1 : (((ns.map fun x : Nx => x.1).length : Int) == 1) = false := by rw [beq_eq_false_iff_ne]; omega
        have Hj := Lib.hid hj; have Hnd := Lib.hid hnd
        clear hj hnd
        generalize hl : (ns.map fun x : Nx => x.1) = l at *
        obtain ⟨⟨r0, r1, r2, r3, r4, r5, r6, r7⟩, hz⟩ := HL.out.R.cells8
        have z0 := hz 0; have z1 := hz 1; have z2 := hz 2; have z3 := hz 3; have z4 := hz 4; have z5 := hz 5; have z6 := hz 6; have z7 := hz 7
        have lr := HL.out.R.lt
        clear hz
        go_wp2_with fail
        change bodyPost _ _ _ _ _ (writeX w1 w.heap.size (T.mk 4 0 0 0 0 0 0 l, Av, cv))
        have hfn := writeX_blk HL.out.R (T.mk 4 0 0 0 0 0 0 l, Av, cv)
        obtain ⟨⟨y0, y1, y2, y3, y4, y5, y6, y7⟩, _⟩ := hfn.cells8
        have hRS := HL.out.S.boxX (b := w.heap.size) (by omega) (T.mk 4 0 0 0 0 0 0 l, Av, cv)
        have hOff := Off.boxW HL.out.O (Nat.le_refl _) (T.mk 4 0 0 0 0 0 0 l, Av, cv)
        have hNod : NodeAt (writeX w1 w.heap.size (T.mk 4 0 0 0 0 0 0 l, Av, cv)) (fun b => w.heap.size ≤ b ∧ b < (writeX w1 w.heap.size (T.mk 4 0 0 0 0 0 0 l, Av, cv)).heap.size) (((T.mk 4 0 0 0 0 0 0 l, Av, cv) : Nx)).1 (((T.mk 4 0 0 0 0 0 0 l, Av, cv) : Nx)).2.1 (((T.mk 4 0 0 0 0 0 0 l, Av, cv) : Nx)).2.2 := Hnd.out.mono fun k (hk : w.heap.size < k ∧ k < w1.heap.size) => ⟨⟨by omega, by rw [writeX_size]; exact hk.2⟩, fun o => World.cell?_of_block (w := w1) (a := ⟨k, o, none⟩) (writeX_other _ _ _ _ (show k ≠ w.heap.size by omega))⟩
        generalize writeX w1 w.heap.size (T.mk 4 0 0 0 0 0 0 l, Av, cv) = W3 at *
        exact bodyPost_ret (v := nodeV (((T.mk 4 0 0 0 0 0 0 l, Av, cv) : Nx)).1 (((T.mk 4 0 0 0 0 0 0 l, Av, cv) : Nx)).2.1 (((T.mk 4 0 0 0 0 0 0 l, Av, cv) : Nx)).2.2) (by simp [results, Tryz.results85, y0, y1, y2, y3, y4, y5, y6, y7, go_sem]) rfl ⟨(T.mk 4 0 0 0 0 0 0 l, Av, cv), kr, _, rfl, hNod, hRS, hOff, by have := Hfin.out; rw [Hj.out] at this; exact this⟩
    · rw [show doneS (.ok []) = true from rfl]
      have Hfin := Lib.hid (show Out (rowP grp) s (fun t => joinT 4 (ns.map fun x : Nx => x.1) = t) (.ok []) by
        rcases HC.out with ⟨e', he, _⟩ | ⟨r, r', k, rfl, he, hk, hpp⟩
        · cases he
        · cases he
          obtain ⟨k', rfl⟩ : ∃ k', k = k' + 1 := ⟨k - 1, by simp at hk; omega⟩
          refine Out.good (x := joinT 4 (ns.map fun x : Nx => x.1)) ?_ rfl
          unfold rowP
          rw [hpp, piecesP, if_pos (show endsRow [] = true from rfl)])
      clear HC Hm
      have hn3 : n = 0 ∨ n = 1 ∨ 2 ≤ n := by omega
      rcases hn3 with rfl | rfl | hn2
      · have hns : ns = [] := List.eq_nil_of_length_eq_zero HL.out.len
        subst hns
        obtain ⟨⟨r0, r1, r2, r3, r4, r5, r6, r7⟩, hz⟩ := HL.out.R.cells8
        have z0 := hz 0; have z1 := hz 1; have z2 := hz 2; have z3 := hz 3; have z4 := hz 4; have z5 := hz 5; have z6 := hz 6; have z7 := hz 7
        have lr := HL.out.R.lt
        clear hz
        go_wp2_with fail
        change bodyPost _ _ _ _ _ (writeX w1 w.heap.size (T.mk 0 0 0 0 0 0 0 [], none, 0))
        have hfn := writeX_blk HL.out.R (T.mk 0 0 0 0 0 0 0 [], none, 0)
        obtain ⟨⟨y0, y1, y2, y3, y4, y5, y6, y7⟩, _⟩ := hfn.cells8
        have hRS := HL.out.S.boxX (b := w.heap.size) (by omega) (T.mk 0 0 0 0 0 0 0 [], none, 0)
        have hOff := Off.boxW HL.out.O (Nat.le_refl _) (T.mk 0 0 0 0 0 0 0 [], none, 0)
        have hNod : NodeAt (writeX w1 w.heap.size (T.mk 0 0 0 0 0 0 0 [], none, 0)) (fun b => w.heap.size ≤ b ∧ b < (writeX w1 w.heap.size (T.mk 0 0 0 0 0 0 0 [], none, 0)).heap.size) (((T.mk 0 0 0 0 0 0 0 [], none, 0) : Nx)).1 (((T.mk 0 0 0 0 0 0 0 [], none, 0) : Nx)).2.1 (((T.mk 0 0 0 0 0 0 0 [], none, 0) : Nx)).2.2 := nodeAt_leafX _ _ _ rfl
        generalize writeX w1 w.heap.size (T.mk 0 0 0 0 0 0 0 [], none, 0) = W3 at *
        exact bodyPost_ret (v := nodeV (((T.mk 0 0 0 0 0 0 0 [], none, 0) : Nx)).1 (((T.mk 0 0 0 0 0 0 0 [], none, 0) : Nx)).2.1 (((T.mk 0 0 0 0 0 0 0 [], none, 0) : Nx)).2.2) (by simp [results, Tryz.results85, y0, y1, y2, y3, y4, y5, y6, y7, go_sem]) rfl ⟨(T.mk 0 0 0 0 0 0 0 [], none, 0), kr, _, rfl, hNod, hRS, hOff, Hfin.out⟩
      · obtain ⟨g, ⟨t1, A1, c1⟩, rfl, hx, h8, hg, hcv, hnd⟩ := HL.out.first (by omega)
        have hj : joinT 4 (ns.map fun x : Nx => x.1) = t1 := by
          have hl := HL.out.len
          match ns, hl, hx with
          | [y], _, hx => simp at hx; subst hx; rfl
        have Hj := Lib.hid hj; have Hnd := Lib.hid hnd
        obtain ⟨f0, f1, f2, f3, f4, f5, f6, f7⟩ := h8
        simp only [Nat.zero_add] at f1 f2 f3 f4 f5 f6 f7
        clear hj hnd hx
        obtain ⟨⟨r0, r1, r2, r3, r4, r5, r6, r7⟩, hz⟩ := HL.out.R.cells8
        have z0 := hz 0; have z1 := hz 1; have z2 := hz 2; have z3 := hz 3; have z4 := hz 4; have z5 := hz 5; have z6 := hz 6; have z7 := hz 7
        have lr := HL.out.R.lt
        clear hz
        go_wp2_with fail
        change bodyPost _ _ _ _ _ (writeX w1 w.heap.size (t1, A1, c1))
        have hfn := writeX_blk HL.out.R (t1, A1, c1)
        obtain ⟨⟨y0, y1, y2, y3, y4, y5, y6, y7⟩, _⟩ := hfn.cells8
        have hRS := HL.out.S.boxX (b := w.heap.size) (by omega) (t1, A1, c1)
        have hOff := Off.boxW HL.out.O (Nat.le_refl _) (t1, A1, c1)
        have hNod : NodeAt (writeX w1 w.heap.size (t1, A1, c1)) (fun b => w.heap.size ≤ b ∧ b < (writeX w1 w.heap.size (t1, A1, c1)).heap.size) (((t1, A1, c1) : Nx)).1 (((t1, A1, c1) : Nx)).2.1 (((t1, A1, c1) : Nx)).2.2 := Hnd.out.mono fun k (hk : w.heap.size < k ∧ k < w1.heap.size) => ⟨⟨by omega, by rw [writeX_size]; exact hk.2⟩, fun o => World.cell?_of_block (w := w1) (a := ⟨k, o, none⟩) (writeX_other _ _ _ _ (show k ≠ w.heap.size by omega))⟩
        generalize writeX w1 w.heap.size (t1, A1, c1) = W3 at *
        exact bodyPost_ret (v := nodeV (((t1, A1, c1) : Nx)).1 (((t1, A1, c1) : Nx)).2.1 (((t1, A1, c1) : Nx)).2.2) (by simp [results, Tryz.results85, y0, y1, y2, y3, y4, y5, y6, y7, go_sem]) rfl ⟨(t1, A1, c1), kr, _, rfl, hNod, hRS, hOff, by have := Hfin.out; rw [Hj.out] at this; exact this⟩
      · obtain rfl : n = (ns.map fun x : Nx => x.1).length := by simp [HL.out.len]
        have hnd := HL.out.node (by omega) (by omega) (.mk 4 0 0 0 0 0 0 (ns.map fun x : Nx => x.1)) rfl
        have hj : joinT 4 (ns.map fun x : Nx => x.1) = .mk 4 0 0 0 0 0 0 (ns.map fun x : Nx => x.1) := by
          generalize ns.map (fun x : Nx => x.1) = l at hn2
          match l, hn2 with
          | a :: b :: l, _ => rfl
        have hb0 : (((ns.map fun x : Nx => x.1).length : Int) == 0) = false := by rw [beq_eq_false_iff_ne]; omega
        have hb1 : (((ns.map fun x : Nx => x.1).length : Int) == 1) = false := by rw [beq_eq_false_iff_ne]; omega
        have Hj := Lib.hid hj; have Hnd := Lib.hid hnd
        clear hj hnd
        generalize hl : (ns.map fun x : Nx => x.1) = l at *
        obtain ⟨⟨r0, r1, r2, r3, r4, r5, r6, r7⟩, hz⟩ := HL.out.R.cells8
        have z0 := hz 0; have z1 := hz 1; have z2 := hz 2; have z3 := hz 3; have z4 := hz 4; have z5 := hz 5; have z6 := hz 6; have z7 := hz 7
        have lr := HL.out.R.lt
        clear hz
        go_wp2_with fail
        change bodyPost _ _ _ _ _ (writeX w1 w.heap.size (T.mk 4 0 0 0 0 0 0 l, Av, cv))
        have hfn := writeX_blk HL.out.R (T.mk 4 0 0 0 0 0 0 l, Av, cv)
        obtain ⟨⟨y0, y1, y2, y3, y4, y5, y6, y7⟩, _⟩ := hfn.cells8
        have hRS := HL.out.S.boxX (b := w.heap.size) (by omega) (T.mk 4 0 0 0 0 0 0 l, Av, cv)
        have hOff := Off.boxW HL.out.O (Nat.le_refl _) (T.mk 4 0 0 0 0 0 0 l, Av, cv)
        have hNod : NodeAt (writeX w1 w.heap.size (T.mk 4 0 0 0 0 0 0 l, Av, cv)) (fun b => w.heap.size ≤ b ∧ b < (writeX w1 w.heap.size (T.mk 4 0 0 0 0 0 0 l, Av, cv)).heap.size) (((T.mk 4 0 0 0 0 0 0 l, Av, cv) : Nx)).1 (((T.mk 4 0 0 0 0 0 0 l, Av, cv) : Nx)).2.1 (((T.mk 4 0 0 0 0 0 0 l, Av, cv) : Nx)).2.2 := Hnd.out.mono fun k (hk : w.heap.size < k ∧ k < w1.heap.size) => ⟨⟨by omega, by rw [writeX_size]; exact hk.2⟩, fun o => World.cell?_of_block (w := w1) (a := ⟨k, o, none⟩) (writeX_other _ _ _ _ (show k ≠ w.heap.size by omega))⟩
        generalize writeX w1 w.heap.size (T.mk 4 0 0 0 0 0 0 l, Av, cv) = W3 at *
        exact bodyPost_ret (v := nodeV (((T.mk 4 0 0 0 0 0 0 l, Av, cv) : Nx)).1 (((T.mk 4 0 0 0 0 0 0 l, Av, cv) : Nx)).2.1 (((T.mk 4 0 0 0 0 0 0 l, Av, cv) : Nx)).2.2) (by simp [results, Tryz.results85, y0, y1, y2, y3, y4, y5, y6, y7, go_sem]) rfl ⟨(T.mk 4 0 0 0 0 0 0 l, Av, cv), kr, _, rfl, hNod, hRS, hOff, by have := Hfin.out; rw [Hj.out] at this; exact this⟩
    · rw [show doneS (.ok (c :: t)) = false from rfl]
      simp only [Rs.rest, List.length_cons] at hnl
      obtain ⟨r, k1, hsr, hk, hpp⟩ : ∃ r k, s = .ok r ∧ (c :: t).length < k + 1 ∧ piecesP grp (r.length + 1) [] r = piecesP grp (k + 1) (ns.map fun x : Nx => x.1) (c :: t) := by
        rcases HC.out with ⟨e', he, _⟩ | ⟨r, r2, k, hs, he, hk, hpp⟩
        · cases he
        · cases he
          obtain ⟨k', rfl⟩ : ∃ k', k = k' + 1 := ⟨k - 1, by omega⟩
          exact ⟨r, k', hs, hk, hpp⟩
      have Hpp := Lib.hid hpp; have Hsr := Lib.hid hsr
      clear hpp hsr HC
      by_cases hc1 : c = 124
      · have Hfin := Lib.hid (show Out (rowP grp) s (fun t => joinT 4 (ns.map fun x : Nx => x.1) = t) (.ok (c :: t)) by
          rw [Hsr.out]
          refine Out.good (x := joinT 4 (ns.map fun x : Nx => x.1)) ?_ rfl
          unfold rowP
          rw [Hpp.out, piecesP, if_pos (by rw [hc1]; rfl)])
        have Hc1 := Lib.hid hc1
        clear hc1 Hm
        go_wp2_with fail
        refine (qis_hit [124] (by simp) (take_head Hc1.out) HL.out.S).mono ?_
        rintro en w2 ⟨rfl, h1, hO1⟩
        have HL := Lib.hid (HL.out.off hlt hO1 h1)
        clear h1 hO1
        have hn3 : n = 0 ∨ n = 1 ∨ 2 ≤ n := by omega
        rcases hn3 with rfl | rfl | hn2
        · have hns : ns = [] := List.eq_nil_of_length_eq_zero HL.out.len
          subst hns
          obtain ⟨⟨r0, r1, r2, r3, r4, r5, r6, r7⟩, hz⟩ := HL.out.R.cells8
          have z0 := hz 0; have z1 := hz 1; have z2 := hz 2; have z3 := hz 3; have z4 := hz 4; have z5 := hz 5; have z6 := hz 6; have z7 := hz 7
          have lr := HL.out.R.lt
          clear hz
          go_wp2_with fail
          change bodyPost _ _ _ _ _ (writeX w2 w.heap.size (T.mk 0 0 0 0 0 0 0 [], none, 0))
          have hfn := writeX_blk HL.out.R (T.mk 0 0 0 0 0 0 0 [], none, 0)
          obtain ⟨⟨y0, y1, y2, y3, y4, y5, y6, y7⟩, _⟩ := hfn.cells8
          have hRS := HL.out.S.boxX (b := w.heap.size) (by omega) (T.mk 0 0 0 0 0 0 0 [], none, 0)
          have hOff := Off.boxW HL.out.O (Nat.le_refl _) (T.mk 0 0 0 0 0 0 0 [], none, 0)
          have hNod : NodeAt (writeX w2 w.heap.size (T.mk 0 0 0 0 0 0 0 [], none, 0)) (fun b => w.heap.size ≤ b ∧ b < (writeX w2 w.heap.size (T.mk 0 0 0 0 0 0 0 [], none, 0)).heap.size) (((T.mk 0 0 0 0 0 0 0 [], none, 0) : Nx)).1 (((T.mk 0 0 0 0 0 0 0 [], none, 0) : Nx)).2.1 (((T.mk 0 0 0 0 0 0 0 [], none, 0) : Nx)).2.2 := nodeAt_leafX _ _ _ rfl
          generalize writeX w2 w.heap.size (T.mk 0 0 0 0 0 0 0 [], none, 0) = W3 at *
          exact bodyPost_ret (v := nodeV (((T.mk 0 0 0 0 0 0 0 [], none, 0) : Nx)).1 (((T.mk 0 0 0 0 0 0 0 [], none, 0) : Nx)).2.1 (((T.mk 0 0 0 0 0 0 0 [], none, 0) : Nx)).2.2) (by simp [results, Tryz.results85, y0, y1, y2, y3, y4, y5, y6, y7, go_sem]) rfl ⟨(T.mk 0 0 0 0 0 0 0 [], none, 0), kr, _, rfl, hNod, hRS, hOff, Hfin.out⟩
        · obtain ⟨g, ⟨t1, A1, c1⟩, rfl, hx, h8, hg, hcv, hnd⟩ := HL.out.first (by omega)
          have hj : joinT 4 (ns.map fun x : Nx => x.1) = t1 := by
            have hl := HL.out.len
            match ns, hl, hx with
            | [y], _, hx => simp at hx; subst hx; rfl
          have Hj := Lib.hid hj; have Hnd := Lib.hid hnd
          obtain ⟨f0, f1, f2, f3, f4, f5, f6, f7⟩ := h8
          simp only [Nat.zero_add] at f1 f2 f3 f4 f5 f6 f7
          clear hj hnd hx
          obtain ⟨⟨r0, r1, r2, r3, r4, r5, r6, r7⟩, hz⟩ := HL.out.R.cells8
          have z0 := hz 0; have z1 := hz 1; have z2 := hz 2; have z3 := hz 3; have z4 := hz 4; have z5 := hz 5; have z6 := hz 6; have z7 := hz 7
          have lr := HL.out.R.lt
          clear hz
          go_wp2_with fail
          change bodyPost _ _ _ _ _ (writeX w2 w.heap.size (t1, A1, c1))
          have hfn := writeX_blk HL.out.R (t1, A1, c1)
          obtain ⟨⟨y0, y1, y2, y3, y4, y5, y6, y7⟩, _⟩ := hfn.cells8
          have hRS := HL.out.S.boxX (b := w.heap.size) (by omega) (t1, A1, c1)
          have hOff := Off.boxW HL.out.O (Nat.le_refl _) (t1, A1, c1)
          have hNod : NodeAt (writeX w2 w.heap.size (t1, A1, c1)) (fun b => w.heap.size ≤ b ∧ b < (writeX w2 w.heap.size (t1, A1, c1)).heap.size) (((t1, A1, c1) : Nx)).1 (((t1, A1, c1) : Nx)).2.1 (((t1, A1, c1) : Nx)).2.2 := Hnd.out.mono fun k (hk : w.heap.size < k ∧ k < w2.heap.size) => ⟨⟨by omega, by rw [writeX_size]; exact hk.2⟩, fun o => World.cell?_of_block (w := w2) (a := ⟨k, o, none⟩) (writeX_other _ _ _ _ (show k ≠ w.heap.size by omega))⟩
          generalize writeX w2 w.heap.size (t1, A1, c1) = W3 at *
          exact bodyPost_ret (v := nodeV (((t1, A1, c1) : Nx)).1 (((t1, A1, c1) : Nx)).2.1 (((t1, A1, c1) : Nx)).2.2) (by simp [results, Tryz.results85, y0, y1, y2, y3, y4, y5, y6, y7, go_sem]) rfl ⟨(t1, A1, c1), kr, _, rfl, hNod, hRS, hOff, by have := Hfin.out; rw [Hj.out] at this; exact this⟩
        · obtain rfl : n = (ns.map fun x : Nx => x.1).length := by simp [HL.out.len]
          have hnd := HL.out.node (by omega) (by omega) (.mk 4 0 0 0 0 0 0 (ns.map fun x : Nx => x.1)) rfl
          have hj : joinT 4 (ns.map fun x : Nx => x.1) = .mk 4 0 0 0 0 0 0 (ns.map fun x : Nx => x.1) := by
            generalize ns.map (fun x : Nx => x.1) = l at hn2
            match l, hn2 with
            | a :: b :: l, _ => rfl
          have hb0 : (((ns.map fun x : Nx => x.1).length : Int) == 0) = false := by rw [beq_eq_false_iff_ne]; omega
          have hb1 : (((ns.map fun x : Nx => x.1).length : Int) == 1) = false := by rw [beq_eq_false_iff_ne]; omega
          have Hj := Lib.hid hj; have Hnd := Lib.hid hnd
          clear hj hnd
          generalize hl : (ns.map fun x : Nx => x.1) = l at *
          obtain ⟨⟨r0, r1, r2, r3, r4, r5, r6, r7⟩, hz⟩ := HL.out.R.cells8
          have z0 := hz 0; have z1 := hz 1; have z2 := hz 2; have z3 := hz 3; have z4 := hz 4; have z5 := hz 5; have z6 := hz 6; have z7 := hz 7
          have lr := HL.out.R.lt
          clear hz
          go_wp2_with fail
          change bodyPost _ _ _ _ _ (writeX w2 w.heap.size (T.mk 4 0 0 0 0 0 0 l, Av, cv))
          have hfn := writeX_blk HL.out.R (T.mk 4 0 0 0 0 0 0 l, Av, cv)
          obtain ⟨⟨y0, y1, y2, y3, y4, y5, y6, y7⟩, _⟩ := hfn.cells8
          have hRS := HL.out.S.boxX (b := w.heap.size) (by omega) (T.mk 4 0 0 0 0 0 0 l, Av, cv)
          have hOff := Off.boxW HL.out.O (Nat.le_refl _) (T.mk 4 0 0 0 0 0 0 l, Av, cv)
          have hNod : NodeAt (writeX w2 w.heap.size (T.mk 4 0 0 0 0 0 0 l, Av, cv)) (fun b => w.heap.size ≤ b ∧ b < (writeX w2 w.heap.size (T.mk 4 0 0 0 0 0 0 l, Av, cv)).heap.size) (((T.mk 4 0 0 0 0 0 0 l, Av, cv) : Nx)).1 (((T.mk 4 0 0 0 0 0 0 l, Av, cv) : Nx)).2.1 (((T.mk 4 0 0 0 0 0 0 l, Av, cv) : Nx)).2.2 := Hnd.out.mono fun k (hk : w.heap.size < k ∧ k < w2.heap.size) => ⟨⟨by omega, by rw [writeX_size]; exact hk.2⟩, fun o => World.cell?_of_block (w := w2) (a := ⟨k, o, none⟩) (writeX_other _ _ _ _ (show k ≠ w.heap.size by omega))⟩
          generalize writeX w2 w.heap.size (T.mk 4 0 0 0 0 0 0 l, Av, cv) = W3 at *
          exact bodyPost_ret (v := nodeV (((T.mk 4 0 0 0 0 0 0 l, Av, cv) : Nx)).1 (((T.mk 4 0 0 0 0 0 0 l, Av, cv) : Nx)).2.1 (((T.mk 4 0 0 0 0 0 0 l, Av, cv) : Nx)).2.2) (by simp [results, Tryz.results85, y0, y1, y2, y3, y4, y5, y6, y7, go_sem]) rfl ⟨(T.mk 4 0 0 0 0 0 0 l, Av, cv), kr, _, rfl, hNod, hRS, hOff, by have := Hfin.out; rw [Hj.out] at this; exact this⟩
      · by_cases hc2 : c = 41
        · have Hfin := Lib.hid (show Out (rowP grp) s (fun t => joinT 4 (ns.map fun x : Nx => x.1) = t) (.ok (c :: t)) by
            rw [Hsr.out]
            refine Out.good (x := joinT 4 (ns.map fun x : Nx => x.1)) ?_ rfl
            unfold rowP
            rw [Hpp.out, piecesP, if_pos (by rw [hc2]; rfl)])
          have Hc1 := Lib.hid hc1
          have Hc2 := Lib.hid hc2
          clear hc1 hc2 Hm
          go_wp2_with fail
          refine (qis_miss [124] (by simp) (take_no Hc1.out) HL.out.S).mono ?_
          rintro en w2 ⟨rfl, h1, hO1⟩
          have HL := Lib.hid (HL.out.off hlt hO1 h1)
          clear h1 hO1
          go_wp2_with fail
          refine (qis_hit [41] (by simp) (take_head Hc2.out) HL.out.S).mono ?_
          rintro en w3 ⟨rfl, h1, hO1⟩
          have HL := Lib.hid (HL.out.off hlt hO1 h1)
          clear h1 hO1
          have hn3 : n = 0 ∨ n = 1 ∨ 2 ≤ n := by omega
          rcases hn3 with rfl | rfl | hn2
          · have hns : ns = [] := List.eq_nil_of_length_eq_zero HL.out.len
            subst hns
            obtain ⟨⟨r0, r1, r2, r3, r4, r5, r6, r7⟩, hz⟩ := HL.out.R.cells8
            have z0 := hz 0; have z1 := hz 1; have z2 := hz 2; have z3 := hz 3; have z4 := hz 4; have z5 := hz 5; have z6 := hz 6; have z7 := hz 7
            have lr := HL.out.R.lt
            clear hz
            go_wp2_with fail
            change bodyPost _ _ _ _ _ (writeX w3 w.heap.size (T.mk 0 0 0 0 0 0 0 [], none, 0))
            have hfn := writeX_blk HL.out.R (T.mk 0 0 0 0 0 0 0 [], none, 0)
            obtain ⟨⟨y0, y1, y2, y3, y4, y5, y6, y7⟩, _⟩ := hfn.cells8
            have hRS := HL.out.S.boxX (b := w.heap.size) (by omega) (T.mk 0 0 0 0 0 0 0 [], none, 0)
            have hOff := Off.boxW HL.out.O (Nat.le_refl _) (T.mk 0 0 0 0 0 0 0 [], none, 0)
            have hNod : NodeAt (writeX w3 w.heap.size (T.mk 0 0 0 0 0 0 0 [], none, 0)) (fun b => w.heap.size ≤ b ∧ b < (writeX w3 w.heap.size (T.mk 0 0 0 0 0 0 0 [], none, 0)).heap.size) (((T.mk 0 0 0 0 0 0 0 [], none, 0) : Nx)).1 (((T.mk 0 0 0 0 0 0 0 [], none, 0) : Nx)).2.1 (((T.mk 0 0 0 0 0 0 0 [], none, 0) : Nx)).2.2 := nodeAt_leafX _ _ _ rfl
            generalize writeX w3 w.heap.size (T.mk 0 0 0 0 0 0 0 [], none, 0) = W3 at *
            exact bodyPost_ret (v := nodeV (((T.mk 0 0 0 0 0 0 0 [], none, 0) : Nx)).1 (((T.mk 0 0 0 0 0 0 0 [], none, 0) : Nx)).2.1 (((T.mk 0 0 0 0 0 0 0 [], none, 0) : Nx)).2.2) (by simp [results, Tryz.results85, y0, y1, y2, y3, y4, y5, y6, y7, go_sem]) rfl ⟨(T.mk 0 0 0 0 0 0 0 [], none, 0), kr, _, rfl, hNod, hRS, hOff, Hfin.out⟩
          · obtain ⟨g, ⟨t1, A1, c1⟩, rfl, hx, h8, hg, hcv, hnd⟩ := HL.out.first (by omega)
            have hj : joinT 4 (ns.map fun x : Nx => x.1) = t1 := by
              have hl := HL.out.len
              match ns, hl, hx with
              | [y], _, hx => simp at hx; subst hx; rfl
            have Hj := Lib.hid hj; have Hnd := Lib.hid hnd
            obtain ⟨f0, f1, f2, f3, f4, f5, f6, f7⟩ := h8
            simp only [Nat.zero_add] at f1 f2 f3 f4 f5 f6 f7
            clear hj hnd hx
            obtain ⟨⟨r0, r1, r2, r3, r4, r5, r6, r7⟩, hz⟩ := HL.out.R.cells8
            have z0 := hz 0; have z1 := hz 1; have z2 := hz 2; have z3 := hz 3; have z4 := hz 4; have z5 := hz 5; have z6 := hz 6; have z7 := hz 7
            have lr := HL.out.R.lt
            clear hz
            go_wp2_with fail
            change bodyPost _ _ _ _ _ (writeX w3 w.heap.size (t1, A1, c1))
            have hfn := writeX_blk HL.out.R (t1, A1, c1)
            obtain ⟨⟨y0, y1, y2, y3, y4, y5, y6, y7⟩, _⟩ := hfn.cells8
            have hRS := HL.out.S.boxX (b := w.heap.size) (by omega) (t1, A1, c1)
            have hOff := Off.boxW HL.out.O (Nat.le_refl _) (t1, A1, c1)
            have hNod : NodeAt (writeX w3 w.heap.size (t1, A1, c1)) (fun b => w.heap.size ≤ b ∧ b < (writeX w3 w.heap.size (t1, A1, c1)).heap.size) (((t1, A1, c1) : Nx)).1 (((t1, A1, c1) : Nx)).2.1 (((t1, A1, c1) : Nx)).2.2 := Hnd.out.mono fun k (hk : w.heap.size < k ∧ k < w3.heap.size) => ⟨⟨by omega, by rw [writeX_size]; exact hk.2⟩, fun o => World.cell?_of_block (w := w3) (a := ⟨k, o, none⟩) (writeX_other _ _ _ _ (show k ≠ w.heap.size by omega))⟩
            generalize writeX w3 w.heap.size (t1, A1, c1) = W3 at *
            exact bodyPost_ret (v := nodeV (((t1, A1, c1) : Nx)).1 (((t1, A1, c1) : Nx)).2.1 (((t1, A1, c1) : Nx)).2.2) (by simp [results, Tryz.results85, y0, y1, y2, y3, y4, y5, y6, y7, go_sem]) rfl ⟨(t1, A1, c1), kr, _, rfl, hNod, hRS, hOff, by have := Hfin.out; rw [Hj.out] at this; exact this⟩
          · obtain rfl : n = (ns.map fun x : Nx => x.1).length := by simp [HL.out.len]
            have hnd := HL.out.node (by omega) (by omega) (.mk 4 0 0 0 0 0 0 (ns.map fun x : Nx => x.1)) rfl
            have hj : joinT 4 (ns.map fun x : Nx => x.1) = .mk 4 0 0 0 0 0 0 (ns.map fun x : Nx => x.1) := by
              generalize ns.map (fun x : Nx => x.1) = l at hn2
              match l, hn2 with
              | a :: b :: l, _ => rfl
            have hb0 : (((ns.map fun x : Nx => x.1).length : Int) == 0) = false := by rw [beq_eq_false_iff_ne]; omega
            have hb1 : (((ns.map fun x : Nx => x.1).length : Int) == 1) = false := by rw [beq_eq_false_iff_ne]; omega
            have Hj := Lib.hid hj; have Hnd := Lib.hid hnd
            clear hj hnd
            generalize hl : (ns.map fun x : Nx => x.1) = l at *
            obtain ⟨⟨r0, r1, r2, r3, r4, r5, r6, r7⟩, hz⟩ := HL.out.R.cells8
            have z0 := hz 0; have z1 := hz 1; have z2 := hz 2; have z3 := hz 3; have z4 := hz 4; have z5 := hz 5; have z6 := hz 6; have z7 := hz 7
            have lr := HL.out.R.lt
            clear hz
            go_wp2_with fail
            change bodyPost _ _ _ _ _ (writeX w3 w.heap.size (T.mk 4 0 0 0 0 0 0 l, Av, cv))
            have hfn := writeX_blk HL.out.R (T.mk 4 0 0 0 0 0 0 l, Av, cv)
            obtain ⟨⟨y0, y1, y2, y3, y4, y5, y6, y7⟩, _⟩ := hfn.cells8
            have hRS := HL.out.S.boxX (b := w.heap.size) (by omega) (T.mk 4 0 0 0 0 0 0 l, Av, cv)
            have hOff := Off.boxW HL.out.O (Nat.le_refl _) (T.mk 4 0 0 0 0 0 0 l, Av, cv)
            have hNod : NodeAt (writeX w3 w.heap.size (T.mk 4 0 0 0 0 0 0 l, Av, cv)) (fun b => w.heap.size ≤ b ∧ b < (writeX w3 w.heap.size (T.mk 4 0 0 0 0 0 0 l, Av, cv)).heap.size) (((T.mk 4 0 0 0 0 0 0 l, Av, cv) : Nx)).1 (((T.mk 4 0 0 0 0 0 0 l, Av, cv) : Nx)).2.1 (((T.mk 4 0 0 0 0 0 0 l, Av, cv) : Nx)).2.2 := Hnd.out.mono fun k (hk : w.heap.size < k ∧ k < w3.heap.size) => ⟨⟨by omega, by rw [writeX_size]; exact hk.2⟩, fun o => World.cell?_of_block (w := w3) (a := ⟨k, o, none⟩) (writeX_other _ _ _ _ (show k ≠ w.heap.size by omega))⟩
            generalize writeX w3 w.heap.size (T.mk 4 0 0 0 0 0 0 l, Av, cv) = W3 at *
            exact bodyPost_ret (v := nodeV (((T.mk 4 0 0 0 0 0 0 l, Av, cv) : Nx)).1 (((T.mk 4 0 0 0 0 0 0 l, Av, cv) : Nx)).2.1 (((T.mk 4 0 0 0 0 0 0 l, Av, cv) : Nx)).2.2) (by simp [results, Tryz.results85, y0, y1, y2, y3, y4, y5, y6, y7, go_sem]) rfl ⟨(T.mk 4 0 0 0 0 0 0 l, Av, cv), kr, _, rfl, hNod, hRS, hOff, by have := Hfin.out; rw [Hj.out] at this; exact this⟩
        · have hres : piecesP grp (k1 + 1) (ns.map fun x : Nx => x.1) (c :: t) = match pieceP grp (c :: t) with | .error e => .error e | .ok (n, r1) => piecesP grp k1 ((ns.map fun x : Nx => x.1) ++ [n]) r1 := by
            rw [piecesP, ends_false hc1 hc2]; rfl
          have Hres := Lib.hid hres
          have Hc1 := Lib.hid hc1
          have Hc2 := Lib.hid hc2
          clear hc1 hc2 hres
          go_wp2_with fail
          refine (qis_miss [124] (by simp) (take_no Hc1.out) HL.out.S).mono ?_
          rintro en w2 ⟨rfl, h1, hO1⟩
          have HL := Lib.hid (HL.out.off hlt hO1 h1)
          clear h1 hO1
          go_wp2_with fail
          refine (qis_miss [41] (by simp) (take_no Hc2.out) HL.out.S).mono ?_
          rintro en w3 ⟨rfl, h1, hO1⟩
          have HL := Lib.hid (HL.out.off hlt hO1 h1)
          clear h1 hO1 Hc1 Hc2
          have hrow : ∀ g, (Value.slice Av n cv).ownBlock = some g → g < w3.heap.size := fun g hg => (HL.out.own.lt g hg).2
          have hw3 : w.heap.size < w3.heap.size := HL.out.R.lt
          go_wp2_with fail
          refine (HP.out ⟨r, Hsr.out⟩ w3 kr c t HL.out.S).mono ?_
          rintro en w4 ⟨⟨t4, A4, c4⟩, k4, s4, rfl, hx4, h4, hO4, ho4⟩
          have HL := Lib.hid (HL.out.off hlt hO4 h4)
          have hz4 := hO4.size
          have Hx4 := Lib.hid hx4; have Ho4 := Lib.hid ho4
          clear h4 hO4 hx4 ho4
          go_upto_region 4 with fail
          generalize hW : w4.alloc _ = W5
          have hb5 : Below w4.heap.size w4 W5 := by subst hW; exact (Below.refl _ _).alloc (Nat.le_refl _) _
          have N5 : BlkX W5 w4.heap.size (xcell (t4, A4, c4)).toArray := by subst hW; exact BlkX.new w4 _
          clear hW
          have HL := Lib.hid (HL.out.off hlt (Off.of_below hb5) (HL.out.S.later hb5))
          have HX := Lib.hid (show NodeAt W5 (fun b => w.heap.size < b ∧ b < W5.heap.size ∧ b ≠ w.heap.size ∧ some b ≠ (Value.slice Av n cv).ownBlock) t4 A4 c4 from Hx4.out.mono fun b (hb : w3.heap.size ≤ b ∧ b < w4.heap.size) => ⟨⟨by omega, by have := hb5.size; omega, by omega, fun e => by have := hrow b e.symm; omega⟩, fun o => hb5.cell (p := ⟨b, o, none⟩) hb.2⟩)
          obtain ⟨⟨f0, f1, f2, f3, f4, f5, f6, f7⟩, _⟩ := N5.cells8
          have ln5 := N5.lt
          generalize w4.heap.size = b4 at *
          obtain ⟨bx, hbx⟩ : ∃ bx, bx = w.heap.size := ⟨_, rfl⟩
          have HL := Lib.hid (show LstQ p St op w bx n ns Av cv k4 s4 W5 by rw [hbx]; exact HL.out)
          have HX := Lib.hid (show NodeAt W5 (fun b => w.heap.size < b ∧ b < W5.heap.size ∧ b ≠ bx ∧ some b ≠ (Value.slice Av n cv).ownBlock) t4 A4 c4 by rw [hbx]; exact HX.out)
          have Hbx := Lib.hid hbx
          clear hb5 Hx4 N5 hrow hbx
          have hnews : ∀ ad, some (⟨W5.heap.size, 0, none⟩ : Addr) = some ad → ∀ j u, (xcell (t4, A4, c4))[j]? = some u → (W5.alloc (.cells (xcell (t4, A4, c4)).toArray 48)).cell? (ad.add j) = some u := fun ad e j u hu => by
            simp only [Option.some.injEq] at e
            subst e
            rw [addr_addX, World.cell?_alloc_new, Nat.zero_add]
            simpa using hu
          have Hnews := Lib.hid hnews; clear hnews
          have hWb : bx + 1 ≤ W5.heap.size := HL.out.b2
          go_wp2_with (at_builtin; refine wpList_append_fromX (bx + 1) rfl _ _ 46 48 _ 8 80 rfl Tryz.underlying46 Tryz.infoNodeX rfl (by omega) (by omega) (.slice Av n cv) n 1 (xcells ns) (xcell (t4, A4, c4)) (some ⟨W5.heap.size, 0, none⟩) 1 rfl rfl (by simp) rfl Hnews.out (xcell_one _) (HL.out.own.alloc _) (by simp; omega) (by omega) (fun A5 c5 w5 ho5 hg5 hat5 => ?_); have HL5 := Lib.hid (HL.out.push hlt (t4, A4, c4) HX.out ((Below.refl _ _).alloc (Nat.le_refl _) _) ho5 hg5 hat5); clear ho5 hg5 hat5)
          have hcs : s4.rest.length ≤ t.length ∧ ((∃ e, s4 = .error e ∧ (s = .error e ∨ ∃ r, s = .ok r ∧ rowP grp r = .error e)) ∨ ∃ r r' k, s = .ok r ∧ s4 = .ok r' ∧ r'.length < k ∧ piecesP grp (r.length + 1) [] r = piecesP grp k ((ns ++ [(t4, A4, c4)]).map fun x : Nx => x.1) r') := by
            have hoo := Ho4.out
            cases hpc : pieceP grp (c :: t) with
            | error e =>
              simp only [Out, hpc] at hoo
              subst hoo
              exact ⟨by simp [Rs.rest], .inl ⟨e, rfl, .inr ⟨r, Hsr.out, by unfold rowP; rw [Hpp.out, Hres.out, hpc]⟩⟩⟩
            | ok y =>
              obtain ⟨n', r'⟩ := y
              simp only [Out, hpc] at hoo
              obtain ⟨rfl, rfl⟩ := hoo
              have hl := piece_len HGl.out hpc
              simp only [List.length_cons] at hl hk
              exact ⟨by simp only [Rs.rest]; omega, .inr ⟨r, r', k1, Hsr.out, rfl, by omega, by rw [Hpp.out, Hres.out, hpc]; simp⟩⟩
          obtain ⟨hl1, hcs⟩ := hcs
          have HCS := Lib.hid hcs; clear hcs
          go_roundg (s4.rest.length + 1)
          case measure => have := Hm.out; simp only [Rs.rest, List.length_cons] at this; omega
          case rel => exact ⟨n + 1, _, A5, c5, k4, s4, rfl, rfl, by omega, by have := HL5.out; rw [Hbx.out] at this; exact this, HCS.out⟩
end Go.Proofs.YthlakbjnmbddaaaGreatDoor

/- vouchref10's Reader: pattern: walked. -/
set_option linter.unusedVariables false
set_option linter.unusedSimpArgs false
namespace Go.Proofs.YthlakbjnmbddaaaGreatDoor
open Go.RowKit

/-- Where the loop of pattern stands. -/
def PatL (p : Nat) (St : Bs) (op : Int) (grp : Bs → PT) (s : Rs) (w : World) (bx : Nat) (v : Value) (wr : World) (m : Nat) : Prop :=
  ∃ (n : Nat) (ns : List Nx) (Av : Option Addr) (cv : Nat) (k : Nat) (s' : Rs) (y : Nx), v = .slice Av n cv ∧ 1 ≤ n ∧ m = s'.rest.length + 1 ∧ n + s'.rest.length ≤ 1025 ∧ LstQ p St op w bx n ns Av cv k s' wr ∧ BlkX wr bx (xcell y).toArray ∧ ((∃ e, s' = .error e ∧ (s = .error e ∨ ∃ r, s = .ok r ∧ choiceP grp r = .error e)) ∨ ∃ r r' k, s = .ok r ∧ s' = .ok r' ∧ r'.length < k ∧ choiceP grp r = match altsP grp k (ns.map fun x : Nx => x.1) r' with | .error e => .error e | .ok (l, r2) => .ok (joinT 5 l, r2))
theorem LstQ.boxOff {p : Nat} {St : Bs} {op : Int} {w : World} {bx n : Nat} {ns : List Nx} {Av : Option Addr} {cv k : Nat} {s : Rs} {wr w1 : World} (h : LstQ p St op w bx n ns Av cv k s wr) (hp : p < w.heap.size) {cs : Array Value} (hb : BlkX wr bx cs) (hO : Off p wr w1) : BlkX w1 bx cs := Off.blk hO hb (by have := h.b1; omega)
theorem LstQ.boxPush {p : Nat} {St : Bs} {op : Int} {w : World} {bx n : Nat} {ns : List Nx} {Av : Option Addr} {cv k : Nat} {s : Rs} {W w0 w2 : World} (h : LstQ p St op w bx n ns Av cv k s W) {cs : Array Value} (hb : BlkX W bx cs) (h0 : Below W.heap.size W w0) (h2 : w0.grownBy w2 (Value.slice Av n cv).ownBlock) : BlkX w2 bx cs := by
  refine hb.keep ((h2.block bx (Nat.lt_of_lt_of_le h.b2 h0.size) ?_).trans (h0.block bx h.b2))
  intro e
  have := (h.own.lt bx e.symm).1
  omega
set_option maxRecDepth 100000 in
set_option maxHeartbeats 8000000 in
theorem qpat_any (w : World) (p : Nat) (St : Bs) (k : Nat) (op : Int) (s : Rs) (h : RQ w p St k op s) (grp : Bs → PT) (hgl : GrpLen grp)
    (hG : (∃ r, s = .ok r) → ∀ (w : World) (k : Nat) (r : Bs), RQ w p St k op (.ok r) → Calls Tryz.prog 135 #[.pointer (some ⟨p, 0, none⟩)] w fun en w' => QNode p St op grp (.ok r) w en w') :
    Calls Tryz.prog 64 #[.pointer (some ⟨p, 0, none⟩)] w fun en w' => QNode p St op (choiceP grp) s w en w' := by
  have hlt := h.lt
  have hs := h.rest
  have HP := Lib.hid (fun (w : World) (k : Nat) (s' : Rs) (h : RQ w p St k op s') (hs' : (∃ r, s' = .ok r) → ∃ r, s = .ok r) => qalt_any w p St k op s' h grp hgl (fun x => hG (hs' x)))
  have H := Lib.hid h; have HGl := Lib.hid hgl
  clear h hG hgl
  go_enter Tryz.func64, Tryz.ntmps64
  go_upto_region 1 with fail
  generalize hW : w.alloc _ = W0
  have hB0 : Below w.heap.size w W0 := by subst hW; exact (Below.refl _ _).alloc (Nat.le_refl _) _
  have R0 : BlkX W0 w.heap.size (xcell (.mk 0 0 0 0 0 0 0 [], none, 0)).toArray := by subst hW; exact BlkX.new w _
  have hz0 : w.heap.size < W0.heap.size := R0.lt
  clear hW
  go_wp2_with fail
  refine (HP.out W0 k s (H.out.later hB0) (fun x => x)).mono ?_
  rintro en w1 ⟨⟨t1, A1, c1⟩, k1, s1, rfl, hx1, h1, hO1, ho1⟩
  have R1 := Off.blk hO1 R0 (by omega)
  have hz1 := hO1.size
  have Hx1 := Lib.hid hx1; have Ho1 := Lib.hid ho1
  clear hx1 ho1
  go_upto_region 3 with fail
  generalize hW : w1.alloc _ = W2
  have hb2 : Below w1.heap.size w1 W2 := by subst hW; exact (Below.refl _ _).alloc (Nat.le_refl _) _
  have N2 : BlkX W2 w1.heap.size (xcell (t1, A1, c1)).toArray := by subst hW; exact BlkX.new w1 _
  have hz2 : w1.heap.size < W2.heap.size := N2.lt
  have HL := Lib.hid (show LstQ p St op w w1.heap.size 0 [] none 0 k1 s1 W2 from ⟨rfl, R1.keep (hb2.block _ R1.lt), by omega, hz2, ⟨rfl, .inl ⟨rfl, rfl⟩⟩, fun x hx => by simp at hx, h1.later hb2, ((Off.of_below hB0).trans hO1).trans (Off.of_below hb2)⟩)
  have HX := Lib.hid (show NodeAt W2 (fun b => w.heap.size < b ∧ b < W2.heap.size ∧ b ≠ w1.heap.size ∧ some b ≠ (Value.slice none 0 0).ownBlock) t1 A1 c1 from Hx1.out.mono fun b (hb : W0.heap.size ≤ b ∧ b < w1.heap.size) => ⟨⟨by omega, by omega, by omega, by simp [Value.ownBlock]⟩, fun o => hb2.cell (p := ⟨b, o, none⟩) hb.2⟩)
  have hwb : w.heap.size < w1.heap.size := by omega
  obtain ⟨⟨f0, f1, f2, f3, f4, f5, f6, f7⟩, _⟩ := N2.cells8
  have HN := Lib.hid N2
  generalize w1.heap.size = bx at *
  have ln2 : bx < W2.heap.size := hz2
  clear hW hb2 N2 R1 R0 hB0 h1 hO1 hz1 hz0 hz2 Hx1 H
  obtain ⟨v0, hv0⟩ : ∃ v0 : Value, v0 = .slice none 0 0 := ⟨_, rfl⟩
  rw [← hv0]
  have Hv0 := Lib.hid hv0
  clear hv0
  have hnews : ∀ ad, some (⟨W2.heap.size, 0, none⟩ : Addr) = some ad → ∀ j u, (xcell (t1, A1, c1))[j]? = some u → (W2.alloc (.cells (xcell (t1, A1, c1)).toArray 48)).cell? (ad.add j) = some u := fun ad e j u hu => by
    simp only [Option.some.injEq] at e
    subst e
    rw [addr_addX, World.cell?_alloc_new, Nat.zero_add]
    simpa using hu
  have Hnews := Lib.hid hnews; clear hnews
  have hWb : bx + 1 ≤ W2.heap.size := HL.out.b2
  go_wp2_with (at_builtin; refine wpList_append_fromX (bx + 1) rfl _ _ 46 48 _ 8 80 rfl Tryz.underlying46 Tryz.infoNodeX rfl (by omega) (by omega) v0 0 1 [] (xcell (t1, A1, c1)) (some ⟨W2.heap.size, 0, none⟩) 1 rfl rfl (by simp) rfl Hnews.out (xcell_one _) ⟨rfl, .inl ⟨Hv0.out, rfl⟩⟩ (by simp; omega) (by omega) (fun A5 c5 w5 ho5 hg5 hat5 => ?_); have HL5 := Lib.hid (HL.out.push hlt (t1, A1, c1) HX.out ((Below.refl _ _).alloc (Nat.le_refl _) _) (by simpa [xcells] using ho5) (by rw [Hv0.out] at hg5; exact hg5) (by rw [Hv0.out] at hat5; exact hat5)); have HN5 := Lib.hid (HL.out.boxPush HN.out ((Below.refl _ _).alloc (Nat.le_refl _) _) (by rw [Hv0.out] at hg5; exact hg5)); clear ho5 hg5 hat5)
  have hI : PatL p St op grp s w bx (.slice A5 1 c5) w5 (s1.rest.length + 1) := by
    have hoo := Ho1.out
    have hl1 : s1.rest.length ≤ 1024 ∧ ((∃ e, s1 = .error e ∧ (s = .error e ∨ ∃ r, s = .ok r ∧ choiceP grp r = .error e)) ∨ ∃ r r' k, s = .ok r ∧ s1 = .ok r' ∧ r'.length < k ∧ choiceP grp r = match altsP grp k ([(t1, A1, c1)].map fun x : Nx => x.1) r' with | .error e => .error e | .ok (l, r2) => .ok (joinT 5 l, r2)) := by
      rcases s with e | r
      · cases (show s1 = .error e from hoo)
        exact ⟨by simp [Rs.rest], .inl ⟨e, rfl, .inl rfl⟩⟩
      · cases hr : rowP grp r with
        | error e =>
          simp only [Out, hr] at hoo
          subst hoo
          exact ⟨by simp [Rs.rest], .inl ⟨e, rfl, .inr ⟨r, rfl, by unfold choiceP; rw [hr]⟩⟩⟩
        | ok y =>
          obtain ⟨n', r'⟩ := y
          simp only [Out, hr] at hoo
          obtain ⟨rfl, rfl⟩ := hoo
          have hl := row_len HGl.out hr
          simp only [Rs.rest] at hs ⊢
          exact ⟨by omega, .inr ⟨r, r', r'.length + 1, rfl, rfl, by omega, by unfold choiceP; rw [hr]; rfl⟩⟩
    exact ⟨1, [(t1, A1, c1)], A5, c5, k1, s1, (t1, A1, c1), rfl, by omega, rfl, by have := hl1.1; omega, HL5.out, HN5.out, hl1.2⟩
  have HI := Lib.hid hI
  clear hI HL HX HN HL5 HN5 Ho1 Hv0 hWb ln2 f0 f1 f2 f3 f4 f5 f6 f7
  try rw [Nat.zero_add]
  go_loopg [3] (s1.rest.length + 1) (fun m v wr => PatL p St op grp s w bx v wr m)
  case atStart => exact HI.out
  case round =>
    clear HI
    obtain ⟨n, ns, Av, cv, kr, s', y, rfl, hn1, hm, hnl, hL, hN, hcase⟩ := hrel
    have HL := Lib.hid hL; have HN := Lib.hid hN; have HC := Lib.hid hcase; have Hm := Lib.hid hm
    clear hL hcase hm hN
    rcases s' with e | r'
    · have Hfin := Lib.hid (show Out (choiceP grp) s (fun t => joinT 5 (ns.map fun x : Nx => x.1) = t) (.error e) by
        rcases HC.out with ⟨e', he, hs⟩ | ⟨r, r', k, _, he, _⟩
        · cases he
          rcases hs with rfl | ⟨r, rfl, hr⟩
          · exact Out.err
          · exact Out.bad hr
        · cases he)
      clear HC Hm
      go_wp2_with fail
      refine (qtake_err [124] (by simp) HL.out.S).mono ?_
      rintro en W6 ⟨rfl, ⟨k6, h2⟩, hO2⟩
      have HL := Lib.hid (HL.out.off hlt hO2 h2)
      clear h2 hO2
      have hn3 : n = 1 ∨ 2 ≤ n := by omega
      rcases hn3 with rfl | hn2
      · obtain ⟨g, ⟨t1, A1, c1⟩, rfl, hx, h8, hg, hcv, hnd⟩ := HL.out.first (by omega)
        have hj : joinT 5 (ns.map fun x : Nx => x.1) = t1 := by
          have hl := HL.out.len
          match ns, hl, hx with
          | [y], _, hx => simp at hx; subst hx; rfl
        have Hj := Lib.hid hj; have Hnd := Lib.hid hnd
        obtain ⟨f0, f1, f2, f3, f4, f5, f6, f7⟩ := h8
        simp only [Nat.zero_add] at f1 f2 f3 f4 f5 f6 f7
        clear hj hnd hx
        obtain ⟨⟨r0, r1, r2, r3, r4, r5, r6, r7⟩, hz⟩ := HL.out.R.cells8
        have z0 := hz 0; have z1 := hz 1; have z2 := hz 2; have z3 := hz 3; have z4 := hz 4; have z5 := hz 5; have z6 := hz 6; have z7 := hz 7
        have lr := HL.out.R.lt
        clear hz
        go_wp2_with fail
        change bodyPost _ _ _ _ _ (writeX W6 w.heap.size (t1, A1, c1))
        have hfn := writeX_blk HL.out.R (t1, A1, c1)
        obtain ⟨⟨y0, y1, y2, y3, y4, y5, y6, y7⟩, _⟩ := hfn.cells8
        have hRS := HL.out.S.boxX (b := w.heap.size) (by omega) (t1, A1, c1)
        have hOff := Off.boxW HL.out.O (Nat.le_refl _) (t1, A1, c1)
        have hNod : NodeAt (writeX W6 w.heap.size (t1, A1, c1)) (fun b => w.heap.size ≤ b ∧ b < (writeX W6 w.heap.size (t1, A1, c1)).heap.size) (((t1, A1, c1) : Nx)).1 (((t1, A1, c1) : Nx)).2.1 (((t1, A1, c1) : Nx)).2.2 := Hnd.out.mono fun k (hk : w.heap.size < k ∧ k < W6.heap.size) => ⟨⟨by omega, by rw [writeX_size]; exact hk.2⟩, fun o => World.cell?_of_block (w := W6) (a := ⟨k, o, none⟩) (writeX_other _ _ _ _ (show k ≠ w.heap.size by omega))⟩
        generalize writeX W6 w.heap.size (t1, A1, c1) = W3 at *
        exact bodyPost_ret (v := nodeV (((t1, A1, c1) : Nx)).1 (((t1, A1, c1) : Nx)).2.1 (((t1, A1, c1) : Nx)).2.2) (by simp [results, Tryz.results64, y0, y1, y2, y3, y4, y5, y6, y7, go_sem]) rfl ⟨(t1, A1, c1), k6, _, rfl, hNod, hRS, hOff, by have := Hfin.out; rw [Hj.out] at this; exact this⟩
      · obtain rfl : n = (ns.map fun x : Nx => x.1).length := by simp [HL.out.len]
        have hnd := HL.out.node (by omega) (by omega) (.mk 5 0 0 0 0 0 0 (ns.map fun x : Nx => x.1)) rfl
        have hj : joinT 5 (ns.map fun x : Nx => x.1) = .mk 5 0 0 0 0 0 0 (ns.map fun x : Nx => x.1) := by
          generalize ns.map (fun x : Nx => x.1) = l at hn2
          match l, hn2 with
          | a :: b :: l, _ => rfl
        have hb0 : (((ns.map fun x : Nx => x.1).length : Int) == 0) = false := by rw [beq_eq_false_iff_ne]; omega
        have hb1 : (((ns.map fun x : Nx => x.1).length : Int) == 1) = false := by rw [beq_eq_false_iff_ne]; omega
        have Hj := Lib.hid hj; have Hnd := Lib.hid hnd
        clear hj hnd
        generalize hl : (ns.map fun x : Nx => x.1) = l at *
        obtain ⟨⟨r0, r1, r2, r3, r4, r5, r6, r7⟩, hz⟩ := HL.out.R.cells8
        have z0 := hz 0; have z1 := hz 1; have z2 := hz 2; have z3 := hz 3; have z4 := hz 4; have z5 := hz 5; have z6 := hz 6; have z7 := hz 7
        have lr := HL.out.R.lt
        clear hz
        go_wp2_with fail
        change bodyPost _ _ _ _ _ (writeX W6 w.heap.size (T.mk 5 0 0 0 0 0 0 l, Av, cv))
        have hfn := writeX_blk HL.out.R (T.mk 5 0 0 0 0 0 0 l, Av, cv)
        obtain ⟨⟨y0, y1, y2, y3, y4, y5, y6, y7⟩, _⟩ := hfn.cells8
        have hRS := HL.out.S.boxX (b := w.heap.size) (by omega) (T.mk 5 0 0 0 0 0 0 l, Av, cv)
        have hOff := Off.boxW HL.out.O (Nat.le_refl _) (T.mk 5 0 0 0 0 0 0 l, Av, cv)
        have hNod : NodeAt (writeX W6 w.heap.size (T.mk 5 0 0 0 0 0 0 l, Av, cv)) (fun b => w.heap.size ≤ b ∧ b < (writeX W6 w.heap.size (T.mk 5 0 0 0 0 0 0 l, Av, cv)).heap.size) (((T.mk 5 0 0 0 0 0 0 l, Av, cv) : Nx)).1 (((T.mk 5 0 0 0 0 0 0 l, Av, cv) : Nx)).2.1 (((T.mk 5 0 0 0 0 0 0 l, Av, cv) : Nx)).2.2 := Hnd.out.mono fun k (hk : w.heap.size < k ∧ k < W6.heap.size) => ⟨⟨by omega, by rw [writeX_size]; exact hk.2⟩, fun o => World.cell?_of_block (w := W6) (a := ⟨k, o, none⟩) (writeX_other _ _ _ _ (show k ≠ w.heap.size by omega))⟩
        generalize writeX W6 w.heap.size (T.mk 5 0 0 0 0 0 0 l, Av, cv) = W3 at *
        exact bodyPost_ret (v := nodeV (((T.mk 5 0 0 0 0 0 0 l, Av, cv) : Nx)).1 (((T.mk 5 0 0 0 0 0 0 l, Av, cv) : Nx)).2.1 (((T.mk 5 0 0 0 0 0 0 l, Av, cv) : Nx)).2.2) (by simp [results, Tryz.results64, y0, y1, y2, y3, y4, y5, y6, y7, go_sem]) rfl ⟨(T.mk 5 0 0 0 0 0 0 l, Av, cv), k6, _, rfl, hNod, hRS, hOff, by have := Hfin.out; rw [Hj.out] at this; exact this⟩
    · obtain ⟨r, k, hsr, hk, hpp⟩ : ∃ r k, s = .ok r ∧ r'.length < k + 1 ∧ choiceP grp r = match altsP grp (k + 1) (ns.map fun x : Nx => x.1) r' with | .error e => .error e | .ok (l, r2) => .ok (joinT 5 l, r2) := by
        rcases HC.out with ⟨e', he, _⟩ | ⟨r, r2, k, hs, he, hk, hpp⟩
        · cases he
        · cases he
          obtain ⟨k', rfl⟩ : ∃ k', k = k' + 1 := ⟨k - 1, by omega⟩
          exact ⟨r, k', hs, hk, hpp⟩
      have Hpp := Lib.hid hpp; have Hsr := Lib.hid hsr
      clear hpp hsr HC
      rcases ht : takeP [124] r' with _ | r2
      · have Hfin := Lib.hid (show Out (choiceP grp) s (fun t => joinT 5 (ns.map fun x : Nx => x.1) = t) (.ok r') by
          rw [Hsr.out]
          refine Out.good (x := joinT 5 (ns.map fun x : Nx => x.1)) ?_ rfl
          rw [Hpp.out, altsP, ht])
        have Ht := Lib.hid ht; clear ht Hm
        go_wp2_with fail
        refine (qtake_miss [124] (by simp) Ht.out HL.out.S).mono ?_
        rintro en W6 ⟨rfl, ⟨k6, h2⟩, hO2⟩
        have HL := Lib.hid (HL.out.off hlt hO2 h2)
        clear h2 hO2
        have hn3 : n = 1 ∨ 2 ≤ n := by omega
        rcases hn3 with rfl | hn2
        · obtain ⟨g, ⟨t1, A1, c1⟩, rfl, hx, h8, hg, hcv, hnd⟩ := HL.out.first (by omega)
          have hj : joinT 5 (ns.map fun x : Nx => x.1) = t1 := by
            have hl := HL.out.len
            match ns, hl, hx with
            | [y], _, hx => simp at hx; subst hx; rfl
          have Hj := Lib.hid hj; have Hnd := Lib.hid hnd
          obtain ⟨f0, f1, f2, f3, f4, f5, f6, f7⟩ := h8
          simp only [Nat.zero_add] at f1 f2 f3 f4 f5 f6 f7
          clear hj hnd hx
          obtain ⟨⟨r0, r1, r2, r3, r4, r5, r6, r7⟩, hz⟩ := HL.out.R.cells8
          have z0 := hz 0; have z1 := hz 1; have z2 := hz 2; have z3 := hz 3; have z4 := hz 4; have z5 := hz 5; have z6 := hz 6; have z7 := hz 7
          have lr := HL.out.R.lt
          clear hz
          go_wp2_with fail
          change bodyPost _ _ _ _ _ (writeX W6 w.heap.size (t1, A1, c1))
          have hfn := writeX_blk HL.out.R (t1, A1, c1)
          obtain ⟨⟨y0, y1, y2, y3, y4, y5, y6, y7⟩, _⟩ := hfn.cells8
          have hRS := HL.out.S.boxX (b := w.heap.size) (by omega) (t1, A1, c1)
          have hOff := Off.boxW HL.out.O (Nat.le_refl _) (t1, A1, c1)
          have hNod : NodeAt (writeX W6 w.heap.size (t1, A1, c1)) (fun b => w.heap.size ≤ b ∧ b < (writeX W6 w.heap.size (t1, A1, c1)).heap.size) (((t1, A1, c1) : Nx)).1 (((t1, A1, c1) : Nx)).2.1 (((t1, A1, c1) : Nx)).2.2 := Hnd.out.mono fun k (hk : w.heap.size < k ∧ k < W6.heap.size) => ⟨⟨by omega, by rw [writeX_size]; exact hk.2⟩, fun o => World.cell?_of_block (w := W6) (a := ⟨k, o, none⟩) (writeX_other _ _ _ _ (show k ≠ w.heap.size by omega))⟩
          generalize writeX W6 w.heap.size (t1, A1, c1) = W3 at *
          exact bodyPost_ret (v := nodeV (((t1, A1, c1) : Nx)).1 (((t1, A1, c1) : Nx)).2.1 (((t1, A1, c1) : Nx)).2.2) (by simp [results, Tryz.results64, y0, y1, y2, y3, y4, y5, y6, y7, go_sem]) rfl ⟨(t1, A1, c1), k6, _, rfl, hNod, hRS, hOff, by have := Hfin.out; rw [Hj.out] at this; exact this⟩
        · obtain rfl : n = (ns.map fun x : Nx => x.1).length := by simp [HL.out.len]
          have hnd := HL.out.node (by omega) (by omega) (.mk 5 0 0 0 0 0 0 (ns.map fun x : Nx => x.1)) rfl
          have hj : joinT 5 (ns.map fun x : Nx => x.1) = .mk 5 0 0 0 0 0 0 (ns.map fun x : Nx => x.1) := by
            generalize ns.map (fun x : Nx => x.1) = l at hn2
            match l, hn2 with
            | a :: b :: l, _ => rfl
          have hb0 : (((ns.map fun x : Nx => x.1).length : Int) == 0) = false := by rw [beq_eq_false_iff_ne]; omega
          have hb1 : (((ns.map fun x : Nx => x.1).length : Int) == 1) = false := by rw [beq_eq_false_iff_ne]; omega
          have Hj := Lib.hid hj; have Hnd := Lib.hid hnd
          clear hj hnd
          generalize hl : (ns.map fun x : Nx => x.1) = l at *
          obtain ⟨⟨r0, r1, r2, r3, r4, r5, r6, r7⟩, hz⟩ := HL.out.R.cells8
          have z0 := hz 0; have z1 := hz 1; have z2 := hz 2; have z3 := hz 3; have z4 := hz 4; have z5 := hz 5; have z6 := hz 6; have z7 := hz 7
          have lr := HL.out.R.lt
          clear hz
          go_wp2_with fail
          change bodyPost _ _ _ _ _ (writeX W6 w.heap.size (T.mk 5 0 0 0 0 0 0 l, Av, cv))
          have hfn := writeX_blk HL.out.R (T.mk 5 0 0 0 0 0 0 l, Av, cv)
          obtain ⟨⟨y0, y1, y2, y3, y4, y5, y6, y7⟩, _⟩ := hfn.cells8
          have hRS := HL.out.S.boxX (b := w.heap.size) (by omega) (T.mk 5 0 0 0 0 0 0 l, Av, cv)
          have hOff := Off.boxW HL.out.O (Nat.le_refl _) (T.mk 5 0 0 0 0 0 0 l, Av, cv)
          have hNod : NodeAt (writeX W6 w.heap.size (T.mk 5 0 0 0 0 0 0 l, Av, cv)) (fun b => w.heap.size ≤ b ∧ b < (writeX W6 w.heap.size (T.mk 5 0 0 0 0 0 0 l, Av, cv)).heap.size) (((T.mk 5 0 0 0 0 0 0 l, Av, cv) : Nx)).1 (((T.mk 5 0 0 0 0 0 0 l, Av, cv) : Nx)).2.1 (((T.mk 5 0 0 0 0 0 0 l, Av, cv) : Nx)).2.2 := Hnd.out.mono fun k (hk : w.heap.size < k ∧ k < W6.heap.size) => ⟨⟨by omega, by rw [writeX_size]; exact hk.2⟩, fun o => World.cell?_of_block (w := W6) (a := ⟨k, o, none⟩) (writeX_other _ _ _ _ (show k ≠ w.heap.size by omega))⟩
          generalize writeX W6 w.heap.size (T.mk 5 0 0 0 0 0 0 l, Av, cv) = W3 at *
          exact bodyPost_ret (v := nodeV (((T.mk 5 0 0 0 0 0 0 l, Av, cv) : Nx)).1 (((T.mk 5 0 0 0 0 0 0 l, Av, cv) : Nx)).2.1 (((T.mk 5 0 0 0 0 0 0 l, Av, cv) : Nx)).2.2) (by simp [results, Tryz.results64, y0, y1, y2, y3, y4, y5, y6, y7, go_sem]) rfl ⟨(T.mk 5 0 0 0 0 0 0 l, Av, cv), k6, _, rfl, hNod, hRS, hOff, by have := Hfin.out; rw [Hj.out] at this; exact this⟩
      · have hres : altsP grp (k + 1) (ns.map fun x : Nx => x.1) r' = match rowP grp r2 with | .error e => .error e | .ok (n, r1) => altsP grp k ((ns.map fun x : Nx => x.1) ++ [n]) r1 := by
          rw [altsP, ht]; rfl
        have hl := takeP_len ht
        simp only [List.length_cons, List.length_nil] at hl
        simp only [Rs.rest] at hnl
        have Hres := Lib.hid hres; have Ht := Lib.hid ht; clear hres ht
        go_wp2_with fail
        refine (qtake_hit [124] (by simp) Ht.out HL.out.S).mono ?_
        rintro en W6 ⟨rfl, ⟨k6, h2⟩, hO2⟩
        have HN := Lib.hid (HL.out.boxOff hlt HN.out hO2)
        have HL := Lib.hid (HL.out.off hlt hO2 h2)
        clear h2 hO2
        have hrow : ∀ g, (Value.slice Av n cv).ownBlock = some g → g < W6.heap.size := fun g hg => (HL.out.own.lt g hg).2
        have hw6 : bx < W6.heap.size := HL.out.b2
        go_wp2_with fail
        refine (HP.out W6 k6 (.ok r2) HL.out.S (fun _ => ⟨r, Hsr.out⟩)).mono ?_
        rintro en w3 ⟨⟨t3, A3, c3⟩, k3, s3, rfl, hx3, h3, hO3, ho3⟩
        have HN := Lib.hid (HL.out.boxOff hlt HN.out hO3)
        have HL := Lib.hid (HL.out.off hlt hO3 h3)
        have hz3 := hO3.size
        have Hx3 := Lib.hid hx3; have Ho3 := Lib.hid ho3
        clear hx3 ho3 hO3 h3
        obtain ⟨⟨r0, r1, r2_, r3, r4, r5, r6, r7⟩, hz⟩ := HN.out.cells8
        have z0 := hz 0; have z1 := hz 1; have z2 := hz 2; have z3 := hz 3; have z4 := hz 4; have z5 := hz 5; have z6 := hz 6; have z7 := hz 7
        have lr := HN.out.lt
        clear hz
        go_upto_region 6 with fail
        have hNy := writeX_blk HN.out (t3, A3, c3)
        have hLy := HL.out.box hlt hwb (t3, A3, c3)
        have hXy : NodeAt (writeX w3 bx (t3, A3, c3)) (fun b => w.heap.size < b ∧ b < (writeX w3 bx (t3, A3, c3)).heap.size ∧ b ≠ bx ∧ some b ≠ (Value.slice Av n cv).ownBlock) t3 A3 c3 := Hx3.out.mono fun b (hb : W6.heap.size ≤ b ∧ b < w3.heap.size) => ⟨⟨by omega, by rw [writeX_size]; exact hb.2, by omega, fun e => by have := hrow b e.symm; omega⟩, fun o => World.cell?_of_block (w := w3) (a := ⟨b, o, none⟩) (writeX_other _ _ _ _ (show b ≠ bx by omega))⟩
        change Code.wp _ _ _ _ (writeX w3 bx (t3, A3, c3))
        have HN := Lib.hid hNy; have HL := Lib.hid hLy; have HX := Lib.hid hXy
        clear hNy hLy hXy Hx3 z0 z1 z2 z3 z4 z5 z6 z7 r0 r1 r2_ r3 r4 r5 r6 r7 lr hrow
        generalize writeX w3 bx (t3, A3, c3) = W5 at *
        obtain ⟨⟨f0, f1, f2, f3, f4, f5, f6, f7⟩, _⟩ := HN.out.cells8
        have ln5 := HN.out.lt
        have hnews : ∀ ad, some (⟨W5.heap.size, 0, none⟩ : Addr) = some ad → ∀ j u, (xcell (t3, A3, c3))[j]? = some u → (W5.alloc (.cells (xcell (t3, A3, c3)).toArray 48)).cell? (ad.add j) = some u := fun ad e j u hu => by
          simp only [Option.some.injEq] at e
          subst e
          rw [addr_addX, World.cell?_alloc_new, Nat.zero_add]
          simpa using hu
        have Hnews := Lib.hid hnews; clear hnews
        have hWb : bx + 1 ≤ W5.heap.size := HL.out.b2
        go_wp2_with (at_builtin; refine wpList_append_fromX (bx + 1) rfl _ _ 46 48 _ 8 80 rfl Tryz.underlying46 Tryz.infoNodeX rfl (by omega) (by omega) (.slice Av n cv) n 1 (xcells ns) (xcell (t3, A3, c3)) (some ⟨W5.heap.size, 0, none⟩) 1 rfl rfl (by simp) rfl Hnews.out (xcell_one _) (HL.out.own.alloc _) (by simp; omega) (by omega) (fun A5 c5 w5 ho5 hg5 hat5 => ?_); have HL5 := Lib.hid (HL.out.push hlt (t3, A3, c3) HX.out ((Below.refl _ _).alloc (Nat.le_refl _) _) ho5 hg5 hat5); have HN5 := Lib.hid (HL.out.boxPush HN.out ((Below.refl _ _).alloc (Nat.le_refl _) _) hg5); clear ho5 hg5 hat5)
        have hcs : s3.rest.length ≤ r2.length ∧ ((∃ e, s3 = .error e ∧ (s = .error e ∨ ∃ r, s = .ok r ∧ choiceP grp r = .error e)) ∨ ∃ r r' k, s = .ok r ∧ s3 = .ok r' ∧ r'.length < k ∧ choiceP grp r = match altsP grp k ((ns ++ [(t3, A3, c3)]).map fun x : Nx => x.1) r' with | .error e => .error e | .ok (l, r2) => .ok (joinT 5 l, r2)) := by
          have hoo := Ho3.out
          cases hpc : rowP grp r2 with
          | error e =>
            simp only [Out, hpc] at hoo
            subst hoo
            exact ⟨by simp [Rs.rest], .inl ⟨e, rfl, .inr ⟨r, Hsr.out, by rw [Hpp.out, Hres.out, hpc]⟩⟩⟩
          | ok y =>
            obtain ⟨n', r3⟩ := y
            simp only [Out, hpc] at hoo
            obtain ⟨rfl, rfl⟩ := hoo
            have hl3 := row_len HGl.out hpc
            exact ⟨by simp only [Rs.rest]; omega, .inr ⟨r, r3, k, Hsr.out, rfl, by omega, by rw [Hpp.out, Hres.out, hpc]; simp⟩⟩
        obtain ⟨hl1, hcs⟩ := hcs
        have HCS := Lib.hid hcs; clear hcs
        go_roundg (s3.rest.length + 1)
        case measure => have := Hm.out; simp only [Rs.rest] at this; omega
        case rel => exact ⟨n + 1, _, A5, c5, k3, s3, _, rfl, by omega, rfl, by omega, HL5.out, HN5.out, HCS.out⟩
end Go.Proofs.YthlakbjnmbddaaaGreatDoor

/- vouchref10's Reader: group: walked. -/
set_option linter.unusedVariables false
set_option linter.unusedSimpArgs false
namespace Go.Proofs.YthlakbjnmbddaaaGreatDoor
open Go.RowKit

set_option maxRecDepth 100000 in
set_option maxHeartbeats 8000000 in
theorem qgroup_any (p : Nat) (St : Bs) : ∀ (d : Nat) (op : Int) (hop : op + d = 64) (h0 : 0 ≤ op) (w : World) (k : Nat) (r : Bs), RQ w p St k op (.ok r) →
    Calls Tryz.prog 135 #[.pointer (some ⟨p, 0, none⟩)] w fun en w' => QNode p St op (groupP d) (.ok r) w en w' := by
  intro d
  induction d with
  | zero =>
    intro op hop h0 w k r h
    have hlt := h.lt
    have H := Lib.hid h
    have hop1 : op = 64 := by omega
    have hgt : (64 : Int) < op + 1 := by omega
    have hopb : op ≤ 64 := by omega
    clear h hop hop1
    go_enter Tryz.func135, Tryz.ntmps135
    go_upto_region 1 with fail
    generalize hW : w.alloc _ = W0
    have hB0 : Below w.heap.size w W0 := by subst hW; exact (Below.refl _ _).alloc (Nat.le_refl _) _
    have R0 : BlkX W0 w.heap.size (xcell (.mk 0 0 0 0 0 0 0 [], none, 0)).toArray := by subst hW; exact BlkX.new w _
    clear hW
    have h0 := H.out.later hB0
    have c2 := h0.rdr.c2
    have zz2 := h0.rdr.z 2
    have H0 := Lib.hid h0
    clear h0
    go_upto_region 2 with fail
    have hR : RQ (W0.setCell ⟨p, 2, none⟩ (.int .i64 (op + 1))) p St k (op + 1) (.ok r) := ⟨H0.out.rdr.set2 (op + 1), H0.out.ok, H0.out.ne⟩
    have hO := (Off.refl p W0).set 2 (.int .i64 (op + 1))
    change Code.wp _ _ _ _ (W0.setCell ⟨p, 2, none⟩ (.int .i64 (op + 1)))
    generalize W0.setCell ⟨p, 2, none⟩ (.int .i64 (op + 1)) = W1 at *
    clear c2 zz2
    have HNr := Lib.hid (Off.blk hO R0 (by omega))
    have HOr := Lib.hid ((Off.of_below hB0).trans hO)
    have HRr := Lib.hid hR
    clear hO hR R0 hB0 H0 H
    have c2 := HRr.out.rdr.c2
    have lw1 := HNr.out.lt
    go_wp2_with fail
    refine (qfail_ok 3 (by omega) HRr.out).mono ?_
    rintro en w2 ⟨rfl, hR, hO⟩
    clear c2
    have hz2 := hO.size
    have HNr := Lib.hid (Off.blk hO HNr.out (by omega))
    have HOr := Lib.hid (HOr.out.trans hO)
    have HRr := Lib.hid hR
    clear hO hR
    have lw2 := HNr.out.lt
    go_wp2_with fail
    refine (qpat_any w2 p St k (op + 1) (.error 3) HRr.out (groupP 0) (group_len 0) (fun hh => by obtain ⟨_, hh⟩ := hh; cases hh)).mono ?_
    rintro en w3 ⟨⟨t, A, c⟩, k3, s3, rfl, hx, hR, hO, ho⟩
    cases (show s3 = .error 3 from ho)
    have Hout := Lib.hid (show Out (groupP 0) (.ok r) (fun u => ((t, A, c) : Nx).1 = u) (.error 3) from Out.bad rfl)
    clear ho
    have hzz := hO.size
    have HNr := Lib.hid (Off.blk hO HNr.out (by omega))
    have HOr := Lib.hid (HOr.out.trans hO)
    have HRr := Lib.hid hR
    have Hx := Lib.hid hx
    clear hO hR hx
    go_upto_region 5 with fail
    generalize hW : w3.alloc _ = W5
    have hb5 : Below w3.heap.size w3 W5 := by subst hW; exact (Below.refl _ _).alloc (Nat.le_refl _) _
    have HBx := Lib.hid (show BlkX W5 w3.heap.size (xcell (t, A, c)).toArray by subst hW; exact BlkX.new w3 _)
    clear hW
    have HX := Lib.hid (Hx.out.mono (w' := W5) (ok' := fun b => w.heap.size < b ∧ b < w3.heap.size) fun b hb => ⟨⟨by have := hb.1; omega, hb.2⟩, fun o => hb5.cell (p := ⟨b, o, none⟩) hb.2⟩)
    have HNr := Lib.hid (HNr.out.keep (hb5.block _ HNr.out.lt))
    have HOr := Lib.hid (HOr.out.trans (Off.of_below hb5))
    have HRr := Lib.hid (HRr.out.later hb5)
    have hbn : w.heap.size < w3.heap.size := by omega
    clear hb5 Hx hzz
    generalize w3.heap.size = bn at *
    have lbn := HBx.out.lt
    have c3 := HRr.out.rdr.c3
    simp only [Rs.no] at c3
    have hb0 : ((3 : Int) == 0) = false := by decide
    go_upto_region 7 with fail
    clear c3 hb0
    have c2 := HRr.out.rdr.c2
    have zz2 := HRr.out.rdr.z 2
    have lp := HRr.out.lt
    go_upto_region 8 with fail
    try rw [show op + 1 - 1 = op by omega]
    have hR : RQ (W5.setCell ⟨p, 2, none⟩ (.int .i64 op)) p St k3 op (.error 3) := ⟨HRr.out.rdr.set2 op, HRr.out.ok, HRr.out.ne⟩
    have hO := (Off.refl p W5).set 2 (.int .i64 op)
    change Code.wp _ _ _ _ (W5.setCell ⟨p, 2, none⟩ (.int .i64 op))
    generalize W5.setCell ⟨p, 2, none⟩ (.int .i64 op) = WA at *
    clear c2 zz2 lp
    have HX := Lib.hid (HX.out.mono (w' := WA) (ok' := fun b => w.heap.size < b ∧ b < bn) fun b (hb : w.heap.size < b ∧ b < bn) => ⟨hb, fun o => Off.cell hO (by omega) (by omega)⟩)
    have HBx := Lib.hid (Off.blk hO HBx.out (by omega))
    have HNr := Lib.hid (Off.blk hO HNr.out (by omega))
    have HOr := Lib.hid (HOr.out.trans hO)
    have HRr := Lib.hid hR
    clear hO hR
    obtain ⟨⟨f0, f1, f2, f3, f4, f5, f6, f7⟩, _⟩ := HBx.out.cells8
    have ln := HBx.out.lt
    obtain ⟨⟨r0, r1_, r2_, r3, r4, r5, r6, r7⟩, hz⟩ := HNr.out.cells8
    have z0 := hz 0; have z1 := hz 1; have z2 := hz 2; have z3 := hz 3; have z4 := hz 4; have z5 := hz 5; have z6 := hz 6; have z7 := hz 7
    have lr := HNr.out.lt
    clear hz
    go_wp2_with fail
    change bodyPost _ _ _ _ _ (writeX WA w.heap.size (t, A, c))
    have hfin := writeX_blk HNr.out (t, A, c)
    obtain ⟨⟨y0, y1, y2, y3, y4, y5, y6, y7⟩, _⟩ := hfin.cells8
    have hRS := HRr.out.boxX (b := w.heap.size) (by omega) (t, A, c)
    have hOff := Off.boxW HOr.out (Nat.le_refl _) (t, A, c)
    have hNod : NodeAt (writeX WA w.heap.size (t, A, c)) (fun b => w.heap.size ≤ b ∧ b < (writeX WA w.heap.size (t, A, c)).heap.size) t A c := HX.out.mono fun k (hk : w.heap.size < k ∧ k < bn) => ⟨⟨by omega, by rw [writeX_size]; omega⟩, fun o => World.cell?_of_block (w := WA) (a := ⟨k, o, none⟩) (writeX_other _ _ _ _ (show k ≠ w.heap.size by omega))⟩
    generalize writeX WA w.heap.size (t, A, c) = W9 at *
    exact bodyPost_ret (v := nodeV t A c) (by simp [results, Tryz.results135, y0, y1, y2, y3, y4, y5, y6, y7, go_sem]) rfl ⟨(t, A, c), k3, (.error 3), rfl, hNod, hRS, hOff, Hout.out⟩
  | succ d ih =>
    intro op hop h0 w k r h
    have hlt := h.lt
    have H := Lib.hid h
    have hgt : decide ((64 : Int) < op + 1) = false := by rw [decide_eq_false_iff_not]; omega
    have hgt2 : op + 1 ≤ 64 := by omega
    have hopb : op ≤ 64 := by omega
    have HCH := Lib.hid (fun (w : World) (k : Nat) (h : RQ w p St k (op + 1) (.ok r)) => qpat_any w p St k (op + 1) (.ok r) h (groupP d) (group_len d) (fun _ w k r h => ih (op + 1) (by omega) (by omega) w k r h))
    clear h hop ih
    go_enter Tryz.func135, Tryz.ntmps135
    go_upto_region 1 with fail
    generalize hW : w.alloc _ = W0
    have hB0 : Below w.heap.size w W0 := by subst hW; exact (Below.refl _ _).alloc (Nat.le_refl _) _
    have R0 : BlkX W0 w.heap.size (xcell (.mk 0 0 0 0 0 0 0 [], none, 0)).toArray := by subst hW; exact BlkX.new w _
    clear hW
    have h0 := H.out.later hB0
    have c2 := h0.rdr.c2
    have zz2 := h0.rdr.z 2
    have H0 := Lib.hid h0
    clear h0
    go_upto_region 2 with fail
    have hR : RQ (W0.setCell ⟨p, 2, none⟩ (.int .i64 (op + 1))) p St k (op + 1) (.ok r) := ⟨H0.out.rdr.set2 (op + 1), H0.out.ok, H0.out.ne⟩
    have hO := (Off.refl p W0).set 2 (.int .i64 (op + 1))
    change Code.wp _ _ _ _ (W0.setCell ⟨p, 2, none⟩ (.int .i64 (op + 1)))
    generalize W0.setCell ⟨p, 2, none⟩ (.int .i64 (op + 1)) = W1 at *
    clear c2 zz2
    have HNr := Lib.hid (Off.blk hO R0 (by omega))
    have HOr := Lib.hid ((Off.of_below hB0).trans hO)
    have HRr := Lib.hid hR
    clear hO hR R0 hB0 H0 H
    have c2 := HRr.out.rdr.c2
    have lw1 := HNr.out.lt
    go_wp2_with fail
    refine (HCH.out W1 k HRr.out).mono ?_
    rintro en w3 ⟨⟨t, A, c⟩, k3, s3, rfl, hx, hR, hO, ho⟩
    have Ho := Lib.hid ho
    clear c2 ho
    have hzz := hO.size
    have HNr := Lib.hid (Off.blk hO HNr.out (by omega))
    have HOr := Lib.hid (HOr.out.trans hO)
    have HRr := Lib.hid hR
    have Hx := Lib.hid hx
    clear hO hR hx
    go_upto_region 5 with fail
    generalize hW : w3.alloc _ = W5
    have hb5 : Below w3.heap.size w3 W5 := by subst hW; exact (Below.refl _ _).alloc (Nat.le_refl _) _
    have HBx := Lib.hid (show BlkX W5 w3.heap.size (xcell (t, A, c)).toArray by subst hW; exact BlkX.new w3 _)
    clear hW
    have HX := Lib.hid (Hx.out.mono (w' := W5) (ok' := fun b => w.heap.size < b ∧ b < w3.heap.size) fun b hb => ⟨⟨by have := hb.1; omega, hb.2⟩, fun o => hb5.cell (p := ⟨b, o, none⟩) hb.2⟩)
    have HNr := Lib.hid (HNr.out.keep (hb5.block _ HNr.out.lt))
    have HOr := Lib.hid (HOr.out.trans (Off.of_below hb5))
    have HRr := Lib.hid (HRr.out.later hb5)
    have hbn : w.heap.size < w3.heap.size := by omega
    clear hb5 Hx hzz
    generalize w3.heap.size = bn at *
    have lbn := HBx.out.lt
    have c3 := HRr.out.rdr.c3
    cases s3 with
    | error e =>
      have hne := HRr.out.ne e rfl
      have hb0 : (e == 0) = false := by rw [beq_eq_false_iff_ne]; exact hne
      have Hout := Lib.hid (show Out (groupP (d + 1)) (.ok r) (fun u => ((t, A, c) : Nx).1 = u) (.error e) from Out.bad (by rw [groupP, out_bad Ho.out]))
      simp only [Rs.no] at c3
      clear hne Ho
      go_upto_region 7 with fail
      clear c3 hb0
      have c2 := HRr.out.rdr.c2
      have zz2 := HRr.out.rdr.z 2
      have lp := HRr.out.lt
      go_upto_region 8 with fail
      try rw [show op + 1 - 1 = op by omega]
      have hR : RQ (W5.setCell ⟨p, 2, none⟩ (.int .i64 op)) p St k3 op (.error e) := ⟨HRr.out.rdr.set2 op, HRr.out.ok, HRr.out.ne⟩
      have hO := (Off.refl p W5).set 2 (.int .i64 op)
      change Code.wp _ _ _ _ (W5.setCell ⟨p, 2, none⟩ (.int .i64 op))
      generalize W5.setCell ⟨p, 2, none⟩ (.int .i64 op) = WA at *
      clear c2 zz2 lp
      have HX := Lib.hid (HX.out.mono (w' := WA) (ok' := fun b => w.heap.size < b ∧ b < bn) fun b (hb : w.heap.size < b ∧ b < bn) => ⟨hb, fun o => Off.cell hO (by omega) (by omega)⟩)
      have HBx := Lib.hid (Off.blk hO HBx.out (by omega))
      have HNr := Lib.hid (Off.blk hO HNr.out (by omega))
      have HOr := Lib.hid (HOr.out.trans hO)
      have HRr := Lib.hid hR
      clear hO hR
      obtain ⟨⟨f0, f1, f2, f3, f4, f5, f6, f7⟩, _⟩ := HBx.out.cells8
      have ln := HBx.out.lt
      obtain ⟨⟨r0, r1_, r2_, r3, r4, r5, r6, r7⟩, hz⟩ := HNr.out.cells8
      have z0 := hz 0; have z1 := hz 1; have z2 := hz 2; have z3 := hz 3; have z4 := hz 4; have z5 := hz 5; have z6 := hz 6; have z7 := hz 7
      have lr := HNr.out.lt
      clear hz
      go_wp2_with fail
      change bodyPost _ _ _ _ _ (writeX WA w.heap.size (t, A, c))
      have hfin := writeX_blk HNr.out (t, A, c)
      obtain ⟨⟨y0, y1, y2, y3, y4, y5, y6, y7⟩, _⟩ := hfin.cells8
      have hRS := HRr.out.boxX (b := w.heap.size) (by omega) (t, A, c)
      have hOff := Off.boxW HOr.out (Nat.le_refl _) (t, A, c)
      have hNod : NodeAt (writeX WA w.heap.size (t, A, c)) (fun b => w.heap.size ≤ b ∧ b < (writeX WA w.heap.size (t, A, c)).heap.size) t A c := HX.out.mono fun k (hk : w.heap.size < k ∧ k < bn) => ⟨⟨by omega, by rw [writeX_size]; omega⟩, fun o => World.cell?_of_block (w := WA) (a := ⟨k, o, none⟩) (writeX_other _ _ _ _ (show k ≠ w.heap.size by omega))⟩
      generalize writeX WA w.heap.size (t, A, c) = W9 at *
      exact bodyPost_ret (v := nodeV t A c) (by simp [results, Tryz.results135, y0, y1, y2, y3, y4, y5, y6, y7, go_sem]) rfl ⟨(t, A, c), k3, (.error e), rfl, hNod, hRS, hOff, Hout.out⟩
    | ok r3 =>
      have hcc : choiceP (groupP d) r = .ok (t, r3) := by
        obtain ⟨x, hx, hv⟩ := out_good Ho.out
        have hv' : t = x := hv
        rw [hx, hv']
      have Hcc := Lib.hid hcc
      simp only [Rs.no] at c3
      clear Ho hcc
      rcases ht : takeP [41] r3 with _ | rr4
      · have Hout := Lib.hid (show Out (groupP (d + 1)) (.ok r) (fun u => ((t, A, c) : Nx).1 = u) (.error 100) from Out.bad (by rw [groupP, Hcc.out]; simp only [ht]))
        have Ht := Lib.hid ht; clear ht
        go_wp2_with fail
        refine (qtake_miss [41] (by simp) Ht.out HRr.out).mono ?_
        rintro en w6 ⟨rfl, ⟨k6, hR⟩, hO⟩
        clear c3
        have HX := Lib.hid (HX.out.mono (w' := w6) (ok' := fun b => w.heap.size < b ∧ b < bn) fun b (hb : w.heap.size < b ∧ b < bn) => ⟨hb, fun o => Off.cell hO (by omega) (by omega)⟩)
        have HBx := Lib.hid (Off.blk hO HBx.out (by omega))
        have HNr := Lib.hid (Off.blk hO HNr.out (by omega))
        have HOr := Lib.hid (HOr.out.trans hO)
        have HRr := Lib.hid hR
        have lbn := HBx.out.lt
        clear hO hR
        go_wp2_with fail
        refine (qfail_ok 100 (by omega) HRr.out).mono ?_
        rintro en w7 ⟨rfl, hR, hO⟩
        have HX := Lib.hid (HX.out.mono (w' := w7) (ok' := fun b => w.heap.size < b ∧ b < bn) fun b (hb : w.heap.size < b ∧ b < bn) => ⟨hb, fun o => Off.cell hO (by omega) (by omega)⟩)
        have HBx := Lib.hid (Off.blk hO HBx.out (by omega))
        have HNr := Lib.hid (Off.blk hO HNr.out (by omega))
        have HOr := Lib.hid (HOr.out.trans hO)
        have HRr := Lib.hid hR
        have lbn := HBx.out.lt
        clear hO hR
        have c2 := HRr.out.rdr.c2
        have zz2 := HRr.out.rdr.z 2
        have lp := HRr.out.lt
        go_upto_region 8 with fail
        try rw [show op + 1 - 1 = op by omega]
        have hR : RQ (w7.setCell ⟨p, 2, none⟩ (.int .i64 op)) p St k6 op (.error 100) := ⟨HRr.out.rdr.set2 op, HRr.out.ok, HRr.out.ne⟩
        have hO := (Off.refl p w7).set 2 (.int .i64 op)
        change Code.wp _ _ _ _ (w7.setCell ⟨p, 2, none⟩ (.int .i64 op))
        generalize w7.setCell ⟨p, 2, none⟩ (.int .i64 op) = WA at *
        clear c2 zz2 lp
        have HX := Lib.hid (HX.out.mono (w' := WA) (ok' := fun b => w.heap.size < b ∧ b < bn) fun b (hb : w.heap.size < b ∧ b < bn) => ⟨hb, fun o => Off.cell hO (by omega) (by omega)⟩)
        have HBx := Lib.hid (Off.blk hO HBx.out (by omega))
        have HNr := Lib.hid (Off.blk hO HNr.out (by omega))
        have HOr := Lib.hid (HOr.out.trans hO)
        have HRr := Lib.hid hR
        clear hO hR
        obtain ⟨⟨f0, f1, f2, f3, f4, f5, f6, f7⟩, _⟩ := HBx.out.cells8
        have ln := HBx.out.lt
        obtain ⟨⟨r0, r1_, r2_, r3, r4, r5, r6, r7⟩, hz⟩ := HNr.out.cells8
        have z0 := hz 0; have z1 := hz 1; have z2 := hz 2; have z3 := hz 3; have z4 := hz 4; have z5 := hz 5; have z6 := hz 6; have z7 := hz 7
        have lr := HNr.out.lt
        clear hz
        go_wp2_with fail
        change bodyPost _ _ _ _ _ (writeX WA w.heap.size (t, A, c))
        have hfin := writeX_blk HNr.out (t, A, c)
        obtain ⟨⟨y0, y1, y2, y3, y4, y5, y6, y7⟩, _⟩ := hfin.cells8
        have hRS := HRr.out.boxX (b := w.heap.size) (by omega) (t, A, c)
        have hOff := Off.boxW HOr.out (Nat.le_refl _) (t, A, c)
        have hNod : NodeAt (writeX WA w.heap.size (t, A, c)) (fun b => w.heap.size ≤ b ∧ b < (writeX WA w.heap.size (t, A, c)).heap.size) t A c := HX.out.mono fun k (hk : w.heap.size < k ∧ k < bn) => ⟨⟨by omega, by rw [writeX_size]; omega⟩, fun o => World.cell?_of_block (w := WA) (a := ⟨k, o, none⟩) (writeX_other _ _ _ _ (show k ≠ w.heap.size by omega))⟩
        generalize writeX WA w.heap.size (t, A, c) = W9 at *
        exact bodyPost_ret (v := nodeV t A c) (by simp [results, Tryz.results135, y0, y1, y2, y3, y4, y5, y6, y7, go_sem]) rfl ⟨(t, A, c), k6, (.error 100), rfl, hNod, hRS, hOff, Hout.out⟩
      · have Hout := Lib.hid (show Out (groupP (d + 1)) (.ok r) (fun u => ((t, A, c) : Nx).1 = u) (.ok rr4) from Out.good (x := t) (by rw [groupP, Hcc.out]; simp only [ht]) rfl)
        have Ht := Lib.hid ht; clear ht
        go_wp2_with fail
        refine (qtake_hit [41] (by simp) Ht.out HRr.out).mono ?_
        rintro en w6 ⟨rfl, ⟨k6, hR⟩, hO⟩
        clear c3
        have HX := Lib.hid (HX.out.mono (w' := w6) (ok' := fun b => w.heap.size < b ∧ b < bn) fun b (hb : w.heap.size < b ∧ b < bn) => ⟨hb, fun o => Off.cell hO (by omega) (by omega)⟩)
        have HBx := Lib.hid (Off.blk hO HBx.out (by omega))
        have HNr := Lib.hid (Off.blk hO HNr.out (by omega))
        have HOr := Lib.hid (HOr.out.trans hO)
        have HRr := Lib.hid hR
        have lbn := HBx.out.lt
        clear hO hR
        have c2 := HRr.out.rdr.c2
        have zz2 := HRr.out.rdr.z 2
        have lp := HRr.out.lt
        go_upto_region 8 with fail
        try rw [show op + 1 - 1 = op by omega]
        have hR : RQ (w6.setCell ⟨p, 2, none⟩ (.int .i64 op)) p St k6 op (.ok rr4) := ⟨HRr.out.rdr.set2 op, HRr.out.ok, HRr.out.ne⟩
        have hO := (Off.refl p w6).set 2 (.int .i64 op)
        change Code.wp _ _ _ _ (w6.setCell ⟨p, 2, none⟩ (.int .i64 op))
        generalize w6.setCell ⟨p, 2, none⟩ (.int .i64 op) = WA at *
        clear c2 zz2 lp
        have HX := Lib.hid (HX.out.mono (w' := WA) (ok' := fun b => w.heap.size < b ∧ b < bn) fun b (hb : w.heap.size < b ∧ b < bn) => ⟨hb, fun o => Off.cell hO (by omega) (by omega)⟩)
        have HBx := Lib.hid (Off.blk hO HBx.out (by omega))
        have HNr := Lib.hid (Off.blk hO HNr.out (by omega))
        have HOr := Lib.hid (HOr.out.trans hO)
        have HRr := Lib.hid hR
        clear hO hR
        obtain ⟨⟨f0, f1, f2, f3, f4, f5, f6, f7⟩, _⟩ := HBx.out.cells8
        have ln := HBx.out.lt
        obtain ⟨⟨r0, r1_, r2_, r3, r4, r5, r6, r7⟩, hz⟩ := HNr.out.cells8
        have z0 := hz 0; have z1 := hz 1; have z2 := hz 2; have z3 := hz 3; have z4 := hz 4; have z5 := hz 5; have z6 := hz 6; have z7 := hz 7
        have lr := HNr.out.lt
        clear hz
        go_wp2_with fail
        change bodyPost _ _ _ _ _ (writeX WA w.heap.size (t, A, c))
        have hfin := writeX_blk HNr.out (t, A, c)
        obtain ⟨⟨y0, y1, y2, y3, y4, y5, y6, y7⟩, _⟩ := hfin.cells8
        have hRS := HRr.out.boxX (b := w.heap.size) (by omega) (t, A, c)
        have hOff := Off.boxW HOr.out (Nat.le_refl _) (t, A, c)
        have hNod : NodeAt (writeX WA w.heap.size (t, A, c)) (fun b => w.heap.size ≤ b ∧ b < (writeX WA w.heap.size (t, A, c)).heap.size) t A c := HX.out.mono fun k (hk : w.heap.size < k ∧ k < bn) => ⟨⟨by omega, by rw [writeX_size]; omega⟩, fun o => World.cell?_of_block (w := WA) (a := ⟨k, o, none⟩) (writeX_other _ _ _ _ (show k ≠ w.heap.size by omega))⟩
        generalize writeX WA w.heap.size (t, A, c) = W9 at *
        exact bodyPost_ret (v := nodeV t A c) (by simp [results, Tryz.results135, y0, y1, y2, y3, y4, y5, y6, y7, go_sem]) rfl ⟨(t, A, c), k6, (.ok rr4), rfl, hNod, hRS, hOff, Hout.out⟩
end Go.Proofs.YthlakbjnmbddaaaGreatDoor

/- vouchref10.Parse: walked. -/
set_option linter.unusedVariables false
set_option linter.unusedSimpArgs false
namespace Go.Proofs.YthlakbjnmbddaaaGreatDoor
open Go.RowKit

theorem qparse_ok {s : Bs} {t : T} (hl : ¬ 1024 < s.length) (h : choiceP (groupP 64) s = .ok (t, [])) : parseP s = .ok t := by rw [parseP, if_neg hl, h]
theorem parse_more {s : Bs} {t : T} {c : UInt8} {r : Bs} (hl : ¬ 1024 < s.length) (h : choiceP (groupP 64) s = .ok (t, c :: r)) : parseP s = .error 100 := by rw [parseP, if_neg hl, h]
theorem parse_err {s : Bs} {e : Int} (hl : ¬ 1024 < s.length) (h : choiceP (groupP 64) s = .error e) : parseP s = .error e := by rw [parseP, if_neg hl, h]
set_option maxRecDepth 100000 in
set_option maxHeartbeats 4000000 in
theorem qparse_any (s : Bs) (w : World) :
    Calls Tryz.prog 43 #[.string (bs s)] w fun en w' => GPar s w en w' := by
  have sS := bsq_size s
  by_cases hlen : 1024 < s.length
  · have hp : parseP s = .error 3 := by rw [parseP, if_pos hlen]
    have Hp := Lib.hid hp; clear hp
    go_enter Tryz.func43, Tryz.ntmps43
    go_wp2_with fail
    exact bodyPost_ret (v := .tuple #[nodeV none0 none 0, .int .i64 3]) (by simp [results, Tryz.results43, go_sem, T.k, T.s0, T.s1, T.s2, T.s3, T.mn, T.mx, T.ps]) rfl ⟨(Below.refl _ _).alloc (Nat.le_refl _) _, .inr ⟨3, Hp.out, by omega, rfl⟩⟩
  · have HCH := Lib.hid (fun (w : World) (p : Nat) (h : RQ w p s 0 0 (.ok s)) => qpat_any w p s 0 0 (.ok s) h (groupP 64) (group_len 64) (fun _ w k r h => qgroup_any p s 64 0 (by omega) (by omega) w k r h))
    go_enter Tryz.func43, Tryz.ntmps43
    go_upto_region 4 with fail
    generalize hW : (w.alloc _).alloc _ = W1
    have hB1 : Below w.heap.size w W1 := by subst hW; exact ((Below.refl _ _).alloc (Nat.le_refl _) _).alloc (by simp) _
    have R1 : BlkX W1 w.heap.size (xcell (none0, none, 0)).toArray := by
      subst hW
      exact (BlkX.new w _).keep (((Below.refl _ _).alloc (Nat.le_refl _) _).block _ (by simp))
    have h1 : RQ W1 (w.heap.size + 1) s 0 0 (.ok s) := by
      subst hW
      refine ⟨⟨?_, ?_, ?_, ?_, fun o => ?_, by simp, by omega, by omega⟩, fun r he => by cases he; rfl, fun e he => by cases he⟩
      · simp [go_sem]
      · simp [go_sem]
      · simp [go_sem]
      · simp [go_sem, Rs.no]
      · simp [go_sem]
    have hz1 : w.heap.size + 2 ≤ W1.heap.size := by subst hW; simp
    clear hW
    go_wp2_with fail
    refine (HCH.out W1 (w.heap.size + 1) h1).mono ?_
    rintro en w2 ⟨⟨t, A, c⟩, k2, s2, rfl, hx2, h2, hO2, ho2⟩
    have R2 := Off.blk hO2 R1 (by omega)
    have hz2 := hO2.size
    have hBw2 : Below w.heap.size w w2 := hB1.trans (Off.below hO2 (by omega) (by omega))
    have Hx2 := Lib.hid hx2; have Ho2 := Lib.hid ho2
    clear hx2 ho2 R1 h1 hO2 hB1
    go_upto_region 5 with fail
    generalize hW : w2.alloc _ = W3
    have hB3 : Below w2.heap.size w2 W3 := by subst hW; exact (Below.refl _ _).alloc (Nat.le_refl _) _
    have N3 : BlkX W3 w2.heap.size (xcell (t, A, c)).toArray := by subst hW; exact BlkX.new w2 _
    have hz3 : w2.heap.size < W3.heap.size := N3.lt
    have HNr := Lib.hid (R2.keep (hB3.block _ R2.lt))
    have HRr := Lib.hid (h2.later hB3)
    have HBw := Lib.hid (hBw2.trans (hB3.mono (by omega)))
    have HX := Lib.hid (Hx2.out.mono (w' := W3) (ok' := fun b => w.heap.size + 2 ≤ b ∧ b < w2.heap.size) fun b (hb : W1.heap.size ≤ b ∧ b < w2.heap.size) => ⟨⟨by omega, hb.2⟩, fun o => hB3.cell (p := ⟨b, o, none⟩) hb.2⟩)
    have HBx := Lib.hid N3
    have hbn : w.heap.size + 2 ≤ w2.heap.size := by omega
    clear hW hB3 N3 R2 h2 hBw2 Hx2 hz2
    generalize w2.heap.size = bn at *
    have hz0 : w.heap.size ≤ W3.heap.size := by omega
    have c3 := HRr.out.rdr.c3
    have lp3 := HRr.out.lt
    cases s2 with
    | error e =>
      have hne := HRr.out.ne e rfl
      have Hp := Lib.hid (parse_err hlen (out_bad Ho2.out))
      have hb : (e == 0) = false := by rw [beq_eq_false_iff_ne]; exact hne
      have hbn2 : (e != 0) = true := by rw [bne_iff_ne]; exact hne
      have Hne := Lib.hid hne
      simp only [Rs.no] at c3
      clear hne Ho2
      obtain ⟨⟨r0, r1, r2_, r3, r4, r5, r6, r7⟩, hz⟩ := HNr.out.cells8
      have z0 := hz 0; have zz1 := hz 1; have z2 := hz 2; have z3 := hz 3; have z4 := hz 4; have z5 := hz 5; have z6 := hz 6; have z7 := hz 7
      have lr := HNr.out.lt
      clear hz
      go_wp2_with fail
      go_region
      all_goals go_wp2_with fail
      change bodyPost _ _ _ _ _ (writeX W3 w.heap.size (none0, none, 0)).drew
      have hfn := writeX_blk HNr.out (none0, none, 0)
      obtain ⟨⟨y0, y1, y2, y3, y4, y5, y6, y7⟩, _⟩ := hfn.cells8
      have hbel := (writeX_below HBw.out (Nat.le_refl w.heap.size) (none0, none, 0)).drew
      generalize writeX W3 w.heap.size (none0, none, 0) = W5 at *
      exact bodyPost_ret (v := .tuple #[nodeV none0 none 0, .int .i64 e]) (by simp [results, Tryz.results43, y0, y1, y2, y3, y4, y5, y6, y7, go_sem]) rfl ⟨hbel, .inr ⟨_, Hp.out, Hne.out, rfl⟩⟩
    | ok r2 =>
      have hcc : choiceP (groupP 64) s = .ok (t, r2) := by
        obtain ⟨x, hx, hv⟩ := out_good Ho2.out
        have hv' : t = x := hv
        rw [hx, hv']
      simp only [Rs.no] at c3
      clear Ho2
      have Hd := Lib.hid (done_q HRr.out)
      rcases r2 with _ | ⟨c1, t1⟩
      · have Hp := Lib.hid (qparse_ok hlen hcc)
        clear hcc
        go_wp2_with fail
        refine Hd.out.mono ?_
        rintro en W4 ⟨rfl, h4, hO4⟩
        rw [show doneS (.ok []) = true from rfl]
        clear c3 lp3
        have c3 := h4.rdr.c3
        have lp3 := h4.lt
        simp only [Rs.no] at c3
        have HX := Lib.hid (HX.out.mono (w' := W4) (ok' := fun b => w.heap.size + 2 ≤ b ∧ b < bn) fun b (hb : w.heap.size + 2 ≤ b ∧ b < bn) => ⟨hb, fun o => Off.cell hO4 (by omega) (by omega)⟩)
        have HBx := Lib.hid (Off.blk hO4 HBx.out (by omega))
        have HNr := Lib.hid (Off.blk hO4 HNr.out (by omega))
        have HBw := Lib.hid (HBw.out.trans (Off.below hO4 (B := w.heap.size) (by omega) hz0))
        have lbn := HBx.out.lt
        clear h4 hO4 Hd
        obtain ⟨⟨f0, f1, f2, f3, f4, f5, f6, f7⟩, _⟩ := HBx.out.cells8
        obtain ⟨⟨r0, r1, r2_, r3, r4, r5, r6, r7⟩, hz⟩ := HNr.out.cells8
        have z0 := hz 0; have zz1 := hz 1; have z2 := hz 2; have z3 := hz 3; have z4 := hz 4; have z5 := hz 5; have z6 := hz 6; have z7 := hz 7
        have lr := HNr.out.lt
        clear hz
        go_wp2_with fail
        change bodyPost _ _ _ _ _ (writeX W4 w.heap.size (t, A, c))
        have hfn := writeX_blk HNr.out (t, A, c)
        obtain ⟨⟨y0, y1, y2, y3, y4, y5, y6, y7⟩, _⟩ := hfn.cells8
        have hbel := writeX_below HBw.out (Nat.le_refl w.heap.size) (t, A, c)
        have hNod : NodeAt (writeX W4 w.heap.size (t, A, c)) (fun b => w.heap.size ≤ b ∧ b < (writeX W4 w.heap.size (t, A, c)).heap.size) t A c := HX.out.mono fun k (hk : w.heap.size + 2 ≤ k ∧ k < bn) => ⟨⟨by omega, by rw [writeX_size]; omega⟩, fun o => World.cell?_of_block (w := W4) (a := ⟨k, o, none⟩) (writeX_other _ _ _ _ (show k ≠ w.heap.size by omega))⟩
        generalize writeX W4 w.heap.size (t, A, c) = W5 at *
        exact bodyPost_ret (v := .tuple #[nodeV t A c, .int .i64 0]) (by simp [results, Tryz.results43, y0, y1, y2, y3, y4, y5, y6, y7, go_sem]) rfl ⟨hbel, .inl ⟨t, A, c, Hp.out, rfl, hNod⟩⟩
      · have Hp := Lib.hid (parse_more hlen hcc)
        clear hcc
        go_wp2_with fail
        refine Hd.out.mono ?_
        rintro en W4 ⟨rfl, h4, hO4⟩
        rw [show doneS (.ok (c1 :: t1)) = false from rfl]
        clear c3
        have HNr := Lib.hid (Off.blk hO4 HNr.out (by omega))
        have HBw := Lib.hid (HBw.out.trans (Off.below hO4 (B := w.heap.size) (by omega) hz0))
        have hz4 : w.heap.size ≤ W4.heap.size := by have := HNr.out.lt; omega
        clear hO4 Hd
        have H4 := Lib.hid h4
        clear h4
        go_wp2_with fail
        refine (qfail_ok 100 (by omega) H4.out).mono ?_
        rintro en W6 ⟨rfl, h4, hO4⟩
        have c3 := h4.rdr.c3
        simp only [Rs.no] at c3
        clear lp3
        have lp3 := h4.lt
        have HNr := Lib.hid (Off.blk hO4 HNr.out (by omega))
        have HBw := Lib.hid (HBw.out.trans (Off.below hO4 (B := w.heap.size) (by omega) hz4))
        clear h4 hO4 H4
        have hbn2 : ((100 : Int) != 0) = true := by decide
        have Hne := Lib.hid (show (100 : Int) ≠ 0 by decide)
        obtain ⟨⟨r0, r1, r2_, r3, r4, r5, r6, r7⟩, hz⟩ := HNr.out.cells8
        have z0 := hz 0; have zz1 := hz 1; have z2 := hz 2; have z3 := hz 3; have z4 := hz 4; have z5 := hz 5; have z6 := hz 6; have z7 := hz 7
        have lr := HNr.out.lt
        clear hz
        go_wp2_with fail
        go_region
        all_goals go_wp2_with fail
        change bodyPost _ _ _ _ _ (writeX W6 w.heap.size (none0, none, 0)).drew
        have hfn := writeX_blk HNr.out (none0, none, 0)
        obtain ⟨⟨y0, y1, y2, y3, y4, y5, y6, y7⟩, _⟩ := hfn.cells8
        have hbel := (writeX_below HBw.out (Nat.le_refl w.heap.size) (none0, none, 0)).drew
        generalize writeX W6 w.heap.size (none0, none, 0) = W5 at *
        exact bodyPost_ret (v := .tuple #[nodeV none0 none 0, .int .i64 100]) (by simp [results, Tryz.results43, y0, y1, y2, y3, y4, y5, y6, y7, go_sem]) rfl ⟨hbel, .inr ⟨_, Hp.out, Hne.out, rfl⟩⟩
end Go.Proofs.YthlakbjnmbddaaaGreatDoor

/- append, with what it writes into the row it stands in. -/
set_option linter.unusedVariables false
set_option linter.unusedSimpArgs false
namespace Go.Proofs.YthlakbjnmbddaaaGreatDoor
open Go.RowKit

/-- Cells put into a row of cells; or nothing done. -/
structure PutAt (cur cur' : Array Value) (o : Nat) (ys : List Value) : Prop where
  size : cur'.size = cur.size
  old : ∀ k, (k < o ∨ o + ys.length ≤ k) → cur'[k]? = cur[k]?
  new : cur' = cur ∨ ∀ j, j < ys.length → cur'[o + j]? = ys[j]?
theorem PutAt.refl (cur : Array Value) (o : Nat) (ys : List Value) : PutAt cur cur o ys := ⟨rfl, fun _ _ => rfl, .inl rfl⟩
theorem putAt_mk (cur : Array Value) (o : Nat) (ys : List Value) (h : o + ys.length ≤ cur.size) : PutAt cur (cur.toList.take o ++ ys ++ cur.toList.drop (o + ys.length)).toArray o ys := by
  have hl : cur.toList.length = cur.size := Array.length_toList
  have hc : ∀ k, cur[k]? = cur.toList[k]? := fun k => by rw [Array.getElem?_toList]
  refine ⟨?_, fun k hk => ?_, .inr fun j hj => ?_⟩
  · simp only [List.size_toArray, List.length_append, List.length_take, List.length_drop, hl]; omega
  · rw [hc, List.getElem?_toArray]
    rcases hk with hk | hk
    · rw [List.append_assoc, List.getElem?_append_left (by simp only [List.length_take, hl]; omega), List.getElem?_take, if_pos hk]
    · rw [List.getElem?_append_right (by simp only [List.length_append, List.length_take, hl]; omega), List.getElem?_drop]
      congr 1
      simp only [List.length_append, List.length_take, hl]
      omega
  · rw [List.getElem?_toArray, List.append_assoc, List.getElem?_append_right (by simp only [List.length_take, hl]; omega), List.getElem?_append_left (by simp only [List.length_take, hl]; omega)]
    congr 1
    simp only [List.length_take, hl]
    omega

/-- append of a slice that stands in some row, and what it writes there. -/
theorem wpList_append_keepX {P : Program} {ops : Array Oper} {rest : List Oper} {o : Oper} {a : Act} {Q : Exit → Act → World → Prop} {W : World} (base : Nat)
    (hgd : o.guard = none) (s x : Operand) (t e : TypeId) (z : Value) (size bytes : Nat)
    (ho : o.op = .call { callee := .builtin .append, args := #[s, x], argTypes := #[t, t] })
    (ht : P.underlying t = some (.slice e)) (hinfo : (P.info? e).map (fun i => (i.zero, i.size, i.bytes)) = some (some z, size, bytes)) (hz : z.cells.size = size) (hs0 : 0 < size) (hb0 : 0 < bytes)
    (v : Value) (n m : Nat) (xs ys : List Value) (ad : Addr) (c : Nat) (hs : a.eval s = v) (hx : a.eval x = .slice (some ad) m c) (hys : ys.length = m * size)
    (hnews : ∀ j u, ys[j]? = some u → W.cell? (ad.add j) = some u) (h1 : ∀ u ∈ ys, u.oneCell' = true)
    (HO : W.ownsRow base e size v n xs) (hbase : base ≤ W.heap.size) (hl : (n + m) * bytes ≤ 140737488355328)
    (h : ∀ A' c' w1, w1.ownsRow base e size (.slice A' (n + m) c') (n + m) (xs ++ ys) → W.grownBy w1 v.ownBlock → ((Value.slice A' (n + m) c').ownBlock = v.ownBlock ∨ (Value.slice A' (n + m) c').ownBlock = some W.heap.size) →
      (∀ g cur, v.ownBlock = some g → W.heap[g]? = some (.cells cur e (0, 0)) → ∃ cur', w1.heap[g]? = some (.cells cur' e (0, 0)) ∧ PutAt cur cur' (n * size) ys) →
      wpList P ops Q rest (a.put o.dst (.slice A' (n + m) c')) w1) :
    wpList P ops Q (o :: rest) a W := by
  refine wpList_plain hgd fun K hK => ?_
  obtain ⟨i0, hi, hzz⟩ := Option.map_eq_some_iff.1 hinfo
  simp only [Prod.mk.injEq] at hzz
  obtain ⟨hz0, hz1, hz2⟩ := hzz
  have hlen : n + m ≤ 140737488355328 := Nat.le_trans (Nat.le_mul_of_pos_right _ hb0) hl
  unfold Oper.wp execOp
  obtain ⟨v1, w1, hr, hown, hg, _, hat⟩ := run_append_own_at (P := P) W base t o.type e i0 z size bytes ht hi hz0 hz1 hz2 hz hs0 v n xs HO ad m c ys hys hnews h1 (by simp only [maxLen]; omega) hl hbase
  have hkeep : ∀ g cur, v.ownBlock = some g → W.heap[g]? = some (.cells cur e (0, 0)) → ∃ cur', w1.heap[g]? = some (.cells cur' e (0, 0)) ∧ PutAt cur cur' (n * size) ys := by
    intro g cur hgv hgc
    have hxs := HO.1
    rcases HO.2 with ⟨rfl, _⟩ | ⟨g', cap, cur0, rfl, hbg, hg', hnc, hcm, hcs, htake⟩
    · simp [Value.ownBlock] at hgv
    · have hgg : g' = g := by simpa [Value.ownBlock] using hgv
      subst hgg
      obtain rfl : cur0 = cur := by rw [hg'] at hgc; simpa using hgc
      have hlt : g' < W.heap.size := (Array.getElem?_eq_some_iff.1 hg').1
      by_cases hroom : n + m ≤ cap
      · have hfit : n * size + ys.length ≤ cur0.size := by rw [hys, hcs, ← Nat.add_mul]; exact Nat.mul_le_mul_right _ hroom
        have hr2 := run_append_room (P := P) W t o.type e i0 ht hi g' n cap cur0 hg' ad m c ys (by rw [hz1]; exact hys) hnews h1 hroom (by rw [hz1]; exact hfit)
        have e1 := hr.symm.trans hr2
        injection e1 with e1 e2
        rw [hz1] at e2
        subst e2
        exact ⟨_, setRow_heap W g' cur0 _ e _ hg', putAt_mk cur0 (n * size) ys hfit⟩
      · have holds : ∀ j u, xs[j]? = some u → W.cell? ((⟨g', 0, none⟩ : Addr).add j) = some u := HO.cells (g := g') rfl
        have hr2 := run_append_grow (P := P) W t o.type e i0 z ht hi hz0 ⟨g', 0, none⟩ n cap xs (by rw [hz1]; exact hxs) holds ad m c ys (by rw [hz1]; exact hys) hnews (by omega) (by omega) (growslice_fits (by omega) (by rw [hz2]; exact hl))
        have e1 := hr.symm.trans hr2
        injection e1 with e1 e2
        subst e2
        exact ⟨cur0, (heap_alloc_old W.drew _ hlt).trans hg', .refl _ _ _⟩
  simp only [ho, resolve, invoke, builtin, Sem.run_bind, Sem.run_pure, Result.andThen_ok, List.map_toArray, List.map_cons, List.map_nil, hs, hx, hr]
  have hv : ∃ A' c', v1 = .slice A' (n + m) c' := by
    rcases hown.2 with ⟨rfl, h0⟩ | ⟨g, cap, cur, rfl, _⟩
    · exact ⟨_, _, by rw [h0]⟩
    · exact ⟨_, _, rfl⟩
  obtain ⟨A', c', rfl⟩ := hv
  exact hK _ _ (h A' c' w1 hown hg hat hkeep)
end Go.Proofs.YthlakbjnmbddaaaGreatDoor

/- A tree that was handed out is written over: what may have changed. Plain. -/
set_option linter.unusedVariables false
set_option linter.unusedSimpArgs false
namespace Go.Proofs.YthlakbjnmbddaaaGreatDoor
open Go.RowKit

def leafT (k : Int) : T := .mk k 0 0 0 0 0 0 []
/-- Nodes written over by leaves. -/
def LeafStep (cur cur' : Array Value) : Prop := cur'.size = cur.size ∧ ∀ q, (∀ j, j < 8 → cur'[q * 8 + j]? = cur[q * 8 + j]?) ∨ ∃ k, ∀ j, j < 8 → cur'[q * 8 + j]? = (xcell (leafT k, none, 0))[j]?
theorem LeafStep.refl (c : Array Value) : LeafStep c c := ⟨rfl, fun _ => .inl fun _ _ => rfl⟩
theorem LeafStep.trans {a b c : Array Value} (h : LeafStep a b) (k : LeafStep b c) : LeafStep a c := by
  refine ⟨k.1.trans h.1, fun q => ?_⟩
  rcases k.2 q with k | k
  · rcases h.2 q with h | ⟨x, h⟩
    · exact .inl fun j hj => (k j hj).trans (h j hj)
    · exact .inr ⟨x, fun j hj => (k j hj).trans (h j hj)⟩
  · exact .inr k
theorem LeafStep.put {cur cur' : Array Value} {n : Nat} {k : Int} (h : PutAt cur cur' (n * 8) (xcell (leafT k, none, 0))) : LeafStep cur cur' := by
  refine ⟨h.size, fun q => ?_⟩
  have hl : (xcell (leafT k, none, 0)).length = 8 := rfl
  rcases h.new with h2 | h2
  · exact .inl fun _ _ => by rw [h2]
  · by_cases hq : q = n
    · subst hq
      exact .inr ⟨k, fun j hj => h2 j (by rw [hl]; exact hj)⟩
    · refine .inl fun j hj => h.old _ ?_
      rw [hl]
      rcases Nat.lt_or_gt_of_ne hq with h3 | h3
      · left; omega
      · right; omega

/-- Nothing old is touched but rows of nodes that may be, and there whole nodes are written over by leaves. -/
structure SpT (ok : Nat → Prop) (w w' : World) : Prop where
  os : w'.os = w.os
  tape : w'.tape = w.tape
  output : w'.output = w.output
  size : w.heap.size ≤ w'.heap.size
  block : ∀ b, b < w.heap.size → w'.heap[b]? = w.heap[b]? ∨ (ok b ∧ ∃ cur cur', BlkX w b cur ∧ BlkX w' b cur' ∧ LeafStep cur cur')
theorem SpT.trans {ok : Nat → Prop} {a b c : World} (h : SpT ok a b) (k : SpT ok b c) : SpT ok a c := by
  refine ⟨k.os.trans h.os, k.tape.trans h.tape, k.output.trans h.output, Nat.le_trans h.size k.size, fun g hg => ?_⟩
  rcases h.block g hg with h1 | ⟨h0, x, y, h1, h2, h3⟩
  · rcases k.block g (Nat.lt_of_lt_of_le hg h.size) with k1 | ⟨k0, x, y, k1, k2, k3⟩
    · exact .inl (k1.trans h1)
    · exact .inr ⟨k0, x, y, k1.keep h1.symm, k2, k3⟩
  · rcases k.block g (Nat.lt_of_lt_of_le hg h.size) with k1 | ⟨k0, x', y', k1, k2, k3⟩
    · exact .inr ⟨h0, x, y, h1, h2.keep k1, h3⟩
    · have e : y = x' := by have := h2.symm.trans k1; simpa using this
      subst e
      exact .inr ⟨h0, x, y', h1, k2, h3.trans k3⟩
theorem SpT.of_below {ok : Nat → Prop} {w w' : World} (h : Below w.heap.size w w') : SpT ok w w' := ⟨h.os, h.tape, h.output, h.size, fun b hb => .inl (h.block b hb)⟩
theorem SpT.keep {ok : Nat → Prop} {w w' : World} (h : SpT ok w w') {b : Nat} (hb : b < w.heap.size) (hn : ¬ ok b) : w'.heap[b]? = w.heap[b]? := (h.block b hb).elim id fun h => absurd h.1 hn
theorem SpT.below {ok : Nat → Prop} {w w' : World} (h : SpT ok w w') {B : Nat} (hB : B ≤ w.heap.size) (hn : ∀ b, ok b → B ≤ b) : Below B w w' := ⟨h.os, h.tape, h.output, h.size, fun b hb => h.keep (by omega) (fun ho => by have := hn b ho; omega)⟩
/-- One row is written over. -/
theorem SpT.row {ok : Nat → Prop} {w w' : World} {g : Nat} (hg : w.grownBy w' (some g)) (hok : ok g) {cur cur' : Array Value} (h1 : BlkX w g cur) (h2 : BlkX w' g cur') (h3 : LeafStep cur cur') : SpT ok w w' := by
  refine ⟨hg.os, hg.tape, hg.output, hg.size, fun b hb => ?_⟩
  by_cases e : b = g
  · subst e; exact .inr ⟨hok, cur, cur', h1, h2, h3⟩
  · exact .inl (hg.block b hb (by simpa using e))
/-- Rows of their own stay so. -/
theorem SL.spoil {w w' : World} {ok : Nat → Prop} (hS : SpT ok w w') : ∀ {n : Nat} {A : Option Addr} {len c : Nat}, SL w ok n A len c → SL w' ok n A len c
  | 0, A, len, c, h => h
  | n + 1, A, len, c, h => by
    rcases h with h | ⟨g, cur, h1, h2, h3, h4, h5, h6, h7⟩
    · exact .inl h
    · have hlt : g < w.heap.size := (Array.getElem?_eq_some_iff.1 h3).1
      obtain ⟨cur', h3', hL⟩ : ∃ cur', BlkX w' g cur' ∧ LeafStep cur cur' := by
        rcases hS.block g hlt with e | ⟨_, x, y, e1, e2, e3⟩
        · exact ⟨cur, BlkX.keep h3 e, .refl _⟩
        · have e : cur = x := by have := (show BlkX w g cur from h3).symm.trans e1; simpa using this
          subst e
          exact ⟨y, e2, e3⟩
      refine .inr ⟨g, cur', h1, h2, h3', hL.1.trans h4, h5, h6, fun i hi => ?_⟩
      obtain ⟨x, hx, hs⟩ := h7 i hi
      rcases hL.2 i with hl | ⟨k, hl⟩
      · exact ⟨x, fun j hj => (hl j hj).trans (hx j hj), SL.spoil hS hs⟩
      · exact ⟨(leafT k, none, 0), hl, sl_none _ _ _⟩

/-- Eight cells of a row written. -/
def writeO (w : World) (b o : Nat) (x : Nx) : World :=
  (((((((w.setCell ⟨b, o, none⟩ (.int .i64 x.1.k)).setCell ⟨b, o + 1, none⟩ (.int .u64 x.1.s0)).setCell ⟨b, o + 2, none⟩ (.int .u64 x.1.s1)).setCell ⟨b, o + 3, none⟩ (.int .u64 x.1.s2)).setCell ⟨b, o + 4, none⟩ (.int .u64 x.1.s3)).setCell ⟨b, o + 5, none⟩ (.int .i64 x.1.mn)).setCell ⟨b, o + 6, none⟩ (.int .i64 x.1.mx)).setCell ⟨b, o + 7, none⟩ (.slice x.2.1 x.1.ps.length x.2.2)
theorem grown_set (w : World) (b o : Nat) (v : Value) : w.grownBy (w.setCell ⟨b, o, none⟩ v) (some b) := ⟨rfl, rfl, rfl, by simp, fun k hk hne => Below.heap_setCell _ _ _ _ (fun e => hne (by rw [e]))⟩
theorem grown_trans {a b c : World} {row : Option Nat} (h : a.grownBy b row) (k : b.grownBy c row) : a.grownBy c row :=
  ⟨k.os.trans h.os, k.tape.trans h.tape, k.output.trans h.output, Nat.le_trans h.size k.size, fun i hi hne => (k.block i (Nat.lt_of_lt_of_le hi h.size) hne).trans (h.block i hi hne)⟩
theorem writeO_grown (w : World) (b o : Nat) (x : Nx) : w.grownBy (writeO w b o x) (some b) :=
  grown_trans (grown_trans (grown_trans (grown_trans (grown_trans (grown_trans (grown_trans (grown_set _ _ _ _) (grown_set _ _ _ _)) (grown_set _ _ _ _)) (grown_set _ _ _ _)) (grown_set _ _ _ _)) (grown_set _ _ _ _)) (grown_set _ _ _ _)) (grown_set _ _ _ _)
def put8 (cs : Array Value) (o : Nat) (x : Nx) : Array Value :=
  (((((((cs.setIfInBounds o (.int .i64 x.1.k)).setIfInBounds (o + 1) (.int .u64 x.1.s0)).setIfInBounds (o + 2) (.int .u64 x.1.s1)).setIfInBounds (o + 3) (.int .u64 x.1.s2)).setIfInBounds (o + 4) (.int .u64 x.1.s3)).setIfInBounds (o + 5) (.int .i64 x.1.mn)).setIfInBounds (o + 6) (.int .i64 x.1.mx)).setIfInBounds (o + 7) (.slice x.2.1 x.1.ps.length x.2.2)
theorem put8_put (cs : Array Value) (o : Nat) (x : Nx) (ho : o + 8 ≤ cs.size) : PutAt cs (put8 cs o x) o (xcell x) := by
  have hl : (xcell x).length = 8 := rfl
  refine ⟨by simp [put8], fun k hk => ?_, .inr fun j hj => ?_⟩
  · rw [hl] at hk
    unfold put8
    rw [Array.getElem?_setIfInBounds_ne (by omega), Array.getElem?_setIfInBounds_ne (by omega), Array.getElem?_setIfInBounds_ne (by omega), Array.getElem?_setIfInBounds_ne (by omega), Array.getElem?_setIfInBounds_ne (by omega), Array.getElem?_setIfInBounds_ne (by omega), Array.getElem?_setIfInBounds_ne (by omega), Array.getElem?_setIfInBounds_ne (by omega)]
  · rw [hl] at hj
    unfold put8 xcell
    rcases (by omega : j = 0 ∨ j = 1 ∨ j = 2 ∨ j = 3 ∨ j = 4 ∨ j = 5 ∨ j = 6 ∨ j = 7) with rfl | rfl | rfl | rfl | rfl | rfl | rfl | rfl
    all_goals
      simp [Array.getElem?_setIfInBounds]
      try omega
theorem writeO_blk {w : World} {b o : Nat} {cs : Array Value} (h : BlkX w b cs) (x : Nx) : BlkX (writeO w b o x) b (put8 cs o x) := by
  unfold writeO put8
  exact (((((((h.set o (.int .i64 x.1.k)).set (o + 1) (.int .u64 x.1.s0)).set (o + 2) (.int .u64 x.1.s1)).set (o + 3) (.int .u64 x.1.s2)).set (o + 4) (.int .u64 x.1.s3)).set (o + 5) (.int .i64 x.1.mn)).set (o + 6) (.int .i64 x.1.mx)).set (o + 7) (.slice x.2.1 x.1.ps.length x.2.2)
end Go.Proofs.YthlakbjnmbddaaaGreatDoor

/- SpoilNode: walked. -/
set_option linter.unusedVariables false
set_option linter.unusedSimpArgs false
namespace Go.Proofs.YthlakbjnmbddaaaGreatDoor
open Go.RowKit

theorem SL.own {w : World} {ok : Nat → Prop} {n : Nat} {A : Option Addr} {len c : Nat} (h : SL w ok (n + 1) A len c) : ∃ xs, w.ownsRow 0 48 8 (.slice A len c) len xs := by
  rcases h with ⟨rfl, rfl, rfl⟩ | ⟨g, cur, rfl, h2, h3, h4, h5, h6, h7⟩
  · exact ⟨[], World.ownsRow_nil w 0 _ 8⟩
  · refine ⟨cur.toList.take (len * 8), ?_, .inr ⟨g, c, cur, rfl, Nat.zero_le _, h3, h5.1, h6, h4, rfl⟩⟩
    rw [List.length_take, Array.length_toList, h4]
    exact Nat.min_eq_left (Nat.mul_le_mul_right _ h5.1)
theorem SL.at {w : World} {ok : Nat → Prop} {n : Nat} {A : Option Addr} {len c : Nat} (h : SL w ok (n + 1) A len c) {i : Nat} (hi : i < len) : ∃ (g : Nat) (cur : Array Value) (x : Nx), A = some ⟨g, 0, none⟩ ∧ ok g ∧ BlkX w g cur ∧ cur.size = c * 8 ∧ len ≤ c ∧ len ≤ 1000000 ∧ (∀ j, j < 8 → cur[i * 8 + j]? = (xcell x)[j]?) ∧ SL w ok n x.2.1 x.1.ps.length x.2.2 := by
  rcases h with ⟨_, h, _⟩ | ⟨g, cur, rfl, h2, h3, h4, h5, h6, h7⟩
  · omega
  · obtain ⟨x, hx, hs⟩ := h7 i hi
    exact ⟨g, cur, x, rfl, h2, h3, h4, h5.1, h5.2, hx, hs⟩
theorem SL.bd {w : World} {ok : Nat → Prop} {n : Nat} {A : Option Addr} {len c : Nat} (h : SL w ok n A len c) : len ≤ 1000000 := by
  cases n with
  | zero => have := h.2.1; omega
  | succ n => rcases h with ⟨_, h, _⟩ | ⟨g, cur, _, _, _, _, h5, _⟩ <;> omega

set_option maxRecDepth 100000 in
set_option maxHeartbeats 4000000 in
theorem spoilT_step (ok : Nat → Prop) (n : Nat) (t : T) (A : Option Addr) (c : Nat) (w : World) (hsl : SL w ok (n + 1) A t.ps.length c) (hok : ∀ b, ok b → b < w.heap.size)
    (ih : 0 < t.ps.length → ∀ (t : T) (A : Option Addr) (c : Nat) (w : World), SL w ok n A t.ps.length c → (∀ b, ok b → b < w.heap.size) → Calls Tryz.prog 45 #[nodeV t A c] w fun e w' => e = .returned (.tuple #[]) ∧ SpT ok w w') :
    Calls Tryz.prog 45 #[nodeV t A c] w fun e w' => e = .returned (.tuple #[]) ∧ SpT ok w w' := by
  have Hih := Lib.hid ih; have Hok := Lib.hid hok
  have hlen := hsl.bd
  clear ih hok
  go_enter Tryz.func45, Tryz.ntmps45
  go_wp2_with fail
  generalize hW : w.alloc _ = W0
  have hb0 : Below w.heap.size w W0 := by subst hW; exact (Below.refl _ _).alloc (Nat.le_refl _) _
  have hS0 : SpT ok w W0 := .of_below hb0
  have hz0 : w.heap.size < W0.heap.size := by subst hW; simp
  have p0 : W0.cell? ⟨w.heap.size, 7, none⟩ = some (.slice A t.ps.length c) := by subst hW; simp [go_sem]
  have Hsl := Lib.hid hsl
  clear hW hb0 hsl
  generalize hm : t.ps.length = m at *
  clear hm
  go_loopg [2] m (fun n i wr => ∃ (j : Nat), i = .int .i64 j ∧ j + n = m ∧ SpT ok w wr ∧ w.heap.size < wr.heap.size ∧ wr.cell? ⟨w.heap.size, 7, none⟩ = some (.slice A m c))
  case atStart => exact ⟨0, rfl, by omega, hS0, hz0, p0⟩
  case round =>
    clear hS0 hz0 p0
    obtain ⟨j, rfl, hj, hS, hz, p0⟩ := hrel
    have Hj := Lib.hid hj
    have HS := Lib.hid hS
    clear hj hS
    by_cases hlt : j < m
    · have hsl1 := SL.spoil HS.out Hsl.out
      have Hsl1 := Lib.hid hsl1
      obtain ⟨g, cur, x, hA, hg, hblk, hcs, hmc, _, hx, hsx⟩ := hsl1.at hlt
      subst hA
      have hgl : g < w.heap.size := Hok.out g hg
      have hc : ∀ k, k < 8 → wr.cell? ⟨g, j * 8 + k, none⟩ = (xcell x)[k]? := fun k hk => (hblk.cell _).trans (hx k hk)
      have f0 := hc 0 (by omega); have f1 := hc 1 (by omega); have f2 := hc 2 (by omega); have f3 := hc 3 (by omega)
      have f4 := hc 4 (by omega); have f5 := hc 5 (by omega); have f6 := hc 6 (by omega); have f7 := hc 7 (by omega)
      simp only [xcell, List.getElem?_cons_zero, List.getElem?_cons_succ, Nat.add_zero] at f0 f1 f2 f3 f4 f5 f6 f7
      have Hsx := Lib.hid hsx
      have HokR := Lib.hid (fun b hb => Nat.lt_of_lt_of_le (Hok.out b hb) HS.out.size : ∀ b, ok b → b < wr.heap.size)
      obtain ⟨x, xA, xc⟩ := x
      simp only at f0 f1 f2 f3 f4 f5 f6 f7
      clear hsl1 hblk hx hsx hc hcs hmc
      go_wp2_with fail
      refine (Hih.out (by omega) x xA xc wr Hsx.out HokR.out).mono ?_
      rintro e w2 ⟨rfl, hS2⟩
      have hsl2 := SL.spoil hS2 Hsl1.out
      obtain ⟨g', cur2, x2, hA2, _, hblk2, hcs2, hmc2, _, hx2, _⟩ := hsl2.at hlt
      obtain rfl : g = g' := by simpa using hA2
      have hz2 : w.heap.size < w2.heap.size := Nat.lt_of_lt_of_le hz hS2.size
      have p2 : w2.cell? ⟨w.heap.size, 7, none⟩ = some (.slice (some ⟨g, 0, none⟩) m c) := (World.cell?_of_block (w := wr) (a := ⟨w.heap.size, 7, none⟩) (hS2.keep hz (fun h => Nat.lt_irrefl _ (Hok.out _ h)))).trans p0
      have HS2 := Lib.hid (HS.out.trans hS2)
      have hc2 : ∀ k, k < 8 → w2.cell? ⟨g, j * 8 + k, none⟩ = (xcell x2)[k]? := fun k hk => (hblk2.cell _).trans (hx2 k hk)
      have g0 := hc2 0 (by omega); have g1 := hc2 1 (by omega); have g2 := hc2 2 (by omega); have g3 := hc2 3 (by omega)
      have g4 := hc2 4 (by omega); have g5 := hc2 5 (by omega); have g6 := hc2 6 (by omega); have g7 := hc2 7 (by omega)
      simp only [xcell, List.getElem?_cons_zero, List.getElem?_cons_succ, Nat.add_zero] at g0 g1 g2 g3 g4 g5 g6 g7
      have e0 := hblk2.froz (j * 8); have e1 := hblk2.froz (j * 8 + 1); have e2 := hblk2.froz (j * 8 + 2); have e3 := hblk2.froz (j * 8 + 3)
      have e4 := hblk2.froz (j * 8 + 4); have e5 := hblk2.froz (j * 8 + 5); have e6 := hblk2.froz (j * 8 + 6); have e7 := hblk2.froz (j * 8 + 7)
      have hw2 : ∃ cur3, BlkX (writeO w2 g (j * 8) (leafT (-5), none, 0)) g cur3 ∧ PutAt cur2 cur3 (j * 8) (xcell (leafT (-5), none, 0)) := ⟨_, writeO_blk hblk2 _, put8_put _ _ _ (by omega)⟩
      have hgr := writeO_grown w2 g (j * 8) (leafT (-5), none, 0)
      have Hblk2 := Lib.hid hblk2; have Hw2 := Lib.hid hw2; have Hgr := Lib.hid hgr
      have hgne : g ≠ w.heap.size := by omega
      clear hsl2 hblk2 hx2 hc2 f0 f1 f2 f3 f4 f5 f6 f7 hw2 hgr p0 hz hcs2 hmc2 hA2
      go_wp2_with fail
      change Handed _ _ _ (writeO w2 g (j * 8) (leafT (-5), none, 0))
      obtain ⟨cur3, hblk3, hput⟩ := Hw2.out
      have hS3 : SpT ok w (writeO w2 g (j * 8) (leafT (-5), none, 0)) := HS2.out.trans (.row Hgr.out hg Hblk2.out hblk3 (.put hput))
      have hz3 : w.heap.size < (writeO w2 g (j * 8) (leafT (-5), none, 0)).heap.size := Nat.lt_of_lt_of_le hz2 Hgr.out.size
      have p3 : (writeO w2 g (j * 8) (leafT (-5), none, 0)).cell? ⟨w.heap.size, 7, none⟩ = some (.slice (some ⟨g, 0, none⟩) m c) := (World.cell?_of_block (w := w2) (a := ⟨w.heap.size, 7, none⟩) (Hgr.out.block _ hz2 (by simp; omega))).trans p2
      generalize writeO w2 g (j * 8) (leafT (-5), none, 0) = w3 at *
      have hj := Hj.out
      go_roundg (gk - 1)
      case measure => omega
      case rel => exact ⟨j + 1, by go_num, by omega, hS3, hz3, p3⟩
    · have hj' : (m : Int) ≤ (j : Int) := by omega
      clear Hj
      go_wp2_with fail
      obtain ⟨xs, ho⟩ := (SL.spoil HS.out Hsl.out).own
      have hsp : ∀ g, (Value.slice A m c).ownBlock = some g → ok g ∧ g < w.heap.size ∧ ∃ cur, BlkX wr g cur := fun g hg => by
        rcases SL.spoil HS.out Hsl.out with ⟨rfl, _⟩ | ⟨g', cur, rfl, h2, h3, _⟩
        · simp [Value.ownBlock] at hg
        · obtain rfl : g' = g := by simpa [Value.ownBlock] using hg
          exact ⟨h2, Hok.out _ h2, cur, h3⟩
      have Hsp := Lib.hid hsp; have Ho := Lib.hid ho
      clear hsp ho p0 hj'
      go_loopg [3, 4] 8 (fun n lv i W => ∃ (k : Nat) (A2 : Option Addr) (c2 : Nat) (ys : List Value), i = .int .i64 k ∧ k + n = 8 ∧ lv = .slice A2 (m + k) c2 ∧ SpT ok w W ∧ w.heap.size < W.heap.size ∧ W.ownsRow 0 48 8 (.slice A2 (m + k) c2) (m + k) ys ∧
        (∀ b, (Value.slice A2 (m + k) c2).ownBlock = some b → b < w.heap.size → ok b ∧ ∃ cur, BlkX W b cur))
      case atStart => exact ⟨0, A, c, xs, rfl, rfl, rfl, HS.out, hz, Ho.out, fun b hb _ => ⟨(Hsp.out b hb).1, (Hsp.out b hb).2.2⟩⟩
      case round =>
        clear HS Ho Hsp hz
        obtain ⟨k, A2, c2, ys, rfl, hk, rfl, hS, hz, ho2, hrow⟩ := hrel
        have Ho2 := Lib.hid ho2; have HS := Lib.hid hS; have Hrow := Lib.hid hrow
        clear ho2 hS hrow
        by_cases hlt8 : k < 8
        · have hnews : ∀ j u, (xcell (leafT (-6), none, 0))[j]? = some u → (wr.alloc (.cells (xcell (leafT (-6), none, 0)).toArray 48)).cell? ((⟨wr.heap.size, 0, none⟩ : Addr).add j) = some u := by
            intro j u hu
            rw [addr_addX, World.cell?_alloc_new, Nat.zero_add]
            simpa using hu
          have Hnews := Lib.hid hnews; clear hnews
          go_wp2_with (at_builtin; refine wpList_append_keepX 0 rfl _ _ 46 48 _ 8 80 rfl Tryz.underlying46 Tryz.infoNodeX rfl (by omega) (by omega) (.slice A2 (m + k) c2) (m + k) 1 ys (xcell (leafT (-6), none, 0)) ⟨wr.heap.size, 0, none⟩ 1 rfl rfl rfl Hnews.out (xcell_one _) (Ho2.out.alloc _) (Nat.zero_le _) (by omega) (fun A3 c3 w3 ho3 hg3 hat3 hkp3 => ?_); have Ho3 := Lib.hid ho3; have Hat3 := Lib.hid hat3; have Hg3 := Lib.hid hg3; have Hkp3 := Lib.hid hkp3; clear ho3 hat3 hg3 hkp3)
          have hal := World.grownBy_alloc wr (.cells (xcell (leafT (-6), none, 0)).toArray 48) none
          have hz3 := Hg3.out.size
          have hza := hal.size
          have hzz : w.heap.size < w3.heap.size := Nat.lt_of_lt_of_le (Nat.lt_of_lt_of_le hz hza) hz3
          have hS3 : SpT ok w w3 := by
            have hSa : SpT ok w (wr.alloc (.cells (xcell (leafT (-6), none, 0)).toArray 48)) := HS.out.trans (.of_below ((Below.refl _ _).alloc (Nat.le_refl _) _))
            refine ⟨Hg3.out.os.trans hSa.os, Hg3.out.tape.trans hSa.tape, Hg3.out.output.trans hSa.output, Nat.le_trans hSa.size Hg3.out.size, fun b hb => ?_⟩
            by_cases e : some b = (Value.slice A2 (m + k) c2).ownBlock
            · obtain ⟨hob, cur, hcur⟩ := Hrow.out b e.symm hb
              have hcur' := hcur.keep (hal.block b hcur.lt (by simp))
              obtain ⟨cur', h1, h2⟩ := Hkp3.out b cur e.symm hcur'
              rcases hSa.block b hb with h3 | ⟨_, a1, a2, h3, h4, h5⟩
              · exact .inr ⟨hob, cur, cur', hcur'.keep h3.symm, h1, .put h2⟩
              · have e2 : a2 = cur := by have := h4.symm.trans hcur'; simpa using this
                subst e2
                exact .inr ⟨hob, a1, cur', h3, h1, h5.trans (.put h2)⟩
            · have h6 := Hg3.out.block b (Nat.lt_of_lt_of_le hb hSa.size) e
              rcases hSa.block b hb with h3 | ⟨hob, a1, a2, h3, h4, h5⟩
              · exact .inl (h6.trans h3)
              · exact .inr ⟨hob, a1, a2, h3, h4.keep h6, h5⟩
          have hrow3 : ∀ b, (Value.slice A3 (m + k + 1) c3).ownBlock = some b → b < w.heap.size → ok b ∧ ∃ cur, BlkX w3 b cur := fun b hb hlt => by
            rcases Hat3.out with h | h
            · obtain ⟨hob, cur, hcur⟩ := Hrow.out b (h.symm.trans hb) hlt
              obtain ⟨cur', h1, _⟩ := Hkp3.out b cur (h.symm.trans hb) (hcur.keep (hal.block b hcur.lt (by simp)))
              exact ⟨hob, cur', h1⟩
            · have e2 : b = (wr.alloc (.cells (xcell (leafT (-6), none, 0)).toArray 48)).heap.size := Option.some.inj (hb.symm.trans h)
              omega
          have Hrow3 := Lib.hid hrow3
          clear hrow3 hal
          go_roundg (gk - 1)
          case measure => omega
          case rel =>
            exact ⟨k + 1, A3, c3, _, by go_num, by omega, rfl, hS3, hzz, Ho3.out, Hrow3.out⟩
        · go_wp2_with fail
          go_end0
          exact ⟨rfl, HS.out⟩
/-- A tree that was handed out is written over. -/
theorem spoilT_any (ok : Nat → Prop) : ∀ (n : Nat) (t : T) (A : Option Addr) (c : Nat) (w : World), SL w ok n A t.ps.length c → (∀ b, ok b → b < w.heap.size) → Calls Tryz.prog 45 #[nodeV t A c] w fun e w' => e = .returned (.tuple #[]) ∧ SpT ok w w'
  | 0, t, A, c, w, h, hok => spoilT_step ok 0 t A c w h.up hok (fun h0 => by have := h.2.1; omega)
  | n + 1, t, A, c, w, h, hok => spoilT_step ok n t A c w h hok (fun _ => spoilT_any ok n)
end Go.Proofs.YthlakbjnmbddaaaGreatDoor

/- vouchlaw10.PatternReads: walked. -/
set_option linter.unusedVariables false
set_option linter.unusedSimpArgs false
namespace Go.Proofs.YthlakbjnmbddaaaGreatDoor
open Go.RowKit

def resT (x : Bs) : T := match parseP x with | .ok t => t | .error _ => none0
def resE (x : Bs) : Int := match parseP x with | .ok _ => 0 | .error e => e
theorem par2_sum {x : Bs} {w w' : World} {en : Ending} (h : GPar2 x w en w') : Below w.heap.size w w' ∧ ∃ A c, en = .returned (.tuple #[nodeV (resT x) A c, .int .i64 (resE x)]) ∧ RowAt w' (fun b => w.heap.size ≤ b ∧ b < w'.heap.size) (resT x) A c := by
  obtain ⟨hb, ⟨t, A, c, hp, he, hN⟩ | ⟨e, hp, h1, h2⟩⟩ := h
  · exact ⟨hb, A, c, by unfold resT resE; rw [hp]; exact he, by unfold resT; rw [hp]; exact hN⟩
  · exact ⟨hb, none, 0, by unfold resT resE; rw [hp]; exact h2, by unfold resT; rw [hp]; exact row_leaf _ _ _ rfl⟩
theorem par_sum {x : Bs} {w w' : World} {en : Ending} (h : GPar x w en w') : Below w.heap.size w w' ∧ ∃ A c, en = .returned (.tuple #[nodeV (resT x) A c, .int .i64 (resE x)]) ∧ NodeAt w' (fun b => w.heap.size ≤ b ∧ b < w'.heap.size) (resT x) A c := by
  obtain ⟨hb, ⟨t, A, c, hp, he, hN⟩ | ⟨e, hp, h1, h2⟩⟩ := h
  · exact ⟨hb, A, c, by unfold resT resE; rw [hp]; exact he, by unfold resT; rw [hp]; exact hN⟩
  · exact ⟨hb, none, 0, by unfold resT resE; rw [hp]; exact h2, by unfold resT; rw [hp]; exact nodeAt_leafX _ _ _ rfl⟩
theorem RowAt.after {w w' : World} {ok : Nat → Prop} {t : T} {A : Option Addr} {c : Nat} (h : RowAt w ok t A c) (hok : ∀ b, ok b → b < w.heap.size) (hb : Below w.heap.size w w') : RowAt w' ok t A c :=
  h.mono fun b hk => ⟨hk, hb.block b (hok b hk)⟩
theorem NodeAt.spoilt {w w' : World} {ok ok' : Nat → Prop} {t : T} {A : Option Addr} {c : Nat} (h : NodeAt w ok t A c) (hok : ∀ b, ok b → b < w.heap.size) (hS : SpT ok' w w') (hd : ∀ b, ok b → ¬ ok' b) : NodeAt w' ok t A c :=
  h.mono fun b hk => ⟨hk, fun o => World.cell?_of_block (w := w) (a := ⟨b, o, none⟩) (hS.keep (hok b hk) (hd b hk))⟩
theorem Box.spoilt {w w' : World} {ok ok' : Nat → Prop} {p : Nat} {t : T} {A : Option Addr} {c : Nat} (h : Box w p t A c ok) (hS : SpT ok' w w') (hp : ¬ ok' p) (hd : ∀ b, ok b → ¬ ok' b) : Box w' p t A c ok :=
  ⟨h.at8.mono (fun o => World.cell?_of_block (w := w) (a := ⟨p, o, none⟩) (hS.keep (World.block_lt_of_cell? w ⟨p, 0, none⟩ h.at8.f0) hp)), h.node.spoilt h.okk hS hd, fun b hb => Nat.lt_of_lt_of_le (h.okk b hb) hS.size⟩
theorem Env.spoilt {w0 w w' : World} {ok : Nat → Prop} (hM : MaxOk w0) (hT : TabIn w0.heap.size w0) (h : Env w0 w) (hS : SpT ok w w') (hB : ∀ b, ok b → w0.heap.size ≤ b) : Env w0 w' := by
  have hb : Below w0.heap.size w0 w' := h.bl.trans (hS.below h.bl.size hB)
  exact ⟨hM.later hb, hT.step hb, hb⟩

set_option maxRecDepth 100000 in
set_option maxHeartbeats 8000000 in
theorem preads_any (w : World) (hM : MaxOk w) (hT : TabIn w.heap.size w) (x : Bs) (hx : x.length ≤ maxLen) :
    Calls Tryz.prog 21 #[.string (bs x)] w fun e w' => e = .returned (.bool true) ∧ Below w.heap.size w w' := by
  have HE := Lib.hid (Env.start hM hT); have HM0 := Lib.hid hM; have HT0 := Lib.hid hT
  have sz : (bs x).size = x.length := by simp [bs, ByteArray.size]
  have Hsame := Lib.hid (sameN_any (resT x))
  clear hM hT
  go_enter Tryz.func21, Tryz.ntmps21
  by_cases hlen : 4096 < x.length
  · go_wp2_with fail
    go_ret
    exact ⟨rfl, HE.out.bl⟩
  have hlen' : (x.length : Int) ≤ 4096 := by omega
  go_wp2_with fail
  refine (parse_par2 x w HE.out.mx (fun _ => brC) (fun _ => dotC)).mono ?_
  intro en w1 hG
  obtain ⟨hb1, A1, c1, rfl, hR1⟩ := par2_sum hG
  have HE1 := Lib.hid (HE.out.step hb1); have HR1 := Lib.hid hR1
  have HOK1 := Lib.hid (fun b (h : w.heap.size ≤ b ∧ b < w1.heap.size) => h.2)
  clear hG hb1 hR1 HE
  go_upto_region 4 with fail
  generalize hW : w1.alloc _ = W1
  have hb1 : Below w1.heap.size w1 W1 := by subst hW; exact (Below.refl _ _).alloc (Nat.le_refl _) _
  have h8 : At8 W1 w1.heap.size 0 (resT x) A1 c1 := by subst hW; constructor <;> simp [go_sem]
  have hz1 : W1.heap.size = w1.heap.size + 1 := by subst hW; simp
  clear hW
  have HX1 := Lib.hid (Box.mk h8 (HR1.out.node.later hb1 (fun b h => h.2)) (fun b h => Nat.lt_of_lt_of_le h.2 hb1.size))
  have HRa := Lib.hid (HR1.out.after HOK1.out hb1)
  have HEa := Lib.hid (HE1.out.step hb1)
  clear h8 hb1 HE1 HR1
  go_wp2_with fail
  refine (parse_par x W1 HEa.out.mx (fun _ => brC) (fun _ => dotC)).mono ?_
  intro en w2 hG
  obtain ⟨hb2, A2, c2, rfl, hN2⟩ := par_sum hG
  have HE2 := Lib.hid (HEa.out.step hb2); have HN2 := Lib.hid hN2; have HX2 := Lib.hid (HX1.out.step hb2); have HRb := Lib.hid (HRa.out.after HX1.out.okk hb2)
  have hz2 := hb2.size
  clear hG hb2 hN2 HEa HX1 HRa
  go_upto_region 5 with fail
  generalize hW : w2.alloc _ = W2
  have hb2 : Below w2.heap.size w2 W2 := by subst hW; exact (Below.refl _ _).alloc (Nat.le_refl _) _
  have h8 : At8 W2 w2.heap.size 0 (resT x) A2 c2 := by subst hW; constructor <;> simp [go_sem]
  have hz3 : W2.heap.size = w2.heap.size + 1 := by subst hW; simp
  clear hW
  have HY2 := Lib.hid (Box.mk h8 (HN2.out.later hb2 (fun b h => h.2)) (fun b h => Nat.lt_of_lt_of_le h.2 hb2.size))
  have HE3 := Lib.hid (HE2.out.step hb2); have HX3 := Lib.hid (HX2.out.step hb2); have HRc := Lib.hid (HRb.out.after HX2.out.okk hb2)
  clear h8 hb2 HE2 HN2 HX2 HRb
  go_wp2_with fail
  refine (qparse_any x W2).mono ?_
  intro en w3 hG
  obtain ⟨hb3, A3, c3, rfl, hN3⟩ := par_sum hG
  have HE4 := Lib.hid (HE3.out.step hb3); have HN4 := Lib.hid hN3; have HX4 := Lib.hid (HX3.out.step hb3); have HY4 := Lib.hid (HY2.out.step hb3); have HRd := Lib.hid (HRc.out.after HX3.out.okk hb3)
  have hz4 := hb3.size
  clear hG hb3 hN3 HE3 HX3 HRc HY2
  go_upto_region 6 with fail
  generalize hW : w3.alloc _ = W3
  have hb3 : Below w3.heap.size w3 W3 := by subst hW; exact (Below.refl _ _).alloc (Nat.le_refl _) _
  have h8 : At8 W3 w3.heap.size 0 (resT x) A3 c3 := by subst hW; constructor <;> simp [go_sem]
  clear hW
  have HZ5 := Lib.hid (Box.mk h8 (HN4.out.later hb3 (fun b h => h.2)) (fun b h => Nat.lt_of_lt_of_le h.2 hb3.size))
  have HE5 := Lib.hid (HE4.out.step hb3); have HX5 := Lib.hid (HX4.out.step hb3); have HY5 := Lib.hid (HY4.out.step hb3); have HRe := Lib.hid (HRd.out.after HX4.out.okk hb3)
  clear h8 hb3 HE4 HN4 HX4 HY4 HRd
  have hd12 : ∀ b, (W1.heap.size ≤ b ∧ b < w2.heap.size) → ¬ (w.heap.size ≤ b ∧ b < w1.heap.size) := fun b h k => by omega
  have hd13 : ∀ b, (W2.heap.size ≤ b ∧ b < w3.heap.size) → ¬ (w.heap.size ≤ b ∧ b < w1.heap.size) := fun b h k => by omega
  have hp2 : ¬ (w.heap.size ≤ w2.heap.size ∧ w2.heap.size < w1.heap.size) := fun k => by omega
  have hp3 : ¬ (w.heap.size ≤ w3.heap.size ∧ w3.heap.size < w1.heap.size) := fun k => by omega
  have Hd12 := Lib.hid hd12; have Hd13 := Lib.hid hd13; have Hp2 := Lib.hid hp2; have Hp3 := Lib.hid hp3
  clear hd12 hd13 hp2 hp3 hz1 hz2 hz3 hz4
  generalize w1.heap.size = q1 at *
  generalize w2.heap.size = q2 at *
  generalize w3.heap.size = q3 at *
  obtain ⟨f0, f1, f2, f3, f4, f5, f6, f7⟩ := HX5.out.at8
  obtain ⟨g0, g1, g2, g3, g4, g5, g6, g7⟩ := HZ5.out.at8
  generalize resE x = e0 at *
  go_wp2_with fail
  refine (Hsame.out W3 _ _ A1 A3 c1 c3 HX5.out.node HZ5.out.node HX5.out.okk HZ5.out.okk).mono ?_
  rintro e w6 ⟨rfl, hb6⟩
  have HE6 := Lib.hid (HE5.out.step hb6); have HX6 := Lib.hid (HX5.out.step hb6); have HY6 := Lib.hid (HY5.out.step hb6); have HZ6 := Lib.hid (HZ5.out.step hb6); have HRf := Lib.hid (HRe.out.after HX5.out.okk hb6)
  clear hb6 HE5 HX5 HY5 HZ5 HRe f0 f1 f2 f3 f4 f5 f6 f7 g0 g1 g2 g3 g4 g5 g6 g7
  obtain ⟨f0, f1, f2, f3, f4, f5, f6, f7⟩ := HY6.out.at8
  obtain ⟨g0, g1, g2, g3, g4, g5, g6, g7⟩ := HZ6.out.at8
  go_wp2_with fail
  refine (Hsame.out w6 _ _ A2 A3 c2 c3 HY6.out.node HZ6.out.node HY6.out.okk HZ6.out.okk).mono ?_
  rintro e w7 ⟨rfl, hb7⟩
  have HE7 := Lib.hid (HE6.out.step hb7); have HX7 := Lib.hid (HX6.out.step hb7); have HY7 := Lib.hid (HY6.out.step hb7); have HZ7 := Lib.hid (HZ6.out.step hb7); have HRg := Lib.hid (HRf.out.after HX6.out.okk hb7)
  clear hb7 HE6 HX6 HY6 HZ6 HRf f0 f1 f2 f3 f4 f5 f6 f7 g0 g1 g2 g3 g4 g5 g6 g7
  obtain ⟨f0, f1, f2, f3, f4, f5, f6, f7⟩ := HX7.out.at8
  go_wp2_with fail
  obtain ⟨n, hsl⟩ := HRg.out.sl
  refine (spoilT_any _ n (resT x) A1 c1 w7 hsl HX7.out.okk).mono ?_
  rintro e w8 ⟨rfl, hS⟩
  have HE8 := Lib.hid (Env.spoilt HM0.out HT0.out HE7.out hS (fun b h => h.1))
  have HY8 := Lib.hid (HY7.out.spoilt hS Hp2.out Hd12.out)
  have HZ8 := Lib.hid (HZ7.out.spoilt hS Hp3.out Hd13.out)
  clear hsl hS HE7 HX7 HY7 HZ7 HRg f0 f1 f2 f3 f4 f5 f6 f7
  obtain ⟨f0, f1, f2, f3, f4, f5, f6, f7⟩ := HY8.out.at8
  obtain ⟨g0, g1, g2, g3, g4, g5, g6, g7⟩ := HZ8.out.at8
  go_wp2_with fail
  refine (Hsame.out w8 _ _ A2 A3 c2 c3 HY8.out.node HZ8.out.node HY8.out.okk HZ8.out.okk).mono ?_
  rintro e w9 ⟨rfl, hb9⟩
  have HE9 := Lib.hid (HE8.out.step hb9)
  clear hb9 f0 f1 f2 f3 f4 f5 f6 f7 g0 g1 g2 g3 g4 g5 g6 g7
  go_wp2_with fail
  refine (works10_any w9 HE9.out.mx HE9.out.tb).mono ?_
  rintro e w10 ⟨rfl, hb10⟩
  go_wp2_with fail
  go_ret
  exact ⟨rfl, (HE9.out.step hb10).bl⟩
end Go.Proofs.YthlakbjnmbddaaaGreatDoor

/- vouchlaw10.PatternOnce: walked. -/
set_option linter.unusedVariables false
set_option linter.unusedSimpArgs false
namespace Go.Proofs.YthlakbjnmbddaaaGreatDoor
open Go.RowKit

theorem check_fine {s : Bs} {t : T} (h : parseP s = .ok t) : checkF t = 0 := by
  obtain ⟨a, b, c⟩ := parse_fine h
  unfold checkF
  rw [sizeF_min t 2048 (by omega), if_neg (by omega), if_pos a]
theorem box_new {w : World} {t : T} {A : Option Addr} {c : Nat} {ok : Nat → Prop} (hN : NodeAt w ok t A c) (hok : ∀ b, ok b → b < w.heap.size) {W : World} (hW : W = w.alloc (.cells #[.int .i64 t.k, .int .u64 t.s0, .int .u64 t.s1, .int .u64 t.s2, .int .u64 t.s3, .int .i64 t.mn, .int .i64 t.mx, .slice A t.ps.length c] 48)) :
    Below w.heap.size w W ∧ Box W w.heap.size t A c ok := by
  subst hW
  have hb : Below w.heap.size w (w.alloc (.cells #[.int .i64 t.k, .int .u64 t.s0, .int .u64 t.s1, .int .u64 t.s2, .int .u64 t.s3, .int .i64 t.mn, .int .i64 t.mx, .slice A t.ps.length c] 48)) := (Below.refl _ _).alloc (Nat.le_refl _) _
  exact ⟨hb, ⟨by constructor <;> simp [go_sem], hN.later hb hok, fun b h => Nat.lt_of_lt_of_le (hok b h) hb.size⟩⟩
set_option maxRecDepth 100000 in
set_option maxHeartbeats 4000000 in
theorem ponce_any (w : World) (hM : MaxOk w) (hT : TabIn w.heap.size w) (s : Bs) (hs : s.length ≤ maxLen) :
    Calls Tryz.prog 22 #[.string (bs s)] w fun e w' => e = .returned (.bool true) ∧ Below w.heap.size w w' := by
  have HE := Lib.hid (Env.start hM hT)
  have hsz : (bs s).size = s.length := by simp [bs, ByteArray.size]
  clear hM hT
  go_enter Tryz.func22, Tryz.ntmps22
  by_cases hl : 4096 < s.length
  · go_wp2_with fail
    all_goals
      go_ret
      exact ⟨rfl, Below.refl _ _⟩
  go_wp2_with fail
  refine (parse_par s w HE.out.mx (fun _ => brC) (fun _ => dotC)).mono ?_
  intro en w1 hG
  cases hp : parseP s with
  | error e =>
    obtain ⟨hb1, he, rfl⟩ := parse_no hG hp
    have heb : (e != 0) = true := by simpa using he
    have HE1 := Lib.hid (HE.out.step hb1)
    clear hG hp he hb1 HE
    go_upto_region 4 with fail
    generalize hW : w1.alloc _ = W2
    obtain ⟨hb2, hB2⟩ := box_new (leaf_at w1 none0 rfl (ok := fun _ => False)) (fun b h => h.elim) hW.symm
    have HE2 := Lib.hid (HE1.out.step hb2); have HB2 := Lib.hid hB2
    obtain ⟨f0, f1, f2, f3, f4, f5, f6, f7⟩ := hB2.at8
    clear hW hb2 hB2 HE1
    go_wp2_with fail
    refine (sameN_any none0 W2 (fun _ => False) (fun _ => False) none none 0 0 HB2.out.node (leaf_at _ _ rfl) (fun b h => h.elim) (fun b h => h.elim)).mono ?_
    rintro e3 w3 ⟨rfl, hb3⟩
    have HE3 := Lib.hid (HE2.out.step hb3)
    clear hb3 f0 f1 f2 f3 f4 f5 f6 f7
    go_wp2_with fail
    refine (works10_any w3 HE3.out.mx HE3.out.tb).mono ?_
    rintro e4 w4 ⟨rfl, hb4⟩
    go_wp2_with fail
    go_ret
    exact ⟨rfl, (HE3.out.step hb4).bl⟩
  | ok t =>
    obtain ⟨hb1, A, c, rfl, hN⟩ := parse_is hG hp
    have Hfine := Lib.hid (parse_fine hp).2.1
    have hc0 := check_fine hp
    have Hc0 := Lib.hid hc0
    have hcs := print_cases (parse_fine hp).2.1
    have HE1 := Lib.hid (HE.out.step hb1)
    have HN1 := Lib.hid hN
    have Hpr := Lib.hid (print_any t)
    have Hpc := Lib.hid (pcheck_any t)
    have Hsame := Lib.hid (sameN_any t)
    clear hG hp hN hb1 HE
    have hcs2 : printP t = ([], 3) ∨ (printP t = (prT t, 0) ∧ parseP (prT t) = .ok t ∧ (prT t).length ≤ 1024) := by
      rcases hcs with h | ⟨_, h⟩ | h
      · exact .inl h
      · omega
      · exact .inr h
    clear hcs hc0
    go_upto_region 4 with fail
    generalize hW : w1.alloc _ = W2
    obtain ⟨hb2, hB2⟩ := box_new HN1.out (fun b h => h.2) hW.symm
    have HE2 := Lib.hid (HE1.out.step hb2); have HB2 := Lib.hid hB2
    obtain ⟨f0, f1, f2, f3, f4, f5, f6, f7⟩ := hB2.at8
    clear hW hb2 hB2 HE1 HN1
    go_wp2_with fail
    refine (Hpr.out W2 _ A c HB2.out.node HB2.out.okk (fun _ => Hfine.out) HE2.out.tb).mono ?_
    rintro e3 w3 ⟨rfl, hb3⟩
    have HE3 := Lib.hid (HE2.out.step hb3); have HB3 := Lib.hid (HB2.out.step hb3)
    clear hb3 HE2 HB2 f0 f1 f2 f3 f4 f5 f6 f7
    obtain ⟨f0, f1, f2, f3, f4, f5, f6, f7⟩ := HB3.out.at8
    rcases hcs2 with hp | ⟨hp, hq, hl⟩
    · rw [hp]
      clear hp
      go_wp2_with fail
      refine (Hpc.out w3 _ A c HB3.out.node HB3.out.okk).mono ?_
      rintro e4 w4 ⟨rfl, hb4⟩
      rw [Hc0.out]
      have HE4 := Lib.hid (HE3.out.step hb4)
      clear hb4 f0 f1 f2 f3 f4 f5 f6 f7
      go_wp2_with fail
      refine (works10_any w4 HE4.out.mx HE4.out.tb).mono ?_
      rintro e5 w5 ⟨rfl, hb5⟩
      go_wp2_with fail
      go_ret
      exact ⟨rfl, (HE4.out.step hb5).bl⟩
    · have Hp := Lib.hid hp
      have Hq := Lib.hid hq
      rw [hp]
      clear hp hq
      generalize prT t = x at *
      go_wp2_with fail
      refine (Hpc.out w3 _ A c HB3.out.node HB3.out.okk).mono ?_
      rintro e4 w4 ⟨rfl, hb4⟩
      rw [Hc0.out]
      have HE4 := Lib.hid (HE3.out.step hb4); have HB4 := Lib.hid (HB3.out.step hb4)
      clear hb4 f0 f1 f2 f3 f4 f5 f6 f7 HE3 HB3
      go_wp2_with fail
      refine (parse_par x w4 HE4.out.mx (fun _ => brC) (fun _ => dotC)).mono ?_
      intro en5 w5 hG
      obtain ⟨hb5, A', c', rfl, hN5⟩ := parse_is hG Hq.out
      have HE5 := Lib.hid (HE4.out.step hb5); have HB5 := Lib.hid (HB4.out.step hb5); have HN5 := Lib.hid hN5
      clear hG hb5 hN5 HB4 HE4
      go_upto_region 12 with fail
      generalize hW : w5.alloc _ = W6
      obtain ⟨hb6, hM6⟩ := box_new HN5.out (fun b h => h.2) hW.symm
      have HE6 := Lib.hid (HE5.out.step hb6); have HB6 := Lib.hid (HB5.out.step hb6); have HM6 := Lib.hid hM6
      obtain ⟨g0, g1, g2, g3, g4, g5, g6, g7⟩ := hM6.at8
      clear hW hb6 hM6 HE5 HB5 HN5
      go_wp2_with fail
      refine (Hpr.out W6 _ A' c' HM6.out.node HM6.out.okk (fun _ => Hfine.out) HE6.out.tb).mono ?_
      rintro e7 w7 ⟨rfl, hb7⟩
      rw [Hp.out]
      have HE7 := Lib.hid (HE6.out.step hb7); have HB7 := Lib.hid (HB6.out.step hb7); have HM7 := Lib.hid (HM6.out.step hb7)
      clear hb7 g0 g1 g2 g3 g4 g5 g6 g7 HE6 HB6 HM6
      obtain ⟨f0, f1, f2, f3, f4, f5, f6, f7⟩ := HB7.out.at8
      obtain ⟨g0, g1, g2, g3, g4, g5, g6, g7⟩ := HM7.out.at8
      go_wp2_with fail
      refine (Hsame.out w7 _ _ A' A c' c HM7.out.node HB7.out.node HM7.out.okk HB7.out.okk).mono ?_
      rintro e8 w8 ⟨rfl, hb8⟩
      have HE8 := Lib.hid (HE7.out.step hb8)
      clear hb8 f0 f1 f2 f3 f4 f5 f6 f7 g0 g1 g2 g3 g4 g5 g6 g7
      go_wp2_with fail
      refine (works10_any w8 HE8.out.mx HE8.out.tb).mono ?_
      rintro e9 w9 ⟨rfl, hb9⟩
      go_wp2_with fail
      go_ret
      exact ⟨rfl, (HE8.out.step hb9).bl⟩
end Go.Proofs.YthlakbjnmbddaaaGreatDoor

/- vouchlaw10.PatternJoins: walked. -/
set_option linter.unusedVariables false
set_option linter.unusedSimpArgs false
namespace Go.Proofs.YthlakbjnmbddaaaGreatDoor
open Go.RowKit

/-- What is read of a text that is a pattern, or has a bracket more than may be. -/
theorem parse_or {s : Bs} {w w' : World} {en : Ending} {t : T} (h : GPar s w en w') (hp : parseP s = .ok t ∨ parseP s = .error 3) :
    Below w.heap.size w w' ∧ ∃ (t' : T) (A : Option Addr) (c : Nat) (e : Int), en = .returned (.tuple #[nodeV t' A c, .int .i64 e]) ∧ NodeAt w' (fun b => w.heap.size ≤ b ∧ b < w'.heap.size) t' A c ∧ ((e = 0 ∧ t' = t) ∨ e = 3) := by
  rcases hp with hp | hp
  · obtain ⟨hb, A, c, he, hN⟩ := parse_is h hp
    exact ⟨hb, t, A, c, 0, he, hN, .inl ⟨rfl, rfl⟩⟩
  · obtain ⟨hb, _, he⟩ := parse_no h hp
    exact ⟨hb, none0, none, 0, 3, he, leaf_at _ _ rfl, .inr rfl⟩
theorem Box.own {w : World} {p : Nat} {t : T} {A : Option Addr} {c : Nat} {ok : Nat → Prop} (h : Box w p t A c ok) : OwnX w (t, A, c) := NodeAt.mono (fun b hb => ⟨h.okk b hb, fun _ => rfl⟩) h.node
theorem sameN_to {t T0 : T} (e : t = T0) (w : World) (ok1 ok2 : Nat → Prop) (A B : Option Addr) (c d : Nat) (h1 : NodeAt w ok1 t A c) (h2 : NodeAt w ok2 T0 B d) (o1 : ∀ b, ok1 b → b < w.heap.size) (o2 : ∀ b, ok2 b → b < w.heap.size) :
    Calls Tryz.prog 44 #[nodeV t A c, nodeV T0 B d] w fun e w' => e = .returned (.bool true) ∧ Below w.heap.size w w' := by
  subst e
  exact sameN_any t w ok1 ok2 A B c d h1 h2 o1 o2
set_option maxRecDepth 100000 in
set_option maxHeartbeats 8000000 in
theorem pjoins_any (w : World) (hM : MaxOk w) (hT : TabIn w.heap.size w) (a : Bs) (ha : a.length ≤ maxLen) (b : Bs) (hb : b.length ≤ maxLen) :
    Calls Tryz.prog 23 #[.string (bs a), .string (bs b)] w fun e w' => e = .returned (.bool true) ∧ Below w.heap.size w w' := by
  have HE := Lib.hid (Env.start hM hT)
  have sa : (bs a).size = a.length := by simp [bs, ByteArray.size]
  have sb : (bs b).size = b.length := by simp [bs, ByteArray.size]
  clear hM hT
  go_enter Tryz.func23, Tryz.ntmps23
  by_cases la : 400 < a.length
  · go_wp2_with fail
    all_goals
      go_ret
      exact ⟨rfl, Below.refl _ _⟩
  by_cases lb : 400 < b.length
  · go_wp2_with fail
    all_goals
      go_ret
      exact ⟨rfl, Below.refl _ _⟩
  have la' : a.length ≤ 400 := by omega
  have lb' : b.length ≤ 400 := by omega
  clear la lb
  go_wp2_with fail
  refine (parse_par a w HE.out.mx (fun _ => brC) (fun _ => dotC)).mono ?_
  intro en w1 hG
  cases hpa : parseP a with
  | error e =>
    obtain ⟨hb1, he, rfl⟩ := parse_no hG hpa
    have heb : (e != 0) = true := by simpa using he
    have HE1 := Lib.hid (HE.out.step hb1)
    clear hG hpa he hb1 HE
    go_upto_region 4 with fail
    generalize hW : w1.alloc _ = W2
    obtain ⟨hb2, hB2⟩ := box_new (leaf_at w1 none0 rfl (ok := fun _ => False)) (fun b h => h.elim) hW.symm
    have HE2 := Lib.hid (HE1.out.step hb2)
    clear hW hb2 hB2 HE1
    go_wp2_with fail
    refine (parse_par b W2 HE2.out.mx (fun _ => brC) (fun _ => dotC)).mono ?_
    intro en w3 hG
    have HE3 := Lib.hid (HE2.out.step hG.1)
    obtain ⟨hb3, ⟨t, A, c, _, rfl, _⟩ | ⟨e', _, _, rfl⟩⟩ := hG
    · clear hb3 HE2
      go_wp2_with fail
      refine (works10_any _ (HE3.out.step ((Below.refl _ _).alloc (Nat.le_refl _) _)).mx (HE3.out.step ((Below.refl _ _).alloc (Nat.le_refl _) _)).tb).mono ?_
      rintro e4 w4 ⟨rfl, hb4⟩
      go_wp2_with fail
      go_ret
      exact ⟨rfl, ((HE3.out.step ((Below.refl _ _).alloc (Nat.le_refl _) _)).step hb4).bl⟩
    · clear hb3 HE2
      go_wp2_with fail
      refine (works10_any _ (HE3.out.step ((Below.refl _ _).alloc (Nat.le_refl _) _)).mx (HE3.out.step ((Below.refl _ _).alloc (Nat.le_refl _) _)).tb).mono ?_
      rintro e4 w4 ⟨rfl, hb4⟩
      go_wp2_with fail
      go_ret
      exact ⟨rfl, ((HE3.out.step ((Below.refl _ _).alloc (Nat.le_refl _) _)).step hb4).bl⟩
  | ok x =>
  obtain ⟨hb1, A, c, rfl, hN⟩ := parse_is hG hpa
  have HE1 := Lib.hid (HE.out.step hb1)
  have HN1 := Lib.hid hN
  have Hpa := Lib.hid hpa
  clear hG hpa hN hb1 HE
  go_upto_region 4 with fail
  generalize hW : w1.alloc _ = W2
  obtain ⟨hb2, hB2⟩ := box_new HN1.out (fun b h => h.2) hW.symm
  have HE2 := Lib.hid (HE1.out.step hb2); have HX2 := Lib.hid hB2
  clear hW hb2 hB2 HE1 HN1
  go_wp2_with fail
  refine (parse_par b W2 HE2.out.mx (fun _ => brC) (fun _ => dotC)).mono ?_
  intro en w3 hG
  cases hpb : parseP b with
  | error e =>
    obtain ⟨hb3, he, rfl⟩ := parse_no hG hpb
    have heb : (e != 0) = true := by simpa using he
    have HE3 := Lib.hid (HE2.out.step hb3)
    clear hG hpb he hb3 HE2
    go_wp2_with fail
    refine (works10_any _ (HE3.out.step ((Below.refl _ _).alloc (Nat.le_refl _) _)).mx (HE3.out.step ((Below.refl _ _).alloc (Nat.le_refl _) _)).tb).mono ?_
    rintro e4 w4 ⟨rfl, hb4⟩
    go_wp2_with fail
    go_ret
    exact ⟨rfl, ((HE3.out.step ((Below.refl _ _).alloc (Nat.le_refl _) _)).step hb4).bl⟩
  | ok y =>
  obtain ⟨hb3, B, d, rfl, hN⟩ := parse_is hG hpb
  have HE3 := Lib.hid (HE2.out.step hb3); have HX3 := Lib.hid (HX2.out.step hb3)
  have HN3 := Lib.hid hN
  have Hpb := Lib.hid hpb
  clear hG hpb hN hb3 HE2 HX2
  go_upto_region 5 with fail
  generalize hW : w3.alloc _ = W4
  obtain ⟨hb4, hB4⟩ := box_new HN3.out (fun b h => h.2) hW.symm
  have HE4 := Lib.hid (HE3.out.step hb4); have HX4 := Lib.hid (HX3.out.step hb4); have HY4 := Lib.hid hB4
  clear hW hb4 hB4 HE3 HX3 HN3
  have hrow := Lib.hid (parse_row Hpa.out Hpb.out (by omega))
  have hstar := Lib.hid (parse_times (m := 2) (n := 7) (q := [123, 50, 44, 55, 125]) Hpa.out (by simp; omega) (fun k t => suf_27 k t))
  have halt := Lib.hid (parse_alt Hpa.out Hpb.out (by omega))
  have c1 : bs [40] ++ bs a = bs (40 :: a) := bs_cat _ _
  have c2 : bs (40 :: a) ++ bs [41, 40] = bs (40 :: (a ++ [41, 40])) := bs_cat _ _
  have c3 : bs (40 :: (a ++ [41, 40])) ++ bs b = bs (40 :: (a ++ 41 :: (40 :: b))) := (bs_cat _ _).trans (by simp)
  have c4 : bs (40 :: (a ++ 41 :: (40 :: b))) ++ bs [41] = bs (40 :: (a ++ 41 :: (40 :: (b ++ [41])))) := (bs_cat _ _).trans (by simp)
  have c5 : bs (40 :: a) ++ bs [41, 123, 50, 44, 55, 125] = bs (40 :: (a ++ 41 :: [123, 50, 44, 55, 125])) := (bs_cat _ _).trans (by simp)
  have c6 : bs (40 :: a) ++ bs [41, 124, 40] = bs (40 :: (a ++ [41, 124, 40])) := bs_cat _ _
  have c7 : bs (40 :: (a ++ [41, 124, 40])) ++ bs b = bs (40 :: (a ++ 41 :: (124 :: 40 :: b))) := (bs_cat _ _).trans (by simp)
  have c8 : bs (40 :: (a ++ 41 :: (124 :: 40 :: b))) ++ bs [41] = bs (40 :: (a ++ 41 :: (124 :: 40 :: (b ++ [41])))) := (bs_cat _ _).trans (by simp)
  generalize 40 :: (a ++ 41 :: (40 :: (b ++ [41]))) = R1 at *
  generalize 40 :: (a ++ 41 :: [123, 50, 44, 55, 125]) = R2 at *
  generalize 40 :: (a ++ 41 :: (124 :: 40 :: (b ++ [41]))) = R3 at *
  go_wp2_with fail
  refine (parse_par R1 W4 HE4.out.mx (fun _ => brC) (fun _ => dotC)).mono ?_
  intro en w5 hG
  obtain ⟨hb5, t1, A1, k1, e1, rfl, hN5, h1⟩ := parse_or hG hrow.out
  have HE5 := Lib.hid (HE4.out.step hb5); have HX5 := Lib.hid (HX4.out.step hb5); have HY5 := Lib.hid (HY4.out.step hb5); have HN5 := Lib.hid hN5
  clear hG hb5 hN5 HE4 HX4 HY4 hrow c2 c3 c4
  go_upto_region 8 with fail
  generalize hW : w5.alloc _ = W6
  obtain ⟨hb6, hB6⟩ := box_new HN5.out (fun b h => h.2) hW.symm
  have HE6 := Lib.hid (HE5.out.step hb6); have HX6 := Lib.hid (HX5.out.step hb6); have HY6 := Lib.hid (HY5.out.step hb6); have HR6 := Lib.hid hB6
  clear hW hb6 hB6 HE5 HX5 HY5 HN5
  go_wp2_with fail
  refine (parse_par R2 W6 HE6.out.mx (fun _ => brC) (fun _ => dotC)).mono ?_
  intro en w7 hG
  obtain ⟨hb7, t2, A2, k2, e2, rfl, hN7, h2⟩ := parse_or hG hstar.out
  have HE7 := Lib.hid (HE6.out.step hb7); have HX7 := Lib.hid (HX6.out.step hb7); have HY7 := Lib.hid (HY6.out.step hb7); have HR7 := Lib.hid (HR6.out.step hb7); have HN7 := Lib.hid hN7
  clear hG hb7 hN7 HE6 HX6 HY6 HR6 hstar c5
  go_upto_region 9 with fail
  generalize hW : w7.alloc _ = W8
  obtain ⟨hb8, hB8⟩ := box_new HN7.out (fun b h => h.2) hW.symm
  have HE8 := Lib.hid (HE7.out.step hb8); have HX8 := Lib.hid (HX7.out.step hb8); have HY8 := Lib.hid (HY7.out.step hb8); have HR8 := Lib.hid (HR7.out.step hb8); have HS8 := Lib.hid hB8
  clear hW hb8 hB8 HE7 HX7 HY7 HR7 HN7
  go_wp2_with fail
  refine (parse_par R3 W8 HE8.out.mx (fun _ => brC) (fun _ => dotC)).mono ?_
  intro en w9 hG
  obtain ⟨hb9, t3, A3, k3, e3, rfl, hN9, h3⟩ := parse_or hG halt.out
  have HE9 := Lib.hid (HE8.out.step hb9); have HX9 := Lib.hid (HX8.out.step hb9); have HY9 := Lib.hid (HY8.out.step hb9); have HR9 := Lib.hid (HR8.out.step hb9); have HS9 := Lib.hid (HS8.out.step hb9); have HN9 := Lib.hid hN9
  clear hG hb9 hN9 HE8 HX8 HY8 HR8 HS8 halt c1 c6 c7 c8
  go_upto_region 10 with fail
  generalize hW : w9.alloc _ = W
  obtain ⟨hbW, hBW⟩ := box_new HN9.out (fun b h => h.2) hW.symm
  have HE := Lib.hid (HE9.out.step hbW); have HX := Lib.hid (HX9.out.step hbW); have HY := Lib.hid (HY9.out.step hbW); have HR := Lib.hid (HR9.out.step hbW); have HS := Lib.hid (HS9.out.step hbW); have HO := Lib.hid hBW
  clear hW hbW hBW HE9 HX9 HY9 HR9 HS9 HN9 sa sb la' lb'
  rcases h1 with ⟨rfl, ht1⟩ | rfl
  case inr =>
    go_wp2_with fail
    refine (works10_any W HE.out.mx HE.out.tb).mono ?_
    rintro e4 w4 ⟨rfl, hb4⟩
    go_wp2_with fail
    go_ret
    exact ⟨rfl, (HE.out.step hb4).bl⟩
  rcases h2 with ⟨rfl, ht2⟩ | rfl
  case inr =>
    go_wp2_with fail
    refine (works10_any W HE.out.mx HE.out.tb).mono ?_
    rintro e4 w4 ⟨rfl, hb4⟩
    go_wp2_with fail
    go_ret
    exact ⟨rfl, (HE.out.step hb4).bl⟩
  rcases h3 with ⟨rfl, ht3⟩ | rfl
  case inr =>
    go_wp2_with fail
    refine (works10_any W HE.out.mx HE.out.tb).mono ?_
    rintro e4 w4 ⟨rfl, hb4⟩
    go_wp2_with fail
    go_ret
    exact ⟨rfl, (HE.out.step hb4).bl⟩
  have Ht1 := Lib.hid ht1; have Ht2 := Lib.hid ht2; have Ht3 := Lib.hid ht3
  clear ht1 ht2 ht3
  obtain ⟨x0, x1, x2, x3, x4, x5, x6, x7⟩ := HX.out.at8
  obtain ⟨y0, y1, y2, y3, y4, y5, y6, y7⟩ := HY.out.at8
  obtain ⟨r0, r1, r2, r3, r4, r5, r6, r7⟩ := HR.out.at8
  go_wp2_with fail
  generalize hW : W.alloc _ = Wa
  have hba : Below W.heap.size W Wa := by subst hW; exact (Below.refl _ _).alloc (Nat.le_refl _) _
  have hown := own_litX [(x, A, c), (y, B, d)] hW.symm (by simp) (OwnsX.cons (fun z hz => by rw [List.mem_singleton] at hz; subst hz; exact HY.out.own) (Below.refl _ _) HX.out.own) (.mk 4 0 0 0 0 0 0 [x, y]) rfl
  have HEa := Lib.hid (HE.out.step hba); have HXa := Lib.hid (HX.out.step hba); have HYa := Lib.hid (HY.out.step hba); have HRa := Lib.hid (HR.out.step hba); have HSa := Lib.hid (HS.out.step hba); have HOa := Lib.hid (HO.out.step hba)
  have Hown := Lib.hid hown
  clear hW hba hown HE HX HY HR HS HO x0 x1 x2 x3 x4 x5 x6 x7 y0 y1 y2 y3 y4 y5 y6 y7 r0 r1 r2 r3 r4 r5 r6 r7
  refine (sameN_to Ht1.out Wa _ (fun b => b < Wa.heap.size) A1 (some ⟨W.heap.size, 0, none⟩) k1 2 HRa.out.node Hown.out HRa.out.okk (fun b h => h)).mono ?_
  rintro e4 Wb ⟨rfl, hbb⟩
  have HEb := Lib.hid (HEa.out.step hbb); have HXb := Lib.hid (HXa.out.step hbb); have HYb := Lib.hid (HYa.out.step hbb); have HSb := Lib.hid (HSa.out.step hbb); have HOb := Lib.hid (HOa.out.step hbb)
  clear hbb HEa HXa HYa HRa HSa HOa Hown
  obtain ⟨x0, x1, x2, x3, x4, x5, x6, x7⟩ := HXb.out.at8
  obtain ⟨y0, y1, y2, y3, y4, y5, y6, y7⟩ := HYb.out.at8
  obtain ⟨r0, r1, r2, r3, r4, r5, r6, r7⟩ := HOb.out.at8
  go_wp2_with fail
  generalize hW : Wb.alloc _ = Wc
  have hbc : Below Wb.heap.size Wb Wc := by subst hW; exact (Below.refl _ _).alloc (Nat.le_refl _) _
  have hown := own_litX [(x, A, c), (y, B, d)] hW.symm (by simp) (OwnsX.cons (fun z hz => by rw [List.mem_singleton] at hz; subst hz; exact HYb.out.own) (Below.refl _ _) HXb.out.own) (.mk 5 0 0 0 0 0 0 [x, y]) rfl
  have HEc := Lib.hid (HEb.out.step hbc); have HXc := Lib.hid (HXb.out.step hbc); have HSc := Lib.hid (HSb.out.step hbc); have HOc := Lib.hid (HOb.out.step hbc)
  have Hown := Lib.hid hown
  clear hW hbc hown HEb HXb HYb HSb HOb x0 x1 x2 x3 x4 x5 x6 x7 y0 y1 y2 y3 y4 y5 y6 y7 r0 r1 r2 r3 r4 r5 r6 r7
  refine (sameN_to Ht3.out Wc _ (fun b => b < Wc.heap.size) A3 (some ⟨Wb.heap.size, 0, none⟩) k3 2 HOc.out.node Hown.out HOc.out.okk (fun b h => h)).mono ?_
  rintro e5 Wd ⟨rfl, hbd⟩
  have HEd := Lib.hid (HEc.out.step hbd); have HXd := Lib.hid (HXc.out.step hbd); have HSd := Lib.hid (HSc.out.step hbd)
  clear hbd HEc HXc HSc HOc Hown
  obtain ⟨x0, x1, x2, x3, x4, x5, x6, x7⟩ := HXd.out.at8
  obtain ⟨r0, r1, r2, r3, r4, r5, r6, r7⟩ := HSd.out.at8
  go_wp2_with fail
  generalize hW : Wd.alloc _ = We
  have hbe : Below Wd.heap.size Wd We := by subst hW; exact (Below.refl _ _).alloc (Nat.le_refl _) _
  have hown := own_litX [(x, A, c)] hW.symm (by simp) (fun z hz => by rw [List.mem_singleton] at hz; subst hz; exact HXd.out.own) (repT 2 7 x) rfl
  have HEe := Lib.hid (HEd.out.step hbe); have HSe := Lib.hid (HSd.out.step hbe)
  have Hown := Lib.hid hown
  clear hW hbe hown HEd HXd HSd x0 x1 x2 x3 x4 x5 x6 x7 r0 r1 r2 r3 r4 r5 r6 r7
  refine (sameN_to Ht2.out We _ (fun b => b < We.heap.size) A2 (some ⟨Wd.heap.size, 0, none⟩) k2 1 HSe.out.node Hown.out HSe.out.okk (fun b h => h)).mono ?_
  rintro e6 Wf ⟨rfl, hbf⟩
  have HEf := Lib.hid (HEe.out.step hbf)
  clear hbf HEe HSe Hown
  go_wp2_with fail
  refine (works10_any Wf HEf.out.mx HEf.out.tb).mono ?_
  rintro e7 w7 ⟨rfl, hb7⟩
  go_wp2_with fail
  go_ret
  exact ⟨rfl, (HEf.out.step hb7).bl⟩
end Go.Proofs.YthlakbjnmbddaaaGreatDoor

/- vouchref10.print: a text that is cut, against the whole one. Plain. -/
set_option linter.unusedVariables false
set_option linter.unusedSimpArgs false
namespace Go.Proofs.YthlakbjnmbddaaaGreatDoor
open Go.RowKit

/-- A text stands for another: the same, or both too long. -/
def Agr (x y : Bs) : Prop := (x = y ∧ y.length ≤ 1024) ∨ (1024 < x.length ∧ 1024 < y.length)
theorem Agr.self (x : Bs) : Agr x x := (Nat.lt_or_ge 1024 x.length).elim (fun h => .inr ⟨h, h⟩) (fun h => .inl ⟨rfl, h⟩)
theorem Agr.app {x y a b : Bs} (h : Agr x y) (k : Agr a b) : Agr (x ++ a) (y ++ b) := by
  rcases h with ⟨rfl, h⟩ | ⟨h1, h2⟩
  · rcases k with ⟨rfl, k⟩ | ⟨k1, k2⟩
    · exact .self _
    · exact .inr ⟨by simp only [List.length_append]; omega, by simp only [List.length_append]; omega⟩
  · exact .inr ⟨by simp only [List.length_append]; omega, by simp only [List.length_append]; omega⟩
theorem Agr.cut {x y : Bs} (h : Agr x y) : Agr (if 1024 < x.length then x.take 1025 else x) y := by
  rcases h with ⟨rfl, h⟩ | ⟨h1, h2⟩
  · rw [if_neg (by omega)]; exact .inl ⟨rfl, h⟩
  · rw [if_pos h1]; exact .inr ⟨by simp only [List.length_take]; omega, h2⟩
theorem Agr.par {x y : Bs} (h : Agr x y) (so : Bool) : Agr (parT so x) (parT so y) := by
  unfold parT
  split
  · exact (Agr.self [40]).app (h.app (Agr.self [41]))
  · exact h
theorem Agr.long {x y : Bs} (h : Agr x y) : 1024 < x.length ↔ 1024 < y.length := by
  rcases h with ⟨rfl, h⟩ | ⟨h1, h2⟩
  · exact Iff.rfl
  · exact ⟨fun _ => h2, fun _ => h1⟩
theorem Agr.short {x y : Bs} (h : Agr x y) (hs : y.length ≤ 1024) : x = y := by
  rcases h with ⟨rfl, h⟩ | ⟨h1, h2⟩
  · rfl
  · omega

/-- A part stands in brackets. -/
def soT (t p : T) : Bool := p.k == 5 || (t.k != 5 && (p.k == 0 || p.k == 4))
/-- What is tu be printed behind so many parts. -/
def restP (t : T) (i : Nat) : Bs := if t.k = 4 then prRow (t.ps.drop i) else if t.k = 5 then (if i = 0 then prAlt t.ps else prBar (t.ps.drop i)) else prHead (t.ps.drop i)
def restD (t : T) (i : Nat) : Nat := if t.k = 4 then deepRow (t.ps.drop i) else if t.k = 5 then deepAlt (t.ps.drop i) else deepHead (t.ps.drop i)
theorem drop_at {t : T} {i : Nat} {p : T} (h : t.ps[i]? = some p) : t.ps.drop i = p :: t.ps.drop (i + 1) := by
  obtain ⟨hl, rfl⟩ := List.getElem?_eq_some_iff.1 h
  exact List.drop_eq_getElem_cons hl
/-- Kinds with parts. -/
def KindP (t : T) : Prop := t.k = 4 ∨ t.k = 5 ∨ (t.k = 6 ∧ t.ps.length = 1)
theorem so_loose (p : T) : (p.k == 5 || (p.k == 0 || p.k == 4)) = (p.k == 0 || p.k == 4 || p.k == 5) := by cases (p.k == 5) <;> cases (p.k == 0) <;> cases (p.k == 4) <;> rfl
theorem soT_loose {t : T} (h : t.k ≠ 5) (p : T) : soT t p = looseT p := by
  have : (t.k != 5) = true := by simpa using h
  unfold soT looseT
  rw [this, Bool.true_and, so_loose]
theorem soT_choice {t : T} (h : t.k = 5) (p : T) : soT t p = (p.k == 5) := by
  have : (t.k != 5) = false := by simp [h]
  unfold soT
  rw [this, Bool.false_and, Bool.or_false]
theorem restP_4 {t : T} (h : t.k = 4) (i : Nat) : restP t i = prRow (t.ps.drop i) := by unfold restP; rw [if_pos h]
theorem restP_5 {t : T} (h : t.k = 5) (i : Nat) : restP t i = if i = 0 then prAlt t.ps else prBar (t.ps.drop i) := by unfold restP; rw [if_neg (show ¬ t.k = 4 by omega), if_pos h]
theorem restP_6 {t : T} (h : t.k = 6) (i : Nat) : restP t i = prHead (t.ps.drop i) := by unfold restP; rw [if_neg (show ¬ t.k = 4 by omega), if_neg (show ¬ t.k = 5 by omega)]
theorem restD_4 {t : T} (h : t.k = 4) (i : Nat) : restD t i = deepRow (t.ps.drop i) := by unfold restD; rw [if_pos h]
theorem restD_5 {t : T} (h : t.k = 5) (i : Nat) : restD t i = deepAlt (t.ps.drop i) := by unfold restD; rw [if_neg (show ¬ t.k = 4 by omega), if_pos h]
theorem restD_6 {t : T} (h : t.k = 6) (i : Nat) : restD t i = deepHead (t.ps.drop i) := by unfold restD; rw [if_neg (show ¬ t.k = 4 by omega), if_neg (show ¬ t.k = 5 by omega)]
theorem restP_at {t : T} (hk : KindP t) {i : Nat} {p : T} (h : t.ps[i]? = some p) : restP t i = (if 0 < i ∧ t.k = 5 then [124] else []) ++ (parT (soT t p) (prT p) ++ restP t (i + 1)) := by
  have hd := drop_at h
  have hl := (List.getElem?_eq_some_iff.1 h).1
  rcases hk with hk | hk | ⟨hk, hn⟩
  · rw [restP_4 hk, restP_4 hk, soT_loose (by omega), hd, prRow, if_neg (show ¬ (0 < i ∧ t.k = 5) by omega), List.nil_append]
  · rw [restP_5 hk, restP_5 hk, soT_choice hk, if_neg (show ¬ (i + 1 = 0) by omega)]
    by_cases h0 : i = 0
    · subst h0
      rw [List.drop_zero] at hd
      rw [if_pos rfl, if_neg (show ¬ (0 < 0 ∧ t.k = 5) by omega), List.nil_append]
      conv => lhs; rw [hd]
      rw [prAlt]
    · rw [if_neg h0, if_pos ⟨by omega, hk⟩, hd, prBar]
  · obtain rfl : i = 0 := by omega
    have he : t.ps.drop (0 + 1) = [] := List.drop_eq_nil_of_le (by omega)
    rw [restP_6 hk, restP_6 hk, soT_loose (by omega), if_neg (show ¬ (0 < 0 ∧ t.k = 5) by omega), hd, he, prHead, prHead, List.append_nil, List.nil_append]
theorem restP_end {t : T} (hk : KindP t) {i : Nat} (h : t.ps.length ≤ i) (h0 : 0 < i) : restP t i = [] := by
  have he : t.ps.drop i = [] := List.drop_eq_nil_of_le h
  rcases hk with hk | hk | ⟨hk, hn⟩
  · rw [restP_4 hk, he, prRow]
  · rw [restP_5 hk, if_neg (show ¬ i = 0 by omega), he, prBar]
  · rw [restP_6 hk, he, prHead]
theorem restD_at {t : T} (hk : KindP t) {i : Nat} {p : T} (h : t.ps[i]? = some p) : restD t i = max (deepT p + (if soT t p then 1 else 0)) (restD t (i + 1)) := by
  have hd := drop_at h
  have hl := (List.getElem?_eq_some_iff.1 h).1
  rcases hk with hk | hk | ⟨hk, hn⟩
  · rw [restD_4 hk, restD_4 hk, soT_loose (by omega), hd, deepRow]
  · rw [restD_5 hk, restD_5 hk, soT_choice hk, hd, deepAlt]
  · obtain rfl : i = 0 := by omega
    have he : t.ps.drop (0 + 1) = [] := List.drop_eq_nil_of_le (by omega)
    rw [restD_6 hk, restD_6 hk, soT_loose (by omega), hd, he, deepHead, deepHead, Nat.max_eq_left (Nat.zero_le _)]
theorem restD_end {t : T} (hk : KindP t) {i : Nat} (h : t.ps.length ≤ i) : restD t i = 0 := by
  have he : t.ps.drop i = [] := List.drop_eq_nil_of_le h
  rcases hk with hk | hk | ⟨hk, hn⟩
  · rw [restD_4 hk, he, deepRow]
  · rw [restD_5 hk, he, deepAlt]
  · rw [restD_6 hk, he, deepHead]
theorem prT_rest {t : T} (hk : KindP t) : prT t = restP t 0 ++ (if t.k = 6 then timesT t.mn t.mx else []) := by
  rw [prT_eq]
  rcases hk with hk | hk | ⟨hk, hn⟩
  · rw [restP_4 hk, List.drop_zero, if_neg (show ¬ t.k = 1 by omega), if_neg (show ¬ t.k = 2 by omega), if_neg (show ¬ t.k = 3 by omega), if_pos hk, if_neg (show ¬ t.k = 6 by omega), List.append_nil]
  · rw [restP_5 hk, if_pos rfl, if_neg (show ¬ t.k = 1 by omega), if_neg (show ¬ t.k = 2 by omega), if_neg (show ¬ t.k = 3 by omega), if_neg (show ¬ t.k = 4 by omega), if_pos hk, if_neg (show ¬ t.k = 6 by omega), List.append_nil]
  · rw [restP_6 hk, List.drop_zero, if_neg (show ¬ t.k = 1 by omega), if_neg (show ¬ t.k = 2 by omega), if_neg (show ¬ t.k = 3 by omega), if_neg (show ¬ t.k = 4 by omega), if_neg (show ¬ t.k = 5 by omega), if_pos hk, if_pos hk]
theorem deepT_rest {t : T} (hk : KindP t) : deepT t = restD t 0 := by
  rw [deepT_eq]
  rcases hk with hk | hk | ⟨hk, hn⟩
  · rw [restD_4 hk, List.drop_zero, if_pos hk]
  · rw [restD_5 hk, List.drop_zero, if_neg (show ¬ t.k = 4 by omega), if_pos hk]
  · rw [restD_6 hk, List.drop_zero, if_neg (show ¬ t.k = 4 by omega), if_neg (show ¬ t.k = 5 by omega), if_pos hk]
end Go.Proofs.YthlakbjnmbddaaaGreatDoor

/- A set's text: how long; turned about. Plain. -/
set_option linter.unusedVariables false
set_option linter.unusedSimpArgs false
namespace Go.Proofs.YthlakbjnmbddaaaGreatDoor
open Go.RowKit

def memS : List Nat → Nat
  | [] => 0
  | x :: l => (memT x).length + memS l
theorem memS_app (a b : List Nat) : memS (a ++ b) = memS a + memS b := by
  induction a with
  | nil => simp [memS]
  | cons x a ih => simp [memS, ih]; omega
theorem memS_ge : ∀ (l : List Nat), l.length ≤ memS l
  | [] => Nat.le_refl _
  | x :: l => by have := memS_ge l; have := memT_pos x; simp [memS]; omega
theorem memS_filter (p : Nat → Bool) : ∀ (l : List Nat), memS (l.filter p) ≤ memS l
  | [] => Nat.le_refl _
  | x :: l => by
    have := memS_filter p l
    rw [List.filter_cons]
    split
    · simp [memS]; exact this
    · simp [memS]; omega
theorem memS_range (a n : Nat) : memS (List.range' a (n + 1)) = memS (List.range' a n) + (memT (a + n)).length := by
  rw [List.range'_concat, memS_app]
  simp [memS]
theorem runsT_sum : ∀ (k : Nat) (l : List Nat), (runsT k l).length ≤ memS l
  | 0, l => by rw [runsT]; exact Nat.zero_le _
  | k + 1, [] => by rw [runsT]; exact Nat.zero_le _
  | k + 1, c :: t => by
    have h0 := runsT_sum k (t.drop (runN c t))
    have htk := runN_take c t
    have h1 : memS t = memS (List.range' (c + 1) (runN c t)) + memS (t.drop (runN c t)) := by
      conv => lhs; rw [← List.take_append_drop (runN c t) t, memS_app, htk]
    rw [runsT]
    generalize runN c t = n at *
    simp only [List.length_append, memS]
    rcases n with _ | n
    · rw [List.drop_zero] at h0 h1
      simp; omega
    · have h2 := memS_range (c + 1) n
      have h3 := memS_ge (List.range' (c + 1) n)
      rw [List.length_range'] at h3
      rw [show c + 1 + n = c + (n + 1) by omega] at h2
      rw [if_pos (show 0 < n + 1 by omega)]
      split
      · simp only [List.length_cons, List.length_nil]; omega
      · simp only [List.length_nil]; omega
theorem memS_all : memS (List.range 256) = 272 := by decide +kernel
theorem setT_short (s : W4) : (setT s).length ≤ 300 := by
  have h1 := runsT_sum (bytesW s).length (bytesW s)
  have h2 : memS (bytesW s) ≤ 272 := by rw [← memS_all]; exact memS_filter _ _
  unfold setT
  split
  · simp
  split
  · simp
  split
  · split <;> simp
  · simp only [List.length_append, List.length_cons, List.length_nil]; omega
theorem set_turn {S : W4} (h : Wok S) {r : Bs} (hs : setT S = 91 :: r) (h3 : 3 ≤ (setT S).length) (h94 : r.head? ≠ some 94) : parseP (91 :: 94 :: r) = .ok S.not.T := by
  have hlen := setT_short S
  have hr : ∃ hne : bytesW S ≠ [], r = runsT (bytesW S).length (bytesW S) ++ [93] := by
    unfold setT at hs h3
    split at hs
    · simp at hs
    · rename_i g0
      split at hs
      · simp only [List.cons.injEq, true_and] at hs
        subst hs
        exact absurd rfl h94
      · rename_i g1
        split at hs
        · rename_i g2
          rw [if_neg g0, if_neg g1, if_pos g2] at h3
          split at hs
          · simp at hs
          · rename_i g3
            rw [if_neg g3] at h3
            simp at h3
        · refine ⟨fun e => g1 (by rw [e]; rfl), ?_⟩
          simp only [List.cons_append, List.nil_append, List.cons.injEq, true_and] at hs
          exact hs.symm
  obtain ⟨hne, hr⟩ := hr
  have hrl : r.length + 1 = (setT S).length := by rw [hs]; rfl
  have hit : itemsP (r.length + 1) w40 r = .ok (S, []) := by
    have := runs_read (bytesW S).length (bytesW S) w40 [] (r.length + 1) hne (Nat.le_refl _) (by rw [← hr]; omega) (bytesW_lt S)
    rw [← hr, fold_bytes h] at this
    exact this
  have hb : bracketP (94 :: r) = .ok (S.not, []) := by
    rw [bracketP, takeP_one, if_pos rfl]
    simp only [hit]
  have ha : atomP (groupP 64) (91 :: 94 :: r) = .ok (S.not.T, []) := by
    simp only [atomP, show ¬ ((91 : UInt8) = 40) by decide, show ¬ ((91 : UInt8) = 94) by decide, show ¬ ((91 : UInt8) = 36) by decide, if_true, if_false, hb]
  have hp : pieceP (groupP 64) (91 :: 94 :: r) = .ok (S.not.T, []) := by
    rw [pieceP, ha]
    exact suf_stop _ _ (fun c t e => by cases e)
  unfold parseP
  rw [if_neg (by simp; omega), choice_one (one_row rfl hp rfl (by simp)) rfl]
end Go.Proofs.YthlakbjnmbddaaaGreatDoor

/- A set's runs, byte by byte. Plain. -/
set_option linter.unusedVariables false
set_option linter.unusedSimpArgs false
namespace Go.Proofs.YthlakbjnmbddaaaGreatDoor
open Go.RowKit

/-- The bytes of a set from some byte on. -/
def remS (s : W4) (c : Nat) : List Nat := (List.range' c (256 - c)).filter s.has
theorem remS_zero (s : W4) : remS s 0 = bytesW s := by unfold remS bytesW; rw [List.range_eq_range']
theorem remS_step (s : W4) {c : Nat} (h : c < 256) : remS s c = if s.has c then c :: remS s (c + 1) else remS s (c + 1) := by
  unfold remS
  rw [show 256 - c = (256 - (c + 1)) + 1 by omega, List.range'_succ, List.filter_cons]
theorem remS_ge {s : W4} {c x : Nat} (h : x ∈ remS s c) : c ≤ x := by
  unfold remS at h
  rw [List.mem_filter, List.mem_range'_1] at h
  exact h.1.1
theorem runN_none {c : Nat} {l : List Nat} (h : ∀ x ∈ l, c + 2 ≤ x) : runN c l = 0 := by
  cases l with
  | nil => rfl
  | cons d t =>
    have := h d (List.mem_cons_self ..)
    rw [runN, if_neg (by omega)]
theorem runsT_cons (f c : Nat) (t : List Nat) : runsT (f + 1) (c :: t) = memT c ++ ((if 1 < runN c t then [45] else []) ++ ((if 0 < runN c t then memT (c + runN c t) else []) ++ runsT f (t.drop (runN c t)))) := by rw [runsT]
theorem runsT_fuel : ∀ (n : Nat) (l : List Nat), l.length ≤ n → ∀ k, l.length ≤ k → runsT k l = runsT l.length l
  | _, [], _, k, _ => by cases k <;> rfl
  | 0, c :: t, h, _, _ => by simp at h
  | n + 1, c :: t, h, k, hk => by
    simp only [List.length_cons] at h hk ⊢
    obtain ⟨k, rfl⟩ : ∃ k', k = k' + 1 := ⟨k - 1, by omega⟩
    have hd : (t.drop (runN c t)).length ≤ t.length := by rw [List.length_drop]; omega
    rw [runsT_cons, runsT_cons, runsT_fuel n _ (by omega) k (by omega), runsT_fuel n _ (by omega) t.length hd]
/-- The text of a set's runs from some byte on. -/
def runT (s : W4) (c : Nat) : Bs := runsT (remS s c).length (remS s c)
theorem runT_end (s : W4) : runT s 256 = [] := rfl
theorem runT_skip {s : W4} {c : Nat} (h : c < 256) (hn : s.has c = false) : runT s c = runT s (c + 1) := by
  unfold runT
  rw [remS_step s h, hn]
  rfl
/-- From one byte tu another all are in the set. -/
structure Inn (s : W4) (f c : Nat) : Prop where
  le : f ≤ c
  lt : c < 256
  num : runN f (remS s (f + 1)) = (c - f) + runN c (remS s (c + 1))
  rest : (remS s (f + 1)).drop (c - f) = remS s (c + 1)
theorem Inn.start (s : W4) {f : Nat} (h : f < 256) : Inn s f f := ⟨Nat.le_refl _, h, by rw [Nat.sub_self, Nat.zero_add], by rw [Nat.sub_self]; rfl⟩
theorem Inn.step {s : W4} {f c : Nat} (h : Inn s f c) (hc : c < 255) (hh : s.has (c + 1) = true) : Inn s f (c + 1) := by
  have hs := remS_step s (c := c + 1) (by omega)
  rw [hh, if_pos rfl] at hs
  have hle := h.le
  refine ⟨by omega, by omega, ?_, ?_⟩
  · rw [h.num, hs, runN, if_pos rfl]
    omega
  · rw [show c + 1 - f = (c - f) + 1 by omega, ← List.drop_drop, h.rest, hs]
    rfl
theorem Inn.last {s : W4} {f c : Nat} (h : Inn s f c) (hc : ¬ c < 255 ∨ s.has (c + 1) = false) : runN f (remS s (f + 1)) = c - f := by
  have hlt := h.lt
  have : runN c (remS s (c + 1)) = 0 := by
    by_cases h255 : c < 255
    · have hh := hc.resolve_left (fun e => e h255)
      have hs := remS_step s (c := c + 1) (by omega)
      rw [hh, if_neg (by decide)] at hs
      rw [hs]
      exact runN_none fun x hx => remS_ge hx
    · obtain rfl : c = 255 := by omega
      rfl
  rw [h.num, this, Nat.add_zero]
theorem Inn.text {s : W4} {f c : Nat} (h : Inn s f c) (hf : s.has f = true) (hc : ¬ c < 255 ∨ s.has (c + 1) = false) : runT s f = memT f ++ ((if f + 1 < c then [45] else []) ++ ((if f < c then memT c else []) ++ runT s (c + 1))) := by
  have hlt := h.lt; have hle := h.le
  have hl := h.last hc
  have hd := h.rest
  have hs := remS_step s (c := f) (by omega)
  rw [hf, if_pos rfl] at hs
  have hdl : (remS s (c + 1)).length ≤ (remS s (f + 1)).length := by rw [← hd, List.length_drop]; omega
  unfold runT
  rw [hs, List.length_cons, runsT_cons, hl, hd, runsT_fuel _ _ (Nat.le_refl _) _ hdl, show f + (c - f) = c by omega]
  congr 2
  · by_cases h1 : f + 1 < c
    · rw [if_pos h1, if_pos (by omega)]
    · rw [if_neg h1, if_neg (by omega)]
  · congr 1
    by_cases h1 : f < c
    · rw [if_pos h1, if_pos (by omega)]
    · rw [if_neg h1, if_neg (by omega)]

/-- The bytes of a set below some byte. -/
def takS (s : W4) (c : Nat) : List Nat := (List.range c).filter s.has
theorem takS_step (s : W4) (c : Nat) : takS s (c + 1) = takS s c ++ (if s.has c then [c] else []) := by
  unfold takS
  rw [List.range_succ, List.filter_append, List.filter_cons]
  rfl
theorem takS_le (s : W4) (c : Nat) : (takS s c).length ≤ c := by
  have := List.length_filter_le s.has (List.range c)
  simpa [takS] using this
theorem takS_all (s : W4) : takS s 256 = bytesW s := rfl
theorem runT_all (s : W4) : runT s 0 = runsT (bytesW s).length (bytesW s) := by unfold runT; rw [remS_zero]
theorem runT_len (s : W4) (c : Nat) : (runT s c).length ≤ 272 := by
  unfold runT
  have h1 := runsT_sum (remS s c).length (remS s c)
  have h2 : memS (remS s c) ≤ 272 := by
    have h3 : memS (remS s c) ≤ memS (List.range' c (256 - c)) := memS_filter _ _
    by_cases h : c ≤ 256
    · have h4 : List.range 256 = List.range' 0 c ++ List.range' c (256 - c) := by
        have h6 := List.range'_append_1 (s := 0) (m := c) (n := 256 - c)
        rw [Nat.zero_add, show c + (256 - c) = 256 by omega] at h6
        rw [List.range_eq_range', h6]
      have h5 := memS_all
      rw [h4, memS_app] at h5
      omega
    · rw [show 256 - c = 0 by omega] at h3
      simp [memS] at h3
      omega
  omega
end Go.Proofs.YthlakbjnmbddaaaGreatDoor

/- vouchref10.print: kinds with parts; how deep. Plain. -/
set_option linter.unusedVariables false
set_option linter.unusedSimpArgs false
namespace Go.Proofs.YthlakbjnmbddaaaGreatDoor
open Go.RowKit

theorem kindP_of {t : T} (hr : rightF t = true) (hk : t.k = 4 ∨ t.k = 5 ∨ t.k = 6) : KindP t ∧ 0 < t.ps.length ∧ (t.k = 6 → 0 ≤ t.mn ∧ t.mn ≤ 255 ∧ t.mx ≤ 255 ∧ -1 ≤ t.mx) := by
  unfold KindP
  rcases right_cases hr with h | h | h | h | h | h | h
  · omega
  · omega
  · omega
  · omega
  · exact ⟨.inl h.1, by omega, by omega⟩
  · exact ⟨.inr (.inl h.1), by omega, by omega⟩
  · exact ⟨.inr (.inr ⟨h.1, h.2.1⟩), by omega, by omega⟩
theorem tnodesL_mem : ∀ {ps : List T} {p : T}, p ∈ ps → nodesF p ≤ nodesL ps
  | [], p, h => by cases h
  | q :: ps, p, h => by
    rw [nodesL]
    have h1 := nodesF_pos q
    have h2 : 0 ≤ nodesL ps := nodesL_pos ps (fun p _ => nodesF_pos p)
    rcases List.mem_cons.1 h with rfl | h
    · omega
    · have := tnodesL_mem h; omega
theorem deepRow_le : ∀ (ps : List T) (D : Nat), (∀ p ∈ ps, deepT p + 1 ≤ D) → deepRow ps ≤ D
  | [], D, _ => by rw [deepRow]; exact Nat.zero_le _
  | p :: ps, D, h => by
    rw [deepRow]
    have h1 := h p (List.mem_cons_self ..)
    have h2 := deepRow_le ps D (fun q hq => h q (List.mem_cons_of_mem _ hq))
    refine Nat.max_le.2 ⟨?_, h2⟩
    split <;> omega
theorem deepAlt_le : ∀ (ps : List T) (D : Nat), (∀ p ∈ ps, deepT p + 1 ≤ D) → deepAlt ps ≤ D
  | [], D, _ => by rw [deepAlt]; exact Nat.zero_le _
  | p :: ps, D, h => by
    rw [deepAlt]
    have h1 := h p (List.mem_cons_self ..)
    have h2 := deepAlt_le ps D (fun q hq => h q (List.mem_cons_of_mem _ hq))
    refine Nat.max_le.2 ⟨?_, h2⟩
    split <;> omega
theorem deepHead_le : ∀ (ps : List T) (D : Nat), (∀ p ∈ ps, deepT p + 1 ≤ D) → deepHead ps ≤ D
  | [], D, _ => by rw [deepHead]; exact Nat.zero_le _
  | p :: ps, D, h => by
    rw [deepHead]
    have h1 := h p (List.mem_cons_self ..)
    split <;> omega
/-- No deeper than it has nodes. -/
theorem deep_nodes (t : T) : (deepT t : Int) ≤ nodesF t := by
  induction t using T.ind with
  | h t ih =>
    have hp := nodesF_pos t
    have he := nodesF_eq t
    have hD : ∀ p ∈ t.ps, deepT p + 1 ≤ (nodesF t).toNat := fun p hm => by
      have := ih p hm
      have := tnodesL_mem hm
      omega
    have h1 := deepRow_le _ _ hD; have h2 := deepAlt_le _ _ hD; have h3 := deepHead_le _ _ hD
    rw [deepT_eq]
    split
    · omega
    split
    · omega
    split
    · omega
    · simp only [Int.ofNat_eq_natCast, Int.natCast_zero] ; omega
theorem check_deep {t : T} (h : checkF t = 0) : rightF t = true ∧ deepT t ≤ 2048 := by
  obtain ⟨h1, h2⟩ := check_right h
  refine ⟨h1, ?_⟩
  rw [sizeF_min t 2048 (by omega)] at h2
  have := deep_nodes t
  omega
end Go.Proofs.YthlakbjnmbddaaaGreatDoor

/- vouchref10.Has, special, member, closed: walked. -/
set_option linter.unusedVariables false
set_option linter.unusedSimpArgs false
namespace Go.Proofs.YthlakbjnmbddaaaGreatDoor
open Go.RowKit

theorem tcat (a b : Bs) : bs a ++ bs b = bs (a ++ b) := by
  apply ByteArray.ext
  simp [bs]
theorem tsize (r : Bs) : (bs r).size = r.length := by simp [bs, ByteArray.size]
/-- A slice of one byte, as a string. -/
theorem tconv (w w1 : World) (c : Nat) (hc : c < 256) (h : w1 = w.alloc (.cells #[.int .u8 (c : Int)] 5)) (cp : Nat) : (convert 42 9 (.slice (some ⟨w.heap.size, 0, none⟩) 1 cp)).run Tryz.prog w1 = .ok (.string (bs [UInt8.ofNat c])) w1 := by
  subst h
  refine run_convert_bytes_back _ _ _ 5 ⟨w.heap.size, 0, none⟩ cp [UInt8.ofNat c] Tryz.underlying42 Tryz.underlying5 Tryz.underlying9 ?_
  intro j hj
  have : j = 0 := by simpa using hj
  subst this
  have hb8 : (UInt8.ofNat c).toNat = c := b8 hc
  simp only [List.getElem_cons_zero, hb8]
  exact World.cell?_alloc_new w #[.int .u8 (c : Nat)] 5 0
set_option maxRecDepth 100000 in
set_option maxHeartbeats 1000000 in
theorem thas_any (w : World) (S : W4) (hw : Wok S) (c : Nat) (hc : c < 256) :
    Calls Tryz.prog 59 #[S.V, .int .u8 (c : Int)] w fun en w' => en = .returned (.bool (S.has c)) ∧ Below w.heap.size w w' := by
  have hq : (c : Int).tdiv 64 = ((c / 64 : Nat) : Int) := by rw [Int.tdiv_eq_ediv_of_nonneg (by omega)]; omega
  have hr : (c : Int).tmod 64 = ((c % 64 : Nat) : Int) := by rw [Int.tmod_eq_emod_of_nonneg (by omega)]; omega
  have h64 : c % 64 < 64 := by omega
  have hi4 : c / 64 < 4 := by omega
  have hat := hw.at c
  have hhas := has_div hw c
  have hword : S.word (c / 64) = S.at c := by
    unfold W4.word W4.at
    rcases (show c < 64 ∨ (64 ≤ c ∧ c < 128) ∨ (128 ≤ c ∧ c < 192) ∨ (192 ≤ c ∧ c < 256) by omega) with h | h | h | h
    · rw [if_pos (by omega), if_pos h]
    · rw [if_neg (by omega), if_pos (by omega), if_neg (by omega), if_pos h.2]
    · rw [if_neg (by omega), if_neg (by omega), if_pos (by omega), if_neg (by omega), if_neg (by omega), if_pos h.2]
    · rw [if_neg (by omega), if_neg (by omega), if_neg (by omega), if_neg (by omega), if_neg (by omega), if_neg (by omega)]
  go_enter Tryz.func59, Tryz.ntmps59
  go_upto_region 1 with fail
  generalize hW : w.alloc _ = W0
  have hB0 : Below w.heap.size w W0 := by subst hW; exact (Below.refl _ _).alloc (Nat.le_refl _) _
  have b0 : W0.cell? ⟨w.heap.size, c / 64, none⟩ = some (.int .u64 (S.at c)) := by
    rw [← hword]
    subst hW
    rcases (by omega : c / 64 = 0 ∨ c / 64 = 1 ∨ c / 64 = 2 ∨ c / 64 = 3) with h | h | h | h <;> rw [h] <;> simp [go_sem, W4.word]
  clear hW hword
  generalize S.at c = wd at *
  generalize c / 64 = wi at *
  generalize c % 64 = k at *
  have Hhas := Lib.hid hhas
  clear hhas
  have hp : (0 : Int) < 2 ^ k := Int.pow_pos (by omega)
  have hx0 : 0 ≤ wd / 2 ^ k := Int.ediv_nonneg hat.1 (Int.le_of_lt hp)
  have hx1 : wd / 2 ^ k ≤ wd := Int.ediv_le_self _ hat.1
  have hmod : (wd / 2 ^ k).tmod 2 = wd / 2 ^ k % 2 := Int.tmod_eq_emod_of_nonneg hx0
  clear hp
  go_wp2_with fail
  exact bodyPost_ret (v := .bool (wd / 2 ^ k % 2 == 1)) (by simp [results, Tryz.results59, go_sem]) rfl ⟨by rw [Hhas.out], hB0⟩

abbrev spB : Bs := [92, 94, 46, 91, 36, 40, 41, 124, 42, 43, 63, 123]
theorem spB_get : ∀ k, k < 12 → ∃ c : Nat, c < 256 ∧ ([92, 94, 46, 91, 36, 40, 41, 124, 42, 43, 63, 123] : List Nat)[k]? = some c ∧ ∀ hh, ((bs spB)[k]'hh).toNat = c := by decide +kernel
set_option maxRecDepth 100000 in
set_option maxHeartbeats 2000000 in
theorem tspec_any (w : World) (c : Nat) (hc : c < 256) :
    Calls Tryz.prog 104 #[.int .u8 (c : Int)] w fun en w' => en = .returned (.bool (specB c)) ∧ Below w.heap.size w w' := by
  have hspec : specB c = decide (c ∈ [92, 94, 46, 91, 36, 40, 41, 124, 42, 43, 63, 123]) := rfl
  have Hspec := Lib.hid hspec
  clear hspec
  go_enter Tryz.func104, Tryz.ntmps104
  go_wp2_with fail
  go_loopg [4] 12 (fun n i wr => ∃ (k : Nat), i = .int .i64 k ∧ k + n = 12 ∧ (∀ j, j < k → ([92, 94, 46, 91, 36, 40, 41, 124, 42, 43, 63, 123] : List Nat)[j]? ≠ some c) ∧ w = wr)
  case atStart => exact ⟨0, rfl, rfl, fun j hj => by omega, rfl⟩
  case round =>
    obtain ⟨k, rfl, hk, hno, rfl⟩ := hrel
    have Hk := Lib.hid hk; have Hno := Lib.hid hno
    clear hk hno
    by_cases hlt : k < 12
    · obtain ⟨d, hd, hdk, hget⟩ := spB_get k hlt
      have Hdk := Lib.hid hdk
      clear hdk
      by_cases he : d = c
      · subst he
        have Ht := Lib.hid (show specB d = true by rw [Hspec.out]; exact decide_eq_true (List.mem_of_getElem? Hdk.out))
        go_wp2_with fail
        exact bodyPost_ret (v := .bool true) (by simp [results, Tryz.results104, go_sem]) rfl ⟨by rw [Ht.out], Below.refl _ _⟩
      · have Hne := Lib.hid (show ∀ j, j < k + 1 → ([92, 94, 46, 91, 36, 40, 41, 124, 42, 43, 63, 123] : List Nat)[j]? ≠ some c from fun j hj => by
          by_cases e : j = k
          · subst e; rw [Hdk.out]; simpa using he
          · exact Hno.out j (by omega))
        go_wp2_with fail
        have hk := Hk.out
        go_roundg (gk - 1)
        case measure => omega
        case rel => exact ⟨k + 1, by go_num, by omega, Hne.out, rfl⟩
    · have Ht := Lib.hid (show specB c = false by
        rw [Hspec.out]
        refine decide_eq_false fun h => ?_
        obtain ⟨j, hj⟩ := List.mem_iff_getElem?.1 h
        have hl : j < 12 := (List.getElem?_eq_some_iff.1 hj).1
        exact Hno.out j (by omega) hj)
      have hk' : (12 : Int) ≤ (k : Int) := by omega
      go_wp2_with fail
      exact bodyPost_ret (v := .bool false) (by simp [results, Tryz.results104, go_sem]) rfl ⟨by rw [Ht.out], Below.refl _ _⟩
set_option maxRecDepth 100000 in
set_option maxHeartbeats 2000000 in
theorem tmem_any (w : World) (c : Nat) (hc : c < 256) :
    Calls Tryz.prog 122 #[.int .u8 (c : Int)] w fun en w' => en = .returned (.string (bs (memT c))) ∧ Below w.heap.size w w' := by
  have c1 : bs [91, 46] ++ bs [UInt8.ofNat c] = bs [91, 46, UInt8.ofNat c] := tcat _ _
  have c2 : bs [91, 46, UInt8.ofNat c] ++ bs [46, 93] = bs [91, 46, UInt8.ofNat c, 46, 93] := tcat _ _
  have hB0 : Below w.heap.size w (w.alloc (.cells #[.int .u8 (c : Int)] 5)) := (Below.refl _ _).alloc (Nat.le_refl _) _
  have HB0 := Lib.hid hB0
  have hcv := tconv w _ c hc rfl 1
  have sz1 : (bs [UInt8.ofNat c]).size = 1 := tsize _
  have sz2 : (bs [91, 46, UInt8.ofNat c]).size = 3 := tsize _
  clear hB0
  by_cases hm : c = 93 ∨ c = 91 ∨ c = 94 ∨ c = 45
  · clear hcv
    rcases hm with rfl | rfl | rfl | rfl
    · have hcv : (convert 42 9 (.slice (some ⟨w.heap.size, 0, none⟩) 1 1)).run Tryz.prog (w.alloc (.cells #[.int .u8 93] 5)) = .ok (.string (bs [UInt8.ofNat 93])) (w.alloc (.cells #[.int .u8 93] 5)) := tconv w _ 93 hc rfl 1
      show Calls Tryz.prog 122 #[.int .u8 93] w _
      go_enter Tryz.func122, Tryz.ntmps122
      go_wp2_with fail
      exact bodyPost_ret (v := .string (bs [91, 46, UInt8.ofNat 93, 46, 93])) (by simp [results, Tryz.results122, go_sem]; rfl) rfl ⟨rfl, HB0.out⟩
    · have hcv : (convert 42 9 (.slice (some ⟨w.heap.size, 0, none⟩) 1 1)).run Tryz.prog (w.alloc (.cells #[.int .u8 91] 5)) = .ok (.string (bs [UInt8.ofNat 91])) (w.alloc (.cells #[.int .u8 91] 5)) := tconv w _ 91 hc rfl 1
      show Calls Tryz.prog 122 #[.int .u8 91] w _
      go_enter Tryz.func122, Tryz.ntmps122
      go_wp2_with fail
      exact bodyPost_ret (v := .string (bs [91, 46, UInt8.ofNat 91, 46, 93])) (by simp [results, Tryz.results122, go_sem]; rfl) rfl ⟨rfl, HB0.out⟩
    · have hcv : (convert 42 9 (.slice (some ⟨w.heap.size, 0, none⟩) 1 1)).run Tryz.prog (w.alloc (.cells #[.int .u8 94] 5)) = .ok (.string (bs [UInt8.ofNat 94])) (w.alloc (.cells #[.int .u8 94] 5)) := tconv w _ 94 hc rfl 1
      show Calls Tryz.prog 122 #[.int .u8 94] w _
      go_enter Tryz.func122, Tryz.ntmps122
      go_wp2_with fail
      exact bodyPost_ret (v := .string (bs [91, 46, UInt8.ofNat 94, 46, 93])) (by simp [results, Tryz.results122, go_sem]; rfl) rfl ⟨rfl, HB0.out⟩
    · have hcv : (convert 42 9 (.slice (some ⟨w.heap.size, 0, none⟩) 1 1)).run Tryz.prog (w.alloc (.cells #[.int .u8 45] 5)) = .ok (.string (bs [UInt8.ofNat 45])) (w.alloc (.cells #[.int .u8 45] 5)) := tconv w _ 45 hc rfl 1
      show Calls Tryz.prog 122 #[.int .u8 45] w _
      go_enter Tryz.func122, Tryz.ntmps122
      go_wp2_with fail
      exact bodyPost_ret (v := .string (bs [91, 46, UInt8.ofNat 45, 46, 93])) (by simp [results, Tryz.results122, go_sem]; rfl) rfl ⟨rfl, HB0.out⟩
  · have Hm := Lib.hid (show memT c = [UInt8.ofNat c] by unfold memT; rw [if_neg hm])
    simp only [not_or] at hm
    obtain ⟨h1, h2, h3, h4⟩ := hm
    have hc1 : ((c : Int) == 93) = false := by rw [beq_eq_false_iff_ne]; omega
    have hc2 : ((c : Int) == 91) = false := by rw [beq_eq_false_iff_ne]; omega
    have hc3 : ((c : Int) == 94) = false := by rw [beq_eq_false_iff_ne]; omega
    have hc4 : ((c : Int) == 45) = false := by rw [beq_eq_false_iff_ne]; omega
    clear h1 h2 h3 h4
    go_enter Tryz.func122, Tryz.ntmps122
    go_wp2_with fail
    exact bodyPost_ret (v := .string (bs [UInt8.ofNat c])) (by simp [results, Tryz.results122, go_sem]) rfl ⟨by rw [Hm.out], HB0.out⟩
set_option maxRecDepth 100000 in
set_option maxHeartbeats 2000000 in
theorem tclosed_any (w : World) (x : Bs) (hx : x.length ≤ 1000000) (d : Nat) (hd : d ≤ 1000000) (so : Bool) :
    Calls Tryz.prog 88 #[.string (bs x), .int .i64 (d : Int), .bool so] w fun en w' => en = .returned (.tuple #[.string (bs (parT so x)), .int .i64 ((d + (if so then 1 else 0) : Nat) : Int)]) ∧ Below w.heap.size w w' := by
  have c1 : bs [40] ++ bs x = bs (40 :: x) := tcat [40] x
  have c2 : bs (40 :: x) ++ bs [41] = bs (40 :: (x ++ [41])) := tcat (40 :: x) [41]
  have sz1 : (bs x).size = x.length := tsize _
  have sz2 : (bs (40 :: x)).size = x.length + 1 := tsize _
  have Hb := Lib.hid (Below.refl w.heap.size w)
  cases so with
  | true =>
    have e : parT true x = 40 :: (x ++ [41]) := rfl
    rw [e]
    clear e
    go_enter Tryz.func88, Tryz.ntmps88
    go_wp2_with fail
    exact bodyPost_ret (v := .tuple #[.string (bs (40 :: (x ++ [41]))), .int .i64 ((d : Int) + 1)]) (by simp [results, Tryz.results88, go_sem]) rfl ⟨rfl, Hb.out⟩
  | false =>
    have e : parT false x = x := rfl
    rw [e]
    clear e
    go_enter Tryz.func88, Tryz.ntmps88
    go_wp2_with fail
    exact bodyPost_ret (v := .tuple #[.string (bs x), .int .i64 (d : Int)]) (by simp [results, Tryz.results88, go_sem]) rfl ⟨rfl, Hb.out⟩
end Go.Proofs.YthlakbjnmbddaaaGreatDoor

/- vouchref10.decimal, times: walked. -/
set_option linter.unusedVariables false
set_option linter.unusedSimpArgs false
namespace Go.Proofs.YthlakbjnmbddaaaGreatDoor
open Go.RowKit

theorem decT_step : ∀ k < 256, 10 ≤ k → decT k = decT (k / 10) ++ [UInt8.ofNat (48 + k % 10)] := by decide +kernel
theorem decT_last : ∀ k < 10, decT k = [UInt8.ofNat (48 + k)] := by decide +kernel
theorem tdec_len (n : Nat) : 1 ≤ (decT n).length ∧ (decT n).length ≤ 3 := by unfold decT; split <;> (try simp) <;> split <;> simp
theorem tconv48 (w : World) (d : Nat) (hd : d < 10) : (convert 42 9 (.slice (some ⟨w.heap.size, 0, none⟩) 1 1)).run Tryz.prog (w.alloc (.cells #[.int .u8 (48 + (d : Int))] 5)) = .ok (.string (bs [UInt8.ofNat (48 + d)])) (w.alloc (.cells #[.int .u8 (48 + (d : Int))] 5)) := by
  have := tconv w _ (48 + d) (by omega) rfl 1
  rw [show (((48 + d : Nat)) : Int) = 48 + (d : Int) by omega] at this
  exact this
set_option maxRecDepth 100000 in
set_option maxHeartbeats 4000000 in
theorem tdec_any (w : World) (n : Nat) (hn : n ≤ 255) :
    Calls Tryz.prog 106 #[.int .i64 (n : Int)] w fun en w' => en = .returned (.string (bs (decT n))) ∧ Below w.heap.size w w' := by
  have hlen := (tdec_len n).2
  generalize hD : decT n = D at *
  have HD := Lib.hid hD
  clear hD
  go_enter Tryz.func106, Tryz.ntmps106
  go_wp2_with fail
  go_loopg [0, 3] n (fun m a b wr => ∃ (k : Nat) (x : Bs), a = .int .i64 k ∧ b = .string (bs x) ∧ k ≤ m ∧ k ≤ 255 ∧ decT k ++ x = D ∧ Below w.heap.size w wr)
  case atStart => exact ⟨n, [], rfl, rfl, Nat.le_refl _, hn, by rw [List.append_nil]; exact HD.out, Below.refl _ _⟩
  case round =>
    clear hn HD
    obtain ⟨k, x, rfl, rfl, hk, hk2, hx, hB⟩ := hrel
    have HB := Lib.hid hB; have Hk := Lib.hid hk
    have hxl : x.length ≤ 3 := by rw [← hx, List.length_append] at hlen; omega
    have Hx := Lib.hid hx
    have sz1 : (bs x).size = x.length := tsize _
    clear hB hk hx hlen
    by_cases hlt : 10 ≤ k
    · have hq : (k : Int).tdiv 10 = ((k / 10 : Nat) : Int) := by rw [Int.tdiv_eq_ediv_of_nonneg (by omega)]; omega
      have hr : (k : Int).tmod 10 = ((k % 10 : Nat) : Int) := by rw [Int.tmod_eq_emod_of_nonneg (by omega)]; omega
      have hd : k % 10 < 10 := by omega
      have hst := decT_step k (by omega) hlt
      have hqk : k / 10 ≤ gk - 1 := by have := Hk.out; omega
      have hq2 : k / 10 ≤ 255 := by omega
      have Hst := Lib.hid hst; have Hqk := Lib.hid hqk; have Hg := Lib.hid (show 0 < gk by have := Hk.out; omega)
      clear hst hqk Hk
      generalize k / 10 = q at *
      generalize k % 10 = d at *
      have hcv := tconv48 wr d hd
      have hst := Hst.out
      clear Hst
      generalize UInt8.ofNat (48 + d) = b at *
      have Hst := Lib.hid hst
      clear hst
      have sz2 : (bs [b]).size = 1 := tsize _
      have c1 : bs [b] ++ bs x = bs (b :: x) := tcat _ _
      go_wp2_with fail
      have hg := Hg.out
      go_roundg (gk - 1)
      case measure => omega
      case rel => exact ⟨q, b :: x, by first | rfl | go_num, rfl, Hqk.out, hq2, by rw [← Hx.out, Hst.out, List.append_assoc]; rfl, HB.out.trans ((Below.refl _ _).alloc HB.out.size _)⟩
    · have hst := decT_last k (by omega)
      have hcv := tconv48 wr k (by omega)
      generalize UInt8.ofNat (48 + k) = b at *
      have sz2 : (bs [b]).size = 1 := tsize _
      have c1 : bs [b] ++ bs x = bs (b :: x) := tcat _ _
      have Hst := Lib.hid hst
      have hle : (k : Int) ≤ 9 := by omega
      clear hst Hk
      go_wp2_with fail
      exact bodyPost_ret (v := .string (bs (b :: x))) (by simp [results, Tryz.results106, go_sem]) rfl ⟨by rw [← Hx.out, Hst.out]; rfl, HB.out.trans ((Below.refl _ _).alloc HB.out.size _)⟩
theorem tdec_int (w : World) (n : Int) (h0 : 0 ≤ n) (h1 : n ≤ 255) :
    Calls Tryz.prog 106 #[.int .i64 n] w fun en w' => en = .returned (.string (bs (decT n.toNat))) ∧ Below w.heap.size w w' := by
  have := tdec_any w n.toNat (by omega)
  rw [show ((n.toNat : Nat) : Int) = n by omega] at this
  exact this
set_option maxRecDepth 100000 in
set_option maxHeartbeats 8000000 in
theorem ttimes_any (w : World) (m n : Int) (hm0 : 0 ≤ m) (hm1 : m ≤ 255) (hn0 : -1 ≤ n) (hn1 : n ≤ 255) :
    Calls Tryz.prog 89 #[.int .i64 m, .int .i64 n] w fun en w' => en = .returned (.string (bs (timesT m n))) ∧ Below w.heap.size w w' := by
  have Cm := Lib.hid (fun w => tdec_int w m hm0 hm1)
  have Cn := Lib.hid (fun (h : 0 ≤ n) w => tdec_int w n h hn1)
  have lm := (tdec_len m.toNat).2
  have ln := (tdec_len n.toNat).2
  have hT : timesT m n = if m = 0 ∧ n = -1 then [42] else if m = 1 ∧ n = -1 then [43] else if m = 0 ∧ n = 1 then [63]
    else if m = n then [123] ++ (decT m.toNat ++ [125]) else if n = -1 then [123] ++ (decT m.toNat ++ [44, 125]) else [123] ++ (decT m.toNat ++ ([44] ++ (decT n.toNat ++ [125]))) := rfl
  have HT := Lib.hid hT
  clear hT
  generalize timesT m n = X at *
  generalize decT m.toNat = M at *
  generalize decT n.toNat = N at *
  have sM : (bs M).size = M.length := tsize _
  have sN : (bs N).size = N.length := tsize _
  have c1 : bs [123] ++ bs M = bs (123 :: M) := tcat _ _
  have s1 : (bs (123 :: M)).size = M.length + 1 := tsize _
  have c2 : bs (123 :: M) ++ bs [44] = bs (123 :: (M ++ [44])) := tcat _ _
  have s2 : (bs (123 :: (M ++ [44]))).size = M.length + 2 := by rw [tsize]; simp
  have c3 : bs (123 :: (M ++ [44])) ++ bs N = bs (123 :: (M ++ 44 :: N)) := (tcat _ _).trans (by simp)
  have s3 : (bs (123 :: (M ++ 44 :: N))).size = M.length + N.length + 2 := by rw [tsize]; simp; omega
  have c4 : bs (123 :: (M ++ 44 :: N)) ++ bs [125] = bs (123 :: (M ++ 44 :: (N ++ [125]))) := (tcat _ _).trans (by simp)
  have c5 : bs (123 :: M) ++ bs [125] = bs (123 :: (M ++ [125])) := tcat _ _
  have c6 : bs (123 :: M) ++ bs [44, 125] = bs (123 :: (M ++ [44, 125])) := tcat _ _
  have Hb := Lib.hid (Below.refl w.heap.size w)
  by_cases hn : n = -1
  · subst hn
    by_cases h0 : m = 0
    · subst h0
      have hX := Lib.hid (show X = [42] from by rw [HT.out, if_pos (by omega)] <;> rfl)
      clear HT
      go_enter Tryz.func89, Tryz.ntmps89
      go_wp2_with fail
      exact bodyPost_ret (v := .string (bs ([42]))) (by simp [results, Tryz.results89, go_sem] <;> rfl) rfl ⟨by rw [hX.out], Hb.out⟩
    by_cases h1 : m = 1
    · subst h1
      have hX := Lib.hid (show X = [43] from by rw [HT.out, if_neg (by omega), if_pos (by omega)] <;> rfl)
      clear HT
      go_enter Tryz.func89, Tryz.ntmps89
      go_wp2_with fail
      exact bodyPost_ret (v := .string (bs ([43]))) (by simp [results, Tryz.results89, go_sem] <;> rfl) rfl ⟨by rw [hX.out], Hb.out⟩
    have hX := Lib.hid (show X = 123 :: (M ++ [44, 125]) from by rw [HT.out, if_neg (by omega), if_neg (by omega), if_neg (by omega), if_neg (by omega), if_pos (by omega)] <;> rfl)
    clear HT
    go_enter Tryz.func89, Tryz.ntmps89
    go_wp2_with fail
    refine (Cm.out w).mono ?_
    rintro e w1 ⟨rfl, hb1⟩
    have Hb1 := Lib.hid (Hb.out.trans (hb1.mono Hb.out.size))
    clear hb1
    go_wp2_with fail
    exact bodyPost_ret (v := .string (bs (123 :: (M ++ [44, 125])))) (by simp [results, Tryz.results89, go_sem] <;> rfl) rfl ⟨by rw [hX.out], Hb1.out⟩
  have hn2 : 0 ≤ n := by omega
  by_cases h0 : m = 0
  · subst h0
    by_cases h1 : n = 1
    · subst h1
      have hX := Lib.hid (show X = [63] from by rw [HT.out, if_neg (by omega), if_neg (by omega), if_pos (by omega)] <;> rfl)
      clear HT
      go_enter Tryz.func89, Tryz.ntmps89
      go_wp2_with fail
      exact bodyPost_ret (v := .string (bs ([63]))) (by simp [results, Tryz.results89, go_sem] <;> rfl) rfl ⟨by rw [hX.out], Hb.out⟩
    by_cases h2 : n = 0
    · subst h2
      have hX := Lib.hid (show X = 123 :: (M ++ [125]) from by rw [HT.out, if_neg (by omega), if_neg (by omega), if_neg (by omega), if_pos (by omega)] <;> rfl)
      clear HT
      go_enter Tryz.func89, Tryz.ntmps89
      go_wp2_with fail
      refine (Cm.out w).mono ?_
      rintro e w1 ⟨rfl, hb1⟩
      have Hb1 := Lib.hid (Hb.out.trans (hb1.mono Hb.out.size))
      clear hb1
      go_wp2_with fail
      exact bodyPost_ret (v := .string (bs (123 :: (M ++ [125])))) (by simp [results, Tryz.results89, go_sem] <;> rfl) rfl ⟨by rw [hX.out], Hb1.out⟩
    have hX := Lib.hid (show X = 123 :: (M ++ 44 :: (N ++ [125])) from by rw [HT.out, if_neg (by omega), if_neg (by omega), if_neg (by omega), if_neg (by omega), if_neg (by omega)] <;> rfl)
    clear HT
    go_enter Tryz.func89, Tryz.ntmps89
    go_wp2_with fail
    refine (Cm.out w).mono ?_
    rintro e w1 ⟨rfl, hb1⟩
    have Hb1 := Lib.hid (Hb.out.trans (hb1.mono Hb.out.size))
    clear hb1
    go_wp2_with fail
    refine (Cn.out (by omega) w1).mono ?_
    rintro e w2 ⟨rfl, hb2⟩
    have Hb2 := Lib.hid (Hb1.out.trans (hb2.mono Hb1.out.size))
    clear hb2
    go_wp2_with fail
    exact bodyPost_ret (v := .string (bs (123 :: (M ++ 44 :: (N ++ [125]))))) (by simp [results, Tryz.results89, go_sem] <;> rfl) rfl ⟨by rw [hX.out], Hb2.out⟩
  by_cases h1 : m = 1
  · subst h1
    by_cases h2 : n = 1
    · subst h2
      have hX := Lib.hid (show X = 123 :: (M ++ [125]) from by rw [HT.out, if_neg (by omega), if_neg (by omega), if_neg (by omega), if_pos (by omega)] <;> rfl)
      clear HT
      go_enter Tryz.func89, Tryz.ntmps89
      go_wp2_with fail
      refine (Cm.out w).mono ?_
      rintro e w1 ⟨rfl, hb1⟩
      have Hb1 := Lib.hid (Hb.out.trans (hb1.mono Hb.out.size))
      clear hb1
      go_wp2_with fail
      exact bodyPost_ret (v := .string (bs (123 :: (M ++ [125])))) (by simp [results, Tryz.results89, go_sem] <;> rfl) rfl ⟨by rw [hX.out], Hb1.out⟩
    have hX := Lib.hid (show X = 123 :: (M ++ 44 :: (N ++ [125])) from by rw [HT.out, if_neg (by omega), if_neg (by omega), if_neg (by omega), if_neg (by omega), if_neg (by omega)] <;> rfl)
    clear HT
    go_enter Tryz.func89, Tryz.ntmps89
    go_wp2_with fail
    refine (Cm.out w).mono ?_
    rintro e w1 ⟨rfl, hb1⟩
    have Hb1 := Lib.hid (Hb.out.trans (hb1.mono Hb.out.size))
    clear hb1
    go_wp2_with fail
    refine (Cn.out (by omega) w1).mono ?_
    rintro e w2 ⟨rfl, hb2⟩
    have Hb2 := Lib.hid (Hb1.out.trans (hb2.mono Hb1.out.size))
    clear hb2
    go_wp2_with fail
    exact bodyPost_ret (v := .string (bs (123 :: (M ++ 44 :: (N ++ [125]))))) (by simp [results, Tryz.results89, go_sem] <;> rfl) rfl ⟨by rw [hX.out], Hb2.out⟩
  by_cases h2 : m = n
  · subst h2
    have hX := Lib.hid (show X = 123 :: (M ++ [125]) from by rw [HT.out, if_neg (by omega), if_neg (by omega), if_neg (by omega), if_pos rfl] <;> rfl)
    clear HT
    go_enter Tryz.func89, Tryz.ntmps89
    go_wp2_with fail
    refine (Cm.out w).mono ?_
    rintro e w1 ⟨rfl, hb1⟩
    have Hb1 := Lib.hid (Hb.out.trans (hb1.mono Hb.out.size))
    clear hb1
    go_wp2_with fail
    exact bodyPost_ret (v := .string (bs (123 :: (M ++ [125])))) (by simp [results, Tryz.results89, go_sem] <;> rfl) rfl ⟨by rw [hX.out], Hb1.out⟩
  · have hX := Lib.hid (show X = 123 :: (M ++ 44 :: (N ++ [125])) from by rw [HT.out, if_neg (by omega), if_neg (by omega), if_neg (by omega), if_neg h2, if_neg (by omega)] <;> rfl)
    clear HT
    go_enter Tryz.func89, Tryz.ntmps89
    go_wp2_with fail
    refine (Cm.out w).mono ?_
    rintro e w1 ⟨rfl, hb1⟩
    have Hb1 := Lib.hid (Hb.out.trans (hb1.mono Hb.out.size))
    clear hb1
    go_wp2_with fail
    refine (Cn.out (by omega) w1).mono ?_
    rintro e w2 ⟨rfl, hb2⟩
    have Hb2 := Lib.hid (Hb1.out.trans (hb2.mono Hb1.out.size))
    clear hb2
    go_wp2_with fail
    exact bodyPost_ret (v := .string (bs (123 :: (M ++ 44 :: (N ++ [125]))))) (by simp [results, Tryz.results89, go_sem] <;> rfl) rfl ⟨by rw [hX.out], Hb2.out⟩
end Go.Proofs.YthlakbjnmbddaaaGreatDoor

/- vouchref10.runs, set: walked. -/
set_option linter.unusedVariables false
set_option linter.unusedSimpArgs false
namespace Go.Proofs.YthlakbjnmbddaaaGreatDoor
open Go.RowKit

/-- A set in a box. -/
structure TBox (w : World) (p : Nat) (S : W4) : Prop where
  c0 : w.cell? ⟨p, 0, none⟩ = some (.int .u64 S.a)
  c1 : w.cell? ⟨p, 1, none⟩ = some (.int .u64 S.b)
  c2 : w.cell? ⟨p, 2, none⟩ = some (.int .u64 S.c)
  c3 : w.cell? ⟨p, 3, none⟩ = some (.int .u64 S.d)
theorem TBox.lt {w : World} {p : Nat} {S : W4} (h : TBox w p S) : p < w.heap.size := World.block_lt_of_cell? w ⟨p, 0, none⟩ h.c0
theorem TBox.later {w w' : World} {p : Nat} {S : W4} (h : TBox w p S) (hb : Below w.heap.size w w') : TBox w' p S :=
  ⟨(hb.cell (p := ⟨p, 0, none⟩) h.lt).trans h.c0, (hb.cell (p := ⟨p, 1, none⟩) h.lt).trans h.c1, (hb.cell (p := ⟨p, 2, none⟩) h.lt).trans h.c2, (hb.cell (p := ⟨p, 3, none⟩) h.lt).trans h.c3⟩
theorem wrap8_lt {c : Nat} (h : c < 256) : (c : Int) % 256 = c := by omega
theorem memT_le (c : Nat) : (memT c).length ≤ 5 := by unfold memT; split <;> simp

set_option maxRecDepth 100000 in
set_option maxHeartbeats 8000000 in
theorem truns_any (w : World) (S : W4) (hS : Wok S) :
    Calls Tryz.prog 105 #[S.V] w fun en w' => en = .returned (.string (bs (runT S 0))) ∧ Below w.heap.size w w' := by
  have Hhas := Lib.hid (fun c hc w => thas_any w S hS c hc)
  have hlen := runT_len S 0
  obtain ⟨D, hD⟩ : ∃ D, runT S 0 = D := ⟨_, rfl⟩
  rw [hD] at hlen ⊢
  have HD2 := Lib.hid hD
  clear hS hD
  go_enter Tryz.func105, Tryz.ntmps105
  go_wp2_with fail
  generalize hW : w.alloc _ = W0
  have hB0 : Below w.heap.size w W0 := by subst hW; exact (Below.refl _ _).alloc (Nat.le_refl _) _
  have hT0 : TBox W0 w.heap.size S := by subst hW; constructor <;> simp [go_sem]
  clear hW
  go_loopg [3, 4] 256 (fun m b a wr => ∃ (k : Nat) (x : Bs), a = .int .i64 k ∧ b = .string (bs x) ∧ 256 ≤ k + m ∧ k ≤ 256 ∧ x ++ runT S k = D ∧ Below w.heap.size w wr ∧ TBox wr w.heap.size S)
  case atStart => exact ⟨0, [], rfl, rfl, by omega, by omega, HD2.out, hB0, hT0⟩
  case round =>
    clear HD2 hB0 hT0
    obtain ⟨k, x, rfl, rfl, hk, hk2, hx, hB, hT⟩ := hrel
    have HB := Lib.hid hB; have HT := Lib.hid hT; have Hk := Lib.hid hk
    have hxl : x.length ≤ 272 := by rw [← hx, List.length_append] at hlen; omega
    have Hx := Lib.hid hx; have Hlen := Lib.hid hlen
    have sz1 : (bs x).size = x.length := tsize _
    clear hB hk hx hT hlen
    by_cases hlt : k < 256
    · have hw8 := wrap8_lt hlt
      obtain ⟨f0, f1, f2, f3⟩ := HT.out
      cases hh : S.has k with
      | false =>
        have Hh := Lib.hid hh
        have Hst := Lib.hid (runT_skip hlt hh)
        clear hh
        go_wp2_with fail
        refine (Hhas.out k hlt wr).mono ?_
        rintro e w1 ⟨rfl, hb1⟩
        rw [Hh.out]
        have HB1 := Lib.hid (HB.out.trans (hb1.mono HB.out.size)); have HT1 := Lib.hid (HT.out.later hb1)
        clear hb1 f0 f1 f2 f3
        go_wp2_with fail
        have hk := Hk.out
        go_roundg (gk - 1)
        case measure => omega
        case rel => exact ⟨k + 1, x, by go_num, rfl, by omega, by omega, by rw [← Hst.out]; exact Hx.out, HB1.out, HT1.out⟩
      | true =>
        have Hh := Lib.hid hh
        clear hh
        go_wp2_with fail
        refine (Hhas.out k hlt wr).mono ?_
        rintro e w1 ⟨rfl, hb1⟩
        rw [Hh.out]
        have HB1 := Lib.hid (HB.out.trans (hb1.mono HB.out.size)); have HT1 := Lib.hid (HT.out.later hb1)
        clear hb1 f0 f1 f2 f3 HB HT
        go_wp2_with fail
        obtain ⟨G, hG⟩ : ∃ G, G = gk := ⟨_, rfl⟩
        subst hG
        go_loopg [4] 256 (fun m a wr => ∃ (c : Nat), a = .int .i64 c ∧ 256 ≤ c + m ∧ Inn S k c ∧ Below w.heap.size w wr ∧ TBox wr w.heap.size S)
        case atStart => exact ⟨k, rfl, by omega, Inn.start S hlt, HB1.out, HT1.out⟩
        case round =>
          clear HB1 HT1
          obtain ⟨c, rfl, hc, hI, hB, hT⟩ := hrel
          have HB := Lib.hid hB; have HT := Lib.hid hT; have Hc := Lib.hid hc; have HI := Lib.hid hI
          have hc256 := hI.lt; have hkc := hI.le
          have leave : ∀ wr', ¬ c < 255 ∨ S.has (c + 1) = false → Below w.heap.size w wr' → TBox wr' w.heap.size S → True := fun _ _ _ _ => trivial
          clear hB hT hc hI leave
          by_cases h255 : c < 255
          · have hw1 : ((c : Int) + 1) % 256 = (c : Int) + 1 := by omega
            have hcall := Hhas.out (c + 1) (by omega)
            rw [show ((c + 1 : Nat) : Int) = (c : Int) + 1 by omega] at hcall
            have Hcall := Lib.hid hcall
            clear hcall
            obtain ⟨f0, f1, f2, f3⟩ := HT.out
            cases hh1 : S.has (c + 1) with
            | true =>
              have Hh1 := Lib.hid hh1
              clear hh1
              go_wp2_with fail
              refine (Hcall.out wr).mono ?_
              rintro e w2 ⟨rfl, hb2⟩
              rw [Hh1.out]
              have HB2 := Lib.hid (HB.out.trans (hb2.mono HB.out.size)); have HT2 := Lib.hid (HT.out.later hb2)
              clear hb2 f0 f1 f2 f3
              go_wp2_with fail
              have hc := Hc.out
              go_roundg (gk - 1)
              case measure => omega
              case rel => exact ⟨c + 1, by go_num, by omega, HI.out.step h255 Hh1.out, HB2.out, HT2.out⟩
            | false =>
              have Hh1 := Lib.hid hh1
              clear hh1
              go_wp2_with fail
              refine (Hcall.out wr).mono ?_
              rintro e w2 ⟨rfl, hb2⟩
              rw [Hh1.out]
              have HB2 := Lib.hid (HB.out.trans (hb2.mono HB.out.size)); have HT2 := Lib.hid (HT.out.later hb2)
              have Htx := Lib.hid (HI.out.text Hh.out (.inr Hh1.out))
              clear hb2 f0 f1 f2 f3 HB HT
              have hx := Hx.out
              have Hw9 := Lib.hid (wrap8_lt hc256)
              have hlenD := Hlen.out
              have htx := Htx.out
              have hc := Hc.out; have hk := Hk.out
              have hml := memT_le k
              have hml2 := memT_le c
              have hw9 := wrap8_lt hc256
              have c1 : bs x ++ bs (memT k) = bs (x ++ memT k) := tcat _ _
              have sz2 : (bs (memT k)).size = (memT k).length := tsize _
              have sz3 : (bs (memT c)).size = (memT c).length := tsize _
              have sz4 : (bs (x ++ memT k)).size = x.length + (memT k).length := by rw [tsize, List.length_append]
              have c2 : bs (x ++ memT k) ++ bs [45] = bs (x ++ (memT k ++ [45])) := (tcat _ _).trans (by rw [List.append_assoc])
              have sz5 : (bs (x ++ (memT k ++ [45]))).size = x.length + (memT k).length + 1 := by rw [tsize]; simp only [List.length_append, List.length_cons, List.length_nil]; omega
              rcases (show (c = k) ∨ (c = k + 1) ∨ (k + 1 < c) by omega) with e | e | e
              · rw [if_neg (by omega), if_neg (by omega), List.nil_append, List.nil_append] at htx
                have hxx : (x ++ memT k) ++ runT S (c + 1) = D := by rw [← hx, htx, List.append_assoc]
                have Hxx := Lib.hid hxx
                have hle : (c : Int) ≤ (k : Int) := by omega
                have hle2 : c ≤ k := by omega
                clear hx htx hc hk hlenD hxx e c2 sz5
                go_wp2_with fail
                refine (tmem_any w2 k hlt).mono ?_
                rintro e w3 ⟨rfl, hb3⟩
                have HB3 := Lib.hid (HB2.out.trans (hb3.mono HB2.out.size)); have HT3 := Lib.hid (HT2.out.later hb3)
                clear hb3
                go_wp2_with fail
                have hc := Hc.out; have hk := Hk.out
                go_roundg (G - 1)
                case measure => omega
                case rel => exact ⟨c + 1, _, by go_num, rfl, by omega, by omega, Hxx.out, HB3.out, HT3.out⟩
              · rw [if_neg (by omega), if_pos (by omega), List.nil_append] at htx
                have hxx : (x ++ memT k ++ memT c) ++ runT S (c + 1) = D := by rw [← hx, htx]; simp only [List.append_assoc]
                have Hxx := Lib.hid hxx
                have hle : (c : Int) ≤ (k : Int) + 1 := by omega
                have hlt2 : (k : Int) < (c : Int) := by omega
                have hlt3 : k < c := by omega
                have c3 : bs (x ++ memT k) ++ bs (memT c) = bs (x ++ (memT k ++ memT c)) := (tcat _ _).trans (by rw [List.append_assoc])
                clear hx htx hc hk hlenD hxx e c2 sz5
                go_wp2_with fail
                refine (tmem_any w2 k hlt).mono ?_
                rintro e w3 ⟨rfl, hb3⟩
                have HB3 := Lib.hid (HB2.out.trans (hb3.mono HB2.out.size)); have HT3 := Lib.hid (HT2.out.later hb3)
                clear hb3
                go_wp2_with fail
                refine (tmem_any w3 c hc256).mono ?_
                rintro e w4 ⟨rfl, hb4⟩
                have HB4 := Lib.hid (HB3.out.trans (hb4.mono HB3.out.size)); have HT4 := Lib.hid (HT3.out.later hb4)
                clear hb4
                go_wp2_with fail
                have hc := Hc.out; have hk := Hk.out
                go_roundg (G - 1)
                case measure => omega
                case rel => exact ⟨c + 1, _, by go_num, rfl, by omega, by omega, by have := Hxx.out; simpa only [List.append_assoc, List.cons_append, List.nil_append] using this, HB4.out, HT4.out⟩
              · rw [if_pos (by omega), if_pos (by omega)] at htx
                have hxx : (x ++ memT k ++ [45] ++ memT c) ++ runT S (c + 1) = D := by rw [← hx, htx]; simp only [List.append_assoc]
                have Hxx := Lib.hid hxx
                have hlt2 : (k : Int) + 1 < (c : Int) := by omega
                have hlt4 : (k : Int) < (c : Int) := by omega
                have hlt3 : k < c := by omega
                have c3 : bs (x ++ (memT k ++ [45])) ++ bs (memT c) = bs (x ++ (memT k ++ 45 :: memT c)) := (tcat _ _).trans (by simp only [List.append_assoc, List.cons_append, List.nil_append])
                clear hx htx hc hk hlenD hxx e
                go_wp2_with fail
                refine (tmem_any w2 k hlt).mono ?_
                rintro e w3 ⟨rfl, hb3⟩
                have HB3 := Lib.hid (HB2.out.trans (hb3.mono HB2.out.size)); have HT3 := Lib.hid (HT2.out.later hb3)
                clear hb3
                go_wp2_with fail
                refine (tmem_any w3 c hc256).mono ?_
                rintro e w4 ⟨rfl, hb4⟩
                have HB4 := Lib.hid (HB3.out.trans (hb4.mono HB3.out.size)); have HT4 := Lib.hid (HT3.out.later hb4)
                clear hb4
                go_wp2_with fail
                have hc := Hc.out; have hk := Hk.out
                go_roundg (G - 1)
                case measure => omega
                case rel => exact ⟨c + 1, _, by go_num, rfl, by omega, by omega, by have := Hxx.out; simpa only [List.append_assoc, List.cons_append, List.nil_append] using this, HB4.out, HT4.out⟩
          · have Htx := Lib.hid (HI.out.text Hh.out (.inl h255))
            have HB2 := HB; have HT2 := HT
            obtain ⟨w2, hw2⟩ : ∃ w2, w2 = wr := ⟨_, rfl⟩
            subst hw2
            clear HB HT
            have hx := Hx.out
            have Hw9 := Lib.hid (wrap8_lt hc256)
            have hlenD := Hlen.out
            have htx := Htx.out
            have hc := Hc.out; have hk := Hk.out
            have hml := memT_le k
            have hml2 := memT_le c
            have hw9 := wrap8_lt hc256
            have c1 : bs x ++ bs (memT k) = bs (x ++ memT k) := tcat _ _
            have sz2 : (bs (memT k)).size = (memT k).length := tsize _
            have sz3 : (bs (memT c)).size = (memT c).length := tsize _
            have sz4 : (bs (x ++ memT k)).size = x.length + (memT k).length := by rw [tsize, List.length_append]
            have c2 : bs (x ++ memT k) ++ bs [45] = bs (x ++ (memT k ++ [45])) := (tcat _ _).trans (by rw [List.append_assoc])
            have sz5 : (bs (x ++ (memT k ++ [45]))).size = x.length + (memT k).length + 1 := by rw [tsize]; simp only [List.length_append, List.length_cons, List.length_nil]; omega
            rcases (show (c = k) ∨ (c = k + 1) ∨ (k + 1 < c) by omega) with e | e | e
            · rw [if_neg (by omega), if_neg (by omega), List.nil_append, List.nil_append] at htx
              have hxx : (x ++ memT k) ++ runT S (c + 1) = D := by rw [← hx, htx, List.append_assoc]
              have Hxx := Lib.hid hxx
              have hle : (c : Int) ≤ (k : Int) := by omega
              have hle2 : c ≤ k := by omega
              clear hx htx hc hk hlenD hxx e c2 sz5
              go_wp2_with fail
              refine (tmem_any w2 k hlt).mono ?_
              rintro e w3 ⟨rfl, hb3⟩
              have HB3 := Lib.hid (HB2.out.trans (hb3.mono HB2.out.size)); have HT3 := Lib.hid (HT2.out.later hb3)
              clear hb3
              go_wp2_with fail
              have hc := Hc.out; have hk := Hk.out
              go_roundg (G - 1)
              case measure => omega
              case rel => exact ⟨c + 1, _, by go_num, rfl, by omega, by omega, Hxx.out, HB3.out, HT3.out⟩
            · rw [if_neg (by omega), if_pos (by omega), List.nil_append] at htx
              have hxx : (x ++ memT k ++ memT c) ++ runT S (c + 1) = D := by rw [← hx, htx]; simp only [List.append_assoc]
              have Hxx := Lib.hid hxx
              have hle : (c : Int) ≤ (k : Int) + 1 := by omega
              have hlt2 : (k : Int) < (c : Int) := by omega
              have hlt3 : k < c := by omega
              have c3 : bs (x ++ memT k) ++ bs (memT c) = bs (x ++ (memT k ++ memT c)) := (tcat _ _).trans (by rw [List.append_assoc])
              clear hx htx hc hk hlenD hxx e c2 sz5
              go_wp2_with fail
              refine (tmem_any w2 k hlt).mono ?_
              rintro e w3 ⟨rfl, hb3⟩
              have HB3 := Lib.hid (HB2.out.trans (hb3.mono HB2.out.size)); have HT3 := Lib.hid (HT2.out.later hb3)
              clear hb3
              go_wp2_with fail
              refine (tmem_any w3 c hc256).mono ?_
              rintro e w4 ⟨rfl, hb4⟩
              have HB4 := Lib.hid (HB3.out.trans (hb4.mono HB3.out.size)); have HT4 := Lib.hid (HT3.out.later hb4)
              clear hb4
              go_wp2_with fail
              have hc := Hc.out; have hk := Hk.out
              go_roundg (G - 1)
              case measure => omega
              case rel => exact ⟨c + 1, _, by go_num, rfl, by omega, by omega, by have := Hxx.out; simpa only [List.append_assoc, List.cons_append, List.nil_append] using this, HB4.out, HT4.out⟩
            · rw [if_pos (by omega), if_pos (by omega)] at htx
              have hxx : (x ++ memT k ++ [45] ++ memT c) ++ runT S (c + 1) = D := by rw [← hx, htx]; simp only [List.append_assoc]
              have Hxx := Lib.hid hxx
              have hlt2 : (k : Int) + 1 < (c : Int) := by omega
              have hlt4 : (k : Int) < (c : Int) := by omega
              have hlt3 : k < c := by omega
              have c3 : bs (x ++ (memT k ++ [45])) ++ bs (memT c) = bs (x ++ (memT k ++ 45 :: memT c)) := (tcat _ _).trans (by simp only [List.append_assoc, List.cons_append, List.nil_append])
              clear hx htx hc hk hlenD hxx e
              go_wp2_with fail
              refine (tmem_any w2 k hlt).mono ?_
              rintro e w3 ⟨rfl, hb3⟩
              have HB3 := Lib.hid (HB2.out.trans (hb3.mono HB2.out.size)); have HT3 := Lib.hid (HT2.out.later hb3)
              clear hb3
              go_wp2_with fail
              refine (tmem_any w3 c hc256).mono ?_
              rintro e w4 ⟨rfl, hb4⟩
              have HB4 := Lib.hid (HB3.out.trans (hb4.mono HB3.out.size)); have HT4 := Lib.hid (HT3.out.later hb4)
              clear hb4
              go_wp2_with fail
              have hc := Hc.out; have hk := Hk.out
              go_roundg (G - 1)
              case measure => omega
              case rel => exact ⟨c + 1, _, by go_num, rfl, by omega, by omega, by have := Hxx.out; simpa only [List.append_assoc, List.cons_append, List.nil_append] using this, HB4.out, HT4.out⟩
    · obtain rfl : k = 256 := by omega
      have hx := Hx.out
      rw [runT_end, List.append_nil] at hx
      subst hx
      go_wp2_with fail
      exact bodyPost_ret (v := .string (bs x)) (by simp [results, Tryz.results105, go_sem]) rfl ⟨rfl, HB.out⟩

set_option maxRecDepth 100000 in
set_option maxHeartbeats 8000000 in
theorem tset_any (w : World) (S : W4) (hS : Wok S) :
    Calls Tryz.prog 87 #[S.V] w fun en w' => en = .returned (.string (bs (setT S))) ∧ Below w.heap.size w w' := by
  have Hhas := Lib.hid (fun c hc w => thas_any w S hS c hc)
  have Hruns := Lib.hid (fun w => truns_any w S hS)
  have hrl := runT_len S 0
  have hra := runT_all S
  have hlt := bytesW_lt S
  have Hlt := Lib.hid hlt; have Hra := Lib.hid hra
  have hset : setT S = if (bytesW S).length = 256 then [46]
      else if (bytesW S).length = 0 then [91, 94, 0, 45, 255, 93]
      else if (bytesW S).length = 1 then (if specB ((bytesW S).headD 0) then [92, UInt8.ofNat ((bytesW S).headD 0)] else [UInt8.ofNat ((bytesW S).headD 0)])
      else [91] ++ (runsT (bytesW S).length (bytesW S) ++ [93]) := rfl
  obtain ⟨X, hX⟩ : ∃ X, setT S = X := ⟨_, rfl⟩
  rw [hX] at hset ⊢
  have Hset := Lib.hid hset
  have hall := takS_all S
  have Hall := Lib.hid hall
  clear hS hlt hra hset hall hX
  go_enter Tryz.func87, Tryz.ntmps87
  go_wp2_with fail
  generalize hW : w.alloc _ = W0
  have hB0 : Below w.heap.size w W0 := by subst hW; exact (Below.refl _ _).alloc (Nat.le_refl _) _
  have hT0 : TBox W0 w.heap.size S := by subst hW; constructor <;> simp [go_sem]
  clear hW
  go_loopg [3, 4, 5] 256 (fun m a b i wr => ∃ (k n l : Nat), i = .int .i64 k ∧ a = .int .i64 n ∧ b = .int .u8 l ∧ 256 ≤ k + m ∧ k ≤ 256 ∧ n = (takS S k).length ∧ l = (takS S k).getLastD 0 ∧ l < 256 ∧ n ≤ 256 ∧ Below w.heap.size w wr ∧ TBox wr w.heap.size S)
  case atStart => exact ⟨0, 0, 0, rfl, rfl, rfl, by omega, by omega, rfl, rfl, by omega, by omega, hB0, hT0⟩
  case round =>
    clear hB0 hT0
    obtain ⟨k, n, l, rfl, rfl, rfl, hk, hk2, hn, hl, hl2, hn2, hB, hT⟩ := hrel
    have HB := Lib.hid hB; have HT := Lib.hid hT; have Hk := Lib.hid hk; have Hn := Lib.hid hn; have Hl := Lib.hid hl
    clear hB hT hk hn hl
    by_cases hlt : k < 256
    · have hw8 := wrap8_lt hlt
      have hst := takS_step S k
      have hle := takS_le S k
      have Hst := Lib.hid hst; have Hle := Lib.hid hle
      clear hst hle
      obtain ⟨f0, f1, f2, f3⟩ := HT.out
      cases hh : S.has k with
      | false =>
        have Hh := Lib.hid hh
        clear hh
        go_wp2_with fail
        refine (Hhas.out k hlt wr).mono ?_
        rintro e w1 ⟨rfl, hb1⟩
        rw [Hh.out]
        have HB1 := Lib.hid (HB.out.trans (hb1.mono HB.out.size)); have HT1 := Lib.hid (HT.out.later hb1)
        clear hb1 f0 f1 f2 f3
        go_wp2_with fail
        have hk := Hk.out
        have e : takS S (k + 1) = takS S k := by rw [Hst.out, Hh.out, if_neg (by decide), List.append_nil]
        have He := Lib.hid e
        clear e
        go_roundg (gk - 1)
        case measure => omega
        case rel => exact ⟨k + 1, n, l, by go_num, rfl, rfl, by omega, by omega, by rw [He.out]; exact Hn.out, by rw [He.out]; exact Hl.out, hl2, hn2, HB1.out, HT1.out⟩
      | true =>
        have Hh := Lib.hid hh
        clear hh
        go_wp2_with fail
        refine (Hhas.out k hlt wr).mono ?_
        rintro e w1 ⟨rfl, hb1⟩
        rw [Hh.out]
        have HB1 := Lib.hid (HB.out.trans (hb1.mono HB.out.size)); have HT1 := Lib.hid (HT.out.later hb1)
        clear hb1 f0 f1 f2 f3
        go_wp2_with fail
        have hk := Hk.out; have hle := Hle.out; have hn := Hn.out
        have e : takS S (k + 1) = takS S k ++ [k] := by rw [Hst.out, Hh.out, if_pos rfl]
        have He := Lib.hid e
        clear e
        go_roundg (gk - 1)
        case measure => omega
        case rel => exact ⟨k + 1, n + 1, k, by go_num, by go_num, rfl, by omega, by omega, by rw [He.out, List.length_append, ← Hn.out]; rfl, by rw [He.out]; simp, hlt, by omega, HB1.out, HT1.out⟩
    · obtain rfl : k = 256 := by omega
      have hn := Hn.out; have hl := Hl.out
      rw [Hall.out] at hn hl
      have hset := Hset.out
      have hra := Hra.out
      clear Hset Hk Hn Hl Hall Hhas Hra
      generalize hL : bytesW S = L at *
      rw [← hn] at hset hra
      have HN := Lib.hid hn; have HLs := Lib.hid hl; have Hset := Lib.hid hset; have Hra := Lib.hid hra
      clear hn hl hset hra hL
      by_cases h256 : n = 256
      · have hX := Lib.hid (show X = [46] by rw [Hset.out, if_pos h256])
        subst h256
        clear Hset
        go_wp2_with fail
        exact bodyPost_ret (v := .string (bs [46])) (by simp [results, Tryz.results87, go_sem] <;> rfl) rfl ⟨by rw [hX.out], HB.out⟩
      by_cases h0 : n = 0
      · have hX := Lib.hid (show X = [91, 94, 0, 45, 255, 93] by rw [Hset.out, if_neg h256, if_pos h0])
        subst h0
        clear Hset
        go_wp2_with fail
        exact bodyPost_ret (v := .string (bs [91, 94, 0, 45, 255, 93])) (by simp [results, Tryz.results87, go_sem] <;> rfl) rfl ⟨by rw [hX.out], HB.out⟩
      by_cases h1 : n = 1
      · subst h1
        obtain ⟨c, hc⟩ : ∃ c, L = [c] := List.length_eq_one_iff.1 HN.out.symm
        have hlc : l = c := by rw [HLs.out, hc]; rfl
        subst hlc
        have hset := Hset.out
        rw [if_neg h256, if_neg h0, if_pos rfl, hc] at hset
        replace hset : X = if specB l = true then [92, UInt8.ofNat l] else [UInt8.ofNat l] := hset
        have hcv := tconv wr _ l hl2 rfl 1
        have sz1 : (bs [UInt8.ofNat l]).size = 1 := tsize _
        have c1 : bs [92] ++ bs [UInt8.ofNat l] = bs [92, UInt8.ofNat l] := tcat _ _
        have Hcs := Lib.hid (tspec_any wr l hl2)
        clear Hset hc HN HLs
        cases hs : specB l with
        | true =>
          rw [if_pos hs] at hset
          have hX := Lib.hid hset; have Hs := Lib.hid hs
          clear hset hs hcv
          go_wp2_with fail
          refine Hcs.out.mono ?_
          rintro e w1 ⟨rfl, hb1⟩
          rw [Hs.out]
          have HB1 := Lib.hid (HB.out.trans (hb1.mono HB.out.size))
          have hcv := tconv w1 _ l hl2 rfl 1
          clear hb1
          go_wp2_with fail
          exact bodyPost_ret (v := .string (bs [92, UInt8.ofNat l])) (by simp [results, Tryz.results87, go_sem] <;> rfl) rfl ⟨by rw [hX.out], HB1.out.trans ((Below.refl _ _).alloc HB1.out.size _)⟩
        | false =>
          rw [if_neg (by rw [hs]; decide)] at hset
          have hX := Lib.hid hset; have Hs := Lib.hid hs
          clear hset hs hcv
          go_wp2_with fail
          refine Hcs.out.mono ?_
          rintro e w1 ⟨rfl, hb1⟩
          rw [Hs.out]
          have HB1 := Lib.hid (HB.out.trans (hb1.mono HB.out.size))
          have hcv := tconv w1 _ l hl2 rfl 1
          clear hb1
          go_wp2_with fail
          exact bodyPost_ret (v := .string (bs [UInt8.ofNat l])) (by simp [results, Tryz.results87, go_sem] <;> rfl) rfl ⟨by rw [hX.out], HB1.out.trans ((Below.refl _ _).alloc HB1.out.size _)⟩
      · have hX : X = 91 :: (runT S 0 ++ [93]) := by rw [Hset.out, if_neg h256, if_neg h0, if_neg h1, ← Hra.out]; rfl
        have HX := Lib.hid hX
        obtain ⟨f0, f1, f2, f3⟩ := HT.out
        clear Hset Hra hX HN HLs
        generalize runT S 0 = R at *
        have sz1 : (bs R).size = R.length := tsize _
        have c1 : bs [91] ++ bs R = bs (91 :: R) := tcat _ _
        have sz2 : (bs (91 :: R)).size = R.length + 1 := tsize _
        have c2 : bs (91 :: R) ++ bs [93] = bs (91 :: (R ++ [93])) := tcat _ _
        go_wp2_with fail
        refine (Hruns.out wr).mono ?_
        rintro e w1 ⟨rfl, hb1⟩
        have HB1 := Lib.hid (HB.out.trans (hb1.mono HB.out.size))
        clear hb1
        go_wp2_with fail
        exact bodyPost_ret (v := .string (bs (91 :: (R ++ [93])))) (by simp [results, Tryz.results87, go_sem] <;> rfl) rfl ⟨by rw [HX.out], HB1.out⟩
end Go.Proofs.YthlakbjnmbddaaaGreatDoor

