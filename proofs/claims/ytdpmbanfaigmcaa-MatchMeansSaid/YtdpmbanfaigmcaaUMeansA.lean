/- Merged texts, part of the proof Means: With, Bits, OpenN, RHas, Thom, Ends, Both, EndsR, EndsW, Desc, Many12, Comp, Work12, MayL, Sim. -/
import Derived.Test.YtdpmbanfaigmcaaUHasA
import Derived.Test.YtdpmbanfaigmcaaUHasB
import Derived.Test.YtdpmbanfaigmcaaUHasC
import Derived.Laws.BitsAllLaws
import Derived.ProofKit
import Derived.OpenShut
import Derived.ChangeOld
import Derived.SizedLaws
import Derived.Deep.Slices
import Derived.Deep.Fields
import Derived.StillTailTactics
import Derived.BigRegion
/- vouchref12.with: walked. -/
set_option linter.unusedVariables false
set_option linter.unusedSimpArgs false
namespace Go.Proofs.Ytdpmbanfaigmcaa
open Go.RowKit

theorem ints_rev (x : Nat) (t : List Nat) : ints ((x :: t).reverse) = ints t.reverse ++ [.int .i64 (x : Int)] := by rw [List.reverse_cons, ints_snoc]
/-- A row's list without its last. -/
theorem row_pop {w : World} {B : Nat} {t : List Nat} {x : Nat} {A : Option Addr} {c : Nat} (h : w.ownsRow B 3 1 (.slice A (t.length + 1) c) (t.length + 1) (ints (x :: t).reverse)) :
    (∃ g, A = some ⟨g, 0, none⟩ ∧ g < w.heap.size ∧ B ≤ g ∧ t.length + 1 ≤ c ∧ w.cell? ⟨g, t.length, none⟩ = some (.int .i64 (x : Int))) ∧ w.ownsRow B 3 1 (.slice A t.length c) t.length (ints t.reverse) := by
  refine ⟨?_, by simp [ints], ?_⟩
  · rcases h.2 with ⟨_, h0⟩ | ⟨g, cap, cur, e, hb, hh, hcap, _⟩
    · omega
    · simp only [Value.slice.injEq] at e
      obtain ⟨rfl, _, rfl⟩ := e
      refine ⟨g, rfl, by (rcases Nat.lt_or_ge g w.heap.size with h' | h'; exact h'; rw [Array.getElem?_eq_none h'] at hh; simp at hh), hb, hcap, ?_⟩
      rw [h.cellAt t.length (by omega), ints_rev]
      simp [ints]
  · rcases h.2 with ⟨e, h0⟩ | ⟨g, cap, cur, e, hb, hh, hcap, hm, hs, htk⟩
    · omega
    · simp only [Value.slice.injEq] at e
      obtain ⟨rfl, _, rfl⟩ := e
      refine .inr ⟨g, c, cur, rfl, hb, hh, by omega, hm, hs, ?_⟩
      have : ints t.reverse = (ints (x :: t).reverse).take (t.length * 1) := by rw [ints_rev]; simp [ints]
      rw [this, ← htk, List.take_take]
      congr 1
      omega
/-- Which states are there, as it lies in memory. -/
structure Thr (w : World) (T n : Nat) (Y : List Bool) : Prop where
  len : Y.length = n
  th : ∀ i, i < n → w.cell? ⟨T, i, none⟩ = some (.bool (Y.getD i false))
  tz : ∀ i, w.frozen? ⟨T, i, none⟩ = false
  lT : T < w.heap.size
theorem Thr.kept {w w' : World} {T n : Nat} {Y : List Bool} (h : Thr w T n Y) (hz : w.heap.size ≤ w'.heap.size) (hk : w'.heap[T]? = w.heap[T]?) : Thr w' T n Y :=
  ⟨h.len, fun i hi => (World.cell?_of_block (w := w) (a := ⟨T, i, none⟩) hk).trans (h.th i hi), fun i => (World.frozen?_of_block (w := w) (a := ⟨T, i, none⟩) hk).trans (h.tz i), Nat.lt_of_lt_of_le h.lT hz⟩
theorem Thr.later {w w' : World} {T n : Nat} {Y : List Bool} (h : Thr w T n Y) (hb : Below w.heap.size w w') : Thr w' T n Y := h.kept hb.size (hb.block T h.lT)
theorem Thr.set {w : World} {T n : Nat} {Y : List Bool} (h : Thr w T n Y) {x : Nat} (hx : x < n) : Thr (w.setCell ⟨T, x, none⟩ (.bool true)) T n (Y.set x true) := by
  refine ⟨by simp [h.len], fun i hi => ?_, fun i => by rw [World.frozen?_setCell]; exact h.tz i, by simpa using h.lT⟩
  by_cases e : x = i
  · subst e
    rw [World.cell?_setCell_same _ _ _ (h.th x hx)]
    simp [List.getD_eq_getElem?_getD, show x < Y.length by rw [h.len]; exact hx]
  · rw [World.cell?_setCell_other _ _ _ _ (by simp [e]), h.th i hi]
    simp [List.getD_eq_getElem?_getD, e]

theorem Off.grown {T : Nat} {w w1 w2 : World} (h : Off T w w1) {r : Option Nat} (hg : w1.grownBy w2 r) (hr : ∀ g, r = some g → w.heap.size ≤ g) : Off T w w2 :=
  ⟨hg.os.trans h.os, hg.tape.trans h.tape, hg.output.trans h.output, Nat.le_trans h.size hg.size, fun k hk hn => (hg.block k (Nat.lt_of_lt_of_le hk h.size) (fun e => by have := hr k e.symm; omega)).trans (h.block k hk hn)⟩
theorem Off.new {T : Nat} {w w1 : World} (h : Off T w w1) (o : Obj) : Off T w (w1.alloc o) := h.trans (Off.of_below ((Below.refl _ _).alloc (Nat.le_refl _) _))
/-- The round's invariant: W1: the world behind the box. -/
structure WI (W1 wr : World) (T N : Nat) (l : List St) (b e : Bool) (res : List Bool) (k : Nat) (st : List Nat) (Y : List Bool) (A : Option Addr) (c : Nat) : Prop where
  row : wr.ownsRow W1.heap.size 3 1 (.slice A st.length c) st.length (ints st.reverse)
  lt : ∀ x ∈ st, x < N
  fin : withL l b e k Y st = res
  fu : 3 * falses Y + st.length ≤ k
  ku : k ≤ 3 * N + 2
  thr : Thr wr T N Y
  off : Off T W1 wr
theorem Thr.grown {W w : World} {T n : Nat} {Y : List Bool} (h : Thr W T n Y) {o : Obj} {r : Option Nat} (hg : (W.alloc o).grownBy w r) (hr : some T ≠ r) : Thr w T n Y :=
  (h.later ((Below.refl _ _).alloc (Nat.le_refl _) o)).kept hg.size (hg.block T (by have := h.lT; simp; omega) hr)
theorem withL_nil (l : List St) (b e : Bool) (k : Nat) (Y : List Bool) : withL l b e k Y [] = Y := by cases k <;> rfl

set_option maxRecDepth 100000 in
set_option maxHeartbeats 4000000 in
theorem with_any (w : World) (T : Nat) (l : List St) (sa : Int) (hm : MOk l sa) (ok : Nat → Prop) (Am : Option Addr) (cm : Nat) (b e : Bool) (hS : StsAt w ok l Am cm) (hok : ∀ k, ok k → k < w.heap.size) (hTo : ¬ ok T)
    (Y : List Bool) (h : Thr w T l.length Y) (i : Nat) (hi : i < l.length) :
    Calls Try.prog 51 #[nfaV l sa Am cm, .slice (some ⟨T, 0, none⟩) l.length l.length, .int .i64 (i : Int), .bool b, .bool e] w fun en w' => en = .returned (.tuple #[]) ∧ Thr w' T l.length (withF l b e Y i) ∧ Off T w w' := by
  have hN : l.length ≤ 4096 := hm.len
  have hlT := h.lT
  have H := Lib.hid h; have HM := Lib.hid hm; have HS := Lib.hid hS; have HOk := Lib.hid hok; have HTo := Lib.hid hTo
  clear h hm hS hok hTo
  go_enter Try.func51, Try.ntmps51
  have hnews : ∀ (W : World) (x : Int) ad, some (⟨W.heap.size, 0, none⟩ : Addr) = some ad → ∀ j u, ([.int .i64 x] : List Value)[j]? = some u → (W.alloc (.cells #[.int .i64 x] 3)).cell? (ad.add j) = some u := fun W x ad e j u hu => by
    simp only [Option.some.injEq] at e
    subst e
    rw [addr_addX, World.cell?_alloc_new, Nat.zero_add]
    simpa using hu
  have Hnews := Lib.hid hnews
  clear hnews
  go_wp2_with (at_builtin; refine wpList_append_fromX (w.heap.size + 1) rfl _ _ 71 3 _ 1 8 rfl Try.underlying71 Try.infoInt rfl (by omega) (by omega) (.slice none 0 0) 0 1 [] [.int .i64 (i : Int)] (some ⟨w.heap.size + 1, 0, none⟩) 1 rfl (by simp [go_sem]) (by simp) rfl (by simp [go_sem]) (by simp [Value.oneCell']) ⟨rfl, .inl ⟨rfl, rfl⟩⟩ (by simp <;> omega) (by omega) (fun A5 c5 w5 ho5 hg5 hat5 => ?_); have Ho5 := Lib.hid ho5; have Hg5 := Lib.hid hg5; clear ho5 hg5 hat5)
  have ho5 := Ho5.out; have hg5 := Hg5.out
  clear Ho5 Hg5
  generalize hW1 : w.alloc _ = W1 at *
  have hz1 : W1.heap.size = w.heap.size + 1 := by subst hW1; simp
  have hb1 : Below w.heap.size w W1 := by subst hW1; exact (Below.refl _ _).alloc (Nat.le_refl _) _
  have p0 : W1.cell? ⟨w.heap.size, 0, none⟩ = some (.slice Am l.length cm) := by subst hW1; simp [go_sem]
  clear hW1
  have hI : WI W1 w5 T l.length l b e (withF l b e Y i) (3 * l.length + 2) [i] Y A5 c5 := by
    have hO : Off T W1 w5 := ((Off.refl T W1).new _).grown hg5 (by simp [Value.ownBlock])
    refine ⟨by rw [hz1]; exact ho5, by simpa using hi, rfl, ?_, Nat.le_refl _, ?_, hO⟩
    · have := falses_le Y
      have := H.out.len
      simp; omega
    · have hT : Thr (W1.alloc (.cells #[.int .i64 (i : Int)] 3)) T l.length Y := ((H.out.later hb1).later ((Below.refl _ _).alloc (Nat.le_refl _) _))
      exact hT.kept hg5.size (hg5.block T hT.lT (by simp [Value.ownBlock]))
  have HI := Lib.hid hI
  have HB1 := Lib.hid hb1
  clear hI ho5 hg5 hb1
  go_loopg [10] (3 * l.length + 2) (fun k v wr => ∃ (st : List Nat) (Y' : List Bool) (A : Option Addr) (c : Nat), v = .slice A st.length c ∧ WI W1 wr T l.length l b e (withF l b e Y i) k st Y' A c)
  case atStart => exact ⟨[i], Y, A5, c5, rfl, HI.out⟩
  case round =>
    clear HI
    obtain ⟨st, Y', A, c, rfl, hI⟩ := hrel
    cases st with
    | nil =>
      have HI := Lib.hid hI
      clear hI
      go_wp2_with fail
      go_end0
      have hf := HI.out.fin
      rw [withL_nil] at hf
      exact ⟨rfl, by rw [← hf]; exact HI.out.thr, (Off.of_below HB1.out).trans HI.out.off⟩
    | cons x t =>
      obtain ⟨⟨g, rfl, hg, hB, hcap, hcell⟩, hpop⟩ := row_pop hI.row
      have hx : x < l.length := hI.lt x (List.mem_cons_self ..)
      have hfu := hI.fu
      have hku := hI.ku
      have tx := hI.thr.th x hx
      have tz := hI.thr.tz x
      have lT := hI.thr.lT
      have q0 : wr.cell? ⟨w.heap.size, 0, none⟩ = some (.slice Am l.length cm) := (hI.off.cell (by omega) (by omega)).trans p0
      have hfl := falses_le Y'
      have hYl := hI.thr.len
      simp only [List.length_cons] at hfu hcap ⊢
      have htl : t.length < 100000 := by omega
      have htc : t.length ≤ c := by omega
      have HI := Lib.hid hI; have HP := Lib.hid hpop
      have HYl := Lib.hid hYl
      clear hI hpop
      cases hy : Y'.getD x false with
      | true =>
        rw [hy] at tx
        have hf := HI.out.fin
        obtain ⟨k, rfl⟩ : ∃ k, gk = k + 1 := ⟨gk - 1, by omega⟩
        rw [withL, if_pos hy] at hf
        have Hf := Lib.hid hf
        clear hf hy
        clear HYl
        go_wp2_with fail
        go_roundg k
        case measure => omega
        case rel => exact ⟨t, Y', some ⟨g, 0, none⟩, c, by go_num, HP.out, fun z hz => HI.out.lt z (List.mem_cons_of_mem _ hz), Hf.out, by omega, by omega, HI.out.thr, HI.out.off⟩
      | false =>
        rw [hy] at tx
        have hf := HI.out.fin
        obtain ⟨k, rfl⟩ : ∃ k, gk = k + 1 := ⟨gk - 1, by omega⟩
        rw [withL, if_neg (by rw [hy]; simp)] at hf
        have hfs := falses_set Y' x (by omega) hy
        have Hf := Lib.hid hf; have Hfs := Lib.hid hfs
        clear hf hy hfs HYl
        go_upto_region 8 with fail
        generalize hW2 : wr.setCell _ _ = W2
        have b2k : ∀ k, k ≠ T → W2.heap[k]? = wr.heap[k]? := fun k hk => by subst hW2; exact Below.heap_setCell _ _ _ _ hk
        have b2z : W2.heap.size ≤ wr.heap.size := by subst hW2; simp
        have b2y : wr.heap.size ≤ W2.heap.size := by subst hW2; simp
        have hT2 : Thr W2 T l.length (Y'.set x true) := by subst hW2; exact HI.out.thr.set hx
        have hO2 : Off T W1 W2 := by subst hW2; exact HI.out.off.set x (.bool true)
        have hR2 : W2.ownsRow W1.heap.size 3 1 (.slice (some ⟨g, 0, none⟩) t.length c) t.length (ints t.reverse) := by
          refine HP.out.kept (row := some T) ⟨by subst hW2; rfl, by subst hW2; rfl, by subst hW2; rfl, by omega, fun k hk hne => b2k k (by simpa using hne)⟩ (.inr ?_)
          simp [Value.ownBlock]; omega
        clear hW2 b2k tx tz q0 hcell HP
        have q0 : W2.cell? ⟨w.heap.size, 0, none⟩ = some (.slice Am l.length cm) := (hO2.cell (by omega) (by omega)).trans p0
        have hST := (HS.out.mono (w' := W2) (ok' := ok) (fun k hk => ⟨hk, fun o => by
          have h1 := HOk.out k hk
          exact (hO2.cell (b := k) (o := o) (by omega) (fun e => HTo.out (e ▸ hk))).trans (HB1.out.cell (p := ⟨k, o, none⟩) h1)⟩))
        obtain ⟨gm, om, rfl, hgm, hst⟩ := hST.at_ (by omega)
        have hstx := hst x hx
        have hsN : l[x] = stN l x := by unfold stN; rw [List.getD_eq_getElem?_getD, List.getElem?_eq_getElem hx]; rfl
        rw [hsN] at hstx
        have hsk := HM.out.kinds hx
        have hcS := HS.out.cap
        have hgw : gm < W2.heap.size := by have := HOk.out gm hgm; omega
        clear hst hsN hST
        generalize stN l x = s at *
        obtain ⟨sk, s0, s1, s2, s3, nx, ot⟩ := s
        obtain ⟨f0, f1, f2, f3, f4, f5, f6⟩ := hstx
        simp only at f0 f1 f2 f3 f4 f5 f6 hsk
        have HT2 := Lib.hid hT2; have HO2 := Lib.hid hO2; have HR2 := Lib.hid hR2
        clear hT2 hO2 hR2
        go_upto_region 9 with fail
        generalize hW3 : W2.alloc _ = W3
        have hb3 : Below W2.heap.size W2 W3 := by subst hW3; exact (Below.refl _ _).alloc (Nat.le_refl _) _
        have hz3 : W2.heap.size < W3.heap.size := by subst hW3; simp
        have b0 : W3.cell? ⟨W2.heap.size, 0, none⟩ = some (.int .i64 sk) := by subst hW3; simp [go_sem]
        have b5 : W3.cell? ⟨W2.heap.size, 5, none⟩ = some (.int .i64 nx) := by subst hW3; simp [go_sem]
        have b6 : W3.cell? ⟨W2.heap.size, 6, none⟩ = some (.int .i64 ot) := by subst hW3; simp [go_sem]
        have hR3 := HR2.out.kept (w' := W3) (row := none) ⟨hb3.os, hb3.tape, hb3.output, hb3.size, fun k hk _ => hb3.block k hk⟩ (by simp [Value.ownBlock])
        have hT3 := HT2.out.later hb3
        have hO3 := HO2.out.trans (Off.of_below hb3)
        clear hW3 f0 f1 f2 f3 f4 f5 f6 q0 hb3
        have HT3 := Lib.hid hT3; have HO3 := Lib.hid hO3; have HR3 := Lib.hid hR3
        clear hT3 hO3 hR3 HT2 HO2 HR2
        have hgT : g ≠ T := by omega
        have hO3z := HO3.out.size
        rcases hsk with rfl | ⟨hk, hn0, hn1⟩ | ⟨rfl, ⟨hn0, hn1⟩, ho0, ho1⟩
        · go_wp2_with fail
          go_roundg k
          case measure => omega
          case rel => exact ⟨t, Y'.set x true, some ⟨g, 0, none⟩, c, by go_num, HR3.out, fun z hz => HI.out.lt z (List.mem_cons_of_mem _ hz), by simpa [outs] using Hf.out, by have := Hfs.out; omega, by omega, HT3.out, HO3.out⟩
        · obtain ⟨x1, rfl⟩ : ∃ x1 : Nat, nx = x1 := ⟨nx.toNat, by omega⟩
          have hx1 : x1 < l.length := by omega
          rcases hk with rfl | rfl | rfl
          · go_wp2_with fail
            go_roundg k
            case measure => omega
            case rel => exact ⟨t, Y'.set x true, some ⟨g, 0, none⟩, c, by go_num, HR3.out, fun z hz => HI.out.lt z (List.mem_cons_of_mem _ hz), by simpa [outs] using Hf.out, by have := Hfs.out; omega, by omega, HT3.out, HO3.out⟩
          · cases b
            · go_wp2_with fail
              go_roundg k
              case measure => omega
              case rel => exact ⟨t, Y'.set x true, some ⟨g, 0, none⟩, c, by go_num, HR3.out, fun z hz => HI.out.lt z (List.mem_cons_of_mem _ hz), by simpa [outs] using Hf.out, by have := Hfs.out; omega, by omega, HT3.out, HO3.out⟩
            · go_upto_region 11 with (at_builtin; refine wpList_append_fromX W1.heap.size rfl _ _ 71 3 _ 1 8 rfl Try.underlying71 Try.infoInt rfl (by omega) (by omega) (.slice (some ⟨g, 0, none⟩) t.length c) t.length 1 (ints t.reverse) [.int .i64 (x1 : Int)] (some ⟨W3.heap.size, 0, none⟩) 1 rfl rfl (by simp) rfl (Hnews.out W3 (x1 : Int)) (by simp [Value.oneCell']) (HR3.out.alloc _) (by have := HO3.out.size; simp; omega) (by omega) (fun A6 c6 w6 ho hg hat => ?_); have Ho6 := Lib.hid ho; have Hg6 := Lib.hid hg; have Hat6 := Lib.hid hat; clear ho hg hat)
              have hT6 := HT3.out.grown Hg6.out (by simp [Value.ownBlock]; omega)
              have hO6 := (HO3.out.new _).grown Hg6.out (fun g' e => by simp [Value.ownBlock] at e; omega)
              have b0' : w6.cell? ⟨W2.heap.size, 0, none⟩ = some (.int .i64 3) := (World.cell?_of_block (w := W3) (a := ⟨W2.heap.size, 0, none⟩) ((Hg6.out.block _ (by simp; omega) (by simp [Value.ownBlock]; omega)).trans (((Below.refl W3.heap.size W3).alloc (Nat.le_refl _) _).block _ hz3))).trans b0
              go_wp2_with fail
              go_roundg k
              case measure => omega
              case rel => exact ⟨x1 :: t, Y'.set x true, A6, c6, by go_num, by rw [ints_rev]; exact Ho6.out, fun z hz => (List.mem_cons.1 hz).elim (fun e => e ▸ hx1) (fun hz => HI.out.lt z (List.mem_cons_of_mem _ hz)), by simpa [outs] using Hf.out, by have := Hfs.out; simp only [List.length_cons]; omega, by omega, hT6, hO6⟩
          · cases e
            · go_wp2_with fail
              go_roundg k
              case measure => omega
              case rel => exact ⟨t, Y'.set x true, some ⟨g, 0, none⟩, c, by go_num, HR3.out, fun z hz => HI.out.lt z (List.mem_cons_of_mem _ hz), by simpa [outs] using Hf.out, by have := Hfs.out; omega, by omega, HT3.out, HO3.out⟩
            · go_upto_region 11 with (at_builtin; refine wpList_append_fromX W1.heap.size rfl _ _ 71 3 _ 1 8 rfl Try.underlying71 Try.infoInt rfl (by omega) (by omega) (.slice (some ⟨g, 0, none⟩) t.length c) t.length 1 (ints t.reverse) [.int .i64 (x1 : Int)] (some ⟨W3.heap.size, 0, none⟩) 1 rfl rfl (by simp) rfl (Hnews.out W3 (x1 : Int)) (by simp [Value.oneCell']) (HR3.out.alloc _) (by have := HO3.out.size; simp; omega) (by omega) (fun A6 c6 w6 ho hg hat => ?_); have Ho6 := Lib.hid ho; have Hg6 := Lib.hid hg; have Hat6 := Lib.hid hat; clear ho hg hat)
              have hT6 := HT3.out.grown Hg6.out (by simp [Value.ownBlock]; omega)
              have hO6 := (HO3.out.new _).grown Hg6.out (fun g' e => by simp [Value.ownBlock] at e; omega)
              have b0' : w6.cell? ⟨W2.heap.size, 0, none⟩ = some (.int .i64 4) := (World.cell?_of_block (w := W3) (a := ⟨W2.heap.size, 0, none⟩) ((Hg6.out.block _ (by simp; omega) (by simp [Value.ownBlock]; omega)).trans (((Below.refl W3.heap.size W3).alloc (Nat.le_refl _) _).block _ hz3))).trans b0
              go_wp2_with fail
              go_roundg k
              case measure => omega
              case rel => exact ⟨x1 :: t, Y'.set x true, A6, c6, by go_num, by rw [ints_rev]; exact Ho6.out, fun z hz => (List.mem_cons.1 hz).elim (fun e => e ▸ hx1) (fun hz => HI.out.lt z (List.mem_cons_of_mem _ hz)), by simpa [outs] using Hf.out, by have := Hfs.out; simp only [List.length_cons]; omega, by omega, hT6, hO6⟩
        · obtain ⟨x1, rfl⟩ : ∃ x1 : Nat, nx = x1 := ⟨nx.toNat, by omega⟩
          obtain ⟨x2, rfl⟩ : ∃ x2 : Nat, ot = x2 := ⟨ot.toNat, by omega⟩
          have hx1 : x1 < l.length := by omega
          have hx2 : x2 < l.length := by omega
          go_upto_region 11 with (at_builtin; refine wpList_append_fromX W1.heap.size rfl _ _ 71 3 _ 1 8 rfl Try.underlying71 Try.infoInt rfl (by omega) (by omega) (.slice (some ⟨g, 0, none⟩) t.length c) t.length 1 (ints t.reverse) [.int .i64 (x1 : Int)] (some ⟨W3.heap.size, 0, none⟩) 1 rfl rfl (by simp) rfl (Hnews.out W3 (x1 : Int)) (by simp [Value.oneCell']) (HR3.out.alloc _) (by have := HO3.out.size; simp; omega) (by omega) (fun A6 c6 w6 ho hg hat => ?_); have Ho6 := Lib.hid ho; have Hg6 := Lib.hid hg; have Hat6 := Lib.hid hat; clear ho hg hat)
          have hT6 := HT3.out.grown Hg6.out (by simp [Value.ownBlock]; omega)
          have hO6 := (HO3.out.new _).grown Hg6.out (fun g' e => by simp [Value.ownBlock] at e; omega)
          have hk6 := (Hg6.out.block W2.heap.size (by simp; omega) (by simp [Value.ownBlock]; omega)).trans (((Below.refl W3.heap.size W3).alloc (Nat.le_refl _) _).block _ hz3)
          have b0' : w6.cell? ⟨W2.heap.size, 0, none⟩ = some (.int .i64 2) := (World.cell?_of_block (w := W3) (a := ⟨W2.heap.size, 0, none⟩) hk6).trans b0
          have b6' : w6.cell? ⟨W2.heap.size, 6, none⟩ = some (.int .i64 x2) := (World.cell?_of_block (w := W3) (a := ⟨W2.heap.size, 6, none⟩) hk6).trans b6
          have hown : ∀ g', (Value.slice A6 (t.length + 1) c6).ownBlock = some g' → W1.heap.size ≤ g' := fun g' e => (Ho6.out.lt g' e).1
          have hr6 : w6.ownsRow W1.heap.size 3 1 (.slice A6 (t.length + 1) c6) (t.length + 1) (ints (x1 :: t).reverse) := by rw [ints_rev]; exact Ho6.out
          have hz6 := Hg6.out.size
          have HT6 := Lib.hid hT6; have HO6 := Lib.hid hO6; have HR6 := Lib.hid hr6; have Hown := Lib.hid hown
          clear hT6 hO6 hk6 hown hr6 Hg6 Hat6 Ho6 b0 b6
          go_wp2_with (at_builtin; refine wpList_append_fromX W1.heap.size rfl _ _ 71 3 _ 1 8 rfl Try.underlying71 Try.infoInt rfl (by omega) (by omega) (.slice A6 (t.length + 1) c6) (t.length + 1) 1 (ints (x1 :: t).reverse) [.int .i64 (x2 : Int)] (some ⟨w6.heap.size, 0, none⟩) 1 rfl rfl (by simp) rfl (Hnews.out w6 (x2 : Int)) (by simp [Value.oneCell']) (HR6.out.alloc _) (by have := HO6.out.size; simp; omega) (by omega) (fun A7 c7 w7 ho hg hat => ?_); have Ho7 := Lib.hid ho; have Hg7 := Lib.hid hg; have Hat7 := Lib.hid hat; clear ho hg hat)
          have hT7 := HT6.out.grown Hg7.out (fun e => by have := Hown.out T e.symm; omega)
          have hO7 := (HO6.out.new _).grown Hg7.out Hown.out
          go_roundg k
          case measure => omega
          case rel => exact ⟨x2 :: x1 :: t, Y'.set x true, A7, c7, by go_num, by rw [ints_rev]; exact Ho7.out, fun z hz => (List.mem_cons.1 hz).elim (fun e => e ▸ hx2) (fun hz => (List.mem_cons.1 hz).elim (fun e => e ▸ hx1) (fun hz => HI.out.lt z (List.mem_cons_of_mem _ hz))), by simpa [outs] using Hf.out, by have := Hfs.out; simp only [List.length_cons]; omega, by omega, hT7, hO7⟩
end Go.Proofs.Ytdpmbanfaigmcaa

/- Sets of bytes as four words: which byte is in, of each way of making one. Plain. -/
set_option linter.unusedVariables false
set_option linter.unusedSimpArgs false
namespace Go.Proofs.Ytdpmbanfaigmcaa
open Go.RowKit

def In64 (x : Int) : Prop := 0 ≤ x ∧ x < 18446744073709551616
structure Wok (s : W4) : Prop where
  a : In64 s.a
  b : In64 s.b
  c : In64 s.c
  d : In64 s.d
def W4.at (s : W4) (c : Nat) : Int := if c < 64 then s.a else if c < 128 then s.b else if c < 192 then s.c else s.d
/-- Is a byte in a set? -/
def W4.has (s : W4) (c : Nat) : Bool := (s.at c).toNat.testBit (c % 64)
theorem Wok.at {s : W4} (h : Wok s) (c : Nat) : In64 (s.at c) := by
  unfold W4.at; split
  · exact h.a
  split
  · exact h.b
  split
  · exact h.c
  · exact h.d
theorem wok0 : Wok w40 := ⟨⟨by decide, by decide⟩, ⟨by decide, by decide⟩, ⟨by decide, by decide⟩, ⟨by decide, by decide⟩⟩
theorem has0 (c : Nat) : w40.has c = false := by
  have : w40.at c = 0 := by unfold W4.at w40; split <;> (try rfl); split <;> (try rfl); split <;> rfl
  unfold W4.has; rw [this]; simp
theorem pow_in {k : Nat} (h : k < 64) : In64 (2 ^ k) := by
  have h1 : (2 : Nat) ^ k < 2 ^ 64 := Nat.pow_lt_pow_right (by omega) h
  have e : ((2 : Int) ^ k) = ((2 ^ k : Nat) : Int) := by push_cast; rfl
  rw [e]
  generalize (2 : Nat) ^ k = p at *
  exact ⟨by omega, by omega⟩
theorem orI_eq {x y : Int} (hx : In64 x) (hy : In64 y) : orI x y = ((x.toNat ||| y.toNat : Nat) : Int) := u64_or x y hx.1 hx.2 hy.1 hy.2
theorem orI_in {x y : Int} (hx : In64 x) (hy : In64 y) : In64 (orI x y) := by
  rw [orI_eq hx hy]
  have : x.toNat ||| y.toNat < 2 ^ 64 := Nat.or_lt_two_pow (by have := hx.2; omega) (by have := hy.2; omega)
  exact ⟨by omega, by omega⟩
theorem orI_bit {x y : Int} (hx : In64 x) (hy : In64 y) (k : Nat) : (orI x y).toNat.testBit k = (x.toNat.testBit k || y.toNat.testBit k) := by
  rw [orI_eq hx hy, Int.toNat_natCast, Nat.testBit_or]
theorem pow_bit (k j : Nat) : ((2 : Int) ^ k).toNat.testBit j = decide (k = j) := by
  have e : ((2 : Int) ^ k) = ((2 ^ k : Nat) : Int) := by push_cast; rfl
  rw [e, Int.toNat_natCast, Nat.testBit_two_pow]
theorem notI_in {x : Int} (hx : In64 x) : In64 (notI x) := by unfold notI; have := hx.1; have := hx.2; exact ⟨by omega, by omega⟩
theorem notI_bit {x : Int} (hx : In64 x) (k : Nat) (hk : k < 64) : (notI x).toNat.testBit k = !x.toNat.testBit k := by
  have h0 := hx.1; have h1 := hx.2
  have e : (notI x).toNat = 2 ^ 64 - (x.toNat + 1) := by unfold notI; omega
  rw [e, Nat.testBit_two_pow_sub_succ (by omega)]
  simp [hk]
theorem word_ext {x y : Int} (hx : In64 x) (hy : In64 y) (h : ∀ k, k < 64 → x.toNat.testBit k = y.toNat.testBit k) : x = y := by
  have : x.toNat = y.toNat := by
    refine Nat.eq_of_testBit_eq fun k => ?_
    rcases Nat.lt_or_ge k 64 with hk | hk
    · exact h k hk
    · have h1 : x.toNat < 2 ^ k := Nat.lt_of_lt_of_le (by have := hx.2; omega) (Nat.pow_le_pow_right (n := 2) (by omega) hk)
      have h2 : y.toNat < 2 ^ k := Nat.lt_of_lt_of_le (by have := hy.2; omega) (Nat.pow_le_pow_right (n := 2) (by omega) hk)
      rw [Nat.testBit_lt_two_pow h1, Nat.testBit_lt_two_pow h2]
  have := hx.1; have := hy.1
  omega
/-- A set is what it has. -/
theorem W4.ext' {s t : W4} (hs : Wok s) (ht : Wok t) (h : ∀ c, c < 256 → s.has c = t.has c) : s = t := by
  obtain ⟨a, b, c, d⟩ := s
  obtain ⟨a', b', c', d'⟩ := t
  have e1 : a = a' := word_ext hs.a ht.a fun k hk => by
    have := h k (by omega)
    simpa [W4.has, W4.at, hk, Nat.mod_eq_of_lt hk] using this
  have e2 : b = b' := word_ext hs.b ht.b fun k hk => by
    have := h (64 + k) (by omega)
    simpa [W4.has, W4.at, show ¬ 64 + k < 64 by omega, show 64 + k < 128 by omega, show (64 + k) % 64 = k by omega, Nat.mod_eq_of_lt hk] using this
  have e3 : c = c' := word_ext hs.c ht.c fun k hk => by
    have := h (128 + k) (by omega)
    simpa [W4.has, W4.at, show ¬ 128 + k < 64 by omega, show ¬ 128 + k < 128 by omega, show 128 + k < 192 by omega, show (128 + k) % 64 = k by omega, Nat.mod_eq_of_lt hk] using this
  have e4 : d = d' := word_ext hs.d ht.d fun k hk => by
    have := h (192 + k) (by omega)
    simpa [W4.has, W4.at, show ¬ 192 + k < 64 by omega, show ¬ 192 + k < 128 by omega, show ¬ 192 + k < 192 by omega, show (192 + k) % 64 = k by omega, Nat.mod_eq_of_lt hk] using this
  subst e1; subst e2; subst e3; subst e4; rfl
theorem add_ok {s : W4} (h : Wok s) (c : Nat) (hc : c < 256) : Wok (s.add c) := by
  unfold W4.add
  split
  · exact ⟨orI_in h.a (pow_in (by omega)), h.b, h.c, h.d⟩
  split
  · exact ⟨h.a, orI_in h.b (pow_in (by omega)), h.c, h.d⟩
  split
  · exact ⟨h.a, h.b, orI_in h.c (pow_in (by omega)), h.d⟩
  · exact ⟨h.a, h.b, h.c, orI_in h.d (pow_in (by omega))⟩
theorem dec_iff {p q : Prop} [Decidable p] [Decidable q] (h : p ↔ q) : decide p = decide q := by simp [h]
theorem add_has {s : W4} (h : Wok s) (c x : Nat) (hc : c < 256) (hx : x < 256) : (s.add c).has x = (decide (x = c) || s.has x) := by
  unfold W4.add W4.has W4.at
  by_cases c1 : c < 64
  · rw [if_pos c1]
    by_cases x1 : x < 64
    · simp only [if_pos x1]
      rw [orI_bit h.a (pow_in (by omega)), pow_bit, Bool.or_comm, dec_iff (show c = x % 64 ↔ x = c by omega)]
    · simp only [if_neg x1]
      rw [show decide (x = c) = false by simp; omega, Bool.false_or]
  rw [if_neg c1]
  by_cases c2 : c < 128
  · rw [if_pos c2]
    by_cases x1 : x < 64
    · simp only [if_pos x1]
      rw [show decide (x = c) = false by simp; omega, Bool.false_or]
    by_cases x2 : x < 128
    · simp only [if_neg x1, if_pos x2]
      rw [orI_bit h.b (pow_in (by omega)), pow_bit, Bool.or_comm, dec_iff (show c - 64 = x % 64 ↔ x = c by omega)]
    · simp only [if_neg x1, if_neg x2]
      rw [show decide (x = c) = false by simp; omega, Bool.false_or]
  rw [if_neg c2]
  by_cases c3 : c < 192
  · rw [if_pos c3]
    by_cases x1 : x < 64
    · simp only [if_pos x1]
      rw [show decide (x = c) = false by simp; omega, Bool.false_or]
    by_cases x2 : x < 128
    · simp only [if_neg x1, if_pos x2]
      rw [show decide (x = c) = false by simp; omega, Bool.false_or]
    by_cases x3 : x < 192
    · simp only [if_neg x1, if_neg x2, if_pos x3]
      rw [orI_bit h.c (pow_in (by omega)), pow_bit, Bool.or_comm, dec_iff (show c - 128 = x % 64 ↔ x = c by omega)]
    · simp only [if_neg x1, if_neg x2, if_neg x3]
      rw [show decide (x = c) = false by simp; omega, Bool.false_or]
  · rw [if_neg c3]
    by_cases x1 : x < 64
    · simp only [if_pos x1]
      rw [show decide (x = c) = false by simp; omega, Bool.false_or]
    by_cases x2 : x < 128
    · simp only [if_neg x1, if_pos x2]
      rw [show decide (x = c) = false by simp; omega, Bool.false_or]
    by_cases x3 : x < 192
    · simp only [if_neg x1, if_neg x2, if_pos x3]
      rw [show decide (x = c) = false by simp; omega, Bool.false_or]
    · simp only [if_neg x1, if_neg x2, if_neg x3]
      rw [orI_bit h.d (pow_in (by omega)), pow_bit, Bool.or_comm, dec_iff (show c - 192 = x % 64 ↔ x = c by omega)]
theorem or_ok {s t : W4} (h : Wok s) (k : Wok t) : Wok (s.or t) := ⟨orI_in h.a k.a, orI_in h.b k.b, orI_in h.c k.c, orI_in h.d k.d⟩
theorem or_has {s t : W4} (h : Wok s) (k : Wok t) (x : Nat) : (s.or t).has x = (s.has x || t.has x) := by
  unfold W4.or W4.has W4.at
  by_cases x1 : x < 64
  · simp only [if_pos x1]; exact orI_bit h.a k.a _
  by_cases x2 : x < 128
  · simp only [if_neg x1, if_pos x2]; exact orI_bit h.b k.b _
  by_cases x3 : x < 192
  · simp only [if_neg x1, if_neg x2, if_pos x3]; exact orI_bit h.c k.c _
  · simp only [if_neg x1, if_neg x2, if_neg x3]; exact orI_bit h.d k.d _
theorem not_ok {s : W4} (h : Wok s) : Wok s.not := ⟨notI_in h.a, notI_in h.b, notI_in h.c, notI_in h.d⟩
theorem not_has {s : W4} (h : Wok s) (x : Nat) : s.not.has x = !s.has x := by
  unfold W4.not W4.has W4.at
  by_cases x1 : x < 64
  · simp only [if_pos x1]; exact notI_bit h.a _ (by omega)
  by_cases x2 : x < 128
  · simp only [if_neg x1, if_pos x2]; exact notI_bit h.b _ (by omega)
  by_cases x3 : x < 192
  · simp only [if_neg x1, if_neg x2, if_pos x3]; exact notI_bit h.c _ (by omega)
  · simp only [if_neg x1, if_neg x2, if_neg x3]; exact notI_bit h.d _ (by omega)
theorem adds_spec : ∀ (l : List Nat) {s : W4}, Wok s → (∀ c ∈ l, c < 256) → Wok (l.foldl W4.add s) ∧ ∀ x, x < 256 → (l.foldl W4.add s).has x = (s.has x || decide (x ∈ l))
  | [], s, h, _ => ⟨h, fun x _ => by simp⟩
  | c :: l, s, h, hl => by
    obtain ⟨h1, h2⟩ := adds_spec l (add_ok h c (hl c (List.mem_cons_self ..))) (fun x hx => hl x (List.mem_cons_of_mem _ hx))
    refine ⟨h1, fun x hx => ?_⟩
    rw [List.foldl_cons, h2 x hx, add_has h c x (hl c (List.mem_cons_self ..)) hx]
    simp only [List.mem_cons, Bool.decide_or]
    cases s.has x <;> simp
theorem span_spec {s : W4} (h : Wok s) (f n : Nat) (hn : f + n ≤ 256) : Wok (s.span f n) ∧ ∀ x, x < 256 → (s.span f n).has x = (s.has x || (decide (f ≤ x) && decide (x < f + n))) := by
  obtain ⟨h1, h2⟩ := adds_spec (List.range' f n) h (fun c hc => by simp at hc; omega)
  refine ⟨h1, fun x hx => ?_⟩
  rw [W4.span, h2 x hx, dec_iff (show x ∈ List.range' f n ↔ f ≤ x ∧ x < f + n by simp), Bool.decide_and]
def T.w4 (t : T) : W4 := ⟨t.s0, t.s1, t.s2, t.s3⟩
/-- What may stand in a node: its set's words are in range. -/
inductive Words : T → Prop where
  | mk (t : T) : Wok t.w4 → (∀ p ∈ t.ps, Words p) → Words t
theorem Words.w {t : T} (h : Words t) : Wok t.w4 := by cases h; assumption
theorem Words.p {t : T} (h : Words t) : ∀ p ∈ t.ps, Words p := by cases h; assumption
theorem in64_wf {n : Int} (h : (Lit.int .u64 n).wf = true) : In64 n := by
  simp [Lit.wf, IntKind.min, IntKind.max, IntKind.signed, IntKind.bits] at h
  exact ⟨h.1, by have := h.2; omega⟩
/-- The same bit, as the matcher asks for it. -/
theorem has_div {s : W4} (h : Wok s) (c : Nat) : s.has c = ((s.at c) / 2 ^ (c % 64) % 2 == 1) := by
  obtain ⟨h0, h1⟩ := h.at c
  unfold W4.has
  generalize s.at c = x at *
  obtain ⟨n, rfl⟩ : ∃ n : Nat, x = n := ⟨x.toNat, by omega⟩
  rw [Int.toNat_natCast, Nat.testBit_eq_decide_div_mod_eq]
  have e : ((n : Int) / 2 ^ (c % 64) % 2) = ((n / 2 ^ (c % 64) % 2 : Nat) : Int) := by push_cast; rfl
  rw [e, Bool.eq_iff_iff, decide_eq_true_eq, beq_iff_eq]
  omega
end Go.Proofs.Ytdpmbanfaigmcaa

/- Arguments opened: machines. -/
set_option linter.unusedVariables false
set_option linter.unusedSimpArgs false
namespace Go.Proofs.Ytdpmbanfaigmcaa
open Go.RowKit Go.ChangeShapes Go.WideShapes Go.Deep

theorem Try.cellsState : Try.prog.cellsOf 47 = 7 := by kernel_rfl
theorem Try.cellsSet : Try.prog.cellsOf 24 = 4 := by kernel_rfl
theorem Try.cellsInt : Try.prog.cellsOf 3 = 1 := by kernel_rfl
theorem Try.cellsU : Try.prog.cellsOf 22 = 1 := by kernel_rfl
theorem Try.cellsNfa : Try.prog.cellsOf 35 = 2 := by kernel_rfl
theorem Try.cellsSts : Try.prog.cellsOf 33 = 1 := by kernel_rfl
theorem Try.bytesState : Try.prog.bytesOf 47 = 56 := by kernel_rfl

theorem len2 {α : Type} {l : List α} (h : l.length = 2) : ∃ a b, l = [a, b] := by
  match l, h with
  | [a, b], _ => exact ⟨a, b, rfl⟩
theorem len4 {α : Type} {l : List α} (h : l.length = 4) : ∃ a b c d, l = [a, b, c, d] := by
  match l, h with
  | [a, b, c, d], _ => exact ⟨a, b, c, d, rfl⟩
theorem len7 {α : Type} {l : List α} (h : l.length = 7) : ∃ a b c d e f g, l = [a, b, c, d, e, f, g] := by
  match l, h with
  | [a, b, c, d, e, f, g], _ => exact ⟨a, b, c, d, e, f, g, rfl⟩
section
variable {H : Type} {enc : TypeId × Value → H} {P : Program} {tSt tSts tNfa tSet tI tU : TypeId} {w : World} {base : Nat} {spare : Nat → Bool} {held : Bool}
/-- What the program says of the types. -/
structure Types (P : Program) (tSt tSts tNfa tSet tI tU : TypeId) : Prop where
  set : P.underlying tSet = some (.array 4 tU)
  u : P.underlying tU = some (.int .u64)
  i : P.underlying tI = some (.int .i64)
  sts : P.underlying tSts = some (.slice tSt)
  st : ∃ f0 f1 f2 f3, P.underlying tSt = some (.struct #[f0, f1, f2, f3]) ∧ (f0.type = tI ∧ f0.offset = 0) ∧ (f1.type = tSet ∧ f1.offset = 1) ∧ (f2.type = tI ∧ f2.offset = 5) ∧ (f3.type = tI ∧ f3.offset = 6)
  nfa : ∃ f0 f1, P.underlying tNfa = some (.struct #[f0, f1]) ∧ (f0.type = tSts ∧ f0.offset = 0) ∧ (f1.type = tI ∧ f1.offset = 1)
  cSet : P.cellsOf tSet = 4
  cU : P.cellsOf tU = 1
  cI : P.cellsOf tI = 1
  cSts : P.cellsOf tSts = 1
  cSt : P.cellsOf tSt = 7
  cNfa : P.cellsOf tNfa = 2
  bSt : P.bytesOf tSt = 56
def WSt (s : St) : Prop := Wok ⟨s.s0, s.s1, s.s2, s.s3⟩
theorem open_set (K : Types P tSt tSts tNfa tSet tI tU) {fuel : Nat} {cs : List Value} {x : DataW H × List MemPlace} (h : DataW.trod enc P w base spare held fuel tSet cs = some x) :
    ∃ a b c d : Int, cs = [.int .u64 a, .int .u64 b, .int .u64 c, .int .u64 d] ∧ Wok ⟨a, b, c, d⟩ := by
  obtain ⟨xs, m, rfl, hx, hl, hxl, hi⟩ := DataW.trod_array K.set h
  rw [K.cSet] at hl
  rw [K.cU] at hi
  obtain ⟨c0, c1, c2, c3, rfl⟩ := len4 hl
  · clear h
    have g : ∀ (i : Nat) (v : Value), [c0, c1, c2, c3][i]? = some v → ∃ n, v = .int .u64 n ∧ In64 n := by
      intro i v hv
      have hi4 : i < 4 := (List.getElem?_eq_some_iff.1 hv).1
      have h1 := hi i hi4
      have hxi : xs[i]? = some (xs[i]'(by omega)) := List.getElem?_eq_getElem (by omega)
      rw [hxi] at h1
      obtain ⟨n, hn, _, hw⟩ := DataW.trod_int K.u h1
      refine ⟨n, ?_, in64_wf hw⟩
      have := congrArg (·[0]?) hn
      simpa [List.getElem?_take, List.getElem?_drop, hv] using this
    obtain ⟨a, rfl, ha⟩ := g 0 _ rfl
    obtain ⟨b, rfl, hb⟩ := g 1 _ rfl
    obtain ⟨c, rfl, hc⟩ := g 2 _ rfl
    obtain ⟨d, rfl, hd⟩ := g 3 _ rfl
    exact ⟨a, b, c, d, rfl, ha, hb, hc, hd⟩
theorem open_state (K : Types P tSt tSts tNfa tSet tI tU) {fuel : Nat} {cs : List Value} {x : DataW H × List MemPlace} (h : DataW.trod enc P w base spare held fuel tSt cs = some x) : ∃ s : St, cs = s.cells ∧ WSt s := by
  obtain ⟨f0, f1, f2, f3, hst, ⟨t0, o0⟩, ⟨t1, o1⟩, ⟨t2, o2⟩, t3, o3⟩ := K.st
  obtain ⟨xs, m, rfl, hx, hl, hxl, hi⟩ := DataW.trod_struct hst h
  rw [K.cSt] at hl
  have hxl4 : xs.length = 4 := hxl
  obtain ⟨c0, c1, c2, c3, c4, c5, c6, rfl⟩ := len7 hl
  · clear h
    have h0 := hi 0 f0 rfl
    have h1 := hi 1 f1 rfl
    have h2 := hi 2 f2 rfl
    have h3 := hi 3 f3 rfl
    rw [t0, o0, K.cI] at h0
    rw [t1, o1, K.cSet] at h1
    rw [t2, o2, K.cI] at h2
    rw [t3, o3, K.cI] at h3
    rw [List.getElem?_eq_getElem (by omega)] at h0 h1 h2 h3
    obtain ⟨k, hk, _⟩ := DataW.trod_int K.i h0
    obtain ⟨a, b, c, d, hs, hw⟩ := open_set K h1
    obtain ⟨nx, hn, _⟩ := DataW.trod_int K.i h2
    obtain ⟨ot, ho, _⟩ := DataW.trod_int K.i h3
    simp at hk hs hn ho
    obtain ⟨rfl, rfl, rfl, rfl⟩ := hs
    subst hk hn ho
    exact ⟨⟨k, a, b, c, d, nx, ot⟩, rfl, hw⟩
theorem open_nfaW (K : Types P tSt tSts tNfa tSet tI tU) {b0 : Nat} {v : Value} {d : DataW H} {p : List MemPlace} (hv : Value.okWide P w .any b0 tNfa v) (h : DataW.Trod enc P w base spare held tNfa v d p) (hz : ∀ n ∈ d.weights P tNfa, n ≤ reachBytes) :
    ∃ (l : List St) (sa : Int) (A : Option Addr) (c : Nat), v = nfaV l sa A c ∧ StsAt w (fun b => b < w.heap.size) l A c ∧ ∀ s ∈ l, WSt s := by
  obtain ⟨f0, f1, hst, ⟨t0, o0⟩, t1, o1⟩ := K.nfa
  obtain ⟨cs, rfl, hsz⟩ := okWide_struct hst hv
  rw [K.cNfa] at hsz
  obtain ⟨l⟩ := cs
  obtain ⟨c0, c1, rfl⟩ := len2 (l := l) hsz
  · clear hv
    obtain ⟨fuel, hf⟩ := h
    obtain ⟨xs, m, rfl, hx, hl, hxl, hi⟩ := DataW.trod_struct hst hf
    have hxl2 : xs.length = 2 := hxl
    have h0 := hi 0 f0 rfl
    have h1 := hi 1 f1 rfl
    rw [t0, o0, K.cSts] at h0
    rw [t1, o1, K.cI] at h1
    rw [List.getElem?_eq_getElem (by omega)] at h0 h1
    obtain ⟨sa, hs, _⟩ := DataW.trod_int K.i h1
    simp [Value.cells] at hs
    subst hs
    rcases open_slice K.sts h0 with ⟨hc, hx0⟩ | ⟨a, len, cap, mm, n, D, Pl, hc, hb, hlc, hcm, hmm, hx0, hel⟩
    · simp [Value.cells] at hc
      subst hc
      exact ⟨[], sa, none, 0, rfl, ⟨by simp, by simp, fun _ => rfl, fun h => by simp at h⟩, by simp⟩
    · simp [Value.cells] at hc
      subst hc
      have hlen : len ≤ 17592186044416 := by
        have := hz ((len + (mm - len)) * 56) (by
          have hd : d = .agg (xs.map (·.1)) := by have := congrArg Prod.fst hx; simpa using this
          rw [hd]
          obtain ⟨x0, x1, rfl⟩ := len2 hxl2
          · clear hf hi
            simp only [List.getElem_cons_zero] at hx0
            simp only [List.map_cons, List.map_nil, DataW.weights, hst, DataW.weightsEach, List.mem_append, t0, t1]
            left
            rw [hx0]
            simp [DataW.weights, K.sts, K.bSt])
        have h2 := reachBytes_lt
        omega
      have hlm : len ≤ mm := by rw [hmm]; split <;> omega
      rw [K.cSt] at hel
      have hst : ∀ i, i < len → ∃ s : St, (∀ j, j < 7 → w.cell? ((a.add (i * 7)).add j) = s.cells[j]?) ∧ WSt s := by
        intro i hi
        obtain ⟨cs', hcs, ht⟩ := hel i (by omega)
        obtain ⟨_, _, hat⟩ := World.cells?_some hcs
        obtain ⟨s, rfl, hw⟩ := open_state K ht
        exact ⟨s, hat, hw⟩
      let g : Nat → St := fun i => if h : i < len then Classical.choose (hst i h) else default
      have hg : ∀ i, i < len → ∀ j, j < 7 → w.cell? ((a.add (i * 7)).add j) = (g i).cells[j]? := fun i hi => by
        simp only [g, dif_pos hi]; exact (Classical.choose_spec (hst i hi)).1
      have hgw : ∀ i, i < len → WSt (g i) := fun i hi => by
        simp only [g, dif_pos hi]; exact (Classical.choose_spec (hst i hi)).2
      refine ⟨(List.range len).map g, sa, some a, cap, by simp [nfaV], ⟨by simpa using hlc, by simpa using hlen, fun e => by simp at e, fun hne => ?_⟩, fun s hs => by obtain ⟨i, hi, rfl⟩ := List.mem_map.1 hs; exact hgw i (List.mem_range.1 hi)⟩
      simp only [List.length_map, List.length_range] at hne
      obtain ⟨b, o, spot⟩ := a
      have hc0 := hg 0 hne 0 (by omega)
      have hspot : spot = none := by
        have := World.cell?_spot (v := .int .i64 (g 0).k) (by simpa [St.cells] using hc0)
        simpa [Addr.add] using this
      subst hspot
      refine ⟨b, o, rfl, ?_, fun i hi => .of fun j hj => ?_⟩
      · have : w.cell? ⟨b, o, none⟩ = some (.int .i64 (g 0).k) := by simpa [addr_add', St.cells] using hc0
        exact World.block_lt_of_cell? _ _ this
      · have := hg i (by simpa using hi) j hj
        simpa [addr_add'] using this
theorem open_nfa (K : Types P tSt tSts tNfa tSet tI tU) {b0 : Nat} {v : Value} {d : DataW H} {p : List MemPlace} (hv : Value.okWide P w .any b0 tNfa v) (h : DataW.Trod enc P w base spare held tNfa v d p) (hz : ∀ n ∈ d.weights P tNfa, n ≤ reachBytes) :
    ∃ (l : List St) (sa : Int) (A : Option Addr) (c : Nat), v = nfaV l sa A c ∧ StsAt w (fun b => b < w.heap.size) l A c := by
  obtain ⟨l, sa, A, c, h1, h2, _⟩ := open_nfaW K hv h hz
  exact ⟨l, sa, A, c, h1, h2⟩
end
theorem types_ok : Types Try.prog 47 33 35 24 3 22 :=
  ⟨Try.underlying24, Try.underlying22, Try.underlying3, Try.underlying33, ⟨_, _, _, _, Try.underlying47, ⟨rfl, rfl⟩, ⟨rfl, rfl⟩, ⟨rfl, rfl⟩, rfl, rfl⟩, ⟨_, _, Try.underlying35, ⟨rfl, rfl⟩, rfl, rfl⟩, Try.cellsSet, Try.cellsU, Try.cellsInt, Try.cellsSts, Try.cellsState, Try.cellsNfa, Try.bytesState⟩
end Go.Proofs.Ytdpmbanfaigmcaa

/- vouchref10.Has, vouchref12.Has: walked. -/
set_option linter.unusedVariables false
set_option linter.unusedSimpArgs false
namespace Go.Proofs.Ytdpmbanfaigmcaa
open Go.RowKit

set_option maxRecDepth 100000 in
set_option maxHeartbeats 1000000 in
theorem rbit_any (w : World) (sk s0 s1 s2 s3 nx ot : Int) (c : Nat) (hc : c < 256) (hw : Wok ⟨s0, s1, s2, s3⟩) :
    Calls Try.prog 52 #[.agg #[.int .u64 s0, .int .u64 s1, .int .u64 s2, .int .u64 s3], .int .u8 (c : Int)] w fun en w' => en = .returned (.bool (bitS ⟨sk, s0, s1, s2, s3, nx, ot⟩ c)) ∧ Below w.heap.size w w' := by
  obtain ⟨wi, wr', hi4, hr64, hqu, hre, hbw⟩ := bit_word c hc sk s0 s1 s2 s3 nx ot
  have h0 : 0 ≤ wordN ⟨sk, s0, s1, s2, s3, nx, ot⟩ wi := by
    rcases (by omega : wi = 0 ∨ wi = 1 ∨ wi = 2 ∨ wi = 3) with rfl | rfl | rfl | rfl
    · exact hw.a.1
    · exact hw.b.1
    · exact hw.c.1
    · exact hw.d.1
  have hmod : (wordN ⟨sk, s0, s1, s2, s3, nx, ot⟩ wi / 2 ^ wr').tmod 2 = wordN ⟨sk, s0, s1, s2, s3, nx, ot⟩ wi / 2 ^ wr' % 2 := Int.tmod_eq_emod_of_nonneg (Int.ediv_nonneg h0 (Int.pow_nonneg (by omega)))
  rw [hbw]
  clear hw h0 hbw
  go_enter Try.func52, Try.ntmps52
  go_upto_region 1 with fail
  generalize hW : w.alloc _ = W0
  have hB0 : Below w.heap.size w W0 := by subst hW; exact (Below.refl _ _).alloc (Nat.le_refl _) _
  have b0 : W0.cell? ⟨w.heap.size, wi, none⟩ = some (.int .u64 (wordN ⟨sk, s0, s1, s2, s3, nx, ot⟩ wi)) := by
    subst hW
    rcases (by omega : wi = 0 ∨ wi = 1 ∨ wi = 2 ∨ wi = 3) with rfl | rfl | rfl | rfl <;> simp [go_sem, wordN]
  clear hW
  generalize hwd : wordN ⟨sk, s0, s1, s2, s3, nx, ot⟩ wi = wd at *
  have Hwd := Lib.hid hwd
  clear hwd
  have Hmod := Lib.hid hmod
  clear hmod
  go_wp2_with fail
  exact bodyPost_ret (v := .bool ((wd / 2 ^ wr').tmod 2 == 1)) (by simp [results, Try.results52, go_sem]) rfl ⟨by rw [Hmod.out, Hwd.out], hB0⟩

theorem thr_new (w : World) (n : Nat) : Thr (w.alloc (.cells (madeCells #[.bool false] n) 4)) w.heap.size n (List.replicate n false) := by
  have hM : ∀ i, i < n → (madeCells #[.bool false] n)[i]? = some (.bool false) := fun i hi => by
    rw [← Array.getElem?_toList, toList_madeCells_one]
    simp [hi]
  generalize madeCells #[.bool false] n = M at *
  have k0 : (w.alloc (.cells M 4)).heap[w.heap.size]? = some (.cells M 4) := heap_alloc_new w _
  refine ⟨by simp, fun i hi => ?_, fun i => ?_, by simp⟩
  · unfold World.cell?; simp only [k0]
    rw [hM i hi]; simp [List.getD_eq_getElem?_getD, List.getElem?_replicate, hi]
  · unfold World.frozen?; simp only [k0]; simp
/-- The round's relation. -/
structure RR (w1 wr : World) (l : List St) (st : Int) (subj : Bs) (k a s T : Nat) (Y : List Bool) : Prop where
  ak : a + k = subj.length + 1
  sb : s ≤ a * 5000
  ov : overR l st subj (subj.length + 1 - a) a Y s = overR l st subj (subj.length + 1) 0 (List.replicate l.length false) 0
  thr : Thr wr T l.length Y
  Tb : w1.heap.size ≤ T
  z : a = 0 → ∀ i, Y.getD i false = false
  bel : Below w1.heap.size w1 wr
theorem cnt_succ (Y : List Bool) (i : Nat) (hi : i < Y.length) : ((Y.take (i + 1)).countP id : Nat) = (Y.take i).countP id + (if Y.getD i false = true then 1 else 0) := by
  rw [List.take_succ_eq_append_getElem hi, List.countP_append, List.getD_eq_getElem?_getD, List.getElem?_eq_getElem hi]
  simp only [List.countP_cons, List.countP_nil, Option.getD_some, id]
  omega
def dnR (l : List St) (Y : List Bool) (i : Nat) : Bool := (List.range i).any fun p => Y.getD p false && (stN l p).k == 5
theorem dnR_succ (l : List St) (Y : List Bool) (i : Nat) : dnR l Y (i + 1) = (dnR l Y i || (Y.getD i false && (stN l i).k == 5)) := by
  unfold dnR; rw [List.range_succ, List.any_append]; simp
set_option maxRecDepth 100000 in
set_option maxHeartbeats 8000000 in
theorem rhas_any (w : World) (ok : Nat → Prop) (l : List St) (sa : Int) (A : Option Addr) (c : Nat) (hA : StsAt w ok l A c) (hok : ∀ b, ok b → b < w.heap.size) (hws : ∀ s ∈ l, WSt s) (subj : Bs) :
    Calls Try.prog 33 #[nfaV l sa A c, .string (bs subj)] w fun en w' => en = .returned (.tuple #[.bool (hasF l sa subj).1, .int .i64 (hasF l sa subj).2.1, .int .i64 (hasF l sa subj).2.2]) ∧ Below w.heap.size w w' := by
  have HA := Lib.hid hA; have Hok := Lib.hid hok; have HW := Lib.hid hws; clear hA hok hws
  go_enter Try.func33, Try.ntmps33
  go_wp2_with fail
  generalize hW : w.alloc _ = W0
  have hB0 : Below w.heap.size w W0 := by subst hW; exact (Below.refl _ _).alloc (Nat.le_refl _) _
  have hz0 : w.heap.size < W0.heap.size := by subst hW; simp
  have P0 : At2 W0 w.heap.size (.slice A l.length c) sa := by subst hW; constructor <;> simp [go_sem]
  clear hW
  obtain ⟨p0, p1⟩ := id P0
  go_wp2_with fail
  clear p0 p1
  refine (rcheck_any W0 ok l sa A c (HA.out.later hB0 Hok.out) (fun b h => by have := Hok.out b h; omega)).mono ?_
  rintro en w1 ⟨rfl, hb1⟩
  have hz1 := hb1.size
  have hB1 := hB0.trans (hb1.mono (by omega))
  have P1 := P0.later hb1 hz0
  clear P0 hB0
  by_cases hck : mcheck l sa = 0
  case' neg =>
    have hres : hasF l sa subj = (false, 0, mcheck l sa) := if_pos hck
    have Hres := Lib.hid hres
    have hb : (mcheck l sa != 0) = true := by rw [bne_iff_ne]; exact hck
    clear hres hck
    go_wp2_with fail
    try rw [Exit.noGoto_ret]
    exact bodyPost_ret (v := .tuple #[.bool false, .int .i64 0, .int .i64 (mcheck l sa)]) (by simp [results, Try.results33, go_sem]) rfl ⟨by rw [Hres.out], hB1⟩
  have hb : (mcheck l sa != 0) = false := by rw [hck]; rfl
  by_cases hlong : 65536 < subj.length
  · have hres : hasF l sa subj = (false, 0, 3) := by rw [hasF, if_neg (by simpa using hck), if_pos hlong]
    have Hres := Lib.hid hres
    clear hres hck
    go_wp2_with fail
    try rw [Exit.noGoto_ret]
    exact bodyPost_ret (v := .tuple #[.bool false, .int .i64 0, .int .i64 3]) (by simp [results, Try.results33, go_sem]) rfl ⟨by rw [Hres.out], hB1⟩
  have hres : hasF l sa subj = ((overF l sa subj (subj.length + 1) 0 [] 0).1, (overF l sa subj (subj.length + 1) 0 [] 0).2, 0) := by rw [hasF, if_neg (by simpa using hck), if_neg hlong]
  have hm := mok_of hck
  rw [over_same hm subj (subj.length + 1) 0 [] (List.replicate l.length false) 0 (by simp) (same_nil l)] at hres
  have Hres := Lib.hid hres
  have HM := Lib.hid hm
  have hl1 := hm.len
  have hl0 : 0 < l.length := by have := hm.start; omega
  clear hres hck hm
  have hmk := run_make_row' (P := Try.prog) 73 4 (.bool false) 1 Try.underlying73 Try.infoBool rfl .i64 .i64 l.length (by omega) (by omega)
  obtain ⟨p0, p1⟩ := id P1
  have hz01 : w.heap.size < w1.heap.size := by omega
  have hb0 := hB1.size
  go_upto_region 8 with fail
  generalize hW : w1.alloc _ = W2
  have hT2 : Thr W2 w1.heap.size l.length (List.replicate l.length false) := by subst hW; exact thr_new w1 _
  have hb2 : Below w1.heap.size w1 W2 := by subst hW; exact (Below.refl _ _).alloc (Nat.le_refl _) _
  clear hW p0 p1
  have HT2 := Lib.hid hT2
  have HB2 := Lib.hid hb2
  clear hT2 hb2
  obtain ⟨st, rfl⟩ : ∃ st : Nat, sa = st := ⟨sa.toNat, by have := HM.out.s0; omega⟩
  have hst := HM.out.s1
  go_wp2_with fail
  go_loopg [8, 9, 10] (subj.length + 1) (fun k v8 v9 v10 wr => ∃ (a s T : Nat) (Y : List Bool), v8 = .int .i64 (s : Int) ∧ v9 = .slice (some ⟨T, 0, none⟩) l.length l.length ∧ v10 = .int .i64 (a : Int) ∧ RR w1 wr l st subj k a s T Y)
  case atStart => exact ⟨0, 0, w1.heap.size, List.replicate l.length false, rfl, rfl, rfl, ⟨by omega, by omega, rfl, HT2.out, Nat.le_refl _, fun _ i => by rw [List.getD_eq_getElem?_getD, List.getElem?_replicate]; split <;> rfl, HB2.out⟩⟩
  case round =>
    clear HT2 HB2
    obtain ⟨a, s, T, Y, rfl, rfl, rfl, hR⟩ := hrel
    have hsb := hR.sb
    have hak := hR.ak
    obtain ⟨p0, p1⟩ := P1.later hR.bel hz01
    have hzr := hR.bel.size
    have HR := Lib.hid hR
    clear hR
    by_cases hle : a ≤ subj.length
    case' neg =>
      have hov := HR.out.ov
      rw [show subj.length + 1 - a = 0 by omega, overR] at hov
      have Hov := Lib.hid hov
      clear hov
      go_wp2_with fail
      try rw [Exit.noGoto_ret]
      exact bodyPost_ret (v := .tuple #[.bool false, .int .i64 (s : Int), .int .i64 0]) (by simp [results, Try.results33, go_sem]) rfl ⟨by rw [Hres.out, ← Hov.out], hB1.trans (HR.out.bel.mono hb0)⟩
    go_upto_region 12 with fail
    generalize hW : wr.alloc _ = W3
    have hT3 : Thr W3 wr.heap.size l.length (List.replicate l.length false) := by subst hW; exact thr_new wr _
    have hb3 : Below wr.heap.size wr W3 := by subst hW; exact (Below.refl _ _).alloc (Nat.le_refl _) _
    have hz3 : W3.heap.size = wr.heap.size + 1 := by subst hW; simp
    clear hW
    have hB3 := HR.out.bel.trans (hb3.mono hzr)
    have hTT : T < wr.heap.size := HR.out.thr.lT
    have hY3 := HR.out.thr.later hb3
    have hz3' := hB3.size
    clear p0 p1
    obtain ⟨p0, p1⟩ := P1.later hB3 hz01
    have HT3 := Lib.hid hT3; have HY3 := Lib.hid hY3
    clear hT3 hY3
    have HB3 := Lib.hid hB3
    clear hB3 hb3
    generalize hT2 : wr.heap.size = T2 at *
    clear hT2
    have hst2 : st < l.length := by omega
    go_wp2_with fail
    have hS3 := HA.out.later (hB1.trans (HB3.out.mono hb0)) Hok.out
    have hok3 : ∀ k, ok k → k < W3.heap.size := fun k hk => by have := Hok.out k hk; omega
    have hTo : ¬ ok T2 := fun hk => by have := Hok.out T2 hk; omega
    refine (with_any W3 T2 l st HM.out ok A c ((a : Int) == 0) ((a : Int) == (subj.length : Int)) hS3 hok3 hTo _ HT3.out st hst2).mono ?_
    rintro en w4 ⟨rfl, hT4, hO4⟩
    have e1 : ((a : Int) == 0) = (a == 0) := by rw [Bool.eq_iff_iff]; simp
    have e2 : ((a : Int) == (subj.length : Int)) = (a == subj.length) := by rw [Bool.eq_iff_iff]; simp <;> omega
    have hstep : stepR l st subj a Y = (List.range l.length).foldl (eatR l (a == 0) (a == subj.length) (byteN subj a) Y) (withF l (a == 0) (a == subj.length) (List.replicate l.length false) st) := by rw [stepR, Int.toNat_natCast]
    rw [e1, e2] at hT4
    have E1 := Lib.hid e1; have E2 := Lib.hid e2; have Hstep := Lib.hid hstep; have HT4 := Lib.hid hT4; have HO4 := Lib.hid hO4
    have HS3 := Lib.hid hS3; have Hok3 := Lib.hid hok3; have HTo := Lib.hid hTo
    clear e1 e2 hstep hT4 hO4 HT3 p0 p1 hS3 hok3 hTo
    go_wp2_with fail
    go_loopg [12] l.length (fun k v12 wq => ∃ (i : Nat) (Y2 : List Bool), v12 = .int .i64 (i : Int) ∧ i + k = l.length ∧ ((List.range l.length).drop i).foldl (eatR l (a == 0) (a == subj.length) (byteN subj a) Y) Y2 = stepR l st subj a Y ∧ Thr wq T2 l.length Y2 ∧ Off T2 W3 wq)
    case atStart => exact ⟨0, _, rfl, by omega, by rw [Hstep.out]; rfl, HT4.out, HO4.out⟩
    case round =>
      clear HT4 HO4
      obtain ⟨i, Y2, rfl, hi, hfo, hT5, hO5⟩ := hrel
      have hzO := hO5.size
      have hYq : Thr wr T l.length Y := HY3.out.kept hzO (hO5.block T (by omega) (by simp; omega))
      have p0 : wr.cell? ⟨w.heap.size, 0, none⟩ = some (.slice A l.length c) := (hO5.cell (by omega) (by omega)).trans ((P1.later HB3.out hz01).f0)
      have p1 : wr.cell? ⟨w.heap.size, 1, none⟩ = some (.int .i64 st) := (hO5.cell (by omega) (by omega)).trans ((P1.later HB3.out hz01).f1)
      have Hfo := Lib.hid hfo; have HT5 := Lib.hid hT5; have HO5 := Lib.hid hO5
      clear hfo hT5 hO5
      by_cases hlt : i < l.length
      case' pos =>
        have tx := hYq.th i hlt
        have lT := hYq.lT
        have hdrop : (List.range l.length).drop i = i :: (List.range l.length).drop (i + 1) := by
          rw [List.drop_eq_getElem_cons (by simpa using hlt)]; simp
        have hfo := Hfo.out
        rw [hdrop, List.foldl_cons] at hfo
        have hSq : StsAt wr ok l A c := HS3.out.mono (fun k hk => ⟨hk, fun o => HO5.out.cell (Hok3.out k hk) (fun e => HTo.out (e ▸ hk))⟩)
        obtain ⟨gm, om, rfl, hgm, hst7⟩ := hSq.at_ hl0
        have hgl := Hok3.out gm hgm
        have hstx := hst7 i hlt
        have hsN : l[i] = stN l i := by unfold stN; rw [List.getD_eq_getElem?_getD, List.getElem?_eq_getElem hlt]; rfl
        have hws := HW.out l[i] (List.getElem_mem _)
        rw [hsN] at hstx hws
        have hcap := hSq.cap
        have hnx := fun hk => HM.out.next hlt hk
        have hnx2 : (stN l i).k = 1 → (stN l i).nx = ((stN l i).nx.toNat : Int) := fun hk => by rcases HM.out.kinds hlt with h | ⟨_, h, _⟩ | ⟨h, _⟩ <;> omega
        rw [show eatR l (a == 0) (a == subj.length) (byteN subj a) Y Y2 i = (if Y.getD i false = true ∧ takes (stN l i) (byteN subj a) = true then withF l (a == 0) (a == subj.length) Y2 (stN l i).nx.toNat else Y2) from rfl] at hfo
        have Hfo2 := Lib.hid hfo
        clear hfo Hfo hst7 hsN hdrop hYq hSq
        generalize stN l i = sx at *
        obtain ⟨sk, s0, s1, s2, s3, nx, ot⟩ := sx
        obtain ⟨f0, f1, f2, f3, f4, f5, f6⟩ := hstx
        simp only at f0 f1 f2 f3 f4 f5 f6 hnx hnx2
        have hgw : gm < wr.heap.size := by omega
        have Hnx := Lib.hid hnx; have Hnx2 := Lib.hid hnx2; have Hws := Lib.hid hws
        clear hnx hnx2 hws
        go_upto_region 17 with fail
        generalize hW : wr.alloc _ = W5
        have hb5 : Below wr.heap.size wr W5 := by subst hW; exact (Below.refl _ _).alloc (Nat.le_refl _) _
        have b0 : W5.cell? ⟨wr.heap.size, 0, none⟩ = some (.int .i64 sk) := by subst hW; simp [go_sem]
        have b1' : W5.cell? ⟨wr.heap.size, 1, none⟩ = some (.int .u64 s0) := by subst hW; simp [go_sem]
        have b2 : W5.cell? ⟨wr.heap.size, 2, none⟩ = some (.int .u64 s1) := by subst hW; simp [go_sem]
        have b3 : W5.cell? ⟨wr.heap.size, 3, none⟩ = some (.int .u64 s2) := by subst hW; simp [go_sem]
        have b4 : W5.cell? ⟨wr.heap.size, 4, none⟩ = some (.int .u64 s3) := by subst hW; simp [go_sem]
        have b5 : W5.cell? ⟨wr.heap.size, 5, none⟩ = some (.int .i64 nx) := by subst hW; simp [go_sem]
        have lb : wr.heap.size < W5.heap.size := by subst hW; simp
        have tx5 := (hb5.cell (p := ⟨T, i, none⟩) lT).trans tx
        have hT5 := HT5.out.later hb5
        have hO5 := HO5.out.trans (Off.of_below hb5)
        have p05 := (hb5.cell (p := ⟨w.heap.size, 0, none⟩) (by show w.heap.size < _; omega)).trans p0
        have p15 := (hb5.cell (p := ⟨w.heap.size, 1, none⟩) (by show w.heap.size < _; omega)).trans p1
        clear hW hb5 f0 f1 f2 f3 f4 f5 f6 p0 p1 tx HT5 HO5
        have HT5 := Lib.hid hT5; have HO5 := Lib.hid hO5
        clear hT5 hO5
        cases hth : Y.getD i false with
        | false =>
          rw [hth] at tx5
          have hfo : ((List.range l.length).drop (i + 1)).foldl (eatR l (a == 0) (a == subj.length) (byteN subj a) Y) Y2 = stepR l st subj a Y := by
            have := Hfo2.out
            rwa [if_neg (by rw [hth]; simp)] at this
          have Hfo := Lib.hid hfo
          clear hfo Hfo2 hth b0 b1' b2 b3 b4 b5 p05 p15
          go_quiet (fail)
          go_wp2_with fail
          go_roundg (gk - 1)
          case measure => omega
          case rel => exact ⟨i + 1, _, by go_num, by omega, Hfo.out, HT5.out.later (below_drewN _ _), HO5.out.trans (Off.of_below (below_drewN _ _))⟩
        | true =>
          rw [hth] at tx5
          have ha0 : a ≠ 0 := fun e => by have := HR.out.z e i; rw [hth] at this; cases this
          by_cases hk : sk = 1
          case' neg =>
            have ht : takes ⟨sk, s0, s1, s2, s3, nx, ot⟩ (byteN subj a) = false := by
              have : (sk == 1) = false := by simpa using hk
              unfold takes; rw [show (⟨sk, s0, s1, s2, s3, nx, ot⟩ : St).k = sk from rfl, this]; rfl
            have hfo : ((List.range l.length).drop (i + 1)).foldl (eatR l (a == 0) (a == subj.length) (byteN subj a) Y) Y2 = stepR l st subj a Y := by
              have := Hfo2.out
              rwa [if_neg (by rw [ht]; simp)] at this
            have Hfo := Lib.hid hfo
            have hkb : (sk == 1) = false := by simpa using hk
            clear hfo Hfo2 hth b1' b2 b3 b4 b5 p05 p15 hk ht
            go_quiet (fail)
            go_wp2_with fail
            go_roundg (gk - 1)
            case measure => omega
            case rel => exact ⟨i + 1, _, by go_num, by omega, Hfo.out, HT5.out.later (below_drewN _ _), HO5.out.trans (Off.of_below (below_drewN _ _))⟩
          case' pos =>
            subst hk
            have hidx : ∀ hh, ((bs subj)[a - 1]'hh).toNat = byteN subj a := idx_get subj a ha0 hle
            have ha5 : (1 : Int) ≤ (a : Int) := by omega
            have hcl : byteN subj a < 256 := by unfold byteN; exact UInt8.toNat_lt _
            have ha1 : 0 ≤ (a : Int) - 1 := by omega
            have ha2 : (a : Int) - 1 < (subj.length : Int) := by omega
            have ha3 : (bs subj).size = subj.length := by simp [bs, ByteArray.size]
            have hwr : IntKind.i64.wrap ((a : Int) - 1) = (a : Int) - 1 := IntWalk.i64_in _ (by omega)
            go_still_tail 16, (by kernel_rfl)
            change wpList _ _ _ _ _ W5.drew
            have hT6 := HT5.out.later (below_drewN W5 1)
            have hO6 := HO5.out.trans (Off.of_below (below_drewN W5 1))
            have b5d := ((below_drewN W5 1).cell (p := ⟨wr.heap.size, 5, none⟩) lb).trans b5
            have p05d := ((below_drewN W5 1).cell (p := ⟨w.heap.size, 0, none⟩) (by show w.heap.size < _; omega)).trans p05
            have p15d := ((below_drewN W5 1).cell (p := ⟨w.heap.size, 1, none⟩) (by show w.heap.size < _; omega)).trans p15
            have lb6 : wr.heap.size < (W5.drewN 1).heap.size := lb
            rw [show W5.drewN 1 = W5.drew from rfl] at hT6 hO6 b5d p05d p15d lb6
            clear b0 b1' b2 b3 b4 b5 p05 p15 tx5 lb
            generalize W5.drew = W6 at *
            have HT6 := Lib.hid hT6; have HO6 := Lib.hid hO6; have Hth := Lib.hid hth
            clear hT6 hO6 hth
            go_wp2_with fail
            refine (rbit_any W6 1 s0 s1 s2 s3 nx ot (byteN subj a) hcl Hws.out).mono ?_
            rintro en w7 ⟨rfl, hb7⟩
            have hT7 := HT6.out.later hb7
            have hO7 := HO6.out.trans (Off.of_below hb7)
            have b57 := (hb7.cell (p := ⟨wr.heap.size, 5, none⟩) lb6).trans b5d
            have p07 := (hb7.cell (p := ⟨w.heap.size, 0, none⟩) (by show w.heap.size < _; omega)).trans p05d
            have p17 := (hb7.cell (p := ⟨w.heap.size, 1, none⟩) (by show w.heap.size < _; omega)).trans p15d
            have hz7 := hb7.size
            have HT7 := Lib.hid hT7; have HO7 := Lib.hid hO7
            clear hT7 hO7 b5d p05d p15d HT6 HO6 hb7
            have hfo := Hfo2.out
            rw [show takes ⟨1, s0, s1, s2, s3, nx, ot⟩ (byteN subj a) = bitS ⟨1, s0, s1, s2, s3, nx, ot⟩ (byteN subj a) from rfl, Hth.out] at hfo
            cases hbt : bitS ⟨1, s0, s1, s2, s3, nx, ot⟩ (byteN subj a) with
            | false =>
              rw [hbt, if_neg (by simp)] at hfo
              have Hfo := Lib.hid hfo
              clear hfo Hfo2 hbt hidx ha5 ha1 ha2 hwr
              go_wp2_with fail
              go_roundg (gk - 1)
              case measure => omega
              case rel => exact ⟨i + 1, _, by go_num, by omega, Hfo.out, HT7.out, HO7.out⟩
            | true =>
              rw [hbt, if_pos (by simp)] at hfo
              have Hfo := Lib.hid hfo
              have hn1 := Hnx.out trivial
              obtain ⟨xn, rfl⟩ : ∃ xn : Nat, nx = xn := ⟨nx.toNat, Hnx2.out trivial⟩
              clear hfo Hfo2 hbt hidx ha5 ha1 ha2 hwr
              go_wp2_with fail
              have hS7 : StsAt w7 ok l (some ⟨gm, om, none⟩) c := HS3.out.mono (fun k hk => ⟨hk, fun o => HO7.out.cell (Hok3.out k hk) (fun e => HTo.out (e ▸ hk))⟩)
              have hzO7 := HO7.out.size
              refine (with_any w7 T2 l st HM.out ok (some ⟨gm, om, none⟩) c ((a : Int) == 0) ((a : Int) == (subj.length : Int)) hS7 (fun k hk => by have := Hok3.out k hk; omega) HTo.out _ HT7.out xn (by simpa using hn1)).mono ?_
              rintro en w8 ⟨rfl, hT8, hO8⟩
              rw [E1.out, E2.out] at hT8
              have HT8 := Lib.hid hT8; have HO8 := Lib.hid (HO7.out.trans hO8)
              clear hT8 hO8
              go_wp2_with fail
              go_roundg (gk - 1)
              case measure => omega
              case rel => exact ⟨i + 1, _, by go_num, by omega, by simpa only [Int.toNat_natCast] using Hfo.out, HT8.out, HO8.out⟩
      case' neg =>
        have hie : i = l.length := by omega
        have hY2 : Y2 = stepR l st subj a Y := by
          rw [← Hfo.out, List.drop_eq_nil_of_le (by simp; omega)]; rfl
        have hB5 : Below w1.heap.size w1 wr := HB3.out.trans (HO5.out.below (B := w1.heap.size) hzr hz3')
        have hov := HR.out.ov
        rw [show subj.length + 1 - a = (subj.length - a) + 1 by omega, overR, ← hY2] at hov
        have hYl := HT5.out.len
        have p0' : wr.cell? ⟨w.heap.size, 0, none⟩ = some (.slice A l.length c) := p0
        have hS5 : StsAt wr ok l A c := HS3.out.mono (fun k hk => ⟨hk, fun o => HO5.out.cell (Hok3.out k hk) (fun e => HTo.out (e ▸ hk))⟩)
        have hok5 : ∀ k, ok k → k < wr.heap.size := fun k hk => by have := Hok3.out k hk; omega
        have Hov := Lib.hid hov; have HB5 := Lib.hid hB5; have HY2 := Lib.hid hY2; have HS5 := Lib.hid hS5; have Hok5 := Lib.hid hok5
        clear hov hB5 hY2 hYq Hfo hS5 hok5 p0' E1 E2 Hstep HS3 Hok3 hmk HO5 HY3
        go_wp2_with fail
        generalize hwv : wr = wv at *
        go_loopg [8, 14, 15] l.length (fun k v8 v14 v15 wq => ∃ (j n : Nat), v8 = .int .i64 (n : Int) ∧ v14 = .bool (dnR l Y2 j) ∧ v15 = .int .i64 (j : Int) ∧ j + k = l.length ∧ n = s + (Y2.take j).countP id ∧ wq = wv)
        case atStart => exact ⟨0, s, rfl, rfl, rfl, by omega, by simp, rfl⟩
        case round =>
          obtain ⟨j, n, rfl, rfl, rfl, hj, hn, rfl⟩ := hrel
          have hnb : n ≤ s + 4096 := by
            have h1 : (Y2.take j).countP id ≤ (Y2.take j).length := List.countP_le_length
            have h2 : (Y2.take j).length ≤ j := List.length_take_le ..
            omega
          by_cases hlt : j < l.length
          case' pos =>
            have tx := HT5.out.th j hlt
            have lT := HT5.out.lT
            have hcs := cnt_succ Y2 j (by omega)
            have hds := dnR_succ l Y2 j
            cases hth : Y2.getD j false with
            | false =>
              rw [hth] at tx hcs hds
              have Hds := Lib.hid hds
              clear hds hth
              rw [if_neg (by simp)] at hcs
              have Hcs := Lib.hid hcs
              clear hcs
              go_wp2_with fail
              go_roundg (gk - 1)
              case measure => omega
              case rel => exact ⟨j + 1, n, rfl, by rw [Hds.out]; simp, by go_num, by omega, by rw [Hcs.out]; omega, rfl⟩
            | true =>
              rw [hth] at tx hcs hds
              rw [if_pos rfl] at hcs
              obtain ⟨gm, om, rfl, hgm, hst7⟩ := HS5.out.at_ hl0
              have hgl := Hok5.out gm hgm
              have hstx := (hst7 j hlt).f0
              have hsN : l[j] = stN l j := by unfold stN; rw [List.getD_eq_getElem?_getD, List.getElem?_eq_getElem hlt]; rfl
              rw [hsN] at hstx
              have hcap := HS5.out.cap
              have Hds := Lib.hid hds; have Hcs := Lib.hid hcs
              clear hst7 hsN hds hcs hth
              generalize hsk : (stN l j).k = sk at *
              have Hsk := Lib.hid hsk
              clear hsk
              cases hd : dnR l Y2 j with
              | true =>
                have Hd := Lib.hid hd
                clear hd
                go_wp2_with fail
                go_roundg (gk - 1)
                case measure => omega
                case rel => exact ⟨j + 1, n + 1, by go_num, by rw [Hds.out, Hd.out]; simp, by go_num, by omega, by rw [Hcs.out]; omega, rfl⟩
              | false =>
                have Hd := Lib.hid hd
                clear hd
                go_wp2_with fail
                go_roundg (gk - 1)
                case measure => omega
                case rel => exact ⟨j + 1, n + 1, by go_num, by rw [Hds.out, Hd.out]; simp, by go_num, by omega, by rw [Hcs.out]; omega, rfl⟩
          case' neg =>
            have hje : j = l.length := by omega
            have hnn : (s : Int) + cntR Y2 = (n : Int) := by
              rw [hn, hje, List.take_of_length_le (by omega)]; unfold cntR; push_cast; rfl
            have hdd : doneR l Y2 = dnR l Y2 j := by rw [hje]; rfl
            have hov := Hov.out
            rw [hdd, hnn] at hov
            cases hd : dnR l Y2 j with
            | true =>
              rw [hd, if_pos rfl] at hov
              have Hov := Lib.hid hov
              clear hov hd hdd hnn
              go_wp2_with fail
              try rw [Exit.noGoto_ret]
              exact bodyPost_ret (v := .tuple #[.bool true, .int .i64 (n : Int), .int .i64 0]) (by simp [results, Try.results33, go_sem]) rfl ⟨by rw [Hres.out, ← Hov.out], hB1.trans (HB5.out.mono hb0)⟩
            | false =>
              rw [hd, if_neg (by simp)] at hov
              have Hov := Lib.hid hov
              clear hov hd hdd hnn
              go_wp2_with fail
              go_roundg (subj.length - a)
              case measure => omega
              case rel => exact ⟨a + 1, n, T2, Y2, by go_num, rfl, by go_num, ⟨by omega, by omega, by rw [show subj.length + 1 - (a + 1) = subj.length - a by omega]; exact Hov.out, HT5.out, hzr, fun e => by omega, HB5.out⟩⟩
end Go.Proofs.Ytdpmbanfaigmcaa

/- What a tree describes, and that its machine's ways are just that. Plain: no program in sight. -/
set_option linter.unusedVariables false
set_option linter.unusedSimpArgs false
namespace Go.Proofs.Ytdpmbanfaigmcaa
open Go.RowKit

abbrev Rel := Nat → Nat → Prop
def comp (R S : Rel) : Rel := fun i j => ∃ k, R i k ∧ S k j
def powR (R : Rel) : Nat → Rel
  | 0 => fun i j => i = j
  | n + 1 => comp R (powR R n)
theorem powR_snoc {R : Rel} : ∀ {n i j : Nat}, powR R (n + 1) i j ↔ ∃ k, powR R n i k ∧ R k j
  | 0, i, j => by
    constructor
    · rintro ⟨k, h, rfl⟩; exact ⟨i, rfl, h⟩
    · rintro ⟨k, rfl, h⟩; exact ⟨j, h, rfl⟩
  | n + 1, i, j => by
    constructor
    · rintro ⟨k, h, h2⟩
      obtain ⟨m, h3, h4⟩ := powR_snoc.1 h2
      exact ⟨m, ⟨k, h, h3⟩, h4⟩
    · rintro ⟨m, ⟨k, h, h3⟩, h4⟩
      exact ⟨k, h, powR_snoc.2 ⟨m, h3, h4⟩⟩
theorem powR_add {R : Rel} : ∀ {n m i j : Nat}, powR R (n + m) i j ↔ ∃ k, powR R n i k ∧ powR R m k j
  | 0, m, i, j => by
    rw [Nat.zero_add]
    exact ⟨fun h => ⟨i, rfl, h⟩, fun ⟨k, e, h⟩ => by cases (show i = k from e); exact h⟩
  | n + 1, m, i, j => by
    rw [show n + 1 + m = (n + m) + 1 by omega]
    constructor
    · rintro ⟨k, h, h2⟩
      obtain ⟨q, h3, h4⟩ := powR_add.1 h2
      exact ⟨q, ⟨k, h, h3⟩, h4⟩
    · rintro ⟨q, ⟨k, h, h3⟩, h4⟩
      exact ⟨k, h, powR_add.2 ⟨q, h3, h4⟩⟩
theorem powR_one {R : Rel} {i j : Nat} : powR R 1 i j ↔ R i j := ⟨fun ⟨k, h, e⟩ => by cases (show k = j from e); exact h, fun h => ⟨j, h, rfl⟩⟩
theorem powR_id {R : Rel} (h : ∀ i j, R i j ↔ i = j) : ∀ n i j, powR R n i j ↔ i = j
  | 0, i, j => Iff.rfl
  | n + 1, i, j => by
    constructor
    · rintro ⟨k, h1, h2⟩
      rw [h] at h1; rw [powR_id h n] at h2; exact h1.trans h2
    · rintro rfl
      exact ⟨i, (h i i).2 rfl, (powR_id h n i i).2 rfl⟩

mutual
/-- A tree describes the piece from i tu j. -/
def den (s : List UInt8) : T → Rel
  | .mk k s0 s1 s2 s3 mn mx ps =>
    if k = 1 then fun i j => i < s.length ∧ j = i + 1 ∧ bitS ⟨1, s0, s1, s2, s3, 0, 0⟩ (byteN s (i + 1)) = true
    else if k = 2 then fun i j => i = 0 ∧ j = i
    else if k = 3 then fun i j => i = s.length ∧ j = i
    else if k = 4 then denRow s ps
    else if k = 5 then denAlt s ps
    else if k = 6 then fun i j => ∃ n : Nat, mn.toNat ≤ n ∧ (mx < 0 ∨ n ≤ mx.toNat) ∧ powR (denHead s ps) n i j
    else fun i j => i = j
def denRow (s : List UInt8) : List T → Rel
  | [] => fun i j => i = j
  | p :: ps => comp (den s p) (denRow s ps)
def denAlt (s : List UInt8) : List T → Rel
  | [] => fun _ _ => False
  | p :: ps => fun i j => den s p i j ∨ denAlt s ps i j
def denHead (s : List UInt8) : List T → Rel
  | [] => fun i j => i = j
  | p :: _ => den s p
end
theorem den_eq (s : List UInt8) (t : T) : den s t =
    if t.k = 1 then fun i j => i < s.length ∧ j = i + 1 ∧ bitS ⟨1, t.s0, t.s1, t.s2, t.s3, 0, 0⟩ (byteN s (i + 1)) = true
    else if t.k = 2 then fun i j => i = 0 ∧ j = i
    else if t.k = 3 then fun i j => i = s.length ∧ j = i
    else if t.k = 4 then denRow s t.ps
    else if t.k = 5 then denAlt s t.ps
    else if t.k = 6 then fun i j => ∃ n : Nat, t.mn.toNat ≤ n ∧ (t.mx < 0 ∨ n ≤ t.mx.toNat) ∧ powR (denHead s t.ps) n i j
    else fun i j => i = j := by cases t; rw [den]; rfl
theorem denAlt_iff (s : List UInt8) (i j : Nat) : ∀ ps : List T, denAlt s ps i j ↔ ∃ p ∈ ps, den s p i j
  | [] => by simp [denAlt]
  | p :: ps => by simp [denAlt, denAlt_iff s i j ps]

/-- A machine's ways over a text, so many steps. -/
inductive PthN (M : Nat → St) (s : List UInt8) : Nat → Nat → Nat → Nat → Nat → Prop where
  | refl (x i : Nat) : PthN M s 0 x i x i
  | eps {m x i z y k : Nat} : z ∈ outs (i == 0) (i == s.length) (M x) → PthN M s m z i y k → PthN M s (m + 1) x i y k
  | eat {m x i y k : Nat} : i < s.length → takes (M x) (byteN s (i + 1)) = true → PthN M s m (M x).nx.toNat (i + 1) y k → PthN M s (m + 1) x i y k
def Pth (M : Nat → St) (s : List UInt8) (x i y k : Nat) : Prop := ∃ m, PthN M s m x i y k
theorem PthN.trans {M : Nat → St} {s : List UInt8} {m n x i y j z k : Nat} (h : PthN M s m x i y j) (h2 : PthN M s n y j z k) : PthN M s (m + n) x i z k := by
  induction h with
  | refl => simpa using h2
  | eps he _ ih => rw [show ∀ a : Nat, a + 1 + n = (a + n) + 1 by omega]; exact .eps he (ih h2)
  | eat h1 he _ ih => rw [show ∀ a : Nat, a + 1 + n = (a + n) + 1 by omega]; exact .eat h1 he (ih h2)
theorem Pth.refl {M : Nat → St} {s : List UInt8} (x i : Nat) : Pth M s x i x i := ⟨0, .refl x i⟩
theorem Pth.trans {M : Nat → St} {s : List UInt8} {x i y j z k : Nat} (h : Pth M s x i y j) (h2 : Pth M s y j z k) : Pth M s x i z k := by
  obtain ⟨m, h⟩ := h; obtain ⟨n, h2⟩ := h2; exact ⟨_, h.trans h2⟩
theorem Pth.eps1 {M : Nat → St} {s : List UInt8} {x i z : Nat} (h : z ∈ outs (i == 0) (i == s.length) (M x)) : Pth M s x i z i := ⟨1, .eps h (.refl _ _)⟩
theorem PthN.le {M : Nat → St} {s : List UInt8} {m x i y j : Nat} (h : PthN M s m x i y j) : i ≤ j := by
  induction h with
  | refl => exact Nat.le_refl _
  | eps _ _ ih => exact ih
  | eat _ _ _ ih => omega
theorem PthN.bd {M : Nat → St} {s : List UInt8} {m x i y j : Nat} (h : PthN M s m x i y j) (hi : i ≤ s.length) : j ≤ s.length := by
  induction h with
  | refl => exact hi
  | eps _ _ ih => exact ih hi
  | eat h1 _ _ ih => exact ih h1

/-- The machine is a list's on a stretch. -/
def Agr (M : Nat → St) (l : List St) (a : Nat) : Prop := ∀ i, a ≤ i → i < l.length → M i = stN l i
def Ext (l l' : List St) : Prop := l.length ≤ l'.length ∧ ∀ i, i < l.length → stN l' i = stN l i
theorem Ext.refl (l : List St) : Ext l l := ⟨Nat.le_refl _, fun _ _ => rfl⟩
theorem Ext.trans {a b c : List St} (h : Ext a b) (k : Ext b c) : Ext a c := ⟨Nat.le_trans h.1 k.1, fun i hi => (k.2 i (by have := h.1; omega)).trans (h.2 i hi)⟩
theorem stN_app (l : List St) (x : St) (i : Nat) (hi : i < l.length) : stN (l ++ [x]) i = stN l i := by
  unfold stN; rw [List.getD_eq_getElem?_getD, List.getD_eq_getElem?_getD, List.getElem?_append_left hi]
theorem stN_last (l : List St) (x : St) : stN (l ++ [x]) l.length = x := by
  unfold stN; rw [List.getD_eq_getElem?_getD, List.getElem?_append_right (Nat.le_refl _)]; simp
theorem Ext.app (l : List St) (x : St) : Ext l (l ++ [x]) := ⟨by simp, fun i hi => stN_app l x i hi⟩
theorem Agr.ext {M : Nat → St} {l l' : List St} {a : Nat} (h : Agr M l' a) (e : Ext l l') : Agr M l a := fun i h1 h2 => (h i h1 (by have := e.1; omega)).trans (e.2 i h2)
theorem Agr.from {M : Nat → St} {l : List St} {a b : Nat} (h : Agr M l a) (e : a ≤ b) : Agr M l b := fun i h1 h2 => h i (by omega) h2

/-- A way of laying lays just what describes. -/
structure Impl (s : List UInt8) (p : LF) (R : Rel) : Prop where
  ext : ∀ (tu : Int) (l : List St), 0 ≤ tu → tu < l.length → Ext l (p tu l).2 ∧ 0 ≤ (p tu l).1 ∧ (p tu l).1 < (p tu l).2.length
  nil : ∀ (tu : Int) (l : List St), 0 ≤ tu → tu < l.length → (p tu l).2.length = l.length → (p tu l).1 = tu ∧ ∀ i j, R i j ↔ i = j
  comp : ∀ (tu : Int) (l : List St), 0 ≤ tu → tu < l.length → ∀ M, Agr M (p tu l).2 l.length → ∀ i j, R i j → Pth M s (p tu l).1.toNat i tu.toNat j
  sound : ∀ (tu : Int) (l : List St), 0 ≤ tu → tu < l.length → ∀ M, Agr M (p tu l).2 l.length → ∀ m i y k, (y < l.length ∨ (p tu l).2.length ≤ y) → PthN M s m (p tu l).1.toNat i y k → ∃ j m', m' ≤ m ∧ R i j ∧ PthN M s m' tu.toNat j y k

theorem impl_id {s : List UInt8} {p : LF} {R : Rel} (hp : ∀ tu l, p tu l = (tu, l)) (hR : ∀ i j, R i j ↔ i = j) : Impl s p R where
  ext tu l h0 h1 := by rw [hp]; exact ⟨.refl l, h0, h1⟩
  nil tu l h0 h1 _ := by rw [hp]; exact ⟨rfl, hR⟩
  comp tu l h0 h1 M hM i j h := by rw [hp]; cases (hR i j).1 h; exact .refl _ _
  sound tu l h0 h1 M hM m i y k hy h := by rw [hp] at h; exact ⟨i, m, Nat.le_refl _, (hR i i).2 rfl, h⟩
theorem Impl.iff {s : List UInt8} {p : LF} {R S : Rel} (h : Impl s p R) (e : ∀ i j, R i j ↔ S i j) : Impl s p S := by
  have : R = S := by funext i j; exact propext (e i j)
  exact this ▸ h

/-- One state. -/
theorem impl_one {s : List UInt8} {p : LF} {R : Rel} (f : Int → St) (hp : ∀ tu l, p tu l = ((l.length : Int), l ++ [f tu])) (h1 : ∀ M tu x i j, M x = f tu → R i j → Pth M s x i tu.toNat j)
    (h2 : ∀ M tu x m i y k, M x = f tu → y ≠ x → PthN M s m x i y k → ∃ j m', m' ≤ m ∧ R i j ∧ PthN M s m' tu.toNat j y k) : Impl s p R where
  ext tu l _ _ := by rw [hp]; exact ⟨.app _ _, by simp only; omega, by simp; omega⟩
  nil tu l _ _ h := by rw [hp] at h; simp at h
  comp tu l h0 hl M hM i j h := by
    rw [hp] at hM ⊢
    exact h1 M tu _ i j (by rw [Int.toNat_natCast, hM _ (Nat.le_refl _) (by simp), stN_last]) h
  sound tu l h0 hl M hM m i y k hy h := by
    rw [hp] at hM hy h
    simp only [Int.toNat_natCast] at h
    exact h2 M tu _ m i y k (by rw [hM _ (Nat.le_refl _) (by simp), stN_last]) (by simp at hy; omega) h

/-- One behind the other: q is laid first. -/
theorem Impl.seq {s : List UInt8} {p q : LF} {R S : Rel} (hp : Impl s p R) (hq : Impl s q S) : Impl s (fun tu l => p (q tu l).1 (q tu l).2) (Go.Proofs.Ytdpmbanfaigmcaa.comp R S) where
  ext tu l h0 h1 := by
    obtain ⟨a, b, c⟩ := hq.ext tu l h0 h1
    obtain ⟨d, e, f⟩ := hp.ext _ _ b c
    exact ⟨a.trans d, e, f⟩
  nil tu l h0 h1 hl := by
    obtain ⟨a, b, c⟩ := hq.ext tu l h0 h1
    obtain ⟨d, e, f⟩ := hp.ext _ _ b c
    have := a.1; have := d.1
    try simp only at hl
    obtain ⟨n1, n2⟩ := hq.nil tu l h0 h1 (by omega)
    obtain ⟨n3, n4⟩ := hp.nil _ _ b c (by omega)
    refine ⟨n3.trans n1, fun i j => ⟨?_, ?_⟩⟩
    · rintro ⟨k, h, h'⟩; rw [n4] at h; rw [n2] at h'; exact h.trans h'
    · rintro rfl; exact ⟨i, (n4 _ _).2 rfl, (n2 _ _).2 rfl⟩
  comp tu l h0 h1 M hM i j h := by
    obtain ⟨a, b, c⟩ := hq.ext tu l h0 h1
    obtain ⟨d, e, f⟩ := hp.ext _ _ b c
    obtain ⟨k, h2, h3⟩ := h
    exact (hp.comp _ _ b c M (hM.from a.1) i k h2).trans (hq.comp tu l h0 h1 M (hM.ext d) k j h3)
  sound tu l h0 h1 M hM m i y k hy h := by
    obtain ⟨a, b, c⟩ := hq.ext tu l h0 h1
    obtain ⟨d, e, f⟩ := hp.ext _ _ b c
    have := a.1; have := d.1
    try simp only at hy
    obtain ⟨j, m1, hm1, hr, h2⟩ := hp.sound _ _ b c M (hM.from a.1) m i y k (by omega) h
    obtain ⟨j2, m2, hm2, hs, h3⟩ := hq.sound tu l h0 h1 M (hM.ext d) m1 j y k (by omega) h2
    exact ⟨j2, m2, by omega, ⟨j, hr, hs⟩, h3⟩

theorem outs_split (b e : Bool) (x y : Int) : outs b e (splitS x y) = [x.toNat, y.toNat] := rfl
theorem takes_split (x y : Int) (c : Nat) : takes (splitS x y) c = false := rfl
/-- From a split. -/
theorem split_cases {M : Nat → St} {s : List UInt8} {m x i y k : Nat} {a b : Int} (hM : M x = splitS a b) (hy : y ≠ x) (h : PthN M s m x i y k) : (∃ m', m' < m ∧ PthN M s m' a.toNat i y k) ∨ ∃ m', m' < m ∧ PthN M s m' b.toNat i y k := by
  cases h with
  | refl => exact absurd rfl hy
  | eps he h =>
    rw [hM, outs_split] at he
    simp only [List.mem_cons, List.not_mem_nil, or_false] at he
    rcases he with rfl | rfl
    · exact .inl ⟨_, by omega, h⟩
    · exact .inr ⟨_, by omega, h⟩
  | eat _ he _ => rw [hM, takes_split] at he; cases he

/-- At most so many. -/
theorem opt_impl {s : List UInt8} {p : LF} {R : Rel} (hp : Impl s p R) (tu : Int) (h0 : 0 ≤ tu) : ∀ (n : Nat) (t : Int) (l : List St), tu < l.length → 0 ≤ t → t < l.length →
    Ext l (optF p tu n t l).2 ∧ (0 ≤ (optF p tu n t l).1 ∧ (optF p tu n t l).1 < (optF p tu n t l).2.length) ∧ l.length + n ≤ (optF p tu n t l).2.length ∧
    ∀ M, Agr M (optF p tu n t l).2 l.length →
      (∀ i j, powR R n i j → Pth M s (optF p tu n t l).1.toNat i t.toNat j) ∧ (∀ a i j, a < n → powR R a i j → Pth M s (optF p tu n t l).1.toNat i tu.toNat j) ∧
      ∀ m i y k, (y < l.length ∨ (optF p tu n t l).2.length ≤ y) → PthN M s m (optF p tu n t l).1.toNat i y k → (∃ a j m', a < n ∧ m' ≤ m ∧ powR R a i j ∧ PthN M s m' tu.toNat j y k) ∨ ∃ j m', m' ≤ m ∧ powR R n i j ∧ PthN M s m' t.toNat j y k
  | 0, t, l, h1, h2, h3 => by
    rw [optF]
    exact ⟨.refl l, ⟨h2, h3⟩, by simp, fun M hM => ⟨fun i j h => by cases (show i = j from h); exact .refl _ _, fun a i j ha => by omega, fun m i y k _ h => .inr ⟨i, m, Nat.le_refl _, rfl, h⟩⟩⟩
  | n + 1, t, l, h1, h2, h3 => by
    obtain ⟨e1, x0, x1⟩ := hp.ext t l h2 h3
    have g1 := e1.1
    rw [optF]
    generalize hx : (p t l).1 = x at *
    generalize hq : (p t l).2 = q at *
    have hql : ((q ++ [splitS x tu]).length : Int) = q.length + 1 := by simp
    obtain ⟨e2, y0, y1, hB⟩ := opt_impl hp tu h0 n (q.length : Int) (q ++ [splitS x tu]) (by omega) (by omega) (by omega)
    have g2 := e2.1
    have hlq : (q ++ [splitS x tu]).length = q.length + 1 := by simp
    have e3 : Ext l (q ++ [splitS x tu]) := e1.trans (.app _ _)
    refine ⟨e3.trans e2, y0, by omega, fun M hM => ?_⟩
    obtain ⟨b1, b2, b3⟩ := hB M (hM.from (by omega))
    have hA := hM.ext e2
    have hMt : M q.length = splitS x tu := by rw [hA _ (by omega) (by omega), stN_last]
    have hAp : Agr M q l.length := hA.ext (.app _ _)
    have hAp' : Agr M (p t l).2 l.length := by rw [hq]; exact hAp
    refine ⟨fun i j h => ?_, fun a i j ha h => ?_, fun m i y k hy h => ?_⟩
    · obtain ⟨j1, h4, h5⟩ := powR_snoc.1 h
      have c1 := b1 i j1 h4
      rw [Int.toNat_natCast] at c1
      refine c1.trans ((Pth.eps1 (z := x.toNat) (by rw [hMt, outs_split]; simp)).trans ?_)
      have := hp.comp t l h2 h3 M hAp' j1 j h5
      rwa [hx] at this
    · rcases Nat.lt_or_ge a n with hlt | hge
      · exact b2 a i j hlt h
      · have : a = n := by omega
        subst this
        have c1 := b1 i j h
        rw [Int.toNat_natCast] at c1
        exact c1.trans (Pth.eps1 (by rw [hMt, outs_split]; simp))
    · rcases b3 m i y k (by omega) h with ⟨a, j, m', ha, hm', hr, h6⟩ | ⟨j, m', hm', hr, h6⟩
      · exact .inl ⟨a, j, m', by omega, hm', hr, h6⟩
      · rw [Int.toNat_natCast] at h6
        rcases split_cases hMt (by omega) h6 with ⟨m2, hm2, h7⟩ | ⟨m2, hm2, h7⟩
        · obtain ⟨j2, m3, hm3, hr2, h8⟩ := hp.sound t l h2 h3 M hAp' m2 j y k (by rw [hq]; omega) (by rw [hx]; exact h7)
          exact .inr ⟨j2, m3, by omega, powR_snoc.2 ⟨j, hr, hr2⟩, h8⟩
        · exact .inl ⟨n, j, m2, by omega, by omega, hr, h7⟩
theorem optR_impl {s : List UInt8} {p : LF} {R : Rel} (hp : Impl s p R) (n : Nat) : Impl s (fun tu l => optF p tu n tu l) (fun i j => ∃ a, a ≤ n ∧ powR R a i j) where
  ext tu l h0 h1 := by obtain ⟨a, b, _⟩ := opt_impl hp tu h0 n tu l h1 h0 h1; exact ⟨a, b⟩
  nil tu l h0 h1 hl := by
    obtain ⟨_, _, c, _⟩ := opt_impl hp tu h0 n tu l h1 h0 h1
    have hn : n = 0 := by omega
    subst hn
    refine ⟨by simp only [optF], fun i j => ⟨?_, fun h => ⟨0, Nat.le_refl _, h⟩⟩⟩
    rintro ⟨a, ha, h⟩
    have : a = 0 := by omega
    subst this
    exact h
  comp tu l h0 h1 M hM i j h := by
    obtain ⟨_, _, _, d⟩ := opt_impl hp tu h0 n tu l h1 h0 h1
    obtain ⟨d1, d2, _⟩ := d M hM
    obtain ⟨a, ha, h⟩ := h
    rcases Nat.lt_or_ge a n with hlt | hge
    · exact d2 a i j hlt h
    · have : a = n := by omega
      subst this
      exact d1 i j h
  sound tu l h0 h1 M hM m i y k hy h := by
    obtain ⟨_, _, _, d⟩ := opt_impl hp tu h0 n tu l h1 h0 h1
    obtain ⟨_, _, d3⟩ := d M hM
    rcases d3 m i y k hy h with ⟨a, j, m', ha, hm, hr, h2⟩ | ⟨j, m', hm, hr, h2⟩
    · exact ⟨j, m', hm, ⟨a, by omega, hr⟩, h2⟩
    · exact ⟨j, m', hm, ⟨n, Nat.le_refl _, hr⟩, h2⟩

/-- So many times, as long as it lays something. -/
theorem min_impl {s : List UInt8} {p : LF} {R : Rel} (hp : Impl s p R) : ∀ n, Impl s (minF p n) (powR R n)
  | 0 => impl_id (fun tu l => rfl) (fun i j => Iff.rfl)
  | n + 1 => by
    have ih := min_impl hp n
    have hsq := ih.seq hp
    have key : ∀ tu l, 0 ≤ tu → tu < (l.length : Int) → (minF p (n + 1) tu l = minF p n (p tu l).1 (p tu l).2) ∨ (minF p (n + 1) tu l = p tu l ∧ ∀ i j, R i j ↔ i = j) := fun tu l h0 h1 => by
      rw [minF]
      split
      · rename_i hl
        exact .inr ⟨rfl, (hp.nil tu l h0 h1 hl).2⟩
      · exact .inl rfl
    have hR : ∀ i j, powR R (n + 1) i j ↔ Go.Proofs.Ytdpmbanfaigmcaa.comp (powR R n) R i j := fun i j => powR_snoc
    refine ⟨fun tu l h0 h1 => ?_, fun tu l h0 h1 hl => ?_, fun tu l h0 h1 M hM i j h => ?_, fun tu l h0 h1 M hM m i y k hy h => ?_⟩
    · rcases key tu l h0 h1 with e | ⟨e, _⟩
      · rw [e]; exact hsq.ext tu l h0 h1
      · rw [e]; exact hp.ext tu l h0 h1
    · rcases key tu l h0 h1 with e | ⟨e, he⟩
      · rw [e] at hl ⊢
        obtain ⟨a, b⟩ := hsq.nil tu l h0 h1 hl
        exact ⟨a, fun i j => (hR i j).trans (b i j)⟩
      · rw [e] at hl ⊢
        exact ⟨(hp.nil tu l h0 h1 hl).1, powR_id he _⟩
    · rcases key tu l h0 h1 with e | ⟨e, he⟩
      · rw [e] at hM ⊢
        exact hsq.comp tu l h0 h1 M hM i j ((hR i j).1 h)
      · rw [e] at hM ⊢
        exact hp.comp tu l h0 h1 M hM i j ((he i j).2 ((powR_id he _ i j).1 h))
    · rcases key tu l h0 h1 with e | ⟨e, he⟩
      · rw [e] at hM hy h
        obtain ⟨j, m', hm, hr, h2⟩ := hsq.sound tu l h0 h1 M hM m i y k hy h
        exact ⟨j, m', hm, (hR i j).2 hr, h2⟩
      · rw [e] at hM hy h
        obtain ⟨j, m', hm, hr, h2⟩ := hp.sound tu l h0 h1 M hM m i y k hy h
        exact ⟨j, m', hm, (powR_id he _ i j).2 ((he i j).1 hr), h2⟩

theorem setNx_len (l : List St) (i : Nat) (x : Int) : (setNx l i x).length = l.length := by simp [setNx]
theorem setNx_other (l : List St) (i j : Nat) (x : Int) (h : j ≠ i) : stN (setNx l i x) j = stN l j := by
  unfold stN setNx
  rw [List.getD_eq_getElem?_getD, List.getD_eq_getElem?_getD, List.getElem?_modify, show ((fun s : St => if i = j then { s with nx := x } else s) <$> l[j]?).getD default = l[j]?.getD default from ?_]
  rw [show (fun s : St => if i = j then { s with nx := x } else s) = id from by funext a; rw [if_neg (fun e => h e.symm)]; rfl]
  cases l[j]? <;> rfl
theorem setNx_same (l : List St) (i : Nat) (x : Int) (h : i < l.length) : stN (setNx l i x) i = { stN l i with nx := x } := by
  unfold stN setNx
  rw [List.getD_eq_getElem?_getD, List.getD_eq_getElem?_getD, List.getElem?_modify, List.getElem?_eq_getElem h]
  simp
/-- However often. -/
theorem star_impl {s : List UInt8} {p : LF} {R : Rel} (hp : Impl s p R) : Impl s (starF p) (fun i j => ∃ a, powR R a i j) := by
  have pre : ∀ (tu : Int) (l : List St), 0 ≤ tu → tu < l.length → Ext (l ++ [splitS 0 tu]) (p l.length (l ++ [splitS 0 tu])).2 ∧ 0 ≤ (p l.length (l ++ [splitS 0 tu])).1 ∧ (p l.length (l ++ [splitS 0 tu])).1 < (p l.length (l ++ [splitS 0 tu])).2.length :=
    fun tu l h0 h1 => hp.ext _ _ (by omega) (by simp; omega)
  have hM0 : ∀ (tu : Int) (l : List St), 0 ≤ tu → tu < l.length → ∀ M, Agr M (starF p tu l).2 l.length → M l.length = splitS (p l.length (l ++ [splitS 0 tu])).1 tu ∧ Agr M (p l.length (l ++ [splitS 0 tu])).2 (l ++ [splitS 0 tu]).length := fun tu l h0 h1 M hM => by
    obtain ⟨e1, x0, x1⟩ := pre tu l h0 h1
    have g := e1.1
    have g' : (l ++ [splitS 0 tu]).length = l.length + 1 := by simp
    constructor
    · rw [hM l.length (Nat.le_refl _) (by simp only [starF, setNx_len]; omega)]
      simp only [starF]
      rw [setNx_same _ _ _ (by omega), e1.2 _ (by omega), stN_last]; rfl
    · intro i h2 h3
      rw [hM i (by omega) (by simp only [starF, setNx_len]; omega)]
      simp only [starF]
      rw [setNx_other _ _ _ _ (by omega)]
  have g' : ∀ (tu : Int) (l : List St), (l ++ [splitS 0 tu]).length = l.length + 1 := fun tu l => by simp
  refine ⟨fun tu l h0 h1 => ?_, fun tu l h0 h1 hl => ?_, fun tu l h0 h1 M hM i j h => ?_, fun tu l h0 h1 M hM m i y k hy h => ?_⟩
  · obtain ⟨e1, x0, x1⟩ := pre tu l h0 h1
    have g := e1.1
    refine ⟨⟨by simp only [starF, setNx_len]; have := g' tu l; omega, fun i hi => ?_⟩, by simp only [starF]; omega, by simp only [starF, setNx_len]; have := g' tu l; omega⟩
    simp only [starF]
    rw [setNx_other _ _ _ _ (by omega), e1.2 i (by have := g' tu l; omega), stN_app _ _ _ hi]
  · obtain ⟨e1, x0, x1⟩ := pre tu l h0 h1
    have g := e1.1
    simp only [starF, setNx_len] at hl
    have := g' tu l
    omega
  · obtain ⟨m1, m2⟩ := hM0 tu l h0 h1 M hM
    obtain ⟨a, h⟩ := h
    simp only [starF, Int.toNat_natCast]
    induction a generalizing i with
    | zero => cases (show i = j from h); exact Pth.eps1 (by rw [m1, outs_split]; simp)
    | succ a ih =>
      obtain ⟨k, h2, h3⟩ := h
      have c := hp.comp l.length (l ++ [splitS 0 tu]) (by omega) (by simp; omega) M m2 i k h2
      rw [Int.toNat_natCast] at c
      exact ((Pth.eps1 (by rw [m1, outs_split]; simp)).trans c).trans (ih k h3)
  · obtain ⟨m1, m2⟩ := hM0 tu l h0 h1 M hM
    obtain ⟨e1, x0, x1⟩ := pre tu l h0 h1
    have g := e1.1
    have g2 := g' tu l
    simp only [starF, Int.toNat_natCast, setNx_len] at h hy
    induction m using Nat.strongRecOn generalizing i with
    | _ m ih =>
      rcases split_cases m1 (by omega) h with ⟨m3, hm3, h4⟩ | ⟨m3, hm3, h4⟩
      · obtain ⟨j, m4, hm4, hr, h5⟩ := hp.sound l.length (l ++ [splitS 0 tu]) (by omega) (by simp; omega) M m2 m3 i y k (by omega) h4
        rw [Int.toNat_natCast] at h5
        obtain ⟨j2, m5, hm5, ⟨a, hr2⟩, h6⟩ := ih m4 (by omega) j h5
        exact ⟨j2, m5, by omega, ⟨a + 1, j, hr, hr2⟩, h6⟩
      · exact ⟨i, m3, by omega, ⟨0, rfl⟩, h4⟩
theorem rep_impl {s : List UInt8} {p : LF} {R : Rel} (hp : Impl s p R) (mn mx : Int) (h0 : 0 ≤ mn) (hx : mx < 0 ∨ mn ≤ mx) : Impl s (repF mn mx p) (fun i j => ∃ n : Nat, mn.toNat ≤ n ∧ (mx < 0 ∨ n ≤ mx.toNat) ∧ powR R n i j) := by
  by_cases hm : mx < 0
  · have h := (min_impl hp mn.toNat).seq (star_impl hp)
    have e : (fun tu l => minF p mn.toNat (starF p tu l).1 (starF p tu l).2) = repF mn mx p := by funext tu l; unfold repF; simp only [if_pos hm]
    rw [e] at h
    refine h.iff fun i j => ⟨?_, ?_⟩
    · rintro ⟨k, h1, a, h2⟩
      exact ⟨mn.toNat + a, by omega, .inl hm, powR_add.2 ⟨k, h1, h2⟩⟩
    · rintro ⟨n, h1, _, h2⟩
      rw [show n = mn.toNat + (n - mn.toNat) by omega, powR_add] at h2
      obtain ⟨k, h3, h4⟩ := h2
      exact ⟨k, h3, _, h4⟩
  · have h := (min_impl hp mn.toNat).seq (optR_impl hp (mx - mn).toNat)
    have e : (fun tu l => minF p mn.toNat (optF p tu (mx - mn).toNat tu l).1 (optF p tu (mx - mn).toNat tu l).2) = repF mn mx p := by funext tu l; unfold repF; simp only [if_neg hm]
    rw [e] at h
    refine h.iff fun i j => ⟨?_, ?_⟩
    · rintro ⟨k, h1, a, ha, h2⟩
      exact ⟨mn.toNat + a, by omega, .inr (by omega), powR_add.2 ⟨k, h1, h2⟩⟩
    · rintro ⟨n, h1, h3, h2⟩
      rw [show n = mn.toNat + (n - mn.toNat) by omega, powR_add] at h2
      obtain ⟨k, h4, h5⟩ := h2
      exact ⟨k, h4, _, by omega, h5⟩

theorem row_impl {s : List UInt8} : ∀ (ps : List T), (∀ p ∈ ps, Impl s (layF p) (den s p)) → Impl s (rowF ps) (denRow s ps)
  | [], _ => impl_id (fun tu l => by rw [rowF]) (fun i j => by rw [denRow])
  | p :: ps, h => by
    have := (h p (List.mem_cons_self ..)).seq (row_impl ps fun q hq => h q (List.mem_cons_of_mem _ hq))
    have e : (fun tu l => layF p (rowF ps tu l).1 (rowF ps tu l).2) = rowF (p :: ps) := by funext tu l; rw [rowF]
    rw [e] at this
    rw [denRow]; exact this

/-- The begins of a choice. -/
theorem beg_impl {s : List UInt8} (tu : Int) (h0 : 0 ≤ tu) : ∀ (ps : List T), (∀ p ∈ ps, Impl s (layF p) (den s p)) → ∀ l : List St, tu < l.length →
    Ext l (begF ps tu l).2 ∧ (∀ b ∈ (begF ps tu l).1, 0 ≤ b ∧ b < (begF ps tu l).2.length) ∧
    ∀ M, Agr M (begF ps tu l).2 l.length →
      (∀ i j, denAlt s ps i j → ∃ b ∈ (begF ps tu l).1, Pth M s b.toNat i tu.toNat j) ∧
      ∀ b ∈ (begF ps tu l).1, ∀ m i y k, (y < l.length ∨ (begF ps tu l).2.length ≤ y) → PthN M s m b.toNat i y k → ∃ j m', m' ≤ m ∧ denAlt s ps i j ∧ PthN M s m' tu.toNat j y k
  | [], _, l, h1 => by
    rw [begF]
    exact ⟨.refl l, fun b hb => (List.not_mem_nil hb).elim, fun M hM => ⟨fun i j h => by rw [denAlt] at h; exact h.elim, fun b hb => (List.not_mem_nil hb).elim⟩⟩
  | p :: ps, h, l, h1 => by
    have hp := h p (List.mem_cons_self ..)
    obtain ⟨e1, x0, x1⟩ := hp.ext tu l h0 h1
    have g1 := e1.1
    obtain ⟨e2, y0, hB⟩ := beg_impl tu h0 ps (fun q hq => h q (List.mem_cons_of_mem _ hq)) (layF p tu l).2 (by omega)
    have g2 := e2.1
    rw [begF]
    refine ⟨e1.trans e2, fun b hb => ?_, fun M hM => ?_⟩
    · simp only [List.mem_cons] at hb ⊢
      rcases hb with rfl | hb
      · omega
      · exact y0 b hb
    · simp only at hM
      obtain ⟨b1, b2⟩ := hB M (hM.from g1)
      have hA := hM.ext e2
      refine ⟨fun i j hd => ?_, fun b hb m i y k hy hP => ?_⟩
      · rw [denAlt] at hd
        rcases hd with hd | hd
        · exact ⟨_, List.mem_cons_self .., hp.comp tu l h0 h1 M hA i j hd⟩
        · obtain ⟨b, hb, hh⟩ := b1 i j hd
          exact ⟨b, List.mem_cons_of_mem _ hb, hh⟩
      · simp only [List.mem_cons] at hb
        simp only at hy
        rcases hb with rfl | hb
        · obtain ⟨j, m', hm, hr, h3⟩ := hp.sound tu l h0 h1 M hA m i y k (by omega) hP
          exact ⟨j, m', hm, by rw [denAlt]; exact .inl hr, h3⟩
        · obtain ⟨j, m', hm, hr, h3⟩ := b2 b hb m i y k (by omega) hP
          exact ⟨j, m', hm, by rw [denAlt]; exact .inr hr, h3⟩
/-- The splits of a choice. -/
theorem splits_impl {s : List UInt8} : ∀ (bs : List Int) (l : List St), bs ≠ [] → (∀ b ∈ bs, 0 ≤ b ∧ b < (l.length : Int)) →
    Ext l (splitsF bs l).2 ∧ (0 ≤ (splitsF bs l).1 ∧ (splitsF bs l).1 < (splitsF bs l).2.length) ∧
    ∀ M, Agr M (splitsF bs l).2 l.length →
      (∀ b ∈ bs, ∀ i, Pth M s (splitsF bs l).1.toNat i b.toNat i) ∧
      ∀ m i y k, (y < l.length ∨ (splitsF bs l).2.length ≤ y) → PthN M s m (splitsF bs l).1.toNat i y k → ∃ b ∈ bs, ∃ m', m' ≤ m ∧ PthN M s m' b.toNat i y k
  | [], l, h, _ => absurd rfl h
  | [x], l, _, h => by
    rw [splitsF]
    exact ⟨.refl l, h x (by simp), fun M hM => ⟨fun b hb i => by simp at hb; subst hb; exact .refl _ _, fun m i y k _ hP => ⟨x, by simp, m, Nat.le_refl _, hP⟩⟩⟩
  | a :: b :: bs, l, _, h => by
    obtain ⟨e1, x0, hB⟩ := splits_impl (s := s) (b :: bs) l (by simp) (fun c hc => h c (List.mem_cons_of_mem _ hc))
    have g1 := e1.1
    have ha := h a (List.mem_cons_self ..)
    rw [splitsF]
    · generalize splitsF (b :: bs) l = q at *
      obtain ⟨x, q⟩ := q
      simp only at *
      refine ⟨e1.trans (.app _ _), by simp; omega, fun M hM => ?_⟩
      have hMq : M q.length = splitS a x := by rw [hM _ g1 (by simp), stN_last]
      obtain ⟨b1, b2⟩ := hB M (hM.ext (.app _ _))
      refine ⟨fun c hc i => ?_, fun m i y k hy hP => ?_⟩
      · rw [Int.toNat_natCast]
        rcases List.mem_cons.1 hc with rfl | hc
        · exact Pth.eps1 (by rw [hMq, outs_split]; simp)
        · exact (Pth.eps1 (z := x.toNat) (by rw [hMq, outs_split]; simp)).trans (b1 c hc i)
      · rw [Int.toNat_natCast] at hP
        simp at hy
        rcases split_cases hMq (by omega) hP with ⟨m', hm, h3⟩ | ⟨m', hm, h3⟩
        · exact ⟨a, List.mem_cons_self .., m', by omega, h3⟩
        · obtain ⟨c, hc, m2, hm2, h4⟩ := b2 m' i y k (by omega) h3
          exact ⟨c, List.mem_cons_of_mem _ hc, m2, by omega, h4⟩
    · simp
theorem alt_impl {s : List UInt8} (ps : List T) (hl : 2 ≤ ps.length) (h : ∀ p ∈ ps, Impl s (layF p) (den s p)) : Impl s (fun tu l => splitsF (begF ps tu l).1 (begF ps tu l).2) (denAlt s ps) := by
  have hne : ∀ tu l, (begF ps tu l).1 ≠ [] := fun tu l e => by
    have := begF_len ps tu l
    rw [e] at this; simp at this; omega
  refine ⟨fun tu l h0 h1 => ?_, fun tu l h0 h1 hl' => ?_, fun tu l h0 h1 M hM i j hd => ?_, fun tu l h0 h1 M hM m i y k hy hP => ?_⟩
  · obtain ⟨a, b, _⟩ := beg_impl tu h0 ps h l h1
    obtain ⟨c, d, _⟩ := splits_impl (s := s) _ _ (hne tu l) b
    exact ⟨a.trans c, d⟩
  · obtain ⟨a, b, _⟩ := beg_impl tu h0 ps h l h1
    have := a.1
    try simp only at hl'
    rw [splitsF_len, begF_len] at hl'
    omega
  · obtain ⟨a, b, c⟩ := beg_impl tu h0 ps h l h1
    obtain ⟨d, e, f⟩ := splits_impl (s := s) _ _ (hne tu l) b
    obtain ⟨c1, c2⟩ := c M (hM.ext d)
    obtain ⟨f1, f2⟩ := f M (hM.from a.1)
    obtain ⟨x, hx, hh⟩ := c1 i j hd
    exact (f1 x hx i).trans hh
  · obtain ⟨a, b, c⟩ := beg_impl tu h0 ps h l h1
    obtain ⟨d, e, f⟩ := splits_impl (s := s) _ _ (hne tu l) b
    obtain ⟨c1, c2⟩ := c M (hM.ext d)
    obtain ⟨f1, f2⟩ := f M (hM.from a.1)
    have g1 := a.1; have g2 := d.1
    try simp only at hy
    obtain ⟨x, hx, m', hm, h2⟩ := f2 m i y k (by omega) hP
    obtain ⟨j, m2, hm2, hr, h3⟩ := c2 x hx m' i y k (by omega) h2
    exact ⟨j, m2, by omega, hr, h3⟩

theorem lay_impl (s : List UInt8) (t : T) : rightF t = true → Impl s (layF t) (den s t) := by
  induction t using T.ind with
  | h t ih =>
    intro hr
    have hps : ∀ p ∈ t.ps, Impl s (layF p) (den s p) := fun p hp => ih p hp (right_parts hr p hp)
    rw [show layF t = fun (tu : Int) (l : List St) => (layF t tu l) from rfl, den_eq]
    simp only [layF_eq t]
    rcases right_cases hr with ⟨hk, h⟩ | ⟨hk, h⟩ | ⟨hk, h⟩ | ⟨hk, h⟩ | ⟨hk, h⟩ | ⟨hk, h⟩ | ⟨hk, h⟩
    · simp [hk]; exact impl_id (fun _ _ => rfl) (fun _ _ => Iff.rfl)
    · simp only [hk, if_true]
      refine impl_one (fun tu => ⟨1, t.s0, t.s1, t.s2, t.s3, tu, 0⟩) (fun _ _ => rfl) (fun M tu x i j hM => ?_) (fun M tu x m i y k hM hy hP => ?_)
      · rintro ⟨h1, rfl, h2⟩
        have h3 : PthN M s 1 x i tu.toNat (i + 1) := .eat h1 (by rw [hM]; simpa [takes, bitS, wordN] using h2) (by rw [hM]; exact .refl _ _)
        exact ⟨1, h3⟩
      · cases hP with
        | refl => exact absurd rfl hy
        | eps he _ => rw [hM] at he; simp [outs] at he
        | eat h1 he h2 =>
          rw [hM] at he h2
          exact ⟨i + 1, _, Nat.le_succ _, ⟨h1, rfl, by simpa [takes, bitS, wordN] using he⟩, h2⟩
    · simp only [hk, show ¬ ((2 : Int) = 1) by omega, if_true, if_false]
      refine impl_one (fun tu => ⟨3, 0, 0, 0, 0, tu, 0⟩) (fun _ _ => rfl) (fun M tu x i j hM => ?_) (fun M tu x m i y k hM hy hP => ?_)
      · rintro ⟨rfl, rfl⟩
        exact Pth.eps1 (by rw [hM]; simp [outs])
      · cases hP with
        | refl => exact absurd rfl hy
        | eps he h2 =>
          rw [hM] at he
          simp only [outs] at he
          by_cases hi : i = 0
          · subst hi; simp at he; subst he; exact ⟨0, _, Nat.le_succ _, ⟨rfl, rfl⟩, h2⟩
          · simp [hi] at he
        | eat h1 he h2 => rw [hM] at he; simp [takes] at he
    · simp only [hk, show ¬ ((3 : Int) = 1) by omega, show ¬ ((3 : Int) = 2) by omega, if_true, if_false]
      refine impl_one (fun tu => ⟨4, 0, 0, 0, 0, tu, 0⟩) (fun _ _ => rfl) (fun M tu x i j hM => ?_) (fun M tu x m i y k hM hy hP => ?_)
      · rintro ⟨rfl, rfl⟩
        exact Pth.eps1 (by rw [hM]; simp [outs])
      · cases hP with
        | refl => exact absurd rfl hy
        | eps he h2 =>
          rw [hM] at he
          simp only [outs] at he
          by_cases hi : i = s.length
          · subst hi; simp at he; subst he; exact ⟨s.length, _, Nat.le_succ _, ⟨rfl, rfl⟩, h2⟩
          · simp [hi] at he
        | eat h1 he h2 => rw [hM] at he; simp [takes] at he
    · simp only [hk, show ¬ ((4 : Int) = 1) by omega, show ¬ ((4 : Int) = 2) by omega, show ¬ ((4 : Int) = 3) by omega, if_true, if_false]
      exact row_impl t.ps hps
    · simp only [hk, show ¬ ((5 : Int) = 1) by omega, show ¬ ((5 : Int) = 2) by omega, show ¬ ((5 : Int) = 3) by omega, show ¬ ((5 : Int) = 4) by omega, if_true, if_false]
      exact alt_impl t.ps h.1 hps
    · simp only [hk, show ¬ ((6 : Int) = 1) by omega, show ¬ ((6 : Int) = 2) by omega, show ¬ ((6 : Int) = 3) by omega, show ¬ ((6 : Int) = 4) by omega, show ¬ ((6 : Int) = 5) by omega, if_true, if_false]
      have hh : Impl s (headF t.ps) (denHead s t.ps) := by
        cases hq : t.ps with
        | nil => exact impl_id (fun _ _ => by rw [headF]) (fun _ _ => by rw [denHead])
        | cons p ps =>
          rw [show headF (p :: ps) = layF p by funext tu l; rw [headF], denHead]
          exact hps p (by rw [hq]; exact List.mem_cons_self ..)
      exact rep_impl hh t.mn t.mx h.2.1 (by omega)
end Go.Proofs.Ytdpmbanfaigmcaa

/- Where pieces end that a tree describes: lists of places; they are just what 'den' says. Plain. -/
set_option linter.unusedVariables false
set_option linter.unusedSimpArgs false
namespace Go.Proofs.Ytdpmbanfaigmcaa
open Go.RowKit

abbrev Pl := List Bool
abbrev PF := Pl → Pl
def at_ (l : Pl) (i : Nat) : Bool := l.getD i false
/-- Places that one of two lists has. -/
def bothF (a b : Pl) : Pl := (List.range a.length).map fun i => at_ a i || at_ b i
def sameF (a b : Pl) : Bool := (List.range a.length).all fun i => at_ a i == at_ b i
def iterF (f : PF) : Nat → Pl → Pl
  | 0, l => l
  | n + 1, l => iterF f n (f l)
/-- Once more, so often. -/
def optE (f : PF) : Nat → Pl → Pl → Pl
  | 0, _, out => out
  | k + 1, now, out => optE f k (f now) (bothF out (f now))
/-- Once more, as long as something new comes. -/
def starE (f : PF) : Nat → Pl → Pl → Pl
  | 0, _, out => out
  | k + 1, now, out => if sameF (bothF out (f now)) out then out else starE f k (f now) (bothF out (f now))
def repE (f : PF) (mn mx : Int) (n : Nat) (fr : Pl) : Pl :=
  if mx = -1 then starE f (n + 2) (iterF f mn.toNat fr) (iterF f mn.toNat fr) else optE f (mx - mn).toNat (iterF f mn.toNat fr) (iterF f mn.toNat fr)
def nonE (s : List UInt8) : Pl := List.replicate (s.length + 1) false
/-- Bytes of a set. -/
def setE (s : List UInt8) (S : St) (fr : Pl) : Pl := (List.range (s.length + 1)).map fun j => decide (0 < j) && at_ fr (j - 1) && bitS S (byteN s j)
def begE (s : List UInt8) (fr : Pl) : Pl := (List.range (s.length + 1)).map fun j => decide (j = 0) && at_ fr 0
def endE (s : List UInt8) (fr : Pl) : Pl := (List.range (s.length + 1)).map fun j => decide (j = s.length) && at_ fr s.length
mutual
def endsF (s : List UInt8) : T → PF
  | .mk k s0 s1 s2 s3 mn mx ps, fr =>
    if k = 0 then fr
    else if k = 1 then setE s ⟨1, s0, s1, s2, s3, 0, 0⟩ fr
    else if k = 2 then begE s fr
    else if k = 3 then endE s fr
    else if k = 4 then rowE s ps fr
    else if k = 5 then altE s ps fr (nonE s)
    else if k = 6 then repE (headE s ps) mn mx s.length fr
    else nonE s
def rowE (s : List UInt8) : List T → PF
  | [], fr => fr
  | p :: ps, fr => rowE s ps (endsF s p fr)
def altE (s : List UInt8) : List T → Pl → Pl → Pl
  | [], _, out => out
  | p :: ps, fr, out => altE s ps fr (bothF out (endsF s p fr))
def headE (s : List UInt8) : List T → PF
  | [], fr => fr
  | p :: _, fr => endsF s p fr
end
theorem endsF_eq (s : List UInt8) (t : T) (fr : Pl) : endsF s t fr =
    if t.k = 0 then fr
    else if t.k = 1 then setE s ⟨1, t.s0, t.s1, t.s2, t.s3, 0, 0⟩ fr
    else if t.k = 2 then begE s fr
    else if t.k = 3 then endE s fr
    else if t.k = 4 then rowE s t.ps fr
    else if t.k = 5 then altE s t.ps fr (nonE s)
    else if t.k = 6 then repE (headE s t.ps) t.mn t.mx s.length fr
    else nonE s := by cases t; rw [endsF]; rfl
/-- Does a tree describe a piece? -/
def descF (s : List UInt8) (t : T) : Bool := (endsF s t (List.replicate (s.length + 1) true)).any id

/-- A list's places are just those tu which R leads. -/
structure Fits (n : Nat) (f : PF) (R : Rel) : Prop where
  len : ∀ fr, fr.length = n + 1 → (f fr).length = n + 1
  mem : ∀ fr, fr.length = n + 1 → ∀ j, at_ (f fr) j = true ↔ ∃ i, at_ fr i = true ∧ R i j
theorem at_lt {l : Pl} {i : Nat} (h : at_ l i = true) : i < l.length := by
  rcases Nat.lt_or_ge i l.length with h' | h'
  · exact h'
  · unfold at_ at h; rw [List.getD_eq_getElem?_getD, List.getElem?_eq_none h'] at h; cases h
theorem at_range (n : Nat) (f : Nat → Bool) (j : Nat) : at_ ((List.range n).map f) j = true ↔ j < n ∧ f j = true := by
  unfold at_
  rw [List.getD_eq_getElem?_getD]
  rcases Nat.lt_or_ge j n with h | h
  · rw [List.getElem?_eq_getElem (by simpa using h)]; simp [h]
  · rw [List.getElem?_eq_none (by simpa using h)]; simp; omega
theorem bothF_len (a b : Pl) : (bothF a b).length = a.length := by simp [bothF]
theorem bothF_at {a b : Pl} (h : b.length ≤ a.length) (j : Nat) : at_ (bothF a b) j = true ↔ at_ a j = true ∨ at_ b j = true := by
  unfold bothF
  rw [at_range, Bool.or_eq_true]
  constructor
  · exact fun h => h.2
  · intro h'
    refine ⟨?_, h'⟩
    rcases h' with h' | h'
    · exact at_lt h'
    · have := at_lt h'; omega
theorem sameF_iff {a b : Pl} (h : a.length = b.length) : sameF a b = true ↔ ∀ j, at_ a j = true ↔ at_ b j = true := by
  unfold sameF
  rw [List.all_eq_true]
  constructor
  · intro h2 j
    rcases Nat.lt_or_ge j a.length with hj | hj
    · have := h2 j (List.mem_range.2 hj)
      rw [beq_iff_eq] at this
      rw [this]
    · constructor
      · intro h3; have := at_lt h3; omega
      · intro h3; have := at_lt h3; omega
  · intro h2 j _
    rw [beq_iff_eq, Bool.eq_iff_iff]
    exact h2 j
theorem Fits.iff {n : Nat} {f : PF} {R S : Rel} (h : Fits n f R) (e : ∀ i j, i ≤ n → (R i j ↔ S i j)) : Fits n f S :=
  ⟨h.len, fun fr hl j => by
    rw [h.mem fr hl j]
    constructor
    · rintro ⟨i, h1, h2⟩; exact ⟨i, h1, (e i j (by have := at_lt h1; omega)).1 h2⟩
    · rintro ⟨i, h1, h2⟩; exact ⟨i, h1, (e i j (by have := at_lt h1; omega)).2 h2⟩⟩
theorem fits_id (n : Nat) : Fits n (fun fr => fr) (fun i j => i = j) := ⟨fun _ h => h, fun fr hl j => ⟨fun h => ⟨j, h, rfl⟩, fun ⟨i, h, e⟩ => by cases (show i = j from e); exact h⟩⟩
theorem Fits.comp {n : Nat} {f g : PF} {R S : Rel} (hf : Fits n f R) (hg : Fits n g S) : Fits n (fun fr => g (f fr)) (Go.Proofs.Ytdpmbanfaigmcaa.comp R S) :=
  ⟨fun fr h => hg.len _ (hf.len _ h), fun fr h j => by
    rw [hg.mem _ (hf.len _ h) j]
    constructor
    · rintro ⟨k, h1, h2⟩
      obtain ⟨i, h3, h4⟩ := (hf.mem fr h k).1 h1
      exact ⟨i, h3, k, h4, h2⟩
    · rintro ⟨i, h3, k, h4, h2⟩
      exact ⟨k, (hf.mem fr h k).2 ⟨i, h3, h4⟩, h2⟩⟩
theorem iter_fits {n : Nat} {f : PF} {R : Rel} (hf : Fits n f R) : ∀ k, Fits n (iterF f k) (powR R k)
  | 0 => fits_id n
  | k + 1 => hf.comp (iter_fits hf k)

/-- What is gathered: from a list of places S, up tu so many times. -/
def UpTo (R : Rel) (S : Pl) (k j : Nat) : Prop := ∃ a, a ≤ k ∧ ∃ i, at_ S i = true ∧ powR R a i j
theorem opt_fits {n : Nat} {f : PF} {R : Rel} (hf : Fits n f R) {S : Pl} : ∀ (m k : Nat) (now out : Pl), now.length = n + 1 → out.length = n + 1 →
    (∀ j, at_ now j = true ↔ ∃ i, at_ S i = true ∧ powR R k i j) → (∀ j, at_ out j = true ↔ UpTo R S k j) → (optE f m now out).length = n + 1 ∧ ∀ j, at_ (optE f m now out) j = true ↔ UpTo R S (k + m) j
  | 0, k, now, out, h1, h2, h3, h4 => by rw [optE]; exact ⟨h2, h4⟩
  | m + 1, k, now, out, h1, h2, h3, h4 => by
    rw [optE]
    have hl := hf.len now h1
    have h5 : ∀ j, at_ (f now) j = true ↔ ∃ i, at_ S i = true ∧ powR R (k + 1) i j := fun j => by
      rw [hf.mem now h1 j]
      constructor
      · rintro ⟨x, hx, hr⟩
        obtain ⟨i, hi, hp⟩ := (h3 x).1 hx
        exact ⟨i, hi, powR_snoc.2 ⟨x, hp, hr⟩⟩
      · rintro ⟨i, hi, hp⟩
        obtain ⟨x, hp, hr⟩ := powR_snoc.1 hp
        exact ⟨x, (h3 x).2 ⟨i, hi, hp⟩, hr⟩
    rw [show k + (m + 1) = (k + 1) + m by omega]
    refine opt_fits hf m (k + 1) _ _ hl (by rw [bothF_len]; exact h2) h5 fun j => ?_
    rw [bothF_at (by omega), h4, h5]
    constructor
    · rintro (⟨a, ha, h⟩ | h)
      · exact ⟨a, by omega, h⟩
      · exact ⟨k + 1, Nat.le_refl _, h⟩
    · rintro ⟨a, ha, h⟩
      rcases Nat.lt_or_ge k a with hk | hk
      · have : a = k + 1 := by omega
        subst this
        exact .inr h
      · exact .inl ⟨a, hk, h⟩
theorem upTo_shut {R : Rel} {S : Pl} {k : Nat} (h : ∀ j, (∃ i, at_ S i = true ∧ powR R (k + 1) i j) → UpTo R S k j) : ∀ a i j, at_ S i = true → powR R a i j → UpTo R S k j
  | 0, i, j, hi, hp => ⟨0, Nat.zero_le _, i, hi, hp⟩
  | a + 1, i, j, hi, hp => by
    obtain ⟨m, h1, h2⟩ := powR_snoc.1 hp
    obtain ⟨b, hb, i', hi', h3⟩ := upTo_shut h a i m hi h1
    have h4 : powR R (b + 1) i' j := powR_snoc.2 ⟨m, h3, h2⟩
    rcases Nat.lt_or_ge b k with hk | hk
    · exact ⟨b + 1, by omega, i', hi', h4⟩
    · have : b = k := by omega
      subst this
      exact h j ⟨i', hi', h4⟩
def lacks (l : Pl) : Nat := l.countP (fun x => !x)
theorem lacks_le : ∀ {a b : Pl}, a.length = b.length → (∀ i, at_ a i = true → at_ b i = true) → lacks b ≤ lacks a
  | [], b, h, _ => by
    have : b = [] := List.eq_nil_of_length_eq_zero h.symm
    subst this; exact Nat.le_refl _
  | x :: a, [], h, _ => by simp at h
  | x :: a, y :: b, h, h2 => by
    have := lacks_le (a := a) (b := b) (by simpa using h) (fun i hi => h2 (i + 1) hi)
    have h0 := h2 0
    unfold lacks at this ⊢
    rw [List.countP_cons, List.countP_cons]
    cases x <;> cases y <;> simp [at_] at h0 ⊢ <;> omega
theorem lacks_lt : ∀ {a b : Pl}, a.length = b.length → (∀ i, at_ a i = true → at_ b i = true) → (∃ i, at_ b i = true ∧ ¬ at_ a i = true) → lacks b < lacks a
  | [], b, h, _, ⟨i, h3, _⟩ => by
    have : b = [] := List.eq_nil_of_length_eq_zero h.symm
    subst this; cases h3
  | x :: a, [], h, _, _ => by simp at h
  | x :: a, y :: b, h, h2, ⟨i, h3, h4⟩ => by
    have hle := lacks_le (a := a) (b := b) (by simpa using h) (fun i hi => h2 (i + 1) hi)
    cases i with
    | zero =>
      have hx : x = false := by simpa [at_] using h4
      have hy : y = true := by simpa [at_] using h3
      subst hx; subst hy
      unfold lacks at hle ⊢
      simp only [List.countP_cons]
      simp; omega
    | succ i =>
      have := lacks_lt (a := a) (b := b) (by simpa using h) (fun i hi => h2 (i + 1) hi) ⟨i, h3, h4⟩
      have h0 := h2 0
      unfold lacks at this ⊢
      rw [List.countP_cons, List.countP_cons]
      cases x <;> cases y <;> simp [at_] at h0 ⊢ <;> omega
theorem both_lacks {out x : Pl} (h : x.length = out.length) (hs : ¬ sameF (bothF out x) out = true) : lacks (bothF out x) < lacks out := by
  have hl := bothF_len out x
  rw [sameF_iff hl] at hs
  have hsub : ∀ i, at_ out i = true → at_ (bothF out x) i = true := fun i hi => (bothF_at (by omega) i).2 (.inl hi)
  refine lacks_lt hl.symm hsub ?_
  false_or_by_contra
  rename_i hn
  refine hs fun j => ⟨fun hj => ?_, hsub j⟩
  cases ho : at_ out j with
  | true => rfl
  | false => exact absurd ⟨j, hj, by rw [ho]; simp⟩ hn
theorem star_fits {n : Nat} {f : PF} {R : Rel} (hf : Fits n f R) {S : Pl} : ∀ (m k : Nat) (now out : Pl), lacks out < m → now.length = n + 1 → out.length = n + 1 →
    (∀ j, at_ now j = true ↔ ∃ i, at_ S i = true ∧ powR R k i j) → (∀ j, at_ out j = true ↔ UpTo R S k j) → (starE f m now out).length = n + 1 ∧ ∀ j, at_ (starE f m now out) j = true ↔ ∃ a i, at_ S i = true ∧ powR R a i j
  | 0, k, now, out, h0, h1, h2, h3, h4 => by omega
  | m + 1, k, now, out, h0, h1, h2, h3, h4 => by
    rw [starE]
    have hl := hf.len now h1
    have h5 : ∀ j, at_ (f now) j = true ↔ ∃ i, at_ S i = true ∧ powR R (k + 1) i j := fun j => by
      rw [hf.mem now h1 j]
      constructor
      · rintro ⟨x, hx, hr⟩
        obtain ⟨i, hi, hp⟩ := (h3 x).1 hx
        exact ⟨i, hi, powR_snoc.2 ⟨x, hp, hr⟩⟩
      · rintro ⟨i, hi, hp⟩
        obtain ⟨x, hp, hr⟩ := powR_snoc.1 hp
        exact ⟨x, (h3 x).2 ⟨i, hi, hp⟩, hr⟩
    by_cases hs : sameF (bothF out (f now)) out = true
    · rw [if_pos hs]
      rw [sameF_iff (bothF_len _ _)] at hs
      refine ⟨h2, fun j => ?_⟩
      rw [h4]
      constructor
      · rintro ⟨a, _, h⟩; exact ⟨a, h⟩
      · rintro ⟨a, i, hi, hp⟩
        refine upTo_shut (fun j hj => ?_) a i j hi hp
        rw [← h4]
        exact (hs j).1 ((bothF_at (by omega) j).2 (.inr ((h5 j).2 hj)))
    · rw [if_neg hs]
      have hlt := both_lacks (by omega) hs
      refine star_fits hf m (k + 1) _ _ (by omega) hl (by rw [bothF_len]; exact h2) h5 fun j => ?_
      rw [bothF_at (by omega), h4, h5]
      constructor
      · rintro (⟨a, ha, h⟩ | h)
        · exact ⟨a, by omega, h⟩
        · exact ⟨k + 1, Nat.le_refl _, h⟩
      · rintro ⟨a, ha, h⟩
        rcases Nat.lt_or_ge k a with hk | hk
        · have : a = k + 1 := by omega
          subst this
          exact .inr h
        · exact .inl ⟨a, hk, h⟩
theorem upTo_zero (R : Rel) (S : Pl) (j : Nat) : at_ S j = true ↔ UpTo R S 0 j := by
  constructor
  · exact fun h => ⟨0, Nat.le_refl _, j, h, rfl⟩
  · rintro ⟨a, ha, i, hi, hp⟩
    have : a = 0 := by omega
    subst this
    cases (show i = j from hp); exact hi
theorem rep_fits {n : Nat} {f : PF} {R : Rel} (hf : Fits n f R) (mn mx : Int) (h0 : 0 ≤ mn) (hx : mx = -1 ∨ mn ≤ mx) : Fits n (repE f mn mx n) (fun i j => ∃ k : Nat, mn.toNat ≤ k ∧ (mx < 0 ∨ k ≤ mx.toNat) ∧ powR R k i j) := by
  have hit := iter_fits hf mn.toNat
  have hz : ∀ (S : Pl) j, at_ S j = true ↔ ∃ i, at_ S i = true ∧ powR R 0 i j := fun S j => ⟨fun h => ⟨j, h, rfl⟩, fun ⟨i, hi, e⟩ => by cases (show i = j from e); exact hi⟩
  by_cases hm : mx = -1
  · have key := fun fr (hl : fr.length = n + 1) => star_fits hf (S := iterF f mn.toNat fr) (n + 2) 0 _ _ (by have := hit.len fr hl; have h9 : lacks (iterF f mn.toNat fr) ≤ (iterF f mn.toNat fr).length := List.countP_le_length; omega) (hit.len fr hl) (hit.len fr hl) (hz _) (upTo_zero R _)
    refine ⟨fun fr hl => by unfold repE; rw [if_pos hm]; exact (key fr hl).1, fun fr hl j => ?_⟩
    unfold repE
    rw [if_pos hm, (key fr hl).2 j]
    constructor
    · rintro ⟨a, i, hi, hp⟩
      obtain ⟨x, hx, h2⟩ := (hit.mem fr hl i).1 hi
      exact ⟨x, hx, mn.toNat + a, by omega, .inl (by omega), powR_add.2 ⟨i, h2, hp⟩⟩
    · rintro ⟨x, hx, k, hk, _, hp⟩
      rw [show k = mn.toNat + (k - mn.toNat) by omega, powR_add] at hp
      obtain ⟨i, h2, hp⟩ := hp
      exact ⟨_, i, (hit.mem fr hl i).2 ⟨x, hx, h2⟩, hp⟩
  · have key := fun fr (hl : fr.length = n + 1) => opt_fits hf (S := iterF f mn.toNat fr) (mx - mn).toNat 0 _ _ (hit.len fr hl) (hit.len fr hl) (hz _) (upTo_zero R _)
    refine ⟨fun fr hl => by unfold repE; rw [if_neg hm]; exact (key fr hl).1, fun fr hl j => ?_⟩
    unfold repE
    rw [if_neg hm, (key fr hl).2 j]
    constructor
    · rintro ⟨a, ha, i, hi, hp⟩
      obtain ⟨x, hx, h2⟩ := (hit.mem fr hl i).1 hi
      exact ⟨x, hx, mn.toNat + a, by omega, .inr (by omega), powR_add.2 ⟨i, h2, hp⟩⟩
    · rintro ⟨x, hx', k, hk, hk2, hp⟩
      rw [show k = mn.toNat + (k - mn.toNat) by omega, powR_add] at hp
      obtain ⟨i, h2, hp⟩ := hp
      exact ⟨_, by omega, i, (hit.mem fr hl i).2 ⟨x, hx', h2⟩, hp⟩
theorem row_fits {s : List UInt8} {n : Nat} : ∀ ps : List T, (∀ p ∈ ps, Fits n (endsF s p) (den s p)) → Fits n (rowE s ps) (denRow s ps)
  | [], _ => by
    rw [denRow, show rowE s [] = fun fr => fr by funext fr; rw [rowE]]; exact fits_id n
  | p :: ps, h => by
    rw [denRow, show rowE s (p :: ps) = fun fr => rowE s ps (endsF s p fr) by funext fr; rw [rowE]]
    exact (h p (List.mem_cons_self ..)).comp (row_fits ps fun q hq => h q (List.mem_cons_of_mem _ hq))
theorem alt_fits {s : List UInt8} {n : Nat} {fr : Pl} (hl : fr.length = n + 1) : ∀ (ps : List T) (out : Pl), (∀ p ∈ ps, Fits n (endsF s p) (den s p)) → out.length = n + 1 → (altE s ps fr out).length = n + 1 ∧ ∀ j, at_ (altE s ps fr out) j = true ↔ at_ out j = true ∨ ∃ i, at_ fr i = true ∧ denAlt s ps i j
  | [], out, _, ho => by
    rw [altE]
    refine ⟨ho, fun j => ?_⟩
    simp [denAlt]
  | p :: ps, out, h, ho => by
    have hp := h p (List.mem_cons_self ..)
    have hpl := hp.len fr hl
    obtain ⟨h1, h2⟩ := alt_fits hl ps (bothF out (endsF s p fr)) (fun q hq => h q (List.mem_cons_of_mem _ hq)) (by rw [bothF_len]; exact ho)
    rw [altE]
    refine ⟨h1, fun j => ?_⟩
    rw [h2 j, bothF_at (by omega), hp.mem fr hl]
    constructor
    · rintro ((h | ⟨i, hi, hd⟩) | ⟨i, hi, hd⟩)
      · exact .inl h
      · exact .inr ⟨i, hi, by rw [denAlt]; exact .inl hd⟩
      · exact .inr ⟨i, hi, by rw [denAlt]; exact .inr hd⟩
    · rintro (h | ⟨i, hi, hd⟩)
      · exact .inl (.inl h)
      · rw [denAlt] at hd
        rcases hd with hd | hd
        · exact .inl (.inr ⟨i, hi, hd⟩)
        · exact .inr ⟨i, hi, hd⟩
theorem nonE_at (s : List UInt8) (j : Nat) : ¬ at_ (nonE s) j = true := by
  unfold at_ nonE
  rw [List.getD_eq_getElem?_getD, List.getElem?_replicate]
  split <;> simp
theorem ends_fits (s : List UInt8) (t : T) : rightF t = true → Fits s.length (endsF s t) (den s t) := by
  induction t using T.ind with
  | h t ih =>
    intro hr
    have hps : ∀ p ∈ t.ps, Fits s.length (endsF s p) (den s p) := fun p hp => ih p hp (right_parts hr p hp)
    rw [show endsF s t = fun fr => endsF s t fr from rfl, den_eq]
    simp only [endsF_eq s t]
    rcases right_cases hr with ⟨hk, h⟩ | ⟨hk, h⟩ | ⟨hk, h⟩ | ⟨hk, h⟩ | ⟨hk, h⟩ | ⟨hk, h⟩ | ⟨hk, h⟩
    · simp [hk]; exact fits_id _
    · simp only [hk, show ¬ ((1 : Int) = 0) by omega, if_true, if_false]
      refine ⟨fun fr hl => by simp [setE], fun fr hl j => ?_⟩
      unfold setE
      rw [at_range]
      simp only [Bool.and_eq_true, decide_eq_true_eq]
      constructor
      · rintro ⟨h1, ⟨h2, h3⟩, h4⟩
        exact ⟨j - 1, h3, by omega, by omega, by rw [show j - 1 + 1 = j by omega]; exact h4⟩
      · rintro ⟨i, h1, h2, rfl, h3⟩
        exact ⟨by omega, ⟨by omega, by simpa using h1⟩, h3⟩
    · simp only [hk, show ¬ ((2 : Int) = 0) by omega, show ¬ ((2 : Int) = 1) by omega, if_true, if_false]
      refine ⟨fun fr hl => by simp [begE], fun fr hl j => ?_⟩
      unfold begE
      rw [at_range]
      simp only [Bool.and_eq_true, decide_eq_true_eq]
      constructor
      · rintro ⟨h1, rfl, h3⟩; exact ⟨0, h3, rfl, rfl⟩
      · rintro ⟨i, h1, rfl, rfl⟩; exact ⟨by omega, rfl, h1⟩
    · simp only [hk, show ¬ ((3 : Int) = 0) by omega, show ¬ ((3 : Int) = 1) by omega, show ¬ ((3 : Int) = 2) by omega, if_true, if_false]
      refine ⟨fun fr hl => by simp [endE], fun fr hl j => ?_⟩
      unfold endE
      rw [at_range]
      simp only [Bool.and_eq_true, decide_eq_true_eq]
      constructor
      · rintro ⟨h1, rfl, h3⟩; exact ⟨_, h3, rfl, rfl⟩
      · rintro ⟨i, h1, rfl, rfl⟩; exact ⟨by omega, rfl, h1⟩
    · simp only [hk, show ¬ ((4 : Int) = 0) by omega, show ¬ ((4 : Int) = 1) by omega, show ¬ ((4 : Int) = 2) by omega, show ¬ ((4 : Int) = 3) by omega, if_true, if_false]
      exact row_fits t.ps hps
    · simp only [hk, show ¬ ((5 : Int) = 0) by omega, show ¬ ((5 : Int) = 1) by omega, show ¬ ((5 : Int) = 2) by omega, show ¬ ((5 : Int) = 3) by omega, show ¬ ((5 : Int) = 4) by omega, if_true, if_false]
      refine ⟨fun fr hl => (alt_fits hl t.ps (nonE s) hps (by simp [nonE])).1, fun fr hl j => ?_⟩
      rw [(alt_fits hl t.ps (nonE s) hps (by simp [nonE])).2 j]
      simp [nonE_at]
    · simp only [hk, show ¬ ((6 : Int) = 0) by omega, show ¬ ((6 : Int) = 1) by omega, show ¬ ((6 : Int) = 2) by omega, show ¬ ((6 : Int) = 3) by omega, show ¬ ((6 : Int) = 4) by omega, show ¬ ((6 : Int) = 5) by omega, if_true, if_false]
      have hh : Fits s.length (headE s t.ps) (denHead s t.ps) := by
        cases hq : t.ps with
        | nil => rw [denHead, show headE s [] = fun fr => fr by funext fr; rw [headE]]; exact fits_id _
        | cons p ps =>
          rw [show headE s (p :: ps) = endsF s p by funext fr; rw [headE], denHead]
          exact hps p (by rw [hq]; exact List.mem_cons_self ..)
      exact rep_fits hh t.mn t.mx h.2.1 (by omega)
theorem desc_iff (s : List UInt8) (t : T) (hr : rightF t = true) : descF s t = true ↔ ∃ i j, i ≤ s.length ∧ den s t i j := by
  have hf := ends_fits s t hr
  have hl : (List.replicate (s.length + 1) true).length = s.length + 1 := by simp
  have h1 : ∀ i, at_ (List.replicate (s.length + 1) true) i = true ↔ i ≤ s.length := fun i => by
    unfold at_
    rw [List.getD_eq_getElem?_getD, List.getElem?_replicate]
    split <;> simp <;> omega
  unfold descF
  rw [List.any_eq_true]
  constructor
  · rintro ⟨x, hx, hb⟩
    obtain ⟨j, hj, rfl⟩ := List.getElem_of_mem hx
    have : at_ (endsF s t (List.replicate (s.length + 1) true)) j = true := by
      unfold at_; rw [List.getD_eq_getElem?_getD, List.getElem?_eq_getElem hj]; simpa using hb
    obtain ⟨i, hi, hd⟩ := (hf.mem _ hl j).1 this
    exact ⟨i, j, (h1 i).1 hi, hd⟩
  · rintro ⟨i, j, hi, hd⟩
    have := (hf.mem _ hl j).2 ⟨i, (h1 i).2 hi, hd⟩
    have hj := at_lt this
    refine ⟨_, List.getElem_mem hj, ?_⟩
    unfold at_ at this
    rw [List.getD_eq_getElem?_getD, List.getElem?_eq_getElem hj] at this
    simpa using this
end Go.Proofs.Ytdpmbanfaigmcaa

/- vouchref12.both, vouchref12.same: walked. -/
set_option linter.unusedVariables false
set_option linter.unusedSimpArgs false
namespace Go.Proofs.Ytdpmbanfaigmcaa
open Go.RowKit

/-- A list of places, as it lies in memory. -/
structure Pls (w : World) (l : Pl) (b c : Nat) : Prop where
  cap : l.length ≤ c
  lt : b < w.heap.size
  cell : ∀ i, i < l.length → w.cell? ⟨b, i, none⟩ = some (.bool (at_ l i))
abbrev plV (l : Pl) (b c : Nat) : Value := .slice (some ⟨b, 0, none⟩) l.length c
theorem Pls.later {w w' : World} {l : Pl} {b c : Nat} (h : Pls w l b c) (hb : Below w.heap.size w w') : Pls w' l b c :=
  ⟨h.cap, Nat.lt_of_lt_of_le h.lt hb.size, fun i hi => (hb.cell (p := ⟨b, i, none⟩) h.lt).trans (h.cell i hi)⟩
def bools (l : Pl) : List Value := l.map .bool
theorem bools_len (l : Pl) : (bools l).length = l.length := by simp [bools]
theorem own_pls {w : World} {base : Nat} {l : Pl} {A : Option Addr} {c : Nat} (h : w.ownsRow base 4 1 (.slice A l.length c) l.length (bools l)) (hl : 0 < l.length) : ∃ b, A = some ⟨b, 0, none⟩ ∧ Pls w l b c := by
  rcases h.2 with ⟨_, h0⟩ | ⟨g, cap, cur, e, hb, hh, hcap, _⟩
  · omega
  · simp only [Value.slice.injEq] at e
    obtain ⟨rfl, _, rfl⟩ := e
    refine ⟨g, rfl, hcap, by (rcases Nat.lt_or_ge g w.heap.size with h' | h'; exact h'; rw [Array.getElem?_eq_none h'] at hh; simp at hh), fun i hi => ?_⟩
    rw [h.cellAt i (by omega)]
    simp [bools, at_, List.getD_eq_getElem?_getD, List.getElem?_eq_getElem hi]
theorem take_both (a b : Pl) (i : Nat) (hi : i < a.length) : (bothF a b).take (i + 1) = (bothF a b).take i ++ [at_ a i || at_ b i] := by
  rw [List.take_succ_eq_append_getElem (by rw [bothF_len]; exact hi)]
  simp [bothF]
set_option maxRecDepth 100000 in
set_option maxHeartbeats 2000000 in
theorem both_any (w : World) (a b : Pl) (ba ca bb cb : Nat) (ha : Pls w a ba ca) (hb : Pls w b bb cb) (hl : b.length = a.length) (h0 : 0 < a.length) (h1 : a.length ≤ 100000) :
    Calls Try.prog 64 #[plV a ba ca, plV b bb cb] w fun en w' => ∃ g c, en = .returned (plV (bothF a b) g c) ∧ Pls w' (bothF a b) g c ∧ Below w.heap.size w w' := by
  have Ha := Lib.hid ha; have Hb := Lib.hid hb
  have HL := Lib.hid (bothF_len a b)
  have capa := ha.cap; have capb := hb.cap; have lta := ha.lt; have ltb := hb.lt
  have Hl := Lib.hid hl
  clear ha hb
  unfold plV
  rw [hl] at capb ⊢
  clear hl
  go_enter Try.func64, Try.ntmps64
  go_wp2_with fail
  go_loopg [5, 6] a.length (fun k v5 v6 wr => ∃ (i : Nat) (A : Option Addr) (c : Nat), v5 = .slice A i c ∧ v6 = .int .i64 (i : Int) ∧ i + k = a.length ∧ wr.ownsRow w.heap.size 4 1 (.slice A i c) i (bools ((bothF a b).take i)) ∧ Below w.heap.size w wr)
  case atStart => exact ⟨0, none, 0, rfl, rfl, by omega, ⟨by simp [bools], .inl ⟨rfl, rfl⟩⟩, Below.refl _ _⟩
  case round =>
    obtain ⟨i, A, c, rfl, rfl, hi, hO, hB⟩ := hrel
    have hz := hB.size
    have HO := Lib.hid hO; have HB := Lib.hid hB
    clear hO hB
    by_cases hlt : i < a.length
    case' pos =>
      have tx := (HB.out.cell (p := ⟨ba, i, none⟩) lta).trans (Ha.out.cell i hlt)
      have ty := (HB.out.cell (p := ⟨bb, i, none⟩) ltb).trans (Hb.out.cell i (by rw [Hl.out]; exact hlt))
      have hnews : ∀ (W : World) (x : Bool) ad, some (⟨W.heap.size, 0, none⟩ : Addr) = some ad → ∀ j u, ([.bool x] : List Value)[j]? = some u → (W.alloc (.cells #[.bool x] 4)).cell? (ad.add j) = some u := fun W x ad e j u hu => by
        simp only [Option.some.injEq] at e
        subst e
        rw [addr_addX, World.cell?_alloc_new, Nat.zero_add]
        simpa using hu
      have Hnews := Lib.hid hnews
      have htk := take_both a b i hlt
      have Htk := Lib.hid htk
      clear hnews htk
      cases hxa : at_ a i with
      | true =>
        rw [hxa] at tx
        have Hxa := Lib.hid hxa
        clear hxa
        go_wp2_with (at_builtin; refine wpList_append_fromX w.heap.size rfl _ _ 73 4 _ 1 1 rfl Try.underlying73 Try.infoBool rfl (by omega) (by omega) (.slice A i c) i 1 (bools ((bothF a b).take i)) [.bool true] (some ⟨wr.heap.size, 0, none⟩) 1 rfl rfl (by simp) rfl (Hnews.out wr true) (by simp [Value.oneCell']) (HO.out.alloc _) (by simp; omega) (by omega) (fun A6 c6 w6 ho hg hat => ?_); have Ho6 := Lib.hid ho; have Hg6 := Lib.hid hg; clear ho hg hat)
        have hb6 := below_grown ((HB.out.alloc hz (.cells #[.bool true] 4))) (by simp; omega) Hg6.out (fun k e => (HO.out.lt k e).1)
        go_roundg (gk - 1)
        case measure => omega
        case rel => exact ⟨i + 1, A6, c6, rfl, by go_num, by omega, by rw [Htk.out, Hxa.out]; simpa [bools] using Ho6.out, hb6⟩
      | false =>
        rw [hxa] at tx
        have Hxa := Lib.hid hxa
        clear hxa
        generalize hxb : at_ b i = xb at *
        have Hxb := Lib.hid hxb
        clear hxb
        go_wp2_with (at_builtin; refine wpList_append_fromX w.heap.size rfl _ _ 73 4 _ 1 1 rfl Try.underlying73 Try.infoBool rfl (by omega) (by omega) (.slice A i c) i 1 (bools ((bothF a b).take i)) [.bool xb] (some ⟨wr.heap.size, 0, none⟩) 1 rfl rfl (by simp) rfl (Hnews.out wr xb) (by simp [Value.oneCell']) (HO.out.alloc _) (by simp; omega) (by omega) (fun A6 c6 w6 ho hg hat => ?_); have Ho6 := Lib.hid ho; have Hg6 := Lib.hid hg; clear ho hg hat)
        have hb6 := below_grown ((HB.out.alloc hz (.cells #[.bool xb] 4))) (by simp; omega) Hg6.out (fun k e => (HO.out.lt k e).1)
        go_roundg (gk - 1)
        case measure => omega
        case rel => exact ⟨i + 1, A6, c6, rfl, by go_num, by omega, by rw [Htk.out, Hxa.out]; simpa [bools] using Ho6.out, hb6⟩
    case' neg =>
      have hie : i = a.length := by omega
      have hO := HO.out
      rw [hie, List.take_of_length_le (by rw [HL.out]; exact Nat.le_refl _)] at hO
      have hO' : wr.ownsRow w.heap.size 4 1 (.slice A (bothF a b).length c) (bothF a b).length (bools (bothF a b)) := by rw [HL.out]; exact hO
      obtain ⟨g, rfl, hP⟩ := own_pls hO' (by rw [HL.out]; exact h0)
      have HP := Lib.hid hP
      clear hO hO' hP
      go_wp2_with fail
      exact bodyPost_ret (v := .slice (some ⟨g, 0, none⟩) i c) (by simp [results, Try.results64, go_sem]) rfl ⟨g, c, by rw [HL.out, hie], HP.out, HB.out⟩
set_option maxRecDepth 100000 in
set_option maxHeartbeats 2000000 in
theorem psame_any (w : World) (a b : Pl) (ba ca bb cb : Nat) (ha : Pls w a ba ca) (hb : Pls w b bb cb) (hl : b.length = a.length) (h1 : a.length ≤ 100000) :
    Calls Try.prog 73 #[plV a ba ca, plV b bb cb] w fun en w' => en = .returned (.bool (sameF a b)) ∧ Below w.heap.size w w' := by
  have Ha := Lib.hid ha; have Hb := Lib.hid hb
  have capa := ha.cap; have capb := hb.cap; have lta := ha.lt; have ltb := hb.lt
  have Hl := Lib.hid hl
  clear ha hb
  unfold plV
  rw [hl] at capb ⊢
  clear hl
  go_enter Try.func73, Try.ntmps73
  go_wp2_with fail
  go_loopg [5] a.length (fun k v5 wr => ∃ (i : Nat), v5 = .int .i64 (i : Int) ∧ i + k = a.length ∧ (∀ p, p < i → at_ a p = at_ b p) ∧ Below w.heap.size w wr)
  case atStart => exact ⟨0, rfl, by omega, fun p hp => by omega, Below.refl _ _⟩
  case round =>
    obtain ⟨i, rfl, hi, hno, hB⟩ := hrel
    have hz := hB.size
    have Hno := Lib.hid hno; have HB := Lib.hid hB
    clear hno hB
    by_cases hlt : i < a.length
    case' pos =>
      have tx := (HB.out.cell (p := ⟨ba, i, none⟩) lta).trans (Ha.out.cell i hlt)
      have ty := (HB.out.cell (p := ⟨bb, i, none⟩) ltb).trans (Hb.out.cell i (by rw [Hl.out]; exact hlt))
      have i1 : (i : Int) < (a.length : Int) := by omega
      have i0 : (0 : Int) ≤ (i : Int) := by omega
      have hc : (at_ a i = at_ b i ∧ (at_ a i == at_ b i) = true) ∨ (at_ a i ≠ at_ b i ∧ (at_ a i == at_ b i) = false) := by cases at_ a i <;> cases at_ b i <;> simp
      have Hc := Lib.hid hc
      clear hc
      generalize hxa : at_ a i = xa at *
      generalize hxb : at_ b i = xb at *
      have Hxa := Lib.hid hxa; have Hxb := Lib.hid hxb
      clear hxa hxb
      cases xa <;> cases xb
      · go_wp2_with fail
        go_quiet (fail)
        go_wp2_with fail
        go_roundg (gk - 1)
        case measure => omega
        case rel => exact ⟨i + 1, by go_num, by omega, fun p hp => by (by_cases e : p = i; (subst e; rw [Hxa.out, Hxb.out]); exact Hno.out p (by omega)), HB.out.trans ((below_drewN _ _).mono hz)⟩
      · have hres : sameF a b = false := by
          unfold sameF
          rw [List.all_eq_false]
          exact ⟨i, List.mem_range.2 hlt, by rw [Hxa.out, Hxb.out]; simp⟩
        have Hres := Lib.hid hres
        clear hres
        go_wp2_with fail
        go_quiet (fail)
        go_wp2_with fail
        exact bodyPost_ret (v := .bool false) (by simp [results, Try.results73, go_sem]) rfl ⟨by rw [Hres.out], HB.out.trans ((below_drewN _ _).mono hz)⟩
      · have hres : sameF a b = false := by
          unfold sameF
          rw [List.all_eq_false]
          exact ⟨i, List.mem_range.2 hlt, by rw [Hxa.out, Hxb.out]; simp⟩
        have Hres := Lib.hid hres
        clear hres
        go_wp2_with fail
        go_quiet (fail)
        go_wp2_with fail
        exact bodyPost_ret (v := .bool false) (by simp [results, Try.results73, go_sem]) rfl ⟨by rw [Hres.out], HB.out.trans ((below_drewN _ _).mono hz)⟩
      · go_wp2_with fail
        go_quiet (fail)
        go_wp2_with fail
        go_roundg (gk - 1)
        case measure => omega
        case rel => exact ⟨i + 1, by go_num, by omega, fun p hp => by (by_cases e : p = i; (subst e; rw [Hxa.out, Hxb.out]); exact Hno.out p (by omega)), HB.out.trans ((below_drewN _ _).mono hz)⟩
    case' neg =>
      have hres : sameF a b = true := by
        unfold sameF
        rw [List.all_eq_true]
        exact fun p hp => by rw [Hno.out p (by have := List.mem_range.1 hp; omega)]; simp
      have Hres := Lib.hid hres
      clear hres
      go_wp2_with fail
      exact bodyPost_ret (v := .bool true) (by simp [results, Try.results73, go_sem]) rfl ⟨by rw [Hres.out], HB.out⟩
end Go.Proofs.Ytdpmbanfaigmcaa

/- vouchref12.ends (a repeat): walked. -/
set_option linter.unusedVariables false
set_option linter.unusedSimpArgs false
namespace Go.Proofs.Ytdpmbanfaigmcaa
open Go.RowKit

/-- What a call of Ends hands back. -/
def EndsC (s : Bs) (t : T) : Prop := ∀ (w : World) (ok : Nat → Prop) (A : Option Addr) (c : Nat), NodeAt w ok t A c → (∀ b, ok b → b < w.heap.size) → ∀ (fr : Pl) (b cf : Nat), Pls w fr b cf → fr.length = s.length + 1 →
  Calls Try.prog 55 #[nodeV t A c, .string (bs s), .slice (some ⟨b, 0, none⟩) (s.length + 1) cf] w fun en w' => ∃ g c', en = .returned (.slice (some ⟨g, 0, none⟩) (s.length + 1) c') ∧ Pls w' (endsF s t fr) g c' ∧ (endsF s t fr).length = s.length + 1 ∧ Below w.heap.size w w'
theorem iter_succ (f : PF) : ∀ (n : Nat) (l : Pl), iterF f (n + 1) l = iterF f n (f l) := fun _ _ => rfl
set_option maxRecDepth 100000 in
set_option maxHeartbeats 4000000 in
theorem ends_rep (s : Bs) (hs : s.length ≤ 1000) (t p : T) (hps : t.ps = [p]) (h0 : 0 ≤ t.mn) (h1 : t.mn ≤ 255) (h2 : t.mx ≤ 255) (h3 : t.mx = -1 ∨ t.mn ≤ t.mx) (hp : EndsC s p) (hfl : ∀ fr : Pl, fr.length = s.length + 1 → (endsF s p fr).length = s.length + 1)
    (w : World) (ok : Nat → Prop) (A : Option Addr) (c : Nat) (hN : NodeAt w ok t A c) (hok : ∀ b, ok b → b < w.heap.size) (fr : Pl) (b cf : Nat) (hF : Pls w fr b cf) (hfr : fr.length = s.length + 1) :
    Calls Try.prog 65 #[nodeV t A c, .string (bs s), .slice (some ⟨b, 0, none⟩) (s.length + 1) cf] w fun en w' => ∃ g c', en = .returned (.slice (some ⟨g, 0, none⟩) (s.length + 1) c') ∧ Pls w' (repE (endsF s p) t.mn t.mx s.length fr) g c' ∧ (repE (endsF s p) t.mn t.mx s.length fr).length = s.length + 1 ∧ Below w.heap.size w w' := by
  have hcap := hN.cap
  have hpl : t.ps.length = 1 := by rw [hps]; rfl
  rw [hpl] at hcap
  obtain ⟨pb, po, rfl, hpb, hcell⟩ := hN.part (by omega)
  obtain ⟨A1, c1, hat, hNp⟩ := hcell 0 (by omega)
  have hp0 : t.ps[0] = p := by simp [hps]
  rw [hp0, show po + 0 * 8 = po by omega] at hat
  rw [hp0] at hNp
  have hpw := hok pb hpb
  have HN := Lib.hid hNp; have Hok := Lib.hid hok; have Hat := Lib.hid hat; have Hp := Lib.hid hp; have HF := Lib.hid hF; have Hfr := Lib.hid hfr; have Hfl := Lib.hid hfl
  clear hNp hok hat hp hF hfr hfl hcell hN hp0 hps
  rw [show nodeV t (some ⟨pb, po, none⟩) c = .agg #[.int .i64 t.k, .int .u64 t.s0, .int .u64 t.s1, .int .u64 t.s2, .int .u64 t.s3, .int .i64 t.mn, .int .i64 t.mx, .slice (some ⟨pb, po, none⟩) 1 c] by rw [nodeV, hpl]]
  clear hpl
  generalize t.k = tk at *
  generalize t.s0 = ts0 at *
  generalize t.s1 = ts1 at *
  generalize t.s2 = ts2 at *
  generalize t.s3 = ts3 at *
  generalize t.mn = mn at *
  generalize t.mx = mx at *
  obtain ⟨m, rfl⟩ : ∃ m : Nat, mn = m := ⟨mn.toNat, by omega⟩
  go_enter Try.func65, Try.ntmps65
  go_wp2_with fail
  generalize hW : w.alloc _ = W0
  have hB0 : Below w.heap.size w W0 := by subst hW; exact (Below.refl _ _).alloc (Nat.le_refl _) _
  have hz0 : w.heap.size < W0.heap.size := by subst hW; simp
  have q5 : W0.cell? ⟨w.heap.size, 5, none⟩ = some (.int .i64 (m : Int)) := by subst hW; simp [go_sem]
  have q6 : W0.cell? ⟨w.heap.size, 6, none⟩ = some (.int .i64 mx) := by subst hW; simp [go_sem]
  have q7 : W0.cell? ⟨w.heap.size, 7, none⟩ = some (.slice (some ⟨pb, po, none⟩) 1 c) := by subst hW; simp [go_sem]
  clear hW
  have HB0 := Lib.hid hB0
  clear hB0
  generalize hR : iterF (endsF s p) m fr = R
  have HR := Lib.hid hR
  clear hR
  have hPn : Pls W0 fr b cf := HF.out.later HB0.out
  have HPn := Lib.hid hPn
  clear hPn
  go_loopg [7, 8] m (fun k v7 v8 wr => ∃ (i : Nat) (L : Pl) (g c' : Nat), v7 = .slice (some ⟨g, 0, none⟩) (s.length + 1) c' ∧ v8 = .int .i64 (i : Int) ∧ i + k = m ∧ L.length = s.length + 1 ∧ Pls wr L g c' ∧ iterF (endsF s p) k L = R ∧ Below W0.heap.size W0 wr)
  case atStart => exact ⟨0, fr, b, cf, rfl, rfl, by omega, Hfr.out, HPn.out, HR.out, Below.refl _ _⟩
  case round =>
    clear HPn
    obtain ⟨i, L, g, c', rfl, rfl, hi, hL, hP, hit, hB⟩ := hrel
    have hz := hB.size
    have HP := Lib.hid hP; have Hit := Lib.hid hit; have HB := Lib.hid hB; have HL := Lib.hid hL
    have r5 := (hB.cell (p := ⟨w.heap.size, 5, none⟩) hz0).trans q5
    have r6 := (hB.cell (p := ⟨w.heap.size, 6, none⟩) hz0).trans q6
    have r7 := (hB.cell (p := ⟨w.heap.size, 7, none⟩) hz0).trans q7
    obtain ⟨f0, f1, f2, f3, f4, f5, f6, f7⟩ := Hat.out.mono (w' := wr) (fun o => (HB.out.cell (p := ⟨pb, o, none⟩) (by show pb < _; omega)).trans (HB0.out.cell (p := ⟨pb, o, none⟩) hpw))
    clear hP hit hB hL
    by_cases hlt : i < m
    case' pos =>
      obtain ⟨k, rfl⟩ : ∃ k, gk = k + 1 := ⟨gk - 1, by omega⟩
      go_wp2_with fail
      have hNr := (HN.out.later HB0.out Hok.out).later HB.out (fun b hb => by have := Hok.out b hb; omega)
      refine (Hp.out wr ok A1 c1 hNr (fun b hb => by have := Hok.out b hb; omega) L g c' HP.out HL.out).mono ?_
      rintro en w2 ⟨g2, c2, rfl, hP2, hl2, hb2⟩
      have hit := Hit.out
      rw [iter_succ] at hit
      have HP2 := Lib.hid hP2; have Hit2 := Lib.hid hit; have Hl2 := Lib.hid hl2; have Hb2 := Lib.hid hb2
      clear hP2 hit hl2 hb2
      go_wp2_with fail
      go_roundg k
      case measure => omega
      case rel => exact ⟨i + 1, _, g2, c2, rfl, by go_num, by omega, Hl2.out, HP2.out, Hit2.out, HB.out.trans (Hb2.out.mono hz)⟩
    case' neg =>
      have hk0 : gk = 0 := by omega
      have hit := Hit.out
      rw [hk0, iterF] at hit
      obtain rfl : i = m := by omega
      have HLR := Lib.hid hit
      clear hk0 hi
      clear hit Hit f0 f1 f2 f3 f4 f5 f6 f7
      go_wp2_with fail
      generalize hwv : wr = wv at *
      have hzv : W0.heap.size ≤ wv.heap.size := hz
      by_cases hm1 : mx = -1
      case' pos =>
        subst hm1
        have hst : ∃ res, starE (endsF s p) (s.length + 2) R R = res := ⟨_, rfl⟩
        obtain ⟨res, hst⟩ := hst
        have Hst := Lib.hid hst
        have hrep : repE (endsF s p) (i : Int) (-1) s.length fr = res := by unfold repE; rw [if_pos rfl, Int.toNat_natCast, HR.out]; exact Hst.out
        have Hrep := Lib.hid hrep
        clear hst hrep
        go_loopg [7, 9, 10] (s.length + 2) (fun k v7 v9 v10 wr => ∃ (j : Nat) (L out : Pl) (g c' g2 c2 : Nat), v7 = .slice (some ⟨g, 0, none⟩) (s.length + 1) c' ∧ v9 = .slice (some ⟨g2, 0, none⟩) (s.length + 1) c2 ∧ v10 = .int .i64 (j : Int) ∧ j + k ≤ 2000 ∧ L.length = s.length + 1 ∧ out.length = s.length + 1 ∧ Pls wr L g c' ∧ Pls wr out g2 c2 ∧ lacks out < k ∧ starE (endsF s p) k L out = res ∧ Below W0.heap.size W0 wr)
        case atStart => exact ⟨i, L, L, g, c', g, c', rfl, rfl, rfl, by omega, HL.out, HL.out, HP.out, HP.out, by have h9 : lacks L ≤ L.length := List.countP_le_length; rw [HL.out] at h9; omega, by rw [HLR.out]; exact Hst.out, HB.out⟩
        case round =>
          obtain ⟨j, L2, out, g3, c3, g4, c4, rfl, rfl, rfl, hjk, hL2, hol, hP2, hO2, hlk, hse, hB2⟩ := hrel
          have hz := hB2.size
          have r5 := (hB2.cell (p := ⟨w.heap.size, 5, none⟩) hz0).trans q5
          have r6 := (hB2.cell (p := ⟨w.heap.size, 6, none⟩) hz0).trans q6
          have r7 := (hB2.cell (p := ⟨w.heap.size, 7, none⟩) hz0).trans q7
          obtain ⟨f0, f1, f2, f3, f4, f5, f6, f7⟩ := Hat.out.mono (w' := wr) (fun o => (hB2.cell (p := ⟨pb, o, none⟩) (by show pb < _; omega)).trans (HB0.out.cell (p := ⟨pb, o, none⟩) hpw))
          have HB2 := Lib.hid hB2; have HP2 := Lib.hid hP2; have HO2 := Lib.hid hO2; have Hse := Lib.hid hse; have HL2 := Lib.hid hL2; have Hol := Lib.hid hol
          clear hB2 hP2 hO2 hse hL2 hol
          obtain ⟨k, rfl⟩ : ∃ k, gk = k + 1 := ⟨gk - 1, by omega⟩
          go_wp2_with fail
          have hNr := (HN.out.later HB0.out Hok.out).later HB2.out (fun b hb => by have := Hok.out b hb; omega)
          refine (Hp.out wr ok A1 c1 hNr (fun b hb => by have := Hok.out b hb; omega) L2 g3 c3 HP2.out HL2.out).mono ?_
          rintro en w2 ⟨g5, c5, rfl, hP5, hl5, hb5⟩
          have hO5 := HO2.out.later hb5
          have hz5 := hb5.size
          have hB5 := HB2.out.trans (hb5.mono hz)
          have HP5 := Lib.hid hP5; have HO5 := Lib.hid hO5; have Hl5 := Lib.hid hl5; have HB5 := Lib.hid hB5
          clear hP5 hO5 hl5 hB5 hb5 f0 f1 f2 f3 f4 f5 f6 f7 r5 r6 r7
          generalize hfl2 : endsF s p L2 = fL at *
          go_wp2_with fail
          have hboth := both_any w2 out fL g4 c4 g5 c5 HO5.out HP5.out (by rw [Hl5.out, Hol.out]) (by rw [Hol.out]; omega) (by rw [Hol.out]; omega)
          simp only [plV, Hl5.out, Hol.out, bothF_len] at hboth
          refine hboth.mono ?_
          rintro en w3 ⟨g6, c6, rfl, hP6, hb6⟩
          have hB6 := HB5.out.trans (hb6.mono (by omega))
          have hz6 := hB6.size
          have hO6 := HO5.out.later hb6
          have hP56 := HP5.out.later hb6
          have r6' := (hB6.cell (p := ⟨w.heap.size, 6, none⟩) hz0).trans q6
          have HP6 := Lib.hid hP6; have HO6 := Lib.hid hO6; have HB6 := Lib.hid hB6; have HP56 := Lib.hid hP56
          clear hP6 hO6 hB6 hb6 hboth hP56
          go_wp2_with fail
          have hsame := psame_any w3 (bothF out fL) out g6 c6 g4 c4 HP6.out HO6.out (by rw [bothF_len]) (by rw [bothF_len, Hol.out]; omega)
          simp only [plV, Hol.out, bothF_len] at hsame
          refine hsame.mono ?_
          rintro en w4 ⟨rfl, hb7⟩
          have hB7 := HB6.out.trans (hb7.mono hz6)
          have hO7 := HO6.out.later hb7
          have hP7 := HP6.out.later hb7
          have hP57 := HP56.out.later hb7
          have hse := Hse.out
          rw [starE, hfl2] at hse
          have Hfl2 := Lib.hid hfl2
          have HO7 := Lib.hid hO7; have HP7 := Lib.hid hP7; have HB7 := Lib.hid hB7; have HP57 := Lib.hid hP57
          clear hO7 hP7 hB7 hb7 hsame hfl2 Hse hP57
          cases hsm : sameF (bothF out fL) out with
          | true =>
            rw [hsm, if_pos rfl] at hse
            have Hse := Lib.hid hse
            clear hse hsm
            go_wp2_with fail
            exact bodyPost_ret (v := .slice (some ⟨g4, 0, none⟩) (s.length + 1) c4) (by simp [results, Try.results65, go_sem]) rfl ⟨g4, c4, rfl, by rw [Hrep.out, ← Hse.out]; exact HO7.out, by rw [Hrep.out, ← Hse.out]; exact Hol.out, HB0.out.trans (HB7.out.mono (by omega))⟩
          | false =>
            have hlt := both_lacks (out := out) (x := fL) (by rw [Hl5.out, Hol.out]) (by rw [hsm]; simp)
            rw [hsm, if_neg (by simp)] at hse
            have Hse := Lib.hid hse
            clear hse hsm
            have Hlt := Lib.hid hlt
            clear hlt
            go_wp2_with fail
            go_roundg k
            case measure => omega
            case rel => exact ⟨j + 1, fL, bothF out fL, g5, c5, g6, c6, rfl, rfl, by go_num, by omega, Hl5.out, by rw [bothF_len]; exact Hol.out, HP57.out, HP7.out, by have := Hlt.out; omega, Hse.out, HB7.out⟩
      case' neg =>
        have hmx : (mx == -1) = false := by simpa using hm1
        obtain ⟨x, rfl⟩ : ∃ x : Nat, mx = x := ⟨mx.toNat, by omega⟩
        have hst : ∃ res, optE (endsF s p) (x - i) R R = res := ⟨_, rfl⟩
        obtain ⟨res, hst⟩ := hst
        have Hst := Lib.hid hst
        have hrep : repE (endsF s p) (i : Int) (x : Int) s.length fr = res := by unfold repE; rw [if_neg hm1, Int.toNat_natCast, HR.out, show ((x : Int) - (i : Int)).toNat = x - i by omega]; exact Hst.out
        have Hrep := Lib.hid hrep
        clear hst hm1 hrep
        go_loopg [7, 9, 10] (x - i) (fun k v7 v9 v10 wr => ∃ (j : Nat) (L out : Pl) (g c' g2 c2 : Nat), v7 = .slice (some ⟨g, 0, none⟩) (s.length + 1) c' ∧ v9 = .slice (some ⟨g2, 0, none⟩) (s.length + 1) c2 ∧ v10 = .int .i64 (j : Int) ∧ j + k = x ∧ L.length = s.length + 1 ∧ out.length = s.length + 1 ∧ Pls wr L g c' ∧ Pls wr out g2 c2 ∧ optE (endsF s p) k L out = res ∧ Below W0.heap.size W0 wr)
        case atStart => exact ⟨i, L, L, g, c', g, c', rfl, rfl, rfl, by omega, HL.out, HL.out, HP.out, HP.out, by rw [HLR.out]; exact Hst.out, HB.out⟩
        case round =>
          obtain ⟨j, L2, out, g3, c3, g4, c4, rfl, rfl, rfl, hjk, hL2, hol, hP2, hO2, hse, hB2⟩ := hrel
          have hz := hB2.size
          have r5 := (hB2.cell (p := ⟨w.heap.size, 5, none⟩) hz0).trans q5
          have r6 := (hB2.cell (p := ⟨w.heap.size, 6, none⟩) hz0).trans q6
          have r7 := (hB2.cell (p := ⟨w.heap.size, 7, none⟩) hz0).trans q7
          obtain ⟨f0, f1, f2, f3, f4, f5, f6, f7⟩ := Hat.out.mono (w' := wr) (fun o => (hB2.cell (p := ⟨pb, o, none⟩) (by show pb < _; omega)).trans (HB0.out.cell (p := ⟨pb, o, none⟩) hpw))
          have HB2 := Lib.hid hB2; have HP2 := Lib.hid hP2; have HO2 := Lib.hid hO2; have Hse := Lib.hid hse; have HL2 := Lib.hid hL2; have Hol := Lib.hid hol
          clear hB2 hP2 hO2 hse hL2 hol
          by_cases hjx : j < x
          case' pos =>
            obtain ⟨k, rfl⟩ : ∃ k, gk = k + 1 := ⟨gk - 1, by omega⟩
            go_wp2_with fail
            have hNr := (HN.out.later HB0.out Hok.out).later HB2.out (fun b hb => by have := Hok.out b hb; omega)
            refine (Hp.out wr ok A1 c1 hNr (fun b hb => by have := Hok.out b hb; omega) L2 g3 c3 HP2.out HL2.out).mono ?_
            rintro en w2 ⟨g5, c5, rfl, hP5, hl5, hb5⟩
            have hO5 := HO2.out.later hb5
            have hz5 := hb5.size
            have hB5 := HB2.out.trans (hb5.mono hz)
            have HP5 := Lib.hid hP5; have HO5 := Lib.hid hO5; have Hl5 := Lib.hid hl5; have HB5 := Lib.hid hB5
            clear hP5 hO5 hl5 hB5 hb5 f0 f1 f2 f3 f4 f5 f6 f7 r5 r6 r7
            generalize hfl2 : endsF s p L2 = fL at *
            go_wp2_with fail
            have hboth := both_any w2 out fL g4 c4 g5 c5 HO5.out HP5.out (by rw [Hl5.out, Hol.out]) (by rw [Hol.out]; omega) (by rw [Hol.out]; omega)
            simp only [plV, Hl5.out, Hol.out, bothF_len] at hboth
            refine hboth.mono ?_
            rintro en w3 ⟨g6, c6, rfl, hP6, hb6⟩
            have hB6 := HB5.out.trans (hb6.mono (by omega))
            have hz6 := hB6.size
            have hP56 := HP5.out.later hb6
            have r6' := (hB6.cell (p := ⟨w.heap.size, 6, none⟩) hz0).trans q6
            have hse := Hse.out
            rw [optE, hfl2] at hse
            have HP6 := Lib.hid hP6; have HB6 := Lib.hid hB6; have HP56 := Lib.hid hP56; have Hse2 := Lib.hid hse
            clear hP6 hB6 hb6 hboth hP56 hse hfl2 Hse
            go_wp2_with fail
            go_roundg k
            case measure => omega
            case rel => exact ⟨j + 1, fL, bothF out fL, g5, c5, g6, c6, rfl, rfl, by go_num, by omega, Hl5.out, by rw [bothF_len]; exact Hol.out, HP56.out, HP6.out, Hse2.out, HB6.out⟩
          case' neg =>
            have hk0' : gk = 0 := by omega
            have hse := Hse.out
            rw [hk0', optE] at hse
            have Hse2 := Lib.hid hse
            clear hse Hse
            go_wp2_with fail
            exact bodyPost_ret (v := .slice (some ⟨g4, 0, none⟩) (s.length + 1) c4) (by simp [results, Try.results65, go_sem]) rfl ⟨g4, c4, rfl, by rw [Hrep.out, ← Hse2.out]; exact HO2.out, by rw [Hrep.out, ← Hse2.out]; exact Hol.out, HB0.out.trans (HB2.out.mono (by omega))⟩
end Go.Proofs.Ytdpmbanfaigmcaa

/- vouchref12.Ends: walked. -/
set_option linter.unusedVariables false
set_option linter.unusedSimpArgs false
namespace Go.Proofs.Ytdpmbanfaigmcaa
open Go.RowKit

theorem Thr.pls {w : World} {T n : Nat} {Y : List Bool} (h : Thr w T n Y) : Pls w Y T n := ⟨by rw [h.len]; exact Nat.le_refl _, h.lT, fun i hi => h.th i (by rw [← h.len]; exact hi)⟩
theorem Thr.setV {w : World} {T n : Nat} {Y : List Bool} (h : Thr w T n Y) {x : Nat} (hx : x < n) (v : Bool) : Thr (w.setCell ⟨T, x, none⟩ (.bool v)) T n (Y.set x v) := by
  refine ⟨by simp [h.len], fun i hi => ?_, fun i => by rw [World.frozen?_setCell]; exact h.tz i, by simpa using h.lT⟩
  by_cases e : x = i
  · subst e
    rw [World.cell?_setCell_same _ _ _ (h.th x hx)]
    simp [List.getD_eq_getElem?_getD, show x < Y.length by rw [h.len]; exact hx]
  · rw [World.cell?_setCell_other _ _ _ _ (by simp [e]), h.th i hi]
    simp [List.getD_eq_getElem?_getD, e]
/-- A set's places, filled so far. -/
def setP (s : List UInt8) (S : St) (fr : Pl) (i : Nat) : Pl := (List.range (s.length + 1)).map fun j => decide (j ≤ i) && (decide (0 < j) && at_ fr (j - 1) && bitS S (byteN s j))
theorem setP_zero (s : List UInt8) (S : St) (fr : Pl) : setP s S fr 0 = List.replicate (s.length + 1) false := by
  refine List.ext_getElem (by simp [setP]) fun j h1 h2 => ?_
  simp only [setP, List.getElem_map, List.getElem_range, List.getElem_replicate]
  cases j with
  | zero => simp
  | succ j => simp
theorem setP_succ (s : List UInt8) (S : St) (fr : Pl) (i : Nat) (hi : i < s.length) : setP s S fr (i + 1) = (setP s S fr i).set (i + 1) (at_ fr i && bitS S (byteN s (i + 1))) := by
  refine List.ext_getElem (by simp [setP]) fun j h1 h2 => ?_
  rw [List.getElem_set]
  simp only [setP, List.getElem_map, List.getElem_range]
  by_cases e : i + 1 = j
  · subst e; simp
  · rw [if_neg e, dec_iff (show j ≤ i + 1 ↔ j ≤ i by omega)]
theorem setP_all (s : List UInt8) (S : St) (fr : Pl) : setP s S fr s.length = setE s S fr := by
  refine List.ext_getElem (by simp [setP, setE]) fun j h1 h2 => ?_
  simp only [setP, setE, List.getElem_map, List.getElem_range]
  have : decide (j ≤ s.length) = true := by simp [setP] at h1; simp; omega
  rw [this, Bool.true_and]
theorem begE_set (s : List UInt8) (fr : Pl) : begE s fr = (List.replicate (s.length + 1) false).set 0 (at_ fr 0) := by
  refine List.ext_getElem (by simp [begE]) fun j h1 h2 => ?_
  rw [List.getElem_set]
  simp only [begE, List.getElem_map, List.getElem_range, List.getElem_replicate]
  by_cases e : 0 = j
  · subst e; simp
  · rw [if_neg e]; simp; omega
theorem endE_set (s : List UInt8) (fr : Pl) : endE s fr = (List.replicate (s.length + 1) false).set s.length (at_ fr s.length) := by
  refine List.ext_getElem (by simp [endE]) fun j h1 h2 => ?_
  rw [List.getElem_set]
  simp only [endE, List.getElem_map, List.getElem_range, List.getElem_replicate]
  by_cases e : s.length = j
  · subst e; simp
  · rw [if_neg e]; simp; omega
theorem idx_get0 (s : Bs) (i : Nat) (h : i < s.length) (hh : i < (bs s).size) : ((bs s)[i]'hh).toNat = byteN s (i + 1) := by
  have := idx_get s (i + 1) (by omega) (by omega) (by simpa using hh)
  simpa using this

set_option maxRecDepth 100000 in
set_option maxHeartbeats 8000000 in
theorem ends_any (s : Bs) (hs : s.length ≤ 1000) (t : T) : rightF t = true → Words t → EndsC s t := by
  induction t using T.ind with
  | h t ih =>
    intro hr hw w ok A c hN hok fr b cf hF hfr
    have hfits := fun p hp => (ends_fits s p (right_parts hr p hp)).len
    have hlen1 := (ends_fits s t hr).len fr hfr
    have hcs := right_cases hr
    have Hih := Lib.hid (fun p hp => ih p hp (right_parts hr p hp) (hw.p p hp))
    have Hw := Lib.hid hw.w
    have Heq := Lib.hid (endsF_eq s t fr)
    have Hlen1 := Lib.hid hlen1; have Hfits := Lib.hid hfits
    have HN := Lib.hid hN; have Hok := Lib.hid hok; have HF := Lib.hid hF; have Hfr := Lib.hid hfr
    have bcap := hF.cap; have blt := hF.lt
    rw [hfr] at bcap
    clear ih hr hw hN hok hF hfr hlen1 hfits
    have hsz0 : (bs s).size = s.length := by simp [bs, ByteArray.size]
    have hmk := run_make_row' (P := Try.prog) 73 4 (.bool false) 1 Try.underlying73 Try.infoBool rfl .i64 .i64 (s.length + 1) (by omega) (by omega)
    rw [show ((s.length + 1 : Nat) : Int) = (s.length : Int) + 1 by push_cast; rfl] at hmk
    have hnew : ∀ W : World, Thr (W.alloc (.cells (madeCells #[.bool false] (s.length + 1)) 4)) W.heap.size (s.length + 1) (List.replicate (s.length + 1) false) := fun W => thr_new W _
    have Hnew := Lib.hid hnew
    clear hnew
    rcases hcs with ⟨hk, hn, hmn, hmx⟩ | ⟨hk, hn, hmn, hmx⟩ | ⟨hk, hn, hmn, hmx⟩ | ⟨hk, hn, hmn, hmx⟩ | ⟨hk, hn, hmn, hmx⟩ | ⟨hk, hn, hmn, hmx⟩ | ⟨hk, hn, h0, h1, h2, h3⟩
    · have Hres := Lib.hid (show endsF s t fr = fr by rw [Heq.out, hk]; simp)
      clear hn hmn hmx
      go_enter Try.func55, Try.ntmps55
      go_upto_region 2 with fail
      generalize hW : (w.alloc _).alloc _ = W1
      have hB1 : Below w.heap.size w W1 := by subst hW; exact ((Below.refl _ _).alloc (Nat.le_refl _) _).alloc (by simp) _
      have hz1 : w.heap.size + 1 < W1.heap.size := by subst hW; simp
      have hT1 : Thr W1 (w.heap.size + 1) (s.length + 1) (List.replicate (s.length + 1) false) := by subst hW; have := Hnew.out (w.alloc (.cells #[.int .i64 0, .int .u64 t.s0, .int .u64 t.s1, .int .u64 t.s2, .int .u64 t.s3, .int .i64 t.mn, .int .i64 t.mx, .slice A t.ps.length c] 27)); simpa using this
      have q0 : W1.cell? ⟨w.heap.size, 0, none⟩ = some (.int .i64 0) := by subst hW; simp [go_sem]
      have HB1 := Lib.hid hB1; have HT1 := Lib.hid hT1
      have hb1 := fun o => hB1.cell (p := ⟨b, o, none⟩) blt
      clear hW hB1 hT1 hmk
      have hcp : ∀ ty, (Builtin.copy_ #[73, 73] ty #[.slice (some ⟨w.heap.size + 1, 0, none⟩) (s.length + 1) (s.length + 1), .slice (some ⟨b, 0, none⟩) (s.length + 1) cf]).run Try.prog W1 = .ok (goInt (bools fr).length) (W1.setCells (w.heap.size + 1) 0 (bools fr)) := fun ty =>
        run_copy_cells W1 73 73 ty 4 (w.heap.size + 1) 0 (s.length + 1) (s.length + 1) ⟨b, 0, none⟩ (s.length + 1) cf (bools fr) Try.underlying73 (by kernel_rfl) (by rw [bools_len, Hfr.out]; simp)
          (fun j v hv => by
            have hj : j < fr.length := by have := (List.getElem?_eq_some_iff.1 hv).1; simpa [bools] using this
            rw [addr_addX, Nat.zero_add, hb1, HF.out.cell j hj]
            rw [← hv]; simp [bools, at_, List.getD_eq_getElem?_getD, List.getElem?_eq_getElem hj])
          (fun j hj => by rw [Nat.zero_add, HT1.out.th j (by rw [bools_len, Hfr.out] at hj; exact hj)]; rfl) (fun j hj => HT1.out.tz _) (fun v hv => by
            obtain ⟨x, _, rfl⟩ := List.mem_map.1 hv; rfl)
      go_wp2_with (simp only [hcp])
      have hP : Pls (W1.setCells (w.heap.size + 1) 0 (bools fr)) fr (w.heap.size + 1) (s.length + 1) := by
        refine ⟨by rw [Hfr.out]; exact Nat.le_refl _, ?_, fun i hi => ?_⟩
        · have := (Lib.below_setCells (w.heap.size + 1) (Nat.zero_le _) (bools fr) 0 (Below.refl 0 W1)).size
          omega
        · have := World.cell?_setCells_in (w.heap.size + 1) (bools fr) 0 W1 (fun j hj => by rw [Nat.zero_add, HT1.out.th j (by rw [bools_len, Hfr.out] at hj; exact hj)]; rfl) i (by rw [bools_len]; exact hi)
          rw [Nat.zero_add] at this
          rw [this]
          simp [bools, at_, List.getD_eq_getElem?_getD, List.getElem?_eq_getElem hi]
      exact bodyPost_ret (v := .slice (some ⟨w.heap.size + 1, 0, none⟩) (s.length + 1) (s.length + 1)) (by simp [results, Try.results55, go_sem]) rfl ⟨w.heap.size + 1, s.length + 1, rfl, by rw [Hres.out]; exact hP, Hlen1.out, Lib.below_setCells (w.heap.size + 1) (by omega) (bools fr) 0 HB1.out⟩
    · have Hres := Lib.hid (show endsF s t fr = setE s ⟨1, t.s0, t.s1, t.s2, t.s3, 0, 0⟩ fr by rw [Heq.out, hk]; simp)
      clear hn hmn hmx
      go_enter Try.func55, Try.ntmps55
      go_upto_region 2 with fail
      generalize hW : (w.alloc _).alloc _ = W1
      have hB1 : Below w.heap.size w W1 := by subst hW; exact ((Below.refl _ _).alloc (Nat.le_refl _) _).alloc (by simp) _
      have hz1 : w.heap.size + 1 < W1.heap.size := by subst hW; simp
      have hT1 : Thr W1 (w.heap.size + 1) (s.length + 1) (List.replicate (s.length + 1) false) := by subst hW; have := Hnew.out (w.alloc (.cells #[.int .i64 1, .int .u64 t.s0, .int .u64 t.s1, .int .u64 t.s2, .int .u64 t.s3, .int .i64 t.mn, .int .i64 t.mx, .slice A t.ps.length c] 27)); simpa using this
      have q0 : W1.cell? ⟨w.heap.size, 0, none⟩ = some (.int .i64 1) := by subst hW; simp [go_sem]
      have q1 : W1.cell? ⟨w.heap.size, 1, none⟩ = some (.int .u64 t.s0) := by subst hW; simp [go_sem]
      have q2 : W1.cell? ⟨w.heap.size, 2, none⟩ = some (.int .u64 t.s1) := by subst hW; simp [go_sem]
      have q3 : W1.cell? ⟨w.heap.size, 3, none⟩ = some (.int .u64 t.s2) := by subst hW; simp [go_sem]
      have q4 : W1.cell? ⟨w.heap.size, 4, none⟩ = some (.int .u64 t.s3) := by subst hW; simp [go_sem]
      have HB1 := Lib.hid hB1; have HT1 := Lib.hid hT1
      have hb1 := fun o => hB1.cell (p := ⟨b, o, none⟩) blt
      clear hW hB1 hT1 hmk
      have Hb1 := Lib.hid hb1
      have Hwk : Wok ⟨t.s0, t.s1, t.s2, t.s3⟩ := Hw.out
      have HWk := Lib.hid Hwk
      clear hb1 Hwk hk
      generalize t.s0 = s0 at *
      generalize t.s1 = s1 at *
      generalize t.s2 = s2 at *
      generalize t.s3 = s3 at *
      go_wp2_with fail
      go_loopg [8] s.length (fun k v8 wr => ∃ (i : Nat), v8 = .int .i64 (i : Int) ∧ i + k = s.length ∧ Thr wr (w.heap.size + 1) (s.length + 1) (setP s ⟨1, s0, s1, s2, s3, 0, 0⟩ fr i) ∧ Off (w.heap.size + 1) W1 wr)
      case atStart => exact ⟨0, rfl, by omega, by rw [setP_zero]; exact HT1.out, Off.refl _ _⟩
      case round =>
        obtain ⟨i, rfl, hi, hT, hO⟩ := hrel
        have hzO := hO.size
        have HT := Lib.hid hT; have HO := Lib.hid hO
        have r0 := (hO.cell (b := w.heap.size) (o := 0) (by omega) (by omega)).trans q0
        have r1 := (hO.cell (b := w.heap.size) (o := 1) (by omega) (by omega)).trans q1
        have r2 := (hO.cell (b := w.heap.size) (o := 2) (by omega) (by omega)).trans q2
        have r3 := (hO.cell (b := w.heap.size) (o := 3) (by omega) (by omega)).trans q3
        have r4 := (hO.cell (b := w.heap.size) (o := 4) (by omega) (by omega)).trans q4
        clear hT hO
        by_cases hlt : i < s.length
        case' pos =>
          have tx := (HO.out.cell (b := b) (o := i) (by omega) (by omega)).trans ((Hb1.out i).trans (HF.out.cell i (by rw [Hfr.out]; omega)))
          have ty := HT.out.th (i + 1) (by omega)
          have tz := HT.out.tz (i + 1)
          have lT := HT.out.lT
          have hsP := setP_succ s ⟨1, s0, s1, s2, s3, 0, 0⟩ fr i hlt
          have hidx : ∀ hh, ((bs s)[i]'hh).toNat = byteN s (i + 1) := idx_get0 s i hlt
          have hcl : byteN s (i + 1) < 256 := by unfold byteN; exact UInt8.toNat_lt _
          have i0 : (0 : Int) ≤ (i : Int) := by omega
          have i1 : (i : Int) < (s.length : Int) := by omega
          have i2 : (i : Int) < (s.length : Int) + 1 := by omega
          have i3 : (i : Int) + 1 < (s.length : Int) + 1 := by omega
          have i4 : (0 : Int) ≤ (i : Int) + 1 := by omega
          have hwr : IntKind.i64.wrap ((i : Int) + 1) = (i : Int) + 1 := IntWalk.i64_in _ (by omega)
          have Hty := Lib.hid ty
          cases hx : at_ fr i with
          | false =>
            rw [hx, Bool.false_and] at hsP
            rw [hx] at tx
            have HsP := Lib.hid hsP
            clear hsP hx hidx
            go_wp2_with fail
            go_region
            all_goals go_wp2_with fail
            have hT2 := HT.out.setV (x := i + 1) (by omega) false
            rw [← HsP.out] at hT2
            have hT3 := Lib.hid (hT2.later (below_drewN _ 1))
            have hO3 := Lib.hid ((HO.out.set (i + 1) (.bool false)).trans (Off.of_below (below_drewN _ 1)))
            go_roundg (gk - 1)
            case measure => omega
            case rel => exact ⟨i + 1, by go_num, by omega, hT3.out, hO3.out⟩
          | true =>
            rw [hx, Bool.true_and] at hsP
            rw [hx] at tx
            have HsP := Lib.hid hsP
            clear hsP hx
            go_wp2_with fail
            go_region_with (go_at_call 52; refine (rbit_any _ 1 s0 s1 s2 s3 0 0 (byteN s (i + 1)) hcl HWk.out).mono ?_; rintro en w7 ⟨rfl, hb7⟩; have t7 := (hb7.cell (p := ⟨w.heap.size + 1, i + 1, none⟩) (by simpa using lT)).trans ty; have z7 := (hb7.frozen (p := ⟨w.heap.size + 1, i + 1, none⟩) (by simpa using lT)).trans tz)
            all_goals
              go_wp2_with fail
              have hT7 := (HT.out.later (below_drewN _ 1)).later hb7
              have hO7 := (HO.out.trans (Off.of_below (below_drewN _ 1))).trans (Off.of_below hb7)
              have hT8 := hT7.setV (x := i + 1) (by omega) (bitS ⟨1, s0, s1, s2, s3, 0, 0⟩ (byteN s (i + 1)))
              rw [← HsP.out] at hT8
              have hT9 := Lib.hid hT8
              have hO9 := Lib.hid (hO7.set (i + 1) (.bool (bitS ⟨1, s0, s1, s2, s3, 0, 0⟩ (byteN s (i + 1)))))
              clear hT7 hO7 hT8 hb7 hidx
              go_roundg (gk - 1)
              case measure => omega
              case rel => exact ⟨i + 1, by go_num, by omega, hT9.out, hO9.out⟩
        case' neg =>
          have hie : i = s.length := by omega
          have hT := HT.out
          rw [hie, setP_all] at hT
          have HT2 := Lib.hid hT
          clear hT HT hie
          go_wp2_with fail
          exact bodyPost_ret (v := .slice (some ⟨w.heap.size + 1, 0, none⟩) (s.length + 1) (s.length + 1)) (by simp [results, Try.results55, go_sem]) rfl ⟨w.heap.size + 1, s.length + 1, rfl, by rw [Hres.out]; exact HT2.out.pls, Hlen1.out, HB1.out.trans (HO.out.below (by omega) (by omega))⟩
    · have Hres := Lib.hid (show endsF s t fr = begE s fr by rw [Heq.out, hk]; simp)
      clear hn hmn hmx
      go_enter Try.func55, Try.ntmps55
      go_upto_region 2 with fail
      generalize hW : (w.alloc _).alloc _ = W1
      have hB1 : Below w.heap.size w W1 := by subst hW; exact ((Below.refl _ _).alloc (Nat.le_refl _) _).alloc (by simp) _
      have hz1 : w.heap.size + 1 < W1.heap.size := by subst hW; simp
      have hT1 : Thr W1 (w.heap.size + 1) (s.length + 1) (List.replicate (s.length + 1) false) := by subst hW; have := Hnew.out (w.alloc (.cells #[.int .i64 2, .int .u64 t.s0, .int .u64 t.s1, .int .u64 t.s2, .int .u64 t.s3, .int .i64 t.mn, .int .i64 t.mx, .slice A t.ps.length c] 27)); simpa using this
      have q0 : W1.cell? ⟨w.heap.size, 0, none⟩ = some (.int .i64 2) := by subst hW; simp [go_sem]
      have HB1 := Lib.hid hB1; have HT1 := Lib.hid hT1
      have hb1 := fun o => hB1.cell (p := ⟨b, o, none⟩) blt
      clear hW hB1 hT1 hmk
      have tx := (hb1 0).trans (HF.out.cell 0 (by rw [Hfr.out]; omega))
      have ty := HT1.out.th 0 (by omega)
      have tz := HT1.out.tz 0
      clear hb1
      go_wp2_with fail
      have hT2 := HT1.out.setV (x := 0) (by omega) (at_ fr 0)
      rw [← begE_set] at hT2
      exact bodyPost_ret (v := .slice (some ⟨w.heap.size + 1, 0, none⟩) (s.length + 1) (s.length + 1)) (by simp [results, Try.results55, go_sem]) rfl ⟨w.heap.size + 1, s.length + 1, rfl, by rw [Hres.out]; exact hT2.pls, Hlen1.out, HB1.out.setCell (by simp) _⟩
    · have Hres := Lib.hid (show endsF s t fr = endE s fr by rw [Heq.out, hk]; simp)
      clear hn hmn hmx
      go_enter Try.func55, Try.ntmps55
      go_upto_region 2 with fail
      generalize hW : (w.alloc _).alloc _ = W1
      have hB1 : Below w.heap.size w W1 := by subst hW; exact ((Below.refl _ _).alloc (Nat.le_refl _) _).alloc (by simp) _
      have hz1 : w.heap.size + 1 < W1.heap.size := by subst hW; simp
      have hT1 : Thr W1 (w.heap.size + 1) (s.length + 1) (List.replicate (s.length + 1) false) := by subst hW; have := Hnew.out (w.alloc (.cells #[.int .i64 3, .int .u64 t.s0, .int .u64 t.s1, .int .u64 t.s2, .int .u64 t.s3, .int .i64 t.mn, .int .i64 t.mx, .slice A t.ps.length c] 27)); simpa using this
      have q0 : W1.cell? ⟨w.heap.size, 0, none⟩ = some (.int .i64 3) := by subst hW; simp [go_sem]
      have HB1 := Lib.hid hB1; have HT1 := Lib.hid hT1
      have hb1 := fun o => hB1.cell (p := ⟨b, o, none⟩) blt
      clear hW hB1 hT1 hmk
      have tx := (hb1 s.length).trans (HF.out.cell s.length (by rw [Hfr.out]; omega))
      have ty := HT1.out.th s.length (by omega)
      have tz := HT1.out.tz s.length
      clear hb1
      go_wp2_with fail
      have hT2 := HT1.out.setV (x := s.length) (by omega) (at_ fr s.length)
      rw [← endE_set] at hT2
      exact bodyPost_ret (v := .slice (some ⟨w.heap.size + 1, 0, none⟩) (s.length + 1) (s.length + 1)) (by simp [results, Try.results55, go_sem]) rfl ⟨w.heap.size + 1, s.length + 1, rfl, by rw [Hres.out]; exact hT2.pls, Hlen1.out, HB1.out.setCell (by simp) _⟩
    · have Hres := Lib.hid (show endsF s t fr = rowE s t.ps fr by rw [Heq.out, hk]; simp)
      clear hn hmn hmx
      go_enter Try.func55, Try.ntmps55
      go_upto_region 2 with fail
      generalize hW : (w.alloc _).alloc _ = W1
      have hB1 : Below w.heap.size w W1 := by subst hW; exact ((Below.refl _ _).alloc (Nat.le_refl _) _).alloc (by simp) _
      have hz1 : w.heap.size + 1 < W1.heap.size := by subst hW; simp
      have hT1 : Thr W1 (w.heap.size + 1) (s.length + 1) (List.replicate (s.length + 1) false) := by subst hW; have := Hnew.out (w.alloc (.cells #[.int .i64 4, .int .u64 t.s0, .int .u64 t.s1, .int .u64 t.s2, .int .u64 t.s3, .int .i64 t.mn, .int .i64 t.mx, .slice A t.ps.length c] 27)); simpa using this
      have q0 : W1.cell? ⟨w.heap.size, 0, none⟩ = some (.int .i64 4) := by subst hW; simp [go_sem]
      have q7 : W1.cell? ⟨w.heap.size, 7, none⟩ = some (.slice A t.ps.length c) := by subst hW; simp [go_sem]
      have HB1 := Lib.hid hB1; have HT1 := Lib.hid hT1
      clear hW hB1 hT1 hmk
      have hlen0 := HN.out.len
      have HP1 := Lib.hid (HF.out.later HB1.out)
      have Hk := Lib.hid hk
      clear hk
      go_wp2_with fail
      go_loopg [7, 9] t.ps.length (fun k v7 v9 wr => ∃ (j : Nat) (L : Pl) (g c' : Nat), v7 = .slice (some ⟨g, 0, none⟩) (s.length + 1) c' ∧ v9 = .int .i64 (j : Int) ∧ j + k = t.ps.length ∧ L.length = s.length + 1 ∧ Pls wr L g c' ∧ rowE s (t.ps.drop j) L = rowE s t.ps fr ∧ Below W1.heap.size W1 wr)
      case atStart => exact ⟨0, fr, b, cf, rfl, rfl, by omega, Hfr.out, HP1.out, rfl, Below.refl _ _⟩
      case round =>
        clear HP1
        obtain ⟨j, L, g, c', rfl, rfl, hj, hL, hP, hro, hBr⟩ := hrel
        have HL := Lib.hid hL; have HP := Lib.hid hP; have Hro := Lib.hid hro
        clear hL hP hro
        have r7 := (hBr.cell (p := ⟨w.heap.size, 7, none⟩) (by show w.heap.size < _; omega)).trans q7
        have hzr := hBr.size
        have HBr := Lib.hid hBr
        by_cases hlt : j < t.ps.length
        case' pos =>
          obtain ⟨pb, po, rfl, hpb, hcell⟩ := HN.out.part (by omega)
          obtain ⟨A1, c1, h8, hNp⟩ := hcell j hlt
          have hcap := HN.out.cap
          have hlen := HN.out.len
          have hpw := Hok.out pb hpb
          obtain ⟨f0, f1, f2, f3, f4, f5, f6, f7⟩ := h8.mono (w' := wr) (fun o => (hBr.cell (p := ⟨pb, o, none⟩) (by show pb < _; omega)).trans (HB1.out.cell (p := ⟨pb, o, none⟩) hpw))
          have Hp := Lib.hid (Hih.out t.ps[j] (List.getElem_mem _))
          have Hfl := Lib.hid (Hfits.out t.ps[j] (List.getElem_mem _))
          have Hd := Lib.hid (drop_cons hlt)
          have hNr := (hNp.later HB1.out Hok.out).later hBr (fun b hb => by have := Hok.out b hb; omega)
          have HNr := Lib.hid hNr
          clear hcell hNp h8 hNr hBr
          generalize t.ps[j] = p at *
          go_wp2_with fail
          refine (Hp.out wr ok A1 c1 HNr.out (fun b hb => by have := Hok.out b hb; omega) L g c' HP.out HL.out).mono ?_
          rintro en w2 ⟨g2, c2, rfl, hP2, hl2, hb2⟩
          have hro := Hro.out
          rw [Hd.out, rowE] at hro
          have HP2 := Lib.hid hP2; have Hl2 := Lib.hid hl2; have Hb2 := Lib.hid hb2; have Hro2 := Lib.hid hro
          clear hP2 hl2 hb2 hro
          go_wp2_with fail
          go_roundg (gk - 1)
          case measure => omega
          case rel => exact ⟨j + 1, _, g2, c2, rfl, by go_num, by omega, Hl2.out, HP2.out, Hro2.out, HBr.out.trans (Hb2.out.mono hzr)⟩
        case' neg =>
          have hro := Hro.out
          rw [List.drop_of_length_le (by omega), rowE] at hro
          have Hro2 := Lib.hid hro
          clear hro hBr
          go_wp2_with fail
          exact bodyPost_ret (v := .slice (some ⟨g, 0, none⟩) (s.length + 1) c') (by simp [results, Try.results55, go_sem]) rfl ⟨g, c', rfl, by rw [Hres.out, ← Hro2.out]; exact HP.out, Hlen1.out, HB1.out.trans (HBr.out.mono (by omega))⟩
    · have Hres := Lib.hid (show endsF s t fr = altE s t.ps fr (nonE s) by rw [Heq.out, hk]; simp)
      clear hn hmn hmx
      go_enter Try.func55, Try.ntmps55
      go_upto_region 2 with fail
      generalize hW : (w.alloc _).alloc _ = W1
      have hB1 : Below w.heap.size w W1 := by subst hW; exact ((Below.refl _ _).alloc (Nat.le_refl _) _).alloc (by simp) _
      have hz1 : w.heap.size + 1 < W1.heap.size := by subst hW; simp
      have hT1 : Thr W1 (w.heap.size + 1) (s.length + 1) (List.replicate (s.length + 1) false) := by subst hW; have := Hnew.out (w.alloc (.cells #[.int .i64 5, .int .u64 t.s0, .int .u64 t.s1, .int .u64 t.s2, .int .u64 t.s3, .int .i64 t.mn, .int .i64 t.mx, .slice A t.ps.length c] 27)); simpa using this
      have q0 : W1.cell? ⟨w.heap.size, 0, none⟩ = some (.int .i64 5) := by subst hW; simp [go_sem]
      have q7 : W1.cell? ⟨w.heap.size, 7, none⟩ = some (.slice A t.ps.length c) := by subst hW; simp [go_sem]
      have HB1 := Lib.hid hB1; have HT1 := Lib.hid hT1
      clear hW hB1 hT1 hmk
      have hlen0 := HN.out.len
      have HP1 := Lib.hid (HF.out.later HB1.out)
      have hPn := HT1.out.pls
      have HPn := Lib.hid hPn
      have Hk := Lib.hid hk
      clear hk hPn
      go_wp2_with fail
      go_loopg [7, 10] t.ps.length (fun k v7 v10 wr => ∃ (j : Nat) (L : Pl) (g c' : Nat), v7 = .slice (some ⟨g, 0, none⟩) (s.length + 1) c' ∧ v10 = .int .i64 (j : Int) ∧ j + k = t.ps.length ∧ L.length = s.length + 1 ∧ Pls wr L g c' ∧ altE s (t.ps.drop j) fr L = altE s t.ps fr (nonE s) ∧ Below W1.heap.size W1 wr)
      case atStart => exact ⟨0, nonE s, w.heap.size + 1, s.length + 1, rfl, rfl, by omega, by simp [nonE], HPn.out, rfl, Below.refl _ _⟩
      case round =>
        clear HPn
        obtain ⟨j, L, g, c', rfl, rfl, hj, hL, hP, hro, hBr⟩ := hrel
        have HL := Lib.hid hL; have HP := Lib.hid hP; have Hro := Lib.hid hro
        clear hL hP hro
        have r7 := (hBr.cell (p := ⟨w.heap.size, 7, none⟩) (by show w.heap.size < _; omega)).trans q7
        have hzr := hBr.size
        have HBr := Lib.hid hBr
        by_cases hlt : j < t.ps.length
        case' pos =>
          obtain ⟨pb, po, rfl, hpb, hcell⟩ := HN.out.part (by omega)
          obtain ⟨A1, c1, h8, hNp⟩ := hcell j hlt
          have hcap := HN.out.cap
          have hlen := HN.out.len
          have hpw := Hok.out pb hpb
          obtain ⟨f0, f1, f2, f3, f4, f5, f6, f7⟩ := h8.mono (w' := wr) (fun o => (hBr.cell (p := ⟨pb, o, none⟩) (by show pb < _; omega)).trans (HB1.out.cell (p := ⟨pb, o, none⟩) hpw))
          have Hp := Lib.hid (Hih.out t.ps[j] (List.getElem_mem _))
          have Hfl := Lib.hid (Hfits.out t.ps[j] (List.getElem_mem _))
          have Hd := Lib.hid (drop_cons hlt)
          have hNr := (hNp.later HB1.out Hok.out).later hBr (fun b hb => by have := Hok.out b hb; omega)
          have HNr := Lib.hid hNr
          clear hcell hNp h8 hNr hBr
          generalize t.ps[j] = p at *
          go_wp2_with fail
          refine (Hp.out wr ok A1 c1 HNr.out (fun b hb => by have := Hok.out b hb; omega) fr b cf (HP1.out.later (HBr.out)) Hfr.out).mono ?_
          rintro en w2 ⟨g2, c2, rfl, hP2, hl2, hb2⟩
          have hro := Hro.out
          rw [Hd.out, altE] at hro
          have hz2 := hb2.size
          have hPL := HP.out.later hb2
          have HP2 := Lib.hid hP2; have Hl2 := Lib.hid hl2; have Hb2 := Lib.hid hb2; have Hro2 := Lib.hid hro; have HPL := Lib.hid hPL
          clear hP2 hl2 hb2 hro hPL
          generalize endsF s p fr = E2 at *
          go_wp2_with fail
          have hboth := both_any w2 L E2 g c' g2 c2 HPL.out HP2.out (by rw [Hl2.out, HL.out]) (by rw [HL.out]; omega) (by rw [HL.out]; omega)
          simp only [plV, Hl2.out, HL.out, bothF_len] at hboth
          refine hboth.mono ?_
          rintro en w3 ⟨g6, c6, rfl, hP6, hb6⟩
          have HP6 := Lib.hid hP6; have Hb6 := Lib.hid hb6
          clear hP6 hb6 hboth
          go_wp2_with fail
          go_roundg (gk - 1)
          case measure => omega
          case rel => exact ⟨j + 1, _, g6, c6, rfl, by go_num, by omega, by rw [bothF_len]; exact HL.out, HP6.out, Hro2.out, HBr.out.trans ((Hb2.out.mono hzr).trans (Hb6.out.mono (by omega)))⟩
        case' neg =>
          have hro := Hro.out
          rw [List.drop_of_length_le (by omega), altE] at hro
          have Hro2 := Lib.hid hro
          clear hro hBr
          go_wp2_with fail
          exact bodyPost_ret (v := .slice (some ⟨g, 0, none⟩) (s.length + 1) c') (by simp [results, Try.results55, go_sem]) rfl ⟨g, c', rfl, by rw [Hres.out, ← Hro2.out]; exact HP.out, Hlen1.out, HB1.out.trans (HBr.out.mono (by omega))⟩
    · obtain ⟨p, hp⟩ := List.length_eq_one_iff.1 hn
      have Hres := Lib.hid (show endsF s t fr = repE (endsF s p) t.mn t.mx s.length fr by rw [Heq.out, hk, hp, show headE s [p] = endsF s p by funext fr; rw [headE]]; simp)
      have hmem : p ∈ t.ps := by rw [hp]; simp
      have hrep := fun w ok A c hN hok fr b cf hF hfr => ends_rep s hs t p hp h0 h1 h2 h3 (Hih.out p hmem) (Hfits.out p hmem) w ok A c hN hok fr b cf hF hfr
      have Hrep := Lib.hid hrep
      clear hrep hmem hp hn h0 h1 h2 h3
      go_enter Try.func55, Try.ntmps55
      go_upto_region 2 with fail
      generalize hW : (w.alloc _).alloc _ = W1
      have hB1 : Below w.heap.size w W1 := by subst hW; exact ((Below.refl _ _).alloc (Nat.le_refl _) _).alloc (by simp) _
      have hz1 : w.heap.size + 1 < W1.heap.size := by subst hW; simp
      have hT1 : Thr W1 (w.heap.size + 1) (s.length + 1) (List.replicate (s.length + 1) false) := by subst hW; have := Hnew.out (w.alloc (.cells #[.int .i64 6, .int .u64 t.s0, .int .u64 t.s1, .int .u64 t.s2, .int .u64 t.s3, .int .i64 t.mn, .int .i64 t.mx, .slice A t.ps.length c] 27)); simpa using this
      have q0 : W1.cell? ⟨w.heap.size, 0, none⟩ = some (.int .i64 6) := by subst hW; simp [go_sem]
      have q1 : W1.cell? ⟨w.heap.size, 1, none⟩ = some (.int .u64 t.s0) := by subst hW; simp [go_sem]
      have q2 : W1.cell? ⟨w.heap.size, 2, none⟩ = some (.int .u64 t.s1) := by subst hW; simp [go_sem]
      have q3 : W1.cell? ⟨w.heap.size, 3, none⟩ = some (.int .u64 t.s2) := by subst hW; simp [go_sem]
      have q4 : W1.cell? ⟨w.heap.size, 4, none⟩ = some (.int .u64 t.s3) := by subst hW; simp [go_sem]
      have q5 : W1.cell? ⟨w.heap.size, 5, none⟩ = some (.int .i64 t.mn) := by subst hW; simp [go_sem]
      have q6 : W1.cell? ⟨w.heap.size, 6, none⟩ = some (.int .i64 t.mx) := by subst hW; simp [go_sem]
      have q7 : W1.cell? ⟨w.heap.size, 7, none⟩ = some (.slice A t.ps.length c) := by subst hW; simp [go_sem]
      have HB1 := Lib.hid hB1; have HT1 := Lib.hid hT1
      clear hW hB1 hT1 hmk
      have hNr := HN.out.later HB1.out Hok.out
      have hPr := HF.out.later HB1.out
      have HNr := Lib.hid hNr; have HPr := Lib.hid hPr
      clear hNr hPr
      have hcall := Hrep.out W1 ok A c HNr.out (fun b hb => by have := Hok.out b hb; omega) fr b cf HPr.out Hfr.out
      rw [show nodeV t A c = .agg #[.int .i64 6, .int .u64 t.s0, .int .u64 t.s1, .int .u64 t.s2, .int .u64 t.s3, .int .i64 t.mn, .int .i64 t.mx, .slice A t.ps.length c] by rw [nodeV, hk]] at hcall
      have Hcall := Lib.hid hcall
      clear hcall
      go_wp2_with fail
      refine Hcall.out.mono ?_
      rintro en w2 ⟨g2, c2, rfl, hP2, hl2, hb2⟩
      have HP2 := Lib.hid hP2; have Hb2 := Lib.hid hb2
      clear hP2 hl2 hb2
      go_wp2_with fail
      exact bodyPost_ret (v := .slice (some ⟨g2, 0, none⟩) (s.length + 1) c2) (by simp [results, Try.results55, go_sem]) rfl ⟨g2, c2, rfl, by rw [Hres.out]; exact HP2.out, Hlen1.out, HB1.out.trans (Hb2.out.mono (by omega))⟩
end Go.Proofs.Ytdpmbanfaigmcaa

/- vouchref12.Describes: walked. -/
set_option linter.unusedVariables false
set_option linter.unusedSimpArgs false
namespace Go.Proofs.Ytdpmbanfaigmcaa
open Go.RowKit

/-- Places filled so far. -/
def trueP (n i : Nat) : Pl := (List.range n).map fun j => decide (j < i)
theorem trueP_zero (n : Nat) : trueP n 0 = List.replicate n false := by
  refine List.ext_getElem (by simp [trueP]) fun j h1 h2 => by simp [trueP]
theorem trueP_all (n : Nat) : trueP n n = List.replicate n true := by
  refine List.ext_getElem (by simp [trueP]) fun j h1 h2 => by simp [trueP] at h1 ⊢; exact h1
theorem trueP_succ (n i : Nat) (hi : i < n) : trueP n (i + 1) = (trueP n i).set i true := by
  refine List.ext_getElem (by simp [trueP]) fun j h1 h2 => ?_
  rw [List.getElem_set]
  simp only [trueP, List.getElem_map, List.getElem_range]
  by_cases e : i = j
  · subst e; simp
  · rw [if_neg e, dec_iff (show j < i + 1 ↔ j < i by omega)]
set_option maxRecDepth 100000 in
set_option maxHeartbeats 4000000 in
theorem desc_any (s : Bs) (hs : s.length ≤ 1000) (t : T) (hr : rightF t = true) (hw : Words t) (w : World) (ok : Nat → Prop) (A : Option Addr) (c : Nat) (hN : NodeAt w ok t A c) (hok : ∀ b, ok b → b < w.heap.size) :
    Calls Try.prog 36 #[nodeV t A c, .string (bs s)] w fun en w' => en = .returned (.bool (descF s t)) ∧ Below w.heap.size w w' := by
  have hsz0 : (bs s).size = s.length := by simp [bs, ByteArray.size]
  have hmk := run_make_row' (P := Try.prog) 73 4 (.bool false) 1 Try.underlying73 Try.infoBool rfl .i64 .i64 (s.length + 1) (by omega) (by omega)
  rw [show ((s.length + 1 : Nat) : Int) = (s.length : Int) + 1 by push_cast; rfl] at hmk
  have hends := ends_any s hs t hr hw
  have hlen1 := (ends_fits s t hr).len
  have HN := Lib.hid hN; have Hok := Lib.hid hok; have Hends := Lib.hid hends; have Hlen1 := Lib.hid hlen1
  clear hr hw hN hok hends hlen1
  go_enter Try.func36, Try.ntmps36
  go_upto_region 2 with fail
  generalize hW : (w.alloc _).alloc _ = W1
  have hB1 : Below w.heap.size w W1 := by subst hW; exact ((Below.refl _ _).alloc (Nat.le_refl _) _).alloc (by simp) _
  have hz1 : w.heap.size + 1 < W1.heap.size := by subst hW; simp
  have hT1 : Thr W1 (w.heap.size + 1) (s.length + 1) (List.replicate (s.length + 1) false) := by subst hW; have := thr_new (w.alloc (.cells #[.int .i64 t.k, .int .u64 t.s0, .int .u64 t.s1, .int .u64 t.s2, .int .u64 t.s3, .int .i64 t.mn, .int .i64 t.mx, .slice A t.ps.length c] 27)) (s.length + 1); simpa using this
  have q0 : W1.cell? ⟨w.heap.size, 0, none⟩ = some (.int .i64 t.k) := by subst hW; simp [go_sem]
  have q1 : W1.cell? ⟨w.heap.size, 1, none⟩ = some (.int .u64 t.s0) := by subst hW; simp [go_sem]
  have q2 : W1.cell? ⟨w.heap.size, 2, none⟩ = some (.int .u64 t.s1) := by subst hW; simp [go_sem]
  have q3 : W1.cell? ⟨w.heap.size, 3, none⟩ = some (.int .u64 t.s2) := by subst hW; simp [go_sem]
  have q4 : W1.cell? ⟨w.heap.size, 4, none⟩ = some (.int .u64 t.s3) := by subst hW; simp [go_sem]
  have q5 : W1.cell? ⟨w.heap.size, 5, none⟩ = some (.int .i64 t.mn) := by subst hW; simp [go_sem]
  have q6 : W1.cell? ⟨w.heap.size, 6, none⟩ = some (.int .i64 t.mx) := by subst hW; simp [go_sem]
  have q7 : W1.cell? ⟨w.heap.size, 7, none⟩ = some (.slice A t.ps.length c) := by subst hW; simp [go_sem]
  have HB1 := Lib.hid hB1; have HT1 := Lib.hid hT1
  clear hW hB1 hT1 hmk
  go_wp2_with fail
  go_loopg [6] (s.length + 1) (fun k v6 wr => ∃ i : Nat, v6 = .int .i64 (i : Int) ∧ i + k = s.length + 1 ∧ Thr wr (w.heap.size + 1) (s.length + 1) (trueP (s.length + 1) i) ∧ Off (w.heap.size + 1) W1 wr)
  case atStart => exact ⟨0, rfl, by omega, by rw [trueP_zero]; exact HT1.out, Off.refl _ _⟩
  case round =>
    clear HT1
    obtain ⟨i, rfl, hi, hT, hO⟩ := hrel
    have hzO := hO.size
    have HT := Lib.hid hT; have HO := Lib.hid hO
    by_cases hlt : i < s.length + 1
    case' pos =>
      have ty := hT.th i hlt
      have tz := hT.tz i
      have lT := hT.lT
      have hsP := trueP_succ (s.length + 1) i hlt
      have HsP := Lib.hid hsP
      clear hsP hT hO
      go_wp2_with fail
      have hT2 := HT.out.setV (x := i) hlt true
      rw [← HsP.out] at hT2
      have HT2 := Lib.hid hT2
      have HO2 := Lib.hid (HO.out.set i (.bool true))
      clear hT2
      go_roundg (gk - 1)
      case measure => omega
      case rel => exact ⟨i + 1, by go_num, by omega, HT2.out, HO2.out⟩
    case' neg =>
      have hie : i = s.length + 1 := by omega
      rw [hie, trueP_all] at hT
      have HT2 := Lib.hid hT.pls
      have r0 := (hO.cell (b := w.heap.size) (o := 0) (by omega) (by omega)).trans q0
      have r1 := (hO.cell (b := w.heap.size) (o := 1) (by omega) (by omega)).trans q1
      have r2 := (hO.cell (b := w.heap.size) (o := 2) (by omega) (by omega)).trans q2
      have r3 := (hO.cell (b := w.heap.size) (o := 3) (by omega) (by omega)).trans q3
      have r4 := (hO.cell (b := w.heap.size) (o := 4) (by omega) (by omega)).trans q4
      have r5 := (hO.cell (b := w.heap.size) (o := 5) (by omega) (by omega)).trans q5
      have r6 := (hO.cell (b := w.heap.size) (o := 6) (by omega) (by omega)).trans q6
      have r7 := (hO.cell (b := w.heap.size) (o := 7) (by omega) (by omega)).trans q7
      have hB2 := HB1.out.trans (HO.out.below (B := w.heap.size) (by omega) (by omega))
      have HB2 := Lib.hid hB2
      clear hT hO HT hie hB2
      go_wp2_with fail
      refine (Hends.out wr ok A c (HN.out.later HB2.out Hok.out) (fun b hb => by have := Hok.out b hb; omega) (List.replicate (s.length + 1) true) (w.heap.size + 1) (s.length + 1) HT2.out (by simp)).mono ?_
      rintro en w2 ⟨g, c', rfl, hP, hl, hb⟩
      have hB3 := HB2.out.trans (hb.mono (by omega))
      have hdF : descF s t = (endsF s t (List.replicate (s.length + 1) true)).any id := rfl
      have HB3 := Lib.hid hB3; have HP := Lib.hid hP; have Hl := Lib.hid hl; have HdF := Lib.hid hdF
      have gcap := hP.cap
      rw [hl] at gcap
      have glt := hP.lt
      clear hB3 hP hl hb hdF HT2 r0 r1 r2 r3 r4 r5 r6 r7
      generalize endsF s t (List.replicate (s.length + 1) true) = E at *
      go_wp2_with fail
      generalize hwv : w2 = wv at *
      go_loopg [8] (s.length + 1) (fun k v8 wq => ∃ j : Nat, v8 = .int .i64 (j : Int) ∧ j + k = s.length + 1 ∧ wq = wv ∧ ∀ p, p < j → at_ E p = false)
      case atStart => exact ⟨0, rfl, by omega, rfl, fun p hp => by omega⟩
      case round =>
        obtain ⟨j, rfl, hj, rfl, hno⟩ := hrel
        have Hno := Lib.hid hno
        clear hno
        by_cases hlt2 : j < s.length + 1
        case' pos =>
          have tx := HP.out.cell j (by rw [Hl.out]; exact hlt2)
          cases hx : at_ E j with
          | true =>
            rw [hx] at tx
            have hd : descF s t = true := by
              rw [HdF.out, List.any_eq_true]
              have hjl := at_lt hx
              refine ⟨_, List.getElem_mem hjl, ?_⟩
              unfold at_ at hx
              rw [List.getD_eq_getElem?_getD, List.getElem?_eq_getElem hjl] at hx
              simpa using hx
            have Hd := Lib.hid hd
            clear hd hx
            go_wp2_with fail
            exact bodyPost_ret (v := .bool true) (by simp [results, Try.results36, go_sem]) rfl ⟨by rw [Hd.out], HB3.out⟩
          | false =>
            rw [hx] at tx
            have Hx := Lib.hid hx
            clear hx
            go_wp2_with fail
            go_roundg (gk - 1)
            case measure => omega
            case rel => exact ⟨j + 1, by go_num, by omega, rfl, fun p hp => by (by_cases e : p = j; (subst e; exact Hx.out); exact Hno.out p (by omega))⟩
        case' neg =>
          have hd : descF s t = false := by
            rw [HdF.out, List.any_eq_false]
            intro x hx
            obtain ⟨p, hp, rfl⟩ := List.getElem_of_mem hx
            have := Hno.out p (by rw [Hl.out] at hp; omega)
            unfold at_ at this
            rw [List.getD_eq_getElem?_getD, List.getElem?_eq_getElem hp] at this
            simpa using this
          have Hd := Lib.hid hd
          clear hd
          go_wp2_with fail
          exact bodyPost_ret (v := .bool false) (by simp [results, Try.results36, go_sem]) rfl ⟨by rw [Hd.out], HB3.out⟩
end Go.Proofs.Ytdpmbanfaigmcaa

/- vouchlaw12: many, shallow, few: walked. -/
set_option linter.unusedVariables false
set_option linter.unusedSimpArgs false
namespace Go.Proofs.Ytdpmbanfaigmcaa
open Go.RowKit

set_option maxRecDepth 100000 in
set_option maxHeartbeats 400000 in
theorem many12_any (top : Int) (h0 : 0 ≤ top) (h1 : top ≤ 1000000) (t : T) : ∀ (w : World) (ok : Nat → Prop) (A : Option Addr) (c : Nat), NodeAt w ok t A c → (∀ b, ok b → b < w.heap.size) →
    Calls Try.prog 53 #[nodeV t A c, .int .i64 top] w fun e w' => e = .returned (.int .i64 (manyF top t)) ∧ Below w.heap.size w w' := by
  induction t using T.ind with
  | h t ih =>
    intro w ok A c hN hok
    have hlen := hN.len
    go_enter Try.func53, Try.ntmps53
    go_wp2_with fail
    generalize hW : w.alloc _ = W0
    have hB0 : Below w.heap.size w W0 := by subst hW; exact (Below.refl _ _).alloc (Nat.le_refl _) _
    have hc7 : W0.cell? ⟨w.heap.size, 7, none⟩ = some (.slice A t.ps.length c) := by subst hW; simp [go_sem]
    have hsz : w.heap.size < W0.heap.size := by subst hW; simp
    clear hW
    go_loopg [5, 6] (t.ps.length) (fun n s i wr => ∃ (j : Nat) (x : Int), s = .int .i64 x ∧ i = .int .i64 j ∧ j + n = t.ps.length ∧ 1 ≤ x ∧ x ≤ 2 * top + 2 ∧ manyL top (t.ps.drop j) x = manyL top t.ps 1 ∧ Below w.heap.size w wr ∧ w.heap.size < wr.heap.size ∧ wr.cell? ⟨w.heap.size, 7, none⟩ = some (.slice A t.ps.length c))
    case atStart => exact ⟨0, 1, rfl, rfl, by omega, by omega, by omega, rfl, hB0, hsz, hc7⟩
    case round =>
      obtain ⟨j, x, rfl, rfl, hj, hx1, hx2, hm, hB, hs, hc7'⟩ := hrel
      have Hm := Lib.hid hm; clear hm
      clear hc7 hB0 hsz
      by_cases hlt : j < t.ps.length
      · obtain ⟨b, o, rfl, hb, hcell⟩ := hN.part (by omega)
        obtain ⟨A', c', h8, hNj⟩ := hcell j hlt
        have Hih := Lib.hid (ih t.ps[j] (List.getElem_mem _)); clear ih
        have hbd := manyF_bd top h0 t.ps[j]
        have hNj' := hNj.later hB hok
        obtain ⟨f0, f1, f2, f3, f4, f5, f6, f7⟩ := h8.mono (w' := wr) (fun o => hB.cell (p := ⟨b, o, none⟩) (hok b hb))
        have Hd := Lib.hid (drop_cons hlt)
        clear hcell hN hNj
        generalize t.ps[j] = p at *
        by_cases hx : x ≤ top
        · go_wp2_with fail
          refine (Hih.out wr ok A' c' hNj' (fun b h => by have := hok b h; omega)).mono ?_
          rintro e w1 ⟨rfl, hb1⟩
          obtain ⟨hc1, hf1⟩ := bcell hb1
          have hz1 := hb1.size
          go_wp2_with fail
          go_roundg (gk - 1)
          case measure => omega
          case rel => exact ⟨j + 1, x + manyF top p, rfl, by go_num, by omega, by omega, by omega, by rw [← Hm.out, Hd.out, manyL, if_pos hx], hB.trans (hb1.mono (by omega)), by omega, (hc1 _ _ hs).trans hc7'⟩
        · have hres : min x (top + 1) = manyF top t := by rw [manyF_eq, ← Hm.out, manyL_stop _ _ _ hx]
          have Hres := Lib.hid hres; clear hres
          go_wp2_with fail
          all_goals go_ret
          all_goals exact ⟨by rw [← Hres.out]; go_num, hB⟩
      · have hres : min x (top + 1) = manyF top t := by rw [manyF_eq, ← Hm.out, List.drop_of_length_le (by omega), manyL]
        have Hres := Lib.hid hres; clear hres
        go_wp2_with fail
        all_goals go_ret
        all_goals exact ⟨by rw [← Hres.out]; go_num, hB⟩

set_option maxRecDepth 100000 in
set_option maxHeartbeats 2000000 in
theorem shallow_any (t : T) : ∀ (d : Int) (h0 : -1 ≤ d) (h1 : d ≤ 4) (w : World) (ok : Nat → Prop) (A : Option Addr) (c : Nat), NodeAt w ok t A c → (∀ b, ok b → b < w.heap.size) →
    Calls Try.prog 54 #[nodeV t A c, .int .i64 d] w fun e w' => (∃ b : Bool, e = .returned (.bool b)) ∧ Below w.heap.size w w' := by
  induction t using T.ind with
  | h t ih =>
    intro d h0 h1 w ok A c hN hok
    have hlen := hN.len
    have hcap := hN.cap
    have HN := Lib.hid hN; have Hok := Lib.hid hok; have Hih := Lib.hid ih
    clear hN hok ih
    have hnew := ((Below.refl w.heap.size w).alloc (Nat.le_refl _) (.cells #[.int .i64 t.k, .int .u64 t.s0, .int .u64 t.s1, .int .u64 t.s2, .int .u64 t.s3, .int .i64 t.mn, .int .i64 t.mx, .slice A t.ps.length c] 27))
    have Hnew := Lib.hid hnew
    clear hnew
    by_cases hk : (t.k == 6) = true
    · by_cases hd : d - 1 < 0
      · go_enter Try.func54, Try.ntmps54
        go_wp2_with fail
        exact bodyPost_ret (v := .bool false) (by simp [results, Try.results54, go_sem]) rfl ⟨(by first | exact ⟨false, rfl⟩ | exact .inl rfl | exact .inr rfl | (cases bb <;> simp)), Hnew.out⟩
      by_cases hm : 8 < t.mn
      · go_enter Try.func54, Try.ntmps54
        go_wp2_with fail
        exact bodyPost_ret (v := .bool false) (by simp [results, Try.results54, go_sem]) rfl ⟨(by first | exact ⟨false, rfl⟩ | exact .inl rfl | exact .inr rfl | (cases bb <;> simp)), Hnew.out⟩
      by_cases hx : 8 < t.mx
      · go_enter Try.func54, Try.ntmps54
        go_wp2_with fail
        exact bodyPost_ret (v := .bool false) (by simp [results, Try.results54, go_sem]) rfl ⟨(by first | exact ⟨false, rfl⟩ | exact .inl rfl | exact .inr rfl | (cases bb <;> simp)), Hnew.out⟩
      go_enter Try.func54, Try.ntmps54
      go_wp2_with fail
      generalize hW : w.alloc _ = W0
      have hB0 : Below w.heap.size w W0 := by subst hW; exact (Below.refl _ _).alloc (Nat.le_refl _) _
      have hc7 : W0.cell? ⟨w.heap.size, 7, none⟩ = some (.slice A t.ps.length c) := by subst hW; simp [go_sem]
      have hsz : w.heap.size < W0.heap.size := by subst hW; simp
      clear hW
      go_loopg [5] (t.ps.length) (fun n i wr => ∃ (j : Nat), i = .int .i64 j ∧ j + n = t.ps.length ∧ Below W0.heap.size W0 wr)
      case atStart => exact ⟨0, rfl, by omega, Below.refl _ _⟩
      case round =>
        obtain ⟨j, rfl, hj, hB⟩ := hrel
        have hz := hB.size
        have hc7' := (hB.cell (p := ⟨w.heap.size, 7, none⟩) hsz).trans hc7
        have hBw := hB0.trans (hB.mono (by omega))
        by_cases hlt : j < t.ps.length
        · obtain ⟨b, o, rfl, hb, hcell⟩ := HN.out.part (by omega)
          obtain ⟨A', c', h8, hNj⟩ := hcell j hlt
          have Hi := Lib.hid (Hih.out t.ps[j] (List.getElem_mem _) (d - 1) (by omega) (by omega))
          have hNj' := hNj.later hBw Hok.out
          obtain ⟨f0, f1, f2, f3, f4, f5, f6, f7⟩ := h8.mono (w' := wr) (fun o => hBw.cell (p := ⟨b, o, none⟩) (Hok.out b hb))
          clear hcell hNj
          generalize t.ps[j] = p at *
          go_wp2_with fail
          refine (Hi.out wr ok A' c' hNj' (fun b h => by have := Hok.out b h; omega)).mono ?_
          rintro e w1 ⟨⟨bb, rfl⟩, hb1⟩
          have hB1 := hBw.trans (hb1.mono (by omega))
          have hB2 := hB.trans (hb1.mono hz)
          cases bb with
          | true =>
            go_wp2_with fail
            go_roundg (gk - 1)
            case measure => omega
            case rel => exact ⟨j + 1, by go_num, by omega, hB2⟩
          | false =>
            go_wp2_with fail
            exact bodyPost_ret (v := .bool false) (by simp [results, Try.results54, go_sem]) rfl ⟨(by first | exact ⟨false, rfl⟩ | exact .inl rfl | exact .inr rfl | (cases bb <;> simp)), hB1⟩
        · go_wp2_with fail
          exact bodyPost_ret (v := .bool true) (by simp [results, Try.results54, go_sem]) rfl ⟨(by first | exact ⟨true, rfl⟩ | exact .inl rfl | exact .inr rfl | (cases bb <;> simp)), hBw⟩
    · have hkf : (t.k == 6) = false := by simpa using hk
      clear hk
      go_enter Try.func54, Try.ntmps54
      go_wp2_with fail
      generalize hW : w.alloc _ = W0
      have hB0 : Below w.heap.size w W0 := by subst hW; exact (Below.refl _ _).alloc (Nat.le_refl _) _
      have hc7 : W0.cell? ⟨w.heap.size, 7, none⟩ = some (.slice A t.ps.length c) := by subst hW; simp [go_sem]
      have hsz : w.heap.size < W0.heap.size := by subst hW; simp
      clear hW
      go_loopg [5] (t.ps.length) (fun n i wr => ∃ (j : Nat), i = .int .i64 j ∧ j + n = t.ps.length ∧ Below W0.heap.size W0 wr)
      case atStart => exact ⟨0, rfl, by omega, Below.refl _ _⟩
      case round =>
        obtain ⟨j, rfl, hj, hB⟩ := hrel
        have hz := hB.size
        have hc7' := (hB.cell (p := ⟨w.heap.size, 7, none⟩) hsz).trans hc7
        have hBw := hB0.trans (hB.mono (by omega))
        by_cases hlt : j < t.ps.length
        · obtain ⟨b, o, rfl, hb, hcell⟩ := HN.out.part (by omega)
          obtain ⟨A', c', h8, hNj⟩ := hcell j hlt
          have Hi := Lib.hid (Hih.out t.ps[j] (List.getElem_mem _) (d) (by omega) (by omega))
          have hNj' := hNj.later hBw Hok.out
          obtain ⟨f0, f1, f2, f3, f4, f5, f6, f7⟩ := h8.mono (w' := wr) (fun o => hBw.cell (p := ⟨b, o, none⟩) (Hok.out b hb))
          clear hcell hNj
          generalize t.ps[j] = p at *
          go_wp2_with fail
          refine (Hi.out wr ok A' c' hNj' (fun b h => by have := Hok.out b h; omega)).mono ?_
          rintro e w1 ⟨⟨bb, rfl⟩, hb1⟩
          have hB1 := hBw.trans (hb1.mono (by omega))
          have hB2 := hB.trans (hb1.mono hz)
          cases bb with
          | true =>
            go_wp2_with fail
            go_roundg (gk - 1)
            case measure => omega
            case rel => exact ⟨j + 1, by go_num, by omega, hB2⟩
          | false =>
            go_wp2_with fail
            exact bodyPost_ret (v := .bool false) (by simp [results, Try.results54, go_sem]) rfl ⟨(by first | exact ⟨false, rfl⟩ | exact .inl rfl | exact .inr rfl | (cases bb <;> simp)), hB1⟩
        · go_wp2_with fail
          exact bodyPost_ret (v := .bool true) (by simp [results, Try.results54, go_sem]) rfl ⟨(by first | exact ⟨true, rfl⟩ | exact .inl rfl | exact .inr rfl | (cases bb <;> simp)), hBw⟩

set_option maxRecDepth 100000 in
set_option maxHeartbeats 1000000 in
theorem few_any (t : T) (w : World) (ok : Nat → Prop) (A : Option Addr) (c : Nat) (hN : NodeAt w ok t A c) (hok : ∀ b, ok b → b < w.heap.size) :
    Calls Try.prog 35 #[nodeV t A c, .int .i64 300] w fun e w' => (∃ b : Bool, e = .returned (.bool b)) ∧ Below w.heap.size w w' := by
  have HN := Lib.hid hN; have Hok := Lib.hid hok
  clear hN hok
  go_enter Try.func35, Try.ntmps35
  go_wp2_with fail
  generalize hW : w.alloc _ = W0
  have hB0 : Below w.heap.size w W0 := by subst hW; exact (Below.refl _ _).alloc (Nat.le_refl _) _
  have q0 : W0.cell? ⟨w.heap.size, 0, none⟩ = some (.int .i64 t.k) := by subst hW; simp [go_sem]
  have q1 : W0.cell? ⟨w.heap.size, 1, none⟩ = some (.int .u64 t.s0) := by subst hW; simp [go_sem]
  have q2 : W0.cell? ⟨w.heap.size, 2, none⟩ = some (.int .u64 t.s1) := by subst hW; simp [go_sem]
  have q3 : W0.cell? ⟨w.heap.size, 3, none⟩ = some (.int .u64 t.s2) := by subst hW; simp [go_sem]
  have q4 : W0.cell? ⟨w.heap.size, 4, none⟩ = some (.int .u64 t.s3) := by subst hW; simp [go_sem]
  have q5 : W0.cell? ⟨w.heap.size, 5, none⟩ = some (.int .i64 t.mn) := by subst hW; simp [go_sem]
  have q6 : W0.cell? ⟨w.heap.size, 6, none⟩ = some (.int .i64 t.mx) := by subst hW; simp [go_sem]
  have q7 : W0.cell? ⟨w.heap.size, 7, none⟩ = some (.slice A t.ps.length c) := by subst hW; simp [go_sem]
  have hsz : w.heap.size < W0.heap.size := by subst hW; simp
  clear hW
  refine (many12_any 300 (by omega) (by omega) t W0 ok A c (HN.out.later hB0 Hok.out) (fun b h => by have := Hok.out b h; omega)).mono ?_
  rintro e w1 ⟨rfl, hb1⟩
  have hz1 := hb1.size
  have hB1 := hB0.trans (hb1.mono (by omega))
  by_cases hm : manyF 300 t ≤ 300
  · obtain ⟨hc1, hf1⟩ := bcell hb1
    rw [← hc1 _ _ hsz] at q0 q1 q2 q3 q4 q5 q6 q7
    clear hc1 hf1
    go_wp2_with fail
    refine (shallow_any t 4 (by omega) (by omega) w1 ok A c (HN.out.later hB1 Hok.out) (fun b h => by have := Hok.out b h; omega)).mono ?_
    rintro e w2 ⟨⟨bb, rfl⟩, hb2⟩
    go_wp2_with fail
    exact bodyPost_ret (v := .bool bb) (by simp [results, Try.results35, go_sem]) rfl ⟨(by first | exact ⟨bb, rfl⟩ | exact .inl rfl | exact .inr rfl | (cases bb <;> simp)), hB1.trans (hb2.mono (by omega))⟩
  · go_wp2_with fail
    exact bodyPost_ret (v := .bool false) (by simp [results, Try.results35, go_sem]) rfl ⟨(by first | exact ⟨false, rfl⟩ | exact .inl rfl | exact .inr rfl | (cases bb <;> simp)), hB1⟩
end Go.Proofs.Ytdpmbanfaigmcaa

/- match.Compile, match.Find: walked. -/
set_option linter.unusedVariables false
set_option linter.unusedSimpArgs false
namespace Go.Proofs.Ytdpmbanfaigmcaa
open Go.RowKit

def compE (s : Bs) : Int := match parseP s with | .error e => e | .ok t => sizeE t
def compL (s : Bs) : List St := match parseP s with | .error _ => [] | .ok t => makeL t
def compS (s : Bs) : Int := match parseP s with | .error _ => 0 | .ok t => makeS t
/-- match.Find: found?, steps, error. -/
def findF (s subj : Bs) : Bool × Int × Int := if compE s ≠ 0 then (false, 0, compE s) else hasF (compL s) (compS s) subj

/-- Two cells written. -/
theorem two_set {w1 W : World} {b : Nat} {u0 u1 : Value} (v0 v1 : Value) (h0 : w1.cell? ⟨b, 0, none⟩ = some u0) (h1 : w1.cell? ⟨b, 1, none⟩ = some u1) (hW : W = (w1.setCell ⟨b, 0, none⟩ v0).setCell ⟨b, 1, none⟩ v1) :
    W.cell? ⟨b, 0, none⟩ = some v0 ∧ W.cell? ⟨b, 1, none⟩ = some v1 ∧ W.heap.size = w1.heap.size ∧ (∀ k, k ≠ b → W.heap[k]? = w1.heap[k]?) ∧ ∀ B w, B ≤ b → Below B w w1 → Below B w W := by
  subst hW
  refine ⟨?_, World.cell?_setCell_same _ _ _ (by rw [World.cell?_setCell_other (h := by simp)]; exact h1), by simp, fun k hk => ?_, fun B w hB hb => (hb.setCell (by simpa using hB) _).setCell (by simpa using hB) _⟩
  · rw [World.cell?_setCell_other (h := by simp)]
    exact World.cell?_setCell_same _ _ _ h0
  · rw [Below.heap_setCell _ _ _ _ hk, Below.heap_setCell _ _ _ _ hk]
set_option maxRecDepth 100000 in
set_option maxHeartbeats 4000000 in
theorem comp_any (s : Bs) (w : World) (hB : 91 ∈ s → BrC) (hD : 46 ∈ s → DotC) :
    Calls Try.prog 56 #[.string (bs s)] w fun en w' => ∃ A c, en = .returned (.tuple #[nfaV (compL s) (compS s) A c, .int .i64 (compE s)]) ∧ w'.ownsRow w.heap.size 47 7 (.slice A (compL s).length c) (compL s).length (stCells (compL s)) ∧ Below w.heap.size w w' := by
  have HB := Lib.hid hB; have HD := Lib.hid hD; clear hB hD
  go_enter Try.func56, Try.ntmps56
  go_wp2_with fail
  generalize hW : w.alloc _ = W0
  have hB0 : Below w.heap.size w W0 := by subst hW; exact (Below.refl _ _).alloc (Nat.le_refl _) _
  have hz0 : w.heap.size < W0.heap.size := by subst hW; simp
  have P0 : At2 W0 w.heap.size (.slice none 0 0) 0 := by subst hW; constructor <;> simp [go_sem]
  have y0 : ∀ o, W0.frozen? ⟨w.heap.size, o, none⟩ = false := fun o => by subst hW; simp [go_sem]
  clear hW
  refine (parse_par s W0 HB.out HD.out).mono ?_
  rintro en w1 ⟨hb1, ⟨t, A, c, hp, rfl, hN⟩ | ⟨e, hp, he, rfl⟩⟩
  case inr =>
    have hz1 := hb1.size
    have P1 := P0.later hb1 hz0
    have y1 : ∀ o, w1.frozen? ⟨w.heap.size, o, none⟩ = false := fun o => (hb1.frozen (p := ⟨w.heap.size, o, none⟩) hz0).trans (y0 o)
    have hB1 := hB0.trans (hb1.mono (by omega))
    have hE : compE s = e := by unfold compE; rw [hp]
    have hL : compL s = [] := by unfold compL; rw [hp]
    have hS : compS s = 0 := by unfold compS; rw [hp]
    have HE := Lib.hid hE; have HL := Lib.hid hL; have HS := Lib.hid hS
    have heb : (e != 0) = true := by simpa using he
    obtain ⟨p0, p1⟩ := P1
    have q0 := y1 0; have q1 := y1 1
    have lq : w.heap.size < w1.heap.size := by omega
    clear hE hL hS hp he P0 y0 y1 hb1
    go_wp2_with fail
    generalize hW2 : (w1.setCell _ _).setCell _ _ = W2
    obtain ⟨r0, r1, hs2, hk2, hb2⟩ := two_set _ _ p0 p1 hW2.symm
    have hB2 := hb2 _ _ (Nat.le_refl _) hB1
    have lq2 : w.heap.size < W2.heap.size := by omega
    clear hW2 hk2
    have r0' := (((Below.refl W2.heap.size W2).alloc (Nat.le_refl _) (.cells #[.int .i64 none0.k, .int .u64 none0.s0, .int .u64 none0.s1, .int .u64 none0.s2, .int .u64 none0.s3, .int .i64 none0.mn, .int .i64 none0.mx, .slice none none0.ps.length 0] 27)).cell (p := ⟨w.heap.size, 0, none⟩) lq2).trans r0
    have r1' := (((Below.refl W2.heap.size W2).alloc (Nat.le_refl _) (.cells #[.int .i64 none0.k, .int .u64 none0.s0, .int .u64 none0.s1, .int .u64 none0.s2, .int .u64 none0.s3, .int .i64 none0.mn, .int .i64 none0.mx, .slice none none0.ps.length 0] 27)).cell (p := ⟨w.heap.size, 1, none⟩) lq2).trans r1
    have hB3 := hB2.trans (((Below.refl W2.heap.size W2).alloc (Nat.le_refl _) (.cells #[.int .i64 none0.k, .int .u64 none0.s0, .int .u64 none0.s1, .int .u64 none0.s2, .int .u64 none0.s3, .int .i64 none0.mn, .int .i64 none0.mx, .slice none none0.ps.length 0] 27)).mono (by omega))
    generalize hW3 : W2.alloc _ = W3 at *
    refine bodyPost_ret (v := .tuple #[.agg #[.slice none 0 0, .int .i64 0], .int .i64 e]) (by simp [results, Try.results56, r0', r1', go_sem]) rfl ⟨none, 0, by rw [HE.out, HL.out, HS.out]; rfl, ?_, hB3⟩
    rw [HL.out]; exact ⟨rfl, .inl ⟨rfl, rfl⟩⟩
  case inl =>
    have hz1 := hb1.size
    have P1 := P0.later hb1 hz0
    have y1 : ∀ o, w1.frozen? ⟨w.heap.size, o, none⟩ = false := fun o => (hb1.frozen (p := ⟨w.heap.size, o, none⟩) hz0).trans (y0 o)
    have hB1 := hB0.trans (hb1.mono (by omega))
    have hE : compE s = sizeE t := by unfold compE; rw [hp]
    have hL : compL s = makeL t := by unfold compL; rw [hp]
    have hS : compS s = makeS t := by unfold compS; rw [hp]
    have HE := Lib.hid hE; have HL := Lib.hid hL; have HS := Lib.hid hS
    have HN := Lib.hid hN
    have lq : w.heap.size < w1.heap.size := by omega
    clear hE hL hS hp P0 y0 hN
    go_wp2_with fail
    generalize hW2 : w1.alloc _ = W2
    have hb2 : Below w1.heap.size w1 W2 := by subst hW2; exact (Below.refl _ _).alloc (Nat.le_refl _) _
    have hN2 := HN.out.later hb2 (fun b hb => hb.2)
    have P2 := P1.later hb2 lq
    have y2 : ∀ o, W2.frozen? ⟨w.heap.size, o, none⟩ = false := fun o => (hb2.frozen (p := ⟨w.heap.size, o, none⟩) lq).trans (y1 o)
    have hz2 := hb2.size
    have hB2 := hB1.trans (hb2.mono (by omega))
    clear hW2 P1 y1
    refine (make_any t W2 _ A c hN2 (fun b hb => by omega)).mono ?_
    rintro en w3 ⟨v, rfl, ho3, hb3⟩
    obtain ⟨A3, c3, rfl⟩ := own_form ho3
    have P3 := P2.later hb3 (by omega)
    have y3 : ∀ o, w3.frozen? ⟨w.heap.size, o, none⟩ = false := fun o => (hb3.frozen (p := ⟨w.heap.size, o, none⟩) (by show w.heap.size < _; omega)).trans (y2 o)
    have hB3 := hB2.trans (hb3.mono (by omega))
    have hz3 := hb3.size
    obtain ⟨p0, p1⟩ := P3
    have q0 := y3 0; have q1 := y3 1
    have lq3 : w.heap.size < w3.heap.size := by omega
    have Ho3 := Lib.hid ho3
    clear P2 y2 y3 ho3 hN2
    go_wp2_with fail
    generalize hW4 : (w3.setCell _ _).setCell _ _ = W4
    obtain ⟨r0, r1, hs4, hk4, hb4⟩ := two_set _ _ p0 p1 hW4.symm
    have hB4 := hb4 _ _ (Nat.le_refl _) hB3
    have ho4 : W4.ownsRow W2.heap.size 47 7 (.slice A3 (makeL t).length c3) (makeL t).length (stCells (makeL t)) := by
      refine Ho3.out.kept (row := some w.heap.size) ⟨by subst hW4; rfl, by subst hW4; rfl, by subst hW4; rfl, by omega, fun k hk hne => hk4 k (by simpa using hne)⟩ (.inr fun e => ?_)
      have := (Ho3.out.lt _ e).1
      omega
    refine bodyPost_ret (v := .tuple #[.agg #[.slice A3 (makeL t).length c3, .int .i64 (makeS t)], .int .i64 (sizeE t)]) (by simp [results, Try.results56, r0, r1, go_sem]) rfl ⟨A3, c3, by rw [HE.out, HL.out, HS.out], ?_, hB4⟩
    rw [HL.out]
    exact ho4.mono (by omega)

theorem compL_le (s : Bs) : (compL s).length ≤ 4096 := by
  unfold compL
  split
  · simp
  · exact makeL_le _
set_option maxRecDepth 100000 in
set_option maxHeartbeats 4000000 in
theorem find_any (s subj : Bs) (w : World) (hB : 91 ∈ s → BrC) (hD : 46 ∈ s → DotC) :
    Calls Try.prog 37 #[.string (bs s), .string (bs subj)] w fun en w' => en = .returned (.tuple #[.bool (findF s subj).1, .int .i64 (findF s subj).2.1, .int .i64 (findF s subj).2.2]) ∧ Below w.heap.size w w' := by
  have HB := Lib.hid hB; have HD := Lib.hid hD; clear hB hD
  go_enter Try.func37, Try.ntmps37
  go_wp2_with fail
  refine (comp_any s w HB.out HD.out).mono ?_
  rintro en w1 ⟨A, c, rfl, ho1, hb1⟩
  have hl := compL_le s
  have Ho1 := Lib.hid ho1
  have hz1 := hb1.size
  clear ho1
  by_cases he : compE s = 0
  · have hres : findF s subj = hasF (compL s) (compS s) subj := by unfold findF; rw [if_neg (by simpa using he)]
    have Hres := Lib.hid hres
    have hb : (compE s != 0) = false := by rw [he]; rfl
    clear hres he
    go_wp2_with fail
    generalize hW2 : w1.alloc _ = W2
    have hb2 : Below w1.heap.size w1 W2 := by subst hW2; exact (Below.refl _ _).alloc (Nat.le_refl _) _
    have hz2 := hb2.size
    clear hW2
    refine (has_any W2 (fun b => b < W2.heap.size) (compL s) (compS s) A c (sts_all (own_later Ho1.out hb2) hl) (fun b h => h) subj).mono ?_
    rintro en w3 ⟨rfl, hb3⟩
    go_wp2_with fail
    exact bodyPost_ret (v := .tuple #[.bool (hasF (compL s) (compS s) subj).1, .int .i64 (hasF (compL s) (compS s) subj).2.1, .int .i64 (hasF (compL s) (compS s) subj).2.2]) (by simp [results, Try.results37, go_sem]) rfl ⟨by rw [Hres.out], hb1.trans ((hb2.mono hz1).trans (hb3.mono (by omega)))⟩
  · have hres : findF s subj = (false, 0, compE s) := by unfold findF; rw [if_pos he]
    have Hres := Lib.hid hres
    have hb : (compE s != 0) = true := by rw [bne_iff_ne]; exact he
    clear hres he
    go_wp2_with fail
    exact bodyPost_ret (v := .tuple #[.bool false, .int .i64 0, .int .i64 (compE s)]) (by simp [results, Try.results37, go_sem]) rfl ⟨by rw [Hres.out], hb1.alloc hz1 _⟩
end Go.Proofs.Ytdpmbanfaigmcaa

/- vouchlaw12.works: walked. -/
set_option linter.unusedVariables false
set_option linter.unusedSimpArgs false
namespace Go.Proofs.Ytdpmbanfaigmcaa
open Go.RowKit

theorem fw1 : findF [97, 36] [98, 97] = (true, 5, 0) := by kernel_rfl
theorem fw2 : findF [94, 97] [98, 97] = (false, 4, 0) := by kernel_rfl
theorem fw3 : (findF [40, 97, 98, 41, 43, 99] [120, 97, 98, 97, 98, 99]).1 = true := by kernel_rfl
theorem fw3' : (findF [40, 97, 98, 41, 43, 99] [120, 97, 98, 97, 98, 99]).2.2 = 0 := by kernel_rfl
theorem fw4 : (findF [97, 40] []).2.2 = 100 := by kernel_rfl
theorem fw5 : hasF [] 0 [] = (false, 0, 110) := by kernel_rfl
set_option maxRecDepth 100000 in
set_option maxHeartbeats 2000000 in
theorem works12_any (w : World) :
    Calls Try.prog 34 #[] w fun en w' => en = .returned (.bool true) ∧ Below w.heap.size w w' := by
  go_enter Try.func34, Try.ntmps34
  go_wp2_with fail
  refine (find_any [97, 36] [98, 97] w (by simp) (by simp)).mono ?_
  rintro en w1 ⟨rfl, hb1⟩
  have hz1 := hb1.size
  rw [fw1]
  go_wp2_with fail
  refine (find_any [94, 97] [98, 97] w1 (by simp) (by simp)).mono ?_
  rintro en w2 ⟨rfl, hb2⟩
  have hz2 := hb2.size
  rw [fw2]
  go_wp2_with fail
  refine (find_any [40, 97, 98, 41, 43, 99] [120, 97, 98, 97, 98, 99] w2 (by simp) (by simp)).mono ?_
  rintro en w3 ⟨rfl, hb3⟩
  have hz3 := hb3.size
  rw [fw3, fw3']
  go_wp2_with fail
  refine (find_any [97, 40] [] w3 (by simp) (by simp)).mono ?_
  rintro en w4 ⟨rfl, hb4⟩
  have hz4 := hb4.size
  rw [fw4]
  go_wp2_with fail
  refine (has_any w4 (fun b => b < w4.heap.size) [] 0 none 0 ⟨by simp, by simp, fun _ => rfl, fun h => by simp at h⟩ (fun b h => h) []).mono ?_
  rintro en w5 ⟨rfl, hb5⟩
  rw [fw5]
  go_wp2_with fail
  exact bodyPost_ret (v := .bool true) (by simp [results, Try.results34, go_sem]) rfl ⟨rfl, hb1.trans ((hb2.mono hz1).trans ((hb3.mono (by omega)).trans ((hb4.mono (by omega)).trans (hb5.mono (by omega)))))⟩
end Go.Proofs.Ytdpmbanfaigmcaa

/- What is laid is a right machine: plain. -/
set_option linter.unusedVariables false
set_option linter.unusedSimpArgs false
namespace Go.Proofs.Ytdpmbanfaigmcaa
open Go.RowKit

/-- A state that is no end, among n. -/
structure OkS (n : Nat) (s : St) : Prop where
  k : s.k = 1 ∨ s.k = 2 ∨ s.k = 3 ∨ s.k = 4
  nx : 0 ≤ s.nx ∧ s.nx < n
  ot : (s.k = 2 → 0 ≤ s.ot ∧ s.ot < n) ∧ (s.k ≠ 2 → s.ot = 0)
  set : s.k ≠ 1 → s.s0 = 0 ∧ s.s1 = 0 ∧ s.s2 = 0 ∧ s.s3 = 0
theorem OkS.le {n m : Nat} {s : St} (h : OkS n s) (hnm : n ≤ m) : OkS m s := ⟨h.k, by have := h.nx; omega, ⟨fun e => by have := h.ot.1 e; omega, h.ot.2⟩, h.set⟩
/-- The end first, then right states. -/
structure Inv (l : List St) : Prop where
  zero : l[0]? = some ⟨5, 0, 0, 0, 0, 0, 0⟩
  rest : ∀ (i : Nat) (s : St), l[i]? = some s → i ≠ 0 → OkS l.length s
theorem Inv.pos {l : List St} (h : Inv l) : 0 < l.length := (List.getElem?_eq_some_iff.1 h.zero).1
theorem Inv.push {l : List St} (h : Inv l) {s : St} (hs : OkS (l.length + 1) s) : Inv (l ++ [s]) := by
  have hp := h.pos
  refine ⟨by rw [List.getElem?_append_left hp]; exact h.zero, fun i x hi h0 => ?_⟩
  rw [List.length_append]
  rcases Nat.lt_or_ge i l.length with hl | hl
  · rw [List.getElem?_append_left hl] at hi
    exact (h.rest i x hi h0).le (by simp)
  · rw [List.getElem?_append_right hl] at hi
    have : x = s := by
      have h1 := (List.getElem?_eq_some_iff.1 hi).1
      simp at h1
      rw [show i - l.length = 0 by omega] at hi
      simpa using hi.symm
    subst this
    exact hs
/-- A way of laying that keeps it right. -/
def Pres (p : LF) : Prop := ∀ (tu : Int) (l : List St), Inv l → 0 ≤ tu → tu < l.length → Inv (p tu l).2 ∧ 0 ≤ (p tu l).1 ∧ (p tu l).1 < (p tu l).2.length ∧ l.length ≤ (p tu l).2.length
theorem push_pres {tu : Int} {l : List St} (h : Inv l) (s : St) (hs : OkS (l.length + 1) s) : Inv (l ++ [s]) ∧ 0 ≤ (l.length : Int) ∧ (l.length : Int) < (l ++ [s]).length ∧ l.length ≤ (l ++ [s]).length :=
  ⟨h.push hs, by omega, by simp only [List.length_append, List.length_cons, List.length_nil]; omega, by simp⟩
theorem splitS_ok {n : Nat} {b tu : Int} (h1 : 0 ≤ b ∧ b < n) (h2 : 0 ≤ tu ∧ tu < n) : OkS n (splitS b tu) :=
  ⟨.inr (.inl rfl), h1, ⟨fun _ => h2, fun e => absurd rfl e⟩, fun _ => ⟨rfl, rfl, rfl, rfl⟩⟩
theorem splits_pres : ∀ (bs : List Int) (l : List St), bs ≠ [] → Inv l → (∀ b ∈ bs, 0 ≤ b ∧ b < l.length) → Inv (splitsF bs l).2 ∧ 0 ≤ (splitsF bs l).1 ∧ (splitsF bs l).1 < (splitsF bs l).2.length ∧ l.length ≤ (splitsF bs l).2.length
  | [], l, h, _, _ => absurd rfl h
  | [x], l, _, hI, hb => by
    have := hb x (List.mem_cons_self ..)
    rw [splitsF]; exact ⟨hI, this.1, this.2, Nat.le_refl _⟩
  | a :: b :: bs, l, _, hI, hb => by
    obtain ⟨h1, h2, h3, h4⟩ := splits_pres (b :: bs) l (by simp) hI (fun x hx => hb x (List.mem_cons_of_mem _ hx))
    have ha := hb a (List.mem_cons_self ..)
    rw [splitsF]
    · obtain ⟨g1, g2, g3, g4⟩ := push_pres (tu := 0) h1 (splitS a (splitsF (b :: bs) l).1) (splitS_ok ⟨ha.1, by omega⟩ ⟨h2, by omega⟩)
      exact ⟨g1, g2, g3, by simp only at g4 ⊢; omega⟩
    · simp
theorem opt_pres {p : LF} (hp : Pres p) {tu : Int} (h0 : 0 ≤ tu) : ∀ (n : Nat) (t : Int) (l : List St), Inv l → tu < l.length → 0 ≤ t → t < l.length → Inv (optF p tu n t l).2 ∧ 0 ≤ (optF p tu n t l).1 ∧ (optF p tu n t l).1 < (optF p tu n t l).2.length ∧ l.length ≤ (optF p tu n t l).2.length
  | 0, t, l, hI, _, h1, h2 => by rw [optF]; exact ⟨hI, h1, h2, Nat.le_refl _⟩
  | n + 1, t, l, hI, ht, h1, h2 => by
    obtain ⟨a1, a2, a3, a4⟩ := hp t l hI h1 h2
    obtain ⟨g1, g2, g3, g4⟩ := push_pres (tu := 0) a1 (splitS (p t l).1 tu) (splitS_ok ⟨a2, by omega⟩ ⟨h0, by omega⟩)
    obtain ⟨b1, b2, b3, b4⟩ := opt_pres hp h0 n _ _ g1 (by omega) g2 g3
    rw [optF]
    exact ⟨b1, b2, b3, by omega⟩
theorem min_pres {p : LF} (hp : Pres p) : ∀ n, Pres (minF p n)
  | 0, t, l, hI, h1, h2 => by rw [minF]; exact ⟨hI, h1, h2, Nat.le_refl _⟩
  | n + 1, t, l, hI, h1, h2 => by
    obtain ⟨a1, a2, a3, a4⟩ := hp t l hI h1 h2
    rw [minF]
    split
    · exact ⟨a1, a2, a3, a4⟩
    · obtain ⟨b1, b2, b3, b4⟩ := min_pres hp n _ _ a1 a2 a3
      exact ⟨b1, b2, b3, by omega⟩
theorem setNx_inv {l : List St} (h : Inv l) {i : Nat} (hi : i ≠ 0) {x : Int} (hx : 0 ≤ x ∧ x < l.length) : Inv (setNx l i x) := by
  have hl : (setNx l i x).length = l.length := by simp [setNx]
  refine ⟨?_, fun j s hj h0 => ?_⟩
  · simp only [setNx, List.getElem?_modify, if_neg hi]
    rw [h.zero]; rfl
  · rw [hl]
    rw [setNx, List.getElem?_modify] at hj
    split at hj
    · obtain ⟨y, hy, rfl⟩ := Option.map_eq_some_iff.1 hj
      have := h.rest j y hy h0
      exact ⟨this.k, hx, this.ot, this.set⟩
    · exact h.rest j s (by simpa using hj) h0
theorem star_pres {p : LF} (hp : Pres p) : Pres (starF p) := fun tu l hI h1 h2 => by
  have hpos := hI.pos
  obtain ⟨g1, g2, g3, g4⟩ := push_pres (tu := 0) hI (splitS 0 tu) (splitS_ok ⟨by omega, by omega⟩ ⟨h1, by omega⟩)
  obtain ⟨a1, a2, a3, a4⟩ := hp l.length _ g1 g2 g3
  simp only [List.length_append, List.length_cons, List.length_nil] at a4
  refine ⟨setNx_inv a1 (by omega) ⟨a2, a3⟩, by simp only [starF]; omega, ?_, ?_⟩
  · simp only [starF, setNx, List.length_modify]; omega
  · simp only [starF, setNx, List.length_modify]; omega
theorem rep_pres {p : LF} (hp : Pres p) (mn mx : Int) : Pres (repF mn mx p) := fun tu l hI h1 h2 => by
  unfold repF
  simp only
  split
  · obtain ⟨a1, a2, a3, a4⟩ := star_pres hp tu l hI h1 h2
    obtain ⟨b1, b2, b3, b4⟩ := min_pres hp mn.toNat _ _ a1 a2 a3
    exact ⟨b1, b2, b3, by omega⟩
  · obtain ⟨a1, a2, a3, a4⟩ := opt_pres hp h1 (mx - mn).toNat tu l hI h2 h1 h2
    obtain ⟨b1, b2, b3, b4⟩ := min_pres hp mn.toNat _ _ a1 a2 a3
    exact ⟨b1, b2, b3, by omega⟩
theorem row_pres : ∀ (ps : List T), (∀ p ∈ ps, Pres (layF p)) → Pres (rowF ps)
  | [], _, tu, l, hI, h1, h2 => by rw [rowF]; exact ⟨hI, h1, h2, Nat.le_refl _⟩
  | p :: ps, h, tu, l, hI, h1, h2 => by
    obtain ⟨a1, a2, a3, a4⟩ := row_pres ps (fun q hq => h q (List.mem_cons_of_mem _ hq)) tu l hI h1 h2
    obtain ⟨b1, b2, b3, b4⟩ := h p (List.mem_cons_self ..) _ _ a1 a2 a3
    rw [rowF]
    exact ⟨b1, b2, b3, by omega⟩
theorem beg_pres : ∀ (ps : List T), (∀ p ∈ ps, Pres (layF p)) → ∀ (tu : Int) (l : List St), Inv l → 0 ≤ tu → tu < l.length → Inv (begF ps tu l).2 ∧ (∀ b ∈ (begF ps tu l).1, 0 ≤ b ∧ b < (begF ps tu l).2.length) ∧ l.length ≤ (begF ps tu l).2.length
  | [], _, tu, l, hI, h1, h2 => by rw [begF]; exact ⟨hI, fun b hb => (List.not_mem_nil hb).elim, Nat.le_refl _⟩
  | p :: ps, h, tu, l, hI, h1, h2 => by
    obtain ⟨a1, a2, a3, a4⟩ := h p (List.mem_cons_self ..) tu l hI h1 h2
    obtain ⟨b1, b2, b3⟩ := beg_pres ps (fun q hq => h q (List.mem_cons_of_mem _ hq)) tu _ a1 h1 (by omega)
    rw [begF]
    refine ⟨b1, fun b hb => ?_, by simp only; omega⟩
    cases hb with
    | head => simp only; omega
    | tail _ hb => exact b2 b hb
theorem lay_pres (t : T) : rightF t = true → Pres (layF t) := by
  induction t using T.ind with
  | h t ih =>
    intro hr tu l hI h1 h2
    have hps : ∀ p ∈ t.ps, Pres (layF p) := fun p hp => ih p hp (right_parts hr p hp)
    rw [layF_eq]
    rcases right_cases hr with ⟨hk, h⟩ | ⟨hk, h⟩ | ⟨hk, h⟩ | ⟨hk, h⟩ | ⟨hk, h⟩ | ⟨hk, h⟩ | ⟨hk, h⟩
    · simp only [hk]; simp; exact ⟨hI, h1, h2⟩
    · simp only [hk, if_true]
      exact push_pres (tu := 0) hI _ ⟨.inl rfl, ⟨h1, by simp only; omega⟩, ⟨fun e => by simp at e, fun _ => rfl⟩, fun e => absurd rfl e⟩
    · simp only [hk, show ¬ ((2 : Int) = 1) by omega, if_true, if_false]
      exact push_pres (tu := 0) hI _ ⟨.inr (.inr (.inl rfl)), ⟨h1, by simp only; omega⟩, ⟨fun e => by simp at e, fun _ => rfl⟩, fun _ => ⟨rfl, rfl, rfl, rfl⟩⟩
    · simp only [hk, show ¬ ((3 : Int) = 1) by omega, show ¬ ((3 : Int) = 2) by omega, if_true, if_false]
      exact push_pres (tu := 0) hI _ ⟨.inr (.inr (.inr rfl)), ⟨h1, by simp only; omega⟩, ⟨fun e => by simp at e, fun _ => rfl⟩, fun _ => ⟨rfl, rfl, rfl, rfl⟩⟩
    · simp only [hk, show ¬ ((4 : Int) = 1) by omega, show ¬ ((4 : Int) = 2) by omega, show ¬ ((4 : Int) = 3) by omega, if_true, if_false]
      exact row_pres t.ps hps tu l hI h1 h2
    · simp only [hk, show ¬ ((5 : Int) = 1) by omega, show ¬ ((5 : Int) = 2) by omega, show ¬ ((5 : Int) = 3) by omega, show ¬ ((5 : Int) = 4) by omega, if_true, if_false]
      obtain ⟨b1, b2, b3⟩ := beg_pres t.ps hps tu l hI h1 h2
      have hne : (begF t.ps tu l).1 ≠ [] := fun e => by have := begF_len t.ps tu l; rw [e] at this; simp at this; omega
      obtain ⟨c1, c2, c3, c4⟩ := splits_pres _ _ hne b1 b2
      exact ⟨c1, c2, c3, by omega⟩
    · simp only [hk, show ¬ ((6 : Int) = 1) by omega, show ¬ ((6 : Int) = 2) by omega, show ¬ ((6 : Int) = 3) by omega, show ¬ ((6 : Int) = 4) by omega, show ¬ ((6 : Int) = 5) by omega, if_true, if_false]
      obtain ⟨p, hp, hh⟩ := headF_eq t.ps h.1
      rw [hh]
      exact rep_pres (hps p (by rw [hp]; exact List.mem_cons_self ..)) _ _ tu l hI h1 h2
theorem make_inv {t : T} (h : sizeE t = 0) : Inv (makeL t) ∧ 0 ≤ makeS t ∧ makeS t < (makeL t).length := by
  have hr := (sizeE_zero h).1
  rw [makeL, makeS, if_pos h, if_pos h]
  obtain ⟨a1, a2, a3, a4⟩ := lay_pres t hr 0 [⟨5, 0, 0, 0, 0, 0, 0⟩] ⟨rfl, fun i s hi h0 => by
    have := (List.getElem?_eq_some_iff.1 hi).1
    simp at this
    exact absurd this h0⟩ (by omega) (by simp)
  exact ⟨a1, a2, a3⟩
theorem make_check {t : T} (h : sizeE t = 0) : mcheck (makeL t) (makeS t) = 0 := by
  obtain ⟨hI, h1, h2⟩ := make_inv h
  have hle := makeL_le t
  rw [mcheck, if_pos ⟨by omega, by simp [inR]; omega⟩, if_pos]
  rw [List.all_eq_true]
  intro s hs
  obtain ⟨i, hi, rfl⟩ := List.getElem_of_mem hs
  by_cases h0 : i = 0
  · subst h0
    have hz := hI.zero
    rw [List.getElem?_eq_getElem hi] at hz
    simp only [Option.some.injEq] at hz
    rw [hz]; rfl
  · have ho := hI.rest i _ (List.getElem?_eq_getElem hi) h0
    have hnx : inR (makeL t).length (makeL t)[i].nx = true := by simp [inR]; exact ho.nx
    unfold okSt
    rcases ho.k with e | e | e | e
    · rw [if_neg (by omega), if_pos (by omega)]; exact hnx
    · have hot : inR (makeL t).length (makeL t)[i].ot = true := by simp [inR]; exact ho.ot.1 e
      rw [if_neg (by omega), if_neg (by omega), if_pos e, hnx, hot]; rfl
    · rw [if_neg (by omega), if_pos (by omega)]; exact hnx
    · rw [if_neg (by omega), if_pos (by omega)]; exact hnx
end Go.Proofs.Ytdpmbanfaigmcaa

/- The matcher goes over just the ways of its machine; of a tree's machine: over what the tree describes. Plain. -/
set_option linter.unusedVariables false
set_option linter.unusedSimpArgs false
namespace Go.Proofs.Ytdpmbanfaigmcaa
open Go.RowKit

def setF (l : List St) (sa : Int) (subj : List UInt8) : Nat → List Nat
  | 0 => stepF l sa subj 0 []
  | j + 1 => stepF l sa subj (j + 1) (setF l sa subj j)
theorem Rch.pth {l : List St} {s : List UInt8} {x y i : Nat} (h : Rch l (i == 0) (i == s.length) x y) : Pth (stN l) s x i y i := by
  induction h with
  | refl => exact .refl _ _
  | step _ hk ih => exact ih.trans (Pth.eps1 hk)
theorem step_mem {l : List St} {sa : Int} (hm : MOk l sa) (subj : List UInt8) (at_ : Nat) {now : List Nat} (hl : ∀ x ∈ now, x < l.length) :
    Good l (at_ == 0) (at_ == subj.length) (stepF l sa subj at_ now) ∧ ∀ y, y ∈ stepF l sa subj at_ now ↔ Rch l (at_ == 0) (at_ == subj.length) sa.toNat y ∨ ∃ i ∈ now, takes (stN l i) (byteN subj at_) = true ∧ Rch l (at_ == 0) (at_ == subj.length) (stN l i).nx.toNat y := by
  obtain ⟨g1, g2⟩ := add_spec (hm.outs (at_ == 0) (at_ == subj.length)) (good_nil l _ _) hm.start
  obtain ⟨h1, h2⟩ := foldF_spec hm _ _ (byteN subj at_) now _ hl g1
  refine ⟨h1, fun y => ?_⟩
  unfold stepF
  rw [h2 y, g2 y]
  simp
theorem set_good {l : List St} {sa : Int} (hm : MOk l sa) (subj : List UInt8) : ∀ j, Good l (j == 0) (j == subj.length) (setF l sa subj j) ∧ sa.toNat ∈ setF l sa subj j
  | 0 => by
    obtain ⟨h1, h2⟩ := step_mem hm subj 0 (now := []) (by simp)
    exact ⟨h1, (h2 _).2 (.inl .refl)⟩
  | j + 1 => by
    obtain ⟨h1, h2⟩ := step_mem hm subj (j + 1) (set_good hm subj j).1.lt
    exact ⟨h1, (h2 _).2 (.inl .refl)⟩
theorem set_way {l : List St} {sa : Int} (hm : MOk l sa) (subj : List UInt8) {m x i y j : Nat} (h : PthN (stN l) subj m x i y j) : x ∈ setF l sa subj i → y ∈ setF l sa subj j := by
  induction h with
  | refl => exact id
  | @eps m x i z y k he _ ih => exact fun hx => ih ((set_good hm subj i).1.closed x hx z he)
  | @eat m x i y k hi he _ ih =>
    intro hx
    refine ih ?_
    have := (step_mem hm subj (i + 1) (set_good hm subj i).1.lt).2
    exact (this _).2 (.inr ⟨x, hx, he, .refl⟩)
theorem set_from {l : List St} {sa : Int} (hm : MOk l sa) (subj : List UInt8) : ∀ j, j ≤ subj.length → ∀ y, y ∈ setF l sa subj j → ∃ i, i ≤ j ∧ Pth (stN l) subj sa.toNat i y j
  | 0, _, y, hy => by
    have := ((step_mem hm subj 0 (now := []) (by simp)).2 y).1 hy
    rcases this with h | ⟨i, hi, _⟩
    · exact ⟨0, Nat.le_refl _, h.pth⟩
    · cases hi
  | j + 1, hj, y, hy => by
    have := ((step_mem hm subj (j + 1) (set_good hm subj j).1.lt).2 y).1 hy
    rcases this with h | ⟨x, hx, ht, h⟩
    · exact ⟨j + 1, Nat.le_refl _, h.pth⟩
    · obtain ⟨i, hi, hp⟩ := set_from hm subj j (by omega) x hx
      have h1 : Pth (stN l) subj x j (stN l x).nx.toNat (j + 1) := ⟨1, .eat (by omega) ht (.refl _ _)⟩
      exact ⟨i, by omega, (hp.trans h1).trans h.pth⟩
theorem over_found {l : List St} {sa : Int} (subj : List UInt8) : ∀ (k at_ : Nat) (now : List Nat) (s : Int), stepF l sa subj at_ now = setF l sa subj at_ → ((overF l sa subj k at_ now s).1 = true ↔ ∃ j, at_ ≤ j ∧ j < at_ + k ∧ doneF l (setF l sa subj j) = true)
  | 0, at_, now, s, _ => by
    rw [overF]
    exact ⟨fun h => (Bool.false_ne_true h).elim, fun ⟨j, h1, h2, _⟩ => by omega⟩
  | k + 1, at_, now, s, hs => by
    rw [overF, hs]
    split
    · rename_i hd
      exact ⟨fun _ => ⟨at_, Nat.le_refl _, by omega, hd⟩, fun _ => rfl⟩
    · rename_i hd
      rw [over_found subj k (at_ + 1) _ _ rfl]
      constructor
      · rintro ⟨j, h1, h2, h3⟩; exact ⟨j, by omega, by omega, h3⟩
      · rintro ⟨j, h1, h2, h3⟩
        have : j ≠ at_ := fun e => by subst e; exact hd h3
        exact ⟨j, by omega, by omega, h3⟩
/-- Found: there is a way tu an end. -/
theorem found_way {l : List St} {sa : Int} (hm : MOk l sa) (subj : List UInt8) : (overF l sa subj (subj.length + 1) 0 [] 0).1 = true ↔ ∃ i j y, j ≤ subj.length ∧ y < l.length ∧ (stN l y).k = 5 ∧ Pth (stN l) subj sa.toNat i y j := by
  rw [over_found subj _ _ _ _ rfl]
  constructor
  · rintro ⟨j, _, h2, h3⟩
    unfold doneF at h3
    rw [List.any_eq_true] at h3
    obtain ⟨y, hy, hk⟩ := h3
    obtain ⟨i, _, hp⟩ := set_from hm subj j (by omega) y hy
    exact ⟨i, j, y, by omega, (set_good hm subj j).1.lt y hy, by simpa using hk, hp⟩
  · rintro ⟨i, j, y, h1, _, h2, m, hp⟩
    refine ⟨j, by omega, by omega, ?_⟩
    unfold doneF
    rw [List.any_eq_true]
    exact ⟨y, set_way hm subj hp (set_good hm subj i).2, by simpa using h2⟩
/-- Of a tree's machine: the tree describes a piece. -/
theorem found_iff {t : T} (h : sizeE t = 0) (subj : List UInt8) : (overF (makeL t) (makeS t) subj (subj.length + 1) 0 [] 0).1 = true ↔ ∃ i j, i ≤ subj.length ∧ den subj t i j := by
  have hm := mok_of (make_check h)
  obtain ⟨hI, _, _⟩ := make_inv h
  have hz := hI.zero
  have hI1 := lay_impl subj t (sizeE_zero h).1
  have e1 : makeL t = (layF t 0 [⟨5, 0, 0, 0, 0, 0, 0⟩]).2 := if_pos h
  have e2 : makeS t = (layF t 0 [⟨5, 0, 0, 0, 0, 0, 0⟩]).1 := if_pos h
  have h0 : stN (makeL t) 0 = ⟨5, 0, 0, 0, 0, 0, 0⟩ := by unfold stN; rw [List.getD_eq_getElem?_getD, hz]; rfl
  have hag : Agr (stN (makeL t)) (layF t 0 [⟨5, 0, 0, 0, 0, 0, 0⟩]).2 ([⟨5, 0, 0, 0, 0, 0, 0⟩] : List St).length := fun i _ _ => by rw [e1]
  rw [found_way hm]
  constructor
  · rintro ⟨i, j, y, h1, h2, h3, m, hp⟩
    have hy : y = 0 := by
      rcases Nat.eq_zero_or_pos y with e | e
      · exact e
      · have hg : (makeL t)[y]? = some (makeL t)[y] := List.getElem?_eq_getElem h2
        have := (hI.rest y _ hg (by omega)).k
        have e3 : stN (makeL t) y = (makeL t)[y] := by unfold stN; rw [List.getD_eq_getElem?_getD, hg]; rfl
        rw [e3] at h3
        omega
    subst hy
    have hij := hp.le
    rw [e2] at hp
    obtain ⟨k, m', _, hr, _⟩ := hI1.sound 0 _ (Int.le_refl _) (by simp) _ hag m i 0 j (.inl (by simp)) hp
    exact ⟨i, k, by omega, hr⟩
  · rintro ⟨i, j, hi, hd⟩
    have hp := hI1.comp 0 _ (Int.le_refl _) (by simp) _ hag i j hd
    rw [← e2] at hp
    obtain ⟨m, hp⟩ := hp
    exact ⟨i, j, 0, hp.bd hi, hI.pos, by rw [h0], m, hp⟩
end Go.Proofs.Ytdpmbanfaigmcaa

