/- MatchHas holds: whatever comes in, the call of the law returns true, and what came in reads as it read. -/
import Derived.Test.YtdpmbanfaigmcaaUHasA
import Derived.Test.YtdpmbanfaigmcaaUHasB
import Derived.Test.YtdpmbanfaigmcaaUHasC
import Derived.Laws.BitsAllLaws
import Derived.ProofKit
import Derived.OpenShut
import Derived.ChangeOld
import Derived.SizedLaws
import Derived.Deep.Slices
import Derived.Deep.Fields
import Derived.StillTailTactics
import Derived.ShutString
import Derived.Below
import Derived.Carry
/- match.Compile, match.Find: walked. -/
set_option linter.unusedVariables false
set_option linter.unusedSimpArgs false
namespace Go.Proofs.Ytdpmbanfaigmcaa
open Go.RowKit

def compE (s : Bs) : Int := match parseP s with | .error e => e | .ok t => sizeE t
def compL (s : Bs) : List St := match parseP s with | .error _ => [] | .ok t => makeL t
def compS (s : Bs) : Int := match parseP s with | .error _ => 0 | .ok t => makeS t
/-- match.Find: found?, steps, error. -/
def findF (s subj : Bs) : Bool × Int × Int := if compE s ≠ 0 then (false, 0, compE s) else hasF (compL s) (compS s) subj

/-- Two cells written. -/
theorem two_set {w1 W : World} {b : Nat} {u0 u1 : Value} (v0 v1 : Value) (h0 : w1.cell? ⟨b, 0, none⟩ = some u0) (h1 : w1.cell? ⟨b, 1, none⟩ = some u1) (hW : W = (w1.setCell ⟨b, 0, none⟩ v0).setCell ⟨b, 1, none⟩ v1) :
    W.cell? ⟨b, 0, none⟩ = some v0 ∧ W.cell? ⟨b, 1, none⟩ = some v1 ∧ W.heap.size = w1.heap.size ∧ (∀ k, k ≠ b → W.heap[k]? = w1.heap[k]?) ∧ ∀ B w, B ≤ b → Below B w w1 → Below B w W := by
  subst hW
  refine ⟨?_, World.cell?_setCell_same _ _ _ (by rw [World.cell?_setCell_other (h := by simp)]; exact h1), by simp, fun k hk => ?_, fun B w hB hb => (hb.setCell (by simpa using hB) _).setCell (by simpa using hB) _⟩
  · rw [World.cell?_setCell_other (h := by simp)]
    exact World.cell?_setCell_same _ _ _ h0
  · rw [Below.heap_setCell _ _ _ _ hk, Below.heap_setCell _ _ _ _ hk]
set_option maxRecDepth 100000 in
set_option maxHeartbeats 4000000 in
theorem comp_any (s : Bs) (w : World) (hB : 91 ∈ s → BrC) (hD : 46 ∈ s → DotC) :
    Calls Try.prog 56 #[.string (bs s)] w fun en w' => ∃ A c, en = .returned (.tuple #[nfaV (compL s) (compS s) A c, .int .i64 (compE s)]) ∧ w'.ownsRow w.heap.size 47 7 (.slice A (compL s).length c) (compL s).length (stCells (compL s)) ∧ Below w.heap.size w w' := by
  have HB := Lib.hid hB; have HD := Lib.hid hD; clear hB hD
  go_enter Try.func56, Try.ntmps56
  go_wp2_with fail
  generalize hW : w.alloc _ = W0
  have hB0 : Below w.heap.size w W0 := by subst hW; exact (Below.refl _ _).alloc (Nat.le_refl _) _
  have hz0 : w.heap.size < W0.heap.size := by subst hW; simp
  have P0 : At2 W0 w.heap.size (.slice none 0 0) 0 := by subst hW; constructor <;> simp [go_sem]
  have y0 : ∀ o, W0.frozen? ⟨w.heap.size, o, none⟩ = false := fun o => by subst hW; simp [go_sem]
  clear hW
  refine (parse_par s W0 HB.out HD.out).mono ?_
  rintro en w1 ⟨hb1, ⟨t, A, c, hp, rfl, hN⟩ | ⟨e, hp, he, rfl⟩⟩
  case inr =>
    have hz1 := hb1.size
    have P1 := P0.later hb1 hz0
    have y1 : ∀ o, w1.frozen? ⟨w.heap.size, o, none⟩ = false := fun o => (hb1.frozen (p := ⟨w.heap.size, o, none⟩) hz0).trans (y0 o)
    have hB1 := hB0.trans (hb1.mono (by omega))
    have hE : compE s = e := by unfold compE; rw [hp]
    have hL : compL s = [] := by unfold compL; rw [hp]
    have hS : compS s = 0 := by unfold compS; rw [hp]
    have HE := Lib.hid hE; have HL := Lib.hid hL; have HS := Lib.hid hS
    have heb : (e != 0) = true := by simpa using he
    obtain ⟨p0, p1⟩ := P1
    have q0 := y1 0; have q1 := y1 1
    have lq : w.heap.size < w1.heap.size := by omega
    clear hE hL hS hp he P0 y0 y1 hb1
    go_wp2_with fail
    generalize hW2 : (w1.setCell _ _).setCell _ _ = W2
    obtain ⟨r0, r1, hs2, hk2, hb2⟩ := two_set _ _ p0 p1 hW2.symm
    have hB2 := hb2 _ _ (Nat.le_refl _) hB1
    have lq2 : w.heap.size < W2.heap.size := by omega
    clear hW2 hk2
    have r0' := (((Below.refl W2.heap.size W2).alloc (Nat.le_refl _) (.cells #[.int .i64 none0.k, .int .u64 none0.s0, .int .u64 none0.s1, .int .u64 none0.s2, .int .u64 none0.s3, .int .i64 none0.mn, .int .i64 none0.mx, .slice none none0.ps.length 0] 27)).cell (p := ⟨w.heap.size, 0, none⟩) lq2).trans r0
    have r1' := (((Below.refl W2.heap.size W2).alloc (Nat.le_refl _) (.cells #[.int .i64 none0.k, .int .u64 none0.s0, .int .u64 none0.s1, .int .u64 none0.s2, .int .u64 none0.s3, .int .i64 none0.mn, .int .i64 none0.mx, .slice none none0.ps.length 0] 27)).cell (p := ⟨w.heap.size, 1, none⟩) lq2).trans r1
    have hB3 := hB2.trans (((Below.refl W2.heap.size W2).alloc (Nat.le_refl _) (.cells #[.int .i64 none0.k, .int .u64 none0.s0, .int .u64 none0.s1, .int .u64 none0.s2, .int .u64 none0.s3, .int .i64 none0.mn, .int .i64 none0.mx, .slice none none0.ps.length 0] 27)).mono (by omega))
    generalize hW3 : W2.alloc _ = W3 at *
    refine bodyPost_ret (v := .tuple #[.agg #[.slice none 0 0, .int .i64 0], .int .i64 e]) (by simp [results, Try.results56, r0', r1', go_sem]) rfl ⟨none, 0, by rw [HE.out, HL.out, HS.out]; rfl, ?_, hB3⟩
    rw [HL.out]; exact ⟨rfl, .inl ⟨rfl, rfl⟩⟩
  case inl =>
    have hz1 := hb1.size
    have P1 := P0.later hb1 hz0
    have y1 : ∀ o, w1.frozen? ⟨w.heap.size, o, none⟩ = false := fun o => (hb1.frozen (p := ⟨w.heap.size, o, none⟩) hz0).trans (y0 o)
    have hB1 := hB0.trans (hb1.mono (by omega))
    have hE : compE s = sizeE t := by unfold compE; rw [hp]
    have hL : compL s = makeL t := by unfold compL; rw [hp]
    have hS : compS s = makeS t := by unfold compS; rw [hp]
    have HE := Lib.hid hE; have HL := Lib.hid hL; have HS := Lib.hid hS
    have HN := Lib.hid hN
    have lq : w.heap.size < w1.heap.size := by omega
    clear hE hL hS hp P0 y0 hN
    go_wp2_with fail
    generalize hW2 : w1.alloc _ = W2
    have hb2 : Below w1.heap.size w1 W2 := by subst hW2; exact (Below.refl _ _).alloc (Nat.le_refl _) _
    have hN2 := HN.out.later hb2 (fun b hb => hb.2)
    have P2 := P1.later hb2 lq
    have y2 : ∀ o, W2.frozen? ⟨w.heap.size, o, none⟩ = false := fun o => (hb2.frozen (p := ⟨w.heap.size, o, none⟩) lq).trans (y1 o)
    have hz2 := hb2.size
    have hB2 := hB1.trans (hb2.mono (by omega))
    clear hW2 P1 y1
    refine (make_any t W2 _ A c hN2 (fun b hb => by omega)).mono ?_
    rintro en w3 ⟨v, rfl, ho3, hb3⟩
    obtain ⟨A3, c3, rfl⟩ := own_form ho3
    have P3 := P2.later hb3 (by omega)
    have y3 : ∀ o, w3.frozen? ⟨w.heap.size, o, none⟩ = false := fun o => (hb3.frozen (p := ⟨w.heap.size, o, none⟩) (by show w.heap.size < _; omega)).trans (y2 o)
    have hB3 := hB2.trans (hb3.mono (by omega))
    have hz3 := hb3.size
    obtain ⟨p0, p1⟩ := P3
    have q0 := y3 0; have q1 := y3 1
    have lq3 : w.heap.size < w3.heap.size := by omega
    have Ho3 := Lib.hid ho3
    clear P2 y2 y3 ho3 hN2
    go_wp2_with fail
    generalize hW4 : (w3.setCell _ _).setCell _ _ = W4
    obtain ⟨r0, r1, hs4, hk4, hb4⟩ := two_set _ _ p0 p1 hW4.symm
    have hB4 := hb4 _ _ (Nat.le_refl _) hB3
    have ho4 : W4.ownsRow W2.heap.size 47 7 (.slice A3 (makeL t).length c3) (makeL t).length (stCells (makeL t)) := by
      refine Ho3.out.kept (row := some w.heap.size) ⟨by subst hW4; rfl, by subst hW4; rfl, by subst hW4; rfl, by omega, fun k hk hne => hk4 k (by simpa using hne)⟩ (.inr fun e => ?_)
      have := (Ho3.out.lt _ e).1
      omega
    refine bodyPost_ret (v := .tuple #[.agg #[.slice A3 (makeL t).length c3, .int .i64 (makeS t)], .int .i64 (sizeE t)]) (by simp [results, Try.results56, r0, r1, go_sem]) rfl ⟨A3, c3, by rw [HE.out, HL.out, HS.out], ?_, hB4⟩
    rw [HL.out]
    exact ho4.mono (by omega)

theorem compL_le (s : Bs) : (compL s).length ≤ 4096 := by
  unfold compL
  split
  · simp
  · exact makeL_le _
set_option maxRecDepth 100000 in
set_option maxHeartbeats 4000000 in
theorem find_any (s subj : Bs) (w : World) (hB : 91 ∈ s → BrC) (hD : 46 ∈ s → DotC) :
    Calls Try.prog 37 #[.string (bs s), .string (bs subj)] w fun en w' => en = .returned (.tuple #[.bool (findF s subj).1, .int .i64 (findF s subj).2.1, .int .i64 (findF s subj).2.2]) ∧ Below w.heap.size w w' := by
  have HB := Lib.hid hB; have HD := Lib.hid hD; clear hB hD
  go_enter Try.func37, Try.ntmps37
  go_wp2_with fail
  refine (comp_any s w HB.out HD.out).mono ?_
  rintro en w1 ⟨A, c, rfl, ho1, hb1⟩
  have hl := compL_le s
  have Ho1 := Lib.hid ho1
  have hz1 := hb1.size
  clear ho1
  by_cases he : compE s = 0
  · have hres : findF s subj = hasF (compL s) (compS s) subj := by unfold findF; rw [if_neg (by simpa using he)]
    have Hres := Lib.hid hres
    have hb : (compE s != 0) = false := by rw [he]; rfl
    clear hres he
    go_wp2_with fail
    generalize hW2 : w1.alloc _ = W2
    have hb2 : Below w1.heap.size w1 W2 := by subst hW2; exact (Below.refl _ _).alloc (Nat.le_refl _) _
    have hz2 := hb2.size
    clear hW2
    refine (has_any W2 (fun b => b < W2.heap.size) (compL s) (compS s) A c (sts_all (own_later Ho1.out hb2) hl) (fun b h => h) subj).mono ?_
    rintro en w3 ⟨rfl, hb3⟩
    go_wp2_with fail
    exact bodyPost_ret (v := .tuple #[.bool (hasF (compL s) (compS s) subj).1, .int .i64 (hasF (compL s) (compS s) subj).2.1, .int .i64 (hasF (compL s) (compS s) subj).2.2]) (by simp [results, Try.results37, go_sem]) rfl ⟨by rw [Hres.out], hb1.trans ((hb2.mono hz1).trans (hb3.mono (by omega)))⟩
  · have hres : findF s subj = (false, 0, compE s) := by unfold findF; rw [if_pos he]
    have Hres := Lib.hid hres
    have hb : (compE s != 0) = true := by rw [bne_iff_ne]; exact he
    clear hres he
    go_wp2_with fail
    exact bodyPost_ret (v := .tuple #[.bool false, .int .i64 0, .int .i64 (compE s)]) (by simp [results, Try.results37, go_sem]) rfl ⟨by rw [Hres.out], hb1.alloc hz1 _⟩
end Go.Proofs.Ytdpmbanfaigmcaa

/- vouchlaw12.works: walked. -/
set_option linter.unusedVariables false
set_option linter.unusedSimpArgs false
namespace Go.Proofs.Ytdpmbanfaigmcaa
open Go.RowKit

theorem fw1 : findF [97, 36] [98, 97] = (true, 5, 0) := by kernel_rfl
theorem fw2 : findF [94, 97] [98, 97] = (false, 4, 0) := by kernel_rfl
theorem fw3 : (findF [40, 97, 98, 41, 43, 99] [120, 97, 98, 97, 98, 99]).1 = true := by kernel_rfl
theorem fw3' : (findF [40, 97, 98, 41, 43, 99] [120, 97, 98, 97, 98, 99]).2.2 = 0 := by kernel_rfl
theorem fw4 : (findF [97, 40] []).2.2 = 100 := by kernel_rfl
theorem fw5 : hasF [] 0 [] = (false, 0, 110) := by kernel_rfl
set_option maxRecDepth 100000 in
set_option maxHeartbeats 2000000 in
theorem works12_any (w : World) :
    Calls Try.prog 34 #[] w fun en w' => en = .returned (.bool true) ∧ Below w.heap.size w w' := by
  go_enter Try.func34, Try.ntmps34
  go_wp2_with fail
  refine (find_any [97, 36] [98, 97] w (by simp) (by simp)).mono ?_
  rintro en w1 ⟨rfl, hb1⟩
  have hz1 := hb1.size
  rw [fw1]
  go_wp2_with fail
  refine (find_any [94, 97] [98, 97] w1 (by simp) (by simp)).mono ?_
  rintro en w2 ⟨rfl, hb2⟩
  have hz2 := hb2.size
  rw [fw2]
  go_wp2_with fail
  refine (find_any [40, 97, 98, 41, 43, 99] [120, 97, 98, 97, 98, 99] w2 (by simp) (by simp)).mono ?_
  rintro en w3 ⟨rfl, hb3⟩
  have hz3 := hb3.size
  rw [fw3, fw3']
  go_wp2_with fail
  refine (find_any [97, 40] [] w3 (by simp) (by simp)).mono ?_
  rintro en w4 ⟨rfl, hb4⟩
  have hz4 := hb4.size
  rw [fw4]
  go_wp2_with fail
  refine (has_any w4 (fun b => b < w4.heap.size) [] 0 none 0 ⟨by simp, by simp, fun _ => rfl, fun h => by simp at h⟩ (fun b h => h) []).mono ?_
  rintro en w5 ⟨rfl, hb5⟩
  rw [fw5]
  go_wp2_with fail
  exact bodyPost_ret (v := .bool true) (by simp [results, Try.results34, go_sem]) rfl ⟨rfl, hb1.trans ((hb2.mono hz1).trans ((hb3.mono (by omega)).trans ((hb4.mono (by omega)).trans (hb5.mono (by omega)))))⟩
end Go.Proofs.Ytdpmbanfaigmcaa

/- vouchref12.with: walked. -/
set_option linter.unusedVariables false
set_option linter.unusedSimpArgs false
namespace Go.Proofs.Ytdpmbanfaigmcaa
open Go.RowKit

theorem ints_rev (x : Nat) (t : List Nat) : ints ((x :: t).reverse) = ints t.reverse ++ [.int .i64 (x : Int)] := by rw [List.reverse_cons, ints_snoc]
/-- A row's list without its last. -/
theorem row_pop {w : World} {B : Nat} {t : List Nat} {x : Nat} {A : Option Addr} {c : Nat} (h : w.ownsRow B 3 1 (.slice A (t.length + 1) c) (t.length + 1) (ints (x :: t).reverse)) :
    (∃ g, A = some ⟨g, 0, none⟩ ∧ g < w.heap.size ∧ B ≤ g ∧ t.length + 1 ≤ c ∧ w.cell? ⟨g, t.length, none⟩ = some (.int .i64 (x : Int))) ∧ w.ownsRow B 3 1 (.slice A t.length c) t.length (ints t.reverse) := by
  refine ⟨?_, by simp [ints], ?_⟩
  · rcases h.2 with ⟨_, h0⟩ | ⟨g, cap, cur, e, hb, hh, hcap, _⟩
    · omega
    · simp only [Value.slice.injEq] at e
      obtain ⟨rfl, _, rfl⟩ := e
      refine ⟨g, rfl, by (rcases Nat.lt_or_ge g w.heap.size with h' | h'; exact h'; rw [Array.getElem?_eq_none h'] at hh; simp at hh), hb, hcap, ?_⟩
      rw [h.cellAt t.length (by omega), ints_rev]
      simp [ints]
  · rcases h.2 with ⟨e, h0⟩ | ⟨g, cap, cur, e, hb, hh, hcap, hm, hs, htk⟩
    · omega
    · simp only [Value.slice.injEq] at e
      obtain ⟨rfl, _, rfl⟩ := e
      refine .inr ⟨g, c, cur, rfl, hb, hh, by omega, hm, hs, ?_⟩
      have : ints t.reverse = (ints (x :: t).reverse).take (t.length * 1) := by rw [ints_rev]; simp [ints]
      rw [this, ← htk, List.take_take]
      congr 1
      omega
/-- Which states are there, as it lies in memory. -/
structure Thr (w : World) (T n : Nat) (Y : List Bool) : Prop where
  len : Y.length = n
  th : ∀ i, i < n → w.cell? ⟨T, i, none⟩ = some (.bool (Y.getD i false))
  tz : ∀ i, w.frozen? ⟨T, i, none⟩ = false
  lT : T < w.heap.size
theorem Thr.kept {w w' : World} {T n : Nat} {Y : List Bool} (h : Thr w T n Y) (hz : w.heap.size ≤ w'.heap.size) (hk : w'.heap[T]? = w.heap[T]?) : Thr w' T n Y :=
  ⟨h.len, fun i hi => (World.cell?_of_block (w := w) (a := ⟨T, i, none⟩) hk).trans (h.th i hi), fun i => (World.frozen?_of_block (w := w) (a := ⟨T, i, none⟩) hk).trans (h.tz i), Nat.lt_of_lt_of_le h.lT hz⟩
theorem Thr.later {w w' : World} {T n : Nat} {Y : List Bool} (h : Thr w T n Y) (hb : Below w.heap.size w w') : Thr w' T n Y := h.kept hb.size (hb.block T h.lT)
theorem Thr.set {w : World} {T n : Nat} {Y : List Bool} (h : Thr w T n Y) {x : Nat} (hx : x < n) : Thr (w.setCell ⟨T, x, none⟩ (.bool true)) T n (Y.set x true) := by
  refine ⟨by simp [h.len], fun i hi => ?_, fun i => by rw [World.frozen?_setCell]; exact h.tz i, by simpa using h.lT⟩
  by_cases e : x = i
  · subst e
    rw [World.cell?_setCell_same _ _ _ (h.th x hx)]
    simp [List.getD_eq_getElem?_getD, show x < Y.length by rw [h.len]; exact hx]
  · rw [World.cell?_setCell_other _ _ _ _ (by simp [e]), h.th i hi]
    simp [List.getD_eq_getElem?_getD, e]

theorem Off.grown {T : Nat} {w w1 w2 : World} (h : Off T w w1) {r : Option Nat} (hg : w1.grownBy w2 r) (hr : ∀ g, r = some g → w.heap.size ≤ g) : Off T w w2 :=
  ⟨hg.os.trans h.os, hg.tape.trans h.tape, hg.output.trans h.output, Nat.le_trans h.size hg.size, fun k hk hn => (hg.block k (Nat.lt_of_lt_of_le hk h.size) (fun e => by have := hr k e.symm; omega)).trans (h.block k hk hn)⟩
theorem Off.new {T : Nat} {w w1 : World} (h : Off T w w1) (o : Obj) : Off T w (w1.alloc o) := h.trans (Off.of_below ((Below.refl _ _).alloc (Nat.le_refl _) _))
/-- The round's invariant: W1: the world behind the box. -/
structure WI (W1 wr : World) (T N : Nat) (l : List St) (b e : Bool) (res : List Bool) (k : Nat) (st : List Nat) (Y : List Bool) (A : Option Addr) (c : Nat) : Prop where
  row : wr.ownsRow W1.heap.size 3 1 (.slice A st.length c) st.length (ints st.reverse)
  lt : ∀ x ∈ st, x < N
  fin : withL l b e k Y st = res
  fu : 3 * falses Y + st.length ≤ k
  ku : k ≤ 3 * N + 2
  thr : Thr wr T N Y
  off : Off T W1 wr
theorem Thr.grown {W w : World} {T n : Nat} {Y : List Bool} (h : Thr W T n Y) {o : Obj} {r : Option Nat} (hg : (W.alloc o).grownBy w r) (hr : some T ≠ r) : Thr w T n Y :=
  (h.later ((Below.refl _ _).alloc (Nat.le_refl _) o)).kept hg.size (hg.block T (by have := h.lT; simp; omega) hr)
theorem withL_nil (l : List St) (b e : Bool) (k : Nat) (Y : List Bool) : withL l b e k Y [] = Y := by cases k <;> rfl

set_option maxRecDepth 100000 in
set_option maxHeartbeats 4000000 in
theorem with_any (w : World) (T : Nat) (l : List St) (sa : Int) (hm : MOk l sa) (ok : Nat → Prop) (Am : Option Addr) (cm : Nat) (b e : Bool) (hS : StsAt w ok l Am cm) (hok : ∀ k, ok k → k < w.heap.size) (hTo : ¬ ok T)
    (Y : List Bool) (h : Thr w T l.length Y) (i : Nat) (hi : i < l.length) :
    Calls Try.prog 51 #[nfaV l sa Am cm, .slice (some ⟨T, 0, none⟩) l.length l.length, .int .i64 (i : Int), .bool b, .bool e] w fun en w' => en = .returned (.tuple #[]) ∧ Thr w' T l.length (withF l b e Y i) ∧ Off T w w' := by
  have hN : l.length ≤ 4096 := hm.len
  have hlT := h.lT
  have H := Lib.hid h; have HM := Lib.hid hm; have HS := Lib.hid hS; have HOk := Lib.hid hok; have HTo := Lib.hid hTo
  clear h hm hS hok hTo
  go_enter Try.func51, Try.ntmps51
  have hnews : ∀ (W : World) (x : Int) ad, some (⟨W.heap.size, 0, none⟩ : Addr) = some ad → ∀ j u, ([.int .i64 x] : List Value)[j]? = some u → (W.alloc (.cells #[.int .i64 x] 3)).cell? (ad.add j) = some u := fun W x ad e j u hu => by
    simp only [Option.some.injEq] at e
    subst e
    rw [addr_addX, World.cell?_alloc_new, Nat.zero_add]
    simpa using hu
  have Hnews := Lib.hid hnews
  clear hnews
  go_wp2_with (at_builtin; refine wpList_append_fromX (w.heap.size + 1) rfl _ _ 71 3 _ 1 8 rfl Try.underlying71 Try.infoInt rfl (by omega) (by omega) (.slice none 0 0) 0 1 [] [.int .i64 (i : Int)] (some ⟨w.heap.size + 1, 0, none⟩) 1 rfl (by simp [go_sem]) (by simp) rfl (by simp [go_sem]) (by simp [Value.oneCell']) ⟨rfl, .inl ⟨rfl, rfl⟩⟩ (by simp <;> omega) (by omega) (fun A5 c5 w5 ho5 hg5 hat5 => ?_); have Ho5 := Lib.hid ho5; have Hg5 := Lib.hid hg5; clear ho5 hg5 hat5)
  have ho5 := Ho5.out; have hg5 := Hg5.out
  clear Ho5 Hg5
  generalize hW1 : w.alloc _ = W1 at *
  have hz1 : W1.heap.size = w.heap.size + 1 := by subst hW1; simp
  have hb1 : Below w.heap.size w W1 := by subst hW1; exact (Below.refl _ _).alloc (Nat.le_refl _) _
  have p0 : W1.cell? ⟨w.heap.size, 0, none⟩ = some (.slice Am l.length cm) := by subst hW1; simp [go_sem]
  clear hW1
  have hI : WI W1 w5 T l.length l b e (withF l b e Y i) (3 * l.length + 2) [i] Y A5 c5 := by
    have hO : Off T W1 w5 := ((Off.refl T W1).new _).grown hg5 (by simp [Value.ownBlock])
    refine ⟨by rw [hz1]; exact ho5, by simpa using hi, rfl, ?_, Nat.le_refl _, ?_, hO⟩
    · have := falses_le Y
      have := H.out.len
      simp; omega
    · have hT : Thr (W1.alloc (.cells #[.int .i64 (i : Int)] 3)) T l.length Y := ((H.out.later hb1).later ((Below.refl _ _).alloc (Nat.le_refl _) _))
      exact hT.kept hg5.size (hg5.block T hT.lT (by simp [Value.ownBlock]))
  have HI := Lib.hid hI
  have HB1 := Lib.hid hb1
  clear hI ho5 hg5 hb1
  go_loopg [10] (3 * l.length + 2) (fun k v wr => ∃ (st : List Nat) (Y' : List Bool) (A : Option Addr) (c : Nat), v = .slice A st.length c ∧ WI W1 wr T l.length l b e (withF l b e Y i) k st Y' A c)
  case atStart => exact ⟨[i], Y, A5, c5, rfl, HI.out⟩
  case round =>
    clear HI
    obtain ⟨st, Y', A, c, rfl, hI⟩ := hrel
    cases st with
    | nil =>
      have HI := Lib.hid hI
      clear hI
      go_wp2_with fail
      go_end0
      have hf := HI.out.fin
      rw [withL_nil] at hf
      exact ⟨rfl, by rw [← hf]; exact HI.out.thr, (Off.of_below HB1.out).trans HI.out.off⟩
    | cons x t =>
      obtain ⟨⟨g, rfl, hg, hB, hcap, hcell⟩, hpop⟩ := row_pop hI.row
      have hx : x < l.length := hI.lt x (List.mem_cons_self ..)
      have hfu := hI.fu
      have hku := hI.ku
      have tx := hI.thr.th x hx
      have tz := hI.thr.tz x
      have lT := hI.thr.lT
      have q0 : wr.cell? ⟨w.heap.size, 0, none⟩ = some (.slice Am l.length cm) := (hI.off.cell (by omega) (by omega)).trans p0
      have hfl := falses_le Y'
      have hYl := hI.thr.len
      simp only [List.length_cons] at hfu hcap ⊢
      have htl : t.length < 100000 := by omega
      have htc : t.length ≤ c := by omega
      have HI := Lib.hid hI; have HP := Lib.hid hpop
      have HYl := Lib.hid hYl
      clear hI hpop
      cases hy : Y'.getD x false with
      | true =>
        rw [hy] at tx
        have hf := HI.out.fin
        obtain ⟨k, rfl⟩ : ∃ k, gk = k + 1 := ⟨gk - 1, by omega⟩
        rw [withL, if_pos hy] at hf
        have Hf := Lib.hid hf
        clear hf hy
        clear HYl
        go_wp2_with fail
        go_roundg k
        case measure => omega
        case rel => exact ⟨t, Y', some ⟨g, 0, none⟩, c, by go_num, HP.out, fun z hz => HI.out.lt z (List.mem_cons_of_mem _ hz), Hf.out, by omega, by omega, HI.out.thr, HI.out.off⟩
      | false =>
        rw [hy] at tx
        have hf := HI.out.fin
        obtain ⟨k, rfl⟩ : ∃ k, gk = k + 1 := ⟨gk - 1, by omega⟩
        rw [withL, if_neg (by rw [hy]; simp)] at hf
        have hfs := falses_set Y' x (by omega) hy
        have Hf := Lib.hid hf; have Hfs := Lib.hid hfs
        clear hf hy hfs HYl
        go_upto_region 8 with fail
        generalize hW2 : wr.setCell _ _ = W2
        have b2k : ∀ k, k ≠ T → W2.heap[k]? = wr.heap[k]? := fun k hk => by subst hW2; exact Below.heap_setCell _ _ _ _ hk
        have b2z : W2.heap.size ≤ wr.heap.size := by subst hW2; simp
        have b2y : wr.heap.size ≤ W2.heap.size := by subst hW2; simp
        have hT2 : Thr W2 T l.length (Y'.set x true) := by subst hW2; exact HI.out.thr.set hx
        have hO2 : Off T W1 W2 := by subst hW2; exact HI.out.off.set x (.bool true)
        have hR2 : W2.ownsRow W1.heap.size 3 1 (.slice (some ⟨g, 0, none⟩) t.length c) t.length (ints t.reverse) := by
          refine HP.out.kept (row := some T) ⟨by subst hW2; rfl, by subst hW2; rfl, by subst hW2; rfl, by omega, fun k hk hne => b2k k (by simpa using hne)⟩ (.inr ?_)
          simp [Value.ownBlock]; omega
        clear hW2 b2k tx tz q0 hcell HP
        have q0 : W2.cell? ⟨w.heap.size, 0, none⟩ = some (.slice Am l.length cm) := (hO2.cell (by omega) (by omega)).trans p0
        have hST := (HS.out.mono (w' := W2) (ok' := ok) (fun k hk => ⟨hk, fun o => by
          have h1 := HOk.out k hk
          exact (hO2.cell (b := k) (o := o) (by omega) (fun e => HTo.out (e ▸ hk))).trans (HB1.out.cell (p := ⟨k, o, none⟩) h1)⟩))
        obtain ⟨gm, om, rfl, hgm, hst⟩ := hST.at_ (by omega)
        have hstx := hst x hx
        have hsN : l[x] = stN l x := by unfold stN; rw [List.getD_eq_getElem?_getD, List.getElem?_eq_getElem hx]; rfl
        rw [hsN] at hstx
        have hsk := HM.out.kinds hx
        have hcS := HS.out.cap
        have hgw : gm < W2.heap.size := by have := HOk.out gm hgm; omega
        clear hst hsN hST
        generalize stN l x = s at *
        obtain ⟨sk, s0, s1, s2, s3, nx, ot⟩ := s
        obtain ⟨f0, f1, f2, f3, f4, f5, f6⟩ := hstx
        simp only at f0 f1 f2 f3 f4 f5 f6 hsk
        have HT2 := Lib.hid hT2; have HO2 := Lib.hid hO2; have HR2 := Lib.hid hR2
        clear hT2 hO2 hR2
        go_upto_region 9 with fail
        generalize hW3 : W2.alloc _ = W3
        have hb3 : Below W2.heap.size W2 W3 := by subst hW3; exact (Below.refl _ _).alloc (Nat.le_refl _) _
        have hz3 : W2.heap.size < W3.heap.size := by subst hW3; simp
        have b0 : W3.cell? ⟨W2.heap.size, 0, none⟩ = some (.int .i64 sk) := by subst hW3; simp [go_sem]
        have b5 : W3.cell? ⟨W2.heap.size, 5, none⟩ = some (.int .i64 nx) := by subst hW3; simp [go_sem]
        have b6 : W3.cell? ⟨W2.heap.size, 6, none⟩ = some (.int .i64 ot) := by subst hW3; simp [go_sem]
        have hR3 := HR2.out.kept (w' := W3) (row := none) ⟨hb3.os, hb3.tape, hb3.output, hb3.size, fun k hk _ => hb3.block k hk⟩ (by simp [Value.ownBlock])
        have hT3 := HT2.out.later hb3
        have hO3 := HO2.out.trans (Off.of_below hb3)
        clear hW3 f0 f1 f2 f3 f4 f5 f6 q0 hb3
        have HT3 := Lib.hid hT3; have HO3 := Lib.hid hO3; have HR3 := Lib.hid hR3
        clear hT3 hO3 hR3 HT2 HO2 HR2
        have hgT : g ≠ T := by omega
        have hO3z := HO3.out.size
        rcases hsk with rfl | ⟨hk, hn0, hn1⟩ | ⟨rfl, ⟨hn0, hn1⟩, ho0, ho1⟩
        · go_wp2_with fail
          go_roundg k
          case measure => omega
          case rel => exact ⟨t, Y'.set x true, some ⟨g, 0, none⟩, c, by go_num, HR3.out, fun z hz => HI.out.lt z (List.mem_cons_of_mem _ hz), by simpa [outs] using Hf.out, by have := Hfs.out; omega, by omega, HT3.out, HO3.out⟩
        · obtain ⟨x1, rfl⟩ : ∃ x1 : Nat, nx = x1 := ⟨nx.toNat, by omega⟩
          have hx1 : x1 < l.length := by omega
          rcases hk with rfl | rfl | rfl
          · go_wp2_with fail
            go_roundg k
            case measure => omega
            case rel => exact ⟨t, Y'.set x true, some ⟨g, 0, none⟩, c, by go_num, HR3.out, fun z hz => HI.out.lt z (List.mem_cons_of_mem _ hz), by simpa [outs] using Hf.out, by have := Hfs.out; omega, by omega, HT3.out, HO3.out⟩
          · cases b
            · go_wp2_with fail
              go_roundg k
              case measure => omega
              case rel => exact ⟨t, Y'.set x true, some ⟨g, 0, none⟩, c, by go_num, HR3.out, fun z hz => HI.out.lt z (List.mem_cons_of_mem _ hz), by simpa [outs] using Hf.out, by have := Hfs.out; omega, by omega, HT3.out, HO3.out⟩
            · go_upto_region 11 with (at_builtin; refine wpList_append_fromX W1.heap.size rfl _ _ 71 3 _ 1 8 rfl Try.underlying71 Try.infoInt rfl (by omega) (by omega) (.slice (some ⟨g, 0, none⟩) t.length c) t.length 1 (ints t.reverse) [.int .i64 (x1 : Int)] (some ⟨W3.heap.size, 0, none⟩) 1 rfl rfl (by simp) rfl (Hnews.out W3 (x1 : Int)) (by simp [Value.oneCell']) (HR3.out.alloc _) (by have := HO3.out.size; simp; omega) (by omega) (fun A6 c6 w6 ho hg hat => ?_); have Ho6 := Lib.hid ho; have Hg6 := Lib.hid hg; have Hat6 := Lib.hid hat; clear ho hg hat)
              have hT6 := HT3.out.grown Hg6.out (by simp [Value.ownBlock]; omega)
              have hO6 := (HO3.out.new _).grown Hg6.out (fun g' e => by simp [Value.ownBlock] at e; omega)
              have b0' : w6.cell? ⟨W2.heap.size, 0, none⟩ = some (.int .i64 3) := (World.cell?_of_block (w := W3) (a := ⟨W2.heap.size, 0, none⟩) ((Hg6.out.block _ (by simp; omega) (by simp [Value.ownBlock]; omega)).trans (((Below.refl W3.heap.size W3).alloc (Nat.le_refl _) _).block _ hz3))).trans b0
              go_wp2_with fail
              go_roundg k
              case measure => omega
              case rel => exact ⟨x1 :: t, Y'.set x true, A6, c6, by go_num, by rw [ints_rev]; exact Ho6.out, fun z hz => (List.mem_cons.1 hz).elim (fun e => e ▸ hx1) (fun hz => HI.out.lt z (List.mem_cons_of_mem _ hz)), by simpa [outs] using Hf.out, by have := Hfs.out; simp only [List.length_cons]; omega, by omega, hT6, hO6⟩
          · cases e
            · go_wp2_with fail
              go_roundg k
              case measure => omega
              case rel => exact ⟨t, Y'.set x true, some ⟨g, 0, none⟩, c, by go_num, HR3.out, fun z hz => HI.out.lt z (List.mem_cons_of_mem _ hz), by simpa [outs] using Hf.out, by have := Hfs.out; omega, by omega, HT3.out, HO3.out⟩
            · go_upto_region 11 with (at_builtin; refine wpList_append_fromX W1.heap.size rfl _ _ 71 3 _ 1 8 rfl Try.underlying71 Try.infoInt rfl (by omega) (by omega) (.slice (some ⟨g, 0, none⟩) t.length c) t.length 1 (ints t.reverse) [.int .i64 (x1 : Int)] (some ⟨W3.heap.size, 0, none⟩) 1 rfl rfl (by simp) rfl (Hnews.out W3 (x1 : Int)) (by simp [Value.oneCell']) (HR3.out.alloc _) (by have := HO3.out.size; simp; omega) (by omega) (fun A6 c6 w6 ho hg hat => ?_); have Ho6 := Lib.hid ho; have Hg6 := Lib.hid hg; have Hat6 := Lib.hid hat; clear ho hg hat)
              have hT6 := HT3.out.grown Hg6.out (by simp [Value.ownBlock]; omega)
              have hO6 := (HO3.out.new _).grown Hg6.out (fun g' e => by simp [Value.ownBlock] at e; omega)
              have b0' : w6.cell? ⟨W2.heap.size, 0, none⟩ = some (.int .i64 4) := (World.cell?_of_block (w := W3) (a := ⟨W2.heap.size, 0, none⟩) ((Hg6.out.block _ (by simp; omega) (by simp [Value.ownBlock]; omega)).trans (((Below.refl W3.heap.size W3).alloc (Nat.le_refl _) _).block _ hz3))).trans b0
              go_wp2_with fail
              go_roundg k
              case measure => omega
              case rel => exact ⟨x1 :: t, Y'.set x true, A6, c6, by go_num, by rw [ints_rev]; exact Ho6.out, fun z hz => (List.mem_cons.1 hz).elim (fun e => e ▸ hx1) (fun hz => HI.out.lt z (List.mem_cons_of_mem _ hz)), by simpa [outs] using Hf.out, by have := Hfs.out; simp only [List.length_cons]; omega, by omega, hT6, hO6⟩
        · obtain ⟨x1, rfl⟩ : ∃ x1 : Nat, nx = x1 := ⟨nx.toNat, by omega⟩
          obtain ⟨x2, rfl⟩ : ∃ x2 : Nat, ot = x2 := ⟨ot.toNat, by omega⟩
          have hx1 : x1 < l.length := by omega
          have hx2 : x2 < l.length := by omega
          go_upto_region 11 with (at_builtin; refine wpList_append_fromX W1.heap.size rfl _ _ 71 3 _ 1 8 rfl Try.underlying71 Try.infoInt rfl (by omega) (by omega) (.slice (some ⟨g, 0, none⟩) t.length c) t.length 1 (ints t.reverse) [.int .i64 (x1 : Int)] (some ⟨W3.heap.size, 0, none⟩) 1 rfl rfl (by simp) rfl (Hnews.out W3 (x1 : Int)) (by simp [Value.oneCell']) (HR3.out.alloc _) (by have := HO3.out.size; simp; omega) (by omega) (fun A6 c6 w6 ho hg hat => ?_); have Ho6 := Lib.hid ho; have Hg6 := Lib.hid hg; have Hat6 := Lib.hid hat; clear ho hg hat)
          have hT6 := HT3.out.grown Hg6.out (by simp [Value.ownBlock]; omega)
          have hO6 := (HO3.out.new _).grown Hg6.out (fun g' e => by simp [Value.ownBlock] at e; omega)
          have hk6 := (Hg6.out.block W2.heap.size (by simp; omega) (by simp [Value.ownBlock]; omega)).trans (((Below.refl W3.heap.size W3).alloc (Nat.le_refl _) _).block _ hz3)
          have b0' : w6.cell? ⟨W2.heap.size, 0, none⟩ = some (.int .i64 2) := (World.cell?_of_block (w := W3) (a := ⟨W2.heap.size, 0, none⟩) hk6).trans b0
          have b6' : w6.cell? ⟨W2.heap.size, 6, none⟩ = some (.int .i64 x2) := (World.cell?_of_block (w := W3) (a := ⟨W2.heap.size, 6, none⟩) hk6).trans b6
          have hown : ∀ g', (Value.slice A6 (t.length + 1) c6).ownBlock = some g' → W1.heap.size ≤ g' := fun g' e => (Ho6.out.lt g' e).1
          have hr6 : w6.ownsRow W1.heap.size 3 1 (.slice A6 (t.length + 1) c6) (t.length + 1) (ints (x1 :: t).reverse) := by rw [ints_rev]; exact Ho6.out
          have hz6 := Hg6.out.size
          have HT6 := Lib.hid hT6; have HO6 := Lib.hid hO6; have HR6 := Lib.hid hr6; have Hown := Lib.hid hown
          clear hT6 hO6 hk6 hown hr6 Hg6 Hat6 Ho6 b0 b6
          go_wp2_with (at_builtin; refine wpList_append_fromX W1.heap.size rfl _ _ 71 3 _ 1 8 rfl Try.underlying71 Try.infoInt rfl (by omega) (by omega) (.slice A6 (t.length + 1) c6) (t.length + 1) 1 (ints (x1 :: t).reverse) [.int .i64 (x2 : Int)] (some ⟨w6.heap.size, 0, none⟩) 1 rfl rfl (by simp) rfl (Hnews.out w6 (x2 : Int)) (by simp [Value.oneCell']) (HR6.out.alloc _) (by have := HO6.out.size; simp; omega) (by omega) (fun A7 c7 w7 ho hg hat => ?_); have Ho7 := Lib.hid ho; have Hg7 := Lib.hid hg; have Hat7 := Lib.hid hat; clear ho hg hat)
          have hT7 := HT6.out.grown Hg7.out (fun e => by have := Hown.out T e.symm; omega)
          have hO7 := (HO6.out.new _).grown Hg7.out Hown.out
          go_roundg k
          case measure => omega
          case rel => exact ⟨x2 :: x1 :: t, Y'.set x true, A7, c7, by go_num, by rw [ints_rev]; exact Ho7.out, fun z hz => (List.mem_cons.1 hz).elim (fun e => e ▸ hx2) (fun hz => (List.mem_cons.1 hz).elim (fun e => e ▸ hx1) (fun hz => HI.out.lt z (List.mem_cons_of_mem _ hz))), by simpa [outs] using Hf.out, by have := Hfs.out; simp only [List.length_cons]; omega, by omega, hT7, hO7⟩
end Go.Proofs.Ytdpmbanfaigmcaa

/- Sets of bytes as four words: which byte is in, of each way of making one. Plain. -/
set_option linter.unusedVariables false
set_option linter.unusedSimpArgs false
namespace Go.Proofs.Ytdpmbanfaigmcaa
open Go.RowKit

def In64 (x : Int) : Prop := 0 ≤ x ∧ x < 18446744073709551616
structure Wok (s : W4) : Prop where
  a : In64 s.a
  b : In64 s.b
  c : In64 s.c
  d : In64 s.d
def W4.at (s : W4) (c : Nat) : Int := if c < 64 then s.a else if c < 128 then s.b else if c < 192 then s.c else s.d
/-- Is a byte in a set? -/
def W4.has (s : W4) (c : Nat) : Bool := (s.at c).toNat.testBit (c % 64)
theorem Wok.at {s : W4} (h : Wok s) (c : Nat) : In64 (s.at c) := by
  unfold W4.at; split
  · exact h.a
  split
  · exact h.b
  split
  · exact h.c
  · exact h.d
theorem wok0 : Wok w40 := ⟨⟨by decide, by decide⟩, ⟨by decide, by decide⟩, ⟨by decide, by decide⟩, ⟨by decide, by decide⟩⟩
theorem has0 (c : Nat) : w40.has c = false := by
  have : w40.at c = 0 := by unfold W4.at w40; split <;> (try rfl); split <;> (try rfl); split <;> rfl
  unfold W4.has; rw [this]; simp
theorem pow_in {k : Nat} (h : k < 64) : In64 (2 ^ k) := by
  have h1 : (2 : Nat) ^ k < 2 ^ 64 := Nat.pow_lt_pow_right (by omega) h
  have e : ((2 : Int) ^ k) = ((2 ^ k : Nat) : Int) := by push_cast; rfl
  rw [e]
  generalize (2 : Nat) ^ k = p at *
  exact ⟨by omega, by omega⟩
theorem orI_eq {x y : Int} (hx : In64 x) (hy : In64 y) : orI x y = ((x.toNat ||| y.toNat : Nat) : Int) := u64_or x y hx.1 hx.2 hy.1 hy.2
theorem orI_in {x y : Int} (hx : In64 x) (hy : In64 y) : In64 (orI x y) := by
  rw [orI_eq hx hy]
  have : x.toNat ||| y.toNat < 2 ^ 64 := Nat.or_lt_two_pow (by have := hx.2; omega) (by have := hy.2; omega)
  exact ⟨by omega, by omega⟩
theorem orI_bit {x y : Int} (hx : In64 x) (hy : In64 y) (k : Nat) : (orI x y).toNat.testBit k = (x.toNat.testBit k || y.toNat.testBit k) := by
  rw [orI_eq hx hy, Int.toNat_natCast, Nat.testBit_or]
theorem pow_bit (k j : Nat) : ((2 : Int) ^ k).toNat.testBit j = decide (k = j) := by
  have e : ((2 : Int) ^ k) = ((2 ^ k : Nat) : Int) := by push_cast; rfl
  rw [e, Int.toNat_natCast, Nat.testBit_two_pow]
theorem notI_in {x : Int} (hx : In64 x) : In64 (notI x) := by unfold notI; have := hx.1; have := hx.2; exact ⟨by omega, by omega⟩
theorem notI_bit {x : Int} (hx : In64 x) (k : Nat) (hk : k < 64) : (notI x).toNat.testBit k = !x.toNat.testBit k := by
  have h0 := hx.1; have h1 := hx.2
  have e : (notI x).toNat = 2 ^ 64 - (x.toNat + 1) := by unfold notI; omega
  rw [e, Nat.testBit_two_pow_sub_succ (by omega)]
  simp [hk]
theorem word_ext {x y : Int} (hx : In64 x) (hy : In64 y) (h : ∀ k, k < 64 → x.toNat.testBit k = y.toNat.testBit k) : x = y := by
  have : x.toNat = y.toNat := by
    refine Nat.eq_of_testBit_eq fun k => ?_
    rcases Nat.lt_or_ge k 64 with hk | hk
    · exact h k hk
    · have h1 : x.toNat < 2 ^ k := Nat.lt_of_lt_of_le (by have := hx.2; omega) (Nat.pow_le_pow_right (n := 2) (by omega) hk)
      have h2 : y.toNat < 2 ^ k := Nat.lt_of_lt_of_le (by have := hy.2; omega) (Nat.pow_le_pow_right (n := 2) (by omega) hk)
      rw [Nat.testBit_lt_two_pow h1, Nat.testBit_lt_two_pow h2]
  have := hx.1; have := hy.1
  omega
/-- A set is what it has. -/
theorem W4.ext' {s t : W4} (hs : Wok s) (ht : Wok t) (h : ∀ c, c < 256 → s.has c = t.has c) : s = t := by
  obtain ⟨a, b, c, d⟩ := s
  obtain ⟨a', b', c', d'⟩ := t
  have e1 : a = a' := word_ext hs.a ht.a fun k hk => by
    have := h k (by omega)
    simpa [W4.has, W4.at, hk, Nat.mod_eq_of_lt hk] using this
  have e2 : b = b' := word_ext hs.b ht.b fun k hk => by
    have := h (64 + k) (by omega)
    simpa [W4.has, W4.at, show ¬ 64 + k < 64 by omega, show 64 + k < 128 by omega, show (64 + k) % 64 = k by omega, Nat.mod_eq_of_lt hk] using this
  have e3 : c = c' := word_ext hs.c ht.c fun k hk => by
    have := h (128 + k) (by omega)
    simpa [W4.has, W4.at, show ¬ 128 + k < 64 by omega, show ¬ 128 + k < 128 by omega, show 128 + k < 192 by omega, show (128 + k) % 64 = k by omega, Nat.mod_eq_of_lt hk] using this
  have e4 : d = d' := word_ext hs.d ht.d fun k hk => by
    have := h (192 + k) (by omega)
    simpa [W4.has, W4.at, show ¬ 192 + k < 64 by omega, show ¬ 192 + k < 128 by omega, show ¬ 192 + k < 192 by omega, show (192 + k) % 64 = k by omega, Nat.mod_eq_of_lt hk] using this
  subst e1; subst e2; subst e3; subst e4; rfl
theorem add_ok {s : W4} (h : Wok s) (c : Nat) (hc : c < 256) : Wok (s.add c) := by
  unfold W4.add
  split
  · exact ⟨orI_in h.a (pow_in (by omega)), h.b, h.c, h.d⟩
  split
  · exact ⟨h.a, orI_in h.b (pow_in (by omega)), h.c, h.d⟩
  split
  · exact ⟨h.a, h.b, orI_in h.c (pow_in (by omega)), h.d⟩
  · exact ⟨h.a, h.b, h.c, orI_in h.d (pow_in (by omega))⟩
theorem dec_iff {p q : Prop} [Decidable p] [Decidable q] (h : p ↔ q) : decide p = decide q := by simp [h]
theorem add_has {s : W4} (h : Wok s) (c x : Nat) (hc : c < 256) (hx : x < 256) : (s.add c).has x = (decide (x = c) || s.has x) := by
  unfold W4.add W4.has W4.at
  by_cases c1 : c < 64
  · rw [if_pos c1]
    by_cases x1 : x < 64
    · simp only [if_pos x1]
      rw [orI_bit h.a (pow_in (by omega)), pow_bit, Bool.or_comm, dec_iff (show c = x % 64 ↔ x = c by omega)]
    · simp only [if_neg x1]
      rw [show decide (x = c) = false by simp; omega, Bool.false_or]
  rw [if_neg c1]
  by_cases c2 : c < 128
  · rw [if_pos c2]
    by_cases x1 : x < 64
    · simp only [if_pos x1]
      rw [show decide (x = c) = false by simp; omega, Bool.false_or]
    by_cases x2 : x < 128
    · simp only [if_neg x1, if_pos x2]
      rw [orI_bit h.b (pow_in (by omega)), pow_bit, Bool.or_comm, dec_iff (show c - 64 = x % 64 ↔ x = c by omega)]
    · simp only [if_neg x1, if_neg x2]
      rw [show decide (x = c) = false by simp; omega, Bool.false_or]
  rw [if_neg c2]
  by_cases c3 : c < 192
  · rw [if_pos c3]
    by_cases x1 : x < 64
    · simp only [if_pos x1]
      rw [show decide (x = c) = false by simp; omega, Bool.false_or]
    by_cases x2 : x < 128
    · simp only [if_neg x1, if_pos x2]
      rw [show decide (x = c) = false by simp; omega, Bool.false_or]
    by_cases x3 : x < 192
    · simp only [if_neg x1, if_neg x2, if_pos x3]
      rw [orI_bit h.c (pow_in (by omega)), pow_bit, Bool.or_comm, dec_iff (show c - 128 = x % 64 ↔ x = c by omega)]
    · simp only [if_neg x1, if_neg x2, if_neg x3]
      rw [show decide (x = c) = false by simp; omega, Bool.false_or]
  · rw [if_neg c3]
    by_cases x1 : x < 64
    · simp only [if_pos x1]
      rw [show decide (x = c) = false by simp; omega, Bool.false_or]
    by_cases x2 : x < 128
    · simp only [if_neg x1, if_pos x2]
      rw [show decide (x = c) = false by simp; omega, Bool.false_or]
    by_cases x3 : x < 192
    · simp only [if_neg x1, if_neg x2, if_pos x3]
      rw [show decide (x = c) = false by simp; omega, Bool.false_or]
    · simp only [if_neg x1, if_neg x2, if_neg x3]
      rw [orI_bit h.d (pow_in (by omega)), pow_bit, Bool.or_comm, dec_iff (show c - 192 = x % 64 ↔ x = c by omega)]
theorem or_ok {s t : W4} (h : Wok s) (k : Wok t) : Wok (s.or t) := ⟨orI_in h.a k.a, orI_in h.b k.b, orI_in h.c k.c, orI_in h.d k.d⟩
theorem or_has {s t : W4} (h : Wok s) (k : Wok t) (x : Nat) : (s.or t).has x = (s.has x || t.has x) := by
  unfold W4.or W4.has W4.at
  by_cases x1 : x < 64
  · simp only [if_pos x1]; exact orI_bit h.a k.a _
  by_cases x2 : x < 128
  · simp only [if_neg x1, if_pos x2]; exact orI_bit h.b k.b _
  by_cases x3 : x < 192
  · simp only [if_neg x1, if_neg x2, if_pos x3]; exact orI_bit h.c k.c _
  · simp only [if_neg x1, if_neg x2, if_neg x3]; exact orI_bit h.d k.d _
theorem not_ok {s : W4} (h : Wok s) : Wok s.not := ⟨notI_in h.a, notI_in h.b, notI_in h.c, notI_in h.d⟩
theorem not_has {s : W4} (h : Wok s) (x : Nat) : s.not.has x = !s.has x := by
  unfold W4.not W4.has W4.at
  by_cases x1 : x < 64
  · simp only [if_pos x1]; exact notI_bit h.a _ (by omega)
  by_cases x2 : x < 128
  · simp only [if_neg x1, if_pos x2]; exact notI_bit h.b _ (by omega)
  by_cases x3 : x < 192
  · simp only [if_neg x1, if_neg x2, if_pos x3]; exact notI_bit h.c _ (by omega)
  · simp only [if_neg x1, if_neg x2, if_neg x3]; exact notI_bit h.d _ (by omega)
theorem adds_spec : ∀ (l : List Nat) {s : W4}, Wok s → (∀ c ∈ l, c < 256) → Wok (l.foldl W4.add s) ∧ ∀ x, x < 256 → (l.foldl W4.add s).has x = (s.has x || decide (x ∈ l))
  | [], s, h, _ => ⟨h, fun x _ => by simp⟩
  | c :: l, s, h, hl => by
    obtain ⟨h1, h2⟩ := adds_spec l (add_ok h c (hl c (List.mem_cons_self ..))) (fun x hx => hl x (List.mem_cons_of_mem _ hx))
    refine ⟨h1, fun x hx => ?_⟩
    rw [List.foldl_cons, h2 x hx, add_has h c x (hl c (List.mem_cons_self ..)) hx]
    simp only [List.mem_cons, Bool.decide_or]
    cases s.has x <;> simp
theorem span_spec {s : W4} (h : Wok s) (f n : Nat) (hn : f + n ≤ 256) : Wok (s.span f n) ∧ ∀ x, x < 256 → (s.span f n).has x = (s.has x || (decide (f ≤ x) && decide (x < f + n))) := by
  obtain ⟨h1, h2⟩ := adds_spec (List.range' f n) h (fun c hc => by simp at hc; omega)
  refine ⟨h1, fun x hx => ?_⟩
  rw [W4.span, h2 x hx, dec_iff (show x ∈ List.range' f n ↔ f ≤ x ∧ x < f + n by simp), Bool.decide_and]
def T.w4 (t : T) : W4 := ⟨t.s0, t.s1, t.s2, t.s3⟩
/-- What may stand in a node: its set's words are in range. -/
inductive Words : T → Prop where
  | mk (t : T) : Wok t.w4 → (∀ p ∈ t.ps, Words p) → Words t
theorem Words.w {t : T} (h : Words t) : Wok t.w4 := by cases h; assumption
theorem Words.p {t : T} (h : Words t) : ∀ p ∈ t.ps, Words p := by cases h; assumption
theorem in64_wf {n : Int} (h : (Lit.int .u64 n).wf = true) : In64 n := by
  simp [Lit.wf, IntKind.min, IntKind.max, IntKind.signed, IntKind.bits] at h
  exact ⟨h.1, by have := h.2; omega⟩
/-- The same bit, as the matcher asks for it. -/
theorem has_div {s : W4} (h : Wok s) (c : Nat) : s.has c = ((s.at c) / 2 ^ (c % 64) % 2 == 1) := by
  obtain ⟨h0, h1⟩ := h.at c
  unfold W4.has
  generalize s.at c = x at *
  obtain ⟨n, rfl⟩ : ∃ n : Nat, x = n := ⟨x.toNat, by omega⟩
  rw [Int.toNat_natCast, Nat.testBit_eq_decide_div_mod_eq]
  have e : ((n : Int) / 2 ^ (c % 64) % 2) = ((n / 2 ^ (c % 64) % 2 : Nat) : Int) := by push_cast; rfl
  rw [e, Bool.eq_iff_iff, decide_eq_true_eq, beq_iff_eq]
  omega
end Go.Proofs.Ytdpmbanfaigmcaa

/- Arguments opened: machines. -/
set_option linter.unusedVariables false
set_option linter.unusedSimpArgs false
namespace Go.Proofs.Ytdpmbanfaigmcaa
open Go.RowKit Go.ChangeShapes Go.WideShapes Go.Deep

theorem Try.cellsState : Try.prog.cellsOf 47 = 7 := by kernel_rfl
theorem Try.cellsSet : Try.prog.cellsOf 24 = 4 := by kernel_rfl
theorem Try.cellsInt : Try.prog.cellsOf 3 = 1 := by kernel_rfl
theorem Try.cellsU : Try.prog.cellsOf 22 = 1 := by kernel_rfl
theorem Try.cellsNfa : Try.prog.cellsOf 35 = 2 := by kernel_rfl
theorem Try.cellsSts : Try.prog.cellsOf 33 = 1 := by kernel_rfl
theorem Try.bytesState : Try.prog.bytesOf 47 = 56 := by kernel_rfl

theorem len2 {α : Type} {l : List α} (h : l.length = 2) : ∃ a b, l = [a, b] := by
  match l, h with
  | [a, b], _ => exact ⟨a, b, rfl⟩
theorem len4 {α : Type} {l : List α} (h : l.length = 4) : ∃ a b c d, l = [a, b, c, d] := by
  match l, h with
  | [a, b, c, d], _ => exact ⟨a, b, c, d, rfl⟩
theorem len7 {α : Type} {l : List α} (h : l.length = 7) : ∃ a b c d e f g, l = [a, b, c, d, e, f, g] := by
  match l, h with
  | [a, b, c, d, e, f, g], _ => exact ⟨a, b, c, d, e, f, g, rfl⟩
section
variable {H : Type} {enc : TypeId × Value → H} {P : Program} {tSt tSts tNfa tSet tI tU : TypeId} {w : World} {base : Nat} {spare : Nat → Bool} {held : Bool}
/-- What the program says of the types. -/
structure Types (P : Program) (tSt tSts tNfa tSet tI tU : TypeId) : Prop where
  set : P.underlying tSet = some (.array 4 tU)
  u : P.underlying tU = some (.int .u64)
  i : P.underlying tI = some (.int .i64)
  sts : P.underlying tSts = some (.slice tSt)
  st : ∃ f0 f1 f2 f3, P.underlying tSt = some (.struct #[f0, f1, f2, f3]) ∧ (f0.type = tI ∧ f0.offset = 0) ∧ (f1.type = tSet ∧ f1.offset = 1) ∧ (f2.type = tI ∧ f2.offset = 5) ∧ (f3.type = tI ∧ f3.offset = 6)
  nfa : ∃ f0 f1, P.underlying tNfa = some (.struct #[f0, f1]) ∧ (f0.type = tSts ∧ f0.offset = 0) ∧ (f1.type = tI ∧ f1.offset = 1)
  cSet : P.cellsOf tSet = 4
  cU : P.cellsOf tU = 1
  cI : P.cellsOf tI = 1
  cSts : P.cellsOf tSts = 1
  cSt : P.cellsOf tSt = 7
  cNfa : P.cellsOf tNfa = 2
  bSt : P.bytesOf tSt = 56
def WSt (s : St) : Prop := Wok ⟨s.s0, s.s1, s.s2, s.s3⟩
theorem open_set (K : Types P tSt tSts tNfa tSet tI tU) {fuel : Nat} {cs : List Value} {x : DataW H × List MemPlace} (h : DataW.trod enc P w base spare held fuel tSet cs = some x) :
    ∃ a b c d : Int, cs = [.int .u64 a, .int .u64 b, .int .u64 c, .int .u64 d] ∧ Wok ⟨a, b, c, d⟩ := by
  obtain ⟨xs, m, rfl, hx, hl, hxl, hi⟩ := DataW.trod_array K.set h
  rw [K.cSet] at hl
  rw [K.cU] at hi
  obtain ⟨c0, c1, c2, c3, rfl⟩ := len4 hl
  · clear h
    have g : ∀ (i : Nat) (v : Value), [c0, c1, c2, c3][i]? = some v → ∃ n, v = .int .u64 n ∧ In64 n := by
      intro i v hv
      have hi4 : i < 4 := (List.getElem?_eq_some_iff.1 hv).1
      have h1 := hi i hi4
      have hxi : xs[i]? = some (xs[i]'(by omega)) := List.getElem?_eq_getElem (by omega)
      rw [hxi] at h1
      obtain ⟨n, hn, _, hw⟩ := DataW.trod_int K.u h1
      refine ⟨n, ?_, in64_wf hw⟩
      have := congrArg (·[0]?) hn
      simpa [List.getElem?_take, List.getElem?_drop, hv] using this
    obtain ⟨a, rfl, ha⟩ := g 0 _ rfl
    obtain ⟨b, rfl, hb⟩ := g 1 _ rfl
    obtain ⟨c, rfl, hc⟩ := g 2 _ rfl
    obtain ⟨d, rfl, hd⟩ := g 3 _ rfl
    exact ⟨a, b, c, d, rfl, ha, hb, hc, hd⟩
theorem open_state (K : Types P tSt tSts tNfa tSet tI tU) {fuel : Nat} {cs : List Value} {x : DataW H × List MemPlace} (h : DataW.trod enc P w base spare held fuel tSt cs = some x) : ∃ s : St, cs = s.cells ∧ WSt s := by
  obtain ⟨f0, f1, f2, f3, hst, ⟨t0, o0⟩, ⟨t1, o1⟩, ⟨t2, o2⟩, t3, o3⟩ := K.st
  obtain ⟨xs, m, rfl, hx, hl, hxl, hi⟩ := DataW.trod_struct hst h
  rw [K.cSt] at hl
  have hxl4 : xs.length = 4 := hxl
  obtain ⟨c0, c1, c2, c3, c4, c5, c6, rfl⟩ := len7 hl
  · clear h
    have h0 := hi 0 f0 rfl
    have h1 := hi 1 f1 rfl
    have h2 := hi 2 f2 rfl
    have h3 := hi 3 f3 rfl
    rw [t0, o0, K.cI] at h0
    rw [t1, o1, K.cSet] at h1
    rw [t2, o2, K.cI] at h2
    rw [t3, o3, K.cI] at h3
    rw [List.getElem?_eq_getElem (by omega)] at h0 h1 h2 h3
    obtain ⟨k, hk, _⟩ := DataW.trod_int K.i h0
    obtain ⟨a, b, c, d, hs, hw⟩ := open_set K h1
    obtain ⟨nx, hn, _⟩ := DataW.trod_int K.i h2
    obtain ⟨ot, ho, _⟩ := DataW.trod_int K.i h3
    simp at hk hs hn ho
    obtain ⟨rfl, rfl, rfl, rfl⟩ := hs
    subst hk hn ho
    exact ⟨⟨k, a, b, c, d, nx, ot⟩, rfl, hw⟩
theorem open_nfaW (K : Types P tSt tSts tNfa tSet tI tU) {b0 : Nat} {v : Value} {d : DataW H} {p : List MemPlace} (hv : Value.okWide P w .any b0 tNfa v) (h : DataW.Trod enc P w base spare held tNfa v d p) (hz : ∀ n ∈ d.weights P tNfa, n ≤ reachBytes) :
    ∃ (l : List St) (sa : Int) (A : Option Addr) (c : Nat), v = nfaV l sa A c ∧ StsAt w (fun b => b < w.heap.size) l A c ∧ ∀ s ∈ l, WSt s := by
  obtain ⟨f0, f1, hst, ⟨t0, o0⟩, t1, o1⟩ := K.nfa
  obtain ⟨cs, rfl, hsz⟩ := okWide_struct hst hv
  rw [K.cNfa] at hsz
  obtain ⟨l⟩ := cs
  obtain ⟨c0, c1, rfl⟩ := len2 (l := l) hsz
  · clear hv
    obtain ⟨fuel, hf⟩ := h
    obtain ⟨xs, m, rfl, hx, hl, hxl, hi⟩ := DataW.trod_struct hst hf
    have hxl2 : xs.length = 2 := hxl
    have h0 := hi 0 f0 rfl
    have h1 := hi 1 f1 rfl
    rw [t0, o0, K.cSts] at h0
    rw [t1, o1, K.cI] at h1
    rw [List.getElem?_eq_getElem (by omega)] at h0 h1
    obtain ⟨sa, hs, _⟩ := DataW.trod_int K.i h1
    simp [Value.cells] at hs
    subst hs
    rcases open_slice K.sts h0 with ⟨hc, hx0⟩ | ⟨a, len, cap, mm, n, D, Pl, hc, hb, hlc, hcm, hmm, hx0, hel⟩
    · simp [Value.cells] at hc
      subst hc
      exact ⟨[], sa, none, 0, rfl, ⟨by simp, by simp, fun _ => rfl, fun h => by simp at h⟩, by simp⟩
    · simp [Value.cells] at hc
      subst hc
      have hlen : len ≤ 17592186044416 := by
        have := hz ((len + (mm - len)) * 56) (by
          have hd : d = .agg (xs.map (·.1)) := by have := congrArg Prod.fst hx; simpa using this
          rw [hd]
          obtain ⟨x0, x1, rfl⟩ := len2 hxl2
          · clear hf hi
            simp only [List.getElem_cons_zero] at hx0
            simp only [List.map_cons, List.map_nil, DataW.weights, hst, DataW.weightsEach, List.mem_append, t0, t1]
            left
            rw [hx0]
            simp [DataW.weights, K.sts, K.bSt])
        have h2 := reachBytes_lt
        omega
      have hlm : len ≤ mm := by rw [hmm]; split <;> omega
      rw [K.cSt] at hel
      have hst : ∀ i, i < len → ∃ s : St, (∀ j, j < 7 → w.cell? ((a.add (i * 7)).add j) = s.cells[j]?) ∧ WSt s := by
        intro i hi
        obtain ⟨cs', hcs, ht⟩ := hel i (by omega)
        obtain ⟨_, _, hat⟩ := World.cells?_some hcs
        obtain ⟨s, rfl, hw⟩ := open_state K ht
        exact ⟨s, hat, hw⟩
      let g : Nat → St := fun i => if h : i < len then Classical.choose (hst i h) else default
      have hg : ∀ i, i < len → ∀ j, j < 7 → w.cell? ((a.add (i * 7)).add j) = (g i).cells[j]? := fun i hi => by
        simp only [g, dif_pos hi]; exact (Classical.choose_spec (hst i hi)).1
      have hgw : ∀ i, i < len → WSt (g i) := fun i hi => by
        simp only [g, dif_pos hi]; exact (Classical.choose_spec (hst i hi)).2
      refine ⟨(List.range len).map g, sa, some a, cap, by simp [nfaV], ⟨by simpa using hlc, by simpa using hlen, fun e => by simp at e, fun hne => ?_⟩, fun s hs => by obtain ⟨i, hi, rfl⟩ := List.mem_map.1 hs; exact hgw i (List.mem_range.1 hi)⟩
      simp only [List.length_map, List.length_range] at hne
      obtain ⟨b, o, spot⟩ := a
      have hc0 := hg 0 hne 0 (by omega)
      have hspot : spot = none := by
        have := World.cell?_spot (v := .int .i64 (g 0).k) (by simpa [St.cells] using hc0)
        simpa [Addr.add] using this
      subst hspot
      refine ⟨b, o, rfl, ?_, fun i hi => .of fun j hj => ?_⟩
      · have : w.cell? ⟨b, o, none⟩ = some (.int .i64 (g 0).k) := by simpa [addr_add', St.cells] using hc0
        exact World.block_lt_of_cell? _ _ this
      · have := hg i (by simpa using hi) j hj
        simpa [addr_add'] using this
theorem open_nfa (K : Types P tSt tSts tNfa tSet tI tU) {b0 : Nat} {v : Value} {d : DataW H} {p : List MemPlace} (hv : Value.okWide P w .any b0 tNfa v) (h : DataW.Trod enc P w base spare held tNfa v d p) (hz : ∀ n ∈ d.weights P tNfa, n ≤ reachBytes) :
    ∃ (l : List St) (sa : Int) (A : Option Addr) (c : Nat), v = nfaV l sa A c ∧ StsAt w (fun b => b < w.heap.size) l A c := by
  obtain ⟨l, sa, A, c, h1, h2, _⟩ := open_nfaW K hv h hz
  exact ⟨l, sa, A, c, h1, h2⟩
end
theorem types_ok : Types Try.prog 47 33 35 24 3 22 :=
  ⟨Try.underlying24, Try.underlying22, Try.underlying3, Try.underlying33, ⟨_, _, _, _, Try.underlying47, ⟨rfl, rfl⟩, ⟨rfl, rfl⟩, ⟨rfl, rfl⟩, rfl, rfl⟩, ⟨_, _, Try.underlying35, ⟨rfl, rfl⟩, rfl, rfl⟩, Try.cellsSet, Try.cellsU, Try.cellsInt, Try.cellsSts, Try.cellsState, Try.cellsNfa, Try.bytesState⟩
end Go.Proofs.Ytdpmbanfaigmcaa

/- vouchref10.Has, vouchref12.Has: walked. -/
set_option linter.unusedVariables false
set_option linter.unusedSimpArgs false
namespace Go.Proofs.Ytdpmbanfaigmcaa
open Go.RowKit

set_option maxRecDepth 100000 in
set_option maxHeartbeats 1000000 in
theorem rbit_any (w : World) (sk s0 s1 s2 s3 nx ot : Int) (c : Nat) (hc : c < 256) (hw : Wok ⟨s0, s1, s2, s3⟩) :
    Calls Try.prog 52 #[.agg #[.int .u64 s0, .int .u64 s1, .int .u64 s2, .int .u64 s3], .int .u8 (c : Int)] w fun en w' => en = .returned (.bool (bitS ⟨sk, s0, s1, s2, s3, nx, ot⟩ c)) ∧ Below w.heap.size w w' := by
  obtain ⟨wi, wr', hi4, hr64, hqu, hre, hbw⟩ := bit_word c hc sk s0 s1 s2 s3 nx ot
  have h0 : 0 ≤ wordN ⟨sk, s0, s1, s2, s3, nx, ot⟩ wi := by
    rcases (by omega : wi = 0 ∨ wi = 1 ∨ wi = 2 ∨ wi = 3) with rfl | rfl | rfl | rfl
    · exact hw.a.1
    · exact hw.b.1
    · exact hw.c.1
    · exact hw.d.1
  have hmod : (wordN ⟨sk, s0, s1, s2, s3, nx, ot⟩ wi / 2 ^ wr').tmod 2 = wordN ⟨sk, s0, s1, s2, s3, nx, ot⟩ wi / 2 ^ wr' % 2 := Int.tmod_eq_emod_of_nonneg (Int.ediv_nonneg h0 (Int.pow_nonneg (by omega)))
  rw [hbw]
  clear hw h0 hbw
  go_enter Try.func52, Try.ntmps52
  go_upto_region 1 with fail
  generalize hW : w.alloc _ = W0
  have hB0 : Below w.heap.size w W0 := by subst hW; exact (Below.refl _ _).alloc (Nat.le_refl _) _
  have b0 : W0.cell? ⟨w.heap.size, wi, none⟩ = some (.int .u64 (wordN ⟨sk, s0, s1, s2, s3, nx, ot⟩ wi)) := by
    subst hW
    rcases (by omega : wi = 0 ∨ wi = 1 ∨ wi = 2 ∨ wi = 3) with rfl | rfl | rfl | rfl <;> simp [go_sem, wordN]
  clear hW
  generalize hwd : wordN ⟨sk, s0, s1, s2, s3, nx, ot⟩ wi = wd at *
  have Hwd := Lib.hid hwd
  clear hwd
  have Hmod := Lib.hid hmod
  clear hmod
  go_wp2_with fail
  exact bodyPost_ret (v := .bool ((wd / 2 ^ wr').tmod 2 == 1)) (by simp [results, Try.results52, go_sem]) rfl ⟨by rw [Hmod.out, Hwd.out], hB0⟩

theorem thr_new (w : World) (n : Nat) : Thr (w.alloc (.cells (madeCells #[.bool false] n) 4)) w.heap.size n (List.replicate n false) := by
  have hM : ∀ i, i < n → (madeCells #[.bool false] n)[i]? = some (.bool false) := fun i hi => by
    rw [← Array.getElem?_toList, toList_madeCells_one]
    simp [hi]
  generalize madeCells #[.bool false] n = M at *
  have k0 : (w.alloc (.cells M 4)).heap[w.heap.size]? = some (.cells M 4) := heap_alloc_new w _
  refine ⟨by simp, fun i hi => ?_, fun i => ?_, by simp⟩
  · unfold World.cell?; simp only [k0]
    rw [hM i hi]; simp [List.getD_eq_getElem?_getD, List.getElem?_replicate, hi]
  · unfold World.frozen?; simp only [k0]; simp
/-- The round's relation. -/
structure RR (w1 wr : World) (l : List St) (st : Int) (subj : Bs) (k a s T : Nat) (Y : List Bool) : Prop where
  ak : a + k = subj.length + 1
  sb : s ≤ a * 5000
  ov : overR l st subj (subj.length + 1 - a) a Y s = overR l st subj (subj.length + 1) 0 (List.replicate l.length false) 0
  thr : Thr wr T l.length Y
  Tb : w1.heap.size ≤ T
  z : a = 0 → ∀ i, Y.getD i false = false
  bel : Below w1.heap.size w1 wr
theorem cnt_succ (Y : List Bool) (i : Nat) (hi : i < Y.length) : ((Y.take (i + 1)).countP id : Nat) = (Y.take i).countP id + (if Y.getD i false = true then 1 else 0) := by
  rw [List.take_succ_eq_append_getElem hi, List.countP_append, List.getD_eq_getElem?_getD, List.getElem?_eq_getElem hi]
  simp only [List.countP_cons, List.countP_nil, Option.getD_some, id]
  omega
def dnR (l : List St) (Y : List Bool) (i : Nat) : Bool := (List.range i).any fun p => Y.getD p false && (stN l p).k == 5
theorem dnR_succ (l : List St) (Y : List Bool) (i : Nat) : dnR l Y (i + 1) = (dnR l Y i || (Y.getD i false && (stN l i).k == 5)) := by
  unfold dnR; rw [List.range_succ, List.any_append]; simp
set_option maxRecDepth 100000 in
set_option maxHeartbeats 8000000 in
theorem rhas_any (w : World) (ok : Nat → Prop) (l : List St) (sa : Int) (A : Option Addr) (c : Nat) (hA : StsAt w ok l A c) (hok : ∀ b, ok b → b < w.heap.size) (hws : ∀ s ∈ l, WSt s) (subj : Bs) :
    Calls Try.prog 33 #[nfaV l sa A c, .string (bs subj)] w fun en w' => en = .returned (.tuple #[.bool (hasF l sa subj).1, .int .i64 (hasF l sa subj).2.1, .int .i64 (hasF l sa subj).2.2]) ∧ Below w.heap.size w w' := by
  have HA := Lib.hid hA; have Hok := Lib.hid hok; have HW := Lib.hid hws; clear hA hok hws
  go_enter Try.func33, Try.ntmps33
  go_wp2_with fail
  generalize hW : w.alloc _ = W0
  have hB0 : Below w.heap.size w W0 := by subst hW; exact (Below.refl _ _).alloc (Nat.le_refl _) _
  have hz0 : w.heap.size < W0.heap.size := by subst hW; simp
  have P0 : At2 W0 w.heap.size (.slice A l.length c) sa := by subst hW; constructor <;> simp [go_sem]
  clear hW
  obtain ⟨p0, p1⟩ := id P0
  go_wp2_with fail
  clear p0 p1
  refine (rcheck_any W0 ok l sa A c (HA.out.later hB0 Hok.out) (fun b h => by have := Hok.out b h; omega)).mono ?_
  rintro en w1 ⟨rfl, hb1⟩
  have hz1 := hb1.size
  have hB1 := hB0.trans (hb1.mono (by omega))
  have P1 := P0.later hb1 hz0
  clear P0 hB0
  by_cases hck : mcheck l sa = 0
  case' neg =>
    have hres : hasF l sa subj = (false, 0, mcheck l sa) := if_pos hck
    have Hres := Lib.hid hres
    have hb : (mcheck l sa != 0) = true := by rw [bne_iff_ne]; exact hck
    clear hres hck
    go_wp2_with fail
    try rw [Exit.noGoto_ret]
    exact bodyPost_ret (v := .tuple #[.bool false, .int .i64 0, .int .i64 (mcheck l sa)]) (by simp [results, Try.results33, go_sem]) rfl ⟨by rw [Hres.out], hB1⟩
  have hb : (mcheck l sa != 0) = false := by rw [hck]; rfl
  by_cases hlong : 65536 < subj.length
  · have hres : hasF l sa subj = (false, 0, 3) := by rw [hasF, if_neg (by simpa using hck), if_pos hlong]
    have Hres := Lib.hid hres
    clear hres hck
    go_wp2_with fail
    try rw [Exit.noGoto_ret]
    exact bodyPost_ret (v := .tuple #[.bool false, .int .i64 0, .int .i64 3]) (by simp [results, Try.results33, go_sem]) rfl ⟨by rw [Hres.out], hB1⟩
  have hres : hasF l sa subj = ((overF l sa subj (subj.length + 1) 0 [] 0).1, (overF l sa subj (subj.length + 1) 0 [] 0).2, 0) := by rw [hasF, if_neg (by simpa using hck), if_neg hlong]
  have hm := mok_of hck
  rw [over_same hm subj (subj.length + 1) 0 [] (List.replicate l.length false) 0 (by simp) (same_nil l)] at hres
  have Hres := Lib.hid hres
  have HM := Lib.hid hm
  have hl1 := hm.len
  have hl0 : 0 < l.length := by have := hm.start; omega
  clear hres hck hm
  have hmk := run_make_row' (P := Try.prog) 73 4 (.bool false) 1 Try.underlying73 Try.infoBool rfl .i64 .i64 l.length (by omega) (by omega)
  obtain ⟨p0, p1⟩ := id P1
  have hz01 : w.heap.size < w1.heap.size := by omega
  have hb0 := hB1.size
  go_upto_region 8 with fail
  generalize hW : w1.alloc _ = W2
  have hT2 : Thr W2 w1.heap.size l.length (List.replicate l.length false) := by subst hW; exact thr_new w1 _
  have hb2 : Below w1.heap.size w1 W2 := by subst hW; exact (Below.refl _ _).alloc (Nat.le_refl _) _
  clear hW p0 p1
  have HT2 := Lib.hid hT2
  have HB2 := Lib.hid hb2
  clear hT2 hb2
  obtain ⟨st, rfl⟩ : ∃ st : Nat, sa = st := ⟨sa.toNat, by have := HM.out.s0; omega⟩
  have hst := HM.out.s1
  go_wp2_with fail
  go_loopg [8, 9, 10] (subj.length + 1) (fun k v8 v9 v10 wr => ∃ (a s T : Nat) (Y : List Bool), v8 = .int .i64 (s : Int) ∧ v9 = .slice (some ⟨T, 0, none⟩) l.length l.length ∧ v10 = .int .i64 (a : Int) ∧ RR w1 wr l st subj k a s T Y)
  case atStart => exact ⟨0, 0, w1.heap.size, List.replicate l.length false, rfl, rfl, rfl, ⟨by omega, by omega, rfl, HT2.out, Nat.le_refl _, fun _ i => by rw [List.getD_eq_getElem?_getD, List.getElem?_replicate]; split <;> rfl, HB2.out⟩⟩
  case round =>
    clear HT2 HB2
    obtain ⟨a, s, T, Y, rfl, rfl, rfl, hR⟩ := hrel
    have hsb := hR.sb
    have hak := hR.ak
    obtain ⟨p0, p1⟩ := P1.later hR.bel hz01
    have hzr := hR.bel.size
    have HR := Lib.hid hR
    clear hR
    by_cases hle : a ≤ subj.length
    case' neg =>
      have hov := HR.out.ov
      rw [show subj.length + 1 - a = 0 by omega, overR] at hov
      have Hov := Lib.hid hov
      clear hov
      go_wp2_with fail
      try rw [Exit.noGoto_ret]
      exact bodyPost_ret (v := .tuple #[.bool false, .int .i64 (s : Int), .int .i64 0]) (by simp [results, Try.results33, go_sem]) rfl ⟨by rw [Hres.out, ← Hov.out], hB1.trans (HR.out.bel.mono hb0)⟩
    go_upto_region 12 with fail
    generalize hW : wr.alloc _ = W3
    have hT3 : Thr W3 wr.heap.size l.length (List.replicate l.length false) := by subst hW; exact thr_new wr _
    have hb3 : Below wr.heap.size wr W3 := by subst hW; exact (Below.refl _ _).alloc (Nat.le_refl _) _
    have hz3 : W3.heap.size = wr.heap.size + 1 := by subst hW; simp
    clear hW
    have hB3 := HR.out.bel.trans (hb3.mono hzr)
    have hTT : T < wr.heap.size := HR.out.thr.lT
    have hY3 := HR.out.thr.later hb3
    have hz3' := hB3.size
    clear p0 p1
    obtain ⟨p0, p1⟩ := P1.later hB3 hz01
    have HT3 := Lib.hid hT3; have HY3 := Lib.hid hY3
    clear hT3 hY3
    have HB3 := Lib.hid hB3
    clear hB3 hb3
    generalize hT2 : wr.heap.size = T2 at *
    clear hT2
    have hst2 : st < l.length := by omega
    go_wp2_with fail
    have hS3 := HA.out.later (hB1.trans (HB3.out.mono hb0)) Hok.out
    have hok3 : ∀ k, ok k → k < W3.heap.size := fun k hk => by have := Hok.out k hk; omega
    have hTo : ¬ ok T2 := fun hk => by have := Hok.out T2 hk; omega
    refine (with_any W3 T2 l st HM.out ok A c ((a : Int) == 0) ((a : Int) == (subj.length : Int)) hS3 hok3 hTo _ HT3.out st hst2).mono ?_
    rintro en w4 ⟨rfl, hT4, hO4⟩
    have e1 : ((a : Int) == 0) = (a == 0) := by rw [Bool.eq_iff_iff]; simp
    have e2 : ((a : Int) == (subj.length : Int)) = (a == subj.length) := by rw [Bool.eq_iff_iff]; simp <;> omega
    have hstep : stepR l st subj a Y = (List.range l.length).foldl (eatR l (a == 0) (a == subj.length) (byteN subj a) Y) (withF l (a == 0) (a == subj.length) (List.replicate l.length false) st) := by rw [stepR, Int.toNat_natCast]
    rw [e1, e2] at hT4
    have E1 := Lib.hid e1; have E2 := Lib.hid e2; have Hstep := Lib.hid hstep; have HT4 := Lib.hid hT4; have HO4 := Lib.hid hO4
    have HS3 := Lib.hid hS3; have Hok3 := Lib.hid hok3; have HTo := Lib.hid hTo
    clear e1 e2 hstep hT4 hO4 HT3 p0 p1 hS3 hok3 hTo
    go_wp2_with fail
    go_loopg [12] l.length (fun k v12 wq => ∃ (i : Nat) (Y2 : List Bool), v12 = .int .i64 (i : Int) ∧ i + k = l.length ∧ ((List.range l.length).drop i).foldl (eatR l (a == 0) (a == subj.length) (byteN subj a) Y) Y2 = stepR l st subj a Y ∧ Thr wq T2 l.length Y2 ∧ Off T2 W3 wq)
    case atStart => exact ⟨0, _, rfl, by omega, by rw [Hstep.out]; rfl, HT4.out, HO4.out⟩
    case round =>
      clear HT4 HO4
      obtain ⟨i, Y2, rfl, hi, hfo, hT5, hO5⟩ := hrel
      have hzO := hO5.size
      have hYq : Thr wr T l.length Y := HY3.out.kept hzO (hO5.block T (by omega) (by simp; omega))
      have p0 : wr.cell? ⟨w.heap.size, 0, none⟩ = some (.slice A l.length c) := (hO5.cell (by omega) (by omega)).trans ((P1.later HB3.out hz01).f0)
      have p1 : wr.cell? ⟨w.heap.size, 1, none⟩ = some (.int .i64 st) := (hO5.cell (by omega) (by omega)).trans ((P1.later HB3.out hz01).f1)
      have Hfo := Lib.hid hfo; have HT5 := Lib.hid hT5; have HO5 := Lib.hid hO5
      clear hfo hT5 hO5
      by_cases hlt : i < l.length
      case' pos =>
        have tx := hYq.th i hlt
        have lT := hYq.lT
        have hdrop : (List.range l.length).drop i = i :: (List.range l.length).drop (i + 1) := by
          rw [List.drop_eq_getElem_cons (by simpa using hlt)]; simp
        have hfo := Hfo.out
        rw [hdrop, List.foldl_cons] at hfo
        have hSq : StsAt wr ok l A c := HS3.out.mono (fun k hk => ⟨hk, fun o => HO5.out.cell (Hok3.out k hk) (fun e => HTo.out (e ▸ hk))⟩)
        obtain ⟨gm, om, rfl, hgm, hst7⟩ := hSq.at_ hl0
        have hgl := Hok3.out gm hgm
        have hstx := hst7 i hlt
        have hsN : l[i] = stN l i := by unfold stN; rw [List.getD_eq_getElem?_getD, List.getElem?_eq_getElem hlt]; rfl
        have hws := HW.out l[i] (List.getElem_mem _)
        rw [hsN] at hstx hws
        have hcap := hSq.cap
        have hnx := fun hk => HM.out.next hlt hk
        have hnx2 : (stN l i).k = 1 → (stN l i).nx = ((stN l i).nx.toNat : Int) := fun hk => by rcases HM.out.kinds hlt with h | ⟨_, h, _⟩ | ⟨h, _⟩ <;> omega
        rw [show eatR l (a == 0) (a == subj.length) (byteN subj a) Y Y2 i = (if Y.getD i false = true ∧ takes (stN l i) (byteN subj a) = true then withF l (a == 0) (a == subj.length) Y2 (stN l i).nx.toNat else Y2) from rfl] at hfo
        have Hfo2 := Lib.hid hfo
        clear hfo Hfo hst7 hsN hdrop hYq hSq
        generalize stN l i = sx at *
        obtain ⟨sk, s0, s1, s2, s3, nx, ot⟩ := sx
        obtain ⟨f0, f1, f2, f3, f4, f5, f6⟩ := hstx
        simp only at f0 f1 f2 f3 f4 f5 f6 hnx hnx2
        have hgw : gm < wr.heap.size := by omega
        have Hnx := Lib.hid hnx; have Hnx2 := Lib.hid hnx2; have Hws := Lib.hid hws
        clear hnx hnx2 hws
        go_upto_region 17 with fail
        generalize hW : wr.alloc _ = W5
        have hb5 : Below wr.heap.size wr W5 := by subst hW; exact (Below.refl _ _).alloc (Nat.le_refl _) _
        have b0 : W5.cell? ⟨wr.heap.size, 0, none⟩ = some (.int .i64 sk) := by subst hW; simp [go_sem]
        have b1' : W5.cell? ⟨wr.heap.size, 1, none⟩ = some (.int .u64 s0) := by subst hW; simp [go_sem]
        have b2 : W5.cell? ⟨wr.heap.size, 2, none⟩ = some (.int .u64 s1) := by subst hW; simp [go_sem]
        have b3 : W5.cell? ⟨wr.heap.size, 3, none⟩ = some (.int .u64 s2) := by subst hW; simp [go_sem]
        have b4 : W5.cell? ⟨wr.heap.size, 4, none⟩ = some (.int .u64 s3) := by subst hW; simp [go_sem]
        have b5 : W5.cell? ⟨wr.heap.size, 5, none⟩ = some (.int .i64 nx) := by subst hW; simp [go_sem]
        have lb : wr.heap.size < W5.heap.size := by subst hW; simp
        have tx5 := (hb5.cell (p := ⟨T, i, none⟩) lT).trans tx
        have hT5 := HT5.out.later hb5
        have hO5 := HO5.out.trans (Off.of_below hb5)
        have p05 := (hb5.cell (p := ⟨w.heap.size, 0, none⟩) (by show w.heap.size < _; omega)).trans p0
        have p15 := (hb5.cell (p := ⟨w.heap.size, 1, none⟩) (by show w.heap.size < _; omega)).trans p1
        clear hW hb5 f0 f1 f2 f3 f4 f5 f6 p0 p1 tx HT5 HO5
        have HT5 := Lib.hid hT5; have HO5 := Lib.hid hO5
        clear hT5 hO5
        cases hth : Y.getD i false with
        | false =>
          rw [hth] at tx5
          have hfo : ((List.range l.length).drop (i + 1)).foldl (eatR l (a == 0) (a == subj.length) (byteN subj a) Y) Y2 = stepR l st subj a Y := by
            have := Hfo2.out
            rwa [if_neg (by rw [hth]; simp)] at this
          have Hfo := Lib.hid hfo
          clear hfo Hfo2 hth b0 b1' b2 b3 b4 b5 p05 p15
          go_quiet (fail)
          go_wp2_with fail
          go_roundg (gk - 1)
          case measure => omega
          case rel => exact ⟨i + 1, _, by go_num, by omega, Hfo.out, HT5.out.later (below_drewN _ _), HO5.out.trans (Off.of_below (below_drewN _ _))⟩
        | true =>
          rw [hth] at tx5
          have ha0 : a ≠ 0 := fun e => by have := HR.out.z e i; rw [hth] at this; cases this
          by_cases hk : sk = 1
          case' neg =>
            have ht : takes ⟨sk, s0, s1, s2, s3, nx, ot⟩ (byteN subj a) = false := by
              have : (sk == 1) = false := by simpa using hk
              unfold takes; rw [show (⟨sk, s0, s1, s2, s3, nx, ot⟩ : St).k = sk from rfl, this]; rfl
            have hfo : ((List.range l.length).drop (i + 1)).foldl (eatR l (a == 0) (a == subj.length) (byteN subj a) Y) Y2 = stepR l st subj a Y := by
              have := Hfo2.out
              rwa [if_neg (by rw [ht]; simp)] at this
            have Hfo := Lib.hid hfo
            have hkb : (sk == 1) = false := by simpa using hk
            clear hfo Hfo2 hth b1' b2 b3 b4 b5 p05 p15 hk ht
            go_quiet (fail)
            go_wp2_with fail
            go_roundg (gk - 1)
            case measure => omega
            case rel => exact ⟨i + 1, _, by go_num, by omega, Hfo.out, HT5.out.later (below_drewN _ _), HO5.out.trans (Off.of_below (below_drewN _ _))⟩
          case' pos =>
            subst hk
            have hidx : ∀ hh, ((bs subj)[a - 1]'hh).toNat = byteN subj a := idx_get subj a ha0 hle
            have ha5 : (1 : Int) ≤ (a : Int) := by omega
            have hcl : byteN subj a < 256 := by unfold byteN; exact UInt8.toNat_lt _
            have ha1 : 0 ≤ (a : Int) - 1 := by omega
            have ha2 : (a : Int) - 1 < (subj.length : Int) := by omega
            have ha3 : (bs subj).size = subj.length := by simp [bs, ByteArray.size]
            have hwr : IntKind.i64.wrap ((a : Int) - 1) = (a : Int) - 1 := IntWalk.i64_in _ (by omega)
            go_still_tail 16, (by kernel_rfl)
            change wpList _ _ _ _ _ W5.drew
            have hT6 := HT5.out.later (below_drewN W5 1)
            have hO6 := HO5.out.trans (Off.of_below (below_drewN W5 1))
            have b5d := ((below_drewN W5 1).cell (p := ⟨wr.heap.size, 5, none⟩) lb).trans b5
            have p05d := ((below_drewN W5 1).cell (p := ⟨w.heap.size, 0, none⟩) (by show w.heap.size < _; omega)).trans p05
            have p15d := ((below_drewN W5 1).cell (p := ⟨w.heap.size, 1, none⟩) (by show w.heap.size < _; omega)).trans p15
            have lb6 : wr.heap.size < (W5.drewN 1).heap.size := lb
            rw [show W5.drewN 1 = W5.drew from rfl] at hT6 hO6 b5d p05d p15d lb6
            clear b0 b1' b2 b3 b4 b5 p05 p15 tx5 lb
            generalize W5.drew = W6 at *
            have HT6 := Lib.hid hT6; have HO6 := Lib.hid hO6; have Hth := Lib.hid hth
            clear hT6 hO6 hth
            go_wp2_with fail
            refine (rbit_any W6 1 s0 s1 s2 s3 nx ot (byteN subj a) hcl Hws.out).mono ?_
            rintro en w7 ⟨rfl, hb7⟩
            have hT7 := HT6.out.later hb7
            have hO7 := HO6.out.trans (Off.of_below hb7)
            have b57 := (hb7.cell (p := ⟨wr.heap.size, 5, none⟩) lb6).trans b5d
            have p07 := (hb7.cell (p := ⟨w.heap.size, 0, none⟩) (by show w.heap.size < _; omega)).trans p05d
            have p17 := (hb7.cell (p := ⟨w.heap.size, 1, none⟩) (by show w.heap.size < _; omega)).trans p15d
            have hz7 := hb7.size
            have HT7 := Lib.hid hT7; have HO7 := Lib.hid hO7
            clear hT7 hO7 b5d p05d p15d HT6 HO6 hb7
            have hfo := Hfo2.out
            rw [show takes ⟨1, s0, s1, s2, s3, nx, ot⟩ (byteN subj a) = bitS ⟨1, s0, s1, s2, s3, nx, ot⟩ (byteN subj a) from rfl, Hth.out] at hfo
            cases hbt : bitS ⟨1, s0, s1, s2, s3, nx, ot⟩ (byteN subj a) with
            | false =>
              rw [hbt, if_neg (by simp)] at hfo
              have Hfo := Lib.hid hfo
              clear hfo Hfo2 hbt hidx ha5 ha1 ha2 hwr
              go_wp2_with fail
              go_roundg (gk - 1)
              case measure => omega
              case rel => exact ⟨i + 1, _, by go_num, by omega, Hfo.out, HT7.out, HO7.out⟩
            | true =>
              rw [hbt, if_pos (by simp)] at hfo
              have Hfo := Lib.hid hfo
              have hn1 := Hnx.out trivial
              obtain ⟨xn, rfl⟩ : ∃ xn : Nat, nx = xn := ⟨nx.toNat, Hnx2.out trivial⟩
              clear hfo Hfo2 hbt hidx ha5 ha1 ha2 hwr
              go_wp2_with fail
              have hS7 : StsAt w7 ok l (some ⟨gm, om, none⟩) c := HS3.out.mono (fun k hk => ⟨hk, fun o => HO7.out.cell (Hok3.out k hk) (fun e => HTo.out (e ▸ hk))⟩)
              have hzO7 := HO7.out.size
              refine (with_any w7 T2 l st HM.out ok (some ⟨gm, om, none⟩) c ((a : Int) == 0) ((a : Int) == (subj.length : Int)) hS7 (fun k hk => by have := Hok3.out k hk; omega) HTo.out _ HT7.out xn (by simpa using hn1)).mono ?_
              rintro en w8 ⟨rfl, hT8, hO8⟩
              rw [E1.out, E2.out] at hT8
              have HT8 := Lib.hid hT8; have HO8 := Lib.hid (HO7.out.trans hO8)
              clear hT8 hO8
              go_wp2_with fail
              go_roundg (gk - 1)
              case measure => omega
              case rel => exact ⟨i + 1, _, by go_num, by omega, by simpa only [Int.toNat_natCast] using Hfo.out, HT8.out, HO8.out⟩
      case' neg =>
        have hie : i = l.length := by omega
        have hY2 : Y2 = stepR l st subj a Y := by
          rw [← Hfo.out, List.drop_eq_nil_of_le (by simp; omega)]; rfl
        have hB5 : Below w1.heap.size w1 wr := HB3.out.trans (HO5.out.below (B := w1.heap.size) hzr hz3')
        have hov := HR.out.ov
        rw [show subj.length + 1 - a = (subj.length - a) + 1 by omega, overR, ← hY2] at hov
        have hYl := HT5.out.len
        have p0' : wr.cell? ⟨w.heap.size, 0, none⟩ = some (.slice A l.length c) := p0
        have hS5 : StsAt wr ok l A c := HS3.out.mono (fun k hk => ⟨hk, fun o => HO5.out.cell (Hok3.out k hk) (fun e => HTo.out (e ▸ hk))⟩)
        have hok5 : ∀ k, ok k → k < wr.heap.size := fun k hk => by have := Hok3.out k hk; omega
        have Hov := Lib.hid hov; have HB5 := Lib.hid hB5; have HY2 := Lib.hid hY2; have HS5 := Lib.hid hS5; have Hok5 := Lib.hid hok5
        clear hov hB5 hY2 hYq Hfo hS5 hok5 p0' E1 E2 Hstep HS3 Hok3 hmk HO5 HY3
        go_wp2_with fail
        generalize hwv : wr = wv at *
        go_loopg [8, 14, 15] l.length (fun k v8 v14 v15 wq => ∃ (j n : Nat), v8 = .int .i64 (n : Int) ∧ v14 = .bool (dnR l Y2 j) ∧ v15 = .int .i64 (j : Int) ∧ j + k = l.length ∧ n = s + (Y2.take j).countP id ∧ wq = wv)
        case atStart => exact ⟨0, s, rfl, rfl, rfl, by omega, by simp, rfl⟩
        case round =>
          obtain ⟨j, n, rfl, rfl, rfl, hj, hn, rfl⟩ := hrel
          have hnb : n ≤ s + 4096 := by
            have h1 : (Y2.take j).countP id ≤ (Y2.take j).length := List.countP_le_length
            have h2 : (Y2.take j).length ≤ j := List.length_take_le ..
            omega
          by_cases hlt : j < l.length
          case' pos =>
            have tx := HT5.out.th j hlt
            have lT := HT5.out.lT
            have hcs := cnt_succ Y2 j (by omega)
            have hds := dnR_succ l Y2 j
            cases hth : Y2.getD j false with
            | false =>
              rw [hth] at tx hcs hds
              have Hds := Lib.hid hds
              clear hds hth
              rw [if_neg (by simp)] at hcs
              have Hcs := Lib.hid hcs
              clear hcs
              go_wp2_with fail
              go_roundg (gk - 1)
              case measure => omega
              case rel => exact ⟨j + 1, n, rfl, by rw [Hds.out]; simp, by go_num, by omega, by rw [Hcs.out]; omega, rfl⟩
            | true =>
              rw [hth] at tx hcs hds
              rw [if_pos rfl] at hcs
              obtain ⟨gm, om, rfl, hgm, hst7⟩ := HS5.out.at_ hl0
              have hgl := Hok5.out gm hgm
              have hstx := (hst7 j hlt).f0
              have hsN : l[j] = stN l j := by unfold stN; rw [List.getD_eq_getElem?_getD, List.getElem?_eq_getElem hlt]; rfl
              rw [hsN] at hstx
              have hcap := HS5.out.cap
              have Hds := Lib.hid hds; have Hcs := Lib.hid hcs
              clear hst7 hsN hds hcs hth
              generalize hsk : (stN l j).k = sk at *
              have Hsk := Lib.hid hsk
              clear hsk
              cases hd : dnR l Y2 j with
              | true =>
                have Hd := Lib.hid hd
                clear hd
                go_wp2_with fail
                go_roundg (gk - 1)
                case measure => omega
                case rel => exact ⟨j + 1, n + 1, by go_num, by rw [Hds.out, Hd.out]; simp, by go_num, by omega, by rw [Hcs.out]; omega, rfl⟩
              | false =>
                have Hd := Lib.hid hd
                clear hd
                go_wp2_with fail
                go_roundg (gk - 1)
                case measure => omega
                case rel => exact ⟨j + 1, n + 1, by go_num, by rw [Hds.out, Hd.out]; simp, by go_num, by omega, by rw [Hcs.out]; omega, rfl⟩
          case' neg =>
            have hje : j = l.length := by omega
            have hnn : (s : Int) + cntR Y2 = (n : Int) := by
              rw [hn, hje, List.take_of_length_le (by omega)]; unfold cntR; push_cast; rfl
            have hdd : doneR l Y2 = dnR l Y2 j := by rw [hje]; rfl
            have hov := Hov.out
            rw [hdd, hnn] at hov
            cases hd : dnR l Y2 j with
            | true =>
              rw [hd, if_pos rfl] at hov
              have Hov := Lib.hid hov
              clear hov hd hdd hnn
              go_wp2_with fail
              try rw [Exit.noGoto_ret]
              exact bodyPost_ret (v := .tuple #[.bool true, .int .i64 (n : Int), .int .i64 0]) (by simp [results, Try.results33, go_sem]) rfl ⟨by rw [Hres.out, ← Hov.out], hB1.trans (HB5.out.mono hb0)⟩
            | false =>
              rw [hd, if_neg (by simp)] at hov
              have Hov := Lib.hid hov
              clear hov hd hdd hnn
              go_wp2_with fail
              go_roundg (subj.length - a)
              case measure => omega
              case rel => exact ⟨a + 1, n, T2, Y2, by go_num, rfl, by go_num, ⟨by omega, by omega, by rw [show subj.length + 1 - (a + 1) = subj.length - a by omega]; exact Hov.out, HT5.out, hzr, fun e => by omega, HB5.out⟩⟩
end Go.Proofs.Ytdpmbanfaigmcaa

/- The law MatchHas: walked. -/
set_option linter.unusedVariables false
set_option linter.unusedSimpArgs false
namespace Go.Proofs.Ytdpmbanfaigmcaa
open Go.RowKit

theorem mul_le' (a b : Nat) (ha : a ≤ 5000) (hb : b ≤ 2048) : 0 ≤ (a : Int) * (b : Int) ∧ (a : Int) * (b : Int) ≤ 10240000 := by
  have h1 : a * b ≤ 5000 * 2048 := Nat.mul_le_mul ha hb
  have e : (a : Int) * (b : Int) = ((a * b : Nat) : Int) := by push_cast; rfl
  rw [e]; omega
set_option maxRecDepth 100000 in
set_option maxHeartbeats 4000000 in
theorem mhas_any (w : World) (ok : Nat → Prop) (l : List St) (sa : Int) (A : Option Addr) (c : Nat) (ha : StsAt w ok l A c) (hok : ∀ b, ok b → b < w.heap.size) (hws : ∀ s ∈ l, WSt s) (subj : Bs) (hsl : subj.length ≤ maxLen) :
    Calls Try.prog 8 #[nfaV l sa A c, .string (bs subj)] w fun e w' => e = .returned (.bool true) ∧ Below w.heap.size w w' := by
  have hlen := ha.len
  have HW := Lib.hid hws
  clear hws
  unfold maxLen at hsl
  have hsz0 : (bs subj).size = subj.length := by simp [bs, ByteArray.size]
  by_cases hbig : 5000 < (l.length : Int)
  · go_enter Try.func8, Try.ntmps8
    go_wp2_with fail
    exact bodyPost_ret (v := .bool true) (by simp [results, Try.results8, go_sem]) rfl ⟨rfl, ((Below.refl _ _).alloc (Nat.le_refl _) _)⟩
  by_cases hbig2 : 1024 < (subj.length : Int)
  · go_enter Try.func8, Try.ntmps8
    go_wp2_with fail
    exact bodyPost_ret (v := .bool true) (by simp [results, Try.results8, go_sem]) rfl ⟨rfl, ((Below.refl _ _).alloc (Nat.le_refl _) _)⟩
  obtain ⟨hm0, hm1⟩ := mul_le' l.length subj.length (by omega) (by omega)
  by_cases hbig3 : 262144 < (l.length : Int) * (subj.length : Int)
  · go_enter Try.func8, Try.ntmps8
    go_wp2_with fail
    exact bodyPost_ret (v := .bool true) (by simp [results, Try.results8, go_sem]) rfl ⟨rfl, ((Below.refl _ _).alloc (Nat.le_refl _) _)⟩
  go_enter Try.func8, Try.ntmps8
  go_wp2_with fail
  generalize hW : w.alloc _ = W0
  have hB0 : Below w.heap.size w W0 := by subst hW; exact ((Below.refl _ _).alloc (Nat.le_refl _) _)
  have hsz : w.heap.size < W0.heap.size := by subst hW; simp
  have p0 : W0.cell? ⟨w.heap.size, 0, none⟩ = some (.slice A l.length c) := by subst hW; simp [go_sem]
  have p1 : W0.cell? ⟨w.heap.size, 1, none⟩ = some (.int .i64 sa) := by subst hW; simp [go_sem]
  clear hW
  refine (lentN_any W0 ok l sa A c (ha.later hB0 hok) (fun b h => by have := hok b h; omega) (by omega)).mono ?_
  rintro e w1 ⟨A', c', rfl, hx, hb1⟩
  have hz1 := hb1.size
  have hB1 : Below w.heap.size w w1 := hB0.trans (hb1.mono (by omega))
  rw [← hb1.cell (p := ⟨w.heap.size, _, none⟩) hsz] at p0 p1
  have ha1 := ha.later hB1 hok
  have hlt1 : w.heap.size < w1.heap.size := by omega
  go_wp2_with fail
  generalize hW : w1.alloc _ = W
  have hb2 : Below w1.heap.size w1 W := by subst hW; exact ((Below.refl _ _).alloc (Nat.le_refl _) _)
  have q0 : W.cell? ⟨w1.heap.size, 0, none⟩ = some (.slice A' l.length c') := by subst hW; simp [go_sem]
  have q1 : W.cell? ⟨w1.heap.size, 1, none⟩ = some (.int .i64 sa) := by subst hW; simp [go_sem]
  have hz2 : w1.heap.size < W.heap.size := by subst hW; simp
  clear hW
  rw [← hb2.cell (p := ⟨w.heap.size, _, none⟩) hlt1] at p0 p1
  have haW := ha1.later hb2 (fun b h => by have := hok b h; omega)
  have hxW := hx.later hb2 (fun b h => h.2)
  have hBW : Below w.heap.size w W := hB1.trans (hb2.mono (by omega))
  have okA : ∀ b, ok b → b < W.heap.size := fun b h => by have := hok b h; omega
  have okX : ∀ b, (W0.heap.size ≤ b ∧ b < w1.heap.size) → b < W.heap.size := fun b h => by omega
  have HA := Lib.hid haW; have HX := Lib.hid hxW; have OA := Lib.hid okA; have OX := Lib.hid okX; have HB := Lib.hid hBW
  have hsm := sameM_self l sa
  clear haW hxW okA okX hBW ha1 hx ha hok hb1 hb2 hB1 hB0 hsz hz1
  have hB := Below.refl W.heap.size W
  have arm1 : ∀ w', Below W.heap.size W w' → Calls Try.prog 32 #[nfaV l sa A' c', .string (bs subj)] w' fun en w'' => en = .returned (.tuple #[.bool (hasF l sa subj).1, .int .i64 (hasF l sa subj).2.1, .int .i64 (hasF l sa subj).2.2]) ∧ Below w'.heap.size w' w'' := fun w' h =>
    has_any w' _ l sa A' c' (HX.out.take.later h OX.out) (fun b hb => Nat.lt_of_lt_of_le (OX.out b hb) h.size) subj
  have arm2 : ∀ w', Below W.heap.size W w' → Calls Try.prog 33 #[nfaV l sa A c, .string (bs subj)] w' fun en w'' => en = .returned (.tuple #[.bool (hasF l sa subj).1, .int .i64 (hasF l sa subj).2.1, .int .i64 (hasF l sa subj).2.2]) ∧ Below w'.heap.size w' w'' := fun w' h =>
    rhas_any w' _ l sa A c (HA.out.later h OA.out) (fun b hb => Nat.lt_of_lt_of_le (OA.out b hb) h.size) HW.out subj
  have arm3 : ∀ w', Below W.heap.size W w' → Calls Try.prog 25 #[nfaV l sa A' c', nfaV l sa A c] w' fun e w'' => e = .returned (.bool (sameM l sa l sa)) ∧ Below w'.heap.size w' w'' := fun w' h =>
    keptN_any w' (fun b => b < W.heap.size) l l sa sa A' A c' c ((HX.out.mono fun b hb => ⟨OX.out b hb, fun _ => rfl⟩).later h (fun b hb => hb)) ((HA.out.mono fun b hb => ⟨OA.out b hb, fun _ => rfl⟩).later h (fun b hb => hb)) (fun b hb => Nat.lt_of_lt_of_le hb h.size) (by omega)
  have Arm1 := Lib.hid arm1; have Arm2 := Lib.hid arm2; have Arm3 := Lib.hid arm3; have Hsm := Lib.hid hsm
  clear arm1 arm2 arm3 hsm
  generalize hasF l sa subj = R at *
  obtain ⟨R1, R2, R3⟩ := R
  go_wp2_with fail
  refine (Arm1.out W hB).mono ?_
  rintro en w2 ⟨rfl, hb2⟩
  have hB2 := hB.trans hb2
  have hz2' := hb2.size
  rw [← hb2.cell (p := ⟨w.heap.size, _, none⟩) (by show w.heap.size < _; omega)] at p0 p1
  rw [← hb2.cell (p := ⟨w1.heap.size, _, none⟩) (by show w1.heap.size < _; omega)] at q0 q1
  clear hB hb2
  go_wp2_with fail
  refine (Arm1.out w2 hB2).mono ?_
  rintro en w3 ⟨rfl, hb3⟩
  have hB3 := hB2.trans (hb3.mono hz2')
  have hz3 := hb3.size
  rw [← hb3.cell (p := ⟨w.heap.size, _, none⟩) (by show w.heap.size < _; omega)] at p0 p1
  rw [← hb3.cell (p := ⟨w1.heap.size, _, none⟩) (by show w1.heap.size < _; omega)] at q0 q1
  clear hB2 hb3
  go_wp2_with fail
  refine (Arm2.out w3 hB3).mono ?_
  rintro en w4 ⟨rfl, hb4⟩
  have hB4 := hB3.trans (hb4.mono (by omega))
  have hz4 := hb4.size
  rw [← hb4.cell (p := ⟨w.heap.size, _, none⟩) (by show w.heap.size < _; omega)] at p0 p1
  rw [← hb4.cell (p := ⟨w1.heap.size, _, none⟩) (by show w1.heap.size < _; omega)] at q0 q1
  clear hB3 hb4
  go_wp2_with fail
  refine (Arm3.out w4 hB4).mono ?_
  rintro en w5 ⟨rfl, hb5⟩
  rw [Hsm.out]
  have hB5 := hB4.trans (hb5.mono (by omega))
  have hz5 := hb5.size
  go_wp2_with fail
  refine (works12_any w5).mono ?_
  rintro en w6 ⟨rfl, hb6⟩
  go_wp2_with fail
  exact bodyPost_ret (v := .bool true) (by simp [results, Try.results8, go_sem]) rfl ⟨rfl, HB.out.trans ((hB5.trans (hb6.mono (by omega))).mono HB.out.size)⟩
end Go.Proofs.Ytdpmbanfaigmcaa

/- MatchHas holds: whatever comes in, the call of the law returns true, and what came in reads as it read. -/
set_option linter.unusedVariables false
set_option linter.unusedSimpArgs false
namespace Go.Proofs.Ytdpmbanfaigmcaa
open Go.ChangeShapes Go.WideShapes Go.ChangeAt Go.RowKit
open Go.ChangeMaps (open_string shut_string)

theorem own : ownKnob Try.prog.godebug = none := by kernel_rfl
theorem laidOut : laidOutB Try.prog = true := by kernel_rfl
theorem str_bs (s : ByteArray) : ∃ r : Bs, s = bs r := ⟨s.data.toList, by simp [bs]⟩

set_option maxRecDepth 100000 in
theorem matchHas_lifted (os : Os) (started : os.Started) (H : Type) (enc : TypeId × Value → H) :
    ReturnsInHanded {} Try.checked os 8 .any (Rows.matchHasSpec.pre6 enc Try.prog Try.f8 Rows.matchHasRow.domain false) (Rows.matchHasSpec.post enc Try.prog Try.f8 false true false false) := by
  refine returnsInHanded_of_change_sized (C := Try.checked) own started (by kernel_rfl) Try.func8
    (ChangeSpec.witness6 (enc := enc) (C := Try.checked) false ⟨#[], #[.agg #[.slice none 0 0, .int .i64 0], .string ⟨#[]⟩], []⟩ 8 (by kernel_rfl) (by kernel_rfl) (by kernel_rfl) (by kernel_rfl)) ?_
  intro W base args ds gs before hval0 hW hcnd hwz _
  have hval : ∀ (j : Nat) t v, Try.f8.params[j]? = some t → args[j]? = some v → Value.okWide Try.prog W .any base t v := hval0
  have hW' := hW
  obtain ⟨p, q, hA0, hV, rfl, hfz, hnd⟩ := hW
  have hA : DataW.TrodAll enc Try.prog W 0 (fun _ => true) true Try.f8.params.toList args.toList ds p := hA0
  have hwz' : (DataW.weightsEach Try.prog (Try.f8.params.toList ++ Rows.matchHasSpec.plain.varTypes Try.prog) (ds ++ gs)).all (· ≤ reachBytes) = true := hwz
  rw [Try.params8] at hA hval hwz'
  obtain ⟨v0, vs0, d0, ds0, p0, q0, hargs, rfl, rfl, h0, r0⟩ := trodAll_cons hA
  obtain ⟨v1, vs1, d1, ds1, p1, q1, hargs1, rfl, rfl, h1, r1⟩ := trodAll_cons r0
  obtain ⟨rfl, rfl, rfl⟩ := trodAll_nil r1
  subst hargs1
  obtain rfl : args = #[v0, v1] := by cases args; simp_all
  obtain ⟨rfl, rfl⟩ := trodVars_none hV
  have k0 := h0
  have lt0 : ∀ x ∈ p0, x.block < W.heap.size := by obtain ⟨m, hm⟩ := k0; exact DataW.trod_lt m _ _ _ hm
  obtain ⟨l0, sa0, A0, c0, hv0, hst0, hws0⟩ := open_nfaW types_ok (hval 0 35 v0 rfl rfl) h0 (fun n hn => by
    have := List.all_eq_true.1 hwz' n (DataW.weights_mem_each (j := 0) (t := 35) (d := d0) rfl rfl n hn)
    simpa using this)
  have k1 := h1
  have lt1 : ∀ x ∈ p1, x.block < W.heap.size := by obtain ⟨m, hm⟩ := k1; exact DataW.trod_lt m _ _ _ hm
  obtain ⟨s1, hv1, _, _, hl1⟩ := open_string Try.underlying9 (hval 1 9 v1 rfl rfl) h1
  obtain ⟨b1, rfl⟩ := str_bs s1
  have hb1 : b1.length ≤ maxLen := by simpa [bs, ByteArray.size] using hl1
  clear hA0 hval0 hwz hwz'
  have hcall := mhas_any W (fun b => b < W.heap.size) l0 sa0 A0 c0 hst0 (fun b h => h) hws0 b1 hb1
  rw [← hv0, ← hv1] at hcall
  refine hcall.mono fun e W' ⟨he, bel⟩ => ?_
  subst he
  exact ⟨_, rfl, _, _, _, [], _, [], hW', trodAll_mk1 (shut_bool Try.underlying4 _), (trodAll_cons_mk (Below.trod laidOut (by kernel_rfl) (of_decide_eq_true (by kernel_rfl)) k0 bel lt0) (trodAll_cons_mk (Below.trod laidOut (by kernel_rfl) (of_decide_eq_true (by kernel_rfl)) k1 bel lt1) trodAll_mk0)), rfl, bel.frame _, fun h => by cases h⟩

theorem matchHas_over : Rows.matchHasRow.holds Try.pinned (OpenSpec.ofChange Rows.matchHasSpec) :=
  OpenClaim.holds_of_wide 8 Try.f8 rfl rfl rfl rfl rfl rfl rfl ⟨rfl, rfl, rfl, rfl, rfl⟩ rfl rfl rfl rfl rfl (by kernel_rfl) Try.func8 (by kernel_rfl)
    (of_decide_eq_true (by kernel_rfl)) (by unfold Func.isWrapper; first | (rw [if_pos (by decide +kernel)]; kernel_rfl) | (rw [if_neg (by decide +kernel)]; exact ⟨rfl, rfl⟩))
    (fun os started H enc _ => matchHas_lifted os started H enc)

/-- The statement. -/
theorem matchHas_holds : Rows.MatchHasSaid := matchHas_over
end Go.Proofs.Ytdpmbanfaigmcaa

