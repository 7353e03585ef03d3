/- Merged texts, part of the proof KnownM: MatL, MatH, Run, RunA, RunE, RunH, Right, Count, LayS, Lay, LentT, Many, Ref10, LentW, Kept, Spoil, Rep, RefRep, Idx, Back, Row, Choice, RefLay. -/
import Derived.Test.YthlakbjnmbddaaaGreatDoorUKnownMA
import Derived.BigRegion
import Derived.Deep.DeepCutAuto
import Derived.Lib.SliceRun
import Derived.BigFrame
import Derived.Laws.IdiomCopy
import Derived.Lib.SlBuf
import Derived.Deep.Upon
import Derived.Test.YthlakbjnmbddaaaGreatDoorRows
import Derived.WalkKit
import Derived.Deep.LoopGhost
import Derived.Lib.Hide
import Derived.StillTailTactics
import Derived.RangeFuncNested
import Derived.RangeFuncBound
import Derived.RangeFuncCalls
import Derived.RangeFuncLeaves
import Derived.Shelf.Abstract
import Derived.Shelf.RegionOpen
import Derived.OwnWalkIn
import Derived.TacticsInMore
import Derived.LoopNIn
import Derived.LoopIn
import Derived.BigFrameIn
set_option linter.unusedVariables false
set_option linter.unusedSimpArgs false
set_option maxRecDepth 100000
set_option maxHeartbeats 4000000
namespace Go.Proofs.YthlakbjnmbddaaaGreatDoor
open Lib (hid)
open Go.RowKit
def stN (l : List St) (i : Nat) : St := l.getD i default
def outs (b e : Bool) (s : St) : List Nat := if s.k = 2 then [s.nx.toNat, s.ot.toNat] else if (s.k = 3 ∧ b = true) ∨ (s.k = 4 ∧ e = true) then [s.nx.toNat] else []
def mT (l : List St) (b e : Bool) : Prop := ∀ i, i < l.length → ∀ y ∈ outs b e (stN l i), y < l.length
inductive Rch (l : List St) (b e : Bool) (i : Nat) : Nat → Prop where
 | refl : Rch l b e i i
 | step {j k : Nat} : Rch l b e i j → k ∈ outs b e (stN l j) → Rch l b e i k
theorem Rch.closed {l : List St} {b e : Bool} {i j : Nat} (h : Rch l b e i j) {S : Nat → Prop} (hi : S i) (hc : ∀ x, S x → ∀ y ∈ outs b e (stN l x), S y) : S j := by
 induction h with
 | refl => exact hi
 | step _ hk ih => exact hc _ ih _ hk
def iZ (X : List Nat) (i : Nat) : List Nat := if i ∈ X then X else X ++ [i]
def eo (l : List St) (b e : Bool) : Nat → Nat → List Nat → List Nat
 | 0, _, X => X
 | k + 1, fr, X => if fr < X.length then eo l b e k (fr + 1) ((outs b e (stN l (X.getD fr 0))).foldl iZ X) else X
def kB (l : List St) (b e : Bool) (X : List Nat) (i : Nat) : List Nat := eo l b e (l.length - X.length) X.length (iZ X i)
theorem sj (X : List Nat) (i : Nat) : i ∈ iZ X i := by unfold iZ; split <;> simp [*]
theorem sm (X : List Nat) (i : Nat) : ∃ Z, iZ X i = X ++ Z ∧ ∀ z ∈ Z, z = i := by
 unfold iZ; split
 · exact ⟨[], by simp⟩
 · exact ⟨[i], by simp⟩
theorem jA {X : List Nat} (h : X.Nodup) (i : Nat) : (iZ X i).Nodup := by
 unfold iZ; split
 · exact h
 · rename_i hi
   rw [List.nodup_append]
   exact ⟨h, by simp, fun a ha b hb => by simp at hb; subst hb; exact fun e => hi (e ▸ ha)⟩
theorem qe : ∀ (ys X : List Nat), X.Nodup → (ys.foldl iZ X).Nodup ∧ (∃ Z, ys.foldl iZ X = X ++ Z ∧ ∀ z ∈ Z, z ∈ ys) ∧ ∀ y ∈ ys, y ∈ ys.foldl iZ X
 | [], X, h => ⟨h, ⟨[], by simp, by simp⟩, by simp⟩
 | y :: ys, X, h => by
  obtain ⟨h1, ⟨Z, h2, h3⟩, h4⟩ := qe ys (iZ X y) (jA h y)
  obtain ⟨Z0, e0, hz0⟩ := sm X y
  refine ⟨h1, ⟨Z0 ++ Z, ?_, ?_⟩, ?_⟩
  · rw [List.foldl_cons, h2, e0, List.append_assoc]
  · intro z hz
    rcases List.mem_append.1 hz with hz | hz
    · rw [hz0 z hz]; exact List.mem_cons_self ..
    · exact List.mem_cons_of_mem _ (h3 z hz)
  · intro z hz
    rcases List.mem_cons.1 hz with rfl | hz
    · rw [List.foldl_cons, h2]; exact List.mem_append_left _ (sj X z)
    · exact h4 z hz
theorem ei {X : List Nat} {n : Nat} (h : X.Nodup) (hl : ∀ x ∈ X, x < n) : X.length ≤ n := by
 have := List.Nodup.length_le_of_subset h (l₂ := List.range n) (fun x hx => List.mem_range.2 (hl x hx))
 simpa using this
theorem tT {l : List St} {b e : Bool} (ho : mT l b e) : ∀ (k fr : Nat) (X : List Nat), X.Nodup → (∀ x ∈ X, x < l.length) → l.length ≤ fr + k → (∀ p x, p < fr → X[p]? = some x → ∀ y ∈ outs b e (stN l x), y ∈ X) →
 (eo l b e k fr X).Nodup ∧ (∀ x ∈ eo l b e k fr X, x < l.length) ∧ (∀ x ∈ eo l b e k fr X, ∀ y ∈ outs b e (stN l x), y ∈ eo l b e k fr X) ∧ (∃ Z, eo l b e k fr X = X ++ Z) ∧
 ∀ S : Nat → Prop, (∀ x ∈ X, S x) → (∀ x, S x → ∀ y ∈ outs b e (stN l x), S y) → ∀ x ∈ eo l b e k fr X, S x := by
 intro k
 induction k with
 | zero =>
  intro fr X hn hl hk hc
  rw [eo]
  have := ei hn hl
  refine ⟨hn, hl, fun x hx => ?_, ⟨[], by simp⟩, fun S h _ => h⟩
  obtain ⟨p, hp, rfl⟩ := List.getElem_of_mem hx
  exact hc p _ (by omega) (List.getElem?_eq_getElem hp)
 | succ k ih =>
  intro fr X hn hl hk hc
  rw [eo]
  split
  · rename_i hlt
    have hget : X.getD fr 0 = X[fr] := by simp [hlt]
    rw [hget]
    have hx : X[fr] < l.length := hl _ (List.getElem_mem _)
    obtain ⟨h1, ⟨Z, h2, h3⟩, h4⟩ := qe (outs b e (stN l X[fr])) X hn
    have hsub : ∀ z ∈ X, z ∈ (outs b e (stN l X[fr])).foldl iZ X := fun z hz => by rw [h2]; exact List.mem_append_left _ hz
    have hmem : ∀ z ∈ (outs b e (stN l X[fr])).foldl iZ X, z ∈ X ∨ z ∈ outs b e (stN l X[fr]) := fun z hz => by
     rw [h2] at hz
     rcases List.mem_append.1 hz with hz | hz
     · exact .inl hz
     · exact .inr (h3 z hz)
    obtain ⟨r1, r2, r3, ⟨Z', r4⟩, r5⟩ := ih (fr + 1) _ h1 (fun x hx' => (hmem x hx').elim (hl x) (ho _ hx x)) (by omega) (fun p x hp hpx y hy => by
     by_cases hpf : p < fr
     · have hp0 : X[p]? = some x := by
        rw [h2, List.getElem?_append_left (by omega)] at hpx; exact hpx
       exact hsub y (hc p x hpf hp0 y hy)
     · have : p = fr := by omega
       subst this
       rw [h2, List.getElem?_append_left (by omega), List.getElem?_eq_getElem hlt] at hpx
       cases hpx
       exact h4 y hy)
    exact ⟨r1, r2, r3, ⟨Z ++ Z', by rw [r4, h2, List.append_assoc]⟩, fun S hS hcl => r5 S (fun x hx' => (hmem x hx').elim (hS x) (hcl _ (hS _ (List.getElem_mem hlt)) x)) hcl⟩
  · rename_i hge
    refine ⟨hn, hl, fun x hx => ?_, ⟨[], by simp⟩, fun S h _ => h⟩
    obtain ⟨p, hp, rfl⟩ := List.getElem_of_mem hx
    exact hc p _ (by omega) (List.getElem?_eq_getElem hp)
structure Good (l : List St) (b e : Bool) (X : List Nat) : Prop where
 nodup : X.Nodup
 lt : ∀ x ∈ X, x < l.length
 closed : ∀ x ∈ X, ∀ y ∈ outs b e (stN l x), y ∈ X
theorem gG {l : List St} {b e : Bool} (ho : mT l b e) {X : List Nat} (hX : Good l b e X) {i : Nat} (hi : i < l.length) : Good l b e (kB l b e X i) ∧ ∀ j, j ∈ kB l b e X i ↔ j ∈ X ∨ Rch l b e i j := by
 have hle := ei hX.nodup hX.lt
 obtain ⟨Z, hz1, hz2⟩ := sm X i
 obtain ⟨h1, h2, h3, ⟨Z', h4⟩, h5⟩ := tT ho (l.length - X.length) X.length (iZ X i) (jA hX.nodup i) (fun x hx => by
  rw [hz1] at hx
  rcases List.mem_append.1 hx with hx | hx
  · exact hX.lt x hx
  · rw [hz2 x hx]; exact hi) (by omega) (fun p x hp hpx y hy => by
  rw [hz1, List.getElem?_append_left hp] at hpx
  rw [hz1]
  exact List.mem_append_left _ (hX.closed x (List.mem_of_getElem? hpx) y hy))
 refine ⟨⟨h1, h2, h3⟩, fun j => ⟨fun hj => ?_, fun hj => ?_⟩⟩
 · refine h5 (fun j => j ∈ X ∨ Rch l b e i j) (fun x hx => ?_) (fun x hx y hy => ?_) j hj
   · rw [hz1] at hx
     rcases List.mem_append.1 hx with hx | hx
     · exact .inl hx
     · rw [hz2 x hx]; exact .inr .refl
   · rcases hx with hx | hx
     · exact .inl (hX.closed x hx y hy)
     · exact .inr (.step hx hy)
 · unfold kB
   rcases hj with hj | hj
   · rw [h4, hz1]; simp [hj]
   · refine hj.closed (S := fun j => j ∈ eo l b e (l.length - X.length) X.length (iZ X i)) ?_ h3
     rw [h4]; exact List.mem_append_left _ (sj X i)
theorem my (l : List St) (b e : Bool) : Good l b e [] := ⟨List.nodup_nil, by simp, by simp⟩
def fT (l : List St) (b e : Bool) : Nat → List Bool → List Nat → List Bool
 | 0, X, _ => X
 | _ + 1, X, [] => X
 | k + 1, X, x :: t => if X.getD x false = true then fT l b e k X t else fT l b e k (X.set x true) ((outs b e (stN l x)).reverse ++ t)
def kp (l : List St) (b e : Bool) (X : List Bool) (i : Nat) : List Bool := fT l b e (3 * l.length + 2) X [i]
theorem vo (b e : Bool) (s : St) : (outs b e s).length ≤ 2 := by
 unfold outs
 split
 · simp
 · split <;> simp
def je (X : List Bool) : Nat := X.countP (fun x => !x)
theorem jM (X : List Bool) : je X ≤ X.length := List.countP_le_length
theorem ir : ∀ (X : List Bool) (x : Nat), x < X.length → X.getD x false = false → je (X.set x true) + 1 = je X
 | c :: X, 0, h, h0 => by
  have : c = false := by simpa using h0
  subst this
  simp [je]
 | c :: X, x + 1, h, h0 => by
  have := ir X x (by simpa using h) (by simpa using h0)
  simp only [je, List.set_cons_succ, List.countP_cons] at this ⊢
  omega
theorem vR (X : List Bool) (x : Nat) (hx : x < X.length) (j : Nat) : (X.set x true).getD j false = true ↔ j = x ∨ X.getD j false = true := by
 rw [List.getD_eq_getElem?_getD, List.getD_eq_getElem?_getD, List.getElem?_set]
 by_cases h : x = j
 · subst h; simp [hx]
 · rw [if_neg h]
   constructor
   · exact .inr
   · rintro (rfl | h')
     · exact absurd rfl h
     · exact h'
theorem sQ {l : List St} {b e : Bool} (ho : mT l b e) : ∀ (k : Nat) (X : List Bool) (st : List Nat), X.length = l.length → (∀ x ∈ st, x < l.length) → 3 * je X + st.length ≤ k → (∀ x, X.getD x false = true → ∀ y ∈ outs b e (stN l x), X.getD y false = true ∨ y ∈ st) →
 (fT l b e k X st).length = l.length ∧ (∀ x, X.getD x false = true → (fT l b e k X st).getD x false = true) ∧ (∀ x ∈ st, (fT l b e k X st).getD x false = true) ∧
 (∀ x, (fT l b e k X st).getD x false = true → ∀ y ∈ outs b e (stN l x), (fT l b e k X st).getD y false = true) ∧
 ∀ S : Nat → Prop, (∀ x, X.getD x false = true → S x) → (∀ x ∈ st, S x) → (∀ x, S x → ∀ y ∈ outs b e (stN l x), S y) → ∀ x, (fT l b e k X st).getD x false = true → S x := by
 intro k
 induction k with
 | zero =>
  intro X st hX hst hk hc
  have : st = [] := List.eq_nil_of_length_eq_zero (by omega)
  subst this
  rw [fT]
  exact ⟨hX, fun _ h => h, by simp, fun x h y hy => (hc x h y hy).elim id (by simp), fun S h _ _ => h⟩
 | succ k ih =>
  intro X st hX hst hk hc
  cases st with
  | nil =>
   rw [fT]
   exact ⟨hX, fun _ h => h, by simp, fun x h y hy => (hc x h y hy).elim id (by simp), fun S h _ _ => h⟩
  | cons x t =>
   rw [fT]
   have hxl := hst x (List.mem_cons_self ..)
   simp only [List.length_cons] at hk
   split
   · rename_i hx
     obtain ⟨r1, r2, r3, r4, r5⟩ := ih X t hX (fun y hy => hst y (List.mem_cons_of_mem _ hy)) (by omega) (fun z hz y hy => by
      rcases hc z hz y hy with h | h
      · exact .inl h
      · rcases List.mem_cons.1 h with rfl | h
        · exact .inl hx
        · exact .inr h)
     exact ⟨r1, r2, fun z hz => by
      rcases List.mem_cons.1 hz with rfl | hz
      · exact r2 _ hx
      · exact r3 z hz, r4, fun S h1 h2 h3 => r5 S h1 (fun z hz => h2 z (List.mem_cons_of_mem _ hz)) h3⟩
   · rename_i hx
     have hx0 : X.getD x false = false := by simpa using hx
     have hf := ir X x (by omega) hx0
     have hol := vo b e (stN l x)
     have hg := vR X x (by omega)
     obtain ⟨r1, r2, r3, r4, r5⟩ := ih (X.set x true) ((outs b e (stN l x)).reverse ++ t) (by simpa using hX) (fun y hy => by
      rcases List.mem_append.1 hy with h | h
      · exact ho x hxl y (List.mem_reverse.1 h)
      · exact hst y (List.mem_cons_of_mem _ h)) (by simp only [List.length_append, List.length_reverse]; omega) (fun z hz y hy => by
      rcases (hg z).1 hz with rfl | hz
      · exact .inr (List.mem_append_left _ (List.mem_reverse.2 hy))
      · rcases hc z hz y hy with h | h
        · exact .inl ((hg y).2 (.inr h))
        · rcases List.mem_cons.1 h with rfl | h
          · exact .inl ((hg y).2 (.inl rfl))
          · exact .inr (List.mem_append_right _ h))
     refine ⟨r1, fun z hz => r2 z ((hg z).2 (.inr hz)), fun z hz => ?_, r4, fun S h1 h2 h3 => r5 S (fun z hz => ?_) (fun z hz => ?_) h3⟩
     · rcases List.mem_cons.1 hz with rfl | hz
       · exact r2 z ((hg z).2 (.inl rfl))
       · exact r3 z (List.mem_append_right _ hz)
     · rcases (hg z).1 hz with rfl | hz
       · exact h2 z (List.mem_cons_self ..)
       · exact h1 z hz
     · rcases List.mem_append.1 hz with h | h
       · exact h3 x (h2 x (List.mem_cons_self ..)) z (List.mem_reverse.1 h)
       · exact h2 z (List.mem_cons_of_mem _ h)
structure SameSet (l : List St) (X : List Nat) (Y : List Bool) : Prop where
 len : Y.length = l.length
 mem : ∀ j, j ∈ X ↔ Y.getD j false = true
theorem qu {l : List St} {b e : Bool} (ho : mT l b e) {X : List Nat} {Y : List Bool} (hX : Good l b e X) (hs : SameSet l X Y) {i : Nat} (hi : i < l.length) : Good l b e (kB l b e X i) ∧ SameSet l (kB l b e X i) (kp l b e Y i) := by
 obtain ⟨hG, hm⟩ := gG ho hX hi
 have hfl := jM Y
 have hlen := hs.len
 obtain ⟨r1, r2, r3, r4, r5⟩ := sQ ho (3 * l.length + 2) Y [i] hs.len (by simpa using hi) (by simp; omega) (fun x hx y hy => .inl ((hs.mem y).1 (hX.closed x ((hs.mem x).2 hx) y hy)))
 refine ⟨hG, r1, fun j => ?_⟩
 rw [hm j]
 constructor
 · rintro (h | h)
   · exact r2 j ((hs.mem j).1 h)
   · exact h.closed (S := fun j => (kp l b e Y i).getD j false = true) (r3 i (by simp)) r4
 · intro h
   refine r5 (fun j => j ∈ X ∨ Rch l b e i j) (fun x hx => .inl ((hs.mem x).2 hx)) (fun x hx => ?_) (fun x hx y hy => ?_) j h
   · simp at hx; subst hx; exact .inr .refl
   · rcases hx with hx | hx
     · exact .inl (hX.closed x hx y hy)
     · exact .inr (.step hx hy)
def iJ (s : St) (i : Nat) : Int := if i = 0 then s.s0 else if i = 1 then s.s1 else if i = 2 then s.s2 else s.s3
def qw (s : St) (c : Nat) : Bool := iJ s (c / 64) / 2 ^ (c % 64) % 2 == 1
def dZ (s : St) (c : Nat) : Bool := s.k == 1 && qw s c
def bM (subj : List UInt8) (at_ : Nat) : Nat := (subj.getD (at_ - 1) 0).toNat
def kz (l : List St) (b e : Bool) (c : Nat) (X : List Nat) (i : Nat) : List Nat := if dZ (stN l i) c = true then kB l b e X (stN l i).nx.toNat else X
def cA (l : List St) (sa : Int) (subj : List UInt8) (at_ : Nat) (now : List Nat) : List Nat :=
 now.foldl (kz l (at_ == 0) (at_ == subj.length) (bM subj at_)) (kB l (at_ == 0) (at_ == subj.length) [] sa.toNat)
def gj (l : List St) (X : List Nat) : Bool := X.any fun i => (stN l i).k == 5
def bF (l : List St) (sa : Int) (subj : List UInt8) : Nat → Nat → List Nat → Int → Bool × Int
 | 0, _, _, s => (false, s)
 | k + 1, at_, now, s => if gj l (cA l sa subj at_ now) = true then (true, s + (cA l sa subj at_ now).length) else bF l sa subj k (at_ + 1) (cA l sa subj at_ now) (s + (cA l sa subj at_ now).length)
def dK (l : List St) (sa : Int) (subj : List UInt8) : Bool × Int × Int :=
 if bB l sa ≠ 0 then (false, 0, bB l sa) else if 65536 < subj.length then (false, 0, 3) else ((bF l sa subj (subj.length + 1) 0 [] 0).1, (bF l sa subj (subj.length + 1) 0 [] 0).2, 0)
def uK (l : List St) (b e : Bool) (c : Nat) (there : List Bool) (Y : List Bool) (i : Nat) : List Bool := if there.getD i false = true ∧ dZ (stN l i) c = true then kp l b e Y (stN l i).nx.toNat else Y
def iK (l : List St) (sa : Int) (subj : List UInt8) (at_ : Nat) (there : List Bool) : List Bool :=
 (List.range l.length).foldl (uK l (at_ == 0) (at_ == subj.length) (bM subj at_) there) (kp l (at_ == 0) (at_ == subj.length) (List.replicate l.length false) sa.toNat)
def xU (Y : List Bool) : Int := (Y.countP id : Nat)
def uQ (l : List St) (Y : List Bool) : Bool := (List.range l.length).any fun i => Y.getD i false && (stN l i).k == 5
def og (l : List St) (sa : Int) (subj : List UInt8) : Nat → Nat → List Bool → Int → Bool × Int
 | 0, _, _, s => (false, s)
 | k + 1, at_, now, s => if uQ l (iK l sa subj at_ now) = true then (true, s + xU (iK l sa subj at_ now)) else og l sa subj k (at_ + 1) (iK l sa subj at_ now) (s + xU (iK l sa subj at_ now))
structure MOk (l : List St) (sa : Int) : Prop where
 len : l.length ≤ 4096
 s0 : 0 ≤ sa
 s1 : sa < l.length
 ok : ∀ i, i < l.length → fA l.length (stN l i) = true
theorem lW {n i : Int} : inR n i = true ↔ 0 ≤ i ∧ i < n := by simp [inR]
theorem pr {l : List St} {sa : Int} (h : bB l sa = 0) : MOk l sa := by
 unfold bB at h
 split at h
 · rename_i h1
   split at h
   · rename_i h2
     have h3 := lW.1 h1.2
     exact ⟨by omega, h3.1, h3.2, fun i hi => by
      have := List.all_eq_true.1 h2 (stN l i) (by unfold stN; simp [hi])
      exact this⟩
   · omega
 · omega
theorem MOk.start {l : List St} {sa : Int} (h : MOk l sa) : sa.toNat < l.length := by have := h.s0; have := h.s1; omega
theorem MOk.kinds {l : List St} {sa : Int} (h : MOk l sa) {i : Nat} (hi : i < l.length) : (stN l i).k = 5 ∨ ((stN l i).k = 1 ∨ (stN l i).k = 3 ∨ (stN l i).k = 4) ∧ 0 ≤ (stN l i).nx ∧ (stN l i).nx < l.length ∨ (stN l i).k = 2 ∧ (0 ≤ (stN l i).nx ∧ (stN l i).nx < l.length) ∧ 0 ≤ (stN l i).ot ∧ (stN l i).ot < l.length := by
 have h1 := h.ok i hi
 unfold fA at h1
 split at h1
 · exact .inl (by assumption)
 · split at h1
   · exact .inr (.inl ⟨by assumption, lW.1 h1⟩)
   · split at h1
     · rw [Bool.and_eq_true] at h1
       exact .inr (.inr ⟨by assumption, lW.1 h1.1, lW.1 h1.2⟩)
     · cases h1
theorem MOk.outs {l : List St} {sa : Int} (h : MOk l sa) (b e : Bool) : mT l b e := by
 intro i hi y hy
 unfold Go.Proofs.YthlakbjnmbddaaaGreatDoor.outs at hy
 rcases h.kinds hi with hk | ⟨hk, h1, h2⟩ | ⟨hk, ⟨h1, h2⟩, h3, h4⟩
 · rw [if_neg (by omega), if_neg (by omega)] at hy; cases hy
 · rw [if_neg (by omega)] at hy
   split at hy
   · simp at hy; omega
   · cases hy
 · rw [if_pos hk] at hy
   simp at hy; omega
theorem kG {s : St} {c : Nat} (h : dZ s c = true) : s.k = 1 := by simp [dZ] at h; exact h.1
theorem MOk.next {l : List St} {sa : Int} (h : MOk l sa) {i : Nat} (hi : i < l.length) (hk : (stN l i).k = 1) : (stN l i).nx.toNat < l.length := by
 rcases h.kinds hi with h1 | ⟨_, h1, h2⟩ | ⟨h1, _⟩ <;> omega
theorem eK {l : List St} {sa : Int} (hm : MOk l sa) (b e : Bool) (c : Nat) : ∀ (xs X : List Nat), (∀ x ∈ xs, x < l.length) → Good l b e X →
 Good l b e (xs.foldl (kz l b e c) X) ∧ ∀ j, j ∈ xs.foldl (kz l b e c) X ↔ j ∈ X ∨ ∃ i ∈ xs, dZ (stN l i) c = true ∧ Rch l b e (stN l i).nx.toNat j
 | [], X, _, hX => ⟨hX, fun j => by simp⟩
 | x :: xs, X, hxs, hX => by
  have hx := hxs x (List.mem_cons_self ..)
  by_cases ht : dZ (stN l x) c = true
  · obtain ⟨h1, h2⟩ := gG (hm.outs b e) hX (hm.next hx (kG ht))
    obtain ⟨r1, r2⟩ := eK hm b e c xs _ (fun y hy => hxs y (List.mem_cons_of_mem _ hy)) h1
    have e1 : kz l b e c X x = kB l b e X (stN l x).nx.toNat := if_pos ht
    rw [List.foldl_cons, e1]
    refine ⟨r1, fun j => ?_⟩
    rw [r2 j, h2 j]
    simp only [List.mem_cons, exists_eq_or_imp, ht, true_and, or_assoc]
  · obtain ⟨r1, r2⟩ := eK hm b e c xs X (fun y hy => hxs y (List.mem_cons_of_mem _ hy)) hX
    have e1 : kz l b e c X x = X := if_neg ht
    rw [List.foldl_cons, e1]
    refine ⟨r1, fun j => ?_⟩
    rw [r2 j]
    simp only [List.mem_cons, exists_eq_or_imp, ht, false_and, false_or, Bool.false_eq_true]
theorem iq {l : List St} {sa : Int} (hm : MOk l sa) (b e : Bool) (c : Nat) (there : List Bool) : ∀ (xs X : List Nat) (Y : List Bool), (∀ x ∈ xs, x < l.length) → Good l b e X → SameSet l X Y →
 ∃ X', SameSet l X' (xs.foldl (uK l b e c there) Y) ∧ Good l b e X' ∧ ∀ j, j ∈ X' ↔ j ∈ X ∨ ∃ i ∈ xs, there.getD i false = true ∧ dZ (stN l i) c = true ∧ Rch l b e (stN l i).nx.toNat j
 | [], X, Y, _, hX, hs => ⟨X, hs, hX, fun j => by simp⟩
 | x :: xs, X, Y, hxs, hX, hs => by
  have hx := hxs x (List.mem_cons_self ..)
  by_cases ht : there.getD x false = true ∧ dZ (stN l x) c = true
  · have hn := hm.next hx (kG ht.2)
    obtain ⟨h1, h2⟩ := gG (hm.outs b e) hX hn
    obtain ⟨h3, h4⟩ := qu (hm.outs b e) hX hs hn
    obtain ⟨X', r0, r1, r2⟩ := iq hm b e c there xs _ _ (fun y hy => hxs y (List.mem_cons_of_mem _ hy)) h1 h4
    have e1 : uK l b e c there Y x = kp l b e Y (stN l x).nx.toNat := if_pos ht
    rw [List.foldl_cons, e1]
    refine ⟨X', r0, r1, fun j => ?_⟩
    rw [r2 j, h2 j]
    simp only [List.mem_cons, exists_eq_or_imp, ht.1, ht.2, true_and, or_assoc]
  · obtain ⟨X', r0, r1, r2⟩ := iq hm b e c there xs X Y (fun y hy => hxs y (List.mem_cons_of_mem _ hy)) hX hs
    have e1 : uK l b e c there Y x = Y := if_neg ht
    rw [List.foldl_cons, e1]
    refine ⟨X', r0, r1, fun j => ?_⟩
    rw [r2 j]
    simp only [List.mem_cons, exists_eq_or_imp]
    constructor
    · rintro (h | h)
      · exact .inl h
      · exact .inr (.inr h)
    · rintro (h | ⟨h1, h2, _⟩ | h)
      · exact .inl h
      · exact absurd ⟨h1, h2⟩ ht
      · exact .inr h
theorem pE (l : List St) : SameSet l [] (List.replicate l.length false) := ⟨by simp, fun j => by
 simp only [List.not_mem_nil, false_iff, List.getD_eq_getElem?_getD, List.getElem?_replicate]
 split <;> simp⟩
theorem sZ {l : List St} {sa : Int} (hm : MOk l sa) (subj : List UInt8) (at_ : Nat) {now : List Nat} {there : List Bool} (hl : ∀ x ∈ now, x < l.length) (hs : SameSet l now there) :
 Good l (at_ == 0) (at_ == subj.length) (cA l sa subj at_ now) ∧ SameSet l (cA l sa subj at_ now) (iK l sa subj at_ there) := by
 obtain ⟨g1, g2⟩ := qu (hm.outs (at_ == 0) (at_ == subj.length)) (my l _ _) (pE l) hm.start
 obtain ⟨h1, h2⟩ := eK hm _ _ (bM subj at_) now _ hl g1
 obtain ⟨X', r0, r1, r2⟩ := iq hm _ _ (bM subj at_) there (List.range l.length) _ _ (fun x hx => List.mem_range.1 hx) g1 g2
 refine ⟨h1, r0.len, fun j => ?_⟩
 unfold cA iK
 rw [h2 j, ← r0.mem j, r2 j]
 constructor
 · rintro (h | ⟨i, hi, h3, h4⟩)
   · exact .inl h
   · exact .inr ⟨i, List.mem_range.2 (hl i hi), (hs.mem i).1 hi, h3, h4⟩
 · rintro (h | ⟨i, hi, h3, h4, h5⟩)
   · exact .inl h
   · exact .inr ⟨i, (hs.mem i).2 h3, h4, h5⟩
theorem qM {l : List St} {X : List Nat} {Y : List Bool} (hn : X.Nodup) (hl : ∀ x ∈ X, x < l.length) (hs : SameSet l X Y) : (X.length : Int) = xU Y := by
 have hp : X.Perm ((List.range l.length).filter fun j => Y.getD j false) := (List.perm_ext_iff_of_nodup hn (List.nodup_range.filter _)).2 fun j => by
  rw [List.mem_filter, List.mem_range, hs.mem j]
  constructor
  · intro h
    exact ⟨hl j ((hs.mem j).2 h), h⟩
  · exact fun h => h.2
 have hy : Y = (List.range l.length).map fun j => Y.getD j false := by
  refine List.ext_getElem (by simp [hs.len]) fun i h1 h2 => ?_
  simp [h1]
 have : Y.countP id = (List.range l.length).countP (fun j => Y.getD j false) := by
  conv => lhs; rw [hy]
  rw [List.countP_map]
  rfl
 unfold xU
 rw [this, hp.length_eq, List.countP_eq_length_filter]
theorem tl {l : List St} {X : List Nat} {Y : List Bool} (hl : ∀ x ∈ X, x < l.length) (hs : SameSet l X Y) : gj l X = uQ l Y := by
 rw [Bool.eq_iff_iff]
 unfold gj uQ
 simp only [List.any_eq_true, List.mem_range, Bool.and_eq_true]
 constructor
 · rintro ⟨i, hi, h⟩
   exact ⟨i, hl i hi, (hs.mem i).1 hi, h⟩
 · rintro ⟨i, _, h1, h2⟩
   exact ⟨i, (hs.mem i).2 h1, h2⟩
theorem nv {l : List St} {sa : Int} (hm : MOk l sa) (subj : List UInt8) : ∀ (k at_ : Nat) (now : List Nat) (there : List Bool) (s : Int), (∀ x ∈ now, x < l.length) → SameSet l now there → bF l sa subj k at_ now s = og l sa subj k at_ there s
 | 0, _, _, _, _, _, _ => rfl
 | k + 1, at_, now, there, s, hl, hs => by
  obtain ⟨h1, h2⟩ := sZ hm subj at_ hl hs
  rw [bF, og, tl h1.lt h2, qM h1.nodup h1.lt h2, nv hm subj k (at_ + 1) _ _ _ h1.lt h2]
theorem uU {l : List St} {sa : Int} (hm : MOk l sa) (subj : List UInt8) (at_ : Nat) {now : List Nat} (hl : ∀ x ∈ now, x < l.length) :
 (∀ x ∈ cA l sa subj at_ now, x < l.length) ∧ 1 ≤ (cA l sa subj at_ now).length ∧ (cA l sa subj at_ now).length ≤ l.length := by
 obtain ⟨g1, g2⟩ := gG (hm.outs (at_ == 0) (at_ == subj.length)) (my l _ _) hm.start
 obtain ⟨h1, h2⟩ := eK hm _ _ (bM subj at_) now _ hl g1
 refine ⟨h1.lt, ?_, ei h1.nodup h1.lt⟩
 have : sa.toNat ∈ cA l sa subj at_ now := (h2 _).2 (.inl ((g2 _).2 (.inr .refl)))
 exact List.length_pos_of_mem this
theorem ou {l : List St} {sa : Int} (subj : List UInt8) : ∀ (k at_ : Nat) (now : List Nat) (s : Int), s ≤ (bF l sa subj k at_ now s).2
 | 0, _, _, s => by rw [bF]; exact Int.le_refl _
 | k + 1, at_, now, s => by
  rw [bF]
  split
  · simp only; omega
  · have := ou (l := l) (sa := sa) subj k (at_ + 1) (cA l sa subj at_ now) (s + (cA l sa subj at_ now).length)
    omega
theorem sp {l : List St} {sa : Int} (hm : MOk l sa) (subj : List UInt8) : ∀ (k at_ : Nat) (now : List Nat) (s : Int), (∀ x ∈ now, x < l.length) → (bF l sa subj k at_ now s).2 ≤ s + k * l.length ∧ (0 < k → s + 1 ≤ (bF l sa subj k at_ now s).2)
 | 0, _, _, s, _ => by rw [bF]; simp
 | k + 1, at_, now, s, hl => by
  obtain ⟨h1, h2, h3⟩ := uU hm subj at_ hl
  have e1 : (((k + 1 : Nat) : Int)) * (l.length : Int) = k * l.length + l.length := by rw [Int.natCast_add, Int.add_mul]; simp
  have e2 : 0 ≤ (k : Int) * (l.length : Int) := Int.mul_nonneg (by omega) (by omega)
  rw [bF, e1]
  split
  · simp only; omega
  · have := sp hm subj k (at_ + 1) _ (s + (cA l sa subj at_ now).length) h1
    have := ou (l := l) (sa := sa) subj k (at_ + 1) (cA l sa subj at_ now) (s + (cA l sa subj at_ now).length)
    omega
theorem vp {l : List St} (h : ∀ i, i < l.length → (stN l i).k ≠ 4) (b e : Bool) (i : Nat) : outs b e (stN l i) = outs b false (stN l i) := by
 have hk : (stN l i).k ≠ 4 := by
  by_cases hi : i < l.length
  · exact h i hi
  · have : stN l i = default := by unfold stN; simp [List.getD_eq_getElem?_getD, List.getElem?_eq_none (Nat.le_of_not_lt hi)]
    rw [this]; decide
 unfold outs
 simp [hk]
theorem pW {l : List St} (h : ∀ i, i < l.length → (stN l i).k ≠ 4) (b e : Bool) : ∀ (k fr : Nat) (X : List Nat), eo l b e k fr X = eo l b false k fr X
 | 0, _, _ => rfl
 | k + 1, fr, X => by rw [eo, eo, vp h b e, pW h b e k]
theorem iY {l : List St} (h : ∀ i, i < l.length → (stN l i).k ≠ 4) (b e : Bool) (X : List Nat) (i : Nat) : kB l b e X i = kB l b false X i := pW h b e _ _ _
theorem vS {l : List St} (h : ∀ i, i < l.length → (stN l i).k ≠ 4) (b e e' : Bool) (c : Nat) (xs X : List Nat) : xs.foldl (kz l b e c) X = xs.foldl (kz l b e' c) X := by
 have : kz l b e c = kz l b e' c := by
  funext X i
  unfold kz
  rw [iY h b e, iY h b e']
 rw [this]
theorem uV {l : List St} {sa : Int} (h : ∀ i, i < l.length → (stN l i).k ≠ 4) (subj more : List UInt8) (at_ : Nat) (now : List Nat) (hat : at_ ≤ subj.length) (h0 : at_ = 0 → now = []) : cA l sa (subj ++ more) at_ now = cA l sa subj at_ now := by
 unfold cA
 rw [iY h _ (at_ == (subj ++ more).length), iY h _ (at_ == subj.length)]
 rcases Nat.eq_zero_or_pos at_ with rfl | hp
 · rw [h0 rfl]; rfl
 · have : bM (subj ++ more) at_ = bM subj at_ := by
    unfold bM
    rw [List.getD_eq_getElem?_getD, List.getD_eq_getElem?_getD, List.getElem?_append_left (by omega)]
   rw [this]
   exact vS h _ _ _ _ _ _
theorem nw {l : List St} {sa : Int} (h : ∀ i, i < l.length → (stN l i).k ≠ 4) (subj more : List UInt8) : ∀ (k at_ : Nat) (now : List Nat) (s : Int), at_ + k = subj.length + 1 → (at_ = 0 → now = []) →
 (bF l sa subj k at_ now s).2 ≤ (bF l sa (subj ++ more) (k + more.length) at_ now s).2 ∧ ((bF l sa subj k at_ now s).1 = true → (bF l sa (subj ++ more) (k + more.length) at_ now s).1 = true ∧ (bF l sa (subj ++ more) (k + more.length) at_ now s).2 = (bF l sa subj k at_ now s).2)
 | 0, at_, now, s, _, _ => by
  rw [bF]
  exact ⟨ou _ _ _ _ _, fun h => by cases h⟩
 | k + 1, at_, now, s, hk, h0 => by
  rw [show k + 1 + more.length = k + more.length + 1 by omega, bF, bF, uV h subj more at_ now (by omega) h0]
  split
  · exact ⟨Int.le_refl _, fun _ => ⟨rfl, rfl⟩⟩
  · exact nw h subj more k (at_ + 1) _ _ (by omega) (by omega)
theorem Tryz.infoInt : (Tryz.prog.info? 3).map (fun i => (i.zero, i.size, i.bytes)) = some (some (.int .i64 0), 1, 8) := by kernel_rfl
def fB (X : List Nat) : List Value := X.map fun i : Nat => Value.int .i64 (i : Int)
theorem nB (X : List Nat) (i : Nat) : fB (X ++ [i]) = fB X ++ [.int .i64 (i : Int)] := by simp [fB]
structure Nxt (w : World) (B q T N : Nat) (X : List Nat) (n : Nat) (A : Option Addr) (c : Nat) : Prop where
 len : X.length = n
 f4 : w.cell? ⟨q, 4, none⟩ = some (.slice A n c)
 f5 : w.cell? ⟨q, 5, none⟩ = some (.slice (some ⟨T, 0, none⟩) N N)
 z4 : w.frozen? ⟨q, 4, none⟩ = false
 row : w.ownsRow B 3 1 (.slice A n c) n (fB X)
 th : ∀ i, i < N → w.cell? ⟨T, i, none⟩ = some (.bool (decide (i ∈ X)))
 tz : ∀ i, w.frozen? ⟨T, i, none⟩ = false
 lq : q < w.heap.size
 lT : T < w.heap.size
 qT : q ≠ T
 rq : (Value.slice A n c).ownBlock ≠ some q
 rT : (Value.slice A n c).ownBlock ≠ some T
 lt : ∀ x ∈ X, x < N
 nd : X.Nodup
 hB : B ≤ w.heap.size
structure Mv (q T : Nat) (o o' : Option Nat) (w w' : World) : Prop where
 os : w'.os = w.os
 tape : w'.tape = w.tape
 output : w'.output = w.output
 size : w.heap.size ≤ w'.heap.size
 block : ∀ k, k < w.heap.size → k ≠ q → k ≠ T → some k ≠ o → w'.heap[k]? = w.heap[k]?
 cell : ∀ i, i ≠ 4 → w'.cell? ⟨q, i, none⟩ = w.cell? ⟨q, i, none⟩
 froz : ∀ i, w'.frozen? ⟨q, i, none⟩ = w.frozen? ⟨q, i, none⟩
 own : o' = o ∨ ∃ g, o' = some g ∧ w.heap.size ≤ g
theorem Mv.refl (q T : Nat) (o : Option Nat) (w : World) : Mv q T o o w w := ⟨rfl, rfl, rfl, Nat.le_refl _, fun _ _ _ _ _ => rfl, fun _ _ => rfl, fun _ => rfl, .inl rfl⟩
theorem Mv.trans {q T : Nat} {o o1 o2 : Option Nat} {w w1 w2 : World} (h : Mv q T o o1 w w1) (k : Mv q T o1 o2 w1 w2) : Mv q T o o2 w w2 := by
 refine ⟨k.os.trans h.os, k.tape.trans h.tape, k.output.trans h.output, Nat.le_trans h.size k.size, fun b hb h1 h2 h3 => (k.block b (Nat.lt_of_lt_of_le hb h.size) h1 h2 ?_).trans (h.block b hb h1 h2 h3), fun i hi => (k.cell i hi).trans (h.cell i hi), fun i => (k.froz i).trans (h.froz i), ?_⟩
 · rcases h.own with e | ⟨g, e, hg⟩
   · rw [e]; exact h3
   · rw [e]; intro e'; simp only [Option.some.injEq] at e'; omega
 · rcases k.own with e | ⟨g, e, hg⟩
   · rw [e]; exact h.own
   · exact .inr ⟨g, e, Nat.le_trans h.size hg⟩
theorem jj (w : World) (B q T N : Nat) (X : List Nat) (n : Nat) (A : Option Addr) (c : Nat) (h : Nxt w B q T N X n A c) (hN : N ≤ 5000) (i : Nat) (hi : i < N) :
 Calls Tryz.prog 61 #[.pointer (some ⟨q, 0, none⟩), .int .i64 (i : Int)] w fun en w' => en = .returned (.tuple #[]) ∧ ∃ n' A' c', Nxt w' B q T N (iZ X i) n' A' c' ∧ Mv q T (Value.slice A n c).ownBlock (Value.slice A' n' c').ownBlock w w' := by
 have f4 := h.f4; have f5 := h.f5
 have tc := h.th i hi
 have tz := h.tz i
 have lT := h.lT; have lq := h.lq; have qT := h.qT
 have hn : n ≤ N := by rw [← h.len]; exact ei h.nd h.lt
 by_cases hx : i ∈ X
 · have hp : iZ X i = X := if_pos hx
   rw [hp]
   rw [decide_eq_true hx] at tc
   have H := hid h; clear h hp hx
   go_enter Tryz.func61, Tryz.ntmps61
   go_wp2_with fail
   go_end0
   exact ⟨rfl, n, A, c, H.out, Mv.refl _ _ _ _⟩
 · have hp : iZ X i = X ++ [i] := if_neg hx
   rw [hp]
   rw [decide_eq_false hx] at tc
   have z4 := h.z4
   have H := hid h; have Hx := hid hx; clear h hp hx
   go_enter Tryz.func61, Tryz.ntmps61
   go_upto_region 2 with fail
   generalize hW : w.setCell _ _ = W1
   have W1b : ∀ k, k ≠ T → W1.heap[k]? = w.heap[k]? := fun k hk => by subst hW; exact Below.heap_setCell _ _ _ _ hk
   have W1z : W1.heap.size = w.heap.size := by subst hW; simp
   have W1t : ∀ j, j < N → W1.cell? ⟨T, j, none⟩ = some (.bool (decide (j ∈ X ++ [i]))) := fun j hj => by
    subst hW
    by_cases e : i = j
    · subst e
      rw [World.cell?_setCell_same _ _ _ (H.out.th i hi)]
      simp
    · rw [World.cell?_setCell_other _ _ _ _ (by simp [e]), H.out.th j hj]
      simp [Ne.symm e]
   have W1f : ∀ a, W1.frozen? a = w.frozen? a := fun a => by subst hW; rw [World.frozen?_setCell]
   have W1e : W1.os = w.os ∧ W1.tape = w.tape ∧ W1.output = w.output := by subst hW; exact ⟨rfl, rfl, rfl⟩
   have g4 : W1.cell? ⟨q, 4, none⟩ = some (.slice A n c) := (World.cell?_of_block (w := w) (a := ⟨q, 4, none⟩) (W1b q qT)).trans f4
   have g5 : W1.frozen? ⟨q, 4, none⟩ = false := (W1f _).trans z4
   have lq1 : q < W1.heap.size := by omega
   have hrow : W1.ownsRow B 3 1 (.slice A n c) n (fB X) := H.out.row.kept (w' := W1) (row := some T) ⟨W1e.1, W1e.2.1, W1e.2.2, by omega, fun k hk hne => W1b k (by simpa using hne)⟩ (.inr H.out.rT)
   have Hrow := hid hrow; have HW1b := hid W1b; have HW1t := hid W1t; have HW1f := hid W1f; have HW1e := hid W1e; have HW1z := hid W1z
   have hnews : ∀ ad, some (⟨W1.heap.size, 0, none⟩ : Addr) = some ad → ∀ j u, (fB [i])[j]? = some u → (W1.alloc (.cells (fB [i]).toArray 3)).cell? (ad.add j) = some u := fun ad e j u hu => by
    simp only [Option.some.injEq] at e
    subst e
    rw [ct, World.cell?_alloc_new, Nat.zero_add]
    simpa using hu
   have Hnews := hid hnews
   have hBz : B ≤ W1.heap.size := by have := H.out.hB; omega
   clear hW hrow W1b W1t W1f W1e W1z hnews tc tz f4 f5 z4
   go_wp2_with (at_builtin; refine au B rfl _ _ 45 3 _ 1 8 rfl Tryz.underlying45 Tryz.infoInt rfl (by omega) (by omega) (.slice A n c) n 1 (fB X) (fB [i]) (some ⟨W1.heap.size, 0, none⟩) 1 rfl rfl (by simp) rfl Hnews.out (by simp [fB, Value.oneCell']) (Hrow.out.alloc _) (by simp; omega) (by omega) (fun A5 c5 w5 ho5 hg5 hat5 => ?_); have hqb : w5.heap[q]? = W1.heap[q]? := (hg5.block q (by simp; omega) (fun e => H.out.rq e.symm)).trans (((Below.refl W1.heap.size W1).alloc (Nat.le_refl _) _).block q lq1); have k4 : w5.cell? ⟨q, 4, none⟩ = some (.slice A n c) := (World.cell?_of_block (w := W1) (a := ⟨q, 4, none⟩) hqb).trans g4; have e4 : w5.frozen? ⟨q, 4, none⟩ = false := (World.frozen?_of_block (w := W1) (a := ⟨q, 4, none⟩) hqb).trans g5; have Hqb := hid hqb; have Ho5 := hid ho5; have Hg5 := hid hg5; have Hat5 := hid hat5; clear hqb ho5 hg5 hat5)
   go_end0
   have hz1 := HW1z.out
   have hz5 : W1.heap.size + 1 ≤ w5.heap.size := by have := Hg5.out.size; simpa using this
   have hblk : ∀ k, k < w.heap.size → k ≠ T → some k ≠ (Value.slice A n c).ownBlock → w5.heap[k]? = w.heap[k]? := fun k hk h1 h2 => ((Hg5.out.block k (by simp; omega) h2).trans (((Below.refl W1.heap.size W1).alloc (Nat.le_refl _) _).block k (by omega))).trans (HW1b.out k h1)
   have hqw : w5.heap[q]? = w.heap[q]? := Hqb.out.trans (HW1b.out q qT)
   have hTw : w5.heap[T]? = W1.heap[T]? := (Hg5.out.block T (by simp; omega) (fun e => H.out.rT e.symm)).trans (((Below.refl W1.heap.size W1).alloc (Nat.le_refl _) _).block T (by omega))
   have hown : (Value.slice A5 (n + 1) c5).ownBlock = (Value.slice A n c).ownBlock ∨ (Value.slice A5 (n + 1) c5).ownBlock = some (W1.heap.size + 1) := Hat5.out.imp (fun e => e) (fun e => by rw [e]; simp)
   have hneq : (Value.slice A5 (n + 1) c5).ownBlock ≠ some q := by
    rcases hown with e | e
    · rw [e]; exact H.out.rq
    · rw [e]; simp; omega
   have hneT : (Value.slice A5 (n + 1) c5).ownBlock ≠ some T := by
    rcases hown with e | e
    · rw [e]; exact H.out.rT
    · rw [e]; simp; omega
   have hset : ∀ k, k ≠ q → (w5.setCell ⟨q, 4, none⟩ (.slice A5 (n + 1) c5)).heap[k]? = w5.heap[k]? := fun k hk => Below.heap_setCell _ _ _ _ hk
   refine ⟨rfl, n + 1, A5, c5, ⟨by simp [H.out.len], World.cell?_setCell_same _ _ _ k4, ?_, ?_, ?_, fun j hj => ?_, fun j => ?_, by simp; omega, by simp; omega, qT, hneq, hneT, fun x hx' => ?_, ?_, by have := H.out.hB; simp; omega⟩, ⟨?_, ?_, ?_, by simp; omega, fun k hk h1 h2 h3 => (hset k h1).trans (hblk k hk h2 h3), fun j hj => ?_, fun j => ?_, ?_⟩⟩
   · exact (World.cell?_setCell_other _ _ _ _ (by simp)).trans ((World.cell?_of_block (w := w) (a := ⟨q, 5, none⟩) hqw).trans H.out.f5)
   · rw [World.frozen?_setCell]; exact e4
   · rw [nB]
     exact Ho5.out.kept (row := some q) ⟨rfl, rfl, rfl, by simp, fun k hk hne => hset k (by simpa using hne)⟩ (.inr hneq)
   · exact (World.cell?_of_block (w := W1) (a := ⟨T, j, none⟩) ((hset T (fun e => qT e.symm)).trans hTw)).trans (HW1t.out j hj)
   · rw [World.frozen?_setCell]
     exact ((World.frozen?_of_block (w := W1) (a := ⟨T, j, none⟩) hTw).trans (HW1f.out _)).trans (H.out.tz j)
   · rcases List.mem_append.1 hx' with h' | h'
     · exact H.out.lt x h'
     · simp at h'; omega
   · have := jA H.out.nd i
     rwa [iZ, if_neg Hx.out] at this
   · exact (Hg5.out.os).trans HW1e.out.1
   · exact (Hg5.out.tape).trans HW1e.out.2.1
   · exact (Hg5.out.output).trans HW1e.out.2.2
   · exact (World.cell?_setCell_other _ _ _ _ (by simp <;> omega)).trans (World.cell?_of_block (w := w) (a := ⟨q, j, none⟩) hqw)
   · rw [World.frozen?_setCell]; exact World.frozen?_of_block (w := w) (a := ⟨q, j, none⟩) hqw
   · rcases hown with e | e
     · exact .inl e
     · exact .inr ⟨_, e, by omega⟩
theorem Nxt.later {w w' : World} {B q T N : Nat} {X : List Nat} {n : Nat} {A : Option Addr} {c : Nat} (h : Nxt w B q T N X n A c) (hb : Below w.heap.size w w') : Nxt w' B q T N X n A c :=
 ⟨h.len, (hb.cell (p := ⟨q, 4, none⟩) h.lq).trans h.f4, (hb.cell (p := ⟨q, 5, none⟩) h.lq).trans h.f5, (hb.frozen (p := ⟨q, 4, none⟩) h.lq).trans h.z4, h.row.kept (row := none) ⟨hb.os, hb.tape, hb.output, hb.size, fun k hk _ => hb.block k hk⟩ (by cases hv : (Value.slice A n c).ownBlock <;> simp), fun i hi => (hb.cell (p := ⟨T, i, none⟩) h.lT).trans (h.th i hi), fun i => (hb.frozen (p := ⟨T, i, none⟩) h.lT).trans (h.tz i), Nat.lt_of_lt_of_le h.lq hb.size, Nat.lt_of_lt_of_le h.lT hb.size, h.qT, h.rq, h.rT, h.lt, h.nd, Nat.le_trans h.hB hb.size⟩
theorem Mv.of_below {q T : Nat} {o : Option Nat} {w w' : World} (hq : q < w.heap.size) (hb : Below w.heap.size w w') : Mv q T o o w w' :=
 ⟨hb.os, hb.tape, hb.output, hb.size, fun k hk _ _ _ => hb.block k hk, fun i _ => hb.cell (p := ⟨q, i, none⟩) hq, fun i => hb.frozen (p := ⟨q, i, none⟩) hq, .inl rfl⟩
theorem Mv.below {q T : Nat} {o o' : Option Nat} {w w' : World} (h : Mv q T o o' w w') {S : Nat} (hq : S ≤ q) (hT : S ≤ T) (ho : ∀ k, o = some k → S ≤ k) (hs : S ≤ w.heap.size) : Below S w w' :=
 ⟨h.os, h.tape, h.output, h.size, fun k hk => h.block k (by omega) (by omega) (by omega) (fun e => by have := ho k e.symm; omega)⟩
theorem Nxt.own_le {w : World} {B q T N : Nat} {X : List Nat} {n : Nat} {A : Option Addr} {c : Nat} (h : Nxt w B q T N X n A c) : ∀ k, (Value.slice A n c).ownBlock = some k → B ≤ k ∧ k < w.heap.size := fun k hk => h.row.lt k hk
theorem Nxt.at_ {w : World} {B q T N : Nat} {X : List Nat} {n : Nat} {A : Option Addr} {c : Nat} (h : Nxt w B q T N X n A c) {i : Nat} (hi : i < n) : ∃ g, A = some ⟨g, 0, none⟩ ∧ g < w.heap.size ∧ n ≤ c ∧ w.cell? ⟨g, i, none⟩ = some (.int .i64 ((X.getD i 0 : Nat) : Int)) := by
 have hl := h.len
 rcases h.row.2 with ⟨_, h0⟩ | ⟨g, cap, cur, e, hb, hh, hcap, _⟩
 · omega
 · simp only [Value.slice.injEq] at e
   obtain ⟨rfl, _, rfl⟩ := e
   refine ⟨g, rfl, by (rcases Nat.lt_or_ge g w.heap.size with h' | h'; exact h'; rw [Array.getElem?_eq_none h'] at hh; simp at hh), hcap, ?_⟩
   rw [h.row.cellAt i (by omega)]
   simp [fB, List.getD_eq_getElem?_getD, List.getElem?_eq_getElem (show i < X.length by omega)]
theorem sG (w : World) (B q T S : Nat) (l : List St) (sa : Int) (hm : MOk l sa) (ok : Nat → Prop) (Am : Option Addr) (cm : Nat) (b e : Bool) (hS : StsAt w ok l Am cm) (hok : ∀ k, ok k → k < S) (hq : S ≤ q) (hT : S ≤ T) (hBS : S ≤ B)
 (m0 : w.cell? ⟨q, 0, none⟩ = some (.slice Am l.length cm)) (m6 : w.cell? ⟨q, 6, none⟩ = some (.bool b)) (m7 : w.cell? ⟨q, 7, none⟩ = some (.bool e))
 (X : List Nat) (n : Nat) (A : Option Addr) (c : Nat) (h : Nxt w B q T l.length X n A c) (i : Nat) (hi : i < l.length) :
 Calls Tryz.prog 40 #[.pointer (some ⟨q, 0, none⟩), .int .i64 (i : Int)] w fun en w' => en = .returned (.tuple #[]) ∧ ∃ n' A' c', Nxt w' B q T l.length (kB l b e X i) n' A' c' ∧ Mv q T (Value.slice A n c).ownBlock (Value.slice A' n' c').ownBlock w w' := by
 have hN : l.length ≤ 5000 := by have := hm.len; omega
 have hn : n ≤ l.length := by rw [← h.len]; exact ei h.nd h.lt
 have hXn := h.len
 have f4 := h.f4
 have lq := h.lq
 have hBz := h.hB
 have H := hid h; have HM := hid hm; have HS := hid hS; have HOk := hid hok; have HXn := hid hXn
 have hol := h.own_le
 have Hol := hid hol
 clear h hm hS hok hXn hol
 go_enter Tryz.func40, Tryz.ntmps40
 go_wp2_with fail
 refine (jj w B q T l.length X n A c H.out hN i hi).mono ?_
 rintro en w1 ⟨rfl, n1, A1, c1, h1, hv1⟩
 have H1 := hid h1; have Hv1 := hid hv1
 clear h1 hv1 f4
 go_wp2_with fail
 go_loopg [4] (l.length - n) (fun k v wr => ∃ (fr : Nat) (Y : List Nat) (nY : Nat) (AY : Option Addr) (cY : Nat), v = .int .i64 (fr : Int) ∧ fr + k = l.length ∧ eo l b e k fr Y = kB l b e X i ∧ Nxt wr B q T l.length Y nY AY cY ∧ Mv q T (Value.slice A n c).ownBlock (Value.slice AY nY cY).ownBlock w wr)
 case atStart => exact ⟨n, iZ X i, n1, A1, c1, rfl, by omega, by rw [kB, HXn.out], H1.out, Hv1.out⟩
 case round =>
  clear H1 Hv1
  obtain ⟨fr, Y, nY, AY, cY, rfl, hfr, hl, hY, hv⟩ := hrel
  have g4 := hY.f4
  have lqr := hY.lq
  have lTr := hY.lT
  have hnY : nY ≤ l.length := by rw [← hY.len]; exact ei hY.nd hY.lt
  have hBel : Below S w wr := hv.below hq hT (fun k hk => by have := Hol.out k hk; omega) (by omega)
  have HY := hid hY; have Hl := hid hl; have Hv := hid hv
  by_cases hlt : fr < nY
  · obtain ⟨g, rfl, hg, hcY, hcell⟩ := hY.at_ hlt
    have hx : Y.getD fr 0 < l.length := hY.lt _ (by rw [List.getD_eq_getElem?_getD, List.getElem?_eq_getElem (by rw [hY.len]; exact hlt)]; exact List.getElem_mem _)
    have hsk := HM.out.kinds hx
    have hfold : eo l b e gk fr Y = eo l b e (gk - 1) (fr + 1) ((outs b e (stN l (Y.getD fr 0))).foldl iZ Y) := by
     obtain ⟨k, rfl⟩ : ∃ k, gk = k + 1 := ⟨gk - 1, by omega⟩
     rw [eo, if_pos (by rw [hY.len]; exact hlt)]; rfl
    rw [hfold] at hl
    have Hl := hid hl
    clear hfold hl
    obtain ⟨gm, om, rfl, hgm, hst⟩ := (HS.out.later hBel HOk.out).at_ (by omega)
    have hstx := hst (Y.getD fr 0) hx
    have hsN : l[Y.getD fr 0] = stN l (Y.getD fr 0) := by unfold stN; rw [List.getD_eq_getElem?_getD (l := l), List.getElem?_eq_getElem hx]; rfl
    rw [hsN] at hstx
    clear hst hsN
    generalize hxe : Y.getD fr 0 = x at *
    generalize stN l x = s at *
    have hgS := HOk.out gm hgm
    have k0 := (hv.cell 0 (by omega)).trans m0
    have k6 := (hv.cell 6 (by omega)).trans m6
    have k7 := (hv.cell 7 (by omega)).trans m7
    have hcS := HS.out.cap
    obtain ⟨sk, s0, s1, s2, s3, nx, ot⟩ := s
    obtain ⟨f0, f1, f2, f3, f4, f5, f6⟩ := hstx
    simp only at f0 f1 f2 f3 f4 f5 f6 hsk
    have hgw : gm < wr.heap.size := by omega
    clear hY hv hxe
    rcases hsk with rfl | ⟨hk, hn0, hn1⟩ | ⟨rfl, ⟨hn0, hn1⟩, ho0, ho1⟩
    · have ho : outs b e ⟨5, s0, s1, s2, s3, nx, ot⟩ = [] := by simp [outs]
      rw [ho] at Hl
      clear ho
      go_upto_region 4 with fail
      go_region
      all_goals go_wp2_with fail
      generalize hW : (wr.alloc _).drew = W2
      have hb2 : Below wr.heap.size wr W2 := by subst hW; exact nal.drew
      have HY2 := hid (HY.out.later hb2)
      have Hv2 := hid (Hv.out.trans (Mv.of_below lqr hb2))
      clear hW
      go_roundg (gk - 1)
      case measure => omega
      case rel => exact ⟨fr + 1, _, _, _, _, by go_num, by omega, Hl.out, HY2.out, Hv2.out⟩
    · obtain ⟨x1, rfl⟩ : ∃ x1 : Nat, nx = x1 := ⟨nx.toNat, by omega⟩
      have hx1 : x1 < l.length := by omega
      rcases hk with rfl | rfl | rfl
      · have ho : outs b e ⟨1, s0, s1, s2, s3, x1, ot⟩ = [] := by simp [outs]
        rw [ho] at Hl
        clear ho
        go_upto_region 4 with fail
        go_region
        all_goals go_wp2_with fail
        generalize hW : (wr.alloc _).drew = W2
        have hb2 : Below wr.heap.size wr W2 := by subst hW; exact nal.drew
        have HY2 := hid (HY.out.later hb2)
        have Hv2 := hid (Hv.out.trans (Mv.of_below lqr hb2))
        clear hW
        go_roundg (gk - 1)
        case measure => omega
        case rel => exact ⟨fr + 1, _, _, _, _, by go_num, by omega, Hl.out, HY2.out, Hv2.out⟩
      · cases b
        · have ho : outs false e ⟨3, s0, s1, s2, s3, x1, ot⟩ = [] := by simp [outs]
          rw [ho] at Hl
          clear ho
          go_upto_region 4 with fail
          go_region
          all_goals go_wp2_with fail
          generalize hW : (wr.alloc _).drew = W2
          have hb2 : Below wr.heap.size wr W2 := by subst hW; exact nal.drew
          have HY2 := hid (HY.out.later hb2)
          have Hv2 := hid (Hv.out.trans (Mv.of_below lqr hb2))
          clear hW
          go_roundg (gk - 1)
          case measure => omega
          case rel => exact ⟨fr + 1, _, _, _, _, by go_num, by omega, Hl.out, HY2.out, Hv2.out⟩
        · have ho : outs true e ⟨3, s0, s1, s2, s3, x1, ot⟩ = [x1] := by simp [outs]
          rw [ho] at Hl
          clear ho
          go_upto_region 4 with fail
          go_region
          all_goals go_wp2_with fail
          generalize hW : (wr.alloc _).drew = W2
          have hb2 : Below wr.heap.size wr W2 := by subst hW; exact nal.drew
          have HY2 := hid (HY.out.later hb2)
          have Hv2 := hid (Hv.out.trans (Mv.of_below lqr hb2))
          clear hW
          refine (jj W2 B q T l.length Y nY _ cY HY2.out hN x1 hx1).mono ?_
          rintro en w3 ⟨rfl, n3, A3, c3, h3, hv3⟩
          have H3 := hid h3; have Hv3 := hid (Hv2.out.trans hv3)
          clear h3 hv3
          go_wp2_with fail
          go_roundg (gk - 1)
          case measure => omega
          case rel => exact ⟨fr + 1, _, _, _, _, by go_num, by omega, Hl.out, H3.out, Hv3.out⟩
      · cases e
        · have ho : outs b false ⟨4, s0, s1, s2, s3, x1, ot⟩ = [] := by simp [outs]
          rw [ho] at Hl
          clear ho
          go_upto_region 4 with fail
          go_region
          all_goals go_wp2_with fail
          generalize hW : (wr.alloc _).drew = W2
          have hb2 : Below wr.heap.size wr W2 := by subst hW; exact nal.drew
          have HY2 := hid (HY.out.later hb2)
          have Hv2 := hid (Hv.out.trans (Mv.of_below lqr hb2))
          clear hW
          go_roundg (gk - 1)
          case measure => omega
          case rel => exact ⟨fr + 1, _, _, _, _, by go_num, by omega, Hl.out, HY2.out, Hv2.out⟩
        · have ho : outs b true ⟨4, s0, s1, s2, s3, x1, ot⟩ = [x1] := by simp [outs]
          rw [ho] at Hl
          clear ho
          go_upto_region 4 with fail
          go_region
          all_goals go_wp2_with fail
          generalize hW : (wr.alloc _).drew = W2
          have hb2 : Below wr.heap.size wr W2 := by subst hW; exact nal.drew
          have HY2 := hid (HY.out.later hb2)
          have Hv2 := hid (Hv.out.trans (Mv.of_below lqr hb2))
          clear hW
          refine (jj W2 B q T l.length Y nY _ cY HY2.out hN x1 hx1).mono ?_
          rintro en w3 ⟨rfl, n3, A3, c3, h3, hv3⟩
          have H3 := hid h3; have Hv3 := hid (Hv2.out.trans hv3)
          clear h3 hv3
          go_wp2_with fail
          go_roundg (gk - 1)
          case measure => omega
          case rel => exact ⟨fr + 1, _, _, _, _, by go_num, by omega, Hl.out, H3.out, Hv3.out⟩
    · obtain ⟨x1, rfl⟩ : ∃ x1 : Nat, nx = x1 := ⟨nx.toNat, by omega⟩
      obtain ⟨x2, rfl⟩ : ∃ x2 : Nat, ot = x2 := ⟨ot.toNat, by omega⟩
      have hx1 : x1 < l.length := by omega
      have hx2 : x2 < l.length := by omega
      have ho : outs b e ⟨2, s0, s1, s2, s3, x1, x2⟩ = [x1, x2] := by simp [outs]
      rw [ho] at Hl
      clear ho
      go_upto_region 4 with fail
      go_region
      all_goals go_wp2_with fail
      generalize hW : (wr.alloc _).drew = W2
      have hb2 : Below wr.heap.size wr W2 := by subst hW; exact nal.drew
      have HY2 := hid (HY.out.later hb2)
      have Hv2 := hid (Hv.out.trans (Mv.of_below lqr hb2))
      have b3 : W2.cell? ⟨wr.heap.size, 6, none⟩ = some (.int .i64 x2) := by subst hW; simp [go_sem]
      have lb : wr.heap.size < W2.heap.size := by subst hW; simp
      clear hW
      refine (jj W2 B q T l.length Y nY _ cY HY2.out hN x1 hx1).mono ?_
      rintro en w3 ⟨rfl, n3, A3, c3, h3, hv3⟩
      have b4 := (World.cell?_of_block (w := W2) (a := ⟨wr.heap.size, 6, none⟩) (hv3.block wr.heap.size lb (by omega) (by omega) (fun e' => by have := HY.out.own_le _ e'.symm; omega))).trans b3
      have lb3 : wr.heap.size < w3.heap.size := by have := hv3.size; omega
      have H3 := hid h3; have Hv3 := hid (Hv2.out.trans hv3)
      clear h3 hv3 b3
      go_wp2_with fail
      refine (jj w3 B q T l.length (iZ Y x1) n3 A3 c3 H3.out hN x2 hx2).mono ?_
      rintro en w4 ⟨rfl, n4, A4, c4, h4, hv4⟩
      have H4 := hid h4; have Hv4 := hid (Hv3.out.trans hv4)
      clear h4 hv4 b4
      go_wp2_with fail
      go_roundg (gk - 1)
      case measure => omega
      case rel => exact ⟨fr + 1, _, _, _, _, by go_num, by omega, Hl.out, H4.out, Hv4.out⟩
  · have hfin : Y = kB l b e X i := by
     rw [← Hl.out]
     cases gk with
     | zero => rw [eo]
     | succ k => rw [eo, if_neg (by rw [hY.len]; exact hlt)]
    clear hY hv hl
    go_wp2_with fail
    go_end0
    exact ⟨rfl, nY, AY, cY, by rw [← hfin]; exact HY.out, Hv.out⟩
theorem Tryz.zeroBool (w : World) : (zeroValue 4).run Tryz.prog w = .ok (.bool false) w := by kernel_rfl
theorem Nxt.trim {w : World} {B : Nat} {X : List Nat} {n : Nat} {A : Option Addr} {c : Nat} (h : w.ownsRow B 3 1 (.slice A n c) n (fB X)) : w.ownsRow B 3 1 (.slice A 0 c) 0 (fB []) := by
 refine ⟨rfl, ?_⟩
 rcases h.2 with ⟨e, _⟩ | ⟨g, cap, cur, e, hb, hh, hcap, hm, hs, _⟩
 · simp only [Value.slice.injEq] at e
   obtain ⟨rfl, _, rfl⟩ := e
   exact .inl ⟨rfl, rfl⟩
 · simp only [Value.slice.injEq] at e
   obtain ⟨rfl, _, rfl⟩ := e
   exact .inr ⟨g, c, cur, rfl, hb, hh, by omega, hm, hs, by simp [fB]⟩
theorem uj (w : World) (B q T N : Nat) (X : List Nat) (n : Nat) (A : Option Addr) (c : Nat) (h : Nxt w B q T N X n A c) (h0 : 0 < N) (hN : N ≤ 5000) :
 Calls Tryz.prog 41 #[.pointer (some ⟨q, 4, none⟩)] w fun en w' => en = .returned (.tuple #[]) ∧ Nxt w' B q T N [] 0 A c ∧ Mv q T (Value.slice A n c).ownBlock (Value.slice A 0 c).ownBlock w w' := by
 have f4 := h.f4; have f5 := h.f5; have z4 := h.z4
 have lT := h.lT; have lq := h.lq; have qT := h.qT
 have hcap : n ≤ c := by
  rcases h.row.2 with ⟨e, h0'⟩ | ⟨g, cap, cur, e, hb, hh, hcap, _⟩
  · omega
  · simp only [Value.slice.injEq] at e; omega
 have hcl : ∀ ty, (Builtin.clear_ #[59] ty #[.slice (some ⟨T, 0, none⟩) N N]).run Tryz.prog w = .ok (.tuple #[]) (w.setCells T 0 (List.replicate N (.bool false))) :=
  fun ty => Lib.run_clear_slice w 59 4 ty (.bool false) Tryz.underlying59 Tryz.zeroBool rfl rfl T 0 N N h0 (fun j hj => by rw [Nat.zero_add, h.th j hj]; rfl) (fun j hj => h.tz _)
 generalize hW : w.setCells T 0 (List.replicate N (.bool false)) = W1 at *
 have hz1 : w.heap.size ≤ W1.heap.size := by rw [← hW]; exact (Lib.below_setCells T (Nat.zero_le _) _ 0 (Below.refl 0 w)).size
 have hbel : Below 0 w W1 := by rw [← hW]; exact Lib.below_setCells T (Nat.zero_le _) _ 0 (Below.refl 0 w)
 have hblk : ∀ k, k < w.heap.size → k ≠ T → W1.heap[k]? = w.heap[k]? := fun k hk hn => by rw [← hW]; exact World.heap_setCells_other w T 0 _ hk hn
 have hth : ∀ i, i < N → W1.cell? ⟨T, i, none⟩ = some (.bool false) := fun i hi => by
  rw [← hW]
  have := World.cell?_setCells_in T (List.replicate N (.bool false)) 0 w (fun j hj => by rw [Nat.zero_add, h.th j (by simpa using hj)]; rfl) i (by simpa using hi)
  simpa using this
 have hfz : ∀ a, W1.frozen? a = w.frozen? a := fun a => by rw [← hW]; exact World.frozen?_setCells T _ 0 w a
 have g4 : W1.cell? ⟨q, 4, none⟩ = some (.slice A n c) := (World.cell?_of_block (w := w) (a := ⟨q, 4, none⟩) (hblk q lq qT)).trans f4
 have y4 : W1.frozen? ⟨q, 4, none⟩ = false := (hfz _).trans z4
 have H := hid h; have Hth := hid hth; have Hfz := hid hfz; have Hblk := hid hblk; have Hbel := hid hbel
 clear h hth hfz hblk hbel hW
 go_enter Tryz.func41, Tryz.ntmps41
 go_wp2_with (simp only [hcl])
 go_end0
 have hset : ∀ k, k ≠ q → (W1.setCell ⟨q, 4, none⟩ (.slice A 0 c)).heap[k]? = W1.heap[k]? := fun k hk => Below.heap_setCell _ _ _ _ hk
 have hob : (Value.slice A 0 c).ownBlock = (Value.slice A n c).ownBlock := by cases A <;> rfl
 have hrow : W1.ownsRow B 3 1 (.slice A n c) n (fB X) := H.out.row.kept (row := some T) ⟨Hbel.out.os, Hbel.out.tape, Hbel.out.output, hz1, fun k hk hne => Hblk.out k hk (by simpa using hne)⟩ (.inr H.out.rT)
 have hrow2 := hrow.kept (w' := W1.setCell ⟨q, 4, none⟩ (.slice A 0 c)) (row := some q) ⟨rfl, rfl, rfl, by simp, fun k hk hne => hset k (by simpa using hne)⟩ (.inr H.out.rq)
 refine ⟨rfl, ⟨rfl, World.cell?_setCell_same _ _ _ g4, ?_, ?_, Nxt.trim hrow2, fun i hi => ?_, fun i => ?_, by simp; omega, by simp; omega, qT, by rw [hob]; exact H.out.rq, by rw [hob]; exact H.out.rT, by simp, List.nodup_nil, by have := H.out.hB; simp; omega⟩, ⟨Hbel.out.os, Hbel.out.tape, Hbel.out.output, by simpa using hz1, fun k hk h1 h2 _ => (hset k h1).trans (Hblk.out k hk h2), fun i hi => ?_, fun i => ?_, .inl hob⟩⟩
 · exact (World.cell?_setCell_other _ _ _ _ (by simp)).trans ((World.cell?_of_block (w := w) (a := ⟨q, 5, none⟩) (Hblk.out q lq qT)).trans f5)
 · rw [World.frozen?_setCell]; exact y4
 · rw [World.cell?_setCell_other _ _ _ _ (by simp [qT]), Hth.out i hi]; simp
 · rw [World.frozen?_setCell]; exact (Hfz.out _).trans (H.out.tz i)
 · exact (World.cell?_setCell_other _ _ _ _ (by simp <;> omega)).trans (World.cell?_of_block (w := w) (a := ⟨q, i, none⟩) (Hblk.out q lq qT))
 · rw [World.frozen?_setCell]; exact Hfz.out _
structure Nw (w : World) (B q T N : Nat) (X : List Nat) (n : Nat) (A : Option Addr) (c : Nat) : Prop where
 len : X.length = n
 f2 : w.cell? ⟨q, 2, none⟩ = some (.slice A n c)
 f3 : w.cell? ⟨q, 3, none⟩ = some (.slice (some ⟨T, 0, none⟩) N N)
 row : w.ownsRow B 3 1 (.slice A n c) n (fB X)
 th : ∀ i, i < N → w.cell? ⟨T, i, none⟩ = some (.bool (decide (i ∈ X)))
 tz : ∀ i, w.frozen? ⟨T, i, none⟩ = false
 lT : T < w.heap.size
 qT : q ≠ T
 rq : (Value.slice A n c).ownBlock ≠ some q
 rT : (Value.slice A n c).ownBlock ≠ some T
 lt : ∀ x ∈ X, x < N
 nd : X.Nodup
structure HR (w : World) (B q T1 T2 : Nat) (l : List St) (sa : Int) (Am : Option Addr) (cm : Nat) (b e : Bool) (X : List Nat) (n : Nat) (A : Option Addr) (c : Nat) (Y : List Nat) (m : Nat) (A2 : Option Addr) (c2 : Nat) : Prop where
 m0 : w.cell? ⟨q, 0, none⟩ = some (.slice Am l.length cm)
 m6 : w.cell? ⟨q, 6, none⟩ = some (.bool b)
 m7 : w.cell? ⟨q, 7, none⟩ = some (.bool e)
 z : ∀ o, w.frozen? ⟨q, o, none⟩ = false
 now : Nw w B q T1 l.length X n A c
 next : Nxt w B q T2 l.length Y m A2 c2
 TT : T1 ≠ T2
 oT1 : (Value.slice A2 m c2).ownBlock ≠ some T1
 oT2 : (Value.slice A n c).ownBlock ≠ some T2
 oo : (Value.slice A n c).ownBlock = none ∨ (Value.slice A n c).ownBlock ≠ (Value.slice A2 m c2).ownBlock
 Bq : B ≤ q
 BT1 : B ≤ T1
 BT2 : B ≤ T2
section
variable {w w' : World} {B q T1 T2 : Nat} {l : List St} {sa : Int} {Am : Option Addr} {cm : Nat} {b e : Bool} {X Y : List Nat} {n m : Nat} {A A2 : Option Addr} {c c2 : Nat}
theorem gy {v : Value} {k : Nat} {xs : List Value} (h : w.ownsRow B 3 1 v k xs) (ho : w'.os = w.os) (ht : w'.tape = w.tape) (hp : w'.output = w.output) (hz : w.heap.size ≤ w'.heap.size) (hb : ∀ g, v.ownBlock = some g → w'.heap[g]? = w.heap[g]?) : w'.ownsRow B 3 1 v k xs := by
 refine ⟨h.1, ?_⟩
 rcases h.2 with h' | ⟨g, cap, cur, e, hB, hh, h3, h4, h5, h6⟩
 · exact .inl h'
 · exact .inr ⟨g, cap, cur, e, hB, (hb g (by rw [e]; rfl)).trans hh, h3, h4, h5, h6⟩
theorem HR.step {Y' : List Nat} {m' : Nat} {A' : Option Addr} {c' : Nat} (h : HR w B q T1 T2 l sa Am cm b e X n A c Y m A2 c2) (hn : Nxt w' B q T2 l.length Y' m' A' c') (hv : Mv q T2 (Value.slice A2 m c2).ownBlock (Value.slice A' m' c').ownBlock w w') : HR w' B q T1 T2 l sa Am cm b e X n A c Y' m' A' c' := by
 have hk : ∀ g, (Value.slice A n c).ownBlock = some g → w'.heap[g]? = w.heap[g]? := fun g hg => by
  have hlt := (h.now.row.lt g hg).2
  refine hv.block g hlt (fun e' => h.now.rq (by rw [hg, e'])) (fun e' => h.oT2 (by rw [hg, e'])) (fun e' => ?_)
  rcases h.oo with h0 | h0
  · rw [h0] at hg; cases hg
  · exact h0 (by rw [hg]; exact e')
 have hT1 : w'.heap[T1]? = w.heap[T1]? := hv.block T1 h.now.lT (fun e' => h.now.qT e'.symm) h.TT (fun e' => h.oT1 e'.symm)
 refine ⟨(hv.cell 0 (by omega)).trans h.m0, (hv.cell 6 (by omega)).trans h.m6, (hv.cell 7 (by omega)).trans h.m7, fun o => (hv.froz o).trans (h.z o), ⟨h.now.len, (hv.cell 2 (by omega)).trans h.now.f2, (hv.cell 3 (by omega)).trans h.now.f3, gy h.now.row hv.os hv.tape hv.output hv.size hk, fun i hi => (World.cell?_of_block (w := w) (a := ⟨T1, i, none⟩) hT1).trans (h.now.th i hi), fun i => (World.frozen?_of_block (w := w) (a := ⟨T1, i, none⟩) hT1).trans (h.now.tz i), Nat.lt_of_lt_of_le h.now.lT hv.size, h.now.qT, h.now.rq, h.now.rT, h.now.lt, h.now.nd⟩, hn, h.TT, ?_, h.oT2, ?_, h.Bq, h.BT1, h.BT2⟩
 · rcases hv.own with e' | ⟨g, e', hg⟩
   · rw [e']; exact h.oT1
   · rw [e']; intro e2; simp only [Option.some.injEq] at e2; have := h.now.lT; omega
 · rcases hv.own with e' | ⟨g, e', hg⟩
   · rw [e']; exact h.oo
   · right
     rw [e']
     intro e2
     have := (h.now.row.lt g e2).2
     omega
theorem HR.later (h : HR w B q T1 T2 l sa Am cm b e X n A c Y m A2 c2) (hb : Below w.heap.size w w') : HR w' B q T1 T2 l sa Am cm b e X n A c Y m A2 c2 :=
 h.step (h.next.later hb) (Mv.of_below h.next.lq hb)
theorem HR.flags (h : HR w B q T1 T2 l sa Am cm b e X n A c Y m A2 c2) (b' e' : Bool) : HR ((w.setCell ⟨q, 6, none⟩ (.bool b')).setCell ⟨q, 7, none⟩ (.bool e')) B q T1 T2 l sa Am cm b' e' X n A c Y m A2 c2 := by
 have hc : ∀ k o, k ≠ q → ((w.setCell ⟨q, 6, none⟩ (.bool b')).setCell ⟨q, 7, none⟩ (.bool e')).cell? ⟨k, o, none⟩ = w.cell? ⟨k, o, none⟩ := fun k o hk => (World.cell?_setCell_other _ _ _ _ (by simp [Ne.symm hk])).trans (World.cell?_setCell_other _ _ _ _ (by simp [Ne.symm hk]))
 have hq : ∀ o, o ≠ 6 → o ≠ 7 → ((w.setCell ⟨q, 6, none⟩ (.bool b')).setCell ⟨q, 7, none⟩ (.bool e')).cell? ⟨q, o, none⟩ = w.cell? ⟨q, o, none⟩ := fun o h6 h7 => (World.cell?_setCell_other _ _ _ _ (by simp <;> omega)).trans (World.cell?_setCell_other _ _ _ _ (by simp <;> omega))
 have hf : ∀ a, ((w.setCell ⟨q, 6, none⟩ (.bool b')).setCell ⟨q, 7, none⟩ (.bool e')).frozen? a = w.frozen? a := fun a => by rw [World.frozen?_setCell, World.frozen?_setCell]
 have hh : ∀ k, k ≠ q → ((w.setCell ⟨q, 6, none⟩ (.bool b')).setCell ⟨q, 7, none⟩ (.bool e')).heap[k]? = w.heap[k]? := fun k hk => (Below.heap_setCell _ _ _ _ hk).trans (Below.heap_setCell _ _ _ _ hk)
 have hz : ((w.setCell ⟨q, 6, none⟩ (.bool b')).setCell ⟨q, 7, none⟩ (.bool e')).heap.size = w.heap.size := by simp
 have k7 : (w.setCell ⟨q, 6, none⟩ (.bool b')).cell? ⟨q, 7, none⟩ = some (.bool e) := (World.cell?_setCell_other _ _ _ _ (by simp)).trans h.m7
 have x := h.now; have y := h.next
 refine ⟨(hq 0 (by omega) (by omega)).trans h.m0, (World.cell?_setCell_other _ _ _ _ (by simp)).trans (World.cell?_setCell_same _ _ _ h.m6), World.cell?_setCell_same _ _ _ k7, fun o => (hf _).trans (h.z o), ⟨x.len, (hq 2 (by omega) (by omega)).trans x.f2, (hq 3 (by omega) (by omega)).trans x.f3, gy x.row rfl rfl rfl (by omega) (fun g hg => hh g (fun e2 => x.rq (by rw [hg, e2]))), fun i hi => (hc T1 i (fun e2 => x.qT e2.symm)).trans (x.th i hi), fun i => (hf _).trans (x.tz i), by rw [hz]; exact x.lT, x.qT, x.rq, x.rT, x.lt, x.nd⟩, ⟨y.len, (hq 4 (by omega) (by omega)).trans y.f4, (hq 5 (by omega) (by omega)).trans y.f5, (hf _).trans y.z4, gy y.row rfl rfl rfl (by omega) (fun g hg => hh g (fun e2 => y.rq (by rw [hg, e2]))), fun i hi => (hc T2 i (fun e2 => y.qT e2.symm)).trans (y.th i hi), fun i => (hf _).trans (y.tz i), by rw [hz]; exact y.lq, by rw [hz]; exact y.lT, y.qT, y.rq, y.rT, y.lt, y.nd, by rw [hz]; exact y.hB⟩, h.TT, h.oT1, h.oT2, h.oo, h.Bq, h.BT1, h.BT2⟩
theorem HR.swap (h : HR w B q T1 T2 l sa Am cm b e X n A c Y m A2 c2) (hz : w'.heap.size = w.heap.size) (ho : w'.os = w.os) (ht : w'.tape = w.tape) (hp : w'.output = w.output) (hh : ∀ k, k ≠ q → w'.heap[k]? = w.heap[k]?) (hf : ∀ a, w'.frozen? a = w.frozen? a)
 (c0 : w'.cell? ⟨q, 0, none⟩ = w.cell? ⟨q, 0, none⟩) (c6 : w'.cell? ⟨q, 6, none⟩ = w.cell? ⟨q, 6, none⟩) (c7 : w'.cell? ⟨q, 7, none⟩ = w.cell? ⟨q, 7, none⟩)
 (d2 : w'.cell? ⟨q, 2, none⟩ = some (.slice A2 m c2)) (d3 : w'.cell? ⟨q, 3, none⟩ = some (.slice (some ⟨T2, 0, none⟩) l.length l.length)) (d4 : w'.cell? ⟨q, 4, none⟩ = some (.slice A n c)) (d5 : w'.cell? ⟨q, 5, none⟩ = some (.slice (some ⟨T1, 0, none⟩) l.length l.length)) :
 HR w' B q T2 T1 l sa Am cm b e Y m A2 c2 X n A c := by
 have x := h.now; have y := h.next
 have hc : ∀ k o, k ≠ q → w'.cell? ⟨k, o, none⟩ = w.cell? ⟨k, o, none⟩ := fun k o hk => World.cell?_of_block (w := w) (a := ⟨k, o, none⟩) (hh k hk)
 refine ⟨c0.trans h.m0, c6.trans h.m6, c7.trans h.m7, fun o => (hf _).trans (h.z o), ⟨y.len, d2, d3, gy y.row ho ht hp (by omega) (fun g hg => hh g (fun e2 => y.rq (by rw [hg, e2]))), fun i hi => (hc T2 i (fun e2 => y.qT e2.symm)).trans (y.th i hi), fun i => (hf _).trans (y.tz i), by rw [hz]; exact y.lT, y.qT, y.rq, y.rT, y.lt, y.nd⟩, ⟨x.len, d4, d5, (hf _).trans (h.z 4), gy x.row ho ht hp (by omega) (fun g hg => hh g (fun e2 => x.rq (by rw [hg, e2]))), fun i hi => (hc T1 i (fun e2 => x.qT e2.symm)).trans (x.th i hi), fun i => (hf _).trans (x.tz i), by rw [hz]; exact y.lq, by rw [hz]; exact x.lT, x.qT, x.rq, x.rT, x.lt, x.nd, by rw [hz]; exact y.hB⟩, fun e2 => h.TT e2.symm, h.oT2, h.oT1, ?_, h.Bq, h.BT2, h.BT1⟩
 cases hv : (Value.slice A2 m c2).ownBlock with
 | none => exact .inl rfl
 | some k =>
  right
  rw [← hv]
  rcases h.oo with h0 | h0
  · rw [h0, hv]; simp
  · exact fun e2 => h0 e2.symm
end
mutual
def eU : T → Int → Int
 | .mk _ _ _ _ _ _ _ ps, most => eX ps 1 most
def eX : List T → Int → Int → Int
 | [], s, _ => s
 | p :: ps, s, most => if s ≤ most then eX ps (s + eU p (most - s)) most else s
end
theorem iP (t : T) (most : Int) : eU t most = eX t.ps 1 most := by cases t; rw [eU]; rfl
theorem qJ (ps : List T) (s most : Int) (h : ¬ s ≤ most) : eX ps s most = s := by
 cases ps with
 | nil => rw [eX]
 | cons p ps => rw [eX, if_neg h]
theorem uX (ps : List T) (ih : ∀ p ∈ ps, ∀ most, 0 ≤ most → 1 ≤ eU p most ∧ eU p most ≤ most + 1) : ∀ s most, 1 ≤ s → s ≤ most + 1 → 1 ≤ eX ps s most ∧ eX ps s most ≤ most + 1 := by
 induction ps with
 | nil => intro s most hs hm; rw [eX]; omega
 | cons p ps ih2 =>
  intro s most hs hm
  rw [eX]
  split
  · have := ih p (List.mem_cons_self ..) (most - s) (by omega)
    exact ih2 (fun q hq => ih q (List.mem_cons_of_mem _ hq)) _ _ (by omega) (by omega)
  · omega
theorem pB (t : T) : ∀ most, 0 ≤ most → 1 ≤ eU t most ∧ eU t most ≤ most + 1 := by
 induction t using T.ind with
 | h t ih =>
  intro most hm
  rw [iP]
  exact uX t.ps ih 1 most (by omega) (by omega)
theorem uW (t : T) : ∀ (most : Int) (h0 : 0 ≤ most) (h1 : most ≤ 1000000) (w : World) (ok : Nat → Prop) (A : Option Addr) (c : Nat), NodeAt w ok t A c → (∀ b, ok b → b < w.heap.size) →
 Calls Tryz.prog 67 #[aB t A c, .int .i64 most] w fun e w' => e = .returned (.int .i64 (eU t most)) ∧ Below w.heap.size w w' := by
 induction t using T.ind with
 | h t ih =>
  intro most h0 h1 w ok A c hN hok
  have hlen := hN.len
  go_enter Tryz.func67, Tryz.ntmps67
  go_wp2_with fail
  generalize hW : w.alloc _ = W0
  have hB0 : Below w.heap.size w W0 := by subst hW; exact nal
  clear hW
  go_loopg [5, 11] (t.ps.length) (fun n s i wr => ∃ (j : Nat) (x : Int), s = .int .i64 x ∧ i = .int .i64 j ∧ j + n = t.ps.length ∧ 1 ≤ x ∧ x ≤ most + 1 ∧ eX (t.ps.drop j) x most = eX t.ps 1 most ∧ Below w.heap.size w wr)
  case atStart => exact ⟨0, 1, rfl, rfl, by omega, by omega, by omega, rfl, hB0⟩
  case round =>
   obtain ⟨j, x, rfl, rfl, hj, hx1, hx2, hm, hB⟩ := hrel
   have Hm := hid hm; clear hm
   have hs := hB.size
   clear hB0
   by_cases hlt : j < t.ps.length
   · obtain ⟨b, o, rfl, hb, hcell⟩ := hN.part (by omega)
     obtain ⟨A', c', h8, hNj⟩ := hcell j hlt
     have Hih := hid (ih t.ps[j] (List.getElem_mem _)); clear ih
     have hNj' := hNj.later hB hok
     obtain ⟨f0, f1, f2, f3, f4, f5, f6, f7⟩ := h8.mono (w' := wr) (fun o => hB.cell (p := ⟨b, o, none⟩) (hok b hb))
     have Hd := hid (bI hlt)
     clear hcell hN hNj
     generalize t.ps[j] = p at *
     by_cases hx : x ≤ most
     · have hbd := pB p (most - x) (by omega)
       go_wp2_with fail
       refine (Hih.out (most - x) (by omega) (by omega) _ ok A' c' (hNj'.later nal (fun b h => by have := hok b h; omega)) (fun b h => by have := hok b h; simp; omega)).mono ?_
       rintro e w1 ⟨rfl, hb1⟩
       go_wp2_with fail
       go_roundg (gk - 1)
       case measure => omega
       case rel => exact ⟨j + 1, x + eU p (most - x), rfl, by go_num, by omega, by omega, by omega, by rw [← Hm.out, Hd.out, eX, if_pos hx], (hB.alloc hs _).trans (hb1.mono (by simp; omega))⟩
     · have hres : x = eU t most := by rw [iP, ← Hm.out, qJ _ _ _ hx]
       have Hres := hid hres; clear hres
       go_wp2_with fail
       go_ret
       exact ⟨by rw [← Hres.out]; rfl, hB.alloc hs _⟩
   · have hres : x = eU t most := by rw [iP, ← Hm.out, List.drop_of_length_le (by omega), eX]
     have Hres := hid hres; clear hres
     go_wp2_with fail
     go_ret
     exact ⟨by rw [← Hres.out]; rfl, hB⟩
mutual
def aC : T → Bool
 | .mk k s0 s1 s2 s3 mn mx ps =>
  if (k ≠ 1 ∧ ¬ (s0 = 0 ∧ s1 = 0 ∧ s2 = 0 ∧ s3 = 0)) ∨ (k ≠ 6 ∧ (mn ≠ 0 ∨ mx ≠ 0)) then false
  else if k = 0 ∨ k = 1 ∨ k = 2 ∨ k = 3 then decide (ps.length = 0)
  else if k = 4 ∨ k = 5 then (if ps.length < 2 then false else cD ps)
  else if k = 6 then (if ps.length ≠ 1 ∨ mn < 0 ∨ 255 < max mn mx ∨ (mx ≠ -1 ∧ mx < mn) then false else cD ps)
  else false
def cD : List T → Bool
 | [] => true
 | p :: ps => aC p && cD ps
end
theorem eB (t : T) : aC t = if (t.k ≠ 1 ∧ ¬ (t.s0 = 0 ∧ t.s1 = 0 ∧ t.s2 = 0 ∧ t.s3 = 0)) ∨ (t.k ≠ 6 ∧ (t.mn ≠ 0 ∨ t.mx ≠ 0)) then false
 else if t.k = 0 ∨ t.k = 1 ∨ t.k = 2 ∨ t.k = 3 then decide (t.ps.length = 0)
 else if t.k = 4 ∨ t.k = 5 then (if t.ps.length < 2 then false else cD t.ps)
 else if t.k = 6 then (if t.ps.length ≠ 1 ∨ t.mn < 0 ∨ 255 < max t.mn t.mx ∨ (t.mx ≠ -1 ∧ t.mx < t.mn) then false else cD t.ps)
 else false := by cases t; rw [aC]; rfl
def ks (t : T) : Prop := (t.k = 4 ∧ t.mn = 0 ∧ t.mx = 0 ∧ eq4 t.s0 t.s1 t.s2 t.s3 0 0 0 0 = true ∧ 2 ≤ t.ps.length) ∨ (t.k = 5 ∧ t.mn = 0 ∧ t.mx = 0 ∧ eq4 t.s0 t.s1 t.s2 t.s3 0 0 0 0 = true ∧ 2 ≤ t.ps.length) ∨
 (t.k = 6 ∧ 0 ≤ t.mn ∧ t.mn ≤ 255 ∧ t.mx = -1 ∧ eq4 t.s0 t.s1 t.s2 t.s3 0 0 0 0 = true ∧ t.ps.length = 1) ∨ (t.k = 6 ∧ 0 ≤ t.mn ∧ t.mn ≤ t.mx ∧ t.mx ≤ 255 ∧ eq4 t.s0 t.s1 t.s2 t.s3 0 0 0 0 = true ∧ t.ps.length = 1)
theorem iF {t : T} (h : ks t) : aC t = cD t.ps := by
 unfold ks at h
 simp only [jp] at h
 rw [eB]
 repeat' split
 all_goals first
  | rfl
  | (exfalso; omega)
theorem oH (t : T) (hl : ¬ ks t) (w : World) (ok : Nat → Prop) (A : Option Addr) (c : Nat) (hN : NodeAt w ok t A c) (hok : ∀ b, ok b → b < w.heap.size) :
 Calls Tryz.prog 68 #[aB t A c] w fun e w' => e = .returned (.bool (aC t)) ∧ Below w.heap.size w w' := by
 have hlen := hN.len
 have Hl := hid hl; clear hl
 go_enter Tryz.func68, Tryz.ntmps68
 go_wp2_with fail
 all_goals (first
  | (go_ret; refine ⟨?_, nal.alloc (by simp) _⟩; refine congrArg (fun b => Ending.returned (.bool b)) ?_; exact Eq.symm (by
   rw [eB]
   go_tidy
   simp only [jp, bne_iff_ne, ne_eq, beq_iff_eq, beq_eq_false_iff_ne, bne_eq_false_iff_eq, Bool.not_eq_true] at *
   repeat' split
   all_goals first
    | rfl
    | (exfalso; omega)
    | (rw [Bool.eq_iff_iff, decide_eq_true_iff, beq_iff_eq]; omega)))
  | (exfalso
     refine Hl.out ?_
     unfold ks
     go_tidy
     simp only [jp, bne_iff_ne, ne_eq, beq_iff_eq, beq_eq_false_iff_ne, bne_eq_false_iff_eq, Bool.not_eq_true] at *
     omega))
theorem tp (t : T) : ∀ (w : World) (ok : Nat → Prop) (A : Option Addr) (c : Nat), NodeAt w ok t A c → (∀ b, ok b → b < w.heap.size) →
 Calls Tryz.prog 68 #[aB t A c] w fun e w' => e = .returned (.bool (aC t)) ∧ Below w.heap.size w w' := by
 induction t using T.ind with
 | h t ih =>
  intro w ok A c hN hok
  by_cases hl : ks t
  case neg => exact oH t hl w ok A c hN hok
  have hlen := hN.len
  have Hloop := hid (iF hl)
  unfold ks at hl
  rcases hl with ⟨hk, hmn, hmx, hq, hn⟩ | ⟨hk, hmn, hmx, hq, hn⟩ | ⟨hk, hmn, hmn', hmx, hq, hn⟩ | ⟨hk, hmn, hmn', hmx, hq, hn⟩
  case' inr.inr.inr =>
   have h255 : t.mn ≤ 255 := by omega
   have hm1 : (t.mx != -1) = true := by rw [bne_iff_ne]; omega
  all_goals
   go_enter Tryz.func68, Tryz.ntmps68
   go_wp2_with fail
  all_goals
   have hn' := hid hn
   clear hk hmn hmx hq hn
   generalize hW : (w.alloc _).alloc _ = W0
   have hB0 : Below w.heap.size w W0 := by subst hW; exact nal.alloc (by simp) _
   clear hW
   go_loopg [82] (t.ps.length) (fun n i wr => ∃ (j : Nat), i = .int .i64 j ∧ j + n = t.ps.length ∧ cD (t.ps.drop j) = cD t.ps ∧ Below w.heap.size w wr)
   case atStart => exact ⟨0, rfl, by omega, rfl, hB0⟩
   case round =>
    obtain ⟨j, rfl, hj, hm, hB⟩ := hrel
    have Hm := hid hm; clear hm
    have hs := hB.size
    clear hB0
    by_cases hlt : j < t.ps.length
    · obtain ⟨b, o, rfl, hb, hcell⟩ := hN.part (by omega)
      obtain ⟨A', c', h8, hNj⟩ := hcell j hlt
      have Hih := hid (ih t.ps[j] (List.getElem_mem _)); clear ih
      have hNj' := hNj.later hB hok
      obtain ⟨f0, f1, f2, f3, f4, f5, f6, f7⟩ := h8.mono (w' := wr) (fun o => hB.cell (p := ⟨b, o, none⟩) (hok b hb))
      have Hd := hid (bI hlt)
      clear hcell hN hNj
      generalize t.ps[j] = p at *
      first
       | (have hj1 : (j : Int) < 1 := by (have := hn'.out; omega)
          go_wp2_with fail)
       | go_wp2_with fail
      refine (Hih.out _ ok A' c' (hNj'.later nal (fun b h => by have := hok b h; omega)) (fun b h => by have := hok b h; simp; omega)).mono ?_
      rintro e w1 ⟨rfl, hb1⟩
      have hB1 : Below w.heap.size w w1 := (hB.alloc hs _).trans (hb1.mono (by simp; omega))
      cases hp : aC p with
      | true =>
       have Hp := hid hp; clear hp
       go_wp2_with fail
       go_roundg (gk - 1)
       case measure => omega
       case rel => exact ⟨j + 1, by go_num, by omega, by rw [← Hm.out, Hd.out, cD, Hp.out, Bool.true_and], hB1⟩
      | false =>
       have hres : aC t = false := by rw [Hloop.out, ← Hm.out, Hd.out, cD, hp, Bool.false_and]
       have Hres := hid hres; clear hres hp
       go_wp2_with fail
       go_ret
       exact ⟨by rw [Hres.out]; rfl, hB1⟩
    · have hres : aC t = true := by rw [Hloop.out, ← Hm.out, List.drop_of_length_le (by omega), cD]
      have Hres := hid hres; clear hres
      first
       | (have hj1 : ¬ (j : Int) < 1 := by (have := hn'.out; omega)
          go_wp2_with fail)
       | go_wp2_with fail
      go_ret
      exact ⟨by rw [Hres.out]; rfl, hB⟩
def br (t : T) : Int := if 2048 < eU t 2048 then 3 else if aC t then 0 else 107
theorem il (t : T) (w : World) (ok : Nat → Prop) (A : Option Addr) (c : Nat) (hN : NodeAt w ok t A c) (hok : ∀ b, ok b → b < w.heap.size) :
 Calls Tryz.prog 46 #[aB t A c] w fun e w' => e = .returned (.int .i64 (br t)) ∧ Below w.heap.size w w' := by
 have hlen := hN.len
 go_enter Tryz.func46, Tryz.ntmps46
 go_wp2_with fail
 have hB0 : Below w.heap.size w (w.alloc (.cells #[.int .i64 t.k, .int .u64 t.s0, .int .u64 t.s1, .int .u64 t.s2, .int .u64 t.s3, .int .i64 t.mn, .int .i64 t.mx, .slice A t.ps.length c] 48)) := nal
 refine (uW t 2048 (by omega) (by omega) _ ok A c (hN.later hB0 hok) (fun b h => by have := hok b h; simp; omega)).mono ?_
 rintro e w1 ⟨rfl, hb1⟩
 have hB1 : Below w.heap.size w w1 := hB0.trans (hb1.mono (by simp))
 have hN1 := hN.later hB1 hok
 have hs1 := hB1.size
 obtain ⟨hc1, hf1⟩ := ed hb1
 have g0 := hc1 w.heap.size 0 (by simp)
 have g1 := hc1 w.heap.size 1 (by simp)
 have g2 := hc1 w.heap.size 2 (by simp)
 have g3 := hc1 w.heap.size 3 (by simp)
 have g4 := hc1 w.heap.size 4 (by simp)
 have g5 := hc1 w.heap.size 5 (by simp)
 have g6 := hc1 w.heap.size 6 (by simp)
 have g7 := hc1 w.heap.size 7 (by simp)
 simp only [World.cell?_alloc_new, List.getElem?_toArray] at g0 g1 g2 g3 g4 g5 g6 g7
 clear hc1 hf1
 by_cases h : 2048 < eU t 2048
 · have hres : br t = 3 := by rw [br, if_pos h]
   have Hres := hid hres; clear hres
   go_wp2_with fail
   go_ret
   exact ⟨by rw [Hres.out]; rfl, hB1⟩
 · go_wp2_with fail
   refine (tp t _ ok A c hN1 (fun b h => by have := hok b h; omega)).mono ?_
   rintro e w2 ⟨rfl, hb2⟩
   have hB2 : Below w.heap.size w w2 := hB1.trans (hb2.mono (by omega))
   cases hr : aC t with
   | true =>
    have hres : br t = 0 := by rw [br, if_neg (by omega), if_pos hr]
    have Hres := hid hres; clear hres
    go_wp2_with fail
    go_ret
    exact ⟨by rw [Hres.out]; rfl, hB2⟩
   | false =>
    have hres : br t = 107 := by rw [br, if_neg (by omega), hr]; rfl
    have Hres := hid hres; clear hres
    go_wp2_with fail
    go_ret
    exact ⟨by rw [Hres.out]; rfl, hB2⟩
def cq (k mn mx s n : Int) : Int :=
 if k = 5 then s + (n - 1) else if k = 6 then (if mx < 0 then s * (mn + 1) + 1 else s * mx + mx - mn) else s
mutual
def aG : T → Int
 | .mk k _ _ _ _ mn mx ps => if k = 0 then 0 else if k = 1 ∨ k = 2 ∨ k = 3 then 1 else min 4097 (cq k mn mx (aZ ps 0) ps.length)
def aZ : List T → Int → Int
 | [], s => s
 | p :: ps, s => aZ ps (min 4097 (s + aG p))
end
theorem ft (t : T) : aG t = if t.k = 0 then 0 else if t.k = 1 ∨ t.k = 2 ∨ t.k = 3 then 1 else min 4097 (cq t.k t.mn t.mx (aZ t.ps 0) t.ps.length) := by cases t; rw [aG]; rfl
theorem ik : ∀ {ps : List T}, cD ps = true → ∀ p ∈ ps, aC p = true
 | [], _, p, hp => by cases hp
 | q :: ps, h, p, hp => by
  rw [cD, Bool.and_eq_true] at h
  cases hp with
  | head => exact h.1
  | tail _ hp => exact ik h.2 p hp
theorem aJ {t : T} (h : aC t = true) : (t.k = 0 ∧ t.ps.length = 0 ∧ t.mn = 0 ∧ t.mx = 0) ∨ (t.k = 1 ∧ t.ps.length = 0 ∧ t.mn = 0 ∧ t.mx = 0) ∨ (t.k = 2 ∧ t.ps.length = 0 ∧ t.mn = 0 ∧ t.mx = 0) ∨ (t.k = 3 ∧ t.ps.length = 0 ∧ t.mn = 0 ∧ t.mx = 0) ∨
 (t.k = 4 ∧ 2 ≤ t.ps.length ∧ t.mn = 0 ∧ t.mx = 0) ∨ (t.k = 5 ∧ 2 ≤ t.ps.length ∧ t.mn = 0 ∧ t.mx = 0) ∨ (t.k = 6 ∧ t.ps.length = 1 ∧ 0 ≤ t.mn ∧ t.mn ≤ 255 ∧ t.mx ≤ 255 ∧ (t.mx = -1 ∨ t.mn ≤ t.mx)) := by
 rw [eB] at h
 split at h
 · cases h
 rename_i g1
 split at h
 · rename_i g2
   rw [decide_eq_true_eq] at h
   rcases g2 with g | g | g | g
   · exact .inl ⟨g, h, by omega, by omega⟩
   · exact .inr (.inl ⟨g, h, by omega, by omega⟩)
   · exact .inr (.inr (.inl ⟨g, h, by omega, by omega⟩))
   · exact .inr (.inr (.inr (.inl ⟨g, h, by omega, by omega⟩)))
 split at h
 · rename_i g2
   split at h
   · cases h
   rcases g2 with g | g
   · exact .inr (.inr (.inr (.inr (.inl ⟨g, by omega, by omega, by omega⟩))))
   · exact .inr (.inr (.inr (.inr (.inr (.inl ⟨g, by omega, by omega, by omega⟩)))))
 split at h
 · rename_i g2
   split at h
   · cases h
   exact .inr (.inr (.inr (.inr (.inr (.inr ⟨g2, by omega, by omega, by omega, by omega, by omega⟩)))))
 · cases h
theorem aO {t : T} (h : aC t = true) : ∀ p ∈ t.ps, aC p = true := by
 rw [eB] at h
 split at h
 · cases h
 split at h
 · rw [decide_eq_true_eq] at h
   have := List.eq_nil_of_length_eq_zero h
   intro p hp
   rw [this] at hp
   cases hp
 split at h
 · split at h
   · cases h
   · exact ik h
 split at h
 · split at h
   · cases h
   · exact ik h
 · cases h
theorem fq : ∀ (ps : List T) (s : Int), (∀ p ∈ ps, 0 ≤ aG p ∧ aG p ≤ 4097) → 0 ≤ s → s ≤ 4097 → 0 ≤ aZ ps s ∧ aZ ps s ≤ 4097
 | [], s, _, h0, h1 => by rw [aZ]; omega
 | p :: ps, s, h, h0, h1 => by
  rw [aZ]
  have := h p (List.mem_cons_self ..)
  exact fq ps _ (fun q hq => h q (List.mem_cons_of_mem _ hq)) (by omega) (by omega)
theorem iD {a b A B : Int} (a0 : 0 ≤ a) (b0 : 0 ≤ b) (hA : a ≤ A) (hB : b ≤ B) : 0 ≤ a * b ∧ a * b ≤ A * B :=
 ⟨Int.mul_nonneg a0 b0, Int.mul_le_mul hA hB b0 (by omega)⟩
theorem uq {t : T} (h : aC t = true) (s : Int) (h0 : 0 ≤ s) (h1 : s ≤ 4097) (hk : t.k ≠ 0) : 0 ≤ cq t.k t.mn t.mx s t.ps.length := by
 unfold cq
 rcases aJ h with h | h | h | h | h | h | h
 all_goals
  repeat' split
  all_goals first | omega | skip
 · have := iD (a := s) (b := t.mn + 1) (A := 4097) (B := 256) h0 (by omega) h1 (by omega); omega
 · have := iD (a := s) (b := t.mx) (A := 4097) (B := 255) h0 (by omega) h1 (by omega); omega
theorem bR (t : T) : aC t = true → 0 ≤ aG t ∧ aG t ≤ 4097 := by
 induction t using T.ind with
 | h t ih =>
  intro h
  rw [ft]
  have hl := fq t.ps 0 (fun p hp => ih p hp (aO h p hp)) (by omega) (by omega)
  split
  · omega
  · split
    · omega
    · have := uq h _ hl.1 hl.2 (by assumption)
      omega
theorem uo (t : T) : ∀ (w : World) (ok : Nat → Prop) (A : Option Addr) (c : Nat), aC t = true → NodeAt w ok t A c → (∀ b, ok b → b < w.heap.size) →
 Calls Tryz.prog 90 #[aB t A c] w fun e w' => e = .returned (.int .i64 (aG t)) ∧ Below w.heap.size w w' := by
 induction t using T.ind with
 | h t ih =>
  intro w ok A c hr hN hok
  have hlen := hN.len
  have hcs := aJ hr
  have Hps := hid (aO hr)
  have Hlb := hid (fun s (h0 : 0 ≤ s) (h1 : s ≤ 4097) (j : Nat) => fq (t.ps.drop j) s (fun p hp => bR p (aO hr p (List.mem_of_mem_drop hp))) h0 h1)
  have Heq := hid (ft t)
  have Hr := hid hr; clear hr
  have Hk : Hid True := trivial
  rcases hcs with ⟨hk, hn, hmn, hmx⟩ | ⟨hk, hn, hmn, hmx⟩ | ⟨hk, hn, hmn, hmx⟩ | ⟨hk, hn, hmn, hmx⟩ | ⟨hk, hn, hmn, hmx⟩ | ⟨hk, hn, hmn, hmx⟩ | ⟨hk, hn, h0, h1, h2, h3⟩
  · have Hres := hid (show aG t = 0 by rw [Heq.out, hk]; simp)
    clear hn hmn hmx
    go_enter Tryz.func90, Tryz.ntmps90
    go_wp2_with fail
    go_ret
    exact ⟨by rw [Hres.out]; rfl, nal⟩
  · have Hres := hid (show aG t = 1 by rw [Heq.out, hk]; simp)
    clear hn hmn hmx
    go_enter Tryz.func90, Tryz.ntmps90
    go_wp2_with fail
    go_ret
    exact ⟨by rw [Hres.out]; rfl, nal⟩
  · have Hres := hid (show aG t = 1 by rw [Heq.out, hk]; simp)
    clear hn hmn hmx
    go_enter Tryz.func90, Tryz.ntmps90
    go_wp2_with fail
    go_ret
    exact ⟨by rw [Hres.out]; rfl, nal⟩
  · have Hres := hid (show aG t = 1 by rw [Heq.out, hk]; simp)
    clear hn hmn hmx
    go_enter Tryz.func90, Tryz.ntmps90
    go_wp2_with fail
    go_ret
    exact ⟨by rw [Hres.out]; rfl, nal⟩
  · have Hk := hid hk
    have Hmn := hid hmn
    have Hmx := hid hmx
    go_enter Tryz.func90, Tryz.ntmps90
    go_wp2_with fail
    generalize hW : w.alloc _ = W0
    have hB0 : Below w.heap.size w W0 := by subst hW; exact nal
    have g0 : W0.cell? ⟨w.heap.size, 0, none⟩ = some (.int .i64 4) := by subst hW; simp [go_sem]
    have g5 : W0.cell? ⟨w.heap.size, 5, none⟩ = some (.int .i64 0) := by subst hW; simp [go_sem]
    have g6 : W0.cell? ⟨w.heap.size, 6, none⟩ = some (.int .i64 0) := by subst hW; simp [go_sem]
    have g7 : W0.cell? ⟨w.heap.size, 7, none⟩ = some (.slice A t.ps.length c) := by subst hW; simp [go_sem]
    have hsz : w.heap.size < W0.heap.size := by subst hW; simp
    clear hW
    go_loopg [3, 17] (t.ps.length) (fun n s i wr => ∃ (j : Nat) (x : Int), s = .int .i64 x ∧ i = .int .i64 j ∧ j + n = t.ps.length ∧ 0 ≤ x ∧ x ≤ 4097 ∧ aZ (t.ps.drop j) x = aZ t.ps 0 ∧ Below w.heap.size w wr ∧ w.heap.size < wr.heap.size ∧
     wr.cell? ⟨w.heap.size, 0, none⟩ = some (.int .i64 4) ∧ wr.cell? ⟨w.heap.size, 5, none⟩ = some (.int .i64 0) ∧ wr.cell? ⟨w.heap.size, 6, none⟩ = some (.int .i64 0) ∧ wr.cell? ⟨w.heap.size, 7, none⟩ = some (.slice A t.ps.length c))
    case atStart => exact ⟨0, 0, rfl, rfl, by omega, by omega, by omega, rfl, hB0, hsz, g0, g5, g6, g7⟩
    case round =>
     clear hB0 hsz g0 g5 g6 g7
     obtain ⟨j, x, rfl, rfl, hj, hx1, hx2, hm, hB, hs, g0, g5, g6, g7⟩ := hrel
     have Hm := hid hm; clear hm
     by_cases hlt : j < t.ps.length
     · obtain ⟨b, o, rfl, hb, hcell⟩ := hN.part (by omega)
       obtain ⟨A', c', h8, hNj⟩ := hcell j hlt
       have Hih := hid (ih t.ps[j] (List.getElem_mem _)); clear ih
       have Hrj := hid (Hps.out t.ps[j] (List.getElem_mem _))
       have hNj' := hNj.later hB hok
       obtain ⟨f0, f1, f2, f3, f4, f5, f6, f7⟩ := h8.mono (w' := wr) (fun o => hB.cell (p := ⟨b, o, none⟩) (hok b hb))
       have Hd := hid (bI hlt)
       clear hcell hN hNj
       generalize t.ps[j] = p at *
       have hbd := bR p Hrj.out
       go_wp2_with fail
       refine (Hih.out _ ok A' c' Hrj.out (hNj'.later nal (fun b h => by have := hok b h; omega)) (fun b h => by have := hok b h; simp; omega)).mono ?_
       rintro e w1 ⟨rfl, hb1⟩
       have hB1 : Below w.heap.size w w1 := (hB.alloc (by omega) _).trans (hb1.mono (by simp; omega))
       obtain ⟨hc1, hf1⟩ := ed hb1
       have hz1 := hb1.size
       have k0 := (hc1 w.heap.size 0 (by simp; omega)).trans ((World.cell?_alloc_lt _ _ _ hs).trans g0)
       have k5 := (hc1 w.heap.size 5 (by simp; omega)).trans ((World.cell?_alloc_lt _ _ _ hs).trans g5)
       have k6 := (hc1 w.heap.size 6 (by simp; omega)).trans ((World.cell?_alloc_lt _ _ _ hs).trans g6)
       have k7 := (hc1 w.heap.size 7 (by simp; omega)).trans ((World.cell?_alloc_lt _ _ _ hs).trans g7)
       clear hc1 hf1
       go_wp2_with fail
       all_goals
        go_roundg (gk - 1)
        case measure => omega
        case rel => exact ⟨j + 1, min 4097 (x + aG p), by go_num, by go_num, by omega, by omega, by omega, by rw [← Hm.out, Hd.out, aZ], hB1, by simp at hz1; omega, k0, k5, k6, k7⟩
     · have hx : x = aZ t.ps 0 := by rw [← Hm.out, List.drop_of_length_le (by omega), aZ]
       have Hres := hid (show aG t = min 4097 (cq 4 0 0 x t.ps.length) by rw [Heq.out, Hk.out, Hmn.out, Hmx.out, ← hx]; simp)
       clear hx
       go_wp2_with fail
       all_goals
        go_ret
        exact ⟨by rw [Hres.out]; simp only [cq]; go_num, hB⟩
  · have Hk := hid hk
    have Hmn := hid hmn
    have Hmx := hid hmx
    go_enter Tryz.func90, Tryz.ntmps90
    go_wp2_with fail
    generalize hW : w.alloc _ = W0
    have hB0 : Below w.heap.size w W0 := by subst hW; exact nal
    have g0 : W0.cell? ⟨w.heap.size, 0, none⟩ = some (.int .i64 5) := by subst hW; simp [go_sem]
    have g5 : W0.cell? ⟨w.heap.size, 5, none⟩ = some (.int .i64 0) := by subst hW; simp [go_sem]
    have g6 : W0.cell? ⟨w.heap.size, 6, none⟩ = some (.int .i64 0) := by subst hW; simp [go_sem]
    have g7 : W0.cell? ⟨w.heap.size, 7, none⟩ = some (.slice A t.ps.length c) := by subst hW; simp [go_sem]
    have hsz : w.heap.size < W0.heap.size := by subst hW; simp
    clear hW
    go_loopg [3, 17] (t.ps.length) (fun n s i wr => ∃ (j : Nat) (x : Int), s = .int .i64 x ∧ i = .int .i64 j ∧ j + n = t.ps.length ∧ 0 ≤ x ∧ x ≤ 4097 ∧ aZ (t.ps.drop j) x = aZ t.ps 0 ∧ Below w.heap.size w wr ∧ w.heap.size < wr.heap.size ∧
     wr.cell? ⟨w.heap.size, 0, none⟩ = some (.int .i64 5) ∧ wr.cell? ⟨w.heap.size, 5, none⟩ = some (.int .i64 0) ∧ wr.cell? ⟨w.heap.size, 6, none⟩ = some (.int .i64 0) ∧ wr.cell? ⟨w.heap.size, 7, none⟩ = some (.slice A t.ps.length c))
    case atStart => exact ⟨0, 0, rfl, rfl, by omega, by omega, by omega, rfl, hB0, hsz, g0, g5, g6, g7⟩
    case round =>
     clear hB0 hsz g0 g5 g6 g7
     obtain ⟨j, x, rfl, rfl, hj, hx1, hx2, hm, hB, hs, g0, g5, g6, g7⟩ := hrel
     have Hm := hid hm; clear hm
     by_cases hlt : j < t.ps.length
     · obtain ⟨b, o, rfl, hb, hcell⟩ := hN.part (by omega)
       obtain ⟨A', c', h8, hNj⟩ := hcell j hlt
       have Hih := hid (ih t.ps[j] (List.getElem_mem _)); clear ih
       have Hrj := hid (Hps.out t.ps[j] (List.getElem_mem _))
       have hNj' := hNj.later hB hok
       obtain ⟨f0, f1, f2, f3, f4, f5, f6, f7⟩ := h8.mono (w' := wr) (fun o => hB.cell (p := ⟨b, o, none⟩) (hok b hb))
       have Hd := hid (bI hlt)
       clear hcell hN hNj
       generalize t.ps[j] = p at *
       have hbd := bR p Hrj.out
       go_wp2_with fail
       refine (Hih.out _ ok A' c' Hrj.out (hNj'.later nal (fun b h => by have := hok b h; omega)) (fun b h => by have := hok b h; simp; omega)).mono ?_
       rintro e w1 ⟨rfl, hb1⟩
       have hB1 : Below w.heap.size w w1 := (hB.alloc (by omega) _).trans (hb1.mono (by simp; omega))
       obtain ⟨hc1, hf1⟩ := ed hb1
       have hz1 := hb1.size
       have k0 := (hc1 w.heap.size 0 (by simp; omega)).trans ((World.cell?_alloc_lt _ _ _ hs).trans g0)
       have k5 := (hc1 w.heap.size 5 (by simp; omega)).trans ((World.cell?_alloc_lt _ _ _ hs).trans g5)
       have k6 := (hc1 w.heap.size 6 (by simp; omega)).trans ((World.cell?_alloc_lt _ _ _ hs).trans g6)
       have k7 := (hc1 w.heap.size 7 (by simp; omega)).trans ((World.cell?_alloc_lt _ _ _ hs).trans g7)
       clear hc1 hf1
       go_wp2_with fail
       all_goals
        go_roundg (gk - 1)
        case measure => omega
        case rel => exact ⟨j + 1, min 4097 (x + aG p), by go_num, by go_num, by omega, by omega, by omega, by rw [← Hm.out, Hd.out, aZ], hB1, by simp at hz1; omega, k0, k5, k6, k7⟩
     · have hx : x = aZ t.ps 0 := by rw [← Hm.out, List.drop_of_length_le (by omega), aZ]
       have Hres := hid (show aG t = min 4097 (cq 5 0 0 x t.ps.length) by rw [Heq.out, Hk.out, Hmn.out, Hmx.out, ← hx]; simp)
       clear hx
       go_wp2_with fail
       all_goals
        go_ret
        exact ⟨by rw [Hres.out]; simp only [cq]; go_num, hB⟩
  · have Hk := hid hk
    have hn1 : t.ps.length ≤ 1 := by omega
    have hn2 : 1 ≤ t.ps.length := by omega
    clear hn
    go_enter Tryz.func90, Tryz.ntmps90
    go_wp2_with fail
    generalize hW : w.alloc _ = W0
    have hB0 : Below w.heap.size w W0 := by subst hW; exact nal
    have g0 : W0.cell? ⟨w.heap.size, 0, none⟩ = some (.int .i64 6) := by subst hW; simp [go_sem]
    have g5 : W0.cell? ⟨w.heap.size, 5, none⟩ = some (.int .i64 t.mn) := by subst hW; simp [go_sem]
    have g6 : W0.cell? ⟨w.heap.size, 6, none⟩ = some (.int .i64 t.mx) := by subst hW; simp [go_sem]
    have g7 : W0.cell? ⟨w.heap.size, 7, none⟩ = some (.slice A t.ps.length c) := by subst hW; simp [go_sem]
    have hsz : w.heap.size < W0.heap.size := by subst hW; simp
    clear hW
    go_loopg [3, 17] (t.ps.length) (fun n s i wr => ∃ (j : Nat) (x : Int), s = .int .i64 x ∧ i = .int .i64 j ∧ j + n = t.ps.length ∧ 0 ≤ x ∧ x ≤ 4097 ∧ aZ (t.ps.drop j) x = aZ t.ps 0 ∧ Below w.heap.size w wr ∧ w.heap.size < wr.heap.size ∧
     wr.cell? ⟨w.heap.size, 0, none⟩ = some (.int .i64 6) ∧ wr.cell? ⟨w.heap.size, 5, none⟩ = some (.int .i64 t.mn) ∧ wr.cell? ⟨w.heap.size, 6, none⟩ = some (.int .i64 t.mx) ∧ wr.cell? ⟨w.heap.size, 7, none⟩ = some (.slice A t.ps.length c))
    case atStart => exact ⟨0, 0, rfl, rfl, by omega, by omega, by omega, rfl, hB0, hsz, g0, g5, g6, g7⟩
    case round =>
     clear hB0 hsz g0 g5 g6 g7
     obtain ⟨j, x, rfl, rfl, hj, hx1, hx2, hm, hB, hs, g0, g5, g6, g7⟩ := hrel
     have Hm := hid hm; clear hm
     by_cases hlt : j < t.ps.length
     · obtain ⟨b, o, rfl, hb, hcell⟩ := hN.part (by omega)
       obtain ⟨A', c', h8, hNj⟩ := hcell j hlt
       have Hih := hid (ih t.ps[j] (List.getElem_mem _)); clear ih
       have Hrj := hid (Hps.out t.ps[j] (List.getElem_mem _))
       have hNj' := hNj.later hB hok
       obtain ⟨f0, f1, f2, f3, f4, f5, f6, f7⟩ := h8.mono (w' := wr) (fun o => hB.cell (p := ⟨b, o, none⟩) (hok b hb))
       have Hd := hid (bI hlt)
       clear hcell hN hNj
       generalize t.ps[j] = p at *
       have hbd := bR p Hrj.out
       go_wp2_with fail
       refine (Hih.out _ ok A' c' Hrj.out (hNj'.later nal (fun b h => by have := hok b h; omega)) (fun b h => by have := hok b h; simp; omega)).mono ?_
       rintro e w1 ⟨rfl, hb1⟩
       have hB1 : Below w.heap.size w w1 := (hB.alloc (by omega) _).trans (hb1.mono (by simp; omega))
       obtain ⟨hc1, hf1⟩ := ed hb1
       have hz1 := hb1.size
       have k0 := (hc1 w.heap.size 0 (by simp; omega)).trans ((World.cell?_alloc_lt _ _ _ hs).trans g0)
       have k5 := (hc1 w.heap.size 5 (by simp; omega)).trans ((World.cell?_alloc_lt _ _ _ hs).trans g5)
       have k6 := (hc1 w.heap.size 6 (by simp; omega)).trans ((World.cell?_alloc_lt _ _ _ hs).trans g6)
       have k7 := (hc1 w.heap.size 7 (by simp; omega)).trans ((World.cell?_alloc_lt _ _ _ hs).trans g7)
       clear hc1 hf1
       go_wp2_with fail
       all_goals
        go_roundg (gk - 1)
        case measure => omega
        case rel => exact ⟨j + 1, min 4097 (x + aG p), by go_num, by go_num, by omega, by omega, by omega, by rw [← Hm.out, Hd.out, aZ], hB1, by simp at hz1; omega, k0, k5, k6, k7⟩
     · have hx : x = aZ t.ps 0 := by rw [← Hm.out, List.drop_of_length_le (by omega), aZ]
       have Hres := hid (show aG t = min 4097 (cq 6 t.mn t.mx x t.ps.length) by rw [Heq.out, Hk.out, ← hx]; simp)
       clear hx
       by_cases hm : t.mx < 0
       · have hp := iD (a := x) (b := t.mn + 1) (A := 4097) (B := 256) hx1 (by omega) hx2 (by omega)
         have hK : cq 6 t.mn t.mx x t.ps.length = x * (t.mn + 1) + 1 := by unfold cq; rw [if_neg (by omega), if_pos rfl, if_pos hm]
         have HK := hid hK; clear hK
         obtain ⟨hp1, hp2⟩ := hp
         go_wp2_with fail
         all_goals
          go_ret
          exact ⟨by rw [Hres.out, HK.out]; go_num, hB⟩
       · have hp := iD (a := x) (b := t.mx) (A := 4097) (B := 255) hx1 (by omega) hx2 (by omega)
         have hK : cq 6 t.mn t.mx x t.ps.length = x * t.mx + t.mx - t.mn := by unfold cq; rw [if_neg (by omega), if_pos rfl, if_neg hm]
         have HK := hid hK; clear hK
         obtain ⟨hp1, hp2⟩ := hp
         go_wp2_with fail
         all_goals
          go_ret
          exact ⟨by rw [Hres.out, HK.out]; go_num, hB⟩
def eb (t : T) : Int := if br t ≠ 0 then 0 else if 4096 < 1 + aG t then 0 else 1 + aG t
def bP (t : T) : Int := if br t ≠ 0 then br t else if 4096 < 1 + aG t then 3 else 0
theorem dW {t : T} (h : br t = 0) : aC t = true ∧ eU t 2048 ≤ 2048 := by
 unfold br at h
 split at h
 · omega
 · split at h
   · exact ⟨by assumption, by omega⟩
   · omega
theorem tL (t : T) (w : World) (ok : Nat → Prop) (A : Option Addr) (c : Nat) (hN : NodeAt w ok t A c) (hok : ∀ b, ok b → b < w.heap.size) :
 Calls Tryz.prog 72 #[aB t A c] w fun e w' => e = .returned (.tuple #[.int .i64 (eb t), .int .i64 (bP t)]) ∧ Below w.heap.size w w' := by
 have hlen := hN.len
 go_enter Tryz.func72, Tryz.ntmps72
 go_wp2_with fail
 have hB0 : Below w.heap.size w (w.alloc (.cells #[.int .i64 t.k, .int .u64 t.s0, .int .u64 t.s1, .int .u64 t.s2, .int .u64 t.s3, .int .i64 t.mn, .int .i64 t.mx, .slice A t.ps.length c] 48)) := nal
 refine (il t _ ok A c (hN.later hB0 hok) (fun b h => by have := hok b h; simp; omega)).mono ?_
 rintro e w1 ⟨rfl, hb1⟩
 have hB1 : Below w.heap.size w w1 := hB0.trans (hb1.mono (by simp))
 have hN1 := hN.later hB1 hok
 have hs1 := hB1.size
 obtain ⟨hc1, hf1⟩ := ed hb1
 have g0 := hc1 w.heap.size 0 (by simp)
 have g1 := hc1 w.heap.size 1 (by simp)
 have g2 := hc1 w.heap.size 2 (by simp)
 have g3 := hc1 w.heap.size 3 (by simp)
 have g4 := hc1 w.heap.size 4 (by simp)
 have g5 := hc1 w.heap.size 5 (by simp)
 have g6 := hc1 w.heap.size 6 (by simp)
 have g7 := hc1 w.heap.size 7 (by simp)
 simp only [World.cell?_alloc_new, List.getElem?_toArray] at g0 g1 g2 g3 g4 g5 g6 g7
 clear hc1 hf1
 by_cases h : br t = 0
 · have hr := (dW h).1
   have hbd := bR t hr
   have hb : (br t != 0) = false := by rw [h]; rfl
   have H := hid h; clear h
   go_wp2_with fail
   refine (uo t _ ok A c hr hN1 (fun b h => by have := hok b h; omega)).mono ?_
   rintro e w2 ⟨rfl, hb2⟩
   have hB2 : Below w.heap.size w w2 := hB1.trans (hb2.mono (by omega))
   by_cases h2 : 4096 < 1 + aG t
   · have hk : eb t = 0 := by rw [eb, if_neg (by simp [H.out]), if_pos h2]
     have he : bP t = 3 := by rw [bP, if_neg (by simp [H.out]), if_pos h2]
     have Hk := hid hk; have He := hid he; clear hk he
     go_wp2_with fail
     go_ret2
     exact ⟨by rw [Hk.out, He.out]; rfl, hB2⟩
   · have hk : eb t = 1 + aG t := by rw [eb, if_neg (by simp [H.out]), if_neg h2]
     have he : bP t = 0 := by rw [bP, if_neg (by simp [H.out]), if_neg h2]
     have Hk := hid hk; have He := hid he; clear hk he
     go_wp2_with fail
     go_ret2
     exact ⟨by rw [Hk.out, He.out]; rfl, hB2⟩
 · have hb : (br t != 0) = true := by rw [bne_iff_ne]; exact h
   have hk : eb t = 0 := by rw [eb, if_pos h]
   have he : bP t = br t := by rw [bP, if_pos h]
   have Hk := hid hk; have He := hid he; clear hk he h
   go_wp2_with fail
   go_ret2
   exact ⟨by rw [Hk.out, He.out]; rfl, hB1⟩
abbrev LF := Int → List St → Int × List St
def aL (nx ot : Int) : St := ⟨2, 0, 0, 0, 0, nx, ot⟩
def aF : List Int → List St → Int × List St
 | [], l => (0, l)
 | [x], l => (x, l)
 | b :: bs, l => ((aF bs l).2.length, (aF bs l).2 ++ [aL b (aF bs l).1])
def da (p : LF) (tu : Int) : Nat → Int → List St → Int × List St
 | 0, t, l => (t, l)
 | n + 1, t, l => da p tu n (p t l).2.length ((p t l).2 ++ [aL (p t l).1 tu])
def dE (p : LF) : Nat → Int → List St → Int × List St
 | 0, t, l => (t, l)
 | n + 1, t, l => if (p t l).2.length = l.length then p t l else dE p n (p t l).1 (p t l).2
def setNx (l : List St) (i : Nat) (x : Int) : List St := l.modify i fun s => { s with nx := x }
def bT (p : LF) (tu : Int) (l : List St) : Int × List St :=
 (l.length, setNx (p l.length (l ++ [aL 0 tu])).2 l.length (p l.length (l ++ [aL 0 tu])).1)
def iN (mn mx : Int) (p : LF) (tu : Int) (l : List St) : Int × List St :=
 let a := if mx < 0 then bT p tu l else da p tu (mx - mn).toNat tu l
 dE p mn.toNat a.1 a.2
mutual
def ax : T → LF
 | .mk k s0 s1 s2 s3 mn mx ps, tu, l =>
  if k = 1 then (l.length, l ++ [⟨1, s0, s1, s2, s3, tu, 0⟩])
  else if k = 2 then (l.length, l ++ [⟨3, 0, 0, 0, 0, tu, 0⟩])
  else if k = 3 then (l.length, l ++ [⟨4, 0, 0, 0, 0, tu, 0⟩])
  else if k = 4 then dJ ps tu l
  else if k = 5 then aF (cF ps tu l).1 (cF ps tu l).2
  else if k = 6 then iN mn mx (ec ps) tu l
  else (tu, l)
def dJ : List T → LF
 | [], tu, l => (tu, l)
 | p :: ps, tu, l => ax p (dJ ps tu l).1 (dJ ps tu l).2
def cF : List T → Int → List St → List Int × List St
 | [], tu, l => ([], l)
 | p :: ps, tu, l => ((ax p tu l).1 :: (cF ps tu (ax p tu l).2).1, (cF ps tu (ax p tu l).2).2)
def ec : List T → LF
 | [], tu, l => (tu, l)
 | p :: _, tu, l => ax p tu l
end
theorem cd (t : T) (tu : Int) (l : List St) : ax t tu l =
 if t.k = 1 then ((l.length : Int), l ++ [⟨1, t.s0, t.s1, t.s2, t.s3, tu, 0⟩])
 else if t.k = 2 then ((l.length : Int), l ++ [⟨3, 0, 0, 0, 0, tu, 0⟩])
 else if t.k = 3 then ((l.length : Int), l ++ [⟨4, 0, 0, 0, 0, tu, 0⟩])
 else if t.k = 4 then dJ t.ps tu l
 else if t.k = 5 then aF (cF t.ps tu l).1 (cF t.ps tu l).2
 else if t.k = 6 then iN t.mn t.mx (ec t.ps) tu l
 else (tu, l) := by cases t; rw [ax]; rfl
def jb (p : LF) : Prop := ∀ t l, l.length ≤ (p t l).2.length
theorem cL : ∀ (bs : List Int) (l : List St), (aF bs l).2.length = l.length + (bs.length - 1)
 | [], l => by simp [aF]
 | [x], l => by simp [aF]
 | a :: b :: bs, l => by
  have := cL (b :: bs) l
  rw [aF]
  · simp only [List.length_append, this, List.length_cons, List.length_nil]; omega
  · simp
theorem dO {p : LF} (hp : jb p) (tu : Int) : ∀ n, jb (da p tu n)
 | 0, t, l => by simp [da]
 | n + 1, t, l => by
  rw [da]
  have h1 := hp t l
  have h2 := dO hp tu n (p t l).2.length ((p t l).2 ++ [aL (p t l).1 tu])
  simp only [List.length_append, List.length_cons, List.length_nil] at h2
  omega
theorem bG {p : LF} (hp : jb p) : ∀ n, jb (dE p n)
 | 0, t, l => by simp [dE]
 | n + 1, t, l => by
  rw [dE]
  split
  · exact hp t l
  · have h1 := hp t l
    have h2 := bG hp n (p t l).1 (p t l).2
    omega
theorem oC {p : LF} (hp : jb p) (tu : Int) (l : List St) : l.length + 1 ≤ (bT p tu l).2.length := by
 have h := hp l.length (l ++ [aL 0 tu])
 simp only [bT, setNx, List.length_modify, List.length_append, List.length_cons, List.length_nil] at h ⊢
 omega
theorem qP {p : LF} (hp : jb p) (mn mx : Int) : jb (iN mn mx p) := fun tu l => by
 unfold iN
 simp only
 split
 · have := oC hp tu l
   have := bG hp mn.toNat (bT p tu l).1 (bT p tu l).2
   omega
 · have := dO hp tu (mx - mn).toNat tu l
   have := bG hp mn.toNat (da p tu (mx - mn).toNat tu l).1 (da p tu (mx - mn).toNat tu l).2
   omega
theorem kP : ∀ ps : List T, (∀ p ∈ ps, jb (ax p)) → jb (dJ ps)
 | [], _, tu, l => by simp [dJ]
 | p :: ps, h, tu, l => by
  rw [dJ]
  have h1 := kP ps (fun q hq => h q (List.mem_cons_of_mem _ hq)) tu l
  have h2 := h p (List.mem_cons_self ..) (dJ ps tu l).1 (dJ ps tu l).2
  omega
theorem fR : ∀ ps : List T, (∀ p ∈ ps, jb (ax p)) → ∀ tu l, l.length ≤ (cF ps tu l).2.length
 | [], _, tu, l => by simp [cF]
 | p :: ps, h, tu, l => by
  rw [cF]
  have h1 := h p (List.mem_cons_self ..) tu l
  have h2 := fR ps (fun q hq => h q (List.mem_cons_of_mem _ hq)) tu (ax p tu l).2
  simp only
  omega
theorem eM : ∀ (ps : List T) (tu : Int) (l : List St), (cF ps tu l).1.length = ps.length
 | [], tu, l => by simp [cF]
 | p :: ps, tu, l => by rw [cF]; simp [eM ps]
theorem dB (t : T) : jb (ax t) := by
 induction t using T.ind with
 | h t ih =>
  intro tu l
  rw [cd]
  split
  · simp
  split
  · simp
  split
  · simp
  split
  · exact kP t.ps ih tu l
  split
  · rw [cL]
    have := fR t.ps ih tu l
    omega
  split
  · refine qP (fun tu l => ?_) _ _ tu l
    cases h : t.ps with
    | nil => simp [ec]
    | cons p ps => rw [ec]; exact ih p (by rw [h]; exact List.mem_cons_self ..) tu l
  · exact Nat.le_refl _
def xQ (w : World) (L base : Nat) (v : Value) (r : Int × List St) (e : Ending) (w' : World) : Prop :=
 e = .returned (.int .i64 r.1) ∧ ∃ v', Layer w' L base v' r.2 ∧ aP w v v' ∧ Lays L v.ownBlock w w'
def OkL (w : World) (L : Nat) (v : Value) (ok : Nat → Prop) : Prop := ∀ b, ok b → b < w.heap.size ∧ b ≠ L ∧ some b ≠ v.ownBlock
def bQ (f : Nat) (t : T) : Prop := ∀ (w : World) (ok : Nat → Prop) (A : Option Addr) (c L base : Nat) (v : Value) (l : List St) (tu : Int), NodeAt w ok t A c → OkL w L v ok → Layer w L base v l → (ax t tu l).2.length ≤ 1000000 →
 Calls Tryz.prog f #[.pointer (some ⟨L, 0, none⟩), aB t A c, .int .i64 tu] w (xQ w L base v (ax t tu l))
theorem OkL.later {w w' : World} {L : Nat} {v v' : Value} {ok : Nat → Prop} (h : OkL w L v ok) (hs : w.heap.size ≤ w'.heap.size) (hm : aP w v v') : OkL w' L v' ok := fun b hb => by
 obtain ⟨h1, h2, h3⟩ := h b hb
 refine ⟨by omega, h2, fun e => ?_⟩
 rcases hm with hm | ⟨g, hg, hle⟩
 · exact h3 (e.trans hm)
 · rw [hg] at e; injection e with e; omega
theorem NodeAt.lays {w w' : World} {L : Nat} {v : Value} {ok : Nat → Prop} {t : T} {A : Option Addr} {c : Nat} (h : NodeAt w ok t A c) (ho : OkL w L v ok) (hl : Lays L v.ownBlock w w') : NodeAt w' ok t A c :=
 h.mono fun b hb => ⟨hb, fun o => hl.cell (ho b hb).1 (ho b hb).2.1 (ho b hb).2.2⟩
theorem OkL.alloc {w : World} {L : Nat} {v : Value} {ok : Nat → Prop} (h : OkL w L v ok) (o : Obj) : OkL (w.alloc o) L v ok := h.later (by simp) (aP.refl _ _)
theorem Layer.alloc {w : World} {L base : Nat} {v : Value} {l : List St} (h : Layer w L base v l) (o : Obj) : Layer (w.alloc o) L base v l := h.later nal
theorem Lays.alloc (L : Nat) (r : Option Nat) (w : World) (o : Obj) : Lays L r w (w.alloc o) := .of_below nal
theorem NodeAt.alloc {w : World} {ok : Nat → Prop} {t : T} {A : Option Addr} {c : Nat} (h : NodeAt w ok t A c) (ho : ∀ b, ok b → b < w.heap.size) (o : Obj) : NodeAt (w.alloc o) ok t A c := h.later nal ho
theorem oN (t : T) (hk : t.k = 0) : bQ 107 t := by
 intro w ok A c L base v l tu hN ho hL hlen
 have hr : ax t tu l = (tu, l) := by rw [cd]; simp [hk]
 have Hr := hid hr; clear hr hk
 go_enter Tryz.func107, Tryz.ntmps107
 go_wp2_with fail
 go_ret
 rw [Hr.out]
 exact ⟨rfl, v, hL.alloc _, aP.refl _ _, Lays.alloc _ _ _ _⟩
theorem wY (t : T) (hk : t.k = 1) : bQ 108 t := by
 intro w ok A c L base v l tu hN ho hL hlen
 have hr : ax t tu l = ((l.length : Int), l ++ [⟨1, t.s0, t.s1, t.s2, t.s3, tu, 0⟩]) := by rw [cd]; simp [hk]
 rw [hr] at hlen
 have Hr := hid hr; clear hr hk
 simp only [List.length_append, List.length_cons, List.length_nil] at hlen
 go_enter Tryz.func108, Tryz.ntmps108
 go_wp2_with fail
 refine (dU _ L base v l ⟨1, t.s0, t.s1, t.s2, t.s3, tu, 0⟩ (hL.alloc _) (by omega)).mono ?_
 rintro e w1 ⟨rfl, v1, hL1, hm1, hl1⟩
 go_wp2_with fail
 go_ret
 rw [Hr.out]
 exact ⟨rfl, v1, hL1, (aP.refl w v).trans (by simp) hm1, (Lays.alloc _ _ _ _).trans (aP.refl _ _) hl1⟩
theorem nt (t : T) (hk : t.k = 2 ∨ t.k = 3) : bQ 109 t := by
 intro w ok A c L base v l tu hN ho hL hlen
 rcases hk with hk | hk
 · have hr : ax t tu l = ((l.length : Int), l ++ [⟨3, 0, 0, 0, 0, tu, 0⟩]) := by rw [cd]; simp [hk]
   rw [hr] at hlen
   have Hr := hid hr; clear hr
   simp only [List.length_append, List.length_cons, List.length_nil] at hlen
   go_enter Tryz.func109, Tryz.ntmps109
   go_wp2_with fail
   refine (dU _ L base v l ⟨3, 0, 0, 0, 0, tu, 0⟩ (hL.alloc _) (by omega)).mono ?_
   rintro e w1 ⟨rfl, v1, hL1, hm1, hl1⟩
   go_wp2_with fail
   go_ret
   rw [Hr.out]
   exact ⟨rfl, v1, hL1, (aP.refl w v).trans (by simp) hm1, (Lays.alloc _ _ _ _).trans (aP.refl _ _) hl1⟩
 · have hr : ax t tu l = ((l.length : Int), l ++ [⟨4, 0, 0, 0, 0, tu, 0⟩]) := by rw [cd]; simp [hk]
   rw [hr] at hlen
   have Hr := hid hr; clear hr
   simp only [List.length_append, List.length_cons, List.length_nil] at hlen
   go_enter Tryz.func109, Tryz.ntmps109
   go_wp2_with fail
   refine (dU _ L base v l ⟨4, 0, 0, 0, 0, tu, 0⟩ (hL.alloc _) (by omega)).mono ?_
   rintro e w1 ⟨rfl, v1, hL1, hm1, hl1⟩
   go_wp2_with fail
   go_ret
   rw [Hr.out]
   exact ⟨rfl, v1, hL1, (aP.refl w v).trans (by simp) hm1, (Lays.alloc _ _ _ _).trans (aP.refl _ _) hl1⟩
inductive LentAt (w : World) (ok : Nat → Prop) : T → Option Addr → Nat → Prop where
 | mk (t : T) (g : Nat) (c : Nat) (As : Nat → Option Addr) (cs : Nat → Nat) :
  t.ps.length + 3 ≤ c → t.ps.length ≤ 1000000 → ok g →
  (∀ i p, t.ps[i]? = some p → At8 w g (i * 8) p (As i) (cs i)) →
  (∀ k, k < 3 → w.cell? ⟨g, (t.ps.length + k) * 8, none⟩ = some (.int .i64 (-77)) ∧ w.cell? ⟨g, (t.ps.length + k) * 8 + 7, none⟩ = some (.slice none 0 0)) →
  (∀ i p, t.ps[i]? = some p → LentAt w ok p (As i) (cs i)) →
  LentAt w ok t (some ⟨g, 0, none⟩) c
def Blk (w : World) (b : Nat) (cs : Array Value) : Prop := w.heap[b]? = some (.cells cs 48 (0, 0))
mutual
def ia (top : Int) : T → Int
 | .mk _ _ _ _ _ _ _ ps => min (fU top ps 1) (top + 1)
def fU (top : Int) : List T → Int → Int
 | [], s => s
 | p :: ps, s => if s ≤ top then fU top ps (s + ia top p) else s
end
theorem iT (top : Int) (t : T) : ia top t = min (fU top t.ps 1) (top + 1) := by cases t; rw [ia]; rfl
theorem vF (top : Int) (h : 0 ≤ top) (ps : List T) (ih : ∀ p ∈ ps, 1 ≤ ia top p) : ∀ s, 1 ≤ s → 1 ≤ fU top ps s := by
 induction ps with
 | nil => intro s hs; simpa [fU] using hs
 | cons p ps ih2 =>
  intro s hs
  rw [fU]
  split
  · exact ih2 (fun q hq => ih q (List.mem_cons_of_mem _ hq)) _ (by have := ih p (List.mem_cons_self ..); omega)
  · exact hs
theorem vG (top : Int) (h : 0 ≤ top) (t : T) : 1 ≤ ia top t ∧ ia top t ≤ top + 1 := by
 induction t using T.ind with
 | h t ih =>
  rw [iT]
  have := vF top h t.ps (fun p hp => (ih p hp).1) 1 (by omega)
  omega
theorem rp (top : Int) (ps : List T) (s : Int) (h : ¬ s ≤ top) : fU top ps s = s := by
 cases ps with
 | nil => rw [fU]
 | cons p ps => rw [fU, if_neg h]
mutual
def aW : T → Int
 | .mk _ _ _ _ _ _ _ ps => 1 + az ps
def az : List T → Int
 | [] => 0
 | p :: ps => aW p + az ps
end
theorem eE (t : T) : aW t = 1 + az t.ps := by cases t; rw [aW]; rfl
theorem eJ (ps : List T) (ih : ∀ p ∈ ps, 1 ≤ aW p) : 0 ≤ az ps := by
 induction ps with
 | nil => rw [az]; omega
 | cons p ps ih2 =>
  rw [az]
  have := ih p (List.mem_cons_self ..)
  have := ih2 (fun q hq => ih q (List.mem_cons_of_mem _ hq))
  omega
theorem bK (t : T) : 1 ≤ aW t := by
 induction t using T.ind with
 | h t ih => rw [eE]; have := eJ t.ps ih; omega
theorem tQ (top : Int) (h0 : 0 ≤ top) (ps : List T) (ih : ∀ p ∈ ps, ia top p = min (aW p) (top + 1)) : ∀ s, 1 ≤ s → min (fU top ps s) (top + 1) = min (s + az ps) (top + 1) := by
 induction ps with
 | nil => intro s hs; rw [fU, az]; omega
 | cons p ps ih2 =>
  intro s hs
  rw [fU, az]
  have h1 := eJ ps (fun q _ => bK q)
  have h2 := bK p
  split
  · have h3 := ih p (List.mem_cons_self ..)
    rw [ih2 (fun q hq => ih q (List.mem_cons_of_mem _ hq)) _ (by omega), h3]
    omega
  · omega
theorem tR (top : Int) (h0 : 0 ≤ top) (t : T) : ia top t = min (aW t) (top + 1) := by
 induction t using T.ind with
 | h t ih => rw [iT, tQ top h0 t.ps ih 1 (by omega), eE]
theorem tg (ps : List T) (ih : ∀ p ∈ ps, ∀ most, 0 ≤ most → eU p most = min (aW p) (most + 1)) : ∀ s most, 1 ≤ s → 0 ≤ most → min (eX ps s most) (most + 1) = min (s + az ps) (most + 1) := by
 induction ps with
 | nil => intro s most hs hm; rw [eX, az]; omega
 | cons p ps ih2 =>
  intro s most hs hm
  rw [eX, az]
  have h1 := eJ ps (fun q _ => bK q)
  have h2 := bK p
  split
  · have h3 := ih p (List.mem_cons_self ..) (most - s) (by omega)
    rw [ih2 (fun q hq => ih q (List.mem_cons_of_mem _ hq)) _ _ (by omega) hm, h3]
    omega
  · omega
theorem ju (t : T) : ∀ most, 0 ≤ most → eU t most = min (aW t) (most + 1) := by
 induction t using T.ind with
 | h t ih =>
  intro most hm
  have h1 := pB t most hm
  have h2 := tg t.ps ih 1 most (by omega) hm
  rw [iP] at h1 ⊢
  rw [eE]
  omega
theorem wb (t : T) : ia 2048 t = eU t 2048 := by rw [tR 2048 (by omega), ju t 2048 (by omega)]
theorem qQ (t : T) : ∀ (w : World) (ok : Nat → Prop) (A : Option Addr) (c : Nat), NodeAt w ok t A c → (∀ b, ok b → b < w.heap.size) →
 Calls Tryz.prog 70 #[aB t A c] w fun e w' => e = .returned (.int .i64 (ia 2048 t)) ∧ Below w.heap.size w w' := by
 induction t using T.ind with
 | h t ih =>
  intro w ok A c hN hok
  have hlen := hN.len
  go_enter Tryz.func70, Tryz.ntmps70
  go_wp2_with fail
  generalize hW : w.alloc _ = W0
  have hB0 : Below w.heap.size w W0 := by subst hW; exact nal
  have hc7 : W0.cell? ⟨w.heap.size, 7, none⟩ = some (.slice A t.ps.length c) := by subst hW; simp [go_sem]
  have hsz : w.heap.size < W0.heap.size := by subst hW; simp
  clear hW
  go_loopg [3, 4] (t.ps.length) (fun n s i wr => ∃ (j : Nat) (x : Int), s = .int .i64 x ∧ i = .int .i64 j ∧ j + n = t.ps.length ∧ 1 ≤ x ∧ x ≤ 4100 ∧ fU 2048 (t.ps.drop j) x = fU 2048 t.ps 1 ∧ Below w.heap.size w wr ∧ w.heap.size < wr.heap.size ∧ wr.cell? ⟨w.heap.size, 7, none⟩ = some (.slice A t.ps.length c))
  case atStart => exact ⟨0, 1, rfl, rfl, by omega, by omega, by omega, rfl, hB0, hsz, hc7⟩
  case round =>
   obtain ⟨j, x, rfl, rfl, hj, hx1, hx2, hm, hB, hs, hc7'⟩ := hrel
   have Hm := hid hm; clear hm
   clear hc7 hB0 hsz
   by_cases hlt : j < t.ps.length
   · obtain ⟨b, o, rfl, hb, hcell⟩ := hN.part (by omega)
     obtain ⟨A', c', h8, hNj⟩ := hcell j hlt
     have Hih := hid (ih t.ps[j] (List.getElem_mem _)); clear ih
     have hbd := vG 2048 (by omega) t.ps[j]
     have hNj' := hNj.later hB hok
     obtain ⟨f0, f1, f2, f3, f4, f5, f6, f7⟩ := h8.mono (w' := wr) (fun o => hB.cell (p := ⟨b, o, none⟩) (hok b hb))
     have Hd := hid (bI hlt)
     clear hcell hN hNj
     generalize t.ps[j] = p at *
     by_cases hx : x ≤ 2048
     · go_wp2_with fail
       refine (Hih.out wr ok A' c' hNj' (fun b h => by have := hok b h; omega)).mono ?_
       rintro e w1 ⟨rfl, hb1⟩
       obtain ⟨hc1, hf1⟩ := ed hb1
       have hz1 := hb1.size
       go_wp2_with fail
       go_roundg (gk - 1)
       case measure => omega
       case rel => exact ⟨j + 1, x + ia 2048 p, rfl, by go_num, by omega, by omega, by omega, by rw [← Hm.out, Hd.out, fU, if_pos hx], hB.trans (hb1.mono (by omega)), by omega, (hc1 _ _ hs).trans hc7'⟩
     · have hres : min x (2049 : Int) = ia 2048 t := by rw [iT, ← Hm.out, rp _ _ _ hx]; rfl
       have Hres := hid hres; clear hres
       go_wp2_with fail
       all_goals go_ret
       all_goals exact ⟨by rw [← Hres.out]; go_num, hB⟩
   · have hres : min x (2049 : Int) = ia 2048 t := by rw [iT, ← Hm.out, List.drop_of_length_le (by omega), fU]; rfl
     have Hres := hid hres; clear hres
     go_wp2_with fail
     all_goals go_ret
     all_goals exact ⟨by rw [← Hres.out]; go_num, hB⟩
theorem tP (t : T) (hl : ¬ ks t) (w : World) (ok : Nat → Prop) (A : Option Addr) (c : Nat) (hN : NodeAt w ok t A c) (hok : ∀ b, ok b → b < w.heap.size) :
 Calls Tryz.prog 71 #[aB t A c] w fun e w' => e = .returned (.bool (aC t)) ∧ Below w.heap.size w w' := by
 have hlen := hN.len
 have Hl := hid hl; clear hl
 go_enter Tryz.func71, Tryz.ntmps71
 go_wp2_with fail
 all_goals (first
  | (go_ret; refine ⟨?_, nal⟩; refine congrArg (fun b => Ending.returned (.bool b)) ?_; exact Eq.symm (by
   rw [eB]
   go_tidy
   simp only [jp, bne_iff_ne, ne_eq, beq_iff_eq, beq_eq_false_iff_ne, bne_eq_false_iff_eq, Bool.not_eq_true, Bool.not_eq_true', Bool.not_eq_false'] at *
   repeat' split
   all_goals first
    | rfl
    | (exfalso; omega)
    | (rw [Bool.eq_iff_iff, decide_eq_true_iff, beq_iff_eq]; omega)))
  | (exfalso
     refine Hl.out ?_
     unfold ks
     go_tidy
     simp only [jp, bne_iff_ne, ne_eq, beq_iff_eq, beq_eq_false_iff_ne, bne_eq_false_iff_eq, Bool.not_eq_true, Bool.not_eq_true', Bool.not_eq_false'] at *
     omega))
theorem xx (t : T) : ∀ (w : World) (ok : Nat → Prop) (A : Option Addr) (c : Nat), NodeAt w ok t A c → (∀ b, ok b → b < w.heap.size) →
 Calls Tryz.prog 71 #[aB t A c] w fun e w' => e = .returned (.bool (aC t)) ∧ Below w.heap.size w w' := by
 induction t using T.ind with
 | h t ih =>
  intro w ok A c hN hok
  by_cases hl : ks t
  case neg => exact tP t hl w ok A c hN hok
  have hlen := hN.len
  have Hloop := hid (iF hl)
  unfold ks at hl
  rcases hl with ⟨hk, hmn, hmx, hq, hn⟩ | ⟨hk, hmn, hmx, hq, hn⟩ | ⟨hk, hmn, hmn', hmx, hq, hn⟩ | ⟨hk, hmn, hmn', hmx, hq, hn⟩
  case' inr.inr.inr =>
   have h255 : t.mn ≤ 255 := by omega
   have hm1 : (t.mx != -1) = true := by rw [bne_iff_ne]; omega
  all_goals
   go_enter Tryz.func71, Tryz.ntmps71
   go_wp2_with fail
  all_goals
   have hn' := hid hn
   clear hk hmn hmx hq hn
   generalize hW : w.alloc _ = W0
   have hB0 : Below w.heap.size w W0 := by subst hW; exact nal
   have hsz : w.heap.size < W0.heap.size := by subst hW; simp
   have hc7 : W0.cell? ⟨w.heap.size, 7, none⟩ = some (.slice A t.ps.length c) := by subst hW; simp [go_sem]; try (have := hn'.out; omega)
   clear hW
   go_loopg [5] (t.ps.length) (fun n i wr => ∃ (j : Nat), i = .int .i64 j ∧ j + n = t.ps.length ∧ cD (t.ps.drop j) = cD t.ps ∧ Below w.heap.size w wr ∧ w.heap.size < wr.heap.size ∧ wr.cell? ⟨w.heap.size, 7, none⟩ = some (.slice A t.ps.length c))
   case atStart => exact ⟨0, rfl, by omega, rfl, hB0, hsz, hc7⟩
   case round =>
    obtain ⟨j, rfl, hj, hm, hB, hz, hc7'⟩ := hrel
    have Hm := hid hm; clear hm
    have hs := hB.size
    clear hB0 hc7 hsz
    by_cases hlt : j < t.ps.length
    · obtain ⟨b, o, rfl, hb, hcell⟩ := hN.part (by omega)
      obtain ⟨A', c', h8, hNj⟩ := hcell j hlt
      have Hih := hid (ih t.ps[j] (List.getElem_mem _)); clear ih
      have hNj' := hNj.later hB hok
      obtain ⟨f0, f1, f2, f3, f4, f5, f6, f7⟩ := h8.mono (w' := wr) (fun o => hB.cell (p := ⟨b, o, none⟩) (hok b hb))
      have Hd := hid (bI hlt)
      clear hcell hN hNj
      generalize t.ps[j] = p at *
      first
       | (have hj1 : (j : Int) < 1 := by (have := hn'.out; omega)
          go_wp2_with fail)
       | go_wp2_with fail
      refine (Hih.out _ ok A' c' hNj' (fun b h => by have := hok b h; omega)).mono ?_
      rintro e w1 ⟨rfl, hb1⟩
      have hB1 : Below w.heap.size w w1 := hB.trans (hb1.mono (by omega))
      have hz1 := hb1.size
      have hc1 := (ed hb1).1 _ 7 hz
      cases hp : aC p with
      | true =>
       have Hp := hid hp; clear hp
       go_wp2_with fail
       go_roundg (gk - 1)
       case measure => omega
       case rel => exact ⟨j + 1, by go_num, by omega, by rw [← Hm.out, Hd.out, cD, Hp.out, Bool.true_and], hB1, by omega, hc1.trans hc7'⟩
      | false =>
       have hres : aC t = false := by rw [Hloop.out, ← Hm.out, Hd.out, cD, hp, Bool.false_and]
       have Hres := hid hres; clear hres hp
       go_wp2_with fail
       go_ret
       exact ⟨by rw [Hres.out]; rfl, hB1⟩
    · have hres : aC t = true := by rw [Hloop.out, ← Hm.out, List.drop_of_length_le (by omega), cD]
      have Hres := hid hres; clear hres
      first
       | (have hj1 : ¬ (j : Int) < 1 := by (have := hn'.out; omega)
          go_wp2_with fail)
       | go_wp2_with fail
      go_ret
      exact ⟨by rw [Hres.out]; rfl, hB⟩
theorem nP (t : T) (w : World) (ok : Nat → Prop) (A : Option Addr) (c : Nat) (hN : NodeAt w ok t A c) (hok : ∀ b, ok b → b < w.heap.size) :
 Calls Tryz.prog 50 #[aB t A c] w fun e w' => e = .returned (.int .i64 (br t)) ∧ Below w.heap.size w w' := by
 have hlen := hN.len
 go_enter Tryz.func50, Tryz.ntmps50
 go_wp2_with fail
 have hB0 : Below w.heap.size w (w.alloc (.cells #[.int .i64 t.k, .int .u64 t.s0, .int .u64 t.s1, .int .u64 t.s2, .int .u64 t.s3, .int .i64 t.mn, .int .i64 t.mx, .slice A t.ps.length c] 48)) := nal
 refine (qQ t _ ok A c (hN.later hB0 hok) (fun b h => by have := hok b h; simp; omega)).mono ?_
 rw [wb]
 rintro e w1 ⟨rfl, hb1⟩
 have hB1 : Below w.heap.size w w1 := hB0.trans (hb1.mono (by simp))
 have hN1 := hN.later hB1 hok
 have hs1 := hB1.size
 obtain ⟨hc1, hf1⟩ := ed hb1
 have g0 := hc1 w.heap.size 0 (by simp)
 have g1 := hc1 w.heap.size 1 (by simp)
 have g2 := hc1 w.heap.size 2 (by simp)
 have g3 := hc1 w.heap.size 3 (by simp)
 have g4 := hc1 w.heap.size 4 (by simp)
 have g5 := hc1 w.heap.size 5 (by simp)
 have g6 := hc1 w.heap.size 6 (by simp)
 have g7 := hc1 w.heap.size 7 (by simp)
 simp only [World.cell?_alloc_new, List.getElem?_toArray] at g0 g1 g2 g3 g4 g5 g6 g7
 clear hc1 hf1
 by_cases h : 2048 < eU t 2048
 · have hres : br t = 3 := by rw [br, if_pos h]
   have Hres := hid hres; clear hres
   go_wp2_with fail
   go_ret
   exact ⟨by rw [Hres.out]; rfl, hB1⟩
 · go_wp2_with fail
   refine (xx t _ ok A c hN1 (fun b h => by have := hok b h; omega)).mono ?_
   rintro e w2 ⟨rfl, hb2⟩
   have hB2 : Below w.heap.size w w2 := hB1.trans (hb2.mono (by omega))
   cases hr : aC t with
   | true =>
    have hres : br t = 0 := by rw [br, if_neg (by omega), if_pos hr]
    have Hres := hid hres; clear hres
    go_wp2_with fail
    go_ret
    exact ⟨by rw [Hres.out]; rfl, hB2⟩
   | false =>
    have hres : br t = 107 := by rw [br, if_neg (by omega), hr]; rfl
    have Hres := hid hres; clear hres
    go_wp2_with fail
    go_ret
    exact ⟨by rw [Hres.out]; rfl, hB2⟩
structure LentC (n : Nat) (t : T) (A : Option Addr) (c : Nat) (wr : World) (v : Value) : Prop where
 b0 : Blk wr n #[.int .i64 t.k, .int .u64 t.s0, .int .u64 t.s1, .int .u64 t.s2, .int .u64 t.s3, .int .i64 t.mn, .int .i64 t.mx, .slice A t.ps.length c]
 b1 : Blk wr (n + 1) #[.int .i64 0, .int .u64 0, .int .u64 0, .int .u64 0, .int .u64 0, .int .i64 0, .int .i64 0, .slice none 0 0]
 b2 : Blk wr (n + 1 + 1) #[.int .i64 t.k, .int .u64 t.s0, .int .u64 t.s1, .int .u64 t.s2, .int .u64 t.s3, .int .i64 t.mn, .int .i64 t.mx, v]
def fillW (wr : World) (n : Nat) (t : T) (v : Value) : World :=
 ((((((((wr.setCell ⟨n + 1 + 1, 7, none⟩ v).setCell ⟨n + 1, 0, none⟩ (.int .i64 t.k)).setCell ⟨n + 1, 1, none⟩ (.int .u64 t.s0)).setCell ⟨n + 1, 2, none⟩ (.int .u64 t.s1)).setCell ⟨n + 1, 3, none⟩ (.int .u64 t.s2)).setCell ⟨n + 1, 4, none⟩ (.int .u64 t.s3)).setCell ⟨n + 1, 5, none⟩ (.int .i64 t.mn)).setCell ⟨n + 1, 6, none⟩ (.int .i64 t.mx)).setCell ⟨n + 1, 7, none⟩ v
structure Spoils (r : Option Nat) (w w' : World) : Prop where
 os : w'.os = w.os
 tape : w'.tape = w.tape
 output : w'.output = w.output
 size : w.heap.size ≤ w'.heap.size
 block : ∀ k, k < w.heap.size → some k ≠ r → w'.heap[k]? = w.heap[k]?
theorem Spoils.grown {r row : Option Nat} {w W W' : World} (h : Spoils r w W) (hg : W.grownBy W' row) (hr : ∀ k, row = some k → r = some k ∨ w.heap.size ≤ k) : Spoils r w W' :=
 ⟨hg.os.trans h.os, hg.tape.trans h.tape, hg.output.trans h.output, Nat.le_trans h.size hg.size, fun k hk hne => (hg.block k (Nat.lt_of_lt_of_le hk h.size) (fun e => by
  rcases hr k e.symm with h1 | h1
  · exact hne h1.symm
  · omega)).trans (h.block k hk hne)⟩
theorem Spoils.set {g : Nat} {w W : World} (h : Spoils (some g) w W) (o : Nat) (u : Value) : Spoils (some g) w (W.setCell ⟨g, o, none⟩ u) :=
 h.grown ⟨rfl, rfl, rfl, by simp, fun k hk hne => Below.heap_setCell _ _ _ _ (fun e => hne (by rw [e]))⟩ (fun k hk => .inl hk)
theorem tf (w : World) (l : List St) (sa : Int) (base : Nat) (A : Option Addr) (c : Nat) (ho : w.ownsRow base 30 7 (.slice A l.length c) l.length (aR l)) (hbase : base ≤ w.heap.size) (hl : l.length ≤ 1000000) :
 Calls Tryz.prog 33 #[iI l sa A c] w fun e w' => e = .returned (.tuple #[]) ∧ Spoils (Value.slice A l.length c).ownBlock w w' := by
 go_enter Tryz.func33, Tryz.ntmps33
 go_wp2_with fail
 generalize hW : w.alloc _ = W0
 have hS0 : Spoils (Value.slice A l.length c).ownBlock w W0 := by subst hW; exact ⟨rfl, rfl, rfl, by simp, fun k hk _ => (((Below.refl w.heap.size w).alloc (Nat.le_refl _) _).block k hk)⟩
 have hz0 : w.heap.size < W0.heap.size := by subst hW; simp
 have p0 : W0.cell? ⟨w.heap.size, 0, none⟩ = some (.slice A l.length c) := by subst hW; simp [go_sem]
 have ho0 : W0.ownsRow base 30 7 (.slice A l.length c) l.length (aR l) := by subst hW; exact ho.alloc _
 have hlt0 : ∀ k, (Value.slice A l.length c).ownBlock = some k → k < w.heap.size := fun k hk => (ho.lt k hk).2
 have Hlt0 := hid hlt0
 clear hW hlt0
 go_loopg [2] (l.length) (fun n i wr => ∃ (j : Nat) (xs : List Value), i = .int .i64 j ∧ j + n = l.length ∧ Spoils (Value.slice A l.length c).ownBlock w wr ∧ w.heap.size < wr.heap.size ∧ wr.cell? ⟨w.heap.size, 0, none⟩ = some (.slice A l.length c) ∧ wr.ownsRow base 30 7 (.slice A l.length c) l.length xs)
 case atStart => exact ⟨0, _, rfl, by omega, hS0, hz0, p0, ho0⟩
 case round =>
  clear hS0 hz0 p0 ho0
  obtain ⟨j, xs, rfl, hj, hS, hz, p0, hor⟩ := hrel
  have Hor := hid hor; clear hor
  by_cases hlt : j < l.length
  · obtain ⟨g, rfl⟩ : ∃ g, A = some ⟨g, 0, none⟩ := by
     rcases Hor.out.2 with ⟨e, h0⟩ | ⟨g, cap, cur, e, _⟩
     · omega
     · simp only [Value.slice.injEq] at e; exact ⟨g, e.1⟩
    have hxl : xs.length = l.length * 7 := Hor.out.1
    have hc : ∀ k, k < 7 → ∃ u, wr.cell? ⟨g, j * 7 + k, none⟩ = some u := fun k hk => ⟨xs[j * 7 + k]'(by omega), by rw [Hor.out.cellAt _ (by omega), List.getElem?_eq_getElem]⟩
    obtain ⟨x0, f0⟩ := hc 0 (by omega)
    obtain ⟨x1, f1⟩ := hc 1 (by omega)
    obtain ⟨x2, f2⟩ := hc 2 (by omega)
    obtain ⟨x3, f3⟩ := hc 3 (by omega)
    obtain ⟨x4, f4⟩ := hc 4 (by omega)
    obtain ⟨x5, f5⟩ := hc 5 (by omega)
    obtain ⟨x6, f6⟩ := hc 6 (by omega)
    have e0 := Hor.out.frozenAt (j * 7)
    have e1 := Hor.out.frozenAt (j * 7 + 1)
    have e2 := Hor.out.frozenAt (j * 7 + 2)
    have e3 := Hor.out.frozenAt (j * 7 + 3)
    have e4 := Hor.out.frozenAt (j * 7 + 4)
    have e5 := Hor.out.frozenAt (j * 7 + 5)
    have e6 := Hor.out.frozenAt (j * 7 + 6)
    rw [Nat.add_zero] at f0
    have hgne : g ≠ w.heap.size := fun e => by have := Hlt0.out g rfl; omega
    have Hgne := hid hgne
    clear hc hxl hgne
    go_wp2_with fail
    go_roundg (gk - 1)
    case measure => omega
    case rel =>
     refine ⟨j + 1, _, by go_num, by omega, ((((((hS.set _ _).set _ _).set _ _).set _ _).set _ _).set _ _).set _ _, by simpa using hz, ?_, (((((((Hor.out.stored _ _).1.stored _ _).1.stored _ _).1.stored _ _).1.stored _ _).1.stored _ _).1.stored _ _).1⟩
     have hgne := Hgne.out
     iterate 7 rw [World.cell?_setCell_other (h := by intro e; injection e with e; exact hgne e)]
     exact p0
  · clear Hlt0
    have hj' : (l.length : Int) ≤ (j : Int) := by omega
    go_wp2_with fail
    have hrow0 : ∀ k, (Value.slice A l.length c).ownBlock = some k → (Value.slice A l.length c).ownBlock = some k ∨ w.heap.size ≤ k := fun k hk => .inl hk
    have HS := hid hS; have Hrow0 := hid hrow0
    clear hS hrow0 p0 hj'
    go_loopg [3, 4] 8 (fun n lv i W => ∃ (k : Nat) (A2 : Option Addr) (c2 : Nat) (ys : List Value), i = .int .i64 k ∧ k + n = 8 ∧ lv = .slice A2 (l.length + k) c2 ∧ Spoils (Value.slice A l.length c).ownBlock w W ∧ w.heap.size < W.heap.size ∧ W.ownsRow base 30 7 (.slice A2 (l.length + k) c2) (l.length + k) ys ∧
     (∀ b, (Value.slice A2 (l.length + k) c2).ownBlock = some b → (Value.slice A l.length c).ownBlock = some b ∨ w.heap.size ≤ b))
    case atStart => exact ⟨0, A, c, xs, rfl, rfl, rfl, HS.out, hz, Hor.out, Hrow0.out⟩
    case round =>
     clear HS Hor Hrow0 hz
     obtain ⟨k, A2, c2, ys, rfl, hk, rfl, hS, hz, ho2, hrow⟩ := hrel
     have Ho2 := hid ho2; have HS := hid hS; have Hrow := hid hrow
     clear ho2 hS hrow
     by_cases hlt8 : k < 8
     · have hnews : ∀ ad, some (⟨wr.heap.size, 0, none⟩ : Addr) = some ad → ∀ j u, (St.cells ⟨-6, 0, 0, 0, 0, 0, 0⟩)[j]? = some u → (wr.alloc (.cells (St.cells ⟨-6, 0, 0, 0, 0, 0, 0⟩).toArray 30)).cell? (ad.add j) = some u := by
        intro ad e j u hu
        simp only [Option.some.injEq] at e
        subst e
        rw [mD, World.cell?_alloc_new, Nat.zero_add]
        simpa using hu
       have Hnews := hid hnews; clear hnews
       go_wp2_with (at_builtin; refine dp base rfl _ _ 31 30 _ 7 56 rfl Tryz.underlying31 Tryz.infoState rfl (by omega) (by omega) (.slice A2 (l.length + k) c2) (l.length + k) 1 ys (St.cells ⟨-6, 0, 0, 0, 0, 0, 0⟩) (some ⟨wr.heap.size, 0, none⟩) 1 rfl rfl (by simp) rfl Hnews.out (St.cells_one _) (Ho2.out.alloc _) (by simp; omega) (by omega) (fun A3 c3 w3 ho3 hg3 hat3 => ?_); have Ho3 := hid ho3; have Hat3 := hid hat3; have Hg3 := hid hg3; clear ho3 hat3 hg3)
       go_roundg (gk - 1)
       case measure => omega
       case rel =>
        have hz3 := Hg3.out.size
        simp only [World.size_alloc] at hz3
        refine ⟨k + 1, A3, c3, _, by go_num, by omega, rfl, (HS.out.grown (World.grownBy_alloc _ _ none) (by simp)).grown Hg3.out Hrow.out, by omega, Ho3.out, fun b hb => ?_⟩
        rcases Hat3.out with h | h
        · exact Hrow.out b (h.symm.trans hb)
        · have e2 := hb.symm.trans h
          simp at e2
          exact .inr (by omega)
     · go_wp2_with fail
       go_end0
       exact ⟨rfl, HS.out⟩
theorem Layer.form {w : World} {L base : Nat} {v : Value} {l : List St} (h : Layer w L base v l) : ∃ A c, v = .slice A l.length c := by
 rcases h.own.2 with ⟨rfl, h0⟩ | ⟨g, cap, cur, rfl, _⟩
 · exact ⟨none, 0, by rw [h0]⟩
 · exact ⟨_, cap, rfl⟩
theorem Layer.form' {w : World} {L base : Nat} {v : Value} {l : List St} (h : Layer w L base v l) (hl : 0 < l.length) : ∃ g cap, v = .slice (some ⟨g, 0, none⟩) l.length cap ∧ g ≠ L ∧ base ≤ g ∧ g < w.heap.size := by
 rcases h.own.2 with ⟨rfl, h0⟩ | ⟨g, cap, cur, rfl, hb, hg, _⟩
 · omega
 · refine ⟨g, cap, rfl, fun e => h.ne (by simp [Value.ownBlock, e]), hb, (Array.getElem?_eq_some_iff.1 hg).1⟩
theorem qI (l : List St) (i : Nat) (hi : i < l.length) : ∀ j, j < 7 → (aR l)[i * 7 + j]? = (l[i].cells)[j]? := by
 induction l generalizing i with
 | nil => simp at hi
 | cons s l ih =>
  intro j hj
  show (s.cells ++ aR l)[i * 7 + j]? = _
  have hs : s.cells.length = 7 := rfl
  cases i with
  | zero => rw [List.getElem?_append_left (by rw [hs]; omega)]; simp
  | succ i =>
   rw [List.getElem?_append_right (by rw [hs]; omega), hs, show (i + 1) * 7 + j - 7 = i * 7 + j by omega]
   exact ih i (by simpa using hi) j hj
theorem mH (l : List St) (i : Nat) (x : Int) (hi : i < l.length) : (aR l).set (i * 7 + 5) (.int .i64 x) = aR (setNx l i x) := by
 induction l generalizing i with
 | nil => simp at hi
 | cons s l ih =>
  have hs : s.cells.length = 7 := rfl
  cases i with
  | zero => simp only [setNx, List.modify_zero_cons]; rfl
  | succ i =>
   have : setNx (s :: l) (i + 1) x = s :: setNx l i x := by simp [setNx]
   rw [this]
   show (s.cells ++ aR l).set _ _ = s.cells ++ aR (setNx l i x)
   rw [← ih i (by simpa using hi), List.set_append_right _ _ (by rw [hs]; omega), hs, show (i + 1) * 7 + 5 - 7 = i * 7 + 5 by omega]
theorem Layer.setNx {w : World} {L base g cap : Nat} {l : List St} (h : Layer w L base (.slice (some ⟨g, 0, none⟩) l.length cap) l) (i : Nat) (hi : i < l.length) (x : Int) :
 (w.cell? ⟨g, i * 7 + 5, none⟩).isSome = true ∧ w.frozen? ⟨g, i * 7 + 5, none⟩ = false ∧ Layer (w.setCell ⟨g, i * 7 + 5, none⟩ (.int .i64 x)) L base (.slice (some ⟨g, 0, none⟩) l.length cap) (setNx l i x) ∧
 Lays L (some g) w (w.setCell ⟨g, i * 7 + 5, none⟩ (.int .i64 x)) := by
 have hgL : L ≠ g := fun e => h.ne (by simp [Value.ownBlock, e])
 have h1 : w.cell? ⟨g, i * 7 + 5, none⟩ = _ := h.own.cellAt (i * 7 + 5) (by omega)
 rw [qI l i hi 5 (by omega)] at h1
 have hst := h.own.stored (i * 7 + 5) (.int .i64 x)
 rw [mH l i x hi] at hst
 refine ⟨by rw [h1]; rfl, h.own.frozenAt _, ⟨?_, ?_, ?_, h.ne, ?_⟩, ?_⟩
 · rw [World.cell?_setCell_other _ _ _ _ (by intro e; injection e with e; exact hgL e.symm)]; exact h.cell
 · rw [World.frozen?_setCell]; exact h.froz
 · have : (Go.Proofs.YthlakbjnmbddaaaGreatDoor.setNx l i x).length = l.length := by simp [Go.Proofs.YthlakbjnmbddaaaGreatDoor.setNx]
   rw [this]; exact hst.1
 · rw [World.size_setCell]; exact h.base
 · exact ⟨rfl, rfl, rfl, by rw [World.size_setCell]; exact Nat.le_refl _, fun k hk _ hne => Below.heap_setCell _ _ _ _ (fun e => hne (by rw [e]))⟩
theorem iV : ∀ (ps : List T) (h : 0 < ps.length), ec ps = ax ps[0]
 | p :: ps, _ => by funext tu l; rw [ec]; rfl
theorem qN (t : T) (hk : t.k = 6) (hr : aC t = true) (hmx : ¬ t.mx < 0) (ih : ∀ p ∈ t.ps, bQ 74 p) : bQ 112 t := by
 intro w ok A c L base v l tu hN ho hL hlen
 have hN' := hN
 have hps1 : 0 < t.ps.length := by rcases aJ hr with h | h | h | h | h | h | h <;> omega
 obtain ⟨b, o, rfl, hb, hcell⟩ := hN.part hps1
 obtain ⟨Ap, cp, h8, hNp⟩ := hcell 0 hps1
 have hp0 : t.ps[0] ∈ t.ps := List.getElem_mem _
 have hih := ih t.ps[0] hp0
 have hlc := hN.len
 have hcc := hN.cap
 have hhead : ec t.ps = ax t.ps[0] := iV t.ps hps1
 have hrep : ax t tu l = iN t.mn t.mx (ec t.ps) tu l := by rw [cd]; simp [hk]
 rw [hhead] at hrep
 have hb3 : 0 ≤ t.mn ∧ t.mn ≤ 255 ∧ t.mx ≤ 255 ∧ (t.mx = -1 ∨ t.mn ≤ t.mx) := by rcases aJ hr with h | h | h | h | h | h | h <;> omega
 obtain ⟨hmn0, hmn1, hmx1, hmm⟩ := hb3
 generalize t.ps[0] = p at *
 obtain ⟨f0, f1, f2, f3, f4, f5, f6, f7⟩ := h8
 simp only [Nat.zero_mul, Nat.add_zero] at f0 f1 f2 f3 f4 f5 f6 f7
 have Hih := hid hih; have Hrep := hid hrep; have Hk := hid hk
 have hgp := dB p
 have hlt1 : (0 : Int) < (t.ps.length : Int) := by omega
 clear hih hrep hk hcell hhead
 have hLlt := hL.lt
 have hblt := (ho b hb).1
 rw [Hrep.out] at hlen
 go_enter Tryz.func112, Tryz.ntmps112
 go_wp2_with fail
 generalize hW : (w.alloc _).alloc _ = W0
 have hz0 : w.heap.size + 2 = W0.heap.size := by subst hW; simp
 have hL0 : Layer W0 L base v l := by subst hW; exact (hL.alloc _).alloc _
 have ho0w := ho.later (w' := W0) (by omega) (aP.refl _ _)
 have hlw : Lays L v.ownBlock w W0 := by subst hW; exact (Lays.alloc _ _ _ _).trans (aP.refl _ v) (Lays.alloc _ _ _ _)
 have hmw : aP w v v := aP.refl _ _
 have hP : At8 W0 (w.heap.size + 1) 0 p Ap cp := by subst hW; constructor <;> simp [go_sem]
 have g5 : W0.cell? ⟨w.heap.size, 5, none⟩ = some (.int .i64 t.mn) := by subst hW; simp [go_sem]
 have g6 : W0.cell? ⟨w.heap.size, 6, none⟩ = some (.int .i64 t.mx) := by subst hW; simp [go_sem]
 have hNp0 := hNp.lays ho hlw
 obtain ⟨hv1, hv2⟩ : some w.heap.size ≠ v.ownBlock ∧ some (w.heap.size + 1) ≠ v.ownBlock := by
  constructor
  · intro e; have := (hL.own.lt _ e.symm).2; omega
  · intro e; have := (hL.own.lt _ e.symm).2; omega
 have hB0 : w.heap.size < W0.heap.size ∧ w.heap.size ≠ L ∧ some w.heap.size ≠ v.ownBlock := ⟨by omega, by omega, hv1⟩
 have hB1 : w.heap.size + 1 < W0.heap.size ∧ w.heap.size + 1 ≠ L ∧ some (w.heap.size + 1) ≠ v.ownBlock := ⟨by omega, by omega, hv2⟩
 clear hW
 have ho0 := ho0w
 have ho0' := ho0w
 have hmx' : 0 ≤ t.mx - t.mn := by omega
 have hopt : dE (ax p) t.mn.toNat (da (ax p) tu (t.mx - t.mn).toNat tu l).1 (da (ax p) tu (t.mx - t.mn).toNat tu l).2 = ax t tu l := by rw [Hrep.out, iN]; simp only [if_neg (show ¬ t.mx < 0 by omega)]
 have Hopt := hid hopt; clear hopt
 go_loopg [8, 41] ((t.mx - t.mn).toNat) (fun n tv iv wr => ∃ (i : Nat) (t' : Int) (v' : Value) (l' : List St), iv = .int .i64 i ∧ tv = .int .i64 t' ∧ i + n = (t.mx - t.mn).toNat ∧ da (ax p) tu n t' l' = da (ax p) tu (t.mx - t.mn).toNat tu l ∧ Layer wr L base v' l' ∧ aP W0 v v' ∧ Lays L v.ownBlock W0 wr)
 case atStart => exact ⟨0, tu, v, l, rfl, rfl, by omega, rfl, hL0, aP.refl _ _, Lays.refl _ _ _⟩
 case round =>
  obtain ⟨i, t', v', l', rfl, rfl, hin, heq, hLr, hmr, hlr⟩ := hrel
  have Heq := hid heq; clear heq
  have hor := ho0.later hlr.size hmr
  have hNr := hNp0.lays ho0' hlr
  have hzr := hlr.size
  obtain ⟨q0, q1, q2, q3, q4, q5, q6, q7⟩ := hP.mono (fun o => hlr.cell hB1.1 hB1.2.1 hB1.2.2)
  simp only [Nat.zero_add] at q0 q1 q2 q3 q4 q5 q6 q7
  have hfl : (da (ax p) tu (t.mx - t.mn).toNat tu l).2.length ≤ 1000000 := by
   have := bG hgp t.mn.toNat (da (ax p) tu (t.mx - t.mn).toNat tu l).1 (da (ax p) tu (t.mx - t.mn).toNat tu l).2
   rw [Hopt.out, Hrep.out] at this; omega
  have hlc' : l'.length ≤ 1000000 := by have := dO hgp tu gk t' l'; rw [Heq.out] at this; omega
  by_cases hlt : (i : Int) < t.mx - t.mn
  · obtain ⟨n', hgk⟩ : ∃ n', gk = n' + 1 := ⟨gk - 1, by omega⟩
    have hst : (ax p t' l').2.length + 1 ≤ 1000000 := by
     have h1 := dO hgp tu n' (ax p t' l').2.length ((ax p t' l').2 ++ [aL (ax p t' l').1 tu])
     have h2 := Heq.out
     rw [hgk, da] at h2
     rw [h2] at h1
     simp only [List.length_append, List.length_cons, List.length_nil] at h1
     omega
    have hnx : da (ax p) tu n' (ax p t' l').2.length ((ax p t' l').2 ++ [aL (ax p t' l').1 tu]) = da (ax p) tu (t.mx - t.mn).toNat tu l := by rw [← Heq.out, hgk, da]
    have Hnx := hid hnx; have Hgk := hid hgk; clear hnx hgk hfl
    go_wp2_with fail
    refine (Hih.out _ ok Ap cp L base _ l' t' hNr hor hLr (by omega)).mono ?_
    rintro e w1 ⟨rfl, v1, hL1, hm1, hl1⟩
    have hmm1 := hmr.trans hzr hm1
    have hll1 := hlr.trans hmr hl1
    go_wp2_with fail
    refine (dU _ L base v1 _ (aL (ax p t' l').1 tu) hL1 (by omega)).mono ?_
    rintro e w2 ⟨rfl, v2, hL2, hm2, hl2⟩
    have hmm2 := hmm1.trans hll1.size hm2
    have hll2 := hll1.trans hmm1 hl2
    go_wp2_with fail
    go_roundg n'
    case measure => have := Hgk.out; omega
    case rel => exact ⟨i + 1, (ax p t' l').2.length, _, _, by go_num, rfl, by have := Hgk.out; omega, Hnx.out, hL2, hmm2, hll2⟩
  · have hfin : da (ax p) tu (t.mx - t.mn).toNat tu l = (t', l') := by rw [← Heq.out, show gk = 0 by omega, da]
    have hst2 : dE (ax p) t.mn.toNat t' l' = ax t tu l := by rw [← Hopt.out, hfin]
    have Hst2 := hid hst2; clear hst2 hfin hfl
    have k5 := (hlr.cell (o := 5) hB0.1 hB0.2.1 hB0.2.2).trans g5
    go_wp2_with fail
    go_loopg [8, 55] (t.mn.toNat) (fun n tv iv wr => ∃ (i : Nat) (t' : Int) (v' : Value) (l' : List St), iv = .int .i64 i ∧ tv = .int .i64 t' ∧ i + n = t.mn.toNat ∧ dE (ax p) n t' l' = ax t tu l ∧ Layer wr L base v' l' ∧ aP W0 v v' ∧ Lays L v.ownBlock W0 wr)
    case atStart => exact ⟨0, t', v', l', rfl, rfl, by omega, Hst2.out, hLr, hmr, hlr⟩
    case round =>
     clear hLr hmr hlr hor hNr hzr q0 q1 q2 q3 q4 q5 q6 q7 hlc' hin Heq Hst2 k5 hlt
     obtain ⟨i, t', v', l', rfl, rfl, hin, heq, hLr, hmr, hlr⟩ := hrel
     have Heq := hid heq; clear heq
     have hor := ho0.later hlr.size hmr
     have hNr := hNp0.lays ho0' hlr
     have hzr := hlr.size
     obtain ⟨q0, q1, q2, q3, q4, q5, q6, q7⟩ := hP.mono (fun o => hlr.cell hB1.1 hB1.2.1 hB1.2.2)
     simp only [Nat.zero_add] at q0 q1 q2 q3 q4 q5 q6 q7
     have hlc' : l'.length ≤ 1000000 := by have := bG hgp gk t' l'; rw [Heq.out, Hrep.out] at this; omega
     by_cases hlt : (i : Int) < t.mn
     · obtain ⟨n', hgk⟩ : ∃ n', gk = n' + 1 := ⟨gk - 1, by omega⟩
       have hst : (ax p t' l').2.length ≤ 1000000 := by
        have h1 := Heq.out
        rw [hgk, dE] at h1
        have h2 := Hrep.out
        split at h1
        · rw [h1, h2]; exact hlen
        · have := bG hgp n' (ax p t' l').1 (ax p t' l').2; rw [h1, h2] at this; omega
       obtain ⟨Av, cv, rfl⟩ := hLr.form
       have hcL := hLr.cell
       go_wp2_with fail
       refine (Hih.out _ ok Ap cp L base _ l' t' hNr hor hLr hst).mono ?_
       rintro e w1 ⟨rfl, v1, hL1, hm1, hl1⟩
       obtain ⟨Av1, cv1, rfl⟩ := hL1.form
       have hcL1 := hL1.cell
       have hmm1 := hmr.trans hzr hm1
       have hll1 := hlr.trans hmr hl1
       by_cases hsame : (ax p t' l').2.length = l'.length
       · have hfin : ax t tu l = ax p t' l' := by rw [← Heq.out, hgk, dE, if_pos hsame]
         have hq : (((ax p t' l').2.length : Int) == (l'.length : Int)) = true := by rw [beq_iff_eq, hsame]
         have Hfin := hid hfin; have Hsame := hid hsame; have Hgk := hid hgk; clear hfin hsame hgk
         go_wp2_with fail
         go_ret
         rw [Hfin.out]
         exact ⟨rfl, _, hL1, hmw.trans (by omega) hmm1, hlw.trans hmw hll1⟩
       · have hq : (((ax p t' l').2.length : Int) == (l'.length : Int)) = false := by rw [beq_eq_false_iff_ne]; omega
         have hnx : dE (ax p) n' (ax p t' l').1 (ax p t' l').2 = ax t tu l := by rw [← Heq.out, hgk, dE, if_neg hsame]
         have Hnx := hid hnx; have Hsame := hid hsame; have Hgk := hid hgk; clear hnx hsame hgk
         go_wp2_with fail
         go_roundg n'
         case measure => have := Hgk.out; omega
         case rel => exact ⟨i + 1, (ax p t' l').1, _, (ax p t' l').2, by go_num, rfl, by have := Hgk.out; omega, Hnx.out, hL1, hmm1, hll1⟩
     · have hfin : ax t tu l = (t', l') := by rw [← Heq.out, show gk = 0 by omega, dE]
       have Hfin := hid hfin; clear hfin
       go_wp2_with fail
       go_ret
       rw [Hfin.out]
       exact ⟨rfl, _, hLr, hmw.trans (by omega) hmr, hlw.trans hmw hlr⟩
theorem oI (t : T) (hk : t.k = 6) (hr : aC t = true) (hmx : t.mx < 0) (ih : ∀ p ∈ t.ps, bQ 74 p) : bQ 112 t := by
 intro w ok A c L base v l tu hN ho hL hlen
 have hN' := hN
 have hps1 : 0 < t.ps.length := by rcases aJ hr with h | h | h | h | h | h | h <;> omega
 obtain ⟨b, o, rfl, hb, hcell⟩ := hN.part hps1
 obtain ⟨Ap, cp, h8, hNp⟩ := hcell 0 hps1
 have hp0 : t.ps[0] ∈ t.ps := List.getElem_mem _
 have hih := ih t.ps[0] hp0
 have hlc := hN.len
 have hcc := hN.cap
 have hhead : ec t.ps = ax t.ps[0] := iV t.ps hps1
 have hrep : ax t tu l = iN t.mn t.mx (ec t.ps) tu l := by rw [cd]; simp [hk]
 rw [hhead] at hrep
 have hb3 : 0 ≤ t.mn ∧ t.mn ≤ 255 ∧ t.mx ≤ 255 ∧ (t.mx = -1 ∨ t.mn ≤ t.mx) := by rcases aJ hr with h | h | h | h | h | h | h <;> omega
 obtain ⟨hmn0, hmn1, hmx1, hmm⟩ := hb3
 generalize t.ps[0] = p at *
 obtain ⟨f0, f1, f2, f3, f4, f5, f6, f7⟩ := h8
 simp only [Nat.zero_mul, Nat.add_zero] at f0 f1 f2 f3 f4 f5 f6 f7
 have Hih := hid hih; have Hrep := hid hrep; have Hk := hid hk
 have hgp := dB p
 have hlt1 : (0 : Int) < (t.ps.length : Int) := by omega
 clear hih hrep hk hcell hhead
 have hLlt := hL.lt
 have hblt := (ho b hb).1
 rw [Hrep.out] at hlen
 go_enter Tryz.func112, Tryz.ntmps112
 have hrp : iN t.mn t.mx (ax p) tu l = dE (ax p) t.mn.toNat (bT (ax p) tu l).1 (bT (ax p) tu l).2 := by rw [iN]; simp only [if_pos hmx]
 have hg1 := bG hgp t.mn.toNat (bT (ax p) tu l).1 (bT (ax p) tu l).2
 rw [← hrp] at hg1
 have hg2 : (bT (ax p) tu l).2.length = (ax p l.length (l ++ [aL 0 tu])).2.length := by simp [bT, setNx]
 have hg3 := hgp l.length (l ++ [aL 0 tu])
 simp only [List.length_append, List.length_cons, List.length_nil] at hg3
 have Hrp := hid hrp; have Hg2 := hid hg2; clear hrp
 have hlen1 : l.length ≤ 1000000 := by omega
 have hlen2 : (ax p l.length (l ++ [aL 0 tu])).2.length ≤ 1000000 := by omega
 have Hlen := hid hlen
 clear hg1 hg2 hlen
 have hnn : ¬ (0 : Int) < t.mx - t.mn := by omega
 go_wp2_with fail
 generalize hW : (w.alloc _).alloc _ = W0
 have hz0 : w.heap.size + 2 = W0.heap.size := by subst hW; simp
 have hL0 : Layer W0 L base v l := by subst hW; exact (hL.alloc _).alloc _
 have ho0w := ho.later (w' := W0) (by omega) (aP.refl _ _)
 have hlw : Lays L v.ownBlock w W0 := by subst hW; exact (Lays.alloc _ _ _ _).trans (aP.refl _ v) (Lays.alloc _ _ _ _)
 have hmw : aP w v v := aP.refl _ _
 have hP : At8 W0 (w.heap.size + 1) 0 p Ap cp := by subst hW; constructor <;> simp [go_sem]
 have g5 : W0.cell? ⟨w.heap.size, 5, none⟩ = some (.int .i64 t.mn) := by subst hW; simp [go_sem]
 have g6 : W0.cell? ⟨w.heap.size, 6, none⟩ = some (.int .i64 t.mx) := by subst hW; simp [go_sem]
 have hNp0 := hNp.lays ho hlw
 obtain ⟨hv1, hv2⟩ : some w.heap.size ≠ v.ownBlock ∧ some (w.heap.size + 1) ≠ v.ownBlock := by
  constructor
  · intro e; have := (hL.own.lt _ e.symm).2; omega
  · intro e; have := (hL.own.lt _ e.symm).2; omega
 have hB0 : w.heap.size < W0.heap.size ∧ w.heap.size ≠ L ∧ some w.heap.size ≠ v.ownBlock := ⟨by omega, by omega, hv1⟩
 have hB1 : w.heap.size + 1 < W0.heap.size ∧ w.heap.size + 1 ≠ L ∧ some (w.heap.size + 1) ≠ v.ownBlock := ⟨by omega, by omega, hv2⟩
 clear hW
 have ho0 := ho0w
 have ho0' := ho0w
 refine (dU _ L base v l (aL 0 tu) hL0 (by omega)).mono ?_
 rintro e w1 ⟨rfl, v1, hL1, hm1, hl1⟩
 obtain ⟨q0, q1, q2, q3, q4, q5, q6, q7⟩ := hP.mono (fun o => hl1.cell hB1.1 hB1.2.1 hB1.2.2)
 simp only [Nat.zero_add] at q0 q1 q2 q3 q4 q5 q6 q7
 go_wp2_with fail
 refine (Hih.out _ ok Ap cp L base v1 _ (l.length : Int) (hNp0.lays ho0' hl1) (ho0.later hl1.size hm1) hL1 hlen2).mono ?_
 rintro e w2 ⟨rfl, v2, hL2, hm2, hl2⟩
 clear q0 q1 q2 q3 q4 q5 q6 q7
 have hmm2 := hm1.trans hl1.size hm2
 have hll2 := hl1.trans hm1 hl2
 have hli : l.length < (ax p l.length (l ++ [aL 0 tu])).2.length := by omega
 obtain ⟨g, cap, rfl, hgL, hgb, hgz⟩ := hL2.form' (by omega)
 obtain ⟨hc5, hfz, hL3, hl3⟩ := hL2.setNx l.length hli (ax p l.length (l ++ [aL 0 tu])).1
 obtain ⟨old, hc5'⟩ := Option.isSome_iff_exists.1 hc5
 have hcL2 := hL2.cell
 have hli' : (l.length : Int) < ((ax p l.length (l ++ [aL 0 tu])).2.length : Int) := by omega
 have h5 : (w2.setCell ⟨g, l.length * 7 + 5, none⟩ (.int .i64 (ax p l.length (l ++ [aL 0 tu])).1)).cell? ⟨w.heap.size, 5, none⟩ = some (.int .i64 t.mn) := by
  rw [hl3.cell (by have := hll2.size; omega) hB0.2.1 ?_, hll2.cell hB0.1 hB0.2.1 hB0.2.2, g5]
  intro e
  rcases hmm2 with h | ⟨x, hx, hle⟩
  · exact hB0.2.2 (e.trans h)
  · simp only [Value.ownBlock] at hx; rw [← e] at hx; injection hx with hx; omega
 have h6 : (w2.setCell ⟨g, l.length * 7 + 5, none⟩ (.int .i64 (ax p l.length (l ++ [aL 0 tu])).1)).cell? ⟨w.heap.size, 6, none⟩ = some (.int .i64 t.mx) := by
  rw [hl3.cell (by have := hll2.size; omega) hB0.2.1 ?_, hll2.cell hB0.1 hB0.2.1 hB0.2.2, g6]
  intro e
  rcases hmm2 with h | ⟨x, hx, hle⟩
  · exact hB0.2.2 (e.trans h)
  · simp only [Value.ownBlock] at hx; rw [← e] at hx; injection hx with hx; omega
 have hll3 : Lays L v.ownBlock W0 (w2.setCell ⟨g, l.length * 7 + 5, none⟩ (.int .i64 (ax p l.length (l ++ [aL 0 tu])).1)) := hll2.trans hmm2 hl3
 have hL3' : Layer (w2.setCell ⟨g, l.length * 7 + 5, none⟩ (.int .i64 (ax p l.length (l ++ [aL 0 tu])).1)) L base (.slice (some ⟨g, 0, none⟩) (ax p l.length (l ++ [aL 0 tu])).2.length cap) (bT (ax p) tu l).2 := hL3
 have HL3 := hid hL3'; have Hll3 := hid hll3; have Hmm2 := hid hmm2
 clear hL3 hL3' hll3 hc5 hl3 hll2 hmm2 hm1 hm2 hl1 hl2 hL1 hL2
 have hst2 : dE (ax p) t.mn.toNat (l.length : Int) (bT (ax p) tu l).2 = ax t tu l := by rw [Hrep.out, Hrp.out]; rfl
 have Hst2 := hid hst2; clear hst2
 go_wp2_with fail
 generalize hW3 : w2.setCell _ _ = W3 at *
 go_loopg [8, 41] 0 (fun n tv iv wr => iv = .int .i64 0 ∧ tv = .int .i64 (l.length : Int) ∧ wr = W3)
 case atStart => exact ⟨rfl, rfl, rfl⟩
 case round =>
  obtain ⟨rfl, rfl, rfl⟩ := hrel
  have hlen := Hlen.out
  clear hW3 hlen2 hli hli' hlen1 hg3 hc5' hfz hcL2
  go_wp2_with fail
  go_loopg [8, 55] (t.mn.toNat) (fun n tv iv wr => ∃ (i : Nat) (t' : Int) (v' : Value) (l' : List St), iv = .int .i64 i ∧ tv = .int .i64 t' ∧ i + n = t.mn.toNat ∧ dE (ax p) n t' l' = ax t tu l ∧ Layer wr L base v' l' ∧ aP W0 v v' ∧ Lays L v.ownBlock W0 wr)
  case atStart => exact ⟨0, (l.length : Int), _, (bT (ax p) tu l).2, rfl, rfl, by omega, Hst2.out, HL3.out, Hmm2.out, Hll3.out⟩
  case round =>
   clear Hst2 HL3 Hll3 Hmm2
   obtain ⟨i, t', v', l', rfl, rfl, hin, heq, hLr, hmr, hlr⟩ := hrel
   have Heq := hid heq; clear heq
   have hor := ho0.later hlr.size hmr
   have hNr := hNp0.lays ho0' hlr
   have hzr := hlr.size
   obtain ⟨q0, q1, q2, q3, q4, q5, q6, q7⟩ := hP.mono (fun o => hlr.cell hB1.1 hB1.2.1 hB1.2.2)
   simp only [Nat.zero_add] at q0 q1 q2 q3 q4 q5 q6 q7
   have hlc' : l'.length ≤ 1000000 := by have := bG hgp gk t' l'; rw [Heq.out, Hrep.out] at this; omega
   by_cases hlt : (i : Int) < t.mn
   · obtain ⟨n', hgk⟩ : ∃ n', gk = n' + 1 := ⟨gk - 1, by omega⟩
     have hst : (ax p t' l').2.length ≤ 1000000 := by
      have h1 := Heq.out
      rw [hgk, dE] at h1
      have h2 := Hrep.out
      split at h1
      · rw [h1, h2]; exact hlen
      · have := bG hgp n' (ax p t' l').1 (ax p t' l').2; rw [h1, h2] at this; omega
     obtain ⟨Av, cv, rfl⟩ := hLr.form
     have hcL := hLr.cell
     go_wp2_with fail
     refine (Hih.out _ ok Ap cp L base _ l' t' hNr hor hLr hst).mono ?_
     rintro e w1 ⟨rfl, v1, hL1, hm1, hl1⟩
     obtain ⟨Av1, cv1, rfl⟩ := hL1.form
     have hcL1 := hL1.cell
     have hmm1 := hmr.trans hzr hm1
     have hll1 := hlr.trans hmr hl1
     by_cases hsame : (ax p t' l').2.length = l'.length
     · have hfin : ax t tu l = ax p t' l' := by rw [← Heq.out, hgk, dE, if_pos hsame]
       have hq : (((ax p t' l').2.length : Int) == (l'.length : Int)) = true := by rw [beq_iff_eq, hsame]
       have Hfin := hid hfin; have Hsame := hid hsame; have Hgk := hid hgk; clear hfin hsame hgk
       go_wp2_with fail
       go_ret
       rw [Hfin.out]
       exact ⟨rfl, _, hL1, hmw.trans (by omega) hmm1, hlw.trans hmw hll1⟩
     · have hq : (((ax p t' l').2.length : Int) == (l'.length : Int)) = false := by rw [beq_eq_false_iff_ne]; omega
       have hnx : dE (ax p) n' (ax p t' l').1 (ax p t' l').2 = ax t tu l := by rw [← Heq.out, hgk, dE, if_neg hsame]
       have Hnx := hid hnx; have Hsame := hid hsame; have Hgk := hid hgk; clear hnx hsame hgk
       go_wp2_with fail
       go_roundg n'
       case measure => have := Hgk.out; omega
       case rel => exact ⟨i + 1, (ax p t' l').1, _, (ax p t' l').2, by go_num, rfl, by have := Hgk.out; omega, Hnx.out, hL1, hmm1, hll1⟩
   · have hfin : ax t tu l = (t', l') := by rw [← Heq.out, show gk = 0 by omega, dE]
     have Hfin := hid hfin; clear hfin
     go_wp2_with fail
     go_ret
     rw [Hfin.out]
     exact ⟨rfl, _, hLr, hmw.trans (by omega) hmr, hlw.trans hmw hlr⟩
theorem qO (t : T) (hk : t.k = 6) (hr : aC t = true) (ih : ∀ p ∈ t.ps, bQ 74 p) : bQ 112 t := by
 by_cases hmx : t.mx < 0
 · exact oI t hk hr hmx ih
 · exact qN t hk hr hmx ih
theorem dy (w : World) (L base : Nat) (v : Value) (l : List St) (s : St) (h : Layer w L base v l) (hl : l.length ≤ 1000000) :
 Calls Tryz.prog 76 #[.pointer (some ⟨L, 0, none⟩), s.V] w fun e w' => e = .returned (.int .i64 l.length) ∧ ∃ v', Layer w' L base v' (l ++ [s]) ∧ aP w v v' ∧ Lays L v.ownBlock w w' := by
 have hL := h.lt
 have hc := h.cell
 have hf := h.froz
 obtain ⟨A, c, rfl⟩ : ∃ A c, v = .slice A l.length c := by
  rcases h.own.2 with ⟨rfl, h0⟩ | ⟨g, cap, cur, rfl, _⟩
  · exact ⟨none, 0, by rw [h0]⟩
  · exact ⟨_, cap, rfl⟩
 go_enter Tryz.func76, Tryz.ntmps76
 go_wp2_with fail
 have hown : ((w.alloc (.cells s.cells.toArray 30)).alloc (.cells s.cells.toArray 30)).drew.ownsRow base 30 7 (.slice A l.length c) l.length (aR l) :=
  ((h.own.alloc _).alloc _).kept (row := none) ⟨rfl, rfl, rfl, Nat.le_refl _, fun _ _ _ => rfl⟩ (by cases A <;> simp [Value.ownBlock])
 have hnews : ∀ j u, s.cells[j]? = some u → ((w.alloc (.cells s.cells.toArray 30)).alloc (.cells s.cells.toArray 30)).drew.cell? ((⟨w.heap.size + 1, 0, none⟩ : Addr).add j) = some u := by
  intro j u hu
  have e : (⟨w.heap.size + 1, 0, none⟩ : Addr).add j = ⟨w.heap.size + 1, j, none⟩ := by unfold Addr.add; split <;> simp_all
  rw [e, World.cell?_drew]
  rw [show w.heap.size + 1 = (w.alloc (.cells s.cells.toArray 30)).heap.size by simp, World.cell?_alloc_new]
  simpa using hu
 have hb0 : base ≤ ((w.alloc (.cells s.cells.toArray 30)).alloc (.cells s.cells.toArray 30)).drew.heap.size := by have := h.base; simp; omega
 have hLA : (Value.slice A l.length c).ownBlock ≠ some L := h.ne
 have hcL : ((w.alloc (.cells s.cells.toArray 30)).alloc (.cells s.cells.toArray 30)).drew.cell? ⟨L, 0, none⟩ = some (.slice A l.length c) := by
  rw [World.cell?_drew, World.cell?_alloc_lt _ _ _ (by simp; omega), World.cell?_alloc_lt _ _ _ hL, hc]
 have hfL : ((w.alloc (.cells s.cells.toArray 30)).alloc (.cells s.cells.toArray 30)).drew.frozen? ⟨L, 0, none⟩ = false := by
  rw [World.frozen?_drew, World.frozen?_alloc_old _ _ _ (by simp; omega), World.frozen?_alloc_old _ _ _ (by simp; omega), hf]
 have Hown := hid hown; have Hnews := hid hnews; have HcL := hid hcL; have HfL := hid hfL; have Hb0 := hid hb0; have H := hid h; have HLA := hid hLA
 clear hown hnews hcL hfL hb0 h hLA
 go_region_law (refine et base rfl (.tmp 9) (.tmp 11) 31 30 _ 7 56 rfl Tryz.underlying31 Tryz.infoState rfl (by omega) (by omega) (.slice A l.length c) l.length 1 (aR l) s.cells ⟨w.heap.size + 1, 0, none⟩ 1 rfl rfl (by omega) rfl Hnews.out s.cells_one Hown.out Hb0.out (by omega) (fun g cap w1 hown1 hg1 hat1 => ?_); have k0 : w1.cell? ⟨L, 0, none⟩ = some (.slice A l.length c) := (hg1.cell HcL.out (fun e => HLA.out e.symm)); have e0 : w1.frozen? ⟨L, 0, none⟩ = false := (World.frozen?_of_block (w := ((w.alloc (.cells s.cells.toArray 30)).alloc (.cells s.cells.toArray 30)).drew) (a := ⟨L, 0, none⟩) (hg1.block L (by simp; omega) (fun e => HLA.out e.symm))).trans HfL.out)
 all_goals
  have k1 := World.cell?_setCell_same w1 _ (.slice (some ⟨g, 0, none⟩) (l.length + 1) cap) k0
  have hlt : L < w1.heap.size := World.block_lt_of_cell? _ _ k0
  go_wp2_with fail
  go_ret
  have hg0 : (Value.slice A l.length c).ownBlock = some g ∨ w.heap.size ≤ g := by
   rcases hat1 with e | e
   · exact .inl e
   · exact .inr (by rw [e]; simp; omega)
  have hgL : g ≠ L := by
   intro e
   rcases hg0 with h0 | h0
   · exact HLA.out (by rw [h0, e])
   · omega
  have hz := hg1.size
  simp only [World.size_drew, World.size_alloc] at hz
  refine ⟨by go_num, _, ⟨k1, ?_, ?_, ?_, ?_⟩, ?_, ?_⟩
  · rw [World.frozen?_setCell]; exact e0
  · have := hown1.kept (w' := w1.setCell ⟨L, 0, none⟩ (.slice (some ⟨g, 0, none⟩) (l.length + 1) cap)) (row := some L) ⟨rfl, rfl, rfl, by simp, fun k hk hne => Below.heap_setCell _ _ _ _ (fun e => hne (by rw [e]))⟩ (.inr (by simp [Value.ownBlock]; exact hgL))
    rw [fw, List.length_append]
    exact this
  · simp only [Value.ownBlock]; intro e; injection e with e; exact hgL e
  · have := H.out.base; simp only [World.size_setCell]; omega
  · rcases hg0 with h0 | h0
    · exact .inl (by rw [h0]; rfl)
    · exact .inr ⟨g, rfl, h0⟩
  · refine ⟨hg1.os, hg1.tape, hg1.output, by simp only [World.size_setCell]; omega, fun k hk h1 h2 => ?_⟩
    rw [Below.heap_setCell _ _ _ _ h1, hg1.block k (by simp; omega) h2]
    show ((w.heap.push _).push _)[k]? = _
    rw [Array.getElem?_push, Array.getElem?_push]
    simp only [Array.size_push]
    rw [if_neg (by omega), if_neg (by omega)]
theorem oF (t : T) (hk : t.k = 6) (hr : aC t = true) (hmx : ¬ t.mx < 0) (ih : ∀ p ∈ t.ps, bQ 77 p) : bQ 93 t := by
 intro w ok A c L base v l tu hN ho hL hlen
 have hN' := hN
 have hps1 : 0 < t.ps.length := by rcases aJ hr with h | h | h | h | h | h | h <;> omega
 obtain ⟨b, o, rfl, hb, hcell⟩ := hN.part hps1
 obtain ⟨Ap, cp, h8, hNp⟩ := hcell 0 hps1
 have hp0 : t.ps[0] ∈ t.ps := List.getElem_mem _
 have hih := ih t.ps[0] hp0
 have hlc := hN.len
 have hcc := hN.cap
 have hhead : ec t.ps = ax t.ps[0] := iV t.ps hps1
 have hrep : ax t tu l = iN t.mn t.mx (ec t.ps) tu l := by rw [cd]; simp [hk]
 rw [hhead] at hrep
 have hb3 : 0 ≤ t.mn ∧ t.mn ≤ 255 ∧ t.mx ≤ 255 ∧ (t.mx = -1 ∨ t.mn ≤ t.mx) := by rcases aJ hr with h | h | h | h | h | h | h <;> omega
 obtain ⟨hmn0, hmn1, hmx1, hmm⟩ := hb3
 generalize t.ps[0] = p at *
 obtain ⟨f0, f1, f2, f3, f4, f5, f6, f7⟩ := h8
 simp only [Nat.zero_mul, Nat.add_zero] at f0 f1 f2 f3 f4 f5 f6 f7
 have Hih := hid hih; have Hrep := hid hrep; have Hk := hid hk
 have hgp := dB p
 have hlt1 : (0 : Int) < (t.ps.length : Int) := by omega
 clear hih hrep hk hcell hhead
 have hLlt := hL.lt
 have hblt := (ho b hb).1
 rw [Hrep.out] at hlen
 go_enter Tryz.func93, Tryz.ntmps93
 have hq1 : (t.mx == -1) = false := by rw [beq_eq_false_iff_ne]; omega
 go_wp2_with fail
 generalize hW : (w.alloc _).alloc _ = W0
 have hz0 : w.heap.size + 2 = W0.heap.size := by subst hW; simp
 have hL0 : Layer W0 L base v l := by subst hW; exact (hL.alloc _).alloc _
 have ho0w := ho.later (w' := W0) (by omega) (aP.refl _ _)
 have hlw : Lays L v.ownBlock w W0 := by subst hW; exact (Lays.alloc _ _ _ _).trans (aP.refl _ v) (Lays.alloc _ _ _ _)
 have hmw : aP w v v := aP.refl _ _
 have hP : At8 W0 (w.heap.size + 1) 0 p Ap cp := by subst hW; constructor <;> simp [go_sem]
 have g5 : W0.cell? ⟨w.heap.size, 5, none⟩ = some (.int .i64 t.mn) := by subst hW; simp [go_sem]
 have g6 : W0.cell? ⟨w.heap.size, 6, none⟩ = some (.int .i64 t.mx) := by subst hW; simp [go_sem]
 have hNp0 := hNp.lays ho hlw
 obtain ⟨hv1, hv2⟩ : some w.heap.size ≠ v.ownBlock ∧ some (w.heap.size + 1) ≠ v.ownBlock := by
  constructor
  · intro e; have := (hL.own.lt _ e.symm).2; omega
  · intro e; have := (hL.own.lt _ e.symm).2; omega
 have hB0 : w.heap.size < W0.heap.size ∧ w.heap.size ≠ L ∧ some w.heap.size ≠ v.ownBlock := ⟨by omega, by omega, hv1⟩
 have hB1 : w.heap.size + 1 < W0.heap.size ∧ w.heap.size + 1 ≠ L ∧ some (w.heap.size + 1) ≠ v.ownBlock := ⟨by omega, by omega, hv2⟩
 clear hW
 have ho0 := ho0w
 have ho0' := ho0w
 have hmx' : 0 ≤ t.mx - t.mn := by omega
 have hopt : dE (ax p) t.mn.toNat (da (ax p) tu (t.mx - t.mn).toNat tu l).1 (da (ax p) tu (t.mx - t.mn).toNat tu l).2 = ax t tu l := by rw [Hrep.out, iN]; simp only [if_neg (show ¬ t.mx < 0 by omega)]
 have Hopt := hid hopt; clear hopt
 go_loopg [8, 11] ((t.mx - t.mn).toNat) (fun n tv iv wr => ∃ (i : Nat) (t' : Int) (v' : Value) (l' : List St), iv = .int .i64 (t.mn + i) ∧ tv = .int .i64 t' ∧ i + n = (t.mx - t.mn).toNat ∧ da (ax p) tu n t' l' = da (ax p) tu (t.mx - t.mn).toNat tu l ∧ Layer wr L base v' l' ∧ aP W0 v v' ∧ Lays L v.ownBlock W0 wr)
 case atStart => exact ⟨0, tu, v, l, by simp, rfl, by omega, rfl, hL0, aP.refl _ _, Lays.refl _ _ _⟩
 case round =>
  obtain ⟨i, t', v', l', rfl, rfl, hin, heq, hLr, hmr, hlr⟩ := hrel
  have Heq := hid heq; clear heq
  have hor := ho0.later hlr.size hmr
  have hNr := hNp0.lays ho0' hlr
  have hzr := hlr.size
  obtain ⟨q0, q1, q2, q3, q4, q5, q6, q7⟩ := hP.mono (fun o => hlr.cell hB1.1 hB1.2.1 hB1.2.2)
  simp only [Nat.zero_add] at q0 q1 q2 q3 q4 q5 q6 q7
  have hfl : (da (ax p) tu (t.mx - t.mn).toNat tu l).2.length ≤ 1000000 := by
   have := bG hgp t.mn.toNat (da (ax p) tu (t.mx - t.mn).toNat tu l).1 (da (ax p) tu (t.mx - t.mn).toNat tu l).2
   rw [Hopt.out, Hrep.out] at this; omega
  have hlc' : l'.length ≤ 1000000 := by have := dO hgp tu gk t' l'; rw [Heq.out] at this; omega
  have k6 := (hlr.cell (o := 6) hB0.1 hB0.2.1 hB0.2.2).trans g6
  by_cases hlt : t.mn + (i : Int) < t.mx
  · obtain ⟨n', hgk⟩ : ∃ n', gk = n' + 1 := ⟨gk - 1, by omega⟩
    have hst : (ax p t' l').2.length + 1 ≤ 1000000 := by
     have h1 := dO hgp tu n' (ax p t' l').2.length ((ax p t' l').2 ++ [aL (ax p t' l').1 tu])
     have h2 := Heq.out
     rw [hgk, da] at h2
     rw [h2] at h1
     simp only [List.length_append, List.length_cons, List.length_nil] at h1
     omega
    have hnx : da (ax p) tu n' (ax p t' l').2.length ((ax p t' l').2 ++ [aL (ax p t' l').1 tu]) = da (ax p) tu (t.mx - t.mn).toNat tu l := by rw [← Heq.out, hgk, da]
    have Hnx := hid hnx; have Hgk := hid hgk; clear hnx hgk hfl
    go_wp2_with fail
    refine (Hih.out _ ok Ap cp L base _ l' t' hNr hor hLr (by omega)).mono ?_
    rintro e w1 ⟨rfl, v1, hL1, hm1, hl1⟩
    have hmm1 := hmr.trans hzr hm1
    have hll1 := hlr.trans hmr hl1
    go_wp2_with fail
    refine (dy _ L base v1 _ (aL (ax p t' l').1 tu) hL1 (by omega)).mono ?_
    rintro e w2 ⟨rfl, v2, hL2, hm2, hl2⟩
    have hmm2 := hmm1.trans hll1.size hm2
    have hll2 := hll1.trans hmm1 hl2
    go_wp2_with fail
    go_roundg n'
    case measure => have := Hgk.out; omega
    case rel => exact ⟨i + 1, (ax p t' l').2.length, _, _, by go_num, rfl, by have := Hgk.out; omega, Hnx.out, hL2, hmm2, hll2⟩
  · have hfin : da (ax p) tu (t.mx - t.mn).toNat tu l = (t', l') := by rw [← Heq.out, show gk = 0 by omega, da]
    have hst2 : dE (ax p) t.mn.toNat t' l' = ax t tu l := by rw [← Hopt.out, hfin]
    have Hst2 := hid hst2; clear hst2 hfin hfl
    have k5 := (hlr.cell (o := 5) hB0.1 hB0.2.1 hB0.2.2).trans g5
    go_wp2_with fail
    go_loopg [8, 13] (t.mn.toNat) (fun n tv iv wr => ∃ (i : Nat) (t' : Int) (v' : Value) (l' : List St), iv = .int .i64 i ∧ tv = .int .i64 t' ∧ i + n = t.mn.toNat ∧ dE (ax p) n t' l' = ax t tu l ∧ Layer wr L base v' l' ∧ aP W0 v v' ∧ Lays L v.ownBlock W0 wr)
    case atStart => exact ⟨0, t', v', l', rfl, rfl, by omega, Hst2.out, hLr, hmr, hlr⟩
    case round =>
     clear hLr hmr hlr hor hNr hzr q0 q1 q2 q3 q4 q5 q6 q7 hlc' hin Heq Hst2 k5 k6 hlt
     obtain ⟨i, t', v', l', rfl, rfl, hin, heq, hLr, hmr, hlr⟩ := hrel
     have Heq := hid heq; clear heq
     have hor := ho0.later hlr.size hmr
     have hNr := hNp0.lays ho0' hlr
     have hzr := hlr.size
     obtain ⟨q0, q1, q2, q3, q4, q5, q6, q7⟩ := hP.mono (fun o => hlr.cell hB1.1 hB1.2.1 hB1.2.2)
     simp only [Nat.zero_add] at q0 q1 q2 q3 q4 q5 q6 q7
     have hlc' : l'.length ≤ 1000000 := by have := bG hgp gk t' l'; rw [Heq.out, Hrep.out] at this; omega
     have k5' := (hlr.cell (o := 5) hB0.1 hB0.2.1 hB0.2.2).trans g5
     by_cases hlt : (i : Int) < t.mn
     · obtain ⟨n', hgk⟩ : ∃ n', gk = n' + 1 := ⟨gk - 1, by omega⟩
       have hst : (ax p t' l').2.length ≤ 1000000 := by
        have h1 := Heq.out
        rw [hgk, dE] at h1
        have h2 := Hrep.out
        split at h1
        · rw [h1, h2]; exact hlen
        · have := bG hgp n' (ax p t' l').1 (ax p t' l').2; rw [h1, h2] at this; omega
       obtain ⟨Av, cv, rfl⟩ := hLr.form
       have hcL := hLr.cell
       go_wp2_with fail
       refine (Hih.out _ ok Ap cp L base _ l' t' hNr hor hLr hst).mono ?_
       rintro e w1 ⟨rfl, v1, hL1, hm1, hl1⟩
       obtain ⟨Av1, cv1, rfl⟩ := hL1.form
       have hcL1 := hL1.cell
       have hmm1 := hmr.trans hzr hm1
       have hll1 := hlr.trans hmr hl1
       by_cases hsame : (ax p t' l').2.length = l'.length
       · have hfin : ax t tu l = ax p t' l' := by rw [← Heq.out, hgk, dE, if_pos hsame]
         have hq : (((ax p t' l').2.length : Int) == (l'.length : Int)) = true := by rw [beq_iff_eq, hsame]
         have Hfin := hid hfin; have Hsame := hid hsame; have Hgk := hid hgk; clear hfin hsame hgk
         go_wp2_with fail
         go_ret
         rw [Hfin.out]
         exact ⟨rfl, _, hL1, hmw.trans (by omega) hmm1, hlw.trans hmw hll1⟩
       · have hq : (((ax p t' l').2.length : Int) == (l'.length : Int)) = false := by rw [beq_eq_false_iff_ne]; omega
         have hnx : dE (ax p) n' (ax p t' l').1 (ax p t' l').2 = ax t tu l := by rw [← Heq.out, hgk, dE, if_neg hsame]
         have Hnx := hid hnx; have Hsame := hid hsame; have Hgk := hid hgk; clear hnx hsame hgk
         go_wp2_with fail
         go_roundg n'
         case measure => have := Hgk.out; omega
         case rel => exact ⟨i + 1, (ax p t' l').1, _, (ax p t' l').2, by go_num, rfl, by have := Hgk.out; omega, Hnx.out, hL1, hmm1, hll1⟩
     · have hfin : ax t tu l = (t', l') := by rw [← Heq.out, show gk = 0 by omega, dE]
       have Hfin := hid hfin; clear hfin
       go_wp2_with fail
       go_ret
       rw [Hfin.out]
       exact ⟨rfl, _, hLr, hmw.trans (by omega) hmr, hlw.trans hmw hlr⟩
theorem nO (t : T) (hk : t.k = 6) (hr : aC t = true) (hmx : t.mx < 0) (ih : ∀ p ∈ t.ps, bQ 77 p) : bQ 93 t := by
 intro w ok A c L base v l tu hN ho hL hlen
 have hN' := hN
 have hps1 : 0 < t.ps.length := by rcases aJ hr with h | h | h | h | h | h | h <;> omega
 obtain ⟨b, o, rfl, hb, hcell⟩ := hN.part hps1
 obtain ⟨Ap, cp, h8, hNp⟩ := hcell 0 hps1
 have hp0 : t.ps[0] ∈ t.ps := List.getElem_mem _
 have hih := ih t.ps[0] hp0
 have hlc := hN.len
 have hcc := hN.cap
 have hhead : ec t.ps = ax t.ps[0] := iV t.ps hps1
 have hrep : ax t tu l = iN t.mn t.mx (ec t.ps) tu l := by rw [cd]; simp [hk]
 rw [hhead] at hrep
 have hb3 : 0 ≤ t.mn ∧ t.mn ≤ 255 ∧ t.mx ≤ 255 ∧ (t.mx = -1 ∨ t.mn ≤ t.mx) := by rcases aJ hr with h | h | h | h | h | h | h <;> omega
 obtain ⟨hmn0, hmn1, hmx1, hmm⟩ := hb3
 generalize t.ps[0] = p at *
 obtain ⟨f0, f1, f2, f3, f4, f5, f6, f7⟩ := h8
 simp only [Nat.zero_mul, Nat.add_zero] at f0 f1 f2 f3 f4 f5 f6 f7
 have Hih := hid hih; have Hrep := hid hrep; have Hk := hid hk
 have hgp := dB p
 have hlt1 : (0 : Int) < (t.ps.length : Int) := by omega
 clear hih hrep hk hcell hhead
 have hLlt := hL.lt
 have hblt := (ho b hb).1
 rw [Hrep.out] at hlen
 go_enter Tryz.func93, Tryz.ntmps93
 have hrp : iN t.mn t.mx (ax p) tu l = dE (ax p) t.mn.toNat (bT (ax p) tu l).1 (bT (ax p) tu l).2 := by rw [iN]; simp only [if_pos hmx]
 have hg1 := bG hgp t.mn.toNat (bT (ax p) tu l).1 (bT (ax p) tu l).2
 rw [← hrp] at hg1
 have hg2 : (bT (ax p) tu l).2.length = (ax p l.length (l ++ [aL 0 tu])).2.length := by simp [bT, setNx]
 have hg3 := hgp l.length (l ++ [aL 0 tu])
 simp only [List.length_append, List.length_cons, List.length_nil] at hg3
 have Hrp := hid hrp; have Hg2 := hid hg2; clear hrp
 have hlen1 : l.length ≤ 1000000 := by omega
 have hlen2 : (ax p l.length (l ++ [aL 0 tu])).2.length ≤ 1000000 := by omega
 have Hlen := hid hlen
 clear hg1 hg2 hlen
 have hnn : ¬ t.mn < t.mx := by omega
 have hq1 : (t.mx == -1) = true := by rw [beq_iff_eq]; omega
 go_wp2_with fail
 generalize hW : (w.alloc _).alloc _ = W0
 have hz0 : w.heap.size + 2 = W0.heap.size := by subst hW; simp
 have hL0 : Layer W0 L base v l := by subst hW; exact (hL.alloc _).alloc _
 have ho0w := ho.later (w' := W0) (by omega) (aP.refl _ _)
 have hlw : Lays L v.ownBlock w W0 := by subst hW; exact (Lays.alloc _ _ _ _).trans (aP.refl _ v) (Lays.alloc _ _ _ _)
 have hmw : aP w v v := aP.refl _ _
 have hP : At8 W0 (w.heap.size + 1) 0 p Ap cp := by subst hW; constructor <;> simp [go_sem]
 have g5 : W0.cell? ⟨w.heap.size, 5, none⟩ = some (.int .i64 t.mn) := by subst hW; simp [go_sem]
 have g6 : W0.cell? ⟨w.heap.size, 6, none⟩ = some (.int .i64 t.mx) := by subst hW; simp [go_sem]
 have hNp0 := hNp.lays ho hlw
 obtain ⟨hv1, hv2⟩ : some w.heap.size ≠ v.ownBlock ∧ some (w.heap.size + 1) ≠ v.ownBlock := by
  constructor
  · intro e; have := (hL.own.lt _ e.symm).2; omega
  · intro e; have := (hL.own.lt _ e.symm).2; omega
 have hB0 : w.heap.size < W0.heap.size ∧ w.heap.size ≠ L ∧ some w.heap.size ≠ v.ownBlock := ⟨by omega, by omega, hv1⟩
 have hB1 : w.heap.size + 1 < W0.heap.size ∧ w.heap.size + 1 ≠ L ∧ some (w.heap.size + 1) ≠ v.ownBlock := ⟨by omega, by omega, hv2⟩
 clear hW
 have ho0 := ho0w
 have ho0' := ho0w
 refine (dy _ L base v l (aL 0 tu) hL0 (by omega)).mono ?_
 rintro e w1 ⟨rfl, v1, hL1, hm1, hl1⟩
 obtain ⟨q0, q1, q2, q3, q4, q5, q6, q7⟩ := hP.mono (fun o => hl1.cell hB1.1 hB1.2.1 hB1.2.2)
 simp only [Nat.zero_add] at q0 q1 q2 q3 q4 q5 q6 q7
 go_wp2_with fail
 refine (Hih.out _ ok Ap cp L base v1 _ (l.length : Int) (hNp0.lays ho0' hl1) (ho0.later hl1.size hm1) hL1 hlen2).mono ?_
 rintro e w2 ⟨rfl, v2, hL2, hm2, hl2⟩
 clear q0 q1 q2 q3 q4 q5 q6 q7
 have hmm2 := hm1.trans hl1.size hm2
 have hll2 := hl1.trans hm1 hl2
 have hli : l.length < (ax p l.length (l ++ [aL 0 tu])).2.length := by omega
 obtain ⟨g, cap, rfl, hgL, hgb, hgz⟩ := hL2.form' (by omega)
 obtain ⟨hc5, hfz, hL3, hl3⟩ := hL2.setNx l.length hli (ax p l.length (l ++ [aL 0 tu])).1
 obtain ⟨old, hc5'⟩ := Option.isSome_iff_exists.1 hc5
 have hcL2 := hL2.cell
 have hli' : (l.length : Int) < ((ax p l.length (l ++ [aL 0 tu])).2.length : Int) := by omega
 have h5 : (w2.setCell ⟨g, l.length * 7 + 5, none⟩ (.int .i64 (ax p l.length (l ++ [aL 0 tu])).1)).cell? ⟨w.heap.size, 5, none⟩ = some (.int .i64 t.mn) := by
  rw [hl3.cell (by have := hll2.size; omega) hB0.2.1 ?_, hll2.cell hB0.1 hB0.2.1 hB0.2.2, g5]
  intro e
  rcases hmm2 with h | ⟨x, hx, hle⟩
  · exact hB0.2.2 (e.trans h)
  · simp only [Value.ownBlock] at hx; rw [← e] at hx; injection hx with hx; omega
 have h6 : (w2.setCell ⟨g, l.length * 7 + 5, none⟩ (.int .i64 (ax p l.length (l ++ [aL 0 tu])).1)).cell? ⟨w.heap.size, 6, none⟩ = some (.int .i64 t.mx) := by
  rw [hl3.cell (by have := hll2.size; omega) hB0.2.1 ?_, hll2.cell hB0.1 hB0.2.1 hB0.2.2, g6]
  intro e
  rcases hmm2 with h | ⟨x, hx, hle⟩
  · exact hB0.2.2 (e.trans h)
  · simp only [Value.ownBlock] at hx; rw [← e] at hx; injection hx with hx; omega
 have hll3 : Lays L v.ownBlock W0 (w2.setCell ⟨g, l.length * 7 + 5, none⟩ (.int .i64 (ax p l.length (l ++ [aL 0 tu])).1)) := hll2.trans hmm2 hl3
 have hL3' : Layer (w2.setCell ⟨g, l.length * 7 + 5, none⟩ (.int .i64 (ax p l.length (l ++ [aL 0 tu])).1)) L base (.slice (some ⟨g, 0, none⟩) (ax p l.length (l ++ [aL 0 tu])).2.length cap) (bT (ax p) tu l).2 := hL3
 have HL3 := hid hL3'; have Hll3 := hid hll3; have Hmm2 := hid hmm2
 clear hL3 hL3' hll3 hc5 hl3 hll2 hmm2 hm1 hm2 hl1 hl2 hL1 hL2
 have hst2 : dE (ax p) t.mn.toNat (l.length : Int) (bT (ax p) tu l).2 = ax t tu l := by rw [Hrep.out, Hrp.out]; rfl
 have Hst2 := hid hst2; clear hst2
 go_wp2_with fail
 generalize hW3 : w2.setCell _ _ = W3 at *
 go_loopg [8, 11] 0 (fun n tv iv wr => iv = .int .i64 t.mn ∧ tv = .int .i64 (l.length : Int) ∧ wr = W3)
 case atStart => exact ⟨rfl, rfl, rfl⟩
 case round =>
  obtain ⟨rfl, rfl, rfl⟩ := hrel
  have hlen := Hlen.out
  clear hW3 hlen2 hli hli' hlen1 hg3 hc5' hfz hcL2
  go_wp2_with fail
  go_loopg [8, 13] (t.mn.toNat) (fun n tv iv wr => ∃ (i : Nat) (t' : Int) (v' : Value) (l' : List St), iv = .int .i64 i ∧ tv = .int .i64 t' ∧ i + n = t.mn.toNat ∧ dE (ax p) n t' l' = ax t tu l ∧ Layer wr L base v' l' ∧ aP W0 v v' ∧ Lays L v.ownBlock W0 wr)
  case atStart => exact ⟨0, (l.length : Int), _, (bT (ax p) tu l).2, rfl, rfl, by omega, Hst2.out, HL3.out, Hmm2.out, Hll3.out⟩
  case round =>
   clear Hst2 HL3 Hll3 Hmm2
   obtain ⟨i, t', v', l', rfl, rfl, hin, heq, hLr, hmr, hlr⟩ := hrel
   have Heq := hid heq; clear heq
   have hor := ho0.later hlr.size hmr
   have hNr := hNp0.lays ho0' hlr
   have hzr := hlr.size
   obtain ⟨q0, q1, q2, q3, q4, q5, q6, q7⟩ := hP.mono (fun o => hlr.cell hB1.1 hB1.2.1 hB1.2.2)
   simp only [Nat.zero_add] at q0 q1 q2 q3 q4 q5 q6 q7
   have hlc' : l'.length ≤ 1000000 := by have := bG hgp gk t' l'; rw [Heq.out, Hrep.out] at this; omega
   have k5' := (hlr.cell (o := 5) hB0.1 hB0.2.1 hB0.2.2).trans g5
   by_cases hlt : (i : Int) < t.mn
   · obtain ⟨n', hgk⟩ : ∃ n', gk = n' + 1 := ⟨gk - 1, by omega⟩
     have hst : (ax p t' l').2.length ≤ 1000000 := by
      have h1 := Heq.out
      rw [hgk, dE] at h1
      have h2 := Hrep.out
      split at h1
      · rw [h1, h2]; exact hlen
      · have := bG hgp n' (ax p t' l').1 (ax p t' l').2; rw [h1, h2] at this; omega
     obtain ⟨Av, cv, rfl⟩ := hLr.form
     have hcL := hLr.cell
     go_wp2_with fail
     refine (Hih.out _ ok Ap cp L base _ l' t' hNr hor hLr hst).mono ?_
     rintro e w1 ⟨rfl, v1, hL1, hm1, hl1⟩
     obtain ⟨Av1, cv1, rfl⟩ := hL1.form
     have hcL1 := hL1.cell
     have hmm1 := hmr.trans hzr hm1
     have hll1 := hlr.trans hmr hl1
     by_cases hsame : (ax p t' l').2.length = l'.length
     · have hfin : ax t tu l = ax p t' l' := by rw [← Heq.out, hgk, dE, if_pos hsame]
       have hq : (((ax p t' l').2.length : Int) == (l'.length : Int)) = true := by rw [beq_iff_eq, hsame]
       have Hfin := hid hfin; have Hsame := hid hsame; have Hgk := hid hgk; clear hfin hsame hgk
       go_wp2_with fail
       go_ret
       rw [Hfin.out]
       exact ⟨rfl, _, hL1, hmw.trans (by omega) hmm1, hlw.trans hmw hll1⟩
     · have hq : (((ax p t' l').2.length : Int) == (l'.length : Int)) = false := by rw [beq_eq_false_iff_ne]; omega
       have hnx : dE (ax p) n' (ax p t' l').1 (ax p t' l').2 = ax t tu l := by rw [← Heq.out, hgk, dE, if_neg hsame]
       have Hnx := hid hnx; have Hsame := hid hsame; have Hgk := hid hgk; clear hnx hsame hgk
       go_wp2_with fail
       go_roundg n'
       case measure => have := Hgk.out; omega
       case rel => exact ⟨i + 1, (ax p t' l').1, _, (ax p t' l').2, by go_num, rfl, by have := Hgk.out; omega, Hnx.out, hL1, hmm1, hll1⟩
   · have hfin : ax t tu l = (t', l') := by rw [← Heq.out, show gk = 0 by omega, dE]
     have Hfin := hid hfin; clear hfin
     go_wp2_with fail
     go_ret
     rw [Hfin.out]
     exact ⟨rfl, _, hLr, hmw.trans (by omega) hmr, hlw.trans hmw hlr⟩
theorem oG (t : T) (hk : t.k = 6) (hr : aC t = true) (ih : ∀ p ∈ t.ps, bQ 77 p) : bQ 93 t := by
 by_cases hmx : t.mx < 0
 · exact nO t hk hr hmx ih
 · exact oF t hk hr hmx ih
structure GB (B : Nat) (W W' : World) : Prop where
 os : W'.os = W.os
 tape : W'.tape = W.tape
 output : W'.output = W.output
 size : W.heap.size ≤ W'.heap.size
 keep : ∀ (k : Nat) (o : Obj), W.heap[k]? = some o → (k < B ∨ o.isCells = true) → W'.heap[k]? = some o
theorem GB.trans {B : Nat} {X Y Z : World} (h : GB B X Y) (k : GB B Y Z) : GB B X Z :=
 ⟨k.os.trans h.os, k.tape.trans h.tape, k.output.trans h.output, Nat.le_trans h.size k.size, fun i o hi hc => k.keep i o (h.keep i o hi hc) hc⟩
theorem GB.alloc (B : Nat) (W : World) (o : Obj) : GB B W (W.alloc o) :=
 ⟨rfl, rfl, rfl, by simp, fun k o' hk _ => (Below.heap_alloc W o k (Array.getElem?_eq_some_iff.1 hk).1).trans hk⟩
theorem GB.put {B : Nat} {W : World} {l : Nat} {o : Obj} (o' : Obj) (h : W.heap[l]? = some o) (ho : o.isCells = false) (hB : B ≤ l) : GB B W (W.putObj l o') :=
 ⟨rfl, rfl, rfl, by simp, fun k o2 hk hc => by
  by_cases e : k = l
  · subst e
    rw [h] at hk
    cases hk
    rcases hc with hc | hc
    · omega
    · rw [ho] at hc; cases hc
  · exact (World.putObj_heap_other e).trans hk⟩
theorem GB.cell {B : Nat} {W W' : World} (h : GB B W W') {a : Addr} {v : Value} (hc : W.cell? a = some v) : W'.cell? a = some v ∧ W'.frozen? a = W.frozen? a := by
 obtain ⟨o, ho, hoc⟩ := cells_of_cell hc
 have := h.keep _ _ ho (.inr hoc)
 exact ⟨(World.cell?_of_block (by rw [this, ho])).trans hc, World.frozen?_of_block (by rw [this, ho])⟩
def wy (B : Nat) (Kp : World → World → Prop) (I : Nat → World → Prop) (k : Nat) (W2 : World) (e : Exit) (W' : World) : Prop := e = .normal ∧ KeepsFrom B W2 W' ∧ Kp W2 W' ∧ I (k + 1) W'
section
variable {F : Fence} {n : Nat} {P : Program}
theorem fW {g : Operand} {ps : Array Tmp} {assign body : Code} {Q : Exit → Act → World → Prop} {a : Act} {w : World}
 (hro : F.round = none) (h1 : 1 ≤ n) {gf : Nat} {lb : Array Value} (hg : a.eval g = .func (.func gf) #[] lb) (hFg : F.fn gf) (eg : ∀ args w, (callFunc gf args).run P w = .ok (.enter gf args) w)
 {enc : Nat → Array Value} {N : Nat} (hps : ∀ k, (enc k).size = ps.size)
 (I : Nat → World → Prop) (hI : ∀ k W W', I k W → GB w.heap.size W W' → I k W') (h0 : I 0 w)
 (Kp : World → World → Prop) (hKp : ∀ W W', w.heap.size ≤ W.heap.size → GB w.heap.size W W' → Kp W W') (hKt : ∀ {A B C : World}, Kp A B → Kp B C → Kp A C)
 (hseq : ∀ (l : Nat) (J : Nat → World → Prop) (W : World), GB w.heap.size w W →
  (∀ k W1, k < N → J k W1 → YieldAt F (n - 1 - 1) P l (enc k) W1 fun e W' => e = .returned (.bool true) ∧ J (k + 1) W' ∧ Kp W1 W') → J 0 W →
  CallsIn F (n - 1) P gf (#[.func (.yield l) #[] #[]] ++ lb) W fun e W' => (∃ v, e = .returned v) ∧ J N W')
 (hround : ∀ (l k : Nat) (W : World), w.heap.size ≤ l → w.heap.size ≤ W.heap.size → k < N → I k W →
  assign.wpIn (F.inRound l) (n - 1 - 1) P (Exit.then (fun a₁ W1 => KeepsFrom w.heap.size W W1 ∧ Kp W W1 ∧ ∀ W2, GB w.heap.size W1 W2 → body.wpIn (F.inRound l) (n - 1 - 1) P (fun e _ W' => wy w.heap.size Kp I k W2 e W') a₁ W2) (fun _ _ _ => False))
   { tmps := (ps.zip (enc k)).foldl (fun t (p, v) => t.setIfInBounds p v) a.tmps, defers := [] } W)
 (hdone : ∀ (D : Nat) (W : World), w.heap.size ≤ D → I N W → W.heap[D]? = some (.deferred (some [])) → Q .normal { a with defers := { target := .collected D, args := #[] } :: a.defers } W) :
 (Code.rangeFunc g ps assign body).wpIn F n P Q a w := by
 refine wpIn_rangeFunc ?_
 intro fn hfn
 rw [hro]
 obtain ⟨rec, hrec⟩ : ∃ rec : LoopState → Option Code → Loop, rec = fun st pe => { state := st, pending := pe, fn, tmps := a.tmps, params := ps, assign, body, defers := w.heap.size } := ⟨_, rfl⟩
 obtain ⟨W1, hW1⟩ : ∃ W1, (w.alloc (.deferred (some []))).alloc (.loop (rec .ready none)) = W1 := ⟨_, rfl⟩
 have hL1 : W1.heap[w.heap.size + 1]? = some (.loop (rec .ready none)) := by
  rw [← hW1]; have := World.alloc_heap_new (w.alloc (.deferred (some []))) (.loop (rec .ready none)); rwa [World.size_alloc] at this
 have hK1 : W1.heap[w.heap.size]? = some (.deferred (some [])) := by
  rw [← hW1]; exact (Below.heap_alloc _ _ _ (by simp)).trans (World.alloc_heap_new w _)
 have hG1 : GB w.heap.size w W1 := by rw [← hW1]; exact (GB.alloc _ _ _).trans (GB.alloc _ _ _)
 refine ⟨w.heap.size + 1, [{ target := .collected w.heap.size, args := #[] }], W1, { target := .fn (.func gf) lb, args := #[.func (.yield (w.heap.size + 1)) #[] #[]] }, W1, gf,
  #[.func (.yield (w.heap.size + 1)) #[] #[]] ++ lb, W1, ?_, ?_, ?_, ?_, fun _ => h1, ?_⟩
 · rw [← hW1, hrec]; exact run_enterLoop_outer _ _ _ _ _
 · simp only [resolve, hg]
   simp [go_sem]
 · intro f' hf'; simp [Target.leads] at hf'; subst hf'; exact hFg
 · simp [invoke, go_sem, eg]
 · refine (hseq (w.heap.size + 1) (fun k W => (w.heap.size ≤ W.heap.size ∧ I k W) ∧ W.heap[w.heap.size + 1]? = some (.loop (rec .ready none)) ∧ W.heap[w.heap.size]? = some (.deferred (some []))) W1 hG1 ?_ ⟨⟨hG1.size, hI _ _ _ h0 hG1⟩, hL1, hK1⟩).mono ?_
   · rintro k W hk ⟨⟨hzs, hi⟩, hl, hd⟩
     have hy := run_yield (P := P) (args := enc k) hl (by rw [hrec]; exact hps k)
     rw [hrec] at hy
     refine ⟨fn, _, assign, body, hy, roundIn_of_wpIn hfn ?_⟩
     refine wpIn_mono (hround (w.heap.size + 1) k W (by omega) hzs hk hi) ?_
     intro e a1 Wa hq
     cases e with
     | exit id => exact hq.elim
     | goto t => exact hq.elim
     | ret => exact hq.elim
     | panic ch => exact hq.elim
     | outgrown => exact hq.elim
     | normal =>
      obtain ⟨hka, hpa, hbody⟩ := hq
      have hl2 := hka.same _ _ (by omega) hl rfl
      have hd2 := hka.same _ _ (Nat.le_refl _) hd rfl
      refine ⟨_, run_beginRound hl2 (by rw [hrec]), ?_⟩
      have hg2 : GB w.heap.size Wa (Wa.putObj (w.heap.size + 1) (.loop { rec .ready none with state := .busy })) := GB.put _ hl2 rfl (by omega)
      have hl3 : (Wa.putObj (w.heap.size + 1) (.loop { rec .ready none with state := .busy })).heap[w.heap.size + 1]? = some (.loop { rec .ready none with state := .busy }) := World.putObj_heap_same (Array.getElem?_eq_some_iff.1 hl2).1
      have hd3 : (Wa.putObj (w.heap.size + 1) (.loop { rec .ready none with state := .busy })).heap[w.heap.size]? = some (.deferred (some [])) := (World.putObj_heap_other (by omega)).trans hd2
      refine wpIn_mono (hbody _ hg2) ?_
      rintro e a2 Wb ⟨rfl, hkb, hpb, hib⟩
      have hl4 := hkb.same _ _ (by omega) hl3 rfl
      have hd4 := hkb.same _ _ (Nat.le_refl _) hd3 rfl
      have hg4 : GB w.heap.size Wb (Wb.putObj (w.heap.size + 1) (.loop { rec .ready none with state := .ready, pending := none })) := GB.put _ hl4 rfl (by omega)
      have hend := run_endRound (P := P) none hl4
      have hsz : w.heap.size ≤ Wb.heap.size := by have h2 := hka.size; have h3 := hkb.size; simp only [World.putObj_size] at h3; omega
      have hza : w.heap.size ≤ Wa.heap.size := by have h2 := hka.size; omega
      refine ⟨_, _, hend, rfl, ⟨⟨by simpa using hsz, hI _ _ _ hib (by simpa using hg4)⟩, ?_, ?_⟩, ?_⟩
      · refine (World.putObj_heap_same (Array.getElem?_eq_some_iff.1 hl4).1).trans ?_
        rw [hrec]; rfl
      · exact (World.putObj_heap_other (by omega)).trans hd4
      · exact hKt (hKt (hKt hpa (hKp _ _ hza hg2)) hpb) (hKp _ _ hsz (by simpa using hg4))
   · rintro e W2 ⟨⟨v, rfl⟩, ⟨_, hi⟩, hl, hd⟩
     have hend : (Instr.endLoop (w.heap.size + 1)).run P W2 = .ok none (W2.putObj (w.heap.size + 1) (.loop { rec .ready none with state := .exhausted })) := by
      have h := run_endLoop (P := P) hl (by rw [hrec]; simp)
      rw [h, hrec]
     exact ⟨none, _, hend, hdone w.heap.size _ (Nat.le_refl _) (hI _ _ _ hi (GB.put _ hl rfl (by omega))) ((World.putObj_heap_other (by omega)).trans hd)⟩
end
end Go.Proofs.YthlakbjnmbddaaaGreatDoor
namespace Go.Proofs.YthlakbjnmbddaaaGreatDoor
open Lib (hid)
open Go.RowKit Go.Shelf
attribute [local go_sem] Oper.semAt_some
def dg (S : Nat → Prop) (W W' : World) : Prop := ∀ b, S b → ∀ o, W'.cell? ⟨b, o, none⟩ = W.cell? ⟨b, o, none⟩
theorem dg.trans {S : Nat → Prop} {A B C : World} (h : dg S A B) (k : dg S B C) : dg S A C := fun b hb o => (k b hb o).trans (h b hb o)
theorem dg.refl (S : Nat → Prop) (A : World) : dg S A A := fun _ _ _ => rfl
theorem dg.of_gb {S : Nat → Prop} {B : Nat} (hS : ∀ b, S b → b < B) {W W' : World} (hB : B ≤ W.heap.size) (h : GB B W W') : dg S W W' := fun b hb o => by
 have hlt := hS b hb
 have h1 : W.heap[b]? = some W.heap[b] := Array.getElem?_eq_getElem (by omega)
 exact World.cell?_of_block (w := W) (a := ⟨b, o, none⟩) ((h.keep b _ h1 (.inl hlt)).trans h1.symm)
theorem uC (w : World) (A : Option Addr) (n c : Nat) :
 Calls Tryz.prog 123 #[.slice A n c] w fun e w' => e = .returned (.func (.func 140) #[] #[.pointer (some ⟨w.heap.size, 0, none⟩)]) ∧ w' = w.alloc (.cells #[.slice A n c] 46) := by
 go_enter Tryz.func123, Tryz.ntmps123
 go_wp2_with fail
 go_ret
 exact ⟨rfl, rfl⟩
def yM (ps : List T) (As : Nat → Option Addr) (cs : Nat → Nat) (k : Nat) : Array Value :=
 #[.int .i64 ((ps.length - 1 - k : Nat) : Int), aB (ps.getD (ps.length - 1 - k) default) (As (ps.length - 1 - k)) (cs (ps.length - 1 - k))]
theorem uB (m l Bs b o c : Nat) (ps : List T) (As : Nat → Option Addr) (cs : Nat → Nat) (hlen : ps.length ≤ 17592186044416) (J : Nat → World → Prop) (W : World)
 (hc : W.cell? ⟨Bs, 0, none⟩ = some (.slice (some ⟨b, o, none⟩) ps.length c)) (he : ∀ i (hi : i < ps.length), At8 W b (o + i * 8) ps[i] (As i) (cs i))
 (hY : ∀ k W1, k < ps.length → J k W1 → YieldAt Fence.wide (m - 1) Tryz.prog l (yM ps As cs k) W1 fun e W' => e = .returned (.bool true) ∧ J (k + 1) W' ∧ dg (fun x => x = b ∨ x = Bs) W1 W') (h0 : J 0 W) :
 CallsIn Fence.wide m Tryz.prog 140 #[.func (.yield l) #[] #[], .pointer (some ⟨Bs, 0, none⟩)] W fun e W' => (∃ v, e = .returned v) ∧ J ps.length W' := by
 refine callsIn_of_wp Tryz.func140 rfl trivial ?_ rfl
 simp only [Tryz.ntmps140, List.size_toArray, List.length_cons, List.length_nil, Nat.reduceAdd, Nat.reduceSub, Array.replicate_succ, Array.replicate_zero, List.push_toArray, List.append_toArray, List.nil_append, List.cons_append]
 gi_wp2
 gi_loopw [3] (fun i wr => ∃ (k : Nat) (j : Int), i = .int .i64 j ∧ j + 1 + k = ps.length ∧ -1 ≤ j ∧ J k wr ∧ dg (fun x => x = b ∨ x = Bs) W wr)
  (fun i _ => (intOf i + 1).toNat)
 case atStart => exact ⟨0, (ps.length : Int) - 1, rfl, by omega, by omega, h0, dg.refl _ _⟩
 case round =>
  obtain ⟨k, j, rfl, hj, hj1, hJ, hK⟩ := hrel
  have hcb := (hK Bs (.inr rfl) 0).trans hc
  by_cases hge : 0 ≤ j
  · obtain ⟨r, rfl⟩ := Int.eq_ofNat_of_zero_le hge
    have hr : r < ps.length := by omega
    obtain ⟨fn, tmps, assign, body, hy, hR⟩ := hY k wr (by omega) hJ
    have e : ps.length - 1 - k = r := by omega
    unfold yM at hy
    have hgd : ps.getD r default = ps[r] := by simp [List.getD_eq_getElem?_getD, hr]
    rw [e, hgd] at hy
    clear hgd
    obtain ⟨f0, f1, f2, f3, f4, f5, f6, f7⟩ := (he r hr).mono (w' := wr) (fun o => hK b (.inl rfl) o)
    generalize ps[r] = p at *
    clear he hY
    gi_wp2
    refine ⟨fun h => by simp [Fence.wide] at h, hR.mono ?_⟩
    rintro e W3 ⟨rfl, hJ3, hk3⟩
    gi_wp2
    go_roundw
    case rel => exact ⟨k + 1, (r : Int) - 1, rfl, by omega, by omega, hJ3, hK.trans hk3⟩
    case measure => simp [intOf]
  · obtain rfl : k = ps.length := by omega
    gi_wp2
    go_end0
    exact ⟨⟨_, rfl⟩, hJ⟩
theorem uE (w : World) (A : Option Addr) (n c : Nat) :
 Calls Tryz.prog 124 #[.slice A n c] w fun e w' => e = .returned (.func (.func 141) #[] #[.pointer (some ⟨w.heap.size, 0, none⟩)]) ∧ w' = w.alloc (.cells #[.slice A n c] 45) := by
 go_enter Tryz.func124, Tryz.ntmps124
 go_wp2_with fail
 go_ret
 exact ⟨rfl, rfl⟩
def yN (xs : List Int) (n k : Nat) : Array Value :=
 #[.int .i64 ((n - 1 - k : Nat) : Int), .int .i64 (xs.getD (n - 1 - k) 0)]
theorem uD (m l Bs b o c n : Nat) (xs : List Int) (hlen : n ≤ 17592186044416) (J : Nat → World → Prop) (W : World)
 (hc : W.cell? ⟨Bs, 0, none⟩ = some (.slice (some ⟨b, o, none⟩) n c)) (he : ∀ i, i < n → W.cell? ⟨b, o + i, none⟩ = some (.int .i64 (xs.getD i 0)))
 (hY : ∀ k W1, k < n → J k W1 → YieldAt Fence.wide (m - 1) Tryz.prog l (yN xs n k) W1 fun e W' => e = .returned (.bool true) ∧ J (k + 1) W' ∧ dg (fun x => x = b ∨ x = Bs) W1 W') (h0 : J 0 W) :
 CallsIn Fence.wide m Tryz.prog 141 #[.func (.yield l) #[] #[], .pointer (some ⟨Bs, 0, none⟩)] W fun e W' => (∃ v, e = .returned v) ∧ J n W' := by
 refine callsIn_of_wp Tryz.func141 rfl trivial ?_ rfl
 simp only [Tryz.ntmps141, List.size_toArray, List.length_cons, List.length_nil, Nat.reduceAdd, Nat.reduceSub, Array.replicate_succ, Array.replicate_zero, List.push_toArray, List.append_toArray, List.nil_append, List.cons_append]
 gi_wp2
 gi_loopw [3] (fun i wr => ∃ (k : Nat) (j : Int), i = .int .i64 j ∧ j + 1 + k = n ∧ -1 ≤ j ∧ J k wr ∧ dg (fun x => x = b ∨ x = Bs) W wr)
  (fun i _ => (intOf i + 1).toNat)
 case atStart => exact ⟨0, (n : Int) - 1, rfl, by omega, by omega, h0, dg.refl _ _⟩
 case round =>
  obtain ⟨k, j, rfl, hj, hj1, hJ, hK⟩ := hrel
  have hcb := (hK Bs (.inr rfl) 0).trans hc
  by_cases hge : 0 ≤ j
  · obtain ⟨r, rfl⟩ := Int.eq_ofNat_of_zero_le hge
    have hr : r < n := by omega
    obtain ⟨fn, tmps, assign, body, hy, hR⟩ := hY k wr (by omega) hJ
    have e : n - 1 - k = r := by omega
    unfold yN at hy
    rw [e] at hy
    have f0 := (hK b (.inl rfl) (o + r)).trans (he r hr)
    generalize xs.getD r 0 = p at *
    clear he hY
    gi_wp2
    refine ⟨fun h => by simp [Fence.wide] at h, hR.mono ?_⟩
    rintro e W3 ⟨rfl, hJ3, hk3⟩
    gi_wp2
    go_roundw
    case rel => exact ⟨k + 1, (r : Int) - 1, rfl, by omega, by omega, hJ3, hK.trans hk3⟩
    case measure => simp [intOf]
  · obtain rfl : k = n := by omega
    gi_wp2
    go_end0
    exact ⟨⟨_, rfl⟩, hJ⟩
end Go.Proofs.YthlakbjnmbddaaaGreatDoor
namespace Go.Proofs.YthlakbjnmbddaaaGreatDoor
open Lib (hid)
open Go.RowKit Go.Shelf
attribute [local go_sem] Oper.semAt_some
theorem rh {B : Nat} {W W' : World} (h : GB B W W') {base : Nat} {e : TypeId} {size n : Nat} {v : Value} {xs : List Value} (ho : W.ownsRow base e size v n xs) : W'.ownsRow base e size v n xs := by
 refine ⟨ho.1, ?_⟩
 rcases ho.2 with h0 | ⟨g, cap, cur, rfl, hb, hg, rest⟩
 · exact .inl h0
 · exact .inr ⟨g, cap, cur, rfl, hb, h.keep _ _ hg (.inr rfl), rest⟩
theorem Layer.gb {B : Nat} {W W' : World} (h : GB B W W') {L base : Nat} {v : Value} {l : List St} (hL : Layer W L base v l) : Layer W' L base v l :=
 ⟨(h.cell hL.cell).1, (h.cell hL.cell).2.trans hL.froz, rh h hL.own, hL.ne, Nat.le_trans hL.base h.size⟩
theorem Lays.gb {B : Nat} {w W W' : World} (h : GB B W W') {L : Nat} {r : Option Nat} (hl : Lays L r w W) (hB : w.heap.size ≤ B) : Lays L r w W' :=
 ⟨h.os.trans hl.os, h.tape.trans hl.tape, h.output.trans hl.output, Nat.le_trans hl.size h.size, fun k hk h1 h2 => by
  have e := hl.block k hk h1 h2
  have hkW := Nat.lt_of_lt_of_le hk hl.size
  have h3 : W.heap[k]? = some W.heap[k] := Array.getElem?_eq_getElem hkW
  rw [← e, h3]
  exact h.keep k _ h3 (.inl (by omega))⟩
theorem Layer.setOther {w : World} {L base : Nat} {v : Value} {l : List St} (h : Layer w L base v l) {B o : Nat} (h1 : B ≠ L) (h2 : some B ≠ v.ownBlock) (u : Value) : Layer (w.setCell ⟨B, o, none⟩ u) L base v l := by
 refine ⟨?_, ?_, ?_, h.ne, by rw [World.size_setCell]; exact h.base⟩
 · rw [World.cell?_setCell_other _ _ _ _ (by intro e; injection e with e; exact h1 e)]; exact h.cell
 · rw [World.frozen?_setCell]; exact h.froz
 · exact h.own.kept (row := some B) ⟨rfl, rfl, rfl, by rw [World.size_setCell]; exact Nat.le_refl _, fun k hk hne => Below.heap_setCell _ _ _ _ (fun e => hne (by rw [e]))⟩ (.inr (fun e => h2 e.symm))
theorem Lays.setNew {w W : World} {L : Nat} {r : Option Nat} (h : Lays L r w W) {B o : Nat} (hB : w.heap.size ≤ B) (u : Value) : Lays L r w (W.setCell ⟨B, o, none⟩ u) :=
 ⟨h.os, h.tape, h.output, by rw [World.size_setCell]; exact h.size, fun k hk h1 h2 => (Below.heap_setCell _ _ _ _ (show k ≠ B by omega)).trans (h.block k hk h1 h2)⟩
theorem jw : ∀ (ps : List T) (j : Nat) (tu : Int) (l : List St), (dJ (ps.drop j) tu l).2.length ≤ (dJ ps tu l).2.length
 | [], j, tu, l => by simp
 | p :: ps, 0, tu, l => by simp
 | p :: ps, j + 1, tu, l => by
  have h1 := jw ps j tu l
  have h2 := dB p (dJ ps tu l).1 (dJ ps tu l).2
  rw [List.drop_succ_cons, dJ]
  omega
theorem Lays.keepsFrom {L : Nat} {w W : World} {base : Nat} {v : Value} {l : List St} (h : Lays L v.ownBlock w W) (hL : Layer w L base v l) (B : Nat) : KeepsFrom B w W :=
 ⟨h.size, fun k o _ hk ho => (h.block k (Array.getElem?_eq_some_iff.1 hk).1 (fun e => by
  obtain ⟨o', ho', hc⟩ := cells_of_cell hL.cell
  rw [e] at hk
  rw [show w.heap[L]? = some o' from ho'] at hk
  cases hk
  rw [hc] at ho; cases ho) (fun e => by
  rcases hL.own.2 with ⟨rfl, _⟩ | ⟨g, cap, cur, rfl, _, hg, _⟩
  · simp [Value.ownBlock] at e
  · simp only [Value.ownBlock] at e
    injection e with e
    rw [e, hg] at hk
    cases hk
    cases ho)).trans hk⟩
def zE (t : T) (w W0 : World) (L base : Nat) (v : Value) (tu : Int) (l : List St) (k : Nat) (W : World) : Prop :=
 ∃ v', Layer W L base v' (dJ (t.ps.drop (t.ps.length - k)) tu l).2 ∧ aP W0 v v' ∧ Lays L v.ownBlock w W ∧ W.cell? ⟨w.heap.size, 0, none⟩ = some (.pointer (some ⟨L, 0, none⟩)) ∧ W.cell? ⟨w.heap.size + 2, 0, none⟩ = some (.int .i64 (dJ (t.ps.drop (t.ps.length - k)) tu l).1) ∧ W.frozen? ⟨w.heap.size + 2, 0, none⟩ = false
theorem xk (t : T) (hk : t.k = 4) (hr : aC t = true) (ih : ∀ p ∈ t.ps, bQ 74 p) : bQ 110 t := by
 intro w ok A c L base v l tu hN ho hL hlen
 have hps1 : 0 < t.ps.length := by rcases aJ hr with h | h | h | h | h | h | h <;> omega
 have hrow : ax t tu l = dJ t.ps tu l := by rw [cd]; simp [hk]
 have hll := hN.len
 cases hN with
 | mk _ _ _ As cs hcap _ ha hp =>
 obtain ⟨b, o, rfl, hb, hcell⟩ := ha (fun e => by simp [e] at hps1)
 rw [hrow] at hlen
 have Hrow := hid hrow; have Hlen := hid hlen; have Hih := hid ih
 clear hrow hk hlen ih
 have hLlt := hL.lt
 have hblt := (ho b hb).1
 refine (callsIn_wide (n := 3)).1 ?_
 refine callsIn_of_wp_marks Tryz.func110 rfl trivial ?_ rfl
 simp only [Tryz.ntmps110, List.size_toArray, List.length_cons, List.length_nil, Nat.reduceAdd, Nat.reduceSub, Array.replicate_succ, Array.replicate_zero, List.push_toArray, List.append_toArray, List.nil_append, List.cons_append]
 gi_wp2
 refine ⟨trivial, (callsIn_wide.2 (uC _ _ _ _)).mono ?_⟩
 rintro e w' ⟨rfl, rfl⟩
 gi_wp2
 have hz4 : ((((w.alloc (.cells #[.pointer (some ⟨L, 0, none⟩)] 98)).alloc (.cells #[.int .i64 t.k, .int .u64 t.s0, .int .u64 t.s1, .int .u64 t.s2, .int .u64 t.s3, .int .i64 t.mn, .int .i64 t.mx, .slice (some ⟨b, o, none⟩) t.ps.length c] 48)).alloc (.cells #[.int .i64 tu] 3)).alloc (.cells #[.slice (some ⟨b, o, none⟩) t.ps.length c] 46)).heap.size = w.heap.size + 4 := by simp
 generalize hW : (((w.alloc _).alloc _).alloc _).alloc _ = W0 at *
 have hz4a : w.heap.size + 4 ≤ W0.heap.size := by omega
 have hz4b : W0.heap.size ≤ w.heap.size + 4 := by omega
 clear hz4
 have hb0 : Below w.heap.size w W0 := by subst hW; exact (((nal.alloc (by simp) _).alloc (by simp; omega) _).alloc (by simp; omega) _)
 have c0 : W0.cell? ⟨w.heap.size, 0, none⟩ = some (.pointer (some ⟨L, 0, none⟩)) := by subst hW; simp [go_sem]
 have c2 : W0.cell? ⟨w.heap.size + 2, 0, none⟩ = some (.int .i64 tu) := by subst hW; simp [go_sem]
 have e2 : W0.frozen? ⟨w.heap.size + 2, 0, none⟩ = false := by subst hW; simp [go_sem]
 have c3 : W0.cell? ⟨w.heap.size + 3, 0, none⟩ = some (.slice (some ⟨b, o, none⟩) t.ps.length c) := by subst hW; simp [go_sem]
 clear hW
 have hL0 := hL.later hb0
 have hno : ∀ j, w.heap.size ≤ j → some j ≠ v.ownBlock := fun j hj e => by have := (hL.own.lt _ e.symm).2; omega
 have hmv : ∀ v' : Value, aP W0 v v' → ∀ j, w.heap.size ≤ j → j < W0.heap.size → some j ≠ v'.ownBlock := fun v' hm j h1 h2 e => by
  rcases hm with hm | ⟨x, hx, hle⟩
  · exact hno j h1 (e.trans hm)
  · rw [hx] at e; injection e with e; omega
 have HR : ∀ k, k < t.ps.length → dJ (t.ps.drop (t.ps.length - (k + 1))) tu l = ax (t.ps.getD (t.ps.length - 1 - k) default) (dJ (t.ps.drop (t.ps.length - k)) tu l).1 (dJ (t.ps.drop (t.ps.length - k)) tu l).2 := fun k hk => by
  have h1 : t.ps.length - 1 - k < t.ps.length := by omega
  rw [show t.ps.length - (k + 1) = t.ps.length - 1 - k by omega, List.drop_eq_getElem_cons h1, dJ, show t.ps.length - 1 - k + 1 = t.ps.length - k by omega]
  simp [List.getD_eq_getElem?_getD, h1]
 refine fW rfl (by omega) (gf := 140) (lb := #[.pointer (some ⟨w.heap.size + 3, 0, none⟩)]) rfl trivial (enters_of Tryz.func140 (by kernel_rfl) rfl) (enc := yM t.ps As cs) (N := t.ps.length) (fun k => rfl)
  (zE t w W0 L base v tu l)
  ?hI ?h0 (dg (fun x => x = b ∨ x = w.heap.size + 3)) (fun W W' h1 h2 => dg.of_gb (by intro x hx; rcases hx with rfl | rfl <;> omega) h1 h2) (fun h k => h.trans k)
  ?hseq ?hround ?hdone
 case hI =>
  rintro k W W' ⟨v', h1, h2, h3, h4, h5, h6⟩ hg
  exact ⟨v', h1.gb hg, h2, h3.gb hg (by omega), (hg.cell h4).1, (hg.cell h5).1, (hg.cell h5).2.trans h6⟩
 case h0 =>
  refine ⟨v, ?_, aP.refl _ _, Lays.of_below hb0, c0, ?_, e2⟩
  · rw [List.drop_of_length_le (by omega), dJ]; exact hL0
  · rw [List.drop_of_length_le (by omega), dJ]; exact c2
 case hseq =>
  intro l0 J W hg hY hJ
  refine uB 2 l0 (w.heap.size + 3) b o c t.ps As cs hll J W (hg.cell c3).1 ?_ hY hJ
  intro i hi
  have h8 := hcell i _ (List.getElem?_eq_getElem hi)
  refine h8.mono fun o' => ?_
  have hw0 := hb0.cell (p := ⟨b, o', none⟩) hblt
  have hbz : b < W0.heap.size := by omega
  have hk1 : W0.heap[b]? = some W0.heap[b] := Array.getElem?_eq_getElem hbz
  exact (World.cell?_of_block (w := W0) (a := ⟨b, o', none⟩) ((hg.keep b _ hk1 (.inl hbz)).trans hk1.symm)).trans hw0
 case hround =>
  intro l0 k W hl0 hzW hk hIk
  obtain ⟨v', hL', hm', hlays, d0, d2, g2⟩ := hIk
  have hkl : t.ps.length - 1 - k < t.ps.length := by omega
  have hpk : t.ps[t.ps.length - 1 - k]? = some (t.ps.getD (t.ps.length - 1 - k) default) := by simp [List.getD_eq_getElem?_getD, hkl]
  have hNk := (hp _ _ hpk).lays ho hlays
  have hmem : t.ps.getD (t.ps.length - 1 - k) default ∈ t.ps := List.mem_of_getElem? hpk
  have hihk := Hih.out _ hmem
  have hlk : (ax (t.ps.getD (t.ps.length - 1 - k) default) (dJ (t.ps.drop (t.ps.length - k)) tu l).1 (dJ (t.ps.drop (t.ps.length - k)) tu l).2).2.length ≤ 1000000 := by
   rw [← HR k hk]
   exact Nat.le_trans (jw _ _ _ _) Hlen.out
  have HRk := hid (HR k hk)
  unfold yM
  generalize As (t.ps.length - 1 - k) = Ak at *
  generalize cs (t.ps.length - 1 - k) = ck at *
  generalize t.ps.getD (t.ps.length - 1 - k) default = p at *
  have Hihk := hid hihk
  clear hihk HR hp hcell hpk Hih
  gi_wp2
  have hbW : Below W.heap.size W (W.alloc (.cells #[.int .i64 p.k, .int .u64 p.s0, .int .u64 p.s1, .int .u64 p.s2, .int .u64 p.s3, .int .i64 p.mn, .int .i64 p.mx, .slice Ak p.ps.length ck] 48)) := nal
  refine ⟨(KeepsOthers.alloc _ _).from _, fun x hx o' => hbW.cell (p := ⟨x, o', none⟩) (by show x < _; rcases hx with rfl | rfl <;> omega), fun W2 hg2 => ?_⟩
  have hP : At8 (W.alloc (.cells #[.int .i64 p.k, .int .u64 p.s0, .int .u64 p.s1, .int .u64 p.s2, .int .u64 p.s3, .int .i64 p.mn, .int .i64 p.mx, .slice Ak p.ps.length ck] 48)) W.heap.size 0 p Ak ck := by constructor <;> simp [go_sem]
  obtain ⟨q0, q1, q2, q3, q4, q5, q6, q7⟩ := (⟨(hg2.cell hP.f0).1, (hg2.cell hP.f1).1, (hg2.cell hP.f2).1, (hg2.cell hP.f3).1, (hg2.cell hP.f4).1, (hg2.cell hP.f5).1, (hg2.cell hP.f6).1, (hg2.cell hP.f7).1⟩ : At8 W2 W.heap.size 0 p Ak ck)
  simp only [Nat.zero_add] at q1 q2 q3 q4 q5 q6 q7
  have hmw' : aP w v v' := by
   rcases hm' with h | ⟨y, hy, hle⟩
   · exact .inl h
   · exact .inr ⟨y, hy, by omega⟩
  have hLW := hL'.later hbW
  have hL2 := hLW.gb hg2
  have hlays2 := (hlays.trans hmw' (Lays.of_below hbW)).gb hg2 (show w.heap.size ≤ W0.heap.size by omega)
  have k0 := (hg2.cell ((hbW.cell (p := ⟨w.heap.size, 0, none⟩) (show w.heap.size < W.heap.size by omega)).trans d0)).1
  have k2 := (hg2.cell ((hbW.cell (p := ⟨w.heap.size + 2, 0, none⟩) (show w.heap.size + 2 < W.heap.size by omega)).trans d2)).1
  have j2 : W2.frozen? ⟨w.heap.size + 2, 0, none⟩ = false := (hg2.cell ((hbW.cell (p := ⟨w.heap.size + 2, 0, none⟩) (show w.heap.size + 2 < W.heap.size by omega)).trans d2)).2.trans ((hbW.frozen (p := ⟨w.heap.size + 2, 0, none⟩) (show w.heap.size + 2 < W.heap.size by omega)).trans g2)
  have hz2 : W.heap.size + 1 ≤ W2.heap.size := by have := hg2.size; simpa using this
  have hNk2 := hNk.later hbW (fun x hx => Nat.lt_of_lt_of_le (ho x hx).1 hlays.size)
  have hok2 : OkL W2 L v' ok := fun x hx => by
   obtain ⟨a1, a2, a3⟩ := ho x hx
   refine ⟨by omega, a2, fun e => ?_⟩
   rcases hm' with hm' | ⟨y, hy, hle⟩
   · exact a3 (e.trans hm')
   · rw [hy] at e; injection e with e; omega
  have hNk3 : NodeAt W2 ok p Ak ck := hNk2.mono fun x hx => ⟨hx, fun o' => by
   have hxz : x < (W.alloc (.cells #[.int .i64 p.k, .int .u64 p.s0, .int .u64 p.s1, .int .u64 p.s2, .int .u64 p.s3, .int .i64 p.mn, .int .i64 p.mx, .slice Ak p.ps.length ck] 48)).heap.size := by have := (ho x hx).1; simp; omega
   have hk1 := Array.getElem?_eq_getElem hxz
   exact World.cell?_of_block (a := ⟨x, o', none⟩) ((hg2.keep x _ hk1 (.inl (by have := (ho x hx).1; omega))).trans hk1.symm)⟩
  gi_wp2
  refine ⟨trivial, (CallsIn.inRound l0 (callsIn_wide.2 (Hihk.out W2 ok Ak ck L base v' _ _ hNk3 hok2 hL2 hlk))).mono ?_⟩
  rintro e W3 ⟨rfl, v3, hL3, hm3, hl3⟩
  have hBt : w.heap.size + 2 < W2.heap.size ∧ w.heap.size + 2 ≠ L ∧ some (w.heap.size + 2) ≠ v'.ownBlock := ⟨by omega, by omega, hmv v' hm' _ (by omega) (by omega)⟩
  have hBl : w.heap.size < W2.heap.size ∧ w.heap.size ≠ L ∧ some w.heap.size ≠ v'.ownBlock := ⟨by omega, by omega, hmv v' hm' _ (by omega) (by omega)⟩
  have r0 := (hl3.cell (o := 0) hBl.1 hBl.2.1 hBl.2.2).trans k0
  have r2 := (hl3.cell (o := 0) hBt.1 hBt.2.1 hBt.2.2).trans k2
  have i2 := (hl3.frozen (o := 0) hBt.1 hBt.2.1 hBt.2.2).trans j2
  have hm4 : aP W0 v v3 := hm'.trans (by omega) hm3
  have hl4 := hlays2.trans hmw' hl3
  have hBt3 := hmv v3 hm4 (w.heap.size + 2) (by omega) (by omega)
  have hz3 := hl3.size
  gi_wp2
  refine ⟨rfl, ?_, ?_, v3, ?_, hm4, hl4.setNew (by omega) _, ?_, ?_, ?_⟩
  · exact (hl3.keepsFrom hL2 _).trans ((KeepsOthers.setCell _ _ _).from _)
  · intro x hx o'
    have hx1 : x ≠ w.heap.size + 2 := by rcases hx with rfl | rfl <;> omega
    rw [World.cell?_setCell_other _ _ _ _ (by intro e; injection e with e; omega)]
    refine hl3.cell (by rcases hx with rfl | rfl <;> omega) ?_ ?_
    · rcases hx with rfl | rfl
      · exact (ho _ hb).2.1
      · omega
    · rcases hx with rfl | rfl
      · exact (hok2 _ hb).2.2
      · exact hmv v' hm' _ (by omega) (by omega)
  · rw [HRk.out]; exact hL3.setOther (by omega) hBt3 _
  · rw [World.cell?_setCell_other _ _ _ _ (by intro e; injection e with e; omega)]; exact r0
  · rw [HRk.out]; exact World.cell?_setCell_same _ _ _ r2
  · rw [World.frozen?_setCell]; exact i2
 case hdone =>
  rintro D W hD ⟨v', h1, h2, h3, h4, h5, h6⟩ hK
  rw [Nat.sub_self, List.drop_zero] at h1 h5
  gi_wp2
  refine ⟨by simp, .inl ⟨_, _, rfl, run_takeDeferred hK, ?_⟩⟩
  have hg : GB W0.heap.size W (W.putObj D (.deferred none)) := GB.put _ hK rfl hD
  refine ⟨_, results_tmp rfl _ _ _, ?_⟩
  rw [Hrow.out]
  exact ⟨rfl, v', h1.gb hg, (by
   rcases h2 with h | ⟨y, hy, hle⟩
   · exact .inl h
   · exact .inr ⟨y, hy, by omega⟩), h3.gb hg (by omega)⟩
end Go.Proofs.YthlakbjnmbddaaaGreatDoor
namespace Go.Proofs.YthlakbjnmbddaaaGreatDoor
open Lib (hid)
open Go.RowKit Go.Shelf
attribute [local go_sem] Oper.semAt_some
def ivl (x : Int) : Value := .int .i64 x
theorem ma {w : World} {b b' : Nat} {e e' : TypeId} {s s' n n' : Nat} {v v' : Value} {xs xs' : List Value} (h : w.ownsRow b e s v n xs) (h' : w.ownsRow b' e' s' v' n' xs') (hne : e ≠ e') {g : Nat} (h1 : v.ownBlock = some g) (h2 : v'.ownBlock = some g) : False := by
 rcases h.2 with ⟨rfl, _⟩ | ⟨x, cap, cur, rfl, _, hh, _⟩
 · simp [Value.ownBlock] at h1
 · rcases h'.2 with ⟨rfl, _⟩ | ⟨x', cap', cur', rfl, _, hh', _⟩
   · simp [Value.ownBlock] at h2
   · simp only [Value.ownBlock, Option.some.injEq] at h1 h2
     subst h1
     subst h2
     rw [hh] at hh'
     injection hh' with hh'
     injection hh' with _ ht
     exact hne ht
theorem Lays.own {L : Nat} {w w' : World} {b e s n : Nat} {v v7 : Value} {xs : List Value} {base : Nat} {l : List St} (h : Lays L v.ownBlock w w') (hL : Layer w L base v l) (ho : w.ownsRow b e s v7 n xs) (he : e ≠ 30) (hb : L < b) : w'.ownsRow b e s v7 n xs := by
 refine ⟨ho.1, ?_⟩
 rcases ho.2 with h0 | ⟨g, cap, cur, rfl, hbg, hg, rest⟩
 · exact .inl h0
 · refine .inr ⟨g, cap, cur, rfl, hbg, ?_, rest⟩
   rw [h.block g (Array.getElem?_eq_some_iff.1 hg).1 (by omega) (fun e' => ma ho hL.own he (by rfl) e'.symm)]
   exact hg
theorem Layer.grown {w w' : World} {L base : Nat} {v v7 : Value} {l : List St} (h : Layer w L base v l) {b e s n : Nat} {xs : List Value} (ho : w.ownsRow b e s v7 n xs) (he : e ≠ 30) (hb : L < b) (hg : w.grownBy w' v7.ownBlock) : Layer w' L base v l := by
 have h1 : some L ≠ v7.ownBlock := fun e' => by have := (ho.lt L e'.symm).1; omega
 have hL := h.lt
 refine ⟨hg.cell h.cell h1, (World.frozen?_of_block (w := w) (a := ⟨L, 0, none⟩) (hg.block L hL h1)).trans h.froz, h.own.kept hg ?_, h.ne, Nat.le_trans h.base hg.size⟩
 cases hv : v.ownBlock with
 | none => exact .inl rfl
 | some g => exact .inr fun e' => ma ho h.own he e'.symm hv
theorem Lays.grownNew {w W W1 : World} {L : Nat} {r row : Option Nat} (h : Lays L r w W) (hg : W.grownBy W1 row) (hr : ∀ g, row = some g → w.heap.size ≤ g) : Lays L r w W1 :=
 ⟨hg.os.trans h.os, hg.tape.trans h.tape, hg.output.trans h.output, Nat.le_trans h.size hg.size, fun k hk h1 h2 => (hg.block k (Nat.lt_of_lt_of_le hk h.size) (fun e => by have := hr k e.symm; omega)).trans (h.block k hk h1 h2)⟩
theorem aP.older {w W : World} {v v' : Value} (h : aP W v v') (hz : w.heap.size ≤ W.heap.size) : aP w v v' := by
 rcases h with h | ⟨y, hy, hle⟩
 · exact .inl h
 · exact .inr ⟨y, hy, by omega⟩
theorem jT (bs : List Int) (l : List St) (k : Nat) (hk : k + 1 < bs.length) :
 aF (bs.drop (bs.length - 1 - (k + 1))) l = (((aF (bs.drop (bs.length - 1 - k)) l).2.length : Int), (aF (bs.drop (bs.length - 1 - k)) l).2 ++ [aL (bs.getD (bs.length - 1 - 1 - k) 0) (aF (bs.drop (bs.length - 1 - k)) l).1]) := by
 have h1 : bs.length - 1 - (k + 1) < bs.length := by omega
 rw [List.drop_eq_getElem_cons h1, show bs.length - 1 - (k + 1) + 1 = bs.length - 1 - k by omega]
 have h2 : 0 < (bs.drop (bs.length - 1 - k)).length := by rw [List.length_drop]; omega
 cases hd : bs.drop (bs.length - 1 - k) with
 | nil => rw [hd] at h2; simp at h2
 | cons y ys =>
  rw [aF]
  · have : bs.getD (bs.length - 1 - 1 - k) 0 = bs[bs.length - 1 - (k + 1)] := by
     rw [show bs.length - 1 - 1 - k = bs.length - 1 - (k + 1) by omega]
     simp [List.getD_eq_getElem?_getD, h1]
    rw [this]
  · simp
theorem jS (bs : List Int) (l : List St) (h : 0 < bs.length) : aF (bs.drop (bs.length - 1 - 0)) l = (bs.getD (bs.length - 1) 0, l) := by
 have h1 : bs.length - 1 < bs.length := by omega
 rw [Nat.sub_zero, List.drop_eq_getElem_cons h1, List.drop_of_length_le (by omega), aF]
 simp [List.getD_eq_getElem?_getD, h1]
theorem fz (bs : List Int) (l : List St) (j : Nat) : (aF (bs.drop j) l).2.length ≤ (aF bs l).2.length := by
 rw [cL, cL, List.length_drop]; omega
def ChI (bs : List Int) (w W0 : World) (L base Bx : Nat) (v vb : Value) (l : List St) (k : Nat) (W : World) : Prop :=
 ∃ v', Layer W L base v' (aF (bs.drop (bs.length - 1 - k)) l).2 ∧ aP W0 vb v' ∧ Lays L v.ownBlock w W ∧ W.cell? ⟨w.heap.size, 0, none⟩ = some (.pointer (some ⟨L, 0, none⟩)) ∧ W.cell? ⟨Bx, 0, none⟩ = some (.int .i64 (aF (bs.drop (bs.length - 1 - k)) l).1) ∧ W.frozen? ⟨Bx, 0, none⟩ = false
theorem rH (t : T) (hk : t.k = 5) (hr : aC t = true) (ih : ∀ p ∈ t.ps, bQ 74 p) : bQ 111 t := by
 intro w ok A c L base v l tu hN ho hL hlen
 have hps1 : 2 ≤ t.ps.length := by rcases aJ hr with h | h | h | h | h | h | h <;> omega
 have hch : ax t tu l = aF (cF t.ps tu l).1 (cF t.ps tu l).2 := by rw [cd]; simp [hk]
 have hll := hN.len
 cases hN with
 | mk _ _ _ As cs hcap _ ha hp =>
 obtain ⟨b, o, rfl, hb, hcell⟩ := ha (fun e => by simp [e] at hps1)
 rw [hch] at hlen
 have hl2 : (cF t.ps tu l).2.length ≤ 1000000 := by rw [cL] at hlen; omega
 have Hch := hid hch; have Hlen := hid hlen; have Hih := hid ih; have Hp := hid hp; have Hcell := hid hcell
 have Hbl := hid (eM t.ps tu l)
 clear hch hk hlen ih hp hcell ha
 have hLlt := hL.lt
 have hblt := (ho b hb).1
 refine (callsIn_wide (n := 3)).1 ?_
 refine callsIn_of_wp_marks Tryz.func111 rfl trivial ?_ rfl
 refine wpIn_wide.2 ?_
 simp only [Tryz.ntmps111, List.size_toArray, List.length_cons, List.length_nil, Nat.reduceAdd, Nat.reduceSub, Array.replicate_succ, Array.replicate_zero, List.push_toArray, List.append_toArray, List.nil_append, List.cons_append]
 go_wp2_with fail
 generalize hW : (w.alloc _).alloc _ = W0
 have hb0 : Below w.heap.size w W0 := by subst hW; exact nal.alloc (by simp) _
 have hz0 : w.heap.size + 2 ≤ W0.heap.size := by subst hW; simp
 have c0 : W0.cell? ⟨w.heap.size, 0, none⟩ = some (.pointer (some ⟨L, 0, none⟩)) := by subst hW; simp [go_sem]
 clear hW
 have hL0 := hL.later hb0
 go_loopg [7, 17] (t.ps.length) (fun n sv iv wr => ∃ (j : Nat) (bs : List Int) (v' : Value) (l' : List St), iv = .int .i64 j ∧ j + n = t.ps.length ∧ bs.length = j ∧ bs ++ (cF (t.ps.drop j) tu l').1 = (cF t.ps tu l).1 ∧ (cF (t.ps.drop j) tu l').2 = (cF t.ps tu l).2 ∧
  Layer wr L base v' l' ∧ aP W0 v v' ∧ Lays L v.ownBlock W0 wr ∧ wr.ownsRow W0.heap.size 3 1 sv bs.length (bs.map ivl))
 case atStart => exact ⟨0, [], v, l, rfl, by omega, rfl, rfl, rfl, hL0, aP.refl _ _, Lays.refl _ _ _, World.ownsRow_nil _ _ _ _⟩
 case round =>
  obtain ⟨j, bs, v', l', rfl, hj, hbs, hq1, hq2, hLr, hmr, hlr, hor⟩ := hrel
  have hlw : Lays L v.ownBlock w wr := (Lays.of_below hb0).trans (aP.refl w v) hlr
  have hmw := hmr.older (show w.heap.size ≤ W0.heap.size by omega)
  have hzr := hlr.size
  have hno : ∀ (v'' : Value) (W : World), aP W v v'' → ∀ j, w.heap.size ≤ j → j < W.heap.size → some j ≠ v''.ownBlock := fun v'' W hm j h1 h2 e => by
   rcases hm with hm | ⟨x, hx, hle⟩
   · have := (hL.own.lt _ (e.trans hm).symm).2; omega
   · rw [hx] at e; injection e with e; omega
  have k0 := (hlr.cell (o := 0) (show w.heap.size < W0.heap.size by omega) (by omega) (by intro e; have := (hL.own.lt _ e.symm).2; omega)).trans c0
  have hzz : w.heap.size < wr.heap.size := by omega
  have Hq1 := hid hq1; have Hq2 := hid hq2; have Hbs := hid hbs
  clear hq1 hq2 hbs c0
  by_cases hlt : j < t.ps.length
  · have hpj := List.getElem?_eq_getElem hlt
    have hNj := (Hp.out j _ hpj).lays ho hlw
    obtain ⟨f0, f1, f2, f3, f4, f5, f6, f7⟩ := (Hcell.out j _ hpj).mono (w' := wr) (fun o' => hlw.cell hblt (ho b hb).2.1 (ho b hb).2.2)
    have hihj := Hih.out _ (List.getElem_mem hlt)
    have hbstep : cF (t.ps.drop j) tu l' = ((ax t.ps[j] tu l').1 :: (cF (t.ps.drop (j + 1)) tu (ax t.ps[j] tu l').2).1, (cF (t.ps.drop (j + 1)) tu (ax t.ps[j] tu l').2).2) := by rw [bI hlt, cF]
    have hst : (ax t.ps[j] tu l').2.length ≤ 1000000 := by
     have h1 := fR (t.ps.drop (j + 1)) (fun p _ => dB p) tu (ax t.ps[j] tu l').2
     have h2 := Hq2.out
     rw [hbstep] at h2
     simp only at h2
     rw [h2] at h1
     omega
    have Hbstep := hid hbstep; clear hbstep hpj
    generalize t.ps[j] = p at *
    generalize As j = Aj at *
    generalize cs j = cj at *
    have Hihj := hid hihj; clear hihj
    have hokr : OkL wr L v' ok := ho.later hlw.size hmw
    obtain ⟨A7, c7, rfl⟩ : ∃ A7 c7, u7 = .slice A7 bs.length c7 := by
     rcases hor.2 with ⟨rfl, h0⟩ | ⟨g, cap, cur, rfl, _⟩
     · exact ⟨none, 0, by rw [h0]⟩
     · exact ⟨_, cap, rfl⟩
    go_wp2_with fail
    refine (Hihj.out _ ok Aj cj L base v' l' tu (hNj.alloc (fun x hx => (hokr x hx).1) _) (hokr.alloc _) (hLr.alloc _) hst).mono ?_
    rintro e w1 ⟨rfl, v1, hL1, hm1, hl1⟩
    have hor1 := hl1.own (hLr.alloc _) (hor.alloc _) (by decide) (by omega)
    have hz1 := hl1.size
    simp only [World.size_alloc] at hz1
    have hm1' : aP W0 v v1 := hmr.trans (by simp; omega) hm1
    have hl1' : Lays L v.ownBlock W0 w1 := (hlr.trans hmr (Lays.alloc _ _ _ _)).trans hmr hl1
    have hbl7 : bs.length + 1 ≤ 17592186044416 := by have := Hbs.out; omega
    go_wp2_with (at_builtin; refine eT W0.heap.size rfl (.tmp 21) (.tmp 26) 45 3 _ 1 8 rfl Tryz.underlying45 Tryz.infoInt rfl (by omega) (by omega) (.slice A7 bs.length c7) bs.length 1 (bs.map ivl) [.int .i64 (ax p tu l').1] ⟨w1.heap.size, 0, none⟩ 1 rfl rfl (by omega) rfl (cell_one_new _ _ _) (by intro u hu; simp at hu; subst hu; rfl) (hor1.alloc _) (by simp; omega) (by omega) (fun g cap w2 ho2 hg2 hat2 => ?_))
    have hL2 : Layer w2 L base v1 (ax p tu l').2 := (hL1.alloc _).grown (hor1.alloc _) (by decide) (by omega) hg2
    have hl2' : Lays L v.ownBlock W0 w2 := (hl1'.trans hm1' (Lays.alloc _ _ _ _)).grownNew hg2 (fun g hg => (hor1.lt g hg).1)
    go_wp2_with fail
    go_roundg (gk - 1)
    case measure => omega
    case rel =>
     refine ⟨j + 1, bs ++ [(ax p tu l').1], v1, (ax p tu l').2, by go_num, by omega, by rw [List.length_append, Hbs.out]; rfl, ?_, ?_, hL2, hm1', hl2', ?_⟩
     · have := Hq1.out
       rw [Hbstep.out] at this
       simpa using this
     · have := Hq2.out
       rw [Hbstep.out] at this
       exact this
     · rw [List.length_append, List.map_append]; exact ho2
  · have hgk : t.ps.drop j = [] := List.drop_of_length_le (by omega)
    have hq1 := Hq1.out
    have hq2 := Hq2.out
    rw [hgk, cF, List.append_nil] at hq1
    rw [hgk, cF] at hq2
    simp only at hq1 hq2
    subst hq2
    have hbl : bs.length = t.ps.length := by have := Hbs.out; omega
    obtain ⟨m, hm⟩ : ∃ m, bs.length = m + 1 := ⟨bs.length - 1, by omega⟩
    have hor' := hor
    rw [hm] at hor'
    obtain ⟨g, cap, rfl, hgcap⟩ : ∃ g cap, u7 = .slice (some ⟨g, 0, none⟩) (m + 1) cap ∧ m + 1 ≤ cap := by
     rcases hor'.2 with ⟨rfl, h0⟩ | ⟨g, cap, cur, rfl, _, _, hh, _⟩
     · omega
     · exact ⟨g, cap, rfl, hh⟩
    have hgz := hor'.lt g rfl
    have hcells : ∀ i, i < m + 1 → wr.cell? ⟨g, i, none⟩ = some (.int .i64 (bs.getD i 0)) := fun i hi => by
     have h1 := hor'.cells (g := g) rfl i (ivl (bs.getD i 0)) (by rw [List.getElem?_map, List.getElem?_eq_getElem (by omega)]; simp [List.getD_eq_getElem?_getD, show i < bs.length by omega])
     rwa [show (⟨g, 0, none⟩ : Addr).add i = ⟨g, i, none⟩ by unfold Addr.add; split <;> simp_all] at h1
    have hlast := hcells m (by omega)
    obtain ⟨xl, hxl⟩ : ∃ xl, bs.getD m 0 = xl := ⟨_, rfl⟩
    rw [hxl] at hlast
    have Hxl := hid hxl; clear hxl
    have Hm := hid hm; have Hq := hid hq1; have Hcells := hid hcells; have Hbl2 := hid hbl
    have hmz : m + 1 ≤ 17592186044416 := by omega
    have hm1 : 1 ≤ m := by omega
    have hgne : some g ≠ v'.ownBlock := fun e => ma hor' hLr.own (by decide) rfl e.symm
    clear hm hq1 hcells hbl hor hor' Hq1 Hq2 Hbs Hih Hp Hcell Hbl hgk
    go_wp2_with fail
    refine (uE _ _ _ _).mono ?_
    rintro e w' ⟨rfl, rfl⟩
    go_wp2_with fail
    have hz4 : ((wr.alloc (.cells #[.int .i64 xl] 3)).alloc (.cells #[.slice (some ⟨g, 0, none⟩) m cap] 45)).heap.size = wr.heap.size + 2 := by simp
    generalize hW : (wr.alloc _).alloc _ = W3 at *
    have hz4a : wr.heap.size + 2 ≤ W3.heap.size := by omega
    have hz4b : W3.heap.size ≤ wr.heap.size + 2 := by omega
    clear hz4
    have hbr : Below wr.heap.size wr W3 := by subst hW; exact nal.alloc (by simp) _
    have cx : W3.cell? ⟨wr.heap.size, 0, none⟩ = some (.int .i64 xl) := by subst hW; simp [go_sem]
    have ex : W3.frozen? ⟨wr.heap.size, 0, none⟩ = false := by subst hW; simp [go_sem]
    have cb : W3.cell? ⟨wr.heap.size + 1, 0, none⟩ = some (.slice (some ⟨g, 0, none⟩) m cap) := by subst hW; simp [go_sem]
    clear hW
    have hL3 := hLr.later hbr
    have k3 := (hbr.cell (p := ⟨w.heap.size, 0, none⟩) hzz).trans k0
    have hl3 : Lays L v.ownBlock w W3 := hlw.trans hmw (Lays.of_below hbr)
    have hmg : ∀ (v'' : Value), aP W3 v' v'' → ∀ i, w.heap.size ≤ i → i < W3.heap.size → some i ≠ v'.ownBlock → some i ≠ v''.ownBlock := fun v'' hm i h1 h2 h3 e => by
     rcases hm with hm | ⟨x, hx, hle⟩
     · exact h3 (e.trans hm)
     · rw [hx] at e; injection e with e; omega
    have hxne : some wr.heap.size ≠ v'.ownBlock := fun e => by have := (hLr.own.lt _ e.symm).2; omega
    have hbne : some (wr.heap.size + 1) ≠ v'.ownBlock := fun e => by have := (hLr.own.lt _ e.symm).2; omega
    have hlne : some w.heap.size ≠ v'.ownBlock := hno v' W0 hmr _ (by omega) (by omega)
    refine (wpIn_wide (n := 3)).1 ?_
    refine fW rfl (by omega) (gf := 141) (lb := #[.pointer (some ⟨wr.heap.size + 1, 0, none⟩)]) rfl trivial (enters_of Tryz.func141 (by kernel_rfl) rfl) (enc := yN bs m) (N := m) (fun k => rfl)
     (ChI bs w W3 L base wr.heap.size v v' (cF t.ps tu l).2)
     ?hI ?h0 (dg (fun x => x = g ∨ x = wr.heap.size + 1)) (fun W W' h1 h2 => dg.of_gb (by intro x hx; rcases hx with rfl | rfl <;> omega) h1 h2) (fun h k => h.trans k)
     ?hseq ?hround ?hdone
    case hI =>
     rintro k W W' ⟨v1, h1, h2, h3, h4, h5, h6⟩ hg
     exact ⟨v1, h1.gb hg, h2, h3.gb hg (by omega), (hg.cell h4).1, (hg.cell h5).1, (hg.cell h5).2.trans h6⟩
    case h0 =>
     have hsz := jS bs (cF t.ps tu l).2 (by have := Hm.out; omega)
     have hm' : bs.length - 1 = m := by have := Hm.out; omega
     rw [hm', Hxl.out] at hsz
     unfold ChI
     rw [hm', hsz]
     exact ⟨v', hL3, aP.refl _ _, hl3, k3, cx, ex⟩
    case hseq =>
     intro l0 J W hg hY hJ
     refine uD 2 l0 (wr.heap.size + 1) g 0 cap m bs (by omega) J W (hg.cell cb).1 ?_ hY hJ
     intro i hi
     rw [Nat.zero_add]
     exact (hg.cell ((hbr.cell (p := ⟨g, i, none⟩) hgz.2).trans (Hcells.out i (by omega)))).1
    case hround =>
     intro l0 k W hl0 hzW hk hIk
     obtain ⟨v1, hL1, hm1', hlays, d0, dx, gx⟩ := hIk
     have hm' : bs.length - 1 = m := by have := Hm.out; omega
     have hstep := jT bs (cF t.ps tu l).2 k (by omega)
     rw [hm'] at hstep hL1 dx
     have hlk : (aF (bs.drop (m - k)) (cF t.ps tu l).2).2.length ≤ 1000000 := by
      have h1 := fz bs (cF t.ps tu l).2 (m - k)
      have h2 := Hlen.out
      rw [← Hq.out] at h2
      omega
     have Hstep := hid hstep; have Hm' := hid hm'; clear hstep hm'
     unfold yN
     generalize bs.getD (m - 1 - k) 0 = bk at *
     generalize hs1 : aF (bs.drop (m - k)) (cF t.ps tu l).2 = sk at *
     have Hs1 := hid hs1; clear hs1
     gi_wp2
     refine ⟨KeepsFrom.refl _ _, dg.refl _ _, fun W2 hg2 => ?_⟩
     have hL2 := hL1.gb hg2
     have hlays2 := hlays.gb hg2 (show w.heap.size ≤ W3.heap.size by omega)
     have q0 := (hg2.cell d0).1
     have qx := (hg2.cell dx).1
     have jx := (hg2.cell dx).2.trans gx
     have hz2 := hg2.size
     have hmw1 : aP w v v1 := hmw.trans (by omega) (hm1'.older (by omega) : aP wr v' v1)
     gi_wp2
     refine ⟨trivial, (CallsIn.inRound l0 (callsIn_wide.2 (dU W2 L base v1 sk.2 (aL bk sk.1) hL2 hlk))).mono ?_⟩
     rintro e W4 ⟨rfl, v4, hL4, hm4, hl4⟩
     have hBx : wr.heap.size < W2.heap.size ∧ wr.heap.size ≠ L ∧ some wr.heap.size ≠ v1.ownBlock := ⟨by omega, by omega, hmg v1 hm1' _ (by omega) (by omega) hxne⟩
     have hBl : w.heap.size < W2.heap.size ∧ w.heap.size ≠ L ∧ some w.heap.size ≠ v1.ownBlock := ⟨by omega, by omega, hmg v1 hm1' _ (by omega) (by omega) hlne⟩
     have r0 := (hl4.cell (o := 0) hBl.1 hBl.2.1 hBl.2.2).trans q0
     have rx := (hl4.cell (o := 0) hBx.1 hBx.2.1 hBx.2.2).trans qx
     have ix := (hl4.frozen (o := 0) hBx.1 hBx.2.1 hBx.2.2).trans jx
     have hm5 : aP W3 v' v4 := hm1'.trans (by omega) hm4
     have hl5 := hlays2.trans hmw1 hl4
     have hBx4 := hmg v4 hm5 wr.heap.size (by omega) (by omega) hxne
     have hz4 := hl4.size
     gi_wp2
     have hm2 := Hm'.out
     refine ⟨rfl, ?_, ?_, v4, ?_, hm5, hl5.setNew (by omega) _, ?_, ?_, ?_⟩
     · exact (hl4.keepsFrom hL2 _).trans ((KeepsOthers.setCell _ _ _).from _)
     · intro x hx o'
       have hx1 : x ≠ wr.heap.size := by rcases hx with rfl | rfl <;> omega
       rw [World.cell?_setCell_other _ _ _ _ (by intro e; injection e with e; omega)]
       refine hl4.cell (by rcases hx with rfl | rfl <;> omega) ?_ ?_
       · rcases hx with rfl | rfl <;> omega
       · rcases hx with rfl | rfl
         · exact hmg v1 hm1' _ (by omega) (by omega) hgne
         · exact hmg v1 hm1' _ (by omega) (by omega) hbne
     · rw [hm2, Hstep.out]; exact hL4.setOther (by omega) hBx4 _
     · rw [World.cell?_setCell_other _ _ _ _ (by intro e; injection e with e; omega)]; exact r0
     · rw [hm2, Hstep.out]; exact World.cell?_setCell_same _ _ _ rx
     · rw [World.frozen?_setCell]; exact ix
    case hdone =>
     rintro D W hD ⟨v1, h1, h2, h3, h4, h5, h6⟩ hK
     rw [show bs.length - 1 - m = 0 by have := Hm.out; omega, List.drop_zero, Hq.out, ← Hch.out] at h1 h5
     go_wp2_with fail
     refine ⟨by simp, .inl ⟨_, _, rfl, run_takeDeferred hK, ?_⟩⟩
     have hg : GB W3.heap.size W (W.putObj D (.deferred none)) := GB.put _ hK rfl hD
     refine ⟨_, results_tmp rfl _ _ _, ?_⟩
     exact ⟨rfl, v1, h1.gb hg, hmw.trans (by omega) (h2.older (by omega) : aP wr v' v1), h3.gb hg (by omega)⟩
end Go.Proofs.YthlakbjnmbddaaaGreatDoor
namespace Go.Proofs.YthlakbjnmbddaaaGreatDoor
open Lib (hid)
open Go.RowKit
theorem sn {L base : Nat} {v : Value} {l : List St} {w : World} (hL : Layer w L base v l) : ∀ j, w.heap.size ≤ j → some j ≠ v.ownBlock := fun j hj e => by have := (hL.own.lt _ e.symm).2; omega
theorem yr (t : T) (hk : t.k = 0) : bQ 77 t := by
 intro w ok A c L base v l tu hN ho hL hlen
 have hr : ax t tu l = (tu, l) := by rw [cd]; simp [hk]
 have Hr := hid hr; clear hr
 go_enter Tryz.func77, Tryz.ntmps77
 go_wp2_with fail
 go_ret
 rw [Hr.out]
 exact ⟨rfl, v, hL.alloc _, aP.refl _ _, Lays.alloc _ _ _ _⟩
theorem yq (t : T) (hk : t.k = 1) : bQ 77 t := by
 intro w ok A c L base v l tu hN ho hL hlen
 have hr : ax t tu l = ((l.length : Int), l ++ [⟨1, t.s0, t.s1, t.s2, t.s3, tu, 0⟩]) := by rw [cd]; simp [hk]
 rw [hr] at hlen
 have Hr := hid hr; clear hr
 simp only [List.length_append, List.length_cons, List.length_nil] at hlen
 go_enter Tryz.func77, Tryz.ntmps77
 go_wp2_with fail
 refine (dy _ L base v l ⟨1, t.s0, t.s1, t.s2, t.s3, tu, 0⟩ (hL.alloc _) (by omega)).mono ?_
 rintro e w1 ⟨rfl, v1, hL1, hm1, hl1⟩
 go_wp2_with fail
 go_ret
 rw [Hr.out]
 exact ⟨rfl, v1, hL1, (aP.refl w v).trans (by simp) hm1, (Lays.alloc _ _ _ _).trans (aP.refl _ _) hl1⟩
theorem si (t : T) (hk : t.k = 2 ∨ t.k = 3) : bQ 77 t := by
 intro w ok A c L base v l tu hN ho hL hlen
 rcases hk with hk | hk
 · have hr : ax t tu l = ((l.length : Int), l ++ [⟨3, 0, 0, 0, 0, tu, 0⟩]) := by rw [cd]; simp [hk]
   rw [hr] at hlen
   have Hr := hid hr; clear hr
   simp only [List.length_append, List.length_cons, List.length_nil] at hlen
   go_enter Tryz.func77, Tryz.ntmps77
   go_wp2_with fail
   refine (dy _ L base v l ⟨3, 0, 0, 0, 0, tu, 0⟩ (hL.alloc _) (by omega)).mono ?_
   rintro e w1 ⟨rfl, v1, hL1, hm1, hl1⟩
   go_wp2_with fail
   go_ret
   rw [Hr.out]
   exact ⟨rfl, v1, hL1, (aP.refl w v).trans (by simp) hm1, (Lays.alloc _ _ _ _).trans (aP.refl _ _) hl1⟩
 · have hr : ax t tu l = ((l.length : Int), l ++ [⟨4, 0, 0, 0, 0, tu, 0⟩]) := by rw [cd]; simp [hk]
   rw [hr] at hlen
   have Hr := hid hr; clear hr
   simp only [List.length_append, List.length_cons, List.length_nil] at hlen
   go_enter Tryz.func77, Tryz.ntmps77
   go_wp2_with fail
   refine (dy _ L base v l ⟨4, 0, 0, 0, 0, tu, 0⟩ (hL.alloc _) (by omega)).mono ?_
   rintro e w1 ⟨rfl, v1, hL1, hm1, hl1⟩
   go_wp2_with fail
   go_ret
   rw [Hr.out]
   exact ⟨rfl, v1, hL1, (aP.refl w v).trans (by simp) hm1, (Lays.alloc _ _ _ _).trans (aP.refl _ _) hl1⟩
theorem yn (t : T) (hk : t.k = 6) (h : bQ 93 t) : bQ 77 t := by
 intro w ok A c L base v l tu hN ho hL hlen
 have Hlen := hid hlen; have H := hid h; clear hlen h
 have Hk := hid hk
 have e : aB t A c = .agg #[.int .i64 6, .int .u64 t.s0, .int .u64 t.s1, .int .u64 t.s2, .int .u64 t.s3, .int .i64 t.mn, .int .i64 t.mx, .slice A t.ps.length c] := by simp [aB, hk]
 have hcall := H.out (w.alloc (.cells #[.int .i64 6, .int .u64 t.s0, .int .u64 t.s1, .int .u64 t.s2, .int .u64 t.s3, .int .i64 t.mn, .int .i64 t.mx, .slice A t.ps.length c] 48)) ok A c L base v l tu (hN.alloc (fun b hb => (ho b hb).1) _) (ho.alloc _) (hL.alloc _) Hlen.out
 rw [e] at hcall
 rw [e]
 have Hcall := hid hcall; clear hcall hk e
 go_enter Tryz.func77, Tryz.ntmps77
 go_wp2_with fail
 refine Hcall.out.mono ?_
 rintro e w1 ⟨rfl, v1, hL1, hm1, hl1⟩
 go_wp2_with fail
 go_ret
 exact ⟨rfl, v1, hL1, (aP.refl w v).trans (by simp) hm1, (Lays.alloc _ _ _ _).trans (aP.refl _ _) hl1⟩
def zh (t : T) (W0 : World) (L base : Nat) (v : Value) (tu : Int) (l : List St) (n : Nat) (tv iv : Value) (wr : World) : Prop :=
 ∃ (x : Int) (v' : Value), iv = .int .i64 x ∧ x = (n : Int) - 1 ∧ n ≤ t.ps.length ∧ tv = .int .i64 (dJ (t.ps.drop n) tu l).1 ∧ Layer wr L base v' (dJ (t.ps.drop n) tu l).2 ∧ aP W0 v v' ∧ Lays L v.ownBlock W0 wr
theorem yp (t : T) (hk : t.k = 4) (ih : ∀ p ∈ t.ps, bQ 77 p) : bQ 77 t := by
 intro w ok A c L base v l tu hN ho hL hlen
 have hrow : ax t tu l = dJ t.ps tu l := by rw [cd]; simp [hk]
 have hll := hN.len
 have hcc := hN.cap
 rw [hrow] at hlen
 have Hrow := hid hrow; have Hlen := hid hlen; have Hih := hid ih
 clear hrow hlen ih
 have hLlt := hL.lt
 go_enter Tryz.func77, Tryz.ntmps77
 go_wp2_with fail
 clear hk
 generalize hW : w.alloc _ = W0
 have hb0 : Below w.heap.size w W0 := by subst hW; exact nal
 have hz0 : w.heap.size < W0.heap.size := by subst hW; simp
 have c7 : W0.cell? ⟨w.heap.size, 7, none⟩ = some (.slice A t.ps.length c) := by subst hW; simp [go_sem]
 clear hW
 have hL0 := hL.later hb0
 have hno := sn hL
 have hlw0 : Lays L v.ownBlock w W0 := Lays.of_below hb0
 have ho0 : OkL W0 L v ok := ho.later hb0.size (aP.refl _ _)
 have hN0 := hN.later hb0 (fun b hb => (ho b hb).1)
 go_loopg [2, 7] (t.ps.length) (fun n tv iv wr => zh t W0 L base v tu l n tv iv wr)
 case atStart => exact ⟨_, v, rfl, rfl, Nat.le_refl _, by rw [List.drop_of_length_le (Nat.le_refl _), dJ], by rw [List.drop_of_length_le (Nat.le_refl _), dJ]; exact hL0, aP.refl _ _, Lays.refl _ _ _⟩
 case round =>
  obtain ⟨x, v', rfl, hx, hn, rfl, hLr, hmr, hlr⟩ := hrel
  have hor := ho0.later hlr.size hmr
  have hNr := hN0.lays ho0 hlr
  have hzr := hlr.size
  have k7 := (hlr.cell (o := 7) hz0 (by omega) (hno _ (Nat.le_refl _))).trans c7
  by_cases hlt : 0 < gk
  · obtain ⟨i, rfl⟩ : ∃ i, gk = i + 1 := ⟨gk - 1, by omega⟩
    obtain rfl : x = (i : Int) := by omega
    clear hx
    have hi : i < t.ps.length := by omega
    obtain ⟨b, o, rfl, hb, hcell⟩ := hNr.part (by omega)
    obtain ⟨A', c', h8, hNj⟩ := hcell i hi
    obtain ⟨f0, f1, f2, f3, f4, f5, f6, f7⟩ := h8
    have hstep : dJ (t.ps.drop i) tu l = ax t.ps[i] (dJ (t.ps.drop (i + 1)) tu l).1 (dJ (t.ps.drop (i + 1)) tu l).2 := by rw [bI hi, dJ]
    have hst : (dJ (t.ps.drop i) tu l).2.length ≤ 1000000 := Nat.le_trans (jw _ _ _ _) Hlen.out
    have hihj := Hih.out _ (List.getElem_mem hi)
    generalize t.ps[i] = p at *
    have Hihj := hid hihj; have Hstep := hid hstep; clear hihj hstep hcell
    go_wp2_with fail
    refine (Hihj.out _ ok A' c' L base v' _ _ hNj hor hLr (by rw [← Hstep.out]; exact hst)).mono ?_
    rintro e w1 ⟨rfl, v1, hL1, hm1, hl1⟩
    rw [← Hstep.out] at hL1 ⊢
    go_wp2_with fail
    go_roundg i
    case measure => omega
    case rel => exact ⟨_, v1, rfl, by omega, by omega, rfl, hL1, hmr.trans hzr hm1, hlr.trans hmr hl1⟩
  · obtain rfl : gk = 0 := by omega
    obtain rfl : x = -1 := by omega
    clear hx hlt
    rw [List.drop_zero, ← Hrow.out] at hLr ⊢
    go_wp2_with fail
    go_ret
    exact ⟨rfl, v', hLr, (aP.refl w v).trans hb0.size hmr, hlw0.trans (aP.refl _ _) hlr⟩
end Go.Proofs.YthlakbjnmbddaaaGreatDoor
