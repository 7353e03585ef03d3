/- MatchKnown holds: whatever comes in, the call of the law returns true, and what came in reads as it read; the listed variables tied to the text of the program. -/
import Derived.Test.YthlakbjnmbddaaaGreatDoorUKnownMA
import Derived.Test.YthlakbjnmbddaaaGreatDoorUKnownMB
import Derived.Test.YthlakbjnmbddaaaGreatDoorUKnownMC
import Derived.Test.YthlakbjnmbddaaaGreatDoorUKnownMD
import Derived.Test.YthlakbjnmbddaaaGreatDoorUKnownME
import Derived.Test.YthlakbjnmbddaaaGreatDoorUKnownMF
import Derived.WalkSpells
import Derived.Deep.DeepCutAuto
import Derived.Laws.IdiomStrings
import Derived.BigRegion
import Derived.Laws.Strings2
import Derived.HandedShaped
import Derived.LaidMore
import Derived.LaidHandle
import Derived.MakeChecks
import Derived.Stop.LaidErr
import Derived.Lay
import Derived.Test.YthlakbjnmbddaaaGreatDoorCards
import Derived.Test.YthlakbjnmbddaaaGreatDoorTie
import Derived.SevenTiedAt
import Derived.ShutString
import Derived.Below
import Derived.Carry
set_option linter.unusedVariables false
set_option linter.unusedSimpArgs false
set_option maxRecDepth 100000
set_option maxHeartbeats 8000000
namespace Go.Proofs.YthlakbjnmbddaaaGreatDoor
open Lib (hid)
open Go.RowKit
abbrev Rel := Nat → Nat → Prop
def comp (R S : Rel) : Rel := fun i j => ∃ k, R i k ∧ S k j
def ky (R : Rel) : Nat → Rel
 | 0 => fun i j => i = j
 | n + 1 => comp R (ky R n)
theorem fm {R : Rel} : ∀ {n i j : Nat}, ky R (n + 1) i j ↔ ∃ k, ky R n i k ∧ R k j
 | 0, i, j => by
  constructor
  · rintro ⟨k, h, rfl⟩; exact ⟨i, rfl, h⟩
  · rintro ⟨k, rfl, h⟩; exact ⟨j, h, rfl⟩
 | n + 1, i, j => by
  constructor
  · rintro ⟨k, h, h2⟩
    obtain ⟨m, h3, h4⟩ := fm.1 h2
    exact ⟨m, ⟨k, h, h3⟩, h4⟩
  · rintro ⟨m, ⟨k, h, h3⟩, h4⟩
    exact ⟨k, h, fm.2 ⟨m, h3, h4⟩⟩
theorem fG {R : Rel} : ∀ {n m i j : Nat}, ky R (n + m) i j ↔ ∃ k, ky R n i k ∧ ky R m k j
 | 0, m, i, j => by
  rw [Nat.zero_add]
  exact ⟨fun h => ⟨i, rfl, h⟩, fun ⟨k, e, h⟩ => by cases (show i = k from e); exact h⟩
 | n + 1, m, i, j => by
  rw [show n + 1 + m = (n + m) + 1 by omega]
  constructor
  · rintro ⟨k, h, h2⟩
    obtain ⟨q, h3, h4⟩ := fG.1 h2
    exact ⟨q, ⟨k, h, h3⟩, h4⟩
  · rintro ⟨q, ⟨k, h, h3⟩, h4⟩
    exact ⟨k, h, fG.2 ⟨q, h3, h4⟩⟩
theorem jk {R : Rel} (h : ∀ i j, R i j ↔ i = j) : ∀ n i j, ky R n i j ↔ i = j
 | 0, i, j => Iff.rfl
 | n + 1, i, j => by
  constructor
  · rintro ⟨k, h1, h2⟩
    rw [h] at h1; rw [jk h n] at h2; exact h1.trans h2
  · rintro rfl
    exact ⟨i, (h i i).2 rfl, (jk h n i i).2 rfl⟩
mutual
def den (s : List UInt8) : T → Rel
 | .mk k s0 s1 s2 s3 mn mx ps =>
  if k = 1 then fun i j => i < s.length ∧ j = i + 1 ∧ qw ⟨1, s0, s1, s2, s3, 0, 0⟩ (bM s (i + 1)) = true
  else if k = 2 then fun i j => i = 0 ∧ j = i
  else if k = 3 then fun i j => i = s.length ∧ j = i
  else if k = 4 then dr s ps
  else if k = 5 then eZ s ps
  else if k = 6 then fun i j => ∃ n : Nat, mn.toNat ≤ n ∧ (mx < 0 ∨ n ≤ mx.toNat) ∧ ky (ig s ps) n i j
  else fun i j => i = j
def dr (s : List UInt8) : List T → Rel
 | [] => fun i j => i = j
 | p :: ps => comp (den s p) (dr s ps)
def eZ (s : List UInt8) : List T → Rel
 | [] => fun _ _ => False
 | p :: ps => fun i j => den s p i j ∨ eZ s ps i j
def ig (s : List UInt8) : List T → Rel
 | [] => fun i j => i = j
 | p :: _ => den s p
end
theorem kD (s : List UInt8) (t : T) : den s t =
 if t.k = 1 then fun i j => i < s.length ∧ j = i + 1 ∧ qw ⟨1, t.s0, t.s1, t.s2, t.s3, 0, 0⟩ (bM s (i + 1)) = true
 else if t.k = 2 then fun i j => i = 0 ∧ j = i
 else if t.k = 3 then fun i j => i = s.length ∧ j = i
 else if t.k = 4 then dr s t.ps
 else if t.k = 5 then eZ s t.ps
 else if t.k = 6 then fun i j => ∃ n : Nat, t.mn.toNat ≤ n ∧ (t.mx < 0 ∨ n ≤ t.mx.toNat) ∧ ky (ig s t.ps) n i j
 else fun i j => i = j := by cases t; rw [den]; rfl
inductive PthN (M : Nat → St) (s : List UInt8) : Nat → Nat → Nat → Nat → Nat → Prop where
 | refl (x i : Nat) : PthN M s 0 x i x i
 | eps {m x i z y k : Nat} : z ∈ outs (i == 0) (i == s.length) (M x) → PthN M s m z i y k → PthN M s (m + 1) x i y k
 | eat {m x i y k : Nat} : i < s.length → dZ (M x) (bM s (i + 1)) = true → PthN M s m (M x).nx.toNat (i + 1) y k → PthN M s (m + 1) x i y k
def Pth (M : Nat → St) (s : List UInt8) (x i y k : Nat) : Prop := ∃ m, PthN M s m x i y k
theorem PthN.trans {M : Nat → St} {s : List UInt8} {m n x i y j z k : Nat} (h : PthN M s m x i y j) (h2 : PthN M s n y j z k) : PthN M s (m + n) x i z k := by
 induction h with
 | refl => simpa using h2
 | eps he _ ih => rw [show ∀ a : Nat, a + 1 + n = (a + n) + 1 by omega]; exact .eps he (ih h2)
 | eat h1 he _ ih => rw [show ∀ a : Nat, a + 1 + n = (a + n) + 1 by omega]; exact .eat h1 he (ih h2)
theorem Pth.refl {M : Nat → St} {s : List UInt8} (x i : Nat) : Pth M s x i x i := ⟨0, .refl x i⟩
theorem Pth.trans {M : Nat → St} {s : List UInt8} {x i y j z k : Nat} (h : Pth M s x i y j) (h2 : Pth M s y j z k) : Pth M s x i z k := by
 obtain ⟨m, h⟩ := h; obtain ⟨n, h2⟩ := h2; exact ⟨_, h.trans h2⟩
theorem Pth.eps1 {M : Nat → St} {s : List UInt8} {x i z : Nat} (h : z ∈ outs (i == 0) (i == s.length) (M x)) : Pth M s x i z i := ⟨1, .eps h (.refl _ _)⟩
theorem PthN.le {M : Nat → St} {s : List UInt8} {m x i y j : Nat} (h : PthN M s m x i y j) : i ≤ j := by
 induction h with
 | refl => exact Nat.le_refl _
 | eps _ _ ih => exact ih
 | eat _ _ _ ih => omega
theorem PthN.bd {M : Nat → St} {s : List UInt8} {m x i y j : Nat} (h : PthN M s m x i y j) (hi : i ≤ s.length) : j ≤ s.length := by
 induction h with
 | refl => exact hi
 | eps _ _ ih => exact ih hi
 | eat h1 _ _ ih => exact ih h1
def Agr (M : Nat → St) (l : List St) (a : Nat) : Prop := ∀ i, a ≤ i → i < l.length → M i = stN l i
def Ext (l l' : List St) : Prop := l.length ≤ l'.length ∧ ∀ i, i < l.length → stN l' i = stN l i
theorem Ext.refl (l : List St) : Ext l l := ⟨Nat.le_refl _, fun _ _ => rfl⟩
theorem Ext.trans {a b c : List St} (h : Ext a b) (k : Ext b c) : Ext a c := ⟨Nat.le_trans h.1 k.1, fun i hi => (k.2 i (by have := h.1; omega)).trans (h.2 i hi)⟩
theorem sf (l : List St) (x : St) (i : Nat) (hi : i < l.length) : stN (l ++ [x]) i = stN l i := by
 unfold stN; rw [List.getD_eq_getElem?_getD, List.getD_eq_getElem?_getD, List.getElem?_append_left hi]
theorem gw (l : List St) (x : St) : stN (l ++ [x]) l.length = x := by
 unfold stN; rw [List.getD_eq_getElem?_getD, List.getElem?_append_right (Nat.le_refl _)]; simp
theorem Ext.app (l : List St) (x : St) : Ext l (l ++ [x]) := ⟨by simp, fun i hi => sf l x i hi⟩
theorem Agr.ext {M : Nat → St} {l l' : List St} {a : Nat} (h : Agr M l' a) (e : Ext l l') : Agr M l a := fun i h1 h2 => (h i h1 (by have := e.1; omega)).trans (e.2 i h2)
theorem Agr.from {M : Nat → St} {l : List St} {a b : Nat} (h : Agr M l a) (e : a ≤ b) : Agr M l b := fun i h1 h2 => h i (by omega) h2
structure Impl (s : List UInt8) (p : LF) (R : Rel) : Prop where
 ext : ∀ (tu : Int) (l : List St), 0 ≤ tu → tu < l.length → Ext l (p tu l).2 ∧ 0 ≤ (p tu l).1 ∧ (p tu l).1 < (p tu l).2.length
 nil : ∀ (tu : Int) (l : List St), 0 ≤ tu → tu < l.length → (p tu l).2.length = l.length → (p tu l).1 = tu ∧ ∀ i j, R i j ↔ i = j
 comp : ∀ (tu : Int) (l : List St), 0 ≤ tu → tu < l.length → ∀ M, Agr M (p tu l).2 l.length → ∀ i j, R i j → Pth M s (p tu l).1.toNat i tu.toNat j
 sound : ∀ (tu : Int) (l : List St), 0 ≤ tu → tu < l.length → ∀ M, Agr M (p tu l).2 l.length → ∀ m i y k, (y < l.length ∨ (p tu l).2.length ≤ y) → PthN M s m (p tu l).1.toNat i y k → ∃ j m', m' ≤ m ∧ R i j ∧ PthN M s m' tu.toNat j y k
theorem lX {s : List UInt8} {p : LF} {R : Rel} (hp : ∀ tu l, p tu l = (tu, l)) (hR : ∀ i j, R i j ↔ i = j) : Impl s p R where
 ext tu l h0 h1 := by rw [hp]; exact ⟨.refl l, h0, h1⟩
 nil tu l h0 h1 _ := by rw [hp]; exact ⟨rfl, hR⟩
 comp tu l h0 h1 M hM i j h := by rw [hp]; cases (hR i j).1 h; exact .refl _ _
 sound tu l h0 h1 M hM m i y k hy h := by rw [hp] at h; exact ⟨i, m, Nat.le_refl _, (hR i i).2 rfl, h⟩
theorem Impl.iff {s : List UInt8} {p : LF} {R S : Rel} (h : Impl s p R) (e : ∀ i j, R i j ↔ S i j) : Impl s p S := by
 have : R = S := by funext i j; exact propext (e i j)
 exact this ▸ h
theorem mu {s : List UInt8} {p : LF} {R : Rel} (f : Int → St) (hp : ∀ tu l, p tu l = ((l.length : Int), l ++ [f tu])) (h1 : ∀ M tu x i j, M x = f tu → R i j → Pth M s x i tu.toNat j)
 (h2 : ∀ M tu x m i y k, M x = f tu → y ≠ x → PthN M s m x i y k → ∃ j m', m' ≤ m ∧ R i j ∧ PthN M s m' tu.toNat j y k) : Impl s p R where
 ext tu l _ _ := by rw [hp]; exact ⟨.app _ _, by simp only; omega, by simp; omega⟩
 nil tu l _ _ h := by rw [hp] at h; simp at h
 comp tu l h0 hl M hM i j h := by
  rw [hp] at hM ⊢
  exact h1 M tu _ i j (by rw [Int.toNat_natCast, hM _ (Nat.le_refl _) (by simp), gw]) h
 sound tu l h0 hl M hM m i y k hy h := by
  rw [hp] at hM hy h
  simp only [Int.toNat_natCast] at h
  exact h2 M tu _ m i y k (by rw [hM _ (Nat.le_refl _) (by simp), gw]) (by simp at hy; omega) h
theorem Impl.seq {s : List UInt8} {p q : LF} {R S : Rel} (hp : Impl s p R) (hq : Impl s q S) : Impl s (fun tu l => p (q tu l).1 (q tu l).2) (Go.Proofs.YthlakbjnmbddaaaGreatDoor.comp R S) where
 ext tu l h0 h1 := by
  obtain ⟨a, b, c⟩ := hq.ext tu l h0 h1
  obtain ⟨d, e, f⟩ := hp.ext _ _ b c
  exact ⟨a.trans d, e, f⟩
 nil tu l h0 h1 hl := by
  obtain ⟨a, b, c⟩ := hq.ext tu l h0 h1
  obtain ⟨d, e, f⟩ := hp.ext _ _ b c
  have := a.1; have := d.1
  try simp only at hl
  obtain ⟨n1, n2⟩ := hq.nil tu l h0 h1 (by omega)
  obtain ⟨n3, n4⟩ := hp.nil _ _ b c (by omega)
  refine ⟨n3.trans n1, fun i j => ⟨?_, ?_⟩⟩
  · rintro ⟨k, h, h'⟩; rw [n4] at h; rw [n2] at h'; exact h.trans h'
  · rintro rfl; exact ⟨i, (n4 _ _).2 rfl, (n2 _ _).2 rfl⟩
 comp tu l h0 h1 M hM i j h := by
  obtain ⟨a, b, c⟩ := hq.ext tu l h0 h1
  obtain ⟨d, e, f⟩ := hp.ext _ _ b c
  obtain ⟨k, h2, h3⟩ := h
  exact (hp.comp _ _ b c M (hM.from a.1) i k h2).trans (hq.comp tu l h0 h1 M (hM.ext d) k j h3)
 sound tu l h0 h1 M hM m i y k hy h := by
  obtain ⟨a, b, c⟩ := hq.ext tu l h0 h1
  obtain ⟨d, e, f⟩ := hp.ext _ _ b c
  have := a.1; have := d.1
  try simp only at hy
  obtain ⟨j, m1, hm1, hr, h2⟩ := hp.sound _ _ b c M (hM.from a.1) m i y k (by omega) h
  obtain ⟨j2, m2, hm2, hs, h3⟩ := hq.sound tu l h0 h1 M (hM.ext d) m1 j y k (by omega) h2
  exact ⟨j2, m2, by omega, ⟨j, hr, hs⟩, h3⟩
theorem dA (b e : Bool) (x y : Int) : outs b e (aL x y) = [x.toNat, y.toNat] := rfl
theorem oz (x y : Int) (c : Nat) : dZ (aL x y) c = false := rfl
theorem gd {M : Nat → St} {s : List UInt8} {m x i y k : Nat} {a b : Int} (hM : M x = aL a b) (hy : y ≠ x) (h : PthN M s m x i y k) : (∃ m', m' < m ∧ PthN M s m' a.toNat i y k) ∨ ∃ m', m' < m ∧ PthN M s m' b.toNat i y k := by
 cases h with
 | refl => exact absurd rfl hy
 | eps he h =>
  rw [hM, dA] at he
  simp only [List.mem_cons, List.not_mem_nil, or_false] at he
  rcases he with rfl | rfl
  · exact .inl ⟨_, by omega, h⟩
  · exact .inr ⟨_, by omega, h⟩
 | eat _ he _ => rw [hM, oz] at he; cases he
theorem gB {s : List UInt8} {p : LF} {R : Rel} (hp : Impl s p R) (tu : Int) (h0 : 0 ≤ tu) : ∀ (n : Nat) (t : Int) (l : List St), tu < l.length → 0 ≤ t → t < l.length →
 Ext l (da p tu n t l).2 ∧ (0 ≤ (da p tu n t l).1 ∧ (da p tu n t l).1 < (da p tu n t l).2.length) ∧ l.length + n ≤ (da p tu n t l).2.length ∧
 ∀ M, Agr M (da p tu n t l).2 l.length →
  (∀ i j, ky R n i j → Pth M s (da p tu n t l).1.toNat i t.toNat j) ∧ (∀ a i j, a < n → ky R a i j → Pth M s (da p tu n t l).1.toNat i tu.toNat j) ∧
  ∀ m i y k, (y < l.length ∨ (da p tu n t l).2.length ≤ y) → PthN M s m (da p tu n t l).1.toNat i y k → (∃ a j m', a < n ∧ m' ≤ m ∧ ky R a i j ∧ PthN M s m' tu.toNat j y k) ∨ ∃ j m', m' ≤ m ∧ ky R n i j ∧ PthN M s m' t.toNat j y k
 | 0, t, l, h1, h2, h3 => by
  rw [da]
  exact ⟨.refl l, ⟨h2, h3⟩, by simp, fun M hM => ⟨fun i j h => by cases (show i = j from h); exact .refl _ _, fun a i j ha => by omega, fun m i y k _ h => .inr ⟨i, m, Nat.le_refl _, rfl, h⟩⟩⟩
 | n + 1, t, l, h1, h2, h3 => by
  obtain ⟨e1, x0, x1⟩ := hp.ext t l h2 h3
  have g1 := e1.1
  rw [da]
  generalize hx : (p t l).1 = x at *
  generalize hq : (p t l).2 = q at *
  have hql : ((q ++ [aL x tu]).length : Int) = q.length + 1 := by simp
  obtain ⟨e2, y0, y1, hB⟩ := gB hp tu h0 n (q.length : Int) (q ++ [aL x tu]) (by omega) (by omega) (by omega)
  have g2 := e2.1
  have hlq : (q ++ [aL x tu]).length = q.length + 1 := by simp
  have e3 : Ext l (q ++ [aL x tu]) := e1.trans (.app _ _)
  refine ⟨e3.trans e2, y0, by omega, fun M hM => ?_⟩
  obtain ⟨b1, b2, b3⟩ := hB M (hM.from (by omega))
  have hA := hM.ext e2
  have hMt : M q.length = aL x tu := by rw [hA _ (by omega) (by omega), gw]
  have hAp : Agr M q l.length := hA.ext (.app _ _)
  have hAp' : Agr M (p t l).2 l.length := by rw [hq]; exact hAp
  refine ⟨fun i j h => ?_, fun a i j ha h => ?_, fun m i y k hy h => ?_⟩
  · obtain ⟨j1, h4, h5⟩ := fm.1 h
    have c1 := b1 i j1 h4
    rw [Int.toNat_natCast] at c1
    refine c1.trans ((Pth.eps1 (z := x.toNat) (by rw [hMt, dA]; simp)).trans ?_)
    have := hp.comp t l h2 h3 M hAp' j1 j h5
    rwa [hx] at this
  · rcases Nat.lt_or_ge a n with hlt | hge
    · exact b2 a i j hlt h
    · have : a = n := by omega
      subst this
      have c1 := b1 i j h
      rw [Int.toNat_natCast] at c1
      exact c1.trans (Pth.eps1 (by rw [hMt, dA]; simp))
  · rcases b3 m i y k (by omega) h with ⟨a, j, m', ha, hm', hr, h6⟩ | ⟨j, m', hm', hr, h6⟩
    · exact .inl ⟨a, j, m', by omega, hm', hr, h6⟩
    · rw [Int.toNat_natCast] at h6
      rcases gd hMt (by omega) h6 with ⟨m2, hm2, h7⟩ | ⟨m2, hm2, h7⟩
      · obtain ⟨j2, m3, hm3, hr2, h8⟩ := hp.sound t l h2 h3 M hAp' m2 j y k (by rw [hq]; omega) (by rw [hx]; exact h7)
        exact .inr ⟨j2, m3, by omega, fm.2 ⟨j, hr, hr2⟩, h8⟩
      · exact .inl ⟨n, j, m2, by omega, by omega, hr, h7⟩
theorem tK {s : List UInt8} {p : LF} {R : Rel} (hp : Impl s p R) (n : Nat) : Impl s (fun tu l => da p tu n tu l) (fun i j => ∃ a, a ≤ n ∧ ky R a i j) where
 ext tu l h0 h1 := by obtain ⟨a, b, _⟩ := gB hp tu h0 n tu l h1 h0 h1; exact ⟨a, b⟩
 nil tu l h0 h1 hl := by
  obtain ⟨_, _, c, _⟩ := gB hp tu h0 n tu l h1 h0 h1
  have hn : n = 0 := by omega
  subst hn
  refine ⟨by simp only [da], fun i j => ⟨?_, fun h => ⟨0, Nat.le_refl _, h⟩⟩⟩
  rintro ⟨a, ha, h⟩
  have : a = 0 := by omega
  subst this
  exact h
 comp tu l h0 h1 M hM i j h := by
  obtain ⟨_, _, _, d⟩ := gB hp tu h0 n tu l h1 h0 h1
  obtain ⟨d1, d2, _⟩ := d M hM
  obtain ⟨a, ha, h⟩ := h
  rcases Nat.lt_or_ge a n with hlt | hge
  · exact d2 a i j hlt h
  · have : a = n := by omega
    subst this
    exact d1 i j h
 sound tu l h0 h1 M hM m i y k hy h := by
  obtain ⟨_, _, _, d⟩ := gB hp tu h0 n tu l h1 h0 h1
  obtain ⟨_, _, d3⟩ := d M hM
  rcases d3 m i y k hy h with ⟨a, j, m', ha, hm, hr, h2⟩ | ⟨j, m', hm, hr, h2⟩
  · exact ⟨j, m', hm, ⟨a, by omega, hr⟩, h2⟩
  · exact ⟨j, m', hm, ⟨n, Nat.le_refl _, hr⟩, h2⟩
theorem ml {s : List UInt8} {p : LF} {R : Rel} (hp : Impl s p R) : ∀ n, Impl s (dE p n) (ky R n)
 | 0 => lX (fun tu l => rfl) (fun i j => Iff.rfl)
 | n + 1 => by
  have ih := ml hp n
  have hsq := ih.seq hp
  have key : ∀ tu l, 0 ≤ tu → tu < (l.length : Int) → (dE p (n + 1) tu l = dE p n (p tu l).1 (p tu l).2) ∨ (dE p (n + 1) tu l = p tu l ∧ ∀ i j, R i j ↔ i = j) := fun tu l h0 h1 => by
   rw [dE]
   split
   · rename_i hl
     exact .inr ⟨rfl, (hp.nil tu l h0 h1 hl).2⟩
   · exact .inl rfl
  have hR : ∀ i j, ky R (n + 1) i j ↔ Go.Proofs.YthlakbjnmbddaaaGreatDoor.comp (ky R n) R i j := fun i j => fm
  refine ⟨fun tu l h0 h1 => ?_, fun tu l h0 h1 hl => ?_, fun tu l h0 h1 M hM i j h => ?_, fun tu l h0 h1 M hM m i y k hy h => ?_⟩
  · rcases key tu l h0 h1 with e | ⟨e, _⟩
    · rw [e]; exact hsq.ext tu l h0 h1
    · rw [e]; exact hp.ext tu l h0 h1
  · rcases key tu l h0 h1 with e | ⟨e, he⟩
    · rw [e] at hl ⊢
      obtain ⟨a, b⟩ := hsq.nil tu l h0 h1 hl
      exact ⟨a, fun i j => (hR i j).trans (b i j)⟩
    · rw [e] at hl ⊢
      exact ⟨(hp.nil tu l h0 h1 hl).1, jk he _⟩
  · rcases key tu l h0 h1 with e | ⟨e, he⟩
    · rw [e] at hM ⊢
      exact hsq.comp tu l h0 h1 M hM i j ((hR i j).1 h)
    · rw [e] at hM ⊢
      exact hp.comp tu l h0 h1 M hM i j ((he i j).2 ((jk he _ i j).1 h))
  · rcases key tu l h0 h1 with e | ⟨e, he⟩
    · rw [e] at hM hy h
      obtain ⟨j, m', hm, hr, h2⟩ := hsq.sound tu l h0 h1 M hM m i y k hy h
      exact ⟨j, m', hm, (hR i j).2 hr, h2⟩
    · rw [e] at hM hy h
      obtain ⟨j, m', hm, hr, h2⟩ := hp.sound tu l h0 h1 M hM m i y k hy h
      exact ⟨j, m', hm, (jk he _ i j).2 ((he i j).1 hr), h2⟩
theorem eA (l : List St) (i : Nat) (x : Int) : (setNx l i x).length = l.length := by simp [setNx]
theorem jV (l : List St) (i j : Nat) (x : Int) (h : j ≠ i) : stN (setNx l i x) j = stN l j := by
 unfold stN setNx
 rw [List.getD_eq_getElem?_getD, List.getD_eq_getElem?_getD, List.getElem?_modify, show ((fun s : St => if i = j then { s with nx := x } else s) <$> l[j]?).getD default = l[j]?.getD default from ?_]
 rw [show (fun s : St => if i = j then { s with nx := x } else s) = id from by funext a; rw [if_neg (fun e => h e.symm)]; rfl]
 cases l[j]? <;> rfl
theorem qL (l : List St) (i : Nat) (x : Int) (h : i < l.length) : stN (setNx l i x) i = { stN l i with nx := x } := by
 unfold stN setNx
 rw [List.getD_eq_getElem?_getD, List.getD_eq_getElem?_getD, List.getElem?_modify, List.getElem?_eq_getElem h]
 simp
theorem td {s : List UInt8} {p : LF} {R : Rel} (hp : Impl s p R) : Impl s (bT p) (fun i j => ∃ a, ky R a i j) := by
 have pre : ∀ (tu : Int) (l : List St), 0 ≤ tu → tu < l.length → Ext (l ++ [aL 0 tu]) (p l.length (l ++ [aL 0 tu])).2 ∧ 0 ≤ (p l.length (l ++ [aL 0 tu])).1 ∧ (p l.length (l ++ [aL 0 tu])).1 < (p l.length (l ++ [aL 0 tu])).2.length :=
  fun tu l h0 h1 => hp.ext _ _ (by omega) (by simp; omega)
 have hM0 : ∀ (tu : Int) (l : List St), 0 ≤ tu → tu < l.length → ∀ M, Agr M (bT p tu l).2 l.length → M l.length = aL (p l.length (l ++ [aL 0 tu])).1 tu ∧ Agr M (p l.length (l ++ [aL 0 tu])).2 (l ++ [aL 0 tu]).length := fun tu l h0 h1 M hM => by
  obtain ⟨e1, x0, x1⟩ := pre tu l h0 h1
  have g := e1.1
  have g' : (l ++ [aL 0 tu]).length = l.length + 1 := by simp
  constructor
  · rw [hM l.length (Nat.le_refl _) (by simp only [bT, eA]; omega)]
    simp only [bT]
    rw [qL _ _ _ (by omega), e1.2 _ (by omega), gw]; rfl
  · intro i h2 h3
    rw [hM i (by omega) (by simp only [bT, eA]; omega)]
    simp only [bT]
    rw [jV _ _ _ _ (by omega)]
 have g' : ∀ (tu : Int) (l : List St), (l ++ [aL 0 tu]).length = l.length + 1 := fun tu l => by simp
 refine ⟨fun tu l h0 h1 => ?_, fun tu l h0 h1 hl => ?_, fun tu l h0 h1 M hM i j h => ?_, fun tu l h0 h1 M hM m i y k hy h => ?_⟩
 · obtain ⟨e1, x0, x1⟩ := pre tu l h0 h1
   have g := e1.1
   refine ⟨⟨by simp only [bT, eA]; have := g' tu l; omega, fun i hi => ?_⟩, by simp only [bT]; omega, by simp only [bT, eA]; have := g' tu l; omega⟩
   simp only [bT]
   rw [jV _ _ _ _ (by omega), e1.2 i (by have := g' tu l; omega), sf _ _ _ hi]
 · obtain ⟨e1, x0, x1⟩ := pre tu l h0 h1
   have g := e1.1
   simp only [bT, eA] at hl
   have := g' tu l
   omega
 · obtain ⟨m1, m2⟩ := hM0 tu l h0 h1 M hM
   obtain ⟨a, h⟩ := h
   simp only [bT, Int.toNat_natCast]
   induction a generalizing i with
   | zero => cases (show i = j from h); exact Pth.eps1 (by rw [m1, dA]; simp)
   | succ a ih =>
    obtain ⟨k, h2, h3⟩ := h
    have c := hp.comp l.length (l ++ [aL 0 tu]) (by omega) (by simp; omega) M m2 i k h2
    rw [Int.toNat_natCast] at c
    exact ((Pth.eps1 (by rw [m1, dA]; simp)).trans c).trans (ih k h3)
 · obtain ⟨m1, m2⟩ := hM0 tu l h0 h1 M hM
   obtain ⟨e1, x0, x1⟩ := pre tu l h0 h1
   have g := e1.1
   have g2 := g' tu l
   simp only [bT, Int.toNat_natCast, eA] at h hy
   induction m using Nat.strongRecOn generalizing i with
   | _ m ih =>
    rcases gd m1 (by omega) h with ⟨m3, hm3, h4⟩ | ⟨m3, hm3, h4⟩
    · obtain ⟨j, m4, hm4, hr, h5⟩ := hp.sound l.length (l ++ [aL 0 tu]) (by omega) (by simp; omega) M m2 m3 i y k (by omega) h4
      rw [Int.toNat_natCast] at h5
      obtain ⟨j2, m5, hm5, ⟨a, hr2⟩, h6⟩ := ih m4 (by omega) j h5
      exact ⟨j2, m5, by omega, ⟨a + 1, j, hr, hr2⟩, h6⟩
    · exact ⟨i, m3, by omega, ⟨0, rfl⟩, h4⟩
theorem vg {s : List UInt8} {p : LF} {R : Rel} (hp : Impl s p R) (mn mx : Int) (h0 : 0 ≤ mn) (hx : mx < 0 ∨ mn ≤ mx) : Impl s (iN mn mx p) (fun i j => ∃ n : Nat, mn.toNat ≤ n ∧ (mx < 0 ∨ n ≤ mx.toNat) ∧ ky R n i j) := by
 by_cases hm : mx < 0
 · have h := (ml hp mn.toNat).seq (td hp)
   have e : (fun tu l => dE p mn.toNat (bT p tu l).1 (bT p tu l).2) = iN mn mx p := by funext tu l; unfold iN; simp only [if_pos hm]
   rw [e] at h
   refine h.iff fun i j => ⟨?_, ?_⟩
   · rintro ⟨k, h1, a, h2⟩
     exact ⟨mn.toNat + a, by omega, .inl hm, fG.2 ⟨k, h1, h2⟩⟩
   · rintro ⟨n, h1, _, h2⟩
     rw [show n = mn.toNat + (n - mn.toNat) by omega, fG] at h2
     obtain ⟨k, h3, h4⟩ := h2
     exact ⟨k, h3, _, h4⟩
 · have h := (ml hp mn.toNat).seq (tK hp (mx - mn).toNat)
   have e : (fun tu l => dE p mn.toNat (da p tu (mx - mn).toNat tu l).1 (da p tu (mx - mn).toNat tu l).2) = iN mn mx p := by funext tu l; unfold iN; simp only [if_neg hm]
   rw [e] at h
   refine h.iff fun i j => ⟨?_, ?_⟩
   · rintro ⟨k, h1, a, ha, h2⟩
     exact ⟨mn.toNat + a, by omega, .inr (by omega), fG.2 ⟨k, h1, h2⟩⟩
   · rintro ⟨n, h1, h3, h2⟩
     rw [show n = mn.toNat + (n - mn.toNat) by omega, fG] at h2
     obtain ⟨k, h4, h5⟩ := h2
     exact ⟨k, h4, _, by omega, h5⟩
theorem pL {s : List UInt8} : ∀ (ps : List T), (∀ p ∈ ps, Impl s (ax p) (den s p)) → Impl s (dJ ps) (dr s ps)
 | [], _ => lX (fun tu l => by rw [dJ]) (fun i j => by rw [dr])
 | p :: ps, h => by
  have := (h p (List.mem_cons_self ..)).seq (pL ps fun q hq => h q (List.mem_cons_of_mem _ hq))
  have e : (fun tu l => ax p (dJ ps tu l).1 (dJ ps tu l).2) = dJ (p :: ps) := by funext tu l; rw [dJ]
  rw [e] at this
  rw [dr]; exact this
theorem gF {s : List UInt8} (tu : Int) (h0 : 0 ≤ tu) : ∀ (ps : List T), (∀ p ∈ ps, Impl s (ax p) (den s p)) → ∀ l : List St, tu < l.length →
 Ext l (cF ps tu l).2 ∧ (∀ b ∈ (cF ps tu l).1, 0 ≤ b ∧ b < (cF ps tu l).2.length) ∧
 ∀ M, Agr M (cF ps tu l).2 l.length →
  (∀ i j, eZ s ps i j → ∃ b ∈ (cF ps tu l).1, Pth M s b.toNat i tu.toNat j) ∧
  ∀ b ∈ (cF ps tu l).1, ∀ m i y k, (y < l.length ∨ (cF ps tu l).2.length ≤ y) → PthN M s m b.toNat i y k → ∃ j m', m' ≤ m ∧ eZ s ps i j ∧ PthN M s m' tu.toNat j y k
 | [], _, l, h1 => by
  rw [cF]
  exact ⟨.refl l, fun b hb => (List.not_mem_nil hb).elim, fun M hM => ⟨fun i j h => by rw [eZ] at h; exact h.elim, fun b hb => (List.not_mem_nil hb).elim⟩⟩
 | p :: ps, h, l, h1 => by
  have hp := h p (List.mem_cons_self ..)
  obtain ⟨e1, x0, x1⟩ := hp.ext tu l h0 h1
  have g1 := e1.1
  obtain ⟨e2, y0, hB⟩ := gF tu h0 ps (fun q hq => h q (List.mem_cons_of_mem _ hq)) (ax p tu l).2 (by omega)
  have g2 := e2.1
  rw [cF]
  refine ⟨e1.trans e2, fun b hb => ?_, fun M hM => ?_⟩
  · simp only [List.mem_cons] at hb ⊢
    rcases hb with rfl | hb
    · omega
    · exact y0 b hb
  · simp only at hM
    obtain ⟨b1, b2⟩ := hB M (hM.from g1)
    have hA := hM.ext e2
    refine ⟨fun i j hd => ?_, fun b hb m i y k hy hP => ?_⟩
    · rw [eZ] at hd
      rcases hd with hd | hd
      · exact ⟨_, List.mem_cons_self .., hp.comp tu l h0 h1 M hA i j hd⟩
      · obtain ⟨b, hb, hh⟩ := b1 i j hd
        exact ⟨b, List.mem_cons_of_mem _ hb, hh⟩
    · simp only [List.mem_cons] at hb
      simp only at hy
      rcases hb with rfl | hb
      · obtain ⟨j, m', hm, hr, h3⟩ := hp.sound tu l h0 h1 M hA m i y k (by omega) hP
        exact ⟨j, m', hm, by rw [eZ]; exact .inl hr, h3⟩
      · obtain ⟨j, m', hm, hr, h3⟩ := b2 b hb m i y k (by omega) hP
        exact ⟨j, m', hm, by rw [eZ]; exact .inr hr, h3⟩
theorem eO {s : List UInt8} : ∀ (bs : List Int) (l : List St), bs ≠ [] → (∀ b ∈ bs, 0 ≤ b ∧ b < (l.length : Int)) →
 Ext l (aF bs l).2 ∧ (0 ≤ (aF bs l).1 ∧ (aF bs l).1 < (aF bs l).2.length) ∧
 ∀ M, Agr M (aF bs l).2 l.length →
  (∀ b ∈ bs, ∀ i, Pth M s (aF bs l).1.toNat i b.toNat i) ∧
  ∀ m i y k, (y < l.length ∨ (aF bs l).2.length ≤ y) → PthN M s m (aF bs l).1.toNat i y k → ∃ b ∈ bs, ∃ m', m' ≤ m ∧ PthN M s m' b.toNat i y k
 | [], l, h, _ => absurd rfl h
 | [x], l, _, h => by
  rw [aF]
  exact ⟨.refl l, h x (by simp), fun M hM => ⟨fun b hb i => by simp at hb; subst hb; exact .refl _ _, fun m i y k _ hP => ⟨x, by simp, m, Nat.le_refl _, hP⟩⟩⟩
 | a :: b :: bs, l, _, h => by
  obtain ⟨e1, x0, hB⟩ := eO (s := s) (b :: bs) l (by simp) (fun c hc => h c (List.mem_cons_of_mem _ hc))
  have g1 := e1.1
  have ha := h a (List.mem_cons_self ..)
  rw [aF]
  · generalize aF (b :: bs) l = q at *
    obtain ⟨x, q⟩ := q
    simp only at *
    refine ⟨e1.trans (.app _ _), by simp; omega, fun M hM => ?_⟩
    have hMq : M q.length = aL a x := by rw [hM _ g1 (by simp), gw]
    obtain ⟨b1, b2⟩ := hB M (hM.ext (.app _ _))
    refine ⟨fun c hc i => ?_, fun m i y k hy hP => ?_⟩
    · rw [Int.toNat_natCast]
      rcases List.mem_cons.1 hc with rfl | hc
      · exact Pth.eps1 (by rw [hMq, dA]; simp)
      · exact (Pth.eps1 (z := x.toNat) (by rw [hMq, dA]; simp)).trans (b1 c hc i)
    · rw [Int.toNat_natCast] at hP
      simp at hy
      rcases gd hMq (by omega) hP with ⟨m', hm, h3⟩ | ⟨m', hm, h3⟩
      · exact ⟨a, List.mem_cons_self .., m', by omega, h3⟩
      · obtain ⟨c, hc, m2, hm2, h4⟩ := b2 m' i y k (by omega) h3
        exact ⟨c, List.mem_cons_of_mem _ hc, m2, by omega, h4⟩
  · simp
theorem ww {s : List UInt8} (ps : List T) (hl : 2 ≤ ps.length) (h : ∀ p ∈ ps, Impl s (ax p) (den s p)) : Impl s (fun tu l => aF (cF ps tu l).1 (cF ps tu l).2) (eZ s ps) := by
 have hne : ∀ tu l, (cF ps tu l).1 ≠ [] := fun tu l e => by
  have := eM ps tu l
  rw [e] at this; simp at this; omega
 refine ⟨fun tu l h0 h1 => ?_, fun tu l h0 h1 hl' => ?_, fun tu l h0 h1 M hM i j hd => ?_, fun tu l h0 h1 M hM m i y k hy hP => ?_⟩
 · obtain ⟨a, b, _⟩ := gF tu h0 ps h l h1
   obtain ⟨c, d, _⟩ := eO (s := s) _ _ (hne tu l) b
   exact ⟨a.trans c, d⟩
 · obtain ⟨a, b, _⟩ := gF tu h0 ps h l h1
   have := a.1
   try simp only at hl'
   rw [cL, eM] at hl'
   omega
 · obtain ⟨a, b, c⟩ := gF tu h0 ps h l h1
   obtain ⟨d, e, f⟩ := eO (s := s) _ _ (hne tu l) b
   obtain ⟨c1, c2⟩ := c M (hM.ext d)
   obtain ⟨f1, f2⟩ := f M (hM.from a.1)
   obtain ⟨x, hx, hh⟩ := c1 i j hd
   exact (f1 x hx i).trans hh
 · obtain ⟨a, b, c⟩ := gF tu h0 ps h l h1
   obtain ⟨d, e, f⟩ := eO (s := s) _ _ (hne tu l) b
   obtain ⟨c1, c2⟩ := c M (hM.ext d)
   obtain ⟨f1, f2⟩ := f M (hM.from a.1)
   have g1 := a.1; have g2 := d.1
   try simp only at hy
   obtain ⟨x, hx, m', hm, h2⟩ := f2 m i y k (by omega) hP
   obtain ⟨j, m2, hm2, hr, h3⟩ := c2 x hx m' i y k (by omega) h2
   exact ⟨j, m2, by omega, hr, h3⟩
theorem vJ (s : List UInt8) (t : T) : aC t = true → Impl s (ax t) (den s t) := by
 induction t using T.ind with
 | h t ih =>
  intro hr
  have hps : ∀ p ∈ t.ps, Impl s (ax p) (den s p) := fun p hp => ih p hp (aO hr p hp)
  rw [show ax t = fun (tu : Int) (l : List St) => (ax t tu l) from rfl, kD]
  simp only [cd t]
  rcases aJ hr with ⟨hk, h⟩ | ⟨hk, h⟩ | ⟨hk, h⟩ | ⟨hk, h⟩ | ⟨hk, h⟩ | ⟨hk, h⟩ | ⟨hk, h⟩
  · simp [hk]; exact lX (fun _ _ => rfl) (fun _ _ => Iff.rfl)
  · simp only [hk, if_true]
    refine mu (fun tu => ⟨1, t.s0, t.s1, t.s2, t.s3, tu, 0⟩) (fun _ _ => rfl) (fun M tu x i j hM => ?_) (fun M tu x m i y k hM hy hP => ?_)
    · rintro ⟨h1, rfl, h2⟩
      have h3 : PthN M s 1 x i tu.toNat (i + 1) := .eat h1 (by rw [hM]; simpa [dZ, qw, iJ] using h2) (by rw [hM]; exact .refl _ _)
      exact ⟨1, h3⟩
    · cases hP with
      | refl => exact absurd rfl hy
      | eps he _ => rw [hM] at he; simp [outs] at he
      | eat h1 he h2 =>
       rw [hM] at he h2
       exact ⟨i + 1, _, Nat.le_succ _, ⟨h1, rfl, by simpa [dZ, qw, iJ] using he⟩, h2⟩
  · simp only [hk, show ¬ ((2 : Int) = 1) by omega, if_true, if_false]
    refine mu (fun tu => ⟨3, 0, 0, 0, 0, tu, 0⟩) (fun _ _ => rfl) (fun M tu x i j hM => ?_) (fun M tu x m i y k hM hy hP => ?_)
    · rintro ⟨rfl, rfl⟩
      exact Pth.eps1 (by rw [hM]; simp [outs])
    · cases hP with
      | refl => exact absurd rfl hy
      | eps he h2 =>
       rw [hM] at he
       simp only [outs] at he
       by_cases hi : i = 0
       · subst hi; simp at he; subst he; exact ⟨0, _, Nat.le_succ _, ⟨rfl, rfl⟩, h2⟩
       · simp [hi] at he
      | eat h1 he h2 => rw [hM] at he; simp [dZ] at he
  · simp only [hk, show ¬ ((3 : Int) = 1) by omega, show ¬ ((3 : Int) = 2) by omega, if_true, if_false]
    refine mu (fun tu => ⟨4, 0, 0, 0, 0, tu, 0⟩) (fun _ _ => rfl) (fun M tu x i j hM => ?_) (fun M tu x m i y k hM hy hP => ?_)
    · rintro ⟨rfl, rfl⟩
      exact Pth.eps1 (by rw [hM]; simp [outs])
    · cases hP with
      | refl => exact absurd rfl hy
      | eps he h2 =>
       rw [hM] at he
       simp only [outs] at he
       by_cases hi : i = s.length
       · subst hi; simp at he; subst he; exact ⟨s.length, _, Nat.le_succ _, ⟨rfl, rfl⟩, h2⟩
       · simp [hi] at he
      | eat h1 he h2 => rw [hM] at he; simp [dZ] at he
  · simp only [hk, show ¬ ((4 : Int) = 1) by omega, show ¬ ((4 : Int) = 2) by omega, show ¬ ((4 : Int) = 3) by omega, if_true, if_false]
    exact pL t.ps hps
  · simp only [hk, show ¬ ((5 : Int) = 1) by omega, show ¬ ((5 : Int) = 2) by omega, show ¬ ((5 : Int) = 3) by omega, show ¬ ((5 : Int) = 4) by omega, if_true, if_false]
    exact ww t.ps h.1 hps
  · simp only [hk, show ¬ ((6 : Int) = 1) by omega, show ¬ ((6 : Int) = 2) by omega, show ¬ ((6 : Int) = 3) by omega, show ¬ ((6 : Int) = 4) by omega, show ¬ ((6 : Int) = 5) by omega, if_true, if_false]
    have hh : Impl s (ec t.ps) (ig s t.ps) := by
     cases hq : t.ps with
     | nil => exact lX (fun _ _ => by rw [ec]) (fun _ _ => by rw [ig])
     | cons p ps =>
      rw [show ec (p :: ps) = ax p by funext tu l; rw [ec], ig]
      exact hps p (by rw [hq]; exact List.mem_cons_self ..)
    exact vg hh t.mn t.mx h.2.1 (by omega)
structure OkS (n : Nat) (s : St) : Prop where
 k : s.k = 1 ∨ s.k = 2 ∨ s.k = 3 ∨ s.k = 4
 nx : 0 ≤ s.nx ∧ s.nx < n
 ot : (s.k = 2 → 0 ≤ s.ot ∧ s.ot < n) ∧ (s.k ≠ 2 → s.ot = 0)
 set : s.k ≠ 1 → s.s0 = 0 ∧ s.s1 = 0 ∧ s.s2 = 0 ∧ s.s3 = 0
theorem OkS.le {n m : Nat} {s : St} (h : OkS n s) (hnm : n ≤ m) : OkS m s := ⟨h.k, by have := h.nx; omega, ⟨fun e => by have := h.ot.1 e; omega, h.ot.2⟩, h.set⟩
structure Inv (l : List St) : Prop where
 zero : l[0]? = some ⟨5, 0, 0, 0, 0, 0, 0⟩
 rest : ∀ (i : Nat) (s : St), l[i]? = some s → i ≠ 0 → OkS l.length s
theorem Inv.pos {l : List St} (h : Inv l) : 0 < l.length := (List.getElem?_eq_some_iff.1 h.zero).1
theorem Inv.push {l : List St} (h : Inv l) {s : St} (hs : OkS (l.length + 1) s) : Inv (l ++ [s]) := by
 have hp := h.pos
 refine ⟨by rw [List.getElem?_append_left hp]; exact h.zero, fun i x hi h0 => ?_⟩
 rw [List.length_append]
 rcases Nat.lt_or_ge i l.length with hl | hl
 · rw [List.getElem?_append_left hl] at hi
   exact (h.rest i x hi h0).le (by simp)
 · rw [List.getElem?_append_right hl] at hi
   have : x = s := by
    have h1 := (List.getElem?_eq_some_iff.1 hi).1
    simp at h1
    rw [show i - l.length = 0 by omega] at hi
    simpa using hi.symm
   subst this
   exact hs
def rM (p : LF) : Prop := ∀ (tu : Int) (l : List St), Inv l → 0 ≤ tu → tu < l.length → Inv (p tu l).2 ∧ 0 ≤ (p tu l).1 ∧ (p tu l).1 < (p tu l).2.length ∧ l.length ≤ (p tu l).2.length
theorem eD {tu : Int} {l : List St} (h : Inv l) (s : St) (hs : OkS (l.length + 1) s) : Inv (l ++ [s]) ∧ 0 ≤ (l.length : Int) ∧ (l.length : Int) < (l ++ [s]).length ∧ l.length ≤ (l ++ [s]).length :=
 ⟨h.push hs, by omega, by simp only [List.length_append, List.length_cons, List.length_nil]; omega, by simp⟩
theorem jt {n : Nat} {b tu : Int} (h1 : 0 ≤ b ∧ b < n) (h2 : 0 ≤ tu ∧ tu < n) : OkS n (aL b tu) :=
 ⟨.inr (.inl rfl), h1, ⟨fun _ => h2, fun e => absurd rfl e⟩, fun _ => ⟨rfl, rfl, rfl, rfl⟩⟩
theorem jU : ∀ (bs : List Int) (l : List St), bs ≠ [] → Inv l → (∀ b ∈ bs, 0 ≤ b ∧ b < l.length) → Inv (aF bs l).2 ∧ 0 ≤ (aF bs l).1 ∧ (aF bs l).1 < (aF bs l).2.length ∧ l.length ≤ (aF bs l).2.length
 | [], l, h, _, _ => absurd rfl h
 | [x], l, _, hI, hb => by
  have := hb x (List.mem_cons_self ..)
  rw [aF]; exact ⟨hI, this.1, this.2, Nat.le_refl _⟩
 | a :: b :: bs, l, _, hI, hb => by
  obtain ⟨h1, h2, h3, h4⟩ := jU (b :: bs) l (by simp) hI (fun x hx => hb x (List.mem_cons_of_mem _ hx))
  have ha := hb a (List.mem_cons_self ..)
  rw [aF]
  · obtain ⟨g1, g2, g3, g4⟩ := eD (tu := 0) h1 (aL a (aF (b :: bs) l).1) (jt ⟨ha.1, by omega⟩ ⟨h2, by omega⟩)
    exact ⟨g1, g2, g3, by simp only at g4 ⊢; omega⟩
  · simp
theorem pS {p : LF} (hp : rM p) {tu : Int} (h0 : 0 ≤ tu) : ∀ (n : Nat) (t : Int) (l : List St), Inv l → tu < l.length → 0 ≤ t → t < l.length → Inv (da p tu n t l).2 ∧ 0 ≤ (da p tu n t l).1 ∧ (da p tu n t l).1 < (da p tu n t l).2.length ∧ l.length ≤ (da p tu n t l).2.length
 | 0, t, l, hI, _, h1, h2 => by rw [da]; exact ⟨hI, h1, h2, Nat.le_refl _⟩
 | n + 1, t, l, hI, ht, h1, h2 => by
  obtain ⟨a1, a2, a3, a4⟩ := hp t l hI h1 h2
  obtain ⟨g1, g2, g3, g4⟩ := eD (tu := 0) a1 (aL (p t l).1 tu) (jt ⟨a2, by omega⟩ ⟨h0, by omega⟩)
  obtain ⟨b1, b2, b3, b4⟩ := pS hp h0 n _ _ g1 (by omega) g2 g3
  rw [da]
  exact ⟨b1, b2, b3, by omega⟩
theorem mj {p : LF} (hp : rM p) : ∀ n, rM (dE p n)
 | 0, t, l, hI, h1, h2 => by rw [dE]; exact ⟨hI, h1, h2, Nat.le_refl _⟩
 | n + 1, t, l, hI, h1, h2 => by
  obtain ⟨a1, a2, a3, a4⟩ := hp t l hI h1 h2
  rw [dE]
  split
  · exact ⟨a1, a2, a3, a4⟩
  · obtain ⟨b1, b2, b3, b4⟩ := mj hp n _ _ a1 a2 a3
    exact ⟨b1, b2, b3, by omega⟩
theorem tj {l : List St} (h : Inv l) {i : Nat} (hi : i ≠ 0) {x : Int} (hx : 0 ≤ x ∧ x < l.length) : Inv (setNx l i x) := by
 have hl : (setNx l i x).length = l.length := by simp [setNx]
 refine ⟨?_, fun j s hj h0 => ?_⟩
 · simp only [setNx, List.getElem?_modify, if_neg hi]
   rw [h.zero]; rfl
 · rw [hl]
   rw [setNx, List.getElem?_modify] at hj
   split at hj
   · obtain ⟨y, hy, rfl⟩ := Option.map_eq_some_iff.1 hj
     have := h.rest j y hy h0
     exact ⟨this.k, hx, this.ot, this.set⟩
   · exact h.rest j s (by simpa using hj) h0
theorem ta {p : LF} (hp : rM p) : rM (bT p) := fun tu l hI h1 h2 => by
 have hpos := hI.pos
 obtain ⟨g1, g2, g3, g4⟩ := eD (tu := 0) hI (aL 0 tu) (jt ⟨by omega, by omega⟩ ⟨h1, by omega⟩)
 obtain ⟨a1, a2, a3, a4⟩ := hp l.length _ g1 g2 g3
 simp only [List.length_append, List.length_cons, List.length_nil] at a4
 refine ⟨tj a1 (by omega) ⟨a2, a3⟩, by simp only [bT]; omega, ?_, ?_⟩
 · simp only [bT, setNx, List.length_modify]; omega
 · simp only [bT, setNx, List.length_modify]; omega
theorem vf {p : LF} (hp : rM p) (mn mx : Int) : rM (iN mn mx p) := fun tu l hI h1 h2 => by
 unfold iN
 simp only
 split
 · obtain ⟨a1, a2, a3, a4⟩ := ta hp tu l hI h1 h2
   obtain ⟨b1, b2, b3, b4⟩ := mj hp mn.toNat _ _ a1 a2 a3
   exact ⟨b1, b2, b3, by omega⟩
 · obtain ⟨a1, a2, a3, a4⟩ := pS hp h1 (mx - mn).toNat tu l hI h2 h1 h2
   obtain ⟨b1, b2, b3, b4⟩ := mj hp mn.toNat _ _ a1 a2 a3
   exact ⟨b1, b2, b3, by omega⟩
theorem pK : ∀ (ps : List T), (∀ p ∈ ps, rM (ax p)) → rM (dJ ps)
 | [], _, tu, l, hI, h1, h2 => by rw [dJ]; exact ⟨hI, h1, h2, Nat.le_refl _⟩
 | p :: ps, h, tu, l, hI, h1, h2 => by
  obtain ⟨a1, a2, a3, a4⟩ := pK ps (fun q hq => h q (List.mem_cons_of_mem _ hq)) tu l hI h1 h2
  obtain ⟨b1, b2, b3, b4⟩ := h p (List.mem_cons_self ..) _ _ a1 a2 a3
  rw [dJ]
  exact ⟨b1, b2, b3, by omega⟩
theorem qp : ∀ (ps : List T), (∀ p ∈ ps, rM (ax p)) → ∀ (tu : Int) (l : List St), Inv l → 0 ≤ tu → tu < l.length → Inv (cF ps tu l).2 ∧ (∀ b ∈ (cF ps tu l).1, 0 ≤ b ∧ b < (cF ps tu l).2.length) ∧ l.length ≤ (cF ps tu l).2.length
 | [], _, tu, l, hI, h1, h2 => by rw [cF]; exact ⟨hI, fun b hb => (List.not_mem_nil hb).elim, Nat.le_refl _⟩
 | p :: ps, h, tu, l, hI, h1, h2 => by
  obtain ⟨a1, a2, a3, a4⟩ := h p (List.mem_cons_self ..) tu l hI h1 h2
  obtain ⟨b1, b2, b3⟩ := qp ps (fun q hq => h q (List.mem_cons_of_mem _ hq)) tu _ a1 h1 (by omega)
  rw [cF]
  refine ⟨b1, fun b hb => ?_, by simp only; omega⟩
  cases hb with
  | head => simp only; omega
  | tail _ hb => exact b2 b hb
theorem vI (t : T) : aC t = true → rM (ax t) := by
 induction t using T.ind with
 | h t ih =>
  intro hr tu l hI h1 h2
  have hps : ∀ p ∈ t.ps, rM (ax p) := fun p hp => ih p hp (aO hr p hp)
  rw [cd]
  rcases aJ hr with ⟨hk, h⟩ | ⟨hk, h⟩ | ⟨hk, h⟩ | ⟨hk, h⟩ | ⟨hk, h⟩ | ⟨hk, h⟩ | ⟨hk, h⟩
  · simp only [hk]; simp; exact ⟨hI, h1, h2⟩
  · simp only [hk, if_true]
    exact eD (tu := 0) hI _ ⟨.inl rfl, ⟨h1, by simp only; omega⟩, ⟨fun e => by simp at e, fun _ => rfl⟩, fun e => absurd rfl e⟩
  · simp only [hk, show ¬ ((2 : Int) = 1) by omega, if_true, if_false]
    exact eD (tu := 0) hI _ ⟨.inr (.inr (.inl rfl)), ⟨h1, by simp only; omega⟩, ⟨fun e => by simp at e, fun _ => rfl⟩, fun _ => ⟨rfl, rfl, rfl, rfl⟩⟩
  · simp only [hk, show ¬ ((3 : Int) = 1) by omega, show ¬ ((3 : Int) = 2) by omega, if_true, if_false]
    exact eD (tu := 0) hI _ ⟨.inr (.inr (.inr rfl)), ⟨h1, by simp only; omega⟩, ⟨fun e => by simp at e, fun _ => rfl⟩, fun _ => ⟨rfl, rfl, rfl, rfl⟩⟩
  · simp only [hk, show ¬ ((4 : Int) = 1) by omega, show ¬ ((4 : Int) = 2) by omega, show ¬ ((4 : Int) = 3) by omega, if_true, if_false]
    exact pK t.ps hps tu l hI h1 h2
  · simp only [hk, show ¬ ((5 : Int) = 1) by omega, show ¬ ((5 : Int) = 2) by omega, show ¬ ((5 : Int) = 3) by omega, show ¬ ((5 : Int) = 4) by omega, if_true, if_false]
    obtain ⟨b1, b2, b3⟩ := qp t.ps hps tu l hI h1 h2
    have hne : (cF t.ps tu l).1 ≠ [] := fun e => by have := eM t.ps tu l; rw [e] at this; simp at this; omega
    obtain ⟨c1, c2, c3, c4⟩ := jU _ _ hne b1 b2
    exact ⟨c1, c2, c3, by omega⟩
  · simp only [hk, show ¬ ((6 : Int) = 1) by omega, show ¬ ((6 : Int) = 2) by omega, show ¬ ((6 : Int) = 3) by omega, show ¬ ((6 : Int) = 4) by omega, show ¬ ((6 : Int) = 5) by omega, if_true, if_false]
    obtain ⟨p, hp, hh⟩ := qd t.ps h.1
    rw [hh]
    exact vf (hps p (by rw [hp]; exact List.mem_cons_self ..)) _ _ tu l hI h1 h2
theorem pU {t : T} (h : bP t = 0) : Inv (bJ t) ∧ 0 ≤ cQ t ∧ cQ t < (bJ t).length := by
 have hr := (dw h).1
 rw [bJ, cQ, if_pos h, if_pos h]
 obtain ⟨a1, a2, a3, a4⟩ := vI t hr 0 [⟨5, 0, 0, 0, 0, 0, 0⟩] ⟨rfl, fun i s hi h0 => by
  have := (List.getElem?_eq_some_iff.1 hi).1
  simp at this
  exact absurd this h0⟩ (by omega) (by simp)
 exact ⟨a1, a2, a3⟩
theorem ll {t : T} (h : bP t = 0) : bB (bJ t) (cQ t) = 0 := by
 obtain ⟨hI, h1, h2⟩ := pU h
 have hle := iU t
 rw [bB, if_pos ⟨by omega, by simp [inR]; omega⟩, if_pos]
 rw [List.all_eq_true]
 intro s hs
 obtain ⟨i, hi, rfl⟩ := List.getElem_of_mem hs
 by_cases h0 : i = 0
 · subst h0
   have hz := hI.zero
   rw [List.getElem?_eq_getElem hi] at hz
   simp only [Option.some.injEq] at hz
   rw [hz]; rfl
 · have ho := hI.rest i _ (List.getElem?_eq_getElem hi) h0
   have hnx : inR (bJ t).length (bJ t)[i].nx = true := by simp [inR]; exact ho.nx
   unfold fA
   rcases ho.k with e | e | e | e
   · rw [if_neg (by omega), if_pos (by omega)]; exact hnx
   · have hot : inR (bJ t).length (bJ t)[i].ot = true := by simp [inR]; exact ho.ot.1 e
     rw [if_neg (by omega), if_neg (by omega), if_pos e, hnx, hot]; rfl
   · rw [if_neg (by omega), if_pos (by omega)]; exact hnx
   · rw [if_neg (by omega), if_pos (by omega)]; exact hnx
def wA (l : List St) (sa : Int) (subj : List UInt8) : Nat → List Nat
 | 0 => cA l sa subj 0 []
 | j + 1 => cA l sa subj (j + 1) (wA l sa subj j)
theorem Rch.pth {l : List St} {s : List UInt8} {x y i : Nat} (h : Rch l (i == 0) (i == s.length) x y) : Pth (stN l) s x i y i := by
 induction h with
 | refl => exact .refl _ _
 | step _ hk ih => exact ih.trans (Pth.eps1 hk)
theorem gv {l : List St} {sa : Int} (hm : MOk l sa) (subj : List UInt8) (at_ : Nat) {now : List Nat} (hl : ∀ x ∈ now, x < l.length) :
 Good l (at_ == 0) (at_ == subj.length) (cA l sa subj at_ now) ∧ ∀ y, y ∈ cA l sa subj at_ now ↔ Rch l (at_ == 0) (at_ == subj.length) sa.toNat y ∨ ∃ i ∈ now, dZ (stN l i) (bM subj at_) = true ∧ Rch l (at_ == 0) (at_ == subj.length) (stN l i).nx.toNat y := by
 obtain ⟨g1, g2⟩ := gG (hm.outs (at_ == 0) (at_ == subj.length)) (my l _ _) hm.start
 obtain ⟨h1, h2⟩ := eK hm _ _ (bM subj at_) now _ hl g1
 refine ⟨h1, fun y => ?_⟩
 unfold cA
 rw [h2 y, g2 y]
 simp
theorem fE {l : List St} {sa : Int} (hm : MOk l sa) (subj : List UInt8) : ∀ j, Good l (j == 0) (j == subj.length) (wA l sa subj j) ∧ sa.toNat ∈ wA l sa subj j
 | 0 => by
  obtain ⟨h1, h2⟩ := gv hm subj 0 (now := []) (by simp)
  exact ⟨h1, (h2 _).2 (.inl .refl)⟩
 | j + 1 => by
  obtain ⟨h1, h2⟩ := gv hm subj (j + 1) (fE hm subj j).1.lt
  exact ⟨h1, (h2 _).2 (.inl .refl)⟩
theorem wX {l : List St} {sa : Int} (hm : MOk l sa) (subj : List UInt8) {m x i y j : Nat} (h : PthN (stN l) subj m x i y j) : x ∈ wA l sa subj i → y ∈ wA l sa subj j := by
 induction h with
 | refl => exact id
 | @eps m x i z y k he _ ih => exact fun hx => ih ((fE hm subj i).1.closed x hx z he)
 | @eat m x i y k hi he _ ih =>
  intro hx
  refine ih ?_
  have := (gv hm subj (i + 1) (fE hm subj i).1.lt).2
  exact (this _).2 (.inr ⟨x, hx, he, .refl⟩)
theorem pC {l : List St} {sa : Int} (hm : MOk l sa) (subj : List UInt8) : ∀ j, j ≤ subj.length → ∀ y, y ∈ wA l sa subj j → ∃ i, i ≤ j ∧ Pth (stN l) subj sa.toNat i y j
 | 0, _, y, hy => by
  have := ((gv hm subj 0 (now := []) (by simp)).2 y).1 hy
  rcases this with h | ⟨i, hi, _⟩
  · exact ⟨0, Nat.le_refl _, h.pth⟩
  · cases hi
 | j + 1, hj, y, hy => by
  have := ((gv hm subj (j + 1) (fE hm subj j).1.lt).2 y).1 hy
  rcases this with h | ⟨x, hx, ht, h⟩
  · exact ⟨j + 1, Nat.le_refl _, h.pth⟩
  · obtain ⟨i, hi, hp⟩ := pC hm subj j (by omega) x hx
    have h1 : Pth (stN l) subj x j (stN l x).nx.toNat (j + 1) := ⟨1, .eat (by omega) ht (.refl _ _)⟩
    exact ⟨i, by omega, (hp.trans h1).trans h.pth⟩
theorem kW {l : List St} {sa : Int} (subj : List UInt8) : ∀ (k at_ : Nat) (now : List Nat) (s : Int), cA l sa subj at_ now = wA l sa subj at_ → ((bF l sa subj k at_ now s).1 = true ↔ ∃ j, at_ ≤ j ∧ j < at_ + k ∧ gj l (wA l sa subj j) = true)
 | 0, at_, now, s, _ => by
  rw [bF]
  exact ⟨fun h => (Bool.false_ne_true h).elim, fun ⟨j, h1, h2, _⟩ => by omega⟩
 | k + 1, at_, now, s, hs => by
  rw [bF, hs]
  split
  · rename_i hd
    exact ⟨fun _ => ⟨at_, Nat.le_refl _, by omega, hd⟩, fun _ => rfl⟩
  · rename_i hd
    rw [kW subj k (at_ + 1) _ _ rfl]
    constructor
    · rintro ⟨j, h1, h2, h3⟩; exact ⟨j, by omega, by omega, h3⟩
    · rintro ⟨j, h1, h2, h3⟩
      have : j ≠ at_ := fun e => by subst e; exact hd h3
      exact ⟨j, by omega, by omega, h3⟩
theorem ub {l : List St} {sa : Int} (hm : MOk l sa) (subj : List UInt8) : (bF l sa subj (subj.length + 1) 0 [] 0).1 = true ↔ ∃ i j y, j ≤ subj.length ∧ y < l.length ∧ (stN l y).k = 5 ∧ Pth (stN l) subj sa.toNat i y j := by
 rw [kW subj _ _ _ _ rfl]
 constructor
 · rintro ⟨j, _, h2, h3⟩
   unfold gj at h3
   rw [List.any_eq_true] at h3
   obtain ⟨y, hy, hk⟩ := h3
   obtain ⟨i, _, hp⟩ := pC hm subj j (by omega) y hy
   exact ⟨i, j, y, by omega, (fE hm subj j).1.lt y hy, by simpa using hk, hp⟩
 · rintro ⟨i, j, y, h1, _, h2, m, hp⟩
   refine ⟨j, by omega, by omega, ?_⟩
   unfold gj
   rw [List.any_eq_true]
   exact ⟨y, wX hm subj hp (fE hm subj i).2, by simpa using h2⟩
theorem uc {t : T} (h : bP t = 0) (subj : List UInt8) : (bF (bJ t) (cQ t) subj (subj.length + 1) 0 [] 0).1 = true ↔ ∃ i j, i ≤ subj.length ∧ den subj t i j := by
 have hm := pr (ll h)
 obtain ⟨hI, _, _⟩ := pU h
 have hz := hI.zero
 have hI1 := vJ subj t (dw h).1
 have e1 : bJ t = (ax t 0 [⟨5, 0, 0, 0, 0, 0, 0⟩]).2 := if_pos h
 have e2 : cQ t = (ax t 0 [⟨5, 0, 0, 0, 0, 0, 0⟩]).1 := if_pos h
 have h0 : stN (bJ t) 0 = ⟨5, 0, 0, 0, 0, 0, 0⟩ := by unfold stN; rw [List.getD_eq_getElem?_getD, hz]; rfl
 have hag : Agr (stN (bJ t)) (ax t 0 [⟨5, 0, 0, 0, 0, 0, 0⟩]).2 ([⟨5, 0, 0, 0, 0, 0, 0⟩] : List St).length := fun i _ _ => by rw [e1]
 rw [ub hm]
 constructor
 · rintro ⟨i, j, y, h1, h2, h3, m, hp⟩
   have hy : y = 0 := by
    rcases Nat.eq_zero_or_pos y with e | e
    · exact e
    · have hg : (bJ t)[y]? = some (bJ t)[y] := List.getElem?_eq_getElem h2
      have := (hI.rest y _ hg (by omega)).k
      have e3 : stN (bJ t) y = (bJ t)[y] := by unfold stN; rw [List.getD_eq_getElem?_getD, hg]; rfl
      rw [e3] at h3
      omega
   subst hy
   have hij := hp.le
   rw [e2] at hp
   obtain ⟨k, m', _, hr, _⟩ := hI1.sound 0 _ (Int.le_refl _) (by simp) _ hag m i 0 j (.inl (by simp)) hp
   exact ⟨i, k, by omega, hr⟩
 · rintro ⟨i, j, hi, hd⟩
   have hp := hI1.comp 0 _ (Int.le_refl _) (by simp) _ hag i j hd
   rw [← e2] at hp
   obtain ⟨m, hp⟩ := hp
   exact ⟨i, j, 0, hp.bd hi, hI.pos, by rw [h0], m, hp⟩
theorem ua {t : T} (h : bP t = 0) (subj : Bs) (hl : subj.length ≤ 65536) : (dK (bJ t) (cQ t) subj).2.2 = 0 ∧ ((dK (bJ t) (cQ t) subj).1 = true ↔ ∃ i j, i ≤ subj.length ∧ den subj t i j) := by
 have hck := ll h
 have hres : dK (bJ t) (cQ t) subj = ((bF (bJ t) (cQ t) subj (subj.length + 1) 0 [] 0).1, (bF (bJ t) (cQ t) subj (subj.length + 1) 0 [] 0).2, 0) := by rw [dK, if_neg (by simpa using hck), if_neg (by omega)]
 rw [hres]
 exact ⟨rfl, uc h subj⟩
theorem lY {p : Bs} {t : T} (hp : aY p = .ok t) (hs : bP t = 0) (s : Bs) (hl : s.length ≤ 65536) : (aK p s).2.2 = 0 ∧ ((aK p s).1 = true ↔ ∃ i j, i ≤ s.length ∧ den s t i j) := by
 have e1 : cC p = 0 := by unfold cC; rw [hp]; exact hs
 have e2 : bm p = bJ t := by unfold bm; rw [hp]
 have e3 : bU p = cQ t := by unfold bU; rw [hp]
 have hf : aK p s = dK (bJ t) (cQ t) s := by unfold aK; rw [if_neg (by simpa using e1), e2, e3]
 rw [hf]
 exact ua hs s hl
theorem nD {p s : Bs} (h : (aK p s).2.2 = 0) : ∃ t, aY p = .ok t ∧ bP t = 0 := by
 cases hp : aY p with
 | ok t =>
  refine ⟨t, rfl, ?_⟩
  by_cases hc : cC p = 0
  · unfold cC at hc; rw [hp] at hc; exact hc
  · have hf : aK p s = (false, 0, cC p) := by unfold aK; rw [if_pos hc]
    rw [hf] at h
    exact absurd h hc
 | error e =>
  exfalso
  by_cases hc : cC p = 0
  · have e2 : bm p = [] := by unfold bm; rw [hp]
    have e3 : bU p = 0 := by unfold bU; rw [hp]
    have hf : aK p s = (false, 0, 110) := by
     unfold aK
     rw [if_neg (by simpa using hc), e2, e3]
     rfl
    rw [hf] at h
    cases h
  · have hf : aK p s = (false, 0, cC p) := by unfold aK; rw [if_pos hc]
    rw [hf] at h
    exact hc h
theorem vU {p : Bs} {t : T} (hp : aY p = .ok t) (hr : aC t = true) (s : Bs) : bP t = 0 ∨ (aK p s).2.2 = 3 := by
 have hc : cC p = bP t := by unfold cC; rw [hp]
 by_cases h0 : bP t = 0
 · exact .inl h0
 · refine .inr ?_
   have hf : aK p s = (false, 0, cC p) := by unfold aK; rw [if_pos (by rw [hc]; exact h0)]
   rw [hf, hc]
   show bP t = 3
   have e : br t = 0 ∨ br t = 3 := by
    unfold br
    rw [if_pos hr]
    split
    · exact .inr rfl
    · exact .inl rfl
   unfold bP at h0 ⊢
   rcases e with e | e
   · rw [e] at h0 ⊢
     rw [if_neg (by simp)] at h0 ⊢
     split
     · rfl
     · rename_i h2; rw [if_neg h2] at h0; exact absurd rfl h0
   · rw [e, if_pos (by decide)]
theorem vV {p s : Bs} (hp : aY p = .error 3) : (aK p s).2.2 = 3 := by
 have hc : cC p = 3 := by unfold cC; rw [hp]
 unfold aK
 rw [if_pos (by rw [hc]; decide), hc]
theorem gU {p : Bs} {t : T} (hp : aY p = .ok t ∨ aY p = .error 3) (hr : aC t = true) (s : Bs) (hl : s.length ≤ 65536) (v : Bool) (hv : (∃ i j, i ≤ s.length ∧ den s t i j) ↔ v = true) :
 (aK p s).2.2 = 3 ∨ ((aK p s).2.2 = 0 ∧ (aK p s).1 = v) := by
 rcases hp with hp | hp
 · rcases vU hp hr s with h | h
   · obtain ⟨r1, r2⟩ := lY hp h s hl
     exact .inr ⟨r1, by rw [Bool.eq_iff_iff, r2, hv]⟩
   · exact .inl h
 · exact .inl (vV hp)
theorem jy {m n : Int} {x : T} (hx : aC x = true) (h0 : 0 ≤ m) (h1 : max m n ≤ 255) (h2 : n = -1 ∨ m ≤ n) : aC (cO m n x) = true := by
 unfold cO
 rw [aC]
 rw [if_neg (by simp), if_neg (by decide), if_neg (by decide), if_pos rfl, if_neg (by simp; omega)]
 simp [cD, hx]
theorem jq {s : Bs} {m n : Int} {x : T} {i j : Nat} : den s (cO m n x) i j ↔ ∃ k : Nat, m.toNat ≤ k ∧ (n < 0 ∨ k ≤ n.toNat) ∧ ky (den s x) k i j := by
 unfold cO
 rw [den]
 simp [ig]
theorem oQ {a b s : Bs} (la : a.length ≤ 300) (lb : b.length ≤ 300) (ls : s.length ≤ 60) (ha : (aK a s).2.2 = 0) (hb : (aK b s).2.2 = 0) :
 ((aK (40 :: (a ++ 41 :: (124 :: 40 :: (b ++ [41])))) s).2.2 = 3 ∨ ((aK (40 :: (a ++ 41 :: (124 :: 40 :: (b ++ [41])))) s).2.2 = 0 ∧ (aK (40 :: (a ++ 41 :: (124 :: 40 :: (b ++ [41])))) s).1 = ((aK a s).1 || (aK b s).1))) ∧
 ((aK (40 :: (a ++ 41 :: [123, 49, 125])) s).2.2 = 3 ∨ ((aK (40 :: (a ++ 41 :: [123, 49, 125])) s).2.2 = 0 ∧ (aK (40 :: (a ++ 41 :: [123, 49, 125])) s).1 = (aK a s).1)) ∧
 ((aK (40 :: (a ++ 41 :: [43])) s).2.2 = 3 ∨ ((aK (40 :: (a ++ 41 :: [43])) s).2.2 = 0 ∧ (aK (40 :: (a ++ 41 :: [43])) s).1 = (aK a s).1)) ∧
 ((aK (40 :: (b ++ 41 :: [63])) s).2.2 = 3 ∨ ((aK (40 :: (b ++ 41 :: [63])) s).2.2 = 0 ∧ (aK (40 :: (b ++ 41 :: [63])) s).1 = true)) := by
 obtain ⟨x, hx, sx⟩ := nD ha
 obtain ⟨y, hy, sy⟩ := nD hb
 have rx := (dw sx).1
 have ry := (dw sy).1
 obtain ⟨_, fx⟩ := lY hx sx s (by omega)
 obtain ⟨_, fy⟩ := lY hy sy s (by omega)
 refine ⟨gU (t := .mk 5 0 0 0 0 0 0 [x, y]) (tJ hx hy (by omega)) ?_ s (by omega) _ ?_, gU (t := cO 1 1 x) (ge (q := [123, 49, 125]) hx (by simp; omega) (fun k t => uT k t)) (jy rx (by decide) (by decide) (.inr (by decide))) s (by omega) _ ?_,
  gU (t := cO 1 (-1) x) (ge (q := [43]) hx (by simp; omega) (fun k t => uS k t)) (jy rx (by decide) (by decide) (.inl rfl)) s (by omega) _ ?_, gU (t := cO 0 1 y) (ge (q := [63]) hy (by simp; omega) (fun k t => sV k t)) (jy ry (by decide) (by decide) (.inr (by decide))) s (by omega) _ ?_⟩
 · rw [aC]
   simp [cD, rx, ry]
 · rw [Bool.or_eq_true, fx, fy]
   have e : ∀ i j, den s (.mk 5 0 0 0 0 0 0 [x, y]) i j ↔ den s x i j ∨ den s y i j := fun i j => by rw [den]; simp [eZ]
   constructor
   · rintro ⟨i, j, hi, h⟩
     rcases (e i j).1 h with h | h
     · exact .inl ⟨i, j, hi, h⟩
     · exact .inr ⟨i, j, hi, h⟩
   · rintro (⟨i, j, hi, h⟩ | ⟨i, j, hi, h⟩)
     · exact ⟨i, j, hi, (e i j).2 (.inl h)⟩
     · exact ⟨i, j, hi, (e i j).2 (.inr h)⟩
 · rw [fx]
   constructor
   · rintro ⟨i, j, hi, h⟩
     obtain ⟨k, h1, h2, h3⟩ := jq.1 h
     have : k = 1 := by have : (1 : Int).toNat = 1 := rfl; omega
     subst this
     obtain ⟨m, h4, h5⟩ := h3
     have h5 : m = j := h5
     subst h5
     exact ⟨i, _, hi, h4⟩
   · rintro ⟨i, j, hi, h⟩
     exact ⟨i, j, hi, jq.2 ⟨1, Nat.le_refl _, .inr (Nat.le_refl _), j, h, rfl⟩⟩
 · rw [fx]
   constructor
   · rintro ⟨i, j, hi, h⟩
     obtain ⟨k, h1, h2, h3⟩ := jq.1 h
     obtain ⟨k', rfl⟩ : ∃ k', k = k' + 1 := ⟨k - 1, by have : (1 : Int).toNat = 1 := rfl; omega⟩
     obtain ⟨m, h4, h5⟩ := h3
     exact ⟨i, m, hi, h4⟩
   · rintro ⟨i, j, hi, h⟩
     exact ⟨i, j, hi, jq.2 ⟨1, Nat.le_refl _, .inl (by decide), j, h, rfl⟩⟩
 · refine ⟨fun _ => rfl, fun _ => ⟨0, 0, Nat.zero_le _, jq.2 ⟨0, Nat.le_refl _, .inr (Nat.zero_le _), rfl⟩⟩⟩
theorem fg (a b : Bs) : bs a ++ bs b = bs (a ++ b) := by
 apply ByteArray.ext
 simp [bs]
theorem dP (s subj : Bs) (w : World) (hM : dc w) :
 Calls Tryz.prog 19 #[.string (bs s), .string (bs subj)] w fun en w' => en = .returned (.tuple #[.bool (aK s subj).1, .int .i64 (aK s subj).2.1, .int .i64 (aK s subj).2.2]) ∧ Below w.heap.size w w' := cX s subj w hM (fun _ => brC) (fun _ => uL)
theorem rn (w : World) (hM : dc w) (a : Bs) (hal : a.length ≤ maxLen) (b : Bs) (hbl : b.length ≤ maxLen) (s : Bs) (hsl : s.length ≤ maxLen) :
 Calls Tryz.prog 14 #[.string (bs a), .string (bs b), .string (bs s)] w fun e w' => e = .returned (.bool true) ∧ Below w.heap.size w w' := by
 unfold maxLen at hal hbl hsl
 have hsz0 : (bs a).size = a.length := by simp [bs, ByteArray.size]
 have hsz1 : (bs b).size = b.length := by simp [bs, ByteArray.size]
 have hsz2 : (bs s).size = s.length := by simp [bs, ByteArray.size]
 by_cases b1 : 300 < (a.length : Int)
 · go_enter Tryz.func14, Tryz.ntmps14
   go_wp2_with fail
   exact bodyPost_ret (v := .bool true) (by simp [results, Tryz.results14, go_sem]) rfl ⟨rfl, Below.refl _ _⟩
 by_cases b2 : 300 < (b.length : Int)
 · go_enter Tryz.func14, Tryz.ntmps14
   go_wp2_with fail
   exact bodyPost_ret (v := .bool true) (by simp [results, Tryz.results14, go_sem]) rfl ⟨rfl, Below.refl _ _⟩
 by_cases b3 : 60 < (s.length : Int)
 · go_enter Tryz.func14, Tryz.ntmps14
   go_wp2_with fail
   exact bodyPost_ret (v := .bool true) (by simp [results, Tryz.results14, go_sem]) rfl ⟨rfl, Below.refl _ _⟩
 have HM := hid hM; clear hM
 go_enter Tryz.func14, Tryz.ntmps14
 go_wp2_with fail
 refine (dP a s w HM.out).mono ?_
 rintro en w1 ⟨rfl, hb1⟩
 have HB1 := hid hb1; clear hb1
 have hj := fun ha hb => oQ (a := a) (b := b) (s := s) (by omega) (by omega) (by omega) ha hb
 obtain ⟨fa, hfa⟩ : ∃ f, f = aK a s := ⟨_, rfl⟩
 obtain ⟨fb, hfb⟩ : ∃ f, f = aK b s := ⟨_, rfl⟩
 rw [← hfa, ← hfb] at hj
 rw [← hfa]
 have Hfb := hid hfb
 clear hfa hfb
 obtain ⟨x, xs, e⟩ := fa
 obtain ⟨y, ys, f⟩ := fb
 have HJ := hid hj; clear hj
 simp only
 go_wp2_with fail
 refine (dP b s w1 (HM.out.later HB1.out)).mono ?_
 rintro en w2 ⟨rfl, hb2⟩
 have HB2 := hid (HB1.out.step hb2); clear hb2 HB1
 rw [← Hfb.out]
 simp only
 by_cases he : e = 0
 case' neg =>
  have heb : (e != 0) = true := by simpa using he
  go_wp2_with fail
  refine (bt w2 (HM.out.later HB2.out)).mono ?_
  rintro en w3 ⟨rfl, hb3⟩
  go_wp2_with fail
  exact bodyPost_ret (v := .bool true) (by simp [results, Tryz.results14, go_sem]) rfl ⟨rfl, HB2.out.step hb3⟩
 subst he
 by_cases hf : f = 0
 case' neg =>
  have hfb : (f != 0) = true := by simpa using hf
  go_wp2_with fail
  refine (bt w2 (HM.out.later HB2.out)).mono ?_
  rintro en w3 ⟨rfl, hb3⟩
  go_wp2_with fail
  exact bodyPost_ret (v := .bool true) (by simp [results, Tryz.results14, go_sem]) rfl ⟨rfl, HB2.out.step hb3⟩
 subst hf
 obtain ⟨j1, j2, j3, j4⟩ := HJ.out rfl rfl
 clear HJ Hfb
 have c1 : bs [40] ++ bs a = bs (40 :: a) := fg _ _
 have c2 : bs (40 :: a) ++ bs [41, 124, 40] = bs (40 :: (a ++ [41, 124, 40])) := fg _ _
 have c3 : bs (40 :: (a ++ [41, 124, 40])) ++ bs b = bs (40 :: (a ++ 41 :: 124 :: 40 :: b)) := (fg _ _).trans (by simp)
 have c4 : bs (40 :: (a ++ 41 :: 124 :: 40 :: b)) ++ bs [41] = bs (40 :: (a ++ 41 :: (124 :: 40 :: (b ++ [41])))) := (fg _ _).trans (by simp)
 have c5 : bs (40 :: a) ++ bs [41, 123, 49, 125] = bs (40 :: (a ++ 41 :: [123, 49, 125])) := fg _ _
 have c6 : bs (40 :: a) ++ bs [41, 43] = bs (40 :: (a ++ 41 :: [43])) := fg _ _
 have c7 : bs [40] ++ bs b = bs (40 :: b) := fg _ _
 have c8 : bs (40 :: b) ++ bs [41, 63] = bs (40 :: (b ++ 41 :: [63])) := fg _ _
 have J1 := hid j1; have J2 := hid j2; have J3 := hid j3; have J4 := hid j4
 clear j1 j2 j3 j4
 go_wp2_with fail
 refine (dP (40 :: (a ++ 41 :: (124 :: 40 :: (b ++ [41])))) s w2 (HM.out.later HB2.out)).mono ?_
 rintro en w3 ⟨rfl, hb3⟩
 have HB3 := hid (HB2.out.step hb3); clear hb3 HB2
 generalize aK (40 :: (a ++ 41 :: (124 :: 40 :: (b ++ [41])))) s = F1 at *
 obtain ⟨r1, s1, e1⟩ := F1
 simp only
 go_wp2_with fail
 refine (dP (40 :: (a ++ 41 :: [123, 49, 125])) s w3 (HM.out.later HB3.out)).mono ?_
 rintro en w4 ⟨rfl, hb4⟩
 have HB4 := hid (HB3.out.step hb4); clear hb4 HB3
 generalize aK (40 :: (a ++ 41 :: [123, 49, 125])) s = F2 at *
 obtain ⟨r2, s2, e2⟩ := F2
 simp only
 go_wp2_with fail
 refine (dP (40 :: (a ++ 41 :: [43])) s w4 (HM.out.later HB4.out)).mono ?_
 rintro en w5 ⟨rfl, hb5⟩
 have HB5 := hid (HB4.out.step hb5); clear hb5 HB4
 generalize aK (40 :: (a ++ 41 :: [43])) s = F3 at *
 obtain ⟨r3, s3, e3⟩ := F3
 simp only
 go_wp2_with fail
 refine (dP (40 :: (b ++ 41 :: [63])) s w5 (HM.out.later HB5.out)).mono ?_
 rintro en w6 ⟨rfl, hb6⟩
 have HB6 := hid (HB5.out.step hb6); clear hb6 HB5
 generalize aK (40 :: (b ++ 41 :: [63])) s = F4 at *
 obtain ⟨r4, s4, e4⟩ := F4
 simp only
 have k1 := J1.out; have k2 := J2.out; have k3 := J3.out; have k4 := J4.out
 simp only at k1 k2 k3 k4
 clear J1 J2 J3 J4 c1 c2 c3 c4 c5 c6 c7 c8
 rcases k1 with rfl | ⟨rfl, q1⟩
 · go_wp2_with fail
   refine (bt w6 (HM.out.later HB6.out)).mono ?_
   rintro en w7 ⟨rfl, hb7⟩
   go_wp2_with fail
   exact bodyPost_ret (v := .bool true) (by simp [results, Tryz.results14, go_sem]) rfl ⟨rfl, HB6.out.step hb7⟩
 rcases k2 with rfl | ⟨rfl, q2⟩
 · go_wp2_with fail
   refine (bt w6 (HM.out.later HB6.out)).mono ?_
   rintro en w7 ⟨rfl, hb7⟩
   go_wp2_with fail
   exact bodyPost_ret (v := .bool true) (by simp [results, Tryz.results14, go_sem]) rfl ⟨rfl, HB6.out.step hb7⟩
 rcases k3 with rfl | ⟨rfl, q3⟩
 · go_wp2_with fail
   refine (bt w6 (HM.out.later HB6.out)).mono ?_
   rintro en w7 ⟨rfl, hb7⟩
   go_wp2_with fail
   exact bodyPost_ret (v := .bool true) (by simp [results, Tryz.results14, go_sem]) rfl ⟨rfl, HB6.out.step hb7⟩
 rcases k4 with rfl | ⟨rfl, q4⟩
 · go_wp2_with fail
   refine (bt w6 (HM.out.later HB6.out)).mono ?_
   rintro en w7 ⟨rfl, hb7⟩
   go_wp2_with fail
   exact bodyPost_ret (v := .bool true) (by simp [results, Tryz.results14, go_sem]) rfl ⟨rfl, HB6.out.step hb7⟩
 cases x <;> cases y
 all_goals
  subst q1; subst q2; subst q3; subst q4
  simp only [Bool.or_true, Bool.or_false, Bool.true_or, Bool.false_or]
  go_wp2_with fail
  refine (bt w6 (HM.out.later HB6.out)).mono ?_
  rintro en w7 ⟨rfl, hb7⟩
  go_wp2_with fail
  exact bodyPost_ret (v := .bool true) (by simp [results, Tryz.results14, go_sem]) rfl ⟨rfl, HB6.out.step hb7⟩
def eW (c : UInt8) : T := (w40.add c.toNat).T
abbrev eR : T := .mk 2 0 0 0 0 0 0 []
abbrev rL : T := .mk 3 0 0 0 0 0 0 []
def cH (pre : List T) (W : Bs) (post : List T) : T := .mk 4 0 0 0 0 0 0 (pre ++ (ay :: ay :: (W.map eW ++ post)))
theorem xP {S : W4} (h : Wok S) (k x y : Int) (c : Nat) (hc : c < 256) : qw ⟨k, S.a, S.b, S.c, S.d, x, y⟩ c = S.has c := by
 rw [sC h]
 unfold qw
 congr 2
 unfold iJ W4.at
 rcases (show c < 64 ∨ (64 ≤ c ∧ c < 128) ∨ (128 ≤ c ∧ c < 192) ∨ (192 ≤ c ∧ c < 256) by omega) with h | h | h | h
 · have e : c / 64 = 0 := by omega
   simp [e, h]
 · have e : c / 64 = 1 := by omega
   simp [e, show ¬ c < 64 by omega, h.2]
 · have e : c / 64 = 2 := by omega
   simp [e, show ¬ c < 64 by omega, show ¬ c < 128 by omega, h.2]
 · have e : c / 64 = 3 := by omega
   simp [e, show ¬ c < 64 by omega, show ¬ c < 128 by omega, show ¬ c < 192 by omega]
theorem sD (s : Bs) (c : UInt8) (i j : Nat) : den s (eW c) i j ↔ s[i]? = some c ∧ j = i + 1 := by
 have e : den s (eW c) i j ↔ i < s.length ∧ j = i + 1 ∧ qw ⟨1, (w40.add c.toNat).a, (w40.add c.toNat).b, (w40.add c.toNat).c, (w40.add c.toNat).d, 0, 0⟩ (bM s (i + 1)) = true := by
  rw [kD]; exact Iff.rfl
 have hb : bM s (i + 1) < 256 := UInt8.toNat_lt _
 rw [e, xP (iE mM _ c.toNat_lt) _ _ _ _ hb, sH mM _ _ c.toNat_lt hb, zu, Bool.or_false, decide_eq_true_eq]
 unfold bM
 rw [Nat.add_sub_cancel]
 constructor
 · rintro ⟨h1, h2, h3⟩
   rw [List.getElem?_eq_getElem h1]
   rw [List.getD_eq_getElem?_getD, List.getElem?_eq_getElem h1] at h3
   exact ⟨by rw [UInt8.toNat_inj] at h3; simpa using h3, h2⟩
 · rintro ⟨h1, h2⟩
   have hi : i < s.length := (List.getElem?_eq_some_iff.1 h1).1
   refine ⟨hi, h2, ?_⟩
   rw [List.getD_eq_getElem?_getD, h1]
   rfl
theorem bL (s : Bs) (p : T) (ps : List T) (i j : Nat) : dr s (p :: ps) i j ↔ ∃ k, den s p i k ∧ dr s ps k j := by rw [dr]; exact Iff.rfl
theorem iX (s : Bs) (i j : Nat) : den s ay i j ↔ i = j := by rw [kD]; exact Iff.rfl
theorem gV (s : Bs) (i j : Nat) : den s eR i j ↔ i = 0 ∧ j = i := by rw [kD]; exact Iff.rfl
theorem lZ (s : Bs) (i j : Nat) : den s rL i j ↔ i = s.length ∧ j = i := by rw [kD]; exact Iff.rfl
theorem iW (s : Bs) (post : List T) : ∀ (W : Bs) (i j : Nat), dr s (W.map eW ++ post) i j ↔ W.isPrefixOf (s.drop i) = true ∧ dr s post (i + W.length) j
 | [], i, j => by simp
 | c :: W, i, j => by
  rw [List.map_cons, List.cons_append, bL]
  constructor
  · rintro ⟨k, h1, h2⟩
    obtain ⟨h3, rfl⟩ := (sD s c i k).1 h1
    obtain ⟨h4, h5⟩ := (iW s post W _ j).1 h2
    obtain ⟨hi, he⟩ := List.getElem?_eq_some_iff.1 h3
    rw [List.drop_eq_getElem_cons hi, he, List.isPrefixOf_cons_cons]
    refine ⟨by simp [h4], ?_⟩
    rw [List.length_cons, show i + (W.length + 1) = i + 1 + W.length by omega]
    exact h5
  · rintro ⟨h1, h2⟩
    by_cases hi : i < s.length
    · rw [List.drop_eq_getElem_cons hi, List.isPrefixOf_cons_cons, Bool.and_eq_true, beq_iff_eq] at h1
      refine ⟨i + 1, (sD s c i _).2 ⟨by rw [List.getElem?_eq_getElem hi, ← h1.1], rfl⟩, (iW s post W _ j).2 ⟨h1.2, ?_⟩⟩
      rw [List.length_cons, show i + (W.length + 1) = i + 1 + W.length by omega] at h2
      exact h2
    · rw [List.drop_eq_nil_of_le (by omega)] at h1
      simp [List.isPrefixOf] at h1
theorem dI (s : Bs) (pre : List T) (W : Bs) (post : List T) (i j : Nat) : den s (cH pre W post) i j ↔ dr s (pre ++ (ay :: ay :: (W.map eW ++ post))) i j := by
 rw [kD]; exact Iff.rfl
theorem fh (s : Bs) (W : Bs) (post : List T) (i j : Nat) : dr s (ay :: ay :: (W.map eW ++ post)) i j ↔ W.isPrefixOf (s.drop i) = true ∧ dr s post (i + W.length) j := by
 rw [bL]
 constructor
 · rintro ⟨k, h1, h2⟩
   obtain rfl := (iX s _ _).1 h1
   obtain ⟨k, h1, h2⟩ := (bL s _ _ _ _).1 h2
   obtain rfl := (iX s _ _).1 h1
   exact (iW s post W _ j).1 h2
 · intro h
   exact ⟨i, (iX s _ _).2 rfl, (bL s _ _ _ _).2 ⟨i, (iX s _ _).2 rfl, (iW s post W _ j).2 h⟩⟩
theorem dF {W r : Bs} : W.isPrefixOf r = true ↔ r.take W.length = W := by
 rw [List.isPrefixOf_iff_prefix]
 constructor
 · rintro ⟨t, rfl⟩; simp
 · intro h; rw [← h]; exact List.take_prefix _ _
theorem ue (s W : Bs) : (∃ i j, i ≤ s.length ∧ den s (cH [] W []) i j) ↔ ∃ i, i + W.length ≤ s.length ∧ (s.drop i).take W.length = W := by
 constructor
 · rintro ⟨i, j, hi, h⟩
   rw [dI, List.nil_append, fh, dF] at h
   refine ⟨i, ?_, h.1⟩
   have := congrArg List.length h.1
   simp at this
   omega
 · rintro ⟨i, hi, h⟩
   refine ⟨i, i + W.length, by omega, ?_⟩
   rw [dI, List.nil_append, fh, dF]
   exact ⟨h, by rw [dr]⟩
theorem oS (s W : Bs) : (∃ i j, i ≤ s.length ∧ den s (cH [eR] W []) i j) ↔ s.take W.length = W := by
 constructor
 · rintro ⟨i, j, hi, h⟩
   rw [dI, List.cons_append, List.nil_append, bL] at h
   obtain ⟨k, h1, h2⟩ := h
   obtain ⟨rfl, rfl⟩ := (gV s _ _).1 h1
   rw [fh, dF, List.drop_zero] at h2
   exact h2.1
 · intro h
   refine ⟨0, W.length, by omega, ?_⟩
   rw [dI, List.cons_append, List.nil_append, bL]
   refine ⟨0, (gV s _ _).2 ⟨rfl, rfl⟩, ?_⟩
   rw [fh, dF, List.drop_zero]
   exact ⟨h, by rw [dr]; omega⟩
theorem ud (s W : Bs) : (∃ i j, i ≤ s.length ∧ den s (cH [] W [rL]) i j) ↔ W.length ≤ s.length ∧ s.drop (s.length - W.length) = W := by
 constructor
 · rintro ⟨i, j, hi, h⟩
   rw [dI, List.nil_append, fh, dF] at h
   obtain ⟨h1, h2⟩ := h
   obtain ⟨k, h3, h4⟩ := (bL s _ _ _ _).1 h2
   obtain ⟨h5, _⟩ := (lZ s _ _).1 h3
   refine ⟨by omega, ?_⟩
   rw [show s.length - W.length = i by omega]
   rw [List.take_of_length_le (by simp; omega)] at h1
   exact h1
 · rintro ⟨h1, h2⟩
   refine ⟨s.length - W.length, s.length, by omega, ?_⟩
   rw [dI, List.nil_append, fh, dF]
   refine ⟨by rw [List.take_of_length_le (by simp; omega)]; exact h2, (bL s _ _ _ _).2 ⟨s.length, (lZ s _ _).2 ⟨by omega, by omega⟩, by rw [dr]⟩⟩
theorem rv (s W : Bs) : (∃ i j, i ≤ s.length ∧ den s (cH [eR] W [rL]) i j) ↔ s = W := by
 constructor
 · rintro ⟨i, j, hi, h⟩
   rw [dI, List.cons_append, List.nil_append, bL] at h
   obtain ⟨k, h1, h2⟩ := h
   obtain ⟨rfl, rfl⟩ := (gV s _ _).1 h1
   rw [fh, dF, List.drop_zero] at h2
   obtain ⟨h2, h3⟩ := h2
   obtain ⟨k, h4, h5⟩ := (bL s _ _ _ _).1 h3
   obtain ⟨h5, _⟩ := (lZ s _ _).1 h4
   rw [List.take_of_length_le (by omega)] at h2
   exact h2
 · rintro rfl
   refine ⟨0, s.length, by omega, ?_⟩
   rw [dI, List.cons_append, List.nil_append, bL]
   refine ⟨0, (gV s _ _).2 ⟨rfl, rfl⟩, ?_⟩
   rw [fh, dF, List.drop_zero]
   exact ⟨by simp, (bL s _ _ _ _).2 ⟨s.length, (lZ s _ _).2 ⟨by omega, by omega⟩, by rw [dr]⟩⟩
theorem xt : ∀ c < 256, (lK (w40.add c)).length ≤ 2 := by decide +kernel
theorem fl : ∀ (a b : List T), cl (a ++ b) = cl a ++ cl b
 | [], b => by rw [List.nil_append]; simp [cl]
 | p :: a, b => by rw [List.cons_append, cl, cl, fl a b, List.append_assoc]
theorem gi : ∀ (a b : List T), bC (a ++ b) = max (bC a) (bC b)
 | [], b => by rw [List.nil_append]; simp [bC]
 | p :: a, b => by rw [List.cons_append, bC, bC, gi a b]; omega
theorem kS : ∀ (W : Bs), (cl (W.map eW)).length ≤ 2 * W.length
 | [] => by simp [cl]
 | c :: W => by
  have h1 := kS W
  have h2 := xt c.toNat c.toNat_lt
  have h3 : prT (eW c) = lK (w40.add c.toNat) := by rw [dQ]; rfl
  rw [List.map_cons, cl, show bu (eW c) = false from rfl, h3]
  simp only [iy, List.length_append, List.length_cons, Bool.false_eq_true, if_false]
  omega
theorem iG : ∀ (W : Bs), bC (W.map eW) = 0
 | [] => by simp [bC]
 | c :: W => by
  rw [List.map_cons, bC, iG W, show bu (eW c) = false from rfl, show ca (eW c) = 0 by rw [dM]; rfl]
  simp
def Edge (l : List T) : Prop := l = [] ∨ l = [eR] ∨ l = [rL]
theorem Edge.all {l : List T} (h : Edge l) : (∀ p ∈ l, aC p = true ∧ Words p ∧ aW p = 1 ∧ aG p = 1) ∧ l.length ≤ 1 ∧ (cl l).length ≤ 1 ∧ bC l = 0 := by
 rcases h with rfl | rfl | rfl
 · exact ⟨(fun p hp => by cases hp), by simp, by simp [cl], by simp [bC]⟩
 · refine ⟨fun p hp => ?_, by simp, by decide, by decide⟩
   rw [List.mem_singleton] at hp
   subst hp
   exact ⟨by decide, (dH 2 (by simp)).2.1, by rw [aW, az]; rfl, by rw [aG]; simp⟩
 · refine ⟨fun p hp => ?_, by simp, by decide, by decide⟩
   rw [List.mem_singleton] at hp
   subst hp
   exact ⟨by decide, (dH 3 (by simp)).2.1, by rw [aW, az]; rfl, by rw [aG]; simp⟩
theorem vr (c : UInt8) : aC (eW c) = true ∧ Words (eW c) ∧ aW (eW c) ≤ 1 ∧ aG (eW c) = 1 := by
 obtain ⟨a, b, d⟩ := gD (iE mM _ c.toNat_lt)
 exact ⟨a, b, d, by unfold eW W4.T; rw [aG]; simp⟩
theorem tO (l : List T) (h : ∀ p ∈ l, aW p ≤ 1) : az l ≤ l.length := by
 induction l with
 | nil => rw [az]; simp
 | cons p l ih =>
  have h1 := h p (by simp)
  have h2 := ih (fun q hq => h q (by simp [hq]))
  rw [az]; simp only [List.length_cons]; omega
theorem nE : ∀ (l : List T) (s : Int), (∀ p ∈ l, aG p ≤ 1) → aZ l s ≤ max s 0 + l.length
 | [], s, h => by rw [aZ]; simp; omega
 | p :: l, s, h => by
  have h1 := h p (by simp)
  have h2 := nE l (min 4097 (s + aG p)) (fun q hq => h q (by simp [hq]))
  rw [aZ]; simp only [List.length_cons]; omega
theorem gt {pre post : List T} (hp : Edge pre) (hq : Edge post) (W : Bs) (hW : W.length ≤ 60) : aC (cH pre W post) = true ∧ Words (cH pre W post) ∧ (prT (cH pre W post)).length ≤ 200 ∧ ca (cH pre W post) = 1 ∧ br (cH pre W post) = 0 ∧ bP (cH pre W post) = 0 := by
 obtain ⟨a1, a2, a3, a4⟩ := hp.all
 obtain ⟨b1, b2, b3, b4⟩ := hq.all
 have hall : ∀ p ∈ pre ++ (ay :: ay :: (W.map eW ++ post)), aC p = true ∧ Words p ∧ aW p ≤ 1 ∧ aG p ≤ 1 := fun p h => by
  simp only [List.mem_append, List.mem_cons, List.mem_map] at h
  rcases h with h | rfl | rfl | ⟨c, _, rfl⟩ | h
  · obtain ⟨x, y, z, u⟩ := a1 p h; exact ⟨x, y, by omega, by omega⟩
  · exact ⟨by decide, (dH 0 (by simp)).2.1, by rw [aW, az]; omega, by rw [aG]; simp⟩
  · exact ⟨by decide, (dH 0 (by simp)).2.1, by rw [aW, az]; omega, by rw [aG]; simp⟩
  · obtain ⟨x, y, z, u⟩ := vr c; exact ⟨x, y, z, by omega⟩
  · obtain ⟨x, y, z, u⟩ := b1 p h; exact ⟨x, y, by omega, by omega⟩
 have hlen : (pre ++ (ay :: ay :: (W.map eW ++ post))).length ≤ 64 := by simp; omega
 have hlen2 : 2 ≤ (pre ++ (ay :: ay :: (W.map eW ++ post))).length := by simp; omega
 obtain ⟨f1, f2, f3⟩ := jL (k := 4) (.inl rfl) (fun p hp => ⟨(hall p hp).1, (hall p hp).2.1⟩) hlen2
 have hn := tO _ (fun p hp => (hall p hp).2.2.1)
 have hc := nE _ 0 (fun p hp => (hall p hp).2.2.2)
 have hck : br (cH pre W post) = 0 := by
  unfold br
  rw [ju _ 2048 (by omega), if_neg (by show ¬ 2048 < min (aW (cH pre W post)) _; have : aW (cH pre W post) ≤ _ := f3; omega), if_pos (show aC (cH pre W post) = true from f1)]
 refine ⟨f1, f2, ?_, ?_, hck, ?_⟩
 · rw [dQ]
   show (cl (pre ++ (ay :: ay :: (W.map eW ++ post)))).length ≤ 200
   have h1 := kS W
   rw [fl, cl, cl, fl]
   simp only [List.length_append, show (iy (bu ay) (prT ay)).length = 2 from by decide]
   omega
 · rw [dM]
   show bC (pre ++ (ay :: ay :: (W.map eW ++ post))) = 1
   rw [gi, bC, bC, gi, a4, b4, iG, show ca ay = 0 by decide, show bu ay = true from rfl]
   simp
 · unfold bP
   rw [if_neg (by omega), if_neg]
   rw [ft]
   show ¬ 4096 < 1 + min 4097 (cq 4 0 0 (aZ (pre ++ (ay :: ay :: (W.map eW ++ post))) 0) _)
   unfold cq
   simp
   omega
theorem qE {pre post : List T} (hp : Edge pre) (hq : Edge post) (W : Bs) (hW : W.length ≤ 60) : aY (prT (cH pre W post)) = .ok (cH pre W post) := by
 obtain ⟨a, b, c, d, _⟩ := gt hp hq W hW
 exact oM a b (by omega) (by omega)
theorem js (pre post : List T) (W : Bs) : prT (cH pre W post) = cl pre ++ (prT (cH [] W []) ++ cl post) := by
 rw [dQ, dQ (cH [] W [])]
 show cl (pre ++ (ay :: ay :: (W.map eW ++ post))) = cl pre ++ (cl ([] ++ (ay :: ay :: (W.map eW ++ []))) ++ cl post)
 rw [fl, List.nil_append, List.append_nil, show ay :: ay :: (W.map eW ++ post) = (ay :: ay :: W.map eW) ++ post from rfl, fl]
theorem fi {pre post : List T} (hp : Edge pre) (hq : Edge post) (W : Bs) (hW : W.length ≤ 60) (s : Bs) (hs : s.length ≤ 65536) : (aK (prT (cH pre W post)) s).2.2 = 0 ∧ ((aK (prT (cH pre W post)) s).1 = true ↔ ∃ i j, i ≤ s.length ∧ den s (cH pre W post) i j) :=
 lY (qE hp hq W hW) (gt hp hq W hW).2.2.2.2.2 s hs
theorem vn (w : World) (S : W4) (hw : Wok S) (c : Nat) (hc : c < 256) :
 Calls Tryz.prog 114 #[S.V, .int .u8 (c : Int)] w fun en w' => en = .returned (.bool (S.has c)) ∧ Below w.heap.size w w' := by
 have hq : (c : Int).tdiv 64 = ((c / 64 : Nat) : Int) := by rw [Int.tdiv_eq_ediv_of_nonneg (by omega)]; omega
 have hr : (c : Int).tmod 64 = ((c % 64 : Nat) : Int) := by rw [Int.tmod_eq_emod_of_nonneg (by omega)]; omega
 have h64 : c % 64 < 64 := by omega
 have hi4 : c / 64 < 4 := by omega
 have hat := hw.at c
 have hhas := sC hw c
 have hword : S.word (c / 64) = S.at c := by
  unfold W4.word W4.at
  rcases (show c < 64 ∨ (64 ≤ c ∧ c < 128) ∨ (128 ≤ c ∧ c < 192) ∨ (192 ≤ c ∧ c < 256) by omega) with h | h | h | h
  · rw [if_pos (by omega), if_pos h]
  · rw [if_neg (by omega), if_pos (by omega), if_neg (by omega), if_pos h.2]
  · rw [if_neg (by omega), if_neg (by omega), if_pos (by omega), if_neg (by omega), if_neg (by omega), if_pos h.2]
  · rw [if_neg (by omega), if_neg (by omega), if_neg (by omega), if_neg (by omega), if_neg (by omega), if_neg (by omega)]
 go_enter Tryz.func114, Tryz.ntmps114
 go_upto_region 1 with fail
 generalize hW : w.alloc _ = W0
 have hB0 : Below w.heap.size w W0 := by subst hW; exact nal
 have b0 : W0.cell? ⟨w.heap.size, c / 64, none⟩ = some (.int .u64 (S.at c)) := by
  rw [← hword]
  subst hW
  rcases (by omega : c / 64 = 0 ∨ c / 64 = 1 ∨ c / 64 = 2 ∨ c / 64 = 3) with h | h | h | h <;> rw [h] <;> simp [go_sem, W4.word]
 clear hW hword
 generalize S.at c = wd at *
 generalize c / 64 = wi at *
 generalize c % 64 = k at *
 have Hhas := hid hhas
 clear hhas
 have hand : bits .and .u64 (wd / 2 ^ k) 1 = wd / 2 ^ k % 2 := by
  have hp : (0 : Int) < 2 ^ k := Int.pow_pos (by omega)
  have h0 : 0 ≤ wd / 2 ^ k := Int.ediv_nonneg hat.1 (Int.le_of_lt hp)
  have h1 : wd / 2 ^ k ≤ wd := Int.ediv_le_self _ hat.1
  have h2 := hat.2
  generalize wd / 2 ^ k = x at *
  rw [u64_and x 1 h0 (by omega) (by decide) (by decide)]
  show ((x.toNat &&& 1 : Nat) : Int) = _
  rw [Nat.and_one_is_mod]
  omega
 have Hand := hid hand
 clear hand
 go_wp2_with fail
 exact bodyPost_ret (v := .bool (bits .and .u64 (wd / 2 ^ k) 1 == 1)) (by simp [results, Tryz.results114, go_sem]) rfl ⟨by rw [Hand.out, Hhas.out], hB0⟩
def xW (B : Nat) (w : World) (v : Value) (l : List Nat) : Prop := w.ownsRow B 5 1 v l.length (l.map fun x => Value.int .u8 (x : Nat))
theorem xW.form {B : Nat} {w : World} {v : Value} {l : List Nat} (h : xW B w v l) : ∃ A c, v = .slice A l.length c := by
 rcases h.2 with ⟨hv, h0⟩ | ⟨g, cap, cur, hv, _⟩
 · exact ⟨none, 0, by rw [hv, h0]⟩
 · exact ⟨_, _, hv⟩
theorem uy (w : World) (S : W4) (hw : Wok S) :
 Calls Tryz.prog 95 #[S.V] w fun en w' => ∃ v, en = .returned v ∧ xW w.heap.size w' v (bc S) ∧ Below w.heap.size w w' := by
 obtain ⟨i0, hi, hi0, hi1, hi2⟩ := info_parts rR
 go_enter Tryz.func95, Tryz.ntmps95
 go_wp2_with fail
 generalize hW : w.alloc _ = W0
 have hB0 : Below w.heap.size w W0 := by subst hW; exact nal
 have hS0 : At4 W0 w.heap.size 0 S := by subst hW; constructor <;> simp [go_sem]
 have hz0' : w.heap.size < W0.heap.size := by subst hW; simp
 clear hW
 go_loopg [3, 5] 256 (fun k a i wr => ∃ (j : Nat) (acc : List Nat) (A : Option Addr) (cp : Nat), i = .int .i64 j ∧ a = .slice A acc.length cp ∧ j + k = 256 ∧ acc.length ≤ j ∧ acc ++ (List.range' j (256 - j)).filter S.has = bc S ∧ xW (w.heap.size + 1) wr (.slice A acc.length cp) acc ∧ At4 wr w.heap.size 0 S ∧ w.heap.size < wr.heap.size ∧ Below w.heap.size w wr)
 case atStart => exact ⟨0, [], none, 0, rfl, rfl, rfl, Nat.le_refl _, by rw [bc, List.range_eq_range']; rfl, ⟨rfl, .inl ⟨rfl, rfl⟩⟩, hS0, hz0', hB0⟩
 case round =>
  obtain ⟨j, acc, A, cp, rfl, rfl, hj, hal, hacc, hrow, hS, hz, hB⟩ := hrel
  have Hacc := hid hacc; have Hrow := hid hrow; have HS := hid hS; have HB := hid hB
  clear hacc hrow hS hB hS0 hB0 hz0'
  by_cases hlt : j < 256
  · have hmod : IntKind.u8.wrap (j : Int) = (j : Int) := by simp [IntKind.wrap, IntKind.signed, IntKind.bits]; omega
    obtain ⟨f0, f1, f2, f3⟩ := HS.out
    simp only [Nat.zero_add] at f1 f2 f3
    have hstep : (List.range' j (256 - j)).filter S.has = (if S.has j then [j] else []) ++ (List.range' (j + 1) (256 - (j + 1))).filter S.has := by
     rw [show 256 - j = (256 - (j + 1)) + 1 by omega, List.range'_succ, List.filter_cons]
     split <;> simp
    have Hst := hid hstep
    clear hstep
    go_wp2_with fail
    refine (vn wr S hw j hlt).mono ?_
    rintro en w1 ⟨rfl, hb1⟩
    have hS1 := HS.out.later hb1 hz
    have hr1 : xW (w.heap.size + 1) w1 (.slice A acc.length cp) acc := Hrow.out.kept (row := none) ⟨hb1.os, hb1.tape, hb1.output, hb1.size, fun k hk _ => hb1.block k hk⟩ (by cases h : (Value.slice A acc.length cp).ownBlock <;> simp)
    have hB1 := HB.out.step hb1
    have hz1 := Nat.lt_of_lt_of_le hz hb1.size
    have HS1 := hid hS1; have Hr1 := hid hr1; have HB1 := hid hB1
    clear f0 f1 f2 f3 HS Hrow HB hS1 hr1 hB1 hb1
    cases hh : S.has j with
    | false =>
     have Hacc := hid (show acc ++ (List.range' (j + 1) (256 - (j + 1))).filter S.has = bc S by rw [← Hacc.out, Hst.out, hh]; rfl)
     clear hh Hst
     go_wp2_with fail
     go_roundg (gk - 1)
     case measure => omega
     case rel => exact ⟨j + 1, acc, A, cp, by go_num, rfl, by omega, by omega, Hacc.out, Hr1.out, HS1.out, hz1, HB1.out⟩
    | true =>
     have Hacc := hid (show (acc ++ [j]) ++ (List.range' (j + 1) (256 - (j + 1))).filter S.has = bc S by rw [← Hacc.out, Hst.out, hh]; simp)
     clear hh Hst
     go_upto_region 7 with (at_builtin; refine wpList_append_own _ rfl _ _ 42 rfl (w.heap.size + 1) 5 i0 (.int .u8 0) 1 1 Tryz.underlying42 hi hi0 hi1 hi2 rfl (by decide) _ _ _ rfl (Hr1.out.alloc _) ⟨w1.heap.size, 0, none⟩ 1 1 [.int .u8 (j : Nat)] rfl rfl ?c1 ?c2 ?c3 ?c4 ?c5 ?_)
     case c1 =>
      intro i u hj
      match i, hj with
      | 0, hj => simp at hj; subst hj; simp [Addr.add]
     case c2 => intro u hu; simp at hu; subst hu; rfl
     case c3 => unfold maxLen; omega
     case c4 => omega
     case c5 => simp; omega
     intro v' w2 hown' hgrow _
     have hx : xW (w.heap.size + 1) w2 v' (acc ++ [j]) := by
      show w2.ownsRow _ _ _ _ _ _
      simpa using hown'
     obtain ⟨A', cp', rfl⟩ := hx.form
     have hne : ∀ g, (Value.slice A acc.length cp).ownBlock = some g → w.heap.size + 1 ≤ g := fun g hg => (Hr1.out.lt g hg).1
     have hblk : w2.heap[w.heap.size]? = w1.heap[w.heap.size]? := (hgrow.block w.heap.size (by simp; omega) (fun e => by have := hne _ e.symm; omega)).trans (((Below.refl w1.heap.size w1).alloc (Nat.le_refl _) (.cells #[.int .u8 (j : Nat)] 5)).block _ hz1)
     have hS2 : At4 w2 w.heap.size 0 S := HS1.out.keep hblk
     have hB2 : Below w.heap.size w w2 := (HB1.out.alloc (by omega) _).grown hgrow (by simp; omega) (fun k hk => by have := hne k hk; omega)
     have hz2 : w.heap.size < w2.heap.size := by have := hgrow.size; simp at this; omega
     have Hx := hid hx; have HS2 := hid hS2; have HB2 := hid hB2
     clear hx hS2 hB2 hown' hgrow hblk hne HS1 Hr1 HB1
     go_wp2_with fail
     go_roundg (gk - 1)
     case measure => omega
     case rel => exact ⟨j + 1, acc ++ [j], A', cp', by go_num, rfl, by omega, by simp; omega, Hacc.out, Hx.out, HS2.out, hz2, HB2.out⟩
  · have hb : acc = bc S := by rw [← Hacc.out, show 256 - j = 0 by omega]; simp
    subst hb
    clear Hacc HS
    go_wp2_with fail
    go_ret
    exact ⟨_, rfl, ⟨Hrow.out.1, Hrow.out.2.imp id (fun ⟨g, cap, cur, h1, h2, h3⟩ => ⟨g, cap, cur, h1, by omega, h3⟩)⟩, HB.out⟩
theorem xE : ∀ k < 256, decide (0 ≤ Lib.indexByte [93, 91, 94, 45] (UInt8.ofNat k)) = decide (k = 93 ∨ k = 91 ∨ k = 94 ∨ k = 45) := by decide +kernel
theorem vP : ∀ k < 256, decide (0 ≤ Lib.indexByte [92, 94, 46, 91, 36, 40, 41, 124, 42, 43, 63, 123] (UInt8.ofNat k)) = mO k := by decide +kernel
theorem kM (l : Bs) (c : Nat) (hc : c < 256) (w : World) : Calls Tryz.prog 97 #[.string (bs l), .int .u8 (c : Nat)] w fun e w' => e = .returned (.int .i64 (Lib.indexByte l (UInt8.ofNat c))) ∧ w' = w := by
 refine (Tryz.strings_IndexByte (bs l) c w).mono ?_
 rintro e w' ⟨rfl, rfl⟩
 refine ⟨?_, rfl⟩
 have e1 : (bs l).data.toList = l := by simp [bs]
 rw [e1]
 rfl
theorem dC (B p : Nat) (l : Bs) (o d : Int) (w : World) (h : WAt B p l o d w) (hl : l.length ≤ 1000000) (hB : B ≤ w.heap.size) (c : Nat) (hc : c < 256) :
 Calls Tryz.prog 98 #[.pointer (some ⟨p, 0, none⟩), .int .u8 (c : Nat)] w fun e w' => e = .returned (.tuple #[]) ∧ WAt B p (l ++ dt c) o d w' ∧ Below B w w' ∧ Fr p w w' := by
 have H := hid h
 clear h
 have hi := xE c hc
 have Ci := hid (kM [93, 91, 94, 45] c hc)
 generalize Lib.indexByte [93, 91, 94, 45] (UInt8.ofNat c) = ix at *
 by_cases hm : c = 93 ∨ c = 91 ∨ c = 94 ∨ c = 45
 · have h0 : 0 ≤ ix := by rw [decide_eq_true hm] at hi; exact of_decide_eq_true hi
   have Hm := hid (show dt c = [91, 46, UInt8.ofNat c, 46, 93] by unfold dt; rw [if_pos hm])
   clear hi hm
   go_enter Tryz.func98, Tryz.ntmps98
   go_wp2_with fail
   refine (Ci.out w).mono ?_
   rintro e w1 ⟨rfl, rfl⟩
   go_wp2_with fail
   have hconv : (convert 42 9 (.slice (some ⟨w1.heap.size, 0, none⟩) 1 1)).run Tryz.prog (w1.alloc (.cells #[.int .u8 (c : Nat)] 5)).drew = .ok (.string (bs [UInt8.ofNat c])) (w1.alloc (.cells #[.int .u8 (c : Nat)] 5)).drew := by
    refine run_convert_bytes_back _ _ _ 5 ⟨w1.heap.size, 0, none⟩ 1 [UInt8.ofNat c] Tryz.underlying42 Tryz.underlying5 Tryz.underlying9 ?_
    intro j hj
    have : j = 0 := by simpa using hj
    subst this
    have hb8 : (UInt8.ofNat c).toNat = c := b8 hc
    simp only [List.getElem_cons_zero, hb8]
    exact World.cell?_alloc_new w1 #[.int .u8 (c : Nat)] 5 0
   have sz1 : (bs [UInt8.ofNat c]).size = 1 := by simp [bs, ByteArray.size]
   have c1 : bs [91, 46] ++ bs [UInt8.ofNat c] = bs [91, 46, UInt8.ofNat c] := ey _ _
   have c2 : bs [91, 46, UInt8.ofNat c] ++ bs [46, 93] = bs [91, 46, UInt8.ofNat c, 46, 93] := ey _ _
   have hW : Below w1.heap.size w1 (w1.alloc (.cells #[.int .u8 (c : Nat)] 5)).drew := nal.drew
   have HWt := hid (H.out.later hW)
   have HWb := hid (hW.mono hB)
   have HWf := hid (Fr.of_below H.out.lt hW)
   clear hW
   go_region_with (go_at_call 96; refine (cV B p l o d _ HWt.out hl (Nat.le_trans hB HWb.out.size) [91, 46, UInt8.ofNat c, 46, 93] (by simp) (by simp)).mono ?_; rintro e w9 ⟨⟨k9, rfl⟩, h9, hb9, hf9⟩)
   all_goals
    go_wp2_with fail
    exact bodyPost_ret (v := .tuple #[]) (by simp [results, Tryz.results98, go_sem]) rfl ⟨rfl, by rw [Hm.out]; exact h9, HWb.out.trans hb9, HWf.out.trans hf9⟩
 · have h0 : ix < 0 := by rw [decide_eq_false hm] at hi; have := of_decide_eq_false hi; omega
   have Hm := hid (show dt c = [UInt8.ofNat c] by unfold dt; rw [if_neg hm])
   clear hi hm
   have hb8 : (UInt8.ofNat c).toNat = c := b8 hc
   have cw := bY B p l o d w H.out hl hB (UInt8.ofNat c)
   rw [hb8] at cw
   have Cw := hid cw
   clear cw hb8
   go_enter Tryz.func98, Tryz.ntmps98
   go_wp2_with fail
   refine (Ci.out w).mono ?_
   rintro e w1 ⟨rfl, rfl⟩
   go_wp2_with fail
   refine Cw.out.mono ?_
   rintro e w2 ⟨rfl, h2, hb2, hf2⟩
   go_wp2_with fail
   go_end0
   exact ⟨rfl, by rw [Hm.out]; exact h2, hb2, hf2⟩
theorem ol : ∀ (c : Nat) (t : List Nat) (m : Nat), m ≤ dD c t → (c :: t)[m]? = some (c + m)
 | c, t, 0, _ => rfl
 | c, [], m + 1, h => by simp [dD] at h
 | c, d :: t, m + 1, h => by
  rw [dD] at h
  split at h
  · rename_i hd
    subst hd
    have := ol (c + 1) t m (by omega)
    rw [List.getElem?_cons_succ, this]
    congr 1; omega
  · omega
theorem pH : ∀ (c : Nat) (t : List Nat), dD c t < t.length → ∃ x, (c :: t)[1 + dD c t]? = some x ∧ x ≠ c + (1 + dD c t)
 | c, [], h => by simp [dD] at h
 | c, d :: t, h => by
  rw [dD] at h ⊢
  split
  · rename_i hd
    subst hd
    rw [if_pos rfl] at h
    obtain ⟨x, h1, h2⟩ := pH (c + 1) t (by simp at h; omega)
    refine ⟨x, ?_, by omega⟩
    rw [show 1 + (1 + dD (c + 1) t) = (1 + dD (c + 1) t) + 1 by omega, List.getElem?_cons_succ]
    exact h1
  · rename_i hd
    exact ⟨d, rfl, by omega⟩
theorem kO (f c : Nat) (t : List Nat) : cf (f + 1) (c :: t) = dt c ++ ((if 1 < dD c t then [45] else []) ++ ((if 0 < dD c t then dt (c + dD c t) else []) ++ cf f (t.drop (dD c t)))) := by rw [cf]
theorem ej (c : Nat) : (dt c).length ≤ 5 := by unfold dt; split <;> simp
theorem uR (B p : Nat) (l : Bs) (o d : Int) (w : World) (h : WAt B p l o d w) (hl : l.length ≤ 2000) (hB : B ≤ w.heap.size) (S : W4) (hS : Wok S) :
 Calls Tryz.prog 79 #[.pointer (some ⟨p, 0, none⟩), S.V] w fun e w' => e = .returned (.tuple #[]) ∧ WAt B p (l ++ lK S) o d w' ∧ Below B w w' ∧ Fr p w w' := by
 have H := hid h
 have hp := h.lt
 clear h
 go_enter Tryz.func79, Tryz.ntmps79
 go_wp2_with fail
 generalize hW : w.alloc _ = W0
 have hB0 : Below w.heap.size w W0 := by subst hW; exact nal
 clear hW
 refine (uy W0 S hS).mono ?_
 rintro en w1 ⟨v, rfl, hrow, hb1⟩
 obtain ⟨A, cp, rfl⟩ := hrow.form
 have hB1 := hB0.step hb1
 have H1 := hid (H.out.later hB1)
 have HB1 := hid (hB1.mono hB)
 have HG1 := hid (Fr.of_below hp hB1)
 have hz01 : w.heap.size ≤ W0.heap.size := hB0.size
 have hblt := eG S
 have hL256 := nH S
 have Hrow := hid hrow; have Hblt := hid hblt
 have hset : lK S = if (bc S).length = 256 then [46]
  else if (bc S).length = 0 then [91, 94, 0, 45, 255, 93]
  else if (bc S).length = 1 then (if mO ((bc S).headD 0) then [92, UInt8.ofNat ((bc S).headD 0)] else [UInt8.ofNat ((bc S).headD 0)])
  else [91] ++ (cf (bc S).length (bc S) ++ [93]) := rfl
 have Hset := hid hset
 have hB1w := hB1
 clear hrow hblt hset hB0 hB1 hb1
 generalize bc S = L at *
 have hcells : ∀ (h0 : L ≠ []), ∃ g, A = some ⟨g, 0, none⟩ ∧ dk w1 p g ∧ L.length ≤ cp ∧ ∀ i c, L[i]? = some c → w1.cell? ⟨g, i, none⟩ = some (.int .u8 (c : Nat)) := fun h0 => by
  rcases Hrow.out.2 with ⟨_, hz⟩ | ⟨g, cap, cur, hv, hbg, hg, hnc, hcm, hcs, htake⟩
  · exact absurd (List.eq_nil_of_length_eq_zero hz) h0
  · cases hv
    refine ⟨g, rfl, ⟨(Array.getElem?_eq_some_iff.1 hg).1, by omega, fun v hv e => ?_⟩, hnc, fun i c hi => ?_⟩
    · obtain ⟨_, a, v', hb, _, hown, _⟩ := H.out
      have hc := hb.cells.2.1
      have hc' := (hB1w.cell (p := ⟨p, 1, none⟩) hp).trans hc
      rw [hv] at hc'
      cases hc'
      have := (hown.lt g e).2
      omega
    · have := World.ownsRow.cells Hrow.out (g := g) rfl i (.int .u8 (c : Nat)) (by simp [hi])
      rcases i with _ | i
      · simpa [Addr.add] using this
      · simpa [Addr.add] using this
 have Hcells := hid hcells
 clear hcells Hrow H hB1w
 by_cases h256 : L.length = 256
 · have Hs := hid (show lK S = [46] by rw [Hset.out, if_pos h256])
   clear Hset
   go_wp2_with fail
   refine (bY B p l o d w1 H1.out (by omega) (Nat.le_trans hB HB1.out.size) 46).mono ?_
   rintro e w2 ⟨rfl, h2, hb2, hf2⟩
   go_wp2_with fail
   exact bodyPost_ret (v := .tuple #[]) (by simp [results, Tryz.results79, go_sem]) rfl ⟨rfl, by rw [Hs.out]; exact h2, HB1.out.trans hb2, HG1.out.trans hf2⟩
 by_cases hl0 : L.length = 0
 · have Hs := hid (show lK S = [91, 94, 0, 45, 255, 93] by rw [Hset.out, if_neg h256, if_pos hl0])
   clear Hset
   rw [hl0]
   go_wp2_with fail
   refine (cV B p l o d w1 H1.out (by omega) (Nat.le_trans hB HB1.out.size) [91, 94, 0, 45, 255, 93] (by simp) (by simp)).mono ?_
   rintro e w2 ⟨⟨k, rfl⟩, h2, hb2, hf2⟩
   go_wp2_with fail
   exact bodyPost_ret (v := .tuple #[]) (by simp [results, Tryz.results79, go_sem]) rfl ⟨rfl, by rw [Hs.out]; exact h2, HB1.out.trans hb2, HG1.out.trans hf2⟩
 have hne : L ≠ [] := fun e => hl0 (by rw [e]; rfl)
 obtain ⟨g, rfl, hF, hcp, hce⟩ := Hcells.out hne
 by_cases hl1 : L.length = 1
 · obtain ⟨c, rfl⟩ : ∃ c, L = [c] := List.length_eq_one_iff.1 hl1
   have hc := Hblt.out c (by simp)
   have f0 := hce 0 c rfl
   have hspec := vP c hc
   have Ci := hid (kM [92, 94, 46, 91, 36, 40, 41, 124, 42, 43, 63, 123] c hc)
   have hb8 : (UInt8.ofNat c).toNat = c := b8 hc
   generalize Lib.indexByte [92, 94, 46, 91, 36, 40, 41, 124, 42, 43, 63, 123] (UInt8.ofNat c) = ix at *
   simp only [List.length_cons, List.length_nil, Nat.zero_add] at hcp ⊢
   cases hsp : mO c with
   | true =>
    have hx : 0 ≤ ix := by rw [hsp] at hspec; exact of_decide_eq_true hspec
    have Hs := hid (show lK S = [92, UInt8.ofNat c] by rw [Hset.out]; simp [hsp])
    clear Hset hspec hsp hce Hcells
    go_wp2_with fail
    refine (Ci.out w1).mono ?_
    rintro e w1' ⟨rfl, rfl⟩
    go_wp2_with fail
    refine (bY B p l o d w1' H1.out (by omega) (Nat.le_trans hB HB1.out.size) 92).mono ?_
    rintro e w2 ⟨rfl, h2, hb2, hf2⟩
    have f0' : w2.cell? ⟨g, 0, none⟩ = some (.int .u8 (c : Nat)) := (World.cell?_of_block (w := w1') (a := ⟨g, 0, none⟩) (hf2 g hF).1).trans f0
    have H2 := hid h2; have HP2 := h2.lt; have HG2 := hid (HG1.out.trans hf2); have HB2 := hid (HB1.out.trans hb2)
    have cw := bY B p (l ++ [92]) o d w2.drew (h2.later (Below.refl _ _).drew) (by simp; omega) (Nat.le_trans hB HB2.out.size) (UInt8.ofNat c)
    rw [hb8] at cw
    have Cw := hid cw
    clear h2 hb2 hf2 f0 cw
    go_wp2_with fail
    go_region_with (go_at_call 78; refine Cw.out.mono ?_; rintro e w3 ⟨rfl, h3, hb3, hf3⟩)
    all_goals
     go_wp2_with fail
     exact bodyPost_ret (v := .tuple #[]) (by simp [results, Tryz.results79, go_sem]) rfl ⟨rfl, by rw [Hs.out]; simpa using h3, (HB2.out.drew).trans hb3, (HG2.out.trans (Fr.of_below HP2 (Below.refl _ _).drew)).trans hf3⟩
   | false =>
    have hx : ix < 0 := by rw [hsp] at hspec; have := of_decide_eq_false hspec; omega
    have Hs := hid (show lK S = [UInt8.ofNat c] by rw [Hset.out]; simp [hsp])
    clear Hset hspec hsp hce Hcells
    have cw := bY B p l o d w1.drew (H1.out.later (Below.refl _ _).drew) (by omega) (Nat.le_trans hB HB1.out.size) (UInt8.ofNat c)
    rw [hb8] at cw
    have Cw := hid cw
    clear cw
    go_wp2_with fail
    refine (Ci.out w1).mono ?_
    rintro e w1' ⟨rfl, rfl⟩
    go_wp2_with fail
    go_region_with (go_at_call 78; refine Cw.out.mono ?_; rintro e w3 ⟨rfl, h3, hb3, hf3⟩)
    all_goals
     go_wp2_with fail
     exact bodyPost_ret (v := .tuple #[]) (by simp [results, Tryz.results79, go_sem]) rfl ⟨rfl, by rw [Hs.out]; exact h3, (HB1.out.drew).trans hb3, (HG1.out.trans (Fr.of_below H1.out.lt (Below.refl _ _).drew)).trans hf3⟩
 · have Hs := hid (show lK S = [91] ++ (cf L.length L ++ [93]) by rw [Hset.out, if_neg h256, if_neg hl0, if_neg hl1])
   have hle : L.length ≤ 256 := hL256
   clear Hset
   have hn0 : (L.length : Int) ≠ 0 := by omega
   go_wp2_with fail
   refine (bY B p l o d w1 H1.out (by omega) (Nat.le_trans hB HB1.out.size) 91).mono ?_
   rintro e w2 ⟨rfl, h2, hb2, hf2⟩
   have hce2 : ∀ i c, L[i]? = some c → w2.cell? ⟨g, i, none⟩ = some (.int .u8 (c : Nat)) := fun i c hi => (World.cell?_of_block (w := w1) (a := ⟨g, i, none⟩) (hf2 g hF).1).trans (hce i c hi)
   have HF2 := hid (hf2 g hF).2
   have H2 := hid h2; have HP2 := h2.lt; have HG2 := hid (HG1.out.trans hf2); have HB2 := hid (HB1.out.trans hb2); have Hce2 := hid hce2
   clear h2 hb2 hf2 hce2 hce hF Hcells H1 HB1
   go_wp2_with fail
   go_loopg [4, 5] (L.length) (fun k a n wr => ∃ (q f : Nat) (X : Bs) (A' : Option Addr) (cp' : Nat), a = .slice A' (L.length - q) cp' ∧ q + k = L.length ∧ (q < L.length → A' = some ⟨g, q, none⟩ ∧ L.length - q ≤ cp') ∧ L.length - q ≤ f ∧ X.length ≤ 11 * q ∧ X ++ cf f (L.drop q) = cf L.length L ∧ WAt B p (l ++ [91] ++ X) o d wr ∧ (∀ i c, L[i]? = some c → wr.cell? ⟨g, i, none⟩ = some (.int .u8 (c : Nat))) ∧ dk wr p g ∧ Below B w wr ∧ Fr p w wr)
   case atStart => exact ⟨0, L.length, [], some ⟨g, 0, none⟩, cp, rfl, by omega, fun _ => ⟨rfl, hcp⟩, Nat.le_refl _, by simp, rfl, by simpa using H2.out, Hce2.out, HF2.out, HB2.out, HG2.out⟩
   case round =>
    obtain ⟨q, f, X, A', cp', rfl, hq, hA, hf, hX, hrun, hW, hce, hF, hBr, hGr⟩ := hrel
    have HWr := hid hW; have HCe := hid hce; have HF := hid hF; have HB := hid hBr; have HG := hid hGr; have Hrun := hid hrun
    clear hW hce hF hBr hrun H2 HB2 Hce2 HF2
    by_cases hql : q < L.length
    · obtain ⟨rfl, hc'⟩ := hA hql
      obtain ⟨f', rfl⟩ : ∃ f', f = f' + 1 := ⟨f - 1, by omega⟩
      have hpos : (0 : Int) < ((L.length - q : Nat) : Int) := by omega
      obtain ⟨c, t, hdrop⟩ : ∃ c t, L.drop q = c :: t := by
       rw [List.drop_eq_getElem_cons hql]; exact ⟨_, _, rfl⟩
      have hget : ∀ m x, (c :: t)[m]? = some x → L[q + m]? = some x := fun m x hx => by rw [← hdrop, List.getElem?_drop] at hx; exact hx
      have htl : t.length = L.length - q - 1 := by have := congrArg List.length hdrop; simp at this; omega
      have hcx := hget 0 c rfl
      have Hget := hid hget; have Hdrop := hid hdrop
      have c0 := HCe.out (q + 0) c hcx
      simp only [Nat.add_zero] at c0
      have hc256 := Hblt.out c (List.mem_of_getElem? hcx)
      have hrN := lR c t
      clear hget hdrop hcx
      go_wp2_with fail
      go_loopg [5] (dD c t) (fun k n wr' => ∃ m : Nat, n = .int .i64 m ∧ m + k = 1 + dD c t ∧ 1 ≤ m ∧ WAt B p (l ++ [91] ++ X) o d wr' ∧ (∀ i c, L[i]? = some c → wr'.cell? ⟨g, i, none⟩ = some (.int .u8 (c : Nat))) ∧ dk wr' p g ∧ Below B w wr' ∧ Fr p w wr')
      case atStart => exact ⟨1, rfl, by omega, Nat.le_refl _, HWr.out, HCe.out, HF.out, HB.out, HG.out⟩
      case round =>
       obtain ⟨m, rfl, hmk, hm1, hW3, hce3, hF3, hB3, hG3⟩ := hrel
       have HW3 := hid hW3; have HC3 := hid hce3; have HF3 := hid hF3; have HB3 := hid hB3
       have c0 := hce3 (q + 0) c (Hget.out 0 c rfl)
       simp only [Nat.add_zero] at c0
       have hbd : Below wr.heap.size wr wr.drew := (Below.refl _ _).drew
       have HW4 := hid (hW3.later hbd)
       have HC4 := hid (fun i c hi => ((hbd.cell (p := ⟨g, i, none⟩) hF3.1).trans (hce3 i c hi) : wr.drew.cell? ⟨g, i, none⟩ = some (.int .u8 (c : Nat))))
       have HF4 := hid (Fr.of_below hW3.lt hbd g hF3).2
       have HB4 := hid hB3.drew
       have HG4 := hid (hG3.trans (Fr.of_below hW3.lt hbd))
       clear hW3 hce3 hF3 hB3 hbd HWr HCe HF HB
       by_cases hmr : m ≤ dD c t
       · have hcm := HC3.out (q + m) (c + m) (Hget.out m (c + m) (ol c t m hmr))
         have hml : m < L.length - q := by omega
         clear HW3 HC3 HF3 HB3
         go_wp2_with fail
         go_region
         all_goals
          go_wp2_with fail
          go_roundg (gk - 1)
          case measure => omega
          case rel => exact ⟨m + 1, by go_num, by omega, by omega, HW4.out, HC4.out, HF4.out, HB4.out, HG4.out⟩
       · have hmr1 : m = 1 + dD c t := by omega
         subst hmr1
         have hstop : (1 + dD c t ≤ L.length - q ∧ L.length - q ≤ 1 + dD c t) ∨ ∃ x, 1 + dD c t < L.length - q ∧ L[q + (1 + dD c t)]? = some x ∧ x ≠ c + (1 + dD c t) := by
          by_cases he : dD c t < t.length
          · obtain ⟨x, hx1, hx2⟩ := pH c t he
            exact .inr ⟨x, by omega, Hget.out _ x hx1, hx2⟩
          · exact .inl (by omega)
         have hdq : L.drop (q + (1 + dD c t)) = t.drop (dD c t) := by
          rw [← List.drop_drop, Hdrop.out, Nat.add_comm 1, List.drop_succ_cons]
         have hrs := Hrun.out
         rw [Hdrop.out, kO, ← hdq] at hrs
         have Hrs := hid hrs
         have Hrun1 := hid (fun m hm => ol c t m hm)
         clear hrs hdq Hrun hmk
         generalize dD c t = r at *
         have hbz1 : 1 + r ≤ L.length - q := by rcases hstop with h | ⟨x, h, _⟩ <;> omega
         generalize hmq : 1 + r = m1 at *
         have Hm1 := hid hmq
         rcases hstop with ⟨hst1, hst2⟩ | ⟨x, hst, hxc, hxn⟩
         · clear HW3 HC3 HF3 HB3 hmq
           have hnb : decide ((m1 : Int) < ((L.length - q : Nat) : Int)) = false := by rw [decide_eq_false_iff_not]; omega
           generalize hnn : ((m1 : Nat) : Int) = nn at *
           have Hnn := hid hnn
           clear hnn hst1 hbz1
           go_wp2_with fail
           go_region
           have hmm := Hm1.out
           have hnn := Hnn.out
           subst hnn
           subst hmm
           clear Hm1 Hnn hnb
           have hll : (l ++ [91] ++ X).length ≤ 10000 := by simp; omega
           have lm := ej c
           go_wp2_with fail
           refine (dC B p (l ++ [91] ++ X) o d _ HW4.out (by simp; omega) (Nat.le_trans hB HB4.out.size) c hc256).mono ?_
           rintro e w5 ⟨rfl, h5, hb5, hf5⟩
           have HC5 := hid (fun i c hi => ((World.cell?_of_block (a := ⟨g, i, none⟩) (hf5 g HF4.out).1).trans (HC4.out i c hi) : w5.cell? ⟨g, i, none⟩ = some (.int .u8 (c : Nat))))
           have HF5 := hid (hf5 g HF4.out).2
           have HB5 := hid (HB4.out.trans hb5)
           have HG5 := hid (HG4.out.trans hf5)
           have HW5 := hid h5
           clear h5 hb5 hf5 HC4 HF4 HB4 HW4
           clear c0
           rcases (show r = 0 ∨ r = 1 ∨ 2 ≤ r by omega) with hr0 | hr0 | hr0
           · subst hr0
             have Hrs := hid (show X ++ (dt c ++ cf f' (L.drop (q + (1 + 0)))) = cf L.length L by have := Hrs.out; simpa using this)
             have HC9 := HC5
             clear HC5
             have HF9 := HF5
             clear HF5
             have HB9 := HB5
             have HG9 := HG5
             clear HB5
             have HW9 := HW5
             clear HW5
             go_wp2_with fail
             all_goals
              go_roundg (L.length - (q + (1 + 0)))
              case measure => omega
              case rel => exact ⟨q + (1 + 0), f', X ++ dt c, _, _, (by rw [Value.slice.injEq]; exact ⟨rfl, by omega, rfl⟩), by omega, (fun h => by first | exact ⟨rfl, by omega⟩ | (exfalso; omega)), by omega, by simp; omega, by rw [← Hrs.out]; simp, by simpa using HW9.out, HC9.out, HF9.out, HB9.out, HG9.out⟩
           · subst hr0
             have Hrs := hid (show X ++ (dt c ++ (dt (c + 1) ++ cf f' (L.drop (q + (1 + 1))))) = cf L.length L by have := Hrs.out; simpa using this)
             have c1 := HC5.out (q + 1) (c + 1) (Hget.out 1 (c + 1) (Hrun1.out 1 (by omega)))
             have lm1 := ej (c + 1)
             have hc1 := Hblt.out (c + 1) (List.mem_of_getElem? (Hget.out 1 (c + 1) (Hrun1.out 1 (by omega))))
             go_wp2_with fail
             refine (dC B p (l ++ [91] ++ X ++ dt c) o d _ HW5.out (by simp; omega) (Nat.le_trans hB HB5.out.size) (c + 1) hc1).mono ?_
             rintro e w6 ⟨rfl, h6, hb6, hf6⟩
             have HC6 := hid (fun i c hi => ((World.cell?_of_block (a := ⟨g, i, none⟩) (hf6 g HF5.out).1).trans (HC5.out i c hi) : w6.cell? ⟨g, i, none⟩ = some (.int .u8 (c : Nat))))
             have HF6 := hid (hf6 g HF5.out).2
             have HB6 := hid (HB5.out.trans hb6)
             have HG6 := hid (HG5.out.trans hf6)
             have HW6 := hid h6
             clear h6 hb6 hf6 HC5 HF5 HB5 HW5
             clear c1
             have HC9 := HC6
             clear HC6
             have HF9 := HF6
             clear HF6
             have HB9 := HB6
             have HG9 := HG6
             clear HB6
             have HW9 := HW6
             clear HW6
             go_wp2_with fail
             all_goals
              go_roundg (L.length - (q + (1 + 1)))
              case measure => omega
              case rel => exact ⟨q + (1 + 1), f', X ++ (dt c ++ dt (c + 1)), _, _, (by rw [Value.slice.injEq]; exact ⟨rfl, by omega, rfl⟩), by omega, (fun h => by first | exact ⟨rfl, by omega⟩ | (exfalso; omega)), by omega, by simp; omega, by rw [← Hrs.out]; simp, by simpa using HW9.out, HC9.out, HF9.out, HB9.out, HG9.out⟩
           · have Hrs := hid (show X ++ (dt c ++ ([45] ++ (dt (c + r) ++ cf f' (L.drop (q + (1 + r)))))) = cf L.length L by have := Hrs.out; rw [if_pos (by omega), if_pos (by omega)] at this; exact this)
             have lm1 := ej (c + r)
             have hcr := Hget.out r (c + r) (Hrun1.out r (by omega))
             have hc1 := Hblt.out (c + r) (List.mem_of_getElem? hcr)
             have Hcr := hid hcr
             clear hcr
             go_wp2_with fail
             refine (bY B p (l ++ [91] ++ X ++ dt c) o d _ HW5.out (by simp; omega) (Nat.le_trans hB HB5.out.size) 45).mono ?_
             rintro e w6 ⟨rfl, h6, hb6, hf6⟩
             have HC6 := hid (fun i c hi => ((World.cell?_of_block (a := ⟨g, i, none⟩) (hf6 g HF5.out).1).trans (HC5.out i c hi) : w6.cell? ⟨g, i, none⟩ = some (.int .u8 (c : Nat))))
             have HF6 := hid (hf6 g HF5.out).2
             have HB6 := hid (HB5.out.trans hb6)
             have HG6 := hid (HG5.out.trans hf6)
             have HW6 := hid h6
             clear h6 hb6 hf6 HC5 HF5 HB5 HW5
             have c1 := HC6.out (q + r) (c + r) Hcr.out
             have hrr : ((1 + r : Nat) : Int) - 1 = (r : Int) := by omega
             go_wp2_with fail
             refine (dC B p (l ++ [91] ++ X ++ dt c ++ [45]) o d _ HW6.out (by simp; omega) (Nat.le_trans hB HB6.out.size) (c + r) hc1).mono ?_
             rintro e w7 ⟨rfl, h7, hb7, hf7⟩
             have HC7 := hid (fun i c hi => ((World.cell?_of_block (a := ⟨g, i, none⟩) (hf7 g HF6.out).1).trans (HC6.out i c hi) : w7.cell? ⟨g, i, none⟩ = some (.int .u8 (c : Nat))))
             have HF7 := hid (hf7 g HF6.out).2
             have HB7 := hid (HB6.out.trans hb7)
             have HG7 := hid (HG6.out.trans hf7)
             have HW7 := hid h7
             clear h7 hb7 hf7 HC6 HF6 HB6 HW6
             clear c1 hrr
             have HC9 := HC7
             clear HC7
             have HF9 := HF7
             clear HF7
             have HB9 := HB7
             have HG9 := HG7
             clear HB7
             have HW9 := HW7
             clear HW7
             go_wp2_with fail
             all_goals
              go_roundg (L.length - (q + (1 + r)))
              case measure => omega
              case rel => exact ⟨q + (1 + r), f', X ++ (dt c ++ ([45] ++ dt (c + r))), _, _, (by rw [Value.slice.injEq]; exact ⟨rfl, by omega, rfl⟩), by omega, (fun h => by first | exact ⟨rfl, by omega⟩ | (exfalso; omega)), by omega, by simp; omega, by rw [← Hrs.out]; simp, by simpa using HW9.out, HC9.out, HF9.out, HB9.out, HG9.out⟩
         · have hcm := HC3.out (q + m1) x hxc
           have hx256 := Hblt.out x (List.mem_of_getElem? hxc)
           have hnb : ((x : Int) == (c : Int) + (m1 : Int)) = false := by rw [beq_eq_false_iff_ne]; omega
           have Hst := hid hst
           clear HW3 HC3 HF3 HB3 hxc hxn hmq hbz1
           go_wp2_with fail
           go_region
           have hmm := Hm1.out
           subst hmm
           clear Hm1 hnb hcm
           have hll : (l ++ [91] ++ X).length ≤ 10000 := by simp; omega
           have lm := ej c
           go_wp2_with fail
           refine (dC B p (l ++ [91] ++ X) o d _ HW4.out (by simp; omega) (Nat.le_trans hB HB4.out.size) c hc256).mono ?_
           rintro e w5 ⟨rfl, h5, hb5, hf5⟩
           have HC5 := hid (fun i c hi => ((World.cell?_of_block (a := ⟨g, i, none⟩) (hf5 g HF4.out).1).trans (HC4.out i c hi) : w5.cell? ⟨g, i, none⟩ = some (.int .u8 (c : Nat))))
           have HF5 := hid (hf5 g HF4.out).2
           have HB5 := hid (HB4.out.trans hb5)
           have HG5 := hid (HG4.out.trans hf5)
           have HW5 := hid h5
           clear h5 hb5 hf5 HC4 HF4 HB4 HW4
           clear c0
           rcases (show r = 0 ∨ r = 1 ∨ 2 ≤ r by omega) with hr0 | hr0 | hr0
           · subst hr0
             have Hrs := hid (show X ++ (dt c ++ cf f' (L.drop (q + (1 + 0)))) = cf L.length L by have := Hrs.out; simpa using this)
             have HC9 := HC5
             clear HC5
             have HF9 := HF5
             clear HF5
             have HB9 := HB5
             have HG9 := HG5
             clear HB5
             have HW9 := HW5
             clear HW5
             go_wp2_with fail
             all_goals
              go_roundg (L.length - (q + (1 + 0)))
              case measure => omega
              case rel => exact ⟨q + (1 + 0), f', X ++ dt c, _, _, (by rw [Value.slice.injEq]; exact ⟨rfl, by omega, rfl⟩), by omega, (fun h => by first | exact ⟨rfl, by omega⟩ | (exfalso; omega)), by omega, by simp; omega, by rw [← Hrs.out]; simp, by simpa using HW9.out, HC9.out, HF9.out, HB9.out, HG9.out⟩
           · subst hr0
             have Hrs := hid (show X ++ (dt c ++ (dt (c + 1) ++ cf f' (L.drop (q + (1 + 1))))) = cf L.length L by have := Hrs.out; simpa using this)
             have c1 := HC5.out (q + 1) (c + 1) (Hget.out 1 (c + 1) (Hrun1.out 1 (by omega)))
             have lm1 := ej (c + 1)
             have hc1 := Hblt.out (c + 1) (List.mem_of_getElem? (Hget.out 1 (c + 1) (Hrun1.out 1 (by omega))))
             go_wp2_with fail
             refine (dC B p (l ++ [91] ++ X ++ dt c) o d _ HW5.out (by simp; omega) (Nat.le_trans hB HB5.out.size) (c + 1) hc1).mono ?_
             rintro e w6 ⟨rfl, h6, hb6, hf6⟩
             have HC6 := hid (fun i c hi => ((World.cell?_of_block (a := ⟨g, i, none⟩) (hf6 g HF5.out).1).trans (HC5.out i c hi) : w6.cell? ⟨g, i, none⟩ = some (.int .u8 (c : Nat))))
             have HF6 := hid (hf6 g HF5.out).2
             have HB6 := hid (HB5.out.trans hb6)
             have HG6 := hid (HG5.out.trans hf6)
             have HW6 := hid h6
             clear h6 hb6 hf6 HC5 HF5 HB5 HW5
             clear c1
             have HC9 := HC6
             clear HC6
             have HF9 := HF6
             clear HF6
             have HB9 := HB6
             have HG9 := HG6
             clear HB6
             have HW9 := HW6
             clear HW6
             go_wp2_with fail
             all_goals
              go_roundg (L.length - (q + (1 + 1)))
              case measure => omega
              case rel => exact ⟨q + (1 + 1), f', X ++ (dt c ++ dt (c + 1)), _, _, (by rw [Value.slice.injEq]; exact ⟨rfl, by omega, rfl⟩), by omega, (fun h => by first | exact ⟨rfl, by omega⟩ | (exfalso; omega)), by omega, by simp; omega, by rw [← Hrs.out]; simp, by simpa using HW9.out, HC9.out, HF9.out, HB9.out, HG9.out⟩
           · have Hrs := hid (show X ++ (dt c ++ ([45] ++ (dt (c + r) ++ cf f' (L.drop (q + (1 + r)))))) = cf L.length L by have := Hrs.out; rw [if_pos (by omega), if_pos (by omega)] at this; exact this)
             have lm1 := ej (c + r)
             have hcr := Hget.out r (c + r) (Hrun1.out r (by omega))
             have hc1 := Hblt.out (c + r) (List.mem_of_getElem? hcr)
             have Hcr := hid hcr
             clear hcr
             go_wp2_with fail
             refine (bY B p (l ++ [91] ++ X ++ dt c) o d _ HW5.out (by simp; omega) (Nat.le_trans hB HB5.out.size) 45).mono ?_
             rintro e w6 ⟨rfl, h6, hb6, hf6⟩
             have HC6 := hid (fun i c hi => ((World.cell?_of_block (a := ⟨g, i, none⟩) (hf6 g HF5.out).1).trans (HC5.out i c hi) : w6.cell? ⟨g, i, none⟩ = some (.int .u8 (c : Nat))))
             have HF6 := hid (hf6 g HF5.out).2
             have HB6 := hid (HB5.out.trans hb6)
             have HG6 := hid (HG5.out.trans hf6)
             have HW6 := hid h6
             clear h6 hb6 hf6 HC5 HF5 HB5 HW5
             have c1 := HC6.out (q + r) (c + r) Hcr.out
             have hrr : ((1 + r : Nat) : Int) - 1 = (r : Int) := by omega
             go_wp2_with fail
             refine (dC B p (l ++ [91] ++ X ++ dt c ++ [45]) o d _ HW6.out (by simp; omega) (Nat.le_trans hB HB6.out.size) (c + r) hc1).mono ?_
             rintro e w7 ⟨rfl, h7, hb7, hf7⟩
             have HC7 := hid (fun i c hi => ((World.cell?_of_block (a := ⟨g, i, none⟩) (hf7 g HF6.out).1).trans (HC6.out i c hi) : w7.cell? ⟨g, i, none⟩ = some (.int .u8 (c : Nat))))
             have HF7 := hid (hf7 g HF6.out).2
             have HB7 := hid (HB6.out.trans hb7)
             have HG7 := hid (HG6.out.trans hf7)
             have HW7 := hid h7
             clear h7 hb7 hf7 HC6 HF6 HB6 HW6
             clear c1 hrr
             have HC9 := HC7
             clear HC7
             have HF9 := HF7
             clear HF7
             have HB9 := HB7
             have HG9 := HG7
             clear HB7
             have HW9 := HW7
             clear HW7
             go_wp2_with fail
             all_goals
              go_roundg (L.length - (q + (1 + r)))
              case measure => omega
              case rel => exact ⟨q + (1 + r), f', X ++ (dt c ++ ([45] ++ dt (c + r))), _, _, (by rw [Value.slice.injEq]; exact ⟨rfl, by omega, rfl⟩), by omega, (fun h => by first | exact ⟨rfl, by omega⟩ | (exfalso; omega)), by omega, by simp; omega, by rw [← Hrs.out]; simp, by simpa using HW9.out, HC9.out, HF9.out, HB9.out, HG9.out⟩
    · have hq0 : L.length - q = 0 := by omega
      have hXe : X = cf L.length L := by rw [← Hrun.out, List.drop_eq_nil_of_le (by omega)]; cases f <;> simp [cf]
      have HXe := hid hXe
      clear hXe hA
      rw [hq0]
      go_wp2_with fail
      refine (bY B p (l ++ [91] ++ X) o d wr HWr.out (by simp; omega) (Nat.le_trans hB HB.out.size) 93).mono ?_
      rintro e w9 ⟨rfl, h9, hb9, hf9⟩
      go_wp2_with fail
      go_end0
      exact ⟨rfl, by rw [Hs.out, ← HXe.out]; simpa using h9, HB.out.trans hb9, HG.out.trans hf9⟩
def cJ (b x : Bs) (o d : Int) (k : Nat) (b' : Bs) (d' : Int) : Prop :=
 if b.length + x.length ≤ 1024 then b' = b ++ x ∧ d' = max d (o + k) else 1024 < b'.length
theorem cJ.trans {b x y b1 b2 : Bs} {o d d1 d2 : Int} {k m : Nat} (h : cJ b x o d k b1 d1) (g : cJ b1 y o d1 m b2 d2) : cJ b (x ++ y) o d (max k m) b2 d2 := by
 unfold cJ at *
 by_cases h1 : b.length + x.length ≤ 1024
 · rw [if_pos h1] at h
   obtain ⟨rfl, rfl⟩ := h
   rw [List.length_append] at g
   by_cases h2 : b.length + x.length + y.length ≤ 1024
   · rw [if_pos h2] at g
     obtain ⟨rfl, rfl⟩ := g
     rw [if_pos (by simp; omega)]
     exact ⟨by simp, by omega⟩
   · rw [if_neg h2] at g
     rw [if_neg (by simp; omega)]
     exact g
 · rw [if_neg h1] at h
   rw [if_neg (by simp; omega)]
   rw [if_neg (by omega)] at g
   exact g
theorem cJ.refl {b : Bs} {o d : Int} (h : o ≤ d) : cJ b [] o d 0 b d := by
 unfold cJ
 split
 · exact ⟨by simp, by omega⟩
 · rename_i h1; simp at h1; exact h1
theorem nz (w : World) (t : T) (A : Option Addr) (c : Nat) :
 Calls Tryz.prog 81 #[aB t A c] w fun e w' => e = .returned (.bool (bu t)) ∧ Below w.heap.size w w' := by
 obtain ⟨k, s0, s1, s2, s3, mn, mx, ps⟩ := t
 by_cases k0 : k = 0
 · subst k0
   go_enter Tryz.func81, Tryz.ntmps81
   go_wp2_with fail
   go_ret
   exact ⟨rfl, nal⟩
 by_cases k4 : k = 4
 · subst k4
   go_enter Tryz.func81, Tryz.ntmps81
   go_wp2_with fail
   go_ret
   exact ⟨rfl, nal⟩
 by_cases k5 : k = 5
 · subst k5
   go_enter Tryz.func81, Tryz.ntmps81
   go_wp2_with fail
   go_ret
   exact ⟨rfl, nal⟩
 · go_enter Tryz.func81, Tryz.ntmps81
   go_wp2_with fail
   go_ret
   exact ⟨rfl, nal⟩
theorem cJ.le {b x : Bs} {o d : Int} {k : Nat} {b' : Bs} {d' : Int} (h : cJ b x o d k b' d') (hl : b'.length ≤ 1024) : o ≤ d' := by
 unfold cJ at h
 split at h
 · obtain ⟨_, h⟩ := h; omega
 · omega
theorem cJ.late {b x : Bs} {o d : Int} {k : Nat} (h : 1024 < b.length) : cJ b x o d k b d := by
 unfold cJ
 rw [if_neg (by omega)]
 exact h
theorem cJ.one {b x : Bs} {o d : Int} (h : b.length ≤ 1024 → o ≤ d) : cJ b x o d 0 (b ++ x) d := by
 unfold cJ
 split
 · exact ⟨rfl, by omega⟩
 · simp; omega
theorem cJ.wrap {b x : Bs} {o d : Int} {k : Nat} {b' : Bs} {d' : Int} (h : cJ (b ++ [40]) x (o + 1) (max d (o + 1)) k b' d') : cJ b (iy true x) o d (k + 1) (b' ++ [41]) d' := by
 unfold cJ at h ⊢
 simp only [List.length_append, List.length_cons, List.length_nil, iy, if_true] at h ⊢
 by_cases h1 : b.length + x.length + 2 ≤ 1024
 · rw [if_pos (by omega)] at h
   obtain ⟨rfl, rfl⟩ := h
   rw [if_pos (by omega)]
   exact ⟨by simp, by omega⟩
 · rw [if_neg (by omega)]
   split at h
   · obtain ⟨rfl, _⟩ := h
     simp only [List.length_append, List.length_cons, List.length_nil]; omega
   · omega
theorem ng : ∀ (k : Nat) (l : List Nat), (cf k l).length ≤ 11 * l.length
 | 0, l => by rw [cf]; simp
 | k + 1, [] => by rw [cf]; simp
 | k + 1, c :: t => by
  rw [kO]
  have h1 := ej c
  have h2 := ej (c + dD c t)
  have h3 := ng k (t.drop (dD c t))
  have h4 := lR c t
  simp only [List.length_append, List.length_drop, List.length_cons] at h3 ⊢
  split <;> split <;> simp only [List.length_cons, List.length_nil] <;> omega
theorem va (s : W4) : (lK s).length ≤ 2900 := by
 unfold lK
 have h1 := ng (bc s).length (bc s)
 have h2 := nH s
 split
 · simp
 split
 · simp
 split
 · split <;> simp
 · simp only [List.length_append, List.length_cons, List.length_nil]; omega
theorem qF (m n : Int) : (bH m n).length ≤ 9 := by
 unfold bH
 have h1 := jO m.toNat
 have h2 := jO n.toNat
 repeat' split
 all_goals simp only [List.length_append, List.length_cons, List.length_nil] <;> omega
theorem WAt.cells {B p : Nat} {l : Bs} {o d : Int} {w : World} (h : WAt B p l o d w) : w.cell? ⟨p, 2, none⟩ = some (.int .i64 o) ∧ w.cell? ⟨p, 3, none⟩ = some (.int .i64 d) ∧ w.frozen? ⟨p, 2, none⟩ = false ∧ w.frozen? ⟨p, 3, none⟩ = false := by
 obtain ⟨_, a, v, hb, _⟩ := h
 exact ⟨hb.cells.2.2.1, hb.cells.2.2.2, hb.froz 2, hb.froz 3⟩
theorem WAt.put2 {B p : Nat} {l : Bs} {o d : Int} {w : World} (h : WAt B p l o d w) (o' : Int) : WAt B p l o' d (w.setCell ⟨p, 2, none⟩ (.int .i64 o')) := by
 obtain ⟨h1, a, v, h2, h3, h4, h5⟩ := h
 exact ⟨h1, a, v, h2.put2 _, h3, h4.kept (row := some p) ⟨rfl, rfl, rfl, by simp, fun k _ hk => Below.heap_setCell _ _ _ _ (fun e => hk (by rw [e]))⟩ (Or.inr (iB h4 h2)), h5⟩
theorem WAt.put3 {B p : Nat} {l : Bs} {o d : Int} {w : World} (h : WAt B p l o d w) (d' : Int) : WAt B p l o d' (w.setCell ⟨p, 3, none⟩ (.int .i64 d')) := by
 obtain ⟨h1, a, v, h2, h3, h4, h5⟩ := h
 exact ⟨h1, a, v, h2.put3 _, h3, h4.kept (row := some p) ⟨rfl, rfl, rfl, by simp, fun k _ hk => Below.heap_setCell _ _ _ _ (fun e => hk (by rw [e]))⟩ (Or.inr (iB h4 h2)), h5⟩
theorem WAt.drew {B p : Nat} {l : Bs} {o d : Int} {w : World} (h : WAt B p l o d w) : WAt B p l o d w.drew := h.later (Below.refl _ _).drew
theorem jB {B p : Nat} {l : Bs} {o d : Int} {w : World} (h : WAt B p l o d w) (i : Nat) (v : Value) : Below B w (w.setCell ⟨p, i, none⟩ v) := (Below.refl _ _).setCell (p := ⟨p, i, none⟩) h.1 _
theorem gg {B p : Nat} {l : Bs} {o d : Int} {w W : World} (h : WAt B p l o d w) (hb : Below w.heap.size w W) {k : Nat} (hk : w.heap.size ≤ k) (hz : k < W.heap.size) : dk W p k := by
 have hp := h.lt
 obtain ⟨_, a, v, h2, _, h4, _⟩ := h
 refine ⟨hz, by omega, fun u hu e => ?_⟩
 rw [hb.cell (p := ⟨p, 1, none⟩) hp, h2.cells.2.1] at hu
 cases hu
 have := (h4.lt k e).2
 omega
theorem dk.put {w : World} {p k : Nat} (h : dk w p k) (i : Nat) (hi : i ≠ 1) (v : Value) : dk (w.setCell ⟨p, i, none⟩ v) p k := by
 refine ⟨by simpa using h.1, h.2.1, fun u hu => h.2.2 u ?_⟩
 rw [World.cell?_setCell_other _ _ _ _ (by simp [Ne.symm hi])] at hu
 exact hu
theorem dk.drew {w : World} {p k : Nat} (h : dk w p k) : dk w.drew p k := h
theorem Fr.put {p : Nat} (w : World) (i : Nat) (hi : i ≠ 1) (v : Value) : Fr p w (w.setCell ⟨p, i, none⟩ v) := fun k hk => ⟨Below.heap_setCell _ _ _ _ hk.2.1, hk.put i hi v⟩
theorem WAt.drewF {B p : Nat} {l : Bs} {o d : Int} {w : World} (h : WAt B p l o d w) : Fr p w w.drew := Fr.of_below h.lt (Below.refl _ _).drew
def GW (B p : Nat) (l : Bs) (o d : Int) (x : Bs) (k : Nat) (m : Int) (w : World) (e : Ending) (w' : World) : Prop :=
 ∃ (l' : Bs) (d' : Int), e = .returned (.tuple #[]) ∧ WAt B p l' o d' w' ∧ cJ l x o d k l' d' ∧ (l'.length : Int) ≤ max (l.length : Int) 4000 + m ∧ Below B w w' ∧ Fr p w w'
def ja (t : T) : Prop := ∀ (B p : Nat) (l : Bs) (o d : Int) (w : World) (ok : Nat → Prop) (A : Option Addr) (c : Nat), NodeAt w ok t A c → (∀ b, ok b → b < B) → WAt B p l o d w → B ≤ w.heap.size → ep B w → aC t = true → Words t →
 0 ≤ o → (l.length ≤ 1024 → o ≤ d) → o + aW t ≤ 100000 → max (l.length : Int) 4000 + 16 * aW t ≤ 500000 →
 Calls Tryz.prog 54 #[.pointer (some ⟨p, 0, none⟩), aB t A c] w fun e w' => GW B p l o d (prT t) (ca t) (16 * aW t - 4) w e w'
theorem mg (t : T) (hC : ja t) (so : Bool) (B p : Nat) (l : Bs) (o d : Int) (w : World) (ok : Nat → Prop) (A : Option Addr) (c : Nat) (hN : NodeAt w ok t A c) (hok : ∀ b, ok b → b < B) (h : WAt B p l o d w) (hB : B ≤ w.heap.size) (ht : ep B w) (hr : aC t = true) (hw : Words t)
 (h0 : 0 ≤ o) (hod : l.length ≤ 1024 → o ≤ d) (hon : o + 1 + aW t ≤ 100000) (hl : max (l.length : Int) 4000 + 16 * aW t + 4 ≤ 500000) :
 Calls Tryz.prog 80 #[.pointer (some ⟨p, 0, none⟩), aB t A c, .bool so] w fun e w' => GW B p l o d (iy so (prT t)) (ca t + (if so then 1 else 0)) (16 * aW t - 2) w e w' := by
 have hpos := bK t
 have HN := hid hN; have Hok := hid hok; have H := hid h; have HT := hid ht; have HC := hid hC; have Hr := hid hr; have Hw := hid hw; have Hod := hid hod; have Hl := hid hl; have Hon := hid hon; have Hpos := hid hpos
 clear hN hok h ht hC hr hw hod hl hon hpos
 go_enter Tryz.func80, Tryz.ntmps80
 go_upto_region 1 with fail
 generalize hW : w.alloc _ = W0
 have hB0 : Below w.heap.size w W0 := by subst hW; exact nal
 have h8 : At8 W0 w.heap.size 0 t A c := by subst hW; constructor <;> simp [go_sem]
 have hz : w.heap.size < W0.heap.size := by subst hW; simp
 clear hW
 obtain ⟨f0, f1, f2, f3, f4, f5, f6, f7⟩ := h8
 have HA := hid (H.out.later hB0)
 have HB := hid (hB0.mono hB)
 have hpw := H.out.lt
 have hBz : B ≤ W0.heap.size := by omega
 have HF0 := hid (gg H.out hB0 (Nat.le_refl _) hz)
 have HG := hid (Fr.of_below H.out.lt hB0)
 clear hB0 H
 cases so with
 | false =>
  go_wp2_with fail
  refine (HC.out B p l o d W0 ok A c (HN.out.later HB.out Hok.out) Hok.out HA.out hBz (HT.out.later HB.out) Hr.out Hw.out h0 Hod.out (by have := Hon.out; omega) (by have := Hl.out; omega)).mono ?_
  rintro e w1 ⟨l', d', rfl, hA, hwr, hl', hb, hf⟩
  have HG1 := hid (HG.out.trans hf)
  have HA1 := hid hA; have Hwr := hid hwr; have Hl1 := hid hl'; have HB1 := hid (HB.out.trans hb)
  clear hA hwr hl' hb f0 f1 f2 f3 f4 f5 f6 f7
  go_wp2_with fail
  exact bodyPost_ret (v := .tuple #[]) (by simp [results, Tryz.results80, go_sem]) rfl ⟨l', d', rfl, HA1.out, by simpa [iy] using Hwr.out, by have := Hl1.out; omega, HB1.out, HG1.out⟩
 | true =>
  obtain ⟨c2, c3, y2, y3⟩ := HA.out.cells
  have ho : o + 1 ≤ 100000 := by have := Hon.out; have := Hpos.out; omega
  have hpn : p ≠ w.heap.size := by omega
  go_upto_region 4 with fail
  generalize hW1 : W0.setCell ⟨p, 2, none⟩ _ = W1
  have hA1 : WAt B p l (o + 1) d W1 := by subst hW1; exact HA.out.put2 _
  have hb1 : Below B W0 W1 := by subst hW1; exact jB HA.out _ _
  have HG1 := hid (show Fr p w W1 by subst hW1; exact HG.out.trans (Fr.put _ 2 (by omega) _))
  have HF1 := hid (show dk W1 p w.heap.size by subst hW1; exact HF0.out.put 2 (by omega) _)
  have hk1 : ∀ i, W1.cell? ⟨w.heap.size, i, none⟩ = W0.cell? ⟨w.heap.size, i, none⟩ := fun i => by subst hW1; exact World.cell?_setCell_other _ _ _ _ (by simp [hpn, Ne.symm hpn])
  clear hW1
  obtain ⟨d2, d3, x2, x3⟩ := hA1.cells
  have HA1 := hid hA1; have HB1 := hid (HB.out.trans hb1); have HK1 := hid hk1
  have h8 : At8 W0 w.heap.size 0 t A c := ⟨f0, f1, f2, f3, f4, f5, f6, f7⟩
  have H8 := hid h8
  clear c2 c3 y2 y3 hA1 hb1 hk1 h8 f0 f1 f2 f3 f4 f5 f6 f7
  go_region
  have hA2 : WAt B p l (o + 1) (max d (o + 1)) (W1.setCell ⟨p, 3, none⟩ (.int .i64 (max d (o + 1)))).drew := (HA1.out.put3 _).drew
  have hb2 : Below B W1 (W1.setCell ⟨p, 3, none⟩ (.int .i64 (max d (o + 1)))).drew := (jB HA1.out _ _).drew
  have hk2 : ∀ i, (W1.setCell ⟨p, 3, none⟩ (.int .i64 (max d (o + 1)))).drew.cell? ⟨w.heap.size, i, none⟩ = W1.cell? ⟨w.heap.size, i, none⟩ := fun i => World.cell?_setCell_other W1 _ _ _ (by simp [hpn, Ne.symm hpn])
  have HG2 : Fr p w (W1.setCell ⟨p, 3, none⟩ (.int .i64 (max d (o + 1)))).drew := (HG1.out.trans (Fr.put _ 3 (by omega) _)).trans (HA1.out.put3 _).drewF
  have hF2 : dk (W1.setCell ⟨p, 3, none⟩ (.int .i64 (max d (o + 1)))).drew p w.heap.size := (HF1.out.put 3 (by omega) _).drew
  have hz2 : (W1.setCell ⟨p, 3, none⟩ (.int .i64 (max d (o + 1)))).drew.heap.size = W1.heap.size := by simp
  generalize (W1.setCell ⟨p, 3, none⟩ (.int .i64 (max d (o + 1)))).drew = W2 at *
  have hl0 : l.length ≤ 500000 := by have := Hl.out; have := Hpos.out; omega
  have HG2 := hid HG2; have HF2 := hid hF2; have HA2 := hid hA2; have HB2 := hid (HB1.out.trans hb2); have HK2 := hid (fun i => (hk2 i).trans (HK1.out i)); have HZ2 := hid hz2
  clear hA2 hb2 hk2 hz2 hF2 d2 d3 x2 x3 HA1
  go_wp2_with fail
  refine (bY B p l (o + 1) (max d (o + 1)) W2 HA2.out (by omega) (Nat.le_trans hB HB2.out.size) 40).mono ?_
  rintro e w3 ⟨rfl, hA3, hb3, hf3⟩
  have hF := HF2.out
  have h8 : At8 w3 w.heap.size 0 t A c := H8.out.mono (fun i => (World.cell?_of_block (w := W2) (a := ⟨w.heap.size, i, none⟩) (hf3 _ hF).1).trans (HK2.out i))
  have HG3 := hid (HG2.out.trans hf3); have HA3 := hid hA3; have HB3 := hid (HB2.out.trans hb3)
  clear hA3 hb3 hf3 hF
  obtain ⟨f0, f1, f2, f3, f4, f5, f6, f7⟩ := h8
  go_wp2_with fail
  refine (HC.out B p (l ++ [40]) (o + 1) (max d (o + 1)) w3 ok A c (HN.out.later HB3.out Hok.out) Hok.out HA3.out (Nat.le_trans hB HB3.out.size) (HT.out.later HB3.out) Hr.out Hw.out (by omega) (fun _ => by omega) (by have := Hon.out; omega) (by have := Hl.out; simp; omega)).mono ?_
  rintro e w4 ⟨l', d', rfl, hA4, hwr, hl4, hb4, hf4⟩
  have HG4 := hid (HG3.out.trans hf4)
  have HA4 := hid hA4; have HB4 := hid (HB3.out.trans hb4); have Hwr := hid hwr.wrap
  have hl4' : l'.length ≤ 500000 := by have := Hl.out; simp at hl4; omega
  have Hl4 := hid hl4
  clear hA4 hb4 hwr hl4 f0 f1 f2 f3 f4 f5 f6 f7
  go_wp2_with fail
  refine (bY B p l' (o + 1) d' w4 HA4.out (by omega) (Nat.le_trans hB HB4.out.size) 41).mono ?_
  rintro e w5 ⟨rfl, hA5, hb5, hf5⟩
  have HG5 := hid (HG4.out.trans hf5)
  obtain ⟨c2, c3, y2, y3⟩ := hA5.cells
  have HA5 := hid hA5; have HB5 := hid (HB4.out.trans hb5)
  clear hA5 hb5
  go_wp2_with fail
  go_end0
  refine ⟨l' ++ [41], d', rfl, ?_, Hwr.out, by have := Hl4.out; simp at this ⊢; omega, HB5.out.trans (jB HA5.out _ _), HG5.out.trans (Fr.put _ 2 (by omega) _)⟩
  have := HA5.out.put2 o
  first
   | exact this
   | simpa using this
theorem gR (t : T) (B p : Nat) (l : Bs) (o d : Int) (w : World) (A : Option Addr) (c : Nat) (h : WAt B p l o d w) (hB : B ≤ w.heap.size) (hl : 1024 < l.length) (x : Bs) (k : Nat) (m : Int) (hm : 0 ≤ m) :
 Calls Tryz.prog 54 #[.pointer (some ⟨p, 0, none⟩), aB t A c] w fun e w' => GW B p l o d x k m w e w' := by
 have H := hid h; clear h
 go_enter Tryz.func54, Tryz.ntmps54
 go_upto_region 1 with fail
 generalize hW : w.alloc _ = W0
 have hB0 : Below w.heap.size w W0 := by subst hW; exact nal
 clear hW
 have HA := hid (H.out.later hB0)
 have HB := hid (hB0.mono hB)
 have HG := hid (Fr.of_below H.out.lt hB0)
 clear hB0 H
 go_wp2_with fail
 refine (ek B p l o d W0 HA.out).mono ?_
 rintro e w1 ⟨rfl, rfl⟩
 go_wp2_with fail
 exact bodyPost_ret (v := .tuple #[]) (by simp [results, Tryz.results54, go_sem]) rfl ⟨l, d, rfl, HA.out, cJ.late hl, by omega, HB.out, HG.out⟩
theorem gQ (t : T) (hk : t.k = 0 ∨ t.k = 1 ∨ t.k = 2 ∨ t.k = 3) : ja t := by
 intro B p l o d w ok A c hN hok h hB ht hr hw h0 hod hon hl
 have hpos := bK t
 by_cases hlt : 1024 < l.length
 · exact gR t B p l o d w A c h hB hlt _ _ _ (by omega)
 have H := hid h; have Hw := hid hw.w
 have hod' := hod (by omega)
 have Hpr := hid (dQ t)
 have Hdp := hid (dM t)
 clear hN hok h ht hr hw hod hon hl
 go_enter Tryz.func54, Tryz.ntmps54
 go_upto_region 1 with fail
 generalize hW : w.alloc _ = W0
 have hB0 : Below w.heap.size w W0 := by subst hW; exact nal
 have h8 : At8 W0 w.heap.size 0 t A c := by subst hW; constructor <;> simp [go_sem]
 have hz : w.heap.size < W0.heap.size := by subst hW; simp
 clear hW
 obtain ⟨f0, f1, f2, f3, f4, f5, f6, f7⟩ := h8
 have HA := hid (H.out.later hB0)
 have HB := hid (hB0.mono hB)
 have HG := hid (Fr.of_below H.out.lt hB0)
 clear hB0 H f5 f6 f7
 have Hpos := hid hpos; clear hpos
 go_wp2_with fail
 refine (ek B p l o d W0 HA.out).mono ?_
 rintro e w1 ⟨rfl, rfl⟩
 rcases hk with hk | hk | hk | hk
 · have hp := hid (show prT t = [] by rw [Hpr.out, hk]; simp)
   have hdp := hid (show ca t = 0 by rw [Hdp.out, hk]; simp)
   clear Hpr Hdp
   go_wp2_with fail
   go_end0
   exact ⟨l, d, rfl, HA.out, by rw [hp.out, hdp.out]; exact cJ.refl hod', by have := Hpos.out; omega, HB.out, HG.out⟩
 · have hp := hid (show prT t = lK t.w4 by rw [Hpr.out, if_pos hk])
   have hdp := hid (show ca t = 0 by rw [Hdp.out, hk]; simp)
   clear Hpr Hdp
   have hs := va t.w4
   go_wp2_with fail
   refine (uR B p l o d w1 HA.out (by omega) (Nat.le_trans hB HB.out.size) t.w4 Hw.out).mono ?_
   rintro e w2 ⟨rfl, hA2, hb2, hf2⟩
   have HA2 := hid hA2; have HB2 := hid (HB.out.trans hb2); have HG2 := hid (HG.out.trans hf2)
   clear hA2 hb2
   go_wp2_with fail
   go_end0
   exact ⟨_, d, rfl, HA2.out, by rw [hp.out, hdp.out]; exact cJ.one (fun _ => hod'), by have := Hpos.out; simp; omega, HB2.out, HG2.out⟩
 · have hp := hid (show prT t = [94] by rw [Hpr.out, hk]; simp)
   have hdp := hid (show ca t = 0 by rw [Hdp.out, hk]; simp)
   clear Hpr Hdp
   go_wp2_with fail
   refine (bY B p l o d w1 HA.out (by omega) (Nat.le_trans hB HB.out.size) 94).mono ?_
   rintro e w2 ⟨rfl, hA2, hb2, hf2⟩
   have HA2 := hid hA2; have HB2 := hid (HB.out.trans hb2); have HG2 := hid (HG.out.trans hf2)
   clear hA2 hb2
   go_wp2_with fail
   go_end0
   exact ⟨_, d, rfl, HA2.out, by rw [hp.out, hdp.out]; exact cJ.one (fun _ => hod'), by have := Hpos.out; simp; omega, HB2.out, HG2.out⟩
 · have hp := hid (show prT t = [36] by rw [Hpr.out, hk]; simp)
   have hdp := hid (show ca t = 0 by rw [Hdp.out, hk]; simp)
   clear Hpr Hdp
   go_wp2_with fail
   refine (bY B p l o d w1 HA.out (by omega) (Nat.le_trans hB HB.out.size) 36).mono ?_
   rintro e w2 ⟨rfl, hA2, hb2, hf2⟩
   have HA2 := hid hA2; have HB2 := hid (HB.out.trans hb2); have HG2 := hid (HG.out.trans hf2)
   clear hA2 hb2
   go_wp2_with fail
   go_end0
   exact ⟨_, d, rfl, HA2.out, by rw [hp.out, hdp.out]; exact cJ.one (fun _ => hod'), by have := Hpos.out; simp; omega, HB2.out, HG2.out⟩
theorem qZ (p : T) (ps : List T) : cl (p :: ps) = iy (bu p) (prT p) ++ cl ps := by rw [cl]
theorem nU (p : T) (ps : List T) : bC (p :: ps) = max (ca p + (if bu p then 1 else 0)) (bC ps) := by rw [bC]
theorem vt (t : T) (hk : t.k = 4) (ih : ∀ p ∈ t.ps, ja p) : ja t := by
 intro B p l o d w ok A c hN hok h hB ht hr hw h0 hod hon hl
 have hpos := bK t
 by_cases hlt : 1024 < l.length
 · exact gR t B p l o d w A c h hB hlt _ _ _ (by omega)
 have hlen := hN.len
 have hod' := hod (by omega)
 have hpr : prT t = cl t.ps := by rw [dQ, hk]; simp
 have hdp : ca t = bC t.ps := by rw [dM, hk]; simp
 have hnn : aW t = 1 + az t.ps := eE t
 rw [hpr, hdp]
 have H := hid h; have HT := hid ht; have HN := hid hN; have Hok := hid hok
 have Hps := hid (aO hr)
 have Hwp := hid hw.p
 have Hl := hid (show max (l.length : Int) 4000 + 16 * (1 + az t.ps) ≤ 500000 by omega)
 have Hon := hid (show o + (1 + az t.ps) ≤ 100000 by omega)
 have Hnn := hid hnn
 have Hih := hid ih
 clear hN hok h ht hr hw hod hon hl hpr hdp hnn ih hpos
 go_enter Tryz.func54, Tryz.ntmps54
 go_upto_region 1 with fail
 generalize hW : w.alloc _ = W0
 have hB0 : Below w.heap.size w W0 := by subst hW; exact nal
 have h8 : At8 W0 w.heap.size 0 t A c := by subst hW; constructor <;> simp [go_sem, hk]
 clear hW
 obtain ⟨f0, f1, f2, f3, f4, f5, f6, f7⟩ := h8
 have HA := hid (H.out.later hB0)
 have HB := hid (hB0.mono hB)
 have HG := hid (Fr.of_below H.out.lt hB0)
 have hbz : w.heap.size ≤ W0.heap.size := hB0.size
 clear hB0 H f1 f2 f3 f4 f5 f6
 go_wp2_with fail
 refine (ek B p l o d W0 HA.out).mono ?_
 rintro e w1 ⟨rfl, rfl⟩
 go_wp2_with fail
 go_loopg [38] (t.ps.length) (fun k i wr => ∃ (j : Nat) (l' X : Bs) (d' : Int) (K : Nat) (S : Int), i = .int .i64 j ∧ j + k = t.ps.length ∧ WAt B p l' o d' wr ∧ cJ l X o d K l' d' ∧ X ++ cl (t.ps.drop j) = cl t.ps ∧ max K (bC (t.ps.drop j)) = bC t.ps ∧ S + az (t.ps.drop j) = az t.ps ∧ 0 ≤ S ∧ (l'.length : Int) ≤ max (l.length : Int) 4000 + 16 * S ∧ Below B w wr ∧ Fr p w wr)
 case atStart => exact ⟨0, l, [], d, 0, 0, rfl, by omega, HA.out, cJ.refl hod', rfl, by simp, by simp, by omega, by omega, HB.out, HG.out⟩
 case round =>
  obtain ⟨j, l', X, d', K, S, rfl, hj, hA, hwr, hX, hK, hS, hS0, hll, hBr, hGr⟩ := hrel
  have HGr := hid hGr
  have HAr := hid hA; have Hwr := hid hwr; have HX := hid hX; have HK := hid hK; have HS := hid hS; have Hll := hid hll; have HBr := hid hBr
  clear hA hwr hX hK hS hll hBr HA HB f0 f7
  by_cases hjl : j < t.ps.length
  · obtain ⟨b, ob, rfl, hb, hcell⟩ := HN.out.part (by omega)
    obtain ⟨A', c', h8, hNj⟩ := hcell j hjl
    have hmem := List.getElem_mem hjl
    have HCj := hid (Hih.out _ hmem)
    have Hrj := hid (Hps.out _ hmem)
    have Hwj := hid (Hwp.out _ hmem)
    have HNj := hid (hNj.later HBr.out Hok.out)
    obtain ⟨f0, f1, f2, f3, f4, f5, f6, f7⟩ := h8.mono (w' := wr) (fun o => HBr.out.cell (p := ⟨b, o, none⟩) (Hok.out b hb))
    have Hd := hid (bI hjl)
    have hbw : b < wr.heap.size := by have := Hok.out b hb; have := HBr.out.size; omega
    clear hcell hNj h8 hmem
    generalize t.ps[j] = q at *
    have hq := bK q
    have hrest := eJ (t.ps.drop (j + 1)) (fun q _ => bK q)
    have hSq : S + aW q + az (t.ps.drop (j + 1)) = az t.ps := by rw [← HS.out, Hd.out, az]; omega
    have HSq := hid hSq; have Hrest := hid hrest; have Hq := hid hq
    clear hSq hrest hq
    go_upto_region 13 with fail
    generalize hW : wr.alloc _ = W1
    have hb1 : Below wr.heap.size wr W1 := by subst hW; exact nal
    have h8 : At8 W1 wr.heap.size 0 q A' c' := by subst hW; constructor <;> simp [go_sem]
    clear hW
    obtain ⟨g0, g1, g2, g3, g4, g5, g6, g7⟩ := h8
    have HA1 := hid ((HAr.out.later hb1).drew)
    have HB1 := hid ((HBr.out.trans (hb1.mono (Nat.le_trans hB HBr.out.size))).drew)
    have HN1 := hid (HNj.out.later (B := wr.heap.size) hb1.drew (fun b' h => by have := Hok.out b' h; have := HBr.out.size; omega))
    have HG1 := hid (HGr.out.trans (Fr.of_below HAr.out.lt hb1.drew))
    have hbz1 : wr.heap.size < W1.heap.size := World.block_lt_of_cell? _ _ g0
    clear hb1 f0 f1 f2 f3 f4 f5 f6 f7 HAr HBr HNj
    have h8 : At8 W1.drew wr.heap.size 0 q A' c' := ⟨g0, g1, g2, g3, g4, g5, g6, g7⟩
    have H8 := hid h8
    clear h8
    have hbz2 : wr.heap.size < W1.drew.heap.size := hbz1
    go_region_with (first
     | (go_at_call 81
        refine (nz _ q A' c').mono ?_
        rintro e w2 ⟨rfl, hb2⟩
        have HA2 := hid (HA1.out.later hb2)
        have HB2 := hid (HB1.out.trans (hb2.mono (Nat.le_trans hB HB1.out.size)))
        have HG2 := hid (HG1.out.trans (Fr.of_below HA1.out.lt hb2))
        have HN2 := hid (HN1.out.later hb2 (fun b' h => by have := Hok.out b' h; have := HB1.out.size; omega))
        obtain ⟨m0, m1, m2, m3, m4, m5, m6, m7⟩ := H8.out.mono (w' := w2) (fun o => hb2.cell (p := ⟨wr.heap.size, o, none⟩) hbz2)
        clear hb2)
     | (go_at_call 80
        refine (mg q HCj.out (bu q) B p l' o d' w2 ok A' c' HN2.out Hok.out HA2.out (Nat.le_trans hB HB2.out.size) (HT.out.later HB2.out) Hrj.out Hwj.out h0 (fun hh => Hwr.out.le hh) (by have := Hon.out; have := HSq.out; have := Hrest.out; omega) (by have := Hl.out; have := HSq.out; have := Hrest.out; have := Hll.out; omega)).mono ?_
        rintro e w3 ⟨l2, d2, rfl, hA3, hwr3, hl3, hb3, hf3⟩))
    all_goals
     have HG3 := hid (HG2.out.trans hf3)
     have HA3 := hid hA3; have Hwr3 := hid (Hwr.out.trans hwr3); have HB3 := hid (HB2.out.trans hb3); have Hl3 := hid hl3
     clear hA3 hwr3 hb3 hl3 HA2 HB2 HN2 HA1 HB1 HN1 H8 m0 m1 m2 m3 m4 m5 m6 m7 g0 g1 g2 g3 g4 g5 g6 g7
     go_wp2_with fail
     go_roundg (gk - 1)
     case measure => omega
     case rel => exact ⟨j + 1, l2, X ++ iy (bu q) (prT q), d2, max K (ca q + (if bu q then 1 else 0)), S + aW q, by go_num, by omega, HA3.out, Hwr3.out, by rw [← HX.out, Hd.out, qZ, List.append_assoc], by rw [← HK.out, Hd.out, nU]; omega, HSq.out, by have := Hq.out; omega, by have := Hl3.out; have := Hll.out; have := Hq.out; omega, HB3.out, HG3.out⟩
  · have hj0 : j = t.ps.length := by omega
    have hdr : t.ps.drop j = [] := List.drop_of_length_le (by omega)
    have hXe : X = cl t.ps := by rw [← HX.out, hdr]; simp [cl]
    have hKe : K = bC t.ps := by rw [← HK.out, hdr]; simp [bC]
    have hSe : S = az t.ps := by rw [← HS.out, hdr, az]; omega
    have HXe := hid hXe; have HKe := hid hKe; have HSe := hid hSe
    clear hdr hXe hKe hSe HX HK HS
    go_wp2_with fail
    go_end0
    exact ⟨l', d', rfl, HAr.out, by rw [← HXe.out, ← HKe.out]; exact Hwr.out, by have := Hll.out; have := HSe.out; have := Hnn.out; omega, HBr.out, HGr.out⟩
def xY (ps : List T) (j : Nat) : Bs := if j = 0 then lN ps else gZ (ps.drop j)
theorem iH (p : T) (ps : List T) : de (p :: ps) = max (ca p + (if p.k == 5 then 1 else 0)) (de ps) := by rw [de]
theorem uI {ps : List T} {j : Nat} {q : T} (h : j < ps.length) (hd : ps.drop j = q :: ps.drop (j + 1)) : xY ps j = (if j = 0 then [] else [124]) ++ (iy (q.k == 5) (prT q) ++ xY ps (j + 1)) := by
 unfold xY
 rw [if_neg (show ¬ j + 1 = 0 by omega)]
 by_cases hj : j = 0
 · subst hj
   rw [if_pos rfl, if_pos rfl]
   rw [List.drop_zero] at hd
   rw [hd]
   simp [lN]
 · rw [if_neg hj, if_neg hj, hd, gZ]
theorem vw (t : T) (hk : t.k = 5) (ih : ∀ p ∈ t.ps, ja p) : ja t := by
 intro B p l o d w ok A c hN hok h hB ht hr hw h0 hod hon hl
 have hpos := bK t
 by_cases hlt : 1024 < l.length
 · exact gR t B p l o d w A c h hB hlt _ _ _ (by omega)
 have hlen := hN.len
 have hod' := hod (by omega)
 have hpr : prT t = lN t.ps := by rw [dQ, hk]; simp
 have hdp : ca t = de t.ps := by rw [dM, hk]; simp
 have hnn : aW t = 1 + az t.ps := eE t
 rw [hpr, hdp]
 have H := hid h; have HT := hid ht; have HN := hid hN; have Hok := hid hok
 have Hps := hid (aO hr)
 have Hwp := hid hw.p
 have Hl := hid (show max (l.length : Int) 4000 + 16 * (1 + az t.ps) ≤ 500000 by omega)
 have Hon := hid (show o + (1 + az t.ps) ≤ 100000 by omega)
 have Hnn := hid hnn
 have Hih := hid ih
 have Hl2 : 2 ≤ t.ps.length := by rcases aJ hr with h | h | h | h | h | h | h <;> omega
 clear hN hok h ht hr hw hod hon hl hpr hdp hnn ih hpos
 go_enter Tryz.func54, Tryz.ntmps54
 go_upto_region 1 with fail
 generalize hW : w.alloc _ = W0
 have hB0 : Below w.heap.size w W0 := by subst hW; exact nal
 have h8 : At8 W0 w.heap.size 0 t A c := by subst hW; constructor <;> simp [go_sem, hk]
 clear hW
 obtain ⟨f0, f1, f2, f3, f4, f5, f6, f7⟩ := h8
 have HA := hid (H.out.later hB0)
 have HB := hid (hB0.mono hB)
 have HG := hid (Fr.of_below H.out.lt hB0)
 have hbz : w.heap.size ≤ W0.heap.size := hB0.size
 clear hB0 H f1 f2 f3 f4 f5 f6
 go_wp2_with fail
 refine (ek B p l o d W0 HA.out).mono ?_
 rintro e w1 ⟨rfl, rfl⟩
 go_wp2_with fail
 go_loopg [53] (t.ps.length) (fun k i wr => ∃ (j : Nat) (l' X : Bs) (d' : Int) (K : Nat) (S : Int), i = .int .i64 j ∧ j + k = t.ps.length ∧ WAt B p l' o d' wr ∧ cJ l X o d K l' d' ∧ X ++ xY t.ps j = lN t.ps ∧ max K (de (t.ps.drop j)) = de t.ps ∧ S + az (t.ps.drop j) = az t.ps ∧ 0 ≤ S ∧ (l'.length : Int) ≤ max (l.length : Int) 4000 + 16 * S ∧ Below B w wr ∧ Fr p w wr)
 case atStart => exact ⟨0, l, [], d, 0, 0, rfl, by omega, HA.out, cJ.refl hod', rfl, by simp, by simp, by omega, by omega, HB.out, HG.out⟩
 case round =>
  obtain ⟨j, l', X, d', K, S, rfl, hj, hA, hwr, hX, hK, hS, hS0, hll, hBr, hGr⟩ := hrel
  have HGr := hid hGr
  have HAr := hid hA; have Hwr := hid hwr; have HX := hid hX; have HK := hid hK; have HS := hid hS; have Hll := hid hll; have HBr := hid hBr
  clear hA hwr hX hK hS hll hBr HA HB f0 f7
  by_cases hjl : j < t.ps.length
  · obtain ⟨b, ob, rfl, hb, hcell⟩ := HN.out.part (by omega)
    obtain ⟨A', c', h8, hNj⟩ := hcell j hjl
    have hmem := List.getElem_mem hjl
    have HCj := hid (Hih.out _ hmem)
    have Hrj := hid (Hps.out _ hmem)
    have Hwj := hid (Hwp.out _ hmem)
    have HNj := hid (hNj.later HBr.out Hok.out)
    have hcellW : ∀ W, Below B w W → NodeAt W ok t.ps[j] A' c' := fun W hW => hNj.later hW Hok.out
    obtain ⟨f0, f1, f2, f3, f4, f5, f6, f7⟩ := h8.mono (w' := wr) (fun o => HBr.out.cell (p := ⟨b, o, none⟩) (Hok.out b hb))
    have Hd := hid (bI hjl)
    have hbw : b < wr.heap.size := by have := Hok.out b hb; have := HBr.out.size; omega
    have hlen2 : 2 ≤ t.ps.length := Hl2
    clear hcell hNj h8 hmem
    generalize t.ps[j] = q at *
    have hq := bK q
    have hrest := eJ (t.ps.drop (j + 1)) (fun q _ => bK q)
    have hSq : S + aW q + az (t.ps.drop (j + 1)) = az t.ps := by rw [← HS.out, Hd.out, az]; omega
    have HSq := hid hSq; have Hrest := hid hrest; have Hq := hid hq
    clear hSq hrest hq
    go_upto_region 19 with fail
    generalize hW : wr.alloc _ = W1
    have hb1 : Below wr.heap.size wr W1 := by subst hW; exact nal
    have h8 : At8 W1 wr.heap.size 0 q A' c' := by subst hW; constructor <;> simp [go_sem]
    clear hW
    have HA1 := hid (HAr.out.later hb1)
    have HB1 := hid (HBr.out.trans (hb1.mono (Nat.le_trans hB HBr.out.size)))
    have HN1 := hid (HNj.out.later (B := wr.heap.size) hb1 (fun b' h => by have := Hok.out b' h; have := HBr.out.size; omega))
    have HG1 := hid (HGr.out.trans (Fr.of_below HAr.out.lt hb1))
    have hbz1 : wr.heap.size < W1.heap.size := World.block_lt_of_cell? _ _ h8.f0
    have HF1 := hid (gg HAr.out hb1 (Nat.le_refl _) hbz1)
    have HRest := hid (uI hjl Hd.out)
    have H8 := hid h8
    clear hb1 f0 f1 f2 f3 f4 f5 f6 f7 HAr HBr HNj h8
    have hll0 : l'.length ≤ 500000 := by have := Hq.out; have := Hl.out; have := HSq.out; have := Hrest.out; have := Hll.out; omega
    have part : ∀ (W : World) (m : Bs) (Y : Bs), WAt B p m o d' W → Below B w W → Fr p w W → cJ l Y o d K m d' → (m.length : Int) ≤ max (l.length : Int) 4000 + 16 * S + 1 → ∀ so, Calls Tryz.prog 80 #[.pointer (some ⟨p, 0, none⟩), aB q A' c', .bool so] W fun e w' => ∃ l2 d2, e = .returned (.tuple #[]) ∧ WAt B p l2 o d2 w' ∧ cJ l (Y ++ iy so (prT q)) o d (max K (ca q + (if so then 1 else 0))) l2 d2 ∧ (l2.length : Int) ≤ max (l.length : Int) 4000 + 16 * (S + aW q) ∧ Below B w w' ∧ Fr p w w' := fun W m Y hA hBW hGW hwm hmm so => by
     have hNW := HN1.out
     refine (mg q HCj.out so B p m o d' W ok A' c' (hcellW W hBW) Hok.out hA (Nat.le_trans hB hBW.size) (HT.out.later hBW) Hrj.out Hwj.out h0 (fun hh => hwm.le hh) (by have := Hon.out; have := HSq.out; have := Hrest.out; omega) (by have := Hl.out; have := HSq.out; have := Hrest.out; omega)).mono ?_
     rintro e w3 ⟨l2, d2, rfl, hA3, hwr3, hl3, hb3, hf3⟩
     exact ⟨l2, d2, rfl, hA3, hwm.trans hwr3, by have := Hq.out; omega, hBW.trans hb3, hGW.trans hf3⟩
    have Part := hid part
    clear part
    by_cases hj0 : j = 0
    · subst hj0
      obtain ⟨g0, g1, g2, g3, g4, g5, g6, g7⟩ := H8.out
      go_wp2_with fail
      refine (Part.out W1 l' X HA1.out HB1.out HG1.out Hwr.out (by have := Hll.out; omega) (q.k == 5)).mono ?_
      rintro e w3 ⟨l2, d2, rfl, hA3, hwr3, hl3, hb3, hf3⟩
      have HG3 := hid hf3
      have HA3 := hid hA3; have Hwr3 := hid hwr3; have HB3 := hid hb3; have Hl3 := hid hl3
      clear hA3 hwr3 hb3 hl3 HA1 HB1 HN1 H8 g0 g1 g2 g3 g4 g5 g6 g7 Part HF1
      go_wp2_with fail
      go_roundg (gk - 1)
      case measure => omega
      case rel => exact ⟨0 + 1, l2, X ++ iy (q.k == 5) (prT q), d2, max K (ca q + (if q.k == 5 then 1 else 0)), S + aW q, by go_num, by omega, HA3.out, Hwr3.out, by rw [← HX.out, HRest.out]; simp, by rw [← HK.out, Hd.out, iH]; omega, HSq.out, by have := Hq.out; omega, Hl3.out, HB3.out, HG3.out⟩
    · have hjp : (0 : Int) < (j : Int) := by omega
      go_wp2_with fail
      refine (bY B p l' o d' W1 HA1.out (by omega) (Nat.le_trans hB HB1.out.size) 124).mono ?_
      rintro e w2 ⟨rfl, hA2, hb2, hf2⟩
      have h8 : At8 w2 wr.heap.size 0 q A' c' := H8.out.mono (fun i => World.cell?_of_block (w := W1) (a := ⟨wr.heap.size, i, none⟩) (hf2 _ HF1.out).1)
      have HG2 := hid (HG1.out.trans hf2); have HA2 := hid hA2; have HB2 := hid (HB1.out.trans hb2)
      have Hwr2 := hid (Hwr.out.trans (cJ.one (x := [124]) (fun hh => Hwr.out.le hh)))
      clear hA2 hb2 hf2 HA1 HB1
      obtain ⟨g0, g1, g2, g3, g4, g5, g6, g7⟩ := h8
      go_wp2_with fail
      refine (Part.out w2 (l' ++ [124]) (X ++ [124]) HA2.out HB2.out HG2.out (by have := Hwr2.out; simpa using this) (by have := Hll.out; simp; omega) (q.k == 5)).mono ?_
      rintro e w3 ⟨l2, d2, rfl, hA3, hwr3, hl3, hb3, hf3⟩
      have HG3 := hid hf3
      have HA3 := hid hA3; have Hwr3 := hid hwr3; have HB3 := hid hb3; have Hl3 := hid hl3
      clear hA3 hwr3 hb3 hl3 HA2 HB2 HN1 H8 g0 g1 g2 g3 g4 g5 g6 g7 Part HF1
      go_wp2_with fail
      go_roundg (gk - 1)
      case measure => omega
      case rel => exact ⟨j + 1, l2, X ++ [124] ++ iy (q.k == 5) (prT q), d2, max K (ca q + (if q.k == 5 then 1 else 0)), S + aW q, by go_num, by omega, HA3.out, Hwr3.out, by rw [← HX.out, HRest.out, if_neg hj0]; simp, by rw [← HK.out, Hd.out, iH]; omega, HSq.out, by have := Hq.out; omega, Hl3.out, HB3.out, HG3.out⟩
  · have hj0 : j = t.ps.length := by omega
    have hdr : t.ps.drop j = [] := List.drop_of_length_le (by omega)
    have hXe : X = lN t.ps := by rw [← HX.out, xY, if_neg (by omega), hdr]; simp [gZ]
    have hKe : K = de t.ps := by rw [← HK.out, hdr]; simp [de]
    have hSe : S = az t.ps := by rw [← HS.out, hdr, az]; omega
    have HXe := hid hXe; have HKe := hid hKe; have HSe := hid hSe
    clear hdr hXe hKe hSe HX HK HS
    go_wp2_with fail
    go_end0
    exact ⟨l', d', rfl, HAr.out, by rw [← HXe.out, ← HKe.out]; exact Hwr.out, by have := Hll.out; have := HSe.out; have := Hnn.out; omega, HBr.out, HGr.out⟩
theorem vq {l : List T} (h : l.length = 1) (h0 : 0 < l.length) : l = [l[0]] := by
 match l, h with
 | [q], _ => rfl
theorem ra (q : T) : gn [q] = iy (bu q) (prT q) := by rw [gn]
theorem nV (q : T) : dN [q] = ca q + (if bu q then 1 else 0) := by rw [dN]
theorem ri (q : T) : az [q] = aW q := by rw [az, az]; omega
theorem vu (t : T) (hk : t.k = 6) (ih : ∀ p ∈ t.ps, ja p) : ja t := by
 intro B p l o d w ok A c hN hok h hB ht hr hw h0 hod hon hl
 have hpos := bK t
 by_cases hlt : 1024 < l.length
 · exact gR t B p l o d w A c h hB hlt _ _ _ (by omega)
 have hlen := hN.len
 have hod' := hod (by omega)
 have hpr : prT t = gn t.ps ++ bH t.mn t.mx := by rw [dQ, hk]; simp
 have hdp : ca t = dN t.ps := by rw [dM, hk]; simp
 have hcs : t.ps.length = 1 ∧ 0 ≤ t.mn ∧ t.mn ≤ 255 ∧ t.mx ≤ 255 ∧ -1 ≤ t.mx := by rcases aJ hr with h | h | h | h | h | h | h <;> omega
 obtain ⟨hl1, m0, m1, m2, m3⟩ := hcs
 have Hl1 := hid hl1
 have hl0 : 0 < t.ps.length := by omega
 clear hl1
 have hnn : aW t = 1 + az t.ps := eE t
 rw [hpr, hdp]
 have H := hid h; have HT := hid ht; have HN := hid hN; have Hok := hid hok
 have Hps := hid (aO hr)
 have Hwp := hid hw.p
 have Hl := hid (show max (l.length : Int) 4000 + 16 * (1 + az t.ps) ≤ 500000 by omega)
 have Hon := hid (show o + (1 + az t.ps) ≤ 100000 by omega)
 have Hnn := hid hnn
 have Hih := hid ih
 clear hN hok h ht hr hw hod hon hl hpr hdp hnn ih hpos
 go_enter Tryz.func54, Tryz.ntmps54
 go_upto_region 1 with fail
 generalize hW : w.alloc _ = W0
 have hB0 : Below w.heap.size w W0 := by subst hW; exact nal
 have h8 : At8 W0 w.heap.size 0 t A c := by subst hW; constructor <;> simp [go_sem, hk]
 clear hW
 obtain ⟨f0, f1, f2, f3, f4, f5, f6, f7⟩ := h8
 have HA := hid (H.out.later hB0)
 have HB := hid (hB0.mono hB)
 have HG := hid (Fr.of_below H.out.lt hB0)
 have HFo := hid (gg H.out hB0 (Nat.le_refl _) (by have := World.block_lt_of_cell? _ _ f0; exact this))
 have hbz : w.heap.size ≤ W0.heap.size := hB0.size
 clear hB0 H f1 f2 f3 f4
 go_wp2_with fail
 refine (ek B p l o d W0 HA.out).mono ?_
 rintro e w1 ⟨rfl, rfl⟩
 obtain ⟨b, ob, rfl, hb, hcell⟩ := HN.out.part (by omega)
 obtain ⟨A', c', h8, hNj⟩ := hcell 0 (by omega)
 have hmem := List.getElem_mem (show 0 < t.ps.length by omega)
 have HCj := hid (Hih.out _ hmem)
 have Hrj := hid (Hps.out _ hmem)
 have Hwj := hid (Hwp.out _ hmem)
 have HNj := hid (hNj.later HB.out Hok.out)
 obtain ⟨e0, e1, e2, e3, e4, e5, e6, e7⟩ := h8.mono (w' := w1) (fun o => HB.out.cell (p := ⟨b, o, none⟩) (Hok.out b hb))
 simp only [Nat.zero_mul, Nat.add_zero] at e0 e1 e2 e3 e4 e5 e6 e7
 have hps : t.ps = [t.ps[0]] := vq Hl1.out hl0
 have hprh : gn t.ps = iy (bu t.ps[0]) (prT t.ps[0]) := (congrArg gn hps).trans (ra _)
 have hdh : dN t.ps = ca t.ps[0] + (if bu t.ps[0] then 1 else 0) := (congrArg dN hps).trans (nV _)
 have hnl : az t.ps = aW t.ps[0] := (congrArg az hps).trans (ri _)
 have Hprh := hid hprh; have Hdh := hid hdh; have Hnl := hid hnl
 clear hcell hNj h8 hmem hps hprh hdh hnl
 generalize t.ps[0] = q at *
 have hq := bK q
 have Hq := hid hq; clear hq
 have hw1z : w.heap.size < w1.heap.size := World.block_lt_of_cell? _ _ f0
 have ht1 := qF t.mn t.mx
 have hbw : b < w1.heap.size := by have := Hok.out b hb; have := HB.out.size; omega
 go_upto_region 24 with fail
 have HA1 := hid HA.out.drew
 have HB1 := hid HB.out.drew
 have HG1 := hid (HG.out.trans HA.out.drewF)
 have HF1 := hid (HA.out.drewF _ HFo.out).2
 have HN1 := hid (HNj.out.later (B := w1.heap.size) (Below.refl _ _).drew (fun b' h => by have := Hok.out b' h; have := HB.out.size; omega))
 have x7 : w1.drew.cell? ⟨w.heap.size, 7, none⟩ = some (.slice (some ⟨b, ob, none⟩) t.ps.length c) := f7
 go_region_with (first
  | (go_at_call 81
     refine (nz _ q A' c').mono ?_
     rintro e w2 ⟨rfl, hb2⟩
     have HA2 := hid (HA1.out.later hb2)
     have HB2 := hid (HB1.out.trans (hb2.mono (Nat.le_trans hB HB1.out.size)))
     have HG2 := hid (HG1.out.trans (Fr.of_below HA1.out.lt hb2))
     have HF2 := hid (Fr.of_below HA1.out.lt hb2 _ HF1.out).2
     have HN2 := hid (HN1.out.later hb2 (fun b' h => by have := Hok.out b' h; have := HB1.out.size; omega))
     have m7 : w2.cell? ⟨w.heap.size, 7, none⟩ = some (.slice (some ⟨b, ob, none⟩) t.ps.length c) := (hb2.cell (p := ⟨w.heap.size, 7, none⟩) hw1z).trans f7
     have n0 := (hb2.cell (p := ⟨b, ob, none⟩) hbw).trans e0
     have n1 := (hb2.cell (p := ⟨b, ob + 1, none⟩) hbw).trans e1
     have n2 := (hb2.cell (p := ⟨b, ob + 2, none⟩) hbw).trans e2
     have n3 := (hb2.cell (p := ⟨b, ob + 3, none⟩) hbw).trans e3
     have n4 := (hb2.cell (p := ⟨b, ob + 4, none⟩) hbw).trans e4
     have n5 := (hb2.cell (p := ⟨b, ob + 5, none⟩) hbw).trans e5
     have n6 := (hb2.cell (p := ⟨b, ob + 6, none⟩) hbw).trans e6
     have n7 := (hb2.cell (p := ⟨b, ob + 7, none⟩) hbw).trans e7
     have g5 := (hb2.cell (p := ⟨w.heap.size, 5, none⟩) hw1z).trans f5
     have g6 := (hb2.cell (p := ⟨w.heap.size, 6, none⟩) hw1z).trans f6
     have hz2 : w1.drew.heap.size ≤ w2.heap.size := hb2.size
     clear hb2)
  | (go_at_call 80
     refine (mg q HCj.out (bu q) B p l o d w2 ok A' c' HN2.out Hok.out HA2.out (Nat.le_trans hB HB2.out.size) (HT.out.later HB2.out) Hrj.out Hwj.out h0 (fun hh => hod') (by have := Hon.out; have := Hnl.out; omega) (by have := Hl.out; have := Hnl.out; omega)).mono ?_
     rintro e w3 ⟨l2, d2, rfl, hA3, hwr3, hl3, hb3, hf3⟩))
 all_goals
  have y5 : w3.cell? ⟨w.heap.size, 5, none⟩ = some (.int .i64 t.mn) := (World.cell?_of_block (w := w2) (a := ⟨w.heap.size, 5, none⟩) (hf3 _ HF2.out).1).trans g5
  have y6 : w3.cell? ⟨w.heap.size, 6, none⟩ = some (.int .i64 t.mx) := (World.cell?_of_block (w := w2) (a := ⟨w.heap.size, 6, none⟩) (hf3 _ HF2.out).1).trans g6
  have HG3 := hid (HG2.out.trans hf3); have HB3 := hid (HB2.out.trans hb3); have HA3 := hid hA3; have Hwr3 := hid hwr3; have Hl3 := hid hl3
  have hll2 : l2.length ≤ 500000 := by have := Hl.out; have := Hnl.out; have := Hq.out; omega
  clear hf3 hb3 hA3 hwr3 hl3 g5 g6 m7 n0 n1 n2 n3 n4 n5 n6 n7 HN2 HA2 HB2 HG2 HF2
  go_wp2_with fail
  refine (qC B p l2 o d2 w3 HA3.out (by omega) (Nat.le_trans hB HB3.out.size) (HT.out.later HB3.out) t.mn t.mx m0 m1 m3 m2).mono ?_
  rintro e w4 ⟨rfl, hA4, hb4, hf4⟩
  have HA4 := hid hA4; have HB4 := hid (HB3.out.trans hb4); have HG4 := hid (HG3.out.trans hf4)
  clear hA4 hb4 hf4
  go_wp2_with fail
  go_end0
  exact ⟨_, d2, rfl, HA4.out, by rw [Hprh.out, Hdh.out]; simpa using Hwr3.out.trans (cJ.one (x := bH t.mn t.mx) (fun hh => Hwr3.out.le hh)), by have := Hl3.out; have := Hnn.out; have := Hnl.out; simp; omega, HB4.out, HG4.out⟩
theorem vv (t : T) : ja t := by
 induction t using T.ind with
 | h t ih =>
  intro B p l o d w ok A c hN hok h hB ht hr hw h0 hod hon hl
  have go : ∀ {t : T}, ja t → ja t := fun h => h
  rcases aJ hr with ⟨hk, _⟩ | ⟨hk, _⟩ | ⟨hk, _⟩ | ⟨hk, _⟩ | ⟨hk, _⟩ | ⟨hk, _⟩ | ⟨hk, _⟩
  · exact gQ t (.inl hk) B p l o d w ok A c hN hok h hB ht hr hw h0 hod hon hl
  · exact gQ t (.inr (.inl hk)) B p l o d w ok A c hN hok h hB ht hr hw h0 hod hon hl
  · exact gQ t (.inr (.inr (.inl hk))) B p l o d w ok A c hN hok h hB ht hr hw h0 hod hon hl
  · exact gQ t (.inr (.inr (.inr hk))) B p l o d w ok A c hN hok h hB ht hr hw h0 hod hon hl
  · exact vt t hk ih B p l o d w ok A c hN hok h hB ht hr hw h0 hod hon hl
  · exact vw t hk ih B p l o d w ok A c hN hok h hB ht hr hw h0 hod hon hl
  · exact vu t hk ih B p l o d w ok A c hN hok h hB ht hr hw h0 hod hon hl
def iz (t : T) : Bs × Int := if br t ≠ 0 then ([], br t) else if (prT t).length ≤ 1024 ∧ ca t ≤ 64 then (prT t, 0) else ([], 3)
theorem pj {t : T} (h : br t = 0) : aC t = true ∧ aW t ≤ 2048 := by
 have := dW h
 rw [ju t 2048 (by omega)] at this
 exact ⟨this.1, by omega⟩
theorem qD (w : World) : WAt w.heap.size w.heap.size [] 0 0 (w.alloc (.cells #[.pointer none, .slice none 0 0, .int .i64 0, .int .i64 0] 78)) :=
 ⟨Nat.le_refl _, none, .slice none 0 0, heap_alloc_new w _, .inl rfl, ⟨rfl, .inl ⟨rfl, rfl⟩⟩, fun _ => rfl⟩
theorem tD (t : T) (w : World) (ok : Nat → Prop) (A : Option Addr) (c : Nat) (hN : NodeAt w ok t A c) (hok : ∀ b, ok b → b < w.heap.size) (hw : br t = 0 → Words t) (ht : ep w.heap.size w) :
 Calls Tryz.prog 34 #[aB t A c] w fun e w' => e = .returned (.tuple #[.string (bs (iz t).1), .int .i64 (iz t).2]) ∧ Below w.heap.size w w' := by
 have HW := hid hw; have HT := hid ht; have HN := hid hN; have Hok := hid hok
 clear hw ht hN hok
 by_cases h0 : br t = 0
 · have Hw := hid (HW.out h0)
   have Hc := hid h0
   obtain ⟨hr, hn⟩ := pj h0
   have Hr := hid hr; have Hn := hid hn
   have Hpc := hid (il t)
   have hp0 : iz t = if (prT t).length ≤ 1024 ∧ ca t ≤ 64 then (prT t, 0) else ([], 3) := by unfold iz; rw [if_neg (by omega)]
   have Hp := hid hp0
   clear h0 hr hn HW hp0
   go_enter Tryz.func34, Tryz.ntmps34
   go_upto_region 1 with fail
   generalize hW : w.alloc _ = Wa
   have hBa : Below w.heap.size w Wa := by subst hW; exact nal
   have h8 : At8 Wa w.heap.size 0 t A c := by subst hW; constructor <;> simp [go_sem]
   clear hW
   have HBa := hid hBa
   have HNa := hid (HN.out.later hBa Hok.out)
   have hok2 : ∀ b, ok b → b < Wa.heap.size := fun b h => by have := Hok.out b h; have := HBa.out.size; omega
   have Hok2 := hid hok2
   have hza : w.heap.size < Wa.heap.size := World.block_lt_of_cell? _ _ h8.f0
   clear hBa hok2
   have H8 := hid h8
   obtain ⟨f0, f1, f2, f3, f4, f5, f6, f7⟩ := h8
   go_wp2_with fail
   refine (Hpc.out _ ok A c HNa.out Hok2.out).mono ?_
   rintro e w1 ⟨rfl, hb1⟩
   have h9 : At8 w1 w.heap.size 0 t A c := H8.out.mono (fun o => hb1.cell (p := ⟨w.heap.size, o, none⟩) hza)
   have H9 := hid h9
   have hb1 := HBa.out.step hb1
   clear f0 f1 f2 f3 f4 f5 f6 f7 h9
   rw [Hc.out]
   have HB1 := hid hb1
   clear hb1
   go_upto_region 5 with fail
   generalize hW : w1.alloc _ = W0
   have h8 : At8 W0 w.heap.size 0 t A c := by subst hW; exact H9.out.mono (fun o => ((Below.refl w1.heap.size w1).alloc (Nat.le_refl _) _).cell (p := ⟨w.heap.size, o, none⟩) (by have := World.block_lt_of_cell? _ _ H9.out.f0; exact this))
   obtain ⟨f0, f1, f2, f3, f4, f5, f6, f7⟩ := h8
   have hA0 : WAt w1.heap.size w1.heap.size [] 0 0 W0 := by subst hW; exact qD w1
   have hB0 : Below w1.heap.size w1 W0 := by subst hW; exact nal
   have hz0 : w.heap.size ≤ w1.heap.size := HB1.out.size
   have hA1 : WAt w.heap.size w1.heap.size [] 0 0 W0 := ⟨hz0, by obtain ⟨_, a, v, h2, h3, h4, h5⟩ := hA0; exact ⟨a, v, h2, h3, by have := h5 rfl; subst this; exact ⟨rfl, .inl ⟨rfl, rfl⟩⟩, h5⟩⟩
   have HA := hid hA1
   have HB := hid (HB1.out.step hB0)
   clear hW hA0 hB0 hA1
   go_wp2_with fail
   refine (vv t w.heap.size w1.heap.size [] 0 0 W0 ok A c (HN.out.later HB.out Hok.out) Hok.out HA.out HB.out.size (HT.out.later HB.out) Hr.out Hw.out (by omega) (fun _ => by omega) (by have := Hn.out; omega) (by have := Hn.out; simp; omega)).mono ?_
   rintro e w2 ⟨l', d', rfl, hA2, hwr, -, hb2, -⟩
   have HB2 := hid (HB.out.trans hb2)
   obtain ⟨c2, c3, _, _⟩ := hA2.cells
   have HA2 := hid hA2
   unfold cJ at hwr
   rw [List.length_nil, Nat.zero_add] at hwr
   clear HA HB hb2 hA2 f0 f1 f2 f3 f4 f5 f6 f7
   by_cases hl : (prT t).length ≤ 1024
   · rw [if_pos hl] at hwr
     obtain ⟨rfl, rfl⟩ := hwr
     rw [List.nil_append] at HA2
     have hd : max (0 : Int) (0 + (ca t : Int)) = (ca t : Int) := by omega
     rw [hd] at HA2 c3
     clear hd
     by_cases hd : ca t ≤ 64
     · rw [if_pos ⟨hl, hd⟩] at Hp
       generalize prT t = x at *
       generalize ca t = k at *
       go_wp2_with fail
       refine (ek w.heap.size w1.heap.size x 0 k w2 HA2.out).mono ?_
       rintro e w3 ⟨rfl, rfl⟩
       go_wp2_with fail
       refine (pk w.heap.size w1.heap.size x 0 k w3 HA2.out).mono ?_
       rintro e w4 ⟨rfl, hb4⟩
       go_wp2_with fail
       go_ret2
       exact ⟨by rw [Hp.out]; rfl, HB2.out.trans hb4⟩
     · rw [if_neg (fun h => hd h.2)] at Hp
       generalize prT t = x at *
       generalize ca t = k at *
       go_wp2_with fail
       refine (ek w.heap.size w1.heap.size x 0 k w2 HA2.out).mono ?_
       rintro e w3 ⟨rfl, rfl⟩
       go_wp2_with fail
       go_ret2
       exact ⟨by rw [Hp.out]; rfl, HB2.out⟩
   · rw [if_neg hl] at hwr
     rw [if_neg (fun h => hl h.1)] at Hp
     clear hl
     go_wp2_with fail
     refine (ek w.heap.size w1.heap.size l' 0 d' w2 HA2.out).mono ?_
     rintro e w3 ⟨rfl, rfl⟩
     go_wp2_with fail
     go_ret2
     exact ⟨by rw [Hp.out]; rfl, HB2.out⟩
 · have Hp := hid (show iz t = ([], br t) by unfold iz; rw [if_pos h0])
   have Hpc := hid (il t)
   clear HW
   generalize br t = e0 at *
   rw [Hp.out]
   clear Hp
   go_enter Tryz.func34, Tryz.ntmps34
   go_upto_region 1 with fail
   generalize hW : w.alloc _ = Wa
   have hBa : Below w.heap.size w Wa := by subst hW; exact nal
   have h8 : At8 Wa w.heap.size 0 t A c := by subst hW; constructor <;> simp [go_sem]
   clear hW
   have HBa := hid hBa
   have HNa := hid (HN.out.later hBa Hok.out)
   have hok2 : ∀ b, ok b → b < Wa.heap.size := fun b h => by have := Hok.out b h; have := HBa.out.size; omega
   have Hok2 := hid hok2
   have hza : w.heap.size < Wa.heap.size := World.block_lt_of_cell? _ _ h8.f0
   clear hBa hok2
   have H8 := hid h8
   obtain ⟨f0, f1, f2, f3, f4, f5, f6, f7⟩ := h8
   go_wp2_with fail
   refine (Hpc.out _ ok A c HNa.out Hok2.out).mono ?_
   rintro e w1 ⟨rfl, hb1⟩
   have hb1 := HBa.out.step hb1
   go_wp2_with fail
   go_ret2
   exact ⟨rfl, hb1⟩
theorem ep.mono {B B' : Nat} {w : World} (h : ep B w) (k : B ≤ B') : ep B' w := ⟨h.1, fun g hg => Nat.lt_of_lt_of_le (h.2 g hg) k⟩
theorem ep.step {w w' : World} (h : ep w.heap.size w) (hb : Below w.heap.size w w') : ep w'.heap.size w' := (h.later hb).mono hb.size
structure Env (w0 w : World) : Prop where
 mx : dc w
 tb : ep w.heap.size w
 bl : Below w0.heap.size w0 w
theorem Env.start {w : World} (h : dc w) (k : ep w.heap.size w) : Env w w := ⟨h, k, Below.refl _ _⟩
theorem Env.step {w0 w w' : World} (h : Env w0 w) (k : Below w.heap.size w w') : Env w0 w' := ⟨h.mx.later k, h.tb.step k, h.bl.step k⟩
structure Box (w : World) (p : Nat) (t : T) (A : Option Addr) (c : Nat) (ok : Nat → Prop) : Prop where
 at8 : At8 w p 0 t A c
 node : NodeAt w ok t A c
 okk : ∀ b, ok b → b < w.heap.size
structure RowP (w : World) (R : Nat) (ns : List Nx) (A : Option Addr) (c : Nat) : Prop where
 blk : bj w R #[.int .i64 4, .int .u64 0, .int .u64 0, .int .u64 0, .int .u64 0, .int .i64 0, .int .i64 0, .slice A ns.length c]
 own : w.ownsRow (R + 1) 48 8 (.slice A ns.length c) ns.length (bq ns)
 leaf : ∀ x ∈ ns, x.1.ps = [] ∧ x.2.1 = none ∧ x.2.2 = 0
theorem RowP.later {w w' : World} {R : Nat} {ns : List Nx} {A : Option Addr} {c : Nat} (h : RowP w R ns A c) (k : Below w.heap.size w w') : RowP w' R ns A c :=
 ⟨h.blk.keep (k.block R h.blk.lt), h.own.kept (row := none) ⟨k.os, k.tape, k.output, k.size, fun b hb _ => k.block b hb⟩ (by cases h : (Value.slice A ns.length c).ownBlock <;> simp), h.leaf⟩
theorem RowP.free {w : World} {R : Nat} {ns : List Nx} {A : Option Addr} {c : Nat} (h : RowP w R ns A c) {b : Nat} (hb : b ≤ R) : some b ≠ (Value.slice A ns.length c).ownBlock := fun e => by
 have := (h.own.lt b e.symm).1; omega
theorem RowP.push {w w1 w5 : World} {R : Nat} {ns ys : List Nx} {A A5 : Option Addr} {c c5 : Nat} (h : RowP w R ns A c) (h1 : Below w.heap.size w w1)
 (ho : w5.ownsRow (R + 1) 48 8 (.slice A5 (ns.length + ys.length) c5) (ns.length + ys.length) (bq ns ++ bq ys)) (hg : w1.grownBy w5 (Value.slice A ns.length c).ownBlock) (hy : ∀ x ∈ ys, x.1.ps = [] ∧ x.2.1 = none ∧ x.2.2 = 0) :
 RowP (w5.setCell ⟨R, 7, none⟩ (.slice A5 (ns.length + ys.length) c5)) R (ns ++ ys) A5 c5 := by
 have hR : R < w1.heap.size := Nat.lt_of_lt_of_le h.blk.lt h1.size
 have hb : bj w5 R #[.int .i64 4, .int .u64 0, .int .u64 0, .int .u64 0, .int .u64 0, .int .i64 0, .int .i64 0, .slice A ns.length c] :=
  h.blk.keep ((hg.block R hR (h.free (Nat.le_refl _))).trans (h1.block R h.blk.lt))
 refine ⟨?_, ?_, fun x hx => ?_⟩
 · have := hb.set 7 (.slice A5 (ns.length + ys.length) c5)
   rw [List.length_append]
   exact this
 · have hne : (Value.slice A5 (ns.length + ys.length) c5).ownBlock ≠ some R := fun e => by have := (ho.lt R e).1; omega
   have := ho.kept (row := some R) (w' := w5.setCell ⟨R, 7, none⟩ (.slice A5 (ns.length + ys.length) c5)) ⟨rfl, rfl, rfl, by simp, fun k _ hk => Below.heap_setCell _ _ _ _ (fun e => hk (by rw [e]))⟩ (Or.inr hne)
   rw [List.length_append, show bq (ns ++ ys) = bq ns ++ bq ys by simp [bq]]
   exact this
 · rcases List.mem_append.1 hx with hx | hx
   · exact h.leaf x hx
   · exact hy x hx
theorem RowP.below {w0 w w1 w5 : World} {R : Nat} {ns : List Nx} {A : Option Addr} {c : Nat} (h : RowP w R ns A c) (hb : Below w0.heap.size w0 w) (hR : w0.heap.size ≤ R) (h1 : Below w.heap.size w w1) (hg : w1.grownBy w5 (Value.slice A ns.length c).ownBlock) (v : Value) : Below w0.heap.size w0 (w5.setCell ⟨R, 7, none⟩ v) := by
 have hz := h1.size
 have hlt := h.blk.lt
 exact ((hb.step h1).grown hg (by have := hb.size; omega) (fun k hk => by have := (h.own.lt k hk).1; omega)).setCell (p := ⟨R, 7, none⟩) hR _
theorem RowP.node {w : World} {R : Nat} {ns : List Nx} {A : Option Addr} {c : Nat} (h : RowP w R ns A c) (hn : 0 < ns.length) (hn2 : ns.length ≤ 17592186044416) (t : T) (ht : t.ps = ns.map (·.1)) : NodeAt w (fun b => b < w.heap.size) t A c := by
 obtain ⟨g, hA, hg, hc⟩ : ∃ g, A = some ⟨g, 0, none⟩ ∧ g < w.heap.size ∧ ns.length ≤ c := by
  rcases h.own.2 with ⟨_, h0⟩ | ⟨g, cap, cur, e, hb, hh, hcap, _⟩
  · omega
  · simp only [Value.slice.injEq] at e
    exact ⟨g, e.1, (by (rcases Nat.lt_or_ge g w.heap.size with h' | h'; exact h'; rw [Array.getElem?_eq_none h'] at hh; simp at hh)), by omega⟩
 subst hA
 have h8 : ∀ (i : Nat) (x : Nx), ns[i]? = some x → At8 w g (i * 8) x.1 x.2.1 x.2.2 := fun i x hi => .ofX fun j hj => by
  have hl := (List.getElem?_eq_some_iff.1 hi).1
  have hx : ns[i] = x := (List.getElem?_eq_some_iff.1 hi).2
  rw [h.own.cellAt (i * 8 + j) (by omega), dv ns i j hl hj, hx]
 have hm := gP (W := w) (ok := fun b => b < w.heap.size) (g := g) t ns ht hn2 hg h8 (fun i x hi => by
  obtain ⟨a, b, d⟩ := h.leaf x (List.mem_of_getElem? hi)
  rw [b, d]
  exact aA w _ x.1 a)
 exact hm.widerX (by rw [ht, List.length_map]; exact hc)
def dh (s W : Bs) : Nat → Nat → Bool
 | 0, _ => false
 | k + 1, i => if (s.drop i).take W.length = W ∧ i + W.length ≤ s.length then true else dh s W k (i + 1)
theorem ij (s W : Bs) : ∀ (k i : Nat), dh s W k i = true ↔ ∃ m, i ≤ m ∧ m < i + k ∧ m + W.length ≤ s.length ∧ (s.drop m).take W.length = W
 | 0, i => by simp [dh]; intro m h1 h2; omega
 | k + 1, i => by
  rw [dh]
  split
  · rename_i h
    exact ⟨fun _ => ⟨i, Nat.le_refl _, by omega, h.2, h.1⟩, fun _ => rfl⟩
  · rename_i h
    rw [ij s W k (i + 1)]
    constructor
    · rintro ⟨m, h1, h2, h3, h4⟩; exact ⟨m, by omega, by omega, h3, h4⟩
    · rintro ⟨m, h1, h2, h3, h4⟩
      have : m ≠ i := fun e => h (by subst e; exact ⟨h4, h3⟩)
      exact ⟨m, by omega, by omega, h3, h4⟩
theorem mB (S : Bs) (k n : Nat) (h : k + n ≤ S.length) : (bs S).extract k (k + n) = bs ((S.drop k).take n) := by
 rw [Lib.extract_eq]
 congr 2
 simp only [bs]
 rw [show k + n - k = n by omega]
theorem xg (S : Bs) (i n : Nat) (h : i + n ≤ S.length) (w : World) : (Instr.slice 9 (.string (bs S)) (some (.int .i64 (i : Int))) (some (.int .i64 ((i : Int) + (n : Int)))) none).run Tryz.prog w = .ok (.string (bs ((S.drop i).take n))) w := by
 have hz : (bs S).size = S.length := by simp [bs, ByteArray.size]
 rw [run_slice_string (h := Tryz.underlying9) (h0 := by omega) (h1 := by omega) (h2 := by rw [hz]; omega), ← mB S i n h]
 rfl
theorem qH (w : World) (s W : Bs) (hs : s.length ≤ 1000) (hW : W.length ≤ 1000) :
 Calls Tryz.prog 35 #[.string (bs s), .string (bs W)] w fun en w' => en = .returned (.bool (dh s W (s.length + 1) 0)) ∧ Below w.heap.size w w' := by
 have ss : (bs s).size = s.length := by simp [bs, ByteArray.size]
 have sW : (bs W).size = W.length := by simp [bs, ByteArray.size]
 go_enter Tryz.func35, Tryz.ntmps35
 go_wp2_with fail
 go_loopg [5] (s.length + 1) (fun k i wr => ∃ (j : Nat), i = .int .i64 j ∧ j + k = s.length + 1 ∧ dh s W k j = dh s W (s.length + 1) 0 ∧ wr = w)
 case atStart => exact ⟨0, rfl, by omega, rfl, rfl⟩
 case round =>
  obtain ⟨j, rfl, hj, hst, rfl⟩ := hrel
  have Hst := hid hst
  clear hst
  by_cases hlt : j + W.length ≤ s.length
  · obtain ⟨k, rfl⟩ : ∃ k, gk = k + 1 := ⟨gk - 1, by omega⟩
    have hsl := xg s j W.length hlt wr
    by_cases he : (s.drop j).take W.length = W
    · have Hres := hid (show dh s W (s.length + 1) 0 = true by rw [← Hst.out, dh, if_pos ⟨he, hlt⟩])
      have heq : ((s.drop j).take W.length == W) = true := by rw [beq_iff_eq]; exact he
      clear he Hst
      go_wp2_with fail
      go_ret
      exact ⟨by rw [Hres.out]; rfl, Below.refl _ _⟩
    · have Hres := hid (show dh s W k (j + 1) = dh s W (s.length + 1) 0 by rw [← Hst.out]; conv => rhs; rw [dh, if_neg (fun h => he h.1)])
      have heq : ((s.drop j).take W.length == W) = false := by rw [beq_eq_false_iff_ne]; exact he
      clear he Hst
      go_wp2_with fail
      go_roundg k
      case measure => omega
      case rel => exact ⟨j + 1, by go_num, by omega, Hres.out, rfl⟩
  · have hres : dh s W (s.length + 1) 0 = false := by
     rw [← Hst.out, ← Bool.not_eq_true, ij]
     rintro ⟨m, h1, _, h3, _⟩
     omega
    have Hres := hid hres
    clear hres Hst
    go_wp2_with fail
    go_ret
    exact ⟨by rw [Hres.out]; rfl, Below.refl _ _⟩
theorem qY (W : Bs) (hW : W.length ≤ 60) : iz (cH [] W []) = (prT (cH [] W []), 0) := by
 obtain ⟨a, b, c, d, e, f⟩ := gt (pre := []) (post := []) (.inl rfl) (.inl rfl) W hW
 unfold iz
 rw [if_neg (by omega), if_pos ⟨by omega, by omega⟩]
theorem tE (W ha hb : Bs) (k1 : W.length ≤ 60) (k2 : ha.length ≤ 60) (k3 : hb.length ≤ 60) (P tx : Bs) (hP : P = prT (cH [] W [])) (ht : tx = ha ++ W ++ hb) :
 ((aK P tx).2.2 = 0 ∧ (aK P tx).1 = true) ∧ ((aK (94 :: P) tx).2.2 = 0 ∧ (aK (94 :: P) tx).1 = (tx.take W.length == W)) ∧ ((aK (P ++ [36]) tx).2.2 = 0 ∧ (aK (P ++ [36]) tx).1 = (tx.drop (tx.length - W.length) == W)) ∧
 ((aK (94 :: (P ++ [36])) tx).2.2 = 0 ∧ (aK (94 :: (P ++ [36])) tx).1 = (tx == W)) ∧ ((aK P ha).2.2 = 0 ∧ (aK P ha).1 = dh ha W (ha.length + 1) 0) := by
 have hl : tx.length = ha.length + W.length + hb.length := by rw [ht]; simp; omega
 have e2 : 94 :: P = prT (cH [eR] W []) := by rw [js, hP]; simp [cl, show prT eR = [94] by decide, show bu eR = false by decide, iy]
 have e3 : P ++ [36] = prT (cH [] W [rL]) := by rw [js, hP]; simp [cl, show prT rL = [36] by decide, show bu rL = false by decide, iy]
 have e4 : 94 :: (P ++ [36]) = prT (cH [eR] W [rL]) := by rw [js, hP]; simp [cl, show prT eR = [94] by decide, show bu eR = false by decide, show prT rL = [36] by decide, show bu rL = false by decide, iy]
 obtain ⟨a1, b1⟩ := fi (pre := []) (post := []) (.inl rfl) (.inl rfl) W k1 tx (by omega)
 obtain ⟨a2, b2⟩ := fi (pre := [eR]) (post := []) (.inr (.inl rfl)) (.inl rfl) W k1 tx (by omega)
 obtain ⟨a3, b3⟩ := fi (pre := []) (post := [rL]) (.inl rfl) (.inr (.inr rfl)) W k1 tx (by omega)
 obtain ⟨a4, b4⟩ := fi (pre := [eR]) (post := [rL]) (.inr (.inl rfl)) (.inr (.inr rfl)) W k1 tx (by omega)
 obtain ⟨a5, b5⟩ := fi (pre := []) (post := []) (.inl rfl) (.inl rfl) W k1 ha (by omega)
 rw [← hP] at a1 b1 a5 b5
 rw [← e2] at a2 b2
 rw [← e3] at a3 b3
 rw [← e4] at a4 b4
 rw [ue] at b1 b5
 rw [oS] at b2
 rw [ud] at b3
 rw [rv] at b4
 refine ⟨⟨a1, b1.2 ⟨ha.length, by omega, by rw [ht]; simp⟩⟩, ⟨a2, ?_⟩, ⟨a3, ?_⟩, ⟨a4, ?_⟩, a5, ?_⟩
 · rw [Bool.eq_iff_iff, b2, beq_iff_eq]
 · rw [Bool.eq_iff_iff, b3, beq_iff_eq]
   exact ⟨fun h => h.2, fun h => ⟨by omega, h⟩⟩
 · rw [Bool.eq_iff_iff, b4, beq_iff_eq]
 · rw [Bool.eq_iff_iff, b5, ij]
   constructor
   · rintro ⟨i, h1, h2⟩; exact ⟨i, Nat.zero_le _, by omega, h1, h2⟩
   · rintro ⟨i, _, _, h1, h2⟩; exact ⟨i, h1, h2⟩
theorem xr : ∀ k < 64, orI 0 (2 ^ k) = 2 ^ k := by decide +kernel
theorem xq (c : Nat) (hc : c < 256) : w40.put (c / 64) (2 ^ (c % 64)) = w40.add c := by
 have h := xr (c % 64) (by omega)
 unfold W4.put W4.add
 rcases (show c < 64 ∨ (64 ≤ c ∧ c < 128) ∨ (128 ≤ c ∧ c < 192) ∨ (192 ≤ c ∧ c < 256) by omega) with g | g | g | g
 · rw [if_pos (by omega), if_pos g, ← h, show c % 64 = c by omega]; rfl
 · rw [if_neg (by omega), if_pos (by omega), if_neg (by omega), if_pos g.2, ← h, show c % 64 = c - 64 by omega]; rfl
 · rw [if_neg (by omega), if_neg (by omega), if_pos (by omega), if_neg (by omega), if_neg (by omega), if_pos g.2, ← h, show c % 64 = c - 128 by omega]; rfl
 · rw [if_neg (by omega), if_neg (by omega), if_neg (by omega), if_neg (by omega), if_neg (by omega), if_neg (by omega), ← h, show c % 64 = c - 192 by omega]; rfl
theorem kE (l : List Nx) : ∀ u ∈ bq l, u.oneCell' = true := fun u hu => by
 obtain ⟨x, _, hx⟩ := List.mem_flatMap.1 hu
 exact cT x u hx
def zk (W : Bs) (j : Nat) (ns : List Nx) : Prop := ns.map (fun x : Nx => x.1) = ay :: ay :: (W.take j).map eW ∧ ns.length = j + 2
theorem rl (w : World) (hM : dc w) (hT : ep w.heap.size w) (W : Bs) (hW : W.length ≤ maxLen) (ha : Bs) (hah : ha.length ≤ maxLen) (hb : Bs) (hbh : hb.length ≤ maxLen) :
 Calls Tryz.prog 15 #[.string (bs W), .string (bs ha), .string (bs hb)] w fun e w' => e = .returned (.bool true) ∧ Below w.heap.size w w' := by
 have HE := hid (Env.start hM hT)
 have sW : (bs W).size = W.length := by simp [bs, ByteArray.size]
 have sa : (bs ha).size = ha.length := by simp [bs, ByteArray.size]
 have sb : (bs hb).size = hb.length := by simp [bs, ByteArray.size]
 clear hM hT
 go_enter Tryz.func15, Tryz.ntmps15
 by_cases l1 : 60 < W.length
 · go_wp2_with fail
   all_goals
    go_ret
    exact ⟨rfl, Below.refl _ _⟩
 by_cases l2 : 60 < ha.length
 · go_wp2_with fail
   all_goals
    go_ret
    exact ⟨rfl, Below.refl _ _⟩
 by_cases l3 : 60 < hb.length
 · go_wp2_with fail
   all_goals
    go_ret
    exact ⟨rfl, Below.refl _ _⟩
 have k1 : W.length ≤ 60 := by omega
 have k2 : ha.length ≤ 60 := by omega
 have k3 : hb.length ≤ 60 := by omega
 clear l1 l2 l3 hW hah hbh
 go_upto_region 4 with fail
 generalize hW1 : w.alloc _ = W1
 have hR1 : RowP W1 w.heap.size [] none 0 := by
  subst hW1
  exact ⟨bj.new w _, ⟨rfl, .inl ⟨rfl, rfl⟩⟩, fun x hx => by cases hx⟩
 have hb1 : Below w.heap.size w W1 := by subst hW1; exact nal
 obtain ⟨v0, hv0, q7, y7⟩ : ∃ v0, v0 = Value.slice none 0 0 ∧ W1.cell? ⟨w.heap.size, 7, none⟩ = some v0 ∧ W1.frozen? ⟨w.heap.size, 7, none⟩ = false := ⟨_, rfl, hR1.blk.cell 7, hR1.blk.froz 7⟩
 have Hv := hid hv0
 clear hv0
 have Hown0 := hid (show W1.ownsRow (w.heap.size + 1) 48 8 v0 0 [] by rw [Hv.out]; exact hR1.own)
 have HE1 := hid (HE.out.step hb1); have HR1 := hid hR1
 have hz1 : w.heap.size < W1.heap.size := hR1.blk.lt
 clear hW1 hR1 hb1
 have hnews : ∀ ad, some (⟨W1.heap.size, 0, none⟩ : Addr) = some ad → ∀ j u, (bq [(ay, none, 0), (ay, none, 0)])[j]? = some u → (W1.alloc (.cells (bq [(ay, none, 0), (ay, none, 0)]).toArray 48)).cell? (ad.add j) = some u := fun ad e j u hu => by
  simp only [Option.some.injEq] at e
  subst e
  rw [ct, World.cell?_alloc_new, Nat.zero_add]
  simpa using hu
 have Hnews := hid hnews; clear hnews
 go_wp2_with (at_builtin; refine au (w.heap.size + 1) rfl _ _ 46 48 _ 8 80 rfl Tryz.underlying46 Tryz.infoNodeX rfl (by omega) (by omega) v0 0 2 [] (bq [(ay, none, 0), (ay, none, 0)]) (some ⟨W1.heap.size, 0, none⟩) 2 rfl rfl (by simp) rfl Hnews.out (kE _) (Hown0.out.alloc _) (by simp; omega) (by omega) (fun A5 c5 w5 ho5 hg5 hat5 => ?_); rw [Hv.out] at hg5; have hal := (Below.refl W1.heap.size W1).alloc (Nat.le_refl _) (.cells (bq [(ay, none, 0), (ay, none, 0)]).toArray 48); have HP5 := hid (HR1.out.push (ys := [(ay, none, 0), (ay, none, 0)]) hal ho5 hg5 (by intro x hx; simp at hx; subst hx; exact ⟨rfl, rfl, rfl⟩)); have HB5 := hid (HR1.out.below HE1.out.bl (Nat.le_refl _) hal hg5 (.slice A5 (0 + 2) c5)); have hbk : bj w5 w.heap.size _ := HR1.out.blk.keep ((hg5.block _ (by simp; omega) (HR1.out.free (Nat.le_refl _))).trans (hal.block _ hz1)); have q7' := hbk.cell 7; have y7 := hbk.froz 7; clear ho5 hg5 hat5 hal)
 have hP6 : RowP (w5.setCell ⟨w.heap.size, 7, none⟩ (.slice A5 2 c5)) w.heap.size [(ay, none, 0), (ay, none, 0)] A5 c5 := HP5.out
 have hB6 : Below w.heap.size w (w5.setCell ⟨w.heap.size, 7, none⟩ (.slice A5 2 c5)) := HB5.out
 generalize w5.setCell ⟨w.heap.size, 7, none⟩ (.slice A5 2 c5) = W6 at *
 have HP6 := hid hP6; have HE6 := hid (HE.out.step hB6)
 clear hP6 hB6 HP5 HB5 hbk q7' Hnews Hown0 Hv q7 y7 HR1 HE1 hz1
 go_loopg [8] (W.length) (fun k i wr => ∃ (j : Nat) (ns : List Nx) (A : Option Addr) (c : Nat), i = .int .i64 j ∧ j + k = W.length ∧ zk W j ns ∧ RowP wr w.heap.size ns A c ∧ Env w wr)
 case atStart => exact ⟨0, _, A5, c5, rfl, by omega, ⟨rfl, rfl⟩, HP6.out, HE6.out⟩
 case round =>
  obtain ⟨j, ns, A, c, rfl, hj, hbu, hP, hEr⟩ := hrel
  have HP := hid hP; have HEr := hid hEr; have HBu := hid hbu
  clear hP hEr hbu HP6 HE6
  by_cases hlt : j < W.length
  · have hidx : ∀ hh, ((bs W)[j]'hh) = W[j] := fun _ => rfl
    have hd : W.take (j + 1) = W.take j ++ [W[j]] := by rw [List.take_append_getElem]
    have Hd := hid hd
    clear hd
    have hc256 : W[j].toNat < 256 := W[j].toNat_lt
    go_upto_region 9 with fail
    generalize hW2 : wr.alloc _ = W2
    have hs2 : ae W2 wr.heap.size w40 := by subst hW2; exact ae.new wr
    have hb2 : Below wr.heap.size wr W2 := by subst hW2; exact nal
    clear hW2
    have HP2 := hid (HP.out.later hb2); have HE2 := hid (HEr.out.step hb2)
    have hp1 := xq W[j].toNat hc256
    have hs3 := (hs2.put (W[j].toNat / 64) (by omega) (2 ^ (W[j].toNat % 64)))
    rw [hp1] at hs3
    have hb3 : Below wr.heap.size wr (W2.setCell ⟨wr.heap.size, W[j].toNat / 64, none⟩ (.int .u64 (2 ^ (W[j].toNat % 64)))) := hb2.setCell (p := ⟨wr.heap.size, W[j].toNat / 64, none⟩) (Nat.le_refl _) _
    have HS3 := hid hs3; have HB3 := hid hb3
    have hq : (W[j].toNat : Int).tdiv 64 = ((W[j].toNat / 64 : Nat) : Int) := by rw [Int.tdiv_eq_ediv_of_nonneg (by omega)]; omega
    have hr : (W[j].toNat : Int).tmod 64 = ((W[j].toNat % 64 : Nat) : Int) := by rw [Int.tmod_eq_emod_of_nonneg (by omega)]; omega
    have hw := mb (W[j].toNat % 64) (by omega)
    have hk4 : W[j].toNat % 64 < 64 := by omega
    have hi4 : W[j].toNat / 64 < 4 := by omega
    have hz2 := hs2.froz (W[j].toNat / 64)
    have hcell : ∃ u, W2.cell? ⟨wr.heap.size, W[j].toNat / 64, none⟩ = some u := by
     obtain ⟨f0, f1, f2, f3⟩ := hs2.at4
     rcases (show W[j].toNat / 64 = 0 ∨ W[j].toNat / 64 = 1 ∨ W[j].toNat / 64 = 2 ∨ W[j].toNat / 64 = 3 by omega) with e | e | e | e <;> rw [e]
     · exact ⟨_, f0⟩
     · exact ⟨_, f1⟩
     · exact ⟨_, f2⟩
     · exact ⟨_, f3⟩
    obtain ⟨u, hcell⟩ := hcell
    clear hs2 hb2 hs3 hb3 hp1
    generalize W[j].toNat / 64 = wi at *
    generalize hk : W[j].toNat % 64 = k at *
    clear hk
    go_region
    have hb4 : Below wr.heap.size wr (W2.setCell ⟨wr.heap.size, wi, none⟩ (.int .u64 (2 ^ k))).drew := HB3.out.drew
    have hs4 : ae (W2.setCell ⟨wr.heap.size, wi, none⟩ (.int .u64 (2 ^ k))).drew wr.heap.size (w40.add W[j].toNat) := HS3.out.drew
    generalize (W2.setCell ⟨wr.heap.size, wi, none⟩ (.int .u64 (2 ^ k))).drew = W3 at *
    have HP3 := hid (HP.out.later hb4); have HE3 := hid (HEr.out.step hb4)
    obtain ⟨f0, f1, f2, f3⟩ := hs4.at4
    simp only [Nat.zero_add] at f1 f2 f3
    have q7 : W3.cell? ⟨w.heap.size, 7, none⟩ = some (.slice A ns.length c) := HP3.out.blk.cell 7
    have hz3 : w.heap.size < W3.heap.size := HP3.out.blk.lt
    have hnl : ns.length ≤ 62 := by have := HBu.out.2; omega
    clear hb4 hs4 hq hr hw hk4 hi4 hz2 hcell HP2 HE2 HS3 HB3
    generalize hch : W[j] = ch at *
    clear hch
    have hnews : ∀ ad, some (⟨W3.heap.size, 0, none⟩ : Addr) = some ad → ∀ j u, (bq [(eW ch, none, 0)])[j]? = some u → (W3.alloc (.cells (bq [(eW ch, none, 0)]).toArray 48)).cell? (ad.add j) = some u := fun ad e j u hu => by
     simp only [Option.some.injEq] at e
     subst e
     rw [ct, World.cell?_alloc_new, Nat.zero_add]
     simpa using hu
    have Hnews := hid hnews; clear hnews
    go_wp2_with (at_builtin; refine au (w.heap.size + 1) rfl _ _ 46 48 _ 8 80 rfl Tryz.underlying46 Tryz.infoNodeX rfl (by omega) (by omega) (.slice A ns.length c) ns.length 1 (bq ns) (bq [(eW ch, none, 0)]) (some ⟨W3.heap.size, 0, none⟩) 1 rfl rfl (by simp) rfl Hnews.out (kE _) (HP3.out.own.alloc _) (by simp; omega) (by omega) (fun A9 c9 w9 ho9 hg9 hat9 => ?_); have hal := (Below.refl W3.heap.size W3).alloc (Nat.le_refl _) (.cells (bq [(eW ch, none, 0)]).toArray 48); have HP9 := hid (HP3.out.push (ys := [(eW ch, none, 0)]) hal ho9 hg9 (by intro x hx; simp at hx; subst hx; exact ⟨rfl, rfl, rfl⟩)); have HB9 := hid (HP3.out.below HE3.out.bl (Nat.le_refl _) hal hg9 (.slice A9 (ns.length + 1) c9)); have hbk : bj w9 w.heap.size _ := HP3.out.blk.keep ((hg9.block _ (by simp; omega) (HP3.out.free (Nat.le_refl _))).trans (hal.block _ hz3)); have q9 := hbk.cell 7; have y9 := hbk.froz 7; clear ho9 hg9 hat9 hal)
    have hP9 : RowP (w9.setCell ⟨w.heap.size, 7, none⟩ (.slice A9 (ns.length + 1) c9)) w.heap.size (ns ++ [(eW ch, none, 0)]) A9 c9 := HP9.out
    go_roundg (gk - 1)
    case measure => omega
    case rel => exact ⟨j + 1, ns ++ [(eW ch, none, 0)], A9, c9, by go_num, by omega, ⟨by rw [List.map_append, HBu.out.1, Hd.out]; simp, by have := HBu.out.2; simp; omega⟩, hP9, HE.out.step HB9.out⟩
  · have hge : W.length ≤ j := by omega
    have hj0 : j = W.length := by omega
    have hbt := HBu.out.1
    rw [hj0, List.take_length] at hbt
    have hps : (cH [] W []).ps = ns.map (fun x : Nx => x.1) := by rw [hbt]; show ay :: ay :: (W.map eW ++ []) = _; rw [List.append_nil]
    have hnl := HBu.out.2
    have hnode := HP.out.node (by omega) (by omega) (cH [] W []) hps
    have hlen : ns.length = (cH [] W []).ps.length := by rw [hps, List.length_map]
    have h8 : At8 wr w.heap.size 0 (cH [] W []) A c := ⟨HP.out.blk.cell 0, HP.out.blk.cell 1, HP.out.blk.cell 2, HP.out.blk.cell 3, HP.out.blk.cell 4, HP.out.blk.cell 5, HP.out.blk.cell 6, by rw [← hlen]; exact HP.out.blk.cell 7⟩
    have hfine := (gt (pre := []) (post := []) (.inl rfl) (.inl rfl) W k1).2.1
    have hprint := qY W k1
    have Hpr := hid (tD (cH [] W []))
    have hplen := (gt (pre := []) (post := []) (.inl rfl) (.inl rfl) W k1).2.2.1
    have hall := tE W ha hb k1 k2 k3 (prT (cH [] W [])) (ha ++ W ++ hb) rfl rfl
    have Hfine := hid hfine; have Hprint := hid hprint; have Hall := hid hall; have Hnode := hid hnode
    clear hfine hprint hall hnode hlen hps hbt HP HBu hnl hj0 hlt y7
    generalize cH [] W [] = t at *
    obtain ⟨f0, f1, f2, f3, f4, f5, f6, f7⟩ := h8
    go_wp2_with fail
    refine (Hpr.out wr _ A c Hnode.out (fun b h => h) (fun _ => Hfine.out) HEr.out.tb).mono ?_
    rintro e1 w1 ⟨rfl, hb1⟩
    rw [Hprint.out]
    have HE1 := hid (HEr.out.step hb1)
    clear hb1 f0 f1 f2 f3 f4 f5 f6 f7 Hpr Hprint Hnode Hfine HEr
    generalize prT t = P at *
    have sP : (bs P).size = P.length := by simp [bs, ByteArray.size]
    have c1 : bs ha ++ bs W = bs (ha ++ W) := ey _ _
    have c2 : bs (ha ++ W) ++ bs hb = bs (ha ++ W ++ hb) := ey _ _
    have c3 : bs [94] ++ bs P = bs (94 :: P) := ey _ _
    have c4 : bs P ++ bs [36] = bs (P ++ [36]) := ey _ _
    have c5 : bs (94 :: P) ++ bs [36] = bs (94 :: (P ++ [36])) := ey _ _
    have lx : (ha ++ W ++ hb).length = ha.length + W.length + hb.length := by simp; omega
    generalize ha ++ W ++ hb = tx at *
    have sx : (bs tx).size = tx.length := by simp [bs, ByteArray.size]
    have hle : W.length ≤ tx.length := by omega
    have hbd : tx.length ≤ 180 := by omega
    have x1 : (bs tx).extract 0 W.length = bs (tx.take W.length) := by
     have := mB tx 0 W.length (by omega)
     simpa using this
    have x2 : (bs tx).extract (tx.length - W.length) tx.length = bs (tx.drop (tx.length - W.length)) := by
     have := mB tx (tx.length - W.length) W.length (by omega)
     rw [show tx.length - W.length + W.length = tx.length by omega, List.take_of_length_le (by simp; omega)] at this
     exact this
    clear lx
    have C1 := hid (cX P tx); have C2 := hid (cX (94 :: P) tx); have C3 := hid (cX (P ++ [36]) tx); have C4 := hid (cX (94 :: (P ++ [36])) tx); have C5 := hid (cX P ha)
    obtain ⟨⟨u1, v1⟩, ⟨u2, v2⟩, ⟨u3, v3⟩, ⟨u4, v4⟩, u5, v5⟩ := Hall.out
    clear Hall
    generalize aK P tx = r1 at *
    generalize aK (94 :: P) tx = r2 at *
    generalize aK (P ++ [36]) tx = r3 at *
    generalize aK (94 :: (P ++ [36])) tx = r4 at *
    generalize aK P ha = r5 at *
    obtain ⟨r1a, r1b, r1c⟩ := r1
    obtain ⟨r2a, r2b, r2c⟩ := r2
    obtain ⟨r3a, r3b, r3c⟩ := r3
    obtain ⟨r4a, r4b, r4c⟩ := r4
    obtain ⟨r5a, r5b, r5c⟩ := r5
    simp only at u1 v1 u2 v2 u3 v3 u4 v4 u5 v5
    subst u1 u2 u3 u4 u5 v1 v2 v3 v4 v5
    go_wp2_with fail
    refine (C1.out w1 HE1.out.mx (fun _ => brC) (fun _ => uL)).mono ?_
    rintro e2 w2 ⟨rfl, hb2⟩
    have HE2 := hid (HE1.out.step hb2)
    clear hb2 HE1 c1 c2
    go_wp2_with fail
    refine (C2.out w2 HE2.out.mx (fun _ => brC) (fun _ => uL)).mono ?_
    rintro e3 w3 ⟨rfl, hb3⟩
    have HE3 := hid (HE2.out.step hb3)
    clear hb3 HE2
    go_wp2_with fail
    refine (C3.out w3 HE3.out.mx (fun _ => brC) (fun _ => uL)).mono ?_
    rintro e4 w4 ⟨rfl, hb4⟩
    have HE4 := hid (HE3.out.step hb4)
    clear hb4 HE3
    go_wp2_with fail
    refine (C4.out w4 HE4.out.mx (fun _ => brC) (fun _ => uL)).mono ?_
    rintro e5 w5 ⟨rfl, hb5⟩
    have HE5 := hid (HE4.out.step hb5)
    clear hb5 HE4
    go_wp2_with fail
    refine (C5.out w5 HE5.out.mx (fun _ => brC) (fun _ => uL)).mono ?_
    rintro e6 w6 ⟨rfl, hb6⟩
    have HE6 := hid (HE5.out.step hb6)
    clear hb6 HE5 c3 c4 c5 C1 C2 C3 C4 C5
    go_wp2_with fail
    refine (qH w6 ha W (by omega) (by omega)).mono ?_
    rintro e7 w7 ⟨rfl, hb7⟩
    have HE7 := hid (HE6.out.step hb7)
    clear hb7 HE6 x1 x2
    go_wp2_with fail
    refine (bt w7 HE7.out.mx).mono ?_
    rintro e8 w8 ⟨rfl, hb8⟩
    go_wp2_with fail
    go_ret
    exact ⟨rfl, (HE7.out.step hb8).bl⟩
theorem xw (a b : Nat) (ha : a ≤ 5000) (hb : b ≤ 2048) : 0 ≤ (a : Int) * (b : Int) ∧ (a : Int) * (b : Int) ≤ 10240000 := by
 have h1 : a * b ≤ 5000 * 2048 := Nat.mul_le_mul ha hb
 have e : (a : Int) * (b : Int) = ((a * b : Nat) : Int) := by push_cast; rfl
 rw [e]; omega
theorem vE (w : World) (hM : dc w) (ok : Nat → Prop) (l : List St) (sa : Int) (A : Option Addr) (c : Nat) (ha : StsAt w ok l A c) (hok : ∀ b, ok b → b < w.heap.size) (hws : ∀ s ∈ l, WSt s) (subj : Bs) (hsl : subj.length ≤ maxLen) :
 Calls Tryz.prog 17 #[iI l sa A c, .string (bs subj)] w fun e w' => e = .returned (.bool true) ∧ Below w.heap.size w w' := by
 have hlen := ha.len
 have HW := hid hws
 have HM := hid hM
 clear hws hM
 unfold maxLen at hsl
 have hsz0 : (bs subj).size = subj.length := by simp [bs, ByteArray.size]
 by_cases hbig : 5000 < (l.length : Int)
 · go_enter Tryz.func17, Tryz.ntmps17
   go_wp2_with fail
   exact bodyPost_ret (v := .bool true) (by simp [results, Tryz.results17, go_sem]) rfl ⟨rfl, nal⟩
 by_cases hbig2 : 1024 < (subj.length : Int)
 · go_enter Tryz.func17, Tryz.ntmps17
   go_wp2_with fail
   exact bodyPost_ret (v := .bool true) (by simp [results, Tryz.results17, go_sem]) rfl ⟨rfl, nal⟩
 obtain ⟨hm0, hm1⟩ := xw l.length subj.length (by omega) (by omega)
 by_cases hbig3 : 262144 < (l.length : Int) * (subj.length : Int)
 · go_enter Tryz.func17, Tryz.ntmps17
   go_wp2_with fail
   exact bodyPost_ret (v := .bool true) (by simp [results, Tryz.results17, go_sem]) rfl ⟨rfl, nal⟩
 go_enter Tryz.func17, Tryz.ntmps17
 go_wp2_with fail
 generalize hW : w.alloc _ = W0
 have hB0 : Below w.heap.size w W0 := by subst hW; exact nal
 have hsz : w.heap.size < W0.heap.size := by subst hW; simp
 have p0 : W0.cell? ⟨w.heap.size, 0, none⟩ = some (.slice A l.length c) := by subst hW; simp [go_sem]
 have p1 : W0.cell? ⟨w.heap.size, 1, none⟩ = some (.int .i64 sa) := by subst hW; simp [go_sem]
 clear hW
 refine (tV W0 ok l sa A c (ha.later hB0 hok) (fun b h => by have := hok b h; omega) (by omega)).mono ?_
 rintro e w1 ⟨A', c', rfl, hx, hb1⟩
 have hz1 := hb1.size
 have hB1 : Below w.heap.size w w1 := hB0.trans (hb1.mono (by omega))
 rw [← hb1.cell (p := ⟨w.heap.size, _, none⟩) hsz] at p0 p1
 have ha1 := ha.later hB1 hok
 have hlt1 : w.heap.size < w1.heap.size := by omega
 go_wp2_with fail
 generalize hW : w1.alloc _ = W
 have hb2 : Below w1.heap.size w1 W := by subst hW; exact nal
 have q0 : W.cell? ⟨w1.heap.size, 0, none⟩ = some (.slice A' l.length c') := by subst hW; simp [go_sem]
 have q1 : W.cell? ⟨w1.heap.size, 1, none⟩ = some (.int .i64 sa) := by subst hW; simp [go_sem]
 have hz2 : w1.heap.size < W.heap.size := by subst hW; simp
 clear hW
 rw [← hb2.cell (p := ⟨w.heap.size, _, none⟩) hlt1] at p0 p1
 have haW := ha1.later hb2 (fun b h => by have := hok b h; omega)
 have hxW := hx.later hb2 (fun b h => h.2)
 have hBW : Below w.heap.size w W := hB1.trans (hb2.mono (by omega))
 have okA : ∀ b, ok b → b < W.heap.size := fun b h => by have := hok b h; omega
 have okX : ∀ b, (W0.heap.size ≤ b ∧ b < w1.heap.size) → b < W.heap.size := fun b h => by omega
 have HA := hid haW; have HX := hid hxW; have OA := hid okA; have OX := hid okX; have HB := hid hBW
 have hsm := kN l sa
 clear haW hxW okA okX hBW ha1 hx ha hok hb1 hb2 hB1 hB0 hsz hz1
 have hB := Below.refl W.heap.size W
 have arm1 : ∀ w', Below W.heap.size W w' → Calls Tryz.prog 20 #[iI l sa A' c', .string (bs subj)] w' fun en w'' => en = .returned (.tuple #[.bool (dK l sa subj).1, .int .i64 (dK l sa subj).2.1, .int .i64 (dK l sa subj).2.2]) ∧ Below w'.heap.size w' w'' := fun w' h =>
  ic w' _ l sa A' c' (HX.out.take.later h OX.out) (fun b hb => Nat.lt_of_lt_of_le (OX.out b hb) h.size) subj
 have arm2 : ∀ w', Below W.heap.size W w' → Calls Tryz.prog 37 #[iI l sa A c, .string (bs subj)] w' fun en w'' => en = .returned (.tuple #[.bool (dK l sa subj).1, .int .i64 (dK l sa subj).2.1, .int .i64 (dK l sa subj).2.2]) ∧ Below w'.heap.size w' w'' := fun w' h =>
  pO w' _ l sa A c (HA.out.later h OA.out) (fun b hb => Nat.lt_of_lt_of_le (OA.out b hb) h.size) HW.out subj
 have arm3 : ∀ w', Below W.heap.size W w' → Calls Tryz.prog 38 #[iI l sa A' c', iI l sa A c] w' fun e w'' => e = .returned (.bool (fZ l sa l sa)) ∧ Below w'.heap.size w' w'' := fun w' h =>
  tZ w' (fun b => b < W.heap.size) l l sa sa A' A c' c ((HX.out.mono fun b hb => ⟨OX.out b hb, fun _ => rfl⟩).later h (fun b hb => hb)) ((HA.out.mono fun b hb => ⟨OA.out b hb, fun _ => rfl⟩).later h (fun b hb => hb)) (fun b hb => Nat.lt_of_lt_of_le hb h.size) (by omega)
 have Arm1 := hid arm1; have Arm2 := hid arm2; have Arm3 := hid arm3; have Hsm := hid hsm
 clear arm1 arm2 arm3 hsm
 generalize dK l sa subj = R at *
 obtain ⟨R1, R2, R3⟩ := R
 go_wp2_with fail
 refine (Arm1.out W hB).mono ?_
 rintro en w2 ⟨rfl, hb2⟩
 have hB2 := hB.trans hb2
 have hz2' := hb2.size
 rw [← hb2.cell (p := ⟨w.heap.size, _, none⟩) (by show w.heap.size < _; omega)] at p0 p1
 rw [← hb2.cell (p := ⟨w1.heap.size, _, none⟩) (by show w1.heap.size < _; omega)] at q0 q1
 clear hB hb2
 go_wp2_with fail
 refine (Arm1.out w2 hB2).mono ?_
 rintro en w3 ⟨rfl, hb3⟩
 have hB3 := hB2.trans (hb3.mono hz2')
 have hz3 := hb3.size
 rw [← hb3.cell (p := ⟨w.heap.size, _, none⟩) (by show w.heap.size < _; omega)] at p0 p1
 rw [← hb3.cell (p := ⟨w1.heap.size, _, none⟩) (by show w1.heap.size < _; omega)] at q0 q1
 clear hB2 hb3
 go_wp2_with fail
 refine (Arm2.out w3 hB3).mono ?_
 rintro en w4 ⟨rfl, hb4⟩
 have hB4 := hB3.trans (hb4.mono (by omega))
 have hz4 := hb4.size
 rw [← hb4.cell (p := ⟨w.heap.size, _, none⟩) (by show w.heap.size < _; omega)] at p0 p1
 rw [← hb4.cell (p := ⟨w1.heap.size, _, none⟩) (by show w1.heap.size < _; omega)] at q0 q1
 clear hB3 hb4
 go_wp2_with fail
 refine (Arm3.out w4 hB4).mono ?_
 rintro en w5 ⟨rfl, hb5⟩
 rw [Hsm.out]
 have hB5 := hB4.trans (hb5.mono (by omega))
 have hz5 := hb5.size
 go_wp2_with fail
 refine (bt w5 (HM.out.later (HB.out.trans (hB5.mono HB.out.size)))).mono ?_
 rintro en w6 ⟨rfl, hb6⟩
 go_wp2_with fail
 exact bodyPost_ret (v := .bool true) (by simp [results, Tryz.results17, go_sem]) rfl ⟨rfl, HB.out.trans ((hB5.trans (hb6.mono (by omega))).mono HB.out.size)⟩
theorem yH (a b : Bs) : bs a ++ bs b = bs (a ++ b) := by
 apply ByteArray.ext
 simp [bs]
theorem su (a b : Nat) (ha : a ≤ 5000) (hb : b ≤ 2048) : 0 ≤ (a : Int) * (b : Int) ∧ (a : Int) * (b : Int) ≤ 10240000 := by
 have h1 : a * b ≤ 5000 * 2048 := Nat.mul_le_mul ha hb
 have e : (a : Int) * (b : Int) = ((a * b : Nat) : Int) := by push_cast; rfl
 rw [e]; omega
theorem rk (w : World) (hM : dc w) (ok : Nat → Prop) (l : List St) (sa : Int) (A : Option Addr) (c : Nat) (ha : StsAt w ok l A c) (hok : ∀ b, ok b → b < w.heap.size) (subj : Bs) (hsl : subj.length ≤ maxLen) (more : Bs) (hml : more.length ≤ maxLen) :
 Calls Tryz.prog 18 #[iI l sa A c, .string (bs subj), .string (bs more)] w fun e w' => e = .returned (.bool true) ∧ Below w.heap.size w w' := by
 have HM := hid hM
 clear hM
 have hlen := ha.len
 unfold maxLen at hsl hml
 have hsz0 : (bs subj).size = subj.length := by simp [bs, ByteArray.size]
 have hsz1 : (bs more).size = more.length := by simp [bs, ByteArray.size]
 have hnew := ((Below.refl w.heap.size w).alloc (Nat.le_refl _) (.cells #[.slice A l.length c, .int .i64 sa] 33))
 by_cases hbig : 5000 < (l.length : Int)
 · go_enter Tryz.func18, Tryz.ntmps18
   go_wp2_with fail
   exact bodyPost_ret (v := .bool true) (by simp [results, Tryz.results18, go_sem]) rfl ⟨rfl, hnew⟩
 by_cases hbig2 : 1024 < (subj.length : Int)
 · go_enter Tryz.func18, Tryz.ntmps18
   go_wp2_with fail
   exact bodyPost_ret (v := .bool true) (by simp [results, Tryz.results18, go_sem]) rfl ⟨rfl, hnew⟩
 by_cases hbig4 : 1024 < (more.length : Int)
 · go_enter Tryz.func18, Tryz.ntmps18
   go_wp2_with fail
   exact bodyPost_ret (v := .bool true) (by simp [results, Tryz.results18, go_sem]) rfl ⟨rfl, hnew⟩
 obtain ⟨hm0, hm1⟩ := su l.length (subj.length + more.length) (by omega) (by omega)
 rw [Int.natCast_add] at hm0 hm1
 by_cases hbig3 : 262144 < (l.length : Int) * ((subj.length : Int) + (more.length : Int))
 · go_enter Tryz.func18, Tryz.ntmps18
   go_wp2_with fail
   exact bodyPost_ret (v := .bool true) (by simp [results, Tryz.results18, go_sem]) rfl ⟨rfl, hnew⟩
 have HA := hid ha; have Hok := hid hok
 clear ha hok hnew
 go_enter Tryz.func18, Tryz.ntmps18
 go_wp2_with fail
 generalize hW : w.alloc _ = W0
 have hB0 : Below w.heap.size w W0 := by subst hW; exact nal
 have hsz : w.heap.size < W0.heap.size := by subst hW; simp
 have P0 : At2 W0 w.heap.size (.slice A l.length c) sa := by subst hW; constructor <;> simp [go_sem]
 clear hW
 obtain ⟨p0, p1⟩ := id P0
 have hS0 := HA.out.later hB0 Hok.out
 have hok0 : ∀ b, ok b → b < W0.heap.size := fun b h => by have := Hok.out b h; omega
 have HS := hid hS0; have Hk0 := hid hok0; have HB0 := hid hB0
 clear hS0 hok0 hB0 HA Hok
 refine (ic W0 ok l sa A c HS.out Hk0.out subj).mono ?_
 rintro en w2 ⟨rfl, hb2⟩
 have hz2 := hb2.size
 obtain ⟨p0, p1⟩ := P0.later hb2 hsz
 have HB2 := hid hb2
 clear hb2
 go_wp2_with fail
 refine (ld w2 ok l sa A c (HS.out.later HB2.out Hk0.out) (fun b h => by have := Hk0.out b h; omega)).mono ?_
 rintro en w3 ⟨rfl, hb3⟩
 have hB3 := HB2.out.trans (hb3.mono hz2)
 have hz3 := hB3.size
 obtain ⟨p0, p1⟩ := P0.later hB3 hsz
 have HB3 := hid hB3
 clear hB3 hb3 HB2
 by_cases hck : bB l sa = 0
 case' neg =>
  have h110 : bB l sa = 110 := by
   unfold bB at hck ⊢
   split
   · split
     · rename_i h1 h2; exact absurd (by rw [if_pos h1, if_pos h2]) hck
     · rfl
   · rfl
  have hres : dK l sa subj = (false, 0, 110) := by unfold dK; rw [if_pos hck, h110]
  rw [hres, h110]
  clear hres hck
  go_wp2_with fail
  refine (bt w3 (HM.out.later (HB0.out.trans (HB3.out.mono (by omega))))).mono ?_
  rintro en w6 ⟨rfl, hb6⟩
  go_wp2_with fail
  exact bodyPost_ret (v := .bool true) (by simp [results, Tryz.results18, go_sem]) rfl ⟨rfl, HB0.out.trans ((HB3.out.trans (hb6.mono hz3)).mono (by omega))⟩
 have hm := pr hck
 have hl0 : 0 < l.length := by have := hm.start; omega
 have h4 := hm.len
 have hres : dK l sa subj = ((bF l sa subj (subj.length + 1) 0 [] 0).1, (bF l sa subj (subj.length + 1) 0 [] 0).2, 0) := by rw [dK, if_neg (by simpa using hck), if_neg (by omega)]
 have hres2 : dK l sa (subj ++ more) = ((bF l sa (subj ++ more) (subj.length + 1 + more.length) 0 [] 0).1, (bF l sa (subj ++ more) (subj.length + 1 + more.length) 0 [] 0).2, 0) := by
  rw [dK, if_neg (by simpa using hck), if_neg (by simp; omega), List.length_append, show subj.length + more.length + 1 = subj.length + 1 + more.length by omega]
 obtain ⟨hb1, hb2⟩ := sp hm subj (subj.length + 1) 0 [] 0 (by simp)
 have hb2 := hb2 (by omega)
 have hmore := fun h => nw (l := l) (sa := sa) h subj more (subj.length + 1) 0 [] 0 (by omega) (fun _ => rfl)
 obtain ⟨hn0, hn1⟩ := su l.length (subj.length + 1) (by omega) (by omega)
 rw [Int.natCast_add, Int.natCast_one] at hn0 hn1
 have hb1' : (bF l sa subj (subj.length + 1) 0 [] 0).2 ≤ (l.length : Int) * ((subj.length : Int) + 1) := by
  rw [Int.natCast_add, Int.natCast_one, Int.mul_comm, Int.zero_add] at hb1
  exact hb1
 rw [hres, hck]
 have Hmore := hid hmore; have Hres2 := hid hres2; have HMK := hid hm
 clear hmore hres2 hm hres hck hb1
 generalize bF l sa subj (subj.length + 1) 0 [] 0 = R at *
 generalize bF l sa (subj ++ more) (subj.length + 1 + more.length) 0 [] 0 = R' at *
 obtain ⟨R1, n⟩ := R
 obtain ⟨R1', n'⟩ := R'
 simp only at hb1' hb2
 have hb2 : 1 ≤ n := by omega
 go_wp2_with fail
 go_loopg [10] l.length (fun k v wr => ∃ i : Nat, v = .int .i64 (i : Int) ∧ i + k = l.length ∧ wr = w3 ∧ ∀ p, p < i → (stN l p).k ≠ 4)
 case atStart => exact ⟨0, rfl, by omega, rfl, fun p hp => by omega⟩
 case round =>
  obtain ⟨i, rfl, hi, rfl, hno⟩ := hrel
  have Hno := hid hno
  clear hno
  by_cases hlt : i < l.length
  case' pos =>
   obtain ⟨gm, om, rfl, hgm, hst7⟩ := (HS.out.later HB3.out Hk0.out).at_ hl0
   have hgl := Hk0.out gm hgm
   have f0 := (hst7 i hlt).f0
   have hsN : l[i] = stN l i := by unfold stN; rw [List.getD_eq_getElem?_getD, List.getElem?_eq_getElem hlt]; rfl
   rw [hsN] at f0
   have hcap := HS.out.cap
   clear hst7 hsN
   by_cases hk : (stN l i).k = 4
   case' pos =>
    rw [hk] at f0
    clear hk
    go_wp2_with fail
    refine (bt wr (HM.out.later (HB0.out.trans ((HB3.out.mono (by omega)))))).mono ?_
    rintro en w6 ⟨rfl, hb6⟩
    go_wp2_with fail
    exact bodyPost_ret (v := .bool true) (by simp [results, Tryz.results18, go_sem]) rfl ⟨rfl, HB0.out.trans ((HB3.out.trans (hb6.mono hz3)).mono (by omega))⟩
   case' neg =>
    have hkb : ((stN l i).k == 4) = false := by simpa using hk
    have Hk := hid hk
    clear hk
    go_wp2_with fail
    go_roundg (gk - 1)
    case measure => omega
    case rel => exact ⟨i + 1, by go_num, by omega, rfl, fun p hp => by (by_cases e : p = i; (subst e; exact Hk.out); exact Hno.out p (by omega))⟩
  case' neg =>
   obtain ⟨hge, himp⟩ := Hmore.out (fun p hp => Hno.out p (by omega))
   try simp only at hge himp
   have hcat := yH subj more
   go_wp2_with fail
   refine (ic wr ok l sa A c (HS.out.later HB3.out Hk0.out) (fun b h => by have := Hk0.out b h; omega) (subj ++ more)).mono ?_
   rintro en w6 ⟨rfl, hb6⟩
   rw [Hres2.out]
   have hz6 := hb6.size
   have hB6 := HB0.out.trans ((HB3.out.trans (hb6.mono hz3)).mono (by omega))
   cases R1 with
   | false =>
    clear himp
    go_wp2_with fail
    refine (bt w6 (HM.out.later hB6)).mono ?_
    rintro en w7 ⟨rfl, hb7⟩
    go_wp2_with fail
    exact bodyPost_ret (v := .bool true) (by simp [results, Tryz.results18, go_sem]) rfl ⟨rfl, hB6.trans (hb7.mono hB6.size)⟩
   | true =>
    obtain ⟨e1, e2⟩ := himp rfl
    clear himp
    subst e1; subst e2
    go_wp2_with fail
    refine (bt w6 (HM.out.later hB6)).mono ?_
    rintro en w7 ⟨rfl, hb7⟩
    go_wp2_with fail
    exact bodyPost_ret (v := .bool true) (by simp [results, Tryz.results18, go_sem]) rfl ⟨rfl, hB6.trans (hb7.mono hB6.size)⟩
theorem vD : KSS 13 := fun w h x y hx hy => ro w h.mx x (by unfold maxLen; omega) y (by unfold maxLen; omega)
theorem vC : yO 14 := fun w h x y z hx hy hz => rn w h.mx x (by unfold maxLen; omega) y (by unfold maxLen; omega) z (by unfold maxLen; omega)
theorem vB : yO 15 := fun w h x y z hx hy hz => rl w h.mx h.tb x (by unfold maxLen; omega) y (by unfold maxLen; omega) z (by unfold maxLen; omega)
theorem mi : K0 16 := fun w h => bt w h.mx
theorem yv : KM 17 := fun w h l sa A c hl hw x hx => vE w h.mx _ l sa A c hl (fun b hb => hb) hw x (by unfold maxLen; omega)
theorem vA : KMS 18 := fun w h l sa A c hl hw x y hx hy => rk w h.mx _ l sa A c hl (fun b hb => hb) x (by unfold maxLen; omega) y (by unfold maxLen; omega)
theorem rm (w : World) (hM : dc w) (hT : ep w.heap.size w) : Calls Tryz.prog 3 #[] w fun e w' => e = .returned (.bool true) ∧ Below w.heap.size w w' := by
 have HE := hid (KEnv.mk hM hT)
 have H1 := hid (oO vD vC vB mi)
 have H2 := hid (tX yv vA mi)
 have H3 := hid (rt mi)
 clear hM hT
 go_enter Tryz.func3, Tryz.ntmps3
 go_wp2_with fail
 refine (H1.out w HE.out).mono ?_
 rintro e w1 ⟨rfl, hb1⟩
 have HB1 := hid hb1
 clear hb1
 go_wp2_with fail
 refine (H2.out w1 (HE.out.step HB1.out)).mono ?_
 rintro e w2 ⟨rfl, hb2⟩
 have HB2 := hid (HB1.out.trans (hb2.mono HB1.out.size))
 clear hb2
 go_wp2_with fail
 refine (H3.out w2 (HE.out.step HB2.out)).mono ?_
 rintro e w3 ⟨rfl, hb3⟩
 go_wp2_with fail
 go_ret
 exact ⟨rfl, HB2.out.trans (hb3.mono HB2.out.size)⟩
end Go.Proofs.YthlakbjnmbddaaaGreatDoor
namespace Go.Proofs.YthlakbjnmbddaaaGreatDoor
open Lib (hid)
open Go.RowKit Go.ChangeShapes Go.WideShapes Go.Deep
section
variable {H : Type} {enc : TypeId × Value → H} {P : Program} {tSt tSts tNfa tSet tI tU tN tNs : TypeId} {w : World} {base : Nat} {spare : Nat → Bool} {held : Bool}
structure TypesT (P : Program) (tN tNs tSet tI : TypeId) : Prop where
 ns : P.underlying tNs = some (.slice tN)
 n : ∃ f0 f1 f2 f3 f4, P.underlying tN = some (.struct #[f0, f1, f2, f3, f4]) ∧ (f0.type = tI ∧ f0.offset = 0) ∧ (f1.type = tSet ∧ f1.offset = 1) ∧ (f2.type = tI ∧ f2.offset = 5) ∧ (f3.type = tI ∧ f3.offset = 6) ∧ (f4.type = tNs ∧ f4.offset = 7)
 cN : P.cellsOf tN = 8
 cNs : P.cellsOf tNs = 1
 bN : P.bytesOf tN = 80
end
end Go.Proofs.YthlakbjnmbddaaaGreatDoor
namespace Go.Proofs.YthlakbjnmbddaaaGreatDoor
open Lib (hid)
open Go.RowKit
section
variable {H : Type} {enc : TypeId × Value → H}
theorem oR {a : Assume} {C : Checked} {os : Os} {f : FuncId} {fn : Func} {s : ChangeSpec} {conds : List PathCond} {apart fresh handsOn again : Bool} {X : World → Prop}
 (hX : ∀ (w w' : World), w.heap = w'.heap → X w → X w')
 (own : ownKnob C.prog.godebug = none) (started : os.Started) (noInit : C.prog.inits.idxOf? f = none) (hfn : C.prog.funcs[f]? = some fn)
 (witness : ∃ (w : World) (tape : Tape) (i : Input), w.os = os ∧ (w.forCall tape i).Shaped C.prog ∧ i.vars = [] ∧ Input.okWide C.prog (w.forCall tape i) .any w.heap.size f i ∧
  ((s.pre enc C.prog fn conds apart (w.forCall tape i).memory i.args ∧ X (w.forCall tape i).memory) ∧ sizedMet enc C.prog fn (OpenSpec.ofChange s) apart (w.forCall tape i).memory i.args) ∧ a.holds C.prog (lone (Frame.enter C.prog f i.args .normal) [] (w.forCall tape i)))
 (contract : ∀ (W : World) (args : Array Value) (ds gs : List (DataW H)) (before : List MemPlace) (base : Nat),
  (∀ (j : Nat) t v, fn.params[j]? = some t → args[j]? = some v → Value.okWide C.prog W .any base t v) →
  DataW.Whole enc C.prog fn.params.toList s.vars apart W args.toList ds gs before →
  (DataW.weightsEach C.prog (fn.params.toList ++ s.plain.varTypes C.prog) (ds ++ gs)).all (· ≤ reachBytes) = true → X W → W.ShapedOpen C.prog →
  Calls C.prog f args W fun e W' => ∃ v, e = .returned v ∧ s.post enc C.prog fn apart fresh handsOn again W args v W') :
 ReturnsInHanded a C os f .any (fun w args => (s.pre enc C.prog fn conds apart w args ∧ X w) ∧ sizedMet enc C.prog fn (OpenSpec.ofChange s) apart w args) (s.post enc C.prog fn apart fresh handsOn again) := by
 refine returnsInHanded_of_calls own started noInit witness ?_
 intro w tape i _ hshape _ hin hpre _
 obtain ⟨_, _, _, fn', hfn', _, _, _, _, hvals⟩ := hin
 obtain rfl : fn' = fn := Option.some.inj (hfn'.symm.trans hfn)
 obtain ⟨⟨⟨ds, gs, before, hW, _⟩, hx⟩, hsz⟩ := hpre
 refine (contract (w.forCall tape i) i.args ds gs before w.heap.size hvals (DataW.Whole.of_heap (w' := w.forCall tape i) (by rfl) hW) (hsz.weights hW) (hX _ _ (by rfl) hx) hshape).mono ?_
 rintro e W' ⟨v, rfl, hpost⟩
 exact ChangeSpec.post_blind hpost
end
def mP : List (String × DataW Unit) := [("math/bits.deBruijn32tab", Rows.laid_math_bits_deBruijn32tab), ("math/bits.deBruijn64tab", Rows.laid_math_bits_deBruijn64tab), ("internal/strconv.uint64pow10", Rows.laid_internal_strconv_uint64pow10)]
theorem vm : (Rows.laid_internal_strconv_uint64pow10 : DataW Unit) = Lib.tabData .u64 Lib.pow10Tab := by kernel_rfl
theorem oA {W : World} (h : laidMetH Tryz.prog mP W) : ep W.heap.size W := by
 rw [MakeChecks.laidMetH_plain _ _ _ (by kernel_rfl)] at h
 have h2 := (laidMet.tail (laidMet.tail h))
 rw [vm] at h2
 have hT := Lib.tabIs_of_head (g := 1) (t := 158) (e := 26) (n := 20) (by kernel_rfl) (by kernel_rfl) (by kernel_rfl) (by kernel_rfl) (by kernel_rfl) (by kernel_rfl) h2
 refine ⟨hT, fun g hg => ?_⟩
 unfold Lib.TabIs World.var? at hT
 rw [hg, Option.bind_some] at hT
 rcases Nat.lt_or_ge g W.heap.size with h | h
 · exact h
 · rw [show W.heap[g]? = none from Array.getElem?_eq_none h] at hT
   cases hT
theorem rr (os : Os) (args : Array Value) : laidMetH Tryz.prog mP ((World.laidAll Tryz.prog os mP).forCall (fun _ _ => 0) ⟨#[], args, []⟩).memory := by
 rw [MakeChecks.laidMetH_plain _ _ _ (by kernel_rfl)]
 exact laidMet_laidAll _ (by kernel_rfl) (by kernel_rfl)
theorem oP (os : Os) (args : Array Value) : ((World.laidAll Tryz.prog os mP).forCall (fun _ _ => 0) ⟨#[], args, []⟩).Shaped Tryz.prog := World.shaped_of_ZipB (by kernel_rfl) (by kernel_rfl)
end Go.Proofs.YthlakbjnmbddaaaGreatDoor
namespace Go.Proofs.YthlakbjnmbddaaaGreatDoor
open Lib (hid)
open Go.ChangeShapes Go.WideShapes Go.ChangeAt Go.RowKit
open Go.ChangeMaps (open_string shut_string)
theorem own : ownKnob Tryz.prog.godebug = none := by kernel_rfl
theorem iw (os : Os) (started : os.Started) (H : Type) (enc : TypeId × Value → H) :
 ReturnsInHanded {} Tryz.checked os 3 .any (fun w args => (Rows.matchKnownSpec.pre enc Tryz.prog Tryz.f3 Rows.matchKnownRow.domain false w args ∧ laidMetH Tryz.prog mP w) ∧ sizedMet enc Tryz.prog Tryz.f3 (OpenSpec.ofChange Rows.matchKnownSpec) false w args) (Rows.matchKnownSpec.post enc Tryz.prog Tryz.f3 false true false false) := by
 refine oR (C := Tryz.checked) (X := fun w => laidMetH Tryz.prog mP w) (fun _ _ hh h => h.of_heap hh) own started (by kernel_rfl) Tryz.func3
  (ChangeSpec.witness_shaped (enc := enc) (C := Tryz.checked) (os := os) (X := fun w _ => laidMetH Tryz.prog mP w) false (World.laidAll Tryz.prog os mP) #[] 8 (World.laidAll_os _ _ _) (oP os _) (by kernel_rfl) (by kernel_rfl) (by kernel_rfl) (rr os _)) ?_
 intro W args ds gs before base hval0 hW hwz hL hsh
 have hM : dc W := Tryz.laysM219.s1_3 W hsh
 have hT : ep W.heap.size W := oA hL
 have hval : ∀ (j : Nat) t v, Tryz.f3.params[j]? = some t → args[j]? = some v → Value.okWide Tryz.prog W .any base t v := hval0
 have hW' := hW
 obtain ⟨p, q, hA0, hV, rfl, hfz, hnd⟩ := hW
 have hA : DataW.TrodAll enc Tryz.prog W 0 (fun _ => true) true Tryz.f3.params.toList args.toList ds p := hA0
 have hwz' : (DataW.weightsEach Tryz.prog (Tryz.f3.params.toList ++ Rows.matchKnownSpec.plain.varTypes Tryz.prog) (ds ++ gs)).all (· ≤ reachBytes) = true := hwz
 rw [Tryz.params3] at hA hval hwz'
 obtain ⟨hargs, rfl, rfl⟩ := trodAll_nil hA
 obtain rfl : args = #[] := by cases args; simp_all
 obtain ⟨rfl, rfl⟩ := trodVars_none hV
 clear hA0 hval0 hwz hwz'
 have hcall := rm W hM hT
 refine hcall.mono fun e W' ⟨he, bel⟩ => ?_
 subst he
 exact ⟨_, rfl, _, _, _, [], _, [], hW', trodAll_mk1 (shut_bool Tryz.underlying4 _), trodAll_mk0, rfl, bel.frame _, fun h => by cases h⟩
theorem kj : Rows.matchKnownRow.holds Tryz.pinned (OpenSpec.ofChange Rows.matchKnownSpec) :=
 OpenClaim.holds_of_wide 3 Tryz.f3 rfl rfl rfl rfl rfl rfl rfl ⟨rfl, rfl, rfl, rfl, rfl⟩ rfl rfl rfl rfl rfl (by kernel_rfl) Tryz.func3 (by kernel_rfl)
  (of_decide_eq_true (by kernel_rfl)) (by unfold Func.isWrapper; first | (rw [if_pos (by decide +kernel)]; kernel_rfl) | (rw [if_neg (by decide +kernel)]; exact ⟨rfl, rfl⟩))
  (fun os started H enc _ => iw os started H enc)
theorem matchKnown_holds : Rows.MatchKnownCardSaid :=
 Claim7.holds_tied_plain_at .later [] [.data, .data, .data] true (true, "ea75806a8f15080a3f5ef3fcf2a6150eddcf08482ab2a6250ba1a3dc45a4f509") false
  kj (fun _ h => by cases h) (by kernel_rfl) (fun _ h => by cases h) matchKnown_row_tie rfl ⟨rfl, rfl⟩ (by kernel_rfl) rfl
  (fun f fn hf hfn => by
   obtain rfl : f = 3 := Option.some.inj ((show Tryz.prog.funcNamed "vouch/vouchlaw12.MatchKnown" = some 3 by kernel_rfl).symm.trans hf) |>.symm
   obtain rfl : fn = Tryz.f3 := (Option.some.inj (Tryz.func3.symm.trans hfn)).symm
   exact ⟨by kernel_rfl, fun j t ht => by
    rw [Tryz.params3] at ht
    simp at ht⟩)
  (by kernel_rfl)
end Go.Proofs.YthlakbjnmbddaaaGreatDoor
