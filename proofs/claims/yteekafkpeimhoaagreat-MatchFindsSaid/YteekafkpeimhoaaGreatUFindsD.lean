/- Merged texts, part of the proof Finds: Bits, PrL, Qd, Where, Fns, AnyI, Clss, BrA, Shelf, BrB, BrW, Item, Brack, Qe. -/
import Derived.Test.YteekafkpeimhoaaGreatUFindsA
import Derived.Test.YteekafkpeimhoaaGreatUFindsB
import Derived.Test.YteekafkpeimhoaaGreatUFindsC
import Derived.Laws.BitsAllLaws
import Derived.RegionTactic
import Derived.MapKept
import Derived.Laws.EntriesVeiled
import Derived.Shelf.Strings.Search1
import Derived.Shelf.Strings.Search2
import Derived.Shelf.Strings.Cut
import Derived.Shelf.LaysM
import Derived.Shelf.Strings.Shaped
import Derived.Test.YteekafkpeimhoaaGreatProg
import Derived.Laws.Bits64
/- Sets of bytes as four words: which byte is in, of each way of making one. Plain. -/
set_option linter.unusedVariables false
set_option linter.unusedSimpArgs false
namespace Go.Proofs.YteekafkpeimhoaaGreat
open Go.RowKit

def In64 (x : Int) : Prop := 0 ≤ x ∧ x < 18446744073709551616
structure Wok (s : W4) : Prop where
  a : In64 s.a
  b : In64 s.b
  c : In64 s.c
  d : In64 s.d
def W4.at (s : W4) (c : Nat) : Int := if c < 64 then s.a else if c < 128 then s.b else if c < 192 then s.c else s.d
/-- Is a byte in a set? -/
def W4.has (s : W4) (c : Nat) : Bool := (s.at c).toNat.testBit (c % 64)
theorem Wok.at {s : W4} (h : Wok s) (c : Nat) : In64 (s.at c) := by
  unfold W4.at; split
  · exact h.a
  split
  · exact h.b
  split
  · exact h.c
  · exact h.d
theorem wok0 : Wok w40 := ⟨⟨by decide, by decide⟩, ⟨by decide, by decide⟩, ⟨by decide, by decide⟩, ⟨by decide, by decide⟩⟩
theorem has0 (c : Nat) : w40.has c = false := by
  have : w40.at c = 0 := by unfold W4.at w40; split <;> (try rfl); split <;> (try rfl); split <;> rfl
  unfold W4.has; rw [this]; simp
theorem pow_in {k : Nat} (h : k < 64) : In64 (2 ^ k) := by
  have h1 : (2 : Nat) ^ k < 2 ^ 64 := Nat.pow_lt_pow_right (by omega) h
  have e : ((2 : Int) ^ k) = ((2 ^ k : Nat) : Int) := by push_cast; rfl
  rw [e]
  generalize (2 : Nat) ^ k = p at *
  exact ⟨by omega, by omega⟩
theorem orI_eq {x y : Int} (hx : In64 x) (hy : In64 y) : orI x y = ((x.toNat ||| y.toNat : Nat) : Int) := u64_or x y hx.1 hx.2 hy.1 hy.2
theorem orI_in {x y : Int} (hx : In64 x) (hy : In64 y) : In64 (orI x y) := by
  rw [orI_eq hx hy]
  have : x.toNat ||| y.toNat < 2 ^ 64 := Nat.or_lt_two_pow (by have := hx.2; omega) (by have := hy.2; omega)
  exact ⟨by omega, by omega⟩
theorem orI_bit {x y : Int} (hx : In64 x) (hy : In64 y) (k : Nat) : (orI x y).toNat.testBit k = (x.toNat.testBit k || y.toNat.testBit k) := by
  rw [orI_eq hx hy, Int.toNat_natCast, Nat.testBit_or]
theorem pow_bit (k j : Nat) : ((2 : Int) ^ k).toNat.testBit j = decide (k = j) := by
  have e : ((2 : Int) ^ k) = ((2 ^ k : Nat) : Int) := by push_cast; rfl
  rw [e, Int.toNat_natCast, Nat.testBit_two_pow]
theorem notI_in {x : Int} (hx : In64 x) : In64 (notI x) := by unfold notI; have := hx.1; have := hx.2; exact ⟨by omega, by omega⟩
theorem notI_bit {x : Int} (hx : In64 x) (k : Nat) (hk : k < 64) : (notI x).toNat.testBit k = !x.toNat.testBit k := by
  have h0 := hx.1; have h1 := hx.2
  have e : (notI x).toNat = 2 ^ 64 - (x.toNat + 1) := by unfold notI; omega
  rw [e, Nat.testBit_two_pow_sub_succ (by omega)]
  simp [hk]
theorem word_ext {x y : Int} (hx : In64 x) (hy : In64 y) (h : ∀ k, k < 64 → x.toNat.testBit k = y.toNat.testBit k) : x = y := by
  have : x.toNat = y.toNat := by
    refine Nat.eq_of_testBit_eq fun k => ?_
    rcases Nat.lt_or_ge k 64 with hk | hk
    · exact h k hk
    · have h1 : x.toNat < 2 ^ k := Nat.lt_of_lt_of_le (by have := hx.2; omega) (Nat.pow_le_pow_right (n := 2) (by omega) hk)
      have h2 : y.toNat < 2 ^ k := Nat.lt_of_lt_of_le (by have := hy.2; omega) (Nat.pow_le_pow_right (n := 2) (by omega) hk)
      rw [Nat.testBit_lt_two_pow h1, Nat.testBit_lt_two_pow h2]
  have := hx.1; have := hy.1
  omega
/-- A set is what it has. -/
theorem W4.ext' {s t : W4} (hs : Wok s) (ht : Wok t) (h : ∀ c, c < 256 → s.has c = t.has c) : s = t := by
  obtain ⟨a, b, c, d⟩ := s
  obtain ⟨a', b', c', d'⟩ := t
  have e1 : a = a' := word_ext hs.a ht.a fun k hk => by
    have := h k (by omega)
    simpa [W4.has, W4.at, hk, Nat.mod_eq_of_lt hk] using this
  have e2 : b = b' := word_ext hs.b ht.b fun k hk => by
    have := h (64 + k) (by omega)
    simpa [W4.has, W4.at, show ¬ 64 + k < 64 by omega, show 64 + k < 128 by omega, show (64 + k) % 64 = k by omega, Nat.mod_eq_of_lt hk] using this
  have e3 : c = c' := word_ext hs.c ht.c fun k hk => by
    have := h (128 + k) (by omega)
    simpa [W4.has, W4.at, show ¬ 128 + k < 64 by omega, show ¬ 128 + k < 128 by omega, show 128 + k < 192 by omega, show (128 + k) % 64 = k by omega, Nat.mod_eq_of_lt hk] using this
  have e4 : d = d' := word_ext hs.d ht.d fun k hk => by
    have := h (192 + k) (by omega)
    simpa [W4.has, W4.at, show ¬ 192 + k < 64 by omega, show ¬ 192 + k < 128 by omega, show ¬ 192 + k < 192 by omega, show (192 + k) % 64 = k by omega, Nat.mod_eq_of_lt hk] using this
  subst e1; subst e2; subst e3; subst e4; rfl
theorem add_ok {s : W4} (h : Wok s) (c : Nat) (hc : c < 256) : Wok (s.add c) := by
  unfold W4.add
  split
  · exact ⟨orI_in h.a (pow_in (by omega)), h.b, h.c, h.d⟩
  split
  · exact ⟨h.a, orI_in h.b (pow_in (by omega)), h.c, h.d⟩
  split
  · exact ⟨h.a, h.b, orI_in h.c (pow_in (by omega)), h.d⟩
  · exact ⟨h.a, h.b, h.c, orI_in h.d (pow_in (by omega))⟩
theorem dec_iff {p q : Prop} [Decidable p] [Decidable q] (h : p ↔ q) : decide p = decide q := by simp [h]
theorem add_has {s : W4} (h : Wok s) (c x : Nat) (hc : c < 256) (hx : x < 256) : (s.add c).has x = (decide (x = c) || s.has x) := by
  unfold W4.add W4.has W4.at
  by_cases c1 : c < 64
  · rw [if_pos c1]
    by_cases x1 : x < 64
    · simp only [if_pos x1]
      rw [orI_bit h.a (pow_in (by omega)), pow_bit, Bool.or_comm, dec_iff (show c = x % 64 ↔ x = c by omega)]
    · simp only [if_neg x1]
      rw [show decide (x = c) = false by simp; omega, Bool.false_or]
  rw [if_neg c1]
  by_cases c2 : c < 128
  · rw [if_pos c2]
    by_cases x1 : x < 64
    · simp only [if_pos x1]
      rw [show decide (x = c) = false by simp; omega, Bool.false_or]
    by_cases x2 : x < 128
    · simp only [if_neg x1, if_pos x2]
      rw [orI_bit h.b (pow_in (by omega)), pow_bit, Bool.or_comm, dec_iff (show c - 64 = x % 64 ↔ x = c by omega)]
    · simp only [if_neg x1, if_neg x2]
      rw [show decide (x = c) = false by simp; omega, Bool.false_or]
  rw [if_neg c2]
  by_cases c3 : c < 192
  · rw [if_pos c3]
    by_cases x1 : x < 64
    · simp only [if_pos x1]
      rw [show decide (x = c) = false by simp; omega, Bool.false_or]
    by_cases x2 : x < 128
    · simp only [if_neg x1, if_pos x2]
      rw [show decide (x = c) = false by simp; omega, Bool.false_or]
    by_cases x3 : x < 192
    · simp only [if_neg x1, if_neg x2, if_pos x3]
      rw [orI_bit h.c (pow_in (by omega)), pow_bit, Bool.or_comm, dec_iff (show c - 128 = x % 64 ↔ x = c by omega)]
    · simp only [if_neg x1, if_neg x2, if_neg x3]
      rw [show decide (x = c) = false by simp; omega, Bool.false_or]
  · rw [if_neg c3]
    by_cases x1 : x < 64
    · simp only [if_pos x1]
      rw [show decide (x = c) = false by simp; omega, Bool.false_or]
    by_cases x2 : x < 128
    · simp only [if_neg x1, if_pos x2]
      rw [show decide (x = c) = false by simp; omega, Bool.false_or]
    by_cases x3 : x < 192
    · simp only [if_neg x1, if_neg x2, if_pos x3]
      rw [show decide (x = c) = false by simp; omega, Bool.false_or]
    · simp only [if_neg x1, if_neg x2, if_neg x3]
      rw [orI_bit h.d (pow_in (by omega)), pow_bit, Bool.or_comm, dec_iff (show c - 192 = x % 64 ↔ x = c by omega)]
theorem or_ok {s t : W4} (h : Wok s) (k : Wok t) : Wok (s.or t) := ⟨orI_in h.a k.a, orI_in h.b k.b, orI_in h.c k.c, orI_in h.d k.d⟩
theorem or_has {s t : W4} (h : Wok s) (k : Wok t) (x : Nat) : (s.or t).has x = (s.has x || t.has x) := by
  unfold W4.or W4.has W4.at
  by_cases x1 : x < 64
  · simp only [if_pos x1]; exact orI_bit h.a k.a _
  by_cases x2 : x < 128
  · simp only [if_neg x1, if_pos x2]; exact orI_bit h.b k.b _
  by_cases x3 : x < 192
  · simp only [if_neg x1, if_neg x2, if_pos x3]; exact orI_bit h.c k.c _
  · simp only [if_neg x1, if_neg x2, if_neg x3]; exact orI_bit h.d k.d _
theorem not_ok {s : W4} (h : Wok s) : Wok s.not := ⟨notI_in h.a, notI_in h.b, notI_in h.c, notI_in h.d⟩
theorem not_has {s : W4} (h : Wok s) (x : Nat) : s.not.has x = !s.has x := by
  unfold W4.not W4.has W4.at
  by_cases x1 : x < 64
  · simp only [if_pos x1]; exact notI_bit h.a _ (by omega)
  by_cases x2 : x < 128
  · simp only [if_neg x1, if_pos x2]; exact notI_bit h.b _ (by omega)
  by_cases x3 : x < 192
  · simp only [if_neg x1, if_neg x2, if_pos x3]; exact notI_bit h.c _ (by omega)
  · simp only [if_neg x1, if_neg x2, if_neg x3]; exact notI_bit h.d _ (by omega)
theorem adds_spec : ∀ (l : List Nat) {s : W4}, Wok s → (∀ c ∈ l, c < 256) → Wok (l.foldl W4.add s) ∧ ∀ x, x < 256 → (l.foldl W4.add s).has x = (s.has x || decide (x ∈ l))
  | [], s, h, _ => ⟨h, fun x _ => by simp⟩
  | c :: l, s, h, hl => by
    obtain ⟨h1, h2⟩ := adds_spec l (add_ok h c (hl c (List.mem_cons_self ..))) (fun x hx => hl x (List.mem_cons_of_mem _ hx))
    refine ⟨h1, fun x hx => ?_⟩
    rw [List.foldl_cons, h2 x hx, add_has h c x (hl c (List.mem_cons_self ..)) hx]
    simp only [List.mem_cons, Bool.decide_or]
    cases s.has x <;> simp
theorem span_spec {s : W4} (h : Wok s) (f n : Nat) (hn : f + n ≤ 256) : Wok (s.span f n) ∧ ∀ x, x < 256 → (s.span f n).has x = (s.has x || (decide (f ≤ x) && decide (x < f + n))) := by
  obtain ⟨h1, h2⟩ := adds_spec (List.range' f n) h (fun c hc => by simp at hc; omega)
  refine ⟨h1, fun x hx => ?_⟩
  rw [W4.span, h2 x hx, dec_iff (show x ∈ List.range' f n ↔ f ≤ x ∧ x < f + n by simp), Bool.decide_and]
def T.w4 (t : T) : W4 := ⟨t.s0, t.s1, t.s2, t.s3⟩
/-- What may stand in a node: its set's words are in range. -/
inductive Words : T → Prop where
  | mk (t : T) : Wok t.w4 → (∀ p ∈ t.ps, Words p) → Words t
theorem Words.w {t : T} (h : Words t) : Wok t.w4 := by cases h; assumption
theorem Words.p {t : T} (h : Words t) : ∀ p ∈ t.ps, Words p := by cases h; assumption
theorem in64_wf {n : Int} (h : (Lit.int .u64 n).wf = true) : In64 n := by
  simp [Lit.wf, IntKind.min, IntKind.max, IntKind.signed, IntKind.bits] at h
  exact ⟨h.1, by have := h.2; omega⟩
/-- The same bit, as the matcher asks for it. -/
theorem has_div {s : W4} (h : Wok s) (c : Nat) : s.has c = ((s.at c) / 2 ^ (c % 64) % 2 == 1) := by
  obtain ⟨h0, h1⟩ := h.at c
  unfold W4.has
  generalize s.at c = x at *
  obtain ⟨n, rfl⟩ : ∃ n : Nat, x = n := ⟨x.toNat, by omega⟩
  rw [Int.toNat_natCast, Nat.testBit_eq_decide_div_mod_eq]
  have e : ((n : Int) / 2 ^ (c % 64) % 2) = ((n / 2 ^ (c % 64) % 2 : Nat) : Int) := by push_cast; rfl
  rw [e, Bool.eq_iff_iff, decide_eq_true_eq, beq_iff_eq]
  omega
end Go.Proofs.YteekafkpeimhoaaGreat

/- Trees as texts, plain; sets in brackets read back. -/
set_option linter.unusedVariables false
set_option linter.unusedSimpArgs false
namespace Go.Proofs.YteekafkpeimhoaaGreat
open Go.RowKit

/-- A byte within a bracket. -/
def memT (c : Nat) : Bs := if c = 93 ∨ c = 91 ∨ c = 94 ∨ c = 45 then [91, 46, UInt8.ofNat c, 46, 93] else [UInt8.ofNat c]
def specB (c : Nat) : Bool := decide (c ∈ [92, 94, 46, 91, 36, 40, 41, 124, 42, 43, 63, 123])
/-- How many stand behind, each by one more. -/
def runN : Nat → List Nat → Nat
  | _, [] => 0
  | c, d :: t => if d = c + 1 then 1 + runN d t else 0
def runsT : Nat → List Nat → Bs
  | 0, _ => []
  | _ + 1, [] => []
  | k + 1, c :: t => memT c ++ ((if 1 < runN c t then [45] else []) ++ ((if 0 < runN c t then memT (c + runN c t) else []) ++ runsT k (t.drop (runN c t))))
def bytesW (s : W4) : List Nat := (List.range 256).filter s.has
def setT (s : W4) : Bs :=
  if (bytesW s).length = 256 then [46]
  else if (bytesW s).length = 0 then [91, 94, 0, 45, 255, 93]
  else if (bytesW s).length = 1 then (if specB ((bytesW s).headD 0) then [92, UInt8.ofNat ((bytesW s).headD 0)] else [UInt8.ofNat ((bytesW s).headD 0)])
  else [91] ++ (runsT (bytesW s).length (bytesW s) ++ [93])
def decT (n : Nat) : Bs := if n < 10 then [UInt8.ofNat (48 + n)] else if n < 100 then [UInt8.ofNat (48 + n / 10), UInt8.ofNat (48 + n % 10)] else [UInt8.ofNat (48 + n / 100), UInt8.ofNat (48 + n / 10 % 10), UInt8.ofNat (48 + n % 10)]
def timesT (m n : Int) : Bs :=
  if m = 0 ∧ n = -1 then [42] else if m = 1 ∧ n = -1 then [43] else if m = 0 ∧ n = 1 then [63]
  else if m = n then [123] ++ (decT m.toNat ++ [125]) else if n = -1 then [123] ++ (decT m.toNat ++ [44, 125]) else [123] ++ (decT m.toNat ++ ([44] ++ (decT n.toNat ++ [125])))
def parT (so : Bool) (x : Bs) : Bs := if so then [40] ++ (x ++ [41]) else x
def looseT (t : T) : Bool := t.k == 0 || t.k == 4 || t.k == 5
mutual
def prT : T → Bs
  | .mk k s0 s1 s2 s3 mn mx ps =>
    if k = 1 then setT ⟨s0, s1, s2, s3⟩ else if k = 2 then [94] else if k = 3 then [36]
    else if k = 4 then prRow ps else if k = 5 then prAlt ps else if k = 6 then prHead ps ++ timesT mn mx else []
def prRow : List T → Bs
  | [] => []
  | p :: ps => parT (looseT p) (prT p) ++ prRow ps
def prAlt : List T → Bs
  | [] => []
  | p :: ps => parT (p.k == 5) (prT p) ++ prBar ps
def prBar : List T → Bs
  | [] => []
  | p :: ps => [124] ++ (parT (p.k == 5) (prT p) ++ prBar ps)
def prHead : List T → Bs
  | [] => []
  | p :: _ => parT (looseT p) (prT p)
end
theorem prT_eq (t : T) : prT t = if t.k = 1 then setT t.w4 else if t.k = 2 then [94] else if t.k = 3 then [36]
    else if t.k = 4 then prRow t.ps else if t.k = 5 then prAlt t.ps else if t.k = 6 then prHead t.ps ++ timesT t.mn t.mx else [] := by cases t; rw [prT]; rfl
mutual
/-- How many brackets are open at once. -/
def deepT : T → Nat
  | .mk k _ _ _ _ _ _ ps => if k = 4 then deepRow ps else if k = 5 then deepAlt ps else if k = 6 then deepHead ps else 0
def deepRow : List T → Nat
  | [] => 0
  | p :: ps => max (deepT p + (if looseT p then 1 else 0)) (deepRow ps)
def deepAlt : List T → Nat
  | [] => 0
  | p :: ps => max (deepT p + (if p.k == 5 then 1 else 0)) (deepAlt ps)
def deepHead : List T → Nat
  | [] => 0
  | p :: _ => deepT p + (if looseT p then 1 else 0)
end
theorem deepT_eq (t : T) : deepT t = if t.k = 4 then deepRow t.ps else if t.k = 5 then deepAlt t.ps else if t.k = 6 then deepHead t.ps else 0 := by cases t; rw [deepT]; rfl

/-! Sets read back. -/
theorem b8 {c : Nat} (h : c < 256) : (UInt8.ofNat c).toNat = c := by simp [UInt8.toNat_ofNat']; omega
theorem b8_eq {c k : Nat} (h : c < 256) (hk : k < 256) : UInt8.ofNat c = UInt8.ofNat k ↔ c = k := by
  constructor
  · intro e
    have := congrArg UInt8.toNat e
    rwa [b8 h, b8 hk] at this
  · rintro rfl; rfl
theorem takeP_nil (q : Bs) (hq : q ≠ []) : takeP q [] = none := by
  cases q with
  | nil => exact absurd rfl hq
  | cons a q => rfl
theorem takeP_cons (a : UInt8) (q : Bs) (c : UInt8) (r : Bs) : takeP (a :: q) (c :: r) = if a = c then takeP q r else none := by
  unfold takeP
  by_cases h : a = c
  · subst h; simp [List.isPrefixOf]
  · simp [List.isPrefixOf, h]
theorem takeP_done (r : Bs) : takeP [] r = some r := by unfold takeP; simp [List.isPrefixOf]
theorem takeP_one (a c : UInt8) (r : Bs) : takeP [a] (c :: r) = if a = c then some r else none := by rw [takeP_cons]; simp [takeP_done]
theorem b8_91 {c : Nat} (hc : c < 256) : (91 : UInt8) = UInt8.ofNat c ↔ c = 91 := by
  rw [show (91 : UInt8) = UInt8.ofNat 91 from rfl, b8_eq (by omega) hc]; exact ⟨fun h => h.symm, fun h => h.symm⟩
theorem b8_93 {c : Nat} (hc : c < 256) : (93 : UInt8) = UInt8.ofNat c ↔ c = 93 := by
  rw [show (93 : UInt8) = UInt8.ofNat 93 from rfl, b8_eq (by omega) hc]; exact ⟨fun h => h.symm, fun h => h.symm⟩
theorem b8_45 {c : Nat} (hc : c < 256) : (45 : UInt8) = UInt8.ofNat c ↔ c = 45 := by
  rw [show (45 : UInt8) = UInt8.ofNat 45 from rfl, b8_eq (by omega) hc]; exact ⟨fun h => h.symm, fun h => h.symm⟩
theorem b8_94 {c : Nat} (hc : c < 256) : (94 : UInt8) = UInt8.ofNat c ↔ c = 94 := by
  rw [show (94 : UInt8) = UInt8.ofNat 94 from rfl, b8_eq (by omega) hc]; exact ⟨fun h => h.symm, fun h => h.symm⟩
theorem memT_cases {c : Nat} (hc : c < 256) (r : Bs) : (memT c ++ r = 91 :: 46 :: UInt8.ofNat c :: 46 :: 93 :: r) ∨ (memT c ++ r = UInt8.ofNat c :: r ∧ c ≠ 91 ∧ c ≠ 93 ∧ c ≠ 45 ∧ c ≠ 94) := by
  unfold memT
  split
  · exact .inl rfl
  · exact .inr ⟨rfl, by omega, by omega, by omega, by omega⟩
/-- A member's text begins with none of these. -/
theorem memT_take {c : Nat} (hc : c < 256) (r : Bs) : takeP [93] (memT c ++ r) = none ∧ takeP [45] (memT c ++ r) = none ∧ takeP [94] (memT c ++ r) = none ∧ takeP [91, 58] (memT c ++ r) = none ∧ takeP [91, 61] (memT c ++ r) = none := by
  rcases memT_cases hc r with e | ⟨e, h1, h2, h3, h4⟩
  · rw [e]
    simp [takeP_cons]
  · rw [e]
    have h5 := b8_91 hc; have h6 := b8_93 hc; have h7 := b8_45 hc; have h8 := b8_94 hc
    simp only [takeP_cons]
    rw [if_neg (fun e => h2 (h6.1 e)), if_neg (fun e => h3 (h7.1 e)), if_neg (fun e => h4 (h8.1 e)), if_neg (fun e => h1 (h5.1 e)), if_neg (fun e => h1 (h5.1 e))]
    exact ⟨rfl, rfl, rfl, rfl, rfl⟩
theorem memP_memT {c : Nat} (hc : c < 256) (r : Bs) : memberP (memT c ++ r) = .ok (c, r) := by
  rcases memT_cases hc r with e | ⟨e, h1, h2, h3, h4⟩
  · rw [e, memberP]
    simp only [takeP_cons, if_true, takeP_done, singleP, b8 hc]
  · rw [e, memberP]
    have h5 := b8_91 hc
    simp only [takeP_cons]
    rw [if_neg (fun e => h1 (h5.1 e))]
    simp only [b8 hc]
theorem item_one {c : Nat} (hc : c < 256) (s : W4) (r : Bs) (hr : takeP [45] r = none) : itemP s (memT c ++ r) = .ok (s.add c, r) := by
  obtain ⟨_, _, _, h4, h5⟩ := memT_take hc r
  rw [itemP, h4, h5]
  simp only [memP_memT hc]
  rw [rangeP, hr]
theorem item_range {a b : Nat} (ha : a < 256) (hb : b < 256) (hab : a ≤ b) (s : W4) (r : Bs) : itemP s (memT a ++ (45 :: (memT b ++ r))) = .ok (s.span a (b + 1 - a), r) := by
  obtain ⟨_, _, _, h4, h5⟩ := memT_take ha (45 :: (memT b ++ r))
  obtain ⟨g1, _, _, g4, g5⟩ := memT_take hb r
  rw [itemP, h4, h5]
  simp only [memP_memT ha]
  rw [rangeP, takeP_one, takeP_cons, if_pos rfl, if_pos rfl, g1]
  simp only [g4, g5, memP_memT hb]
  simp only [Option.isSome, Bool.or_false, Bool.false_eq_true, if_false]
  rw [if_neg (by omega)]

theorem runN_le : ∀ (c : Nat) (t : List Nat), runN c t ≤ t.length
  | _, [] => by rw [runN]; simp
  | c, d :: t => by rw [runN]; split; (have := runN_le d t; simp; omega); simp
theorem runN_take : ∀ (c : Nat) (t : List Nat), t.take (runN c t) = List.range' (c + 1) (runN c t)
  | _, [] => by rw [runN]; simp
  | c, d :: t => by
    rw [runN]
    split
    · rename_i h
      subst h
      rw [Nat.add_comm 1, List.take_succ_cons, runN_take (c + 1) t, List.range'_succ]
    · simp
theorem range_add (s : W4) (c : Nat) : ∀ n, (List.range' c n).foldl W4.add s = s.span c n := fun n => rfl
theorem memT_pos (x : Nat) : 1 ≤ (memT x).length := by unfold memT; split <;> simp
theorem runs_head {k : Nat} {l : List Nat} (hl : l.length ≤ k) (h : ∀ x ∈ l, x < 256) (r : Bs) : (l = [] ∧ runsT k l ++ 93 :: r = 93 :: r) ∨ (l ≠ [] ∧ takeP [93] (runsT k l ++ 93 :: r) = none ∧ takeP [45] (runsT k l ++ 93 :: r) = none ∧ takeP [94] (runsT k l ++ 93 :: r) = none) := by
  cases l with
  | nil => exact .inl ⟨rfl, by cases k <;> rfl⟩
  | cons y q =>
    obtain ⟨k, rfl⟩ : ∃ k', k = k' + 1 := ⟨k - 1, by simp at hl; omega⟩
    have hh := memT_take (h y (List.mem_cons_self ..)) (((if 1 < runN y q then [45] else []) ++ ((if 0 < runN y q then memT (y + runN y q) else []) ++ runsT k (q.drop (runN y q)))) ++ 93 :: r)
    rw [runsT, List.append_assoc]
    exact .inr ⟨by simp, hh.1, hh.2.1, hh.2.2.1⟩
/-- Runs, up tu ]. -/
theorem runs_read : ∀ (k : Nat) (l : List Nat) (s : W4) (r : Bs) (m : Nat), l ≠ [] → l.length ≤ k → (runsT k l ++ (93 :: r)).length ≤ m → (∀ x ∈ l, x < 256) → itemsP m s (runsT k l ++ (93 :: r)) = .ok (l.foldl W4.add s, r)
  | 0, l, s, r, m, hne, hk, hm, hl => by
    have : l = [] := List.eq_nil_of_length_eq_zero (by omega)
    exact absurd this hne
  | k + 1, [], s, r, m, hne, _, _, _ => absurd rfl hne
  | k + 1, c :: t, s, r, m, _, hk, hm, hl => by
    have hc : c < 256 := hl c (List.mem_cons_self ..)
    have hrn := runN_le c t
    have htk := runN_take c t
    have hdrop : t = List.range' (c + 1) (runN c t) ++ t.drop (runN c t) := by rw [← htk]; exact (List.take_append_drop _ _).symm
    have hlast : c + runN c t < 256 := by
      rcases Nat.eq_zero_or_pos (runN c t) with h | h
      · omega
      · exact hl _ (List.mem_cons_of_mem _ (List.mem_of_mem_take (i := runN c t) (by rw [htk, List.mem_range'_1]; omega)))
    have hrest : ∀ x ∈ t.drop (runN c t), x < 256 := fun x hx => hl x (List.mem_cons_of_mem _ (List.mem_of_mem_drop hx))
    have hfold : (c :: t).foldl W4.add s = (t.drop (runN c t)).foldl W4.add (s.span c (runN c t + 1)) := by
      conv => lhs; rw [List.foldl_cons, hdrop, List.foldl_append]
      rw [W4.span, List.range'_succ, List.foldl_cons]
    rw [hfold]
    rw [runsT] at hm ⊢
    simp only [List.length_cons] at hk
    generalize hn : runN c t = n at *
    have hTk : (t.drop n).length ≤ k := by rw [List.length_drop]; omega
    generalize t.drop n = T' at *
    have tail : ∀ (m' : Nat) (s' : W4), (runsT k T' ++ (93 :: r)).length ≤ m' → (match takeP [93] (runsT k T' ++ (93 :: r)) with | some r2 => (.ok (s', r2) : Except Int (W4 × Bs)) | none => itemsP m' s' (runsT k T' ++ (93 :: r))) = .ok (T'.foldl W4.add s', r) := fun m' s' hm' => by
      rcases runs_head hTk hrest r with ⟨rfl, e⟩ | ⟨hne, e, _⟩
      · rw [e, takeP_one, if_pos rfl]; rfl
      · rw [e]; exact runs_read k T' s' r m' hne hTk hm' hrest
    have t45 : takeP [45] (runsT k T' ++ (93 :: r)) = none := by
      rcases runs_head hTk hrest r with ⟨rfl, e⟩ | ⟨_, _, e, _⟩
      · rw [e, takeP_one, if_neg (by decide)]
      · exact e
    have hp := memT_pos c
    simp only [List.append_assoc, List.length_append] at hm ⊢
    simp only [List.length_append] at tail
    rcases (by omega : n = 0 ∨ n = 1 ∨ 2 ≤ n) with h | h | h
    · subst h
      simp only [Nat.lt_irrefl, if_false, List.nil_append, show ¬ (1 < 0) by omega, List.length_nil, Nat.zero_add] at hm ⊢
      obtain ⟨m, rfl⟩ : ∃ m', m = m' + 1 := ⟨m - 1, by omega⟩
      rw [itemsP, item_one hc s _ t45]
      exact tail m _ (by omega)
    · subst h
      have hp2 := memT_pos (c + 1)
      simp only [Nat.lt_irrefl, if_false, List.nil_append, Nat.zero_lt_one, if_true, List.length_nil, Nat.zero_add] at hm ⊢
      obtain ⟨m, rfl⟩ : ∃ m', m = m' + 2 := ⟨m - 2, by omega⟩
      obtain ⟨g1, g2, _⟩ := memT_take (c := c + 1) (by omega) (runsT k T' ++ 93 :: r)
      rw [itemsP, item_one hc s _ g2]
      simp only [g1]
      rw [itemsP, item_one (by omega) (s.add c) _ t45]
      exact tail m _ (by omega)
    · have hp2 := memT_pos (c + n)
      simp only [if_pos (show 1 < n by omega), if_pos (show 0 < n by omega), List.cons_append, List.nil_append] at hm ⊢
      obtain ⟨m, rfl⟩ : ∃ m', m = m' + 1 := ⟨m - 1, by simp only [List.length_append, List.length_cons] at hm; omega⟩
      rw [itemsP, item_range hc hlast (by omega) s]
      simp only [show c + n + 1 - c = n + 1 by omega]
      exact tail m _ (by simp only [List.length_append, List.length_cons] at hm ⊢; omega)

theorem bytesW_lt (s : W4) : ∀ x ∈ bytesW s, x < 256 := fun x hx => by unfold bytesW at hx; rw [List.mem_filter, List.mem_range] at hx; exact hx.1
theorem bytesW_mem (s : W4) (x : Nat) : x ∈ bytesW s ↔ x < 256 ∧ s.has x = true := by unfold bytesW; rw [List.mem_filter, List.mem_range]
theorem bytesW_le (s : W4) : (bytesW s).length ≤ 256 := by
  have := List.length_filter_le s.has (List.range 256)
  simpa [bytesW] using this
/-- All bytes of a set, put in, are the set. -/
theorem fold_bytes {s : W4} (h : Wok s) : (bytesW s).foldl W4.add w40 = s := by
  obtain ⟨h1, h2⟩ := adds_spec (bytesW s) wok0 (bytesW_lt s)
  refine W4.ext' h1 h fun c hc => ?_
  rw [h2 c hc, has0, Bool.false_or, Bool.eq_iff_iff, decide_eq_true_eq, bytesW_mem]
  exact ⟨fun h => h.2, fun h => ⟨hc, h⟩⟩
theorem all_bytes {s : W4} (h : Wok s) (hl : (bytesW s).length = 256) : s = w40.span 0 256 := by
  obtain ⟨h1, h2⟩ := span_spec wok0 0 256 (by omega)
  refine W4.ext' h h1 fun c hc => ?_
  have ha := List.length_filter_eq_length_iff.1 (show ((List.range 256).filter s.has).length = (List.range 256).length by simpa [bytesW] using hl)
  rw [h2 c hc, ha c (List.mem_range.2 hc)]
  simp [hc]
theorem no_bytes {s : W4} (h : Wok s) (hl : (bytesW s).length = 0) : (w40.span 0 256).not = s := by
  obtain ⟨h1, h2⟩ := span_spec wok0 0 256 (by omega)
  refine W4.ext' (not_ok h1) h fun c hc => ?_
  rw [not_has h1, h2 c hc]
  have hn : bytesW s = [] := List.eq_nil_of_length_eq_zero hl
  have : s.has c = false := by
    cases hh : s.has c with
    | false => rfl
    | true => have := (bytesW_mem s c).2 ⟨hc, hh⟩; rw [hn] at this; cases this
  rw [this]
  simp [hc]
/-- A set's text is read as that set. -/
theorem set_atom {s : W4} (h : Wok s) (grp : Bs → PT) (r : Bs) : atomP grp (setT s ++ r) = .ok (s.T, r) := by
  unfold setT
  split
  · rename_i h1
    simp only [List.cons_append, List.nil_append, atomP]
    rw [all_bytes h h1]
    simp
  split
  · rename_i h1
    simp only [List.cons_append, List.nil_append, atomP]
    simp only [show ¬ ((91 : UInt8) = 40) by decide, show ¬ ((91 : UInt8) = 94) by decide, show ¬ ((91 : UInt8) = 36) by decide, if_true, if_false]
    have hb : bracketP (94 :: 0 :: 45 :: 255 :: 93 :: r) = .ok ((w40.span 0 256).not, r) := by
      rw [bracketP, takeP_one, if_pos rfl]
      have := item_range (a := 0) (b := 255) (by omega) (by omega) (by omega) w40 (93 :: r)
      rw [show memT 0 ++ 45 :: (memT 255 ++ 93 :: r) = 0 :: 45 :: 255 :: 93 :: r by rfl] at this
      simp only
      rw [itemsP, this]
      simp only [takeP_one, if_true]
    rw [hb, no_bytes h h1]
  split
  · rename_i h1
    obtain ⟨c, hc⟩ := List.length_eq_one_iff.1 h1
    have hcl : c < 256 := bytesW_lt s c (by rw [hc]; simp)
    have hf := fold_bytes h
    have hh : (bytesW s).headD 0 = c := by rw [hc]; rfl
    rw [hc] at hf
    simp only [List.foldl_cons, List.foldl_nil] at hf
    rw [hh]
    by_cases hs : specB c = true
    · rw [if_pos hs]
      simp only [List.cons_append, List.nil_append, atomP]
      simp only [show ¬ ((92 : UInt8) = 40) by decide, show ¬ ((92 : UInt8) = 94) by decide, show ¬ ((92 : UInt8) = 36) by decide, show ¬ ((92 : UInt8) = 91) by decide, show ¬ ((92 : UInt8) = 46) by decide, show ¬ ((92 : UInt8) = 42 ∨ (92 : UInt8) = 43 ∨ (92 : UInt8) = 63 ∨ (92 : UInt8) = 123) by decide, if_true, if_false]
      rw [b8 hcl, hf]
    · rw [if_neg hs]
      have hs : ¬ c ∈ [92, 94, 46, 91, 36, 40, 41, 124, 42, 43, 63, 123] := by simpa [specB] using hs
      simp only [List.mem_cons, List.not_mem_nil, or_false, not_or] at hs
      have ne : ∀ k, k < 256 → c ≠ k → UInt8.ofNat c ≠ UInt8.ofNat k := fun k hk hn e => hn ((b8_eq hcl hk).1 e)
      simp only [List.cons_append, List.nil_append, atomP]
      rw [if_neg (show UInt8.ofNat c ≠ 40 from ne 40 (by omega) (by omega)), if_neg (show UInt8.ofNat c ≠ 94 from ne 94 (by omega) (by omega)), if_neg (show UInt8.ofNat c ≠ 36 from ne 36 (by omega) (by omega)), if_neg (show UInt8.ofNat c ≠ 91 from ne 91 (by omega) (by omega)), if_neg (show UInt8.ofNat c ≠ 46 from ne 46 (by omega) (by omega)),
        if_neg (fun e => e.elim (show UInt8.ofNat c ≠ 42 from ne 42 (by omega) (by omega)) (fun e => e.elim (show UInt8.ofNat c ≠ 43 from ne 43 (by omega) (by omega)) (fun e => e.elim (show UInt8.ofNat c ≠ 63 from ne 63 (by omega) (by omega)) (show UInt8.ofNat c ≠ 123 from ne 123 (by omega) (by omega))))), if_neg (show UInt8.ofNat c ≠ 92 from ne 92 (by omega) (by omega)), b8 hcl, hf]
  · rename_i h0 h1 h2
    have hne : bytesW s ≠ [] := fun e => h1 (by rw [e]; rfl)
    have hrd := fun m (hm : (runsT (bytesW s).length (bytesW s) ++ (93 :: r)).length ≤ m) => runs_read (bytesW s).length (bytesW s) w40 r m hne (Nat.le_refl _) hm (bytesW_lt s)
    simp only [List.cons_append, List.nil_append, List.append_assoc, atomP]
    simp only [show ¬ ((91 : UInt8) = 40) by decide, show ¬ ((91 : UInt8) = 94) by decide, show ¬ ((91 : UInt8) = 36) by decide, if_true, if_false]
    have hb : bracketP (runsT (bytesW s).length (bytesW s) ++ 93 :: r) = .ok (s, r) := by
      rcases runs_head (Nat.le_refl _) (bytesW_lt s) r with ⟨e, _⟩ | ⟨_, _, _, e⟩
      · exact absurd e hne
      · rw [bracketP, e]
        simp only
        rw [hrd _ (by omega), fold_bytes h]
    rw [hb]
end Go.Proofs.YteekafkpeimhoaaGreat

/- vouchref10's Reader: interval: walked. -/
set_option linter.unusedVariables false
set_option linter.unusedSimpArgs false
namespace Go.Proofs.YteekafkpeimhoaaGreat
open Go.RowKit

theorem qtake_hit {w : World} {p : Nat} {S : Bs} {k : Nat} {op : Int} {r r' : Bs} (q : Bs) (hq : q.length ≤ 100) (ht : takeP q r = some r') (h : RQ w p S k op (.ok r)) :
    Calls Tryz.prog 42 #[.pointer (some ⟨p, 0, none⟩), .string (bs q)] w fun en w' => en = .returned (.bool true) ∧ (∃ k', RQ w' p S k' op (.ok r')) ∧ Off p w w' := by
  have := qtake_any w p S k op (.ok r) q hq h
  rwa [takeS_some ht] at this
theorem qtake_miss {w : World} {p : Nat} {S : Bs} {k : Nat} {op : Int} {r : Bs} (q : Bs) (hq : q.length ≤ 100) (ht : takeP q r = none) (h : RQ w p S k op (.ok r)) :
    Calls Tryz.prog 42 #[.pointer (some ⟨p, 0, none⟩), .string (bs q)] w fun en w' => en = .returned (.bool false) ∧ (∃ k', RQ w' p S k' op (.ok r)) ∧ Off p w w' := by
  have := qtake_any w p S k op (.ok r) q hq h
  rwa [takeS_none ht] at this
theorem qtake_err {w : World} {p : Nat} {S : Bs} {k : Nat} {op : Int} {e : Int} (q : Bs) (hq : q.length ≤ 100) (h : RQ w p S k op (.error e)) :
    Calls Tryz.prog 42 #[.pointer (some ⟨p, 0, none⟩), .string (bs q)] w fun en w' => en = .returned (.bool false) ∧ (∃ k', RQ w' p S k' op (.error e)) ∧ Off p w w' := qtake_any w p S k op (.error e) q hq h
theorem qfail_ok {w : World} {p : Nat} {S : Bs} {k : Nat} {op : Int} {r : Bs} (x : Int) (hx : x ≠ 0) (h : RQ w p S k op (.ok r)) :
    Calls Tryz.prog 27 #[.pointer (some ⟨p, 0, none⟩), .int .i64 x] w fun en w' => en = .returned (.tuple #[]) ∧ RQ w' p S k op (.error x) ∧ Off p w w' := qfail_any w p S k op (.ok r) x hx h
theorem qfail_err {w : World} {p : Nat} {S : Bs} {k : Nat} {op : Int} {e : Int} (x : Int) (hx : x ≠ 0) (h : RQ w p S k op (.error e)) :
    Calls Tryz.prog 27 #[.pointer (some ⟨p, 0, none⟩), .int .i64 x] w fun en w' => en = .returned (.tuple #[]) ∧ RQ w' p S k op (.error e) ∧ Off p w w' := qfail_any w p S k op (.error e) x hx h
theorem take_two {a b : UInt8} {r r1 : Bs} (h : takeP [a] r = some r1) : takeP [a, b] r = takeP [b] r1 := by
  unfold takeP at h
  split at h
  · rename_i hp
    simp only [Option.some.injEq] at h
    obtain ⟨t, ht⟩ := List.isPrefixOf_iff_prefix.1 hp
    subst ht
    subst h
    simp only [List.cons_append, List.nil_append, List.length_cons, List.length_nil, List.drop_succ_cons, List.drop_zero]
    rw [takeP_cons, if_pos rfl]
  · cases h
theorem take_two_none {a b : UInt8} {r : Bs} (h : takeP [a] r = none) : takeP [a, b] r = none := by
  cases r with
  | nil => exact takeP_nil _ (by simp)
  | cons c t =>
    rw [takeP_one] at h
    rw [takeP_cons]
    split at h
    · cases h
    · rename_i hc; rw [if_neg hc]
/-- What interval hands back. -/
def QInt (p : Nat) (S : Bs) (op : Int) (r : Bs) (w : World) (en : Ending) (w' : World) : Prop :=
  ∃ (m n : Int) (k' : Nat) (s' : Rs), en = .returned (.tuple #[.int .i64 m, .int .i64 n]) ∧ RQ w' p S k' op s' ∧ Off p w w' ∧ ((intervalP r = .error 105 ∧ s' = .error 105) ∨ ∃ r', intervalP r = .ok (m, n, r') ∧ s' = .ok r')
set_option maxRecDepth 100000 in
set_option maxHeartbeats 4000000 in
theorem qinterval_any (w : World) (p : Nat) (S : Bs) (k : Nat) (op : Int) (r : Bs) (h : RQ w p S k op (.ok r)) :
    Calls Tryz.prog 66 #[.pointer (some ⟨p, 0, none⟩)] w fun en w' => QInt p S op r w en w' := by
  have Hd := Lib.hid (qdigits_ok w p S k op r h)
  have De := Lib.hid (fun w k (h : RQ w p S k op (.error 105)) => qdigits_err w p S k op 105 h)
  clear h
  go_enter Tryz.func66, Tryz.ntmps66
  go_wp2_with fail
  refine Hd.out.mono ?_
  rintro en w1 ⟨m, k1, s1, rfl, h1, hO1, ⟨m', r1, hn, rfl, hm0, hm1, rfl⟩ | ⟨hn, rfl, r1, rfl, _⟩⟩
  · have Hn := Lib.hid hn
    have hmI : decide (m < 0) = false := by rw [decide_eq_false_iff_not]; omega
    clear hn Hd
    cases t1 : takeP [125] r1 with
    | some r2 =>
      have Hs := Lib.hid (show intervalP r = .ok (m, m, r2) by unfold intervalP; simp only [Hn.out, t1])
      have T1 := Lib.hid t1
      clear t1
      go_wp2_with fail
      refine (qtake_hit [125] (by simp) T1.out h1).mono ?_
      rintro en w2 ⟨rfl, ⟨k2, h2⟩, hO2⟩
      go_wp2_with fail
      go_ret2
      exact ⟨m, m, k2, _, rfl, h2, hO1.trans hO2, .inr ⟨_, Hs.out, rfl⟩⟩
    | none =>
      have T1 := Lib.hid t1
      cases t2 : takeP [44] r1 with
      | none =>
        have Hs := Lib.hid (show intervalP r = .error 105 by unfold intervalP; simp only [Hn.out, t1, take_two_none t2, t2])
        have T2 := Lib.hid t2
        clear t1 t2
        go_wp2_with fail
        refine (qtake_miss [125] (by simp) T1.out h1).mono ?_
        rintro en w2 ⟨rfl, ⟨k2, h2⟩, hO2⟩
        go_wp2_with fail
        refine (qtake_miss [44] (by simp) T2.out h2).mono ?_
        rintro en w3 ⟨rfl, ⟨k3, h3⟩, hO3⟩
        go_wp2_with fail
        refine (qfail_ok 105 (by omega) h3).mono ?_
        rintro en w4 ⟨rfl, h4, hO4⟩
        go_wp2_with fail
        refine (qtake_err [125] (by simp) h4).mono ?_
        rintro en w5 ⟨rfl, ⟨k5, h5⟩, hO5⟩
        go_wp2_with fail
        refine (De.out _ _ h5).mono ?_
        rintro en w6 ⟨m6, k6, s6, rfl, h6, hO6, rfl, rfl⟩
        have hlt : (-1 : Int) < m := by omega
        go_wp2_with fail
        refine (qfail_err 105 (by omega) h6).mono ?_
        rintro en w7 ⟨rfl, h7, hO7⟩
        go_wp2_with fail
        go_ret2
        exact ⟨m, -1, k6, _, rfl, h7, (((((hO1.trans hO2).trans hO3).trans hO4).trans hO5).trans hO6).trans hO7, .inl ⟨Hs.out, rfl⟩⟩
      | some r2 =>
        have T2 := Lib.hid t2
        cases t3 : takeP [125] r2 with
        | some r3 =>
          have Hs := Lib.hid (show intervalP r = .ok (m, -1, r3) by unfold intervalP; simp only [Hn.out, t1, take_two t2, t3])
          have T3 := Lib.hid t3
          clear t1 t2 t3
          go_wp2_with fail
          refine (qtake_miss [125] (by simp) T1.out h1).mono ?_
          rintro en w2 ⟨rfl, ⟨k2, h2⟩, hO2⟩
          go_wp2_with fail
          refine (qtake_hit [44] (by simp) T2.out h2).mono ?_
          rintro en w3 ⟨rfl, ⟨k3, h3⟩, hO3⟩
          go_wp2_with fail
          refine (qtake_hit [125] (by simp) T3.out h3).mono ?_
          rintro en w4 ⟨rfl, ⟨k4, h4⟩, hO4⟩
          go_wp2_with fail
          go_ret2
          exact ⟨m, -1, k4, _, rfl, h4, ((hO1.trans hO2).trans hO3).trans hO4, .inr ⟨_, Hs.out, rfl⟩⟩
        | none =>
          have T3 := Lib.hid t3
          have Hpre := Lib.hid (show intervalP r = (match numberP r2 with | .error e => .error e | .ok (n, r3) => if n < m then .error 105 else match takeP [125] r3 with | some r4 => .ok (m, n, r4) | none => .error 105) by unfold intervalP; simp only [Hn.out, t1, take_two t2, t3, t2]; rfl)
          clear t1 t2 t3
          go_wp2_with fail
          refine (qtake_miss [125] (by simp) T1.out h1).mono ?_
          rintro en w2 ⟨rfl, ⟨k2, h2⟩, hO2⟩
          go_wp2_with fail
          refine (qtake_hit [44] (by simp) T2.out h2).mono ?_
          rintro en w3 ⟨rfl, ⟨k3, h3⟩, hO3⟩
          go_wp2_with fail
          refine (qtake_miss [125] (by simp) T3.out h3).mono ?_
          rintro en w4 ⟨rfl, ⟨k4, h4⟩, hO4⟩
          have HO4 := Lib.hid (((hO1.trans hO2).trans hO3).trans hO4)
          clear hO1 hO2 hO3 hO4 h1 h2 h3 T1 T2 T3
          go_wp2_with fail
          refine (qdigits_ok w4 p S k4 op r2 h4).mono ?_
          rintro en w5 ⟨n, k5, s5, rfl, h5, hO5, ⟨n', r3, hn2, rfl, hn0, hn1, rfl⟩ | ⟨hn2, rfl, r3, rfl, _⟩⟩
          · by_cases hnm : n < m
            · have Hs := Lib.hid (show intervalP r = .error 105 by rw [Hpre.out, hn2]; simp only; rw [if_pos hnm])
              clear hn2 Hpre
              go_wp2_with fail
              refine (qfail_ok 105 (by omega) h5).mono ?_
              rintro en w6 ⟨rfl, h6, hO6⟩
              go_wp2_with fail
              go_ret2
              exact ⟨m, n, k5, _, rfl, h6, (HO4.out.trans hO5).trans hO6, .inl ⟨Hs.out, rfl⟩⟩
            · have hnmI : decide (n < m) = false := by rw [decide_eq_false_iff_not]; exact hnm
              cases t4 : takeP [125] r3 with
              | some r4 =>
                have Hs := Lib.hid (show intervalP r = .ok (m, n, r4) by rw [Hpre.out, hn2]; simp only; rw [if_neg hnm, t4])
                have T4 := Lib.hid t4
                clear hn2 Hpre hnm t4
                go_wp2_with fail
                refine (qtake_hit [125] (by simp) T4.out h5).mono ?_
                rintro en w6 ⟨rfl, ⟨k6, h6⟩, hO6⟩
                go_wp2_with fail
                go_ret2
                exact ⟨m, n, k6, _, rfl, h6, (HO4.out.trans hO5).trans hO6, .inr ⟨_, Hs.out, rfl⟩⟩
              | none =>
                have Hs := Lib.hid (show intervalP r = .error 105 by rw [Hpre.out, hn2]; simp only; rw [if_neg hnm, t4])
                have T4 := Lib.hid t4
                clear hn2 Hpre hnm t4
                go_wp2_with fail
                refine (qtake_miss [125] (by simp) T4.out h5).mono ?_
                rintro en w6 ⟨rfl, ⟨k6, h6⟩, hO6⟩
                go_wp2_with fail
                refine (qfail_ok 105 (by omega) h6).mono ?_
                rintro en w7 ⟨rfl, h7, hO7⟩
                go_wp2_with fail
                go_ret2
                exact ⟨m, n, k6, _, rfl, h7, ((HO4.out.trans hO5).trans hO6).trans hO7, .inl ⟨Hs.out, rfl⟩⟩
          · have Hs := Lib.hid (show intervalP r = .error 105 by rw [Hpre.out, hn2])
            have hlt : (-1 : Int) < m := by omega
            clear hn2 Hpre
            go_wp2_with fail
            refine (qfail_ok 105 (by omega) h5).mono ?_
            rintro en w6 ⟨rfl, h6, hO6⟩
            go_wp2_with fail
            go_ret2
            exact ⟨m, -1, k5, _, rfl, h6, (HO4.out.trans hO5).trans hO6, .inl ⟨Hs.out, rfl⟩⟩
  · have Hs := Lib.hid (show intervalP r = .error 105 by unfold intervalP; simp only [hn])
    clear hn Hd
    go_wp2_with fail
    refine (qfail_ok 105 (by omega) h1).mono ?_
    rintro en w2 ⟨rfl, h2, hO2⟩
    go_wp2_with fail
    refine (qtake_err [125] (by simp) h2).mono ?_
    rintro en w3 ⟨rfl, ⟨k3, h3⟩, hO3⟩
    go_wp2_with fail
    refine (qtake_err [44] (by simp) h3).mono ?_
    rintro en w4 ⟨rfl, ⟨k4, h4⟩, hO4⟩
    go_wp2_with fail
    refine (qfail_err 105 (by omega) h4).mono ?_
    rintro en w5 ⟨rfl, h5, hO5⟩
    go_wp2_with fail
    refine (qtake_err [125] (by simp) h5).mono ?_
    rintro en w6 ⟨rfl, ⟨k6, h6⟩, hO6⟩
    go_wp2_with fail
    refine (De.out _ _ h6).mono ?_
    rintro en w7 ⟨m7, k7, s7, rfl, h7, hO7, rfl, rfl⟩
    go_wp2_with fail
    refine (qtake_err [125] (by simp) h7).mono ?_
    rintro en w8 ⟨rfl, ⟨k8, h8⟩, hO8⟩
    go_wp2_with fail
    refine (qfail_err 105 (by omega) h8).mono ?_
    rintro en w9 ⟨rfl, h9, hO9⟩
    go_wp2_with fail
    go_ret2
    exact ⟨-1, -1, k8, _, rfl, h9, (((((((hO1.trans hO2).trans hO3).trans hO4).trans hO5).trans hO6).trans hO7).trans hO8).trans hO9, .inl ⟨Hs.out, rfl⟩⟩
end Go.Proofs.YteekafkpeimhoaaGreat

/- Tests on bytes, handed round as functions; where: walked. -/
set_option linter.unusedVariables false
set_option linter.unusedSimpArgs false
namespace Go.Proofs.YteekafkpeimhoaaGreat
open Go.RowKit

/-- Blocks of cells stay as they are; maps may change. -/
structure CExt (w w' : World) : Prop where
  size : w.heap.size ≤ w'.heap.size
  cells : ∀ (k : Nat) (cs : Array Value) (t : TypeId) (z : Nat × Nat), w.heap[k]? = some (.cells cs t z) → w'.heap[k]? = some (.cells cs t z)
theorem CExt.refl (w : World) : CExt w w := ⟨Nat.le_refl _, fun _ _ _ _ h => h⟩
theorem CExt.trans {w w1 w2 : World} (h : CExt w w1) (k : CExt w1 w2) : CExt w w2 := ⟨Nat.le_trans h.size k.size, fun b cs t z e => k.cells b cs t z (h.cells b cs t z e)⟩
theorem CExt.of_below {w w' : World} (h : Below w.heap.size w w') : CExt w w' :=
  ⟨h.size, fun k cs t z e => (h.block k (Array.getElem?_eq_some_iff.1 e).1).trans e⟩
/-- A function on bytes that tests so. -/
def FnOf (w : World) (v : Value) (f : Nat → Bool) : Prop :=
  ∃ (fn : FuncId) (caps : Array Value), v = .func (.func fn) #[] caps ∧ (∀ args w, (callFunc fn args).run Tryz.prog w = .ok (.enter fn args) w) ∧ ∀ w', CExt w w' → ∀ c < 256, Calls Tryz.prog fn (#[.int .u8 (c : Nat)] ++ caps) w' fun en w'' => en = .returned (.bool (f c)) ∧ Below w'.heap.size w' w''
theorem FnOf.later {w w' : World} {v : Value} {f : Nat → Bool} (h : FnOf w v f) (k : CExt w w') : FnOf w' v f := by
  obtain ⟨fn, caps, rfl, hc, h⟩ := h
  exact ⟨fn, caps, rfl, hc, fun w2 k2 => h w2 (k.trans k2)⟩
theorem whereW_def (f : Nat → Bool) : whereW f = (List.range 256).foldl (fun s c => if f c then s.add c else s) w40 := rfl
theorem foldl_from (f : Nat → Bool) (j : Nat) (hj : j < 256) (s : W4) : (List.range' j (256 - j)).foldl (fun s c => if f c then s.add c else s) s = (List.range' (j + 1) (256 - (j + 1))).foldl (fun s c => if f c then s.add c else s) (if f j then s.add j else s) := by
  rw [show 256 - j = (256 - (j + 1)) + 1 by omega, List.range'_succ, List.foldl_cons]

theorem At4.addW {w : World} {b o : Nat} {s : W4} (h : At4 w b o s) (c : Nat) (hc : c < 256) : At4 (addW w b o s c) b o (s.add c) := by
  obtain ⟨f0, f1, f2, f3⟩ := h
  unfold Go.Proofs.YteekafkpeimhoaaGreat.addW
  rcases (show c < 64 ∨ (64 ≤ c ∧ c < 128) ∨ (128 ≤ c ∧ c < 192) ∨ (192 ≤ c ∧ c < 256) by omega) with h | h | h | h
  · rw [show c / 64 = 0 by omega, show c % 64 = c by omega]
    have e : s.add c = { s with a := orI s.a (2 ^ c) } := by simp [W4.add, h]
    rw [e]
    exact ⟨World.cell?_setCell_same _ _ _ f0, (World.cell?_setCell_other _ _ _ _ (by simp)).trans f1, (World.cell?_setCell_other _ _ _ _ (by simp)).trans f2, (World.cell?_setCell_other _ _ _ _ (by simp)).trans f3⟩
  · rw [show c / 64 = 1 by omega, show c % 64 = c - 64 by omega]
    have e : s.add c = { s with b := orI s.b (2 ^ (c - 64)) } := by simp [W4.add, show ¬ c < 64 by omega, h.2]
    rw [e]
    exact ⟨(World.cell?_setCell_other _ _ _ _ (by simp)).trans f0, World.cell?_setCell_same _ _ _ f1, (World.cell?_setCell_other _ _ _ _ (by simp)).trans f2, (World.cell?_setCell_other _ _ _ _ (by simp)).trans f3⟩
  · rw [show c / 64 = 2 by omega, show c % 64 = c - 128 by omega]
    have e : s.add c = { s with c := orI s.c (2 ^ (c - 128)) } := by simp [W4.add, show ¬ c < 64 by omega, show ¬ c < 128 by omega, h.2]
    rw [e]
    exact ⟨(World.cell?_setCell_other _ _ _ _ (by simp)).trans f0, (World.cell?_setCell_other _ _ _ _ (by simp)).trans f1, World.cell?_setCell_same _ _ _ f2, (World.cell?_setCell_other _ _ _ _ (by simp)).trans f3⟩
  · rw [show c / 64 = 3 by omega, show c % 64 = c - 192 by omega]
    have e : s.add c = { s with d := orI s.d (2 ^ (c - 192)) } := by simp [W4.add, show ¬ c < 64 by omega, show ¬ c < 128 by omega, show ¬ c < 192 by omega]
    rw [e]
    exact ⟨(World.cell?_setCell_other _ _ _ _ (by simp)).trans f0, (World.cell?_setCell_other _ _ _ _ (by simp)).trans f1, (World.cell?_setCell_other _ _ _ _ (by simp)).trans f2, World.cell?_setCell_same _ _ _ f3⟩
theorem At4.keep {w w' : World} {b o : Nat} {s : W4} (h : At4 w b o s) (hb : w'.heap[b]? = w.heap[b]?) : At4 w' b o s := by
  obtain ⟨f0, f1, f2, f3⟩ := h
  exact ⟨(World.cell?_of_block (w := w) hb).trans f0, (World.cell?_of_block (w := w) hb).trans f1, (World.cell?_of_block (w := w) hb).trans f2, (World.cell?_of_block (w := w) hb).trans f3⟩
/-- Four cells written. -/
def setV (w : World) (b : Nat) (S : W4) : World := (((w.setCell ⟨b, 0, none⟩ (.int .u64 S.a)).setCell ⟨b, 1, none⟩ (.int .u64 S.b)).setCell ⟨b, 2, none⟩ (.int .u64 S.c)).setCell ⟨b, 3, none⟩ (.int .u64 S.d)
theorem At4.setV {w : World} {b : Nat} {s : W4} (h : At4 w b 0 s) (S : W4) : At4 (setV w b S) b 0 S := by
  obtain ⟨f0, f1, f2, f3⟩ := h
  simp only [Nat.zero_add] at f1 f2 f3
  unfold Go.Proofs.YteekafkpeimhoaaGreat.setV
  constructor
  · rw [World.cell?_setCell_other _ _ _ _ (by simp), World.cell?_setCell_other _ _ _ _ (by simp), World.cell?_setCell_other _ _ _ _ (by simp)]
    exact World.cell?_setCell_same _ _ _ f0
  · rw [World.cell?_setCell_other _ _ _ _ (by simp), World.cell?_setCell_other _ _ _ _ (by simp)]
    exact World.cell?_setCell_same _ _ _ ((World.cell?_setCell_other _ _ _ _ (by simp)).trans f1)
  · rw [World.cell?_setCell_other _ _ _ _ (by simp)]
    exact World.cell?_setCell_same _ _ _ ((World.cell?_setCell_other _ _ _ _ (by simp)).trans ((World.cell?_setCell_other _ _ _ _ (by simp)).trans f2))
  · exact World.cell?_setCell_same _ _ _ ((World.cell?_setCell_other _ _ _ _ (by simp)).trans ((World.cell?_setCell_other _ _ _ _ (by simp)).trans ((World.cell?_setCell_other _ _ _ _ (by simp)).trans f3)))
theorem _root_.Go.RowKit.Below.setV {w w1 : World} {B : Nat} (h : Below B w w1) {b : Nat} (hb : B ≤ b) (S : W4) : Below B w (Go.Proofs.YteekafkpeimhoaaGreat.setV w1 b S) :=
  (((h.setCell hb (p := ⟨b, 0, none⟩) _).setCell hb (p := ⟨b, 1, none⟩) _).setCell hb (p := ⟨b, 2, none⟩) _).setCell hb (p := ⟨b, 3, none⟩) _
theorem At4.later {w w' : World} {b o B : Nat} {s : W4} (h : At4 w b o s) (hb : Below B w w') (hl : b < B) : At4 w' b o s := h.keep (hb.block b hl)
theorem _root_.Go.RowKit.Below.addW {w w1 : World} {B : Nat} (h : Below B w w1) {b : Nat} (hb : B ≤ b) (o : Nat) (s : W4) (c : Nat) : Below B w (Go.Proofs.YteekafkpeimhoaaGreat.addW w1 b o s c).drew :=
  ⟨h.os, h.tape, h.output, by show w.heap.size ≤ (Go.Proofs.YteekafkpeimhoaaGreat.addW w1 b o s c).heap.size; rw [addW_size]; exact h.size, fun k hk => (addW_other _ _ _ _ _ _ (by omega)).trans (h.block k hk)⟩
theorem _root_.Go.RowKit.Below.step {w w1 w2 : World} (h : Below w.heap.size w w1) (k : Below w1.heap.size w1 w2) : Below w.heap.size w w2 :=
  ⟨k.os.trans h.os, k.tape.trans h.tape, k.output.trans h.output, Nat.le_trans h.size k.size, fun b hb => (k.block b (Nat.lt_of_lt_of_le hb h.size)).trans (h.block b hb)⟩

set_option maxRecDepth 100000 in
set_option maxHeartbeats 4000000 in
theorem where_any (w : World) (v : Value) (f : Nat → Bool) (hf : FnOf w v f) :
    Calls Tryz.prog 70 #[v] w fun en w' => en = .returned (whereW f).V ∧ Below w.heap.size w w' := by
  obtain ⟨fn, caps, rfl, hcf, hf⟩ := hf
  have Hf := Lib.hid hf; clear hf
  go_enter Tryz.func70, Tryz.ntmps70
  go_wp2_with fail
  generalize hW : (w.alloc _).alloc _ = W0
  have hB0 : Below w.heap.size w W0 := by subst hW; exact ((Below.refl _ _).alloc (Nat.le_refl _) _).alloc (by simp) _
  have hsz : w.heap.size + 2 ≤ W0.heap.size := by subst hW; simp
  have r0 : At4 W0 w.heap.size 0 w40 := by subst hW; constructor <;> simp [go_sem, w40]
  have n0 : At4 W0 (w.heap.size + 1) 0 w40 := by subst hW; constructor <;> simp [go_sem, w40]
  have z0 : ∀ o, W0.frozen? ⟨w.heap.size, o, none⟩ = false := by subst hW; intro o; simp [go_sem]
  have z1 : ∀ o, W0.frozen? ⟨w.heap.size + 1, o, none⟩ = false := by subst hW; intro o; simp [go_sem]
  clear hW
  go_loopg [5] 256 (fun k i wr => ∃ (j : Nat) (S : W4), i = .int .i64 j ∧ j + k = 256 ∧ (List.range' j (256 - j)).foldl (fun s c => if f c then s.add c else s) S = whereW f ∧ Below w.heap.size w wr ∧ w.heap.size + 2 ≤ wr.heap.size ∧ At4 wr (w.heap.size + 1) 0 S ∧ At4 wr w.heap.size 0 w40 ∧ (∀ o, wr.frozen? ⟨w.heap.size, o, none⟩ = false) ∧ (∀ o, wr.frozen? ⟨w.heap.size + 1, o, none⟩ = false))
  case atStart => exact ⟨0, w40, rfl, rfl, by rw [whereW_def, List.range_eq_range'], hB0, hsz, n0, r0, z0, z1⟩
  case round =>
    obtain ⟨j, S, rfl, hj, hm, hB, hz, hn, hr, y0, y1⟩ := hrel
    clear hB0 hsz n0 r0 z0 z1
    have Hm := Lib.hid hm; clear hm
    have HN := Lib.hid hn; have HR := Lib.hid hr; have HB := Lib.hid hB; have HY0 := Lib.hid y0; have HY1 := Lib.hid y1
    clear hn hr hB y0 y1
    by_cases hlt : j < 256
    · have hmod : IntKind.u8.wrap (j : Int) = (j : Int) := by simp [IntKind.wrap, IntKind.signed, IntKind.bits]; omega
      go_wp2_with fail
      refine (Hf.out wr (CExt.of_below HB.out) j hlt).mono ?_
      rintro en w1 ⟨rfl, hb1⟩
      have hB1 := HB.out.step hb1
      have hz1 : w.heap.size + 2 ≤ w1.heap.size := Nat.le_trans hz hb1.size
      have n1 := HN.out.later hb1 (by omega)
      have r1 := HR.out.later hb1 (by omega)
      have y0 : ∀ o, w1.frozen? ⟨w.heap.size, o, none⟩ = false := fun o => (hb1.frozen (p := ⟨w.heap.size, o, none⟩) (by show w.heap.size < _; omega)).trans (HY0.out o)
      have y1 : ∀ o, w1.frozen? ⟨w.heap.size + 1, o, none⟩ = false := fun o => (hb1.frozen (p := ⟨w.heap.size + 1, o, none⟩) (by show w.heap.size + 1 < _; omega)).trans (HY1.out o)
      have Hm := Lib.hid ((foldl_from f j hlt S).symm.trans Hm.out)
      clear HN HR HB HY0 HY1 hcf
      have HN := Lib.hid n1; have HR := Lib.hid r1; have HB := Lib.hid hB1; have HY0 := Lib.hid y0; have HY1 := Lib.hid y1
      clear n1 r1 hB1 y0 y1
      cases hfj : f j with
      | false =>
        rw [hfj] at Hm
        clear hfj Hf
        go_wp2_with fail
        go_roundg (gk - 1)
        case measure => omega
        case rel => exact ⟨j + 1, S, by go_num, by omega, Hm.out, HB.out, hz1, HN.out, HR.out, HY0.out, HY1.out⟩
      | true =>
        rw [hfj] at Hm
        clear hfj Hf
        go_wp2_with fail
        refine (add_any w1 (w.heap.size + 1) 0 S j hlt HN.out HY1.out).mono ?_
        rintro en w2 ⟨rfl, rfl⟩
        go_wp2_with fail
        go_roundg (gk - 1)
        case measure => omega
        case rel => exact ⟨j + 1, S.add j, by go_num, by omega, Hm.out, HB.out.addW (by omega) _ _ _, by show _ ≤ (addW w1 _ _ _ _).heap.size; rw [addW_size]; exact hz1, (HN.out.addW j hlt).keep rfl, HR.out.keep (addW_other _ _ _ _ _ _ (by omega)), fun o => (World.frozen?_of_block (w := w1) (addW_other _ _ _ _ _ _ (by show w.heap.size ≠ _; omega))).trans (HY0.out o), fun o => by show (addW w1 _ _ _ _).frozen? _ = _; rw [addW, World.frozen?_setCell]; exact HY1.out o⟩
    · have hS : S = whereW f := by rw [← Hm.out, show 256 - j = 0 by omega]; rfl
      obtain ⟨f0, f1, f2, f3⟩ := HN.out
      obtain ⟨g0, g1, g2, g3⟩ := HR.out
      have y0 := HY0.out 0; have y1 := HY0.out 1; have y2 := HY0.out 2; have y3 := HY0.out 3
      clear HN HR HY0 HY1 Hm Hf
      simp only [Nat.zero_add] at f1 f2 f3 g1 g2 g3
      go_wp2_with fail
      change bodyPost _ _ _ _ _ (setV wr w.heap.size (whereW f))
      have hB := HB.out.setV (b := w.heap.size) (Nat.le_refl _) (whereW f)
      obtain ⟨q0, q1, q2, q3⟩ := At4.setV ⟨g0, g1, g2, g3⟩ (whereW f)
      simp only [Nat.zero_add] at q1 q2 q3
      clear f0 f1 f2 f3 g0 g1 g2 g3 y0 y1 y2 y3
      generalize setV wr w.heap.size (whereW f) = W at *
      exact bodyPost_ret (v := (whereW f).V) (by simp [results, Tryz.results70, go_sem, q0, q1, q2, q3]) rfl ⟨rfl, hB⟩
end Go.Proofs.YteekafkpeimhoaaGreat

/- Tests on bytes: between, either, and what is always true: walked. -/
set_option linter.unusedVariables false
set_option linter.unusedSimpArgs false
namespace Go.Proofs.YteekafkpeimhoaaGreat
open Go.RowKit

/-- A block of cells, whatever its type. -/
def CellsAt (w : World) (b : Nat) (cs : Array Value) : Prop := ∃ t z, w.heap[b]? = some (.cells cs t z)
theorem CellsAt.later {w w' : World} {b : Nat} {cs : Array Value} (h : CellsAt w b cs) (k : CExt w w') : CellsAt w' b cs := by
  obtain ⟨t, z, h⟩ := h
  exact ⟨t, z, k.cells _ _ _ _ h⟩
theorem CellsAt.cell {w : World} {b : Nat} {cs : Array Value} (h : CellsAt w b cs) (o : Nat) : w.cell? ⟨b, o, none⟩ = cs[o]? := by
  obtain ⟨t, z, h⟩ := h
  exact cell_of_row w b o cs t z h
theorem CellsAt.lt {w : World} {b : Nat} {cs : Array Value} (h : CellsAt w b cs) : b < w.heap.size := by
  obtain ⟨t, z, h⟩ := h
  exact (Array.getElem?_eq_some_iff.1 h).1
theorem CellsAt.new (w : World) (cs : Array Value) (t : TypeId) : CellsAt (w.alloc (.cells cs t)) w.heap.size cs := ⟨t, (0, 0), heap_alloc_new w _⟩
theorem CellsAt.keep {w w' : World} {b : Nat} {cs : Array Value} (h : CellsAt w b cs) (k : Below w.heap.size w w') : CellsAt w' b cs := h.later (.of_below k)

set_option maxRecDepth 100000 in
set_option maxHeartbeats 2000000 in
theorem fn_true (w : World) : FnOf w (.func (.func 71) #[] #[]) fun _ => true := by
  refine ⟨_, _, rfl, fun args w => by rfl, fun w' hw c hc => ?_⟩
  simp only [Array.append_empty]
  go_enter Tryz.func71, Tryz.ntmps71
  go_wp2_with fail
  go_ret
  exact ⟨rfl, Below.refl _ _⟩

def betF (lo hi c : Nat) : Bool := decide (lo ≤ c) && decide (c ≤ hi)
set_option maxRecDepth 100000 in
set_option maxHeartbeats 2000000 in
theorem bet_fn (w : World) (a b lo hi : Nat) (ha : CellsAt w a #[.int .u8 lo]) (hb : CellsAt w b #[.int .u8 hi]) : FnOf w (.func (.func 101) #[] #[.pointer (some ⟨a, 0, none⟩), .pointer (some ⟨b, 0, none⟩)]) (betF lo hi) := by
  refine ⟨_, _, rfl, fun args w => by rfl, fun w' hw c hc => ?_⟩
  have f0 := (ha.later hw).cell 0
  have f1 := (hb.later hw).cell 0
  simp only [List.getElem?_toArray, List.getElem?_cons_zero] at f0 f1
  clear ha hb hw
  show Calls _ _ #[.int .u8 (c : Nat), .pointer (some ⟨a, 0, none⟩), .pointer (some ⟨b, 0, none⟩)] _ _
  by_cases h1 : lo ≤ c
  · by_cases h2 : c ≤ hi
    · have hr := Lib.hid (show betF lo hi c = true by simp [betF, h1, h2])
      go_enter Tryz.func101, Tryz.ntmps101
      go_wp2_with fail
      go_ret
      exact ⟨by rw [hr.out]; rfl, Below.refl _ _⟩
    · have hr := Lib.hid (show betF lo hi c = false by simp [betF, h2])
      go_enter Tryz.func101, Tryz.ntmps101
      go_wp2_with fail
      go_ret
      exact ⟨by rw [hr.out]; rfl, Below.refl _ _⟩
  · have hr := Lib.hid (show betF lo hi c = false by simp [betF, h1])
    go_enter Tryz.func101, Tryz.ntmps101
    go_wp2_with fail
    go_ret
    exact ⟨by rw [hr.out]; rfl, Below.refl _ _⟩
/-- What a maker of tests hands back. -/
def GFn (w : World) (f : Nat → Bool) (en : Ending) (w' : World) : Prop := ∃ v, en = .returned v ∧ FnOf w' v f ∧ Below w.heap.size w w'
set_option maxRecDepth 100000 in
set_option maxHeartbeats 2000000 in
theorem between_any (w : World) (lo hi : Nat) : Calls Tryz.prog 97 #[.int .u8 lo, .int .u8 hi] w fun en w' => GFn w (betF lo hi) en w' := by
  have hmf : ∀ (fn : Fn) (first cap : Array Value) (w : World), (Instr.makeFunc fn first cap).run Tryz.prog w = .ok (.func fn first cap) w := fun _ _ _ _ => rfl
  go_enter Tryz.func97, Tryz.ntmps97
  go_wp2_with fail
  go_ret
  refine ⟨_, rfl, ?_, ((Below.refl _ _).alloc (Nat.le_refl _) _).alloc (by simp) _⟩
  have hb : Below (w.alloc (.cells #[.int .u8 (lo : Nat)] 5)).heap.size (w.alloc (.cells #[.int .u8 (lo : Nat)] 5)) ((w.alloc (.cells #[.int .u8 (lo : Nat)] 5)).alloc (.cells #[.int .u8 (hi : Nat)] 5)) := (Below.refl _ _).alloc (Nat.le_refl _) _
  refine bet_fn _ w.heap.size (w.heap.size + 1) lo hi ((CellsAt.new w _ _).keep hb) ?_
  have := CellsAt.new (w.alloc (.cells #[.int .u8 (lo : Nat)] 5)) #[.int .u8 (hi : Nat)] 5
  rw [show (w.alloc (.cells #[.int .u8 (lo : Nat)] 5)).heap.size = w.heap.size + 1 by simp] at this
  exact this

def anyF (fs : List (Nat → Bool)) (c : Nat) : Bool := fs.any fun f => f c
set_option maxRecDepth 100000 in
set_option maxHeartbeats 2000000 in
theorem either_fn (w : World) (a b : Nat) (vs : List Value) (fs : List (Nat → Bool)) (ha : CellsAt w a #[.slice (some ⟨b, 0, none⟩) vs.length vs.length]) (hb : CellsAt w b vs.toArray) (hl : vs.length ≤ 100) (hlen : fs.length = vs.length)
    (hf : ∀ (i : Nat) (v : Value) (f : Nat → Bool), vs[i]? = some v → fs[i]? = some f → FnOf w v f) : FnOf w (.func (.func 102) #[] #[.pointer (some ⟨a, 0, none⟩)]) (anyF fs) := by
  refine ⟨_, _, rfl, fun args w => by rfl, fun w0 hw c hc => ?_⟩
  show Calls _ _ #[.int .u8 (c : Nat), .pointer (some ⟨a, 0, none⟩)] _ _
  have HA := Lib.hid (ha.later hw); have HB := Lib.hid (hb.later hw)
  have HF := Lib.hid (fun i v f h1 h2 => (hf i v f h1 h2).later hw)
  clear ha hb hf
  have f0 := HA.out.cell 0
  simp only [List.getElem?_toArray, List.getElem?_cons_zero] at f0
  go_enter Tryz.func102, Tryz.ntmps102
  go_wp2_with fail
  go_loopg [8] vs.length (fun k i wr => ∃ j : Nat, i = .int .i64 j ∧ j + k = vs.length ∧ (fs.drop j).any (fun f => f c) = anyF fs c ∧ Below w0.heap.size w0 wr)
  case atStart => exact ⟨0, rfl, by omega, rfl, Below.refl _ _⟩
  case round =>
    obtain ⟨j, rfl, hj, hm, hB⟩ := hrel
    have Hm := Lib.hid hm; have HBl := Lib.hid hB; clear hm hB f0
    by_cases hlt : j < vs.length
    · obtain ⟨v, hv⟩ : ∃ v, vs[j]? = some v := ⟨_, List.getElem?_eq_getElem hlt⟩
      obtain ⟨f, hf⟩ : ∃ f, fs[j]? = some f := ⟨_, List.getElem?_eq_getElem (by omega)⟩
      have hd : fs.drop j = f :: fs.drop (j + 1) := by
        have := (List.getElem?_eq_some_iff.1 hf)
        obtain ⟨h1, h2⟩ := this
        rw [← h2]; exact List.drop_eq_getElem_cons h1
      have hcell : wr.cell? ⟨b, j, none⟩ = some v := by rw [(HB.out.keep HBl.out).cell j, List.getElem?_toArray, hv]
      obtain ⟨fn, caps, rfl, hcf, hcall⟩ := (HF.out j v f hv hf).later (.of_below HBl.out)
      have Hcall := Lib.hid hcall; clear hcall
      have Hd := Lib.hid hd; clear hd hv hf
      clear hlen
      go_wp2_with fail
      refine (Hcall.out wr (CExt.refl wr) c hc).mono ?_
      rintro en w1 ⟨rfl, hb1⟩
      have hB1 := HBl.out.step hb1
      cases hfc : f c with
      | false =>
        have Hm := Lib.hid (show (fs.drop (j + 1)).any (fun f => f c) = anyF fs c by rw [← Hm.out, Hd.out, List.any_cons, hfc, Bool.false_or])
        clear hfc Hcall Hd
        go_wp2_with fail
        go_roundg (gk - 1)
        case measure => omega
        case rel => exact ⟨j + 1, by go_num, by omega, Hm.out, hB1⟩
      | true =>
        have Hm := Lib.hid (show anyF fs c = true by rw [← Hm.out, Hd.out, List.any_cons, hfc, Bool.true_or])
        clear hfc Hcall Hd
        go_wp2_with fail
        go_ret
        exact ⟨by rw [Hm.out]; rfl, hB1⟩
    · have Hm := Lib.hid (show anyF fs c = false by rw [← Hm.out, List.drop_eq_nil_of_le (by omega)]; rfl)
      go_wp2_with fail
      go_ret
      exact ⟨by rw [Hm.out]; rfl, HBl.out⟩
set_option maxRecDepth 100000 in
set_option maxHeartbeats 2000000 in
theorem either_any (w : World) (b : Nat) (vs : List Value) (fs : List (Nat → Bool)) (hb : CellsAt w b vs.toArray) (hl : vs.length ≤ 100) (hlen : fs.length = vs.length)
    (hf : ∀ (i : Nat) (v : Value) (f : Nat → Bool), vs[i]? = some v → fs[i]? = some f → FnOf w v f) : Calls Tryz.prog 98 #[.slice (some ⟨b, 0, none⟩) vs.length vs.length] w fun en w' => GFn w (anyF fs) en w' := by
  have hmf : ∀ (fn : Fn) (first cap : Array Value) (w : World), (Instr.makeFunc fn first cap).run Tryz.prog w = .ok (.func fn first cap) w := fun _ _ _ _ => rfl
  have HB := Lib.hid hb; have HF := Lib.hid hf; clear hb hf
  go_enter Tryz.func98, Tryz.ntmps98
  go_wp2_with fail
  go_ret
  generalize hW : w.alloc _ = W
  have hbel : Below w.heap.size w W := by subst hW; exact (Below.refl _ _).alloc (Nat.le_refl _) _
  exact ⟨_, rfl, either_fn _ w.heap.size b vs fs (by subst hW; exact CellsAt.new w _ _) (HB.out.keep hbel) hl hlen (fun i v f h1 h2 => (HF.out i v f h1 h2).later (.of_below hbel)), hbel⟩
/-- What is in one set, not in another. -/
def butF (f g : Nat → Bool) (c : Nat) : Bool := f c && !g c
set_option maxRecDepth 100000 in
set_option maxHeartbeats 2000000 in
theorem but_fn (w : World) (a b : Nat) (u v : Value) (f g : Nat → Bool) (ha : CellsAt w a #[u]) (hb : CellsAt w b #[v]) (hu : FnOf w u f) (hv : FnOf w v g) : FnOf w (.func (.func 99) #[] #[.pointer (some ⟨a, 0, none⟩), .pointer (some ⟨b, 0, none⟩)]) (butF f g) := by
  refine ⟨_, _, rfl, fun args w => by rfl, fun w' hw c hc => ?_⟩
  have HA := Lib.hid (ha.later hw); have HB := Lib.hid (hb.later hw)
  obtain ⟨fn, caps, rfl, hcf, hu⟩ := hu.later hw
  obtain ⟨fn', caps', rfl, hcf', hv⟩ := hv.later hw
  have Hu := Lib.hid hu; have Hv := Lib.hid hv
  clear hu hv ha hb hw
  have f0 := HA.out.cell 0
  simp only [List.getElem?_toArray, List.getElem?_cons_zero] at f0
  show Calls _ _ #[.int .u8 (c : Nat), .pointer (some ⟨a, 0, none⟩), .pointer (some ⟨b, 0, none⟩)] _ _
  go_enter Tryz.func99, Tryz.ntmps99
  go_wp2_with fail
  refine (Hu.out w' (CExt.refl w') c hc).mono ?_
  rintro en w1 ⟨rfl, hb1⟩
  have f1 := (HB.out.keep hb1).cell 0
  simp only [List.getElem?_toArray, List.getElem?_cons_zero] at f1
  clear f0
  cases hf : f c with
  | false =>
    have Hr := Lib.hid (show butF f g c = false by simp [butF, hf])
    clear hf Hu Hv
    go_wp2_with fail
    go_ret
    exact ⟨by rw [Hr.out]; rfl, hb1⟩
  | true =>
    have Hr := Lib.hid (show butF f g c = !g c by simp [butF, hf])
    clear hf Hu
    go_wp2_with fail
    refine (Hv.out w1 (CExt.of_below hb1) c hc).mono ?_
    rintro en w2 ⟨rfl, hb2⟩
    clear Hv
    go_wp2_with fail
    go_ret
    exact ⟨by rw [Hr.out]; rfl, hb1.step hb2⟩
theorem whereW_true : whereW (fun _ => true) = w40.span 0 256 := by
  unfold whereW W4.span
  rw [List.range_eq_range']
  rfl
theorem dotC : DotC := fun w => (where_any w _ _ (fn_true w)).mono fun en w' h => by rw [whereW_true] at h; exact h
end Go.Proofs.YteekafkpeimhoaaGreat

/- A region in whatever order, by one condition on what has been done, the frame, the world. Plain. -/
set_option linter.unusedVariables false
set_option linter.unusedSimpArgs false
namespace Go.Proofs.YteekafkpeimhoaaGreat
open Go.RowKit

/-- One operation more is done. -/
def upd (L : Nat → Bool) (i : Nat) (j : Nat) : Bool := j == i || L j
/-- What one operation must do. -/
def StepOk (P : Program) (md : Region.Mode) (Q : Exit → Act → World → Prop) (I : (Nat → Bool) → Act → World → Prop) (i : Nat) (o : Oper) : Prop :=
  o.guard = none ∧ (∀ e ∈ o.after, e.on < i) ∧
    ∀ (L : Nat → Bool) (a : Act) (w : World), I L a w → L i = false → (∀ e ∈ o.after, Region.binds md e = true → L e.on = true) → o.wp P a w (fun a' w' => I (upd L i) a' w') Q
theorem getD_true {l : Array Bool} {j : Nat} (h : j < l.size) : l.getD j true = l.getD j false := by simp [Array.getD, h]
theorem wpAny_inv {P : Program} {md : Region.Mode} {ops : Array Oper} {Q : Exit → Act → World → Prop} (I : (Nat → Bool) → Act → World → Prop)
    (hstep : ∀ (i : Nat) (o : Oper), ops[i]? = some o → StepOk P md Q I i o)
    (hend : ∀ (L : Nat → Bool) (a : Act) (w : World), I L a w → (∀ i < ops.size, L i = true) → Q .normal a w) :
    ∀ (fuel : Nat) (listed : Array Bool) (a : Act) (w : World), listed.size = ops.size → (listed.toList.filter (fun b => !b)).length ≤ fuel → I (fun j => listed.getD j false) a w → wpAny P md ops Q fuel listed a w := by
  have hall : ∀ (listed : Array Bool), listed.size = ops.size → Region.ready md ops listed = [] → ∀ n i, i < n → i < ops.size → listed.getD i false = true := fun listed hs hr n => by
    induction n with
    | zero => intro i h; omega
    | succ n ih =>
      intro i h hi
      by_cases hn : i < n
      · exact ih i hn hi
      · have hin : i = n := by omega
        subst hin
        cases hb : listed.getD i false with
        | true => rfl
        | false =>
          exfalso
          have ho : ops[i]? = some ops[i] := Array.getElem?_eq_getElem hi
          obtain ⟨_, hlt, _⟩ := hstep i _ ho
          have hm : i ∈ Region.ready md ops listed := by
            refine mem_ready.2 ⟨by rw [getD_true (by omega)]; exact hb, _, ho, fun e he _ => ?_⟩
            have := ih e.on (hlt e he) (by have := hlt e he; omega)
            exact this
          rw [hr] at hm
          cases hm
  intro fuel
  induction fuel with
  | zero =>
    intro listed a w hs hc hI
    have hno : ∀ i < ops.size, listed.getD i false = true := fun i hi => by
      have h0 : listed.toList.filter (fun b => !b) = [] := List.eq_nil_of_length_eq_zero (by omega)
      have h1 := List.filter_eq_nil_iff.1 h0 (listed[i]) (by simp)
      have h2 : listed[i] = true := by simpa using h1
      simp [Array.getD, show i < listed.size by omega, h2]
    refine ⟨?_, hend _ a w hI hno⟩
    cases hr : Region.ready md ops listed with
    | nil => rfl
    | cons i l =>
      have hi : i ∈ Region.ready md ops listed := by rw [hr]; exact List.mem_cons_self ..
      obtain ⟨h1, o, ho, _⟩ := mem_ready.1 hi
      have hlt := (Array.getElem?_eq_some_iff.1 ho).1
      rw [getD_true (by omega), hno i hlt] at h1
      cases h1
  | succ fuel ih =>
    intro listed a w hs hc hI
    refine ⟨fun hr => hend _ a w hI (fun i hi => hall listed hs hr (i + 1) i (by omega) hi), fun i hi => ?_⟩
    obtain ⟨h1, o, ho, h2⟩ := mem_ready.1 hi
    have hlt := (Array.getElem?_eq_some_iff.1 ho).1
    have h1' : listed.getD i false = false := by rw [← getD_true (by omega)]; exact h1
    obtain ⟨hg, _, hst⟩ := hstep i o ho
    have h3 := hst _ a w hI h1' (fun e he hb => h2 e he hb)
    have h4 : wpOp P ops Q i (fun a' w' => I (upd (fun j => listed.getD j false) i) a' w') a w := by
      unfold wpOp
      rw [ho]
      simp only [Region.wanted, hg, if_true]
      exact .inl h3
    refine wpOp_mono (fun a' w' h => ih (listed.setIfInBounds i true) a' w' (by simpa using hs) ?_ ?_) h4
    · have : ∀ (l : List Bool) (i : Nat), l[i]? = some false → ((l.set i true).filter (fun b => !b)).length + 1 = (l.filter (fun b => !b)).length := by
        intro l
        induction l with
        | nil => intro i h; simp at h
        | cons b l ihl =>
          intro i h
          cases i with
          | zero => simp at h; subst h; simp
          | succ i =>
            simp at h
            have := ihl i h
            cases b <;> simp at this ⊢ <;> omega
      have hx := this listed.toList i (by
        have : listed[i]? = some false := by
          simp only [Array.getD, show i < listed.size by omega, dif_pos] at h1'
          rw [Array.getElem?_eq_getElem (by omega)]
          exact congrArg some h1'
        simpa using this)
      rw [Array.toList_setIfInBounds]
      omega
    · have e : (fun j => (listed.setIfInBounds i true).getD j false) = upd (fun j => listed.getD j false) i := by
        funext j
        unfold upd
        by_cases hj : j = i
        · subst hj; simp [Array.getD, show j < listed.size by omega]
        · have : (j == i) = false := by simpa using hj
          rw [this, Bool.false_or]
          simp only [Array.getD, Array.size_setIfInBounds]
          split
          · rename_i h5; exact Array.getElem_setIfInBounds_ne h5 (Ne.symm hj)
          · rfl
      rw [e]
      exact h
/-- The operations, one by one. -/
theorem steps_nil {C : Nat → Oper → Prop} {n : Nat} : ∀ (i : Nat) (o : Oper), ([] : List Oper)[i]? = some o → C (n + i) o := fun i o h => by simp at h
theorem steps_cons {C : Nat → Oper → Prop} {n : Nat} {o : Oper} {l : List Oper} (h : C n o) (k : ∀ (i : Nat) (o : Oper), l[i]? = some o → C (n + 1 + i) o) : ∀ (i : Nat) (o' : Oper), (o :: l)[i]? = some o' → C (n + i) o'
  | 0, o', e => by simp at e; subst e; exact h
  | i + 1, o', e => by
    have := k i o' (by simpa using e)
    rw [show n + (i + 1) = n + 1 + i by omega]
    exact this
theorem steps_start {C : Nat → Oper → Prop} {l : List Oper} (h : ∀ (i : Nat) (o : Oper), l[i]? = some o → C (0 + i) o) : ∀ (i : Nat) (o : Oper), l[i]? = some o → C i o := fun i o e => by have := h i o e; rwa [Nat.zero_add] at this
end Go.Proofs.YteekafkpeimhoaaGreat

/- The table of classes: walked. (Printed by wip/genclss.py.) -/
set_option linter.unusedVariables false
set_option linter.unusedSimpArgs false
namespace Go.Proofs.YteekafkpeimhoaaGreat
open Go.RowKit

/-- What an operation of the table leaves. -/
inductive CK where
  | mk
  | fn (f : Nat → Bool)
  | sl (fs : List (Nat → Bool))
  | ins (name : Bs) (f : Nat → Bool)
  | cp
def CK.name : CK → Bs
  | .ins n _ => n
  | _ => []
def CK.needs : CK → Bool
  | .ins _ _ => true
  | .cp => true
  | _ => false
def CK.isMk : CK → Bool
  | .mk => true
  | _ => false
def CK.isVal : CK → Bool
  | .fn _ => true
  | .sl _ => true
  | _ => false
def ckinds : List (Option Nat × CK) := [
  (some 15, .mk),
  (some 16, .fn (betF 65 90)),
  (none, .ins [117, 112, 112, 101, 114] (betF 65 90)),
  (some 17, .fn (betF 97 122)),
  (none, .ins [108, 111, 119, 101, 114] (betF 97 122)),
  (some 18, .fn (betF 48 57)),
  (none, .ins [100, 105, 103, 105, 116] (betF 48 57)),
  (some 19, .fn (anyF [betF 65 90, betF 97 122, betF 48 57])),
  (none, .ins [97, 108, 110, 117, 109] (anyF [betF 65 90, betF 97 122, betF 48 57])),
  (some 20, .fn (betF 33 126)),
  (none, .ins [103, 114, 97, 112, 104] (betF 33 126)),
  (some 21, .fn (betF 65 90)),
  (some 22, .fn (betF 97 122)),
  (some 23, .sl [betF 65 90, betF 97 122]),
  (some 24, .fn (anyF [betF 65 90, betF 97 122])),
  (none, .ins [97, 108, 112, 104, 97] (anyF [betF 65 90, betF 97 122])),
  (some 25, .fn (betF 48 57)),
  (some 26, .fn (betF 65 70)),
  (some 27, .fn (betF 97 102)),
  (some 28, .sl [betF 48 57, betF 65 70, betF 97 102]),
  (some 29, .fn (anyF [betF 48 57, betF 65 70, betF 97 102])),
  (none, .ins [120, 100, 105, 103, 105, 116] (anyF [betF 48 57, betF 65 70, betF 97 102])),
  (some 30, .fn (betF 9 13)),
  (some 31, .fn (betF 32 32)),
  (some 32, .sl [betF 9 13, betF 32 32]),
  (some 33, .fn (anyF [betF 9 13, betF 32 32])),
  (none, .ins [115, 112, 97, 99, 101] (anyF [betF 9 13, betF 32 32])),
  (some 34, .fn (betF 9 9)),
  (some 35, .fn (betF 32 32)),
  (some 36, .sl [betF 9 9, betF 32 32]),
  (some 37, .fn (anyF [betF 9 9, betF 32 32])),
  (none, .ins [98, 108, 97, 110, 107] (anyF [betF 9 9, betF 32 32])),
  (some 38, .fn (betF 0 31)),
  (some 39, .fn (betF 127 127)),
  (some 40, .sl [betF 0 31, betF 127 127]),
  (some 41, .fn (anyF [betF 0 31, betF 127 127])),
  (none, .ins [99, 110, 116, 114, 108] (anyF [betF 0 31, betF 127 127])),
  (some 42, .fn (betF 32 126)),
  (none, .ins [112, 114, 105, 110, 116] (betF 32 126)),
  (some 43, .fn (butF (betF 33 126) (anyF [betF 65 90, betF 97 122, betF 48 57]))),
  (none, .ins [112, 117, 110, 99, 116] (butF (betF 33 126) (anyF [betF 65 90, betF 97 122, betF 48 57]))),
  (some 44, .cp),
  (some 0, .cp)]
def ckdst : List (Option Nat) := [some 15, some 16, none, some 17, none, some 18, none, some 19, none, some 20, none, some 21, some 22, some 23, some 24, none, some 25, some 26, some 27, some 28, some 29, none, some 30, some 31, some 32, some 33, none, some 34, some 35, some 36, some 37, none, some 38, some 39, some 40, some 41, none, some 42, none, some 43, none, some 44, some 0]
def cknames : List Bs := [[], [], [117, 112, 112, 101, 114], [], [108, 111, 119, 101, 114], [], [100, 105, 103, 105, 116], [], [97, 108, 110, 117, 109], [], [103, 114, 97, 112, 104], [], [], [], [], [97, 108, 112, 104, 97], [], [], [], [], [], [120, 100, 105, 103, 105, 116], [], [], [], [], [115, 112, 97, 99, 101], [], [], [], [], [98, 108, 97, 110, 107], [], [], [], [], [99, 110, 116, 114, 108], [], [112, 114, 105, 110, 116], [], [112, 117, 110, 99, 116], [], []]
theorem ckdst_eq : ckinds.map Prod.fst = ckdst := rfl
theorem cknames_eq : ckinds.map (fun x => x.2.name) = cknames := rfl
theorem one_of {α : Type} [DecidableEq α] (l : List α) (x : α) (h : ((List.range 43).all fun i => (List.range 43).all fun j => !(decide (l[i]? = l[j]?)) || decide (l[i]? = some x) || decide (i = j)) = true) :
    ∀ i < 43, ∀ j < 43, l[i]? = l[j]? → l[i]? ≠ some x → i = j := by
  intro i hi j hj h1 h2
  have h3 := List.all_eq_true.1 (List.all_eq_true.1 h i (List.mem_range.2 hi)) j (List.mem_range.2 hj)
  simpa [h1, h1 ▸ h2] using h3
theorem ckdst_ok : ∀ i < 43, ∀ j < 43, ckdst[i]? = ckdst[j]? → ckdst[i]? ≠ some none → i = j := one_of _ _ (by decide +kernel)
theorem ckdst_far : ∀ d ∈ ckdst, ∀ n ∈ [1, 2, 3, 4, 5], d ≠ some n := by decide +kernel
theorem ckdst_lt : ∀ d ∈ ckdst, ∀ n, d = some n → n < 45 := by
  intro d hd n e
  subst e
  have : ∀ d ∈ ckdst, (match d with | some n => decide (n < 45) | none => true) = true := by decide +kernel
  simpa using this _ hd
theorem cknames_ok : ∀ i < 43, ∀ j < 43, cknames[i]? = cknames[j]? → cknames[i]? ≠ some [] → i = j := one_of _ _ (by decide +kernel)
theorem ckmk_ok : ∀ i < 43, (ckinds.map fun x => x.2.isMk)[i]? = some true → i = 0 := by decide +kernel
theorem ck_lt {i : Nat} {x : Option Nat × CK} (h : ckinds[i]? = some x) : i < 43 := (List.getElem?_eq_some_iff.1 h).1
theorem ck_dst {i : Nat} {x : Option Nat × CK} (h : ckinds[i]? = some x) : ckdst[i]? = some x.1 := by rw [← ckdst_eq, List.getElem?_map, h]; rfl
theorem ck_name {i : Nat} {x : Option Nat × CK} (h : ckinds[i]? = some x) : cknames[i]? = some x.2.name := by rw [← cknames_eq, List.getElem?_map, h]; rfl
theorem ck_mk {i d : Nat} (h : ckinds[i]? = some (some d, .mk)) : i = 0 := ckmk_ok i (ck_lt h) (by rw [List.getElem?_map, h]; rfl)
theorem ck_one {i j d : Nat} {k k' : CK} (h : ckinds[i]? = some (some d, k)) (h' : ckinds[j]? = some (some d, k')) : i = j :=
  ckdst_ok i (ck_lt h) j (ck_lt h') (by rw [ck_dst h, ck_dst h']) (by rw [ck_dst h]; simp)
theorem ck_far {i d : Nat} {k : CK} (h : ckinds[i]? = some (some d, k)) : d ≠ 1 ∧ d ≠ 2 ∧ d ≠ 3 ∧ d ≠ 4 ∧ d ≠ 5 ∧ d < 45 := by
  have hm : some d ∈ ckdst := List.mem_of_getElem? (ck_dst h)
  have := ckdst_far _ hm
  simp only [List.mem_cons, List.not_mem_nil, or_false, forall_eq_or_imp, forall_eq, ne_eq, Option.some.injEq] at this
  exact ⟨this.1, this.2.1, this.2.2.1, this.2.2.2.1, this.2.2.2.2, ckdst_lt _ hm d rfl⟩

theorem ckno_ok : ((List.range 43).all fun i => !(decide (ckdst[i]? = some none)) || !(decide (cknames[i]? = some []))) = true := by decide +kernel
theorem ck_name_one {i j : Nat} {n : Bs} {f g : Nat → Bool} (h : ckinds[i]? = some (none, .ins n f)) (h' : ckinds[j]? = some (none, .ins n g)) : i = j := by
  refine cknames_ok i (ck_lt h) j (ck_lt h') ((ck_name h).trans (ck_name h').symm) fun e => ?_
  have := List.all_eq_true.1 ckno_ok i (List.mem_range.2 (ck_lt h))
  rw [ck_dst h, e] at this
  simp at this

def SlOk (w : World) (v : Value) (fs : List (Nat → Bool)) : Prop :=
  ∃ (b : Nat) (vs : List Value), v = .slice (some ⟨b, 0, none⟩) vs.length vs.length ∧ CellsAt w b vs.toArray ∧ fs.length = vs.length ∧ ∀ (i : Nat) (v : Value) (f : Nat → Bool), vs[i]? = some v → fs[i]? = some f → FnOf w v f
theorem SlOk.later {w w' : World} {v : Value} {fs : List (Nat → Bool)} (h : SlOk w v fs) (k : CExt w w') : SlOk w' v fs := by
  obtain ⟨b, vs, e, hc, hl, hf⟩ := h
  exact ⟨b, vs, e, hc.later k, hl, fun i v f h1 h2 => (hf i v f h1 h2).later k⟩
def SlotOk (mv : Value) (w : World) (v : Value) : CK → Prop
  | .mk => v = mv
  | .cp => v = mv
  | .fn f => FnOf w v f
  | .sl fs => SlOk w v fs
  | .ins _ _ => True
theorem SlotOk.later {mv v : Value} {w w' : World} {k : CK} (h : SlotOk mv w v k) (e : CExt w w') : SlotOk mv w' v k := by
  cases k with
  | mk => exact h
  | cp => exact h
  | fn f => exact FnOf.later h e
  | sl fs => exact SlOk.later h e
  | ins _ _ => trivial
/-- The map holds what has been put in. -/
def MapOk (B : Nat) (mv : Value) (w : World) (L : Nat → Bool) : Prop :=
  ∃ (r : Nat) (es : Array MapEntry) (clock : Nat), mv = .map (some r) ∧ w.heap[r]? = some (.map es clock) ∧ B ≤ r ∧
    (∀ x ∈ es.toList, ∃ (j : Nat) (name : Bs) (f : Nat → Bool), ckinds[j]? = some (none, .ins name f) ∧ L j = true ∧ x.key = .string (bs name) ∧ FnOf w x.val f) ∧
    ∀ (j : Nat) (name : Bs) (f : Nat → Bool), ckinds[j]? = some (none, .ins name f) → L j = true → ∃ x ∈ es.toList, x.key = .string (bs name)
theorem MapOk.later {B : Nat} {mv : Value} {w w' : World} {L : Nat → Bool} (h : MapOk B mv w L) (k : Below w.heap.size w w') : MapOk B mv w' L := by
  obtain ⟨r, es, clock, e, hr, hB, h1, h2⟩ := h
  refine ⟨r, es, clock, e, (k.block r (Array.getElem?_eq_some_iff.1 hr).1).trans hr, hB, fun x hx => ?_, h2⟩
  obtain ⟨j, n, f, a, b, c, d⟩ := h1 x hx
  exact ⟨j, n, f, a, b, c, d.later (.of_below k)⟩
theorem MapOk.more {B : Nat} {mv : Value} {w : World} {L : Nat → Bool} (h : MapOk B mv w L) {i d : Nat} {k : CK} (hk : ckinds[i]? = some (some d, k)) : MapOk B mv w (upd L i) := by
  obtain ⟨r, es, clock, e, hr, hB, h1, h2⟩ := h
  have hne : ∀ (j : Nat) (n : Bs) (f : Nat → Bool), ckinds[j]? = some (none, .ins n f) → j ≠ i := fun j n f h e => by subst e; rw [h] at hk; cases hk
  refine ⟨r, es, clock, e, hr, hB, fun x hx => ?_, fun j n f hj hL => ?_⟩
  · obtain ⟨j, n, f, a, b, c, d⟩ := h1 x hx
    exact ⟨j, n, f, a, by simp [upd, b], c, d⟩
  · refine h2 j n f hj ?_
    have : (j == i) = false := by simpa using hne j n f hj
    rw [upd, this, Bool.false_or] at hL
    exact hL

abbrev alnumF : Nat → Bool := anyF [betF 65 90, betF 97 122, betF 48 57]
abbrev graphF : Nat → Bool := betF 33 126
/-- A pointer tu a test. -/
def PtrOk (w : World) (v : Value) (p : Nat) (f : Nat → Bool) : Prop := v = .pointer (some ⟨p, 0, none⟩) ∧ ∃ u, CellsAt w p #[u] ∧ FnOf w u f
theorem PtrOk.later {w w' : World} {v : Value} {p : Nat} {f : Nat → Bool} (h : PtrOk w v p f) (e : CExt w w') : PtrOk w' v p f := by
  obtain ⟨rfl, u, a, b⟩ := h
  exact ⟨rfl, u, a.later e, b.later e⟩
/-- What holds whatever of the table has been done. -/
structure CI (w0 : World) (p4 p5 : Nat) (L : Nat → Bool) (a : Act) (w : World) : Prop where
  bel : Below w0.heap.size w0 w
  sz : a.tmps.size = 45
  dfr : a.defers = []
  t1 : FnOf w (a.eval (.tmp 1)) (betF 65 90)
  t2 : FnOf w (a.eval (.tmp 2)) (betF 97 122)
  t3 : FnOf w (a.eval (.tmp 3)) (betF 48 57)
  t4 : PtrOk w (a.eval (.tmp 4)) p4 alnumF
  t5 : PtrOk w (a.eval (.tmp 5)) p5 graphF
  slots : ∃ mv, (∀ (i d : Nat) (k : CK), ckinds[i]? = some (some d, k) → L i = true → SlotOk mv w (a.eval (.tmp d)) k) ∧ (L 0 = true → MapOk w0.heap.size mv w L)
  early : ∀ (i : Nat) (x : Option Nat × CK), ckinds[i]? = some x → x.2.needs = true → L i = true → L 0 = true
theorem eval_put_same {a : Act} {d : Nat} {v : Value} (h : d < a.tmps.size) : (a.put (some d) v).eval (.tmp d) = v := by
  simp [Act.put, Act.eval, h]
theorem eval_put_ne {a : Act} {d e : Nat} {v : Value} (h : d ≠ e) : (a.put (some d) v).eval (.tmp e) = a.eval (.tmp e) := by
  exact Act.eval_put fun d' h' hx => h (by cases h'; cases hx; rfl)
theorem CI.fnAt {w0 w : World} {p4 p5 : Nat} {L : Nat → Bool} {a : Act} (h : CI w0 p4 p5 L a w) {i d : Nat} {f : Nat → Bool} (hk : ckinds[i]? = some (some d, .fn f)) (hL : L i = true) : FnOf w (a.eval (.tmp d)) f := by
  obtain ⟨mv, h1, _⟩ := h.slots
  exact h1 i d _ hk hL
theorem CI.value {w0 w w' : World} {p4 p5 : Nat} {L : Nat → Bool} {a : Act} (h : CI w0 p4 p5 L a w) {i d : Nat} {k : CK} {v : Value} (hk : ckinds[i]? = some (some d, k)) (hi : L i = false) (hn : k.isVal = true)
    (hv : ∀ mv, SlotOk mv w' v k) (hb : Below w.heap.size w w') : CI w0 p4 p5 (upd L i) (a.put (some d) v) w' := by
  obtain ⟨d1, d2, d3, d4, d5, dl⟩ := ck_far hk
  have hx := CExt.of_below hb
  have hi0 : i ≠ 0 := fun e => by
    subst e
    have : ckinds[0]? = some (some 15, .mk) := rfl
    rw [this] at hk; cases hk; cases hn
  obtain ⟨mv, h1, h2⟩ := h.slots
  have hupd : ∀ j, j ≠ i → upd L i j = L j := fun j hj => by simp [upd, show (j == i) = false by simpa using hj]
  refine ⟨h.bel.step hb, by simp [Act.put, h.sz], h.dfr, ?_, ?_, ?_, ?_, ?_, ⟨mv, fun j e k' hj hL => ?_, fun hL => ?_⟩, fun j x hj hx' hL => ?_⟩
  · rw [eval_put_ne d1]; exact h.t1.later hx
  · rw [eval_put_ne d2]; exact h.t2.later hx
  · rw [eval_put_ne d3]; exact h.t3.later hx
  · rw [eval_put_ne d4]; exact h.t4.later hx
  · rw [eval_put_ne d5]; exact h.t5.later hx
  · by_cases hji : j = i
    · subst hji
      rw [hk] at hj; cases hj
      rw [eval_put_same (by rw [h.sz]; exact dl)]
      exact hv mv
    · have hde : d ≠ e := fun he => hji (by subst he; exact (ck_one hk hj).symm)
      rw [eval_put_ne hde]
      rw [hupd j hji] at hL
      exact (h1 j e k' hj hL).later hx
  · rw [hupd 0 (Ne.symm hi0)] at hL
    exact ((h2 hL).later hb).more hk
  · have hji : j ≠ i := fun e' => by subst e'; rw [hk] at hj; cases hj; cases k <;> simp [CK.needs, CK.isVal] at hx' hn
    rw [hupd j hji] at hL
    rw [hupd 0 (Ne.symm hi0)]
    exact h.early j x hj hx' hL

section
variable {Q : Exit → Act → World → Prop} {w0 : World} {p4 p5 : Nat}
abbrev StC (Q : Exit → Act → World → Prop) (w0 : World) (p4 p5 : Nat) (i : Nat) (o : Oper) : Prop := StepOk Tryz.prog .any Q (CI w0 p4 p5) i o
theorem wp_val {P : Program} {o : Oper} {a : Act} {w w' : World} {K : Act → World → Prop} {v : Value} (h : (execOp a.eval o).run P w = .ok (.value v) w') (hK : K (a.put o.dst v) w') : o.wp P a w K Q := by
  unfold Oper.wp; rw [h]; exact hK
theorem wp_skip {P : Program} {o : Oper} {a : Act} {w w' : World} {K : Act → World → Prop} (h : (execOp a.eval o).run P w = .ok .skip w') (hK : K (a.put o.dst undef) w') : o.wp P a w K Q := by
  unfold Oper.wp; rw [h]; exact hK
theorem wp_call {P : Program} {o : Oper} {a : Act} {w : World} {K : Act → World → Prop} {f : FuncId} {args : Array Value} (h : (execOp a.eval o).run P w = .ok (.enter f args) w)
    (hc : Calls P f args w fun en w' => ∃ v, en = .returned v ∧ K (a.put o.dst v) w') : o.wp P a w K Q := by
  unfold Oper.wp; rw [h]
  refine Calls.mono hc ?_
  rintro en w' ⟨v, rfl, hK⟩
  exact hK

set_option maxRecDepth 100000 in
theorem cf_between (args : Array Value) (w : World) : (callFunc 97 args).run Tryz.prog w = .ok (.enter 97 args) w := by rfl
set_option maxRecDepth 100000 in
theorem cf_either (args : Array Value) (w : World) : (callFunc 98 args).run Tryz.prog w = .ok (.enter 98 args) w := by rfl
theorem run_call {f : FuncId} (hcf : ∀ (args : Array Value) (w : World), (callFunc f args).run Tryz.prog w = .ok (.enter f args) w) (a : Act) (w : World) (dst : Option Tmp) (xs : Array Operand) (ats : Array TypeId) (ty : TypeId) (pos : String) (after : Array Edge) :
    (execOp a.eval ⟨dst, .call ⟨.value (.func f), xs, ats⟩, ty, pos, after, none⟩).run Tryz.prog w = .ok (.enter f (xs.map a.eval)) w := by
  have e : execOp a.eval ⟨dst, .call ⟨.value (.func f), xs, ats⟩, ty, pos, after, none⟩ = callFunc f (#[] ++ xs.map a.eval ++ #[]) := rfl
  rw [e, hcf]
  simp
theorem st_move {i d s : Nat} {ty : TypeId} {pos : String} {after : Array Edge} {f : Nat → Bool} (hk : ckinds[i]? = some (some d, .fn f)) (ha : ∀ e ∈ after, e.on < i) (hs : True)
    (hf : ∀ (L : Nat → Bool) (a : Act) (w : World), CI w0 p4 p5 L a w → (∀ e ∈ after, Region.binds .any e = true → L e.on = true) → FnOf w (a.eval (.tmp s)) f) : StC Q w0 p4 p5 i ⟨some d, .move (.tmp s), ty, pos, after, none⟩ :=
  ⟨rfl, ha, fun L a w h hi he => wp_val (v := a.eval (.tmp s)) rfl (h.value hk hi rfl (fun _ => hf L a w h he) (Below.refl _ _))⟩
theorem st_load {i d s p : Nat} {pos : String} {after : Array Edge} {f : Nat → Bool} (hk : ckinds[i]? = some (some d, .fn f)) (ha : ∀ e ∈ after, e.on < i) (hs : True)
    (hf : ∀ (L : Nat → Bool) (a : Act) (w : World), CI w0 p4 p5 L a w → (∀ e ∈ after, Region.binds .any e = true → L e.on = true) → PtrOk w (a.eval (.tmp s)) p f) : StC Q w0 p4 p5 i ⟨some d, .load 97 (.tmp s), 97, pos, after, none⟩ :=
  ⟨rfl, ha, fun L a w h hi he => by
    obtain ⟨e, u, hc, hu⟩ := hf L a w h he
    have f0 := hc.cell 0
    simp only [List.getElem?_toArray, List.getElem?_cons_zero] at f0
    refine wp_val (v := u) ?_ (h.value hk hi rfl (fun _ => hu) (Below.refl _ _))
    have e' : execOp a.eval ⟨some d, .load 97 (.tmp s), 97, pos, after, none⟩ = execOp (fun _ => Value.pointer (some ⟨p, 0, none⟩)) ⟨some d, .load 97 (.tmp 0), 97, pos, after, none⟩ := by
      unfold execOp; simp only [e]
    rw [e']
    simp [go_sem, f0]⟩
set_option maxRecDepth 100000 in
theorem st_bet {i d lo hi : Nat} {ty : TypeId} {pos : String} {ats : Array TypeId} {after : Array Edge} (hk : ckinds[i]? = some (some d, .fn (betF lo hi))) (ha : ∀ e ∈ after, e.on < i) (hs : True) :
    StC Q w0 p4 p5 i ⟨some d, .call ⟨.value (.func 97), #[.const (.int .u8 (lo : Nat)), .const (.int .u8 (hi : Nat))], ats⟩, ty, pos, after, none⟩ :=
  ⟨rfl, ha, fun L a w h hi' he => by
    refine wp_call (run_call cf_between a w (some d) #[.const (.int .u8 (lo : Nat)), .const (.int .u8 (hi : Nat))] ats ty pos after) ?_
    have e : Array.map a.eval #[.const (.int .u8 (lo : Nat)), .const (.int .u8 (hi : Nat))] = #[.int .u8 (lo : Nat), .int .u8 (hi : Nat)] := by simp [Act.eval]
    rw [e]
    refine (between_any w lo hi).mono fun en w' hg => ?_
    obtain ⟨v, rfl, hv, hb⟩ := hg
    exact ⟨v, rfl, h.value hk hi' rfl (fun _ => hv) hb⟩⟩
set_option maxRecDepth 100000 in
theorem st_either {i j d s : Nat} {ty : TypeId} {pos : String} {ats : Array TypeId} {after : Array Edge} {fs : List (Nat → Bool)} (hk : ckinds[i]? = some (some d, .fn (anyF fs))) (ha : ∀ e ∈ after, e.on < i) (hs : True)
    (hj : ckinds[j]? = some (some s, .sl fs)) (hl : fs.length ≤ 100) (hL : ∀ (L : Nat → Bool) (a : Act) (w : World), CI w0 p4 p5 L a w → (∀ e ∈ after, Region.binds .any e = true → L e.on = true) → L j = true) :
    StC Q w0 p4 p5 i ⟨some d, .call ⟨.value (.func 98), #[.tmp s], ats⟩, ty, pos, after, none⟩ :=
  ⟨rfl, ha, fun L a w h hi' he => by
    obtain ⟨mv, h1, _⟩ := h.slots
    obtain ⟨b, vs, e, hc, hlen, hf⟩ := h1 j s _ hj (hL L a w h he)
    refine wp_call (run_call cf_either a w (some d) #[.tmp s] ats ty pos after) ?_
    have e' : Array.map a.eval #[.tmp s] = #[.slice (some ⟨b, 0, none⟩) vs.length vs.length] := by simp [e]
    rw [e']
    refine (either_any w b vs fs hc (by omega) hlen hf).mono fun en w' hg => ?_
    obtain ⟨v, rfl, hv, hb⟩ := hg
    exact ⟨v, rfl, h.value hk hi' rfl (fun _ => hv) hb⟩⟩
set_option maxRecDepth 100000 in
theorem run_sl2 (ρ : Operand → Value) (w : World) {d s1 s2 : Nat} {ty : TypeId} {pos : String} {after : Array Edge} {g1 g2 : Fn} {c1 c2 : Array Value} (e1 : ρ (.tmp s1) = .func g1 #[] c1) (e2 : ρ (.tmp s2) = .func g2 #[] c2) :
    (execOp ρ ⟨some d, .buildSlice 121 2 #[(0, .tmp s1), (1, .tmp s2)], ty, pos, after, none⟩).run Tryz.prog w = .ok (.value (.slice (some ⟨w.heap.size, 0, none⟩) 2 2)) (w.alloc (.cells #[.func g1 #[] c1, .func g2 #[] c2] 97)) := by
  simp [execOp, e1, e2, go_sem]
set_option maxRecDepth 100000 in
theorem run_sl3 (ρ : Operand → Value) (w : World) {d s1 s2 s3 : Nat} {ty : TypeId} {pos : String} {after : Array Edge} {g1 g2 g3 : Fn} {c1 c2 c3 : Array Value} (e1 : ρ (.tmp s1) = .func g1 #[] c1) (e2 : ρ (.tmp s2) = .func g2 #[] c2) (e3 : ρ (.tmp s3) = .func g3 #[] c3) :
    (execOp ρ ⟨some d, .buildSlice 121 3 #[(0, .tmp s1), (1, .tmp s2), (2, .tmp s3)], ty, pos, after, none⟩).run Tryz.prog w = .ok (.value (.slice (some ⟨w.heap.size, 0, none⟩) 3 3)) (w.alloc (.cells #[.func g1 #[] c1, .func g2 #[] c2, .func g3 #[] c3] 97)) := by
  simp [execOp, e1, e2, e3, go_sem]
theorem slOk_new (w : World) (vs : List Value) (fs : List (Nat → Bool)) (t : TypeId) (hl : fs.length = vs.length) (hf : ∀ (i : Nat) (v : Value) (f : Nat → Bool), vs[i]? = some v → fs[i]? = some f → FnOf w v f) :
    SlOk (w.alloc (.cells vs.toArray t)) (.slice (some ⟨w.heap.size, 0, none⟩) vs.length vs.length) fs :=
  ⟨_, vs, rfl, CellsAt.new w _ _, hl, fun i v f h1 h2 => (hf i v f h1 h2).later (.of_below ((Below.refl _ _).alloc (Nat.le_refl _) _))⟩
set_option maxRecDepth 100000 in
theorem st_sl2 {i d s1 s2 : Nat} {ty : TypeId} {pos : String} {after : Array Edge} {f1 f2 : Nat → Bool} (hk : ckinds[i]? = some (some d, .sl [f1, f2])) (ha : ∀ e ∈ after, e.on < i) (hs : True)
    (hf1 : ∀ (L : Nat → Bool) (a : Act) (w : World), CI w0 p4 p5 L a w → (∀ e ∈ after, Region.binds .any e = true → L e.on = true) → FnOf w (a.eval (.tmp s1)) f1)
    (hf2 : ∀ (L : Nat → Bool) (a : Act) (w : World), CI w0 p4 p5 L a w → (∀ e ∈ after, Region.binds .any e = true → L e.on = true) → FnOf w (a.eval (.tmp s2)) f2) :
    StC Q w0 p4 p5 i ⟨some d, .buildSlice 121 2 #[(0, .tmp s1), (1, .tmp s2)], ty, pos, after, none⟩ :=
  ⟨rfl, ha, fun L a w h hi' he => by
    have h1 := hf1 L a w h he; have h2 := hf2 L a w h he
    obtain ⟨g1, c1, e1, _⟩ := id h1; obtain ⟨g2, c2, e2, _⟩ := id h2
    refine wp_val (run_sl2 a.eval w e1 e2) (h.value hk hi' rfl (fun _ => ?_) ((Below.refl _ _).alloc (Nat.le_refl _) _))
    rw [e1] at h1; rw [e2] at h2
    refine slOk_new w [.func (.func g1) #[] c1, .func (.func g2) #[] c2] [f1, f2] _ rfl fun i v f a1 a2 => ?_
    rcases i with _ | _ | i
    · simp at a1 a2; subst a1 a2; exact h1
    · simp at a1 a2; subst a1 a2; exact h2
    · simp at a1⟩
set_option maxRecDepth 100000 in
theorem st_sl3 {i d s1 s2 s3 : Nat} {ty : TypeId} {pos : String} {after : Array Edge} {f1 f2 f3 : Nat → Bool} (hk : ckinds[i]? = some (some d, .sl [f1, f2, f3])) (ha : ∀ e ∈ after, e.on < i) (hs : True)
    (hf1 : ∀ (L : Nat → Bool) (a : Act) (w : World), CI w0 p4 p5 L a w → (∀ e ∈ after, Region.binds .any e = true → L e.on = true) → FnOf w (a.eval (.tmp s1)) f1)
    (hf2 : ∀ (L : Nat → Bool) (a : Act) (w : World), CI w0 p4 p5 L a w → (∀ e ∈ after, Region.binds .any e = true → L e.on = true) → FnOf w (a.eval (.tmp s2)) f2)
    (hf3 : ∀ (L : Nat → Bool) (a : Act) (w : World), CI w0 p4 p5 L a w → (∀ e ∈ after, Region.binds .any e = true → L e.on = true) → FnOf w (a.eval (.tmp s3)) f3) :
    StC Q w0 p4 p5 i ⟨some d, .buildSlice 121 3 #[(0, .tmp s1), (1, .tmp s2), (2, .tmp s3)], ty, pos, after, none⟩ :=
  ⟨rfl, ha, fun L a w h hi' he => by
    have h1 := hf1 L a w h he; have h2 := hf2 L a w h he; have h3 := hf3 L a w h he
    obtain ⟨g1, c1, e1, _⟩ := id h1; obtain ⟨g2, c2, e2, _⟩ := id h2; obtain ⟨g3, c3, e3, _⟩ := id h3
    refine wp_val (run_sl3 a.eval w e1 e2 e3) (h.value hk hi' rfl (fun _ => ?_) ((Below.refl _ _).alloc (Nat.le_refl _) _))
    rw [e1] at h1; rw [e2] at h2; rw [e3] at h3
    refine slOk_new w [.func (.func g1) #[] c1, .func (.func g2) #[] c2, .func (.func g3) #[] c3] [f1, f2, f3] _ rfl fun i v f a1 a2 => ?_
    rcases i with _ | _ | _ | i
    · simp at a1 a2; subst a1 a2; exact h1
    · simp at a1 a2; subst a1 a2; exact h2
    · simp at a1 a2; subst a1 a2; exact h3
    · simp at a1⟩
set_option maxRecDepth 100000 in
theorem st_mf {i d : Nat} {ty : TypeId} {pos : String} {after : Array Edge} (hk : ckinds[i]? = some (some d, .fn (butF graphF alnumF))) (ha : ∀ e ∈ after, e.on < i) (hs : True) :
    StC Q w0 p4 p5 i ⟨some d, .makeFunc (.func 99) #[] #[.tmp 5, .tmp 4], ty, pos, after, none⟩ :=
  ⟨rfl, ha, fun L a w h hi' he => by
    obtain ⟨e5, u5, c5, f5⟩ := h.t5
    obtain ⟨e4, u4, c4, f4⟩ := h.t4
    refine wp_val (v := .func (.func 99) #[] #[a.eval (.tmp 5), a.eval (.tmp 4)]) (by simp [execOp, Instr.makeFunc, go_sem]) (h.value hk hi' rfl (fun _ => ?_) (Below.refl _ _))
    rw [e5, e4]
    exact but_fn w p5 p4 u5 u4 graphF alnumF c5 c4 f5 f4⟩
set_option maxRecDepth 100000 in
theorem st_mk {ty mt : TypeId} {pos : String} {after : Array Edge} (ha : ∀ e ∈ after, e.on < 0) : StC Q w0 p4 p5 0 ⟨some 15, .makeMap mt none, ty, pos, after, none⟩ :=
  ⟨rfl, ha, fun L a w h hi' he => by
    have hb : Below w.heap.size w (w.alloc (.map #[] 0)) := (Below.refl _ _).alloc (Nat.le_refl _) _
    have hx := CExt.of_below hb
    refine wp_val (v := .map (some w.heap.size)) (w' := w.alloc (.map #[] 0)) (by simp [execOp, Instr.makeMap, go_sem]) ?_
    have hk : ckinds[0]? = some (some 15, .mk) := rfl
    obtain ⟨mv, h1, h2⟩ := h.slots
    have hupd : ∀ j, j ≠ 0 → upd L 0 j = L j := fun j hj => by simp [upd, show (j == 0) = false by simpa using hj]
    refine ⟨h.bel.step hb, by simp [Act.put, h.sz], h.dfr, ?_, ?_, ?_, ?_, ?_, ⟨.map (some w.heap.size), fun j e k' hj hL => ?_, fun hL => ?_⟩, fun j x hj hx' hL => by simp [upd]⟩
    · rw [eval_put_ne (by decide)]; exact h.t1.later hx
    · rw [eval_put_ne (by decide)]; exact h.t2.later hx
    · rw [eval_put_ne (by decide)]; exact h.t3.later hx
    · rw [eval_put_ne (by decide)]; exact h.t4.later hx
    · rw [eval_put_ne (by decide)]; exact h.t5.later hx
    · by_cases hji : j = 0
      · subst hji
        rw [hk] at hj; cases hj
        rw [eval_put_same (by rw [h.sz]; decide)]
        exact rfl
      · have hde : 15 ≠ e := fun he => hji (by subst he; exact (ck_one hk hj).symm)
        rw [eval_put_ne hde]
        rw [hupd j hji] at hL
        have := (h1 j e k' hj hL).later hx
        cases k' with
        | mk => exact absurd (ck_mk hj) hji
        | cp => exact absurd (h.early j _ hj rfl hL) (by rw [hi']; simp)
        | fn f => exact this
        | sl fs => exact this
        | ins _ _ => trivial
    · refine ⟨w.heap.size, #[], 0, rfl, heap_alloc_new w _, h.bel.size, fun x hx => by simp at hx, fun j n f hj hL' => ?_⟩
      have hji : j ≠ 0 := fun e => by subst e; cases hj
      rw [hupd j hji] at hL'
      exact absurd (h.early j _ hj rfl hL') (by rw [hi']; simp)⟩
theorem bs_inj {a b : Bs} (h : Value.string (bs a) = .string (bs b)) : a = b := by
  injection h with h
  injection h with h
  simpa using h
theorem run_ins (ρ : Operand → Value) (w : World) {r clock s : Nat} {es : Array MapEntry} {name : Bs} {ty : TypeId} {pos : String} {after : Array Edge} (e1 : ρ (.tmp 15) = .map (some r)) (e2 : ρ (.const (.string (bs name))) = .string (bs name))
    (hr : w.heap[r]? = some (.map es clock)) (hks : ∀ x ∈ es.toList, MapKept.IsKey .string x.key) (hno : ∀ x ∈ es.toList, x.key ≠ .string (bs name)) :
    (execOp ρ ⟨none, .insert 114 (.tmp 15) (.const (.string (bs name))) (.tmp s), ty, pos, after, none⟩).run Tryz.prog w = .ok .skip { w with heap := w.heap.setIfInBounds r (.map (es.push { key := .string (bs name), val := ρ (.tmp s), born := clock }) (clock + 1)) } := by
  have hm : Tryz.prog.underlying 114 = some (.map 9 97) := by kernel_rfl
  have hd : Tryz.prog.underlying 9 = some .string := by kernel_rfl
  have hk : MapKept.IsKey .string (.string (bs name)) := trivial
  have hf : Instr.findNow .string (.string (bs name)) es.toList 0 = some none := by
    rcases MapKept.findNow_spec hk es.toList 0 hks with ⟨h1, _⟩ | ⟨j, e, _, h2, h3⟩
    · exact h1
    · exact absurd h3 (hno e (List.mem_of_getElem? h2))
  simp [execOp, e1, e2, Instr.mapUpdate, run_underlying hm, MapKept.run_getObj_map hr, MapKept.run_checkKey hd hk, MapKept.run_findKey hd hf, MapKept.run_setObj_map _ hr, Result.andThen]
set_option maxRecDepth 100000 in
theorem st_ins {i j s : Nat} {name : Bs} {f : Nat → Bool} {ty : TypeId} {pos : String} {after : Array Edge} (hk : ckinds[i]? = some (none, .ins name f)) (hj : ckinds[j]? = some (some s, .fn f)) (ha : ∀ e ∈ after, e.on < i)
    (hL : ∀ (L : Nat → Bool) (a : Act) (w : World), CI w0 p4 p5 L a w → (∀ e ∈ after, Region.binds .any e = true → L e.on = true) → L 0 = true ∧ L j = true) :
    StC Q w0 p4 p5 i ⟨none, .insert 114 (.tmp 15) (.const (.string (bs name))) (.tmp s), ty, pos, after, none⟩ :=
  ⟨rfl, ha, fun L a w h hi' he => by
    obtain ⟨l0, lj⟩ := hL L a w h he
    obtain ⟨mv, h1, h2⟩ := h.slots
    have hv := h.fnAt hj lj
    have e15 : a.eval (.tmp 15) = mv := h1 0 15 .mk rfl l0
    obtain ⟨r, es, clock, rfl, hr, hB, m1, m2⟩ := h2 l0
    have hrl : r < w.heap.size := (Array.getElem?_eq_some_iff.1 hr).1
    refine wp_skip (run_ins (s := s) a.eval w e15 rfl hr (fun x hx => ?_) (fun x hx e => ?_)) ?_
    · obtain ⟨j', n', f', _, _, b, _⟩ := m1 x hx
      rw [b]; trivial
    · obtain ⟨j', n', f', c1, c2, c3, _⟩ := m1 x hx
      rw [c3] at e
      have := bs_inj e
      subst this
      have := ck_name_one hk c1
      subst this
      rw [hi'] at c2; cases c2
    generalize hW : ({ w with heap := w.heap.setIfInBounds r (.map (es.push { key := .string (bs name), val := a.eval (.tmp s), born := clock }) (clock + 1)) } : World) = W
    have hrW : W.heap[r]? = some (.map (es.push { key := .string (bs name), val := a.eval (.tmp s), born := clock }) (clock + 1)) := by subst hW; simp [hrl]
    have hoW : ∀ k, k ≠ r → W.heap[k]? = w.heap[k]? := fun k hk => by subst hW; simp [Ne.symm hk]
    have hsW : W.heap.size = w.heap.size := by subst hW; simp
    have hx : CExt w W := ⟨by omega, fun k cs t z e => by
      rw [hoW k (fun e' => by subst e'; rw [hr] at e; cases e)]; exact e⟩
    have hbW : Below w0.heap.size w0 W := by
      have hb := h.bel
      refine ⟨?_, ?_, ?_, by rw [hsW]; exact hb.size, fun k hk' => (hoW k (by omega)).trans (hb.block k hk')⟩
      · subst hW; exact hb.os
      · subst hW; exact hb.tape
      · subst hW; exact hb.output
    clear hW
    have hupd : ∀ k, k ≠ i → upd L i k = L k := fun k hk => by simp [upd, show (k == i) = false by simpa using hk]
    have hput : a.put none undef = a := rfl
    rw [hput]
    refine ⟨hbW, h.sz, h.dfr, h.t1.later hx, h.t2.later hx, h.t3.later hx, h.t4.later hx, h.t5.later hx, ⟨_, fun k e k' hk' hl => ?_, fun _ => ⟨r, _, _, rfl, hrW, hB, fun x hxm => ?_, fun k n g hk' hl => ?_⟩⟩, fun k x hk' hn hl => ?_⟩
    · have hki : k ≠ i := fun e' => by subst e'; rw [hk] at hk'; cases hk'
      rw [hupd k hki] at hl
      exact (h1 k e k' hk' hl).later hx
    · rw [Array.toList_push, List.mem_append, List.mem_singleton] at hxm
      rcases hxm with hxm | rfl
      · obtain ⟨j', n', f', c1, c2, c3, c4⟩ := m1 x hxm
        exact ⟨j', n', f', c1, by simp [upd, c2], c3, c4.later hx⟩
      · exact ⟨i, name, f, hk, by simp [upd], rfl, hv.later hx⟩
    · by_cases hki : k = i
      · subst hki
        rw [hk] at hk'; cases hk'
        exact ⟨_, by rw [Array.toList_push]; exact List.mem_append_right _ (List.mem_singleton.2 rfl), rfl⟩
      · rw [hupd k hki] at hl
        obtain ⟨x, hx1, hx2⟩ := m2 k n g hk' hl
        exact ⟨x, by rw [Array.toList_push]; exact List.mem_append_left _ hx1, hx2⟩
    · have hi0 : i ≠ 0 := fun e' => by subst e'; cases hk
      rw [hupd 0 (Ne.symm hi0)]; exact l0⟩
set_option maxRecDepth 100000 in
theorem st_cp {i j d s : Nat} {k' : CK} {op : Op} {ty : TypeId} {pos : String} {after : Array Edge} (hk : ckinds[i]? = some (some d, .cp)) (hj : ckinds[j]? = some (some s, k')) (ha : ∀ e ∈ after, e.on < i) (hop : op = .move (.tmp s) ∨ op = .assign (.tmp s)) (hc : k' = .mk ∨ k' = .cp)
    (hL : ∀ (L : Nat → Bool) (a : Act) (w : World), CI w0 p4 p5 L a w → (∀ e ∈ after, Region.binds .any e = true → L e.on = true) → L j = true) : StC Q w0 p4 p5 i ⟨some d, op, ty, pos, after, none⟩ :=
  ⟨rfl, ha, fun L a w h hi' he => by
    have lj := hL L a w h he
    have l0 : L 0 = true := by
      rcases hc with rfl | rfl
      · rw [← ck_mk hj]; exact lj
      · exact h.early j _ hj rfl lj
    obtain ⟨mv, h1, h2⟩ := h.slots
    have es : a.eval (.tmp s) = mv := by
      rcases hc with rfl | rfl
      · exact h1 j s _ hj lj
      · exact h1 j s _ hj lj
    obtain ⟨d1, d2, d3, d4, d5, dl⟩ := ck_far hk
    have hi0 : i ≠ 0 := fun e => by subst e; cases hk
    have hupd : ∀ j, j ≠ i → upd L i j = L j := fun j hj => by simp [upd, show (j == i) = false by simpa using hj]
    refine wp_val (v := a.eval (.tmp s)) (w' := w) (by rcases hop with rfl | rfl <;> rfl) ?_
    show CI w0 p4 p5 (upd L i) (a.put (some d) (a.eval (.tmp s))) w
    rw [es]
    refine ⟨h.bel, by simp [Act.put, h.sz], h.dfr, ?_, ?_, ?_, ?_, ?_, ⟨mv, fun k e k2 hk2 hl => ?_, fun _ => (h2 l0).more hk⟩, fun k x hk2 hn hl => by rw [hupd 0 (Ne.symm hi0)]; exact l0⟩
    · rw [eval_put_ne d1]; exact h.t1
    · rw [eval_put_ne d2]; exact h.t2
    · rw [eval_put_ne d3]; exact h.t3
    · rw [eval_put_ne d4]; exact h.t4
    · rw [eval_put_ne d5]; exact h.t5
    · by_cases hki : k = i
      · subst hki
        rw [hk] at hk2; cases hk2
        rw [eval_put_same (by rw [h.sz]; exact dl)]
        exact rfl
      · have hde : d ≠ e := fun he => hki (by subst he; exact (ck_one hk hk2).symm)
        rw [eval_put_ne hde]
        rw [hupd k hki] at hl
        exact h1 k e k2 hk2 hl⟩
end
/-- The table as it stands. -/
def ClassMap (w : World) (v : Value) : Prop :=
  ∃ (r : Nat) (es : Array MapEntry) (clock : Nat), v = .map (some r) ∧ w.heap[r]? = some (.map es clock) ∧
    (∀ x ∈ es.toList, ∃ (j : Nat) (name : Bs) (f : Nat → Bool), ckinds[j]? = some (none, .ins name f) ∧ x.key = .string (bs name) ∧ FnOf w x.val f) ∧
    ∀ (j : Nat) (name : Bs) (f : Nat → Bool), ckinds[j]? = some (none, .ins name f) → ∃ x ∈ es.toList, x.key = .string (bs name)
theorem classes_res (tmps : Array Value) (v : Value) (W : World) (h : tmps[0]? = some v) : (results Tryz.f94 tmps).run Tryz.prog W = .ok v W := by
  simp [results, Tryz.results94, go_sem, h]
set_option maxRecDepth 100000 in
set_option maxHeartbeats 4000000 in
theorem classes_any (w : World) : Calls Tryz.prog 94 #[] w fun en w' => ∃ v, en = .returned v ∧ ClassMap w' v ∧ Below w.heap.size w w' := by
  go_enter Tryz.func94, Tryz.ntmps94
  go_wp2_with fail
  refine (between_any _ 65 90).mono ?_
  rintro en w1 ⟨v1, rfl, h1, hb1⟩
  go_wp2_with fail
  refine (between_any _ 97 122).mono ?_
  rintro en w2 ⟨v2, rfl, h2, hb2⟩
  go_wp2_with fail
  refine (between_any _ 48 57).mono ?_
  rintro en w3 ⟨v3, rfl, h3, hb3⟩
  have h1 := (h1.later (.of_below hb2)).later (.of_below hb3)
  have h2 := h2.later (.of_below hb3)
  have hb3 := (hb1.step hb2).step hb3
  clear hb1 hb2
  obtain ⟨g1, c1, rfl, -⟩ := id h1
  obtain ⟨g2, c2, rfl, -⟩ := id h2
  obtain ⟨g3, c3, rfl, -⟩ := id h3
  have H1 := Lib.hid h1; have H2 := Lib.hid h2; have H3 := Lib.hid h3; have HB := Lib.hid hb3
  clear h1 h2 h3 hb3
  go_wp2_with fail
  generalize hW4 : w3.alloc _ = W4
  have hb4 : Below w3.heap.size w3 W4 := by subst hW4; exact (Below.refl _ _).alloc (Nat.le_refl _) _
  have hs4 : CellsAt W4 w3.heap.size [Value.func (.func g1) #[] c1, .func (.func g2) #[] c2, .func (.func g3) #[] c3].toArray := by subst hW4; exact CellsAt.new w3 _ _
  clear hW4
  refine (either_any W4 w3.heap.size [Value.func (.func g1) #[] c1, .func (.func g2) #[] c2, .func (.func g3) #[] c3] [betF 65 90, betF 97 122, betF 48 57] hs4 (by simp) rfl ?_).mono ?_
  · intro i v f a1 a2
    rcases i with _ | _ | _ | i
    · simp at a1 a2; subst a1 a2; exact H1.out.later (.of_below hb4)
    · simp at a1 a2; subst a1 a2; exact H2.out.later (.of_below hb4)
    · simp at a1 a2; subst a1 a2; exact H3.out.later (.of_below hb4)
    · simp at a1
  rintro en w5 ⟨v4, rfl, h4, hb5⟩
  obtain ⟨g4, c4, rfl, -⟩ := id h4
  have H4 := Lib.hid h4; clear h4 hs4
  go_wp2_with fail
  refine (between_any _ 33 126).mono ?_
  rintro en w6 ⟨v5, rfl, h5, hb6⟩
  obtain ⟨g5, c5, rfl, -⟩ := id h5
  have H5 := Lib.hid h5; clear h5
  have HB36 := Lib.hid ((hb4.step hb5).step hb6)
  have HB56 := Lib.hid hb6
  clear hb4 hb5 hb6
  go_wp2_with fail
  generalize hW7 : (w6.alloc _).alloc _ = W7
  have hb7 : Below w6.heap.size w6 W7 := by subst hW7; exact ((Below.refl _ _).alloc (Nat.le_refl _) _).alloc (by simp) _
  have hz7 : W7.heap.size = w6.heap.size + 2 := by subst hW7; simp
  have k4 : CellsAt W7 w6.heap.size #[.func (.func g4) #[] c4] := by
    subst hW7
    exact (CellsAt.new w6 _ _).keep ((Below.refl _ _).alloc (Nat.le_refl _) _)
  have k5 : CellsAt W7 (w6.heap.size + 1) #[.func (.func g5) #[] c5] := by
    subst hW7
    have := CellsAt.new (w6.alloc (.cells #[.func (.func g4) #[] c4] 97)) #[.func (.func g5) #[] c5] 97
    rw [show (w6.alloc (.cells #[.func (.func g4) #[] c4] 97)).heap.size = w6.heap.size + 1 by simp] at this
    exact this
  clear hW7
  have hb3 := (HB36.out.step hb7)
  have hbW := HB.out.step hb3
  have hd : Below W7.heap.size W7 W7.drew := ⟨rfl, rfl, rfl, Nat.le_refl _, fun _ _ => rfl⟩
  have hx3 : CExt w3 W7.drew := (CExt.of_below hb3).trans (.of_below hd)
  have hx5 : CExt w5 W7.drew := ((CExt.of_below HB56.out).trans (.of_below hb7)).trans (.of_below hd)
  have hx6 : CExt w6 W7.drew := (CExt.of_below hb7).trans (.of_below hd)
  refine wp_region_any (by kernel_rfl) ?_
  refine wpAny_inv (CI w w6.heap.size (w6.heap.size + 1)) ?_ ?_ _ _ _ _ rfl (by decide +kernel) ?_
  · refine fun i o ho => ?_
    rw [List.getElem?_toArray] at ho
    revert i o
    refine steps_start ?_
    refine steps_cons (st_mk (by decide)) ?_
    refine steps_cons (st_move rfl (by decide) trivial (fun L a w h _ => h.t1)) ?_
    refine steps_cons (st_ins (j := 1) rfl rfl (by decide) (fun L a w h he => ⟨he ⟨0, .data⟩ (by simp) rfl, he ⟨1, .data⟩ (by simp) rfl⟩)) ?_
    refine steps_cons (st_move rfl (by decide) trivial (fun L a w h _ => h.t2)) ?_
    refine steps_cons (st_ins (j := 3) rfl rfl (by decide) (fun L a w h he => ⟨he ⟨0, .data⟩ (by simp) rfl, he ⟨3, .data⟩ (by simp) rfl⟩)) ?_
    refine steps_cons (st_move rfl (by decide) trivial (fun L a w h _ => h.t3)) ?_
    refine steps_cons (st_ins (j := 5) rfl rfl (by decide) (fun L a w h he => ⟨he ⟨0, .data⟩ (by simp) rfl, he ⟨5, .data⟩ (by simp) rfl⟩)) ?_
    refine steps_cons (st_load rfl (by decide) trivial (fun L a w h _ => h.t4)) ?_
    refine steps_cons (st_ins (j := 7) rfl rfl (by decide) (fun L a w h he => ⟨he ⟨0, .data⟩ (by simp) rfl, he ⟨7, .data⟩ (by simp) rfl⟩)) ?_
    refine steps_cons (st_load rfl (by decide) trivial (fun L a w h _ => h.t5)) ?_
    refine steps_cons (st_ins (j := 9) rfl rfl (by decide) (fun L a w h he => ⟨he ⟨0, .data⟩ (by simp) rfl, he ⟨9, .data⟩ (by simp) rfl⟩)) ?_
    refine steps_cons (st_move rfl (by decide) trivial (fun L a w h _ => h.t1)) ?_
    refine steps_cons (st_move rfl (by decide) trivial (fun L a w h _ => h.t2)) ?_
    refine steps_cons (st_sl2 rfl (by decide) trivial (fun L a w h he => h.fnAt (i := 11) rfl (he ⟨11, .data⟩ (by simp) rfl)) (fun L a w h he => h.fnAt (i := 12) rfl (he ⟨12, .data⟩ (by simp) rfl))) ?_
    refine steps_cons (st_either (j := 13) rfl (by decide) trivial rfl (by decide) (fun L a w h he => he ⟨13, .data⟩ (by simp) rfl)) ?_
    refine steps_cons (st_ins (j := 14) rfl rfl (by decide) (fun L a w h he => ⟨he ⟨0, .data⟩ (by simp) rfl, he ⟨14, .data⟩ (by simp) rfl⟩)) ?_
    refine steps_cons (st_move rfl (by decide) trivial (fun L a w h _ => h.t3)) ?_
    refine steps_cons (st_bet rfl (by decide) trivial) ?_
    refine steps_cons (st_bet rfl (by decide) trivial) ?_
    refine steps_cons (st_sl3 rfl (by decide) trivial (fun L a w h he => h.fnAt (i := 16) rfl (he ⟨16, .data⟩ (by simp) rfl)) (fun L a w h he => h.fnAt (i := 17) rfl (he ⟨17, .data⟩ (by simp) rfl)) (fun L a w h he => h.fnAt (i := 18) rfl (he ⟨18, .data⟩ (by simp) rfl))) ?_
    refine steps_cons (st_either (j := 19) rfl (by decide) trivial rfl (by decide) (fun L a w h he => he ⟨19, .data⟩ (by simp) rfl)) ?_
    refine steps_cons (st_ins (j := 20) rfl rfl (by decide) (fun L a w h he => ⟨he ⟨0, .data⟩ (by simp) rfl, he ⟨20, .data⟩ (by simp) rfl⟩)) ?_
    refine steps_cons (st_bet rfl (by decide) trivial) ?_
    refine steps_cons (st_bet rfl (by decide) trivial) ?_
    refine steps_cons (st_sl2 rfl (by decide) trivial (fun L a w h he => h.fnAt (i := 22) rfl (he ⟨22, .data⟩ (by simp) rfl)) (fun L a w h he => h.fnAt (i := 23) rfl (he ⟨23, .data⟩ (by simp) rfl))) ?_
    refine steps_cons (st_either (j := 24) rfl (by decide) trivial rfl (by decide) (fun L a w h he => he ⟨24, .data⟩ (by simp) rfl)) ?_
    refine steps_cons (st_ins (j := 25) rfl rfl (by decide) (fun L a w h he => ⟨he ⟨0, .data⟩ (by simp) rfl, he ⟨25, .data⟩ (by simp) rfl⟩)) ?_
    refine steps_cons (st_bet rfl (by decide) trivial) ?_
    refine steps_cons (st_bet rfl (by decide) trivial) ?_
    refine steps_cons (st_sl2 rfl (by decide) trivial (fun L a w h he => h.fnAt (i := 27) rfl (he ⟨27, .data⟩ (by simp) rfl)) (fun L a w h he => h.fnAt (i := 28) rfl (he ⟨28, .data⟩ (by simp) rfl))) ?_
    refine steps_cons (st_either (j := 29) rfl (by decide) trivial rfl (by decide) (fun L a w h he => he ⟨29, .data⟩ (by simp) rfl)) ?_
    refine steps_cons (st_ins (j := 30) rfl rfl (by decide) (fun L a w h he => ⟨he ⟨0, .data⟩ (by simp) rfl, he ⟨30, .data⟩ (by simp) rfl⟩)) ?_
    refine steps_cons (st_bet rfl (by decide) trivial) ?_
    refine steps_cons (st_bet rfl (by decide) trivial) ?_
    refine steps_cons (st_sl2 rfl (by decide) trivial (fun L a w h he => h.fnAt (i := 32) rfl (he ⟨32, .data⟩ (by simp) rfl)) (fun L a w h he => h.fnAt (i := 33) rfl (he ⟨33, .data⟩ (by simp) rfl))) ?_
    refine steps_cons (st_either (j := 34) rfl (by decide) trivial rfl (by decide) (fun L a w h he => he ⟨34, .data⟩ (by simp) rfl)) ?_
    refine steps_cons (st_ins (j := 35) rfl rfl (by decide) (fun L a w h he => ⟨he ⟨0, .data⟩ (by simp) rfl, he ⟨35, .data⟩ (by simp) rfl⟩)) ?_
    refine steps_cons (st_bet rfl (by decide) trivial) ?_
    refine steps_cons (st_ins (j := 37) rfl rfl (by decide) (fun L a w h he => ⟨he ⟨0, .data⟩ (by simp) rfl, he ⟨37, .data⟩ (by simp) rfl⟩)) ?_
    refine steps_cons (st_mf rfl (by decide) trivial) ?_
    refine steps_cons (st_ins (j := 39) rfl rfl (by decide) (fun L a w h he => ⟨he ⟨0, .data⟩ (by simp) rfl, he ⟨39, .data⟩ (by simp) rfl⟩)) ?_
    refine steps_cons (st_cp (j := 0) (s := 15) rfl rfl (by decide) (.inl rfl) (.inl rfl) (fun L a w h he => he ⟨0, .data⟩ (by simp) rfl)) ?_
    refine steps_cons (st_cp (j := 41) (s := 44) rfl rfl (by decide) (.inr rfl) (.inr rfl) (fun L a w h he => he ⟨41, .data⟩ (by simp) rfl)) ?_
    exact steps_nil
  · intro L a W hI hL
    rename_i hK
    have hL : ∀ i < 43, L i = true := hL
    obtain ⟨mv, m1, m2⟩ := hI.slots
    have e0 : a.eval (.tmp 0) = mv := m1 42 0 .cp rfl (hL 42 (by decide))
    obtain ⟨r, es, clock, rfl, hr, hB, n1, n2⟩ := m2 (hL 0 (by decide))
    have hdf := hI.dfr
    have hbl := hI.bel
    have hsz := hI.sz
    refine hK a W ?_
    apply wp_ret
    show bodyPost _ _ _ .ret a W
    obtain ⟨tmps, defers⟩ := a
    have e0 : tmps[0]? = some (.map (some r)) := by
      have hsz : tmps.size = 45 := hsz
      rw [← e0]; simp [Act.eval, Array.getD, hsz]
    refine bodyPost_ret (v := .map (some r)) (classes_res tmps _ W e0) hdf ⟨_, rfl, ⟨r, es, clock, rfl, hr, fun x hx => ?_, fun j n f hj => n2 j n f hj (hL j (ck_lt hj))⟩, hbl⟩
    obtain ⟨j, n, f, c1, _, c3, c4⟩ := n1 x hx
    exact ⟨j, n, f, c1, c3, c4⟩
  · refine ⟨hbW.step hd, rfl, rfl, H1.out.later hx3, H2.out.later hx3, H3.out.later hx3, ⟨rfl, _, k4.later (.of_below hd), H4.out.later hx5⟩, ⟨rfl, _, k5.later (.of_below hd), H5.out.later hx6⟩, ⟨undef, fun i d k hk hL => ?_, fun hL => ?_⟩, fun i x hk hn hL => ?_⟩
    · have := ck_lt hk
      have hno : ∀ i < 43, (Array.replicate 43 false).getD i false = false := by decide
      exact absurd hL (by have := hno i (ck_lt hk); simpa using this)
    · exact absurd hL (by decide)
    · have hno : ∀ i < 43, (Array.replicate 43 false).getD i false = false := by decide
      exact absurd hL (by have := hno i (ck_lt hk); simpa using this)
end Go.Proofs.YteekafkpeimhoaaGreat

/- The pattern reader's single, member: walked. -/
set_option linter.unusedVariables false
set_option linter.unusedSimpArgs false
namespace Go.Proofs.YteekafkpeimhoaaGreat
open Go.RowKit

/-- What a step hands back that reads a byte. -/
def GByte (p : Nat) (op : Int) (f : Bs → Except Int (Nat × Bs)) (r : Bs) (w : World) (en : Ending) (w' : World) : Prop :=
  ∃ (c : Nat) (s' : Rs), c < 256 ∧ en = .returned (.int .u8 (c : Nat)) ∧ RS w' p op s' ∧ Off p w w' ∧ Out f (.ok r) (fun x => c = x) s'
set_option maxRecDepth 100000 in
set_option maxHeartbeats 2000000 in
theorem single_any (w : World) (p : Nat) (op : Int) (r : Bs) (g : UInt8) (h : RS w p op (.ok r)) :
    Calls Tryz.prog 87 #[.pointer (some ⟨p, 0, none⟩), .string (bs [g, 93])] w fun en w' => GByte p op (singleP g) r w en w' := by
  have H := Lib.hid h; clear h
  cases r with
  | nil =>
    have hs : singleP g [] = .error 101 := rfl
    go_enter Tryz.func87, Tryz.ntmps87
    go_wp2_with fail
    refine (next_end 101 (by omega) H.out).mono ?_
    rintro en w1 ⟨rfl, h1, hO1⟩
    go_wp2_with fail
    refine (take_err [g, 93] (by simp) h1).mono ?_
    rintro en w2 ⟨rfl, h2, hO2⟩
    go_wp2_with fail
    refine (fail_err 101 (by omega) h2).mono ?_
    rintro en w3 ⟨rfl, h3, hO3⟩
    go_wp2_with fail
    go_ret
    exact ⟨0, _, by omega, rfl, h3, (hO1.trans hO2).trans hO3, Out.bad hs⟩
  | cons c t =>
    have hc := c.toNat_lt
    cases ht : takeP [g, 93] t with
    | none =>
      have hs := Lib.hid (show singleP g (c :: t) = .error 101 by simp only [singleP, ht])
      have Ht := Lib.hid ht; clear ht
      go_enter Tryz.func87, Tryz.ntmps87
      go_wp2_with fail
      refine (next_ok 101 (by omega) H.out).mono ?_
      rintro en w1 ⟨rfl, h1, hO1⟩
      go_wp2_with fail
      refine (take_miss [g, 93] (by simp) Ht.out h1).mono ?_
      rintro en w2 ⟨rfl, h2, hO2⟩
      go_wp2_with fail
      refine (fail_ok 101 (by omega) h2).mono ?_
      rintro en w3 ⟨rfl, h3, hO3⟩
      go_wp2_with fail
      go_ret
      exact ⟨_, _, hc, rfl, h3, (hO1.trans hO2).trans hO3, Out.bad hs.out⟩
    | some r1 =>
      have hs := Lib.hid (show singleP g (c :: t) = .ok (c.toNat, r1) by simp only [singleP, ht])
      have Ht := Lib.hid ht; clear ht
      go_enter Tryz.func87, Tryz.ntmps87
      go_wp2_with fail
      refine (next_ok 101 (by omega) H.out).mono ?_
      rintro en w1 ⟨rfl, h1, hO1⟩
      go_wp2_with fail
      refine (take_hit [g, 93] (by simp) Ht.out h1).mono ?_
      rintro en w2 ⟨rfl, h2, hO2⟩
      go_wp2_with fail
      go_ret
      exact ⟨_, _, hc, rfl, h2, hO1.trans hO2, Out.good hs.out rfl⟩
theorem singleP_lt {g : UInt8} {r r' : Bs} {c : Nat} (h : singleP g r = .ok (c, r')) : c < 256 := by
  unfold singleP at h
  split at h
  · cases h
  · split at h
    · cases h; exact UInt8.toNat_lt _
    · cases h
theorem memberP_lt {r r' : Bs} {c : Nat} (h : memberP r = .ok (c, r')) : c < 256 := by
  unfold memberP at h
  split at h
  · exact singleP_lt h
  · split at h
    · cases h
    · cases h; exact UInt8.toNat_lt _
set_option maxRecDepth 100000 in
set_option maxHeartbeats 2000000 in
theorem member_any (w : World) (p : Nat) (op : Int) (r : Bs) (h : RS w p op (.ok r)) :
    Calls Tryz.prog 88 #[.pointer (some ⟨p, 0, none⟩)] w fun en w' => GByte p op memberP r w en w' := by
  have H := Lib.hid h; clear h
  cases ht : takeP [91, 46] r with
  | some r1 =>
    have hs := Lib.hid (show memberP r = singleP 46 r1 by simp only [memberP, ht])
    have Ht := Lib.hid ht; clear ht
    go_enter Tryz.func88, Tryz.ntmps88
    go_wp2_with fail
    refine (take_hit [91, 46] (by simp) Ht.out H.out).mono ?_
    rintro en w1 ⟨rfl, h1, hO1⟩
    go_wp2_with fail
    refine (single_any w1 p op r1 46 h1).mono ?_
    rintro en w2 ⟨c, s', hc, rfl, h2, hO2, ho⟩
    have Ho := Lib.hid ho; clear ho
    go_wp2_with fail
    go_ret
    exact ⟨c, s', hc, rfl, h2, hO1.trans hO2, by have := Ho.out; simp only [Out] at this ⊢; rw [hs.out]; exact this⟩
  | none =>
    cases r with
    | nil =>
      have hs : memberP [] = .error 101 := rfl
      have Ht := Lib.hid ht; clear ht
      go_enter Tryz.func88, Tryz.ntmps88
      go_wp2_with fail
      refine (take_miss [91, 46] (by simp) Ht.out H.out).mono ?_
      rintro en w1 ⟨rfl, h1, hO1⟩
      go_wp2_with fail
      refine (next_end 101 (by omega) h1).mono ?_
      rintro en w2 ⟨rfl, h2, hO2⟩
      go_wp2_with fail
      go_ret
      exact ⟨0, _, by omega, rfl, h2, hO1.trans hO2, Out.bad hs⟩
    | cons c t =>
      have hc := c.toNat_lt
      have hs := Lib.hid (show memberP (c :: t) = .ok (c.toNat, t) by simp only [memberP, ht])
      have Ht := Lib.hid ht; clear ht
      go_enter Tryz.func88, Tryz.ntmps88
      go_wp2_with fail
      refine (take_miss [91, 46] (by simp) Ht.out H.out).mono ?_
      rintro en w1 ⟨rfl, h1, hO1⟩
      go_wp2_with fail
      refine (next_ok 101 (by omega) h1).mono ?_
      rintro en w2 ⟨rfl, h2, hO2⟩
      go_wp2_with fail
      go_ret
      exact ⟨_, _, hc, rfl, h2, hO1.trans hO2, Out.good hs.out rfl⟩
end Go.Proofs.YteekafkpeimhoaaGreat

/-
  DERIVED: THE SHELF's CONTRACTS AT THIS DUMP, IN PLAIN WORDS (tools/lay-plain.mjs out of 'TryzShelf.lean', which tools/lay-shelf.mjs wrote): THE SAME DECLARATIONS UNDER THE SAME NAMES: 'import', 'namespace', 'open', 'def', 'theorem' AND NOTHING ELSE: no command of the shelf's: FOR A HAND-IN. Each laying: the table of numbers ('.._ren') and one theorem, a field a fact of the dump's own or the kernel's comparison; each contract: ONE APPLICATION.
-/
namespace Go.Proofs
open Go.Shelf
def Tryz.lays217_ren : Go.Shelf.Ren := ⟨fun | 217 => 103 | 266 => 107 | n => n, fun | 9 => 9 | 5 => 5 | 3 => 3 | n => n, fun | n => n⟩
theorem Tryz.lays217 : Go.Proofs.Lays.n217 Tryz.prog Tryz.lays217_ren := {
  mixed := by kernel_rfl
  f217 := Tryz.func103.trans (congrArg some (by kernel_rfl))
  f266 := Tryz.func107.trans (congrArg some (by kernel_rfl))
  t3 := Tryz.underlying3
  a3 := Tryz.isAgg3
  z3 := Tryz.sizeOf3
  v3 := Tryz.zeroValue3
  t5 := Tryz.underlying5
  a5 := Tryz.isAgg5
  z5 := Tryz.sizeOf5
  v5 := Tryz.zeroValue5
  t9 := Tryz.underlying9
  a9 := Tryz.isAgg9
  z9 := Tryz.sizeOf9
  v9 := Tryz.zeroValue9 }
open Go.RowKit Go.Lib in
/-- internal/stringslite.IndexByte (what strings.IndexByte calls): IT RETURNS 'Lib.indexByte s c'; the world is as it was. (LAID: no walk: one application.) -/
theorem Tryz.stringslite_IndexByte (s : ByteArray) (c : Int) (w : World) :
    Calls Tryz.prog 103 #[.string s, .int .u8 c] w fun e w' => e = .returned (.int .i64 (Lib.indexByte s.data.toList c.toNat.toUInt8)) ∧ w' = w := Any.stringslite_IndexByte Tryz.lays217 s c w
def Tryz.lays224_ren : Go.Shelf.Ren := ⟨fun | 224 => 105 | n => n, fun | 3 => 3 | n => n, fun | n => n⟩
theorem Tryz.lays224 : Go.Proofs.Lays.n224 Tryz.prog Tryz.lays224_ren := {
  mixed := by kernel_rfl
  f224 := Tryz.func105.trans (congrArg some (by kernel_rfl))
  t3 := Tryz.underlying3
  a3 := Tryz.isAgg3
  z3 := Tryz.sizeOf3
  v3 := Tryz.zeroValue3 }
open Go.RowKit Go.Lib in
/-- internal/bytealg.Cutover: "Cutover reports the number of failures of IndexByte we should tolerate before switching over tu Index. n is the number of bytes processed so far.": on amd64: (n + 16) / 8. (LAID: no walk: one application.) -/
theorem Tryz.bytealg_Cutover (n : Int) (h0 : 0 ≤ n) (h1 : n < 4611686018427387904) (w : World) :
    Calls Tryz.prog 105 #[.int .i64 n] w fun e w' => e = .returned (.int .i64 ((n + 16) / 8)) ∧ w' = w := Any.bytealg_Cutover Tryz.lays224 n h0 h1 w
def Tryz.lays314_ren : Go.Shelf.Ren := ⟨fun | 314 => 108 | n => n, fun | 9 => 9 | 51 => 125 | 3 => 3 | 4 => 4 | 5 => 5 | 46 => 124 | n => n, fun | n => n⟩
theorem Tryz.lays314 : Go.Proofs.Lays.n314 Tryz.prog Tryz.lays314_ren := {
  mixed := by kernel_rfl
  f314 := Tryz.func108.trans (congrArg some (by kernel_rfl))
  t3 := Tryz.underlying3
  a3 := Tryz.isAgg3
  z3 := Tryz.sizeOf3
  v3 := Tryz.zeroValue3
  t4 := Tryz.underlying4
  a4 := Tryz.isAgg4
  z4 := Tryz.sizeOf4
  v4 := Tryz.zeroValue4
  t5 := Tryz.underlying5
  a5 := Tryz.isAgg5
  z5 := Tryz.sizeOf5
  v5 := Tryz.zeroValue5
  t9 := Tryz.underlying9
  a9 := Tryz.isAgg9
  z9 := Tryz.sizeOf9
  v9 := Tryz.zeroValue9
  t46 := Tryz.underlying124
  a46 := Tryz.isAgg124
  z46 := Tryz.sizeOf124
  v46 := Tryz.zeroValue124
  t51 := Tryz.underlying125
  a51 := Tryz.isAgg125
  z51 := Tryz.sizeOf125
  v51 := Tryz.zeroValue125 }
open Go.RowKit Go.Lib in
/-- hashStr: "returns the hash and the appropriate multiplicative factor for use in Rabin-Karp algorithm": THE HASH OF ALL OF sep, AND 16777619 ^ len(sep), both in uint32. (LAID: no walk: one application.) -/
theorem Tryz.bytealg_hashStr (sep : ByteArray) (hs : sep.size < 4294967281) (w : World) :
    Calls Tryz.prog 108 #[.string sep] w fun e w' => e = .returned (.tuple #[.int .u32 (RK.H sep.data.toList % 4294967296), .int .u32 (16777619 ^ sep.size % 4294967296)]) ∧ w' = w := Any.bytealg_hashStr Tryz.lays314 sep hs w
def Tryz.lays267_ren : Go.Shelf.Ren := ⟨fun | 267 => 106 | 314 => 108 | n => n, fun | 9 => 9 | 3 => 3 | 146 => 126 | 51 => 125 | 4 => 4 | 5 => 5 | 46 => 124 | n => n, fun | n => n⟩
theorem Tryz.lays267 : Go.Proofs.Lays.n267 Tryz.prog Tryz.lays267_ren := {
  mixed := by kernel_rfl
  f267 := Tryz.func106.trans (congrArg some (by kernel_rfl))
  f314 := Tryz.func108.trans (congrArg some (by kernel_rfl))
  t3 := Tryz.underlying3
  a3 := Tryz.isAgg3
  z3 := Tryz.sizeOf3
  v3 := Tryz.zeroValue3
  t4 := Tryz.underlying4
  a4 := Tryz.isAgg4
  z4 := Tryz.sizeOf4
  v4 := Tryz.zeroValue4
  t5 := Tryz.underlying5
  a5 := Tryz.isAgg5
  z5 := Tryz.sizeOf5
  v5 := Tryz.zeroValue5
  t9 := Tryz.underlying9
  a9 := Tryz.isAgg9
  z9 := Tryz.sizeOf9
  v9 := Tryz.zeroValue9
  t46 := Tryz.underlying124
  a46 := Tryz.isAgg124
  z46 := Tryz.sizeOf124
  v46 := Tryz.zeroValue124
  t51 := Tryz.underlying125
  a51 := Tryz.isAgg125
  z51 := Tryz.sizeOf125
  v51 := Tryz.zeroValue125
  t146 := Tryz.underlying126
  a146 := Tryz.isAgg126
  z146 := Tryz.sizeOf126
  v146 := Tryz.zeroValue126 }
open Go.RowKit Go.Lib in
theorem Tryz.bytealg_IndexRabinKarp (s sep : ByteArray) (h1 : 1 ≤ sep.size) (h2 : sep.size ≤ s.size) (hs : s.size < 4294967281) (w : World) :
    Calls Tryz.prog 106 #[.string s, .string sep] w fun e w' => e = .returned (.int .i64 (Lib.index s.data.toList sep.data.toList)) ∧ w' = w := Any.bytealg_IndexRabinKarp Tryz.lays267 s sep h1 h2 hs w
def Tryz.lays219_ren : Go.Shelf.Ren := ⟨fun | 219 => 100 | 217 => 103 | 225 => 104 | 224 => 105 | 267 => 106 | 266 => 107 | 314 => 108 | n => n, fun | 9 => 9 | 3 => 3 | 4 => 4 | 5 => 5 | 46 => 124 | 146 => 126 | 51 => 125 | n => n, fun | 1 => 0 | n => n⟩
theorem Tryz.lays219 : Go.Proofs.Lays.n219 Tryz.prog Tryz.lays219_ren := {
  mixed := by kernel_rfl
  f217 := Tryz.func103.trans (congrArg some (by kernel_rfl))
  f219 := Tryz.func100.trans (congrArg some (by kernel_rfl))
  f224 := Tryz.func105.trans (congrArg some (by kernel_rfl))
  f225 := Tryz.func104.trans (congrArg some (by kernel_rfl))
  f266 := Tryz.func107.trans (congrArg some (by kernel_rfl))
  f267 := Tryz.func106.trans (congrArg some (by kernel_rfl))
  f314 := Tryz.func108.trans (congrArg some (by kernel_rfl))
  t3 := Tryz.underlying3
  a3 := Tryz.isAgg3
  z3 := Tryz.sizeOf3
  v3 := Tryz.zeroValue3
  t4 := Tryz.underlying4
  a4 := Tryz.isAgg4
  z4 := Tryz.sizeOf4
  v4 := Tryz.zeroValue4
  t5 := Tryz.underlying5
  a5 := Tryz.isAgg5
  z5 := Tryz.sizeOf5
  v5 := Tryz.zeroValue5
  t9 := Tryz.underlying9
  a9 := Tryz.isAgg9
  z9 := Tryz.sizeOf9
  v9 := Tryz.zeroValue9
  t46 := Tryz.underlying124
  a46 := Tryz.isAgg124
  z46 := Tryz.sizeOf124
  v46 := Tryz.zeroValue124
  t51 := Tryz.underlying125
  a51 := Tryz.isAgg125
  z51 := Tryz.sizeOf125
  v51 := Tryz.zeroValue125
  t146 := Tryz.underlying126
  a146 := Tryz.isAgg126
  z146 := Tryz.sizeOf126
  v146 := Tryz.zeroValue126
  g1 := by kernel_rfl }
open Go.RowKit Go.Lib in
/-- internal/stringslite.Index (what strings.Index calls) AT A substr OF ONE BYTE c: IT RETURNS 'Lib.indexByte s c'; the world is as it was. (LAID: no walk: one application.) -/
theorem Tryz.stringslite_Index_one (s : ByteArray) (c : UInt8) (w : World) :
    Calls Tryz.prog 100 #[.string s, .string ⟨#[c]⟩] w fun e w' => e = .returned (.int .i64 (Lib.indexByte s.data.toList c)) ∧ w' = w := Any.stringslite_Index_one Tryz.lays219 s c w
open Go.RowKit Go.Lib in
/-- internal/stringslite.Index (what strings.Index calls) AT A substr OF WHATEVER LENGTH: IT RETURNS 'Lib.index s substr'; the world is as it was. 'm': what internal/bytealg.MaxLen holds: whatever. (LAID: no walk: one application.) -/
theorem Tryz.stringslite_Index (s sub : ByteArray) (m : Int) (w : World) (hs : s.size < 4294967281) (hm : w.cell? ⟨0, 0, none⟩ = some (.int .i64 m)) :
    Calls Tryz.prog 100 #[.string s, .string sub] w fun e w' => e = .returned (.int .i64 (Lib.index s.data.toList sub.data.toList)) ∧ w' = w := Any.stringslite_Index Tryz.lays219 s sub m w hs hm
def Tryz.lays220_ren : Go.Shelf.Ren := ⟨fun | 220 => 96 | 219 => 100 | 217 => 103 | 225 => 104 | 224 => 105 | 267 => 106 | 266 => 107 | 314 => 108 | n => n, fun | 9 => 9 | 4 => 4 | 3 => 3 | 5 => 5 | 46 => 124 | 146 => 126 | 51 => 125 | n => n, fun | 1 => 0 | n => n⟩
theorem Tryz.lays220 : Go.Proofs.Lays.n220 Tryz.prog Tryz.lays220_ren := {
  mixed := by kernel_rfl
  f217 := Tryz.func103.trans (congrArg some (by kernel_rfl))
  f219 := Tryz.func100.trans (congrArg some (by kernel_rfl))
  f220 := Tryz.func96.trans (congrArg some (by kernel_rfl))
  f224 := Tryz.func105.trans (congrArg some (by kernel_rfl))
  f225 := Tryz.func104.trans (congrArg some (by kernel_rfl))
  f266 := Tryz.func107.trans (congrArg some (by kernel_rfl))
  f267 := Tryz.func106.trans (congrArg some (by kernel_rfl))
  f314 := Tryz.func108.trans (congrArg some (by kernel_rfl))
  t3 := Tryz.underlying3
  a3 := Tryz.isAgg3
  z3 := Tryz.sizeOf3
  v3 := Tryz.zeroValue3
  t4 := Tryz.underlying4
  a4 := Tryz.isAgg4
  z4 := Tryz.sizeOf4
  v4 := Tryz.zeroValue4
  t5 := Tryz.underlying5
  a5 := Tryz.isAgg5
  z5 := Tryz.sizeOf5
  v5 := Tryz.zeroValue5
  t9 := Tryz.underlying9
  a9 := Tryz.isAgg9
  z9 := Tryz.sizeOf9
  v9 := Tryz.zeroValue9
  t46 := Tryz.underlying124
  a46 := Tryz.isAgg124
  z46 := Tryz.sizeOf124
  v46 := Tryz.zeroValue124
  t51 := Tryz.underlying125
  a51 := Tryz.isAgg125
  z51 := Tryz.sizeOf125
  v51 := Tryz.zeroValue125
  t146 := Tryz.underlying126
  a146 := Tryz.isAgg126
  z146 := Tryz.sizeOf126
  v146 := Tryz.zeroValue126
  g1 := by kernel_rfl }
open Go.RowKit Go.Lib in
/-- internal/stringslite.Cut (what strings.Cut calls): IT RETURNS 'Lib.cut s sep'; the world is as it was but for the count of draws. (LAID: no walk: one application.) -/
theorem Tryz.stringslite_Cut (s sep : ByteArray) (m : Int) (w : World) (hs : s.size < 4294967281) (hm : w.cell? ⟨0, 0, none⟩ = some (.int .i64 m)) :
    Calls Tryz.prog 96 #[.string s, .string sep] w fun e w' => e = .returned (.tuple #[.string ⟨(Lib.cut s.data.toList sep.data.toList).1.toArray⟩, .string ⟨(Lib.cut s.data.toList sep.data.toList).2.1.toArray⟩, .bool (Lib.cut s.data.toList sep.data.toList).2.2]) ∧ ∃ n, w' = w.drewN n := Any.stringslite_Cut Tryz.lays220 s sep m w hs hm
def Tryz.lays145_ren : Go.Shelf.Ren := ⟨fun | 145 => 93 | 220 => 96 | 219 => 100 | 217 => 103 | 225 => 104 | 224 => 105 | 267 => 106 | 266 => 107 | 314 => 108 | n => n, fun | 9 => 9 | 4 => 4 | 59 => 111 | 3 => 3 | 5 => 5 | 46 => 124 | 146 => 126 | 51 => 125 | n => n, fun | 1 => 0 | n => n⟩
theorem Tryz.lays145 : Go.Proofs.Lays.n145 Tryz.prog Tryz.lays145_ren := {
  mixed := by kernel_rfl
  f145 := Tryz.func93.trans (congrArg some (by kernel_rfl))
  f217 := Tryz.func103.trans (congrArg some (by kernel_rfl))
  f219 := Tryz.func100.trans (congrArg some (by kernel_rfl))
  f220 := Tryz.func96.trans (congrArg some (by kernel_rfl))
  f224 := Tryz.func105.trans (congrArg some (by kernel_rfl))
  f225 := Tryz.func104.trans (congrArg some (by kernel_rfl))
  f266 := Tryz.func107.trans (congrArg some (by kernel_rfl))
  f267 := Tryz.func106.trans (congrArg some (by kernel_rfl))
  f314 := Tryz.func108.trans (congrArg some (by kernel_rfl))
  t3 := Tryz.underlying3
  a3 := Tryz.isAgg3
  z3 := Tryz.sizeOf3
  v3 := Tryz.zeroValue3
  t4 := Tryz.underlying4
  a4 := Tryz.isAgg4
  z4 := Tryz.sizeOf4
  v4 := Tryz.zeroValue4
  t5 := Tryz.underlying5
  a5 := Tryz.isAgg5
  z5 := Tryz.sizeOf5
  v5 := Tryz.zeroValue5
  t9 := Tryz.underlying9
  a9 := Tryz.isAgg9
  z9 := Tryz.sizeOf9
  v9 := Tryz.zeroValue9
  t46 := Tryz.underlying124
  a46 := Tryz.isAgg124
  z46 := Tryz.sizeOf124
  v46 := Tryz.zeroValue124
  t51 := Tryz.underlying125
  a51 := Tryz.isAgg125
  z51 := Tryz.sizeOf125
  v51 := Tryz.zeroValue125
  t59 := Tryz.underlying111
  a59 := Tryz.isAgg111
  z59 := Tryz.sizeOf111
  v59 := Tryz.zeroValue111
  t146 := Tryz.underlying126
  a146 := Tryz.isAgg126
  z146 := Tryz.sizeOf126
  v146 := Tryz.zeroValue126
  g1 := by kernel_rfl }
open Go.RowKit Go.Lib in
/-- strings.Cut: "Cut slices s around the first instance of sep, returning the text before and after sep. The found result reports whether sep appears in s. If sep does not appear in s, cut returns s, "", false.": IT RETURNS 'Lib.cut s sep'; the world is as it was but for the count of draws. (LAID: no walk: one application.) -/
theorem Tryz.strings_Cut (s sep : ByteArray) (m : Int) (w : World) (hs : s.size < 4294967281) (hm : w.cell? ⟨0, 0, none⟩ = some (.int .i64 m)) :
    Calls Tryz.prog 93 #[.string s, .string sep] w fun e w' => e = .returned (.tuple #[.string ⟨(Lib.cut s.data.toList sep.data.toList).1.toArray⟩, .string ⟨(Lib.cut s.data.toList sep.data.toList).2.1.toArray⟩, .bool (Lib.cut s.data.toList sep.data.toList).2.2]) ∧ ∃ n, w' = w.drewN n := Any.strings_Cut Tryz.lays145 s sep m w hs hm
def Tryz.laysM219_ren : Go.Shelf.Ren := ⟨fun | 219 => 100 | 217 => 103 | 225 => 104 | 224 => 105 | 267 => 106 | 266 => 107 | 314 => 108 | n => n, fun | 9 => 9 | 3 => 3 | 4 => 4 | 5 => 5 | 46 => 124 | 146 => 126 | 51 => 125 | n => n, fun | 1 => 0 | n => n⟩
theorem Tryz.laysM219 : Go.Proofs.LaysM.n219 Tryz.prog Tryz.laysM219_ren := {
  mixed := by kernel_rfl
  f217 := Tryz.func103.trans (congrArg some (by kernel_rfl))
  f219 := Tryz.func100.trans (congrArg some (by kernel_rfl))
  f224 := Tryz.func105.trans (congrArg some (by kernel_rfl))
  f225 := Tryz.func104.trans (congrArg some (by kernel_rfl))
  f266 := Tryz.func107.trans (congrArg some (by kernel_rfl))
  f267 := Tryz.func106.trans (congrArg some (by kernel_rfl))
  f314 := Tryz.func108.trans (congrArg some (by kernel_rfl))
  t3 := Tryz.underlying3
  a3 := Tryz.isAgg3
  z3 := Tryz.sizeOf3
  v3 := Tryz.zeroValue3
  t4 := Tryz.underlying4
  a4 := Tryz.isAgg4
  z4 := Tryz.sizeOf4
  v4 := Tryz.zeroValue4
  t5 := Tryz.underlying5
  a5 := Tryz.isAgg5
  z5 := Tryz.sizeOf5
  v5 := Tryz.zeroValue5
  t9 := Tryz.underlying9
  a9 := Tryz.isAgg9
  z9 := Tryz.sizeOf9
  v9 := Tryz.zeroValue9
  t46 := Tryz.underlying124
  a46 := Tryz.isAgg124
  z46 := Tryz.sizeOf124
  v46 := Tryz.zeroValue124
  t51 := Tryz.underlying125
  a51 := Tryz.isAgg125
  z51 := Tryz.sizeOf125
  v51 := Tryz.zeroValue125
  t146 := Tryz.underlying126
  a146 := Tryz.isAgg126
  z146 := Tryz.sizeOf126
  v146 := Tryz.zeroValue126
  g1 := by kernel_rfl
  i3 := by kernel_rfl
  i4 := by kernel_rfl
  i5 := by kernel_rfl
  i9 := by kernel_rfl
  i46 := by kernel_rfl
  i51 := by kernel_rfl
  i146 := by kernel_rfl
  m1 := by kernel_rfl
  s1_3 := fun w h => Go.Proofs.cell_of_shapedOpen_int (zero := #[.int .i64 0]) (t := 3) h (of_decide_eq_true (by kernel_rfl)) (by kernel_rfl) rfl (by kernel_rfl) (by kernel_rfl) Tryz.underlying3 }
open Go.RowKit Go.Lib in
theorem Tryz.stringslite_Index_shaped (s sub : ByteArray) (w : World) (h : w.ShapedOpen Tryz.prog) (hs : s.size < 4294967281) :
    Calls Tryz.prog 100 #[.string s, .string sub] w fun e w' => e = .returned (.int .i64 (Lib.index s.data.toList sub.data.toList)) ∧ w' = w := Any.stringslite_Index_shaped Tryz.laysM219 s sub w h hs
def Tryz.laysM220_ren : Go.Shelf.Ren := ⟨fun | 220 => 96 | 219 => 100 | 217 => 103 | 225 => 104 | 224 => 105 | 267 => 106 | 266 => 107 | 314 => 108 | n => n, fun | 9 => 9 | 4 => 4 | 3 => 3 | 5 => 5 | 46 => 124 | 146 => 126 | 51 => 125 | n => n, fun | 1 => 0 | n => n⟩
theorem Tryz.laysM220 : Go.Proofs.LaysM.n220 Tryz.prog Tryz.laysM220_ren := {
  mixed := by kernel_rfl
  f217 := Tryz.func103.trans (congrArg some (by kernel_rfl))
  f219 := Tryz.func100.trans (congrArg some (by kernel_rfl))
  f220 := Tryz.func96.trans (congrArg some (by kernel_rfl))
  f224 := Tryz.func105.trans (congrArg some (by kernel_rfl))
  f225 := Tryz.func104.trans (congrArg some (by kernel_rfl))
  f266 := Tryz.func107.trans (congrArg some (by kernel_rfl))
  f267 := Tryz.func106.trans (congrArg some (by kernel_rfl))
  f314 := Tryz.func108.trans (congrArg some (by kernel_rfl))
  t3 := Tryz.underlying3
  a3 := Tryz.isAgg3
  z3 := Tryz.sizeOf3
  v3 := Tryz.zeroValue3
  t4 := Tryz.underlying4
  a4 := Tryz.isAgg4
  z4 := Tryz.sizeOf4
  v4 := Tryz.zeroValue4
  t5 := Tryz.underlying5
  a5 := Tryz.isAgg5
  z5 := Tryz.sizeOf5
  v5 := Tryz.zeroValue5
  t9 := Tryz.underlying9
  a9 := Tryz.isAgg9
  z9 := Tryz.sizeOf9
  v9 := Tryz.zeroValue9
  t46 := Tryz.underlying124
  a46 := Tryz.isAgg124
  z46 := Tryz.sizeOf124
  v46 := Tryz.zeroValue124
  t51 := Tryz.underlying125
  a51 := Tryz.isAgg125
  z51 := Tryz.sizeOf125
  v51 := Tryz.zeroValue125
  t146 := Tryz.underlying126
  a146 := Tryz.isAgg126
  z146 := Tryz.sizeOf126
  v146 := Tryz.zeroValue126
  g1 := by kernel_rfl
  i3 := by kernel_rfl
  i4 := by kernel_rfl
  i5 := by kernel_rfl
  i9 := by kernel_rfl
  i46 := by kernel_rfl
  i51 := by kernel_rfl
  i146 := by kernel_rfl
  m1 := by kernel_rfl
  s1_3 := fun w h => Go.Proofs.cell_of_shapedOpen_int (zero := #[.int .i64 0]) (t := 3) h (of_decide_eq_true (by kernel_rfl)) (by kernel_rfl) rfl (by kernel_rfl) (by kernel_rfl) Tryz.underlying3 }
open Go.RowKit Go.Lib in
theorem Tryz.stringslite_Cut_shaped (s sep : ByteArray) (w : World) (h : w.ShapedOpen Tryz.prog) (hs : s.size < 4294967281) :
    Calls Tryz.prog 96 #[.string s, .string sep] w fun e w' => e = .returned (.tuple #[.string ⟨(Lib.cut s.data.toList sep.data.toList).1.toArray⟩, .string ⟨(Lib.cut s.data.toList sep.data.toList).2.1.toArray⟩, .bool (Lib.cut s.data.toList sep.data.toList).2.2]) ∧ ∃ n, w' = w.drewN n := Any.stringslite_Cut_shaped Tryz.laysM220 s sep w h hs
def Tryz.laysM145_ren : Go.Shelf.Ren := ⟨fun | 145 => 93 | 220 => 96 | 219 => 100 | 217 => 103 | 225 => 104 | 224 => 105 | 267 => 106 | 266 => 107 | 314 => 108 | n => n, fun | 9 => 9 | 4 => 4 | 59 => 111 | 3 => 3 | 5 => 5 | 46 => 124 | 146 => 126 | 51 => 125 | n => n, fun | 1 => 0 | n => n⟩
theorem Tryz.laysM145 : Go.Proofs.LaysM.n145 Tryz.prog Tryz.laysM145_ren := {
  mixed := by kernel_rfl
  f145 := Tryz.func93.trans (congrArg some (by kernel_rfl))
  f217 := Tryz.func103.trans (congrArg some (by kernel_rfl))
  f219 := Tryz.func100.trans (congrArg some (by kernel_rfl))
  f220 := Tryz.func96.trans (congrArg some (by kernel_rfl))
  f224 := Tryz.func105.trans (congrArg some (by kernel_rfl))
  f225 := Tryz.func104.trans (congrArg some (by kernel_rfl))
  f266 := Tryz.func107.trans (congrArg some (by kernel_rfl))
  f267 := Tryz.func106.trans (congrArg some (by kernel_rfl))
  f314 := Tryz.func108.trans (congrArg some (by kernel_rfl))
  t3 := Tryz.underlying3
  a3 := Tryz.isAgg3
  z3 := Tryz.sizeOf3
  v3 := Tryz.zeroValue3
  t4 := Tryz.underlying4
  a4 := Tryz.isAgg4
  z4 := Tryz.sizeOf4
  v4 := Tryz.zeroValue4
  t5 := Tryz.underlying5
  a5 := Tryz.isAgg5
  z5 := Tryz.sizeOf5
  v5 := Tryz.zeroValue5
  t9 := Tryz.underlying9
  a9 := Tryz.isAgg9
  z9 := Tryz.sizeOf9
  v9 := Tryz.zeroValue9
  t46 := Tryz.underlying124
  a46 := Tryz.isAgg124
  z46 := Tryz.sizeOf124
  v46 := Tryz.zeroValue124
  t51 := Tryz.underlying125
  a51 := Tryz.isAgg125
  z51 := Tryz.sizeOf125
  v51 := Tryz.zeroValue125
  t59 := Tryz.underlying111
  a59 := Tryz.isAgg111
  z59 := Tryz.sizeOf111
  v59 := Tryz.zeroValue111
  t146 := Tryz.underlying126
  a146 := Tryz.isAgg126
  z146 := Tryz.sizeOf126
  v146 := Tryz.zeroValue126
  g1 := by kernel_rfl
  i3 := by kernel_rfl
  i4 := by kernel_rfl
  i5 := by kernel_rfl
  i9 := by kernel_rfl
  i46 := by kernel_rfl
  i51 := by kernel_rfl
  i59 := by kernel_rfl
  i146 := by kernel_rfl
  m1 := by kernel_rfl
  s1_3 := fun w h => Go.Proofs.cell_of_shapedOpen_int (zero := #[.int .i64 0]) (t := 3) h (of_decide_eq_true (by kernel_rfl)) (by kernel_rfl) rfl (by kernel_rfl) (by kernel_rfl) Tryz.underlying3 }
open Go.RowKit Go.Lib in
theorem Tryz.strings_Cut_shaped (s sep : ByteArray) (w : World) (h : w.ShapedOpen Tryz.prog) (hs : s.size < 4294967281) :
    Calls Tryz.prog 93 #[.string s, .string sep] w fun e w' => e = .returned (.tuple #[.string ⟨(Lib.cut s.data.toList sep.data.toList).1.toArray⟩, .string ⟨(Lib.cut s.data.toList sep.data.toList).2.1.toArray⟩, .bool (Lib.cut s.data.toList sep.data.toList).2.2]) ∧ ∃ n, w' = w.drewN n := Any.strings_Cut_shaped Tryz.laysM145 s sep w h hs
end Go.Proofs

/- The pattern reader's class: walked. -/
set_option linter.unusedVariables false
set_option linter.unusedSimpArgs false
namespace Go.Proofs.YteekafkpeimhoaaGreat
open Go.RowKit

/-! The table, plain. -/
def ckOk (x : Option Nat × CK) : Prop := match x with
  | (none, .ins n f) => classW n = some (whereW f)
  | _ => True
theorem fa_cons {α : Type} {P : α → Prop} {x : α} {l : List α} (h : P x) (k : ∀ y ∈ l, P y) : ∀ y ∈ x :: l, P y := fun y hy => by
  rcases List.mem_cons.1 hy with rfl | hy
  · exact h
  · exact k y hy
theorem fa_nil {α : Type} {P : α → Prop} : ∀ y ∈ ([] : List α), P y := fun y hy => by cases hy
theorem ckOk_ins {n : Bs} {f : Nat → Bool} (h : classW n = some (whereW f)) : ckOk (none, .ins n f) := h
theorem ckOk_some {d : Nat} {k : CK} : ckOk (some d, k) := trivial
theorem ck_all : ∀ x ∈ ckinds, ckOk x := by
  unfold ckinds
  refine fa_cons ckOk_some ?_
  refine fa_cons ckOk_some ?_
  refine fa_cons (ckOk_ins (by kernel_rfl)) ?_
  refine fa_cons ckOk_some ?_
  refine fa_cons (ckOk_ins (by kernel_rfl)) ?_
  refine fa_cons ckOk_some ?_
  refine fa_cons (ckOk_ins (by kernel_rfl)) ?_
  refine fa_cons ckOk_some ?_
  refine fa_cons (ckOk_ins (by kernel_rfl)) ?_
  refine fa_cons ckOk_some ?_
  refine fa_cons (ckOk_ins (by kernel_rfl)) ?_
  refine fa_cons ckOk_some ?_
  refine fa_cons ckOk_some ?_
  refine fa_cons ckOk_some ?_
  refine fa_cons ckOk_some ?_
  refine fa_cons (ckOk_ins (by kernel_rfl)) ?_
  refine fa_cons ckOk_some ?_
  refine fa_cons ckOk_some ?_
  refine fa_cons ckOk_some ?_
  refine fa_cons ckOk_some ?_
  refine fa_cons ckOk_some ?_
  refine fa_cons (ckOk_ins (by kernel_rfl)) ?_
  refine fa_cons ckOk_some ?_
  refine fa_cons ckOk_some ?_
  refine fa_cons ckOk_some ?_
  refine fa_cons ckOk_some ?_
  refine fa_cons (ckOk_ins (by kernel_rfl)) ?_
  refine fa_cons ckOk_some ?_
  refine fa_cons ckOk_some ?_
  refine fa_cons ckOk_some ?_
  refine fa_cons ckOk_some ?_
  refine fa_cons (ckOk_ins (by kernel_rfl)) ?_
  refine fa_cons ckOk_some ?_
  refine fa_cons ckOk_some ?_
  refine fa_cons ckOk_some ?_
  refine fa_cons ckOk_some ?_
  refine fa_cons (ckOk_ins (by kernel_rfl)) ?_
  refine fa_cons ckOk_some ?_
  refine fa_cons (ckOk_ins (by kernel_rfl)) ?_
  refine fa_cons ckOk_some ?_
  refine fa_cons (ckOk_ins (by kernel_rfl)) ?_
  refine fa_cons ckOk_some ?_
  refine fa_cons ckOk_some ?_
  exact fa_nil
theorem class_hit {j : Nat} {n : Bs} {f : Nat → Bool} (h : ckinds[j]? = some (none, .ins n f)) : classW n = some (whereW f) := ck_all _ (List.mem_of_getElem? h)
theorem class_miss {n : Bs} (h : ∀ (j : Nat) (f : Nat → Bool), ckinds[j]? ≠ some (none, .ins n f)) : classW n = none := by
  unfold classW
  rw [if_neg (fun e => h 15 _ (by rw [e]; rfl))]
  rw [if_neg (fun e => h 2 _ (by rw [e]; rfl))]
  rw [if_neg (fun e => h 4 _ (by rw [e]; rfl))]
  rw [if_neg (fun e => h 6 _ (by rw [e]; rfl))]
  rw [if_neg (fun e => h 8 _ (by rw [e]; rfl))]
  rw [if_neg (fun e => h 21 _ (by rw [e]; rfl))]
  rw [if_neg (fun e => h 26 _ (by rw [e]; rfl))]
  rw [if_neg (fun e => h 31 _ (by rw [e]; rfl))]
  rw [if_neg (fun e => h 36 _ (by rw [e]; rfl))]
  rw [if_neg (fun e => h 10 _ (by rw [e]; rfl))]
  rw [if_neg (fun e => h 38 _ (by rw [e]; rfl))]
  rw [if_neg (fun e => h 40 _ (by rw [e]; rfl))]
theorem cut_lib : ∀ (r : Bs), Lib.cut r [58, 93] = match cutP r with | some (a, b) => (a, b, true) | none => (r, [], false)
  | [] => by rfl
  | c :: t => by
    have ih := cut_lib t
    have hge := Lib.index_ge t [58, 93]
    rw [cutP]
    unfold Lib.cut at ih ⊢
    rw [Lib.index]
    cases hp : List.isPrefixOf [58, 93] (c :: t) with
    | true => simp [takeP, hp]
    | false =>
      simp only [takeP, hp, Bool.false_eq_true, if_false]
      cases hc : cutP t with
      | none =>
        simp only [hc] at ih ⊢
        by_cases hi : Lib.index t [58, 93] = -1
        · simp [hi]
        · rw [if_pos (by omega)] at ih
          simp at ih
      | some y =>
        obtain ⟨a, b⟩ := y
        simp only [hc] at ih ⊢
        by_cases hi : Lib.index t [58, 93] = -1
        · rw [if_neg (by omega)] at ih
          simp at ih
        · rw [if_pos (by omega)] at ih
          simp only [Prod.mk.injEq, and_true] at ih
          have hb : (Lib.index t [58, 93] == -1) = false := by simpa using hi
          rw [hb]
          simp only [Bool.false_eq_true, if_false]
          rw [if_pos (by omega)]
          have e1 : (Lib.index t [58, 93] + 1).toNat = (Lib.index t [58, 93]).toNat + 1 := by omega
          rw [e1, List.take_succ_cons, ih.1]
          rw [← ih.2]
          refine congrArg (fun x => (c :: a, x, true)) ?_
          show List.drop ((Lib.index t [58, 93]).toNat + 1 + 2) (c :: t) = _
          rw [show (Lib.index t [58, 93]).toNat + 1 + 2 = ((Lib.index t [58, 93]).toNat + 2) + 1 by omega, List.drop_succ_cons]
          try rfl
theorem drewN_below (w : World) (n : Nat) : Below w.heap.size w (w.drewN n) := by
  refine ⟨rfl, rfl, rfl, Nat.le_refl _, fun _ _ => rfl⟩
/-- What Cut hands back, at :]. -/
def cutV (r : Bs) : Value := match cutP r with
  | some (a, b) => .tuple #[.string (bs a), .string (bs b), .bool true]
  | none => .tuple #[.string (bs r), .string (bs []), .bool false]
theorem cut_any (w : World) (r : Bs) (hl : r.length ≤ 1024) (hM : MaxOk w) : Calls Tryz.prog 93 #[.string (bs r), .string (bs [58, 93])] w fun en w' => en = .returned (cutV r) ∧ Below w.heap.size w w' := by
  obtain ⟨m, hm⟩ := hM
  refine (Tryz.strings_Cut (bs r) (bs [58, 93]) m w (by rw [Lib.size_eq]; show r.length < _; omega) hm).mono ?_
  rintro en w' ⟨rfl, n, rfl⟩
  refine ⟨?_, drewN_below w n⟩
  have h := cut_lib r
  have e1 : (bs r).data.toList = r := by simp [bs]
  have e2 : (bs [58, 93]).data.toList = [58, 93] := by simp [bs]
  rw [e1, e2, h]
  unfold cutV
  cases cutP r <;> rfl

/-- A set's block. -/
def SetAt (w : World) (b : Nat) (s : W4) : Prop := w.heap[b]? = some (.cells #[.int .u64 s.a, .int .u64 s.b, .int .u64 s.c, .int .u64 s.d] 36 (0, 0))
theorem SetAt.lt {w : World} {b : Nat} {s : W4} (h : SetAt w b s) : b < w.heap.size := (Array.getElem?_eq_some_iff.1 h).1
theorem SetAt.at4 {w : World} {b : Nat} {s : W4} (h : SetAt w b s) : At4 w b 0 s :=
  ⟨cell_of_row w b 0 _ _ (0, 0) h, cell_of_row w b 1 _ _ (0, 0) h, cell_of_row w b 2 _ _ (0, 0) h, cell_of_row w b 3 _ _ (0, 0) h⟩
theorem SetAt.froz {w : World} {b : Nat} {s : W4} (h : SetAt w b s) (o : Nat) : w.frozen? ⟨b, o, none⟩ = false := by
  unfold World.frozen?
  rw [show w.heap[(⟨b, o, none⟩ : Addr).block]? = _ from h]
  simp
theorem SetAt.keep {w w' : World} {b : Nat} {s : W4} (h : SetAt w b s) (e : w'.heap[b]? = w.heap[b]?) : SetAt w' b s := e.trans h
theorem SetAt.off {w w' : World} {p b : Nat} {s : W4} (h : SetAt w b s) (k : Off p w w') (hn : b ≠ p) : SetAt w' b s := h.keep (k.block b h.lt (by simpa using hn))
def W4.put (s : W4) (i : Nat) (x : Int) : W4 := if i = 0 then { s with a := x } else if i = 1 then { s with b := x } else if i = 2 then { s with c := x } else { s with d := x }
theorem SetAt.put {w : World} {b : Nat} {s : W4} (h : SetAt w b s) (i : Nat) (hi : i < 4) (x : Int) : SetAt (w.setCell ⟨b, i, none⟩ (.int .u64 x)) b (s.put i x) := by
  unfold SetAt at h ⊢
  simp only [World.setCell, Array.getElem?_modify, ↓reduceIte, h, Option.map_some]
  rcases (show i = 0 ∨ i = 1 ∨ i = 2 ∨ i = 3 by omega) with rfl | rfl | rfl | rfl <;> rfl
theorem SetAt.addW {w : World} {b : Nat} {s : W4} (h : SetAt w b s) (c : Nat) (hc : c < 256) : SetAt (addW w b 0 s c) b (s.add c) := by
  unfold Go.Proofs.YteekafkpeimhoaaGreat.addW
  have h1 := h.put (c / 64) (by omega) (orI (s.word (c / 64)) (2 ^ (c % 64)))
  rw [Nat.zero_add]
  have e : s.put (c / 64) (orI (s.word (c / 64)) (2 ^ (c % 64))) = s.add c := by
    rcases (show c < 64 ∨ (64 ≤ c ∧ c < 128) ∨ (128 ≤ c ∧ c < 192) ∨ (192 ≤ c ∧ c < 256) by omega) with h | h | h | h
    · rw [show c / 64 = 0 by omega, show c % 64 = c by omega]; simp [W4.put, W4.word, W4.add, h]
    · rw [show c / 64 = 1 by omega, show c % 64 = c - 64 by omega]; simp [W4.put, W4.word, W4.add, show ¬ c < 64 by omega, h.2]
    · rw [show c / 64 = 2 by omega, show c % 64 = c - 128 by omega]; simp [W4.put, W4.word, W4.add, show ¬ c < 64 by omega, show ¬ c < 128 by omega, h.2]
    · rw [show c / 64 = 3 by omega, show c % 64 = c - 192 by omega]; simp [W4.put, W4.word, W4.add, show ¬ c < 64 by omega, show ¬ c < 128 by omega, show ¬ c < 192 by omega]
  rw [e] at h1
  exact h1
/-- What a step may do that writes a set: write in the reader's block and the set's, make memory. -/
structure Offs (p b : Nat) (w w' : World) : Prop where
  os : w'.os = w.os
  tape : w'.tape = w.tape
  output : w'.output = w.output
  size : w.heap.size ≤ w'.heap.size
  block : ∀ k, k < w.heap.size → k ≠ p → k ≠ b → w'.heap[k]? = w.heap[k]?
theorem Offs.of {p b : Nat} {w w' : World} (h : Off p w w') : Offs p b w w' := ⟨h.os, h.tape, h.output, h.size, fun k hk h1 _ => h.block k hk (by simpa using h1)⟩
theorem Offs.trans {p b : Nat} {w w1 w2 : World} (h : Offs p b w w1) (k : Offs p b w1 w2) : Offs p b w w2 :=
  ⟨k.os.trans h.os, k.tape.trans h.tape, k.output.trans h.output, Nat.le_trans h.size k.size, fun i hi h1 h2 => (k.block i (Nat.lt_of_lt_of_le hi h.size) h1 h2).trans (h.block i hi h1 h2)⟩
theorem Offs.put {p b : Nat} {w w' : World} (h : Offs p b w w') (o : Nat) (v : Value) : Offs p b w (w'.setCell ⟨b, o, none⟩ v) :=
  ⟨h.os, h.tape, h.output, by simpa using h.size, fun k hk h1 h2 => (Below.heap_setCell _ _ _ _ h2).trans (h.block k hk h1 h2)⟩
theorem Offs.below {p b B : Nat} {w w' : World} (h : Offs p b w w') (hp : B ≤ p) (hb : B ≤ b) (hs : B ≤ w.heap.size) : Below B w w' :=
  ⟨h.os, h.tape, h.output, h.size, fun k hk => h.block k (by omega) (by omega) (by omega)⟩
theorem Offs.off {p b : Nat} {w w1 w' : World} (h : Off p w w1) (k : Offs p b w1 w') (hb : w.heap.size ≤ b) : Off p w w' :=
  ⟨k.os.trans h.os, k.tape.trans h.tape, k.output.trans h.output, Nat.le_trans h.size k.size, fun i hi h1 => (k.block i (Nat.lt_of_lt_of_le hi h.size) (by simpa using h1) (by omega)).trans (h.block i hi h1)⟩
theorem RS.put {w : World} {p b : Nat} {op : Int} {s : Rs} (h : RS w p op s) (hb : p < b) (o : Nat) (v : Value) : RS (w.setCell ⟨b, o, none⟩ v) p op s :=
  h.kept (by simp) (Below.heap_setCell _ _ _ _ (by show p ≠ b; omega)) (Below.heap_setCell _ _ _ _ (by show 0 ≠ b; omega))
/-- What a step hands back that puts members into a set. -/
def GSet (p b : Nat) (op : Int) (f : W4 → Bs → Except Int (W4 × Bs)) (s : W4) (r : Bs) (w : World) (en : Ending) (w' : World) : Prop :=
  ∃ (S : W4) (s' : Rs), en = .returned (.tuple #[]) ∧ RS w' p op s' ∧ SetAt w' b S ∧ Offs p b w w' ∧ Out (f s) (.ok r) (fun x => S = x) s'

/-- A name looked up. -/
theorem run_look {w : World} {v : Value} (h : ClassMap w v) (n : Bs) : ∃ (is : Value) (ok : Bool), (Instr.lookup 114 v (.string (bs n)) true).run Tryz.prog w = .ok (.tuple #[is, .bool ok]) w ∧
    ((ok = false ∧ classW n = none) ∨ (ok = true ∧ ∃ f, classW n = some (whereW f) ∧ FnOf w is f)) := by
  obtain ⟨r, es, clock, rfl, hr, n1, n2⟩ := h
  have hm : Tryz.prog.underlying 114 = some (.map 9 97) := by kernel_rfl
  have hd : Tryz.prog.underlying 9 = some .string := by kernel_rfl
  have hk : MapKept.IsKey .string (.string (bs n)) := trivial
  have hz : (zeroValue 97).run Tryz.prog w = .ok .nilFunc w := by simp [go_sem]
  have hks : ∀ x ∈ es.toList, MapKept.IsKey .string x.key := fun x hx => by
    obtain ⟨j, n', f', _, b, _⟩ := n1 x hx
    rw [b]; trivial
  rcases MapKept.findNow_spec hk es.toList 0 hks with ⟨h1, h2⟩ | ⟨j, e, h1, h2, h3⟩
  · refine ⟨.nilFunc, false, ?_, .inl ⟨rfl, class_miss fun j f hj => ?_⟩⟩
    · simp [Instr.lookup, run_underlying hm, MapKept.run_getObj_map hr, MapKept.run_checkKey hd hk, MapKept.run_findKey hd h1, hz, Result.andThen]
    · obtain ⟨x, hx, hxk⟩ := n2 j n f hj
      exact h2 x hx hxk
  · obtain ⟨j', n', f', c1, c2, c3⟩ := n1 e (List.mem_of_getElem? h2)
    rw [c2] at h3
    have := bs_inj h3
    subst this
    refine ⟨e.val, true, ?_, .inr ⟨rfl, f', class_hit c1, c3⟩⟩
    simp [Instr.lookup, run_underlying hm, MapKept.run_getObj_map hr, MapKept.run_checkKey hd hk, MapKept.run_findKey hd h1, Result.andThen]
end Go.Proofs.YteekafkpeimhoaaGreat

/- The pattern reader's class: walked. -/
set_option linter.unusedVariables false
set_option linter.unusedSimpArgs false
namespace Go.Proofs.YteekafkpeimhoaaGreat
open Go.RowKit

/-- The first i words of s are joined with x's. -/
def W4.orTo (s x : W4) (i : Nat) : W4 := ⟨if 0 < i then orI s.a x.a else s.a, if 1 < i then orI s.b x.b else s.b, if 2 < i then orI s.c x.c else s.c, if 3 < i then orI s.d x.d else s.d⟩
theorem run_set_word (a b c d : Int) (w : World) :
    (Instr.index 36 (.agg #[.int .u64 a, .int .u64 b, .int .u64 c, .int .u64 d]) (.int .i64 0)).run Tryz.prog w = .ok (.int .u64 a) w ∧ (Instr.index 36 (.agg #[.int .u64 a, .int .u64 b, .int .u64 c, .int .u64 d]) (.int .i64 1)).run Tryz.prog w = .ok (.int .u64 b) w ∧
    (Instr.index 36 (.agg #[.int .u64 a, .int .u64 b, .int .u64 c, .int .u64 d]) (.int .i64 2)).run Tryz.prog w = .ok (.int .u64 c) w ∧ (Instr.index 36 (.agg #[.int .u64 a, .int .u64 b, .int .u64 c, .int .u64 d]) (.int .i64 3)).run Tryz.prog w = .ok (.int .u64 d) w := by
  refine ⟨?_, ?_, ?_, ?_⟩ <;> simp [Instr.index, part, go_sem]
theorem orTo_put (s x : W4) (i : Nat) (hi : i < 4) (u : Int) (hu : u = orI (s.word i) (x.word i)) : (s.orTo x i).put i u = s.orTo x (i + 1) := by
  subst hu
  rcases (show i = 0 ∨ i = 1 ∨ i = 2 ∨ i = 3 by omega) with rfl | rfl | rfl | rfl <;> simp [W4.orTo, W4.put, W4.word]
theorem SetAt.drew {w : World} {b : Nat} {s : W4} (h : SetAt w b s) : SetAt w.drew b s := h
theorem RS.drew {w : World} {p : Nat} {op : Int} {s : Rs} (h : RS w p op s) : RS w.drew p op s := h.kept (Nat.le_refl _) rfl rfl
theorem Offs.drew {p b : Nat} {w w' : World} (h : Offs p b w w') : Offs p b w w'.drew := ⟨h.os, h.tape, h.output, h.size, h.block⟩
theorem orTo_all (s x : W4) : s.orTo x 4 = s.or x := by simp [W4.orTo, W4.or]
theorem orTo_0 (s x : W4) : s.orTo x 0 = s := by simp [W4.orTo]
set_option maxRecDepth 100000 in
set_option maxHeartbeats 4000000 in
theorem class_any (w : World) (p b : Nat) (op : Int) (r : Bs) (s : W4) (h : RS w p op (.ok r)) (hl : r.length ≤ 1024) (hb : p < b) (hS : SetAt w b s) :
    Calls Tryz.prog 86 #[.pointer (some ⟨p, 0, none⟩), .pointer (some ⟨b, 0, none⟩)] w fun en w' => GSet p b op classP s r w en w' := by
  have H := Lib.hid h
  have c0 := h.rdr.c0
  simp only [Rs.rest] at c0
  have hM := h.rdr.mx
  have HS := Lib.hid hS
  have HM := Lib.hid hM
  clear h hS hM
  go_enter Tryz.func86, Tryz.ntmps86
  go_wp2_with fail
  refine (cut_any w r hl HM.out).mono ?_
  rintro en w1 ⟨rfl, hb1⟩
  have h1 := H.out.later hb1
  have hO1 : Off p w w1 := Off.of_below hb1
  have hS1 := HS.out.off hO1 (by omega)
  clear c0
  unfold cutV
  cases hc : cutP r with
  | none =>
    have Hc := Lib.hid (show classP s r = .error 101 by simp only [classP, hc])
    clear hc
    have H1 := Lib.hid h1; have HO1 := Lib.hid hO1; have HS1 := Lib.hid hS1
    clear h1 hO1 hS1 hb1
    simp only
    go_wp2_with fail
    refine (fail_ok 101 (by omega) H1.out).mono ?_
    rintro en w2 ⟨rfl, h2, hO2⟩
    go_wp2_with fail
    go_end0
    exact ⟨s, _, rfl, h2, HS1.out.off hO2 (by omega), .of (HO1.out.trans hO2), Out.bad Hc.out⟩
  | some y =>
    obtain ⟨nm, r1⟩ := y
    have Hc := Lib.hid (show classP s r = match classW nm with | none => .error 103 | some x => .ok (s.or x, r1) by simp only [classP, hc]; rfl)
    clear hc
    have H1 := Lib.hid h1; have HO1 := Lib.hid hO1; have HS1 := Lib.hid hS1
    clear h1 hO1 hS1 hb1
    simp only
    go_wp2_with fail
    refine (classes_any w1).mono ?_
    rintro en w2 ⟨v, rfl, hv, hb2⟩
    obtain ⟨is, ok, hlook, hcase⟩ := run_look hv nm
    have h2 := H1.out.later hb2
    have hO2 : Off p w w2 := HO1.out.trans (Off.of_below hb2)
    have hS2 := HS1.out.off (Off.of_below (p := p) hb2) (by omega)
    have H2 := Lib.hid h2; have HO2 := Lib.hid hO2; have HS2 := Lib.hid hS2
    clear h2 hO2 hS2 hb2 hv H1 HO1 HS1
    rcases hcase with ⟨rfl, hw⟩ | ⟨rfl, f, hw, hf⟩
    · have Hc := Lib.hid (show classP s r = .error 103 by rw [Hc.out, hw])
      clear hw
      go_wp2_with fail
      refine (fail_ok 103 (by omega) H2.out).mono ?_
      rintro en w3 ⟨rfl, h3, hO3⟩
      go_wp2_with fail
      go_end0
      exact ⟨s, _, rfl, h3, HS2.out.off hO3 (by omega), .of (HO2.out.trans hO3), Out.bad Hc.out⟩
    · have Hc := Lib.hid (show classP s r = .ok (s.or (whereW f), r1) by rw [Hc.out, hw])
      have HF := Lib.hid hf
      clear hw hf
      go_wp2_with fail
      refine (where_any w2 is f HF.out).mono ?_
      rintro en w3 ⟨rfl, hb3⟩
      have h3 := H2.out.later hb3
      have hO3 : Off p w w3 := HO2.out.trans (Off.of_below hb3)
      have hS3 := HS2.out.off (Off.of_below (p := p) hb3) (by omega)
      have H3 := Lib.hid h3; have HO3 := Lib.hid hO3; have HS3 := Lib.hid hS3
      clear h3 hO3 hS3 hb3 H2 HO2 HS2 HF hlook
      generalize whereW f = x at *
      obtain ⟨xa, xb, xc, xd⟩ := x
      simp only [W4.V]
      go_wp2_with fail
      go_loopg [35] 4 (fun k i wr => ∃ j : Nat, i = .int .i64 j ∧ j + k = 4 ∧ RS wr p op (.ok r) ∧ SetAt wr b (s.orTo ⟨xa, xb, xc, xd⟩ j) ∧ Offs p b w wr)
      case atStart => exact ⟨0, rfl, rfl, H3.out, by rw [orTo_0]; exact HS3.out, .of HO3.out⟩
      case round =>
        obtain ⟨j, rfl, hj, hR, hS, hO⟩ := hrel
        have HR := Lib.hid hR; have HSr := Lib.hid hS; have HOr := Lib.hid hO
        have z := fun o => hS.froz o
        have z0 := z 0; have z1 := z 1; have z2 := z 2; have z3 := z 3
        obtain ⟨f0, f1, f2, f3⟩ := hS.at4
        simp only [Nat.zero_add] at f1 f2 f3
        clear hR hS hO z H3 HO3 HS3
        have g0 := fun w => (run_set_word xa xb xc xd w).1
        have g1 := fun w => (run_set_word xa xb xc xd w).2.1
        have g2 := fun w => (run_set_word xa xb xc xd w).2.2.1
        have g3 := fun w => (run_set_word xa xb xc xd w).2.2.2
        rcases (show j = 0 ∨ j = 1 ∨ j = 2 ∨ j = 3 ∨ j = 4 by omega) with rfl | rfl | rfl | rfl | rfl
        · simp [W4.orTo] at f0
          go_wp2_with fail
          go_region
          all_goals
            go_wp2_with fail
            go_roundg (gk - 1)
            case measure => omega
            case rel => exact ⟨1, by go_num, by omega, (HR.out.put hb 0 _).drew, SetAt.drew (by have h1 := HSr.out.put 0 (by omega) (bits .or .u64 s.a xa); rw [orTo_put s ⟨xa, xb, xc, xd⟩ 0 (by omega) (bits .or .u64 s.a xa) rfl] at h1; exact h1), (HOr.out.put 0 _).drew⟩
        · simp [W4.orTo] at f1
          go_wp2_with fail
          go_region
          all_goals
            go_wp2_with fail
            go_roundg (gk - 1)
            case measure => omega
            case rel => exact ⟨2, by go_num, by omega, (HR.out.put hb 1 _).drew, SetAt.drew (by have h1 := HSr.out.put 1 (by omega) (bits .or .u64 s.b xb); rw [orTo_put s ⟨xa, xb, xc, xd⟩ 1 (by omega) (bits .or .u64 s.b xb) rfl] at h1; exact h1), (HOr.out.put 1 _).drew⟩
        · simp [W4.orTo] at f2
          go_wp2_with fail
          go_region
          all_goals
            go_wp2_with fail
            go_roundg (gk - 1)
            case measure => omega
            case rel => exact ⟨3, by go_num, by omega, (HR.out.put hb 2 _).drew, SetAt.drew (by have h1 := HSr.out.put 2 (by omega) (bits .or .u64 s.c xc); rw [orTo_put s ⟨xa, xb, xc, xd⟩ 2 (by omega) (bits .or .u64 s.c xc) rfl] at h1; exact h1), (HOr.out.put 2 _).drew⟩
        · simp [W4.orTo] at f3
          go_wp2_with fail
          go_region
          all_goals
            go_wp2_with fail
            go_roundg (gk - 1)
            case measure => omega
            case rel => exact ⟨4, by go_num, by omega, (HR.out.put hb 3 _).drew, SetAt.drew (by have h1 := HSr.out.put 3 (by omega) (bits .or .u64 s.d xd); rw [orTo_put s ⟨xa, xb, xc, xd⟩ 3 (by omega) (bits .or .u64 s.d xd) rfl] at h1; exact h1), (HOr.out.put 3 _).drew⟩
        · have c0 := HR.out.rdr.c0
          have zp := HR.out.rdr.z 0
          simp only [Rs.rest] at c0
          clear f0 f1 f2 f3 g0 g1 g2 g3 z0 z1 z2 z3
          go_wp2_with fail
          go_end0
          refine ⟨s.or ⟨xa, xb, xc, xd⟩, .ok r1, rfl, ⟨HR.out.rdr.set0 r1, fun e he => by cases he⟩, ?_, ?_, Out.good Hc.out rfl⟩
          · rw [← orTo_all]
            exact HSr.out.keep (Below.heap_setCell _ _ _ _ (by show b ≠ p; omega))
          · exact HOr.out.trans (Offs.of ((Off.refl p _).set 0 _))
end Go.Proofs.YteekafkpeimhoaaGreat

/- The pattern reader's item: walked. (Printed by wip/tools/genitem.py.) -/
set_option linter.unusedVariables false
set_option linter.unusedSimpArgs false
namespace Go.Proofs.YteekafkpeimhoaaGreat
open Go.RowKit

def limI (c d : Nat) : Nat := if c ≤ d then d + 1 else c
theorem limI_self (c : Nat) : limI c c = c + 1 := by simp [limI]
theorem span_step (s : W4) (j lim : Nat) (h : j < lim) : (List.range' j (lim - j)).foldl W4.add s = (List.range' (j + 1) (lim - (j + 1))).foldl W4.add (s.add j) := by
  rw [show lim - j = (lim - (j + 1)) + 1 by omega, List.range'_succ, List.foldl_cons]
theorem span_one (s : W4) (c : Nat) : s.span c 1 = s.add c := rfl
theorem Offs.addW {p b : Nat} {w w' : World} (h : Offs p b w w') (s : W4) (c : Nat) : Offs p b w (addW w' b 0 s c).drew := (h.put _ _).drew
theorem pref_none {q r : Bs} (h : takeP q r = none) : q.isPrefixOf r = false := by
  unfold takeP at h
  cases hp : q.isPrefixOf r with
  | false => rfl
  | true => rw [hp] at h; simp at h
theorem pref_some {q r r' : Bs} (h : takeP q r = some r') : q.isPrefixOf r = true := by
  unfold takeP at h
  cases hp : q.isPrefixOf r with
  | true => rfl
  | false => rw [hp] at h; simp at h
set_option maxRecDepth 100000 in
set_option maxHeartbeats 8000000 in
theorem item_any (w : World) (p b : Nat) (op : Int) (r : Bs) (s : W4) (h : RS w p op (.ok r)) (hl : r.length ≤ 1024) (hb : p < b) (hS : SetAt w b s) :
    Calls Tryz.prog 82 #[.pointer (some ⟨p, 0, none⟩), .pointer (some ⟨b, 0, none⟩)] w fun en w' => GSet p b op itemP s r w en w' := by
  have H := Lib.hid h
  have HS := Lib.hid hS
  clear h hS
  cases ht : takeP [91, 58] r with
  | some r1 =>
    have Hi := Lib.hid (show itemP s r = classP s r1 by simp only [itemP, ht])
    have hl1 : r1.length ≤ 1024 := by
      have : r1 <:+ r := takeP_suf ht
      have := this.length_le
      omega
    have Ht := Lib.hid ht; clear ht
    go_enter Tryz.func82, Tryz.ntmps82
    go_wp2_with fail
    refine (take_hit [91, 58] (by simp) Ht.out H.out).mono ?_
    rintro en w1 ⟨rfl, h1, hO1⟩
    have HS1 := Lib.hid (HS.out.off hO1 (by omega))
    have H1 := Lib.hid h1; have HO1 := Lib.hid hO1
    clear h1 hO1
    go_wp2_with fail
    refine (class_any w1 p b op r1 s H1.out hl1 hb HS1.out).mono ?_
    rintro en w2 ⟨S, s', rfl, h2, hS2, hO2, ho⟩
    have Ho := Lib.hid ho; have H2 := Lib.hid h2; have HS2 := Lib.hid hS2; have HO2 := Lib.hid hO2
    clear ho h2 hS2 hO2
    go_wp2_with fail
    go_end0
    exact ⟨S, s', rfl, H2.out, HS2.out, (Offs.of HO1.out).trans HO2.out, by have := Ho.out; simp only [Out] at this ⊢; rw [Hi.out]; exact this⟩
  | none =>
  cases ht2 : takeP [91, 61] r with
  | some r1 =>
    have Hi := Lib.hid (show itemP s r = match singleP 61 r1 with | .error e => .error e | .ok (c, r2) => .ok (s.add c, r2) by simp only [itemP, ht, ht2]; rfl)
    have Ht := Lib.hid ht; have Ht2 := Lib.hid ht2; clear ht ht2
    go_enter Tryz.func82, Tryz.ntmps82
    go_wp2_with fail
    refine (take_miss [91, 58] (by simp) Ht.out H.out).mono ?_
    rintro en w1 ⟨rfl, h1, hO1⟩
    go_wp2_with fail
    refine (take_hit [91, 61] (by simp) Ht2.out h1).mono ?_
    rintro en w2 ⟨rfl, h2, hO2⟩
    have HO2 := Lib.hid (hO1.trans hO2)
    clear hO1 h1
    go_wp2_with fail
    refine (single_any w2 p op r1 61 h2).mono ?_
    rintro en w3 ⟨c, s', hc, rfl, h3, hO3, ho⟩
    have HO3 := Lib.hid (HO2.out.trans hO3)
    have HS3 := Lib.hid (HS.out.off HO3.out (by omega))
    have Ho := Lib.hid ho; have H3 := Lib.hid h3
    clear ho h3 hO3 h2 hO2
    go_wp2_with fail
    refine (add_any w3 b 0 s c hc HS3.out.at4 HS3.out.froz).mono ?_
    rintro en w4 ⟨rfl, rfl⟩
    go_wp2_with fail
    go_end0
    refine ⟨s.add c, s', rfl, H3.out.putW hb 0 s c, (HS3.out.addW c hc).drew, (Offs.of HO3.out).addW s c, ?_⟩
    have hho := Ho.out
    simp only [Out, Hi.out] at hho ⊢
    cases hsg : singleP 61 r1 with
    | error e => simp only [hsg] at hho ⊢; exact hho
    | ok y => obtain ⟨c', r2⟩ := y; simp only [hsg] at hho ⊢; obtain ⟨rfl, h'⟩ := hho; exact ⟨rfl, h'⟩
  | none =>
    have Hi := Lib.hid (show itemP s r = match memberP r with | .error e => .error e | .ok (c, r1) => rangeP s c r1 by simp only [itemP, ht, ht2]; rfl)
    have Ht := Lib.hid ht; have Ht2 := Lib.hid ht2; clear ht ht2
    go_enter Tryz.func82, Tryz.ntmps82
    go_wp2_with fail
    refine (take_miss [91, 58] (by simp) Ht.out H.out).mono ?_
    rintro en w1 ⟨rfl, h1, hO1⟩
    go_wp2_with fail
    refine (take_miss [91, 61] (by simp) Ht2.out h1).mono ?_
    rintro en w2 ⟨rfl, h2, hO2⟩
    have HO2 := Lib.hid (hO1.trans hO2)
    clear hO1 h1
    go_wp2_with fail
    refine (member_any w2 p op r h2).mono ?_
    rintro en w3 ⟨c, s1, hc, rfl, h3, hO3, ho⟩
    have HO3 := Lib.hid (HO2.out.trans hO3)
    have HS3 := Lib.hid (HS.out.off HO3.out (by omega))
    have Ho := Lib.hid ho; have H3 := Lib.hid h3
    clear ho h3 hO3 h2 hO2 HO2 Ht Ht2
    have c0 := H3.out.rdr.c0
    cases s1 with
    | error e =>
      have Hi := Lib.hid (show itemP s r = .error e by
        have hho := Ho.out
        simp only [Out] at hho
        rw [Hi.out]
        cases hm : memberP r with
        | error e' => simp only [hm] at hho ⊢; cases hho; rfl
        | ok y => obtain ⟨c', r2⟩ := y; simp only [hm] at hho; cases hho.2)
      clear Ho
      simp only [Rs.rest] at c0
      go_wp2_with fail
      refine (shasP_any [] [45] w3).mono ?_
      rintro en w4 ⟨rfl, rfl⟩
      go_wp2_with fail
      obtain ⟨lim, hlim⟩ : ∃ lim, lim = limI c c := ⟨_, rfl⟩
      have hlim2 : c ≤ lim ∧ lim ≤ 256 ∧ ∀ j, c ≤ j → j ≤ lim → (j < lim ↔ j ≤ c) := by
        rw [hlim]; unfold limI
        split <;> exact ⟨by omega, by omega, fun j h1 h2 => by omega⟩
      obtain ⟨hm1, hm2, hm3⟩ := hlim2
      have Hlim := Lib.hid hlim; clear hlim
      go_loopg [6] (lim - c) (fun k i wr => ∃ (j : Nat) (S : W4), i = .int .i64 j ∧ j + k = lim ∧ c ≤ j ∧ RS wr p op (.error e) ∧ SetAt wr b S ∧ Offs p b w wr ∧ (List.range' j (lim - j)).foldl W4.add S = s.span c (lim - c))
      case atStart => exact ⟨c, s, by go_num, by omega, Nat.le_refl _, H3.out, HS3.out, .of HO3.out, rfl⟩
      case round =>
        obtain ⟨j, S, rfl, hj, hcj, hR, hS, hO, hsp⟩ := hrel
        have HRr := Lib.hid hR; have HSr := Lib.hid hS; have HOr := Lib.hid hO; have Hsp := Lib.hid hsp
        clear hR hS hO hsp
        have hjd := hm3 j hcj (by omega)
        by_cases hlt : j < lim
        · have hle : j ≤ c := hjd.1 hlt
          have hmod : IntKind.u8.wrap (j : Int) = (j : Int) := by simp [IntKind.wrap, IntKind.signed, IntKind.bits]; omega
          clear hjd hm3
          go_wp2_with fail
          refine (add_any wr b 0 S j (by omega) HSr.out.at4 HSr.out.froz).mono ?_
          rintro en wx ⟨rfl, rfl⟩
          go_wp2_with fail
          go_roundg (gk - 1)
          case measure => omega
          case rel => exact ⟨j + 1, S.add j, by go_num, by omega, by omega, HRr.out.putW hb 0 S j, (HSr.out.addW j (by omega)).drew, HOr.out.addW S j, (span_step S j lim hlt).symm.trans Hsp.out⟩
        · have hle : ¬ j ≤ c := fun h => hlt (hjd.2 h)
          have hS : S = s.span c (lim - c) := by rw [← Hsp.out, show lim - j = 0 by omega]; rfl
          clear hjd hm3
          go_wp2_with fail
          go_end0
          subst hS
          exact ⟨_, _, rfl, HRr.out, HSr.out, HOr.out, Out.bad Hi.out⟩
    | ok r1 =>
      have Hi := Lib.hid (show itemP s r = rangeP s c r1 by
        have hho := Ho.out
        simp only [Out] at hho
        rw [Hi.out]
        cases hm : memberP r with
        | error e' => simp only [hm] at hho; cases hho
        | ok y => obtain ⟨c', r2⟩ := y; simp only [hm] at hho ⊢; obtain ⟨rfl, h'⟩ := hho; cases h'; rfl)
      have hl1 : r1.length ≤ 1024 := by
        have hho := Ho.out
        simp only [Out] at hho
        cases hm : memberP r with
        | error e' => simp only [hm] at hho; cases hho
        | ok y =>
          obtain ⟨c', r2⟩ := y
          simp only [hm] at hho
          obtain ⟨_, h'⟩ := hho; cases h'
          have := (member_suf hm).length_le
          omega
      clear Ho
      simp only [Rs.rest] at c0
      cases ht : takeP [45] r1 with
      | none =>
        have Hi := Lib.hid (show itemP s r = .ok (s.add c, r1) by rw [Hi.out]; simp only [rangeP, ht])
        have hp := pref_none ht
        clear ht
        go_wp2_with fail
        refine (shasP_any r1 [45] w3).mono ?_
        rintro en w4 ⟨rfl, rfl⟩
        rw [hp]
        go_wp2_with fail
        obtain ⟨lim, hlim⟩ : ∃ lim, lim = limI c c := ⟨_, rfl⟩
        have hlim2 : c ≤ lim ∧ lim ≤ 256 ∧ ∀ j, c ≤ j → j ≤ lim → (j < lim ↔ j ≤ c) := by
          rw [hlim]; unfold limI
          split <;> exact ⟨by omega, by omega, fun j h1 h2 => by omega⟩
        obtain ⟨hm1, hm2, hm3⟩ := hlim2
        have Hlim := Lib.hid hlim; clear hlim
        go_loopg [6] (lim - c) (fun k i wr => ∃ (j : Nat) (S : W4), i = .int .i64 j ∧ j + k = lim ∧ c ≤ j ∧ RS wr p op (.ok r1) ∧ SetAt wr b S ∧ Offs p b w wr ∧ (List.range' j (lim - j)).foldl W4.add S = s.span c (lim - c))
        case atStart => exact ⟨c, s, by go_num, by omega, Nat.le_refl _, H3.out, HS3.out, .of HO3.out, rfl⟩
        case round =>
          obtain ⟨j, S, rfl, hj, hcj, hR, hS, hO, hsp⟩ := hrel
          have HRr := Lib.hid hR; have HSr := Lib.hid hS; have HOr := Lib.hid hO; have Hsp := Lib.hid hsp
          clear hR hS hO hsp
          have hjd := hm3 j hcj (by omega)
          by_cases hlt : j < lim
          · have hle : j ≤ c := hjd.1 hlt
            have hmod : IntKind.u8.wrap (j : Int) = (j : Int) := by simp [IntKind.wrap, IntKind.signed, IntKind.bits]; omega
            clear hjd hm3
            go_wp2_with fail
            refine (add_any wr b 0 S j (by omega) HSr.out.at4 HSr.out.froz).mono ?_
            rintro en wx ⟨rfl, rfl⟩
            go_wp2_with fail
            go_roundg (gk - 1)
            case measure => omega
            case rel => exact ⟨j + 1, S.add j, by go_num, by omega, by omega, HRr.out.putW hb 0 S j, (HSr.out.addW j (by omega)).drew, HOr.out.addW S j, (span_step S j lim hlt).symm.trans Hsp.out⟩
          · have hle : ¬ j ≤ c := fun h => hlt (hjd.2 h)
            have hS : S = s.span c (lim - c) := by rw [← Hsp.out, show lim - j = 0 by omega]; rfl
            clear hjd hm3
            go_wp2_with fail
            go_end0
            subst hS
            exact ⟨_, _, rfl, HRr.out, HSr.out, HOr.out, Out.good Hi.out (by rw [Hlim.out, limI_self, show c + 1 - c = 1 by omega, span_one])⟩
      | some r2 =>
        have hp := pref_some ht
        cases ht2 : takeP [45, 93] r1 with
        | some r3 =>
          have Hi := Lib.hid (show itemP s r = .ok (s.add c, r1) by rw [Hi.out]; simp only [rangeP, ht, ht2])
          have hp2 := pref_some ht2
          clear ht ht2
          go_wp2_with fail
          refine (shasP_any r1 [45] w3).mono ?_
          rintro en w4 ⟨rfl, rfl⟩
          rw [hp]
          go_wp2_with fail
          refine (shasP_any r1 [45, 93] w4).mono ?_
          rintro en w5 ⟨rfl, rfl⟩
          rw [hp2]
          go_wp2_with fail
          obtain ⟨lim, hlim⟩ : ∃ lim, lim = limI c c := ⟨_, rfl⟩
          have hlim2 : c ≤ lim ∧ lim ≤ 256 ∧ ∀ j, c ≤ j → j ≤ lim → (j < lim ↔ j ≤ c) := by
            rw [hlim]; unfold limI
            split <;> exact ⟨by omega, by omega, fun j h1 h2 => by omega⟩
          obtain ⟨hm1, hm2, hm3⟩ := hlim2
          have Hlim := Lib.hid hlim; clear hlim
          go_loopg [6] (lim - c) (fun k i wr => ∃ (j : Nat) (S : W4), i = .int .i64 j ∧ j + k = lim ∧ c ≤ j ∧ RS wr p op (.ok r1) ∧ SetAt wr b S ∧ Offs p b w wr ∧ (List.range' j (lim - j)).foldl W4.add S = s.span c (lim - c))
          case atStart => exact ⟨c, s, by go_num, by omega, Nat.le_refl _, H3.out, HS3.out, .of HO3.out, rfl⟩
          case round =>
            obtain ⟨j, S, rfl, hj, hcj, hR, hS, hO, hsp⟩ := hrel
            have HRr := Lib.hid hR; have HSr := Lib.hid hS; have HOr := Lib.hid hO; have Hsp := Lib.hid hsp
            clear hR hS hO hsp
            have hjd := hm3 j hcj (by omega)
            by_cases hlt : j < lim
            · have hle : j ≤ c := hjd.1 hlt
              have hmod : IntKind.u8.wrap (j : Int) = (j : Int) := by simp [IntKind.wrap, IntKind.signed, IntKind.bits]; omega
              clear hjd hm3
              go_wp2_with fail
              refine (add_any wr b 0 S j (by omega) HSr.out.at4 HSr.out.froz).mono ?_
              rintro en wx ⟨rfl, rfl⟩
              go_wp2_with fail
              go_roundg (gk - 1)
              case measure => omega
              case rel => exact ⟨j + 1, S.add j, by go_num, by omega, by omega, HRr.out.putW hb 0 S j, (HSr.out.addW j (by omega)).drew, HOr.out.addW S j, (span_step S j lim hlt).symm.trans Hsp.out⟩
            · have hle : ¬ j ≤ c := fun h => hlt (hjd.2 h)
              have hS : S = s.span c (lim - c) := by rw [← Hsp.out, show lim - j = 0 by omega]; rfl
              clear hjd hm3
              go_wp2_with fail
              go_end0
              subst hS
              exact ⟨_, _, rfl, HRr.out, HSr.out, HOr.out, Out.good Hi.out (by rw [Hlim.out, limI_self, show c + 1 - c = 1 by omega, span_one])⟩
        | none =>
          have hp2 := pref_none ht2
          have Ht := Lib.hid ht
          have hl2 : r2.length ≤ 1024 := by have := (takeP_suf ht).length_le; omega
          go_wp2_with fail
          refine (shasP_any r1 [45] w3).mono ?_
          rintro en w4 ⟨rfl, rfl⟩
          rw [hp]
          go_wp2_with fail
          refine (shasP_any r1 [45, 93] w4).mono ?_
          rintro en w5 ⟨rfl, rfl⟩
          rw [hp2]
          go_wp2_with fail
          refine (take_hit [45] (by simp) Ht.out H3.out).mono ?_
          rintro en w6 ⟨rfl, h6, hO6⟩
          have HO6 := Lib.hid (HO3.out.trans hO6)
          have HS6 := Lib.hid (HS.out.off HO6.out (by omega))
          have H6 := Lib.hid h6
          clear hO6 h6 c0
          have c0 := H6.out.rdr.c0
          simp only [Rs.rest] at c0
          cases ha : takeP [91, 58] r2 with
          | some y =>
            have Hi := Lib.hid (show itemP s r = .error 101 by rw [Hi.out]; simp [rangeP, ht, ht2, ha])
            have hp3 := pref_some ha
            clear ha ht ht2
            go_wp2_with fail
            refine (shasP_any r2 [91, 58] w6).mono ?_
            rintro en w7 ⟨rfl, rfl⟩
            rw [hp3]
            go_wp2_with fail
            refine (fail_ok 101 (by omega) H6.out).mono ?_
            rintro en w8 ⟨rfl, h8, hO8⟩
            go_wp2_with fail
            go_end0
            exact ⟨s, _, rfl, h8, HS6.out.off hO8 (by omega), .of (HO6.out.trans hO8), Out.bad Hi.out⟩
          | none =>
          have hp3 := pref_none ha
          cases hb2 : takeP [91, 61] r2 with
          | some y =>
            have Hi := Lib.hid (show itemP s r = .error 101 by rw [Hi.out]; simp [rangeP, ht, ht2, ha, hb2])
            have hp4 := pref_some hb2
            clear ha ht ht2 hb2
            go_wp2_with fail
            refine (shasP_any r2 [91, 58] w6).mono ?_
            rintro en w7 ⟨rfl, rfl⟩
            rw [hp3]
            go_wp2_with fail
            refine (shasP_any r2 [91, 61] w7).mono ?_
            rintro en w8 ⟨rfl, rfl⟩
            rw [hp4]
            go_wp2_with fail
            refine (fail_ok 101 (by omega) H6.out).mono ?_
            rintro en w9 ⟨rfl, h8, hO8⟩
            go_wp2_with fail
            go_end0
            exact ⟨s, _, rfl, h8, HS6.out.off hO8 (by omega), .of (HO6.out.trans hO8), Out.bad Hi.out⟩
          | none =>
            have Hi := Lib.hid (show itemP s r = match memberP r2 with | .error e => .error e | .ok (to_, r2) => if to_ < c then .error 102 else .ok (s.span c (to_ + 1 - c), r2) by rw [Hi.out]; simp [rangeP, ht, ht2, ha, hb2]; rfl)
            have hp4 := pref_none hb2
            clear ha ht ht2 hb2
            go_wp2_with fail
            refine (shasP_any r2 [91, 58] w6).mono ?_
            rintro en w7 ⟨rfl, rfl⟩
            rw [hp3]
            go_wp2_with fail
            refine (shasP_any r2 [91, 61] w7).mono ?_
            rintro en w8 ⟨rfl, rfl⟩
            rw [hp4]
            go_wp2_with fail
            refine (member_any w8 p op r2 H6.out).mono ?_
            rintro en w9 ⟨d, s2, hd, rfl, h9, hO9, ho⟩
            have HO9 := Lib.hid (HO6.out.trans hO9)
            have HS9 := Lib.hid (HS.out.off HO9.out (by omega))
            have Ho := Lib.hid ho; have H9 := Lib.hid h9
            clear ho h9 hO9 c0
            have c2 := H9.out.rdr.c2
            cases s2 with
            | error e =>
              have Hi := Lib.hid (show itemP s r = .error e by
                have hho := Ho.out
                simp only [Out] at hho
                rw [Hi.out]
                cases hm : memberP r2 with
                | error e' => simp only [hm] at hho ⊢; cases hho; rfl
                | ok y => obtain ⟨c', r2⟩ := y; simp only [hm] at hho; cases hho.2)
              have he0 := H9.out.ne e rfl
              clear Ho
              simp only [Rs.no] at c2
              go_wp2_with fail
              obtain ⟨lim, hlim⟩ : ∃ lim, lim = limI c d := ⟨_, rfl⟩
              have hlim2 : c ≤ lim ∧ lim ≤ 256 ∧ ∀ j, c ≤ j → j ≤ lim → (j < lim ↔ j ≤ d) := by
                rw [hlim]; unfold limI
                split <;> exact ⟨by omega, by omega, fun j h1 h2 => by omega⟩
              obtain ⟨hm1, hm2, hm3⟩ := hlim2
              have Hlim := Lib.hid hlim; clear hlim
              go_loopg [6] (lim - c) (fun k i wr => ∃ (j : Nat) (S : W4), i = .int .i64 j ∧ j + k = lim ∧ c ≤ j ∧ RS wr p op (.error e) ∧ SetAt wr b S ∧ Offs p b w wr ∧ (List.range' j (lim - j)).foldl W4.add S = s.span c (lim - c))
              case atStart => exact ⟨c, s, by go_num, by omega, Nat.le_refl _, H9.out, HS9.out, .of HO9.out, rfl⟩
              case round =>
                obtain ⟨j, S, rfl, hj, hcj, hR, hS, hO, hsp⟩ := hrel
                have HRr := Lib.hid hR; have HSr := Lib.hid hS; have HOr := Lib.hid hO; have Hsp := Lib.hid hsp
                clear hR hS hO hsp
                have hjd := hm3 j hcj (by omega)
                by_cases hlt : j < lim
                · have hle : j ≤ d := hjd.1 hlt
                  have hmod : IntKind.u8.wrap (j : Int) = (j : Int) := by simp [IntKind.wrap, IntKind.signed, IntKind.bits]; omega
                  clear hjd hm3
                  go_wp2_with fail
                  refine (add_any wr b 0 S j (by omega) HSr.out.at4 HSr.out.froz).mono ?_
                  rintro en wx ⟨rfl, rfl⟩
                  go_wp2_with fail
                  go_roundg (gk - 1)
                  case measure => omega
                  case rel => exact ⟨j + 1, S.add j, by go_num, by omega, by omega, HRr.out.putW hb 0 S j, (HSr.out.addW j (by omega)).drew, HOr.out.addW S j, (span_step S j lim hlt).symm.trans Hsp.out⟩
                · have hle : ¬ j ≤ d := fun h => hlt (hjd.2 h)
                  have hS : S = s.span c (lim - c) := by rw [← Hsp.out, show lim - j = 0 by omega]; rfl
                  clear hjd hm3
                  go_wp2_with fail
                  go_end0
                  subst hS
                  exact ⟨_, _, rfl, HRr.out, HSr.out, HOr.out, Out.bad Hi.out⟩
            | ok r3 =>
              have Hi := Lib.hid (show itemP s r = if d < c then .error 102 else .ok (s.span c (d + 1 - c), r3) by
                have hho := Ho.out
                simp only [Out] at hho
                rw [Hi.out]
                cases hm : memberP r2 with
                | error e' => simp only [hm] at hho; cases hho
                | ok y => obtain ⟨c', r2⟩ := y; simp only [hm] at hho ⊢; obtain ⟨rfl, h'⟩ := hho; cases h'; rfl)
              clear Ho
              simp only [Rs.no] at c2
              by_cases hdc : d < c
              · have Hi := Lib.hid (show itemP s r = .error 102 by rw [Hi.out, if_pos hdc])
                go_wp2_with fail
                refine (fail_ok 102 (by omega) H9.out).mono ?_
                rintro en w10 ⟨rfl, h8, hO8⟩
                have HO10 := Lib.hid (HO9.out.trans hO8)
                have HS10 := Lib.hid (HS.out.off HO10.out (by omega))
                have H10 := Lib.hid h8
                clear h8 hO8
                go_wp2_with fail
                obtain ⟨lim, hlim⟩ : ∃ lim, lim = limI c d := ⟨_, rfl⟩
                have hlim2 : c ≤ lim ∧ lim ≤ 256 ∧ ∀ j, c ≤ j → j ≤ lim → (j < lim ↔ j ≤ d) := by
                  rw [hlim]; unfold limI
                  split <;> exact ⟨by omega, by omega, fun j h1 h2 => by omega⟩
                obtain ⟨hm1, hm2, hm3⟩ := hlim2
                have Hlim := Lib.hid hlim; clear hlim
                go_loopg [6] (lim - c) (fun k i wr => ∃ (j : Nat) (S : W4), i = .int .i64 j ∧ j + k = lim ∧ c ≤ j ∧ RS wr p op (.error 102) ∧ SetAt wr b S ∧ Offs p b w wr ∧ (List.range' j (lim - j)).foldl W4.add S = s.span c (lim - c))
                case atStart => exact ⟨c, s, by go_num, by omega, Nat.le_refl _, H10.out, HS10.out, .of HO10.out, rfl⟩
                case round =>
                  obtain ⟨j, S, rfl, hj, hcj, hR, hS, hO, hsp⟩ := hrel
                  have HRr := Lib.hid hR; have HSr := Lib.hid hS; have HOr := Lib.hid hO; have Hsp := Lib.hid hsp
                  clear hR hS hO hsp
                  have hjd := hm3 j hcj (by omega)
                  by_cases hlt : j < lim
                  · have hle : j ≤ d := hjd.1 hlt
                    have hmod : IntKind.u8.wrap (j : Int) = (j : Int) := by simp [IntKind.wrap, IntKind.signed, IntKind.bits]; omega
                    clear hjd hm3
                    go_wp2_with fail
                    refine (add_any wr b 0 S j (by omega) HSr.out.at4 HSr.out.froz).mono ?_
                    rintro en wx ⟨rfl, rfl⟩
                    go_wp2_with fail
                    go_roundg (gk - 1)
                    case measure => omega
                    case rel => exact ⟨j + 1, S.add j, by go_num, by omega, by omega, HRr.out.putW hb 0 S j, (HSr.out.addW j (by omega)).drew, HOr.out.addW S j, (span_step S j lim hlt).symm.trans Hsp.out⟩
                  · have hle : ¬ j ≤ d := fun h => hlt (hjd.2 h)
                    have hS : S = s.span c (lim - c) := by rw [← Hsp.out, show lim - j = 0 by omega]; rfl
                    clear hjd hm3
                    go_wp2_with fail
                    go_end0
                    subst hS
                    exact ⟨_, _, rfl, HRr.out, HSr.out, HOr.out, Out.bad Hi.out⟩
              · have Hi := Lib.hid (show itemP s r = .ok (s.span c (d + 1 - c), r3) by rw [Hi.out, if_neg hdc])
                go_wp2_with fail
                obtain ⟨lim, hlim⟩ : ∃ lim, lim = limI c d := ⟨_, rfl⟩
                have hlim2 : c ≤ lim ∧ lim ≤ 256 ∧ ∀ j, c ≤ j → j ≤ lim → (j < lim ↔ j ≤ d) := by
                  rw [hlim]; unfold limI
                  split <;> exact ⟨by omega, by omega, fun j h1 h2 => by omega⟩
                obtain ⟨hm1, hm2, hm3⟩ := hlim2
                have Hlim := Lib.hid hlim; clear hlim
                go_loopg [6] (lim - c) (fun k i wr => ∃ (j : Nat) (S : W4), i = .int .i64 j ∧ j + k = lim ∧ c ≤ j ∧ RS wr p op (.ok r3) ∧ SetAt wr b S ∧ Offs p b w wr ∧ (List.range' j (lim - j)).foldl W4.add S = s.span c (lim - c))
                case atStart => exact ⟨c, s, by go_num, by omega, Nat.le_refl _, H9.out, HS9.out, .of HO9.out, rfl⟩
                case round =>
                  obtain ⟨j, S, rfl, hj, hcj, hR, hS, hO, hsp⟩ := hrel
                  have HRr := Lib.hid hR; have HSr := Lib.hid hS; have HOr := Lib.hid hO; have Hsp := Lib.hid hsp
                  clear hR hS hO hsp
                  have hjd := hm3 j hcj (by omega)
                  by_cases hlt : j < lim
                  · have hle : j ≤ d := hjd.1 hlt
                    have hmod : IntKind.u8.wrap (j : Int) = (j : Int) := by simp [IntKind.wrap, IntKind.signed, IntKind.bits]; omega
                    clear hjd hm3
                    go_wp2_with fail
                    refine (add_any wr b 0 S j (by omega) HSr.out.at4 HSr.out.froz).mono ?_
                    rintro en wx ⟨rfl, rfl⟩
                    go_wp2_with fail
                    go_roundg (gk - 1)
                    case measure => omega
                    case rel => exact ⟨j + 1, S.add j, by go_num, by omega, by omega, HRr.out.putW hb 0 S j, (HSr.out.addW j (by omega)).drew, HOr.out.addW S j, (span_step S j lim hlt).symm.trans Hsp.out⟩
                  · have hle : ¬ j ≤ d := fun h => hlt (hjd.2 h)
                    have hS : S = s.span c (lim - c) := by rw [← Hsp.out, show lim - j = 0 by omega]; rfl
                    clear hjd hm3
                    go_wp2_with fail
                    go_end0
                    subst hS
                    exact ⟨_, _, rfl, HRr.out, HSr.out, HOr.out, Out.good Hi.out (by rw [Hlim.out]; unfold limI; rw [if_pos (by omega)])⟩
end Go.Proofs.YteekafkpeimhoaaGreat

/- The pattern reader's bracket: walked. -/
set_option linter.unusedVariables false
set_option linter.unusedSimpArgs false
namespace Go.Proofs.YteekafkpeimhoaaGreat
open Go.RowKit

theorem single_lt {g : UInt8} {r r' : Bs} {c : Nat} (h : singleP g r = .ok (c, r')) : r'.length < r.length := by
  unfold singleP at h
  split at h
  · cases h
  · split at h
    · rename_i h1; cases h; have := takeP_len h1; simp at *; omega
    · cases h
theorem member_lt {r r' : Bs} {c : Nat} (h : memberP r = .ok (c, r')) : r'.length < r.length := by
  unfold memberP at h
  split at h
  · rename_i h1; have := takeP_len h1; have := single_lt h; simp at *; omega
  · split at h
    · cases h
    · cases h; simp
theorem rangeP_len {s s' : W4} {c : Nat} {r r' : Bs} (h : rangeP s c r = .ok (s', r')) : r'.length ≤ r.length := by
  unfold rangeP at h
  split at h
  · rename_i r1 h1 _
    have := takeP_len h1
    split at h
    · cases h
    · split at h
      · cases h
      · rename_i h2
        split at h
        · cases h
        · cases h; have := member_lt h2; omega
  · cases h; exact Nat.le_refl _
theorem item_lt {s s' : W4} {r r' : Bs} (h : itemP s r = .ok (s', r')) : r'.length < r.length := by
  unfold itemP at h
  split at h
  · rename_i h1
    have := takeP_len h1; have := class_len h; simp at *; omega
  · split at h
    · rename_i h1
      have := takeP_len h1
      split at h
      · cases h
      · rename_i h2; cases h; have := single_lt h2; simp at *; omega
    · split at h
      · cases h
      · rename_i h2; have := member_lt h2; have := rangeP_len h; omega
def W4.notTo (s : W4) (i : Nat) : W4 := ⟨if 0 < i then notI s.a else s.a, if 1 < i then notI s.b else s.b, if 2 < i then notI s.c else s.c, if 3 < i then notI s.d else s.d⟩
theorem notTo_all (s : W4) : s.notTo 4 = s.not := by simp [W4.notTo, W4.not]
theorem notTo_0 (s : W4) : s.notTo 0 = s := by simp [W4.notTo]
theorem notTo_put (s : W4) (i : Nat) (hi : i < 4) (u : Int) (hu : u = notI (s.word i)) : (s.notTo i).put i u = s.notTo (i + 1) := by
  subst hu
  rcases (show i = 0 ∨ i = 1 ∨ i = 2 ∨ i = 3 by omega) with rfl | rfl | rfl | rfl <;> simp [W4.notTo, W4.put, W4.word]
theorem SetAt.new (w : World) : SetAt (w.alloc (.cells #[.int .u64 0, .int .u64 0, .int .u64 0, .int .u64 0] 36)) w.heap.size w40 := heap_alloc_new w _
theorem SetAt.setV {w : World} {b : Nat} {s : W4} (h : SetAt w b s) (S : W4) : SetAt (setV w b S) b S := by
  have := (((h.put 0 (by omega) S.a).put 1 (by omega) S.b).put 2 (by omega) S.c).put 3 (by omega) S.d
  unfold Go.Proofs.YteekafkpeimhoaaGreat.setV
  simpa [W4.put] using this
theorem bracket_cases (r : Bs) : ∃ (neg : Bool) (r0 : Bs), takeS [94] (.ok r) = (neg, .ok r0) ∧ r0.length ≤ r.length ∧
    bracketP r = match itemsP (r0.length + 1) w40 r0 with | .error e => .error e | .ok (s, r2) => .ok (if neg then s.not else s, r2) := by
  unfold bracketP
  cases ht : takeP [94] r with
  | none => refine ⟨false, r, by simp only [takeS, ht], Nat.le_refl _, ?_⟩; simp only; cases itemsP (r.length + 1) w40 r <;> simp
  | some r1 => exact ⟨true, r1, by simp only [takeS, ht], by have := takeP_len ht; omega, by simp only [if_true]; rfl⟩
theorem items_bad {k : Nat} {S : W4} {r : Bs} {e : Int} (hk : 1 ≤ k) (h : itemP S r = .error e) : itemsP k S r = .error e := by
  obtain ⟨k', rfl⟩ : ∃ k', k = k' + 1 := ⟨k - 1, by omega⟩
  rw [itemsP, h]
theorem items_good {k : Nat} {S S' : W4} {r r' : Bs} (hk : 1 ≤ k) (h : itemP S r = .ok (S', r')) : itemsP k S r = match takeP [93] r' with | some r2 => .ok (S', r2) | none => itemsP (k - 1) S' r' := by
  obtain ⟨k', rfl⟩ : ∃ k', k = k' + 1 := ⟨k - 1, by omega⟩
  rw [itemsP, h]
  rfl
theorem out_bad {α : Type} {f : Bs → Except Int (α × Bs)} {r : Bs} {v : α → Prop} {e : Int} (h : Out f (.ok r) v (.error e)) : f r = .error e := by
  simp only [Out] at h
  cases hf : f r with
  | error e' => simp only [hf] at h; cases h; rfl
  | ok y => obtain ⟨x, r'⟩ := y; simp only [hf] at h; cases h.2
theorem out_good {α : Type} {f : Bs → Except Int (α × Bs)} {r r' : Bs} {v : α → Prop} (h : Out f (.ok r) v (.ok r')) : ∃ x, f r = .ok (x, r') ∧ v x := by
  simp only [Out] at h
  cases hf : f r with
  | error e' => simp only [hf] at h; cases h
  | ok y => obtain ⟨x, r2⟩ := y; simp only [hf] at h; obtain ⟨h1, h2⟩ := h; cases h2; exact ⟨x, rfl, h1⟩
theorem Offs.tu {p b : Nat} {w w1 w' : World} (h : Off p w w1) (k : Offs p b w1 w') (hb : w.heap.size ≤ b) : Off p w w' := Offs.off h k hb
theorem SetAt.offs {w w' : World} {p b c : Nat} {s : W4} (h : SetAt w c s) (k : Offs p b w w') (hp : c ≠ p) (hb : c ≠ b) : SetAt w' c s := h.keep (k.block c h.lt hp hb)
theorem xor_not {x : Int} (h : In64 x) : bits .xor .u64 IntKind.u64.max x = notI x := by
  have e : bits .xor .u64 IntKind.u64.max x = ((18446744073709551615 ^^^ x.toNat : Nat) : Int) := by
    have := bits_xor_u64_nat 18446744073709551615 x.toNat (by omega) (by have := h.1; have := h.2; omega)
    rw [show ((x.toNat : Nat) : Int) = x by have := h.1; omega] at this
    exact this
  have hlt : 18446744073709551615 ^^^ x.toNat < 2 ^ 64 := Nat.xor_lt_two_pow (by decide) (by have := h.1; have := h.2; omega)
  rw [e]
  refine word_ext ⟨by omega, by omega⟩ (notI_in h) fun k hk => ?_
  rw [notI_bit h k hk, Int.toNat_natCast, Nat.testBit_xor]
  have : (18446744073709551615 : Nat).testBit k = true := by
    have := Nat.testBit_two_pow_sub_one 64 k
    rw [show (2 : Nat) ^ 64 - 1 = 18446744073709551615 from rfl] at this
    rw [this]; simpa using hk
  rw [this, Bool.true_xor]
theorem whereW_ok (f : Nat → Bool) : Wok (whereW f) := by
  have : ∀ (l : List Nat) (s : W4), Wok s → (∀ c ∈ l, c < 256) → Wok (l.foldl (fun s c => if f c then s.add c else s) s) := by
    intro l
    induction l with
    | nil => intro s h _; exact h
    | cons c l ih =>
      intro s h hl
      rw [List.foldl_cons]
      refine ih _ ?_ (fun x hx => hl x (List.mem_cons_of_mem _ hx))
      split
      · exact add_ok h c (hl c (List.mem_cons_self ..))
      · exact h
  rw [whereW_def]
  exact this _ _ wok0 (fun c hc => List.mem_range.1 hc)
theorem class_wok {n : Bs} {x : W4} (h : classW n = some x) : Wok x := by
  by_cases hj : ∃ (j : Nat) (f : Nat → Bool), ckinds[j]? = some (none, .ins n f)
  · obtain ⟨j, f, hj⟩ := hj
    rw [class_hit hj] at h
    cases h
    exact whereW_ok f
  · rw [class_miss fun j f e => hj ⟨j, f, e⟩] at h
    cases h
theorem range_ok {s s' : W4} {c : Nat} {r r' : Bs} (hs : Wok s) (hc : c < 256) (h : rangeP s c r = .ok (s', r')) : Wok s' := by
  unfold rangeP at h
  split at h
  · split at h
    · cases h
    · split at h
      · cases h
      · rename_i d r2 h2
        have := memberP_lt h2
        split at h
        · cases h
        · cases h; exact (span_spec hs c (d + 1 - c) (by omega)).1
  · cases h; exact add_ok hs c hc
theorem item_ok {s s' : W4} {r r' : Bs} (hs : Wok s) (h : itemP s r = .ok (s', r')) : Wok s' := by
  unfold itemP at h
  split at h
  · unfold classP at h
    split at h
    · cases h
    · split at h
      · cases h
      · rename_i hx; cases h; exact or_ok hs (class_wok hx)
  · split at h
    · split at h
      · cases h
      · rename_i hx; cases h; exact add_ok hs _ (singleP_lt hx)
    · split at h
      · cases h
      · rename_i hx; exact range_ok hs (memberP_lt hx) h
theorem setV_size (w : World) (b : Nat) (S : W4) : (setV w b S).heap.size = w.heap.size := by simp [setV]
theorem setV_other (w : World) (b : Nat) (S : W4) (k : Nat) (hk : k ≠ b) : (setV w b S).heap[k]? = w.heap[k]? := by
  unfold setV
  iterate 3 rw [Below.heap_setCell _ _ _ _ hk]
  exact Below.heap_setCell _ _ _ _ hk
theorem Off.setV {p : Nat} {w w1 : World} (h : Off p w w1) {b : Nat} (hb : w.heap.size ≤ b) (S : W4) : Off p w (Go.Proofs.YteekafkpeimhoaaGreat.setV w1 b S) := (fun hbel => h.far hb (Below.os hbel) (Below.tape hbel) (Below.output hbel) (setV_size _ _ _) (fun k hk => setV_other _ _ _ _ hk)) ((Below.refl 0 w1).setV (Nat.zero_le b) S)
/-- Where the reading of a bracket stands. -/
def ItemsAt (first : Bool) (k : Nat) (S : W4) (r : Bs) (G : Except Int (W4 × Bs)) : Prop :=
  r.length + 1 ≤ k ∧ if first then itemsP k S r = G else (match takeP [93] r with | some r2 => .ok (S, r2) | none => itemsP k S r) = G

set_option maxRecDepth 100000 in
set_option maxHeartbeats 8000000 in
theorem brC : BrC := by
  intro w p op r h hl
  obtain ⟨neg, r0, htk, hl0, hbr⟩ := bracket_cases r
  have H := Lib.hid h; have Htk := Lib.hid htk; have Hbr := Lib.hid hbr
  have hp := h.lt
  clear h htk hbr
  go_enter Tryz.func69, Tryz.ntmps69
  go_wp2_with fail
  generalize hW0 : w.alloc _ = W0
  have hB0 : Below w.heap.size w W0 := by subst hW0; exact (Below.refl _ _).alloc (Nat.le_refl _) _
  have hR0 : SetAt W0 w.heap.size w40 := by subst hW0; exact SetAt.new w
  clear hW0
  have h0 := H.out.later hB0
  have ht := take_any W0 p op (.ok r) [94] (by simp) h0
  rw [Htk.out] at ht
  refine ht.mono ?_
  rintro en w1 ⟨rfl, h1, hO1⟩
  have hR1 := hR0.off hO1 (by omega)
  have hO1 : Off p w w1 := (Off.of_below hB0).trans hO1
  have hz1 : w.heap.size < w1.heap.size := hR1.lt
  clear ht hR0 h0 hB0
  simp only at h1
  have H1 := Lib.hid h1; have HR1 := Lib.hid hR1; have HO1 := Lib.hid hO1
  clear h1 hR1 hO1
  go_wp2_with fail
  generalize hW1 : w1.alloc _ = W1
  have hB1 : Below w1.heap.size w1 W1 := by subst hW1; exact (Below.refl _ _).alloc (Nat.le_refl _) _
  have hS2 : SetAt W1 w1.heap.size w40 := by subst hW1; exact SetAt.new w1
  clear hW1
  have H2 := Lib.hid (H1.out.later hB1)
  have HR2 := Lib.hid (HR1.out.off (Off.of_below (p := p) hB1) (by omega))
  have HO2 := Lib.hid (HO1.out.trans (Off.of_below (p := p) hB1))
  clear H1 HR1 HO1 hB1
  generalize w1.heap.size = b1 at *
  have HS2 := Lib.hid hS2
  clear hS2
  go_loopg [5] (r0.length + 1) (fun k f wr => ∃ (first : Bool) (S : W4) (r' : Bs), f = .bool first ∧ ItemsAt first k S r' (itemsP (r0.length + 1) w40 r0) ∧ Wok S ∧ r'.length ≤ 1024 ∧ RS wr p op (.ok r') ∧ SetAt wr w.heap.size w40 ∧ SetAt wr b1 S ∧ Off p w wr)
  case atStart => exact ⟨true, w40, r0, rfl, ⟨Nat.le_refl _, rfl⟩, wok0, by omega, H2.out, HR2.out, HS2.out, HO2.out⟩
  case round =>
    obtain ⟨first, S, r', rfl, ⟨hk, hG⟩, hwok, hr', hRr, hR0r, hSr, hOr⟩ := hrel
    have HRr := Lib.hid hRr; have HR0r := Lib.hid hR0r; have HSr := Lib.hid hSr; have HOr := Lib.hid hOr
    clear hRr hR0r hSr hOr H2 HR2 HS2 HO2
    cases first with
    | true =>
      have HG1 := Lib.hid (show itemsP gk S r' = itemsP (r0.length + 1) w40 r0 by simpa using hG)
      clear hG
      go_wp2_with fail
      refine (item_any wr p b1 op r' S HRr.out hr' (by omega) HSr.out).mono ?_
      rintro en wx ⟨S', s', rfl, hx, hSx, hOx, ho⟩
      have HRx := Lib.hid (HR0r.out.offs hOx (by omega) (by omega))
      have HOx := Lib.hid (Offs.off HOr.out hOx (by omega))
      have HX := Lib.hid hx; have HSx := Lib.hid hSx
      have c2 := hx.rdr.c2
      cases s' with
      | error e =>
        have hit := out_bad ho
        have hbe := Lib.hid (show bracketP r = .error e by rw [Hbr.out, ← HG1.out, items_bad (by omega) hit])
        have he0 := hx.ne e rfl
        clear ho hx hSx hOx hit HG1
        simp only [Rs.no] at c2
        obtain ⟨f0, f1, f2, f3⟩ := HSx.out.at4
        obtain ⟨g0, g1, g2, g3⟩ := HRx.out.at4
        have y0 := HRx.out.froz 0; have y1 := HRx.out.froz 1; have y2 := HRx.out.froz 2; have y3 := HRx.out.froz 3
        simp only [Nat.zero_add] at f1 f2 f3 g1 g2 g3
        go_wp2_with fail
        change bodyPost _ _ _ _ _ (setV _ w.heap.size S')
        obtain ⟨q0, q1, q2, q3⟩ := (HRx.out.setV S').at4
        simp only [Nat.zero_add] at q1 q2 q3
        have hRS : RS (setV _ w.heap.size S') p op _ := (((HX.out.put hp 0 (.int .u64 S'.a)).put hp 1 (.int .u64 S'.b)).put hp 2 (.int .u64 S'.c)).put hp 3 (.int .u64 S'.d)
        have hOff := Off.setV HOx.out (b := w.heap.size) (Nat.le_refl _) S'
        clear f0 f1 f2 f3 g0 g1 g2 g3 y0 y1 y2 y3
        generalize setV _ w.heap.size S' = W at *
        exact bodyPost_ret (v := S'.V) (by simp [results, Tryz.results69, go_sem, q0, q1, q2, q3]) rfl ⟨S', _, rfl, hRS, hOff, Out.bad hbe.out⟩

      | ok r2 =>
        obtain ⟨x, hit, rfl⟩ := out_good ho
        have hlt := item_lt hit
        have hwok2 := Lib.hid (item_ok hwok hit)
        have HG2 := Lib.hid (HG1.out.symm.trans (items_good (by omega) hit))
        clear ho hx hSx hOx hit HG1
        simp only [Rs.no] at c2
        go_wp2_with fail
        go_roundg (gk - 1)
        case measure => omega
        case rel => exact ⟨false, S', r2, rfl, ⟨by omega, HG2.out.symm⟩, hwok2.out, by omega, HX.out, HRx.out, HSx.out, HOx.out⟩
    | false =>
      have hG2 : (match takeP [93] r' with | some r2 => Except.ok (S, r2) | none => itemsP gk S r') = itemsP (r0.length + 1) w40 r0 := by simpa using hG
      clear hG
      cases ht : takeP [93] r' with
      | none =>
        rw [ht] at hG2
        have HG1 := Lib.hid (show itemsP gk S r' = itemsP (r0.length + 1) w40 r0 from hG2)
        have Ht := Lib.hid ht
        clear hG2 ht
        go_wp2_with fail
        refine (take_miss [93] (by simp) Ht.out HRr.out).mono ?_
        rintro en wr ⟨rfl, h3, hO3⟩
        have HR0r := Lib.hid (HR0r.out.off hO3 (by omega))
        have HSr := Lib.hid (HSr.out.off hO3 (by omega))
        have HOr := Lib.hid (HOr.out.trans hO3)
        have HRr := Lib.hid h3
        clear h3 hO3
        go_wp2_with fail
        refine (item_any wr p b1 op r' S HRr.out hr' (by omega) HSr.out).mono ?_
        rintro en wx ⟨S', s', rfl, hx, hSx, hOx, ho⟩
        have HRx := Lib.hid (HR0r.out.offs hOx (by omega) (by omega))
        have HOx := Lib.hid (Offs.off HOr.out hOx (by omega))
        have HX := Lib.hid hx; have HSx := Lib.hid hSx
        have c2 := hx.rdr.c2
        cases s' with
        | error e =>
          have hit := out_bad ho
          have hbe := Lib.hid (show bracketP r = .error e by rw [Hbr.out, ← HG1.out, items_bad (by omega) hit])
          have he0 := hx.ne e rfl
          clear ho hx hSx hOx hit HG1
          simp only [Rs.no] at c2
          obtain ⟨f0, f1, f2, f3⟩ := HSx.out.at4
          obtain ⟨g0, g1, g2, g3⟩ := HRx.out.at4
          have y0 := HRx.out.froz 0; have y1 := HRx.out.froz 1; have y2 := HRx.out.froz 2; have y3 := HRx.out.froz 3
          simp only [Nat.zero_add] at f1 f2 f3 g1 g2 g3
          go_wp2_with fail
          change bodyPost _ _ _ _ _ (setV _ w.heap.size S')
          obtain ⟨q0, q1, q2, q3⟩ := (HRx.out.setV S').at4
          simp only [Nat.zero_add] at q1 q2 q3
          have hRS : RS (setV _ w.heap.size S') p op _ := (((HX.out.put hp 0 (.int .u64 S'.a)).put hp 1 (.int .u64 S'.b)).put hp 2 (.int .u64 S'.c)).put hp 3 (.int .u64 S'.d)
          have hOff := Off.setV HOx.out (b := w.heap.size) (Nat.le_refl _) S'
          clear f0 f1 f2 f3 g0 g1 g2 g3 y0 y1 y2 y3
          generalize setV _ w.heap.size S' = W at *
          exact bodyPost_ret (v := S'.V) (by simp [results, Tryz.results69, go_sem, q0, q1, q2, q3]) rfl ⟨S', _, rfl, hRS, hOff, Out.bad hbe.out⟩

        | ok r2 =>
          obtain ⟨x, hit, rfl⟩ := out_good ho
          have hlt := item_lt hit
          have hwok2 := Lib.hid (item_ok hwok hit)
          have HG2 := Lib.hid (HG1.out.symm.trans (items_good (by omega) hit))
          clear ho hx hSx hOx hit HG1
          simp only [Rs.no] at c2
          go_wp2_with fail
          go_roundg (gk - 1)
          case measure => omega
          case rel => exact ⟨false, S', r2, rfl, ⟨by omega, HG2.out.symm⟩, hwok2.out, by omega, HX.out, HRx.out, HSx.out, HOx.out⟩
      | some r2 =>
        rw [ht] at hG2
        have Hbr2 := Lib.hid (show bracketP r = .ok (if neg then S.not else S, r2) by rw [Hbr.out, ← hG2])
        have Ht := Lib.hid ht
        clear hG2 ht
        go_wp2_with fail
        refine (take_hit [93] (by simp) Ht.out HRr.out).mono ?_
        rintro en wr2 ⟨rfl, h3, hO3⟩
        have HR0s := Lib.hid (HR0r.out.off hO3 (by omega))
        have HSs := Lib.hid (HSr.out.off hO3 (by omega))
        have HOs := Lib.hid (HOr.out.trans hO3)
        have HRs := Lib.hid h3
        clear h3 hO3 HRr HR0r HSr HOr Ht Htk Hbr
        go_wp2_with fail
        cases neg with
        | false =>
          go_loopg [23] 4 (fun k i wr => ∃ j : Nat, i = .int .i64 j ∧ j + k = 4 ∧ RS wr p op (.ok r2) ∧ SetAt wr w.heap.size w40 ∧ SetAt wr b1 S ∧ Off p w wr)
          case atStart => exact ⟨0, rfl, rfl, HRs.out, HR0s.out, HSs.out, HOs.out⟩
          case round =>
            obtain ⟨j, rfl, hj, h4, h5, h6, h7⟩ := hrel
            have HRt := Lib.hid h4; have HR0t := Lib.hid h5; have HSt := Lib.hid h6; have HOt := Lib.hid h7
            clear h4 h5 h6 h7 HRs HR0s HSs HOs
            by_cases hj4 : j < 4
            · go_wp2_with fail
              go_roundg (gk - 1)
              case measure => omega
              case rel => exact ⟨j + 1, by go_num, by omega, HRt.out, HR0t.out, HSt.out, HOt.out⟩
            · have Hbr3 := Lib.hid (show bracketP r = .ok (S, r2) by rw [Hbr2.out]; rfl)
              obtain ⟨f0, f1, f2, f3⟩ := HSt.out.at4
              obtain ⟨g0, g1, g2, g3⟩ := HR0t.out.at4
              have y0 := HR0t.out.froz 0; have y1 := HR0t.out.froz 1; have y2 := HR0t.out.froz 2; have y3 := HR0t.out.froz 3
              simp only [Nat.zero_add] at f1 f2 f3 g1 g2 g3
              go_wp2_with fail
              change bodyPost _ _ _ _ _ (setV _ w.heap.size S)
              obtain ⟨q0, q1, q2, q3⟩ := (HR0t.out.setV S).at4
              simp only [Nat.zero_add] at q1 q2 q3
              have hRS : RS (setV _ w.heap.size S) p op _ := (((HRt.out.put hp 0 (.int .u64 S.a)).put hp 1 (.int .u64 S.b)).put hp 2 (.int .u64 S.c)).put hp 3 (.int .u64 S.d)
              have hOff := Off.setV HOt.out (b := w.heap.size) (Nat.le_refl _) S
              clear f0 f1 f2 f3 g0 g1 g2 g3 y0 y1 y2 y3
              generalize setV _ w.heap.size S = W at *
              exact bodyPost_ret (v := S.V) (by simp [results, Tryz.results69, go_sem, q0, q1, q2, q3]) rfl ⟨S, _, rfl, hRS, hOff, Out.good Hbr3.out rfl⟩
        | true =>
          go_loopg [23] 4 (fun k i wr => ∃ j : Nat, i = .int .i64 j ∧ j + k = 4 ∧ RS wr p op (.ok r2) ∧ SetAt wr w.heap.size w40 ∧ SetAt wr b1 (S.notTo j) ∧ Off p w wr)
          case atStart => exact ⟨0, rfl, rfl, HRs.out, HR0s.out, by rw [notTo_0]; exact HSs.out, HOs.out⟩
          case round =>
            obtain ⟨j, rfl, hj, h4, h5, h6, h7⟩ := hrel
            have HRt := Lib.hid h4; have HR0t := Lib.hid h5; have HSt := Lib.hid h6; have HOt := Lib.hid h7
            have z0 := h6.froz 0; have z1 := h6.froz 1; have z2 := h6.froz 2; have z3 := h6.froz 3
            obtain ⟨f0, f1, f2, f3⟩ := h6.at4
            simp only [Nat.zero_add] at f1 f2 f3
            clear h4 h5 h6 h7 HRs HR0s HSs HOs
            rcases (show j = 0 ∨ j = 1 ∨ j = 2 ∨ j = 3 ∨ j = 4 by omega) with rfl | rfl | rfl | rfl | rfl
            · simp [W4.notTo] at f0
              go_wp2_with fail
              go_roundg (gk - 1)
              case measure => omega
              case rel => exact ⟨1, by go_num, by omega, HRt.out.put (by omega) 0 _, HR0t.out.keep (Below.heap_setCell _ _ _ _ (by show w.heap.size ≠ b1; omega)), (by have h1 := HSt.out.put 0 (by omega) (bits .xor .u64 IntKind.u64.max S.a); rw [notTo_put S 0 (by omega) (bits .xor .u64 IntKind.u64.max S.a) (xor_not hwok.a)] at h1; exact h1), HOt.out.far (b := b1) (by omega) rfl rfl rfl (by simp) (fun k hk => Below.heap_setCell _ _ _ _ hk)⟩
            · simp [W4.notTo] at f1
              go_wp2_with fail
              go_roundg (gk - 1)
              case measure => omega
              case rel => exact ⟨2, by go_num, by omega, HRt.out.put (by omega) 1 _, HR0t.out.keep (Below.heap_setCell _ _ _ _ (by show w.heap.size ≠ b1; omega)), (by have h1 := HSt.out.put 1 (by omega) (bits .xor .u64 IntKind.u64.max S.b); rw [notTo_put S 1 (by omega) (bits .xor .u64 IntKind.u64.max S.b) (xor_not hwok.b)] at h1; exact h1), HOt.out.far (b := b1) (by omega) rfl rfl rfl (by simp) (fun k hk => Below.heap_setCell _ _ _ _ hk)⟩
            · simp [W4.notTo] at f2
              go_wp2_with fail
              go_roundg (gk - 1)
              case measure => omega
              case rel => exact ⟨3, by go_num, by omega, HRt.out.put (by omega) 2 _, HR0t.out.keep (Below.heap_setCell _ _ _ _ (by show w.heap.size ≠ b1; omega)), (by have h1 := HSt.out.put 2 (by omega) (bits .xor .u64 IntKind.u64.max S.c); rw [notTo_put S 2 (by omega) (bits .xor .u64 IntKind.u64.max S.c) (xor_not hwok.c)] at h1; exact h1), HOt.out.far (b := b1) (by omega) rfl rfl rfl (by simp) (fun k hk => Below.heap_setCell _ _ _ _ hk)⟩
            · simp [W4.notTo] at f3
              go_wp2_with fail
              go_roundg (gk - 1)
              case measure => omega
              case rel => exact ⟨4, by go_num, by omega, HRt.out.put (by omega) 3 _, HR0t.out.keep (Below.heap_setCell _ _ _ _ (by show w.heap.size ≠ b1; omega)), (by have h1 := HSt.out.put 3 (by omega) (bits .xor .u64 IntKind.u64.max S.d); rw [notTo_put S 3 (by omega) (bits .xor .u64 IntKind.u64.max S.d) (xor_not hwok.d)] at h1; exact h1), HOt.out.far (b := b1) (by omega) rfl rfl rfl (by simp) (fun k hk => Below.heap_setCell _ _ _ _ hk)⟩
            · obtain ⟨SX, hSX⟩ : ∃ SX, SX = S.notTo 4 := ⟨_, rfl⟩
              have Hbr3 := Lib.hid (show bracketP r = .ok (SX, r2) by rw [Hbr2.out, hSX, notTo_all]; rfl)
              have HSt := Lib.hid (show SetAt wr b1 SX by rw [hSX]; exact HSt.out)
              clear hSX Hbr2 hwok
              clear f0 f1 f2 f3 z0 z1 z2 z3
              obtain ⟨f0, f1, f2, f3⟩ := HSt.out.at4
              obtain ⟨g0, g1, g2, g3⟩ := HR0t.out.at4
              have y0 := HR0t.out.froz 0; have y1 := HR0t.out.froz 1; have y2 := HR0t.out.froz 2; have y3 := HR0t.out.froz 3
              simp only [Nat.zero_add] at f1 f2 f3 g1 g2 g3
              go_wp2_with fail
              change bodyPost _ _ _ _ _ (setV _ w.heap.size SX)
              obtain ⟨q0, q1, q2, q3⟩ := (HR0t.out.setV SX).at4
              simp only [Nat.zero_add] at q1 q2 q3
              have hRS : RS (setV _ w.heap.size SX) p op _ := (((HRt.out.put hp 0 (.int .u64 SX.a)).put hp 1 (.int .u64 SX.b)).put hp 2 (.int .u64 SX.c)).put hp 3 (.int .u64 SX.d)
              have hOff := Off.setV HOt.out (b := w.heap.size) (Nat.le_refl _) SX
              clear f0 f1 f2 f3 g0 g1 g2 g3 y0 y1 y2 y3
              generalize setV _ w.heap.size SX = W at *
              exact bodyPost_ret (v := SX.V) (by simp [results, Tryz.results69, go_sem, q0, q1, q2, q3]) rfl ⟨SX, _, rfl, hRS, hOff, Out.good Hbr3.out rfl⟩
end Go.Proofs.YteekafkpeimhoaaGreat

/- vouchref10: in, span, all: walked. -/
set_option linter.unusedVariables false
set_option linter.unusedSimpArgs false
namespace Go.Proofs.YteekafkpeimhoaaGreat
open Go.RowKit

theorem SetAt.box (w : World) (S : W4) : SetAt (w.alloc (.cells #[.int .u64 S.a, .int .u64 S.b, .int .u64 S.c, .int .u64 S.d] 36)) w.heap.size S := heap_alloc_new w _
theorem SetAt.later {w w' : World} {b : Nat} {s : W4} (h : SetAt w b s) (k : Below w.heap.size w w') : SetAt w' b s := h.keep (k.block b h.lt)
theorem SetAt.other {w : World} {b b' : Nat} {s : W4} (h : SetAt w b s) (hn : b ≠ b') (o : Nat) (v : Value) : SetAt (w.setCell ⟨b', o, none⟩ v) b s := h.keep (Below.heap_setCell _ _ _ _ hn)
set_option maxRecDepth 100000 in
set_option maxHeartbeats 2000000 in
theorem qin_any (w : World) (S : W4) (c : Nat) (hc : c < 256) :
    Calls Tryz.prog 85 #[S.V, .int .u8 (c : Int)] w fun en w' => en = .returned (S.add c).V ∧ Below w.heap.size w w' := by
  have hq : (c : Int).tdiv 64 = ((c / 64 : Nat) : Int) := by rw [Int.tdiv_eq_ediv_of_nonneg (by omega)]; omega
  have hr : (c : Int).tmod 64 = ((c % 64 : Nat) : Int) := by rw [Int.tmod_eq_emod_of_nonneg (by omega)]; omega
  have hw := wrap_pow (c % 64) (by omega)
  have hk4 : c % 64 < 64 := by omega
  have hadd : ∀ (W : World) (b : Nat), SetAt W b S → SetAt (W.setCell ⟨b, c / 64, none⟩ (.int .u64 (orI (S.word (c / 64)) (2 ^ (c % 64))))) b (S.add c) := fun W b h => by
    have := h.addW c hc
    unfold addW at this
    rwa [Nat.zero_add] at this
  rcases (show c / 64 = 0 ∨ c / 64 = 1 ∨ c / 64 = 2 ∨ c / 64 = 3 by omega) with e | e | e | e
  all_goals
    rw [e] at hq hadd
    have Hadd := Lib.hid hadd
    clear hadd e
    generalize S.add c = T at *
    generalize hk : c % 64 = k at *
    clear hk
    go_enter Tryz.func85, Tryz.ntmps85
    go_upto_region 1 with fail
    generalize hW : (w.alloc _).alloc _ = W0
    have hs0 : SetAt W0 w.heap.size S := by subst hW; exact (SetAt.box w S).later ((Below.refl _ _).alloc (Nat.le_refl _) _)
    have hr0 : SetAt W0 (w.heap.size + 1) w40 := by
      subst hW
      have := SetAt.new (w.alloc (.cells #[.int .u64 S.a, .int .u64 S.b, .int .u64 S.c, .int .u64 S.d] 36))
      simpa using this
    have hb0 : Below w.heap.size w W0 := by subst hW; exact ((Below.refl _ _).alloc (Nat.le_refl _) _).alloc (by simp) _
    clear hW
    obtain ⟨f0, f1, f2, f3⟩ := hs0.at4
    simp only [Nat.zero_add] at f1 f2 f3
    have z0 := hs0.froz 0; have z1 := hs0.froz 1; have z2 := hs0.froz 2; have z3 := hs0.froz 3
    have hz : w.heap.size < W0.heap.size := hs0.lt
    go_upto_region 2 with fail
    generalize hW1 : W0.setCell _ _ = W1
    have hs1 : SetAt W1 w.heap.size T := by subst hW1; exact Hadd.out W0 _ hs0
    have hr1 : SetAt W1 (w.heap.size + 1) w40 := by subst hW1; exact hr0.other (by omega) _ _
    have hb1 : Below w.heap.size w W1 := by subst hW1; exact hb0.setCell (p := ⟨w.heap.size, _, none⟩) (Nat.le_refl _) _
    clear hW1 hs0 hr0 hb0 f0 f1 f2 f3 z0 z1 z2 z3 hz
    obtain ⟨f0, f1, f2, f3⟩ := hs1.at4
    obtain ⟨g0, g1, g2, g3⟩ := hr1.at4
    simp only [Nat.zero_add] at f1 f2 f3 g1 g2 g3
    have y0 := hr1.froz 0; have y1 := hr1.froz 1; have y2 := hr1.froz 2; have y3 := hr1.froz 3
    have Hr1 := Lib.hid hr1; have Hb1 := Lib.hid hb1
    clear hs1 hr1 hb1
    go_wp2_with fail
    change bodyPost _ _ _ _ _ (setV W1 (w.heap.size + 1) T)
    obtain ⟨q0, q1, q2, q3⟩ := (Hr1.out.setV T).at4
    simp only [Nat.zero_add] at q1 q2 q3
    have hB := Hb1.out.setV (b := w.heap.size + 1) (by omega) T
    clear f0 f1 f2 f3 g0 g1 g2 g3 y0 y1 y2 y3
    generalize setV W1 (w.heap.size + 1) T = W at *
    exact bodyPost_ret (v := T.V) (by simp [results, Tryz.results85, go_sem, q0, q1, q2, q3]) rfl ⟨rfl, hB⟩
theorem SetAt.setOther {w : World} {b b' : Nat} {s : W4} (h : SetAt w b s) (hn : b ≠ b') (T : W4) : SetAt (Go.Proofs.YteekafkpeimhoaaGreat.setV w b' T) b s := h.keep (setV_other _ _ _ _ hn)
set_option maxRecDepth 100000 in
set_option maxHeartbeats 4000000 in
theorem qspan_any (w : World) (S : W4) (f t : Nat) (hf : f ≤ 256) (ht : t ≤ 255) :
    Calls Tryz.prog 83 #[S.V, .int .i64 (f : Int), .int .i64 (t : Int)] w fun en w' => en = .returned (S.span f (t + 1 - f)).V ∧ Below w.heap.size w w' := by
  go_enter Tryz.func83, Tryz.ntmps83
  go_upto_region 1 with fail
  generalize hW : (w.alloc _).alloc _ = W0
  have hs0 : SetAt W0 w.heap.size S := by subst hW; exact (SetAt.box w S).later ((Below.refl _ _).alloc (Nat.le_refl _) _)
  have hr0 : SetAt W0 (w.heap.size + 1) w40 := by
    subst hW
    have := SetAt.new (w.alloc (.cells #[.int .u64 S.a, .int .u64 S.b, .int .u64 S.c, .int .u64 S.d] 36))
    simpa using this
  have hb0 : Below w.heap.size w W0 := by subst hW; exact ((Below.refl _ _).alloc (Nat.le_refl _) _).alloc (by simp) _
  clear hW
  go_wp2_with fail
  go_loopg [7] (t + 1 - f) (fun n i wr => ∃ (j : Nat) (T : W4), i = .int .i64 j ∧ n = t + 1 - j ∧ f ≤ j ∧ (List.range' j (t + 1 - j)).foldl W4.add T = S.span f (t + 1 - f) ∧ SetAt wr w.heap.size T ∧ SetAt wr (w.heap.size + 1) w40 ∧ Below w.heap.size w wr)
  case atStart => exact ⟨f, S, rfl, rfl, Nat.le_refl _, rfl, hs0, hr0, hb0⟩
  case round =>
    obtain ⟨j, T, rfl, hn, hfj, hm, hS, hR, hB⟩ := hrel
    clear hs0 hr0 hb0
    obtain ⟨f0, f1, f2, f3⟩ := hS.at4
    simp only [Nat.zero_add] at f1 f2 f3
    have Hm := Lib.hid hm; have HS := Lib.hid hS; have HR := Lib.hid hR; have HB := Lib.hid hB; have Hn := Lib.hid hn
    clear hm hS hR hB hn
    by_cases hlt : j ≤ t
    · have hmod : IntKind.u8.wrap (j : Int) = (j : Int) := by simp [IntKind.wrap, IntKind.signed, IntKind.bits]; omega
      go_wp2_with fail
      refine (qin_any wr T j (by omega)).mono ?_
      rintro en w1 ⟨rfl, hb1⟩
      have hs1 := HS.out.later hb1
      have hr1 := HR.out.later hb1
      obtain ⟨g0, g1, g2, g3⟩ := hs1.at4
      simp only [Nat.zero_add] at g1 g2 g3
      have y0 := hs1.froz 0; have y1 := hs1.froz 1; have y2 := hs1.froz 2; have y3 := hs1.froz 3
      have Hs1 := Lib.hid hs1; have Hr1 := Lib.hid hr1; have HB1 := Lib.hid (HB.out.step hb1)
      have hstep : (List.range' (j + 1) (t + 1 - (j + 1))).foldl W4.add (T.add j) = S.span f (t + 1 - f) := by
        rw [← Hm.out, show t + 1 - j = (t + 1 - (j + 1)) + 1 by omega, List.range'_succ, List.foldl_cons]
      have Hstep := Lib.hid hstep
      clear hs1 hr1 hb1 hstep f0 f1 f2 f3 HS HR HB Hm
      go_wp2_with fail
      change Handed _ _ _ (setV w1 w.heap.size (T.add j))
      have hA := Hs1.out.setV (T.add j)
      have hR' := Hr1.out.setOther (b' := w.heap.size) (by omega) (T.add j)
      have hB' := HB1.out.setV (b := w.heap.size) (Nat.le_refl _) (T.add j)
      clear g0 g1 g2 g3 y0 y1 y2 y3
      generalize setV w1 w.heap.size (T.add j) = W1 at *
      go_roundg (t + 1 - (j + 1))
      case measure => have := Hn.out; omega
      case rel => exact ⟨j + 1, T.add j, by go_num, rfl, by omega, Hstep.out, hA, hR', hB'⟩
    · have hres : T = S.span f (t + 1 - f) := by rw [← Hm.out, show t + 1 - j = 0 by omega]; rfl
      have Hres := Lib.hid hres
      obtain ⟨g0, g1, g2, g3⟩ := HR.out.at4
      simp only [Nat.zero_add] at g1 g2 g3
      have y0 := HR.out.froz 0; have y1 := HR.out.froz 1; have y2 := HR.out.froz 2; have y3 := HR.out.froz 3
      clear hres Hm
      go_wp2_with fail
      change bodyPost _ _ _ _ _ (setV wr (w.heap.size + 1) T)
      obtain ⟨q0, q1, q2, q3⟩ := (HR.out.setV T).at4
      simp only [Nat.zero_add] at q1 q2 q3
      have hB := HB.out.setV (b := w.heap.size + 1) (by omega) T
      clear f0 f1 f2 f3 g0 g1 g2 g3 y0 y1 y2 y3
      generalize setV wr (w.heap.size + 1) T = W at *
      exact bodyPost_ret (v := T.V) (by simp [results, Tryz.results83, go_sem, q0, q1, q2, q3]) rfl ⟨by rw [Hres.out], hB⟩
set_option maxRecDepth 100000 in
set_option maxHeartbeats 2000000 in
theorem qall_any (w : World) :
    Calls Tryz.prog 78 #[] w fun en w' => en = .returned (w40.span 0 256).V ∧ Below w.heap.size w w' := by
  go_enter Tryz.func78, Tryz.ntmps78
  go_upto_region 1 with fail
  generalize hW : w.alloc _ = W0
  have hr0 : SetAt W0 w.heap.size w40 := by subst hW; exact SetAt.new w
  have hb0 : Below w.heap.size w W0 := by subst hW; exact (Below.refl _ _).alloc (Nat.le_refl _) _
  clear hW
  go_wp2_with fail
  refine (qspan_any W0 w40 0 255 (by omega) (by omega)).mono ?_
  rintro en w1 ⟨rfl, hb1⟩
  rw [show 255 + 1 - 0 = 256 from rfl]
  have hr1 := hr0.later hb1
  have hB1 := hb0.step hb1
  obtain ⟨g0, g1, g2, g3⟩ := hr1.at4
  simp only [Nat.zero_add] at g1 g2 g3
  have y0 := hr1.froz 0; have y1 := hr1.froz 1; have y2 := hr1.froz 2; have y3 := hr1.froz 3
  have Hr1 := Lib.hid hr1; have HB1 := Lib.hid hB1
  clear hr0 hb0 hb1 hr1 hB1
  generalize hT : w40.span 0 256 = T at *
  have HT := Lib.hid hT
  clear hT
  go_wp2_with fail
  change bodyPost _ _ _ _ _ (setV w1 w.heap.size T)
  obtain ⟨q0, q1, q2, q3⟩ := (Hr1.out.setV T).at4
  simp only [Nat.zero_add] at q1 q2 q3
  have hB := HB1.out.setV (b := w.heap.size) (Nat.le_refl _) T
  clear g0 g1 g2 g3 y0 y1 y2 y3
  generalize setV w1 w.heap.size T = W at *
  exact bodyPost_ret (v := T.V) (by simp [results, Tryz.results78, go_sem, q0, q1, q2, q3]) rfl ⟨by rw [HT.out], hB⟩
end Go.Proofs.YteekafkpeimhoaaGreat

