/- MatchJoins holds: whatever comes in, the call of the law returns true, and what came in reads as it read. -/
import Derived.Test.YtdpmbanfaigmcaaUJoinsA
import Derived.Test.YtdpmbanfaigmcaaUJoinsB
import Derived.Test.YtdpmbanfaigmcaaUJoinsC
import Derived.Test.YtdpmbanfaigmcaaUJoinsD
import Derived.WalkSpells
import Derived.ProofKit
import Derived.OpenShut
import Derived.ChangeOld
import Derived.SizedLaws
import Derived.Deep.Slices
import Derived.Deep.Fields
import Derived.HandedShaped
import Derived.ShutString
import Derived.Below
import Derived.Carry
/- What is printed is read as the same tree. Plain. -/
set_option linter.unusedVariables false
set_option linter.unusedSimpArgs false
namespace Go.Proofs.Ytdpmbanfaigmcaa
open Go.RowKit

/-! Enough rounds are as good as more. -/
theorem sufP_fuel : ∀ (k k' : Nat) (n : T) (r : Bs), r.length < k → r.length < k' → sufP k n r = sufP k' n r
  | 0, _, _, _, h, _ => by omega
  | _, 0, _, _, _, h => by omega
  | k + 1, k' + 1, n, r, h, h' => by
    rw [sufP, sufP]
    split
    · rename_i r1 ht; have := takeP_len ht; simp at this; exact sufP_fuel k k' _ _ (by omega) (by omega)
    split
    · rename_i r1 ht; have := takeP_len ht; simp at this; exact sufP_fuel k k' _ _ (by omega) (by omega)
    split
    · rename_i r1 ht; have := takeP_len ht; simp at this; exact sufP_fuel k k' _ _ (by omega) (by omega)
    split
    · rename_i r1 ht
      have := takeP_len ht; simp at this
      split
      · rfl
      · rename_i m x r2 hi
        have := interval_len hi
        exact sufP_fuel k k' _ _ (by omega) (by omega)
    · rfl
theorem piecesP_fuel {grp : Bs → PT} (hg : GrpLen grp) : ∀ (k k' : Nat) (l : List T) (r : Bs), r.length < k → r.length < k' → piecesP grp k l r = piecesP grp k' l r
  | 0, _, _, _, h, _ => by omega
  | _, 0, _, _, _, h => by omega
  | k + 1, k' + 1, l, r, h, h' => by
    rw [piecesP, piecesP]
    split
    · rfl
    split
    · rfl
    · rename_i n r1 hp
      have := piece_len hg hp
      exact piecesP_fuel hg k k' _ _ (by omega) (by omega)
theorem altsP_fuel {grp : Bs → PT} (hg : GrpLen grp) : ∀ (k k' : Nat) (l : List T) (r : Bs), r.length < k → r.length < k' → altsP grp k l r = altsP grp k' l r
  | 0, _, _, _, h, _ => by omega
  | _, 0, _, _, _, h => by omega
  | k + 1, k' + 1, l, r, h, h' => by
    rw [altsP, altsP]
    split
    · rfl
    · rename_i r1 ht
      have := takeP_len ht; simp at this
      split
      · rfl
      · rename_i n r2 hp
        have := row_len hg hp
        exact altsP_fuel hg k k' _ _ (by omega) (by omega)

/-! How often. -/
def noDig (r : Bs) : Prop := ∀ c t, r = c :: t → isDigit c = false
theorem dig_byte {n : Nat} (h : n < 10) : isDigit (UInt8.ofNat (48 + n)) = true ∧ ((UInt8.ofNat (48 + n)).toNat : Int) - 48 = n := by
  have e : (UInt8.ofNat (48 + n)).toNat = 48 + n := b8 (by omega)
  unfold isDigit
  rw [e]
  simp; omega
theorem digits_stop (k : Nat) (n : Int) (w : Nat) {r : Bs} (h : noDig r) : digitsP k n w r = (n, w, r) := by
  cases k with
  | zero => rfl
  | succ k =>
    cases r with
    | nil => rfl
    | cons c t => rw [digitsP, h c t rfl]; simp
theorem dec_digits {n : Nat} (hn : n < 256) {r : Bs} (hr : noDig r) : ∃ w, 1 ≤ w ∧ w ≤ 3 ∧ digitsP 4 0 0 (decT n ++ r) = ((n : Int), w, r) := by
  unfold decT
  split
  · rename_i h
    obtain ⟨h1, h2⟩ := dig_byte h
    refine ⟨1, by omega, by omega, ?_⟩
    simp only [List.cons_append, List.nil_append]
    rw [digitsP, if_pos h1, h2, digits_stop _ _ _ hr]
    simp
  split
  · rename_i h0 h
    obtain ⟨h1, h2⟩ := dig_byte (n := n / 10) (by omega)
    obtain ⟨h3, h4⟩ := dig_byte (n := n % 10) (by omega)
    refine ⟨2, by omega, by omega, ?_⟩
    simp only [List.cons_append, List.nil_append]
    rw [digitsP, if_pos h1, h2, digitsP, if_pos h3, h4, digits_stop _ _ _ hr]
    simp only [Prod.mk.injEq, and_true]
    omega
  · rename_i h0 h
    obtain ⟨h1, h2⟩ := dig_byte (n := n / 100) (by omega)
    obtain ⟨h3, h4⟩ := dig_byte (n := n / 10 % 10) (by omega)
    obtain ⟨h5, h6⟩ := dig_byte (n := n % 10) (by omega)
    refine ⟨3, by omega, by omega, ?_⟩
    simp only [List.cons_append, List.nil_append]
    rw [digitsP, if_pos h1, h2, digitsP, if_pos h3, h4, digitsP, if_pos h5, h6, digits_stop _ _ _ hr]
    simp only [Prod.mk.injEq, and_true]
    omega
theorem dec_number {n : Nat} (hn : n < 256) {r : Bs} (hr : noDig r) : numberP (decT n ++ r) = .ok ((n : Int), r) := by
  obtain ⟨w, h1, h2, e⟩ := dec_digits hn hr
  unfold numberP
  rw [e, if_neg (by simp only; omega)]
theorem noDig_cons {c : UInt8} (h : isDigit c = false) (t : Bs) : noDig (c :: t) := fun _ _ e => by cases e; exact h
theorem decT_len (n : Nat) : 1 ≤ (decT n).length := by unfold decT; split <;> (try simp); split <;> simp
/-- A number's text begins with none of these. -/
theorem decT_head {n : Nat} (hn : n < 256) : ∃ c t, decT n = c :: t ∧ c ≠ 125 ∧ c ≠ 44 := by
  have hd : ∀ k, k < 10 → UInt8.ofNat (48 + k) ≠ 125 ∧ UInt8.ofNat (48 + k) ≠ 44 := fun k hk => ⟨fun e => by
    have := (b8_eq (c := 48 + k) (k := 125) (by omega) (by omega)).1 e; omega, fun e => by
    have := (b8_eq (c := 48 + k) (k := 44) (by omega) (by omega)).1 e; omega⟩
  unfold decT
  split
  · exact ⟨_, _, rfl, hd _ (by omega)⟩
  split
  · exact ⟨_, _, rfl, hd _ (by omega)⟩
  · exact ⟨_, _, rfl, hd _ (by omega)⟩
structure Tim (m n : Int) : Prop where
  m0 : 0 ≤ m
  m1 : m ≤ 255
  n1 : n ≤ 255
  n0 : n = -1 ∨ m ≤ n
theorem timesT_suf {m n : Int} (h : Tim m n) (k : Nat) (t : T) (r : Bs) : sufP (k + 1) t (timesT m n ++ r) = sufP k (repT m n t) r := by
  have h0 := h.m0; have h1 := h.m1; have h2 := h.n1; have h3 := h.n0
  unfold timesT
  split
  · rename_i e
    obtain ⟨rfl, rfl⟩ := e
    simp only [List.cons_append, List.nil_append]
    rw [sufP, takeP_one, if_pos rfl]
  split
  · rename_i e
    obtain ⟨rfl, rfl⟩ := e
    simp only [List.cons_append, List.nil_append]
    rw [sufP, takeP_one, if_neg (by decide)]
    simp only [takeP_one, if_true]
  split
  · rename_i e
    obtain ⟨rfl, rfl⟩ := e
    simp only [List.cons_append, List.nil_append]
    rw [sufP, takeP_one, if_neg (by decide)]
    simp only [takeP_one, show ¬ ((43 : UInt8) = 63) by decide, if_true, if_false]
  obtain ⟨a, rfl⟩ : ∃ a : Nat, m = a := ⟨m.toNat, by omega⟩
  rw [Int.toNat_natCast]
  split
  · rename_i e
    subst e
    simp only [List.cons_append, List.nil_append, List.append_assoc]
    have hi : intervalP (decT a ++ 125 :: r) = .ok ((a : Int), (a : Int), r) := by
      rw [intervalP, dec_number (by omega) (noDig_cons (by decide) _)]
      simp only [takeP_one, if_true]
    rw [sufP, takeP_one, if_neg (by decide)]
    simp only [takeP_one, show ¬ ((43 : UInt8) = 123) by decide, show ¬ ((63 : UInt8) = 123) by decide, if_true, if_false, hi]
  split
  · rename_i e
    subst e
    simp only [List.cons_append, List.nil_append, List.append_assoc]
    have hi : intervalP (decT a ++ 44 :: 125 :: r) = .ok ((a : Int), -1, r) := by
      rw [intervalP, dec_number (by omega) (noDig_cons (by decide) _)]
      simp only [takeP_cons, takeP_done, show ¬ ((125 : UInt8) = 44) by decide, if_true, if_false]
    rw [sufP, takeP_one, if_neg (by decide)]
    simp only [takeP_one, show ¬ ((43 : UInt8) = 123) by decide, show ¬ ((63 : UInt8) = 123) by decide, if_true, if_false, hi]
  · obtain ⟨b, rfl⟩ : ∃ b : Nat, n = b := ⟨n.toNat, by omega⟩
    rw [Int.toNat_natCast]
    simp only [List.cons_append, List.nil_append, List.append_assoc]
    obtain ⟨c, t', hc, h5, h6⟩ := decT_head (n := b) (by omega)
    have hi : intervalP (decT a ++ 44 :: (decT b ++ 125 :: r)) = .ok ((a : Int), (b : Int), r) := by
      rw [intervalP, dec_number (by omega) (noDig_cons (by decide) _)]
      have e1 : takeP [44, 125] (44 :: (decT b ++ 125 :: r)) = none := by rw [takeP_cons, if_pos rfl, hc, List.cons_append, takeP_one, if_neg (fun e => h5 e.symm)]
      simp only [takeP_one, show ¬ ((125 : UInt8) = 44) by decide, if_true, if_false, e1]
      rw [dec_number (by omega) (noDig_cons (by decide) _)]
      simp only [takeP_one, if_true]
      rw [if_neg (by omega)]
    rw [sufP, takeP_one, if_neg (by decide)]
    simp only [takeP_one, show ¬ ((43 : UInt8) = 123) by decide, show ¬ ((63 : UInt8) = 123) by decide, if_true, if_false, hi]
theorem timesT_len (m n : Int) : 1 ≤ (timesT m n).length := by
  unfold timesT
  repeat' split
  all_goals simp
/-- Nothing stands here that says how often. -/
def noSuf (r : Bs) : Prop := ∀ c t, r = c :: t → c ≠ 42 ∧ c ≠ 43 ∧ c ≠ 63 ∧ c ≠ 123
theorem suf_stop (k : Nat) (t : T) {r : Bs} (h : noSuf r) : sufP k t r = .ok (t, r) := by
  cases k with
  | zero => rfl
  | succ k =>
    cases r with
    | nil => rfl
    | cons c q =>
      obtain ⟨h1, h2, h3, h4⟩ := h c q rfl
      rw [sufP, takeP_one, if_neg (fun e => h1 e.symm)]
      simp only [takeP_one]
      rw [if_neg (fun e => h2 e.symm)]
      simp only
      rw [if_neg (fun e => h3 e.symm)]
      simp only
      rw [if_neg (fun e => h4 e.symm)]
theorem ends_suf {r : Bs} (h : endsRow r = true) : noSuf r := fun c t e => by
  subst e
  simp only [endsRow, Bool.or_eq_true, beq_iff_eq] at h
  rcases h with rfl | rfl <;> decide
/-- A piece's first byte. -/
def Begins (x : Bs) : Prop := ∃ c t, x = c :: t ∧ c ≠ 124 ∧ c ≠ 41 ∧ c ≠ 42 ∧ c ≠ 43 ∧ c ≠ 63 ∧ c ≠ 123
theorem Begins.row {x : Bs} (h : Begins x) (r : Bs) : endsRow (x ++ r) = false := by
  obtain ⟨c, t, rfl, h1, h2, _⟩ := h
  simp [endsRow, h1, h2]
theorem Begins.suf {x : Bs} (h : Begins x) (r : Bs) : noSuf (x ++ r) := by
  obtain ⟨c, t, rfl, h1, h2, h3, h4, h5, h6⟩ := h
  intro a b e
  cases e
  exact ⟨h3, h4, h5, h6⟩
theorem Begins.app {x : Bs} (h : Begins x) (r : Bs) : Begins (x ++ r) := by
  obtain ⟨c, t, rfl, h⟩ := h
  exact ⟨c, t ++ r, rfl, h⟩
theorem set_begins (s : W4) : Begins (setT s) := by
  unfold setT
  split
  · exact ⟨46, _, rfl, by decide⟩
  split
  · exact ⟨91, _, rfl, by decide⟩
  split
  · rename_i h1
    obtain ⟨c, hc⟩ := List.length_eq_one_iff.1 h1
    have hcl : c < 256 := bytesW_lt s c (by rw [hc]; simp)
    have hh : (bytesW s).headD 0 = c := by rw [hc]; rfl
    rw [hh]
    by_cases hs : specB c = true
    · rw [if_pos hs]; exact ⟨92, _, rfl, by decide⟩
    · rw [if_neg hs]
      have hs : ¬ c ∈ [92, 94, 46, 91, 36, 40, 41, 124, 42, 43, 63, 123] := by simpa [specB] using hs
      simp only [List.mem_cons, List.not_mem_nil, or_false, not_or] at hs
      have ne : ∀ k, k < 256 → c ≠ k → UInt8.ofNat c ≠ UInt8.ofNat k := fun k hk hn e => hn ((b8_eq hcl hk).1 e)
      exact ⟨_, _, rfl, ne 124 (by omega) (by omega), ne 41 (by omega) (by omega), ne 42 (by omega) (by omega), ne 43 (by omega) (by omega), ne 63 (by omega) (by omega), ne 123 (by omega) (by omega)⟩
  · exact ⟨91, _, rfl, by decide⟩

/-- What right trees are, all told. -/
theorem right_set {t : T} (h : rightF t = true) (hk : t.k ≠ 1) : t.s0 = 0 ∧ t.s1 = 0 ∧ t.s2 = 0 ∧ t.s3 = 0 := by
  rw [rightF_eq] at h
  split at h
  · cases h
  · rename_i hn
    false_or_by_contra
    rename_i h2
    exact hn (.inl ⟨hk, h2⟩)
theorem T.eq_mk {t : T} {k s0 s1 s2 s3 mn mx : Int} {ps : List T} (h1 : t.k = k) (h2 : t.s0 = s0) (h3 : t.s1 = s1) (h4 : t.s2 = s2) (h5 : t.s3 = s3) (h6 : t.mn = mn) (h7 : t.mx = mx) (h8 : t.ps = ps) : t = .mk k s0 s1 s2 s3 mn mx ps := by
  subst h1; subst h2; subst h3; subst h4; subst h5; subst h6; subst h7; subst h8; exact t.eta

/-- A row's end: nothing, a stroke, a bracket. -/
structure Rnd (t : T) : Prop where
  piece : looseT t = false → (∀ d r, deepT t ≤ d → pieceP (groupP d) (prT t ++ r) = sufP (r.length + 1) t r) ∧ Begins (prT t)
  choice : ∀ d r, deepT t ≤ d → (r = [] ∨ ∃ q, r = 41 :: q) → choiceP (groupP d) (prT t ++ r) = .ok (t, r)
theorem atom40 (grp : Bs → PT) (t : Bs) : atomP grp (40 :: t) = grp t := by simp [atomP]
theorem atom94 (grp : Bs → PT) (t : Bs) : atomP grp (94 :: t) = .ok (.mk 2 0 0 0 0 0 0 [], t) := by simp [atomP]
theorem atom36 (grp : Bs → PT) (t : Bs) : atomP grp (36 :: t) = .ok (.mk 3 0 0 0 0 0 0 [], t) := by simp [atomP]
/-- A part, in brackets if it is loose. -/
theorem part_piece {p : T} (h : Rnd p) (so : Bool) (hso : looseT p = true → so = true) (d : Nat) (hd : deepT p + (if so then 1 else 0) ≤ d) (r : Bs) :
    pieceP (groupP d) (parT so (prT p) ++ r) = sufP (r.length + 1) p r ∧ Begins (parT so (prT p)) := by
  cases hs : so with
  | false =>
    have hl : looseT p = false := by
      cases hl : looseT p with
      | false => rfl
      | true => rw [hso hl] at hs; cases hs
    rw [hs] at hd
    obtain ⟨h1, h2⟩ := h.piece hl
    exact ⟨h1 d r (by simpa using hd), h2⟩
  | true =>
    rw [hs] at hd
    obtain ⟨d, rfl⟩ : ∃ d', d = d' + 1 := ⟨d - 1, by simp at hd; omega⟩
    refine ⟨?_, 40, _, rfl, by decide⟩
    simp only [parT, if_true, List.cons_append, List.nil_append, List.append_assoc]
    have hg : groupP (d + 1) (prT p ++ 41 :: r) = .ok (p, r) := by
      rw [groupP, h.choice d (41 :: r) (by simp at hd; omega) (.inr ⟨r, rfl⟩)]
      simp only [takeP_one, if_true]
    rw [pieceP, atom40, hg]
theorem row_read {d : Nat} : ∀ (ps : List T) (l : List T) (r : Bs) (k : Nat), (∀ p ∈ ps, Rnd p) → deepRow ps ≤ d → endsRow r = true → (prRow ps ++ r).length < k → piecesP (groupP d) k l (prRow ps ++ r) = .ok (l ++ ps, r) ∧ noSuf (prRow ps ++ r)
  | [], l, r, k, _, _, hr, hk => by
    rw [prRow]
    simp only [List.nil_append, List.append_nil] at hk ⊢
    refine ⟨?_, ends_suf hr⟩
    cases k with
    | zero => omega
    | succ k => rw [piecesP, if_pos hr]
  | p :: ps, l, r, k, h, hd, hr, hk => by
    rw [prRow] at hk ⊢
    rw [deepRow] at hd
    rw [List.append_assoc] at hk ⊢
    obtain ⟨h1, h2⟩ := part_piece (h p (List.mem_cons_self ..)) (looseT p) id d (by omega) (prRow ps ++ r)
    obtain ⟨c, t, e, _⟩ := id h2
    have hlen : 1 ≤ (parT (looseT p) (prT p)).length := by rw [e]; simp
    obtain ⟨k, rfl⟩ : ∃ k', k = k' + 1 := ⟨k - 1, by omega⟩
    simp only [List.length_append] at hk
    obtain ⟨h3, h4⟩ := row_read (d := d) ps (l ++ [p]) r k (fun q hq => h q (List.mem_cons_of_mem _ hq)) (by omega) hr (by simp only [List.length_append]; omega)
    refine ⟨?_, h2.suf _⟩
    rw [piecesP, h2.row, h1, suf_stop _ _ h4]
    simp only [Bool.false_eq_true, if_false]
    rw [h3]
    simp
theorem joinT_many (k : Int) : ∀ (l : List T), 2 ≤ l.length → joinT k l = .mk k 0 0 0 0 0 0 l
  | [], h => by simp at h
  | [_], h => by simp at h
  | _ :: _ :: _, _ => rfl
/-- A row: what is no choice. -/
theorem rowP_read {t : T} (hr : rightF t = true) (h : ∀ p ∈ t.ps, Rnd p) (hp : looseT t = false → (∀ d r, deepT t ≤ d → pieceP (groupP d) (prT t ++ r) = sufP (r.length + 1) t r) ∧ Begins (prT t)) (hk : t.k ≠ 5) (d : Nat) (hd : deepT t ≤ d) (r : Bs) (he : endsRow r = true) : rowP (groupP d) (prT t ++ r) = .ok (t, r) := by
  unfold rowP
  cases hl : looseT t with
  | false =>
    obtain ⟨h1, h2⟩ := hp hl
    rw [piecesP, h2.row, h1 d r hd, suf_stop _ _ (ends_suf he)]
    simp only [Bool.false_eq_true, if_false]
    obtain ⟨c, q, e, _⟩ := id h2
    rw [e, List.cons_append, List.length_cons, piecesP, if_pos he]
    rfl
  | true =>
    have hset := right_set hr
    rcases right_cases hr with ⟨hk', hh⟩ | ⟨hk', hh⟩ | ⟨hk', hh⟩ | ⟨hk', hh⟩ | ⟨hk', hh⟩ | ⟨hk', hh⟩ | ⟨hk', hh⟩
    · have hpr : prT t = [] := by rw [prT_eq]; simp [hk']
      rw [hpr, List.nil_append, piecesP, if_pos he]
      simp only
      obtain ⟨e1, e2, e3, e4⟩ := hset (by omega)
      rw [T.eq_mk hk' e1 e2 e3 e4 hh.2.1 hh.2.2 (List.eq_nil_of_length_eq_zero hh.1)]
      rfl
    · simp [looseT, hk'] at hl
    · simp [looseT, hk'] at hl
    · simp [looseT, hk'] at hl
    · have hpr : prT t = prRow t.ps := by rw [prT_eq]; simp [hk']
      have hdp : deepT t = deepRow t.ps := by rw [deepT_eq]; simp [hk']
      obtain ⟨h1, _⟩ := row_read (d := d) t.ps [] r ((prT t ++ r).length + 1) h (by omega) he (by rw [hpr]; omega)
      rw [hpr] at h1 ⊢
      rw [h1]
      simp only [List.nil_append]
      obtain ⟨e1, e2, e3, e4⟩ := hset (by omega)
      rw [joinT_many _ _ hh.1, ← T.eq_mk hk' e1 e2 e3 e4 hh.2.1 hh.2.2 rfl]
    · exact absurd hk' hk
    · simp [looseT, hk'] at hl
theorem part_row {p : T} (hrt : rightF p = true) (h : Rnd p) (hps : ∀ q ∈ p.ps, Rnd q) (d : Nat) (hd : deepT p + (if p.k == 5 then 1 else 0) ≤ d) (r : Bs) (he : endsRow r = true) : rowP (groupP d) (parT (p.k == 5) (prT p) ++ r) = .ok (p, r) := by
  by_cases hk : p.k = 5
  · have hb : (p.k == 5) = true := by simpa using hk
    rw [hb] at hd ⊢
    obtain ⟨h1, h2⟩ := part_piece h true (fun _ => rfl) d hd r
    unfold rowP
    rw [piecesP, h2.row, h1, suf_stop _ _ (ends_suf he)]
    simp only [Bool.false_eq_true, if_false]
    obtain ⟨c, q, e, _⟩ := id h2
    rw [e, List.cons_append, List.length_cons, piecesP, if_pos he]
    rfl
  · have hb : (p.k == 5) = false := by simpa using hk
    rw [hb] at hd ⊢
    exact rowP_read hrt hps h.piece hk d (by simpa using hd) r he
theorem ends_closes {r : Bs} (hr : r = [] ∨ ∃ q, r = 41 :: q) : endsRow r = true ∧ takeP [124] r = none := by
  rcases hr with rfl | ⟨q, rfl⟩
  · exact ⟨rfl, rfl⟩
  · exact ⟨rfl, by rw [takeP_one, if_neg (by decide)]⟩
theorem bar_read {d : Nat} : ∀ (ps : List T) (l : List T) (r : Bs) (k : Nat), (∀ p ∈ ps, rightF p = true ∧ Rnd p ∧ ∀ q ∈ p.ps, Rnd q) → deepAlt ps ≤ d → (r = [] ∨ ∃ q, r = 41 :: q) → (prBar ps ++ r).length < k → altsP (groupP d) k l (prBar ps ++ r) = .ok (l ++ ps, r) ∧ endsRow (prBar ps ++ r) = true
  | [], l, r, k, _, _, hr, hk => by
    rw [prBar]
    simp only [List.nil_append, List.append_nil] at hk ⊢
    obtain ⟨h1, h2⟩ := ends_closes hr
    refine ⟨?_, h1⟩
    cases k with
    | zero => omega
    | succ k => rw [altsP, h2]
  | p :: ps, l, r, k, h, hd, hr, hk => by
    rw [prBar] at hk ⊢
    rw [deepAlt] at hd
    simp only [List.cons_append, List.nil_append, List.append_assoc, List.length_cons] at hk ⊢
    obtain ⟨k, rfl⟩ : ∃ k', k = k' + 1 := ⟨k - 1, by omega⟩
    simp only [List.length_append] at hk
    obtain ⟨h3, h4⟩ := bar_read (d := d) ps (l ++ [p]) r k (fun q hq => h q (List.mem_cons_of_mem _ hq)) (by omega) hr (by simp only [List.length_append]; omega)
    obtain ⟨g1, g2, g3⟩ := h p (List.mem_cons_self ..)
    have := part_row g1 g2 g3 d (by omega) (prBar ps ++ r) h4
    refine ⟨?_, rfl⟩
    rw [altsP, takeP_one, if_pos rfl]
    simp only
    rw [this]
    simp only
    rw [h3]
    simp
theorem rnd_all (t : T) : rightF t = true → Words t → Rnd t ∧ ∀ p ∈ t.ps, Rnd p := by
  induction t using T.ind with
  | h t ih =>
    intro hr hw
    have hps : ∀ p ∈ t.ps, Rnd p := fun p hp => (ih p hp (right_parts hr p hp) (hw.p p hp)).1
    have hps2 : ∀ p ∈ t.ps, ∀ q ∈ p.ps, Rnd q := fun p hp => (ih p hp (right_parts hr p hp) (hw.p p hp)).2
    have hset := right_set hr
    have hpiece : looseT t = false → (∀ d r, deepT t ≤ d → pieceP (groupP d) (prT t ++ r) = sufP (r.length + 1) t r) ∧ Begins (prT t) := by
      intro hl
      rcases right_cases hr with ⟨hk, hh⟩ | ⟨hk, hh⟩ | ⟨hk, hh⟩ | ⟨hk, hh⟩ | ⟨hk, hh⟩ | ⟨hk, hh⟩ | ⟨hk, hh⟩
      · simp [looseT, hk] at hl
      · have hpr : prT t = setT t.w4 := by rw [prT_eq]; simp [hk]
        rw [hpr]
        refine ⟨fun d r _ => ?_, set_begins _⟩
        have e : t.w4.T = t := (T.eq_mk hk rfl rfl rfl rfl hh.2.1 hh.2.2 (List.eq_nil_of_length_eq_zero hh.1)).symm
        rw [pieceP, set_atom hw.w, e]
      · have hpr : prT t = [94] := by rw [prT_eq]; simp [hk]
        rw [hpr]
        refine ⟨fun d r _ => ?_, 94, _, rfl, by decide⟩
        obtain ⟨e1, e2, e3, e4⟩ := hset (by omega)
        rw [List.cons_append, List.nil_append, pieceP, atom94, ← T.eq_mk hk e1 e2 e3 e4 hh.2.1 hh.2.2 (List.eq_nil_of_length_eq_zero hh.1)]
      · have hpr : prT t = [36] := by rw [prT_eq]; simp [hk]
        rw [hpr]
        refine ⟨fun d r _ => ?_, 36, _, rfl, by decide⟩
        obtain ⟨e1, e2, e3, e4⟩ := hset (by omega)
        rw [List.cons_append, List.nil_append, pieceP, atom36, ← T.eq_mk hk e1 e2 e3 e4 hh.2.1 hh.2.2 (List.eq_nil_of_length_eq_zero hh.1)]
      · simp [looseT, hk] at hl
      · simp [looseT, hk] at hl
      · have hpr : prT t = prHead t.ps ++ timesT t.mn t.mx := by rw [prT_eq]; simp [hk]
        have hdp : deepT t = deepHead t.ps := by rw [deepT_eq]; simp [hk]
        obtain ⟨p, hp⟩ := List.length_eq_one_iff.1 hh.1
        have hP := hps p (by rw [hp]; simp)
        obtain ⟨e1, e2, e3, e4⟩ := hset (by omega)
        rw [hp] at hdp
        rw [deepHead] at hdp
        rw [hpr, hp, prHead]
        refine ⟨fun d r hd => ?_, ?_⟩
        · rw [List.append_assoc]
          obtain ⟨h1, _⟩ := part_piece hP (looseT p) id d (by omega) (timesT t.mn t.mx ++ r)
          rw [h1, timesT_suf ⟨hh.2.1, hh.2.2.1, hh.2.2.2.1, hh.2.2.2.2⟩]
          have : repT t.mn t.mx p = t := (T.eq_mk hk e1 e2 e3 e4 rfl rfl hp).symm
          rw [this]
          have := timesT_len t.mn t.mx
          exact sufP_fuel _ _ _ _ (by simp only [List.length_append]; omega) (by omega)
        · exact (part_piece hP (looseT p) id _ (Nat.le_refl _) []).2.app _
    refine ⟨⟨hpiece, fun d r hd hc => ?_⟩, hps⟩
    obtain ⟨c1, c2⟩ := ends_closes hc
    by_cases hk : t.k = 5
    · have hpr : prT t = prAlt t.ps := by rw [prT_eq]; simp [hk]
      have hdp : deepT t = deepAlt t.ps := by rw [deepT_eq]; simp [hk]
      have hh : 2 ≤ t.ps.length ∧ t.mn = 0 ∧ t.mx = 0 := by
        rcases right_cases hr with ⟨hk', hh⟩ | ⟨hk', hh⟩ | ⟨hk', hh⟩ | ⟨hk', hh⟩ | ⟨hk', hh⟩ | ⟨hk', hh⟩ | ⟨hk', hh⟩
        all_goals first | omega | exact hh
      obtain ⟨e1, e2, e3, e4⟩ := hset (by omega)
      have hall : ∀ p ∈ t.ps, rightF p = true ∧ Rnd p ∧ ∀ q ∈ p.ps, Rnd q := fun p hp => ⟨right_parts hr p hp, hps p hp, hps2 p hp⟩
      cases hq : t.ps with
      | nil => rw [hq] at hh; simp at hh
      | cons p ps =>
        rw [hq] at hpr hdp hall hh
        rw [prAlt] at hpr
        rw [deepAlt] at hdp
        obtain ⟨b1, b2⟩ := bar_read (d := d) ps [p] r ((prBar ps ++ r).length + 1) (fun q hq => hall q (List.mem_cons_of_mem _ hq)) (by omega) hc (by omega)
        obtain ⟨g1, g2, g3⟩ := hall p (List.mem_cons_self ..)
        rw [choiceP, hpr, List.append_assoc, part_row g1 g2 g3 d (by omega) (prBar ps ++ r) b2]
        simp only
        rw [b1]
        simp only [List.cons_append, List.nil_append]
        rw [joinT_many _ _ hh.1, ← T.eq_mk hk e1 e2 e3 e4 hh.2.1 hh.2.2 hq]
    · rw [choiceP, rowP_read hr hps hpiece hk d hd r c1]
      simp only
      rw [altsP, c2]
      rfl
theorem rnd {t : T} (hr : rightF t = true) (hw : Words t) : Rnd t := (rnd_all t hr hw).1
/-- What is printed is read as the same tree. -/
theorem parse_print {t : T} (hr : rightF t = true) (hw : Words t) (hl : (prT t).length ≤ 1024) (hd : deepT t ≤ 64) : parseP (prT t) = .ok t := by
  have := (rnd hr hw).choice 64 [] hd (.inl rfl)
  rw [List.append_nil] at this
  rw [parseP, if_neg (by omega), this]
end Go.Proofs.Ytdpmbanfaigmcaa

/- What is read is read alike ahead of a closing bracket, and with fewer brackets left (or there are too many). Plain. -/
set_option linter.unusedVariables false
set_option linter.unusedSimpArgs false
namespace Go.Proofs.Ytdpmbanfaigmcaa
open Go.RowKit

theorem takeP_app : ∀ {q r r' : Bs} (u : Bs), takeP q r = some r' → takeP q (r ++ u) = some (r' ++ u)
  | [], r, r', u, h => by rw [takeP_done] at h ⊢; cases h; rfl
  | a :: q, [], r', u, h => by rw [takeP_nil _ (by simp)] at h; cases h
  | a :: q, c :: r, r', u, h => by
    rw [takeP_cons] at h
    rw [List.cons_append, takeP_cons]
    split at h
    · rw [if_pos (by assumption)]; exact takeP_app u h
    · cases h
theorem takeP_not : ∀ {q r : Bs} (u : Bs), ¬ (41 : UInt8) ∈ q → takeP q r = none → takeP q (r ++ 41 :: u) = none
  | [], r, u, _, h => by rw [takeP_done] at h; cases h
  | a :: q, [], u, hq, h => by
    rw [List.nil_append, takeP_cons, if_neg (fun e => hq (by rw [e]; exact List.mem_cons_self ..))]
  | a :: q, c :: r, u, hq, h => by
    rw [takeP_cons] at h
    rw [List.cons_append, takeP_cons]
    split at h
    · rw [if_pos (by assumption)]; exact takeP_not u (fun e => hq (List.mem_cons_of_mem _ e)) h
    · rw [if_neg (by assumption)]
theorem digits_app (u : Bs) : ∀ (k : Nat) (n : Int) (w : Nat) (r : Bs), digitsP k n w (r ++ 41 :: u) = ((digitsP k n w r).1, (digitsP k n w r).2.1, (digitsP k n w r).2.2 ++ 41 :: u)
  | 0, n, w, r => rfl
  | k + 1, n, w, [] => by
    have : isDigit 41 = false := by decide
    simp only [List.nil_append, digitsP, this, Bool.false_eq_true, if_false]
  | k + 1, n, w, c :: t => by
    rw [List.cons_append, digitsP, digitsP]
    split
    · exact digits_app u k _ _ t
    · rfl
theorem number_app {r r' : Bs} {n : Int} (u : Bs) (h : numberP r = .ok (n, r')) : numberP (r ++ 41 :: u) = .ok (n, r' ++ 41 :: u) := by
  unfold numberP at h ⊢
  rw [digits_app]
  split at h
  · cases h
  · rename_i hn
    rw [if_neg hn]; cases h; rfl
theorem interval_app {r r' : Bs} {m n : Int} (u : Bs) (h : intervalP r = .ok (m, n, r')) : intervalP (r ++ 41 :: u) = .ok (m, n, r' ++ 41 :: u) := by
  unfold intervalP at h ⊢
  split at h
  · cases h
  rename_i m1 r1 hn
  rw [number_app u hn]
  simp only
  split at h
  · rename_i r2 ht; cases h; rw [takeP_app _ ht]
  rename_i ht
  rw [takeP_not u (by decide) ht]
  simp only
  split at h
  · rename_i r2 ht; cases h; rw [takeP_app _ ht]
  rename_i ht
  rw [takeP_not u (by decide) ht]
  simp only
  split at h
  · cases h
  rename_i r2 ht
  rw [takeP_app _ ht]
  simp only
  split at h
  · cases h
  rename_i n1 r3 hn2
  rw [number_app u hn2]
  simp only
  split at h
  · cases h
  rename_i hlt
  rw [if_neg hlt]
  split at h
  · rename_i r4 ht4; cases h; rw [takeP_app _ ht4]
  · cases h
theorem single_app {g : UInt8} {r r' : Bs} {c : Nat} (u : Bs) (h : singleP g r = .ok (c, r')) : singleP g (r ++ 41 :: u) = .ok (c, r' ++ 41 :: u) := by
  unfold singleP at h
  split at h
  · cases h
  split at h
  · rename_i c1 t r1 ht; cases h; rw [List.cons_append, singleP, takeP_app _ ht]
  · cases h
theorem member_app {r r' : Bs} {c : Nat} (u : Bs) (h : memberP r = .ok (c, r')) : memberP (r ++ 41 :: u) = .ok (c, r' ++ 41 :: u) := by
  unfold memberP at h
  split at h
  · rename_i r1 ht; rw [memberP.eq_def, takeP_app _ ht]; exact single_app u h
  · rename_i ht
    split at h
    · cases h
    · cases h
      rw [memberP.eq_def, takeP_not u (by decide) ht]; rfl
theorem cutP_app : ∀ {r a b : Bs} (u : Bs), cutP r = some (a, b) → cutP (r ++ 41 :: u) = some (a, b ++ 41 :: u)
  | [], a, b, u, h => by cases h
  | c :: t, a, b, u, h => by
    rw [cutP] at h
    rw [List.cons_append, cutP]
    split at h
    · rename_i r1 ht
      cases h
      rw [show c :: (t ++ 41 :: u) = (c :: t) ++ 41 :: u from rfl, takeP_app _ ht]
    · rename_i ht
      rw [show c :: (t ++ 41 :: u) = (c :: t) ++ 41 :: u from rfl, takeP_not u (by decide) ht]
      simp only
      split at h
      · rename_i a1 b1 hc
        cases h
        rw [cutP_app u hc]
      · cases h
theorem class_app {s s' : W4} {r r' : Bs} (u : Bs) (h : classP s r = .ok (s', r')) : classP s (r ++ 41 :: u) = .ok (s', r' ++ 41 :: u) := by
  unfold classP at h ⊢
  split at h
  · cases h
  rename_i name r1 hc
  rw [cutP_app u hc]
  simp only
  split at h
  · cases h
  · rename_i x hx; cases h; rfl
theorem range_app {s s' : W4} {f : Nat} {r r' : Bs} (u : Bs) (h : rangeP s f r = .ok (s', r')) : rangeP s f (r ++ 41 :: u) = .ok (s', r' ++ 41 :: u) := by
  unfold rangeP at h ⊢
  split at h
  · rename_i r1 h1 h2
    rw [takeP_app _ h1, takeP_not u (by decide) h2]
    simp only
    split at h
    · cases h
    rename_i hb
    have hb : takeP [91, 58] r1 = none ∧ takeP [91, 61] r1 = none := by simpa using hb
    rw [takeP_not u (by decide) hb.1, takeP_not u (by decide) hb.2]
    simp only [Option.isSome_none, Bool.or_false, Bool.false_eq_true, if_false]
    split at h
    · cases h
    rename_i to_ r2 hm
    rw [member_app u hm]
    simp only
    split at h
    · cases h
    · rename_i hlt; rw [if_neg hlt]; cases h; rfl
  · rename_i hne
    cases h
    cases h1 : takeP [45] r with
    | none => rw [takeP_not u (by decide) h1]
    | some r1 =>
      cases h2 : takeP [45, 93] r with
      | none => exact (hne r1 h1 h2).elim
      | some r2 => rw [takeP_app _ h1, takeP_app _ h2]
theorem item_app {s s' : W4} {r r' : Bs} (u : Bs) (h : itemP s r = .ok (s', r')) : itemP s (r ++ 41 :: u) = .ok (s', r' ++ 41 :: u) := by
  unfold itemP at h ⊢
  split at h
  · rename_i r1 ht; rw [takeP_app _ ht]; exact class_app u h
  rename_i ht
  rw [takeP_not u (by decide) ht]
  simp only
  split at h
  · rename_i r1 ht
    rw [takeP_app _ ht]
    simp only
    split at h
    · cases h
    · rename_i c r2 hs; rw [single_app u hs]; cases h; rfl
  rename_i ht
  rw [takeP_not u (by decide) ht]
  simp only
  split at h
  · cases h
  · rename_i c r1 hm; rw [member_app u hm]; exact range_app u h
theorem items_app (u : Bs) : ∀ {k k' : Nat} {s s' : W4} {r r' : Bs}, k ≤ k' → itemsP k s r = .ok (s', r') → itemsP k' s (r ++ 41 :: u) = .ok (s', r' ++ 41 :: u)
  | 0, _, _, _, _, _, _, h => by rw [itemsP] at h; cases h
  | k + 1, 0, _, _, _, _, hk, _ => by omega
  | k + 1, k' + 1, s, s', r, r', hk, h => by
    rw [itemsP] at h ⊢
    split at h
    · cases h
    rename_i s1 r1 hi
    rw [item_app u hi]
    simp only
    split at h
    · rename_i r2 ht; rw [takeP_app _ ht]; cases h; rfl
    · rename_i ht; rw [takeP_not u (by decide) ht]; exact items_app u (by omega) h
theorem bracket_app {s' : W4} {r r' : Bs} (u : Bs) (h : bracketP r = .ok (s', r')) : bracketP (r ++ 41 :: u) = .ok (s', r' ++ 41 :: u) := by
  unfold bracketP at h ⊢
  split at h
  · rename_i r1 ht
    rw [takeP_app _ ht]
    simp only
    split at h
    · cases h
    · rename_i s1 r2 hi; rw [items_app u (by simp) hi]; cases h; rfl
  · rename_i ht; rw [takeP_not u (by decide) ht]; exact items_app u (by simp) h
def GrpApp (grp : Bs → PT) : Prop := ∀ r n r' u, grp r = .ok (n, r') → grp (r ++ 41 :: u) = .ok (n, r' ++ 41 :: u)
theorem atom_app {grp : Bs → PT} (hg : GrpApp grp) {r r' : Bs} {n : T} (u : Bs) (h : atomP grp r = .ok (n, r')) : atomP grp (r ++ 41 :: u) = .ok (n, r' ++ 41 :: u) := by
  cases r with
  | nil => rw [atomP] at h; cases h
  | cons c t =>
    simp only [atomP] at h
    simp only [List.cons_append, atomP]
    split at h
    · rw [if_pos (by assumption)]; exact hg _ _ _ _ h
    rw [if_neg (by assumption)]
    split at h
    · rw [if_pos (by assumption)]; cases h; rfl
    rw [if_neg (by assumption)]
    split at h
    · rw [if_pos (by assumption)]; cases h; rfl
    rw [if_neg (by assumption)]
    split at h
    · rw [if_pos (by assumption)]
      split at h
      · cases h
      · rename_i s r1 hb; rw [bracket_app u hb]; cases h; rfl
    rw [if_neg (by assumption)]
    split at h
    · rw [if_pos (by assumption)]; cases h; rfl
    rw [if_neg (by assumption)]
    split at h
    · cases h
    rw [if_neg (by assumption)]
    split at h
    · rw [if_pos (by assumption)]
      split at h
      · cases h
      · cases h; rfl
    · rw [if_neg (by assumption)]; cases h; rfl
theorem suf_app (u : Bs) : ∀ {k k' : Nat} {n n' : T} {r r' : Bs}, r.length < k → (r ++ 41 :: u).length < k' → sufP k n r = .ok (n', r') → sufP k' n (r ++ 41 :: u) = .ok (n', r' ++ 41 :: u)
  | 0, _, _, _, _, _, h, _, _ => by omega
  | _, 0, _, _, _, _, _, h, _ => by omega
  | k + 1, k' + 1, n, n', r, r', hk, hk', h => by
    rw [sufP] at h ⊢
    simp only [List.length_append, List.length_cons] at hk'
    split at h
    · rename_i r1 ht
      rw [takeP_app _ ht]
      have := takeP_len ht; simp at this
      exact suf_app u (by omega) (by simp only [List.length_append, List.length_cons]; omega) h
    rename_i ht
    rw [takeP_not u (by decide) ht]
    simp only
    split at h
    · rename_i r1 ht
      rw [takeP_app _ ht]
      have := takeP_len ht; simp at this
      exact suf_app u (by omega) (by simp only [List.length_append, List.length_cons]; omega) h
    rename_i ht
    rw [takeP_not u (by decide) ht]
    simp only
    split at h
    · rename_i r1 ht
      rw [takeP_app _ ht]
      have := takeP_len ht; simp at this
      exact suf_app u (by omega) (by simp only [List.length_append, List.length_cons]; omega) h
    rename_i ht
    rw [takeP_not u (by decide) ht]
    simp only
    split at h
    · rename_i r1 ht
      rw [takeP_app _ ht]
      have := takeP_len ht; simp at this
      simp only
      split at h
      · cases h
      · rename_i m x r2 hi
        have := interval_len hi
        rw [interval_app u hi]
        exact suf_app u (by omega) (by simp only [List.length_append, List.length_cons]; omega) h
    · rename_i ht
      rw [takeP_not u (by decide) ht]
      cases h; rfl
theorem piece_app {grp : Bs → PT} (hg : GrpApp grp) {r r' : Bs} {n : T} (u : Bs) (h : pieceP grp r = .ok (n, r')) : pieceP grp (r ++ 41 :: u) = .ok (n, r' ++ 41 :: u) := by
  unfold pieceP at h ⊢
  split at h
  · cases h
  · rename_i n1 r1 ha
    rw [atom_app hg u ha]
    exact suf_app u (Nat.lt_succ_self _) (Nat.lt_succ_self _) h
theorem ends_app (r u : Bs) : endsRow (r ++ 41 :: u) = endsRow r := by cases r <;> rfl
theorem pieces_app {grp : Bs → PT} (hl : GrpLen grp) (hg : GrpApp grp) (u : Bs) : ∀ {k k' : Nat} {l l' : List T} {r r' : Bs}, r.length < k → (r ++ 41 :: u).length < k' → piecesP grp k l r = .ok (l', r') → piecesP grp k' l (r ++ 41 :: u) = .ok (l', r' ++ 41 :: u)
  | 0, _, _, _, _, _, h, _, _ => by omega
  | _, 0, _, _, _, _, _, h, _ => by omega
  | k + 1, k' + 1, l, l', r, r', hk, hk', h => by
    rw [piecesP] at h ⊢
    rw [ends_app]
    simp only [List.length_append, List.length_cons] at hk'
    split at h
    · rw [if_pos (by assumption)]; cases h; rfl
    rw [if_neg (by assumption)]
    split at h
    · cases h
    · rename_i n r1 hp
      rw [piece_app hg u hp]
      have := piece_len hl hp
      exact pieces_app hl hg u (by omega) (by simp only [List.length_append, List.length_cons]; omega) h
theorem row_app {grp : Bs → PT} (hl : GrpLen grp) (hg : GrpApp grp) {r r' : Bs} {n : T} (u : Bs) (h : rowP grp r = .ok (n, r')) : rowP grp (r ++ 41 :: u) = .ok (n, r' ++ 41 :: u) := by
  unfold rowP at h ⊢
  split at h
  · cases h
  · rename_i l r1 hp
    rw [pieces_app hl hg u (Nat.lt_succ_self _) (Nat.lt_succ_self _) hp]
    cases h; rfl
theorem alts_app {grp : Bs → PT} (hl : GrpLen grp) (hg : GrpApp grp) (u : Bs) : ∀ {k k' : Nat} {l l' : List T} {r r' : Bs}, r.length < k → (r ++ 41 :: u).length < k' → altsP grp k l r = .ok (l', r') → altsP grp k' l (r ++ 41 :: u) = .ok (l', r' ++ 41 :: u)
  | 0, _, _, _, _, _, h, _, _ => by omega
  | _, 0, _, _, _, _, _, h, _ => by omega
  | k + 1, k' + 1, l, l', r, r', hk, hk', h => by
    rw [altsP] at h ⊢
    simp only [List.length_append, List.length_cons] at hk'
    split at h
    · rename_i ht; rw [takeP_not u (by decide) ht]; cases h; rfl
    rename_i r1 ht
    rw [takeP_app _ ht]
    have := takeP_len ht; simp at this
    simp only
    split at h
    · cases h
    · rename_i n r2 hp
      rw [row_app hl hg u hp]
      have := row_len hl hp
      exact alts_app hl hg u (by omega) (by simp only [List.length_append, List.length_cons]; omega) h
theorem choice_app {grp : Bs → PT} (hl : GrpLen grp) (hg : GrpApp grp) {r r' : Bs} {n : T} (u : Bs) (h : choiceP grp r = .ok (n, r')) : choiceP grp (r ++ 41 :: u) = .ok (n, r' ++ 41 :: u) := by
  unfold choiceP at h ⊢
  split at h
  · cases h
  rename_i n1 r1 hr
  rw [row_app hl hg u hr]
  simp only
  split at h
  · cases h
  · rename_i l r2 ha
    rw [alts_app hl hg u (Nat.lt_succ_self _) (Nat.lt_succ_self _) ha]
    cases h; rfl
theorem group_app : ∀ d, GrpApp (groupP d)
  | 0, r, n, r', u, h => by rw [groupP] at h; cases h
  | d + 1, r, n, r', u, h => by
    rw [groupP] at h ⊢
    split at h
    · cases h
    rename_i n1 r1 hc
    rw [choice_app (group_len d) (group_app d) u hc]
    simp only
    split at h
    · rename_i r2 ht; rw [takeP_app _ ht]; cases h; rfl
    · cases h

/-! Fewer brackets left. -/
def Shal {α : Type} (f g : Bs → Except Int α) : Prop := ∀ r v, f r = .ok v → g r = .ok v ∨ g r = .error 3
theorem atom_shal {f g : Bs → PT} (h : Shal f g) : Shal (atomP f) (atomP g) := fun r v hv => by
  cases r with
  | nil => rw [atomP] at hv; cases hv
  | cons c t =>
    by_cases hc : c = 40
    · subst hc; rw [atom40] at hv ⊢; exact h t v hv
    · left
      simp only [atomP, if_neg hc] at hv ⊢
      exact hv
theorem piece_shal {f g : Bs → PT} (h : Shal f g) : Shal (pieceP f) (pieceP g) := fun r v hv => by
  unfold pieceP at hv ⊢
  split at hv
  · cases hv
  rename_i n r1 ha
  rcases atom_shal h r _ ha with e | e
  · rw [e]; exact .inl hv
  · rw [e]; exact .inr rfl
theorem pieces_shal {f g : Bs → PT} (h : Shal f g) : ∀ (k : Nat) (l : List T), Shal (piecesP f k l) (piecesP g k l)
  | 0, l => fun r v hv => .inl hv
  | k + 1, l => fun r v hv => by
    rw [piecesP] at hv ⊢
    split at hv
    · rw [if_pos (by assumption)]; exact .inl hv
    rw [if_neg (by assumption)]
    split at hv
    · cases hv
    rename_i n r1 hp
    rcases piece_shal h r _ hp with e | e
    · rw [e]; exact pieces_shal h k _ r1 v hv
    · rw [e]; exact .inr rfl
theorem row_shal {f g : Bs → PT} (h : Shal f g) : Shal (rowP f) (rowP g) := fun r v hv => by
  unfold rowP at hv ⊢
  split at hv
  · cases hv
  rename_i l r1 hp
  rcases pieces_shal h _ _ r _ hp with e | e
  · rw [e]; exact .inl hv
  · rw [e]; exact .inr rfl
theorem alts_shal {f g : Bs → PT} (h : Shal f g) : ∀ (k : Nat) (l : List T), Shal (altsP f k l) (altsP g k l)
  | 0, l => fun r v hv => .inl hv
  | k + 1, l => fun r v hv => by
    rw [altsP] at hv ⊢
    split at hv
    · exact .inl hv
    rename_i r1 ht
    split at hv
    · cases hv
    rename_i n r2 hp
    rcases row_shal h r1 _ hp with e | e
    · rw [e]; exact alts_shal h k _ r2 v hv
    · rw [e]; exact .inr rfl
theorem choice_shal {f g : Bs → PT} (h : Shal f g) : Shal (choiceP f) (choiceP g) := fun r v hv => by
  unfold choiceP at hv ⊢
  split at hv
  · cases hv
  rename_i n r1 hr
  rcases row_shal h r _ hr with e | e
  · rw [e]
    simp only
    split at hv
    · cases hv
    rename_i l r2 ha
    rcases alts_shal h _ _ r1 _ ha with e | e
    · rw [e]; exact .inl hv
    · rw [e]; exact .inr rfl
  · rw [e]; exact .inr rfl
theorem group_shal : ∀ {d d' : Nat}, d' ≤ d → Shal (groupP d) (groupP d')
  | d, 0, _ => fun r v _ => .inr rfl
  | 0, d' + 1, h => by omega
  | d + 1, d' + 1, h => fun r v hv => by
    rw [groupP] at hv ⊢
    split at hv
    · cases hv
    rename_i n r1 hc
    rcases choice_shal (group_shal (d := d) (d' := d') (by omega)) r _ hc with e | e
    · rw [e]; exact .inl hv
    · rw [e]; exact .inr rfl

theorem parse_ok {a : Bs} {x : T} (h : parseP a = .ok x) : a.length ≤ 1024 ∧ choiceP (groupP 64) a = .ok (x, []) := by
  unfold parseP at h
  split at h
  · cases h
  rename_i hl
  split at h
  · cases h
  · rename_i n hc; cases h; exact ⟨by omega, hc⟩
  · cases h
/-- A pattern in brackets, as a piece ahead of what is no sign of how often. -/
theorem grp_atom {a : Bs} {x : T} (h : parseP a = .ok x) (u : Bs) : atomP (groupP 64) (40 :: (a ++ 41 :: u)) = .ok (x, u) ∨ atomP (groupP 64) (40 :: (a ++ 41 :: u)) = .error 3 := by
  have h1 := choice_app (group_len 64) (group_app 64) u (parse_ok h).2
  rw [atom40, groupP]
  rcases choice_shal (group_shal (d := 64) (d' := 63) (by omega)) _ _ h1 with e | e
  · rw [e]; left; simp only [List.nil_append, takeP_one, if_true]
  · rw [e]; exact .inr rfl
theorem grp_piece {a : Bs} {x : T} (h : parseP a = .ok x) (u : Bs) : pieceP (groupP 64) (40 :: (a ++ 41 :: u)) = sufP (u.length + 1) x u ∨ pieceP (groupP 64) (40 :: (a ++ 41 :: u)) = .error 3 := by
  unfold pieceP
  rcases grp_atom h u with e | e
  · rw [e]; exact .inl rfl
  · rw [e]; exact .inr rfl
theorem ends40 (t : Bs) : endsRow (40 :: t) = false := rfl
/-- One piece alone. -/
theorem one_row {grp : Bs → PT} {r q : Bs} {n : T} (hr : endsRow r = false) (hp : pieceP grp r = .ok (n, q)) (hq : endsRow q = true) (hl : q.length < r.length) : rowP grp r = .ok (n, q) := by
  obtain ⟨m, hm⟩ : ∃ m, r.length = m + 1 := ⟨r.length - 1, by omega⟩
  rw [rowP, hm, piecesP, hr, hp]
  simp only [Bool.false_eq_true, if_false]
  rw [piecesP, if_pos hq]
  rfl
theorem row_err {grp : Bs → PT} {r : Bs} {e : Int} (hr : endsRow r = false) (hp : pieceP grp r = .error e) : rowP grp r = .error e := by
  rw [rowP, piecesP, hr, hp]
  simp only [Bool.false_eq_true, if_false]
theorem choice_one {grp : Bs → PT} {r q : Bs} {n : T} (hr : rowP grp r = .ok (n, q)) (hq : takeP [124] q = none) : choiceP grp r = .ok (n, q) := by
  rw [choiceP, hr]
  simp only
  rw [altsP, hq]
  rfl
/-- (a), with how often it stands. -/
theorem parse_times {a : Bs} {x : T} {m n : Int} {q : Bs} (h : parseP a = .ok x) (hl : a.length + q.length + 2 ≤ 1024) (hs : ∀ k t, sufP (k + q.length + 1) t q = .ok (repT m n t, [])) : parseP (40 :: (a ++ 41 :: q)) = .ok (repT m n x) ∨ parseP (40 :: (a ++ 41 :: q)) = .error 3 := by
  have hlen : (40 :: (a ++ 41 :: q)).length ≤ 1024 := by simp; omega
  unfold parseP
  rw [if_neg (by omega)]
  rcases grp_piece h q with e | e
  · have hs0 := hs 0 x
    rw [Nat.zero_add] at hs0
    rw [hs0] at e
    rw [choice_one (one_row (ends40 _) e rfl (by simp)) rfl]
    exact .inl rfl
  · rw [choiceP, row_err (ends40 _) e]
    exact .inr rfl
theorem suf_once (k : Nat) (t : T) : sufP (k + 3 + 1) t [123, 49, 125] = .ok (repT 1 1 t, []) := by
  have := timesT_suf (m := 1) (n := 1) ⟨by decide, by decide, by decide, .inr (by decide)⟩ (k + 3) t []
  rw [show timesT 1 1 ++ [] = [123, 49, 125] by decide] at this
  rw [this]; rfl
theorem suf_plus (k : Nat) (t : T) : sufP (k + 1 + 1) t [43] = .ok (repT 1 (-1) t, []) := by
  have := timesT_suf (m := 1) (n := -1) ⟨by decide, by decide, by decide, .inl rfl⟩ (k + 1) t []
  rw [show timesT 1 (-1) ++ [] = [43] by decide] at this
  rw [this]; rfl
theorem suf_quest (k : Nat) (t : T) : sufP (k + 1 + 1) t [63] = .ok (repT 0 1 t, []) := by
  have := timesT_suf (m := 0) (n := 1) ⟨by decide, by decide, by decide, .inr (by decide)⟩ (k + 1) t []
  rw [show timesT 0 1 ++ [] = [63] by decide] at this
  rw [this]; rfl
theorem suf_27 (k : Nat) (t : T) : sufP (k + 5 + 1) t [123, 50, 44, 55, 125] = .ok (repT 2 7 t, []) := by
  have := timesT_suf (m := 2) (n := 7) ⟨by decide, by decide, by decide, .inr (by decide)⟩ (k + 5) t []
  rw [show timesT 2 7 ++ [] = [123, 50, 44, 55, 125] by decide] at this
  rw [this]; rfl
/-- (a)(b). -/
theorem parse_row {a b : Bs} {x y : T} (ha : parseP a = .ok x) (hb : parseP b = .ok y) (hl : a.length + b.length + 4 ≤ 1024) :
    parseP (40 :: (a ++ 41 :: (40 :: (b ++ [41])))) = .ok (.mk 4 0 0 0 0 0 0 [x, y]) ∨ parseP (40 :: (a ++ 41 :: (40 :: (b ++ [41])))) = .error 3 := by
  unfold parseP
  rw [if_neg (by simp; omega)]
  generalize hr : 40 :: (a ++ 41 :: (40 :: (b ++ [41]))) = r
  have hrl : r.length = a.length + b.length + 4 := by subst hr; simp; omega
  have he : endsRow r = false := by subst hr; rfl
  rcases grp_piece ha (40 :: (b ++ [41])) with e | e
  · rw [suf_stop _ _ (fun c t e => by cases e; decide), hr] at e
    rcases grp_piece hb [] with e2 | e2
    · rw [suf_stop _ _ (fun c t e => by cases e)] at e2
      have hrow : rowP (groupP 64) r = .ok (.mk 4 0 0 0 0 0 0 [x, y], []) := by
        rw [rowP, hrl, show a.length + b.length + 4 + 1 = a.length + b.length + 2 + 1 + 1 + 1 by omega, piecesP, he, e]
        simp only [Bool.false_eq_true, if_false]
        rw [piecesP, ends40, e2]
        simp only [Bool.false_eq_true, if_false]
        rw [piecesP, if_pos (show endsRow [] = true from rfl)]
        rfl
      rw [choice_one hrow rfl]
      exact .inl rfl
    · have hrow : rowP (groupP 64) r = .error 3 := by
        rw [rowP, hrl, show a.length + b.length + 4 + 1 = a.length + b.length + 3 + 1 + 1 by omega, piecesP, he, e]
        simp only [Bool.false_eq_true, if_false]
        rw [piecesP, ends40, e2]
        simp only [Bool.false_eq_true, if_false]
      rw [choiceP, hrow]
      exact .inr rfl
  · rw [hr] at e
    rw [choiceP, row_err he e]
    exact .inr rfl
/-- (a)|(b). -/
theorem parse_alt {a b : Bs} {x y : T} (ha : parseP a = .ok x) (hb : parseP b = .ok y) (hl : a.length + b.length + 5 ≤ 1024) :
    parseP (40 :: (a ++ 41 :: (124 :: 40 :: (b ++ [41])))) = .ok (.mk 5 0 0 0 0 0 0 [x, y]) ∨ parseP (40 :: (a ++ 41 :: (124 :: 40 :: (b ++ [41])))) = .error 3 := by
  unfold parseP
  rw [if_neg (by simp; omega)]
  generalize hr : 40 :: (a ++ 41 :: (124 :: 40 :: (b ++ [41]))) = r
  have hrl : r.length = a.length + b.length + 5 := by subst hr; simp; omega
  have he : endsRow r = false := by subst hr; rfl
  rcases grp_piece ha (124 :: 40 :: (b ++ [41])) with e | e
  · rw [suf_stop _ _ (fun c t e => by cases e; decide), hr] at e
    have h1 := one_row he e rfl (by rw [hrl]; simp; omega)
    rcases grp_piece hb [] with e2 | e2
    · rw [suf_stop _ _ (fun c t e => by cases e)] at e2
      have h2 := one_row (ends40 _) e2 rfl (by simp)
      have hc : choiceP (groupP 64) r = .ok (.mk 5 0 0 0 0 0 0 [x, y], []) := by
        rw [choiceP, h1]
        simp only
        rw [List.length_cons, altsP, takeP_one, if_pos rfl]
        simp only
        rw [h2]
        simp only
        rw [List.length_cons, altsP, takeP_nil _ (by simp)]
        rfl
      rw [hc]
      exact .inl rfl
    · have hc : choiceP (groupP 64) r = .error 3 := by
        rw [choiceP, h1]
        simp only
        rw [List.length_cons, altsP, takeP_one, if_pos rfl]
        simp only
        rw [row_err (ends40 _) e2]
      rw [hc]
      exact .inr rfl
  · rw [hr] at e
    rw [choiceP, row_err he e]
    exact .inr rfl
end Go.Proofs.Ytdpmbanfaigmcaa

/- What a tree describes, and that its machine's ways are just that. Plain: no program in sight. -/
set_option linter.unusedVariables false
set_option linter.unusedSimpArgs false
namespace Go.Proofs.Ytdpmbanfaigmcaa
open Go.RowKit

abbrev Rel := Nat → Nat → Prop
def comp (R S : Rel) : Rel := fun i j => ∃ k, R i k ∧ S k j
def powR (R : Rel) : Nat → Rel
  | 0 => fun i j => i = j
  | n + 1 => comp R (powR R n)
theorem powR_snoc {R : Rel} : ∀ {n i j : Nat}, powR R (n + 1) i j ↔ ∃ k, powR R n i k ∧ R k j
  | 0, i, j => by
    constructor
    · rintro ⟨k, h, rfl⟩; exact ⟨i, rfl, h⟩
    · rintro ⟨k, rfl, h⟩; exact ⟨j, h, rfl⟩
  | n + 1, i, j => by
    constructor
    · rintro ⟨k, h, h2⟩
      obtain ⟨m, h3, h4⟩ := powR_snoc.1 h2
      exact ⟨m, ⟨k, h, h3⟩, h4⟩
    · rintro ⟨m, ⟨k, h, h3⟩, h4⟩
      exact ⟨k, h, powR_snoc.2 ⟨m, h3, h4⟩⟩
theorem powR_add {R : Rel} : ∀ {n m i j : Nat}, powR R (n + m) i j ↔ ∃ k, powR R n i k ∧ powR R m k j
  | 0, m, i, j => by
    rw [Nat.zero_add]
    exact ⟨fun h => ⟨i, rfl, h⟩, fun ⟨k, e, h⟩ => by cases (show i = k from e); exact h⟩
  | n + 1, m, i, j => by
    rw [show n + 1 + m = (n + m) + 1 by omega]
    constructor
    · rintro ⟨k, h, h2⟩
      obtain ⟨q, h3, h4⟩ := powR_add.1 h2
      exact ⟨q, ⟨k, h, h3⟩, h4⟩
    · rintro ⟨q, ⟨k, h, h3⟩, h4⟩
      exact ⟨k, h, powR_add.2 ⟨q, h3, h4⟩⟩
theorem powR_one {R : Rel} {i j : Nat} : powR R 1 i j ↔ R i j := ⟨fun ⟨k, h, e⟩ => by cases (show k = j from e); exact h, fun h => ⟨j, h, rfl⟩⟩
theorem powR_id {R : Rel} (h : ∀ i j, R i j ↔ i = j) : ∀ n i j, powR R n i j ↔ i = j
  | 0, i, j => Iff.rfl
  | n + 1, i, j => by
    constructor
    · rintro ⟨k, h1, h2⟩
      rw [h] at h1; rw [powR_id h n] at h2; exact h1.trans h2
    · rintro rfl
      exact ⟨i, (h i i).2 rfl, (powR_id h n i i).2 rfl⟩

mutual
/-- A tree describes the piece from i tu j. -/
def den (s : List UInt8) : T → Rel
  | .mk k s0 s1 s2 s3 mn mx ps =>
    if k = 1 then fun i j => i < s.length ∧ j = i + 1 ∧ bitS ⟨1, s0, s1, s2, s3, 0, 0⟩ (byteN s (i + 1)) = true
    else if k = 2 then fun i j => i = 0 ∧ j = i
    else if k = 3 then fun i j => i = s.length ∧ j = i
    else if k = 4 then denRow s ps
    else if k = 5 then denAlt s ps
    else if k = 6 then fun i j => ∃ n : Nat, mn.toNat ≤ n ∧ (mx < 0 ∨ n ≤ mx.toNat) ∧ powR (denHead s ps) n i j
    else fun i j => i = j
def denRow (s : List UInt8) : List T → Rel
  | [] => fun i j => i = j
  | p :: ps => comp (den s p) (denRow s ps)
def denAlt (s : List UInt8) : List T → Rel
  | [] => fun _ _ => False
  | p :: ps => fun i j => den s p i j ∨ denAlt s ps i j
def denHead (s : List UInt8) : List T → Rel
  | [] => fun i j => i = j
  | p :: _ => den s p
end
theorem den_eq (s : List UInt8) (t : T) : den s t =
    if t.k = 1 then fun i j => i < s.length ∧ j = i + 1 ∧ bitS ⟨1, t.s0, t.s1, t.s2, t.s3, 0, 0⟩ (byteN s (i + 1)) = true
    else if t.k = 2 then fun i j => i = 0 ∧ j = i
    else if t.k = 3 then fun i j => i = s.length ∧ j = i
    else if t.k = 4 then denRow s t.ps
    else if t.k = 5 then denAlt s t.ps
    else if t.k = 6 then fun i j => ∃ n : Nat, t.mn.toNat ≤ n ∧ (t.mx < 0 ∨ n ≤ t.mx.toNat) ∧ powR (denHead s t.ps) n i j
    else fun i j => i = j := by cases t; rw [den]; rfl
theorem denAlt_iff (s : List UInt8) (i j : Nat) : ∀ ps : List T, denAlt s ps i j ↔ ∃ p ∈ ps, den s p i j
  | [] => by simp [denAlt]
  | p :: ps => by simp [denAlt, denAlt_iff s i j ps]

/-- A machine's ways over a text, so many steps. -/
inductive PthN (M : Nat → St) (s : List UInt8) : Nat → Nat → Nat → Nat → Nat → Prop where
  | refl (x i : Nat) : PthN M s 0 x i x i
  | eps {m x i z y k : Nat} : z ∈ outs (i == 0) (i == s.length) (M x) → PthN M s m z i y k → PthN M s (m + 1) x i y k
  | eat {m x i y k : Nat} : i < s.length → takes (M x) (byteN s (i + 1)) = true → PthN M s m (M x).nx.toNat (i + 1) y k → PthN M s (m + 1) x i y k
def Pth (M : Nat → St) (s : List UInt8) (x i y k : Nat) : Prop := ∃ m, PthN M s m x i y k
theorem PthN.trans {M : Nat → St} {s : List UInt8} {m n x i y j z k : Nat} (h : PthN M s m x i y j) (h2 : PthN M s n y j z k) : PthN M s (m + n) x i z k := by
  induction h with
  | refl => simpa using h2
  | eps he _ ih => rw [show ∀ a : Nat, a + 1 + n = (a + n) + 1 by omega]; exact .eps he (ih h2)
  | eat h1 he _ ih => rw [show ∀ a : Nat, a + 1 + n = (a + n) + 1 by omega]; exact .eat h1 he (ih h2)
theorem Pth.refl {M : Nat → St} {s : List UInt8} (x i : Nat) : Pth M s x i x i := ⟨0, .refl x i⟩
theorem Pth.trans {M : Nat → St} {s : List UInt8} {x i y j z k : Nat} (h : Pth M s x i y j) (h2 : Pth M s y j z k) : Pth M s x i z k := by
  obtain ⟨m, h⟩ := h; obtain ⟨n, h2⟩ := h2; exact ⟨_, h.trans h2⟩
theorem Pth.eps1 {M : Nat → St} {s : List UInt8} {x i z : Nat} (h : z ∈ outs (i == 0) (i == s.length) (M x)) : Pth M s x i z i := ⟨1, .eps h (.refl _ _)⟩
theorem PthN.le {M : Nat → St} {s : List UInt8} {m x i y j : Nat} (h : PthN M s m x i y j) : i ≤ j := by
  induction h with
  | refl => exact Nat.le_refl _
  | eps _ _ ih => exact ih
  | eat _ _ _ ih => omega
theorem PthN.bd {M : Nat → St} {s : List UInt8} {m x i y j : Nat} (h : PthN M s m x i y j) (hi : i ≤ s.length) : j ≤ s.length := by
  induction h with
  | refl => exact hi
  | eps _ _ ih => exact ih hi
  | eat h1 _ _ ih => exact ih h1

/-- The machine is a list's on a stretch. -/
def Agr (M : Nat → St) (l : List St) (a : Nat) : Prop := ∀ i, a ≤ i → i < l.length → M i = stN l i
def Ext (l l' : List St) : Prop := l.length ≤ l'.length ∧ ∀ i, i < l.length → stN l' i = stN l i
theorem Ext.refl (l : List St) : Ext l l := ⟨Nat.le_refl _, fun _ _ => rfl⟩
theorem Ext.trans {a b c : List St} (h : Ext a b) (k : Ext b c) : Ext a c := ⟨Nat.le_trans h.1 k.1, fun i hi => (k.2 i (by have := h.1; omega)).trans (h.2 i hi)⟩
theorem stN_app (l : List St) (x : St) (i : Nat) (hi : i < l.length) : stN (l ++ [x]) i = stN l i := by
  unfold stN; rw [List.getD_eq_getElem?_getD, List.getD_eq_getElem?_getD, List.getElem?_append_left hi]
theorem stN_last (l : List St) (x : St) : stN (l ++ [x]) l.length = x := by
  unfold stN; rw [List.getD_eq_getElem?_getD, List.getElem?_append_right (Nat.le_refl _)]; simp
theorem Ext.app (l : List St) (x : St) : Ext l (l ++ [x]) := ⟨by simp, fun i hi => stN_app l x i hi⟩
theorem Agr.ext {M : Nat → St} {l l' : List St} {a : Nat} (h : Agr M l' a) (e : Ext l l') : Agr M l a := fun i h1 h2 => (h i h1 (by have := e.1; omega)).trans (e.2 i h2)
theorem Agr.from {M : Nat → St} {l : List St} {a b : Nat} (h : Agr M l a) (e : a ≤ b) : Agr M l b := fun i h1 h2 => h i (by omega) h2

/-- A way of laying lays just what describes. -/
structure Impl (s : List UInt8) (p : LF) (R : Rel) : Prop where
  ext : ∀ (tu : Int) (l : List St), 0 ≤ tu → tu < l.length → Ext l (p tu l).2 ∧ 0 ≤ (p tu l).1 ∧ (p tu l).1 < (p tu l).2.length
  nil : ∀ (tu : Int) (l : List St), 0 ≤ tu → tu < l.length → (p tu l).2.length = l.length → (p tu l).1 = tu ∧ ∀ i j, R i j ↔ i = j
  comp : ∀ (tu : Int) (l : List St), 0 ≤ tu → tu < l.length → ∀ M, Agr M (p tu l).2 l.length → ∀ i j, R i j → Pth M s (p tu l).1.toNat i tu.toNat j
  sound : ∀ (tu : Int) (l : List St), 0 ≤ tu → tu < l.length → ∀ M, Agr M (p tu l).2 l.length → ∀ m i y k, (y < l.length ∨ (p tu l).2.length ≤ y) → PthN M s m (p tu l).1.toNat i y k → ∃ j m', m' ≤ m ∧ R i j ∧ PthN M s m' tu.toNat j y k

theorem impl_id {s : List UInt8} {p : LF} {R : Rel} (hp : ∀ tu l, p tu l = (tu, l)) (hR : ∀ i j, R i j ↔ i = j) : Impl s p R where
  ext tu l h0 h1 := by rw [hp]; exact ⟨.refl l, h0, h1⟩
  nil tu l h0 h1 _ := by rw [hp]; exact ⟨rfl, hR⟩
  comp tu l h0 h1 M hM i j h := by rw [hp]; cases (hR i j).1 h; exact .refl _ _
  sound tu l h0 h1 M hM m i y k hy h := by rw [hp] at h; exact ⟨i, m, Nat.le_refl _, (hR i i).2 rfl, h⟩
theorem Impl.iff {s : List UInt8} {p : LF} {R S : Rel} (h : Impl s p R) (e : ∀ i j, R i j ↔ S i j) : Impl s p S := by
  have : R = S := by funext i j; exact propext (e i j)
  exact this ▸ h

/-- One state. -/
theorem impl_one {s : List UInt8} {p : LF} {R : Rel} (f : Int → St) (hp : ∀ tu l, p tu l = ((l.length : Int), l ++ [f tu])) (h1 : ∀ M tu x i j, M x = f tu → R i j → Pth M s x i tu.toNat j)
    (h2 : ∀ M tu x m i y k, M x = f tu → y ≠ x → PthN M s m x i y k → ∃ j m', m' ≤ m ∧ R i j ∧ PthN M s m' tu.toNat j y k) : Impl s p R where
  ext tu l _ _ := by rw [hp]; exact ⟨.app _ _, by simp only; omega, by simp; omega⟩
  nil tu l _ _ h := by rw [hp] at h; simp at h
  comp tu l h0 hl M hM i j h := by
    rw [hp] at hM ⊢
    exact h1 M tu _ i j (by rw [Int.toNat_natCast, hM _ (Nat.le_refl _) (by simp), stN_last]) h
  sound tu l h0 hl M hM m i y k hy h := by
    rw [hp] at hM hy h
    simp only [Int.toNat_natCast] at h
    exact h2 M tu _ m i y k (by rw [hM _ (Nat.le_refl _) (by simp), stN_last]) (by simp at hy; omega) h

/-- One behind the other: q is laid first. -/
theorem Impl.seq {s : List UInt8} {p q : LF} {R S : Rel} (hp : Impl s p R) (hq : Impl s q S) : Impl s (fun tu l => p (q tu l).1 (q tu l).2) (Go.Proofs.Ytdpmbanfaigmcaa.comp R S) where
  ext tu l h0 h1 := by
    obtain ⟨a, b, c⟩ := hq.ext tu l h0 h1
    obtain ⟨d, e, f⟩ := hp.ext _ _ b c
    exact ⟨a.trans d, e, f⟩
  nil tu l h0 h1 hl := by
    obtain ⟨a, b, c⟩ := hq.ext tu l h0 h1
    obtain ⟨d, e, f⟩ := hp.ext _ _ b c
    have := a.1; have := d.1
    try simp only at hl
    obtain ⟨n1, n2⟩ := hq.nil tu l h0 h1 (by omega)
    obtain ⟨n3, n4⟩ := hp.nil _ _ b c (by omega)
    refine ⟨n3.trans n1, fun i j => ⟨?_, ?_⟩⟩
    · rintro ⟨k, h, h'⟩; rw [n4] at h; rw [n2] at h'; exact h.trans h'
    · rintro rfl; exact ⟨i, (n4 _ _).2 rfl, (n2 _ _).2 rfl⟩
  comp tu l h0 h1 M hM i j h := by
    obtain ⟨a, b, c⟩ := hq.ext tu l h0 h1
    obtain ⟨d, e, f⟩ := hp.ext _ _ b c
    obtain ⟨k, h2, h3⟩ := h
    exact (hp.comp _ _ b c M (hM.from a.1) i k h2).trans (hq.comp tu l h0 h1 M (hM.ext d) k j h3)
  sound tu l h0 h1 M hM m i y k hy h := by
    obtain ⟨a, b, c⟩ := hq.ext tu l h0 h1
    obtain ⟨d, e, f⟩ := hp.ext _ _ b c
    have := a.1; have := d.1
    try simp only at hy
    obtain ⟨j, m1, hm1, hr, h2⟩ := hp.sound _ _ b c M (hM.from a.1) m i y k (by omega) h
    obtain ⟨j2, m2, hm2, hs, h3⟩ := hq.sound tu l h0 h1 M (hM.ext d) m1 j y k (by omega) h2
    exact ⟨j2, m2, by omega, ⟨j, hr, hs⟩, h3⟩

theorem outs_split (b e : Bool) (x y : Int) : outs b e (splitS x y) = [x.toNat, y.toNat] := rfl
theorem takes_split (x y : Int) (c : Nat) : takes (splitS x y) c = false := rfl
/-- From a split. -/
theorem split_cases {M : Nat → St} {s : List UInt8} {m x i y k : Nat} {a b : Int} (hM : M x = splitS a b) (hy : y ≠ x) (h : PthN M s m x i y k) : (∃ m', m' < m ∧ PthN M s m' a.toNat i y k) ∨ ∃ m', m' < m ∧ PthN M s m' b.toNat i y k := by
  cases h with
  | refl => exact absurd rfl hy
  | eps he h =>
    rw [hM, outs_split] at he
    simp only [List.mem_cons, List.not_mem_nil, or_false] at he
    rcases he with rfl | rfl
    · exact .inl ⟨_, by omega, h⟩
    · exact .inr ⟨_, by omega, h⟩
  | eat _ he _ => rw [hM, takes_split] at he; cases he

/-- At most so many. -/
theorem opt_impl {s : List UInt8} {p : LF} {R : Rel} (hp : Impl s p R) (tu : Int) (h0 : 0 ≤ tu) : ∀ (n : Nat) (t : Int) (l : List St), tu < l.length → 0 ≤ t → t < l.length →
    Ext l (optF p tu n t l).2 ∧ (0 ≤ (optF p tu n t l).1 ∧ (optF p tu n t l).1 < (optF p tu n t l).2.length) ∧ l.length + n ≤ (optF p tu n t l).2.length ∧
    ∀ M, Agr M (optF p tu n t l).2 l.length →
      (∀ i j, powR R n i j → Pth M s (optF p tu n t l).1.toNat i t.toNat j) ∧ (∀ a i j, a < n → powR R a i j → Pth M s (optF p tu n t l).1.toNat i tu.toNat j) ∧
      ∀ m i y k, (y < l.length ∨ (optF p tu n t l).2.length ≤ y) → PthN M s m (optF p tu n t l).1.toNat i y k → (∃ a j m', a < n ∧ m' ≤ m ∧ powR R a i j ∧ PthN M s m' tu.toNat j y k) ∨ ∃ j m', m' ≤ m ∧ powR R n i j ∧ PthN M s m' t.toNat j y k
  | 0, t, l, h1, h2, h3 => by
    rw [optF]
    exact ⟨.refl l, ⟨h2, h3⟩, by simp, fun M hM => ⟨fun i j h => by cases (show i = j from h); exact .refl _ _, fun a i j ha => by omega, fun m i y k _ h => .inr ⟨i, m, Nat.le_refl _, rfl, h⟩⟩⟩
  | n + 1, t, l, h1, h2, h3 => by
    obtain ⟨e1, x0, x1⟩ := hp.ext t l h2 h3
    have g1 := e1.1
    rw [optF]
    generalize hx : (p t l).1 = x at *
    generalize hq : (p t l).2 = q at *
    have hql : ((q ++ [splitS x tu]).length : Int) = q.length + 1 := by simp
    obtain ⟨e2, y0, y1, hB⟩ := opt_impl hp tu h0 n (q.length : Int) (q ++ [splitS x tu]) (by omega) (by omega) (by omega)
    have g2 := e2.1
    have hlq : (q ++ [splitS x tu]).length = q.length + 1 := by simp
    have e3 : Ext l (q ++ [splitS x tu]) := e1.trans (.app _ _)
    refine ⟨e3.trans e2, y0, by omega, fun M hM => ?_⟩
    obtain ⟨b1, b2, b3⟩ := hB M (hM.from (by omega))
    have hA := hM.ext e2
    have hMt : M q.length = splitS x tu := by rw [hA _ (by omega) (by omega), stN_last]
    have hAp : Agr M q l.length := hA.ext (.app _ _)
    have hAp' : Agr M (p t l).2 l.length := by rw [hq]; exact hAp
    refine ⟨fun i j h => ?_, fun a i j ha h => ?_, fun m i y k hy h => ?_⟩
    · obtain ⟨j1, h4, h5⟩ := powR_snoc.1 h
      have c1 := b1 i j1 h4
      rw [Int.toNat_natCast] at c1
      refine c1.trans ((Pth.eps1 (z := x.toNat) (by rw [hMt, outs_split]; simp)).trans ?_)
      have := hp.comp t l h2 h3 M hAp' j1 j h5
      rwa [hx] at this
    · rcases Nat.lt_or_ge a n with hlt | hge
      · exact b2 a i j hlt h
      · have : a = n := by omega
        subst this
        have c1 := b1 i j h
        rw [Int.toNat_natCast] at c1
        exact c1.trans (Pth.eps1 (by rw [hMt, outs_split]; simp))
    · rcases b3 m i y k (by omega) h with ⟨a, j, m', ha, hm', hr, h6⟩ | ⟨j, m', hm', hr, h6⟩
      · exact .inl ⟨a, j, m', by omega, hm', hr, h6⟩
      · rw [Int.toNat_natCast] at h6
        rcases split_cases hMt (by omega) h6 with ⟨m2, hm2, h7⟩ | ⟨m2, hm2, h7⟩
        · obtain ⟨j2, m3, hm3, hr2, h8⟩ := hp.sound t l h2 h3 M hAp' m2 j y k (by rw [hq]; omega) (by rw [hx]; exact h7)
          exact .inr ⟨j2, m3, by omega, powR_snoc.2 ⟨j, hr, hr2⟩, h8⟩
        · exact .inl ⟨n, j, m2, by omega, by omega, hr, h7⟩
theorem optR_impl {s : List UInt8} {p : LF} {R : Rel} (hp : Impl s p R) (n : Nat) : Impl s (fun tu l => optF p tu n tu l) (fun i j => ∃ a, a ≤ n ∧ powR R a i j) where
  ext tu l h0 h1 := by obtain ⟨a, b, _⟩ := opt_impl hp tu h0 n tu l h1 h0 h1; exact ⟨a, b⟩
  nil tu l h0 h1 hl := by
    obtain ⟨_, _, c, _⟩ := opt_impl hp tu h0 n tu l h1 h0 h1
    have hn : n = 0 := by omega
    subst hn
    refine ⟨by simp only [optF], fun i j => ⟨?_, fun h => ⟨0, Nat.le_refl _, h⟩⟩⟩
    rintro ⟨a, ha, h⟩
    have : a = 0 := by omega
    subst this
    exact h
  comp tu l h0 h1 M hM i j h := by
    obtain ⟨_, _, _, d⟩ := opt_impl hp tu h0 n tu l h1 h0 h1
    obtain ⟨d1, d2, _⟩ := d M hM
    obtain ⟨a, ha, h⟩ := h
    rcases Nat.lt_or_ge a n with hlt | hge
    · exact d2 a i j hlt h
    · have : a = n := by omega
      subst this
      exact d1 i j h
  sound tu l h0 h1 M hM m i y k hy h := by
    obtain ⟨_, _, _, d⟩ := opt_impl hp tu h0 n tu l h1 h0 h1
    obtain ⟨_, _, d3⟩ := d M hM
    rcases d3 m i y k hy h with ⟨a, j, m', ha, hm, hr, h2⟩ | ⟨j, m', hm, hr, h2⟩
    · exact ⟨j, m', hm, ⟨a, by omega, hr⟩, h2⟩
    · exact ⟨j, m', hm, ⟨n, Nat.le_refl _, hr⟩, h2⟩

/-- So many times, as long as it lays something. -/
theorem min_impl {s : List UInt8} {p : LF} {R : Rel} (hp : Impl s p R) : ∀ n, Impl s (minF p n) (powR R n)
  | 0 => impl_id (fun tu l => rfl) (fun i j => Iff.rfl)
  | n + 1 => by
    have ih := min_impl hp n
    have hsq := ih.seq hp
    have key : ∀ tu l, 0 ≤ tu → tu < (l.length : Int) → (minF p (n + 1) tu l = minF p n (p tu l).1 (p tu l).2) ∨ (minF p (n + 1) tu l = p tu l ∧ ∀ i j, R i j ↔ i = j) := fun tu l h0 h1 => by
      rw [minF]
      split
      · rename_i hl
        exact .inr ⟨rfl, (hp.nil tu l h0 h1 hl).2⟩
      · exact .inl rfl
    have hR : ∀ i j, powR R (n + 1) i j ↔ Go.Proofs.Ytdpmbanfaigmcaa.comp (powR R n) R i j := fun i j => powR_snoc
    refine ⟨fun tu l h0 h1 => ?_, fun tu l h0 h1 hl => ?_, fun tu l h0 h1 M hM i j h => ?_, fun tu l h0 h1 M hM m i y k hy h => ?_⟩
    · rcases key tu l h0 h1 with e | ⟨e, _⟩
      · rw [e]; exact hsq.ext tu l h0 h1
      · rw [e]; exact hp.ext tu l h0 h1
    · rcases key tu l h0 h1 with e | ⟨e, he⟩
      · rw [e] at hl ⊢
        obtain ⟨a, b⟩ := hsq.nil tu l h0 h1 hl
        exact ⟨a, fun i j => (hR i j).trans (b i j)⟩
      · rw [e] at hl ⊢
        exact ⟨(hp.nil tu l h0 h1 hl).1, powR_id he _⟩
    · rcases key tu l h0 h1 with e | ⟨e, he⟩
      · rw [e] at hM ⊢
        exact hsq.comp tu l h0 h1 M hM i j ((hR i j).1 h)
      · rw [e] at hM ⊢
        exact hp.comp tu l h0 h1 M hM i j ((he i j).2 ((powR_id he _ i j).1 h))
    · rcases key tu l h0 h1 with e | ⟨e, he⟩
      · rw [e] at hM hy h
        obtain ⟨j, m', hm, hr, h2⟩ := hsq.sound tu l h0 h1 M hM m i y k hy h
        exact ⟨j, m', hm, (hR i j).2 hr, h2⟩
      · rw [e] at hM hy h
        obtain ⟨j, m', hm, hr, h2⟩ := hp.sound tu l h0 h1 M hM m i y k hy h
        exact ⟨j, m', hm, (powR_id he _ i j).2 ((he i j).1 hr), h2⟩

theorem setNx_len (l : List St) (i : Nat) (x : Int) : (setNx l i x).length = l.length := by simp [setNx]
theorem setNx_other (l : List St) (i j : Nat) (x : Int) (h : j ≠ i) : stN (setNx l i x) j = stN l j := by
  unfold stN setNx
  rw [List.getD_eq_getElem?_getD, List.getD_eq_getElem?_getD, List.getElem?_modify, show ((fun s : St => if i = j then { s with nx := x } else s) <$> l[j]?).getD default = l[j]?.getD default from ?_]
  rw [show (fun s : St => if i = j then { s with nx := x } else s) = id from by funext a; rw [if_neg (fun e => h e.symm)]; rfl]
  cases l[j]? <;> rfl
theorem setNx_same (l : List St) (i : Nat) (x : Int) (h : i < l.length) : stN (setNx l i x) i = { stN l i with nx := x } := by
  unfold stN setNx
  rw [List.getD_eq_getElem?_getD, List.getD_eq_getElem?_getD, List.getElem?_modify, List.getElem?_eq_getElem h]
  simp
/-- However often. -/
theorem star_impl {s : List UInt8} {p : LF} {R : Rel} (hp : Impl s p R) : Impl s (starF p) (fun i j => ∃ a, powR R a i j) := by
  have pre : ∀ (tu : Int) (l : List St), 0 ≤ tu → tu < l.length → Ext (l ++ [splitS 0 tu]) (p l.length (l ++ [splitS 0 tu])).2 ∧ 0 ≤ (p l.length (l ++ [splitS 0 tu])).1 ∧ (p l.length (l ++ [splitS 0 tu])).1 < (p l.length (l ++ [splitS 0 tu])).2.length :=
    fun tu l h0 h1 => hp.ext _ _ (by omega) (by simp; omega)
  have hM0 : ∀ (tu : Int) (l : List St), 0 ≤ tu → tu < l.length → ∀ M, Agr M (starF p tu l).2 l.length → M l.length = splitS (p l.length (l ++ [splitS 0 tu])).1 tu ∧ Agr M (p l.length (l ++ [splitS 0 tu])).2 (l ++ [splitS 0 tu]).length := fun tu l h0 h1 M hM => by
    obtain ⟨e1, x0, x1⟩ := pre tu l h0 h1
    have g := e1.1
    have g' : (l ++ [splitS 0 tu]).length = l.length + 1 := by simp
    constructor
    · rw [hM l.length (Nat.le_refl _) (by simp only [starF, setNx_len]; omega)]
      simp only [starF]
      rw [setNx_same _ _ _ (by omega), e1.2 _ (by omega), stN_last]; rfl
    · intro i h2 h3
      rw [hM i (by omega) (by simp only [starF, setNx_len]; omega)]
      simp only [starF]
      rw [setNx_other _ _ _ _ (by omega)]
  have g' : ∀ (tu : Int) (l : List St), (l ++ [splitS 0 tu]).length = l.length + 1 := fun tu l => by simp
  refine ⟨fun tu l h0 h1 => ?_, fun tu l h0 h1 hl => ?_, fun tu l h0 h1 M hM i j h => ?_, fun tu l h0 h1 M hM m i y k hy h => ?_⟩
  · obtain ⟨e1, x0, x1⟩ := pre tu l h0 h1
    have g := e1.1
    refine ⟨⟨by simp only [starF, setNx_len]; have := g' tu l; omega, fun i hi => ?_⟩, by simp only [starF]; omega, by simp only [starF, setNx_len]; have := g' tu l; omega⟩
    simp only [starF]
    rw [setNx_other _ _ _ _ (by omega), e1.2 i (by have := g' tu l; omega), stN_app _ _ _ hi]
  · obtain ⟨e1, x0, x1⟩ := pre tu l h0 h1
    have g := e1.1
    simp only [starF, setNx_len] at hl
    have := g' tu l
    omega
  · obtain ⟨m1, m2⟩ := hM0 tu l h0 h1 M hM
    obtain ⟨a, h⟩ := h
    simp only [starF, Int.toNat_natCast]
    induction a generalizing i with
    | zero => cases (show i = j from h); exact Pth.eps1 (by rw [m1, outs_split]; simp)
    | succ a ih =>
      obtain ⟨k, h2, h3⟩ := h
      have c := hp.comp l.length (l ++ [splitS 0 tu]) (by omega) (by simp; omega) M m2 i k h2
      rw [Int.toNat_natCast] at c
      exact ((Pth.eps1 (by rw [m1, outs_split]; simp)).trans c).trans (ih k h3)
  · obtain ⟨m1, m2⟩ := hM0 tu l h0 h1 M hM
    obtain ⟨e1, x0, x1⟩ := pre tu l h0 h1
    have g := e1.1
    have g2 := g' tu l
    simp only [starF, Int.toNat_natCast, setNx_len] at h hy
    induction m using Nat.strongRecOn generalizing i with
    | _ m ih =>
      rcases split_cases m1 (by omega) h with ⟨m3, hm3, h4⟩ | ⟨m3, hm3, h4⟩
      · obtain ⟨j, m4, hm4, hr, h5⟩ := hp.sound l.length (l ++ [splitS 0 tu]) (by omega) (by simp; omega) M m2 m3 i y k (by omega) h4
        rw [Int.toNat_natCast] at h5
        obtain ⟨j2, m5, hm5, ⟨a, hr2⟩, h6⟩ := ih m4 (by omega) j h5
        exact ⟨j2, m5, by omega, ⟨a + 1, j, hr, hr2⟩, h6⟩
      · exact ⟨i, m3, by omega, ⟨0, rfl⟩, h4⟩
theorem rep_impl {s : List UInt8} {p : LF} {R : Rel} (hp : Impl s p R) (mn mx : Int) (h0 : 0 ≤ mn) (hx : mx < 0 ∨ mn ≤ mx) : Impl s (repF mn mx p) (fun i j => ∃ n : Nat, mn.toNat ≤ n ∧ (mx < 0 ∨ n ≤ mx.toNat) ∧ powR R n i j) := by
  by_cases hm : mx < 0
  · have h := (min_impl hp mn.toNat).seq (star_impl hp)
    have e : (fun tu l => minF p mn.toNat (starF p tu l).1 (starF p tu l).2) = repF mn mx p := by funext tu l; unfold repF; simp only [if_pos hm]
    rw [e] at h
    refine h.iff fun i j => ⟨?_, ?_⟩
    · rintro ⟨k, h1, a, h2⟩
      exact ⟨mn.toNat + a, by omega, .inl hm, powR_add.2 ⟨k, h1, h2⟩⟩
    · rintro ⟨n, h1, _, h2⟩
      rw [show n = mn.toNat + (n - mn.toNat) by omega, powR_add] at h2
      obtain ⟨k, h3, h4⟩ := h2
      exact ⟨k, h3, _, h4⟩
  · have h := (min_impl hp mn.toNat).seq (optR_impl hp (mx - mn).toNat)
    have e : (fun tu l => minF p mn.toNat (optF p tu (mx - mn).toNat tu l).1 (optF p tu (mx - mn).toNat tu l).2) = repF mn mx p := by funext tu l; unfold repF; simp only [if_neg hm]
    rw [e] at h
    refine h.iff fun i j => ⟨?_, ?_⟩
    · rintro ⟨k, h1, a, ha, h2⟩
      exact ⟨mn.toNat + a, by omega, .inr (by omega), powR_add.2 ⟨k, h1, h2⟩⟩
    · rintro ⟨n, h1, h3, h2⟩
      rw [show n = mn.toNat + (n - mn.toNat) by omega, powR_add] at h2
      obtain ⟨k, h4, h5⟩ := h2
      exact ⟨k, h4, _, by omega, h5⟩

theorem row_impl {s : List UInt8} : ∀ (ps : List T), (∀ p ∈ ps, Impl s (layF p) (den s p)) → Impl s (rowF ps) (denRow s ps)
  | [], _ => impl_id (fun tu l => by rw [rowF]) (fun i j => by rw [denRow])
  | p :: ps, h => by
    have := (h p (List.mem_cons_self ..)).seq (row_impl ps fun q hq => h q (List.mem_cons_of_mem _ hq))
    have e : (fun tu l => layF p (rowF ps tu l).1 (rowF ps tu l).2) = rowF (p :: ps) := by funext tu l; rw [rowF]
    rw [e] at this
    rw [denRow]; exact this

/-- The begins of a choice. -/
theorem beg_impl {s : List UInt8} (tu : Int) (h0 : 0 ≤ tu) : ∀ (ps : List T), (∀ p ∈ ps, Impl s (layF p) (den s p)) → ∀ l : List St, tu < l.length →
    Ext l (begF ps tu l).2 ∧ (∀ b ∈ (begF ps tu l).1, 0 ≤ b ∧ b < (begF ps tu l).2.length) ∧
    ∀ M, Agr M (begF ps tu l).2 l.length →
      (∀ i j, denAlt s ps i j → ∃ b ∈ (begF ps tu l).1, Pth M s b.toNat i tu.toNat j) ∧
      ∀ b ∈ (begF ps tu l).1, ∀ m i y k, (y < l.length ∨ (begF ps tu l).2.length ≤ y) → PthN M s m b.toNat i y k → ∃ j m', m' ≤ m ∧ denAlt s ps i j ∧ PthN M s m' tu.toNat j y k
  | [], _, l, h1 => by
    rw [begF]
    exact ⟨.refl l, fun b hb => (List.not_mem_nil hb).elim, fun M hM => ⟨fun i j h => by rw [denAlt] at h; exact h.elim, fun b hb => (List.not_mem_nil hb).elim⟩⟩
  | p :: ps, h, l, h1 => by
    have hp := h p (List.mem_cons_self ..)
    obtain ⟨e1, x0, x1⟩ := hp.ext tu l h0 h1
    have g1 := e1.1
    obtain ⟨e2, y0, hB⟩ := beg_impl tu h0 ps (fun q hq => h q (List.mem_cons_of_mem _ hq)) (layF p tu l).2 (by omega)
    have g2 := e2.1
    rw [begF]
    refine ⟨e1.trans e2, fun b hb => ?_, fun M hM => ?_⟩
    · simp only [List.mem_cons] at hb ⊢
      rcases hb with rfl | hb
      · omega
      · exact y0 b hb
    · simp only at hM
      obtain ⟨b1, b2⟩ := hB M (hM.from g1)
      have hA := hM.ext e2
      refine ⟨fun i j hd => ?_, fun b hb m i y k hy hP => ?_⟩
      · rw [denAlt] at hd
        rcases hd with hd | hd
        · exact ⟨_, List.mem_cons_self .., hp.comp tu l h0 h1 M hA i j hd⟩
        · obtain ⟨b, hb, hh⟩ := b1 i j hd
          exact ⟨b, List.mem_cons_of_mem _ hb, hh⟩
      · simp only [List.mem_cons] at hb
        simp only at hy
        rcases hb with rfl | hb
        · obtain ⟨j, m', hm, hr, h3⟩ := hp.sound tu l h0 h1 M hA m i y k (by omega) hP
          exact ⟨j, m', hm, by rw [denAlt]; exact .inl hr, h3⟩
        · obtain ⟨j, m', hm, hr, h3⟩ := b2 b hb m i y k (by omega) hP
          exact ⟨j, m', hm, by rw [denAlt]; exact .inr hr, h3⟩
/-- The splits of a choice. -/
theorem splits_impl {s : List UInt8} : ∀ (bs : List Int) (l : List St), bs ≠ [] → (∀ b ∈ bs, 0 ≤ b ∧ b < (l.length : Int)) →
    Ext l (splitsF bs l).2 ∧ (0 ≤ (splitsF bs l).1 ∧ (splitsF bs l).1 < (splitsF bs l).2.length) ∧
    ∀ M, Agr M (splitsF bs l).2 l.length →
      (∀ b ∈ bs, ∀ i, Pth M s (splitsF bs l).1.toNat i b.toNat i) ∧
      ∀ m i y k, (y < l.length ∨ (splitsF bs l).2.length ≤ y) → PthN M s m (splitsF bs l).1.toNat i y k → ∃ b ∈ bs, ∃ m', m' ≤ m ∧ PthN M s m' b.toNat i y k
  | [], l, h, _ => absurd rfl h
  | [x], l, _, h => by
    rw [splitsF]
    exact ⟨.refl l, h x (by simp), fun M hM => ⟨fun b hb i => by simp at hb; subst hb; exact .refl _ _, fun m i y k _ hP => ⟨x, by simp, m, Nat.le_refl _, hP⟩⟩⟩
  | a :: b :: bs, l, _, h => by
    obtain ⟨e1, x0, hB⟩ := splits_impl (s := s) (b :: bs) l (by simp) (fun c hc => h c (List.mem_cons_of_mem _ hc))
    have g1 := e1.1
    have ha := h a (List.mem_cons_self ..)
    rw [splitsF]
    · generalize splitsF (b :: bs) l = q at *
      obtain ⟨x, q⟩ := q
      simp only at *
      refine ⟨e1.trans (.app _ _), by simp; omega, fun M hM => ?_⟩
      have hMq : M q.length = splitS a x := by rw [hM _ g1 (by simp), stN_last]
      obtain ⟨b1, b2⟩ := hB M (hM.ext (.app _ _))
      refine ⟨fun c hc i => ?_, fun m i y k hy hP => ?_⟩
      · rw [Int.toNat_natCast]
        rcases List.mem_cons.1 hc with rfl | hc
        · exact Pth.eps1 (by rw [hMq, outs_split]; simp)
        · exact (Pth.eps1 (z := x.toNat) (by rw [hMq, outs_split]; simp)).trans (b1 c hc i)
      · rw [Int.toNat_natCast] at hP
        simp at hy
        rcases split_cases hMq (by omega) hP with ⟨m', hm, h3⟩ | ⟨m', hm, h3⟩
        · exact ⟨a, List.mem_cons_self .., m', by omega, h3⟩
        · obtain ⟨c, hc, m2, hm2, h4⟩ := b2 m' i y k (by omega) h3
          exact ⟨c, List.mem_cons_of_mem _ hc, m2, by omega, h4⟩
    · simp
theorem alt_impl {s : List UInt8} (ps : List T) (hl : 2 ≤ ps.length) (h : ∀ p ∈ ps, Impl s (layF p) (den s p)) : Impl s (fun tu l => splitsF (begF ps tu l).1 (begF ps tu l).2) (denAlt s ps) := by
  have hne : ∀ tu l, (begF ps tu l).1 ≠ [] := fun tu l e => by
    have := begF_len ps tu l
    rw [e] at this; simp at this; omega
  refine ⟨fun tu l h0 h1 => ?_, fun tu l h0 h1 hl' => ?_, fun tu l h0 h1 M hM i j hd => ?_, fun tu l h0 h1 M hM m i y k hy hP => ?_⟩
  · obtain ⟨a, b, _⟩ := beg_impl tu h0 ps h l h1
    obtain ⟨c, d, _⟩ := splits_impl (s := s) _ _ (hne tu l) b
    exact ⟨a.trans c, d⟩
  · obtain ⟨a, b, _⟩ := beg_impl tu h0 ps h l h1
    have := a.1
    try simp only at hl'
    rw [splitsF_len, begF_len] at hl'
    omega
  · obtain ⟨a, b, c⟩ := beg_impl tu h0 ps h l h1
    obtain ⟨d, e, f⟩ := splits_impl (s := s) _ _ (hne tu l) b
    obtain ⟨c1, c2⟩ := c M (hM.ext d)
    obtain ⟨f1, f2⟩ := f M (hM.from a.1)
    obtain ⟨x, hx, hh⟩ := c1 i j hd
    exact (f1 x hx i).trans hh
  · obtain ⟨a, b, c⟩ := beg_impl tu h0 ps h l h1
    obtain ⟨d, e, f⟩ := splits_impl (s := s) _ _ (hne tu l) b
    obtain ⟨c1, c2⟩ := c M (hM.ext d)
    obtain ⟨f1, f2⟩ := f M (hM.from a.1)
    have g1 := a.1; have g2 := d.1
    try simp only at hy
    obtain ⟨x, hx, m', hm, h2⟩ := f2 m i y k (by omega) hP
    obtain ⟨j, m2, hm2, hr, h3⟩ := c2 x hx m' i y k (by omega) h2
    exact ⟨j, m2, by omega, hr, h3⟩

theorem lay_impl (s : List UInt8) (t : T) : rightF t = true → Impl s (layF t) (den s t) := by
  induction t using T.ind with
  | h t ih =>
    intro hr
    have hps : ∀ p ∈ t.ps, Impl s (layF p) (den s p) := fun p hp => ih p hp (right_parts hr p hp)
    rw [show layF t = fun (tu : Int) (l : List St) => (layF t tu l) from rfl, den_eq]
    simp only [layF_eq t]
    rcases right_cases hr with ⟨hk, h⟩ | ⟨hk, h⟩ | ⟨hk, h⟩ | ⟨hk, h⟩ | ⟨hk, h⟩ | ⟨hk, h⟩ | ⟨hk, h⟩
    · simp [hk]; exact impl_id (fun _ _ => rfl) (fun _ _ => Iff.rfl)
    · simp only [hk, if_true]
      refine impl_one (fun tu => ⟨1, t.s0, t.s1, t.s2, t.s3, tu, 0⟩) (fun _ _ => rfl) (fun M tu x i j hM => ?_) (fun M tu x m i y k hM hy hP => ?_)
      · rintro ⟨h1, rfl, h2⟩
        have h3 : PthN M s 1 x i tu.toNat (i + 1) := .eat h1 (by rw [hM]; simpa [takes, bitS, wordN] using h2) (by rw [hM]; exact .refl _ _)
        exact ⟨1, h3⟩
      · cases hP with
        | refl => exact absurd rfl hy
        | eps he _ => rw [hM] at he; simp [outs] at he
        | eat h1 he h2 =>
          rw [hM] at he h2
          exact ⟨i + 1, _, Nat.le_succ _, ⟨h1, rfl, by simpa [takes, bitS, wordN] using he⟩, h2⟩
    · simp only [hk, show ¬ ((2 : Int) = 1) by omega, if_true, if_false]
      refine impl_one (fun tu => ⟨3, 0, 0, 0, 0, tu, 0⟩) (fun _ _ => rfl) (fun M tu x i j hM => ?_) (fun M tu x m i y k hM hy hP => ?_)
      · rintro ⟨rfl, rfl⟩
        exact Pth.eps1 (by rw [hM]; simp [outs])
      · cases hP with
        | refl => exact absurd rfl hy
        | eps he h2 =>
          rw [hM] at he
          simp only [outs] at he
          by_cases hi : i = 0
          · subst hi; simp at he; subst he; exact ⟨0, _, Nat.le_succ _, ⟨rfl, rfl⟩, h2⟩
          · simp [hi] at he
        | eat h1 he h2 => rw [hM] at he; simp [takes] at he
    · simp only [hk, show ¬ ((3 : Int) = 1) by omega, show ¬ ((3 : Int) = 2) by omega, if_true, if_false]
      refine impl_one (fun tu => ⟨4, 0, 0, 0, 0, tu, 0⟩) (fun _ _ => rfl) (fun M tu x i j hM => ?_) (fun M tu x m i y k hM hy hP => ?_)
      · rintro ⟨rfl, rfl⟩
        exact Pth.eps1 (by rw [hM]; simp [outs])
      · cases hP with
        | refl => exact absurd rfl hy
        | eps he h2 =>
          rw [hM] at he
          simp only [outs] at he
          by_cases hi : i = s.length
          · subst hi; simp at he; subst he; exact ⟨s.length, _, Nat.le_succ _, ⟨rfl, rfl⟩, h2⟩
          · simp [hi] at he
        | eat h1 he h2 => rw [hM] at he; simp [takes] at he
    · simp only [hk, show ¬ ((4 : Int) = 1) by omega, show ¬ ((4 : Int) = 2) by omega, show ¬ ((4 : Int) = 3) by omega, if_true, if_false]
      exact row_impl t.ps hps
    · simp only [hk, show ¬ ((5 : Int) = 1) by omega, show ¬ ((5 : Int) = 2) by omega, show ¬ ((5 : Int) = 3) by omega, show ¬ ((5 : Int) = 4) by omega, if_true, if_false]
      exact alt_impl t.ps h.1 hps
    · simp only [hk, show ¬ ((6 : Int) = 1) by omega, show ¬ ((6 : Int) = 2) by omega, show ¬ ((6 : Int) = 3) by omega, show ¬ ((6 : Int) = 4) by omega, show ¬ ((6 : Int) = 5) by omega, if_true, if_false]
      have hh : Impl s (headF t.ps) (denHead s t.ps) := by
        cases hq : t.ps with
        | nil => exact impl_id (fun _ _ => by rw [headF]) (fun _ _ => by rw [denHead])
        | cons p ps =>
          rw [show headF (p :: ps) = layF p by funext tu l; rw [headF], denHead]
          exact hps p (by rw [hq]; exact List.mem_cons_self ..)
      exact rep_impl hh t.mn t.mx h.2.1 (by omega)
end Go.Proofs.Ytdpmbanfaigmcaa

/- What is laid is a right machine: plain. -/
set_option linter.unusedVariables false
set_option linter.unusedSimpArgs false
namespace Go.Proofs.Ytdpmbanfaigmcaa
open Go.RowKit

/-- A state that is no end, among n. -/
structure OkS (n : Nat) (s : St) : Prop where
  k : s.k = 1 ∨ s.k = 2 ∨ s.k = 3 ∨ s.k = 4
  nx : 0 ≤ s.nx ∧ s.nx < n
  ot : (s.k = 2 → 0 ≤ s.ot ∧ s.ot < n) ∧ (s.k ≠ 2 → s.ot = 0)
  set : s.k ≠ 1 → s.s0 = 0 ∧ s.s1 = 0 ∧ s.s2 = 0 ∧ s.s3 = 0
theorem OkS.le {n m : Nat} {s : St} (h : OkS n s) (hnm : n ≤ m) : OkS m s := ⟨h.k, by have := h.nx; omega, ⟨fun e => by have := h.ot.1 e; omega, h.ot.2⟩, h.set⟩
/-- The end first, then right states. -/
structure Inv (l : List St) : Prop where
  zero : l[0]? = some ⟨5, 0, 0, 0, 0, 0, 0⟩
  rest : ∀ (i : Nat) (s : St), l[i]? = some s → i ≠ 0 → OkS l.length s
theorem Inv.pos {l : List St} (h : Inv l) : 0 < l.length := (List.getElem?_eq_some_iff.1 h.zero).1
theorem Inv.push {l : List St} (h : Inv l) {s : St} (hs : OkS (l.length + 1) s) : Inv (l ++ [s]) := by
  have hp := h.pos
  refine ⟨by rw [List.getElem?_append_left hp]; exact h.zero, fun i x hi h0 => ?_⟩
  rw [List.length_append]
  rcases Nat.lt_or_ge i l.length with hl | hl
  · rw [List.getElem?_append_left hl] at hi
    exact (h.rest i x hi h0).le (by simp)
  · rw [List.getElem?_append_right hl] at hi
    have : x = s := by
      have h1 := (List.getElem?_eq_some_iff.1 hi).1
      simp at h1
      rw [show i - l.length = 0 by omega] at hi
      simpa using hi.symm
    subst this
    exact hs
/-- A way of laying that keeps it right. -/
def Pres (p : LF) : Prop := ∀ (tu : Int) (l : List St), Inv l → 0 ≤ tu → tu < l.length → Inv (p tu l).2 ∧ 0 ≤ (p tu l).1 ∧ (p tu l).1 < (p tu l).2.length ∧ l.length ≤ (p tu l).2.length
theorem push_pres {tu : Int} {l : List St} (h : Inv l) (s : St) (hs : OkS (l.length + 1) s) : Inv (l ++ [s]) ∧ 0 ≤ (l.length : Int) ∧ (l.length : Int) < (l ++ [s]).length ∧ l.length ≤ (l ++ [s]).length :=
  ⟨h.push hs, by omega, by simp only [List.length_append, List.length_cons, List.length_nil]; omega, by simp⟩
theorem splitS_ok {n : Nat} {b tu : Int} (h1 : 0 ≤ b ∧ b < n) (h2 : 0 ≤ tu ∧ tu < n) : OkS n (splitS b tu) :=
  ⟨.inr (.inl rfl), h1, ⟨fun _ => h2, fun e => absurd rfl e⟩, fun _ => ⟨rfl, rfl, rfl, rfl⟩⟩
theorem splits_pres : ∀ (bs : List Int) (l : List St), bs ≠ [] → Inv l → (∀ b ∈ bs, 0 ≤ b ∧ b < l.length) → Inv (splitsF bs l).2 ∧ 0 ≤ (splitsF bs l).1 ∧ (splitsF bs l).1 < (splitsF bs l).2.length ∧ l.length ≤ (splitsF bs l).2.length
  | [], l, h, _, _ => absurd rfl h
  | [x], l, _, hI, hb => by
    have := hb x (List.mem_cons_self ..)
    rw [splitsF]; exact ⟨hI, this.1, this.2, Nat.le_refl _⟩
  | a :: b :: bs, l, _, hI, hb => by
    obtain ⟨h1, h2, h3, h4⟩ := splits_pres (b :: bs) l (by simp) hI (fun x hx => hb x (List.mem_cons_of_mem _ hx))
    have ha := hb a (List.mem_cons_self ..)
    rw [splitsF]
    · obtain ⟨g1, g2, g3, g4⟩ := push_pres (tu := 0) h1 (splitS a (splitsF (b :: bs) l).1) (splitS_ok ⟨ha.1, by omega⟩ ⟨h2, by omega⟩)
      exact ⟨g1, g2, g3, by simp only at g4 ⊢; omega⟩
    · simp
theorem opt_pres {p : LF} (hp : Pres p) {tu : Int} (h0 : 0 ≤ tu) : ∀ (n : Nat) (t : Int) (l : List St), Inv l → tu < l.length → 0 ≤ t → t < l.length → Inv (optF p tu n t l).2 ∧ 0 ≤ (optF p tu n t l).1 ∧ (optF p tu n t l).1 < (optF p tu n t l).2.length ∧ l.length ≤ (optF p tu n t l).2.length
  | 0, t, l, hI, _, h1, h2 => by rw [optF]; exact ⟨hI, h1, h2, Nat.le_refl _⟩
  | n + 1, t, l, hI, ht, h1, h2 => by
    obtain ⟨a1, a2, a3, a4⟩ := hp t l hI h1 h2
    obtain ⟨g1, g2, g3, g4⟩ := push_pres (tu := 0) a1 (splitS (p t l).1 tu) (splitS_ok ⟨a2, by omega⟩ ⟨h0, by omega⟩)
    obtain ⟨b1, b2, b3, b4⟩ := opt_pres hp h0 n _ _ g1 (by omega) g2 g3
    rw [optF]
    exact ⟨b1, b2, b3, by omega⟩
theorem min_pres {p : LF} (hp : Pres p) : ∀ n, Pres (minF p n)
  | 0, t, l, hI, h1, h2 => by rw [minF]; exact ⟨hI, h1, h2, Nat.le_refl _⟩
  | n + 1, t, l, hI, h1, h2 => by
    obtain ⟨a1, a2, a3, a4⟩ := hp t l hI h1 h2
    rw [minF]
    split
    · exact ⟨a1, a2, a3, a4⟩
    · obtain ⟨b1, b2, b3, b4⟩ := min_pres hp n _ _ a1 a2 a3
      exact ⟨b1, b2, b3, by omega⟩
theorem setNx_inv {l : List St} (h : Inv l) {i : Nat} (hi : i ≠ 0) {x : Int} (hx : 0 ≤ x ∧ x < l.length) : Inv (setNx l i x) := by
  have hl : (setNx l i x).length = l.length := by simp [setNx]
  refine ⟨?_, fun j s hj h0 => ?_⟩
  · simp only [setNx, List.getElem?_modify, if_neg hi]
    rw [h.zero]; rfl
  · rw [hl]
    rw [setNx, List.getElem?_modify] at hj
    split at hj
    · obtain ⟨y, hy, rfl⟩ := Option.map_eq_some_iff.1 hj
      have := h.rest j y hy h0
      exact ⟨this.k, hx, this.ot, this.set⟩
    · exact h.rest j s (by simpa using hj) h0
theorem star_pres {p : LF} (hp : Pres p) : Pres (starF p) := fun tu l hI h1 h2 => by
  have hpos := hI.pos
  obtain ⟨g1, g2, g3, g4⟩ := push_pres (tu := 0) hI (splitS 0 tu) (splitS_ok ⟨by omega, by omega⟩ ⟨h1, by omega⟩)
  obtain ⟨a1, a2, a3, a4⟩ := hp l.length _ g1 g2 g3
  simp only [List.length_append, List.length_cons, List.length_nil] at a4
  refine ⟨setNx_inv a1 (by omega) ⟨a2, a3⟩, by simp only [starF]; omega, ?_, ?_⟩
  · simp only [starF, setNx, List.length_modify]; omega
  · simp only [starF, setNx, List.length_modify]; omega
theorem rep_pres {p : LF} (hp : Pres p) (mn mx : Int) : Pres (repF mn mx p) := fun tu l hI h1 h2 => by
  unfold repF
  simp only
  split
  · obtain ⟨a1, a2, a3, a4⟩ := star_pres hp tu l hI h1 h2
    obtain ⟨b1, b2, b3, b4⟩ := min_pres hp mn.toNat _ _ a1 a2 a3
    exact ⟨b1, b2, b3, by omega⟩
  · obtain ⟨a1, a2, a3, a4⟩ := opt_pres hp h1 (mx - mn).toNat tu l hI h2 h1 h2
    obtain ⟨b1, b2, b3, b4⟩ := min_pres hp mn.toNat _ _ a1 a2 a3
    exact ⟨b1, b2, b3, by omega⟩
theorem row_pres : ∀ (ps : List T), (∀ p ∈ ps, Pres (layF p)) → Pres (rowF ps)
  | [], _, tu, l, hI, h1, h2 => by rw [rowF]; exact ⟨hI, h1, h2, Nat.le_refl _⟩
  | p :: ps, h, tu, l, hI, h1, h2 => by
    obtain ⟨a1, a2, a3, a4⟩ := row_pres ps (fun q hq => h q (List.mem_cons_of_mem _ hq)) tu l hI h1 h2
    obtain ⟨b1, b2, b3, b4⟩ := h p (List.mem_cons_self ..) _ _ a1 a2 a3
    rw [rowF]
    exact ⟨b1, b2, b3, by omega⟩
theorem beg_pres : ∀ (ps : List T), (∀ p ∈ ps, Pres (layF p)) → ∀ (tu : Int) (l : List St), Inv l → 0 ≤ tu → tu < l.length → Inv (begF ps tu l).2 ∧ (∀ b ∈ (begF ps tu l).1, 0 ≤ b ∧ b < (begF ps tu l).2.length) ∧ l.length ≤ (begF ps tu l).2.length
  | [], _, tu, l, hI, h1, h2 => by rw [begF]; exact ⟨hI, fun b hb => (List.not_mem_nil hb).elim, Nat.le_refl _⟩
  | p :: ps, h, tu, l, hI, h1, h2 => by
    obtain ⟨a1, a2, a3, a4⟩ := h p (List.mem_cons_self ..) tu l hI h1 h2
    obtain ⟨b1, b2, b3⟩ := beg_pres ps (fun q hq => h q (List.mem_cons_of_mem _ hq)) tu _ a1 h1 (by omega)
    rw [begF]
    refine ⟨b1, fun b hb => ?_, by simp only; omega⟩
    cases hb with
    | head => simp only; omega
    | tail _ hb => exact b2 b hb
theorem lay_pres (t : T) : rightF t = true → Pres (layF t) := by
  induction t using T.ind with
  | h t ih =>
    intro hr tu l hI h1 h2
    have hps : ∀ p ∈ t.ps, Pres (layF p) := fun p hp => ih p hp (right_parts hr p hp)
    rw [layF_eq]
    rcases right_cases hr with ⟨hk, h⟩ | ⟨hk, h⟩ | ⟨hk, h⟩ | ⟨hk, h⟩ | ⟨hk, h⟩ | ⟨hk, h⟩ | ⟨hk, h⟩
    · simp only [hk]; simp; exact ⟨hI, h1, h2⟩
    · simp only [hk, if_true]
      exact push_pres (tu := 0) hI _ ⟨.inl rfl, ⟨h1, by simp only; omega⟩, ⟨fun e => by simp at e, fun _ => rfl⟩, fun e => absurd rfl e⟩
    · simp only [hk, show ¬ ((2 : Int) = 1) by omega, if_true, if_false]
      exact push_pres (tu := 0) hI _ ⟨.inr (.inr (.inl rfl)), ⟨h1, by simp only; omega⟩, ⟨fun e => by simp at e, fun _ => rfl⟩, fun _ => ⟨rfl, rfl, rfl, rfl⟩⟩
    · simp only [hk, show ¬ ((3 : Int) = 1) by omega, show ¬ ((3 : Int) = 2) by omega, if_true, if_false]
      exact push_pres (tu := 0) hI _ ⟨.inr (.inr (.inr rfl)), ⟨h1, by simp only; omega⟩, ⟨fun e => by simp at e, fun _ => rfl⟩, fun _ => ⟨rfl, rfl, rfl, rfl⟩⟩
    · simp only [hk, show ¬ ((4 : Int) = 1) by omega, show ¬ ((4 : Int) = 2) by omega, show ¬ ((4 : Int) = 3) by omega, if_true, if_false]
      exact row_pres t.ps hps tu l hI h1 h2
    · simp only [hk, show ¬ ((5 : Int) = 1) by omega, show ¬ ((5 : Int) = 2) by omega, show ¬ ((5 : Int) = 3) by omega, show ¬ ((5 : Int) = 4) by omega, if_true, if_false]
      obtain ⟨b1, b2, b3⟩ := beg_pres t.ps hps tu l hI h1 h2
      have hne : (begF t.ps tu l).1 ≠ [] := fun e => by have := begF_len t.ps tu l; rw [e] at this; simp at this; omega
      obtain ⟨c1, c2, c3, c4⟩ := splits_pres _ _ hne b1 b2
      exact ⟨c1, c2, c3, by omega⟩
    · simp only [hk, show ¬ ((6 : Int) = 1) by omega, show ¬ ((6 : Int) = 2) by omega, show ¬ ((6 : Int) = 3) by omega, show ¬ ((6 : Int) = 4) by omega, show ¬ ((6 : Int) = 5) by omega, if_true, if_false]
      obtain ⟨p, hp, hh⟩ := headF_eq t.ps h.1
      rw [hh]
      exact rep_pres (hps p (by rw [hp]; exact List.mem_cons_self ..)) _ _ tu l hI h1 h2
theorem make_inv {t : T} (h : sizeE t = 0) : Inv (makeL t) ∧ 0 ≤ makeS t ∧ makeS t < (makeL t).length := by
  have hr := (sizeE_zero h).1
  rw [makeL, makeS, if_pos h, if_pos h]
  obtain ⟨a1, a2, a3, a4⟩ := lay_pres t hr 0 [⟨5, 0, 0, 0, 0, 0, 0⟩] ⟨rfl, fun i s hi h0 => by
    have := (List.getElem?_eq_some_iff.1 hi).1
    simp at this
    exact absurd this h0⟩ (by omega) (by simp)
  exact ⟨a1, a2, a3⟩
theorem make_check {t : T} (h : sizeE t = 0) : mcheck (makeL t) (makeS t) = 0 := by
  obtain ⟨hI, h1, h2⟩ := make_inv h
  have hle := makeL_le t
  rw [mcheck, if_pos ⟨by omega, by simp [inR]; omega⟩, if_pos]
  rw [List.all_eq_true]
  intro s hs
  obtain ⟨i, hi, rfl⟩ := List.getElem_of_mem hs
  by_cases h0 : i = 0
  · subst h0
    have hz := hI.zero
    rw [List.getElem?_eq_getElem hi] at hz
    simp only [Option.some.injEq] at hz
    rw [hz]; rfl
  · have ho := hI.rest i _ (List.getElem?_eq_getElem hi) h0
    have hnx : inR (makeL t).length (makeL t)[i].nx = true := by simp [inR]; exact ho.nx
    unfold okSt
    rcases ho.k with e | e | e | e
    · rw [if_neg (by omega), if_pos (by omega)]; exact hnx
    · have hot : inR (makeL t).length (makeL t)[i].ot = true := by simp [inR]; exact ho.ot.1 e
      rw [if_neg (by omega), if_neg (by omega), if_pos e, hnx, hot]; rfl
    · rw [if_neg (by omega), if_pos (by omega)]; exact hnx
    · rw [if_neg (by omega), if_pos (by omega)]; exact hnx
end Go.Proofs.Ytdpmbanfaigmcaa

/- The matcher goes over just the ways of its machine; of a tree's machine: over what the tree describes. Plain. -/
set_option linter.unusedVariables false
set_option linter.unusedSimpArgs false
namespace Go.Proofs.Ytdpmbanfaigmcaa
open Go.RowKit

def setF (l : List St) (sa : Int) (subj : List UInt8) : Nat → List Nat
  | 0 => stepF l sa subj 0 []
  | j + 1 => stepF l sa subj (j + 1) (setF l sa subj j)
theorem Rch.pth {l : List St} {s : List UInt8} {x y i : Nat} (h : Rch l (i == 0) (i == s.length) x y) : Pth (stN l) s x i y i := by
  induction h with
  | refl => exact .refl _ _
  | step _ hk ih => exact ih.trans (Pth.eps1 hk)
theorem step_mem {l : List St} {sa : Int} (hm : MOk l sa) (subj : List UInt8) (at_ : Nat) {now : List Nat} (hl : ∀ x ∈ now, x < l.length) :
    Good l (at_ == 0) (at_ == subj.length) (stepF l sa subj at_ now) ∧ ∀ y, y ∈ stepF l sa subj at_ now ↔ Rch l (at_ == 0) (at_ == subj.length) sa.toNat y ∨ ∃ i ∈ now, takes (stN l i) (byteN subj at_) = true ∧ Rch l (at_ == 0) (at_ == subj.length) (stN l i).nx.toNat y := by
  obtain ⟨g1, g2⟩ := add_spec (hm.outs (at_ == 0) (at_ == subj.length)) (good_nil l _ _) hm.start
  obtain ⟨h1, h2⟩ := foldF_spec hm _ _ (byteN subj at_) now _ hl g1
  refine ⟨h1, fun y => ?_⟩
  unfold stepF
  rw [h2 y, g2 y]
  simp
theorem set_good {l : List St} {sa : Int} (hm : MOk l sa) (subj : List UInt8) : ∀ j, Good l (j == 0) (j == subj.length) (setF l sa subj j) ∧ sa.toNat ∈ setF l sa subj j
  | 0 => by
    obtain ⟨h1, h2⟩ := step_mem hm subj 0 (now := []) (by simp)
    exact ⟨h1, (h2 _).2 (.inl .refl)⟩
  | j + 1 => by
    obtain ⟨h1, h2⟩ := step_mem hm subj (j + 1) (set_good hm subj j).1.lt
    exact ⟨h1, (h2 _).2 (.inl .refl)⟩
theorem set_way {l : List St} {sa : Int} (hm : MOk l sa) (subj : List UInt8) {m x i y j : Nat} (h : PthN (stN l) subj m x i y j) : x ∈ setF l sa subj i → y ∈ setF l sa subj j := by
  induction h with
  | refl => exact id
  | @eps m x i z y k he _ ih => exact fun hx => ih ((set_good hm subj i).1.closed x hx z he)
  | @eat m x i y k hi he _ ih =>
    intro hx
    refine ih ?_
    have := (step_mem hm subj (i + 1) (set_good hm subj i).1.lt).2
    exact (this _).2 (.inr ⟨x, hx, he, .refl⟩)
theorem set_from {l : List St} {sa : Int} (hm : MOk l sa) (subj : List UInt8) : ∀ j, j ≤ subj.length → ∀ y, y ∈ setF l sa subj j → ∃ i, i ≤ j ∧ Pth (stN l) subj sa.toNat i y j
  | 0, _, y, hy => by
    have := ((step_mem hm subj 0 (now := []) (by simp)).2 y).1 hy
    rcases this with h | ⟨i, hi, _⟩
    · exact ⟨0, Nat.le_refl _, h.pth⟩
    · cases hi
  | j + 1, hj, y, hy => by
    have := ((step_mem hm subj (j + 1) (set_good hm subj j).1.lt).2 y).1 hy
    rcases this with h | ⟨x, hx, ht, h⟩
    · exact ⟨j + 1, Nat.le_refl _, h.pth⟩
    · obtain ⟨i, hi, hp⟩ := set_from hm subj j (by omega) x hx
      have h1 : Pth (stN l) subj x j (stN l x).nx.toNat (j + 1) := ⟨1, .eat (by omega) ht (.refl _ _)⟩
      exact ⟨i, by omega, (hp.trans h1).trans h.pth⟩
theorem over_found {l : List St} {sa : Int} (subj : List UInt8) : ∀ (k at_ : Nat) (now : List Nat) (s : Int), stepF l sa subj at_ now = setF l sa subj at_ → ((overF l sa subj k at_ now s).1 = true ↔ ∃ j, at_ ≤ j ∧ j < at_ + k ∧ doneF l (setF l sa subj j) = true)
  | 0, at_, now, s, _ => by
    rw [overF]
    exact ⟨fun h => (Bool.false_ne_true h).elim, fun ⟨j, h1, h2, _⟩ => by omega⟩
  | k + 1, at_, now, s, hs => by
    rw [overF, hs]
    split
    · rename_i hd
      exact ⟨fun _ => ⟨at_, Nat.le_refl _, by omega, hd⟩, fun _ => rfl⟩
    · rename_i hd
      rw [over_found subj k (at_ + 1) _ _ rfl]
      constructor
      · rintro ⟨j, h1, h2, h3⟩; exact ⟨j, by omega, by omega, h3⟩
      · rintro ⟨j, h1, h2, h3⟩
        have : j ≠ at_ := fun e => by subst e; exact hd h3
        exact ⟨j, by omega, by omega, h3⟩
/-- Found: there is a way tu an end. -/
theorem found_way {l : List St} {sa : Int} (hm : MOk l sa) (subj : List UInt8) : (overF l sa subj (subj.length + 1) 0 [] 0).1 = true ↔ ∃ i j y, j ≤ subj.length ∧ y < l.length ∧ (stN l y).k = 5 ∧ Pth (stN l) subj sa.toNat i y j := by
  rw [over_found subj _ _ _ _ rfl]
  constructor
  · rintro ⟨j, _, h2, h3⟩
    unfold doneF at h3
    rw [List.any_eq_true] at h3
    obtain ⟨y, hy, hk⟩ := h3
    obtain ⟨i, _, hp⟩ := set_from hm subj j (by omega) y hy
    exact ⟨i, j, y, by omega, (set_good hm subj j).1.lt y hy, by simpa using hk, hp⟩
  · rintro ⟨i, j, y, h1, _, h2, m, hp⟩
    refine ⟨j, by omega, by omega, ?_⟩
    unfold doneF
    rw [List.any_eq_true]
    exact ⟨y, set_way hm subj hp (set_good hm subj i).2, by simpa using h2⟩
/-- Of a tree's machine: the tree describes a piece. -/
theorem found_iff {t : T} (h : sizeE t = 0) (subj : List UInt8) : (overF (makeL t) (makeS t) subj (subj.length + 1) 0 [] 0).1 = true ↔ ∃ i j, i ≤ subj.length ∧ den subj t i j := by
  have hm := mok_of (make_check h)
  obtain ⟨hI, _, _⟩ := make_inv h
  have hz := hI.zero
  have hI1 := lay_impl subj t (sizeE_zero h).1
  have e1 : makeL t = (layF t 0 [⟨5, 0, 0, 0, 0, 0, 0⟩]).2 := if_pos h
  have e2 : makeS t = (layF t 0 [⟨5, 0, 0, 0, 0, 0, 0⟩]).1 := if_pos h
  have h0 : stN (makeL t) 0 = ⟨5, 0, 0, 0, 0, 0, 0⟩ := by unfold stN; rw [List.getD_eq_getElem?_getD, hz]; rfl
  have hag : Agr (stN (makeL t)) (layF t 0 [⟨5, 0, 0, 0, 0, 0, 0⟩]).2 ([⟨5, 0, 0, 0, 0, 0, 0⟩] : List St).length := fun i _ _ => by rw [e1]
  rw [found_way hm]
  constructor
  · rintro ⟨i, j, y, h1, h2, h3, m, hp⟩
    have hy : y = 0 := by
      rcases Nat.eq_zero_or_pos y with e | e
      · exact e
      · have hg : (makeL t)[y]? = some (makeL t)[y] := List.getElem?_eq_getElem h2
        have := (hI.rest y _ hg (by omega)).k
        have e3 : stN (makeL t) y = (makeL t)[y] := by unfold stN; rw [List.getD_eq_getElem?_getD, hg]; rfl
        rw [e3] at h3
        omega
    subst hy
    have hij := hp.le
    rw [e2] at hp
    obtain ⟨k, m', _, hr, _⟩ := hI1.sound 0 _ (Int.le_refl _) (by simp) _ hag m i 0 j (.inl (by simp)) hp
    exact ⟨i, k, by omega, hr⟩
  · rintro ⟨i, j, hi, hd⟩
    have hp := hI1.comp 0 _ (Int.le_refl _) (by simp) _ hag i j hd
    rw [← e2] at hp
    obtain ⟨m, hp⟩ := hp
    exact ⟨i, j, 0, hp.bd hi, hI.pos, by rw [h0], m, hp⟩
end Go.Proofs.Ytdpmbanfaigmcaa

/- Patterns joined: what is found. Plain. -/
set_option linter.unusedVariables false
set_option linter.unusedSimpArgs false
namespace Go.Proofs.Ytdpmbanfaigmcaa
open Go.RowKit

theorem has_make2 {t : T} (h : sizeE t = 0) (subj : Bs) (hl : subj.length ≤ 65536) : (hasF (makeL t) (makeS t) subj).2.2 = 0 ∧ ((hasF (makeL t) (makeS t) subj).1 = true ↔ ∃ i j, i ≤ subj.length ∧ den subj t i j) := by
  have hck := make_check h
  have hres : hasF (makeL t) (makeS t) subj = ((overF (makeL t) (makeS t) subj (subj.length + 1) 0 [] 0).1, (overF (makeL t) (makeS t) subj (subj.length + 1) 0 [] 0).2, 0) := by rw [hasF, if_neg (by simpa using hck), if_neg (by omega)]
  rw [hres]
  exact ⟨rfl, found_iff h subj⟩
theorem find_ok {p : Bs} {t : T} (hp : parseP p = .ok t) (hs : sizeE t = 0) (s : Bs) (hl : s.length ≤ 65536) : (findF p s).2.2 = 0 ∧ ((findF p s).1 = true ↔ ∃ i j, i ≤ s.length ∧ den s t i j) := by
  have e1 : compE p = 0 := by unfold compE; rw [hp]; exact hs
  have e2 : compL p = makeL t := by unfold compL; rw [hp]
  have e3 : compS p = makeS t := by unfold compS; rw [hp]
  have hf : findF p s = hasF (makeL t) (makeS t) s := by unfold findF; rw [if_neg (by simpa using e1), e2, e3]
  rw [hf]
  exact has_make2 hs s hl
theorem find_zero {p s : Bs} (h : (findF p s).2.2 = 0) : ∃ t, parseP p = .ok t ∧ sizeE t = 0 := by
  cases hp : parseP p with
  | ok t =>
    refine ⟨t, rfl, ?_⟩
    by_cases hc : compE p = 0
    · unfold compE at hc; rw [hp] at hc; exact hc
    · have hf : findF p s = (false, 0, compE p) := by unfold findF; rw [if_pos hc]
      rw [hf] at h
      exact absurd h hc
  | error e =>
    exfalso
    by_cases hc : compE p = 0
    · have e2 : compL p = [] := by unfold compL; rw [hp]
      have e3 : compS p = 0 := by unfold compS; rw [hp]
      have hf : findF p s = (false, 0, 110) := by
        unfold findF
        rw [if_neg (by simpa using hc), e2, e3]
        rfl
      rw [hf] at h
      cases h
    · have hf : findF p s = (false, 0, compE p) := by unfold findF; rw [if_pos hc]
      rw [hf] at h
      exact hc h
theorem find_lim {p : Bs} {t : T} (hp : parseP p = .ok t) (hr : rightF t = true) (s : Bs) : sizeE t = 0 ∨ (findF p s).2.2 = 3 := by
  have hc : compE p = sizeE t := by unfold compE; rw [hp]
  by_cases h0 : sizeE t = 0
  · exact .inl h0
  · refine .inr ?_
    have hf : findF p s = (false, 0, compE p) := by unfold findF; rw [if_pos (by rw [hc]; exact h0)]
    rw [hf, hc]
    show sizeE t = 3
    have e : checkF t = 0 ∨ checkF t = 3 := by
      unfold checkF
      rw [if_pos hr]
      split
      · exact .inr rfl
      · exact .inl rfl
    unfold sizeE at h0 ⊢
    rcases e with e | e
    · rw [e] at h0 ⊢
      rw [if_neg (by simp)] at h0 ⊢
      split
      · rfl
      · rename_i h2; rw [if_neg h2] at h0; exact absurd rfl h0
    · rw [e, if_pos (by decide)]
theorem find_err {p s : Bs} (hp : parseP p = .error 3) : (findF p s).2.2 = 3 := by
  have hc : compE p = 3 := by unfold compE; rw [hp]
  unfold findF
  rw [if_pos (by rw [hc]; decide), hc]
/-- A joined pattern: beyond a limit, or it is found so. -/
theorem find_join {p : Bs} {t : T} (hp : parseP p = .ok t ∨ parseP p = .error 3) (hr : rightF t = true) (s : Bs) (hl : s.length ≤ 65536) (v : Bool) (hv : (∃ i j, i ≤ s.length ∧ den s t i j) ↔ v = true) :
    (findF p s).2.2 = 3 ∨ ((findF p s).2.2 = 0 ∧ (findF p s).1 = v) := by
  rcases hp with hp | hp
  · rcases find_lim hp hr s with h | h
    · obtain ⟨r1, r2⟩ := find_ok hp h s hl
      exact .inr ⟨r1, by rw [Bool.eq_iff_iff, r2, hv]⟩
    · exact .inl h
  · exact .inl (find_err hp)
theorem right_rep {m n : Int} {x : T} (hx : rightF x = true) (h0 : 0 ≤ m) (h1 : max m n ≤ 255) (h2 : n = -1 ∨ m ≤ n) : rightF (repT m n x) = true := by
  unfold repT
  rw [rightF]
  rw [if_neg (by simp), if_neg (by decide), if_neg (by decide), if_pos rfl, if_neg (by simp; omega)]
  simp [rightL, hx]
theorem den_rep {s : Bs} {m n : Int} {x : T} {i j : Nat} : den s (repT m n x) i j ↔ ∃ k : Nat, m.toNat ≤ k ∧ (n < 0 ∨ k ≤ n.toNat) ∧ powR (den s x) k i j := by
  unfold repT
  rw [den]
  simp [denHead]
theorem joins_plain {a b s : Bs} (la : a.length ≤ 300) (lb : b.length ≤ 300) (ls : s.length ≤ 60) (ha : (findF a s).2.2 = 0) (hb : (findF b s).2.2 = 0) :
    ((findF (40 :: (a ++ 41 :: (124 :: 40 :: (b ++ [41])))) s).2.2 = 3 ∨ ((findF (40 :: (a ++ 41 :: (124 :: 40 :: (b ++ [41])))) s).2.2 = 0 ∧ (findF (40 :: (a ++ 41 :: (124 :: 40 :: (b ++ [41])))) s).1 = ((findF a s).1 || (findF b s).1))) ∧
    ((findF (40 :: (a ++ 41 :: [123, 49, 125])) s).2.2 = 3 ∨ ((findF (40 :: (a ++ 41 :: [123, 49, 125])) s).2.2 = 0 ∧ (findF (40 :: (a ++ 41 :: [123, 49, 125])) s).1 = (findF a s).1)) ∧
    ((findF (40 :: (a ++ 41 :: [43])) s).2.2 = 3 ∨ ((findF (40 :: (a ++ 41 :: [43])) s).2.2 = 0 ∧ (findF (40 :: (a ++ 41 :: [43])) s).1 = (findF a s).1)) ∧
    ((findF (40 :: (b ++ 41 :: [63])) s).2.2 = 3 ∨ ((findF (40 :: (b ++ 41 :: [63])) s).2.2 = 0 ∧ (findF (40 :: (b ++ 41 :: [63])) s).1 = true)) := by
  obtain ⟨x, hx, sx⟩ := find_zero ha
  obtain ⟨y, hy, sy⟩ := find_zero hb
  have rx := (sizeE_zero sx).1
  have ry := (sizeE_zero sy).1
  obtain ⟨_, fx⟩ := find_ok hx sx s (by omega)
  obtain ⟨_, fy⟩ := find_ok hy sy s (by omega)
  refine ⟨find_join (t := .mk 5 0 0 0 0 0 0 [x, y]) (parse_alt hx hy (by omega)) ?_ s (by omega) _ ?_, find_join (t := repT 1 1 x) (parse_times (q := [123, 49, 125]) hx (by simp; omega) (fun k t => suf_once k t)) (right_rep rx (by decide) (by decide) (.inr (by decide))) s (by omega) _ ?_,
    find_join (t := repT 1 (-1) x) (parse_times (q := [43]) hx (by simp; omega) (fun k t => suf_plus k t)) (right_rep rx (by decide) (by decide) (.inl rfl)) s (by omega) _ ?_, find_join (t := repT 0 1 y) (parse_times (q := [63]) hy (by simp; omega) (fun k t => suf_quest k t)) (right_rep ry (by decide) (by decide) (.inr (by decide))) s (by omega) _ ?_⟩
  · rw [rightF]
    simp [rightL, rx, ry]
  · rw [Bool.or_eq_true, fx, fy]
    have e : ∀ i j, den s (.mk 5 0 0 0 0 0 0 [x, y]) i j ↔ den s x i j ∨ den s y i j := fun i j => by rw [den]; simp [denAlt]
    constructor
    · rintro ⟨i, j, hi, h⟩
      rcases (e i j).1 h with h | h
      · exact .inl ⟨i, j, hi, h⟩
      · exact .inr ⟨i, j, hi, h⟩
    · rintro (⟨i, j, hi, h⟩ | ⟨i, j, hi, h⟩)
      · exact ⟨i, j, hi, (e i j).2 (.inl h)⟩
      · exact ⟨i, j, hi, (e i j).2 (.inr h)⟩
  · rw [fx]
    constructor
    · rintro ⟨i, j, hi, h⟩
      obtain ⟨k, h1, h2, h3⟩ := den_rep.1 h
      have : k = 1 := by have : (1 : Int).toNat = 1 := rfl; omega
      subst this
      obtain ⟨m, h4, h5⟩ := h3
      have h5 : m = j := h5
      subst h5
      exact ⟨i, _, hi, h4⟩
    · rintro ⟨i, j, hi, h⟩
      exact ⟨i, j, hi, den_rep.2 ⟨1, Nat.le_refl _, .inr (Nat.le_refl _), j, h, rfl⟩⟩
  · rw [fx]
    constructor
    · rintro ⟨i, j, hi, h⟩
      obtain ⟨k, h1, h2, h3⟩ := den_rep.1 h
      obtain ⟨k', rfl⟩ : ∃ k', k = k' + 1 := ⟨k - 1, by have : (1 : Int).toNat = 1 := rfl; omega⟩
      obtain ⟨m, h4, h5⟩ := h3
      exact ⟨i, m, hi, h4⟩
    · rintro ⟨i, j, hi, h⟩
      exact ⟨i, j, hi, den_rep.2 ⟨1, Nat.le_refl _, .inl (by decide), j, h, rfl⟩⟩
  · refine ⟨fun _ => rfl, fun _ => ⟨0, 0, Nat.zero_le _, den_rep.2 ⟨0, Nat.le_refl _, .inr (Nat.zero_le _), rfl⟩⟩⟩
end Go.Proofs.Ytdpmbanfaigmcaa

/- The law MatchJoins: walked. -/
set_option linter.unusedVariables false
set_option linter.unusedSimpArgs false
namespace Go.Proofs.Ytdpmbanfaigmcaa
open Go.RowKit

theorem bs_cat (a b : Bs) : bs a ++ bs b = bs (a ++ b) := by
  apply ByteArray.ext
  simp [bs]
theorem find_any2 (s subj : Bs) (w : World) (hM : MaxOk w) :
    Calls Try.prog 37 #[.string (bs s), .string (bs subj)] w fun en w' => en = .returned (.tuple #[.bool (findF s subj).1, .int .i64 (findF s subj).2.1, .int .i64 (findF s subj).2.2]) ∧ Below w.heap.size w w' := find_any s subj w hM (fun _ => brC) (fun _ => dotC)
set_option maxRecDepth 100000 in
set_option maxHeartbeats 8000000 in
theorem mjoins_any (w : World) (hM : MaxOk w) (a : Bs) (hal : a.length ≤ maxLen) (b : Bs) (hbl : b.length ≤ maxLen) (s : Bs) (hsl : s.length ≤ maxLen) :
    Calls Try.prog 11 #[.string (bs a), .string (bs b), .string (bs s)] w fun e w' => e = .returned (.bool true) ∧ Below w.heap.size w w' := by
  unfold maxLen at hal hbl hsl
  have hsz0 : (bs a).size = a.length := by simp [bs, ByteArray.size]
  have hsz1 : (bs b).size = b.length := by simp [bs, ByteArray.size]
  have hsz2 : (bs s).size = s.length := by simp [bs, ByteArray.size]
  by_cases b1 : 300 < (a.length : Int)
  · go_enter Try.func11, Try.ntmps11
    go_wp2_with fail
    exact bodyPost_ret (v := .bool true) (by simp [results, Try.results11, go_sem]) rfl ⟨rfl, Below.refl _ _⟩
  by_cases b2 : 300 < (b.length : Int)
  · go_enter Try.func11, Try.ntmps11
    go_wp2_with fail
    exact bodyPost_ret (v := .bool true) (by simp [results, Try.results11, go_sem]) rfl ⟨rfl, Below.refl _ _⟩
  by_cases b3 : 60 < (s.length : Int)
  · go_enter Try.func11, Try.ntmps11
    go_wp2_with fail
    exact bodyPost_ret (v := .bool true) (by simp [results, Try.results11, go_sem]) rfl ⟨rfl, Below.refl _ _⟩
  have HM := Lib.hid hM; clear hM
  go_enter Try.func11, Try.ntmps11
  go_wp2_with fail
  refine (find_any2 a s w HM.out).mono ?_
  rintro en w1 ⟨rfl, hb1⟩
  have HB1 := Lib.hid hb1; clear hb1
  have hj := fun ha hb => joins_plain (a := a) (b := b) (s := s) (by omega) (by omega) (by omega) ha hb
  obtain ⟨fa, hfa⟩ : ∃ f, f = findF a s := ⟨_, rfl⟩
  obtain ⟨fb, hfb⟩ : ∃ f, f = findF b s := ⟨_, rfl⟩
  rw [← hfa, ← hfb] at hj
  rw [← hfa]
  have Hfb := Lib.hid hfb
  clear hfa hfb
  obtain ⟨x, xs, e⟩ := fa
  obtain ⟨y, ys, f⟩ := fb
  have HJ := Lib.hid hj; clear hj
  simp only
  go_wp2_with fail
  refine (find_any2 b s w1 (HM.out.later HB1.out)).mono ?_
  rintro en w2 ⟨rfl, hb2⟩
  have HB2 := Lib.hid (HB1.out.step hb2); clear hb2 HB1
  rw [← Hfb.out]
  simp only
  by_cases he : e = 0
  case' neg =>
    have heb : (e != 0) = true := by simpa using he
    go_wp2_with fail
    refine (works12_any w2 (HM.out.later HB2.out)).mono ?_
    rintro en w3 ⟨rfl, hb3⟩
    go_wp2_with fail
    exact bodyPost_ret (v := .bool true) (by simp [results, Try.results11, go_sem]) rfl ⟨rfl, HB2.out.step hb3⟩
  subst he
  by_cases hf : f = 0
  case' neg =>
    have hfb : (f != 0) = true := by simpa using hf
    go_wp2_with fail
    refine (works12_any w2 (HM.out.later HB2.out)).mono ?_
    rintro en w3 ⟨rfl, hb3⟩
    go_wp2_with fail
    exact bodyPost_ret (v := .bool true) (by simp [results, Try.results11, go_sem]) rfl ⟨rfl, HB2.out.step hb3⟩
  subst hf
  obtain ⟨j1, j2, j3, j4⟩ := HJ.out rfl rfl
  clear HJ Hfb
  have c1 : bs [40] ++ bs a = bs (40 :: a) := bs_cat _ _
  have c2 : bs (40 :: a) ++ bs [41, 124, 40] = bs (40 :: (a ++ [41, 124, 40])) := bs_cat _ _
  have c3 : bs (40 :: (a ++ [41, 124, 40])) ++ bs b = bs (40 :: (a ++ 41 :: 124 :: 40 :: b)) := (bs_cat _ _).trans (by simp)
  have c4 : bs (40 :: (a ++ 41 :: 124 :: 40 :: b)) ++ bs [41] = bs (40 :: (a ++ 41 :: (124 :: 40 :: (b ++ [41])))) := (bs_cat _ _).trans (by simp)
  have c5 : bs (40 :: a) ++ bs [41, 123, 49, 125] = bs (40 :: (a ++ 41 :: [123, 49, 125])) := bs_cat _ _
  have c6 : bs (40 :: a) ++ bs [41, 43] = bs (40 :: (a ++ 41 :: [43])) := bs_cat _ _
  have c7 : bs [40] ++ bs b = bs (40 :: b) := bs_cat _ _
  have c8 : bs (40 :: b) ++ bs [41, 63] = bs (40 :: (b ++ 41 :: [63])) := bs_cat _ _
  have J1 := Lib.hid j1; have J2 := Lib.hid j2; have J3 := Lib.hid j3; have J4 := Lib.hid j4
  clear j1 j2 j3 j4
  go_wp2_with fail
  refine (find_any2 (40 :: (a ++ 41 :: (124 :: 40 :: (b ++ [41])))) s w2 (HM.out.later HB2.out)).mono ?_
  rintro en w3 ⟨rfl, hb3⟩
  have HB3 := Lib.hid (HB2.out.step hb3); clear hb3 HB2
  generalize findF (40 :: (a ++ 41 :: (124 :: 40 :: (b ++ [41])))) s = F1 at *
  obtain ⟨r1, s1, e1⟩ := F1
  simp only
  go_wp2_with fail
  refine (find_any2 (40 :: (a ++ 41 :: [123, 49, 125])) s w3 (HM.out.later HB3.out)).mono ?_
  rintro en w4 ⟨rfl, hb4⟩
  have HB4 := Lib.hid (HB3.out.step hb4); clear hb4 HB3
  generalize findF (40 :: (a ++ 41 :: [123, 49, 125])) s = F2 at *
  obtain ⟨r2, s2, e2⟩ := F2
  simp only
  go_wp2_with fail
  refine (find_any2 (40 :: (a ++ 41 :: [43])) s w4 (HM.out.later HB4.out)).mono ?_
  rintro en w5 ⟨rfl, hb5⟩
  have HB5 := Lib.hid (HB4.out.step hb5); clear hb5 HB4
  generalize findF (40 :: (a ++ 41 :: [43])) s = F3 at *
  obtain ⟨r3, s3, e3⟩ := F3
  simp only
  go_wp2_with fail
  refine (find_any2 (40 :: (b ++ 41 :: [63])) s w5 (HM.out.later HB5.out)).mono ?_
  rintro en w6 ⟨rfl, hb6⟩
  have HB6 := Lib.hid (HB5.out.step hb6); clear hb6 HB5
  generalize findF (40 :: (b ++ 41 :: [63])) s = F4 at *
  obtain ⟨r4, s4, e4⟩ := F4
  simp only
  have k1 := J1.out; have k2 := J2.out; have k3 := J3.out; have k4 := J4.out
  simp only at k1 k2 k3 k4
  clear J1 J2 J3 J4 c1 c2 c3 c4 c5 c6 c7 c8
  rcases k1 with rfl | ⟨rfl, q1⟩
  · go_wp2_with fail
    refine (works12_any w6 (HM.out.later HB6.out)).mono ?_
    rintro en w7 ⟨rfl, hb7⟩
    go_wp2_with fail
    exact bodyPost_ret (v := .bool true) (by simp [results, Try.results11, go_sem]) rfl ⟨rfl, HB6.out.step hb7⟩
  rcases k2 with rfl | ⟨rfl, q2⟩
  · go_wp2_with fail
    refine (works12_any w6 (HM.out.later HB6.out)).mono ?_
    rintro en w7 ⟨rfl, hb7⟩
    go_wp2_with fail
    exact bodyPost_ret (v := .bool true) (by simp [results, Try.results11, go_sem]) rfl ⟨rfl, HB6.out.step hb7⟩
  rcases k3 with rfl | ⟨rfl, q3⟩
  · go_wp2_with fail
    refine (works12_any w6 (HM.out.later HB6.out)).mono ?_
    rintro en w7 ⟨rfl, hb7⟩
    go_wp2_with fail
    exact bodyPost_ret (v := .bool true) (by simp [results, Try.results11, go_sem]) rfl ⟨rfl, HB6.out.step hb7⟩
  rcases k4 with rfl | ⟨rfl, q4⟩
  · go_wp2_with fail
    refine (works12_any w6 (HM.out.later HB6.out)).mono ?_
    rintro en w7 ⟨rfl, hb7⟩
    go_wp2_with fail
    exact bodyPost_ret (v := .bool true) (by simp [results, Try.results11, go_sem]) rfl ⟨rfl, HB6.out.step hb7⟩
  cases x <;> cases y
  all_goals
    subst q1; subst q2; subst q3; subst q4
    simp only [Bool.or_true, Bool.or_false, Bool.true_or, Bool.false_or]
    go_wp2_with fail
    refine (works12_any w6 (HM.out.later HB6.out)).mono ?_
    rintro en w7 ⟨rfl, hb7⟩
    go_wp2_with fail
    exact bodyPost_ret (v := .bool true) (by simp [results, Try.results11, go_sem]) rfl ⟨rfl, HB6.out.step hb7⟩
end Go.Proofs.Ytdpmbanfaigmcaa

/- Arguments opened: machines. -/
set_option linter.unusedVariables false
set_option linter.unusedSimpArgs false
namespace Go.Proofs.Ytdpmbanfaigmcaa
open Go.RowKit Go.ChangeShapes Go.WideShapes Go.Deep

theorem Try.cellsState : Try.prog.cellsOf 47 = 7 := by kernel_rfl
theorem Try.cellsSet : Try.prog.cellsOf 24 = 4 := by kernel_rfl
theorem Try.cellsInt : Try.prog.cellsOf 3 = 1 := by kernel_rfl
theorem Try.cellsU : Try.prog.cellsOf 22 = 1 := by kernel_rfl
theorem Try.cellsNfa : Try.prog.cellsOf 35 = 2 := by kernel_rfl
theorem Try.cellsSts : Try.prog.cellsOf 33 = 1 := by kernel_rfl
theorem Try.bytesState : Try.prog.bytesOf 47 = 56 := by kernel_rfl

theorem len2 {α : Type} {l : List α} (h : l.length = 2) : ∃ a b, l = [a, b] := by
  match l, h with
  | [a, b], _ => exact ⟨a, b, rfl⟩
theorem len4 {α : Type} {l : List α} (h : l.length = 4) : ∃ a b c d, l = [a, b, c, d] := by
  match l, h with
  | [a, b, c, d], _ => exact ⟨a, b, c, d, rfl⟩
theorem len7 {α : Type} {l : List α} (h : l.length = 7) : ∃ a b c d e f g, l = [a, b, c, d, e, f, g] := by
  match l, h with
  | [a, b, c, d, e, f, g], _ => exact ⟨a, b, c, d, e, f, g, rfl⟩
section
variable {H : Type} {enc : TypeId × Value → H} {P : Program} {tSt tSts tNfa tSet tI tU : TypeId} {w : World} {base : Nat} {spare : Nat → Bool} {held : Bool}
/-- What the program says of the types. -/
structure Types (P : Program) (tSt tSts tNfa tSet tI tU : TypeId) : Prop where
  set : P.underlying tSet = some (.array 4 tU)
  u : P.underlying tU = some (.int .u64)
  i : P.underlying tI = some (.int .i64)
  sts : P.underlying tSts = some (.slice tSt)
  st : ∃ f0 f1 f2 f3, P.underlying tSt = some (.struct #[f0, f1, f2, f3]) ∧ (f0.type = tI ∧ f0.offset = 0) ∧ (f1.type = tSet ∧ f1.offset = 1) ∧ (f2.type = tI ∧ f2.offset = 5) ∧ (f3.type = tI ∧ f3.offset = 6)
  nfa : ∃ f0 f1, P.underlying tNfa = some (.struct #[f0, f1]) ∧ (f0.type = tSts ∧ f0.offset = 0) ∧ (f1.type = tI ∧ f1.offset = 1)
  cSet : P.cellsOf tSet = 4
  cU : P.cellsOf tU = 1
  cI : P.cellsOf tI = 1
  cSts : P.cellsOf tSts = 1
  cSt : P.cellsOf tSt = 7
  cNfa : P.cellsOf tNfa = 2
  bSt : P.bytesOf tSt = 56
def WSt (s : St) : Prop := Wok ⟨s.s0, s.s1, s.s2, s.s3⟩
theorem open_set (K : Types P tSt tSts tNfa tSet tI tU) {fuel : Nat} {cs : List Value} {x : DataW H × List MemPlace} (h : DataW.trod enc P w base spare held fuel tSet cs = some x) :
    ∃ a b c d : Int, cs = [.int .u64 a, .int .u64 b, .int .u64 c, .int .u64 d] ∧ Wok ⟨a, b, c, d⟩ := by
  obtain ⟨xs, m, rfl, hx, hl, hxl, hi⟩ := DataW.trod_array K.set h
  rw [K.cSet] at hl
  rw [K.cU] at hi
  obtain ⟨c0, c1, c2, c3, rfl⟩ := len4 hl
  · clear h
    have g : ∀ (i : Nat) (v : Value), [c0, c1, c2, c3][i]? = some v → ∃ n, v = .int .u64 n ∧ In64 n := by
      intro i v hv
      have hi4 : i < 4 := (List.getElem?_eq_some_iff.1 hv).1
      have h1 := hi i hi4
      have hxi : xs[i]? = some (xs[i]'(by omega)) := List.getElem?_eq_getElem (by omega)
      rw [hxi] at h1
      obtain ⟨n, hn, _, hw⟩ := DataW.trod_int K.u h1
      refine ⟨n, ?_, in64_wf hw⟩
      have := congrArg (·[0]?) hn
      simpa [List.getElem?_take, List.getElem?_drop, hv] using this
    obtain ⟨a, rfl, ha⟩ := g 0 _ rfl
    obtain ⟨b, rfl, hb⟩ := g 1 _ rfl
    obtain ⟨c, rfl, hc⟩ := g 2 _ rfl
    obtain ⟨d, rfl, hd⟩ := g 3 _ rfl
    exact ⟨a, b, c, d, rfl, ha, hb, hc, hd⟩
theorem open_state (K : Types P tSt tSts tNfa tSet tI tU) {fuel : Nat} {cs : List Value} {x : DataW H × List MemPlace} (h : DataW.trod enc P w base spare held fuel tSt cs = some x) : ∃ s : St, cs = s.cells ∧ WSt s := by
  obtain ⟨f0, f1, f2, f3, hst, ⟨t0, o0⟩, ⟨t1, o1⟩, ⟨t2, o2⟩, t3, o3⟩ := K.st
  obtain ⟨xs, m, rfl, hx, hl, hxl, hi⟩ := DataW.trod_struct hst h
  rw [K.cSt] at hl
  have hxl4 : xs.length = 4 := hxl
  obtain ⟨c0, c1, c2, c3, c4, c5, c6, rfl⟩ := len7 hl
  · clear h
    have h0 := hi 0 f0 rfl
    have h1 := hi 1 f1 rfl
    have h2 := hi 2 f2 rfl
    have h3 := hi 3 f3 rfl
    rw [t0, o0, K.cI] at h0
    rw [t1, o1, K.cSet] at h1
    rw [t2, o2, K.cI] at h2
    rw [t3, o3, K.cI] at h3
    rw [List.getElem?_eq_getElem (by omega)] at h0 h1 h2 h3
    obtain ⟨k, hk, _⟩ := DataW.trod_int K.i h0
    obtain ⟨a, b, c, d, hs, hw⟩ := open_set K h1
    obtain ⟨nx, hn, _⟩ := DataW.trod_int K.i h2
    obtain ⟨ot, ho, _⟩ := DataW.trod_int K.i h3
    simp at hk hs hn ho
    obtain ⟨rfl, rfl, rfl, rfl⟩ := hs
    subst hk hn ho
    exact ⟨⟨k, a, b, c, d, nx, ot⟩, rfl, hw⟩
theorem open_nfaW (K : Types P tSt tSts tNfa tSet tI tU) {b0 : Nat} {v : Value} {d : DataW H} {p : List MemPlace} (hv : Value.okWide P w .any b0 tNfa v) (h : DataW.Trod enc P w base spare held tNfa v d p) (hz : ∀ n ∈ d.weights P tNfa, n ≤ reachBytes) :
    ∃ (l : List St) (sa : Int) (A : Option Addr) (c : Nat), v = nfaV l sa A c ∧ StsAt w (fun b => b < w.heap.size) l A c ∧ ∀ s ∈ l, WSt s := by
  obtain ⟨f0, f1, hst, ⟨t0, o0⟩, t1, o1⟩ := K.nfa
  obtain ⟨cs, rfl, hsz⟩ := okWide_struct hst hv
  rw [K.cNfa] at hsz
  obtain ⟨l⟩ := cs
  obtain ⟨c0, c1, rfl⟩ := len2 (l := l) hsz
  · clear hv
    obtain ⟨fuel, hf⟩ := h
    obtain ⟨xs, m, rfl, hx, hl, hxl, hi⟩ := DataW.trod_struct hst hf
    have hxl2 : xs.length = 2 := hxl
    have h0 := hi 0 f0 rfl
    have h1 := hi 1 f1 rfl
    rw [t0, o0, K.cSts] at h0
    rw [t1, o1, K.cI] at h1
    rw [List.getElem?_eq_getElem (by omega)] at h0 h1
    obtain ⟨sa, hs, _⟩ := DataW.trod_int K.i h1
    simp [Value.cells] at hs
    subst hs
    rcases open_slice K.sts h0 with ⟨hc, hx0⟩ | ⟨a, len, cap, mm, n, D, Pl, hc, hb, hlc, hcm, hmm, hx0, hel⟩
    · simp [Value.cells] at hc
      subst hc
      exact ⟨[], sa, none, 0, rfl, ⟨by simp, by simp, fun _ => rfl, fun h => by simp at h⟩, by simp⟩
    · simp [Value.cells] at hc
      subst hc
      have hlen : len ≤ 17592186044416 := by
        have := hz ((len + (mm - len)) * 56) (by
          have hd : d = .agg (xs.map (·.1)) := by have := congrArg Prod.fst hx; simpa using this
          rw [hd]
          obtain ⟨x0, x1, rfl⟩ := len2 hxl2
          · clear hf hi
            simp only [List.getElem_cons_zero] at hx0
            simp only [List.map_cons, List.map_nil, DataW.weights, hst, DataW.weightsEach, List.mem_append, t0, t1]
            left
            rw [hx0]
            simp [DataW.weights, K.sts, K.bSt])
        have h2 := reachBytes_lt
        omega
      have hlm : len ≤ mm := by rw [hmm]; split <;> omega
      rw [K.cSt] at hel
      have hst : ∀ i, i < len → ∃ s : St, (∀ j, j < 7 → w.cell? ((a.add (i * 7)).add j) = s.cells[j]?) ∧ WSt s := by
        intro i hi
        obtain ⟨cs', hcs, ht⟩ := hel i (by omega)
        obtain ⟨_, _, hat⟩ := World.cells?_some hcs
        obtain ⟨s, rfl, hw⟩ := open_state K ht
        exact ⟨s, hat, hw⟩
      let g : Nat → St := fun i => if h : i < len then Classical.choose (hst i h) else default
      have hg : ∀ i, i < len → ∀ j, j < 7 → w.cell? ((a.add (i * 7)).add j) = (g i).cells[j]? := fun i hi => by
        simp only [g, dif_pos hi]; exact (Classical.choose_spec (hst i hi)).1
      have hgw : ∀ i, i < len → WSt (g i) := fun i hi => by
        simp only [g, dif_pos hi]; exact (Classical.choose_spec (hst i hi)).2
      refine ⟨(List.range len).map g, sa, some a, cap, by simp [nfaV], ⟨by simpa using hlc, by simpa using hlen, fun e => by simp at e, fun hne => ?_⟩, fun s hs => by obtain ⟨i, hi, rfl⟩ := List.mem_map.1 hs; exact hgw i (List.mem_range.1 hi)⟩
      simp only [List.length_map, List.length_range] at hne
      obtain ⟨b, o, spot⟩ := a
      have hc0 := hg 0 hne 0 (by omega)
      have hspot : spot = none := by
        have := World.cell?_spot (v := .int .i64 (g 0).k) (by simpa [St.cells] using hc0)
        simpa [Addr.add] using this
      subst hspot
      refine ⟨b, o, rfl, ?_, fun i hi => .of fun j hj => ?_⟩
      · have : w.cell? ⟨b, o, none⟩ = some (.int .i64 (g 0).k) := by simpa [addr_add', St.cells] using hc0
        exact World.block_lt_of_cell? _ _ this
      · have := hg i (by simpa using hi) j hj
        simpa [addr_add'] using this
theorem open_nfa (K : Types P tSt tSts tNfa tSet tI tU) {b0 : Nat} {v : Value} {d : DataW H} {p : List MemPlace} (hv : Value.okWide P w .any b0 tNfa v) (h : DataW.Trod enc P w base spare held tNfa v d p) (hz : ∀ n ∈ d.weights P tNfa, n ≤ reachBytes) :
    ∃ (l : List St) (sa : Int) (A : Option Addr) (c : Nat), v = nfaV l sa A c ∧ StsAt w (fun b => b < w.heap.size) l A c := by
  obtain ⟨l, sa, A, c, h1, h2, _⟩ := open_nfaW K hv h hz
  exact ⟨l, sa, A, c, h1, h2⟩
end
theorem types_ok : Types Try.prog 47 33 35 24 3 22 :=
  ⟨Try.underlying24, Try.underlying22, Try.underlying3, Try.underlying33, ⟨_, _, _, _, Try.underlying47, ⟨rfl, rfl⟩, ⟨rfl, rfl⟩, ⟨rfl, rfl⟩, rfl, rfl⟩, ⟨_, _, Try.underlying35, ⟨rfl, rfl⟩, rfl, rfl⟩, Try.cellsSet, Try.cellsU, Try.cellsInt, Try.cellsSts, Try.cellsState, Try.cellsNfa, Try.bytesState⟩
end Go.Proofs.Ytdpmbanfaigmcaa

/- MatchJoins holds: whatever comes in, the call of the law returns true, and what came in reads as it read. -/
set_option linter.unusedVariables false
set_option linter.unusedSimpArgs false
namespace Go.Proofs.Ytdpmbanfaigmcaa
open Go.ChangeShapes Go.WideShapes Go.ChangeAt Go.RowKit
open Go.ChangeMaps (open_string shut_string)

theorem own : ownKnob Try.prog.godebug = none := by kernel_rfl
theorem laidOut : laidOutB Try.prog = true := by kernel_rfl
theorem str_bs (s : ByteArray) : ∃ r : Bs, s = bs r := ⟨s.data.toList, by simp [bs]⟩

set_option maxRecDepth 100000 in
theorem matchJoins_lifted (os : Os) (started : os.Started) (H : Type) (enc : TypeId × Value → H) :
    ReturnsInHanded {} Try.checked os 11 .any (Rows.matchJoinsSpec.pre6 enc Try.prog Try.f11 Rows.matchJoinsRow.domain false) (Rows.matchJoinsSpec.post enc Try.prog Try.f11 false true false false) := by
  refine returnsInHanded_of_change_shaped (C := Try.checked) own started (by kernel_rfl) Try.func11
    (ChangeSpec.witness6 (enc := enc) (C := Try.checked) false ⟨#[], #[.string ⟨#[]⟩, .string ⟨#[]⟩, .string ⟨#[]⟩], []⟩ 8 (by kernel_rfl) (by kernel_rfl) (by kernel_rfl) (by kernel_rfl)) ?_
  intro W base args ds gs before hval0 hW hcnd hwz hsh _
  have hM : MaxOk W := Try.laysM219.s1_3 W hsh
  have hval : ∀ (j : Nat) t v, Try.f11.params[j]? = some t → args[j]? = some v → Value.okWide Try.prog W .any base t v := hval0
  have hW' := hW
  obtain ⟨p, q, hA0, hV, rfl, hfz, hnd⟩ := hW
  have hA : DataW.TrodAll enc Try.prog W 0 (fun _ => true) true Try.f11.params.toList args.toList ds p := hA0
  have hwz' : (DataW.weightsEach Try.prog (Try.f11.params.toList ++ Rows.matchJoinsSpec.plain.varTypes Try.prog) (ds ++ gs)).all (· ≤ reachBytes) = true := hwz
  rw [Try.params11] at hA hval hwz'
  obtain ⟨v0, vs0, d0, ds0, p0, q0, hargs, rfl, rfl, h0, r0⟩ := trodAll_cons hA
  obtain ⟨v1, vs1, d1, ds1, p1, q1, hargs1, rfl, rfl, h1, r1⟩ := trodAll_cons r0
  obtain ⟨v2, vs2, d2, ds2, p2, q2, hargs2, rfl, rfl, h2, r2⟩ := trodAll_cons r1
  obtain ⟨rfl, rfl, rfl⟩ := trodAll_nil r2
  subst hargs1
  subst hargs2
  obtain rfl : args = #[v0, v1, v2] := by cases args; simp_all
  obtain ⟨rfl, rfl⟩ := trodVars_none hV
  have k0 := h0
  have lt0 : ∀ x ∈ p0, x.block < W.heap.size := by obtain ⟨m, hm⟩ := k0; exact DataW.trod_lt m _ _ _ hm
  obtain ⟨s0, hv0, _, _, hl0⟩ := open_string Try.underlying9 (hval 0 9 v0 rfl rfl) h0
  obtain ⟨b0, rfl⟩ := str_bs s0
  have hb0 : b0.length ≤ maxLen := by simpa [bs, ByteArray.size] using hl0
  have k1 := h1
  have lt1 : ∀ x ∈ p1, x.block < W.heap.size := by obtain ⟨m, hm⟩ := k1; exact DataW.trod_lt m _ _ _ hm
  obtain ⟨s1, hv1, _, _, hl1⟩ := open_string Try.underlying9 (hval 1 9 v1 rfl rfl) h1
  obtain ⟨b1, rfl⟩ := str_bs s1
  have hb1 : b1.length ≤ maxLen := by simpa [bs, ByteArray.size] using hl1
  have k2 := h2
  have lt2 : ∀ x ∈ p2, x.block < W.heap.size := by obtain ⟨m, hm⟩ := k2; exact DataW.trod_lt m _ _ _ hm
  obtain ⟨s2, hv2, _, _, hl2⟩ := open_string Try.underlying9 (hval 2 9 v2 rfl rfl) h2
  obtain ⟨b2, rfl⟩ := str_bs s2
  have hb2 : b2.length ≤ maxLen := by simpa [bs, ByteArray.size] using hl2
  clear hA0 hval0 hwz hwz'
  have hcall := mjoins_any W hM b0 hb0 b1 hb1 b2 hb2
  rw [← hv0, ← hv1, ← hv2] at hcall
  refine hcall.mono fun e W' ⟨he, bel⟩ => ?_
  subst he
  exact ⟨_, rfl, _, _, _, [], _, [], hW', trodAll_mk1 (shut_bool Try.underlying4 _), (trodAll_cons_mk (Below.trod laidOut (by kernel_rfl) (of_decide_eq_true (by kernel_rfl)) k0 bel lt0) (trodAll_cons_mk (Below.trod laidOut (by kernel_rfl) (of_decide_eq_true (by kernel_rfl)) k1 bel lt1) (trodAll_cons_mk (Below.trod laidOut (by kernel_rfl) (of_decide_eq_true (by kernel_rfl)) k2 bel lt2) trodAll_mk0))), rfl, bel.frame _, fun h => by cases h⟩

theorem matchJoins_over : Rows.matchJoinsRow.holds Try.pinned (OpenSpec.ofChange Rows.matchJoinsSpec) :=
  OpenClaim.holds_of_wide 11 Try.f11 rfl rfl rfl rfl rfl rfl rfl ⟨rfl, rfl, rfl, rfl, rfl⟩ rfl rfl rfl rfl rfl (by kernel_rfl) Try.func11 (by kernel_rfl)
    (of_decide_eq_true (by kernel_rfl)) (by unfold Func.isWrapper; first | (rw [if_pos (by decide +kernel)]; kernel_rfl) | (rw [if_neg (by decide +kernel)]; exact ⟨rfl, rfl⟩))
    (fun os started H enc _ => matchJoins_lifted os started H enc)

/-- The statement. -/
theorem matchJoins_holds : Rows.MatchJoinsSaid := matchJoins_over
end Go.Proofs.Ytdpmbanfaigmcaa

